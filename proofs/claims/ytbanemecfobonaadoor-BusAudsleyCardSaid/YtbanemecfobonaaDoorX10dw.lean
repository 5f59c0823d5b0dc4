/- Written by a program (lite.py) from my texts. -/
import Derived.Test.YtbanemecfobonaaDoorX10cw
namespace Go.Proofs.YtbanemecfobonaaDoor.B
open Go.RowKit Go.Proofs.YtbanemecfobonaaDoorW.PrintWords Go.Proofs.YtbanemecfobonaaDoorW.PrintLast Go.Proofs.YtbanemecfobonaaDoorW.PrintMore
set_option linter.unusedVariables false
set_option linter.unusedSimpArgs false
theorem size_alloc1 (w : World) (o : Obj) : (w.alloc o).heap.size = w.heap.size + 1 := Array.size_push _
theorem limTo_any : ∀ (lims : List Int) (n : Nat), n ≤ lims.length → limTo lims n = !((lims.take n).any badL)
  | lims, 0, _ => by simp [limTo]
  | lims, n + 1, h => by
    have ih := limTo_any lims n z3
    have e : lims.take (n + 1) = lims.take n ++ [lims[n]] := List.take_succ_eq_append_getElem z3
    rw [limTo, ih, e, rd_at lims n z3, List.any_append, List.any_cons, List.any_nil, Bool.or_false, Bool.not_or]
    congr 1
    unfold badL
    rw [Bool.eq_iff_iff]
    simp only [Bool.and_eq_true, decide_eq_true_eq, Bool.not_eq_true', Bool.or_eq_false_iff, decide_eq_false_iff_not]
    omega
theorem limTo_all (lims : List Int) : limTo lims lims.length = !(lims.any badL) := by rw [limTo_any lims _ (Nat.le_refl _), List.take_length]
set_option maxHeartbeats 2000000 in
set_option maxRecDepth 100000 in
theorem order_bad (l : List S55) (lims : List Int) (A0 A1 : Option Addr) (c0 c1 : Nat) (w : World) (hr0 : Kd.C k55 w A0 l.length l) (hc0 : l.length ≤ c0) (hr1 : Kd.C (Kd.int .i64) w A1 lims.length lims) (hc1 : lims.length ≤ c1)
    (h : sentB l = false ∨ lims.length ≠ l.length ∨ limTo lims lims.length = false) :
    Calls Tryd.prog 37 #[.slice A0 l.length c0, .slice A1 lims.length c1] w fun e w' => e = .returned (.tuple #[.slice none 0 0, .int .i64 2]) ∧ Below w.heap.size w w' := by
  have HC0 := aM hr0; have HC1 := aM hr1; have HL0 := aM hc0; have HL1 := aM hc1; have hll := hr0.2.1; have hlm := hr1.2.1; (have HS : Aside0 (∀ W, Below w.heap.size w W → Calls Tryd.prog 64 #[.slice A0 l.length c0] W fun e w' => e = .returned (.bool (sentB l)) ∧ Below W.heap.size W w') := ⟨fun W hb => bus_sent.calls0 A0 c0 l W (Kd.C_below HC0.out hb) HL0.out⟩); (have HA : Aside0 (∀ W, Below w.heap.size w W → Calls Tryd.prog 80 #[.slice A1 lims.length c1, .func (.func 81) #[] #[]] W fun e w' => e = .returned (.bool (lims.any badL)) ∧ Drawn0 W w') := ⟨fun W hb => ContainsFunc_int.calls badL 81 (enter_of Tryd.func81 z9 rfl) (fun x w => f81_any x w) A1 c1 lims W (Kd.C_below HC1.out hb) HL1.out⟩); (have hany := limTo_all lims); have HH := aM h; clear h hr0 hr1 hc0 hc1; (generalize lims.any badL = ab at hany HA); (generalize limTo lims lims.length = lt at hany HH); subst hany; (generalize sentB l = sb at HS HH); cases sb
  · clear HH; (go_enter Tryd.func37, Tryd.ntmps37); (go_wp2_with (first | (go_at_call 64; refine (HS.out _ z5).mono ?_; rintro e w5 ⟨rfl, b5⟩; replace b5 := aM b5))); go_ret2; (exact ⟨rfl, below_step z5 b5.out⟩)
  (skip); by_cases hl : lims.length = l.length; rotate_left
  · (have t1 : ((lims.length : Int) != (l.length : Int)) = true := by rw [bne_iff_ne]; omega); clear HH hl; (go_enter Tryd.func37, Tryd.ntmps37); (go_upto_region 1 with (fail)); (obtain ⟨W0, hW0⟩ : ∃ W0, W0 = ((w.alloc (.cells #[.slice A0 l.length c0] 46)).alloc (.cells #[.slice A1 lims.length c1] 22)) := ⟨_, rfl⟩); rw [← hW0]; (have HB0 : Aside0 (Below w.heap.size w W0) := ⟨by rw [hW0]; exact below_alloc (below_alloc (Below.refl _ _) _) _⟩); (have hc2 : W0.cell? ⟨w.heap.size, 0, none⟩ = some (.slice A0 l.length c0) := by rw [hW0]; exact (blk_cell (blk_alloc (blk_new w _) _) 0).trans rfl); (have hc3 : W0.cell? ⟨w.heap.size + 1, 0, none⟩ = some (.slice A1 lims.length c1) := by rw [hW0, ← size_alloc1 w (.cells #[.slice A0 l.length c0] 46)]; exact (blk_cell (blk_new _ _) 0).trans rfl); have HC2 := aM hc2; have HC3 := aM hc3; clear hW0 hc3; (generalize w.heap.size + 1 = g3 at HC3 ⊢); (go_wp2_with (first | (go_at_call 64; refine (HS.out _ (by repeat (first | exact HB0.out | apply below_alloc | apply pw_below_drewN | apply below_drew1))).mono ?_; rintro e w5 ⟨rfl, b5⟩; have hc2 := keepc b5 HC2.out; have hc3 := keepc b5 HC3.out; replace b5 := aM (below_step HB0.out b5)))); go_ret2; (exact ⟨rfl, by repeat (first | exact b5.out | apply below_alloc | apply pw_below_drewN | apply below_drew1)⟩)
  have e : ab = true := by
    rcases HH.out with h | h | h
    · cases h
    · exact absurd hl h
    · simpa using h
  subst e; (have t1 : ((lims.length : Int) != (l.length : Int)) = false := by rw [hl]; simp); clear HH hl; (go_enter Tryd.func37, Tryd.ntmps37); (go_upto_region 1 with (fail)); (obtain ⟨W0, hW0⟩ : ∃ W0, W0 = ((w.alloc (.cells #[.slice A0 l.length c0] 46)).alloc (.cells #[.slice A1 lims.length c1] 22)) := ⟨_, rfl⟩); rw [← hW0]; (have HB0 : Aside0 (Below w.heap.size w W0) := ⟨by rw [hW0]; exact below_alloc (below_alloc (Below.refl _ _) _) _⟩); (have hc2 : W0.cell? ⟨w.heap.size, 0, none⟩ = some (.slice A0 l.length c0) := by rw [hW0]; exact (blk_cell (blk_alloc (blk_new w _) _) 0).trans rfl); (have hc3 : W0.cell? ⟨w.heap.size + 1, 0, none⟩ = some (.slice A1 lims.length c1) := by rw [hW0, ← size_alloc1 w (.cells #[.slice A0 l.length c0] 46)]; exact (blk_cell (blk_new _ _) 0).trans rfl); have HC2 := aM hc2; have HC3 := aM hc3; clear hW0 hc3; (generalize w.heap.size + 1 = g3 at HC3 ⊢); (go_wp2_with (first | (go_at_call 64; refine (HS.out _ (by repeat (first | exact HB0.out | apply below_alloc | apply pw_below_drewN | apply below_drew1))).mono ?_; rintro e w5 ⟨rfl, b5⟩; have hc2 := keepc b5 HC2.out; have hc3 := keepc b5 HC3.out; replace b5 := aM (below_step HB0.out b5)) | (go_at_call 80; refine (HA.out _ (by repeat (first | exact b5.out | apply below_alloc | apply pw_below_drewN | apply below_drew1))).mono ?_; rintro e w6 ⟨rfl, ⟨nd, rfl⟩⟩))); go_ret2; (exact ⟨rfl, by repeat (first | exact b5.out | apply below_alloc | apply pw_below_drewN | apply below_drew1)⟩)
end Go.Proofs.YtbanemecfobonaaDoor.B
