/- Whole numbers of any size: NewInt, Denom, Add, Cmp; the denominators of ratios. -/
import Derived.Test.YtbanemecfobonaaDoorX6a
namespace Go.Proofs.YtbanemecfobonaaDoor.B
open Go.RowKit Go.Proofs.YtbanemecfobonaaDoorW.PrintWords Go.Proofs.YtbanemecfobonaaDoorW.PrintLast Go.Proofs.YtbanemecfobonaaDoorW.PrintMore
set_option linter.unusedVariables false
set_option linter.unusedSimpArgs false

/-- The sum, the longer list first. -/
def plus2 (k : Nat) (a b : List Int) : Option (List Int) := if a.length < b.length then big_plus.f k b a else big_plus.f k a b
theorem plus2.calls (k : Nat) (A0 : Option Addr) (c0 : Nat) (l0 : List Int) (A1 : Option Addr) (c1 : Nat) (l1 : List Int) (r : List Int) (w : World) (hr0 : Kd.C (Kd.int .u32) w A0 l0.length l0) (hc0 : l0.length ≤ c0) (hr1 : Kd.C (Kd.int .u32) w A1 l1.length l1) (hc1 : l1.length ≤ c1) (h : plus2 k l0 l1 = some r) :
    Calls Tryd.prog 133 #[.slice A0 l0.length c0, .slice A1 l1.length c1] w fun e w' => ∃ v0_ : Value, e = .returned (v0_) ∧ Kd.R (Kd.int .u32) 149 w' w.heap.size (fun _ => True) v0_ r ∧ Below w.heap.size w w' := by
  unfold plus2 at h
  split at h
  · rename_i hlt
    exact big_plus.calls1 k A1 c1 l1 A0 c0 l0 r w hr1 hc1 hr0 hc0 (decide_eq_true (by omega)) (decide_eq_true hlt) h
  · rename_i hlt
    exact big_plus.calls0 k A0 c0 l0 A1 c1 l1 r w hr0 hc0 hr1 hc1 (decide_eq_false (by omega)) (decide_eq_false hlt) h

set_option maxHeartbeats 800000 in
set_option maxRecDepth 100000 in
theorem big_Rat_below.calls (g : Nat) (v0 v1 : Value) (t : TypeId) (A : Option Addr) (c : Nat) (l : List Int) (w : World) (hg : w.heap[g]? = some (.cells #[v0, v1, .slice A l.length c] t (0, 0))) (hA : WA w A c l) :
    Calls Tryd.prog 109 #[.pointer (some ⟨g, 0, none⟩)] w fun e w' => ∃ A' c', WA w' A' c' (if l.length = 0 then [1] else l) ∧ e = .returned (.slice A' (if l.length = 0 then [1] else l).length c') ∧ Below w.heap.size w w' := by
  have hc2 : w.cell? ⟨g, 2, none⟩ = some (.slice A l.length c) := (blk_cell hg 2).trans rfl
  have HG := Aside0.mk hg
  have HA := Aside0.mk hA
  clear hg hA
  by_cases hn : l.length = 0
  · have c3b0 : (((l.length : Int)) == 0) = true := by simp [hn]
    simp only [if_pos hn]
    go_enter Tryd.func109, Tryd.ntmps109
    go_wp2
    go_ret
    exact ⟨_, _, WA.lit1 w 1, rfl, below_alloc (Below.refl _ _) _⟩
  · have c3b0 : (((l.length : Int)) == 0) = false := by simpa using hn
    simp only [if_neg hn]
    go_enter Tryd.func109, Tryd.ntmps109
    go_wp2
    go_ret
    exact ⟨A, c, HA.out, rfl, Below.refl _ _⟩

set_option maxHeartbeats 800000 in
set_option maxRecDepth 100000 in
theorem big_NewInt.calls (k : Nat) (n : Int) (r : List Int) (w : World) (hn : 0 ≤ n) (h : big_of.f k n = some r) (hn2 : n < 9223372036854775808) :
    Calls Tryd.prog 70 #[.int .i64 n] w fun e w' => ∃ g, e = .returned (.pointer (some ⟨g, 0, none⟩)) ∧ w.heap.size ≤ g ∧ Below w.heap.size w w' ∧ ∃ A c, WA w' A c r ∧ w'.heap[g]? = some (.cells #[.bool false, .slice A r.length c] 121 (0, 0)) := by
  have c3b0 : decide (n < 0) = false := by simpa using hn
  have H := Aside0.mk h
  clear h
  go_enter Tryd.func70, Tryd.ntmps70
  go_wp2_with (first | (go_at_call 103; refine (big_of.calls k n r _ H.out).mono ?_; rintro e w1 ⟨v, rfl, hv, hb⟩; obtain ⟨Ar, cr, rfl, hr⟩ := WA.of_R hv; clear hv; replace hr := Aside0.mk hr; replace hb := Aside0.mk hb))
  go_ret
  exact ⟨_, rfl, hb.out.size, below_alloc hb.out _, Ar, cr, hr.out.alloc _, blk_new _ _⟩

set_option maxHeartbeats 800000 in
set_option maxRecDepth 100000 in
theorem big_Int_Cmp.calls (k gx gy : Nat) (lx ly : List Int) (r : Int) (w : World) (hx : IntC w gx false lx) (hy : IntC w gy false ly) (h : big_compare.f k lx ly = some r) :
    Calls Tryd.prog 72 #[.pointer (some ⟨gx, 0, none⟩), .pointer (some ⟨gy, 0, none⟩)] w fun e w' => e = .returned (.int .i64 r) ∧ Drawn0 w w' := by
  obtain ⟨csx, tx, Ax, cx, hx1, hx2, hx3, hx4, hx5⟩ := hx
  obtain ⟨csy, ty, Ay, cy, hy1, hy2, hy3, hy4, hy5⟩ := hy
  have hcx0 : w.cell? ⟨gx, 0, none⟩ = some (.bool false) := (blk_cell hx1 0).trans hx3
  have hcx1 : w.cell? ⟨gx, 1, none⟩ = some (.slice Ax lx.length cx) := (blk_cell hx1 1).trans hx4
  have hcy0 : w.cell? ⟨gy, 0, none⟩ = some (.bool false) := (blk_cell hy1 0).trans hy3
  have hcy1 : w.cell? ⟨gy, 1, none⟩ = some (.slice Ay ly.length cy) := (blk_cell hy1 1).trans hy4
  have HX := Aside0.mk hx5
  have HY := Aside0.mk hy5
  clear hx5 hy5 hx1 hx2 hx3 hx4 hy1 hy2 hy3 hy4
  go_enter Tryd.func72, Tryd.ntmps72
  go_wp2
  go_quiet (first | (go_at_call 105; refine (big_compare.calls k Ax cx lx Ay cy ly r _ (by repeat (first | exact HX.out.1 | refine Kd.C_drewN ?_ _)) HX.out.2.1 (by repeat (first | exact HY.out.1 | refine Kd.C_drewN ?_ _)) HY.out.2.1 h).mono ?_; rintro e w1 ⟨rfl, ⟨nd, rfl⟩⟩; (first | exact ⟨rfl, _, World.drewN_drewN _ _ _⟩ | exact ⟨rfl, _, Eq.trans (World.drewN_drewN _ _ _) (congrArg (World.drewN _) (Nat.add_assoc _ _ _))⟩)))
  go_wp2
  go_quiet (fail)
  go_wp2
  first | go_ret | go_ret2
  exact ⟨rfl, by repeat (first | exact Drawn0.refl _ | apply Drawn0.step)⟩

set_option maxHeartbeats 800000 in
set_option maxRecDepth 100000 in
theorem big_Int_Add.calls (k g gx gy : Nat) (cs : Array Value) (t : TypeId) (lx ly r : List Int) (w : World) (hg : w.heap[g]? = some (.cells cs t (0, 0))) (ht : t ≠ 149) (hs : 2 ≤ cs.size) (hx : IntC w gx false lx) (hy : IntC w gy false ly) (h : plus2 k lx ly = some r) :
    Calls Tryd.prog 121 #[.pointer (some ⟨g, 0, none⟩), .pointer (some ⟨gx, 0, none⟩), .pointer (some ⟨gy, 0, none⟩)] w fun e w' => e = .returned (.pointer (some ⟨g, 0, none⟩)) ∧ PutI w w' g cs t false r := by
  obtain ⟨csx, tx, Ax, cx, hx1, hx2, hx3, hx4, hx5⟩ := hx
  obtain ⟨csy, ty, Ay, cy, hy1, hy2, hy3, hy4, hy5⟩ := hy
  have hcx0 : w.cell? ⟨gx, 0, none⟩ = some (.bool false) := (blk_cell hx1 0).trans hx3
  have hcx1 : w.cell? ⟨gx, 1, none⟩ = some (.slice Ax lx.length cx) := (blk_cell hx1 1).trans hx4
  have hcy0 : w.cell? ⟨gy, 0, none⟩ = some (.bool false) := (blk_cell hy1 0).trans hy3
  have hcy1 : w.cell? ⟨gy, 1, none⟩ = some (.slice Ay ly.length cy) := (blk_cell hy1 1).trans hy4
  have HG := Aside0.mk hg
  have HX := Aside0.mk hx5
  have HY := Aside0.mk hy5
  have HX0 := Aside0.mk (show ∀ w1, Below w.heap.size w w1 → w1.cell? ⟨gx, 0, none⟩ = some (.bool false) from fun w1 hb => (blk_cell (blk_below hx1 hb) 0).trans hx3)
  clear hg hx5 hy5 hx1 hx2 hx3 hx4 hy1 hy2 hy3 hy4
  go_enter Tryd.func121, Tryd.ntmps121
  go_wp2
  go_quiet (fail)
  go_wp2
  go_region_with (first
    | (go_at_call 133; refine (plus2.calls k Ax cx lx Ay cy ly r _ (by repeat (first | exact HX.out.1 | refine Kd.C_drewN ?_ _)) HX.out.2.1 (by repeat (first | exact HY.out.1 | refine Kd.C_drewN ?_ _)) HY.out.2.1 h).mono ?_; rintro e w1 ⟨v, rfl, hv, hb⟩; replace hb : Below w.heap.size w w1 := ⟨hb.os, hb.tape, hb.output, hb.size, hb.block⟩; obtain ⟨Ar, cr, rfl, hr⟩ := WA.of_R hv; clear hv; have qx0 := HX0.out _ hb; replace hr := Aside0.mk hr; replace hb := Aside0.mk hb)
    | (go_at_call 108; refine (big_Int_set.calls g cs t _ Ar cr r _ (blk_below HG.out hb.out) hs).mono ?_; rintro e w2 ⟨rfl, hk, hz, he⟩; replace hk := Aside0.mk hk; replace he := Aside0.mk he; clear hz))
  all_goals (clear hcx0 hcx1 hcy0 hcy1 HX0 qx0; go_wp2; go_ret; exact ⟨rfl, PutI.of_set HG.out ht hb.out hr.out hk.out he.out⟩)

end Go.Proofs.YtbanemecfobonaaDoor.B
