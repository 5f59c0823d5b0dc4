/- Delay, as far as alive asks: at one message. -/
import Derived.Test.YtbanemecfobonaaDoorX6i
import Derived.Test.YtbanemecfobonaaDoorX5a
namespace Go.Proofs.YtbanemecfobonaaDoor.B
open Go.RowKit Go.Proofs.YtbanemecfobonaaDoorW.PrintWords Go.Proofs.YtbanemecfobonaaDoorW.PrintLast Go.Proofs.YtbanemecfobonaaDoorW.PrintMore
set_option linter.unusedVariables false
set_option linter.unusedSimpArgs false

/-- One message, at an address. -/
def M1 (w : World) (ad : Addr) : Prop :=
  w.cell? ad = some (.int .i64 1) ∧ w.cell? ⟨ad.block, ad.off + 1, none⟩ = some (.int .i64 8) ∧ w.cell? ⟨ad.block, ad.off + 2, none⟩ = some (.int .i64 1000) ∧ w.cell? ⟨ad.block, ad.off + 3, none⟩ = some (.int .i64 0)
theorem M1.below {w w' : World} {ad : Addr} (h : M1 w ad) (hb : Below w.heap.size w w') : M1 w' ad := by
  obtain ⟨h1, h2, h3, h4⟩ := h
  exact ⟨keepc hb h1, keepc hb h2, keepc hb h3, keepc hb h4⟩
theorem M1.of_C {w : World} {A : Option Addr} (h : Kd.C k55 w A 1 [⟨1, 8, 1000, 0⟩]) : ∃ ad, A = some ad ∧ M1 w ad := by
  obtain ⟨ad, e, h1, h2, h3, h4⟩ := at_T55 h 0 (by decide) (by decide)
  exact ⟨ad, e, h1, h2, h3, h4⟩
set_option maxHeartbeats 400000 in
set_option maxRecDepth 100000 in
theorem bus_sent.calls1 (ad : Addr) (c : Nat) (w : World) (h : M1 w ad) :
    Calls Tryd.prog 64 #[.slice (some ad) 1 c] w fun e w' => e = .returned (.bool true) ∧ Below w.heap.size w w' := by
  have B1 : Aside0 (Below w.heap.size w ((w.alloc (.map #[] 0)).alloc (.cells #[.int .i64 1, .int .i64 8, .int .i64 1000, .int .i64 0] 55))) := ⟨below_alloc (below_alloc (Below.refl _ _) _) _⟩
  have HS : Aside0 (Seen ((w.alloc (.map #[] 0)).alloc (.cells #[.int .i64 1, .int .i64 8, .int .i64 1000, .int .i64 0] 55)) w.heap.size 0 []) := ⟨(Seen.made w).alloc _⟩
  have hlk := Seen.lookup_run (z := 1) (by decide) HS.out
  obtain ⟨h1, h2, h3, h4⟩ := h.below (below_alloc (Below.refl _ _) (.map #[] 0))
  have hu55 := Tryd.underlying55
  have hmk : ∀ w : World, (Instr.makeMap 87 none).run Tryd.prog w = .ok (.map (some w.heap.size)) (w.alloc (.map #[] 0)) := fun w => by kernel_rfl
  go_enter Tryd.func64, Tryd.ntmps64
  go_wp2
  refine wp_loop_rounds 2 ?_
  rw [rounds_succ]
  go_wp2_with (first | (at_mapUpdate; refine wpList_put_seen _ rfl _ _ _ rfl w.heap.size 0 [] 1 (by decide) rfl HS.out (by unfold maxLen; omega) rfl rfl ?_))
  intro w2 hs2 hg2
  have B2 : Aside0 (Below w.heap.size w w2) := ⟨B1.out.grown hg2 B1.out.size (fun k hk => by cases hk; exact Nat.le_refl _)⟩
  clear hs2 hg2 hlk h1 h2 h3 h4
  go_wp2
  rw [rounds_succ]
  go_wp2
  go_ret
  exact ⟨rfl, B2.out⟩

set_option maxHeartbeats 400000 in
set_option maxRecDepth 100000 in
theorem f66_1 (g : Nat) (w : World) (h : w.cell? ⟨g, 0, none⟩ = some (.int .i64 1)) : Calls Tryd.prog 66 #[.agg #[.int .i64 1, .int .i64 8, .int .i64 1000, .int .i64 0], .pointer (some ⟨g, 0, none⟩)] w fun e w' => e = .returned (.bool true) ∧ Below w.heap.size w w' := by
  have h1 : (w.alloc (.cells #[.int .i64 1, .int .i64 8, .int .i64 1000, .int .i64 0] 55)).cell? ⟨g, 0, none⟩ = some (.int .i64 1) := keepc (below_alloc (Below.refl _ _) _) h
  have hu55 := Tryd.underlying55
  go_enter Tryd.func66, Tryd.ntmps66
  go_wp2
  go_ret
  exact ⟨rfl, below_alloc (Below.refl _ _) _⟩

set_option maxHeartbeats 400000 in
set_option maxRecDepth 100000 in
theorem IndexFunc_msg.calls1 (ad : Addr) (c g : Nat) (w : World) (h : M1 w ad) (hg : w.cell? ⟨g, 0, none⟩ = some (.int .i64 1)) :
    Calls Tryd.prog 65 #[.slice (some ad) 1 c, .func (.func 66) #[] #[.pointer (some ⟨g, 0, none⟩)]] w fun e w' => e = .returned (.int .i64 0) ∧ Below w.heap.size w w' := by
  have HG := Aside0.mk hg
  clear hg
  obtain ⟨h1, h2, h3, h4⟩ := h
  have hu55 := Tryd.underlying55
  go_enter Tryd.func65, Tryd.ntmps65
  go_wp2
  refine wp_loop_rounds 2 ?_
  rw [rounds_succ]
  go_wp2_with (first | (go_at_call 66; refine (f66_1 g _ HG.out).mono ?_; rintro e w1 ⟨rfl, b1⟩; replace b1 := Aside0.mk b1))
  go_ret
  exact ⟨rfl, b1.out⟩

/-- Delay, where alive asks; nothing is said of it elsewhere. -/
def bus_Delay.f (l : List S55) (no : Int) : Option (Int × Int) :=
  match l with
  | [m] => if m.f0 = 1 ∧ m.f1 = 8 ∧ m.f2 = 1000 ∧ m.f3 = 0 ∧ no = 1 then some (135, 0) else none
  | _ => none

set_option maxHeartbeats 800000 in
set_option maxRecDepth 100000 in
theorem bus_Delay.calls1 (A0 : Option Addr) (c0 : Nat) (w : World) (hr : Kd.C k55 w A0 1 [⟨1, 8, 1000, 0⟩]) :
    Calls Tryd.prog 30 #[.slice A0 1 c0, .int .i64 1] w fun e w' => e = .returned (.tuple #[.int .i64 135, .int .i64 0]) ∧ Below w.heap.size w w' := by
  obtain ⟨ad, rfl, hm⟩ := M1.of_C hr
  clear hr
  have HM := Aside0.mk (hm.below (below_alloc (Below.refl _ _) (.cells #[.int .i64 1] 3)))
  have HB := Aside0.mk (below_alloc (Below.refl w.heap.size w) (.cells #[.int .i64 1] 3))
  have HN : Aside0 ((w.alloc (.cells #[.int .i64 1] 3)).cell? ⟨w.heap.size, 0, none⟩ = some (.int .i64 1)) := ⟨(blk_cell (blk_new w (.cells #[.int .i64 1] 3)) 0).trans rfl⟩
  clear hm
  have hu55 := Tryd.underlying55
  go_enter Tryd.func30, Tryd.ntmps30
  go_wp2_with (first | (go_at_call 64; refine (bus_sent.calls1 ad c0 _ HM.out).mono ?_; rintro e w1 ⟨rfl, b1⟩; replace HM := Aside0.mk (HM.out.below b1); replace HN := Aside0.mk (keepc b1 HN.out); replace HB := Aside0.mk (below_step HB.out b1); clear b1) | (go_at_call 65; refine (IndexFunc_msg.calls1 ad c0 w.heap.size _ HM.out HN.out).mono ?_; rintro e w2 ⟨rfl, b2⟩; replace HM := Aside0.mk (HM.out.below b2); replace HN := Aside0.mk (keepc b2 HN.out); replace HB := Aside0.mk (below_step HB.out b2); clear b2))
  obtain ⟨h1, h2, h3, h4⟩ := HM.out
  have hn : (w2.alloc (.cells #[.int .i64 1, .int .i64 8, .int .i64 1000, .int .i64 0] 55)).cell? ⟨w.heap.size, 0, none⟩ = some (.int .i64 1) := keepc (below_alloc (Below.refl _ _) _) HN.out
  obtain ⟨j1, j2, j3, j4⟩ := HM.out.below (below_alloc (Below.refl _ _) (.cells #[.int .i64 1, .int .i64 8, .int .i64 1000, .int .i64 0] 55))
  refine wp_loop_rounds 2 ?_
  rw [rounds_succ]
  go_wp2
  rw [rounds_succ]
  go_wp2_with (first | (go_at_call 67; refine (bus_delay.calls1 _).mono ?_; rintro e w3 ⟨rfl, b3⟩; replace b3 := Aside0.mk b3))
  (first | go_ret2 | go_ret)
  exact ⟨rfl, below_step (below_alloc HB.out _) b3.out⟩

theorem bus_Delay.calls (A0 : Option Addr) (c0 : Nat) (l0 : List S55) (a1 : Int) (r1 r2 : Int) (w : World) (hr0 : Kd.C k55 w A0 l0.length l0) (hc0 : l0.length ≤ c0) (h : bus_Delay.f l0 a1 = some (r1, r2)) :
    Calls Tryd.prog 30 #[.slice A0 l0.length c0, .int .i64 a1] w fun e w' => e = .returned (.tuple #[.int .i64 r1, .int .i64 r2]) ∧ Below w.heap.size w w' := by
  unfold bus_Delay.f at h
  split at h
  · rename_i m
    split at h
    · rename_i hm
      obtain ⟨f0, f1, f2, f3⟩ := m
      obtain ⟨e0, e1, e2, e3, rfl⟩ := hm
      cases e0; cases e1; cases e2; cases e3
      cases h
      exact bus_Delay.calls1 A0 c0 w hr0
    · cases h
  · cases h
end Go.Proofs.YtbanemecfobonaaDoor.B
