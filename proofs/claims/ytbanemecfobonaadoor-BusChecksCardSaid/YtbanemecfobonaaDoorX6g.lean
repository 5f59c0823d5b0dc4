/- The share of one message. -/
import Derived.Test.YtbanemecfobonaaDoorX6f
import Derived.Test.YtbanemecfobonaaDoorBA
import Derived.LoopN
namespace Go.Proofs.YtbanemecfobonaaDoor.B
open Go.RowKit Go.Proofs.YtbanemecfobonaaDoorW.PrintWords Go.Proofs.YtbanemecfobonaaDoorW.PrintLast Go.Proofs.YtbanemecfobonaaDoorW.PrintMore
set_option linter.unusedVariables false
set_option linter.unusedSimpArgs false

theorem ev1 : ratSet (divS 20) 20 20 [135] [1000] = some ([27], [200]) := by decide +kernel
theorem ev2 : ratAdd (divS 20) 20 20 [] [] [27] [200] = some ([27], [200]) := by decide +kernel
theorem ev3 : big_of.f 20 135 = some [135] := by decide +kernel
theorem ev4 : big_of.f 20 1000 = some [1000] := by decide +kernel
theorem ev5 : bus_bits.f 1 8 1000 0 = some 135 := by decide +kernel

/-- A ratio that has just been made. -/
def Z3 (w : World) (g : Nat) : Prop := w.heap[g]? = some (.cells #[.bool false, .slice none 0 0, .slice none 0 0] 123 (0, 0))
section
variable {w w' : World} {g : Nat}
theorem Z3.below (h : Z3 w g) (hb : Below w.heap.size w w') : Z3 w' g := blk_below h hb
theorem Z3.new (w : World) : Z3 (w.alloc (.cells #[.bool false, .slice none 0 0, .slice none 0 0] 123)) w.heap.size := blk_new _ _
theorem Z3.new' (hg : g = w.heap.size) : Z3 (w.alloc (.cells #[.bool false, .slice none 0 0, .slice none 0 0] 123)) g := hg ▸ blk_new _ _
theorem Z3.alloc (h : Z3 w g) (o : Obj) : Z3 (w.alloc o) g := h.below (below_alloc (Below.refl _ _) o)
theorem Z3.drewN (h : Z3 w g) (n : Nat) : Z3 (w.drewN n) g := h.below (pw_below_drewN (Below.refl _ _) n)
theorem Z3.drew (h : Z3 w g) : Z3 w.drew g := h.below (below_drew1 (Below.refl _ _))
theorem Z3.rat (h : Z3 w g) : RatB w g [] [] := ⟨none, 0, none, 0, h, WA.nil _, WA.nil _⟩
end
/-- NewInt, told by a base world. -/
theorem big_NewInt.calls2 (k : Nat) (n : Int) (r : List Int) (w W : World) (hn : 0 ≤ n) (h : big_of.f k n = some r) (hn2 : n < 9223372036854775808) (hB : Below w.heap.size w W) :
    Calls Tryd.prog 70 #[.int .i64 n] W fun e w' => ∃ g, e = .returned (.pointer (some ⟨g, 0, none⟩)) ∧ W.heap.size ≤ g ∧ Below W.heap.size W w' ∧ Below w.heap.size w w' ∧ FI w w' g r :=
  (big_NewInt.calls k n r W hn h hn2).mono fun e w' ⟨g, he, hs, hb, A, c, ha, hh⟩ => ⟨g, he, hs, hb, below_step hB hb, Nat.le_trans hB.size hs, A, c, hh, ha⟩

set_option maxHeartbeats 2000000 in
set_option maxRecDepth 100000 in
theorem bus_share.calls1 (g c : Nat) (w : World) (hg : w.heap[g]? = some (.cells #[.int .i64 1, .int .i64 8, .int .i64 1000, .int .i64 0] 55 (0, 0))) :
    Calls Tryd.prog 69 #[.slice (some ⟨g, 0, none⟩) 1 c] w fun e w' => ∃ g', e = .returned (.pointer (some ⟨g', 0, none⟩)) ∧ w.heap.size ≤ g' ∧ Below w.heap.size w w' ∧ RatB w' g' [27] [200] := by
  have hg2 := blk_below hg (below_alloc (Below.refl _ _) (.cells #[.bool false, .slice none 0 0, .slice none 0 0] 123))
  have hc0 : (w.alloc (.cells #[.bool false, .slice none 0 0, .slice none 0 0] 123)).cell? ⟨g, 0, none⟩ = some (.int .i64 1) := (blk_cell hg2 0).trans rfl
  have hc1 : (w.alloc (.cells #[.bool false, .slice none 0 0, .slice none 0 0] 123)).cell? ⟨g, 1, none⟩ = some (.int .i64 8) := (blk_cell hg2 1).trans rfl
  have hc2 : (w.alloc (.cells #[.bool false, .slice none 0 0, .slice none 0 0] 123)).cell? ⟨g, 2, none⟩ = some (.int .i64 1000) := (blk_cell hg2 2).trans rfl
  have hc3 : (w.alloc (.cells #[.bool false, .slice none 0 0, .slice none 0 0] 123)).cell? ⟨g, 3, none⟩ = some (.int .i64 0) := (blk_cell hg2 3).trans rfl
  clear hg hg2
  have hu55 := Tryd.underlying55
  go_enter Tryd.func69, Tryd.ntmps69
  go_wp2
  refine wp_loop_rounds 2 ?_
  rw [rounds_succ]
  go_wp2
  have B0 : Below w.heap.size w ((w.alloc (.cells #[.bool false, .slice none 0 0, .slice none 0 0] 123)).alloc (.cells #[.int .i64 1, .int .i64 8, .int .i64 1000, .int .i64 0] 55)) := below_alloc (below_alloc (Below.refl _ _) _) _
  have R0 : Z3 ((w.alloc (.cells #[.bool false, .slice none 0 0, .slice none 0 0] 123)).alloc (.cells #[.int .i64 1, .int .i64 8, .int .i64 1000, .int .i64 0] 55)) w.heap.size := (Z3.new w).alloc _
  have M0 : ((w.alloc (.cells #[.bool false, .slice none 0 0, .slice none 0 0] 123)).alloc (.cells #[.int .i64 1, .int .i64 8, .int .i64 1000, .int .i64 0] 55)).heap[w.heap.size + 1]? = some (.cells #[.int .i64 1, .int .i64 8, .int .i64 1000, .int .i64 0] 55 (0, 0)) := (World.size_alloc w _) ▸ blk_new (w.alloc (.cells #[.bool false, .slice none 0 0, .slice none 0 0] 123)) (.cells #[.int .i64 1, .int .i64 8, .int .i64 1000, .int .i64 0] 55)
  clear hc0 hc1 hc2 hc3
  generalize (w.alloc (.cells #[.bool false, .slice none 0 0, .slice none 0 0] 123)).alloc (.cells #[.int .i64 1, .int .i64 8, .int .i64 1000, .int .i64 0] 55) = W at B0 R0 M0 ⊢
  have hc0 : W.cell? ⟨w.heap.size + 1, 0, none⟩ = some (.int .i64 1) := (blk_cell M0 0).trans rfl
  have hc1 : W.cell? ⟨w.heap.size + 1, 1, none⟩ = some (.int .i64 8) := (blk_cell M0 1).trans rfl
  have hc2 : W.cell? ⟨w.heap.size + 1, 2, none⟩ = some (.int .i64 1000) := (blk_cell M0 2).trans rfl
  have hc3 : W.cell? ⟨w.heap.size + 1, 3, none⟩ = some (.int .i64 0) := (blk_cell M0 3).trans rfl
  have HS0 : Aside0 (∀ W1, Below W.heap.size W W1 → (fun w1 => w1.cell? ⟨w.heap.size + 1, 0, none⟩ = some (.int .i64 1) ∧ w1.cell? ⟨w.heap.size + 1, 1, none⟩ = some (.int .i64 8) ∧ w1.cell? ⟨w.heap.size + 1, 2, none⟩ = some (.int .i64 1000) ∧ w1.cell? ⟨w.heap.size + 1, 3, none⟩ = some (.int .i64 0)) W1) := ⟨fun W1 hb => ⟨(blk_cell (blk_below M0 hb) 0).trans rfl, (blk_cell (blk_below M0 hb) 1).trans rfl, (blk_cell (blk_below M0 hb) 2).trans rfl, (blk_cell (blk_below M0 hb) 3).trans rfl⟩⟩
  have HS2 : Aside0 (∀ W1 W2, Below W.heap.size W W1 → KeepBut W1 W2 w.heap.size none → (fun w1 => w1.cell? ⟨w.heap.size + 1, 0, none⟩ = some (.int .i64 1) ∧ w1.cell? ⟨w.heap.size + 1, 1, none⟩ = some (.int .i64 8) ∧ w1.cell? ⟨w.heap.size + 1, 2, none⟩ = some (.int .i64 1000) ∧ w1.cell? ⟨w.heap.size + 1, 3, none⟩ = some (.int .i64 0)) W2) := ⟨fun W1 W2 hb hk => ⟨keep_cell hk ((blk_cell (blk_below M0 hb) 0).trans rfl) (by simp only; omega), keep_cell hk ((blk_cell (blk_below M0 hb) 1).trans rfl) (by simp only; omega), keep_cell hk ((blk_cell (blk_below M0 hb) 2).trans rfl) (by simp only; omega), keep_cell hk ((blk_cell (blk_below M0 hb) 3).trans rfl) (by simp only; omega)⟩⟩
  have HR : Aside0 (∀ W1, Below W.heap.size W W1 → Z3 W1 w.heap.size) := ⟨fun W1 hb => R0.below hb⟩
  have HB0 := Aside0.mk B0
  have HLW := Aside0.mk (blk_lt M0)
  have hu55 := Tryd.underlying55
  clear M0 R0 B0
  go_region_held3 (fun w1 => w1.cell? ⟨w.heap.size + 1, 0, none⟩ = some (.int .i64 1) ∧ w1.cell? ⟨w.heap.size + 1, 1, none⟩ = some (.int .i64 8) ∧ w1.cell? ⟨w.heap.size + 1, 2, none⟩ = some (.int .i64 1000) ∧ w1.cell? ⟨w.heap.size + 1, 3, none⟩ = some (.int .i64 0)) (first | exact ⟨hc0, hc1, hc2, hc3⟩ | exact HS2.out _ _ (by repeat (first | exact Below.refl _ _ | exact B6.out | exact B5.out | exact B4.out | exact B3.out | exact B2.out | exact B1.out | apply below_alloc | apply pw_below_drewN | apply below_drew1)) hk.out.2 | exact HS0.out _ (by repeat (first | exact Below.refl _ _ | exact B6.out | exact B5.out | exact B4.out | exact B3.out | exact B2.out | exact B1.out | apply below_alloc | apply pw_below_drewN | apply below_drew1)) | go_keep)
    (first
    | (go_at_call 87; refine (bus_bits.calls 1 8 1000 0 135 _ ev5).mono ?_; rintro e w1 ⟨rfl, b1⟩; have B1 : Aside0 (Below W.heap.size W w1) := ⟨below_step (by repeat (first | exact Below.refl _ _ | exact B6.out | exact B5.out | exact B4.out | exact B3.out | exact B2.out | exact B1.out | apply below_alloc | apply pw_below_drewN | apply below_drew1)) b1⟩; replace b1 := Aside0.mk b1)
      | (go_at_call_of 70 (Value.int .i64 135); refine (big_NewInt.calls2 20 135 [135] W _ (by decide) ev3 (by decide) ?q1).mono ?_; (case q1 => repeat (first | exact Below.refl _ _ | exact B6.out | exact B5.out | exact B4.out | exact B3.out | exact B2.out | exact B1.out | apply below_alloc | apply pw_below_drewN | apply below_drew1)); rintro e w2 ⟨g2, rfl, s2, b2, B2, f2⟩; replace b2 := Aside0.mk b2; replace B2 := Aside0.mk B2; replace f2 := Aside0.mk f2; clear s2)
      | (go_at_call_of 70 (Value.int .i64 1000); refine (big_NewInt.calls2 20 1000 [1000] W _ (by decide) ev4 (by decide) ?q1).mono ?_; (case q1 => repeat (first | exact Below.refl _ _ | exact B6.out | exact B5.out | exact B4.out | exact B3.out | exact B2.out | exact B1.out | apply below_alloc | apply pw_below_drewN | apply below_drew1)); rintro e w3 ⟨g3, rfl, s3, b3, B3, f3⟩; replace b3 := Aside0.mk b3; replace B3 := Aside0.mk B3; replace f3 := Aside0.mk f3; clear s3)
      | (go_at_call 96; refine (big_Rat_SetFrac.calls (divS 20) (divS_ok 20) 20 20 _ g2 g3 (.bool false) (.slice none 0 0) (.slice none 0 0) [135] [1000] [27] [200] _ ?q1 (FI.int (w := W) ?q2) (FI.int (w := W) ?q3) ev1).mono ?_; (case q1 => (change Z3 _ _; repeat (first | exact Z3.new _ | exact Z3.new' rfl | with_reducible refine Z3.below ?_ b1.out | with_reducible refine Z3.below ?_ b2.out | with_reducible refine Z3.below ?_ b3.out | with_reducible refine Z3.drewN ?_ _ | with_reducible refine Z3.drew ?_ | with_reducible refine Z3.alloc ?_ _))); (case q2 => repeat (first | with_reducible exact f2.out | with_reducible exact f3.out | with_reducible refine FI.below ?_ b3.out | with_reducible refine FI.drewN ?_ _ | with_reducible refine FI.drew ?_ | with_reducible refine FI.alloc ?_ _)); (case q3 => repeat (first | with_reducible exact f2.out | with_reducible exact f3.out | with_reducible refine FI.below ?_ b3.out | with_reducible refine FI.drewN ?_ _ | with_reducible refine FI.drew ?_ | with_reducible refine FI.alloc ?_ _)); rintro e w4 ⟨rfl, o4, r4⟩; have B4 : Aside0 (Below W.heap.size W w4) := ⟨o4.below (by repeat (first | exact Below.refl _ _ | exact B6.out | exact B5.out | exact B4.out | exact B3.out | exact B2.out | exact B1.out | apply below_alloc | apply pw_below_drewN | apply below_drew1)) (by (have z0_ : True := trivial; (try have y1_ := B1.out.size); (try have y2_ := B2.out.size); (try have y3_ := B3.out.size); (try have y4_ := b1.out.size); (try have y5_ := b2.out.size); (try have y6_ := b3.out.size); (try simp only [World.size_alloc, drew_size] at y1_); (try simp only [World.size_alloc, drew_size] at y2_); (try simp only [World.size_alloc, drew_size] at y3_); (try simp only [World.size_alloc, drew_size] at y4_); (try simp only [World.size_alloc, drew_size] at y5_); (try simp only [World.size_alloc, drew_size] at y6_); first | omega | (simp only [World.size_alloc, drew_size]; omega)))⟩; replace r4 := Aside0.mk r4; clear o4)
      | (go_at_call 102; refine (big_Rat_Add.calls (divS 20) (divS_ok 20) 20 20 w.heap.size w.heap.size _ (.bool false) (.slice none 0 0) (.slice none 0 0) [] [] [27] [200] [27] [200] _ (HR.out _ ?q1) (HR.out _ ?q1).rat (by first | exact r4.out | exact r4.out.below (pw_below_drewN (Below.refl _ _) _)) ev2).mono ?_; (case q1 => repeat (first | exact Below.refl _ _ | exact B6.out | exact B5.out | exact B4.out | exact B3.out | exact B2.out | exact B1.out | apply below_alloc | apply pw_below_drewN | apply below_drew1)); rintro e w5 ⟨rfl, hk, r5⟩; have B5 : Aside0 (Below w.heap.size w w5) := ⟨hk.below (below_step HB0.out (by repeat (first | exact Below.refl _ _ | exact B6.out | exact B5.out | exact B4.out | exact B3.out | exact B2.out | exact B1.out | apply below_alloc | apply pw_below_drewN | apply below_drew1))) (Nat.le_refl _)⟩; replace hk := Aside0.mk hk; replace r5 := Aside0.mk r5))
  all_goals (rename_i hHeld; clear hHeld HS0 HS2 hc0 hc1 hc2 hc3; go_wp2; rw [rounds_succ]; go_wp2; go_ret; exact ⟨_, rfl, Nat.le_refl _, B5.out, r5.out⟩)
end Go.Proofs.YtbanemecfobonaaDoor.B
