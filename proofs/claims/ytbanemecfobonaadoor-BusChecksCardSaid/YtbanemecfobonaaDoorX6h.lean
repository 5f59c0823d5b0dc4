/- Delay at one message: the closures, fixed, delay. -/
import Derived.Test.YtbanemecfobonaaDoorX6g
import Derived.Test.YtbanemecfobonaaDoorX6e
namespace Go.Proofs.YtbanemecfobonaaDoor.B
open Go.RowKit Go.Proofs.YtbanemecfobonaaDoorW.PrintWords Go.Proofs.YtbanemecfobonaaDoorW.PrintLast Go.Proofs.YtbanemecfobonaaDoorW.PrintMore
set_option linter.unusedVariables false
set_option linter.unusedSimpArgs false

set_option maxHeartbeats 400000 in
set_option maxRecDepth 100000 in
theorem f97_1 (w : World) : Calls Tryd.prog 97 #[.agg #[.int .i64 1, .int .i64 8, .int .i64 1000, .int .i64 0], .int .i64 1] w fun e w' => e = .returned (.int .i64 1) ∧ Below w.heap.size w w' := by
  have hu55 := Tryd.underlying55
  go_enter Tryd.func97, Tryd.ntmps97
  go_wp2
  go_ret
  exact ⟨rfl, below_alloc (Below.refl _ _) _⟩

set_option maxHeartbeats 400000 in
set_option maxRecDepth 100000 in
theorem f97_135 (w : World) : Calls Tryd.prog 97 #[.agg #[.int .i64 1, .int .i64 8, .int .i64 1000, .int .i64 0], .int .i64 135] w fun e w' => e = .returned (.int .i64 1) ∧ Below w.heap.size w w' := by
  have hu55 := Tryd.underlying55
  go_enter Tryd.func97, Tryd.ntmps97
  go_wp2
  go_ret
  exact ⟨rfl, below_alloc (Below.refl _ _) _⟩

/-- What the closures of delay see: nothing blocks, one message, nothing wins. -/
def Env (w : World) (b i m v : Nat) : Prop :=
  w.cell? ⟨b, 0, none⟩ = some (.int .i64 0) ∧ w.cell? ⟨i, 0, none⟩ = some (.func (.func 97) #[] #[]) ∧ w.cell? ⟨m, 0, none⟩ = some (.int .i64 1) ∧ w.cell? ⟨m, 1, none⟩ = some (.int .i64 8) ∧ w.cell? ⟨m, 2, none⟩ = some (.int .i64 1000) ∧ w.cell? ⟨m, 3, none⟩ = some (.int .i64 0) ∧ w.cell? ⟨v, 0, none⟩ = some (.slice none 0 0)
theorem Env.below {w w' : World} {b i m v : Nat} (h : Env w b i m v) (hb : Below w.heap.size w w') : Env w' b i m v := by
  obtain ⟨h0, h1, h2, h3, h4, h5, h6⟩ := h
  have k : ∀ {a : Addr} {x : Value}, w.cell? a = some x → w'.cell? a = some x := fun hx => (hb.cell (World.block_lt_of_cell? w _ hx)).trans hx
  exact ⟨k h0, k h1, k h2, k h3, k h4, k h5, k h6⟩

set_option maxHeartbeats 800000 in
set_option maxRecDepth 100000 in
theorem f99_1 (b i m v : Nat) (w : World) (h : Env w b i m v) : Calls Tryd.prog 99 #[.int .i64 1, .pointer (some ⟨b, 0, none⟩), .pointer (some ⟨i, 0, none⟩), .pointer (some ⟨m, 0, none⟩), .pointer (some ⟨v, 0, none⟩)] w fun e w' => e = .returned (.int .i64 135) ∧ Below w.heap.size w w' := by
  have hu55 := Tryd.underlying55
  have HE := Aside0.mk h
  obtain ⟨h0, hi, h1, h2, h3, h4, h5⟩ := h
  go_enter Tryd.func99, Tryd.ntmps99
  go_wp2
  go_region_held3 (fun w1 => w1.cell? ⟨b, 0, none⟩ = some (.int .i64 0) ∧ w1.cell? ⟨i, 0, none⟩ = some (.func (.func 97) #[] #[]) ∧ w1.cell? ⟨m, 0, none⟩ = some (.int .i64 1) ∧ w1.cell? ⟨m, 1, none⟩ = some (.int .i64 8) ∧ w1.cell? ⟨m, 2, none⟩ = some (.int .i64 1000) ∧ w1.cell? ⟨m, 3, none⟩ = some (.int .i64 0) ∧ w1.cell? ⟨v, 0, none⟩ = some (.slice none 0 0)) (first | exact ⟨h0, hi, h1, h2, h3, h4, h5⟩ | exact HE.out.below (by repeat (first | exact Below.refl _ _ | exact B9.out | exact B8.out | exact B7.out | exact B6.out | exact B5.out | exact B4.out | exact B3.out | exact B2.out | exact B1.out | apply below_alloc | apply pw_below_drewN | apply below_drew1)) | fail)
    (first
    | (go_at_call 97; refine (f97_1 _).mono ?_; rintro e w1 ⟨rfl, b1⟩; have B1 : Aside0 (Below w.heap.size w w1) := ⟨below_step (by repeat (first | exact Below.refl _ _ | exact B9.out | exact B8.out | exact B7.out | exact B6.out | exact B5.out | exact B4.out | exact B3.out | exact B2.out | exact B1.out | apply below_alloc | apply pw_below_drewN | apply below_drew1)) b1⟩; clear b1)
    | (go_at_call 87; refine (bus_bits.calls 1 8 1000 0 135 _ ev5).mono ?_; rintro e w2 ⟨rfl, b2⟩; have B2 : Aside0 (Below w.heap.size w w2) := ⟨below_step (by repeat (first | exact Below.refl _ _ | exact B9.out | exact B8.out | exact B7.out | exact B6.out | exact B5.out | exact B4.out | exact B3.out | exact B2.out | exact B1.out | apply below_alloc | apply pw_below_drewN | apply below_drew1)) b2⟩; clear b2))
  all_goals (rename_i hHeld; obtain ⟨k0, ki, k1, k2, k3, k4, k5⟩ := hHeld; go_wp2; refine wp_loop_rounds 1 ?_; rw [rounds_succ]; go_wp2; go_ret; exact ⟨rfl, by repeat (first | exact Below.refl _ _ | exact B9.out | exact B8.out | exact B7.out | exact B6.out | exact B5.out | exact B4.out | exact B3.out | exact B2.out | exact B1.out | apply below_alloc | apply pw_below_drewN | apply below_drew1)⟩)

set_option maxHeartbeats 800000 in
set_option maxRecDepth 100000 in
theorem f99_135 (b i m v : Nat) (w : World) (h : Env w b i m v) : Calls Tryd.prog 99 #[.int .i64 135, .pointer (some ⟨b, 0, none⟩), .pointer (some ⟨i, 0, none⟩), .pointer (some ⟨m, 0, none⟩), .pointer (some ⟨v, 0, none⟩)] w fun e w' => e = .returned (.int .i64 135) ∧ Below w.heap.size w w' := by
  have hu55 := Tryd.underlying55
  have HE := Aside0.mk h
  obtain ⟨h0, hi, h1, h2, h3, h4, h5⟩ := h
  go_enter Tryd.func99, Tryd.ntmps99
  go_wp2
  go_region_held3 (fun w1 => w1.cell? ⟨b, 0, none⟩ = some (.int .i64 0) ∧ w1.cell? ⟨i, 0, none⟩ = some (.func (.func 97) #[] #[]) ∧ w1.cell? ⟨m, 0, none⟩ = some (.int .i64 1) ∧ w1.cell? ⟨m, 1, none⟩ = some (.int .i64 8) ∧ w1.cell? ⟨m, 2, none⟩ = some (.int .i64 1000) ∧ w1.cell? ⟨m, 3, none⟩ = some (.int .i64 0) ∧ w1.cell? ⟨v, 0, none⟩ = some (.slice none 0 0)) (first | exact ⟨h0, hi, h1, h2, h3, h4, h5⟩ | exact HE.out.below (by repeat (first | exact Below.refl _ _ | exact B9.out | exact B8.out | exact B7.out | exact B6.out | exact B5.out | exact B4.out | exact B3.out | exact B2.out | exact B1.out | apply below_alloc | apply pw_below_drewN | apply below_drew1)) | fail)
    (first
    | (go_at_call 97; refine (f97_135 _).mono ?_; rintro e w1 ⟨rfl, b1⟩; have B1 : Aside0 (Below w.heap.size w w1) := ⟨below_step (by repeat (first | exact Below.refl _ _ | exact B9.out | exact B8.out | exact B7.out | exact B6.out | exact B5.out | exact B4.out | exact B3.out | exact B2.out | exact B1.out | apply below_alloc | apply pw_below_drewN | apply below_drew1)) b1⟩; clear b1)
    | (go_at_call 87; refine (bus_bits.calls 1 8 1000 0 135 _ ev5).mono ?_; rintro e w2 ⟨rfl, b2⟩; have B2 : Aside0 (Below w.heap.size w w2) := ⟨below_step (by repeat (first | exact Below.refl _ _ | exact B9.out | exact B8.out | exact B7.out | exact B6.out | exact B5.out | exact B4.out | exact B3.out | exact B2.out | exact B1.out | apply below_alloc | apply pw_below_drewN | apply below_drew1)) b2⟩; clear b2))
  all_goals (rename_i hHeld; obtain ⟨k0, ki, k1, k2, k3, k4, k5⟩ := hHeld; go_wp2; refine wp_loop_rounds 1 ?_; rw [rounds_succ]; go_wp2; go_ret; exact ⟨rfl, by repeat (first | exact Below.refl _ _ | exact B9.out | exact B8.out | exact B7.out | exact B6.out | exact B5.out | exact B4.out | exact B3.out | exact B2.out | exact B1.out | apply below_alloc | apply pw_below_drewN | apply below_drew1)⟩)

set_option maxHeartbeats 800000 in
set_option maxRecDepth 100000 in
theorem f100_0 (b q m v i : Nat) (w : World) (h : Env w b i m v) (hq : w.cell? ⟨q, 0, none⟩ = some (.int .i64 0)) : Calls Tryd.prog 100 #[.int .i64 0, .pointer (some ⟨b, 0, none⟩), .pointer (some ⟨q, 0, none⟩), .pointer (some ⟨m, 0, none⟩), .pointer (some ⟨v, 0, none⟩)] w fun e w' => e = .returned (.int .i64 0) ∧ Below w.heap.size w w' := by
  have hu55 := Tryd.underlying55
  have HE := Aside0.mk h
  have HQ : Aside0 (∀ w1, Below w.heap.size w w1 → w1.cell? ⟨q, 0, none⟩ = some (.int .i64 0)) := ⟨fun w1 hb => (hb.cell (World.block_lt_of_cell? w _ hq)).trans hq⟩
  obtain ⟨h0, hi, h1, h2, h3, h4, h5⟩ := h
  go_enter Tryd.func100, Tryd.ntmps100
  go_wp2
  go_region_held3 (fun w1 => w1.cell? ⟨q, 0, none⟩ = some (.int .i64 0) ∧ w1.cell? ⟨b, 0, none⟩ = some (.int .i64 0) ∧ w1.cell? ⟨i, 0, none⟩ = some (.func (.func 97) #[] #[]) ∧ w1.cell? ⟨m, 0, none⟩ = some (.int .i64 1) ∧ w1.cell? ⟨m, 1, none⟩ = some (.int .i64 8) ∧ w1.cell? ⟨m, 2, none⟩ = some (.int .i64 1000) ∧ w1.cell? ⟨m, 3, none⟩ = some (.int .i64 0) ∧ w1.cell? ⟨v, 0, none⟩ = some (.slice none 0 0)) (first | exact ⟨hq, h0, hi, h1, h2, h3, h4, h5⟩ | exact ⟨HQ.out _ (by repeat (first | exact Below.refl _ _ | exact B9.out | exact B8.out | exact B7.out | exact B6.out | exact B5.out | exact B4.out | exact B3.out | exact B2.out | exact B1.out | apply below_alloc | apply pw_below_drewN | apply below_drew1)), HE.out.below (by repeat (first | exact Below.refl _ _ | exact B9.out | exact B8.out | exact B7.out | exact B6.out | exact B5.out | exact B4.out | exact B3.out | exact B2.out | exact B1.out | apply below_alloc | apply pw_below_drewN | apply below_drew1))⟩ | fail)
    (first
    | (go_at_call 87; refine (bus_bits.calls 1 8 1000 0 135 _ ev5).mono ?_; rintro e w2 ⟨rfl, b2⟩; have B2 : Aside0 (Below w.heap.size w w2) := ⟨below_step (by repeat (first | exact Below.refl _ _ | exact B9.out | exact B8.out | exact B7.out | exact B6.out | exact B5.out | exact B4.out | exact B3.out | exact B2.out | exact B1.out | apply below_alloc | apply pw_below_drewN | apply below_drew1)) b2⟩; clear b2))
  all_goals (rename_i hHeld; obtain ⟨kq, k0, ki, k1, k2, k3, k4, k5⟩ := hHeld; go_wp2; refine wp_loop_rounds 1 ?_; rw [rounds_succ]; go_wp2; go_ret; exact ⟨rfl, by repeat (first | exact Below.refl _ _ | exact B9.out | exact B8.out | exact B7.out | exact B6.out | exact B5.out | exact B4.out | exact B3.out | exact B2.out | exact B1.out | apply below_alloc | apply pw_below_drewN | apply below_drew1)⟩)

set_option maxHeartbeats 800000 in
set_option maxRecDepth 100000 in
theorem fixed_1 (b i m v : Nat) (w : World) (h : Env w b i m v) : Calls Tryd.prog 98 #[.int .i64 1, .func (.func 99) #[] #[.pointer (some ⟨b, 0, none⟩), .pointer (some ⟨i, 0, none⟩), .pointer (some ⟨m, 0, none⟩), .pointer (some ⟨v, 0, none⟩)]] w fun e w' => e = .returned (.tuple #[.int .i64 135, .bool true]) ∧ Below w.heap.size w w' := by
  have HE := Aside0.mk h
  clear h
  go_enter Tryd.func98, Tryd.ntmps98
  go_wp2
  refine wp_loop_rounds 2 ?_
  rw [rounds_succ]
  go_wp2_with (first | (go_at_call 99; refine (f99_1 b i m v _ HE.out).mono ?_; rintro e w1 ⟨rfl, b1⟩; have B1 := Aside0.mk b1; clear b1))
  rw [rounds_succ]
  go_wp2_with (first | (go_at_call 99; refine (f99_135 b i m v _ (HE.out.below B1.out)).mono ?_; rintro e w2 ⟨rfl, b2⟩; have B2 := Aside0.mk (below_step B1.out b2); clear b2))
  first | go_ret2 | go_ret
  exact ⟨rfl, B2.out⟩

set_option maxHeartbeats 800000 in
set_option maxRecDepth 100000 in
theorem fixed_0 (b q m v i : Nat) (w : World) (h : Env w b i m v) (hq : w.cell? ⟨q, 0, none⟩ = some (.int .i64 0)) : Calls Tryd.prog 98 #[.int .i64 0, .func (.func 100) #[] #[.pointer (some ⟨b, 0, none⟩), .pointer (some ⟨q, 0, none⟩), .pointer (some ⟨m, 0, none⟩), .pointer (some ⟨v, 0, none⟩)]] w fun e w' => e = .returned (.tuple #[.int .i64 0, .bool true]) ∧ Below w.heap.size w w' := by
  have HE := Aside0.mk h
  have HQ := Aside0.mk hq
  clear h hq
  go_enter Tryd.func98, Tryd.ntmps98
  go_wp2
  refine wp_loop_rounds 2 ?_
  rw [rounds_succ]
  go_wp2_with (first | (go_at_call 100; refine (f100_0 b q m v i _ HE.out HQ.out).mono ?_; rintro e w1 ⟨rfl, b1⟩; have B1 := Aside0.mk b1; clear b1))
  first | go_ret2 | go_ret
  exact ⟨rfl, B1.out⟩
end Go.Proofs.YtbanemecfobonaaDoor.B
