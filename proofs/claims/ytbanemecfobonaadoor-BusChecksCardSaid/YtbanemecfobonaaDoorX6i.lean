/- Delay at one message: delay. -/
import Derived.Test.YtbanemecfobonaaDoorX6h
import Derived.Laws.EntriesVeiled
namespace Go.Proofs.YtbanemecfobonaaDoor.B
open Go.RowKit Go.Proofs.YtbanemecfobonaaDoorW.PrintWords Go.Proofs.YtbanemecfobonaaDoorW.PrintLast Go.Proofs.YtbanemecfobonaaDoorW.PrintMore
set_option linter.unusedVariables false
set_option linter.unusedSimpArgs false

theorem ev6 : big_of.f 20 1 = some [1] := by decide +kernel
theorem ev7 : ratSet (divS 20) 20 20 [1] [1] = some ([1], [1]) := by decide +kernel
theorem ev8 : ratCmp 20 [27] [200] [1] [1] = some (-1) := by decide +kernel

/-- The message and the empty list that delay has boxed. -/
def MV (w : World) (m v : Nat) : Prop := w.cell? ⟨m, 0, none⟩ = some (.int .i64 1) ∧ w.cell? ⟨m, 1, none⟩ = some (.int .i64 8) ∧ w.cell? ⟨m, 2, none⟩ = some (.int .i64 1000) ∧ w.cell? ⟨m, 3, none⟩ = some (.int .i64 0) ∧ w.cell? ⟨v, 0, none⟩ = some (.slice none 0 0)
theorem MV.below {w w' : World} {m v : Nat} (h : MV w m v) (hb : Below w.heap.size w w') : MV w' m v := by
  obtain ⟨h1, h2, h3, h4, h5⟩ := h
  have k : ∀ {a : Addr} {x : Value}, w.cell? a = some x → w'.cell? a = some x := fun hx => (hb.cell (World.block_lt_of_cell? w _ hx)).trans hx
  exact ⟨k h1, k h2, k h3, k h4, k h5⟩
theorem Env.new {w : World} {m v : Nat} (h : MV w m v) : Env ((w.alloc (.cells #[.int .i64 0] 3)).alloc (.cells #[.func (.func 97) #[] #[]] 125)) w.heap.size (w.heap.size + 1) m v := by
  obtain ⟨h1, h2, h3, h4, h5⟩ := h.below (below_alloc (below_alloc (Below.refl w.heap.size w) (.cells #[.int .i64 0] 3)) (.cells #[.func (.func 97) #[] #[]] 125))
  have e : (w.alloc (.cells #[.int .i64 0] 3)).heap.size = w.heap.size + 1 := World.size_alloc w _
  have hi : ((w.alloc (.cells #[.int .i64 0] 3)).alloc (.cells #[.func (.func 97) #[] #[]] 125)).heap[w.heap.size + 1]? = some (.cells #[.func (.func 97) #[] #[]] 125) := e ▸ blk_new (w.alloc (.cells #[.int .i64 0] 3)) (.cells #[.func (.func 97) #[] #[]] 125)
  exact ⟨(blk_cell (blk_below (blk_new w (.cells #[.int .i64 0] 3)) (below_alloc (Below.refl _ _) (.cells #[.func (.func 97) #[] #[]] 125))) 0).trans rfl, (blk_cell hi 0).trans rfl, h1, h2, h3, h4, h5⟩

theorem keepc {w w' : World} {a : Addr} {x : Value} (hb : Below w.heap.size w w') (h : w.cell? a = some x) : w'.cell? a = some x := (hb.cell (World.block_lt_of_cell? w _ h)).trans h

set_option maxHeartbeats 2000000 in
set_option maxRecDepth 100000 in
theorem bus_delay.calls1 (w : World) : Calls Tryd.prog 67 #[.agg #[.int .i64 1, .int .i64 8, .int .i64 1000, .int .i64 0], .slice none 0 0, .slice none 0 0] w fun e w' => e = .returned (.tuple #[.int .i64 135, .bool true]) ∧ Below w.heap.size w w' := by
  have hu55 := Tryd.underlying55
  have HMV : Aside0 (MV ((w.alloc (.cells #[.int .i64 1, .int .i64 8, .int .i64 1000, .int .i64 0] 55)).alloc (.cells #[.slice none 0 0] 46)) w.heap.size (w.heap.size + 1)) := ⟨by
    have e : (w.alloc (.cells #[.int .i64 1, .int .i64 8, .int .i64 1000, .int .i64 0] 55)).heap.size = w.heap.size + 1 := World.size_alloc w _
    have hv : ((w.alloc (.cells #[.int .i64 1, .int .i64 8, .int .i64 1000, .int .i64 0] 55)).alloc (.cells #[.slice none 0 0] 46)).heap[w.heap.size + 1]? = some (.cells #[.slice none 0 0] 46) := e ▸ blk_new (w.alloc (.cells #[.int .i64 1, .int .i64 8, .int .i64 1000, .int .i64 0] 55)) (.cells #[.slice none 0 0] 46)
    have hm := blk_below (blk_new w (.cells #[.int .i64 1, .int .i64 8, .int .i64 1000, .int .i64 0] 55)) (below_alloc (Below.refl _ _) (.cells #[.slice none 0 0] 46))
    exact ⟨(blk_cell hm 0).trans rfl, (blk_cell hm 1).trans rfl, (blk_cell hm 2).trans rfl, (blk_cell hm 3).trans rfl, (blk_cell hv 0).trans rfl⟩⟩
  have HL : Aside0 ((((w.alloc (.cells #[.int .i64 1, .int .i64 8, .int .i64 1000, .int .i64 0] 55)).alloc (.cells #[.slice none 0 0] 46)).alloc (.cells #[.int .i64 1, .int .i64 8, .int .i64 1000, .int .i64 0] 55)).heap[w.heap.size + 1 + 1]? = some (.cells #[.int .i64 1, .int .i64 8, .int .i64 1000, .int .i64 0] 55)) := ⟨by
    have e : ((w.alloc (.cells #[.int .i64 1, .int .i64 8, .int .i64 1000, .int .i64 0] 55)).alloc (.cells #[.slice none 0 0] 46)).heap.size = w.heap.size + 1 + 1 := by simp only [World.size_alloc]
    exact e ▸ blk_new ((w.alloc (.cells #[.int .i64 1, .int .i64 8, .int .i64 1000, .int .i64 0] 55)).alloc (.cells #[.slice none 0 0] 46)) (.cells #[.int .i64 1, .int .i64 8, .int .i64 1000, .int .i64 0] 55)⟩
  have HB3 : Aside0 (Below ((w.alloc (.cells #[.int .i64 1, .int .i64 8, .int .i64 1000, .int .i64 0] 55)).alloc (.cells #[.slice none 0 0] 46)).heap.size ((w.alloc (.cells #[.int .i64 1, .int .i64 8, .int .i64 1000, .int .i64 0] 55)).alloc (.cells #[.slice none 0 0] 46)) (((w.alloc (.cells #[.int .i64 1, .int .i64 8, .int .i64 1000, .int .i64 0] 55)).alloc (.cells #[.slice none 0 0] 46)).alloc (.cells #[.int .i64 1, .int .i64 8, .int .i64 1000, .int .i64 0] 55))) := ⟨below_alloc (Below.refl _ _) _⟩
  have HB2 : Aside0 (Below w.heap.size w ((w.alloc (.cells #[.int .i64 1, .int .i64 8, .int .i64 1000, .int .i64 0] 55)).alloc (.cells #[.slice none 0 0] 46))) := ⟨below_alloc (below_alloc (Below.refl _ _) _) _⟩
  go_enter Tryd.func67, Tryd.ntmps67
  go_wp2_with (first | (go_at_call 69; refine (bus_share.calls1 (w.heap.size + 1 + 1) 1 _ HL.out).mono ?_; rintro e w1 ⟨g1, rfl, s1, b1, r1⟩; have B1 := Aside0.mk (below_step HB3.out b1); replace s1 := Aside0.mk s1; replace r1 := Aside0.mk r1; replace b1 := Aside0.mk b1) | (go_at_call 70; (with_reducible refine (big_NewInt.calls2 20 1 [1] w1 (w1.alloc (.cells #[.bool false, .slice none 0 0, .slice none 0 0] 123)) (by decide) ev6 (by decide) (below_alloc (Below.refl _ _) _)).mono ?_); rintro e w2 ⟨g2, rfl, s2, b2, B2, f2⟩; replace b2 := Aside0.mk b2; replace B2 := Aside0.mk B2; replace f2 := Aside0.mk f2; clear s2) | (go_at_call 70; (with_reducible refine (big_NewInt.calls2 20 1 [1] w1 w2 (by decide) ev6 (by decide) B2.out).mono ?_); rintro e w3 ⟨g3, rfl, s3, b3, B3, f3⟩; replace b3 := Aside0.mk b3; replace B3 := Aside0.mk B3; replace f3 := Aside0.mk f3; clear s3) | (go_at_call 96; refine (big_Rat_SetFrac.calls (divS 20) (divS_ok 20) 20 20 w1.heap.size g2 g3 (.bool false) (.slice none 0 0) (.slice none 0 0) [1] [1] [1] [1] _ (((Z3.new w1).below b2.out).below b3.out) (f2.out.below b3.out).int f3.out.int ev7).mono ?_; rintro e w4 ⟨rfl, o4, r4⟩; have B4 : Aside0 (Below w1.heap.size w1 w4) := ⟨o4.below B3.out (Nat.le_refl _)⟩; replace r4 := Aside0.mk r4; clear o4) | (go_at_call 95; refine (big_Rat_Cmp.calls 20 g1 w1.heap.size [27] [200] [1] [1] (-1) _ (r1.out.below B4.out) r4.out ev8).mono ?_; rintro e w5 ⟨rfl, b5⟩; have B5 := Aside0.mk (below_step B4.out b5); clear b5))
  clear b1 b2 B2 f2 b3 B3 f3 r4 B4 r1 s1 HL
  have HM5 : Aside0 (MV w5 w.heap.size (w.heap.size + 1)) := ⟨(HMV.out.below B1.out).below B5.out⟩
  have BW5 : Aside0 (Below w.heap.size w w5) := ⟨below_step (below_step HB2.out B1.out) B5.out⟩
  clear HMV HB3 HB2 B1 B5
  refine wp_loop_rounds 1 ?_
  rw [rounds_succ]
  have HE : Aside0 (Env ((w5.alloc (.cells #[.int .i64 0] 3)).alloc (.cells #[.func (.func 97) #[] #[]] 125)) w5.heap.size (w5.heap.size + 1) w.heap.size (w.heap.size + 1)) := ⟨Env.new HM5.out⟩
  have HBE : Aside0 (Below w.heap.size w ((w5.alloc (.cells #[.int .i64 0] 3)).alloc (.cells #[.func (.func 97) #[] #[]] 125))) := ⟨below_alloc (below_alloc BW5.out _) _⟩
  clear HM5 BW5
  go_wp2_with (first | (go_at_call 98; refine (fixed_1 w5.heap.size (w5.heap.size + 1) w.heap.size (w.heap.size + 1) _ HE.out).mono ?_; rintro e w6 ⟨rfl, b6⟩; have HE6 := Aside0.mk (HE.out.below b6); have B6 := Aside0.mk (below_step HBE.out b6); clear b6 HE HBE; obtain ⟨k0, ki, k1, k2, k3, k4, k5⟩ := HE6.out) | (go_at_call 97; refine (f97_135 _).mono ?_; rintro e w7 ⟨rfl, b7⟩; have HE7 := Aside0.mk (HE6.out.below b7); have B7 := Aside0.mk (below_step B6.out b7); clear b7 HE6 B6 k0 ki k1 k2 k3 k4 k5))
  refine wp_loop_rounds 2 ?_
  rw [rounds_succ]
  have HE8 : Aside0 (Env (w7.alloc (.cells #[.int .i64 0] 3)) w5.heap.size (w5.heap.size + 1) w.heap.size (w.heap.size + 1)) := ⟨HE7.out.below (below_alloc (Below.refl _ _) _)⟩
  have HQ8 : Aside0 ((w7.alloc (.cells #[.int .i64 0] 3)).cell? ⟨w7.heap.size, 0, none⟩ = some (.int .i64 0)) := ⟨(blk_cell (blk_new w7 (.cells #[.int .i64 0] 3)) 0).trans rfl⟩
  have B8 : Aside0 (Below w.heap.size w (w7.alloc (.cells #[.int .i64 0] 3))) := ⟨below_alloc B7.out _⟩
  clear HE7 B7
  go_wp2_with (first | (go_at_call 98; refine (fixed_0 w5.heap.size w7.heap.size w.heap.size (w.heap.size + 1) (w5.heap.size + 1) _ HE8.out HQ8.out).mono ?_; rintro e w9 ⟨rfl, b9⟩; have HE9 := Aside0.mk (HE8.out.below b9); have HQ9 : Aside0 (w9.cell? ⟨w7.heap.size, 0, none⟩ = some (.int .i64 0)) := ⟨keepc b9 HQ8.out⟩; have B9 := Aside0.mk (below_step B8.out b9); clear b9 HE8 HQ8 B8))
  have q0 := HQ9.out
  obtain ⟨k0, ki, k1, k2, k3, k4, k5⟩ := HE9.out
  have HS : Aside0 (∀ W1, Below w9.heap.size w9 W1 → (fun w1 => w1.cell? ⟨w7.heap.size, 0, none⟩ = some (.int .i64 0) ∧ w1.cell? ⟨w.heap.size, 0, none⟩ = some (.int .i64 1) ∧ w1.cell? ⟨w.heap.size, 1, none⟩ = some (.int .i64 8) ∧ w1.cell? ⟨w.heap.size, 2, none⟩ = some (.int .i64 1000) ∧ w1.cell? ⟨w.heap.size, 3, none⟩ = some (.int .i64 0)) W1) := ⟨fun W1 hb => by
    obtain ⟨_, _, h1, h2, h3, h4, _⟩ := HE9.out.below hb
    exact ⟨(hb.cell (World.block_lt_of_cell? _ _ HQ9.out)).trans HQ9.out, h1, h2, h3, h4⟩⟩
  go_region_held3 (fun w1 => w1.cell? ⟨w7.heap.size, 0, none⟩ = some (.int .i64 0) ∧ w1.cell? ⟨w.heap.size, 0, none⟩ = some (.int .i64 1) ∧ w1.cell? ⟨w.heap.size, 1, none⟩ = some (.int .i64 8) ∧ w1.cell? ⟨w.heap.size, 2, none⟩ = some (.int .i64 1000) ∧ w1.cell? ⟨w.heap.size, 3, none⟩ = some (.int .i64 0)) (first | exact ⟨q0, k1, k2, k3, k4⟩ | exact HS.out _ b10.out | exact HS.out _ (below_drew1 b10.out) | go_keep)
    (first
    | (go_at_call 87; refine (bus_bits.calls 1 8 1000 0 135 _ ev5).mono ?_; rintro e w10 ⟨rfl, b10⟩; replace b10 : Aside0 (Below w9.heap.size w9 w10) := ⟨below_step (by repeat (first | exact Below.refl _ _ | apply pw_below_drewN | apply below_drew1)) b10⟩))
  all_goals (rename_i hHeld; clear hHeld HS q0 k0 ki k1 k2 k3 k4 k5; go_wp2; rw [rounds_succ]; go_wp2; (first | go_ret2 | go_ret); exact ⟨rfl, by repeat (first | exact below_step B9.out b10.out | apply pw_below_drewN | apply below_drew1)⟩)
end Go.Proofs.YtbanemecfobonaaDoor.B
