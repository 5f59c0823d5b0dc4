/- Ratios by hand, and Delay as far as alive asks. -/
import Derived.Test.YtbanemecfobonaaDoorXM3
import Derived.Deep.DeepCutAuto
import Derived.Deep.RegionHeld3
import Derived.Test.YtbanemecfobonaaDoorBA
import Derived.LoopN
import Derived.Laws.EntriesVeiled
import Derived.Test.YtbanemecfobonaaDoorXM1
/- Ratios: numbers of a call's own. -/
namespace Go.Proofs.YtbanemecfobonaaDoor.B
open Go.RowKit Go.Proofs.YtbanemecfobonaaDoorW.PrintWords Go.Proofs.YtbanemecfobonaaDoorW.PrintLast Go.Proofs.YtbanemecfobonaaDoorW.PrintMore
set_option linter.unusedVariables false
set_option linter.unusedSimpArgs false

theorem drew_size (W : World) : W.drew.heap.size = W.heap.size := rfl
/-- A whole number of its own at a block that the call has made. -/
def FI (w W : World) (g : Nat) (l : List Int) : Prop :=
  w.heap.size ≤ g ∧ ∃ A c, W.heap[g]? = some (.cells #[.bool false, .slice A l.length c] 121 (0, 0)) ∧ WA W A c l
section
variable {w W W' : World} {g g' : Nat} {l : List Int}
theorem FI.new (h : w.heap.size ≤ W.heap.size) : FI w (W.alloc (.cells #[.bool false, .slice none 0 0] 121)) W.heap.size [] := ⟨h, none, 0, blk_new _ _, WA.nil _⟩
theorem FI.new' (h : w.heap.size ≤ W.heap.size) (hg : g = W.heap.size) : FI w (W.alloc (.cells #[.bool false, .slice none 0 0] 121)) g [] := hg ▸ FI.new h
theorem FI.below (h : FI w W g l) (hb : Below W.heap.size W W') : FI w W' g l := by
  obtain ⟨h0, A, c, h1, h2⟩ := h
  exact ⟨h0, A, c, blk_below h1 hb, h2.below hb⟩
theorem FI.alloc (h : FI w W g l) (o : Obj) : FI w (W.alloc o) g l := h.below (below_alloc (Below.refl _ _) o)
theorem FI.drewN (h : FI w W g l) (n : Nat) : FI w (W.drewN n) g l := h.below (pw_below_drewN (Below.refl _ _) n)
theorem FI.drew (h : FI w W g l) : FI w W.drew g l := h.below (below_drew1 (Below.refl _ _))
theorem FI.only {cs : Array Value} {t : TypeId} (h : FI w W g l) (hg : W.heap[g']? = some (.cells cs t (0, 0))) (ht : t ≠ 149) (hne : g ≠ g') (hk : Only W W' g') : FI w W' g l := by
  obtain ⟨h0, A, c, h1, h2⟩ := h
  exact ⟨h0, A, c, KeepBut.blk hk.2 h1 hne (by simp), h2.keep hg ht hk.2⟩
theorem FI.int (h : FI w W g l) : IntC W g false l := by
  obtain ⟨h0, A, c, h1, h2⟩ := h
  exact ⟨_, _, A, c, h1, by decide, rfl, rfl, h2⟩
theorem FI.lt (h : FI w W g l) : g < W.heap.size := by
  obtain ⟨h0, A, c, h1, h2⟩ := h
  exact blk_lt h1
end

/-- The denominator: 1 where none is laid. -/
def den1 (d : List Int) : List Int := if d.length = 0 then [1] else d
/-- Two ratios compared. -/
def ratCmp (k : Nat) (lz dz lx dx : List Int) : Option Int :=
  (big_times.f k lz (den1 dx)).bind fun a => (big_times.f k lx (den1 dz)).bind fun b => big_compare.f k a b

/-- Denom, told by a base world. -/
theorem big_Rat_Denom.calls2 (g : Nat) (l d : List Int) (w W : World) (hg : RatB W g l d) (hB : Below w.heap.size w W) :
    Calls Tryd.prog 73 #[.pointer (some ⟨g, 0, none⟩)] W fun e w' => ∃ g', e = .returned (.pointer (some ⟨g', 0, none⟩)) ∧ Below W.heap.size W w' ∧ Below w.heap.size w w' ∧ W.heap.size ≤ g' ∧ FI w w' g' (den1 d) := by
  obtain ⟨A, c, A', c', h1, h2, h3⟩ := hg
  exact (big_Rat_Denom.calls g _ _ 123 A' c' d W h1 h3).mono fun e w' ⟨g', he, hg', hb, A2, c2, ha, hh⟩ => ⟨g', he, hb, below_step hB hb, hg', Nat.le_trans hB.size hg', A2, c2, hh, ha⟩
/-- Mul into a number of the call's own, told by a base world. -/
theorem big_Int_Mul.calls2 (k g gx gy : Nat) (l lx ly r : List Int) (w W : World) (hg : FI w W g l) (hx : IntC W gx false lx) (hy : IntC W gy false ly) (hgx : gx ≠ g) (hgy : gy ≠ g) (hB : Below w.heap.size w W) (h : big_times.f k lx ly = some r) :
    Calls Tryd.prog 119 #[.pointer (some ⟨g, 0, none⟩), .pointer (some ⟨gx, 0, none⟩), .pointer (some ⟨gy, 0, none⟩)] W fun e w' => e = .returned (.pointer (some ⟨g, 0, none⟩)) ∧ Only W w' g ∧ Below w.heap.size w w' ∧ FI w w' g r ∧ ∀ (g' : Nat) (l' : List Int), g' ≠ g → FI w W g' l' → FI w w' g' l' := by
  obtain ⟨h0, A, c, h1, h2⟩ := hg
  refine (big_Int_Mul.calls k g gx gy _ 121 false false lx ly r W h1 (by decide) (by simp) hx hy hgx hgy h).mono fun e w' ⟨he, ho, A2, c2, ha, hh⟩ => ⟨he, ho, ho.below hB h0, ⟨h0, A2, c2, hh.trans (by simp), ha⟩, fun g' l' hne hf => hf.only h1 (by decide) hne ho⟩

end Go.Proofs.YtbanemecfobonaaDoor.B
/- Ratios: Cmp. -/
namespace Go.Proofs.YtbanemecfobonaaDoor.B
open Go.RowKit Go.Proofs.YtbanemecfobonaaDoorW.PrintWords Go.Proofs.YtbanemecfobonaaDoorW.PrintLast Go.Proofs.YtbanemecfobonaaDoorW.PrintMore
set_option linter.unusedVariables false
set_option linter.unusedSimpArgs false

set_option maxHeartbeats 8000000 in
set_option maxRecDepth 100000 in
theorem big_Rat_Cmp.calls (k gz gx : Nat) (lz dz lx dx : List Int) (r : Int) (w : World) (hz : RatB w gz lz dz) (hx : RatB w gx lx dx) (h : ratCmp k lz dz lx dx = some r) :
    Calls Tryd.prog 95 #[.pointer (some ⟨gz, 0, none⟩), .pointer (some ⟨gx, 0, none⟩)] w fun e w' => e = .returned (.int .i64 r) ∧ Below w.heap.size w w' := by
  obtain ⟨a, ha, h⟩ := Option.bind_eq_some_iff.mp h
  obtain ⟨b, hb, h⟩ := Option.bind_eq_some_iff.mp h
  have hltz : gz < w.heap.size := by
    obtain ⟨_, _, _, _, h1, _⟩ := hz
    exact blk_lt h1
  have hltx : gx < w.heap.size := by
    obtain ⟨_, _, _, _, h1, _⟩ := hx
    exact blk_lt h1
  have HZ : Aside0 (∀ W, Below w.heap.size w W → RatB W gz lz dz) := ⟨fun W hb => hz.below hb⟩
  have HX : Aside0 (∀ W, Below w.heap.size w W → RatB W gx lx dx) := ⟨fun W hb => hx.below hb⟩
  have HA := Aside0.mk ha
  have HB := Aside0.mk hb
  have HC := Aside0.mk h
  have HLz := Aside0.mk hltz
  have HLx := Aside0.mk hltx
  clear hz hx ha hb h hltz hltx
  go_enter Tryd.func95, Tryd.ntmps95
  go_wp2
  go_region_with (first | (go_at_call_of 73 (Value.pointer (some ⟨gx, 0, none⟩)); refine (big_Rat_Denom.calls2 gx lx dx w _ (HX.out _ ?q1) ?q1).mono ?_; (case q1 => repeat (first | exact Below.refl _ _ | exact B4.out | exact B3.out | exact B2.out | exact B1.out | apply below_alloc | apply pw_below_drewN | apply below_drew1)); rintro e w1 ⟨g1, rfl, b1, B1, s1, f1⟩; replace b1 := Aside0.mk b1; replace B1 := Aside0.mk B1; replace s1 := Aside0.mk s1; replace f1 := Aside0.mk f1) | (go_at_call_of 119 (Value.pointer (some ⟨gz, 0, none⟩)); refine (big_Int_Mul.calls2 k _ gz g1 [] lz (den1 dx) a w _ ?q1 (HZ.out _ ?q5).num (FI.int (w := w) ?q2) ?q3 ?q4 ?q5 HA.out).mono ?_; (case q5 => repeat (first | exact Below.refl _ _ | exact B4.out | exact B3.out | exact B2.out | exact B1.out | apply below_alloc | apply pw_below_drewN | apply below_drew1)); (case q1 => repeat (first | with_reducible exact f1.out | with_reducible exact f2.out | with_reducible exact f3.out | with_reducible exact f4.out | with_reducible refine FI.drewN ?_ _ | with_reducible refine FI.drew ?_ | with_reducible refine FI.below ?_ b3.out | with_reducible refine T2.out _ _ ?_ ?_ | with_reducible refine T4.out _ _ ?_ ?_ | with_reducible refine FI.below ?_ b1.out | ((with_reducible refine FI.new' ?_ ?_); rotate_left; (first | rfl | simp only [World.size_alloc, drew_size]); refine Below.size (B := w.heap.size) ?_; repeat (first | exact Below.refl _ _ | exact B4.out | exact B3.out | exact B2.out | exact B1.out | apply below_alloc | apply pw_below_drewN | apply below_drew1)) | with_reducible refine FI.alloc ?_ _ | (have z0_ : w.drew.heap.size = w.heap.size := rfl; have z1_ := HLz.out; have z2_ := HLx.out; (try have z3_ := B1.out.size); (try have z4_ := s1.out); (try have z5_ := B2.out.size); (try have z6_ := l2.out); (try have z7_ := B3.out.size); (try have z8_ := s3.out); (try have y1_ := f1.out.lt); (try have x1_ := B4.out.size); (try have x3_ := o2.out.2.1); (try have x4_ := o4.out.2.1); (try have x2_ := f4.out.lt); (try have y2_ := f2.out.lt); (try have y3_ := f3.out.lt); (try have y4_ := b1.out.size); (try have y5_ := b3.out.size); (try simp only [World.size_alloc, drew_size] at z3_); (try simp only [World.size_alloc, drew_size] at z4_); (try simp only [World.size_alloc, drew_size] at z5_); (try simp only [World.size_alloc, drew_size] at z6_); (try simp only [World.size_alloc, drew_size] at z7_); (try simp only [World.size_alloc, drew_size] at z8_); (try simp only [World.size_alloc, drew_size] at y1_); (try simp only [World.size_alloc, drew_size] at y2_); (try simp only [World.size_alloc, drew_size] at y3_); (try simp only [World.size_alloc, drew_size] at y4_); (try simp only [World.size_alloc, drew_size] at y5_); (try simp only [World.size_alloc, drew_size] at x3_); (try simp only [World.size_alloc, drew_size] at x4_); (first | omega | (simp only [World.size_alloc, drew_size, ne_eq]; done) | (simp only [World.size_alloc, drew_size, ne_eq]; omega))))); (case q2 => repeat (first | with_reducible exact f1.out | with_reducible exact f2.out | with_reducible exact f3.out | with_reducible exact f4.out | with_reducible refine FI.drewN ?_ _ | with_reducible refine FI.drew ?_ | with_reducible refine FI.below ?_ b3.out | with_reducible refine T2.out _ _ ?_ ?_ | with_reducible refine T4.out _ _ ?_ ?_ | with_reducible refine FI.below ?_ b1.out | ((with_reducible refine FI.new' ?_ ?_); rotate_left; (first | rfl | simp only [World.size_alloc, drew_size]); refine Below.size (B := w.heap.size) ?_; repeat (first | exact Below.refl _ _ | exact B4.out | exact B3.out | exact B2.out | exact B1.out | apply below_alloc | apply pw_below_drewN | apply below_drew1)) | with_reducible refine FI.alloc ?_ _ | (have z0_ : w.drew.heap.size = w.heap.size := rfl; have z1_ := HLz.out; have z2_ := HLx.out; (try have z3_ := B1.out.size); (try have z4_ := s1.out); (try have z5_ := B2.out.size); (try have z6_ := l2.out); (try have z7_ := B3.out.size); (try have z8_ := s3.out); (try have y1_ := f1.out.lt); (try have x1_ := B4.out.size); (try have x3_ := o2.out.2.1); (try have x4_ := o4.out.2.1); (try have x2_ := f4.out.lt); (try have y2_ := f2.out.lt); (try have y3_ := f3.out.lt); (try have y4_ := b1.out.size); (try have y5_ := b3.out.size); (try simp only [World.size_alloc, drew_size] at z3_); (try simp only [World.size_alloc, drew_size] at z4_); (try simp only [World.size_alloc, drew_size] at z5_); (try simp only [World.size_alloc, drew_size] at z6_); (try simp only [World.size_alloc, drew_size] at z7_); (try simp only [World.size_alloc, drew_size] at z8_); (try simp only [World.size_alloc, drew_size] at y1_); (try simp only [World.size_alloc, drew_size] at y2_); (try simp only [World.size_alloc, drew_size] at y3_); (try simp only [World.size_alloc, drew_size] at y4_); (try simp only [World.size_alloc, drew_size] at y5_); (try simp only [World.size_alloc, drew_size] at x3_); (try simp only [World.size_alloc, drew_size] at x4_); (first | omega | (simp only [World.size_alloc, drew_size, ne_eq]; done) | (simp only [World.size_alloc, drew_size, ne_eq]; omega))))); (case q3 => (have z0_ : w.drew.heap.size = w.heap.size := rfl; have z1_ := HLz.out; have z2_ := HLx.out; (try have z3_ := B1.out.size); (try have z4_ := s1.out); (try have z5_ := B2.out.size); (try have z6_ := l2.out); (try have z7_ := B3.out.size); (try have z8_ := s3.out); (try have y1_ := f1.out.lt); (try have x1_ := B4.out.size); (try have x3_ := o2.out.2.1); (try have x4_ := o4.out.2.1); (try have x2_ := f4.out.lt); (try have y2_ := f2.out.lt); (try have y3_ := f3.out.lt); (try have y4_ := b1.out.size); (try have y5_ := b3.out.size); (try simp only [World.size_alloc, drew_size] at z3_); (try simp only [World.size_alloc, drew_size] at z4_); (try simp only [World.size_alloc, drew_size] at z5_); (try simp only [World.size_alloc, drew_size] at z6_); (try simp only [World.size_alloc, drew_size] at z7_); (try simp only [World.size_alloc, drew_size] at z8_); (try simp only [World.size_alloc, drew_size] at y1_); (try simp only [World.size_alloc, drew_size] at y2_); (try simp only [World.size_alloc, drew_size] at y3_); (try simp only [World.size_alloc, drew_size] at y4_); (try simp only [World.size_alloc, drew_size] at y5_); (try simp only [World.size_alloc, drew_size] at x3_); (try simp only [World.size_alloc, drew_size] at x4_); (first | omega | (simp only [World.size_alloc, drew_size, ne_eq]; done) | (simp only [World.size_alloc, drew_size, ne_eq]; omega)))); (case q4 => (have z0_ : w.drew.heap.size = w.heap.size := rfl; have z1_ := HLz.out; have z2_ := HLx.out; (try have z3_ := B1.out.size); (try have z4_ := s1.out); (try have z5_ := B2.out.size); (try have z6_ := l2.out); (try have z7_ := B3.out.size); (try have z8_ := s3.out); (try have y1_ := f1.out.lt); (try have x1_ := B4.out.size); (try have x3_ := o2.out.2.1); (try have x4_ := o4.out.2.1); (try have x2_ := f4.out.lt); (try have y2_ := f2.out.lt); (try have y3_ := f3.out.lt); (try have y4_ := b1.out.size); (try have y5_ := b3.out.size); (try simp only [World.size_alloc, drew_size] at z3_); (try simp only [World.size_alloc, drew_size] at z4_); (try simp only [World.size_alloc, drew_size] at z5_); (try simp only [World.size_alloc, drew_size] at z6_); (try simp only [World.size_alloc, drew_size] at z7_); (try simp only [World.size_alloc, drew_size] at z8_); (try simp only [World.size_alloc, drew_size] at y1_); (try simp only [World.size_alloc, drew_size] at y2_); (try simp only [World.size_alloc, drew_size] at y3_); (try simp only [World.size_alloc, drew_size] at y4_); (try simp only [World.size_alloc, drew_size] at y5_); (try simp only [World.size_alloc, drew_size] at x3_); (try simp only [World.size_alloc, drew_size] at x4_); (first | omega | (simp only [World.size_alloc, drew_size, ne_eq]; done) | (simp only [World.size_alloc, drew_size, ne_eq]; omega)))); rintro e w2 ⟨rfl, o2, B2, f2, T2⟩; replace o2 := Aside0.mk o2; replace B2 := Aside0.mk B2; replace f2 := Aside0.mk f2; replace T2 := Aside0.mk T2; clear f1 s1) | (go_at_call_of 73 (Value.pointer (some ⟨gz, 0, none⟩)); refine (big_Rat_Denom.calls2 gz lz dz w _ (HZ.out _ ?q1) ?q1).mono ?_; (case q1 => repeat (first | exact Below.refl _ _ | exact B4.out | exact B3.out | exact B2.out | exact B1.out | apply below_alloc | apply pw_below_drewN | apply below_drew1)); rintro e w3 ⟨g3, rfl, b3, B3, s3, f3⟩; replace b3 := Aside0.mk b3; replace B3 := Aside0.mk B3; replace s3 := Aside0.mk s3; replace f3 := Aside0.mk f3) | (go_at_call_of 119 (Value.pointer (some ⟨gx, 0, none⟩)); refine (big_Int_Mul.calls2 k _ gx g3 [] lx (den1 dz) b w _ ?q1 (HX.out _ ?q5).num (FI.int (w := w) ?q2) ?q3 ?q4 ?q5 HB.out).mono ?_; (case q5 => repeat (first | exact Below.refl _ _ | exact B4.out | exact B3.out | exact B2.out | exact B1.out | apply below_alloc | apply pw_below_drewN | apply below_drew1)); (case q1 => repeat (first | with_reducible exact f1.out | with_reducible exact f2.out | with_reducible exact f3.out | with_reducible exact f4.out | with_reducible refine FI.drewN ?_ _ | with_reducible refine FI.drew ?_ | with_reducible refine FI.below ?_ b3.out | with_reducible refine T2.out _ _ ?_ ?_ | with_reducible refine T4.out _ _ ?_ ?_ | with_reducible refine FI.below ?_ b1.out | ((with_reducible refine FI.new' ?_ ?_); rotate_left; (first | rfl | simp only [World.size_alloc, drew_size]); refine Below.size (B := w.heap.size) ?_; repeat (first | exact Below.refl _ _ | exact B4.out | exact B3.out | exact B2.out | exact B1.out | apply below_alloc | apply pw_below_drewN | apply below_drew1)) | with_reducible refine FI.alloc ?_ _ | (have z0_ : w.drew.heap.size = w.heap.size := rfl; have z1_ := HLz.out; have z2_ := HLx.out; (try have z3_ := B1.out.size); (try have z4_ := s1.out); (try have z5_ := B2.out.size); (try have z6_ := l2.out); (try have z7_ := B3.out.size); (try have z8_ := s3.out); (try have y1_ := f1.out.lt); (try have x1_ := B4.out.size); (try have x3_ := o2.out.2.1); (try have x4_ := o4.out.2.1); (try have x2_ := f4.out.lt); (try have y2_ := f2.out.lt); (try have y3_ := f3.out.lt); (try have y4_ := b1.out.size); (try have y5_ := b3.out.size); (try simp only [World.size_alloc, drew_size] at z3_); (try simp only [World.size_alloc, drew_size] at z4_); (try simp only [World.size_alloc, drew_size] at z5_); (try simp only [World.size_alloc, drew_size] at z6_); (try simp only [World.size_alloc, drew_size] at z7_); (try simp only [World.size_alloc, drew_size] at z8_); (try simp only [World.size_alloc, drew_size] at y1_); (try simp only [World.size_alloc, drew_size] at y2_); (try simp only [World.size_alloc, drew_size] at y3_); (try simp only [World.size_alloc, drew_size] at y4_); (try simp only [World.size_alloc, drew_size] at y5_); (try simp only [World.size_alloc, drew_size] at x3_); (try simp only [World.size_alloc, drew_size] at x4_); (first | omega | (simp only [World.size_alloc, drew_size, ne_eq]; done) | (simp only [World.size_alloc, drew_size, ne_eq]; omega))))); (case q2 => repeat (first | with_reducible exact f1.out | with_reducible exact f2.out | with_reducible exact f3.out | with_reducible exact f4.out | with_reducible refine FI.drewN ?_ _ | with_reducible refine FI.drew ?_ | with_reducible refine FI.below ?_ b3.out | with_reducible refine T2.out _ _ ?_ ?_ | with_reducible refine T4.out _ _ ?_ ?_ | with_reducible refine FI.below ?_ b1.out | ((with_reducible refine FI.new' ?_ ?_); rotate_left; (first | rfl | simp only [World.size_alloc, drew_size]); refine Below.size (B := w.heap.size) ?_; repeat (first | exact Below.refl _ _ | exact B4.out | exact B3.out | exact B2.out | exact B1.out | apply below_alloc | apply pw_below_drewN | apply below_drew1)) | with_reducible refine FI.alloc ?_ _ | (have z0_ : w.drew.heap.size = w.heap.size := rfl; have z1_ := HLz.out; have z2_ := HLx.out; (try have z3_ := B1.out.size); (try have z4_ := s1.out); (try have z5_ := B2.out.size); (try have z6_ := l2.out); (try have z7_ := B3.out.size); (try have z8_ := s3.out); (try have y1_ := f1.out.lt); (try have x1_ := B4.out.size); (try have x3_ := o2.out.2.1); (try have x4_ := o4.out.2.1); (try have x2_ := f4.out.lt); (try have y2_ := f2.out.lt); (try have y3_ := f3.out.lt); (try have y4_ := b1.out.size); (try have y5_ := b3.out.size); (try simp only [World.size_alloc, drew_size] at z3_); (try simp only [World.size_alloc, drew_size] at z4_); (try simp only [World.size_alloc, drew_size] at z5_); (try simp only [World.size_alloc, drew_size] at z6_); (try simp only [World.size_alloc, drew_size] at z7_); (try simp only [World.size_alloc, drew_size] at z8_); (try simp only [World.size_alloc, drew_size] at y1_); (try simp only [World.size_alloc, drew_size] at y2_); (try simp only [World.size_alloc, drew_size] at y3_); (try simp only [World.size_alloc, drew_size] at y4_); (try simp only [World.size_alloc, drew_size] at y5_); (try simp only [World.size_alloc, drew_size] at x3_); (try simp only [World.size_alloc, drew_size] at x4_); (first | omega | (simp only [World.size_alloc, drew_size, ne_eq]; done) | (simp only [World.size_alloc, drew_size, ne_eq]; omega))))); (case q3 => (have z0_ : w.drew.heap.size = w.heap.size := rfl; have z1_ := HLz.out; have z2_ := HLx.out; (try have z3_ := B1.out.size); (try have z4_ := s1.out); (try have z5_ := B2.out.size); (try have z6_ := l2.out); (try have z7_ := B3.out.size); (try have z8_ := s3.out); (try have y1_ := f1.out.lt); (try have x1_ := B4.out.size); (try have x3_ := o2.out.2.1); (try have x4_ := o4.out.2.1); (try have x2_ := f4.out.lt); (try have y2_ := f2.out.lt); (try have y3_ := f3.out.lt); (try have y4_ := b1.out.size); (try have y5_ := b3.out.size); (try simp only [World.size_alloc, drew_size] at z3_); (try simp only [World.size_alloc, drew_size] at z4_); (try simp only [World.size_alloc, drew_size] at z5_); (try simp only [World.size_alloc, drew_size] at z6_); (try simp only [World.size_alloc, drew_size] at z7_); (try simp only [World.size_alloc, drew_size] at z8_); (try simp only [World.size_alloc, drew_size] at y1_); (try simp only [World.size_alloc, drew_size] at y2_); (try simp only [World.size_alloc, drew_size] at y3_); (try simp only [World.size_alloc, drew_size] at y4_); (try simp only [World.size_alloc, drew_size] at y5_); (try simp only [World.size_alloc, drew_size] at x3_); (try simp only [World.size_alloc, drew_size] at x4_); (first | omega | (simp only [World.size_alloc, drew_size, ne_eq]; done) | (simp only [World.size_alloc, drew_size, ne_eq]; omega)))); (case q4 => (have z0_ : w.drew.heap.size = w.heap.size := rfl; have z1_ := HLz.out; have z2_ := HLx.out; (try have z3_ := B1.out.size); (try have z4_ := s1.out); (try have z5_ := B2.out.size); (try have z6_ := l2.out); (try have z7_ := B3.out.size); (try have z8_ := s3.out); (try have y1_ := f1.out.lt); (try have x1_ := B4.out.size); (try have x3_ := o2.out.2.1); (try have x4_ := o4.out.2.1); (try have x2_ := f4.out.lt); (try have y2_ := f2.out.lt); (try have y3_ := f3.out.lt); (try have y4_ := b1.out.size); (try have y5_ := b3.out.size); (try simp only [World.size_alloc, drew_size] at z3_); (try simp only [World.size_alloc, drew_size] at z4_); (try simp only [World.size_alloc, drew_size] at z5_); (try simp only [World.size_alloc, drew_size] at z6_); (try simp only [World.size_alloc, drew_size] at z7_); (try simp only [World.size_alloc, drew_size] at z8_); (try simp only [World.size_alloc, drew_size] at y1_); (try simp only [World.size_alloc, drew_size] at y2_); (try simp only [World.size_alloc, drew_size] at y3_); (try simp only [World.size_alloc, drew_size] at y4_); (try simp only [World.size_alloc, drew_size] at y5_); (try simp only [World.size_alloc, drew_size] at x3_); (try simp only [World.size_alloc, drew_size] at x4_); (first | omega | (simp only [World.size_alloc, drew_size, ne_eq]; done) | (simp only [World.size_alloc, drew_size, ne_eq]; omega)))); rintro e w4 ⟨rfl, o4, B4, f4, T4⟩; replace B4 := Aside0.mk B4; replace f4 := Aside0.mk f4; replace T4 := Aside0.mk T4; replace o4 := Aside0.mk o4; clear f3) | (go_at_call 72; refine (big_Int_Cmp.calls k _ _ a b r _ (FI.int (w := w) ?q1) (FI.int (w := w) ?q2) HC.out).mono ?_; (case q1 => repeat (first | with_reducible exact f1.out | with_reducible exact f2.out | with_reducible exact f3.out | with_reducible exact f4.out | with_reducible refine FI.drewN ?_ _ | with_reducible refine FI.drew ?_ | with_reducible refine FI.below ?_ b3.out | with_reducible refine T2.out _ _ ?_ ?_ | with_reducible refine T4.out _ _ ?_ ?_ | with_reducible refine FI.below ?_ b1.out | ((with_reducible refine FI.new' ?_ ?_); rotate_left; (first | rfl | simp only [World.size_alloc, drew_size]); refine Below.size (B := w.heap.size) ?_; repeat (first | exact Below.refl _ _ | exact B4.out | exact B3.out | exact B2.out | exact B1.out | apply below_alloc | apply pw_below_drewN | apply below_drew1)) | with_reducible refine FI.alloc ?_ _ | (have z0_ : w.drew.heap.size = w.heap.size := rfl; have z1_ := HLz.out; have z2_ := HLx.out; (try have z3_ := B1.out.size); (try have z4_ := s1.out); (try have z5_ := B2.out.size); (try have z6_ := l2.out); (try have z7_ := B3.out.size); (try have z8_ := s3.out); (try have y1_ := f1.out.lt); (try have x1_ := B4.out.size); (try have x3_ := o2.out.2.1); (try have x4_ := o4.out.2.1); (try have x2_ := f4.out.lt); (try have y2_ := f2.out.lt); (try have y3_ := f3.out.lt); (try have y4_ := b1.out.size); (try have y5_ := b3.out.size); (try simp only [World.size_alloc, drew_size] at z3_); (try simp only [World.size_alloc, drew_size] at z4_); (try simp only [World.size_alloc, drew_size] at z5_); (try simp only [World.size_alloc, drew_size] at z6_); (try simp only [World.size_alloc, drew_size] at z7_); (try simp only [World.size_alloc, drew_size] at z8_); (try simp only [World.size_alloc, drew_size] at y1_); (try simp only [World.size_alloc, drew_size] at y2_); (try simp only [World.size_alloc, drew_size] at y3_); (try simp only [World.size_alloc, drew_size] at y4_); (try simp only [World.size_alloc, drew_size] at y5_); (try simp only [World.size_alloc, drew_size] at x3_); (try simp only [World.size_alloc, drew_size] at x4_); (first | omega | (simp only [World.size_alloc, drew_size, ne_eq]; done) | (simp only [World.size_alloc, drew_size, ne_eq]; omega))))); (case q2 => repeat (first | with_reducible exact f1.out | with_reducible exact f2.out | with_reducible exact f3.out | with_reducible exact f4.out | with_reducible refine FI.drewN ?_ _ | with_reducible refine FI.drew ?_ | with_reducible refine FI.below ?_ b3.out | with_reducible refine T2.out _ _ ?_ ?_ | with_reducible refine T4.out _ _ ?_ ?_ | with_reducible refine FI.below ?_ b1.out | ((with_reducible refine FI.new' ?_ ?_); rotate_left; (first | rfl | simp only [World.size_alloc, drew_size]); refine Below.size (B := w.heap.size) ?_; repeat (first | exact Below.refl _ _ | exact B4.out | exact B3.out | exact B2.out | exact B1.out | apply below_alloc | apply pw_below_drewN | apply below_drew1)) | with_reducible refine FI.alloc ?_ _ | (have z0_ : w.drew.heap.size = w.heap.size := rfl; have z1_ := HLz.out; have z2_ := HLx.out; (try have z3_ := B1.out.size); (try have z4_ := s1.out); (try have z5_ := B2.out.size); (try have z6_ := l2.out); (try have z7_ := B3.out.size); (try have z8_ := s3.out); (try have y1_ := f1.out.lt); (try have x1_ := B4.out.size); (try have x3_ := o2.out.2.1); (try have x4_ := o4.out.2.1); (try have x2_ := f4.out.lt); (try have y2_ := f2.out.lt); (try have y3_ := f3.out.lt); (try have y4_ := b1.out.size); (try have y5_ := b3.out.size); (try simp only [World.size_alloc, drew_size] at z3_); (try simp only [World.size_alloc, drew_size] at z4_); (try simp only [World.size_alloc, drew_size] at z5_); (try simp only [World.size_alloc, drew_size] at z6_); (try simp only [World.size_alloc, drew_size] at z7_); (try simp only [World.size_alloc, drew_size] at z8_); (try simp only [World.size_alloc, drew_size] at y1_); (try simp only [World.size_alloc, drew_size] at y2_); (try simp only [World.size_alloc, drew_size] at y3_); (try simp only [World.size_alloc, drew_size] at y4_); (try simp only [World.size_alloc, drew_size] at y5_); (try simp only [World.size_alloc, drew_size] at x3_); (try simp only [World.size_alloc, drew_size] at x4_); (first | omega | (simp only [World.size_alloc, drew_size, ne_eq]; done) | (simp only [World.size_alloc, drew_size, ne_eq]; omega))))); rintro e w5 ⟨rfl, ⟨nd, rfl⟩⟩))
  all_goals (go_wp2; go_ret; exact ⟨rfl, by repeat (first | exact Below.refl _ _ | exact B4.out | exact B3.out | exact B2.out | exact B1.out | apply below_alloc | apply pw_below_drewN | apply below_drew1)⟩)

end Go.Proofs.YtbanemecfobonaaDoor.B
/- Ratios: Add. -/
namespace Go.Proofs.YtbanemecfobonaaDoor.B
open Go.RowKit Go.Proofs.YtbanemecfobonaaDoorW.PrintWords Go.Proofs.YtbanemecfobonaaDoorW.PrintLast Go.Proofs.YtbanemecfobonaaDoorW.PrintMore
set_option linter.unusedVariables false
set_option linter.unusedSimpArgs false

/-- The sum of two ratios. -/
def ratAdd (Div : List Int → List Int → Option (List Int × List Int)) (k n : Nat) (lx dx ly dy : List Int) : Option (List Int × List Int) :=
  (big_times.f k lx (den1 dy)).bind fun a => (big_times.f k ly (den1 dx)).bind fun b => (plus2 k a b).bind fun s => (big_times.f k (den1 dx) (den1 dy)).bind fun d => ratSet Div k n s d

/-- Add into a number of the call's own, told by a base world. -/
theorem big_Int_Add.calls2 (k g gb : Nat) (la lb r : List Int) (w W : World) (hg : FI w W g la) (hy : FI w W gb lb) (hB : Below w.heap.size w W) (h : plus2 k la lb = some r) :
    Calls Tryd.prog 121 #[.pointer (some ⟨g, 0, none⟩), .pointer (some ⟨g, 0, none⟩), .pointer (some ⟨gb, 0, none⟩)] W fun e w' => e = .returned (.pointer (some ⟨g, 0, none⟩)) ∧ Below w.heap.size w w' ∧ FI w w' g r := by
  have hi := hg.int
  obtain ⟨h0, A, c, h1, h2⟩ := hg
  refine (big_Int_Add.calls k g g gb _ 121 la lb r W h1 (by decide) (by simp) hi hy.int h).mono fun e w' ⟨he, ho, A2, c2, ha, hh⟩ => ⟨he, ho.below hB h0, h0, A2, c2, hh.trans (by simp), ha⟩
/-- below, told by a base world. -/
theorem big_Rat_below.calls2 (g : Nat) (l d : List Int) (w W : World) (hg : RatB W g l d) (hB : Below w.heap.size w W) :
    Calls Tryd.prog 109 #[.pointer (some ⟨g, 0, none⟩)] W fun e w' => ∃ A' c', e = .returned (.slice A' (den1 d).length c') ∧ WA w' A' c' (den1 d) ∧ Below W.heap.size W w' ∧ Below w.heap.size w w' := by
  obtain ⟨A, c, A', c', h1, h2, h3⟩ := hg
  exact (big_Rat_below.calls g _ _ 123 A' c' d W h1 h3).mono fun e w' ⟨A2, c2, ha, he, hb⟩ => ⟨A2, c2, he, ha, hb, below_step hB hb⟩
/-- times, told by a base world. -/
theorem big_times.calls2 (k : Nat) (A0 : Option Addr) (c0 : Nat) (l0 : List Int) (A1 : Option Addr) (c1 : Nat) (l1 r : List Int) (w W : World) (h0 : WA W A0 c0 l0) (h1 : WA W A1 c1 l1) (hB : Below w.heap.size w W) (h : big_times.f k l0 l1 = some r) :
    Calls Tryd.prog 122 #[.slice A0 l0.length c0, .slice A1 l1.length c1] W fun e w' => ∃ A' c', e = .returned (.slice A' r.length c') ∧ WA w' A' c' r ∧ Below W.heap.size W w' ∧ Below w.heap.size w w' := by
  refine (big_times.calls k A0 c0 l0 A1 c1 l1 r W h0.1 h0.2.1 h1.1 h1.2.1 h).mono ?_
  rintro e w1 ⟨v, rfl, hv, hb⟩
  obtain ⟨Ar, cr, rfl, hr⟩ := WA.of_R hv
  have hb' : Below W.heap.size W w1 := ⟨hb.os, hb.tape, hb.output, hb.size, hb.block⟩
  exact ⟨Ar, cr, rfl, hr, hb', below_step hB hb'⟩

set_option maxHeartbeats 4000000 in
set_option maxRecDepth 100000 in
theorem big_Rat_Add.calls (Div : List Int → List Int → Option (List Int × List Int)) (hD : DivOk Div) (k n gz gx gy : Nat) (v0 v1 v2 : Value) (lx dx ly dy r1 r2 : List Int) (w : World) (hz : w.heap[gz]? = some (.cells #[v0, v1, v2] 123 (0, 0))) (hx : RatB w gx lx dx) (hy : RatB w gy ly dy) (h : ratAdd Div k n lx dx ly dy = some (r1, r2)) :
    Calls Tryd.prog 102 #[.pointer (some ⟨gz, 0, none⟩), .pointer (some ⟨gx, 0, none⟩), .pointer (some ⟨gy, 0, none⟩)] w fun e w' => e = .returned (.pointer (some ⟨gz, 0, none⟩)) ∧ Only w w' gz ∧ RatB w' gz r1 r2 := by
  obtain ⟨a, ha, h⟩ := Option.bind_eq_some_iff.mp h
  obtain ⟨b, hb, h⟩ := Option.bind_eq_some_iff.mp h
  obtain ⟨s, hs, h⟩ := Option.bind_eq_some_iff.mp h
  obtain ⟨d, hd, h⟩ := Option.bind_eq_some_iff.mp h
  have hltz : gz < w.heap.size := blk_lt hz
  have hltx : gx < w.heap.size := by
    obtain ⟨_, _, _, _, h1, _⟩ := hx
    exact blk_lt h1
  have hlty : gy < w.heap.size := by
    obtain ⟨_, _, _, _, h1, _⟩ := hy
    exact blk_lt h1
  have HX : Aside0 (∀ W, Below w.heap.size w W → RatB W gx lx dx) := ⟨fun W hb => hx.below hb⟩
  have HY : Aside0 (∀ W, Below w.heap.size w W → RatB W gy ly dy) := ⟨fun W hb => hy.below hb⟩
  have HZ : Aside0 (∀ W, Below w.heap.size w W → W.heap[gz]? = some (.cells #[v0, v1, v2] 123 (0, 0))) := ⟨fun W hb => blk_below hz hb⟩
  have HA := Aside0.mk ha
  have HB := Aside0.mk hb
  have HS := Aside0.mk hs
  have HD := Aside0.mk hd
  have HR := Aside0.mk h
  have HLz := Aside0.mk hltz
  have HLx := Aside0.mk hltx
  have HLy := Aside0.mk hlty
  clear hx hy hz ha hb hs hd h hltx hlty hltz
  go_enter Tryd.func102, Tryd.ntmps102
  go_wp2
  go_cut [7] (fun s7 w' => ∃ g1 : Nat, s7 = .pointer (some ⟨g1, 0, none⟩) ∧ Below w.heap.size w w' ∧ FI w w' g1 a)
  case first =>
    go_region_with (first | (go_at_call_of 73 (Value.pointer (some ⟨gy, 0, none⟩)); refine (big_Rat_Denom.calls2 gy ly dy w _ (HY.out _ ?q1) ?q1).mono ?_; (case q1 => repeat (first | exact Below.refl _ _ | exact B9.out | exact B2.out | exact B1.out | exact B0.out | apply below_alloc | apply pw_below_drewN | apply below_drew1)); rintro e w1 ⟨g1, rfl, b1, B1, s1, f1⟩; replace b1 := Aside0.mk b1; replace B1 := Aside0.mk B1; replace s1 := Aside0.mk s1; replace f1 := Aside0.mk f1) | (go_at_call_of 119 (Value.pointer (some ⟨gx, 0, none⟩)); refine (big_Int_Mul.calls2 k _ gx g1 [] lx (den1 dy) a w _ ?q1 (HX.out _ ?q5).num (FI.int (w := w) ?q2) ?q3 ?q4 ?q5 HA.out).mono ?_; (case q5 => repeat (first | exact Below.refl _ _ | exact B9.out | exact B2.out | exact B1.out | exact B0.out | apply below_alloc | apply pw_below_drewN | apply below_drew1)); (case q1 => repeat (first | with_reducible exact f1.out | with_reducible refine FI.drewN ?_ _ | with_reducible refine FI.drew ?_ | with_reducible refine FI.below ?_ b1.out | ((with_reducible refine FI.new' ?_ ?_); rotate_left; (first | rfl | simp only [World.size_alloc, drew_size]); refine Below.size (B := w.heap.size) ?_; repeat (first | exact Below.refl _ _ | exact B9.out | exact B2.out | exact B1.out | exact B0.out | apply below_alloc | apply pw_below_drewN | apply below_drew1)) | with_reducible refine FI.alloc ?_ _)); (case q2 => repeat (first | with_reducible exact f1.out | with_reducible refine FI.drewN ?_ _ | with_reducible refine FI.drew ?_ | with_reducible refine FI.below ?_ b1.out | ((with_reducible refine FI.new' ?_ ?_); rotate_left; (first | rfl | simp only [World.size_alloc, drew_size]); refine Below.size (B := w.heap.size) ?_; repeat (first | exact Below.refl _ _ | exact B9.out | exact B2.out | exact B1.out | exact B0.out | apply below_alloc | apply pw_below_drewN | apply below_drew1)) | with_reducible refine FI.alloc ?_ _)); (case q3 => (have z0_ : World.drew w.drew = w.drew.drew := rfl; (try have y0_ := HLx.out); (try simp only [World.size_alloc, drew_size] at y0_); (try have y1_ := s1.out); (try simp only [World.size_alloc, drew_size] at y1_); (try have y2_ := f1.out.lt); (try simp only [World.size_alloc, drew_size] at y2_); (try have y3_ := B1.out.size); (try simp only [World.size_alloc, drew_size] at y3_); (try have y4_ := b1.out.size); (try simp only [World.size_alloc, drew_size] at y4_); (first | omega | (simp only [World.size_alloc, drew_size, ne_eq]; omega)))); (case q4 => (have z0_ : World.drew w.drew = w.drew.drew := rfl; (try have y0_ := HLx.out); (try simp only [World.size_alloc, drew_size] at y0_); (try have y1_ := s1.out); (try simp only [World.size_alloc, drew_size] at y1_); (try have y2_ := f1.out.lt); (try simp only [World.size_alloc, drew_size] at y2_); (try have y3_ := B1.out.size); (try simp only [World.size_alloc, drew_size] at y3_); (try have y4_ := b1.out.size); (try simp only [World.size_alloc, drew_size] at y4_); (first | omega | (simp only [World.size_alloc, drew_size, ne_eq]; omega)))); rintro e w2 ⟨rfl, o2, B2, f2, T2⟩; replace B2 := Aside0.mk B2; replace f2 := Aside0.mk f2; clear f1 s1 T2 o2))
    all_goals (go_wp2; go_meet; exact ⟨_, rfl, B2.out, f2.out⟩)
  case rest =>
  obtain ⟨g7, rfl, B0, f7⟩ := hcut
  replace B0 := Aside0.mk B0
  replace f7 := Aside0.mk f7
  go_wp2
  go_cut [8] (fun s8 w' => ∃ g2 : Nat, s8 = .pointer (some ⟨g2, 0, none⟩) ∧ Below w.heap.size w w' ∧ FI w w' g7 a ∧ FI w w' g2 b)
  case first =>
    go_region_with (first | (go_at_call_of 73 (Value.pointer (some ⟨gx, 0, none⟩)); refine (big_Rat_Denom.calls2 gx lx dx w _ (HX.out _ ?q1) ?q1).mono ?_; (case q1 => repeat (first | exact Below.refl _ _ | exact B9.out | exact B2.out | exact B1.out | exact B0.out | apply below_alloc | apply pw_below_drewN | apply below_drew1)); rintro e w1 ⟨g1, rfl, b1, B1, s1, f1⟩; replace b1 := Aside0.mk b1; replace B1 := Aside0.mk B1; replace s1 := Aside0.mk s1; replace f1 := Aside0.mk f1) | (go_at_call_of 119 (Value.pointer (some ⟨gy, 0, none⟩)); refine (big_Int_Mul.calls2 k _ gy g1 [] ly (den1 dx) b w _ ?q1 (HY.out _ ?q5).num (FI.int (w := w) ?q2) ?q3 ?q4 ?q5 HB.out).mono ?_; (case q5 => repeat (first | exact Below.refl _ _ | exact B9.out | exact B2.out | exact B1.out | exact B0.out | apply below_alloc | apply pw_below_drewN | apply below_drew1)); (case q1 => repeat (first | with_reducible exact f1.out | with_reducible refine FI.drewN ?_ _ | with_reducible refine FI.drew ?_ | with_reducible refine FI.below ?_ b1.out | ((with_reducible refine FI.new' ?_ ?_); rotate_left; (first | rfl | simp only [World.size_alloc, drew_size]); refine Below.size (B := w.heap.size) ?_; repeat (first | exact Below.refl _ _ | exact B9.out | exact B2.out | exact B1.out | exact B0.out | apply below_alloc | apply pw_below_drewN | apply below_drew1)) | with_reducible refine FI.alloc ?_ _)); (case q2 => repeat (first | with_reducible exact f1.out | with_reducible refine FI.drewN ?_ _ | with_reducible refine FI.drew ?_ | with_reducible refine FI.below ?_ b1.out | ((with_reducible refine FI.new' ?_ ?_); rotate_left; (first | rfl | simp only [World.size_alloc, drew_size]); refine Below.size (B := w.heap.size) ?_; repeat (first | exact Below.refl _ _ | exact B9.out | exact B2.out | exact B1.out | exact B0.out | apply below_alloc | apply pw_below_drewN | apply below_drew1)) | with_reducible refine FI.alloc ?_ _)); (case q3 => (have z0_ : World.drew w.drew = w.drew.drew := rfl; (try have y0_ := HLx.out); (try simp only [World.size_alloc, drew_size] at y0_); (try have y1_ := HLy.out); (try simp only [World.size_alloc, drew_size] at y1_); (try have y2_ := s1.out); (try simp only [World.size_alloc, drew_size] at y2_); (try have y3_ := f1.out.lt); (try simp only [World.size_alloc, drew_size] at y3_); (try have y4_ := B1.out.size); (try simp only [World.size_alloc, drew_size] at y4_); (try have y5_ := b1.out.size); (try simp only [World.size_alloc, drew_size] at y5_); (try have y6_ := B0.out.size); (try simp only [World.size_alloc, drew_size] at y6_); (try have y7_ := f7.out.lt); (try simp only [World.size_alloc, drew_size] at y7_); (first | omega | (simp only [World.size_alloc, drew_size, ne_eq]; omega)))); (case q4 => (have z0_ : World.drew w.drew = w.drew.drew := rfl; (try have y0_ := HLx.out); (try simp only [World.size_alloc, drew_size] at y0_); (try have y1_ := HLy.out); (try simp only [World.size_alloc, drew_size] at y1_); (try have y2_ := s1.out); (try simp only [World.size_alloc, drew_size] at y2_); (try have y3_ := f1.out.lt); (try simp only [World.size_alloc, drew_size] at y3_); (try have y4_ := B1.out.size); (try simp only [World.size_alloc, drew_size] at y4_); (try have y5_ := b1.out.size); (try simp only [World.size_alloc, drew_size] at y5_); (try have y6_ := B0.out.size); (try simp only [World.size_alloc, drew_size] at y6_); (try have y7_ := f7.out.lt); (try simp only [World.size_alloc, drew_size] at y7_); (first | omega | (simp only [World.size_alloc, drew_size, ne_eq]; omega)))); rintro e w2 ⟨rfl, o2, B2, f2, T2⟩; replace B2 := Aside0.mk B2; replace f2 := Aside0.mk f2; replace T2 := Aside0.mk (T2 g7 a ?q6 ?q7); (case q6 => (have z0_ : World.drew w.drew = w.drew.drew := rfl; (try have y0_ := HLx.out); (try simp only [World.size_alloc, drew_size] at y0_); (try have y1_ := HLy.out); (try simp only [World.size_alloc, drew_size] at y1_); (try have y2_ := s1.out); (try simp only [World.size_alloc, drew_size] at y2_); (try have y3_ := f1.out.lt); (try simp only [World.size_alloc, drew_size] at y3_); (try have y4_ := B1.out.size); (try simp only [World.size_alloc, drew_size] at y4_); (try have y5_ := b1.out.size); (try simp only [World.size_alloc, drew_size] at y5_); (try have y6_ := B0.out.size); (try simp only [World.size_alloc, drew_size] at y6_); (try have y7_ := f7.out.lt); (try simp only [World.size_alloc, drew_size] at y7_); (first | omega | (simp only [World.size_alloc, drew_size, ne_eq]; omega)))); (case q7 => repeat (first | with_reducible exact f7.out | with_reducible refine FI.drewN ?_ _ | with_reducible refine FI.drew ?_ | with_reducible refine FI.below ?_ b1.out | ((with_reducible refine FI.new' ?_ ?_); rotate_left; (first | rfl | simp only [World.size_alloc, drew_size]); refine Below.size (B := w.heap.size) ?_; repeat (first | exact Below.refl _ _ | exact B9.out | exact B2.out | exact B1.out | exact B0.out | apply below_alloc | apply pw_below_drewN | apply below_drew1)) | with_reducible refine FI.alloc ?_ _)); clear f1 s1 o2))
    all_goals (go_wp2; go_meet; exact ⟨_, rfl, B2.out, T2.out, f2.out⟩)
  case rest =>
  obtain ⟨g8, rfl, B1, f9, f8⟩ := hcut
  replace B1 := Aside0.mk B1
  replace f9 := Aside0.mk f9
  replace f8 := Aside0.mk f8
  clear f7 B0
  go_wp2_with (first | (go_at_call 121; refine (big_Int_Add.calls2 k g7 g8 a b s w _ f9.out f8.out B1.out HS.out).mono ?_; rintro e w3 ⟨rfl, B2, f3⟩; replace B2 := Aside0.mk B2; obtain ⟨h70, As, cs, h7b, h7w⟩ := f3))
  have hcx0 : w3.cell? ⟨g7, 0, none⟩ = some (.bool false) := (blk_cell h7b 0).trans rfl
  have hcx1 : w3.cell? ⟨g7, 1, none⟩ = some (.slice As s.length cs) := (blk_cell h7b 1).trans rfl
  have HS0 := Aside0.mk (show ∀ W, Below w3.heap.size w3 W → W.cell? ⟨g7, 0, none⟩ = some (.bool false) ∧ W.cell? ⟨g7, 1, none⟩ = some (.slice As s.length cs) from fun W hb => ⟨(blk_cell (blk_below h7b hb) 0).trans rfl, (blk_cell (blk_below h7b hb) 1).trans rfl⟩)
  have HS2 := Aside0.mk (show ∀ W1 W2, Below w3.heap.size w3 W1 → KeepBut W1 W2 gz none → W2.cell? ⟨g7, 0, none⟩ = some (.bool false) ∧ W2.cell? ⟨g7, 1, none⟩ = some (.slice As s.length cs) from fun W1 W2 hb hk => ⟨keep_cell hk ((blk_cell (blk_below h7b hb) 0).trans rfl) (by have := HLz.out; simp only; omega), keep_cell hk ((blk_cell (blk_below h7b hb) 1).trans rfl) (by have := HLz.out; simp only; omega)⟩)
  have HW7 := Aside0.mk (show ∀ W, Below w3.heap.size w3 W → WA W As cs s from fun W hb => h7w.below hb)
  clear h70 h7b h7w f9 f8
  go_wp2
  go_region_held3 (fun w1 => w1.cell? ⟨g7, 0, none⟩ = some (.bool false) ∧ w1.cell? ⟨g7, 1, none⟩ = some (.slice As s.length cs)) (first | exact ⟨hcx0, hcx1⟩ | exact HS2.out _ _ B9.out hk.out.2 | exact HS0.out _ B9.out | go_keep)
    (first
    | (go_at_call_of 109 (Value.pointer (some ⟨gx, 0, none⟩)); refine (big_Rat_below.calls2 gx lx dx w3 _ (HX.out _ (below_step B2.out ?q1)) ?q1).mono ?_; (case q1 => repeat (first | exact Below.refl _ _ | exact B9.out | exact B2.out | exact B1.out | exact B0.out | apply below_alloc | apply pw_below_drewN | apply below_drew1)); rintro e w4 ⟨A4, c4, rfl, a4, b4, B9⟩; replace a4 := Aside0.mk a4; replace B9 := Aside0.mk B9; clear b4)
    | (go_at_call_of 109 (Value.pointer (some ⟨gy, 0, none⟩)); refine (big_Rat_below.calls2 gy ly dy w3 _ (HY.out _ (below_step B2.out ?q1)) ?q1).mono ?_; (case q1 => repeat (first | exact Below.refl _ _ | exact B9.out | exact B2.out | exact B1.out | exact B0.out | apply below_alloc | apply pw_below_drewN | apply below_drew1)); rintro e w5 ⟨A5, c5, rfl, a5, b5, B9⟩; replace a4 := Aside0.mk ((a4.out.drewN 0).below b5); replace a5 := Aside0.mk a5; replace B9 := Aside0.mk B9; clear b5)
    | (go_at_call 122; refine (big_times.calls2 k A4 c4 (den1 dx) A5 c5 (den1 dy) d w3 _ (by first | exact a4.out | exact a4.out.drewN _) (by first | exact a5.out | exact a5.out.drewN _) ?q1 HD.out).mono ?_; (case q1 => repeat (first | exact Below.refl _ _ | exact B9.out | exact B2.out | exact B1.out | exact B0.out | apply below_alloc | apply pw_below_drewN | apply below_drew1)); rintro e w6 ⟨A6, c6, rfl, a6, b6, B9⟩; replace a6 := Aside0.mk a6; replace B9 := Aside0.mk B9; clear b6 a4 a5)
    | (go_at_call 120; refine (big_Rat_set.calls Div hD k n gz v0 v1 v2 As A6 cs c6 s d r1 r2 _ (HZ.out _ (below_step B2.out ?q1)) (HW7.out _ ?q1) (by first | exact a6.out | exact a6.out.drewN _) HR.out).mono ?_; (case q1 => repeat (first | exact Below.refl _ _ | exact B9.out | exact B2.out | exact B1.out | exact B0.out | apply below_alloc | apply pw_below_drewN | apply below_drew1)); rintro e w7 ⟨rfl, hk, he⟩; replace hk := Aside0.mk hk; replace he := Aside0.mk he))
  rename_i hHeld
  clear hHeld HS0 HS2 hcx0 hcx1
  go_wp2
  go_ret
  exact ⟨rfl, (Only.of_below (below_step B2.out (by repeat (first | exact Below.refl _ _ | exact B9.out | exact B2.out | exact B1.out | exact B0.out | apply below_alloc | apply pw_below_drewN | apply below_drew1))) gz).trans hk.out, he.out⟩

end Go.Proofs.YtbanemecfobonaaDoor.B
/- The share of one message. -/
namespace Go.Proofs.YtbanemecfobonaaDoor.B
open Go.RowKit Go.Proofs.YtbanemecfobonaaDoorW.PrintWords Go.Proofs.YtbanemecfobonaaDoorW.PrintLast Go.Proofs.YtbanemecfobonaaDoorW.PrintMore
set_option linter.unusedVariables false
set_option linter.unusedSimpArgs false

theorem ev1 : ratSet (divS 20) 20 20 [135] [1000] = some ([27], [200]) := by decide +kernel
theorem ev2 : ratAdd (divS 20) 20 20 [] [] [27] [200] = some ([27], [200]) := by decide +kernel
theorem ev3 : big_of.f 20 135 = some [135] := by decide +kernel
theorem ev4 : big_of.f 20 1000 = some [1000] := by decide +kernel
theorem ev5 : bus_bits.f 1 8 1000 0 = some 135 := by decide +kernel

/-- A ratio that has just been made. -/
def Z3 (w : World) (g : Nat) : Prop := w.heap[g]? = some (.cells #[.bool false, .slice none 0 0, .slice none 0 0] 123 (0, 0))
section
variable {w w' : World} {g : Nat}
theorem Z3.below (h : Z3 w g) (hb : Below w.heap.size w w') : Z3 w' g := blk_below h hb
theorem Z3.new (w : World) : Z3 (w.alloc (.cells #[.bool false, .slice none 0 0, .slice none 0 0] 123)) w.heap.size := blk_new _ _
theorem Z3.new' (hg : g = w.heap.size) : Z3 (w.alloc (.cells #[.bool false, .slice none 0 0, .slice none 0 0] 123)) g := hg ▸ blk_new _ _
theorem Z3.alloc (h : Z3 w g) (o : Obj) : Z3 (w.alloc o) g := h.below (below_alloc (Below.refl _ _) o)
theorem Z3.drewN (h : Z3 w g) (n : Nat) : Z3 (w.drewN n) g := h.below (pw_below_drewN (Below.refl _ _) n)
theorem Z3.drew (h : Z3 w g) : Z3 w.drew g := h.below (below_drew1 (Below.refl _ _))
theorem Z3.rat (h : Z3 w g) : RatB w g [] [] := ⟨none, 0, none, 0, h, WA.nil _, WA.nil _⟩
end
/-- NewInt, told by a base world. -/
theorem big_NewInt.calls2 (k : Nat) (n : Int) (r : List Int) (w W : World) (hn : 0 ≤ n) (h : big_of.f k n = some r) (hn2 : n < 9223372036854775808) (hB : Below w.heap.size w W) :
    Calls Tryd.prog 70 #[.int .i64 n] W fun e w' => ∃ g, e = .returned (.pointer (some ⟨g, 0, none⟩)) ∧ W.heap.size ≤ g ∧ Below W.heap.size W w' ∧ Below w.heap.size w w' ∧ FI w w' g r :=
  (big_NewInt.calls k n r W hn h hn2).mono fun e w' ⟨g, he, hs, hb, A, c, ha, hh⟩ => ⟨g, he, hs, hb, below_step hB hb, Nat.le_trans hB.size hs, A, c, hh, ha⟩

set_option maxHeartbeats 2000000 in
set_option maxRecDepth 100000 in
theorem bus_share.calls1 (g c : Nat) (w : World) (hg : w.heap[g]? = some (.cells #[.int .i64 1, .int .i64 8, .int .i64 1000, .int .i64 0] 55 (0, 0))) :
    Calls Tryd.prog 69 #[.slice (some ⟨g, 0, none⟩) 1 c] w fun e w' => ∃ g', e = .returned (.pointer (some ⟨g', 0, none⟩)) ∧ w.heap.size ≤ g' ∧ Below w.heap.size w w' ∧ RatB w' g' [27] [200] := by
  have hg2 := blk_below hg (below_alloc (Below.refl _ _) (.cells #[.bool false, .slice none 0 0, .slice none 0 0] 123))
  have hc0 : (w.alloc (.cells #[.bool false, .slice none 0 0, .slice none 0 0] 123)).cell? ⟨g, 0, none⟩ = some (.int .i64 1) := (blk_cell hg2 0).trans rfl
  have hc1 : (w.alloc (.cells #[.bool false, .slice none 0 0, .slice none 0 0] 123)).cell? ⟨g, 1, none⟩ = some (.int .i64 8) := (blk_cell hg2 1).trans rfl
  have hc2 : (w.alloc (.cells #[.bool false, .slice none 0 0, .slice none 0 0] 123)).cell? ⟨g, 2, none⟩ = some (.int .i64 1000) := (blk_cell hg2 2).trans rfl
  have hc3 : (w.alloc (.cells #[.bool false, .slice none 0 0, .slice none 0 0] 123)).cell? ⟨g, 3, none⟩ = some (.int .i64 0) := (blk_cell hg2 3).trans rfl
  clear hg hg2
  have hu55 := Tryd.underlying55
  go_enter Tryd.func69, Tryd.ntmps69
  go_wp2
  refine wp_loop_rounds 2 ?_
  rw [rounds_succ]
  go_wp2
  have B0 : Below w.heap.size w ((w.alloc (.cells #[.bool false, .slice none 0 0, .slice none 0 0] 123)).alloc (.cells #[.int .i64 1, .int .i64 8, .int .i64 1000, .int .i64 0] 55)) := below_alloc (below_alloc (Below.refl _ _) _) _
  have R0 : Z3 ((w.alloc (.cells #[.bool false, .slice none 0 0, .slice none 0 0] 123)).alloc (.cells #[.int .i64 1, .int .i64 8, .int .i64 1000, .int .i64 0] 55)) w.heap.size := (Z3.new w).alloc _
  have M0 : ((w.alloc (.cells #[.bool false, .slice none 0 0, .slice none 0 0] 123)).alloc (.cells #[.int .i64 1, .int .i64 8, .int .i64 1000, .int .i64 0] 55)).heap[w.heap.size + 1]? = some (.cells #[.int .i64 1, .int .i64 8, .int .i64 1000, .int .i64 0] 55 (0, 0)) := (World.size_alloc w _) ▸ blk_new (w.alloc (.cells #[.bool false, .slice none 0 0, .slice none 0 0] 123)) (.cells #[.int .i64 1, .int .i64 8, .int .i64 1000, .int .i64 0] 55)
  clear hc0 hc1 hc2 hc3
  generalize (w.alloc (.cells #[.bool false, .slice none 0 0, .slice none 0 0] 123)).alloc (.cells #[.int .i64 1, .int .i64 8, .int .i64 1000, .int .i64 0] 55) = W at B0 R0 M0 ⊢
  have hc0 : W.cell? ⟨w.heap.size + 1, 0, none⟩ = some (.int .i64 1) := (blk_cell M0 0).trans rfl
  have hc1 : W.cell? ⟨w.heap.size + 1, 1, none⟩ = some (.int .i64 8) := (blk_cell M0 1).trans rfl
  have hc2 : W.cell? ⟨w.heap.size + 1, 2, none⟩ = some (.int .i64 1000) := (blk_cell M0 2).trans rfl
  have hc3 : W.cell? ⟨w.heap.size + 1, 3, none⟩ = some (.int .i64 0) := (blk_cell M0 3).trans rfl
  have HS0 : Aside0 (∀ W1, Below W.heap.size W W1 → (fun w1 => w1.cell? ⟨w.heap.size + 1, 0, none⟩ = some (.int .i64 1) ∧ w1.cell? ⟨w.heap.size + 1, 1, none⟩ = some (.int .i64 8) ∧ w1.cell? ⟨w.heap.size + 1, 2, none⟩ = some (.int .i64 1000) ∧ w1.cell? ⟨w.heap.size + 1, 3, none⟩ = some (.int .i64 0)) W1) := ⟨fun W1 hb => ⟨(blk_cell (blk_below M0 hb) 0).trans rfl, (blk_cell (blk_below M0 hb) 1).trans rfl, (blk_cell (blk_below M0 hb) 2).trans rfl, (blk_cell (blk_below M0 hb) 3).trans rfl⟩⟩
  have HS2 : Aside0 (∀ W1 W2, Below W.heap.size W W1 → KeepBut W1 W2 w.heap.size none → (fun w1 => w1.cell? ⟨w.heap.size + 1, 0, none⟩ = some (.int .i64 1) ∧ w1.cell? ⟨w.heap.size + 1, 1, none⟩ = some (.int .i64 8) ∧ w1.cell? ⟨w.heap.size + 1, 2, none⟩ = some (.int .i64 1000) ∧ w1.cell? ⟨w.heap.size + 1, 3, none⟩ = some (.int .i64 0)) W2) := ⟨fun W1 W2 hb hk => ⟨keep_cell hk ((blk_cell (blk_below M0 hb) 0).trans rfl) (by simp only; omega), keep_cell hk ((blk_cell (blk_below M0 hb) 1).trans rfl) (by simp only; omega), keep_cell hk ((blk_cell (blk_below M0 hb) 2).trans rfl) (by simp only; omega), keep_cell hk ((blk_cell (blk_below M0 hb) 3).trans rfl) (by simp only; omega)⟩⟩
  have HR : Aside0 (∀ W1, Below W.heap.size W W1 → Z3 W1 w.heap.size) := ⟨fun W1 hb => R0.below hb⟩
  have HB0 := Aside0.mk B0
  have HLW := Aside0.mk (blk_lt M0)
  have hu55 := Tryd.underlying55
  clear M0 R0 B0
  go_region_held3 (fun w1 => w1.cell? ⟨w.heap.size + 1, 0, none⟩ = some (.int .i64 1) ∧ w1.cell? ⟨w.heap.size + 1, 1, none⟩ = some (.int .i64 8) ∧ w1.cell? ⟨w.heap.size + 1, 2, none⟩ = some (.int .i64 1000) ∧ w1.cell? ⟨w.heap.size + 1, 3, none⟩ = some (.int .i64 0)) (first | exact ⟨hc0, hc1, hc2, hc3⟩ | exact HS2.out _ _ (by repeat (first | exact Below.refl _ _ | exact B6.out | exact B5.out | exact B4.out | exact B3.out | exact B2.out | exact B1.out | apply below_alloc | apply pw_below_drewN | apply below_drew1)) hk.out.2 | exact HS0.out _ (by repeat (first | exact Below.refl _ _ | exact B6.out | exact B5.out | exact B4.out | exact B3.out | exact B2.out | exact B1.out | apply below_alloc | apply pw_below_drewN | apply below_drew1)) | go_keep)
    (first
    | (go_at_call 87; refine (bus_bits.calls 1 8 1000 0 135 _ ev5).mono ?_; rintro e w1 ⟨rfl, b1⟩; have B1 : Aside0 (Below W.heap.size W w1) := ⟨below_step (by repeat (first | exact Below.refl _ _ | exact B6.out | exact B5.out | exact B4.out | exact B3.out | exact B2.out | exact B1.out | apply below_alloc | apply pw_below_drewN | apply below_drew1)) b1⟩; replace b1 := Aside0.mk b1)
      | (go_at_call_of 70 (Value.int .i64 135); refine (big_NewInt.calls2 20 135 [135] W _ (by decide) ev3 (by decide) ?q1).mono ?_; (case q1 => repeat (first | exact Below.refl _ _ | exact B6.out | exact B5.out | exact B4.out | exact B3.out | exact B2.out | exact B1.out | apply below_alloc | apply pw_below_drewN | apply below_drew1)); rintro e w2 ⟨g2, rfl, s2, b2, B2, f2⟩; replace b2 := Aside0.mk b2; replace B2 := Aside0.mk B2; replace f2 := Aside0.mk f2; clear s2)
      | (go_at_call_of 70 (Value.int .i64 1000); refine (big_NewInt.calls2 20 1000 [1000] W _ (by decide) ev4 (by decide) ?q1).mono ?_; (case q1 => repeat (first | exact Below.refl _ _ | exact B6.out | exact B5.out | exact B4.out | exact B3.out | exact B2.out | exact B1.out | apply below_alloc | apply pw_below_drewN | apply below_drew1)); rintro e w3 ⟨g3, rfl, s3, b3, B3, f3⟩; replace b3 := Aside0.mk b3; replace B3 := Aside0.mk B3; replace f3 := Aside0.mk f3; clear s3)
      | (go_at_call 96; refine (big_Rat_SetFrac.calls (divS 20) (divS_ok 20) 20 20 _ g2 g3 (.bool false) (.slice none 0 0) (.slice none 0 0) [135] [1000] [27] [200] _ ?q1 (FI.int (w := W) ?q2) (FI.int (w := W) ?q3) ev1).mono ?_; (case q1 => (change Z3 _ _; repeat (first | exact Z3.new _ | exact Z3.new' rfl | with_reducible refine Z3.below ?_ b1.out | with_reducible refine Z3.below ?_ b2.out | with_reducible refine Z3.below ?_ b3.out | with_reducible refine Z3.drewN ?_ _ | with_reducible refine Z3.drew ?_ | with_reducible refine Z3.alloc ?_ _))); (case q2 => repeat (first | with_reducible exact f2.out | with_reducible exact f3.out | with_reducible refine FI.below ?_ b3.out | with_reducible refine FI.drewN ?_ _ | with_reducible refine FI.drew ?_ | with_reducible refine FI.alloc ?_ _)); (case q3 => repeat (first | with_reducible exact f2.out | with_reducible exact f3.out | with_reducible refine FI.below ?_ b3.out | with_reducible refine FI.drewN ?_ _ | with_reducible refine FI.drew ?_ | with_reducible refine FI.alloc ?_ _)); rintro e w4 ⟨rfl, o4, r4⟩; have B4 : Aside0 (Below W.heap.size W w4) := ⟨o4.below (by repeat (first | exact Below.refl _ _ | exact B6.out | exact B5.out | exact B4.out | exact B3.out | exact B2.out | exact B1.out | apply below_alloc | apply pw_below_drewN | apply below_drew1)) (by (have z0_ : True := trivial; (try have y1_ := B1.out.size); (try have y2_ := B2.out.size); (try have y3_ := B3.out.size); (try have y4_ := b1.out.size); (try have y5_ := b2.out.size); (try have y6_ := b3.out.size); (try simp only [World.size_alloc, drew_size] at y1_); (try simp only [World.size_alloc, drew_size] at y2_); (try simp only [World.size_alloc, drew_size] at y3_); (try simp only [World.size_alloc, drew_size] at y4_); (try simp only [World.size_alloc, drew_size] at y5_); (try simp only [World.size_alloc, drew_size] at y6_); first | omega | (simp only [World.size_alloc, drew_size]; omega)))⟩; replace r4 := Aside0.mk r4; clear o4)
      | (go_at_call 102; refine (big_Rat_Add.calls (divS 20) (divS_ok 20) 20 20 w.heap.size w.heap.size _ (.bool false) (.slice none 0 0) (.slice none 0 0) [] [] [27] [200] [27] [200] _ (HR.out _ ?q1) (HR.out _ ?q1).rat (by first | exact r4.out | exact r4.out.below (pw_below_drewN (Below.refl _ _) _)) ev2).mono ?_; (case q1 => repeat (first | exact Below.refl _ _ | exact B6.out | exact B5.out | exact B4.out | exact B3.out | exact B2.out | exact B1.out | apply below_alloc | apply pw_below_drewN | apply below_drew1)); rintro e w5 ⟨rfl, hk, r5⟩; have B5 : Aside0 (Below w.heap.size w w5) := ⟨hk.below (below_step HB0.out (by repeat (first | exact Below.refl _ _ | exact B6.out | exact B5.out | exact B4.out | exact B3.out | exact B2.out | exact B1.out | apply below_alloc | apply pw_below_drewN | apply below_drew1))) (Nat.le_refl _)⟩; replace hk := Aside0.mk hk; replace r5 := Aside0.mk r5))
  all_goals (rename_i hHeld; clear hHeld HS0 HS2 hc0 hc1 hc2 hc3; go_wp2; rw [rounds_succ]; go_wp2; go_ret; exact ⟨_, rfl, Nat.le_refl _, B5.out, r5.out⟩)
end Go.Proofs.YtbanemecfobonaaDoor.B
/- Delay at one message: the closures, fixed, delay. -/
namespace Go.Proofs.YtbanemecfobonaaDoor.B
open Go.RowKit Go.Proofs.YtbanemecfobonaaDoorW.PrintWords Go.Proofs.YtbanemecfobonaaDoorW.PrintLast Go.Proofs.YtbanemecfobonaaDoorW.PrintMore
set_option linter.unusedVariables false
set_option linter.unusedSimpArgs false

set_option maxHeartbeats 400000 in
set_option maxRecDepth 100000 in
theorem f97_1 (w : World) : Calls Tryd.prog 97 #[.agg #[.int .i64 1, .int .i64 8, .int .i64 1000, .int .i64 0], .int .i64 1] w fun e w' => e = .returned (.int .i64 1) ∧ Below w.heap.size w w' := by
  have hu55 := Tryd.underlying55
  go_enter Tryd.func97, Tryd.ntmps97
  go_wp2
  go_ret
  exact ⟨rfl, below_alloc (Below.refl _ _) _⟩

set_option maxHeartbeats 400000 in
set_option maxRecDepth 100000 in
theorem f97_135 (w : World) : Calls Tryd.prog 97 #[.agg #[.int .i64 1, .int .i64 8, .int .i64 1000, .int .i64 0], .int .i64 135] w fun e w' => e = .returned (.int .i64 1) ∧ Below w.heap.size w w' := by
  have hu55 := Tryd.underlying55
  go_enter Tryd.func97, Tryd.ntmps97
  go_wp2
  go_ret
  exact ⟨rfl, below_alloc (Below.refl _ _) _⟩

/-- What the closures of delay see: nothing blocks, one message, nothing wins. -/
def Env (w : World) (b i m v : Nat) : Prop :=
  w.cell? ⟨b, 0, none⟩ = some (.int .i64 0) ∧ w.cell? ⟨i, 0, none⟩ = some (.func (.func 97) #[] #[]) ∧ w.cell? ⟨m, 0, none⟩ = some (.int .i64 1) ∧ w.cell? ⟨m, 1, none⟩ = some (.int .i64 8) ∧ w.cell? ⟨m, 2, none⟩ = some (.int .i64 1000) ∧ w.cell? ⟨m, 3, none⟩ = some (.int .i64 0) ∧ w.cell? ⟨v, 0, none⟩ = some (.slice none 0 0)
theorem Env.below {w w' : World} {b i m v : Nat} (h : Env w b i m v) (hb : Below w.heap.size w w') : Env w' b i m v := by
  obtain ⟨h0, h1, h2, h3, h4, h5, h6⟩ := h
  have k : ∀ {a : Addr} {x : Value}, w.cell? a = some x → w'.cell? a = some x := fun hx => (hb.cell (World.block_lt_of_cell? w _ hx)).trans hx
  exact ⟨k h0, k h1, k h2, k h3, k h4, k h5, k h6⟩

set_option maxHeartbeats 800000 in
set_option maxRecDepth 100000 in
theorem f99_1 (b i m v : Nat) (w : World) (h : Env w b i m v) : Calls Tryd.prog 99 #[.int .i64 1, .pointer (some ⟨b, 0, none⟩), .pointer (some ⟨i, 0, none⟩), .pointer (some ⟨m, 0, none⟩), .pointer (some ⟨v, 0, none⟩)] w fun e w' => e = .returned (.int .i64 135) ∧ Below w.heap.size w w' := by
  have hu55 := Tryd.underlying55
  have HE := Aside0.mk h
  obtain ⟨h0, hi, h1, h2, h3, h4, h5⟩ := h
  go_enter Tryd.func99, Tryd.ntmps99
  go_wp2
  go_region_held3 (fun w1 => w1.cell? ⟨b, 0, none⟩ = some (.int .i64 0) ∧ w1.cell? ⟨i, 0, none⟩ = some (.func (.func 97) #[] #[]) ∧ w1.cell? ⟨m, 0, none⟩ = some (.int .i64 1) ∧ w1.cell? ⟨m, 1, none⟩ = some (.int .i64 8) ∧ w1.cell? ⟨m, 2, none⟩ = some (.int .i64 1000) ∧ w1.cell? ⟨m, 3, none⟩ = some (.int .i64 0) ∧ w1.cell? ⟨v, 0, none⟩ = some (.slice none 0 0)) (first | exact ⟨h0, hi, h1, h2, h3, h4, h5⟩ | exact HE.out.below (by repeat (first | exact Below.refl _ _ | exact B9.out | exact B8.out | exact B7.out | exact B6.out | exact B5.out | exact B4.out | exact B3.out | exact B2.out | exact B1.out | apply below_alloc | apply pw_below_drewN | apply below_drew1)) | fail)
    (first
    | (go_at_call 97; refine (f97_1 _).mono ?_; rintro e w1 ⟨rfl, b1⟩; have B1 : Aside0 (Below w.heap.size w w1) := ⟨below_step (by repeat (first | exact Below.refl _ _ | exact B9.out | exact B8.out | exact B7.out | exact B6.out | exact B5.out | exact B4.out | exact B3.out | exact B2.out | exact B1.out | apply below_alloc | apply pw_below_drewN | apply below_drew1)) b1⟩; clear b1)
    | (go_at_call 87; refine (bus_bits.calls 1 8 1000 0 135 _ ev5).mono ?_; rintro e w2 ⟨rfl, b2⟩; have B2 : Aside0 (Below w.heap.size w w2) := ⟨below_step (by repeat (first | exact Below.refl _ _ | exact B9.out | exact B8.out | exact B7.out | exact B6.out | exact B5.out | exact B4.out | exact B3.out | exact B2.out | exact B1.out | apply below_alloc | apply pw_below_drewN | apply below_drew1)) b2⟩; clear b2))
  all_goals (rename_i hHeld; obtain ⟨k0, ki, k1, k2, k3, k4, k5⟩ := hHeld; go_wp2; refine wp_loop_rounds 1 ?_; rw [rounds_succ]; go_wp2; go_ret; exact ⟨rfl, by repeat (first | exact Below.refl _ _ | exact B9.out | exact B8.out | exact B7.out | exact B6.out | exact B5.out | exact B4.out | exact B3.out | exact B2.out | exact B1.out | apply below_alloc | apply pw_below_drewN | apply below_drew1)⟩)

set_option maxHeartbeats 800000 in
set_option maxRecDepth 100000 in
theorem f99_135 (b i m v : Nat) (w : World) (h : Env w b i m v) : Calls Tryd.prog 99 #[.int .i64 135, .pointer (some ⟨b, 0, none⟩), .pointer (some ⟨i, 0, none⟩), .pointer (some ⟨m, 0, none⟩), .pointer (some ⟨v, 0, none⟩)] w fun e w' => e = .returned (.int .i64 135) ∧ Below w.heap.size w w' := by
  have hu55 := Tryd.underlying55
  have HE := Aside0.mk h
  obtain ⟨h0, hi, h1, h2, h3, h4, h5⟩ := h
  go_enter Tryd.func99, Tryd.ntmps99
  go_wp2
  go_region_held3 (fun w1 => w1.cell? ⟨b, 0, none⟩ = some (.int .i64 0) ∧ w1.cell? ⟨i, 0, none⟩ = some (.func (.func 97) #[] #[]) ∧ w1.cell? ⟨m, 0, none⟩ = some (.int .i64 1) ∧ w1.cell? ⟨m, 1, none⟩ = some (.int .i64 8) ∧ w1.cell? ⟨m, 2, none⟩ = some (.int .i64 1000) ∧ w1.cell? ⟨m, 3, none⟩ = some (.int .i64 0) ∧ w1.cell? ⟨v, 0, none⟩ = some (.slice none 0 0)) (first | exact ⟨h0, hi, h1, h2, h3, h4, h5⟩ | exact HE.out.below (by repeat (first | exact Below.refl _ _ | exact B9.out | exact B8.out | exact B7.out | exact B6.out | exact B5.out | exact B4.out | exact B3.out | exact B2.out | exact B1.out | apply below_alloc | apply pw_below_drewN | apply below_drew1)) | fail)
    (first
    | (go_at_call 97; refine (f97_135 _).mono ?_; rintro e w1 ⟨rfl, b1⟩; have B1 : Aside0 (Below w.heap.size w w1) := ⟨below_step (by repeat (first | exact Below.refl _ _ | exact B9.out | exact B8.out | exact B7.out | exact B6.out | exact B5.out | exact B4.out | exact B3.out | exact B2.out | exact B1.out | apply below_alloc | apply pw_below_drewN | apply below_drew1)) b1⟩; clear b1)
    | (go_at_call 87; refine (bus_bits.calls 1 8 1000 0 135 _ ev5).mono ?_; rintro e w2 ⟨rfl, b2⟩; have B2 : Aside0 (Below w.heap.size w w2) := ⟨below_step (by repeat (first | exact Below.refl _ _ | exact B9.out | exact B8.out | exact B7.out | exact B6.out | exact B5.out | exact B4.out | exact B3.out | exact B2.out | exact B1.out | apply below_alloc | apply pw_below_drewN | apply below_drew1)) b2⟩; clear b2))
  all_goals (rename_i hHeld; obtain ⟨k0, ki, k1, k2, k3, k4, k5⟩ := hHeld; go_wp2; refine wp_loop_rounds 1 ?_; rw [rounds_succ]; go_wp2; go_ret; exact ⟨rfl, by repeat (first | exact Below.refl _ _ | exact B9.out | exact B8.out | exact B7.out | exact B6.out | exact B5.out | exact B4.out | exact B3.out | exact B2.out | exact B1.out | apply below_alloc | apply pw_below_drewN | apply below_drew1)⟩)

set_option maxHeartbeats 800000 in
set_option maxRecDepth 100000 in
theorem f100_0 (b q m v i : Nat) (w : World) (h : Env w b i m v) (hq : w.cell? ⟨q, 0, none⟩ = some (.int .i64 0)) : Calls Tryd.prog 100 #[.int .i64 0, .pointer (some ⟨b, 0, none⟩), .pointer (some ⟨q, 0, none⟩), .pointer (some ⟨m, 0, none⟩), .pointer (some ⟨v, 0, none⟩)] w fun e w' => e = .returned (.int .i64 0) ∧ Below w.heap.size w w' := by
  have hu55 := Tryd.underlying55
  have HE := Aside0.mk h
  have HQ : Aside0 (∀ w1, Below w.heap.size w w1 → w1.cell? ⟨q, 0, none⟩ = some (.int .i64 0)) := ⟨fun w1 hb => (hb.cell (World.block_lt_of_cell? w _ hq)).trans hq⟩
  obtain ⟨h0, hi, h1, h2, h3, h4, h5⟩ := h
  go_enter Tryd.func100, Tryd.ntmps100
  go_wp2
  go_region_held3 (fun w1 => w1.cell? ⟨q, 0, none⟩ = some (.int .i64 0) ∧ w1.cell? ⟨b, 0, none⟩ = some (.int .i64 0) ∧ w1.cell? ⟨i, 0, none⟩ = some (.func (.func 97) #[] #[]) ∧ w1.cell? ⟨m, 0, none⟩ = some (.int .i64 1) ∧ w1.cell? ⟨m, 1, none⟩ = some (.int .i64 8) ∧ w1.cell? ⟨m, 2, none⟩ = some (.int .i64 1000) ∧ w1.cell? ⟨m, 3, none⟩ = some (.int .i64 0) ∧ w1.cell? ⟨v, 0, none⟩ = some (.slice none 0 0)) (first | exact ⟨hq, h0, hi, h1, h2, h3, h4, h5⟩ | exact ⟨HQ.out _ (by repeat (first | exact Below.refl _ _ | exact B9.out | exact B8.out | exact B7.out | exact B6.out | exact B5.out | exact B4.out | exact B3.out | exact B2.out | exact B1.out | apply below_alloc | apply pw_below_drewN | apply below_drew1)), HE.out.below (by repeat (first | exact Below.refl _ _ | exact B9.out | exact B8.out | exact B7.out | exact B6.out | exact B5.out | exact B4.out | exact B3.out | exact B2.out | exact B1.out | apply below_alloc | apply pw_below_drewN | apply below_drew1))⟩ | fail)
    (first
    | (go_at_call 87; refine (bus_bits.calls 1 8 1000 0 135 _ ev5).mono ?_; rintro e w2 ⟨rfl, b2⟩; have B2 : Aside0 (Below w.heap.size w w2) := ⟨below_step (by repeat (first | exact Below.refl _ _ | exact B9.out | exact B8.out | exact B7.out | exact B6.out | exact B5.out | exact B4.out | exact B3.out | exact B2.out | exact B1.out | apply below_alloc | apply pw_below_drewN | apply below_drew1)) b2⟩; clear b2))
  all_goals (rename_i hHeld; obtain ⟨kq, k0, ki, k1, k2, k3, k4, k5⟩ := hHeld; go_wp2; refine wp_loop_rounds 1 ?_; rw [rounds_succ]; go_wp2; go_ret; exact ⟨rfl, by repeat (first | exact Below.refl _ _ | exact B9.out | exact B8.out | exact B7.out | exact B6.out | exact B5.out | exact B4.out | exact B3.out | exact B2.out | exact B1.out | apply below_alloc | apply pw_below_drewN | apply below_drew1)⟩)

set_option maxHeartbeats 800000 in
set_option maxRecDepth 100000 in
theorem fixed_1 (b i m v : Nat) (w : World) (h : Env w b i m v) : Calls Tryd.prog 98 #[.int .i64 1, .func (.func 99) #[] #[.pointer (some ⟨b, 0, none⟩), .pointer (some ⟨i, 0, none⟩), .pointer (some ⟨m, 0, none⟩), .pointer (some ⟨v, 0, none⟩)]] w fun e w' => e = .returned (.tuple #[.int .i64 135, .bool true]) ∧ Below w.heap.size w w' := by
  have HE := Aside0.mk h
  clear h
  go_enter Tryd.func98, Tryd.ntmps98
  go_wp2
  refine wp_loop_rounds 2 ?_
  rw [rounds_succ]
  go_wp2_with (first | (go_at_call 99; refine (f99_1 b i m v _ HE.out).mono ?_; rintro e w1 ⟨rfl, b1⟩; have B1 := Aside0.mk b1; clear b1))
  rw [rounds_succ]
  go_wp2_with (first | (go_at_call 99; refine (f99_135 b i m v _ (HE.out.below B1.out)).mono ?_; rintro e w2 ⟨rfl, b2⟩; have B2 := Aside0.mk (below_step B1.out b2); clear b2))
  first | go_ret2 | go_ret
  exact ⟨rfl, B2.out⟩

set_option maxHeartbeats 800000 in
set_option maxRecDepth 100000 in
theorem fixed_0 (b q m v i : Nat) (w : World) (h : Env w b i m v) (hq : w.cell? ⟨q, 0, none⟩ = some (.int .i64 0)) : Calls Tryd.prog 98 #[.int .i64 0, .func (.func 100) #[] #[.pointer (some ⟨b, 0, none⟩), .pointer (some ⟨q, 0, none⟩), .pointer (some ⟨m, 0, none⟩), .pointer (some ⟨v, 0, none⟩)]] w fun e w' => e = .returned (.tuple #[.int .i64 0, .bool true]) ∧ Below w.heap.size w w' := by
  have HE := Aside0.mk h
  have HQ := Aside0.mk hq
  clear h hq
  go_enter Tryd.func98, Tryd.ntmps98
  go_wp2
  refine wp_loop_rounds 2 ?_
  rw [rounds_succ]
  go_wp2_with (first | (go_at_call 100; refine (f100_0 b q m v i _ HE.out HQ.out).mono ?_; rintro e w1 ⟨rfl, b1⟩; have B1 := Aside0.mk b1; clear b1))
  first | go_ret2 | go_ret
  exact ⟨rfl, B1.out⟩
end Go.Proofs.YtbanemecfobonaaDoor.B
/- Delay at one message: delay. -/
namespace Go.Proofs.YtbanemecfobonaaDoor.B
open Go.RowKit Go.Proofs.YtbanemecfobonaaDoorW.PrintWords Go.Proofs.YtbanemecfobonaaDoorW.PrintLast Go.Proofs.YtbanemecfobonaaDoorW.PrintMore
set_option linter.unusedVariables false
set_option linter.unusedSimpArgs false

theorem ev6 : big_of.f 20 1 = some [1] := by decide +kernel
theorem ev7 : ratSet (divS 20) 20 20 [1] [1] = some ([1], [1]) := by decide +kernel
theorem ev8 : ratCmp 20 [27] [200] [1] [1] = some (-1) := by decide +kernel

/-- The message and the empty list that delay has boxed. -/
def MV (w : World) (m v : Nat) : Prop := w.cell? ⟨m, 0, none⟩ = some (.int .i64 1) ∧ w.cell? ⟨m, 1, none⟩ = some (.int .i64 8) ∧ w.cell? ⟨m, 2, none⟩ = some (.int .i64 1000) ∧ w.cell? ⟨m, 3, none⟩ = some (.int .i64 0) ∧ w.cell? ⟨v, 0, none⟩ = some (.slice none 0 0)
theorem MV.below {w w' : World} {m v : Nat} (h : MV w m v) (hb : Below w.heap.size w w') : MV w' m v := by
  obtain ⟨h1, h2, h3, h4, h5⟩ := h
  have k : ∀ {a : Addr} {x : Value}, w.cell? a = some x → w'.cell? a = some x := fun hx => (hb.cell (World.block_lt_of_cell? w _ hx)).trans hx
  exact ⟨k h1, k h2, k h3, k h4, k h5⟩
theorem Env.new {w : World} {m v : Nat} (h : MV w m v) : Env ((w.alloc (.cells #[.int .i64 0] 3)).alloc (.cells #[.func (.func 97) #[] #[]] 125)) w.heap.size (w.heap.size + 1) m v := by
  obtain ⟨h1, h2, h3, h4, h5⟩ := h.below (below_alloc (below_alloc (Below.refl w.heap.size w) (.cells #[.int .i64 0] 3)) (.cells #[.func (.func 97) #[] #[]] 125))
  have e : (w.alloc (.cells #[.int .i64 0] 3)).heap.size = w.heap.size + 1 := World.size_alloc w _
  have hi : ((w.alloc (.cells #[.int .i64 0] 3)).alloc (.cells #[.func (.func 97) #[] #[]] 125)).heap[w.heap.size + 1]? = some (.cells #[.func (.func 97) #[] #[]] 125) := e ▸ blk_new (w.alloc (.cells #[.int .i64 0] 3)) (.cells #[.func (.func 97) #[] #[]] 125)
  exact ⟨(blk_cell (blk_below (blk_new w (.cells #[.int .i64 0] 3)) (below_alloc (Below.refl _ _) (.cells #[.func (.func 97) #[] #[]] 125))) 0).trans rfl, (blk_cell hi 0).trans rfl, h1, h2, h3, h4, h5⟩

theorem keepc {w w' : World} {a : Addr} {x : Value} (hb : Below w.heap.size w w') (h : w.cell? a = some x) : w'.cell? a = some x := (hb.cell (World.block_lt_of_cell? w _ h)).trans h

set_option maxHeartbeats 2000000 in
set_option maxRecDepth 100000 in
theorem bus_delay.calls1 (w : World) : Calls Tryd.prog 67 #[.agg #[.int .i64 1, .int .i64 8, .int .i64 1000, .int .i64 0], .slice none 0 0, .slice none 0 0] w fun e w' => e = .returned (.tuple #[.int .i64 135, .bool true]) ∧ Below w.heap.size w w' := by
  have hu55 := Tryd.underlying55
  have HMV : Aside0 (MV ((w.alloc (.cells #[.int .i64 1, .int .i64 8, .int .i64 1000, .int .i64 0] 55)).alloc (.cells #[.slice none 0 0] 46)) w.heap.size (w.heap.size + 1)) := ⟨by
    have e : (w.alloc (.cells #[.int .i64 1, .int .i64 8, .int .i64 1000, .int .i64 0] 55)).heap.size = w.heap.size + 1 := World.size_alloc w _
    have hv : ((w.alloc (.cells #[.int .i64 1, .int .i64 8, .int .i64 1000, .int .i64 0] 55)).alloc (.cells #[.slice none 0 0] 46)).heap[w.heap.size + 1]? = some (.cells #[.slice none 0 0] 46) := e ▸ blk_new (w.alloc (.cells #[.int .i64 1, .int .i64 8, .int .i64 1000, .int .i64 0] 55)) (.cells #[.slice none 0 0] 46)
    have hm := blk_below (blk_new w (.cells #[.int .i64 1, .int .i64 8, .int .i64 1000, .int .i64 0] 55)) (below_alloc (Below.refl _ _) (.cells #[.slice none 0 0] 46))
    exact ⟨(blk_cell hm 0).trans rfl, (blk_cell hm 1).trans rfl, (blk_cell hm 2).trans rfl, (blk_cell hm 3).trans rfl, (blk_cell hv 0).trans rfl⟩⟩
  have HL : Aside0 ((((w.alloc (.cells #[.int .i64 1, .int .i64 8, .int .i64 1000, .int .i64 0] 55)).alloc (.cells #[.slice none 0 0] 46)).alloc (.cells #[.int .i64 1, .int .i64 8, .int .i64 1000, .int .i64 0] 55)).heap[w.heap.size + 1 + 1]? = some (.cells #[.int .i64 1, .int .i64 8, .int .i64 1000, .int .i64 0] 55)) := ⟨by
    have e : ((w.alloc (.cells #[.int .i64 1, .int .i64 8, .int .i64 1000, .int .i64 0] 55)).alloc (.cells #[.slice none 0 0] 46)).heap.size = w.heap.size + 1 + 1 := by simp only [World.size_alloc]
    exact e ▸ blk_new ((w.alloc (.cells #[.int .i64 1, .int .i64 8, .int .i64 1000, .int .i64 0] 55)).alloc (.cells #[.slice none 0 0] 46)) (.cells #[.int .i64 1, .int .i64 8, .int .i64 1000, .int .i64 0] 55)⟩
  have HB3 : Aside0 (Below ((w.alloc (.cells #[.int .i64 1, .int .i64 8, .int .i64 1000, .int .i64 0] 55)).alloc (.cells #[.slice none 0 0] 46)).heap.size ((w.alloc (.cells #[.int .i64 1, .int .i64 8, .int .i64 1000, .int .i64 0] 55)).alloc (.cells #[.slice none 0 0] 46)) (((w.alloc (.cells #[.int .i64 1, .int .i64 8, .int .i64 1000, .int .i64 0] 55)).alloc (.cells #[.slice none 0 0] 46)).alloc (.cells #[.int .i64 1, .int .i64 8, .int .i64 1000, .int .i64 0] 55))) := ⟨below_alloc (Below.refl _ _) _⟩
  have HB2 : Aside0 (Below w.heap.size w ((w.alloc (.cells #[.int .i64 1, .int .i64 8, .int .i64 1000, .int .i64 0] 55)).alloc (.cells #[.slice none 0 0] 46))) := ⟨below_alloc (below_alloc (Below.refl _ _) _) _⟩
  go_enter Tryd.func67, Tryd.ntmps67
  go_wp2_with (first | (go_at_call 69; refine (bus_share.calls1 (w.heap.size + 1 + 1) 1 _ HL.out).mono ?_; rintro e w1 ⟨g1, rfl, s1, b1, r1⟩; have B1 := Aside0.mk (below_step HB3.out b1); replace s1 := Aside0.mk s1; replace r1 := Aside0.mk r1; replace b1 := Aside0.mk b1) | (go_at_call 70; (with_reducible refine (big_NewInt.calls2 20 1 [1] w1 (w1.alloc (.cells #[.bool false, .slice none 0 0, .slice none 0 0] 123)) (by decide) ev6 (by decide) (below_alloc (Below.refl _ _) _)).mono ?_); rintro e w2 ⟨g2, rfl, s2, b2, B2, f2⟩; replace b2 := Aside0.mk b2; replace B2 := Aside0.mk B2; replace f2 := Aside0.mk f2; clear s2) | (go_at_call 70; (with_reducible refine (big_NewInt.calls2 20 1 [1] w1 w2 (by decide) ev6 (by decide) B2.out).mono ?_); rintro e w3 ⟨g3, rfl, s3, b3, B3, f3⟩; replace b3 := Aside0.mk b3; replace B3 := Aside0.mk B3; replace f3 := Aside0.mk f3; clear s3) | (go_at_call 96; refine (big_Rat_SetFrac.calls (divS 20) (divS_ok 20) 20 20 w1.heap.size g2 g3 (.bool false) (.slice none 0 0) (.slice none 0 0) [1] [1] [1] [1] _ (((Z3.new w1).below b2.out).below b3.out) (f2.out.below b3.out).int f3.out.int ev7).mono ?_; rintro e w4 ⟨rfl, o4, r4⟩; have B4 : Aside0 (Below w1.heap.size w1 w4) := ⟨o4.below B3.out (Nat.le_refl _)⟩; replace r4 := Aside0.mk r4; clear o4) | (go_at_call 95; refine (big_Rat_Cmp.calls 20 g1 w1.heap.size [27] [200] [1] [1] (-1) _ (r1.out.below B4.out) r4.out ev8).mono ?_; rintro e w5 ⟨rfl, b5⟩; have B5 := Aside0.mk (below_step B4.out b5); clear b5))
  clear b1 b2 B2 f2 b3 B3 f3 r4 B4 r1 s1 HL
  have HM5 : Aside0 (MV w5 w.heap.size (w.heap.size + 1)) := ⟨(HMV.out.below B1.out).below B5.out⟩
  have BW5 : Aside0 (Below w.heap.size w w5) := ⟨below_step (below_step HB2.out B1.out) B5.out⟩
  clear HMV HB3 HB2 B1 B5
  refine wp_loop_rounds 1 ?_
  rw [rounds_succ]
  have HE : Aside0 (Env ((w5.alloc (.cells #[.int .i64 0] 3)).alloc (.cells #[.func (.func 97) #[] #[]] 125)) w5.heap.size (w5.heap.size + 1) w.heap.size (w.heap.size + 1)) := ⟨Env.new HM5.out⟩
  have HBE : Aside0 (Below w.heap.size w ((w5.alloc (.cells #[.int .i64 0] 3)).alloc (.cells #[.func (.func 97) #[] #[]] 125))) := ⟨below_alloc (below_alloc BW5.out _) _⟩
  clear HM5 BW5
  go_wp2_with (first | (go_at_call 98; refine (fixed_1 w5.heap.size (w5.heap.size + 1) w.heap.size (w.heap.size + 1) _ HE.out).mono ?_; rintro e w6 ⟨rfl, b6⟩; have HE6 := Aside0.mk (HE.out.below b6); have B6 := Aside0.mk (below_step HBE.out b6); clear b6 HE HBE; obtain ⟨k0, ki, k1, k2, k3, k4, k5⟩ := HE6.out) | (go_at_call 97; refine (f97_135 _).mono ?_; rintro e w7 ⟨rfl, b7⟩; have HE7 := Aside0.mk (HE6.out.below b7); have B7 := Aside0.mk (below_step B6.out b7); clear b7 HE6 B6 k0 ki k1 k2 k3 k4 k5))
  refine wp_loop_rounds 2 ?_
  rw [rounds_succ]
  have HE8 : Aside0 (Env (w7.alloc (.cells #[.int .i64 0] 3)) w5.heap.size (w5.heap.size + 1) w.heap.size (w.heap.size + 1)) := ⟨HE7.out.below (below_alloc (Below.refl _ _) _)⟩
  have HQ8 : Aside0 ((w7.alloc (.cells #[.int .i64 0] 3)).cell? ⟨w7.heap.size, 0, none⟩ = some (.int .i64 0)) := ⟨(blk_cell (blk_new w7 (.cells #[.int .i64 0] 3)) 0).trans rfl⟩
  have B8 : Aside0 (Below w.heap.size w (w7.alloc (.cells #[.int .i64 0] 3))) := ⟨below_alloc B7.out _⟩
  clear HE7 B7
  go_wp2_with (first | (go_at_call 98; refine (fixed_0 w5.heap.size w7.heap.size w.heap.size (w.heap.size + 1) (w5.heap.size + 1) _ HE8.out HQ8.out).mono ?_; rintro e w9 ⟨rfl, b9⟩; have HE9 := Aside0.mk (HE8.out.below b9); have HQ9 : Aside0 (w9.cell? ⟨w7.heap.size, 0, none⟩ = some (.int .i64 0)) := ⟨keepc b9 HQ8.out⟩; have B9 := Aside0.mk (below_step B8.out b9); clear b9 HE8 HQ8 B8))
  have q0 := HQ9.out
  obtain ⟨k0, ki, k1, k2, k3, k4, k5⟩ := HE9.out
  have HS : Aside0 (∀ W1, Below w9.heap.size w9 W1 → (fun w1 => w1.cell? ⟨w7.heap.size, 0, none⟩ = some (.int .i64 0) ∧ w1.cell? ⟨w.heap.size, 0, none⟩ = some (.int .i64 1) ∧ w1.cell? ⟨w.heap.size, 1, none⟩ = some (.int .i64 8) ∧ w1.cell? ⟨w.heap.size, 2, none⟩ = some (.int .i64 1000) ∧ w1.cell? ⟨w.heap.size, 3, none⟩ = some (.int .i64 0)) W1) := ⟨fun W1 hb => by
    obtain ⟨_, _, h1, h2, h3, h4, _⟩ := HE9.out.below hb
    exact ⟨(hb.cell (World.block_lt_of_cell? _ _ HQ9.out)).trans HQ9.out, h1, h2, h3, h4⟩⟩
  go_region_held3 (fun w1 => w1.cell? ⟨w7.heap.size, 0, none⟩ = some (.int .i64 0) ∧ w1.cell? ⟨w.heap.size, 0, none⟩ = some (.int .i64 1) ∧ w1.cell? ⟨w.heap.size, 1, none⟩ = some (.int .i64 8) ∧ w1.cell? ⟨w.heap.size, 2, none⟩ = some (.int .i64 1000) ∧ w1.cell? ⟨w.heap.size, 3, none⟩ = some (.int .i64 0)) (first | exact ⟨q0, k1, k2, k3, k4⟩ | exact HS.out _ b10.out | exact HS.out _ (below_drew1 b10.out) | go_keep)
    (first
    | (go_at_call 87; refine (bus_bits.calls 1 8 1000 0 135 _ ev5).mono ?_; rintro e w10 ⟨rfl, b10⟩; replace b10 : Aside0 (Below w9.heap.size w9 w10) := ⟨below_step (by repeat (first | exact Below.refl _ _ | apply pw_below_drewN | apply below_drew1)) b10⟩))
  all_goals (rename_i hHeld; clear hHeld HS q0 k0 ki k1 k2 k3 k4 k5; go_wp2; rw [rounds_succ]; go_wp2; (first | go_ret2 | go_ret); exact ⟨rfl, by repeat (first | exact below_step B9.out b10.out | apply pw_below_drewN | apply below_drew1)⟩)
end Go.Proofs.YtbanemecfobonaaDoor.B
/- Delay, as far as alive asks: at one message. -/
namespace Go.Proofs.YtbanemecfobonaaDoor.B
open Go.RowKit Go.Proofs.YtbanemecfobonaaDoorW.PrintWords Go.Proofs.YtbanemecfobonaaDoorW.PrintLast Go.Proofs.YtbanemecfobonaaDoorW.PrintMore
set_option linter.unusedVariables false
set_option linter.unusedSimpArgs false

/-- One message, at an address. -/
def M1 (w : World) (ad : Addr) : Prop :=
  w.cell? ad = some (.int .i64 1) ∧ w.cell? ⟨ad.block, ad.off + 1, none⟩ = some (.int .i64 8) ∧ w.cell? ⟨ad.block, ad.off + 2, none⟩ = some (.int .i64 1000) ∧ w.cell? ⟨ad.block, ad.off + 3, none⟩ = some (.int .i64 0)
theorem M1.below {w w' : World} {ad : Addr} (h : M1 w ad) (hb : Below w.heap.size w w') : M1 w' ad := by
  obtain ⟨h1, h2, h3, h4⟩ := h
  exact ⟨keepc hb h1, keepc hb h2, keepc hb h3, keepc hb h4⟩
theorem M1.of_C {w : World} {A : Option Addr} (h : Kd.C k55 w A 1 [⟨1, 8, 1000, 0⟩]) : ∃ ad, A = some ad ∧ M1 w ad := by
  obtain ⟨ad, e, h1, h2, h3, h4⟩ := at_T55 h 0 (by decide) (by decide)
  exact ⟨ad, e, h1, h2, h3, h4⟩
set_option maxHeartbeats 400000 in
set_option maxRecDepth 100000 in
theorem bus_sent.calls1 (ad : Addr) (c : Nat) (w : World) (h : M1 w ad) :
    Calls Tryd.prog 64 #[.slice (some ad) 1 c] w fun e w' => e = .returned (.bool true) ∧ Below w.heap.size w w' := by
  have B1 : Aside0 (Below w.heap.size w ((w.alloc (.map #[] 0)).alloc (.cells #[.int .i64 1, .int .i64 8, .int .i64 1000, .int .i64 0] 55))) := ⟨below_alloc (below_alloc (Below.refl _ _) _) _⟩
  have HS : Aside0 (Seen ((w.alloc (.map #[] 0)).alloc (.cells #[.int .i64 1, .int .i64 8, .int .i64 1000, .int .i64 0] 55)) w.heap.size 0 []) := ⟨(Seen.made w).alloc _⟩
  have hlk := Seen.lookup_run (z := 1) (by decide) HS.out
  obtain ⟨h1, h2, h3, h4⟩ := h.below (below_alloc (Below.refl _ _) (.map #[] 0))
  have hu55 := Tryd.underlying55
  have hmk : ∀ w : World, (Instr.makeMap 87 none).run Tryd.prog w = .ok (.map (some w.heap.size)) (w.alloc (.map #[] 0)) := fun w => by kernel_rfl
  go_enter Tryd.func64, Tryd.ntmps64
  go_wp2
  refine wp_loop_rounds 2 ?_
  rw [rounds_succ]
  go_wp2_with (first | (at_mapUpdate; refine wpList_put_seen _ rfl _ _ _ rfl w.heap.size 0 [] 1 (by decide) rfl HS.out (by unfold maxLen; omega) rfl rfl ?_))
  intro w2 hs2 hg2
  have B2 : Aside0 (Below w.heap.size w w2) := ⟨B1.out.grown hg2 B1.out.size (fun k hk => by cases hk; exact Nat.le_refl _)⟩
  clear hs2 hg2 hlk h1 h2 h3 h4
  go_wp2
  rw [rounds_succ]
  go_wp2
  go_ret
  exact ⟨rfl, B2.out⟩

set_option maxHeartbeats 400000 in
set_option maxRecDepth 100000 in
theorem f66_1 (g : Nat) (w : World) (h : w.cell? ⟨g, 0, none⟩ = some (.int .i64 1)) : Calls Tryd.prog 66 #[.agg #[.int .i64 1, .int .i64 8, .int .i64 1000, .int .i64 0], .pointer (some ⟨g, 0, none⟩)] w fun e w' => e = .returned (.bool true) ∧ Below w.heap.size w w' := by
  have h1 : (w.alloc (.cells #[.int .i64 1, .int .i64 8, .int .i64 1000, .int .i64 0] 55)).cell? ⟨g, 0, none⟩ = some (.int .i64 1) := keepc (below_alloc (Below.refl _ _) _) h
  have hu55 := Tryd.underlying55
  go_enter Tryd.func66, Tryd.ntmps66
  go_wp2
  go_ret
  exact ⟨rfl, below_alloc (Below.refl _ _) _⟩

set_option maxHeartbeats 400000 in
set_option maxRecDepth 100000 in
theorem IndexFunc_msg.calls1 (ad : Addr) (c g : Nat) (w : World) (h : M1 w ad) (hg : w.cell? ⟨g, 0, none⟩ = some (.int .i64 1)) :
    Calls Tryd.prog 65 #[.slice (some ad) 1 c, .func (.func 66) #[] #[.pointer (some ⟨g, 0, none⟩)]] w fun e w' => e = .returned (.int .i64 0) ∧ Below w.heap.size w w' := by
  have HG := Aside0.mk hg
  clear hg
  obtain ⟨h1, h2, h3, h4⟩ := h
  have hu55 := Tryd.underlying55
  go_enter Tryd.func65, Tryd.ntmps65
  go_wp2
  refine wp_loop_rounds 2 ?_
  rw [rounds_succ]
  go_wp2_with (first | (go_at_call 66; refine (f66_1 g _ HG.out).mono ?_; rintro e w1 ⟨rfl, b1⟩; replace b1 := Aside0.mk b1))
  go_ret
  exact ⟨rfl, b1.out⟩

/-- Delay, where alive asks; nothing is said of it elsewhere. -/
def bus_Delay.f (l : List S55) (no : Int) : Option (Int × Int) :=
  match l with
  | [m] => if m.f0 = 1 ∧ m.f1 = 8 ∧ m.f2 = 1000 ∧ m.f3 = 0 ∧ no = 1 then some (135, 0) else none
  | _ => none

set_option maxHeartbeats 800000 in
set_option maxRecDepth 100000 in
theorem bus_Delay.calls1 (A0 : Option Addr) (c0 : Nat) (w : World) (hr : Kd.C k55 w A0 1 [⟨1, 8, 1000, 0⟩]) :
    Calls Tryd.prog 30 #[.slice A0 1 c0, .int .i64 1] w fun e w' => e = .returned (.tuple #[.int .i64 135, .int .i64 0]) ∧ Below w.heap.size w w' := by
  obtain ⟨ad, rfl, hm⟩ := M1.of_C hr
  clear hr
  have HM := Aside0.mk (hm.below (below_alloc (Below.refl _ _) (.cells #[.int .i64 1] 3)))
  have HB := Aside0.mk (below_alloc (Below.refl w.heap.size w) (.cells #[.int .i64 1] 3))
  have HN : Aside0 ((w.alloc (.cells #[.int .i64 1] 3)).cell? ⟨w.heap.size, 0, none⟩ = some (.int .i64 1)) := ⟨(blk_cell (blk_new w (.cells #[.int .i64 1] 3)) 0).trans rfl⟩
  clear hm
  have hu55 := Tryd.underlying55
  go_enter Tryd.func30, Tryd.ntmps30
  go_wp2_with (first | (go_at_call 64; refine (bus_sent.calls1 ad c0 _ HM.out).mono ?_; rintro e w1 ⟨rfl, b1⟩; replace HM := Aside0.mk (HM.out.below b1); replace HN := Aside0.mk (keepc b1 HN.out); replace HB := Aside0.mk (below_step HB.out b1); clear b1) | (go_at_call 65; refine (IndexFunc_msg.calls1 ad c0 w.heap.size _ HM.out HN.out).mono ?_; rintro e w2 ⟨rfl, b2⟩; replace HM := Aside0.mk (HM.out.below b2); replace HN := Aside0.mk (keepc b2 HN.out); replace HB := Aside0.mk (below_step HB.out b2); clear b2))
  obtain ⟨h1, h2, h3, h4⟩ := HM.out
  have hn : (w2.alloc (.cells #[.int .i64 1, .int .i64 8, .int .i64 1000, .int .i64 0] 55)).cell? ⟨w.heap.size, 0, none⟩ = some (.int .i64 1) := keepc (below_alloc (Below.refl _ _) _) HN.out
  obtain ⟨j1, j2, j3, j4⟩ := HM.out.below (below_alloc (Below.refl _ _) (.cells #[.int .i64 1, .int .i64 8, .int .i64 1000, .int .i64 0] 55))
  refine wp_loop_rounds 2 ?_
  rw [rounds_succ]
  go_wp2
  rw [rounds_succ]
  go_wp2_with (first | (go_at_call 67; refine (bus_delay.calls1 _).mono ?_; rintro e w3 ⟨rfl, b3⟩; replace b3 := Aside0.mk b3))
  (first | go_ret2 | go_ret)
  exact ⟨rfl, below_step (below_alloc HB.out _) b3.out⟩

theorem bus_Delay.calls (A0 : Option Addr) (c0 : Nat) (l0 : List S55) (a1 : Int) (r1 r2 : Int) (w : World) (hr0 : Kd.C k55 w A0 l0.length l0) (hc0 : l0.length ≤ c0) (h : bus_Delay.f l0 a1 = some (r1, r2)) :
    Calls Tryd.prog 30 #[.slice A0 l0.length c0, .int .i64 a1] w fun e w' => e = .returned (.tuple #[.int .i64 r1, .int .i64 r2]) ∧ Below w.heap.size w w' := by
  unfold bus_Delay.f at h
  split at h
  · rename_i m
    split at h
    · rename_i hm
      obtain ⟨f0, f1, f2, f3⟩ := m
      obtain ⟨e0, e1, e2, e3, rfl⟩ := hm
      cases e0; cases e1; cases e2; cases e3
      cases h
      exact bus_Delay.calls1 A0 c0 w hr0
    · cases h
  · cases h
end Go.Proofs.YtbanemecfobonaaDoor.B
