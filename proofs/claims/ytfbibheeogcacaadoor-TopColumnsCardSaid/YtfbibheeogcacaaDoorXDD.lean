/- tube.distances at the closed drawing of two points and one line: the table of distances. -/
import Derived.Test.YtfbibheeogcacaaDoorXCR
import Derived.StillTailTactics
namespace Go.Proofs.YtfbibheeogcacaaDoor.B
open Go.RowKit Go.Proofs.YtfbibheeogcacaaDoorW.PrintWords Go.Proofs.YtfbibheeogcacaaDoorW.PrintLast Go.Proofs.YtfbibheeogcacaaDoorW.PrintMore
set_option linter.unusedVariables false
set_option linter.unusedSimpArgs false
theorem cell_lt {w : World} {k o : Nat} {v : Value} (h : w.cell? ⟨k, o, none⟩ = some v) : k < w.heap.size := by
  rcases Nat.lt_or_ge k w.heap.size with h1 | h1
  · exact h1
  · have : w.heap[k]? = none := Array.getElem?_eq_none h1
    unfold World.cell? at h
    rw [this] at h
    cases h
theorem cell_keep {w w' : World} {k o B : Nat} {v : Value} (hb : Below B w w') (hk : k < B) (h : w.cell? ⟨k, o, none⟩ = some v) : w'.cell? ⟨k, o, none⟩ = some v := (hb.cell (p := ⟨k, o, none⟩) hk).trans h
theorem cell_keep' {w w' : World} {k o : Nat} {v : Value} (hb : Below w.heap.size w w') (h : w.cell? ⟨k, o, none⟩ = some v) : w'.cell? ⟨k, o, none⟩ = some v := cell_keep hb (cell_lt h) h
theorem cell_put {w : World} {k o : Nat} {x : Value} (v : Value) (h : w.cell? ⟨k, o, none⟩ = some x) : (w.setCell ⟨k, o, none⟩ v).cell? ⟨k, o, none⟩ = some v := World.cell?_setCell_same w _ v h
theorem cell_far {w : World} {k o k' o' : Nat} (v : Value) (h : k ≠ k' ∨ o ≠ o') : (w.setCell ⟨k, o, none⟩ v).cell? ⟨k', o', none⟩ = w.cell? ⟨k', o', none⟩ :=
  World.cell?_setCell_other w _ _ v (by intro e; injection e with e1 e2; omega)
/-- The drawing of two points and one line, 3 long. -/
structure Dr (w : World) (B g gl cL : Nat) : Prop where
  hg : g < B
  hl : gl < B
  n : w.cell? ⟨g, 0, none⟩ = some (.int .i64 2)
  l : w.cell? ⟨g, 1, none⟩ = some (.slice (some ⟨gl, 0, none⟩) 1 cL)
  a : w.cell? ⟨gl, 0, none⟩ = some (.int .i64 0)
  b : w.cell? ⟨gl, 1, none⟩ = some (.int .i64 1)
  c : w.cell? ⟨gl, 2, none⟩ = some (.int .i64 3)
theorem Dr.below {w w' : World} {B g gl cL : Nat} (h : Dr w B g gl cL) (hb : Below B w w') : Dr w' B g gl cL :=
  ⟨h.hg, h.hl, cell_keep hb h.hg h.n, cell_keep hb h.hg h.l, cell_keep hb h.hl h.a, cell_keep hb h.hl h.b, cell_keep hb h.hl h.c⟩
theorem Dr.step {w w' : World} {B g gl cL : Nat} (h : Dr w B g gl cL) (hs : B ≤ w.heap.size) (hb : Below w.heap.size w w') : Dr w' B g gl cL :=
  h.below (hb.mono hs)
theorem Dr.put {w : World} {B g gl cL k o : Nat} (h : Dr w B g gl cL) (hk : B ≤ k) (v : Value) : Dr (w.setCell ⟨k, o, none⟩ v) B g gl cL :=
  h.below (Below.setCell (p := ⟨k, o, none⟩) (Below.refl _ _) hk v)
/-- A row of two numbers. -/
structure Ro (w : World) (r : Nat) (a b : Int) : Prop where
  q0 : w.cell? ⟨r, 0, none⟩ = some (.int .i64 a)
  q1 : w.cell? ⟨r, 1, none⟩ = some (.int .i64 b)
  f : ∀ o, w.frozen? ⟨r, o, none⟩ = false
theorem Ro.below {w w' : World} {r B : Nat} {a b : Int} (h : Ro w r a b) (hk : r < B) (hb : Below B w w') : Ro w' r a b :=
  ⟨cell_keep hb hk h.q0, cell_keep hb hk h.q1, fun o => (hb.frozen (p := ⟨r, o, none⟩) hk).trans (h.f o)⟩
theorem Ro.far {w : World} {r k o : Nat} {a b : Int} (h : Ro w r a b) (hk : k ≠ r) (v : Value) : Ro (w.setCell ⟨k, o, none⟩ v) r a b :=
  ⟨(cell_far v (.inl hk)).trans h.q0, (cell_far v (.inl hk)).trans h.q1, fun o => (World.frozen?_setCell _ _ _ _).trans (h.f o)⟩
theorem Ro.drewN {w : World} {r : Nat} {a b : Int} (n : Nat) (h : Ro w r a b) : Ro (w.drewN n) r a b := ⟨h.q0, h.q1, h.f⟩
theorem Ro.put0 {w : World} {r : Nat} {a b : Int} (x : Int) (h : Ro w r a b) : Ro (w.setCell ⟨r, 0, none⟩ (.int .i64 x)) r x b :=
  ⟨cell_put _ h.q0, (cell_far _ (.inr (by decide))).trans h.q1, fun o => (World.frozen?_setCell _ _ _ _).trans (h.f o)⟩
theorem Ro.put1 {w : World} {r : Nat} {a b : Int} (x : Int) (h : Ro w r a b) : Ro (w.setCell ⟨r, 1, none⟩ (.int .i64 x)) r a x :=
  ⟨(cell_far _ (.inr (by decide))).trans h.q0, cell_put _ h.q1, fun o => (World.frozen?_setCell _ _ _ _).trans (h.f o)⟩
/-- A table's head: two values. -/
structure He (w : World) (g : Nat) (x y : Value) : Prop where
  p0 : w.cell? ⟨g, 0, none⟩ = some x
  p1 : w.cell? ⟨g, 1, none⟩ = some y
  f : ∀ o, w.frozen? ⟨g, o, none⟩ = false
theorem He.below {w w' : World} {g B : Nat} {x y : Value} (h : He w g x y) (hk : g < B) (hb : Below B w w') : He w' g x y :=
  ⟨cell_keep hb hk h.p0, cell_keep hb hk h.p1, fun o => (hb.frozen (p := ⟨g, o, none⟩) hk).trans (h.f o)⟩
theorem He.far {w : World} {g k o : Nat} {x y : Value} (h : He w g x y) (hk : k ≠ g) (v : Value) : He (w.setCell ⟨k, o, none⟩ v) g x y :=
  ⟨(cell_far v (.inl hk)).trans h.p0, (cell_far v (.inl hk)).trans h.p1, fun o => (World.frozen?_setCell _ _ _ _).trans (h.f o)⟩
theorem He.put0 {w : World} {g : Nat} {x y : Value} (v : Value) (h : He w g x y) : He (w.setCell ⟨g, 0, none⟩ v) g v y :=
  ⟨cell_put _ h.p0, (cell_far _ (.inr (by decide))).trans h.p1, fun o => (World.frozen?_setCell _ _ _ _).trans (h.f o)⟩
theorem He.put1 {w : World} {g : Nat} {x y : Value} (v : Value) (h : He w g x y) : He (w.setCell ⟨g, 1, none⟩ v) g x v :=
  ⟨(cell_far _ (.inr (by decide))).trans h.p0, cell_put _ h.p1, fun o => (World.frozen?_setCell _ _ _ _).trans (h.f o)⟩
/-- A table of two rows of two numbers. -/
structure Mx (w : World) (B g r0 c0 r1 c1 : Nat) (a b c d : Int) : Prop where
  b0 : B ≤ g
  b1 : B ≤ r0
  b2 : B ≤ r1
  n0 : g ≠ r0
  n1 : g ≠ r1
  n2 : r0 ≠ r1
  h : He w g (.slice (some ⟨r0, 0, none⟩) 2 c0) (.slice (some ⟨r1, 0, none⟩) 2 c1)
  q : Ro w r0 a b
  r : Ro w r1 c d
theorem Ro.lt {w : World} {r : Nat} {a b : Int} (h : Ro w r a b) : r < w.heap.size := cell_lt h.q0
theorem He.lt {w : World} {g : Nat} {x y : Value} (h : He w g x y) : g < w.heap.size := cell_lt h.p0
theorem Mx.below' {w w' : World} {B g r0 c0 r1 c1 : Nat} {a b c d : Int} (m : Mx w B g r0 c0 r1 c1 a b c d) (hb : Below w.heap.size w w') : Mx w' B g r0 c0 r1 c1 a b c d :=
  ⟨m.b0, m.b1, m.b2, m.n0, m.n1, m.n2, m.h.below m.h.lt hb, m.q.below m.q.lt hb, m.r.below m.r.lt hb⟩
theorem Mx.far {w : World} {B g r0 c0 r1 c1 k o : Nat} {a b c d : Int} (m : Mx w B g r0 c0 r1 c1 a b c d) (h0 : g ≠ k) (h1 : r0 ≠ k) (h2 : r1 ≠ k) (v : Value) : Mx (w.setCell ⟨k, o, none⟩ v) B g r0 c0 r1 c1 a b c d :=
  ⟨m.b0, m.b1, m.b2, m.n0, m.n1, m.n2, m.h.far (fun e => h0 e.symm) v, m.q.far (fun e => h1 e.symm) v, m.r.far (fun e => h2 e.symm) v⟩
theorem Mx.p00 {w : World} {B g r0 c0 r1 c1 : Nat} {a b c d : Int} (m : Mx w B g r0 c0 r1 c1 a b c d) (x : Int) : Mx (w.setCell ⟨r0, 0, none⟩ (.int .i64 x)) B g r0 c0 r1 c1 x b c d :=
  ⟨m.b0, m.b1, m.b2, m.n0, m.n1, m.n2, m.h.far (fun e => m.n0 e.symm) _, m.q.put0 x, m.r.far m.n2 _⟩
theorem Mx.p01 {w : World} {B g r0 c0 r1 c1 : Nat} {a b c d : Int} (m : Mx w B g r0 c0 r1 c1 a b c d) (x : Int) : Mx (w.setCell ⟨r0, 1, none⟩ (.int .i64 x)) B g r0 c0 r1 c1 a x c d :=
  ⟨m.b0, m.b1, m.b2, m.n0, m.n1, m.n2, m.h.far (fun e => m.n0 e.symm) _, m.q.put1 x, m.r.far m.n2 _⟩
theorem Mx.p10 {w : World} {B g r0 c0 r1 c1 : Nat} {a b c d : Int} (m : Mx w B g r0 c0 r1 c1 a b c d) (x : Int) : Mx (w.setCell ⟨r1, 0, none⟩ (.int .i64 x)) B g r0 c0 r1 c1 a b x d :=
  ⟨m.b0, m.b1, m.b2, m.n0, m.n1, m.n2, m.h.far (fun e => m.n1 e.symm) _, m.q.far (fun e => m.n2 e.symm) _, m.r.put0 x⟩
theorem Mx.p11 {w : World} {B g r0 c0 r1 c1 : Nat} {a b c d : Int} (m : Mx w B g r0 c0 r1 c1 a b c d) (x : Int) : Mx (w.setCell ⟨r1, 1, none⟩ (.int .i64 x)) B g r0 c0 r1 c1 a b c x :=
  ⟨m.b0, m.b1, m.b2, m.n0, m.n1, m.n2, m.h.far (fun e => m.n1 e.symm) _, m.q.far (fun e => m.n2 e.symm) _, m.r.put1 x⟩
theorem He.drew {w : World} {g : Nat} {x y : Value} (h : He w g x y) : He w.drew g x y := ⟨h.p0, h.p1, h.f⟩
theorem Ro.drew {w : World} {r : Nat} {a b : Int} (h : Ro w r a b) : Ro w.drew r a b := ⟨h.q0, h.q1, h.f⟩
theorem Mx.drew {w : World} {B g r0 c0 r1 c1 : Nat} {a b c d : Int} (m : Mx w B g r0 c0 r1 c1 a b c d) : Mx w.drew B g r0 c0 r1 c1 a b c d :=
  ⟨m.b0, m.b1, m.b2, m.n0, m.n1, m.n2, m.h.drew, m.q.drew, m.r.drew⟩
theorem Dr.drew {w : World} {B g gl cL : Nat} (h : Dr w B g gl cL) : Dr w.drew B g gl cL := ⟨h.hg, h.hl, h.n, h.l, h.a, h.b, h.c⟩
theorem row_of {w : World} {base : Nat} {ok : Nat → Prop} {v : Value} {a b : Int} (h : Kd.R (Kd.int .i64) 3 w base ok v [a, b]) : ∃ g cap : Nat, v = .slice (some ⟨g, 0, none⟩) 2 cap ∧ base ≤ g ∧ Ro w g a b := by
  obtain ⟨g, cap, rfl, h1, h2, h3, h4⟩ := own_head h 2 rfl (by simp)
  exact ⟨g, cap, rfl, h2, (Kd.R_cell (0 : Int) h 0 (by decide) (by simp)).1, (Kd.R_cell (0 : Int) h 1 (by decide) (by simp)).1, h4⟩
/-- Behind i rounds of the first loop. -/
def L1 (w : World) (B g i : Nat) : Prop :=
  (i = 0 ∧ He w g (.slice none 0 0) (.slice none 0 0)) ∨
  (i = 1 ∧ ∃ r c, B ≤ r ∧ g ≠ r ∧ He w g (.slice (some ⟨r, 0, none⟩) 2 c) (.slice none 0 0) ∧ Ro w r 0 481) ∨
  (i = 2 ∧ ∃ r0 c0 r1 c1, Mx w B g r0 c0 r1 c1 0 481 481 0)
set_option maxHeartbeats 2000000 in
set_option maxRecDepth 100000 in
theorem dist_one (g gl cL : Nat) (w : World) (hD : Dr w w.heap.size g gl cL) :
    Calls Tryd.prog 47 #[.pointer (some ⟨g, 0, none⟩)] w fun e w' => ∃ g0 r0 c0 r1 c1 cg : Nat, e = .returned (.slice (some ⟨g0, 0, none⟩) 2 cg) ∧ Mx w' w.heap.size g0 r0 c0 r1 c1 0 3 3 0 ∧ Below w.heap.size w w' := by
  have hn := hD.n
  have HD := Aside0.mk hD
  clear hD
  have hu48 := Tryd.underlying48
  have hmk : ∀ W : World, (Instr.makeSlice 22 (.int .i64 2) (.int .i64 2)).run Tryd.prog W = .ok (.slice (some ⟨W.heap.size, 0, none⟩) 2 2) (W.alloc (.cells #[.slice none 0 0, .slice none 0 0] 24)) :=
    fun W => by
      have h : madeCells #[Value.slice none 0 0] (Int.toNat 2) = #[.slice none 0 0, .slice none 0 0] := by kernel_rfl
      have h2 := print_make_int (P := Tryd.prog) 22 24 (.slice none 0 0) 24 Tryd.underlying22 info24 rfl (by decide) 2 (by decide) (by decide) W
      rw [h] at h2
      exact h2
  go_enter Tryd.func47, Tryd.ntmps47
  go_upto_region 2 with (first | fail)
  clear hmk
  have B1 := Aside0.mk (below_alloc (Below.refl w.heap.size w) (.cells #[.slice none 0 0, .slice none 0 0] 24))
  have H1 : Aside0 (He (w.alloc (.cells #[.slice none 0 0, .slice none 0 0] 24)) w.heap.size (.slice none 0 0) (.slice none 0 0)) := ⟨by
    have hh := blk_new w (.cells #[.slice none 0 0, .slice none 0 0] 24)
    exact ⟨by rw [cell_of_row _ _ _ _ _ (0, 0) hh]; rfl, by rw [cell_of_row _ _ _ _ _ (0, 0) hh]; rfl, fun o => blk_frozen hh _⟩⟩
  obtain ⟨w1, hw1⟩ : ∃ w1, w1 = w.alloc (.cells #[.slice none 0 0, .slice none 0 0] 24) := ⟨_, rfl⟩
  obtain ⟨g0, hg0⟩ : ∃ g0, g0 = w.heap.size := ⟨_, rfl⟩
  rw [← hw1, ← hg0] at H1
  rw [← hw1] at B1
  have hb0 : w.heap.size ≤ g0 := by omega
  simp only [← hw1, ← hg0]
  have D1 := Aside0.mk (HD.out.below B1.out)
  clear HD hn hw1 hg0
  go_upto_region 3 with (first | fail)
  go_loopg [17] 2 (fun gk v17 w' => ∃ i : Nat, v17 = .int .i64 (i : Int) ∧ Aside0 (gk = 2 - i) ∧ Aside0 (L1 w' w.heap.size g0 i) ∧ Aside0 (Dr w' w.heap.size g gl cL) ∧ Aside0 (Below w.heap.size w w'))
  case atStart => exact ⟨0, rfl, ⟨rfl⟩, ⟨.inl ⟨rfl, H1.out⟩⟩, D1, B1⟩
  case round =>
    clear H1 D1 B1
    obtain ⟨i, rfl, HK, HL, HD, HB⟩ := hrel
    have hn := HD.out.n
    rcases HL.out with ⟨rfl, H⟩ | ⟨rfl, r, c, hbr, hgr, H, R⟩ | ⟨rfl, r0, c0, r1, c1, M⟩
    · have HH := Aside0.mk H
      clear H HL
      go_wp2_with (first
        | ((with_reducible refine gate_dst (N := 22) rfl ?_); refine Kd.R_lit (Kd.int .i64) _ 3 ?hg (N := 22) ?hd (xs := ([481] : List Int)) (inner := [.int .i64 481]) (ok := fun _ => True) (okp := fun _ => True) ?hr ?hp (fun _ hk => hk) trivial (Below.refl _ _) (Nat.le_refl _) (by simp) ?_; (case hd => rfl); (case hg => rfl); (case hr => first | (go_simp; done) | (go_simp; rfl)); (case hp => exact (Reps.one (show Kd.M (Kd.int .i64) _ _ _ 481 [.int .i64 481] from rfl) (Reps.none _ _))); intro v22 w2 ho2 hb2 hg2 hn2; clear hg2 hn2; obtain ⟨A2, c2, rfl⟩ := Kd.R_slice ho2; have C2 := Aside0.mk (Kd.R_reads' ho2).2.2; have K2 := Aside0.mk (Kd.R_reads' ho2).2.1; have H2 := Aside0.mk (HH.out.below HH.out.lt hb2); have B2 := Aside0.mk (below_step HB.out hb2); have D2 := Aside0.mk (HD.out.step HB.out.size hb2); have hn2 := D2.out.n; clear ho2 hb2)
        | (go_at_call 62; refine (repeat_two A2 c2 w2 C2.out K2.out).mono ?_; rintro e w3 ⟨v3, rfl, r3, b3⟩; obtain ⟨r, c, rfl, hrr, R3⟩ := row_of r3; have H3 := Aside0.mk (H2.out.below H2.out.lt b3); have B3 := Aside0.mk (below_step B2.out b3); have D3 := Aside0.mk (D2.out.step B2.out.size b3); have hgr : g0 ≠ r := (by have := H2.out.lt; omega); have R3 := Aside0.mk R3; clear b3 r3; have h0 := H3.out.p0; have hf := H3.out.f 0; have R4 := R3.out.far (o := 0) hgr (.slice (some ⟨r, 0, none⟩) 2 c); have hq := R4.q0; have hqf := R4.f 0; have H4 := Aside0.mk (H3.out.put0 (.slice (some ⟨r, 0, none⟩) 2 c)); have R4 := Aside0.mk R4))
      go_roundg 1
      case measure => have := HK.out; omega
      case rel => exact ⟨1, rfl, ⟨rfl⟩, ⟨.inr (.inl ⟨rfl, r, c, by have := B2.out.size; omega, hgr, H4.out.far (fun e => hgr e.symm) _, R4.out.put0 0⟩)⟩, ⟨(D3.out.put hb0 _).put (by have := B2.out.size; omega) _⟩, ⟨Below.setCell (p := ⟨r, 0, none⟩) (Below.setCell (p := ⟨g0, 0, none⟩) B3.out hb0 _) (by have := B2.out.size; show _ ≤ r; omega) _⟩⟩
    · have HH := Aside0.mk H
      have RR := Aside0.mk R
      clear H R HL
      go_wp2_with (first
        | ((with_reducible refine gate_dst (N := 22) rfl ?_); refine Kd.R_lit (Kd.int .i64) _ 3 ?hg (N := 22) ?hd (xs := ([481] : List Int)) (inner := [.int .i64 481]) (ok := fun _ => True) (okp := fun _ => True) ?hr ?hp (fun _ hk => hk) trivial (Below.refl _ _) (Nat.le_refl _) (by simp) ?_; (case hd => rfl); (case hg => rfl); (case hr => first | (go_simp; done) | (go_simp; rfl)); (case hp => exact (Reps.one (show Kd.M (Kd.int .i64) _ _ _ 481 [.int .i64 481] from rfl) (Reps.none _ _))); intro v22 w2 ho2 hb2 hg2 hn2; clear hg2 hn2; obtain ⟨A2, c2, rfl⟩ := Kd.R_slice ho2; have C2 := Aside0.mk (Kd.R_reads' ho2).2.2; have K2 := Aside0.mk (Kd.R_reads' ho2).2.1; have H2 := Aside0.mk (HH.out.below HH.out.lt hb2); have Q2 := Aside0.mk (RR.out.below RR.out.lt hb2); have B2 := Aside0.mk (below_step HB.out hb2); have D2 := Aside0.mk (HD.out.step HB.out.size hb2); have hn2 := D2.out.n; clear ho2 hb2)
        | (go_at_call 62; refine (repeat_two A2 c2 w2 C2.out K2.out).mono ?_; rintro e w3 ⟨v3, rfl, r3, b3⟩; obtain ⟨r1, c1, rfl, hrr, R3⟩ := row_of r3; have H3 := Aside0.mk (H2.out.below H2.out.lt b3); have Q3 := Aside0.mk (Q2.out.below Q2.out.lt b3); have B3 := Aside0.mk (below_step B2.out b3); have D3 := Aside0.mk (D2.out.step B2.out.size b3); have hgr1 : g0 ≠ r1 := (by have := H2.out.lt; omega); have hrr1 : r ≠ r1 := (by have := Q2.out.lt; omega); have R3 := Aside0.mk R3; clear b3 r3; have h0 := H3.out.p1; have hf := H3.out.f 1; have R4 := R3.out.far (o := 1) hgr1 (.slice (some ⟨r1, 0, none⟩) 2 c1); have hq := R4.q1; have hqf := R4.f 1; have H4 := Aside0.mk (H3.out.put1 (.slice (some ⟨r1, 0, none⟩) 2 c1)); have R4 := Aside0.mk R4; have Q4 := Aside0.mk (Q3.out.far (o := 1) hgr (.slice (some ⟨r1, 0, none⟩) 2 c1))))
      go_roundg 0
      case measure => have := HK.out; omega
      case rel => exact ⟨2, rfl, ⟨rfl⟩, ⟨.inr (.inr ⟨rfl, r, c, r1, c1, hb0, hbr, by have := B2.out.size; omega, hgr, hgr1, hrr1, H4.out.far (fun e => hgr1 e.symm) _, Q4.out.far (fun e => hrr1 e.symm) _, R4.out.put1 0⟩)⟩, ⟨(D3.out.put hb0 _).put (by have := B2.out.size; omega) _⟩, ⟨Below.setCell (p := ⟨r1, 1, none⟩) (Below.setCell (p := ⟨g0, 1, none⟩) B3.out hb0 _) (by have := B2.out.size; show _ ≤ r1; omega) _⟩⟩
    · have MM := Aside0.mk M
      have hl := HD.out.l
      have ha := HD.out.a
      have hb := HD.out.b
      have hc := HD.out.c
      clear M HL HK
      go_upto_region 9 with (first | fail)
      have HD2 := HD
      have HB2 := HB
      clear HD HB hn hl ha hb hc
      go_loopg [41] 1 (fun gk v41 w' => ∃ j : Nat, v41 = .int .i64 (j : Int) ∧ Aside0 (gk = 1 - j) ∧ Aside0 ((j = 0 ∧ Mx w' w.heap.size g0 r0 c0 r1 c1 0 481 481 0) ∨ (j = 1 ∧ Mx w' w.heap.size g0 r0 c0 r1 c1 0 3 3 0)) ∧ Aside0 (Dr w' w.heap.size g gl cL) ∧ Aside0 (Below w.heap.size w w'))
      case atStart => exact ⟨0, rfl, ⟨rfl⟩, ⟨.inl ⟨rfl, MM.out⟩⟩, HD2, HB2⟩
      case round =>
        clear MM HD2 HB2
        obtain ⟨j, rfl, HK, HM, HD, HB⟩ := hrel
        have hn := HD.out.n
        have hl := HD.out.l
        have ha := HD.out.a
        have hb := HD.out.b
        have hc := HD.out.c
        rcases HM.out with ⟨rfl, M⟩ | ⟨rfl, M⟩
        · have MM := Aside0.mk M
          clear M HM
          go_upto_region 11 with (first
            | ((with_reducible refine gate_dst (N := 6) rfl ?_); refine box_event ?hg (N := 6) ?hd (cs := #[.int .i64 0, .int .i64 0, .int .i64 0]) (t := 48) ?hr ?_; (case hd => rfl); (case hg => rfl); (case hr => first | (go_simp; done) | (go_simp; rfl)); intro gb hgb w5 hbox hb5; have B5 := Aside0.mk (below_step HB.out hb5); have D5 := Aside0.mk (HD.out.step HB.out.size hb5); have S5 := Aside0.mk (Nat.le_trans HB.out.size (Nat.le_of_eq hgb.symm)); have b50 : w5.cell? ⟨gb, 0, none⟩ = some (.int .i64 0) := cell_of_row w5 gb 0 _ _ (0, 0) hbox; have b51 : w5.cell? ⟨gb, 1, none⟩ = some (.int .i64 0) := cell_of_row w5 gb 1 _ _ (0, 0) hbox; have b52 : w5.cell? ⟨gb, 2, none⟩ = some (.int .i64 0) := cell_of_row w5 gb 2 _ _ (0, 0) hbox; have f50 := blk_frozen hbox 0; have f51 := blk_frozen hbox 1; have f52 := blk_frozen hbox 2; have M5 := Aside0.mk (MM.out.below' (by have := MM.out.h.lt; have := MM.out.q.lt; have := MM.out.r.lt; exact hb5)); have G5 := Aside0.mk (show g0 ≠ gb ∧ r0 ≠ gb ∧ r1 ≠ gb from by have := MM.out.h.lt; have := MM.out.q.lt; have := MM.out.r.lt; omega); clear hb5 hgb))
          obtain ⟨h1, h2, h3⟩ := G5.out
          have M6 := Aside0.mk (((M5.out.far (o := 0) h1 h2 h3 (.int .i64 0)).far (o := 1) h1 h2 h3 (.int .i64 1)).far (o := 2) h1 h2 h3 (.int .i64 3))
          have D6 := Aside0.mk (((D5.out.put (o := 0) S5.out (.int .i64 0)).put (o := 1) S5.out (.int .i64 1)).put (o := 2) S5.out (.int .i64 3))
          have B6 : Aside0 (Below w.heap.size w (((w5.setCell ⟨gb, 0, none⟩ (.int .i64 0)).setCell ⟨gb, 1, none⟩ (.int .i64 1)).setCell ⟨gb, 2, none⟩ (.int .i64 3))) := ⟨Below.setCell (p := ⟨gb, 2, none⟩) (Below.setCell (p := ⟨gb, 1, none⟩) (Below.setCell (p := ⟨gb, 0, none⟩) B5.out S5.out _) S5.out _) S5.out _⟩
          have e0 : (((w5.setCell ⟨gb, 0, none⟩ (.int .i64 0)).setCell ⟨gb, 1, none⟩ (.int .i64 1)).setCell ⟨gb, 2, none⟩ (.int .i64 3)).cell? ⟨gb, 0, none⟩ = some (.int .i64 0) := by rw [cell_far _ (.inr (by decide)), cell_far _ (.inr (by decide))]; exact cell_put _ b50
          have e1 : (((w5.setCell ⟨gb, 0, none⟩ (.int .i64 0)).setCell ⟨gb, 1, none⟩ (.int .i64 1)).setCell ⟨gb, 2, none⟩ (.int .i64 3)).cell? ⟨gb, 1, none⟩ = some (.int .i64 1) := by rw [cell_far _ (.inr (by decide))]; exact cell_put _ (by rw [cell_far _ (.inr (by decide))]; exact b51)
          have e2 : (((w5.setCell ⟨gb, 0, none⟩ (.int .i64 0)).setCell ⟨gb, 1, none⟩ (.int .i64 1)).setCell ⟨gb, 2, none⟩ (.int .i64 3)).cell? ⟨gb, 2, none⟩ = some (.int .i64 3) := cell_put _ (by rw [cell_far _ (.inr (by decide)), cell_far _ (.inr (by decide))]; exact b52)
          clear b50 b51 b52 f50 f51 f52 M5 D5 B5 G5 hn hl ha hb hc HD HB MM hbox
          generalize (((w5.setCell ⟨gb, 0, none⟩ (.int .i64 0)).setCell ⟨gb, 1, none⟩ (.int .i64 1)).setCell ⟨gb, 2, none⟩ (.int .i64 3)) = w6 at *
          have n0 := M6.out.n0
          have n1 := M6.out.n1
          have n2 := M6.out.n2
          have p0 := M6.out.h.p0
          have p1 := M6.out.h.p1
          have q0 := M6.out.q.q0
          have q1 := M6.out.q.q1
          have q2 := M6.out.r.q0
          have q3 := M6.out.r.q1
          have qf := M6.out.q.f 1
          go_still_tail 19, (by kernel_rfl)
          go_wp2
          have M7 := Aside0.mk (M6.out.p01 3).drew
          have D7 := Aside0.mk (D6.out.put (o := 1) M6.out.b1 (.int .i64 3)).drew
          have B7 : Aside0 (Below w.heap.size w (w6.setCell ⟨r0, 1, none⟩ (.int .i64 3)).drew) := ⟨pw_below_drewN (Below.setCell (p := ⟨r0, 1, none⟩) B6.out M6.out.b1 (.int .i64 3)) 1⟩
          replace e0 : (w6.setCell ⟨r0, 1, none⟩ (.int .i64 3)).drew.cell? ⟨gb, 0, none⟩ = some (.int .i64 0) := (cell_far _ (.inl h2)).trans e0
          replace e1 : (w6.setCell ⟨r0, 1, none⟩ (.int .i64 3)).drew.cell? ⟨gb, 1, none⟩ = some (.int .i64 1) := (cell_far _ (.inl h2)).trans e1
          clear e2 p0 p1 q0 q1 q2 q3 qf M6 D6 B6
          generalize (w6.setCell ⟨r0, 1, none⟩ (.int .i64 3)).drew = w7 at *
          have p0 := M7.out.h.p0
          have p1 := M7.out.h.p1
          have q0 := M7.out.q.q0
          have q1 := M7.out.q.q1
          have q2 := M7.out.r.q0
          have q3 := M7.out.r.q1
          have qf := M7.out.r.f 0
          go_still_tail 16, (by kernel_rfl)
          go_wp2
          clear p0 p1 q0 q1 q2 q3 qf e0 e1
          go_roundg 0
          case measure => have := HK.out; omega
          case rel => exact ⟨1, rfl, ⟨rfl⟩, ⟨.inr ⟨rfl, (M7.out.p10 3).drew⟩⟩, ⟨(D7.out.put (o := 0) M7.out.b2 (.int .i64 3)).drew⟩, ⟨pw_below_drewN (Below.setCell (p := ⟨r1, 0, none⟩) B7.out M7.out.b2 (.int .i64 3)) 1⟩⟩
        · have MM := Aside0.mk M
          have HD2 := HD
          have HB2 := HB
          clear M HM HK
          go_upto_region 15 with (first | fail)
          clear HD HB hn hl ha hb hc
          go_loopg [87] 2 (fun gk v87 w' => ∃ k : Nat, v87 = .int .i64 (k : Int) ∧ Aside0 (k ≤ 2 ∧ gk = 2 - k) ∧ Aside0 (Mx w' w.heap.size g0 r0 c0 r1 c1 0 3 3 0) ∧ Aside0 (Dr w' w.heap.size g gl cL) ∧ Aside0 (Below w.heap.size w w'))
          case atStart => exact ⟨0, rfl, ⟨by omega⟩, MM, HD2, HB2⟩
          case round =>
            clear MM HD2 HB2
            obtain ⟨k, rfl, HK, MM, HD, HB⟩ := hrel
            have hn := HD.out.n
            obtain ⟨hk2, hgk⟩ := HK.out
            by_cases hk : k < 2
            · have dk : decide ((k : Int) < 2) = true := decide_eq_true (by omega)
              clear HK
              go_upto_region 18 with (first | fail)
              have HD2 := HD
              have HB2 := HB
              have MM2 := MM
              clear HD HB MM hn dk
              go_loopg [94] 2 (fun gk2 v94 w' => ∃ i : Nat, v94 = .int .i64 (i : Int) ∧ Aside0 (i ≤ 2 ∧ gk2 = 2 - i) ∧ Aside0 (Mx w' w.heap.size g0 r0 c0 r1 c1 0 3 3 0) ∧ Aside0 (Dr w' w.heap.size g gl cL) ∧ Aside0 (Below w.heap.size w w'))
              case atStart => exact ⟨0, rfl, ⟨by omega⟩, MM2, HD2, HB2⟩
              case round =>
                clear MM2 HD2 HB2
                obtain ⟨i, rfl, HK, MM, HD, HB⟩ := hrel
                have hn := HD.out.n
                obtain ⟨hi2, hgi⟩ := HK.out
                by_cases hi : i < 2
                · have di : decide ((i : Int) < 2) = true := decide_eq_true (by omega)
                  clear HK
                  go_upto_region 21 with (first | fail)
                  have HD2 := HD
                  have HB2 := HB
                  have MM2 := MM
                  clear HD HB MM hn di
                  go_loopg [101] 2 (fun gk3 v101 w' => ∃ j : Nat, v101 = .int .i64 (j : Int) ∧ Aside0 (j ≤ 2 ∧ gk3 = 2 - j) ∧ Aside0 (Mx w' w.heap.size g0 r0 c0 r1 c1 0 3 3 0) ∧ Aside0 (Dr w' w.heap.size g gl cL) ∧ Aside0 (Below w.heap.size w w'))
                  case atStart => exact ⟨0, rfl, ⟨by omega⟩, MM2, HD2, HB2⟩
                  case round =>
                    clear MM2 HD2 HB2
                    obtain ⟨j, rfl, HK, MM, HD, HB⟩ := hrel
                    have hn := HD.out.n
                    obtain ⟨hj2, hgj⟩ := HK.out
                    by_cases hj : j < 2
                    · have dj : decide ((j : Int) < 2) = true := decide_eq_true (by omega)
                      clear HK
                      go_upto_region 23 with (first | fail)
                      have p0 := MM.out.h.p0
                      have p1 := MM.out.h.p1
                      have q0 := MM.out.q.q0
                      have q1 := MM.out.q.q1
                      have q2 := MM.out.r.q0
                      have q3 := MM.out.r.q1
                      have f0 := MM.out.q.f 0
                      have f1 := MM.out.q.f 1
                      have f2 := MM.out.r.f 0
                      have f3 := MM.out.r.f 1
                      have hk01 : k = 0 ∨ k = 1 := by omega
                      have hi01 : i = 0 ∨ i = 1 := by omega
                      have hj01 : j = 0 ∨ j = 1 := by omega
                      clear dj hk hi hj
                      rcases hk01 with rfl | rfl <;> rcases hi01 with rfl | rfl <;> rcases hj01 with rfl | rfl
                      all_goals
                        go_still_tail 28, (by kernel_rfl)
                        go_wp2
                        clear p0 p1 q0 q1 q2 q3 f0 f1 f2 f3
                      all_goals first | go_roundg 1; (case measure => omega) | go_roundg 0
                      all_goals first
                        | omega
                        | exact ⟨1, rfl, ⟨by omega⟩, ⟨(MM.out.p00 0).drew⟩, ⟨(HD.out.put (o := 0) MM.out.b1 _).drew⟩, ⟨pw_below_drewN (Below.setCell (p := ⟨r0, 0, none⟩) HB.out MM.out.b1 _) 1⟩⟩
                        | exact ⟨2, rfl, ⟨by omega⟩, ⟨(MM.out.p01 3).drew⟩, ⟨(HD.out.put (o := 1) MM.out.b1 _).drew⟩, ⟨pw_below_drewN (Below.setCell (p := ⟨r0, 1, none⟩) HB.out MM.out.b1 _) 1⟩⟩
                        | exact ⟨1, rfl, ⟨by omega⟩, ⟨(MM.out.p10 3).drew⟩, ⟨(HD.out.put (o := 0) MM.out.b2 _).drew⟩, ⟨pw_below_drewN (Below.setCell (p := ⟨r1, 0, none⟩) HB.out MM.out.b2 _) 1⟩⟩
                        | exact ⟨2, rfl, ⟨by omega⟩, ⟨(MM.out.p11 0).drew⟩, ⟨(HD.out.put (o := 1) MM.out.b2 _).drew⟩, ⟨pw_below_drewN (Below.setCell (p := ⟨r1, 1, none⟩) HB.out MM.out.b2 _) 1⟩⟩
                        | (exfalso; rename_i hbad; revert hbad; decide)
                        | trace_state
                    · have dj : decide ((j : Int) < 2) = false := decide_eq_false (by omega)
                      clear HK
                      go_wp2
                      go_roundg (2 - (i + 1))
                      case measure => omega
                      case rel => exact ⟨i + 1, by simp, ⟨by omega⟩, MM, HD, HB⟩
                · have di : decide ((i : Int) < 2) = false := decide_eq_false (by omega)
                  clear HK
                  go_wp2
                  go_roundg (2 - (k + 1))
                  case measure => omega
                  case rel => exact ⟨k + 1, by simp, ⟨by omega⟩, MM, HD, HB⟩
            · have dk : decide ((k : Int) < 2) = false := decide_eq_false (by omega)
              clear HK
              go_wp2
              go_ret
              exact ⟨g0, r0, c0, r1, c1, 2, rfl, MM.out, HB.out⟩
end Go.Proofs.YtfbibheeogcacaaDoor.B
