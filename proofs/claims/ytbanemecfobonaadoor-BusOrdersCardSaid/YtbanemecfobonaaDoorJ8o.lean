/- Written by a program (lite.py, squash.py, join.py) from my texts. -/
import Derived.Test.YtbanemecfobonaaDoorJ7o
import Derived.Test.YtbanemecfobonaaDoorJ3o
import Derived.Test.YtbanemecfobonaaDoorJ2o
import Derived.Test.YtbanemecfobonaaDoorJ4o
import Derived.Test.YtbanemecfobonaaDoorJ5o
import Derived.Test.YtbanemecfobonaaDoorJ1o
import Derived.Test.YtbanemecfobonaaDoorJ6o
import Derived.Shelf.Slices.Delete
import Derived.Shelf.Slices.Cells
import Derived.Test.YtbanemecfobonaaDoorProg
namespace Go.Proofs.YtbanemecfobonaaDoor.B
open Go.RowKit Go.Proofs.YtbanemecfobonaaDoorW.PrintWords Go.Proofs.YtbanemecfobonaaDoorW.PrintLast Go.Proofs.YtbanemecfobonaaDoorW.PrintMore
set_option linter.unusedVariables false
set_option linter.unusedSimpArgs false
theorem times_len (a b r : List Int) (ha : nW a) (hb : nW b) (hr : nW r) (h : vW r = vW a * vW b) : r.length ≤ a.length + b.length := by
  apply len_of r hr
  obtain ⟨a0, a1⟩ := V_any a ha.1 a.length
  obtain ⟨b0, b1⟩ := V_any b hb.1 b.length
  change 0 ≤ vW a at a0
  change vW a + 1 ≤ _ at a1
  change 0 ≤ vW b at b0
  change vW b + 1 ≤ _ at b1
  rw [h, Int.pow_add]
  have h1 : vW a * vW b ≤ (4294967296 ^ a.length - 1) * vW b := Int.mul_le_mul_of_nonneg_right z3 b0
  have h2 : (4294967296 ^ a.length - 1) * vW b ≤ (4294967296 ^ a.length - 1) * 4294967296 ^ b.length := Int.mul_le_mul_of_nonneg_left z3 (by have := powB a.length; omega)
  have e : ((4294967296 : Int) ^ a.length - 1) * 4294967296 ^ b.length = 4294967296 ^ a.length * 4294967296 ^ b.length - 4294967296 ^ b.length := by grind
  have := powB b.length
  omega
theorem plus_len (a b r : List Int) (n : Nat) (ha : nW a) (hb : nW b) (hr : nW r) (h : vW r = vW a + vW b) (h1 : a.length ≤ n) (h2 : b.length ≤ n) : r.length ≤ n + 1 := by
  apply len_of r hr
  have a1 := (V_any a ha.1 a.length).2
  have b1 := (V_any b hb.1 b.length).2
  change vW a + 1 ≤ _ at a1
  change vW b + 1 ≤ _ at b1
  have p1 := powB_le a.length n h1
  have p2 := powB_le b.length n h2
  have p3 := powB n
  rw [h, Int.pow_succ]; omega
theorem ratAdd_val (x y : List Int × List Int) (Nx Dx Ny Dy : Int) (hx : IsQ x Nx Dx) (hy : IsQ y Ny Dy) (hNx : 0 ≤ Nx) (hDx : 0 < Dx) (hNy : 0 ≤ Ny) (hDy : 0 < Dy) (A : Nat) (hA : A ≤ 100) (x1 : x.1.length ≤ A) (x2 : (den1 x.2).length ≤ A) (y1 : y.1.length ≤ 2) (y2 : (den1 y.2).length ≤ 2) :
    ∃ r, EvS (fun k => ratAdd (divG k) k k x.1 x.2 y.1 y.2) (some r) ∧ IsQ r (Nx * Dy + Ny * Dx) (Dx * Dy) ∧ r.1.length ≤ A + 3 ∧ (den1 r.2).length ≤ A + 3 := by
  (obtain ⟨cx, px⟩ := hx.cross hDx); (obtain ⟨cy, py⟩ := hy.cross hDy); have hx1 := hx.1; have hx2 := hx.2.1; have hy1 := hy.1; have hy2 := hy.2.1; (obtain ⟨a, a1, a2, a3⟩ := times_val x.1 (den1 y.2) hx1 hy2 z3 z3); (obtain ⟨b, b1, b2, b3⟩ := times_val y.1 (den1 x.2) hy1 hx2 z3 z3); (have al := times_len _ _ _ hx1 hy2 a2 a3); (have bl := times_len _ _ _ hy1 hx2 b2 b3); (obtain ⟨s, s1, s2, s3⟩ := plus2_val a b a2.1 b2.1 z3 z3); (have sl := plus_len a b s (A + 2) a2 b2 s2 s3 z3 z3); (obtain ⟨d, d1, d2, d3⟩ := times_val (den1 x.2) (den1 y.2) hx2 hy2 z3 z3); (have dl := times_len _ _ _ hx2 hy2 d2 d3); (have dpos : 0 < vW d := by rw [d3]; exact Int.mul_pos px py); (have n1 := vW_nonneg x.1 hx1.1); (have n2 := vW_nonneg y.1 hy1.1); (obtain ⟨r, r1, r2, r3, r4, r5⟩ := ratSet_val s d s2 d2 dpos z3 z3); (refine ⟨r, ?_, ?_, by omega, ?_⟩)
  · refine (a1.bind (g := fun k a => (big_times.f k y.1 (den1 x.2)).bind fun b => (plus2 k a b).bind fun s => (big_times.f k (den1 x.2) (den1 y.2)).bind fun d => ratSet (divG k) k k s d)
      (b1.bind (g := fun k b => (plus2 k a b).bind fun s => (big_times.f k (den1 x.2) (den1 y.2)).bind fun d => ratSet (divG k) k k s d)
      (s1.bind (g := fun k s => (big_times.f k (den1 x.2) (den1 y.2)).bind fun d => ratSet (divG k) k k s d)
      (d1.bind (g := fun k d => ratSet (divG k) k k s d) r1)))).same fun k => rfl
  rotate_left
  · rw [den1_some r.2 r3]; omega
  (have q1 : 0 ≤ vW s := vW_nonneg s s2.1); (refine r2.eq q1 dpos ?_ (Int.mul_pos hDx hDy) ?_)
  · (have h1 := Int.mul_nonneg hNx (Int.le_of_lt hDy)); (have h2 := Int.mul_nonneg hNy (Int.le_of_lt hDx)); omega
  rw [s3, a3, b3, d3]; (generalize vW x.1 = nx at *); (generalize vW y.1 = ny at *); (generalize vW (den1 x.2) = dx at *); (generalize vW (den1 y.2) = dy at *); (have e1 : (nx * dy + ny * dx) * (Dx * Dy) = (nx * Dx) * (dy * Dy) + (ny * Dy) * (dx * Dx) := by grind); rw [e1, cx, cy]; grind
theorem partOf_val (x : S55) (h : okM x = true) : ∃ r, EvS (fun k => partOf k x) (some r) ∧ IsQ r (bitsM x) x.f2 ∧ r.1.length ≤ 2 ∧ (den1 r.2).length ≤ 2 := by
  obtain ⟨b1, b2⟩ := bitsM_bounds h
  obtain ⟨_, _, _, _, p1, p2, _⟩ := okM_bounds h
  obtain ⟨n, n1, n2, n3, n4⟩ := of_val (bitsM x) z3 z3
  obtain ⟨d, d1, d2, d3, d4⟩ := of_val x.f2 z3 z3
  obtain ⟨r, r1, r2, r3, r4, r5⟩ := ratSet_val n d n2 d2 z3 z3 z3
  rw [n3, d3] at r2
  refine ⟨r, ?_, r2, by omega, by rw [den1_some r.2 r3]; omega⟩
  refine (n1.bind (g := fun k n => (big_of.f k x.f2).bind fun d => ratSet (divG k) k k n d) (d1.bind (g := fun k d => ratSet (divG k) k k n d) r1)).same fun k => ?_
  show partOf k x = _
  unfold partOf
  rw [bits_ok h, Option.bind_some, if_pos ⟨by omega, by omega, by omega, by omega⟩]
def fracTo (l : List S55) : Nat → Int × Int
  | 0 => (0, 1)
  | i + 1 => ((fracTo l i).1 * (rd_T55 l (i : Int)).f2 + bitsM (rd_T55 l (i : Int)) * (fracTo l i).2, (fracTo l i).2 * (rd_T55 l (i : Int)).f2)
theorem frac_pos (l : List S55) (h : ∀ i, i < l.length → okM (rd_T55 l (i : Int)) = true) : ∀ i : Nat, i ≤ l.length → 0 ≤ (fracTo l i).1 ∧ 0 < (fracTo l i).2
  | 0, _ => by simp [fracTo]
  | i + 1, hi => by
    obtain ⟨h1, h2⟩ := frac_pos l h i z3
    have hb := bitsM_bounds (h i z3)
    obtain ⟨_, _, _, _, p1, p2, _⟩ := okM_bounds (h i z3)
    have m1 := Int.mul_nonneg h1 (show 0 ≤ (rd_T55 l (i : Int)).f2 by omega)
    have m2 := Int.mul_nonneg (show 0 ≤ bitsM (rd_T55 l (i : Int)) by omega) (Int.le_of_lt h2)
    simp only [fracTo]
    exact ⟨by omega, Int.mul_pos h2 z3⟩
theorem shareTo_val (l : List S55) (h : ∀ i, i < l.length → okM (rd_T55 l (i : Int)) = true) (h9 : l.length ≤ 9) : ∀ i : Nat, i ≤ l.length →
    ∃ r, EvS (fun k => shareTo k l i) (some r) ∧ IsQ r (fracTo l i).1 (fracTo l i).2 ∧ r.1.length ≤ 3 * i + 1 ∧ (den1 r.2).length ≤ 3 * i + 1
  | 0, _ => ⟨([], []), ⟨0, fun k _ => rfl⟩, ⟨nW_nil, nW_one.1, show vW [] = (0 : Int) / (Int.gcd 0 1 : Int) by decide, show vW [1] = (1 : Int) / (Int.gcd 0 1 : Int) by decide⟩, by decide, by decide⟩
  | i + 1, hi => by
    obtain ⟨s, s1, s2, s3, s4⟩ := shareTo_val l h h9 i z3
    obtain ⟨f, f1, f2, f3, f4⟩ := partOf_val _ (h i z3)
    obtain ⟨n0, d0⟩ := frac_pos l h i z3
    have hb := bitsM_bounds (h i z3)
    obtain ⟨_, _, _, _, p1, p2, _⟩ := okM_bounds (h i z3)
    obtain ⟨r, r1, r2, r3, r4⟩ := ratAdd_val s f _ _ _ _ s2 f2 n0 d0 z3 z3 (3 * i + 1) z3 s3 s4 f3 f4
    refine ⟨r, ?_, r2, by omega, by omega⟩
    exact (s1.bind (g := fun k s => (partOf k (rd_T55 l (i : Int))).bind fun f => ratAdd (divG k) k k s.1 s.2 f.1 f.2) (f1.bind (g := fun k f => ratAdd (divG k) k k s.1 s.2 f.1 f.2) r1)).same fun k => rfl
theorem sgn_cross (n d N D : Int) (hd : 0 < d) (hD : 0 < D) (h : n * D = N * d) : sgnC n d = sgnC N D := by
  have key : ∀ a b : Int, (a < b ↔ a * (d * D) < b * (d * D)) := fun a b => ⟨fun h => Int.mul_lt_mul_of_pos_right h (Int.mul_pos hd hD), fun h => Int.lt_of_mul_lt_mul_right h (Int.le_of_lt (Int.mul_pos hd hD))⟩
  have e1 : n < d ↔ N < D := by
    constructor
    · intro h1
      apply Int.lt_of_mul_lt_mul_right (a := d) _ (Int.le_of_lt hd)
      rw [← h, Int.mul_comm D d]
      exact Int.mul_lt_mul_of_pos_right h1 hD
    · intro h1
      apply Int.lt_of_mul_lt_mul_right (a := D) _ (Int.le_of_lt hD)
      rw [h, Int.mul_comm d D]
      exact Int.mul_lt_mul_of_pos_right h1 hd
  have e2 : d < n ↔ D < N := by
    constructor
    · intro h1
      apply Int.lt_of_mul_lt_mul_right (a := d) _ (Int.le_of_lt hd)
      rw [← h, Int.mul_comm D d]
      exact Int.mul_lt_mul_of_pos_right h1 hD
    · intro h1
      apply Int.lt_of_mul_lt_mul_right (a := D) _ (Int.le_of_lt hD)
      rw [h, Int.mul_comm d D]
      exact Int.mul_lt_mul_of_pos_right h1 hd
  unfold sgnC
  simp only [e1, e2]
theorem one_ratio : ∃ o u, EvS (fun k => big_of.f k 1) (some o) ∧ EvS (fun k => ratSet (divG k) k k o o) (some u) ∧ nW u.1 ∧ nW (den1 u.2) ∧ vW u.1 = 1 ∧ vW (den1 u.2) = 1 ∧ u.1.length ≤ 2 ∧ (den1 u.2).length ≤ 2 := by
  obtain ⟨o, o1, o2, o3, o4⟩ := of_val 1 z3 z3
  obtain ⟨u, u1, u2, u3, u4, u5⟩ := ratSet_val o o o2 o2 z3 z3 z3
  rw [o3] at u2
  obtain ⟨q1, q2, q3, q4⟩ := u2
  have g1 : (1 : Int) / (Int.gcd 1 1 : Int) = 1 := by decide
  rw [g1] at q3 q4
  exact ⟨o, u, o1, u1, q1, q2, q3, q4, by omega, by rw [den1_some u.2 u3]; omega⟩
theorem ratCmp_val (s u : List Int × List Int) (N D : Int) (hs : IsQ s N D) (hD : 0 < D) (s3 : s.1.length ≤ 100) (s4 : (den1 s.2).length ≤ 100) (q1 : nW u.1) (q2 : nW (den1 u.2)) (q3 : vW u.1 = 1) (q4 : vW (den1 u.2) = 1) (q5 : u.1.length ≤ 2) (q6 : (den1 u.2).length ≤ 2) :
    EvS (fun k => ratCmp k s.1 s.2 u.1 u.2) (some (sgnC N D)) := by
  obtain ⟨c, cp⟩ := hs.cross hD
  have h1 := hs.1
  have h2 := hs.2.1
  obtain ⟨a, a1, a2, a3⟩ := times_val s.1 (den1 u.2) h1 q2 z3 z3
  obtain ⟨b, b1, b2, b3⟩ := times_val u.1 (den1 s.2) q1 h2 z3 z3
  have al := times_len _ _ _ h1 q2 a2 a3
  have bl := times_len _ _ _ q1 h2 b2 b3
  have cm := cmp_val a b a2 b2 z3 z3
  rw [a3, b3, q3, q4, Int.mul_one, Int.one_mul, sgn_cross _ _ _ _ cp hD c] at cm
  refine (a1.bind (g := fun k a => (big_times.f k u.1 (den1 s.2)).bind fun b => big_compare.f k a b) (b1.bind (g := fun k b => big_compare.f k a b) cm)).same fun k => ?_
  show ratCmp k s.1 s.2 u.1 u.2 = _
  unfold ratCmp; rfl
theorem fullC_val (l : List S55) (h : ∀ i, i < l.length → okM (rd_T55 l (i : Int)) = true) (h9 : l.length ≤ 9) : EvS (fun k => fullC k l) (some (sgnC (fracTo l l.length).1 (fracTo l l.length).2)) := by
  obtain ⟨s, s1, s2, s3, s4⟩ := shareTo_val l h h9 l.length (Nat.le_refl _)
  obtain ⟨n0, d0⟩ := frac_pos l h l.length (Nat.le_refl _)
  obtain ⟨o, u, o1, u1, q1, q2, q3, q4, q5, q6⟩ := one_ratio
  have hc := ratCmp_val s u _ _ s2 d0 z3 z3 q1 q2 q3 q4 q5 q6
  generalize sgnC (fracTo l l.length).1 (fracTo l l.length).2 = C at *
  clear s2 s3 s4 n0 d0 q1 q2 q3 q4 q5 q6
  obtain ⟨K1, s1⟩ := s1
  obtain ⟨K2, o1⟩ := o1
  obtain ⟨K3, u1⟩ := u1
  obtain ⟨K4, hc⟩ := hc
  refine ⟨K1 + K2 + K3 + K4, fun k hk => ?_⟩
  have s1 : shareTo k l l.length = some s := s1 k z3
  have o1 : big_of.f k 1 = some o := o1 k z3
  have u1 : ratSet (divG k) k k o o = some u := u1 k z3
  have hc : ratCmp k s.1 s.2 u.1 u.2 = some C := hc k z3
  show fullC k l = _
  unfold fullC bus_share.f
  rw [s1, Option.bind_some, o1, Option.bind_some, u1, Option.bind_some, hc]
theorem fixF_mono (g : Int → Int) : ∀ (k : Nat) (t : Int) (r : Int × Bool), fixF g k t = some r → fixF g (k + 1) t = some r
  | 0, t, r, h => by simp [fixF] at h
  | k + 1, t, r, h => by
    rw [fixF] at h ⊢
    split
    · rename_i c; rw [if_pos c] at h; exact h
    · rename_i c
      rw [if_neg c] at h
      split
      · rename_i c2; rw [if_pos c2] at h; exact h
      · rename_i c2
        rw [if_neg c2] at h
        exact fixF_mono g k _ r h
theorem fixF_le (g : Int → Int) (k : Nat) (t : Int) (r : Int × Bool) (h : fixF g k t = some r) : ∀ m, k ≤ m → fixF g m t = some r := by
  intro m hm
  induction m with
  | zero => obtain rfl : k = 0 := by omega
            exact h
  | succ m ih =>
    by_cases e : k = m + 1
    · subst e; exact h
    · exact fixF_mono g m t r (ih z3)
def fuelN : Nat := 10000002
theorem fuelN_eq : fuelN = 10000002 := rfl
def fixQ (g : Int → Int) (t : Int) : Int × Bool := (fixF g fuelN t).getD (0, false)
attribute [irreducible] fuelN
theorem fixF_ends (g : Int → Int) (hm : ∀ s t, 0 ≤ s → s ≤ t → g s ≤ g t) : ∀ (m : Nat) (t : Int), 0 ≤ t → t ≤ g t → 10000001 - t ≤ m → ∃ r, fixF g (m + 1) t = some r
  | 0, t, h0, h1, h2 => ⟨(0, false), by rw [fixF, if_pos z3]⟩
  | m + 1, t, h0, h1, h2 => by
    rw [fixF]
    by_cases c : 10000000 < g t
    · exact ⟨_, if_pos c⟩
    · rw [if_neg c]
      by_cases c2 : g t = t
      · exact ⟨_, if_pos c2⟩
      · rw [if_neg c2]
        exact fixF_ends g hm m (g t) z3 (hm t (g t) h0 h1) z3
theorem fixQ_ev (g : Int → Int) (hm : ∀ s t, 0 ≤ s → s ≤ t → g s ≤ g t) (t : Int) (h0 : 0 ≤ t) (h1 : t ≤ g t) : EvS (fun k => fixF g k t) (some (fixQ g t)) := by
  obtain ⟨r, hr⟩ := fixF_ends g hm 10000001 t h0 h1 z3
  have e : fixQ g t = r := by
    unfold fixQ
    rw [fuelN_eq, fixF_le g _ t r hr 10000002 z3]; rfl
  exact ⟨10000002, fun k hk => by rw [e]; exact fixF_le g _ t r hr k hk⟩
theorem fixQ_fix (g : Int → Int) (hm : ∀ s t, 0 ≤ s → s ≤ t → g s ≤ g t) (hg : ∀ t, 0 ≤ t → t ≤ 10000000 → 0 ≤ g t) (t : Int) (h0 : 0 ≤ t) (h2 : t ≤ 10000000) (h1 : t ≤ g t) (h : (fixQ g t).2 = true) : 0 ≤ (fixQ g t).1 ∧ (fixQ g t).1 ≤ 10000000 ∧ g (fixQ g t).1 = (fixQ g t).1 := by
  obtain ⟨K, hK⟩ := fixQ_ev g hm t h0 h1
  have h3 : fixF g K t = some (fixQ g t) := hK K (Nat.le_refl _)
  have e : fixQ g t = ((fixQ g t).1, true) := by rw [← h]
  rw [e] at h3
  exact fixF_bounds g hg K t _ h0 h2 h3
theorem inst_mono (x : S55) (hp : 0 < x.f2) {s t : Int} (h : s ≤ t) : inst x s ≤ inst x t := Int.ediv_le_ediv hp z3
theorem instW_mono (x : S55) (hp : 0 < x.f2) {s t : Int} (h : s ≤ t) : instW x s ≤ instW x t := by
  have := Int.ediv_le_ediv (a := s + x.f3) (b := t + x.f3) hp z3
  unfold instW; omega
theorem sumI_mono (f g : S55 → Int) (l : List S55) (h : ∀ i, i < l.length → f (rd_T55 l (i : Int)) ≤ g (rd_T55 l (i : Int))) : ∀ i : Nat, i ≤ l.length → sumI f l i ≤ sumI g l i
  | 0, _ => Int.le_refl _
  | i + 1, hi => by
    have h1 := sumI_mono f g l h i z3
    have h2 := h i z3
    simp only [sumI]; omega
theorem okM_pos {x : S55} (h : okM x = true) : 0 < x.f2 ∧ 0 ≤ bitsM x := by
  obtain ⟨_, _, _, _, p1, p2, _⟩ := okM_bounds h
  have := bitsM_bounds h
  omega
theorem busyN_mono {blocked : Int} {x : S55} {win : List S55} (hx : okM x = true) (hw : ∀ k, k < win.length → okM (rd_T55 win (k : Int)) = true) {s t : Int} (h : s ≤ t) : busyN blocked x win s ≤ busyN blocked x win t := by
  have h1 : inst x s * bitsM x ≤ inst x t * bitsM x := Int.mul_le_mul_of_nonneg_right (inst_mono x (okM_pos hx).1 h) (okM_pos hx).2
  have h2 := sumI_mono (fun o => inst o s * bitsM o) (fun o => inst o t * bitsM o) win (fun i hi => Int.mul_le_mul_of_nonneg_right (inst_mono _ (okM_pos (hw i hi)).1 h) (okM_pos (hw i hi)).2) win.length (Nat.le_refl _)
  unfold busyN; omega
theorem waitN_mono {blocked q : Int} {x : S55} {win : List S55} (hw : ∀ k, k < win.length → okM (rd_T55 win (k : Int)) = true) {s t : Int} (h : s ≤ t) : waitN blocked q x win s ≤ waitN blocked q x win t := by
  have h2 := sumI_mono (fun o => instW o s * bitsM o) (fun o => instW o t * bitsM o) win (fun i hi => Int.mul_le_mul_of_nonneg_right (instW_mono _ (okM_pos (hw i hi)).1 h) (okM_pos (hw i hi)).2) win.length (Nat.le_refl _)
  unfold waitN; omega
theorem waitN_next {blocked q : Int} {x : S55} {win : List S55} (hx : okM x = true) (t : Int) : waitN blocked (q + 1) x win t = waitN blocked q x win t + bitsM x := by
  unfold waitN; grind
def waitD (blocked : Int) (x : S55) (win : List S55) : Nat → Int → Int → Int → Int × Bool
  | 0, q, v, worst => (worst, true)
  | n + 1, q, v, worst =>
      if (fixQ (waitN blocked q x win) v).2 = false ∨ 10000000 < max worst (x.f3 + (fixQ (waitN blocked q x win) v).1 - q * x.f2 + bitsM x) then (0, false)
      else waitD blocked x win n (q + 1) (fixQ (waitN blocked q x win) v).1 (max worst (x.f3 + (fixQ (waitN blocked q x win) v).1 - q * x.f2 + bitsM x))
def delayD (x : S55) (win : List S55) (blocked : Int) : Int × Bool :=
  if 0 ≤ sgnC (fracTo ([x] ++ win) ([x] ++ win).length).1 (fracTo ([x] ++ win) ([x] ++ win).length).2 then (0, false) else
    if (fixQ (busyN blocked x win) 1).2 = false then (0, false) else
      waitD blocked x win (inst x (fixQ (busyN blocked x win) 1).1).toNat 0 0 0
theorem waitTo_ev (blocked : Int) (x : S55) (win : List S55) (hx : okM x = true) (hw : ∀ k, k < win.length → okM (rd_T55 win (k : Int)) = true) (hb0 : 0 ≤ blocked) : ∀ (n : Nat) (q v worst : Int), 0 ≤ q → q + n ≤ 10200000 → 0 ≤ v → v ≤ 10000000 → v ≤ waitN blocked q x win v →
    EvS (fun k => waitTo k blocked x win n q v worst) (some (waitD blocked x win n q v worst))
  | 0, q, v, worst, h0, h1, h2, h3, h4 => ⟨0, fun k _ => rfl⟩
  | n + 1, q, v, worst, h0, h1, h2, h3, h4 => by
    have hm : ∀ s t : Int, 0 ≤ s → s ≤ t → waitN blocked q x win s ≤ waitN blocked q x win t := fun s t _ h => waitN_mono hw h
    have hf := fixQ_ev (waitN blocked q x win) hm v h2 h4
    have hx2 := fixQ_fix (waitN blocked q x win) hm (fun t a b => waitN_nonneg hx hw hb0 h0 z3 a b) v h2 h3 h4
    simp only [waitD]
    generalize fixQ (waitN blocked q x win) v = s at hf hx2 ⊢
    refine (hf.bind (g := fun k s => if s.2 = false ∨ 10000000 < max worst (x.f3 + s.1 - q * x.f2 + bitsM x) then some (0, false) else waitTo k blocked x win n (q + 1) s.1 (max worst (x.f3 + s.1 - q * x.f2 + bitsM x))) ?_).same fun k => rfl
    by_cases c : s.2 = false ∨ 10000000 < max worst (x.f3 + s.1 - q * x.f2 + bitsM x)
    · rw [if_pos c]
      exact ⟨0, fun k _ => if_pos c⟩
    · rw [if_neg c]
      have hs : s.2 = true := by
        cases h : s.2
        · exact absurd (.inl h) c
        · rfl
      obtain ⟨e1, e2, e3⟩ := hx2 hs
      have hb := bitsM_bounds hx
      refine (waitTo_ev blocked x win hx hw hb0 n (q + 1) s.1 _ z3 z3 e1 e2 (by rw [waitN_next hx, e3]; omega)).same fun k => ?_
      exact if_neg c
theorem rd_app (x : S55) (l : List S55) : rd_T55 ([x] ++ l) ((0 : Nat) : Int) = x ∧ ∀ i : Nat, rd_T55 ([x] ++ l) ((i + 1 : Nat) : Int) = rd_T55 l (i : Int) := ⟨rfl, fun i => rfl⟩
theorem okM_app (x : S55) (l : List S55) (hx : okM x = true) (hl : ∀ i, i < l.length → okM (rd_T55 l (i : Int)) = true) : ∀ i, i < ([x] ++ l).length → okM (rd_T55 ([x] ++ l) (i : Int)) = true
  | 0, _ => by rw [(rd_app x l).1]; exact hx
  | i + 1, h => by rw [(rd_app x l).2]; exact hl i (by simp at h; omega)
theorem inst_pos {x : S55} (hx : okM x = true) {t : Int} (h : 1 ≤ t) : 1 ≤ inst x t := by
  obtain ⟨_, _, _, _, p1, p2, p3, p4⟩ := okM_bounds hx
  exact Int.le_ediv_of_mul_le z3 z3
theorem busyN_one {blocked : Int} {x : S55} {win : List S55} (hx : okM x = true) (hw : ∀ k, k < win.length → okM (rd_T55 win (k : Int)) = true) (hb0 : 0 ≤ blocked) : 1 ≤ busyN blocked x win 1 := by
  have a := inst_pos hx (Int.le_refl 1)
  have hb := bitsM_bounds hx
  have b : 1 * bitsM x ≤ inst x 1 * bitsM x := Int.mul_le_mul_of_nonneg_right a z3
  have c := sum_nonneg (fun o => inst o 1 * bitsM o) win (fun i hi => by
    have h3 := hw i hi
    have h4 := inst_bounds h3 (show (0 : Int) ≤ 1 by decide) (show (1 : Int) ≤ 10000000 by decide)
    exact (mulBits h4.1 h4.2 (bitsM_bounds h3).1 (bitsM_bounds h3).2).1) win.length (Nat.le_refl _)
  unfold busyN; omega
theorem delayF_ev (x : S55) (win lose : List S55) (hx : okM x = true) (hw : ∀ k, k < win.length → okM (rd_T55 win (k : Int)) = true) (hl : ∀ k, k < lose.length → okM (rd_T55 lose (k : Int)) = true) (h8 : win.length ≤ 8) :
    EvS (fun k => delayF k x win lose) (some (delayD x win (maxTo lose lose.length))) := by
  (have hb := (maxTo_bounds lose hl lose.length (Nat.le_refl _)).1); (have hfull := fullC_val ([x] ++ win) (okM_app x win hx hw) (by simp; omega)); (have hm : ∀ s t : Int, 0 ≤ s → s ≤ t → busyN (maxTo lose lose.length) x win s ≤ busyN (maxTo lose lose.length) x win t := fun s t _ h => busyN_mono hx hw h); (have hone := busyN_one hx hw hb); (have hf := fixQ_ev (busyN (maxTo lose lose.length) x win) hm 1 z9 hone); (have hx2 := fixQ_fix (busyN (maxTo lose lose.length) x win) hm (fun t a b => busyN_nonneg hx hw hb a b) 1 z9 z9 hone); (unfold delayD); (generalize sgnC (fracTo ([x] ++ win) ([x] ++ win).length).1 (fracTo ([x] ++ win) ([x] ++ win).length).2 = C at hfull ⊢)
  refine (hfull.bind (g := fun k c => if 0 ≤ c then some (0, false) else
    (fixF (busyN (maxTo lose lose.length) x win) k 1).bind fun s => if s.2 = false then some (0, false) else
      waitTo k (maxTo lose lose.length) x win (inst x s.1).toNat 0 0 0) ?_).same fun k => by show delayF k x win lose = _; unfold delayF; rfl
  by_cases c : 0 ≤ C
  · rw [if_pos c]; (exact ⟨0, fun k _ => if_pos c⟩)
  rw [if_neg c]; (generalize fixQ (busyN (maxTo lose lose.length) x win) 1 = s at hf hx2 ⊢)
  have h2 : EvS (fun k => if s.2 = false then some (0, false) else waitTo k (maxTo lose lose.length) x win (inst x s.1).toNat 0 0 0) (some (if s.2 = false then (0, false) else waitD (maxTo lose lose.length) x win (inst x s.1).toNat 0 0 0)) := by
    by_cases c2 : s.2 = false
    · rw [if_pos c2]
      exact ⟨0, fun k _ => if_pos c2⟩
    · rw [if_neg c2]
      have hs : s.2 = true := by
        cases h : s.2
        · exact absurd h c2
        · rfl
      obtain ⟨e1, e2, e3⟩ := hx2 hs
      have hi := inst_bounds hx e1 e2
      refine (waitTo_ev (maxTo lose lose.length) x win hx hw hb (inst x s.1).toNat 0 0 0 (Int.le_refl _) z3 (Int.le_refl _) z9 (waitN_nonneg hx hw hb (Int.le_refl _) z9 (Int.le_refl _) z9)).same fun k => if_neg c2
  refine (hf.bind (g := fun k s => if s.2 = false then some (0, false) else
      waitTo k (maxTo lose lose.length) x win (inst x s.1).toNat 0 0 0) h2).same fun k => if_neg c
def delaySpec (l : List S55) (no : Int) : Int × Int :=
  if sentB l = false then (0, 2) else if idxTo l no l.length 0 < 0 then (0, 6) else
    if (delayD (rd_T55 l (idxTo l no l.length 0)) (winTo l no l.length) (maxTo (loseTo l no l.length) (loseTo l no l.length).length)).2 = false then (0, 10)
    else ((delayD (rd_T55 l (idxTo l no l.length 0)) (winTo l no l.length) (maxTo (loseTo l no l.length) (loseTo l no l.length).length)).1, 0)
def MonoF (g : Int → Int) : Prop := ∀ s t, 0 ≤ s → s ≤ t → g s ≤ g t
theorem fixF_true (g : Int → Int) (hm : MonoF g) : ∀ (k : Nat) (t : Int) (r : Int × Bool), 0 ≤ t → t ≤ g t → fixF g k t = some r → r.2 = true → t ≤ r.1 ∧ r.1 ≤ 10000000 ∧ g r.1 = r.1
  | 0, t, r, h0, h1, h, hr => by simp [fixF] at h
  | k + 1, t, r, h0, h1, h, hr => by
    rw [fixF] at h
    by_cases c : 10000000 < g t
    · rw [if_pos c] at h
      obtain rfl := sI h
      cases hr
    rw [if_neg c] at h
    by_cases c2 : g t = t
    · rw [if_pos c2] at h
      obtain rfl := sI h
      exact ⟨Int.le_refl _, by show t ≤ _; omega, c2⟩
    · rw [if_neg c2] at h
      obtain ⟨a, b, d⟩ := fixF_true g hm k (g t) r z3 (hm t (g t) h0 h1) h hr
      exact ⟨by omega, b, d⟩
theorem fixQ_true (g : Int → Int) (hm : MonoF g) (t : Int) (h0 : 0 ≤ t) (h1 : t ≤ g t) (h : (fixQ g t).2 = true) : t ≤ (fixQ g t).1 ∧ (fixQ g t).1 ≤ 10000000 ∧ g (fixQ g t).1 = (fixQ g t).1 := by
  obtain ⟨K, hK⟩ := fixQ_ev g hm t h0 h1
  exact fixF_true g hm K t _ h0 h1 (hK K (Nat.le_refl _)) h
def frS (p : Int × Int) (x : S55) : Int × Int := (p.1 * x.f2 + bitsM x * p.2, p.2 * x.f2)
theorem sumI_congr (f : S55 → Int) (a b : List S55) : ∀ n : Nat, (∀ k : Nat, k < n → rd_T55 a (k : Int) = rd_T55 b (k : Int)) → sumI f a n = sumI f b n
  | 0, _ => rfl
  | n + 1, h => by simp only [sumI]; rw [sumI_congr f a b n (fun k hk => h k z3), h n z3]
theorem sumI_snoc (f : S55 → Int) (l : List S55) (x : S55) : sumI f (l ++ [x]) (l ++ [x]).length = sumI f l l.length + f x := by
  rw [List.length_append, List.length_singleton]
  simp only [sumI]
  rw [sumI_congr f (l ++ [x]) l l.length (fun k hk => by rw [rd_T55_snoc, if_neg z3]), rd_T55_snoc, if_pos rfl]
theorem maxTo_congr (a b : List S55) : ∀ n : Nat, (∀ k : Nat, k < n → rd_T55 a (k : Int) = rd_T55 b (k : Int)) → maxTo a n = maxTo b n
  | 0, _ => rfl
  | n + 1, h => by simp only [maxTo]; rw [maxTo_congr a b n (fun k hk => h k z3), h n z3]
theorem maxTo_snoc (l : List S55) (x : S55) : maxTo (l ++ [x]) (l ++ [x]).length = max (maxTo l l.length) (bitsM x) := by
  rw [List.length_append, List.length_singleton]
  simp only [maxTo]
  rw [maxTo_congr (l ++ [x]) l l.length (fun k hk => by rw [rd_T55_snoc, if_neg z3]), rd_T55_snoc, if_pos rfl]
theorem fracTo_congr (a b : List S55) : ∀ n : Nat, (∀ k : Nat, k < n → rd_T55 a (k : Int) = rd_T55 b (k : Int)) → fracTo a n = fracTo b n
  | 0, _ => rfl
  | n + 1, h => by simp only [fracTo]; rw [fracTo_congr a b n (fun k hk => h k z3), h n z3]
theorem fracTo_snoc (l : List S55) (x : S55) : fracTo (l ++ [x]) (l ++ [x]).length = frS (fracTo l l.length) x := by
  rw [List.length_append, List.length_singleton]
  simp only [fracTo]
  rw [fracTo_congr (l ++ [x]) l l.length (fun k hk => by rw [rd_T55_snoc, if_neg z3]), rd_T55_snoc, if_pos rfl]
  rfl
theorem frS_comm (p : Int × Int) (x y : S55) : frS (frS p x) y = frS (frS p y) x := by
  unfold frS
  simp only [Prod.mk.injEq]
  constructor <;> grind
theorem fracTo_cons (l : List S55) (x : S55) : fracTo ([x] ++ l) ([x] ++ l).length = frS (fracTo l l.length) x := by
  have key : ∀ n : Nat, fracTo ([x] ++ l) (n + 1) = frS (fracTo l n) x := by
    intro n
    induction n with
    | zero => simp only [fracTo, frS]; rw [(rd_app x l).1]
    | succ n ih =>
      have e : fracTo ([x] ++ l) (n + 1 + 1) = frS (fracTo ([x] ++ l) (n + 1)) (rd_T55 ([x] ++ l) ((n + 1 : Nat) : Int)) := rfl
      have e2 : fracTo l (n + 1) = frS (fracTo l n) (rd_T55 l (n : Int)) := rfl
      rw [e, ih, (rd_app x l).2, e2, frS_comm]
  have e : ([x] ++ l).length = l.length + 1 := by simp
  rw [e, key]
def OkL (l : List S55) : Prop := ∀ i, i < l.length → okM (rd_T55 l (i : Int)) = true
theorem idxTo_nat (l : List S55) (no : Int) (h : ¬ idxTo l no l.length 0 < 0) : ∃ i : Nat, idxTo l no l.length 0 = (i : Int) ∧ i < l.length := by
  rcases idxTo_range l no l.length 0 with h1 | h1
  · omega
  · exact ⟨(idxTo l no l.length 0).toNat, by omega, by omega⟩
theorem delayK_ex (l : List S55) (no : Int) : ∃ k, delayK k l no = some (delaySpec l no) := by
  unfold delayK delaySpec
  by_cases hs : sentB l = false
  · exact ⟨0, by rw [if_pos hs, if_pos hs]⟩
  rw [if_neg hs]
  by_cases hi : idxTo l no l.length 0 < 0
  · exact ⟨0, by rw [if_neg hs, if_pos hi, if_pos hi]⟩
  rw [if_neg hi]
  obtain ⟨i, e, hil⟩ := idxTo_nat l no hi
  obtain ⟨h8, hok⟩ := sentB_oks l (by cases h : sentB l; exact absurd h hs; rfl)
  rw [e]
  have hwl := winTo_len l no l.length
  obtain ⟨K, hK⟩ := delayF_ev (rd_T55 l (i : Int)) (winTo l no l.length) (loseTo l no l.length) (hok i hil) (winTo_ok l no l.length hok l.length (Nat.le_refl _)) (loseTo_ok l no l.length hok l.length (Nat.le_refl _)) z3
  have hk : delayF K (rd_T55 l (i : Int)) (winTo l no l.length) (loseTo l no l.length) = some _ := hK K (Nat.le_refl _)
  refine ⟨K, ?_⟩
  rw [if_neg hs, if_neg z3, hk, Option.bind_some]
  split <;> rfl
def bus_Delay.f (l : List S55) (no : Int) : Option (Int × Int) := some (delaySpec l no)
theorem bus_Delay.calls (A0 : Option Addr) (c0 : Nat) (l0 : List S55) (a1 : Int) (r1 r2 : Int) (w : World) (hr0 : Kd.C k55 w A0 l0.length l0) (hc0 : l0.length ≤ c0) (h : bus_Delay.f l0 a1 = some (r1, r2)) :
    Calls Tryd.prog 30 #[.slice A0 l0.length c0, .int .i64 a1] w fun e w' => e = .returned (.tuple #[.int .i64 r1, .int .i64 r2]) ∧ Below w.heap.size w w' := by
  obtain ⟨k, hk⟩ := delayK_ex l0 a1
  exact bus_Delay.callsK k A0 c0 l0 a1 r1 r2 w hr0 hc0 (hk.trans h)
def selL (l : List S55) (P : Nat → Bool) : Nat → List S55
  | 0 => []
  | n + 1 => if P n = true then selL l P n ++ [rd_T55 l (n : Int)] else selL l P n
theorem selL_len (l : List S55) (P : Nat → Bool) : ∀ n, (selL l P n).length ≤ n
  | 0 => Nat.le_refl _
  | n + 1 => by
    have := selL_len l P n
    simp only [selL]
    split
    · rw [List.length_append, List.length_singleton]; omega
    · omega
theorem selL_ok (l : List S55) (P : Nat → Bool) (m : Nat) (h : ∀ i, i < m → okM (rd_T55 l (i : Int)) = true) : ∀ n, n ≤ m → ∀ k, k < (selL l P n).length → okM (rd_T55 (selL l P n) (k : Int)) = true
  | 0, _, k, hk => by simp [selL] at hk
  | n + 1, hn, k, hk => by
    have ih := selL_ok l P m h n z3
    simp only [selL] at hk ⊢
    split at hk
    · rename_i hc
      rw [if_pos hc, rd_T55_snoc]
      split
      · exact h n z3
      · exact ih k (by rw [List.length_append, List.length_singleton] at hk; omega)
    · rename_i hc
      rw [if_neg hc]; exact ih k hk
def dlP (l : List S55) (P : Nat → Bool) (b : Int) (i : Nat) : Int × Bool := delayD (rd_T55 l (i : Int)) (selL l P l.length) b
def canB (l : List S55) (lims : List Int) (Q : Nat → Bool) (b : Int) (i : Nat) : Bool := Q i && (dlP l (fun t => Q t && t != i) b i).2 && decide ((dlP l (fun t => Q t && t != i) b i).1 ≤ rd lims (i : Int))
def firstP (c : Nat → Bool) : Nat → Nat → Option Nat
  | 0, i => none
  | n + 1, i => if c i = true then some i else firstP c n (i + 1)
def orderS (l : List S55) (lims : List Int) : Nat → (Nat → Bool) → Int → List Int → List Int × Int
  | 0, Q, b, out => (out, 0)
  | n + 1, Q, b, out => match firstP (canB l lims Q b) l.length 0 with
    | none => ([], 10)
    | some i => orderS l lims n (fun t => Q t && t != i) (max b (bitsM (rd_T55 l (i : Int)))) ((i : Int) :: out)
theorem firstP_spec (c : Nat → Bool) : ∀ n i, (firstP c n i = none ∧ ∀ t, i ≤ t → t < i + n → c t = false) ∨ ∃ t, firstP c n i = some t ∧ i ≤ t ∧ t < i + n ∧ c t = true ∧ ∀ s, i ≤ s → s < t → c s = false
  | 0, i => .inl ⟨rfl, fun t h1 h2 => by omega⟩
  | n + 1, i => by
    simp only [firstP]
    by_cases h : c i = true
    · rw [if_pos h]; exact .inr ⟨i, rfl, Nat.le_refl _, by omega, h, fun s h1 h2 => by omega⟩
    · rw [if_neg h]
      have h' : c i = false := by simpa using h
      rcases firstP_spec c n (i + 1) with ⟨h1, h2⟩ | ⟨t, h1, h2, h3, h4, h5⟩
      · refine .inl ⟨h1, fun t h3 h4 => ?_⟩
        by_cases e : t = i
        · subst e; exact h'
        · exact h2 t z3 z3
      · refine .inr ⟨t, h1, by omega, by omega, h4, fun s h6 h7 => ?_⟩
        by_cases e : s = i
        · subst e; exact h'
        · exact h5 s z3 h7
theorem canB_Q {l : List S55} {lims : List Int} {Q : Nat → Bool} {b : Int} {i : Nat} (h : canB l lims Q b i = true) : Q i = true := by
  unfold canB at h
  simp only [Bool.and_eq_true] at h
  exact h.1.1
def VD (l : List Int) : Nat → Int
  | 0 => 0
  | n + 1 => VD l n + rd l (n : Int) * 10000 ^ n
abbrev vD (l : List Int) : Int := VD l l.length
def okD (l : List Int) : Prop := ∀ i : Nat, i < l.length → 0 ≤ rd l (i : Int) ∧ rd l (i : Int) < 10000
def nD (l : List Int) : Prop := okD l ∧ (0 < l.length → 0 < rd l ((l.length - 1 : Nat) : Int))
theorem d10_powB (n : Nat) : (1 : Int) ≤ 10000 ^ n := by
  induction n with
  | zero => simp
  | succ n ih => rw [Int.pow_succ]; omega
theorem d10_powB_le (n m : Nat) (h : n ≤ m) : (10000 : Int) ^ n ≤ 10000 ^ m := by
  induction m with
  | zero => obtain rfl : n = 0 := by omega
            exact Int.le_refl _
  | succ m ih =>
    by_cases e : n = m + 1
    · subst e; exact Int.le_refl _
    · have := ih z3
      have := d10_powB m
      rw [Int.pow_succ]; omega
theorem d10_V_bound (l : List Int) (h : okD l) : ∀ n, n ≤ l.length → 0 ≤ VD l n ∧ VD l n + 1 ≤ 10000 ^ n
  | 0, _ => by simp [VD]
  | n + 1, hn => by
    obtain ⟨h1, h2⟩ := d10_V_bound l h n z3
    obtain ⟨h3, h4⟩ := h n z3
    have hp := d10_powB n
    have h5 : 0 ≤ rd l (n : Int) * 10000 ^ n := Int.mul_nonneg h3 z3
    have h6 : rd l (n : Int) * 10000 ^ n ≤ 9999 * 10000 ^ n := Int.mul_le_mul_of_nonneg_right z3 z3
    rw [Int.pow_succ]
    simp only [VD]
    omega
theorem d10_V_low (l : List Int) (h : nD l) (hp : 0 < l.length) : 10000 ^ (l.length - 1) ≤ vD l := by
  obtain ⟨m, hm⟩ : ∃ m, l.length = m + 1 := ⟨l.length - 1, by omega⟩
  have h1 := (d10_V_bound l h.1 m z3).1
  have h2 := h.2 hp
  show _ ≤ VD l l.length
  rw [hm] at h2 ⊢
  simp only [VD, Nat.add_sub_cancel] at h2 ⊢
  have h3 : 1 * 10000 ^ m ≤ rd l (m : Int) * 10000 ^ m := Int.mul_le_mul_of_nonneg_right z3 (by have := d10_powB m; omega)
  omega
theorem d10_V_congr (a b : List Int) : ∀ n : Nat, (∀ i : Nat, i < n → rd a (i : Int) = rd b (i : Int)) → VD a n = VD b n
  | 0, _ => rfl
  | n + 1, h => by simp only [VD]; rw [d10_V_congr a b n (fun i hi => h i z3), h n z3]
theorem d10_V_set (l : List Int) (i : Nat) (v : Int) (hi : i < l.length) : ∀ n, n ≤ l.length → VD (l.set i v) n = VD l n + if i < n then (v - rd l (i : Int)) * 10000 ^ i else 0
  | 0, _ => by simp [VD]
  | n + 1, hn => by
    simp only [VD]
    rw [d10_V_set l i v hi n z3, rd_put l i v n z3]
    by_cases h1 : n = i
    · subst h1
      rw [if_pos rfl, if_neg z3, if_pos z3]; grind
    · rw [if_neg h1]
      by_cases h2 : i < n
      · rw [if_pos h2, if_pos z3]; omega
      · rw [if_neg h2, if_neg z3]; omega
theorem d10_V_zero (l : List Int) (n : Nat) (h : ∀ i, n ≤ i → i < l.length → rd l (i : Int) = 0) : ∀ m, n ≤ m → m ≤ l.length → VD l m = VD l n := by
  intro m hm hl
  induction m with
  | zero => obtain rfl : n = 0 := by omega
            rfl
  | succ m ih =>
    by_cases e : n = m + 1
    · subst e; rfl
    · simp only [VD]
      rw [ih z3 z3, h m z3 z3]; omega
theorem d10_okW_take (l : List Int) (m : Nat) (h : okD l) : okD (l.take m) := fun i hi => by
  rw [List.length_take] at hi
  rw [rd_take _ _ _ z3]
  exact h i z3
theorem d10_V_take (l : List Int) (m n : Nat) (h : n ≤ m) : VD (l.take m) n = VD l n := d10_V_congr _ _ _ (fun i hi => rd_take l m i z3)
def okE (l : List Int) (n : Nat) : Prop := ∀ i : Nat, i < n → 0 ≤ rd l (i : Int) ∧ rd l (i : Int) < 10000
theorem d10_okT_set (l : List Int) (n i : Nat) (v : Int) (h : okE l n) (hl : n ≤ l.length) (h0 : 0 ≤ v) (h1 : v < 10000) : okE (l.set i v) n := fun j hj => by
  rw [rd_put l i v j z3]
  split
  · exact ⟨h0, h1⟩
  · exact h j hj
theorem d10_okT_put (l : List Int) (n : Nat) (v : Int) (h : okE l n) (hl : n < l.length) (h0 : 0 ≤ v) (h1 : v < 10000) : okE (l.set n v) (n + 1) := fun j hj => by
  rw [rd_put l n v j z3]
  split
  · exact ⟨h0, h1⟩
  · exact h j z3
theorem d10_V_put (l : List Int) (n : Nat) (v : Int) (hl : n < l.length) : VD (l.set n v) (n + 1) = VD l n + v * 10000 ^ n := by
  simp only [VD]
  rw [d10_V_set l n v hl n z3, if_neg z3, rd_put l n v n z3, if_pos rfl]; omega
theorem d10_V_over (l : List Int) (n : Nat) (h : l.length ≤ n) : VD l n = vD l := by
  induction n with
  | zero => obtain e : l.length = 0 := by omega
            show _ = VD l l.length
            rw [e]
  | succ n ih =>
    by_cases e : l.length = n + 1
    · show _ = VD l l.length
      rw [e]
    · simp only [VD]
      rw [ih z3, rd_out l n z3]; omega
theorem d10_V_rep (m : Nat) : ∀ n, VD (List.replicate m 0) n = 0
  | 0 => rfl
  | n + 1 => by simp only [VD]; rw [d10_V_rep m n, rd_rep]; omega
theorem d10_rd_any (b : List Int) (hb : okD b) (i : Nat) : 0 ≤ rd b (i : Int) ∧ rd b (i : Int) < 10000 := by
  by_cases h : i < b.length
  · exact hb i h
  · rw [rd_out b i z3]; omega
theorem d10_vW_nonneg (l : List Int) (h : okD l) : 0 ≤ vD l := (d10_V_bound l h _ (Nat.le_refl _)).1
theorem d10_len_lt (a b : List Int) (ha : okD a) (hb : nD b) (h : a.length < b.length) : vD a < vD b := by
  have h1 := (d10_V_bound a ha _ (Nat.le_refl _)).2
  have h2 := d10_V_low b hb z3
  have h3 := d10_powB_le a.length (b.length - 1) z3
  show VD a a.length < VD b b.length
  have h4 : VD b b.length = vD b := rfl
  omega
theorem d10_V_any (l : List Int) (h : okD l) : ∀ n, 0 ≤ VD l n ∧ VD l n + 1 ≤ 10000 ^ n
  | 0 => by simp [VD]
  | n + 1 => by
    obtain ⟨h1, h2⟩ := d10_V_any l h n
    obtain ⟨h3, h4⟩ := d10_rd_any l h n
    have hp := d10_powB n
    have h5 : 0 ≤ rd l (n : Int) * 10000 ^ n := Int.mul_nonneg h3 z3
    have h6 : rd l (n : Int) * 10000 ^ n ≤ 9999 * 10000 ^ n := Int.mul_le_mul_of_nonneg_right z3 z3
    rw [Int.pow_succ]
    simp only [VD]
    omega
theorem d10_len_of (r : List Int) (h : nD r) (n : Nat) (hv : vD r < 10000 ^ n) : r.length ≤ n := by
  rcases Nat.lt_or_ge n r.length with h1 | h1
  · exfalso
    have h2 := d10_V_low r h z3
    have h3 := d10_powB_le n (r.length - 1) z3
    omega
  · exact h1
theorem d10_len_le (a b : List Int) (ha : nD a) (hb : okD b) (h : vD a ≤ vD b) : a.length ≤ b.length := by
  have := (d10_V_any b hb b.length).2
  exact d10_len_of a ha _ (by have h2 : vD b = VD b b.length := rfl; omega)
theorem d10_nil_iff (l : List Int) (h : nD l) : l.length = 0 ↔ vD l = 0 := by
  constructor
  · intro e; show VD l l.length = 0; rw [e]; rfl
  · intro e
    rcases Nat.eq_zero_or_pos l.length with h1 | h1
    · exact h1
    · have := d10_V_low l h h1
      have := d10_powB (l.length - 1)
      omega
theorem d10_times_len (a b r : List Int) (ha : nD a) (hb : nD b) (hr : nD r) (h : vD r = vD a * vD b) : r.length ≤ a.length + b.length := by
  apply d10_len_of r hr
  obtain ⟨a0, a1⟩ := d10_V_any a ha.1 a.length
  obtain ⟨b0, b1⟩ := d10_V_any b hb.1 b.length
  change 0 ≤ vD a at a0
  change vD a + 1 ≤ _ at a1
  change 0 ≤ vD b at b0
  change vD b + 1 ≤ _ at b1
  rw [h, Int.pow_add]
  have h1 : vD a * vD b ≤ (10000 ^ a.length - 1) * vD b := Int.mul_le_mul_of_nonneg_right z3 b0
  have h2 : (10000 ^ a.length - 1) * vD b ≤ (10000 ^ a.length - 1) * 10000 ^ b.length := Int.mul_le_mul_of_nonneg_left z3 (by have := d10_powB a.length; omega)
  have e : ((10000 : Int) ^ a.length - 1) * 10000 ^ b.length = 10000 ^ a.length * 10000 ^ b.length - 10000 ^ b.length := by grind
  have := d10_powB b.length
  omega
theorem rd_app1 (l : List Int) (x : Int) (i : Nat) : rd (l ++ [x]) (i : Int) = if i < l.length then rd l (i : Int) else if i = l.length then x else 0 := by
  show (l ++ [x]).getD i 0 = if i < l.length then l.getD i 0 else _
  rw [List.getD_eq_getElem?_getD, List.getD_eq_getElem?_getD]
  by_cases h : i < l.length
  · rw [if_pos h, List.getElem?_append_left h]
  · rw [if_neg h, List.getElem?_append_right z3]
    by_cases h2 : i = l.length
    · subst h2; simp
    · rw [if_neg h2, List.getElem?_eq_none (by simp; omega)]; rfl
theorem vD_app (l : List Int) (x : Int) : vD (l ++ [x]) = vD l + x * 10000 ^ l.length := by
  show VD (l ++ [x]) (l ++ [x]).length = _
  rw [List.length_append, List.length_singleton]
  simp only [VD]
  rw [rd_app1, if_neg z3, if_pos rfl]
  congr 1
  exact d10_V_congr _ _ _ fun i hi => by rw [rd_app1, if_pos hi]
theorem okD_app (l : List Int) (x : Int) (h : okD l) (h0 : 0 ≤ x) (h1 : x < 10000) : okD (l ++ [x]) := fun i hi => by
  rw [List.length_append, List.length_singleton] at hi
  rw [rd_app1]
  split
  · exact h i (by assumption)
  · rw [if_pos z3]; exact ⟨h0, h1⟩
theorem vD_cons (x : Int) (l : List Int) : vD ([x] ++ l) = x + vD l * 10000 := by
  show VD (x :: l) (l.length + 1) = x + VD l l.length * 10000
  have key : ∀ n, VD (x :: l) (n + 1) = x + VD l n * 10000 := by
    intro n
    induction n with
    | zero => show 0 + x * 1 = x + 0 * 10000; omega
    | succ n ih =>
      have e : VD (x :: l) (n + 1 + 1) = VD (x :: l) (n + 1) + rd (x :: l) ((n + 1 : Nat) : Int) * 10000 ^ (n + 1) := rfl
      have e2 : rd (x :: l) ((n + 1 : Nat) : Int) = rd l (n : Int) := rfl
      rw [e, ih, e2]
      simp only [VD]
      rw [Int.pow_succ]; grind
  exact key l.length
theorem okD_cons (x : Int) (l : List Int) (h : okD l) (h0 : 0 ≤ x) (h1 : x < 10000) : okD ([x] ++ l) := fun i hi => by
  cases i with
  | zero => exact ⟨h0, h1⟩
  | succ i => exact h i (by simp at hi; omega)
theorem take_rd (l : List Int) (i : Nat) (h : i < l.length) : l.take i ++ [rd l (i : Int)] = l.take (i + 1) := by
  rw [List.take_add_one]
  congr 1
  show [l.getD i 0] = _
  rw [List.getD_eq_getElem?_getD, List.getElem?_eq_getElem h]; rfl
theorem w64m1 (n : Nat) (h2 : n ≤ 1000000) : wrap64 (((n + 1 : Nat) : Int) - 1) = (n : Int) := by unfold wrap64; omega
theorem w64p1 (n : Nat) (h2 : n ≤ 1000000) : wrap64 ((n : Int) + 1) = ((n + 1 : Nat) : Int) := by unfold wrap64; omega
def ValD (f : Nat → Option (List Int)) (v : Int) : Prop := ∃ r, EvS f (some r) ∧ nD r ∧ vD r = v
theorem ValD.succ {f g : Nat → Option (List Int)} {v : Int} (h : ValD g v) (hs : ∀ k, f (k + 1) = g k) : ValD f v := by
  obtain ⟨r, h1, h2, h3⟩ := h
  exact ⟨r, h1.succ 0 fun k _ => hs k, h2, h3⟩
theorem ValD.same {f g : Nat → Option (List Int)} {v : Int} (h : ValD g v) (hs : ∀ k, f k = g k) : ValD f v := by
  obtain ⟨r, h1, h2, h3⟩ := h
  exact ⟨r, h1.same hs, h2, h3⟩
theorem dtrim_l1 (l : List Int) (n : Nat) (hn : n ≤ l.length) (hl : l.length ≤ 1000000) : ∀ m i : Nat, n - i = m → i ≤ n → EvS (fun k => r1_trim.l1 k l (n : Int) (l.take i) (i : Int)) (some (l.take n))
  | 0, i, hm, hi => by
    obtain rfl : i = n := by omega
    exact EvS.now 0 fun k _ => by rw [r1_trim.l1, if_neg z3]
  | m + 1, i, hm, hi => by
    refine (dtrim_l1 l n hn hl m (i + 1) z3 z3).succ 0 fun k _ => ?_
    rw [r1_trim.l1, if_pos z3, if_pos z3, if_pos z3, if_pos (by rw [List.length_take]; omega), take_rd l i z3, w64p1 i z3]
theorem dtrim_l0 (l : List Int) (hl : l.length ≤ 1000000) : ∀ n : Nat, n ≤ l.length → (∀ i, n ≤ i → i < l.length → rd l (i : Int) = 0) →
    ∃ m, m ≤ n ∧ EvS (fun k => r1_trim.l0 k l (n : Int)) (some (l.take m)) ∧ (0 < m → rd l ((m - 1 : Nat) : Int) ≠ 0) ∧ (∀ i, m ≤ i → i < l.length → rd l (i : Int) = 0)
  | 0, hn, h => by
    have hj : EvS (fun k => r1_trim.j1 k l ((0 : Nat) : Int)) (some (l.take 0)) := (dtrim_l1 l 0 z3 hl 0 0 rfl z3).succ 0 fun k _ => rfl
    exact ⟨0, Nat.le_refl _, hj.succ 0 fun k _ => by rw [r1_trim.l0, if_neg z3], fun h => absurd h z3, h⟩
  | n + 1, hn, h => by
    by_cases hz : rd l (n : Int) = 0
    · obtain ⟨m, h1, h2, h3, h4⟩ := dtrim_l0 l hl n z3 (fun i a b => by
        by_cases e : i = n
        · subst e; exact hz
        · exact h i z3 b)
      exact ⟨m, by omega, h2.succ 0 fun k _ => by rw [r1_trim.l0, if_pos z3, w64m1 n z3, if_pos z3, if_pos z3, if_pos hz], h3, h4⟩
    · have hj : EvS (fun k => r1_trim.j1 k l ((n + 1 : Nat) : Int)) (some (l.take (n + 1))) := (dtrim_l1 l (n + 1) z3 hl (n + 1) 0 rfl z3).succ 0 fun k _ => rfl
      exact ⟨n + 1, Nat.le_refl _, hj.succ 0 fun k _ => by rw [r1_trim.l0, if_pos z3, w64m1 n z3, if_pos z3, if_pos z3, if_neg hz], fun _ => hz, h⟩
theorem dtrim_val (l : List Int) (hl : l.length ≤ 1000000) (ho : okD l) : ∃ r, EvS (fun k => r1_trim.f k l) (some r) ∧ nD r ∧ vD r = vD l ∧ r.length ≤ l.length := by
  obtain ⟨m, h1, h2, h3, h4⟩ := dtrim_l0 l hl l.length (Nat.le_refl _) (fun i a b => by omega)
  have hlen : (l.take m).length = m := by rw [List.length_take]; omega
  refine ⟨l.take m, h2, ⟨d10_okW_take l m ho, fun hp => ?_⟩, ?_, by omega⟩
  · rw [hlen] at hp ⊢
    rw [rd_take _ _ _ z3]
    have := (ho (m - 1) z3).1
    have := h3 hp
    omega
  · show VD (l.take m) (l.take m).length = VD l l.length
    rw [hlen, d10_V_take l m m (Nat.le_refl _), d10_V_zero l m h4 l.length h1 (Nat.le_refl _)]
theorem whole_val (l : List Int) (hl : l.length ≤ 1000000) (ho : okD l) : ∃ r, EvS (fun k => r1_whole.f k false l) (some (false, r)) ∧ nD r ∧ vD r = vD l ∧ r.length ≤ l.length := by
  obtain ⟨r, h1, h2⟩ := dtrim_val l hl ho
  refine ⟨r, ?_, h2⟩
  refine (h1.bind (g := fun k t => some (false, t)) ⟨0, fun _ _ => rfl⟩).same fun k => ?_
  show r1_whole.f k false l = _
  unfold r1_whole.f
  cases r1_trim.f k l <;> rfl
theorem dcmp_l0 (a b : List Int) (ha : okD a) (hb : okD b) (he : a.length = b.length) (hl : a.length ≤ 1000000) : ∀ n : Nat, n ≤ a.length → EvS (fun k => r1_cmpD.l0 k a b ((n : Int) - 1)) (some (sgnC (VD a n) (VD b n)))
  | 0, hn => EvS.now 0 fun k _ => by rw [r1_cmpD.l0, if_neg z3]; rfl
  | n + 1, hn => by
    have e : ((n + 1 : Nat) : Int) - 1 = (n : Int) := by omega
    obtain ⟨a1, a2⟩ := ha n z3
    obtain ⟨b1, b2⟩ := hb n z3
    obtain ⟨va1, va2⟩ := d10_V_any a ha n
    obtain ⟨vb1, vb2⟩ := d10_V_any b hb n
    have hp := d10_powB n
    rw [e]
    have ea : VD a (n + 1) = VD a n + rd a (n : Int) * 10000 ^ n := rfl
    have eb : VD b (n + 1) = VD b n + rd b (n : Int) * 10000 ^ n := rfl
    rcases Int.lt_trichotomy (rd a (n : Int)) (rd b (n : Int)) with h | h | h
    · refine EvS.now 0 fun k _ => ?_
      rw [r1_cmpD.l0, if_pos z3, if_pos z3, if_pos z3, if_pos z3, if_pos h]
      have h5 : (rd a (n : Int) + 1) * 10000 ^ n ≤ rd b (n : Int) * 10000 ^ n := Int.mul_le_mul_of_nonneg_right z3 z3
      rw [Int.add_mul] at h5
      unfold sgnC
      rw [if_pos z3]
    · have ih := dcmp_l0 a b ha hb he hl n z3
      have e2 : sgnC (VD a (n + 1)) (VD b (n + 1)) = sgnC (VD a n) (VD b n) := by
        unfold sgnC
        rw [ea, eb, h]
        by_cases h1 : VD a n < VD b n
        · rw [if_pos h1, if_pos z3]
        · rw [if_neg h1, if_neg z3]
          by_cases h2 : VD b n < VD a n
          · rw [if_pos h2, if_pos z3]
          · rw [if_neg h2, if_neg z3]
      rw [e2]
      refine ih.succ 0 fun k _ => ?_
      rw [r1_cmpD.l0, if_pos z3, if_pos z3, if_pos z3, if_pos z3, if_neg z3, if_neg z3]
      congr 1; unfold wrap64; omega
    · refine EvS.now 0 fun k _ => ?_
      rw [r1_cmpD.l0, if_pos z3, if_pos z3, if_pos z3, if_pos z3, if_neg z3, if_pos h]
      have h5 : (rd b (n : Int) + 1) * 10000 ^ n ≤ rd a (n : Int) * 10000 ^ n := Int.mul_le_mul_of_nonneg_right z3 z3
      rw [Int.add_mul] at h5
      unfold sgnC
      rw [if_neg z3, if_pos z3]
theorem dcmp_val (a b : List Int) (ha : nD a) (hb : nD b) (hl : a.length ≤ 1000000) (hl2 : b.length ≤ 1000000) : EvS (fun k => r1_cmpD.f k a b) (some (sgnC (vD a) (vD b))) := by
  by_cases he : a.length = b.length
  · have h := dcmp_l0 a b ha.1 hb.1 he hl a.length (Nat.le_refl _)
    have e : sgnC (vD a) (vD b) = sgnC (VD a a.length) (VD b a.length) := by show sgnC (VD a a.length) (VD b b.length) = _; rw [he]
    rw [e]
    refine h.same fun k => ?_
    show r1_cmpD.f k a b = _
    unfold r1_cmpD.f
    rw [if_neg z3, if_neg z3]
    congr 1; unfold wrap64; omega
  · refine ⟨0, fun k _ => ?_⟩
    show r1_cmpD.f k a b = _
    unfold r1_cmpD.f
    rcases Nat.lt_or_gt_of_ne he with h | h
    · have h1 := d10_len_lt a b ha.1 hb h
      rw [if_pos z3]
      unfold sgnC; rw [if_pos h1]
    · have h1 := d10_len_lt b a hb.1 ha h
      rw [if_neg z3, if_pos z3]
      unfold sgnC; rw [if_neg z3, if_pos h1]
theorem w64t (x : Int) (h1 : -1000000000000000000 ≤ x) (h2 : x ≤ 1000000000000000000) : wrap64 x = x := by simp only [wrap64]; omega
theorem tmodD (x : Int) (h : 0 ≤ x) : Int.tmod x 10000 = x % 10000 := Int.tmod_eq_emod_of_nonneg h
theorem tdivD (x : Int) (h : 0 ≤ x) : Int.tdiv x 10000 = x / 10000 := Int.tdiv_eq_ediv_of_nonneg h
theorem addD_l0 (a b : List Int) (ha : okD a) (hb : okD b) (n : Nat) (la : a.length ≤ n) (lb : b.length ≤ n) (hn : n ≤ 100000) : ∀ (m i : Nat) (out : List Int) (c : Int), n + 1 - i = m → i ≤ n + 1 → out.length = i → okD out → 0 ≤ c → c ≤ 1 → (n < i → c = 0) → vD out + c * 10000 ^ i = VD a i + VD b i →
    ∃ r, EvS (fun k => r1_addD.l0 k a b out c (i : Int)) (some r) ∧ okD r ∧ vD r = vD a + vD b ∧ r.length ≤ n + 1 := by
  intro m
  induction m with
  | zero =>
    intro i out c hm hi ho hk hc0 hc1 hc hV
    have hc' := hc z3
    subst hc'
    refine ⟨out, ?_, hk, ?_, by omega⟩
    · have hj : EvS (fun k => r1_addD.j1 k a b out 0 (i : Int) false) (some out) := EvS.now 0 fun k _ => by rw [r1_addD.j1, if_neg z9]
      exact hj.succ 0 fun k _ => by rw [r1_addD.l0, if_neg z3, if_neg z3]; rfl
    · rw [d10_V_over a i z3, d10_V_over b i z3] at hV; omega
  | succ m ih =>
    intro i out c hm hi ho hk hc0 hc1 hc hV
    obtain ⟨a1, a2⟩ := d10_rd_any a ha i
    obtain ⟨b1, b2⟩ := d10_rd_any b hb i
    by_cases hend : ¬ i < a.length ∧ ¬ i < b.length ∧ c = 0
    · obtain ⟨e1, e2, rfl⟩ := hend
      refine ⟨out, ?_, hk, ?_, by omega⟩
      · have hj : EvS (fun k => r1_addD.j1 k a b out 0 (i : Int) false) (some out) := EvS.now 0 fun k _ => by rw [r1_addD.j1, if_neg z9]
        exact hj.succ 0 fun k _ => by rw [r1_addD.l0, if_neg z3, if_neg z3]; rfl
      · rw [d10_V_over a i z3, d10_V_over b i z3] at hV; omega
    · obtain ⟨S, hS⟩ : ∃ S, S = c + rd a (i : Int) + rd b (i : Int) := ⟨_, rfl⟩
      have hV2 : vD (out ++ [S % 10000]) + S / 10000 * 10000 ^ (i + 1) = VD a (i + 1) + VD b (i + 1) := by
        rw [vD_app, ho, Int.pow_succ]
        simp only [VD]
        have := Int.emod_add_mul_ediv S 10000
        grind
      have hin : i = n → S / 10000 = 0 := fun e => by
        rw [hS, rd_out a i z3, rd_out b i z3]; omega
      obtain ⟨r, h1, h2⟩ := ih (i + 1) (out ++ [S % 10000]) (S / 10000) z3 z3 (by rw [List.length_append, List.length_singleton, ho]) (okD_app out _ hk z3 z3) z3 z3 (fun h => hin z3) hV2
      refine ⟨r, ?_, h2⟩
      have hlen : out.length < 17592186044416 := by omega
      have hj : EvS (fun k => r1_addD.j1 k a b out c (i : Int) true) (some r) := by
        refine h1.succ 0 fun k _ => ?_
        rw [r1_addD.j1, if_pos rfl, w64p1 i z3]
        by_cases ca : i < a.length
        · rw [if_pos z3, if_pos z3, w64t (c + rd a (i : Int)) z3 z3]
          by_cases cb : i < b.length
          · rw [if_pos z3, if_pos hlen, w64t (c + rd a (i : Int) + rd b (i : Int)) z3 z3, ← hS, tmodD S z3, tdivD S z3, w64t (S / 10000) z3 z3]
          · have e1 : c + rd a (i : Int) = S := by rw [hS, rd_out b i z3]; omega
            rw [if_neg z3, if_pos hlen, e1, tmodD S z3, tdivD S z3, w64t (S / 10000) z3 z3]
        · rw [if_neg z3]
          by_cases cb : i < b.length
          · have e1 : c + rd b (i : Int) = S := by rw [hS, rd_out a i z3]; omega
            rw [if_pos z3, if_pos z3, if_pos hlen, e1, w64t S z3 z3, tmodD S z3, tdivD S z3, w64t (S / 10000) z3 z3]
          · have e1 : c = S := by rw [hS, rd_out a i z3, rd_out b i z3]; omega
            rw [if_neg z3, if_pos hlen, e1, tmodD S z3, tdivD S z3, w64t (S / 10000) z3 z3]
      refine hj.succ 0 fun k _ => ?_
      rw [r1_addD.l0]
      by_cases ca : i < a.length
      · rw [if_pos z3]
      · rw [if_neg z3]
        by_cases cb : i < b.length
        · rw [if_pos z3]
        · have hc3 : c > 0 := by
            rcases (show c = 0 ∨ c > 0 by omega) with h | h
            · exact absurd ⟨ca, cb, h⟩ hend
            · exact h
          rw [if_neg z3, dT hc3]
theorem addD_val (a b : List Int) (ha : okD a) (hb : okD b) (n : Nat) (la : a.length ≤ n) (lb : b.length ≤ n) (hn : n ≤ 100000) : ∃ r, EvS (fun k => r1_addD.f k a b) (some r) ∧ okD r ∧ vD r = vD a + vD b ∧ r.length ≤ n + 1 :=
  addD_l0 a b ha hb n la lb hn (n + 1) 0 [] 0 rfl z3 rfl (fun i hi => absurd hi (by simp)) z3 z3 (fun h => by omega) (by show VD [] 0 + 0 * _ = 0 + 0; simp [VD])
theorem subD_l0 (a b : List Int) (ha : okD a) (hb : okD b) (lab : b.length ≤ a.length) (hn : a.length ≤ 100000) (hle : vD b ≤ vD a) : ∀ (m i : Nat) (out : List Int) (c : Int), a.length - i = m → i ≤ a.length → out.length = i → okD out → 0 ≤ c → c ≤ 1 → vD out = VD a i - VD b i + c * 10000 ^ i →
    ValD (fun k => r1_subD.l0 k a b out c (i : Int)) (vD a - vD b) := by
  intro m
  induction m with
  | zero =>
    intro i out c hm hi ho hk hc0 hc1 hV
    obtain rfl : i = a.length := by omega
    obtain ⟨r, h1, h2, h3, h4⟩ := dtrim_val out z3 hk
    refine ⟨r, h1.succ 0 fun k _ => ?_, h2, ?_⟩
    · rw [r1_subD.l0, if_neg z3]
      cases r1_trim.f k out <;> rfl
    · have hb2 := (d10_V_any out hk out.length).2
      have e : vD out = VD out out.length := rfl
      have e2 : vD a = VD a a.length := rfl
      rw [ho] at hb2 e
      rw [d10_V_over b a.length lab] at hV
      rw [h3]
      rcases (show c = 0 ∨ c = 1 by omega) with h | h
      · subst h; omega
      · subst h; omega
  | succ m ih =>
    intro i out c hm hi ho hk hc0 hc1 hV
    obtain ⟨a1, a2⟩ := d10_rd_any a ha i
    obtain ⟨b1, b2⟩ := d10_rd_any b hb i
    obtain ⟨S, hS⟩ : ∃ S, S = rd a (i : Int) - c - rd b (i : Int) := ⟨_, rfl⟩
    have hlen : out.length < 17592186044416 := by omega
    have step : ∀ S' c' : Int, S' = S + c' * 10000 → 0 ≤ c' → c' ≤ 1 → 0 ≤ S' → S' < 10000 → ValD (fun k => r1_subD.l0 k a b (out ++ [S']) c' ((i + 1 : Nat) : Int)) (vD a - vD b) := fun S' c' h h0 h1 h2 h3 =>
      ih (i + 1) (out ++ [S']) c' z3 z3 (by rw [List.length_append, List.length_singleton, ho]) (okD_app out _ hk h2 h3) h0 h1 (by
        rw [vD_app, ho, Int.pow_succ]
        simp only [VD]
        rw [hV, h, hS]; grind)
    have e1 : rd a (i : Int) - c - rd b (i : Int) = S := hS.symm
    by_cases neg : S < 0
    · refine (step (S + 10000) 1 z3 z3 z3 z3 z3).succ fun k => ?_
      show r1_subD.l0 (k + 1) a b out c (i : Int) = _
      rw [r1_subD.l0, if_pos z3, if_pos z3, w64p1 i z3, w64t (rd a (i : Int) - c) z3 z3]
      by_cases cb : i < b.length
      · rw [if_pos z3, w64t (rd a (i : Int) - c - rd b (i : Int)) z3 z3, e1, if_pos neg, if_pos hlen, w64t (S + 10000) z3 z3]
      · have e2 : rd a (i : Int) - c = S := by rw [hS, rd_out b i z3]; omega
        rw [if_neg z3, e2, if_pos neg, if_pos hlen, w64t (S + 10000) z3 z3]
    · refine (step S 0 z3 z3 z3 z3 z3).succ fun k => ?_
      show r1_subD.l0 (k + 1) a b out c (i : Int) = _
      rw [r1_subD.l0, if_pos z3, if_pos z3, w64p1 i z3, w64t (rd a (i : Int) - c) z3 z3]
      by_cases cb : i < b.length
      · rw [if_pos z3, w64t (rd a (i : Int) - c - rd b (i : Int)) z3 z3, e1, if_neg neg, if_pos hlen]
      · have e2 : rd a (i : Int) - c = S := by rw [hS, rd_out b i z3]; omega
        rw [if_neg z3, e2, if_neg neg, if_pos hlen]
theorem subD_val (a b : List Int) (ha : okD a) (hb : okD b) (lab : b.length ≤ a.length) (hn : a.length ≤ 100000) (hle : vD b ≤ vD a) : ValD (fun k => r1_subD.f k a b) (vD a - vD b) :=
  subD_l0 a b ha hb lab hn hle a.length 0 [] 0 rfl z3 rfl (fun i hi => absurd hi (by simp)) z3 z3 (by show VD [] 0 = 0 - 0 + 0 * _; simp [VD])
def EvP {α : Type} (f : Nat → Option α) (P : α → Prop) : Prop := ∃ r, EvS f (some r) ∧ P r
theorem EvP.same {α : Type} {f g : Nat → Option α} {P : α → Prop} (h : EvP g P) (hs : ∀ k, f k = g k) : EvP f P := by
  obtain ⟨r, h1, h2⟩ := h
  exact ⟨r, h1.same hs, h2⟩
theorem EvP.succ {α : Type} {f g : Nat → Option α} {P : α → Prop} (h : EvP g P) (hs : ∀ k, f (k + 1) = g k) : EvP f P := by
  obtain ⟨r, h1, h2⟩ := h
  exact ⟨r, h1.succ 0 fun k _ => hs k, h2⟩
theorem EvP.now {α : Type} {f : Nat → Option α} {P : α → Prop} (r : α) (hs : ∀ k, f (k + 1) = some r) (hP : P r) : EvP f P :=
  ⟨r, EvS.now 0 fun k _ => hs k, hP⟩
theorem EvP.at {α : Type} {f : Nat → Option α} {P : α → Prop} (r : α) (hs : ∀ k, f k = some r) (hP : P r) : EvP f P :=
  ⟨r, ⟨0, fun k _ => hs k⟩, hP⟩
theorem EvP.bind {α β : Type} {f : Nat → Option α} {P : α → Prop} {g : Nat → α → Option β} {Q : β → Prop} (h : EvP f P) (h2 : ∀ a, P a → EvP (fun k => g k a) Q) : EvP (fun k => (f k).bind (g k)) Q := by
  obtain ⟨a, h1, hP⟩ := h
  obtain ⟨b, h3, hQ⟩ := h2 a hP
  exact ⟨b, h1.bind h3, hQ⟩
theorem EvP.weak {α : Type} {f : Nat → Option α} {P Q : α → Prop} (h : EvP f P) (hs : ∀ a, P a → Q a) : EvP f Q := by
  obtain ⟨r, h1, h2⟩ := h
  exact ⟨r, h1, hs r h2⟩
def IsD (v : Int) (r : List Int) : Prop := nD r ∧ vD r = v
theorem ValD.evP {f : Nat → Option (List Int)} {v : Int} (h : ValD f v) : EvP f (IsD v) := by
  obtain ⟨r, h1, h2, h3⟩ := h
  exact ⟨r, h1, h2, h3⟩
theorem dwholeP (l : List Int) (hl : l.length ≤ 1000000) (ho : okD l) : EvP (fun k => r1_whole.f k false l) (fun r => r.1 = false ∧ IsD (vD l) r.2) := by
  obtain ⟨r, h1, h2, h3, h4⟩ := whole_val l hl ho
  exact ⟨(false, r), h1, rfl, h2, h3⟩
theorem dmul_bound (x y a b : Int) (hx0 : 0 ≤ x) (hx1 : x ≤ a) (hy0 : 0 ≤ y) (hy1 : y ≤ b) : 0 ≤ x * y ∧ x * y ≤ a * b :=
  ⟨Int.mul_nonneg hx0 hy0, Int.mul_le_mul hx1 hy1 hy0 z3⟩
theorem dmul_alg (Vo s0 s1 oj P c N d Vb bj P1 P2 S : Int) (hP : P = P1 * P2) (h4 : s0 + 10000 * s1 = S) (hS : S = oj + d * bj + c) (hV : Vo + c * P = N + d * Vb * P1) : Vo + (s0 - oj) * P + s1 * (P * 10000) = N + d * (Vb + bj * P2) * P1 := by
  grind
theorem mulD_l1 (b a : List Int) (hb : okD b) (ha : okD a) (hb2 : b.length ≤ 100000) (ha2 : a.length ≤ 100000) (i : Nat) (hi : i < a.length) (N v : Int)
    (H : ∀ out' : List Int, out'.length = a.length + b.length → okE out' (i + 1 + b.length) → VD out' (i + 1 + b.length) = N + rd a (i : Int) * vD b * 10000 ^ i → ValD (fun k => r1_mulD.l0 k a b out' ((i + 1 : Nat) : Int)) v) :
    ∀ (m j : Nat) (out : List Int) (c : Int), b.length - j = m → j ≤ b.length → out.length = a.length + b.length → okE out (i + b.length) → 0 ≤ c → c < 10000 → VD out (i + b.length) + c * 10000 ^ (i + j) = N + rd a (i : Int) * VD b j * 10000 ^ i →
    ValD (fun k => r1_mulD.l1 k a b out (i : Int) c (j : Int)) v
  | 0, j, out, c, hm, hj, ho, hk, hc0, hc1, hV => by
    have HV := aM hV
    clear hV
    obtain rfl : j = b.length := by omega
    have e : i + 1 + b.length = (i + b.length) + 1 := by omega
    have hk2 : okE (out.set (i + b.length) c) (i + 1 + b.length) := by
      rw [e]; exact d10_okT_put out _ _ hk z3 z3 z3
    have hV2 : Aside0 (VD (out.set (i + b.length) c) (i + 1 + b.length) = N + rd a (i : Int) * vD b * 10000 ^ i) := by
      constructor
      rw [e, d10_V_put out _ _ z3, HV.out]
    refine (H _ (by rw [List.length_set]; exact ho) hk2 hV2.out).succ fun k => ?_
    have e1 : wrap64 ((i : Int) + (b.length : Int)) = ((i + b.length : Nat) : Int) := by unfold wrap64; omega
    have q1 : ¬ (b.length : Int) < (b.length : Int) := by omega
    have q2 : (0 : Int) ≤ ((i + b.length : Nat) : Int) := Int.natCast_nonneg _
    have q3 : ((i + b.length : Nat) : Int) < (out.length : Int) := by omega
    show r1_mulD.l1 (k + 1) a b out (i : Int) c (b.length : Int) = _
    rw [r1_mulD.l1, if_neg q1, e1, if_pos q2, if_pos q3, Int.toNat_natCast, w64p1 i z3]
  | m + 1, j, out, c, hm, hj, ho, hk, hc0, hc1, hV => by
    have HV := aM hV
    clear hV
    have e1 : wrap64 ((i : Int) + (j : Int)) = ((i + j : Nat) : Int) := by unfold wrap64; omega
    have q1 : (j : Int) < (b.length : Int) := by omega
    have q2 : (0 : Int) ≤ (j : Int) := by omega
    have q3 : (0 : Int) ≤ ((i + j : Nat) : Int) := Int.natCast_nonneg _
    have q4 : ((i + j : Nat) : Int) < (out.length : Int) := by omega
    have q5 : (0 : Int) ≤ (i : Int) := by omega
    have q6 : (i : Int) < (a.length : Int) := by omega
    obtain ⟨b1, b2⟩ := hb j z3
    obtain ⟨a1, a2⟩ := ha i hi
    obtain ⟨o1, o2⟩ := hk (i + j) z3
    obtain ⟨p1, p2⟩ := dmul_bound (rd a (i : Int)) (rd b (j : Int)) 9999 9999 z3 z3 z3 z3
    obtain ⟨S, hS⟩ : ∃ S, S = rd out ((i + j : Nat) : Int) + rd a (i : Int) * rd b (j : Int) + c := ⟨_, rfl⟩
    have hk2 : okE (out.set (i + j) (S % 10000)) (i + b.length) := d10_okT_set out _ _ _ hk z3 z3 z3
    have hV2 : Aside0 (VD (out.set (i + j) (S % 10000)) (i + b.length) + S / 10000 * 10000 ^ (i + (j + 1)) = N + rd a (i : Int) * VD b (j + 1) * 10000 ^ i) := by
      constructor
      rw [d10_V_set out (i + j) _ z3 _ z3, if_pos z3]
      have hV := HV.out
      have e2 : (10000 : Int) ^ (i + (j + 1)) = 10000 ^ (i + j) * 10000 := Int.pow_succ _ _
      rw [e2]
      exact dmul_alg _ _ _ _ _ _ _ _ _ _ _ _ S (Int.pow_add _ _ _) (Int.emod_add_mul_ediv S 10000) hS hV
    refine (mulD_l1 b a hb ha hb2 ha2 i hi N v H m (j + 1) _ (S / 10000) z3 z3 (by rw [List.length_set]; exact ho) hk2 z3 z3 hV2.out).succ fun k => ?_
    show r1_mulD.l1 (k + 1) a b out (i : Int) c (j : Int) = _
    rw [r1_mulD.l1, if_pos q1, e1, if_pos q3, if_pos q4, if_pos q5, if_pos q6, if_pos q2, Int.toNat_natCast, w64p1 j z3, w64t (rd a (i : Int) * rd b (j : Int)) z3 z3, w64t (rd out ((i + j : Nat) : Int) + rd a (i : Int) * rd b (j : Int)) z3 z3, w64t (rd out ((i + j : Nat) : Int) + rd a (i : Int) * rd b (j : Int) + c) z3 z3, ← hS, tmodD S z3, tdivD S z3, w64t (S / 10000) z3 z3]
theorem mulD_l0 (b a : List Int) (ha : okD a) (hb : okD b) (hb2 : b.length ≤ 100000) (ha2 : a.length ≤ 100000) : ∀ (m i : Nat) (out : List Int), a.length - i = m → i ≤ a.length → out.length = a.length + b.length → okE out (i + b.length) → VD out (i + b.length) = VD a i * vD b →
    ValD (fun k => r1_mulD.l0 k a b out (i : Int)) (vD a * vD b)
  | 0, i, out, hm, hi, ho, hk, hV => by
    obtain rfl : i = a.length := by omega
    obtain ⟨r, h1, h2, h3, h4⟩ := dtrim_val out z3 (fun j hj => hk j z3)
    refine ⟨r, h1.succ 0 fun k _ => ?_, h2, ?_⟩
    · rw [r1_mulD.l0, if_neg z3]
      cases r1_trim.f k out <;> rfl
    · rw [h3]
      show VD out out.length = _
      rw [ho, hV]
  | m + 1, i, out, hm, hi, ho, hk, hV => by
    have hz : VD out (i + b.length) + 0 * 10000 ^ (i + 0) = VD a i * vD b + rd a (i : Int) * VD b 0 * 10000 ^ i := by
      rw [hV]; simp [VD]
    refine (mulD_l1 b a hb ha hb2 ha2 i z3 (VD a i * vD b) _ (fun out' h1 h2 h3 => mulD_l0 b a ha hb hb2 ha2 m (i + 1) out' z3 z3 h1 h2 (by rw [h3]; simp only [VD]; grind)) b.length 0 out 0 rfl z3 ho hk z3 z3 hz).succ fun k => ?_
    show r1_mulD.l0 (k + 1) a b out (i : Int) = _
    rw [r1_mulD.l0, if_pos z3]; rfl
theorem mulD_val (a b : List Int) (ha : okD a) (hb : okD b) (ha2 : a.length ≤ 100000) (hb2 : b.length ≤ 100000) : ValD (fun k => r1_mulD.f k a b) (vD a * vD b) := by
  refine (mulD_l0 b a ha hb hb2 ha2 a.length 0 (List.replicate (a.length + b.length) 0) z3 z3 List.length_replicate (fun i hi => by rw [rd_rep]; omega) (by rw [d10_V_rep]; simp [VD])).same fun k => ?_
  have e1 : wrap64 ((a.length : Int) + (b.length : Int)) = ((a.length + b.length : Nat) : Int) := by unfold wrap64; omega
  show r1_mulD.f k a b = _
  unfold r1_mulD.f
  rw [e1, if_pos z3, Int.toNat_natCast, if_pos z3]; rfl
theorem of_l0D : ∀ (m : Nat) (n : Int) (out : List Int), 0 ≤ n → n < 10000 ^ m → n ≤ 9223372036854775807 → out.length + m ≤ 1000 → okD out →
    EvP (fun k => r1_Of.l0 k n out false) (fun r => r.1 = false ∧ IsD (vD out + n * 10000 ^ out.length) r.2)
  | 0, n, out, h0, h1, h2, h3, h4 => by
    obtain rfl : n = 0 := by simp at h1; omega
    have e : vD out + 0 * 10000 ^ out.length = vD out := by omega
    rw [e]
    refine (dwholeP out z3 h4).succ fun k => ?_
    show r1_Of.l0 (k + 1) 0 out false = _
    rw [r1_Of.l0, if_pos rfl]
    cases r1_whole.f k false out <;> rfl
  | m + 1, n, out, h0, h1, h2, h3, h4 => by
    by_cases hz : n = 0
    · subst hz
      have e : vD out + 0 * 10000 ^ out.length = vD out := by omega
      rw [e]
      refine (dwholeP out z3 h4).succ fun k => ?_
      show r1_Of.l0 (k + 1) 0 out false = _
      rw [r1_Of.l0, if_pos rfl]
      cases r1_whole.f k false out <;> rfl
    · have hlt : n / 10000 < 10000 ^ m := by
        rw [Int.pow_succ] at h1
        exact Int.ediv_lt_of_lt_mul z3 h1
      have ih := of_l0D m (n / 10000) (out ++ [n % 10000]) z3 hlt z3 (by rw [List.length_append, List.length_singleton]; omega) (okD_app out _ h4 z3 z3)
      have e : vD (out ++ [n % 10000]) + n / 10000 * 10000 ^ (out ++ [n % 10000]).length = vD out + n * 10000 ^ out.length := by
        rw [vD_app, List.length_append, List.length_singleton, Int.pow_succ]
        have := Int.emod_add_mul_ediv n 10000
        grind
      rw [e] at ih
      refine ih.succ fun k => ?_
      show r1_Of.l0 (k + 1) n out false = _
      rw [r1_Of.l0, if_neg hz, tmodD n h0, tdivD n h0, if_neg z3, if_pos z3, w64s (n / 10000) z3 z3]
theorem ofD (n : Int) (h0 : 0 ≤ n) (h1 : n ≤ 9223372036854775807) : EvP (fun k => r1_Of.f k n) (fun r => r.1 = false ∧ IsD n r.2 ∧ r.2.length ≤ 5) := by
  obtain ⟨r, h2, h3, h4⟩ := of_l0D 5 n [] h0 (by show n < 10000 ^ 5; omega) h1 (by simp) (fun i hi => absurd hi (by simp))
  have e : vD [] + n * 10000 ^ ([] : List Int).length = n := by show 0 + n * 1 = n; omega
  rw [e] at h4
  refine ⟨r, h2.same fun k => ?_, h3, h4, ?_⟩
  · show r1_Of.f k n = _
    unfold r1_Of.f
    rw [dF z3]
  · exact d10_len_of r.2 h4.1 5 (by rw [h4.2]; omega)
theorem timesD (a b : List Int) (ha : nD a) (hb : nD b) (ha2 : a.length ≤ 1000) (hb2 : b.length ≤ 1000) : EvP (fun k => r1_Times.f k false a false b) (fun r => r.1 = false ∧ IsD (vD a * vD b) r.2 ∧ r.2.length ≤ a.length + b.length) := by
  refine ((mulD_val a b ha.1 hb.1 z3 z3).evP.bind (g := fun k t => (r1_whole.f k false t).bind fun bt => some (bt.1, bt.2)) (Q := fun r => r.1 = false ∧ IsD (vD a * vD b) r.2 ∧ r.2.length ≤ a.length + b.length) fun t ht => ?_).same fun k => rfl
  have hl := d10_times_len a b t ha hb ht.1 ht.2
  refine ((dwholeP t z3 ht.1.1).weak (Q := fun r => r.1 = false ∧ IsD (vD a * vD b) r.2 ∧ r.2.length ≤ a.length + b.length) fun r hr => ⟨hr.1, ⟨hr.2.1, by rw [hr.2.2, ht.2]⟩, d10_times_len a b r.2 ha hb hr.2.1 (by rw [hr.2.2, ht.2])⟩).same fun k => ?_
  cases r1_whole.f k false t <;> rfl
theorem plusD (a b : List Int) (n : Nat) (ha : nD a) (hb : nD b) (ha2 : a.length ≤ n) (hb2 : b.length ≤ n) (hn : n ≤ 1000) : EvP (fun k => r1_Plus.f k false a false b) (fun r => r.1 = false ∧ IsD (vD a + vD b) r.2 ∧ r.2.length ≤ n + 1) := by
  obtain ⟨t, t1, t2, t3, t4⟩ := addD_val a b ha.1 hb.1 n ha2 hb2 z3
  obtain ⟨r, r1, r2, r3, r4⟩ := whole_val t z3 t2
  refine ⟨(false, r), ?_, rfl, ⟨r2, by rw [r3, t3]⟩, by show r.length ≤ _; omega⟩
  refine (t1.bind (g := fun k t => (r1_whole.f k false t).bind fun bt => some (bt.1, bt.2)) ((r1.bind (g := fun k bt => some (bt.1, bt.2)) ⟨0, fun _ _ => rfl⟩).same fun k => rfl)).same fun k => rfl
theorem compareD (a b : List Int) (ha : nD a) (hb : nD b) (ha2 : a.length ≤ 1000000) (hb2 : b.length ≤ 1000000) : EvS (fun k => r1_Compare.f k false a false b) (some (sgnC (vD a) (vD b))) := by
  refine (dcmp_val a b ha hb ha2 hb2).same fun k => ?_
  show r1_Compare.f k false a false b = _
  unfold r1_Compare.f
  rw [if_neg z9]
  cases r1_cmpD.f k a b <;> rfl
theorem vD_one (x : Int) : vD [x] = x := by show 0 + x * 1 = x; omega
theorem okD_one (x : Int) (h0 : 0 ≤ x) (h1 : x < 10000) : okD [x] := fun i hi => by
  obtain rfl : i = 0 := by simp at hi; omega
  exact ⟨h0, h1⟩
theorem nD_nil : nD [] := ⟨fun i hi => absurd hi (by simp), fun h => absurd h (by simp)⟩
theorem pos_len (b : List Int) (hb : nD b) (h : 0 < vD b) : 0 < b.length := by
  rcases Nat.eq_zero_or_pos b.length with h1 | h1
  · have := (d10_nil_iff b hb).mp h1; omega
  · exact h1
theorem digitD (b : List Int) (hb : nD b) (hb2 : b.length ≤ 1000) (x : Int) (h0 : 0 ≤ x) (h1 : x < 10000) {β : Type} {g : Nat → List Int → Option β} {Q : β → Prop} (H : ∀ p, IsD (vD b * x) p → p.length ≤ b.length + 1 → EvP (fun k => g k p) Q) :
    EvP (fun k => (r1_trim.f k [x]).bind fun t => (r1_mulD.f k b t).bind (g k)) Q := by
  obtain ⟨t, t1, t2, t3, t4⟩ := dtrim_val [x] (by simp) (okD_one x h0 h1)
  have hl : t.length ≤ 1 := t4
  obtain ⟨p, p1, p2, p3⟩ := mulD_val b t hb.1 t2.1 z3 z3
  rw [t3, vD_one] at p3
  obtain ⟨r, r1, r2⟩ := H p ⟨p2, p3⟩ (by have := d10_times_len b t p hb t2 p2 (by rw [p3, t3, vD_one]); omega)
  exact ⟨r, t1.bind (g := fun k t => (r1_mulD.f k b t).bind (g k)) (p1.bind r1), r2⟩
theorem sgn_le (a b : Int) : sgnC a b ≤ 0 ↔ a ≤ b := by
  unfold sgnC
  by_cases h : a < b
  · rw [if_pos h]; omega
  · rw [if_neg h]
    by_cases h2 : b < a
    · rw [if_pos h2]; omega
    · rw [if_neg h2]; omega
theorem divD_l1 (a b q rem : List Int) (x8 : Int) (hb : nD b) (hb2 : b.length ≤ 1000) (hr : nD rem) (hr2 : rem.length ≤ 1001) (h8 : 0 ≤ x8) (h9 : x8 < (q.length : Int)) (Q : List Int × List Int → Prop)
    (H : ∀ (L : Int) (r : List Int), 0 ≤ L → L ≤ 9999 → vD b * L ≤ vD rem → vD rem < vD b * (L + 1) → IsD (vD rem - vD b * L) r → EvP (fun k => r1_divD.l0 k a b (q.set x8.toNat L) r (wrap64 (x8 - 1))) Q) :
    ∀ (m : Nat) (lo hi : Int), 0 ≤ lo → lo ≤ hi → hi ≤ 9999 → hi - lo ≤ m → vD b * lo ≤ vD rem → vD rem < vD b * (hi + 1) → EvP (fun k => r1_divD.l1 k a b q rem x8 lo hi) Q := by
  have fin : ∀ lo : Int, 0 ≤ lo → lo ≤ 9999 → vD b * lo ≤ vD rem → vD rem < vD b * (lo + 1) → EvP (fun k => r1_divD.l1 k a b q rem x8 lo lo) Q := fun lo h0 h1 h2 h3 => by
    refine (digitD b hb hb2 lo h0 z3 (g := fun k p => (r1_subD.f k rem p).bind fun r => r1_divD.l0 k a b (q.set x8.toNat lo) r (wrap64 (x8 - 1))) (Q := Q) fun p hp hl => ?_).succ fun k => ?_
    · have hle : vD p ≤ vD rem := by rw [hp.2]; exact h2
      have hlen := d10_len_le p rem hp.1 hr.1 hle
      refine (subD_val rem p hr.1 hp.1.1 hlen z3 hle).evP.bind (g := fun k r => r1_divD.l0 k a b (q.set x8.toNat lo) r (wrap64 (x8 - 1))) fun r hrr => ?_
      exact H lo r h0 h1 h2 h3 ⟨hrr.1, by rw [hrr.2, hp.2]⟩
    · show r1_divD.l1 (k + 1) a b q rem x8 lo lo = _
      rw [r1_divD.l1, if_neg z3, if_pos h8, if_pos h9]
  intro m
  induction m with
  | zero =>
    intro lo hi h0 h1 h2 h3 h4 h5
    obtain rfl : hi = lo := by omega
    exact fin _ h0 h2 h4 h5
  | succ m ih =>
    intro lo hi h0 h1 h2 h3 h4 h5
    by_cases e : lo < hi
    · have em : wrap64 (Int.tdiv (wrap64 (wrap64 (lo + hi) + 1)) 2) = (lo + hi + 1) / 2 := by
        rw [w64t (lo + hi) z3 z3, w64t (lo + hi + 1) z3 z3, Int.tdiv_eq_ediv_of_nonneg z3, w64t _ z3 z3]
      obtain ⟨mid, hmid⟩ : ∃ mid, mid = (lo + hi + 1) / 2 := ⟨_, rfl⟩
      rw [← hmid] at em
      refine (digitD b hb hb2 mid z3 z3 (g := fun k p => (r1_cmpD.f k p rem).bind fun c => if c ≤ 0 then r1_divD.l1 k a b q rem x8 mid hi else r1_divD.l1 k a b q rem x8 lo (wrap64 (mid - 1))) (Q := Q) fun p hp hl => ?_).succ fun k => ?_
      · obtain ⟨K, hK⟩ := dcmp_val p rem hp.1 hr z3 z3
        rw [hp.2] at hK
        by_cases c : vD b * mid ≤ vD rem
        · obtain ⟨r, ⟨K2, r1⟩, r2⟩ := ih mid hi z3 z3 h2 z3 c h5
          refine ⟨r, ⟨max K K2, fun k hk => ?_⟩, r2⟩
          have e1 : r1_cmpD.f k p rem = _ := hK k z3
          show (r1_cmpD.f k p rem).bind _ = _
          rw [e1, Option.bind_some, if_pos ((sgn_le _ _).mpr c)]
          exact r1 k z3
        · obtain ⟨r, ⟨K2, r1⟩, r2⟩ := ih lo (mid - 1) h0 z3 z3 z3 h4 (by rw [show mid - 1 + 1 = mid by omega]; omega)
          refine ⟨r, ⟨max K K2, fun k hk => ?_⟩, r2⟩
          have e1 : r1_cmpD.f k p rem = _ := hK k z3
          show (r1_cmpD.f k p rem).bind _ = _
          rw [e1, Option.bind_some, if_neg (fun h => c ((sgn_le _ _).mp h)), w64t (mid - 1) z3 z3]
          exact r1 k z3
      · show r1_divD.l1 (k + 1) a b q rem x8 lo hi = _
        rw [r1_divD.l1, if_pos e, em]
    · obtain rfl : hi = lo := by omega
      exact fin _ h0 h2 h4 h5
theorem divD_l0 (a b : List Int) (ha : okD a) (hb : nD b) (ha2 : a.length ≤ 1000) (hb2 : b.length ≤ 1000) (hb0 : 0 < vD b) : ∀ (i : Nat) (q rem : List Int), i ≤ a.length → q.length = a.length → okD q → (∀ t, t < i → rd q (t : Int) = 0) → nD rem → vD rem < vD b →
    EvP (fun k => r1_divD.l0 k a b q rem ((i : Int) - 1)) (fun r => nD r.1 ∧ nD r.2 ∧ 0 ≤ vD r.2 ∧ vD r.2 < vD b ∧ vD r.1 * vD b + vD r.2 = VD a i + vD rem * 10000 ^ i + vD q * vD b)
  | 0, q, rem, hi, hq, hok, hz, hr, hlt => by
    obtain ⟨t, t1, t2, t3, t4⟩ := dtrim_val q z3 hok
    refine ⟨(t, rem), ?_, t2, hr, d10_vW_nonneg rem hr.1, hlt, ?_⟩
    · refine (t1.bind (g := fun k t => some (t, rem)) ⟨0, fun _ _ => rfl⟩).succ 0 fun k _ => ?_
      show r1_divD.l0 (k + 1) a b q rem _ = _
      rw [r1_divD.l0, if_neg z3]
    · show vD t * vD b + vD rem = 0 + vD rem * 1 + vD q * vD b
      rw [t3]; omega
  | i + 1, q, rem, hi, hq, hok, hz, hr, hlt => by
    have ex : ((i + 1 : Nat) : Int) - 1 = (i : Int) := by omega
    rw [ex]
    obtain ⟨a1, a2⟩ := ha i z3
    have hrl := d10_len_le rem b hr hb.1 z3
    obtain ⟨t, t1, t2, t3, t4⟩ := dtrim_val ([rd a (i : Int)] ++ rem) (by simp; omega) (okD_cons _ rem hr.1 a1 a2)
    rw [vD_cons] at t3
    have r0 := d10_vW_nonneg rem hr.1
    have tl : t.length ≤ 1001 := by simp at t4; omega
    have main : EvP (fun k => r1_divD.l1 k a b q t (i : Int) 0 9999) (fun r => nD r.1 ∧ nD r.2 ∧ 0 ≤ vD r.2 ∧ vD r.2 < vD b ∧ vD r.1 * vD b + vD r.2 = VD a (i + 1) + vD rem * 10000 ^ (i + 1) + vD q * vD b) := by
      refine divD_l1 a b q t (i : Int) hb hb2 t2 tl z3 z3 _ (fun L r h0 h1 h2 h3 hL => ?_) 9999 0 9999 z3 z3 z3 z3 z3 z3
      have hset : okD (q.set i L) := fun j hj => by
        rw [List.length_set] at hj
        rw [rd_put q i L j z3]
        split
        · exact ⟨h0, by omega⟩
        · exact hok j hj
      have hv : vD (q.set i L) = vD q + L * 10000 ^ i := by
        show VD (q.set i L) (q.set i L).length = VD q q.length + _
        rw [List.length_set, d10_V_set q i L z3 _ (Nat.le_refl _), if_pos z3, hz i z3, Int.sub_zero]
      have e3 : vD b * (L + 1) = vD b * L + vD b := by grind
      have ih := divD_l0 a b ha hb ha2 hb2 hb0 i (q.set i L) r z3 (by rw [List.length_set]; exact hq) hset (fun j hj => by rw [rd_put q i L j z3, if_neg z3]; exact hz j z3) hL.1 (by rw [hL.2]; omega)
      rw [Int.toNat_natCast, w64t ((i : Int) - 1) z3 z3]
      refine ih.weak fun p hp => ⟨hp.1, hp.2.1, hp.2.2.1, hp.2.2.2.1, ?_⟩
      rw [hp.2.2.2.2, hv, hL.2, t3]
      simp only [VD]
      rw [Int.pow_succ]; grind
    obtain ⟨r, r1, r2⟩ := main
    refine ⟨r, ?_, r2⟩
    refine (t1.bind (g := fun k t => r1_divD.l1 k a b q t (i : Int) 0 9999) r1).succ 0 fun k _ => ?_
    show r1_divD.l0 (k + 1) a b q rem (i : Int) = _
    rw [r1_divD.l0, if_pos z3, if_pos z3, if_pos z3, Option.bind_some, if_pos (by simp; omega)]
theorem divD_val (a b : List Int) (ha : nD a) (hb : nD b) (ha2 : a.length ≤ 1000) (hb2 : b.length ≤ 1000) (hb0 : 0 < vD b) : EvP (fun k => r1_divD.f k a b) (fun r => IsD (vD a / vD b) r.1 ∧ IsD (vD a % vD b) r.2) := by
  have hp := pos_len b hb hb0
  refine ((divD_l0 a b ha.1 hb ha2 hb2 hb0 a.length (List.replicate a.length 0) [] (Nat.le_refl _) List.length_replicate (fun i hi => by rw [rd_rep]; omega) (fun t _ => rd_rep _ _) nD_nil hb0).weak (Q := fun r => IsD (vD a / vD b) r.1 ∧ IsD (vD a % vD b) r.2) fun r hr => ?_).same fun k => ?_
  · obtain ⟨h1, h2, h3, h4, h5⟩ := hr
    have e0 : vD (List.replicate a.length (0 : Int)) = 0 := by show VD _ _ = 0; rw [d10_V_rep]
    have e1 : vD ([] : List Int) = 0 := rfl
    have e2 : VD a a.length = vD a := rfl
    rw [e0, e1, e2] at h5
    have h6 : vD a = vD r.2 + vD r.1 * vD b := by omega
    refine ⟨⟨h1, ?_⟩, h2, ?_⟩
    · rw [h6, Int.add_mul_ediv_right _ _ z3, Int.ediv_eq_zero_of_lt h3 h4]; omega
    · rw [h6, Int.add_mul_emod_self_right, Int.emod_eq_of_lt h3 h4]
  · show r1_divD.f k a b = _
    unfold r1_divD.f
    rw [if_neg z3, if_pos z3, if_pos z3, Int.toNat_natCast, w64t ((a.length : Int) - 1) z3 z3]
theorem gcdD_l0 : ∀ (m : Nat) (a b : List Int), nD a → nD b → a.length ≤ 1000 → b.length ≤ 1000 → vD b ≤ m → EvP (fun k => r1_gcdD.l0 k a b) (IsD (Int.gcd (vD a) (vD b) : Int)) := by
  intro m
  induction m using Nat.strongRecOn with
  | _ m ih =>
    intro a b ha hb ha2 hb2 hm
    have a0 := d10_vW_nonneg a ha.1
    have b0 := d10_vW_nonneg b hb.1
    by_cases hz : vD b = 0
    · have hl := (d10_nil_iff b hb).mpr hz
      refine EvP.now a (fun k => ?_) ⟨ha, ?_⟩
      · rw [r1_gcdD.l0, if_neg z3]
      · rw [hz, Int.gcd_zero_right]; omega
    · have hp := pos_len b hb z3
      refine ((divD_val a b ha hb ha2 hb2 z3).bind (g := fun k r => r1_gcdD.l0 k b r.2) (Q := IsD (Int.gcd (vD a) (vD b) : Int)) fun r hr => ?_).succ fun k => ?_
      · have m0 := Int.emod_nonneg (vD a) hz
        have m1 := Int.emod_lt_of_pos (vD a) (show 0 < vD b by omega)
        have hl2 := d10_len_le r.2 b hr.2.1 hb.1 (by rw [hr.2.2]; omega)
        have h := ih (vD a % vD b).toNat z3 b r.2 hb hr.2.1 hb2 z3 (by rw [hr.2.2]; omega)
        rw [hr.2.2] at h
        have e : Int.gcd (vD b) (vD a % vD b) = Int.gcd (vD a) (vD b) := by
          rw [Int.gcd_comm (vD a) (vD b)]
          obtain ⟨x, hx⟩ := Int.eq_ofNat_of_zero_le a0
          obtain ⟨y, hy⟩ := Int.eq_ofNat_of_zero_le b0
          rw [hx, hy]
          have : ((x : Int) % (y : Int)) = ((x % y : Nat) : Int) := by omega
          rw [this, Int.gcd_natCast_natCast, Int.gcd_natCast_natCast, Nat.gcd_comm y (x % y), ← Nat.gcd_rec]
        rw [e] at h
        exact h
      · show r1_gcdD.l0 (k + 1) a b = _
        rw [r1_gcdD.l0, if_pos z3]
theorem gcdD_val (a b : List Int) (ha : nD a) (hb : nD b) (ha2 : a.length ≤ 1000) (hb2 : b.length ≤ 1000) : EvP (fun k => r1_gcdD.f k a b) (IsD (Int.gcd (vD a) (vD b) : Int)) :=
  gcdD_l0 (vD b).toNat a b ha hb ha2 hb2 (by have := d10_vW_nonneg b hb.1; omega)
theorem overD (a b : List Int) (ha : nD a) (hb : nD b) (ha2 : a.length ≤ 1000) (hb2 : b.length ≤ 1000) (hb0 : 0 < vD b) : EvP (fun k => r1_Over.f k false a false b) (fun r => r.1 = false ∧ IsD (vD a / vD b) r.2.1 ∧ r.2.1.length ≤ a.length) := by
  have a0 := d10_vW_nonneg a ha.1
  refine ((divD_val a b ha hb ha2 hb2 hb0).bind (g := fun k r => (r1_whole.f k false r.1).bind fun x => (r1_whole.f k false r.2).bind fun y => some (x.1, x.2, y.1, y.2)) (Q := fun r => r.1 = false ∧ IsD (vD a / vD b) r.2.1 ∧ r.2.1.length ≤ a.length) fun r hr => ?_).same fun k => ?_
  · have d1 : vD a / vD b ≤ vD a := Int.ediv_le_self _ a0
    have m1 : vD a % vD b ≤ vD b := by have := Int.emod_lt_of_pos (vD a) hb0; omega
    have l1 := d10_len_le r.1 a hr.1.1 ha.1 (by rw [hr.1.2]; omega)
    have l2 := d10_len_le r.2 b hr.2.1 hb.1 (by rw [hr.2.2]; omega)
    refine (dwholeP r.1 z3 hr.1.1.1).bind (g := fun k x => (r1_whole.f k false r.2).bind fun y => some (x.1, x.2, y.1, y.2)) fun x hx => ?_
    refine (dwholeP r.2 z3 hr.2.1.1).bind (g := fun k y => some (x.1, x.2, y.1, y.2)) fun y hy => ?_
    have e := hr.1.2
    refine EvP.at _ (fun k => rfl) ⟨hx.1, ⟨hx.2.1, by show vD x.2 = _; rw [hx.2.2, e]⟩, ?_⟩
    exact d10_len_le x.2 a hx.2.1 ha.1 (by rw [hx.2.2, e]; omega)
  · show r1_Over.f k false a false b = _
    unfold r1_Over.f
    cases r1_divD.f k a b <;> rfl
end Go.Proofs.YtbanemecfobonaaDoor.B
namespace Go.Proofs.YtbanemecfobonaaDoor.B
open Go.RowKit Go.Proofs.YtbanemecfobonaaDoorW.PrintWords Go.Proofs.YtbanemecfobonaaDoorW.PrintLast Go.Proofs.YtbanemecfobonaaDoorW.PrintMore
attribute [local go_sem] max2_int min2_int max_two min_two max_three min_three max_four min_four
set_option linter.unusedVariables false
set_option linter.unusedSimpArgs false
end Go.Proofs.YtbanemecfobonaaDoor.B
namespace Go.Proofs.YtbanemecfobonaaDoor.B
open Go.RowKit Go.Proofs.YtbanemecfobonaaDoorW.PrintWords Go.Proofs.YtbanemecfobonaaDoorW.PrintLast Go.Proofs.YtbanemecfobonaaDoorW.PrintMore
set_option linter.unusedVariables false
set_option linter.unusedSimpArgs false
theorem nosM_has (l : List S55) (x : Int) : ∀ n, (nosM l n).contains x = true ↔ ∃ t, t < n ∧ (rd_T55 l (t : Int)).f0 = x
  | 0 => by simp [nosM]
  | n + 1 => by
    have e : nosM l (n + 1) = (rd_T55 l (n : Int)).f0 :: nosM l n := rfl
    rw [e, List.contains_cons, Bool.or_eq_true, nosM_has l x n]
    constructor
    · rintro (h | ⟨t, h1, h2⟩)
      · exact ⟨n, by omega, (by simpa using h : x = _).symm⟩
      · exact ⟨t, by omega, h2⟩
    · rintro ⟨t, h1, h2⟩
      by_cases ht : t = n
      · subst ht
        exact .inl (by simpa using h2.symm)
      · exact .inr ⟨t, by omega, h2⟩
theorem okM_iff (x : S55) : okM x = true ↔ 0 ≤ x.f0 ∧ x.f0 ≤ 2047 ∧ 0 ≤ x.f1 ∧ x.f1 ≤ 8 ∧ 1 ≤ x.f2 ∧ x.f2 ≤ 100000 ∧ 0 ≤ x.f3 ∧ x.f3 ≤ 100000 := by
  simp only [okM, Bool.and_eq_true, decide_eq_true_eq, and_assoc]
theorem msg_l1 (l : List S55) (i : Nat) (hi : i ≤ l.length) (hl : l.length ≤ 1000) (a b c d : Int) (r : Option Bool) (h : EvS (fun k => r8_Messages.l0 k l ((i + 1 : Nat) : Int)) r) : ∀ m j, i - j = m → j ≤ i → (∀ t, j ≤ t → t < i → (rd_T55 l (t : Int)).f0 ≠ a) → EvS (fun k => r8_Messages.l1 k l (i : Int) (j : Int) a b c d) r
  | 0, j, hm, hj, hno => by
    obtain rfl : j = i := by omega
    refine h.succ 0 fun k _ => ?_
    rw [r8_Messages.l1, if_neg z3, nNx j z3]
  | m + 1, j, hm, hj, hno => by
    refine (msg_l1 l i hi hl a b c d r h m (j + 1) z3 z3 (fun t h1 h2 => hno t z3 h2)).succ 0 fun k _ => ?_
    rw [r8_Messages.l1, if_pos z3, if_pos z3, if_pos z3, if_neg (hno j (Nat.le_refl _) z3), nNx j z3]
theorem msg_l1_bad (l : List S55) (i : Nat) (hi : i ≤ l.length) (hl : l.length ≤ 1000) (a b c d : Int) : ∀ m j, i - j = m → (∃ t, j ≤ t ∧ t < i ∧ (rd_T55 l (t : Int)).f0 = a) → EvS (fun k => r8_Messages.l1 k l (i : Int) (j : Int) a b c d) (some false)
  | 0, j, hm, ⟨t, h1, h2, h3⟩ => by omega
  | m + 1, j, hm, ⟨t, h1, h2, h3⟩ => by
    by_cases hj : (rd_T55 l (j : Int)).f0 = a
    · refine EvS.now 0 fun k _ => ?_
      rw [r8_Messages.l1, if_pos z3, if_pos z3, if_pos z3, if_pos hj]
    · have hne : t ≠ j := fun e => hj (by rw [← e]; exact h3)
      refine (msg_l1_bad l i hi hl a b c d m (j + 1) z3 ⟨t, by omega, h2, h3⟩).succ 0 fun k _ => ?_
      rw [r8_Messages.l1, if_pos z3, if_pos z3, if_pos z3, if_neg hj, nNx j z3]
theorem msg_l0_eq (l : List S55) (i : Nat) (hi : i < l.length) (k : Nat) : r8_Messages.l0 (k + 1) l (i : Int) = r8_Messages.j1 k l (i : Int) (!okM (rd_T55 l (i : Int))) (rd_T55 l (i : Int)).f0 (rd_T55 l (i : Int)).f1 (rd_T55 l (i : Int)).f2 (rd_T55 l (i : Int)).f3 := by
  rw [r8_Messages.l0, if_pos z3, if_pos z3]
  generalize rd_T55 l (i : Int) = x
  cases ho : okM x
  · have hn : ¬ (0 ≤ x.f0 ∧ x.f0 ≤ 2047 ∧ 0 ≤ x.f1 ∧ x.f1 ≤ 8 ∧ 1 ≤ x.f2 ∧ x.f2 ≤ 100000 ∧ 0 ≤ x.f3 ∧ x.f3 ≤ 100000) := fun h => by
      rw [(okM_iff x).2 h] at ho; cases ho
    by_cases c1 : x.f0 < 0
    · rw [if_pos c1]; rfl
    rw [if_neg c1]
    by_cases c2 : x.f0 > 2047
    · rw [if_pos c2]; rfl
    rw [if_neg c2]
    by_cases c3 : x.f1 < 0
    · rw [if_pos c3]; rfl
    rw [if_neg c3]
    by_cases c4 : x.f1 > 8
    · rw [if_pos c4]; rfl
    rw [if_neg c4]
    by_cases c5 : x.f2 < 1
    · rw [if_pos c5]; rfl
    rw [if_neg c5]
    by_cases c6 : x.f2 > 100000
    · rw [if_pos c6]; rfl
    rw [if_neg c6]
    by_cases c7 : x.f3 < 0
    · rw [if_pos c7]; rfl
    rw [if_neg c7, dT (by omega : x.f3 > 100000)]; rfl
  · obtain ⟨h0, h1, h2, h3, h4, h5, h6, h7⟩ := (okM_iff x).1 ho
    rw [if_neg z3, if_neg z3, if_neg z3, if_neg z3, if_neg z3, if_neg z3, if_neg z3, dF (by omega : ¬ x.f3 > 100000)]; rfl
theorem msg_l0 (l : List S55) (hl : l.length ≤ 1000) : ∀ m i, l.length - i = m → i ≤ l.length → sentTo l i = true → EvS (fun k => r8_Messages.l0 k l (i : Int)) (some (sentTo l l.length))
  | 0, i, hm, hi, hs => by
    obtain rfl : i = l.length := by omega
    refine EvS.now 0 fun k _ => ?_
    rw [r8_Messages.l0, if_neg z3, hs]
  | m + 1, i, hm, hi, hs => by
    have hs1 : sentTo l (i + 1) = (sentTo l i && (okM (rd_T55 l (i : Int)) && !(nosM l i).contains (rd_T55 l (i : Int)).f0)) := rfl
    cases ho : okM (rd_T55 l (i : Int))
    · have hb : sentTo l (i + 1) = false := by rw [hs1, ho]; simp
      refine EvS.succ (g := fun k => r8_Messages.j1 k l (i : Int) true (rd_T55 l (i : Int)).f0 (rd_T55 l (i : Int)).f1 (rd_T55 l (i : Int)).f2 (rd_T55 l (i : Int)).f3) (EvS.now 0 fun k _ => ?_) 0 fun k _ => ?_
      · rw [r8_Messages.j1, if_pos rfl, sentTo_mono l _ hb l.length z3]
      · rw [msg_l0_eq l i z3, ho]; rfl
    · cases hc : (nosM l i).contains (rd_T55 l (i : Int)).f0
      · have hg : sentTo l (i + 1) = true := by rw [hs1, hs, ho, hc]; rfl
        have ih := msg_l0 l hl m (i + 1) z3 z3 hg
        have hno : ∀ t, 0 ≤ t → t < i → (rd_T55 l (t : Int)).f0 ≠ (rd_T55 l (i : Int)).f0 := fun t _ ht e => by
          rw [(nosM_has l _ i).2 ⟨t, ht, e⟩] at hc; cases hc
        have h1 := msg_l1 l i z3 hl (rd_T55 l (i : Int)).f0 (rd_T55 l (i : Int)).f1 (rd_T55 l (i : Int)).f2 (rd_T55 l (i : Int)).f3 _ ih i 0 z3 z3 hno
        refine EvS.succ (g := fun k => r8_Messages.j1 k l (i : Int) false (rd_T55 l (i : Int)).f0 (rd_T55 l (i : Int)).f1 (rd_T55 l (i : Int)).f2 (rd_T55 l (i : Int)).f3) (h1.succ 0 fun k _ => ?_) 0 fun k _ => ?_
        · rw [r8_Messages.j1, if_neg (by simp)]; rfl
        · rw [msg_l0_eq l i z3, ho]; rfl
      · have hb : sentTo l (i + 1) = false := by rw [hs1, hc]; simp
        obtain ⟨t, h1, h2⟩ := (nosM_has l _ i).1 hc
        have h3 := msg_l1_bad l i z3 hl (rd_T55 l (i : Int)).f0 (rd_T55 l (i : Int)).f1 (rd_T55 l (i : Int)).f2 (rd_T55 l (i : Int)).f3 i 0 z3 ⟨t, by omega, h1, h2⟩
        rw [sentTo_mono l _ hb l.length z3]
        refine EvS.succ (g := fun k => r8_Messages.j1 k l (i : Int) false (rd_T55 l (i : Int)).f0 (rd_T55 l (i : Int)).f1 (rd_T55 l (i : Int)).f2 (rd_T55 l (i : Int)).f3) (h3.succ 0 fun k _ => ?_) 0 fun k _ => ?_
        · rw [r8_Messages.j1, if_neg (by simp)]; rfl
        · rw [msg_l0_eq l i z3, ho]; rfl
theorem Messages_eq (l : List S55) : EvS (fun k => r8_Messages.f k l) (some (sentB l)) := by
  by_cases h8 : l.length ≤ 8
  · have e : sentB l = sentTo l l.length := by unfold sentB; rw [dT h8, Bool.and_true]
    rw [e]
    refine (msg_l0 l z3 l.length 0 z3 z3 rfl).same fun k => ?_
    show r8_Messages.f k l = _
    unfold r8_Messages.f
    rw [if_neg z3]; rfl
  · have e : sentB l = false := by unfold sentB; rw [dF h8, Bool.and_false]
    rw [e]
    exact ⟨0, fun k _ => by show r8_Messages.f k l = _; unfold r8_Messages.f; rw [if_pos z3]⟩
abbrev QD := Bool × List Int × Bool × List Int
def IsR (r : QD) (N D : Int) : Prop := r.1 = false ∧ r.2.2.1 = false ∧ IsD (N / (Int.gcd N D : Int)) r.2.1 ∧ IsD (D / (Int.gcd N D : Int)) r.2.2.2
theorem IsR.eq {r : QD} {N D N' D' : Int} (h : IsR r N D) (hN : 0 ≤ N) (hD : 0 < D) (hN' : 0 ≤ N') (hD' : 0 < D') (he : N * D' = N' * D) : IsR r N' D' := by
  obtain ⟨h1, h2, h3, h4⟩ := h
  obtain ⟨e1, e2⟩ := low_eq N D N' D' hN hD hN' hD' he
  exact ⟨h1, h2, e1 ▸ h3, e2 ▸ h4⟩
theorem IsR.cross {r : QD} {N D : Int} (h : IsR r N D) (hD : 0 < D) : vD r.2.1 * D = N * vD r.2.2.2 ∧ 0 < vD r.2.2.2 := by
  obtain ⟨h1, h2, ⟨_, h3⟩, _, h4⟩ := h
  have e1 : N / (Int.gcd N D : Int) * (Int.gcd N D : Int) = N := Int.ediv_mul_cancel (Int.gcd_dvd_left _ _)
  have e2 : D / (Int.gcd N D : Int) * (Int.gcd N D : Int) = D := Int.ediv_mul_cancel (Int.gcd_dvd_right _ _)
  have gp := gcd_pos N D hD
  rw [h3, h4]
  generalize N / (Int.gcd N D : Int) = n at *
  generalize D / (Int.gcd N D : Int) = d at *
  generalize (Int.gcd N D : Int) = g at *
  refine ⟨by rw [← e1, ← e2]; grind, ?_⟩
  rcases Int.lt_or_le 0 d with h | h
  · exact h
  · exfalso
    have : d * g ≤ 0 * g := Int.mul_le_mul_of_nonneg_right h z3
    omega
theorem lowestD (a b : List Int) (ha : nD a) (hb : nD b) (ha2 : a.length ≤ 1000) (hb2 : b.length ≤ 1000) (hb0 : 0 < vD b) :
    EvP (fun k => r1_lowest.f k false a false b) (fun r => IsR r (vD a) (vD b) ∧ r.2.1.length ≤ a.length ∧ r.2.2.2.length ≤ b.length) := by
  (have a0 := d10_vW_nonneg a ha.1); (have gp := gcd_pos (vD a) (vD b) hb0); (have gle : (Int.gcd (vD a) (vD b) : Int) ≤ vD b := Int.le_of_dvd hb0 (Int.gcd_dvd_right _ _)); (refine ((gcdD_val a b ha hb ha2 hb2).bind (g := fun k t => (r1_whole.f k false t).bind fun g => (r1_Over.f k false a g.1 g.2).bind fun p => (r1_Over.f k false b g.1 g.2).bind fun q => some (p.1, p.2.1, q.1, q.2.1)) (Q := fun r => IsR r (vD a) (vD b) ∧ r.2.1.length ≤ a.length ∧ r.2.2.2.length ≤ b.length) fun t ht => ?_).same fun k => ?_); rotate_left
  · (show r1_lowest.f k false a false b = _); (unfold r1_lowest.f r1_lowestP.f); rw [if_neg z9]
  (have tl := d10_len_le t b ht.1 hb.1 (by rw [ht.2]; omega)); (refine (dwholeP t z3 ht.1.1).bind (g := fun k g => (r1_Over.f k false a g.1 g.2).bind fun p => (r1_Over.f k false b g.1 g.2).bind fun q => some (p.1, p.2.1, q.1, q.2.1)) fun g hg => ?_); obtain ⟨g1, g2⟩ := g; obtain ⟨e, hg1, hg2⟩ := hg; (simp only at e hg1 hg2); subst e; rw [ht.2] at hg2; (have gl := d10_len_le g2 b hg1 hb.1 (by rw [hg2]; omega)); (have o1 := overD a g2 ha hg1 ha2 z3 z3); (have o2 := overD b g2 hb hg1 hb2 z3 z3); rw [hg2] at o1 o2; (refine o1.bind (g := fun k p => (r1_Over.f k false b false g2).bind fun q => some (p.1, p.2.1, q.1, q.2.1)) fun p hp => ?_); (refine o2.bind (g := fun k q => some (p.1, p.2.1, q.1, q.2.1)) fun q hq => ?_); (exact EvP.at _ (fun k => rfl) ⟨⟨hp.1, hq.1, hp.2.1, hq.2.1⟩, hp.2.2, hq.2.2⟩)
theorem fracD (n d : Int) (h0 : 0 ≤ n) (h1 : n ≤ 9223372036854775807) (h2 : 0 < d) (h3 : d ≤ 9223372036854775807) : EvP (fun k => r1_Frac.f k n d) (fun r => IsR r n d ∧ r.2.1.length ≤ 5 ∧ r.2.2.2.length ≤ 5) := by
  refine ((ofD n h0 h1).bind (g := fun k a => (r1_Of.f k d).bind fun b => (r1_lowest.f k a.1 a.2 b.1 b.2).bind fun r => some (r.1, r.2.1, r.2.2.1, r.2.2.2)) (Q := fun r => IsR r n d ∧ r.2.1.length ≤ 5 ∧ r.2.2.2.length ≤ 5) fun a ha => ?_).same fun k => rfl
  refine (ofD d z3 h3).bind (g := fun k b => (r1_lowest.f k a.1 a.2 b.1 b.2).bind fun r => some (r.1, r.2.1, r.2.2.1, r.2.2.2)) fun b hb => ?_
  obtain ⟨a1, a2⟩ := a
  obtain ⟨b1, b2⟩ := b
  obtain ⟨e1, ⟨na, va⟩, la⟩ := ha
  obtain ⟨e2, ⟨nb, vb⟩, lb⟩ := hb
  simp only at e1 na va la e2 nb vb lb
  subst e1 e2
  have h := lowestD a2 b2 na nb z3 z3 z3
  rw [va, vb] at h
  refine (h.weak (Q := fun r => IsR r n d ∧ r.2.1.length ≤ 5 ∧ r.2.2.2.length ≤ 5) fun r hr => ⟨hr.1, by omega, by omega⟩).same fun k => ?_
  cases r1_lowest.f k false a2 false b2 <;> rfl
theorem addQ (x y : QD) (Nx Dx Ny Dy : Int) (hx : IsR x Nx Dx) (hy : IsR y Ny Dy) (hNx : 0 ≤ Nx) (hDx : 0 < Dx) (hNy : 0 ≤ Ny) (hDy : 0 < Dy) (A : Nat) (hA : A ≤ 100) (x1 : x.2.1.length ≤ A) (x2 : x.2.2.2.length ≤ A) (y1 : y.2.1.length ≤ 5) (y2 : y.2.2.2.length ≤ 5) :
    EvP (fun k => r1_Add.f k x.1 x.2.1 x.2.2.1 x.2.2.2 y.1 y.2.1 y.2.2.1 y.2.2.2) (fun r => IsR r (Nx * Dy + Ny * Dx) (Dx * Dy) ∧ r.2.1.length ≤ A + 6 ∧ r.2.2.2.length ≤ A + 6) := by
  (obtain ⟨cx, px⟩ := hx.cross hDx); (obtain ⟨cy, py⟩ := hy.cross hDy); obtain ⟨x01, x02, x03, x04⟩ := x; obtain ⟨y01, y02, y03, y04⟩ := y; obtain ⟨e1, e2, ⟨n1, v1⟩, n2, v2⟩ := hx; obtain ⟨e3, e4, ⟨n3, v3⟩, n4, v4⟩ := hy; (simp only at e1 e2 e3 e4 n1 n2 n3 n4 x1 x2 y1 y2 cx cy px py); subst e1 e2 e3 e4; clear v1 v2 v3 v4; (simp only); (refine ((timesD x02 y04 n1 n4 z3 z3).bind (g := fun k a => (r1_Times.f k false y02 false x04).bind fun b => (r1_Plus.f k a.1 a.2 b.1 b.2).bind fun s => (r1_Times.f k false x04 false y04).bind fun d => (r1_lowest.f k s.1 s.2 d.1 d.2).bind fun r => some (r.1, r.2.1, r.2.2.1, r.2.2.2)) (Q := fun r => IsR r (Nx * Dy + Ny * Dx) (Dx * Dy) ∧ r.2.1.length ≤ A + 6 ∧ r.2.2.2.length ≤ A + 6) fun a ha => ?_).same fun k => rfl); obtain ⟨a1, a2⟩ := a; obtain ⟨e, ⟨na, va⟩, la⟩ := ha; (simp only at e na va la); subst e; (refine (timesD y02 x04 n3 n2 z3 z3).bind (g := fun k b => (r1_Plus.f k false a2 b.1 b.2).bind fun s => (r1_Times.f k false x04 false y04).bind fun d => (r1_lowest.f k s.1 s.2 d.1 d.2).bind fun r => some (r.1, r.2.1, r.2.2.1, r.2.2.2)) fun b hb => ?_); obtain ⟨b1, b2⟩ := b; obtain ⟨e, ⟨nb, vb⟩, lb⟩ := hb; (simp only at e nb vb lb); subst e; (refine (plusD a2 b2 (A + 5) na nb z3 z3 z3).bind (g := fun k s => (r1_Times.f k false x04 false y04).bind fun d => (r1_lowest.f k s.1 s.2 d.1 d.2).bind fun r => some (r.1, r.2.1, r.2.2.1, r.2.2.2)) fun s hs => ?_)
  obtain ⟨s1, s2⟩ := s; obtain ⟨e, ⟨ns, vs⟩, ls⟩ := hs; (simp only at e ns vs ls); subst e; (refine (timesD x04 y04 n2 n4 z3 z3).bind (g := fun k d => (r1_lowest.f k false s2 d.1 d.2).bind fun r => some (r.1, r.2.1, r.2.2.1, r.2.2.2)) fun d hd => ?_); obtain ⟨d1, d2⟩ := d; obtain ⟨e, ⟨nd, vd⟩, ld⟩ := hd; (simp only at e nd vd ld); subst e; (have dpos : 0 < vD d2 := by rw [vd]; exact Int.mul_pos px py); (refine ((lowestD s2 d2 ns nd z3 z3 dpos).weak (Q := fun r => IsR r (Nx * Dy + Ny * Dx) (Dx * Dy) ∧ r.2.1.length ≤ A + 6 ∧ r.2.2.2.length ≤ A + 6) fun r hr => ⟨hr.1.eq (d10_vW_nonneg s2 ns.1) dpos ?_ (Int.mul_pos hDx hDy) ?_, by omega, by omega⟩).same fun k => ?_)
  · (have h1 := Int.mul_nonneg hNx (Int.le_of_lt hDy)); (have h2 := Int.mul_nonneg hNy (Int.le_of_lt hDx)); omega
  rotate_left
  · (cases r1_lowest.f k false s2 false d2 <;> rfl)
  rw [vs, va, vb, vd]; (generalize vD x02 = nx at *); (generalize vD y02 = ny at *); (generalize vD x04 = dx at *); (generalize vD y04 = dy at *); (have e1 : (nx * dy + ny * dx) * (Dx * Dy) = (nx * Dx) * (dy * Dy) + (ny * Dy) * (dx * Dx) := by grind); rw [e1, cx, cy]; grind
theorem sgn_scale (a b c : Int) (hc : 0 < c) : sgnC (a * c) (b * c) = sgnC a b := by
  have key : ∀ a b : Int, (a * c < b * c ↔ a < b) := fun a b => ⟨fun h => Int.lt_of_mul_lt_mul_right h (Int.le_of_lt hc), fun h => Int.mul_lt_mul_of_pos_right h hc⟩
  unfold sgnC
  simp only [key]
theorem cmpQ (x y : QD) (Nx Dx Ny Dy : Int) (hx : IsR x Nx Dx) (hy : IsR y Ny Dy) (hDx : 0 < Dx) (hDy : 0 < Dy) (x1 : x.2.1.length ≤ 400) (x2 : x.2.2.2.length ≤ 400) (y1 : y.2.1.length ≤ 400) (y2 : y.2.2.2.length ≤ 400) :
    EvS (fun k => r1_Cmp.f k x.1 x.2.1 x.2.2.1 x.2.2.2 y.1 y.2.1 y.2.2.1 y.2.2.2) (some (sgnC (Nx * Dy) (Ny * Dx))) := by
  (obtain ⟨cx, px⟩ := hx.cross hDx); (obtain ⟨cy, py⟩ := hy.cross hDy); obtain ⟨x01, x02, x03, x04⟩ := x; obtain ⟨y01, y02, y03, y04⟩ := y; obtain ⟨e1, e2, ⟨n1, v1⟩, n2, v2⟩ := hx; obtain ⟨e3, e4, ⟨n3, v3⟩, n4, v4⟩ := hy; (simp only at e1 e2 e3 e4 n1 n2 n3 n4 x1 x2 y1 y2 cx cy px py); subst e1 e2 e3 e4; clear v1 v2 v3 v4; (simp only); (obtain ⟨⟨a1, a2⟩, ha, e, ⟨na, va⟩, la⟩ := timesD x02 y04 n1 n4 z3 z3); (simp only at e na va la); subst e; (obtain ⟨⟨b1, b2⟩, hb, e, ⟨nb, vb⟩, lb⟩ := timesD y02 x04 n3 n2 z3 z3); (simp only at e nb vb lb); subst e; (have hc := compareD a2 b2 na nb z3 z3)
  have es : sgnC (vD a2) (vD b2) = sgnC (Nx * Dy) (Ny * Dx) := by
    rw [va, vb, ← sgn_scale _ _ (Dx * Dy) (Int.mul_pos hDx hDy), ← sgn_scale (Nx * Dy) _ (vD x04 * vD y04) (Int.mul_pos px py)]
    have e1 : vD x02 * vD y04 * (Dx * Dy) = Nx * Dy * (vD x04 * vD y04) := by
      have : vD x02 * vD y04 * (Dx * Dy) = (vD x02 * Dx) * (vD y04 * Dy) := by grind
      rw [this, cx]; grind
    have e2 : vD y02 * vD x04 * (Dx * Dy) = Ny * Dx * (vD x04 * vD y04) := by
      have : vD y02 * vD x04 * (Dx * Dy) = (vD y02 * Dy) * (vD x04 * Dx) := by grind
      rw [this, cy]; grind
    rw [e1, e2]
  rw [es] at hc; (refine (ha.bind (g := fun k a => (r1_Times.f k false y02 false x04).bind fun b => (r1_Compare.f k a.1 a.2 b.1 b.2).bind fun t => some t) (hb.bind (g := fun k b => (r1_Compare.f k false a2 b.1 b.2).bind fun t => some t) (hc.bind (g := fun k t => some t) ⟨0, fun _ _ => rfl⟩))).same fun k => rfl)
theorem longestR {x : S55} (h : okM x = true) : r8_longest.f x.f1 = some (bitsM x) := by
  obtain ⟨_, _, h1, h2, _⟩ := okM_bounds h
  unfold r8_longest.f bitsM
  have e1 : wrap64 (8 * x.f1) = 8 * x.f1 := w64s _ z3 z3
  have e2 : wrap64 (33 + 8 * x.f1) = 33 + 8 * x.f1 := w64s _ z3 z3
  have e3 : wrap64 (47 + 8 * x.f1) = 47 + 8 * x.f1 := w64s _ z3 z3
  rw [e1, e2, e3, Int.tdiv_eq_ediv_of_nonneg z3, w64s ((33 + 8 * x.f1) / 4) z3 z3, w64s _ z3 z3]
theorem loaded_l0 (l : List S55) (h : ∀ i, i < l.length → okM (rd_T55 l (i : Int)) = true) (h9 : l.length ≤ 9) : ∀ (m i : Nat) (s : QD), l.length - i = m → i ≤ l.length → IsR s (fracTo l i).1 (fracTo l i).2 → s.2.1.length ≤ 6 * i + 5 → s.2.2.2.length ≤ 6 * i + 5 →
    EvP (fun k => r8_loaded.l0 k l (i : Int) s.1 s.2.1 s.2.2.1 s.2.2.2) (fun r => IsR r (fracTo l l.length).1 (fracTo l l.length).2 ∧ r.2.1.length ≤ 100 ∧ r.2.2.2.length ≤ 100)
  | 0, i, s, hm, hi, hs, l1, l2 => by
    obtain rfl : i = l.length := by omega
    exact EvP.now s (fun k => by rw [r8_loaded.l0, if_neg z3]) ⟨hs, by omega, by omega⟩
  | m + 1, i, s, hm, hi, hs, l1, l2 => by
    have ho := h i z3
    obtain ⟨n0, d0⟩ := frac_pos l h i z3
    have hb := bitsM_bounds ho
    obtain ⟨_, _, _, _, p1, p2, _⟩ := okM_bounds ho
    refine ((fracD (bitsM (rd_T55 l (i : Int))) (rd_T55 l (i : Int)).f2 z3 z3 z3 z3).bind (g := fun k q => (r1_Add.f k s.1 s.2.1 s.2.2.1 s.2.2.2 q.1 q.2.1 q.2.2.1 q.2.2.2).bind fun r => r8_loaded.l0 k l (wrap64 ((i : Int) + 1)) r.1 r.2.1 r.2.2.1 r.2.2.2) (Q := fun r => IsR r (fracTo l l.length).1 (fracTo l l.length).2 ∧ r.2.1.length ≤ 100 ∧ r.2.2.2.length ≤ 100) fun q hq => ?_).succ fun k => ?_
    · refine (addQ s q _ _ _ _ hs hq.1 n0 d0 z3 z3 (6 * i + 5) z3 l1 l2 hq.2.1 hq.2.2).bind (g := fun k r => r8_loaded.l0 k l (wrap64 ((i : Int) + 1)) r.1 r.2.1 r.2.2.1 r.2.2.2) fun r hr => ?_
      rw [w64p1 i z3]
      exact loaded_l0 l h h9 m (i + 1) r z3 z3 hr.1 z3 z3
    · show r8_loaded.l0 (k + 1) l (i : Int) s.1 s.2.1 s.2.2.1 s.2.2.2 = _
      rw [r8_loaded.l0, if_pos z3, if_pos z3, longestR ho, Option.bind_some]
theorem loadedD (l : List S55) (h : ∀ i, i < l.length → okM (rd_T55 l (i : Int)) = true) (h9 : l.length ≤ 9) :
    EvP (fun k => r8_loaded.f k l) (fun r => IsR r (fracTo l l.length).1 (fracTo l l.length).2 ∧ r.2.1.length ≤ 100 ∧ r.2.2.2.length ≤ 100) := by
  refine ((fracD 0 1 z3 z3 z3 z3).bind (g := fun k b => r8_loaded.l0 k l 0 b.1 b.2.1 b.2.2.1 b.2.2.2) (Q := fun r => IsR r (fracTo l l.length).1 (fracTo l l.length).2 ∧ r.2.1.length ≤ 100 ∧ r.2.2.2.length ≤ 100) fun b hb => ?_).same fun k => rfl
  exact loaded_l0 l h h9 l.length 0 b z3 z3 hb.1 z3 z3
theorem loadedCmp (l : List S55) (h : ∀ i, i < l.length → okM (rd_T55 l (i : Int)) = true) (h9 : l.length ≤ 9) {β : Type} {g : Nat → Int → Option β} {r : Option β} (H : EvS (fun k => g k (sgnC (fracTo l l.length).1 (fracTo l l.length).2)) r) :
    EvS (fun k => (r8_loaded.f k l).bind fun a => (r1_Frac.f k 1 1).bind fun b => (r1_Cmp.f k a.1 a.2.1 a.2.2.1 a.2.2.2 b.1 b.2.1 b.2.2.1 b.2.2.2).bind (g k)) r := by
  obtain ⟨a, ha, h1, h2, h3⟩ := loadedD l h h9
  obtain ⟨b, hb, h4, h5, h6⟩ := fracD 1 1 z3 z3 z3 z3
  obtain ⟨n0, d0⟩ := frac_pos l h l.length (Nat.le_refl _)
  have hc := cmpQ a b _ _ 1 1 h1 h4 d0 z3 z3 z3 z3 z3
  rw [Int.mul_one, Int.one_mul] at hc
  generalize sgnC (fracTo l l.length).1 (fracTo l l.length).2 = C at hc H
  clear h1 h2 h3 h4 h5 h6 n0 d0
  obtain ⟨K1, a1⟩ := ha
  obtain ⟨K2, b1⟩ := hb
  obtain ⟨K3, c1⟩ := hc
  obtain ⟨K4, H⟩ := H
  refine ⟨K1 + K2 + K3 + K4, fun k hk => ?_⟩
  have a1 : r8_loaded.f k l = some a := a1 k z3
  have b1 : r1_Frac.f k 1 1 = some b := b1 k z3
  have c1 : r1_Cmp.f k a.1 a.2.1 a.2.2.1 a.2.2.2 b.1 b.2.1 b.2.2.1 b.2.2.2 = some C := c1 k z3
  have H : g k C = r := H k z3
  show (r8_loaded.f k l).bind _ = _
  rw [a1, Option.bind_some, b1, Option.bind_some, c1, Option.bind_some, H]
theorem mx_max (a b : Int) : mx a b = max a b := by unfold mx; split <;> omega
theorem okM_snoc (x : S55) (l : List S55) (hx : okM x = true) (hl : ∀ i, i < l.length → okM (rd_T55 l (i : Int)) = true) : ∀ i, i < (l ++ [x]).length → okM (rd_T55 (l ++ [x]) (i : Int)) = true := fun i h => by
  rw [rd_T55_snoc]
  split
  · exact hx
  · exact hl i (by rw [List.length_append, List.length_singleton] at h; omega)
theorem aboveR {x : S55} (hx : okM x = true) {t : Int} (h0 : 0 ≤ t) (h1 : t ≤ 10000000) : r8_above.f (wrap64 (t + x.f3)) x.f2 = some (inst x t) := by
  obtain ⟨_, _, _, _, p1, p2, p3, p4⟩ := okM_bounds hx
  have hi := inst_bounds hx h0 h1
  unfold r8_above.f
  rw [if_neg z3, w64s (t + x.f3) z3 z3, w64s (t + x.f3 + x.f2) z3 z3, w64s (t + x.f3 + x.f2 - 1) z3 z3, Int.tdiv_eq_ediv_of_nonneg z3]
  unfold inst at hi ⊢
  rw [w64s _ z3 z3]
theorem waitR {x : S55} (hx : okM x = true) {t : Int} (h0 : 0 ≤ t) (h1 : t ≤ 10000000) : wrap64 (wrap64 (Int.tdiv (wrap64 (t + x.f3)) x.f2) + 1) = instW x t := by
  obtain ⟨_, _, _, _, p1, p2, p3, p4⟩ := okM_bounds hx
  have hi := instW_bounds hx h0 h1
  rw [w64s (t + x.f3) z3 z3, Int.tdiv_eq_ediv_of_nonneg z3]
  unfold instW at hi ⊢
  rw [w64s ((t + x.f3) / x.f2) z3 z3, w64s _ z3 z3]
theorem sumInst_bounds (l : List S55) (hl : ∀ i, i < l.length → okM (rd_T55 l (i : Int)) = true) {t : Int} (h0 : 0 ≤ t) (h1 : t ≤ 10000000) : ∀ i : Nat, i ≤ l.length → 0 ≤ sumI (fun o => inst o t * bitsM o) l i ∧ sumI (fun o => inst o t * bitsM o) l i ≤ (i : Int) * 1400000000 :=
  sumI_bounds _ l 1400000000 z3 (fun i hi => by
    have a := inst_bounds (hl i hi) h0 h1
    have b := mulBits a.1 a.2 (bitsM_bounds (hl i hi)).1 (bitsM_bounds (hl i hi)).2
    exact b)
theorem sumWait_bounds (l : List S55) (hl : ∀ i, i < l.length → okM (rd_T55 l (i : Int)) = true) {t : Int} (h0 : 0 ≤ t) (h1 : t ≤ 10000000) : ∀ i : Nat, i ≤ l.length → 0 ≤ sumI (fun o => instW o t * bitsM o) l i ∧ sumI (fun o => instW o t * bitsM o) l i ≤ (i : Int) * 1400000000 :=
  sumI_bounds _ l 1400000000 z3 (fun i hi => by
    have a := instW_bounds (hl i hi) h0 h1
    have b := mulBits z3 a.2 (bitsM_bounds (hl i hi)).1 (bitsM_bounds (hl i hi)).2
    exact b)
section
variable (x : S55) (first : List S55) (block : Int) (hx : okM x = true) (hw : ∀ k, k < first.length → okM (rd_T55 first (k : Int)) = true) (h8 : first.length ≤ 8) (hb0 : 0 ≤ block) (hb1 : block ≤ 135) (Q : Int × Bool → Prop)
include hx hw h8 hb0 hb1
theorem rdelay_l1 (t : Int) (h0 : 0 ≤ t) (h1 : t ≤ 10000000) (H1 : 10000000 < busyN block x first t → Q (0, false)) (H2 : ¬ 10000000 < busyN block x first t → EvP (fun k => r8_delay.l0 k first block (first ++ [x]) (busyN block x first t) (busyN block x first t != t) x.f0 x.f1 x.f2 x.f3) Q) :
    ∀ m i : Nat, (first ++ [x]).length - i = m → i ≤ (first ++ [x]).length → EvP (fun k => r8_delay.l1 k first block (first ++ [x]) t (block + sumI (fun o => inst o t * bitsM o) (first ++ [x]) i) (i : Int) x.f0 x.f1 x.f2 x.f3) Q
  | 0, i, hm, hi => by
    obtain rfl : i = (first ++ [x]).length := by omega
    have e : block + sumI (fun o => inst o t * bitsM o) (first ++ [x]) (first ++ [x]).length = busyN block x first t := by
      rw [sumI_snoc]; unfold busyN; omega
    rw [e]
    by_cases c : 10000000 < busyN block x first t
    · exact EvP.now (0, false) (fun k => by rw [r8_delay.l1, if_neg z3, if_pos c]) (H1 c)
    · exact (H2 c).succ fun k => by rw [r8_delay.l1, if_neg z3, if_neg c]
  | m + 1, i, hm, hi => by
    have hall := okM_snoc x first hx hw
    have ho := hall i z3
    have hlen : (first ++ [x]).length ≤ 9 := by rw [List.length_append, List.length_singleton]; omega
    have s1 := sumInst_bounds _ hall h0 h1 i z3
    have a := inst_bounds ho h0 h1
    have b := mulBits a.1 a.2 (bitsM_bounds ho).1 (bitsM_bounds ho).2
    refine (rdelay_l1 t h0 h1 H1 H2 m (i + 1) z3 z3).succ fun k => ?_
    show r8_delay.l1 (k + 1) first block (first ++ [x]) t _ (i : Int) x.f0 x.f1 x.f2 x.f3 = _
    rw [r8_delay.l1, if_pos z3, if_pos z3, aboveR ho h0 h1, Option.bind_some, longestR ho, Option.bind_some, w64s (inst (rd_T55 (first ++ [x]) (i : Int)) t * bitsM (rd_T55 (first ++ [x]) (i : Int))) z3 z3, w64s (block + _ + _) z3 z3, nNx i z3]
    simp only [sumI]
    rw [Int.add_assoc]
theorem rdelay_l0 : ∀ (n : Nat) (t : Int) (r : Int × Bool), 0 ≤ t → t ≤ 10000000 → fixF (busyN block x first) n t = some r → (r.2 = false → Q (0, false)) → (r.2 = true → EvP (fun k => r8_delay.l0 k first block (first ++ [x]) r.1 false x.f0 x.f1 x.f2 x.f3) Q) →
    EvP (fun k => r8_delay.l0 k first block (first ++ [x]) t true x.f0 x.f1 x.f2 x.f3) Q
  | 0, t, r, h0, h1, h, G1, G2 => by simp [fixF] at h
  | n + 1, t, r, h0, h1, h, G1, G2 => by
    have hnn := busyN_nonneg hx hw hb0 h0 h1
    rw [fixF] at h
    have H := rdelay_l1 x first block hx hw h8 hb0 hb1 Q t h0 h1 (fun c => by
      rw [if_pos c] at h
      obtain rfl := sI h
      exact G1 rfl) (fun c => by
      rw [if_neg c] at h
      by_cases c2 : busyN block x first t = t
      · rw [if_pos c2] at h
        obtain rfl := sI h
        have e : (busyN block x first t != t) = false := by rw [c2]; simp
        rw [e, c2]
        exact G2 rfl
      · rw [if_neg c2] at h
        have e : (busyN block x first t != t) = true := by simpa using c2
        rw [e]
        exact rdelay_l0 n _ r hnn z3 h G1 G2) (first ++ [x]).length 0 z3 z3
    have e0 : block + sumI (fun o => inst o t * bitsM o) (first ++ [x]) 0 = block := by simp only [sumI]; omega
    rw [e0] at H
    refine H.succ fun k => ?_
    show r8_delay.l0 (k + 1) first block (first ++ [x]) t true x.f0 x.f1 x.f2 x.f3 = _
    rw [r8_delay.l0, if_pos rfl]; rfl
theorem rdelay_l4 (u t q most : Int) (hq0 : 0 ≤ q) (hq1 : q ≤ 10200000) (h0 : 0 ≤ t) (h1 : t ≤ 10000000) (H1 : 10000000 < waitN block q x first t → Q (0, false)) (H2 : ¬ 10000000 < waitN block q x first t → EvP (fun k => r8_delay.l3 k first block u (bitsM x) most (waitN block q x first t) q (waitN block q x first t != t) x.f0 x.f1 x.f2 x.f3) Q) :
    ∀ m i : Nat, first.length - i = m → i ≤ first.length → EvP (fun k => r8_delay.l4 k first block u (bitsM x) most t q (block + q * bitsM x + sumI (fun o => instW o t * bitsM o) first i) (i : Int) x.f0 x.f1 x.f2 x.f3) Q
  | 0, i, hm, hi => by
    obtain rfl : i = first.length := by omega
    have e : block + q * bitsM x + sumI (fun o => instW o t * bitsM o) first first.length = waitN block q x first t := rfl
    rw [e]
    by_cases c : 10000000 < waitN block q x first t
    · exact EvP.now (0, false) (fun k => by rw [r8_delay.l4, if_neg z3, if_pos c]) (H1 c)
    · exact (H2 c).succ fun k => by rw [r8_delay.l4, if_neg z3, if_neg c]
  | m + 1, i, hm, hi => by
    have ho := hw i z3
    have s1 := sumWait_bounds _ hw h0 h1 i z3
    have a := instW_bounds ho h0 h1
    have b := mulBits z3 a.2 (bitsM_bounds ho).1 (bitsM_bounds ho).2
    have b2 := mulBits hq0 hq1 (bitsM_bounds hx).1 (bitsM_bounds hx).2
    obtain ⟨_, _, _, _, p1, p2, p3, p4⟩ := okM_bounds ho
    refine (rdelay_l4 u t q most hq0 hq1 h0 h1 H1 H2 m (i + 1) z3 z3).succ fun k => ?_
    show r8_delay.l4 (k + 1) first block u (bitsM x) most t q _ (i : Int) x.f0 x.f1 x.f2 x.f3 = _
    rw [r8_delay.l4, if_pos z3, if_pos z3, if_neg z3, longestR ho, Option.bind_some, waitR ho h0 h1, w64s (instW (rd_T55 first (i : Int)) t * bitsM (rd_T55 first (i : Int))) z3 z3, w64s (block + _ + _ + _) z3 z3, nNx i z3]
    simp only [sumI]
    rw [Int.add_assoc (block + q * bitsM x)]
theorem rdelay_l3 (u q most : Int) (hq0 : 0 ≤ q) (hq1 : q ≤ 10200000) : ∀ (n : Nat) (t : Int) (r : Int × Bool), 0 ≤ t → t ≤ 10000000 → fixF (waitN block q x first) n t = some r → (r.2 = false → Q (0, false)) → (r.2 = true → EvP (fun k => r8_delay.l3 k first block u (bitsM x) most r.1 q false x.f0 x.f1 x.f2 x.f3) Q) →
    EvP (fun k => r8_delay.l3 k first block u (bitsM x) most t q true x.f0 x.f1 x.f2 x.f3) Q
  | 0, t, r, h0, h1, h, G1, G2 => by simp [fixF] at h
  | n + 1, t, r, h0, h1, h, G1, G2 => by
    have hnn := waitN_nonneg hx hw hb0 hq0 hq1 h0 h1
    have b2 := mulBits hq0 hq1 (bitsM_bounds hx).1 (bitsM_bounds hx).2
    rw [fixF] at h
    have H := rdelay_l4 x first block hx hw h8 hb0 hb1 Q u t q most hq0 hq1 h0 h1 (fun c => by
      rw [if_pos c] at h
      obtain rfl := sI h
      exact G1 rfl) (fun c => by
      rw [if_neg c] at h
      by_cases c2 : waitN block q x first t = t
      · rw [if_pos c2] at h
        obtain rfl := sI h
        have e : (waitN block q x first t != t) = false := by rw [c2]; simp
        rw [e, c2]
        exact G2 rfl
      · rw [if_neg c2] at h
        have e : (waitN block q x first t != t) = true := by simpa using c2
        rw [e]
        exact rdelay_l3 u q most hq0 hq1 n _ r hnn z3 h G1 G2) first.length 0 z3 z3
    have e0 : block + q * bitsM x + sumI (fun o => instW o t * bitsM o) first 0 = block + q * bitsM x := by simp only [sumI]; omega
    rw [e0] at H
    refine H.succ fun k => ?_
    show r8_delay.l3 (k + 1) first block u (bitsM x) most t q true x.f0 x.f1 x.f2 x.f3 = _
    rw [r8_delay.l3, if_pos rfl, w64s (q * bitsM x) z3 z3, w64s (block + q * bitsM x) z3 z3]; rfl
end
section
variable (x : S55) (first : List S55) (block : Int) (hx : okM x = true) (hw : ∀ k, k < first.length → okM (rd_T55 first (k : Int)) = true) (h8 : first.length ≤ 8) (hb0 : 0 ≤ block) (hb1 : block ≤ 135)
include hx hw h8 hb0 hb1
theorem rdelay_l2 (u : Int) (hu0 : 0 ≤ u) (hu1 : u ≤ 10000000) : ∀ (n : Nat) (q w most : Int), 0 ≤ q → q + n = inst x u → 0 ≤ w → w ≤ 10000000 → w ≤ waitN block q x first w →
    EvP (fun k => r8_delay.l2 k first block u (bitsM x) most w q x.f0 x.f1 x.f2 x.f3) (fun r => r.2 = (decide (most ≤ 10000000) && (waitD block x first n q w most).2) ∧ (r.2 = true → r.1 = (waitD block x first n q w most).1))
  | 0, q, w, most, hq0, hqn, hw0, hw1, hwn => by
    refine EvP.now (most, decide (most ≤ 10000000)) (fun k => ?_) ⟨by simp only [waitD, Bool.and_true], fun _ => rfl⟩
    show r8_delay.l2 (k + 1) first block u (bitsM x) most w q x.f0 x.f1 x.f2 x.f3 = _
    rw [r8_delay.l2, aboveR hx hu0 hu1, Option.bind_some, if_neg z3]
  | n + 1, q, w, most, hq0, hqn, hw0, hw1, hwn => by
    have hi := inst_bounds hx hu0 hu1
    have hm : MonoF (waitN block q x first) := fun s t _ h => waitN_mono hw h
    obtain ⟨K, hK⟩ := fixQ_ev (waitN block q x first) hm w hw0 hwn
    have hT := fixQ_true (waitN block q x first) hm w hw0 hwn
    have hF : fixF (waitN block q x first) K w = some (fixQ (waitN block q x first) w) := hK K (Nat.le_refl _)
    simp only [waitD]
    generalize fixQ (waitN block q x first) w = s at hF hT ⊢
    obtain ⟨_, _, _, _, p1, p2, p3, p4⟩ := okM_bounds hx
    have hb := bitsM_bounds hx
    refine (rdelay_l3 x first block hx hw h8 hb0 hb1 _ u q most hq0 z3 K w s hw0 hw1 hF (fun hs => ?_) (fun hs => ?_)).succ fun k => ?_
    · rw [if_pos (.inl hs)]
      exact ⟨by simp, fun h => by cases h⟩
    · obtain ⟨t1, t2, t3⟩ := hT hs
      have hqp : 0 ≤ q * x.f2 ∧ q * x.f2 ≤ 10200000 * 100000 := ⟨Int.mul_nonneg hq0 z3, Int.mul_le_mul z3 p2 z3 z3⟩
      have ih := rdelay_l2 u hu0 hu1 n (q + 1) s.1 (max most (x.f3 + s.1 - q * x.f2 + bitsM x)) z3 z3 z3 t2 (by rw [waitN_next hx, t3]; omega)
      have hs' : ¬ s.2 = false := by rw [hs]; simp
      refine (ih.weak (Q := fun r => r.2 = (decide (most ≤ 10000000) && (if s.2 = false ∨ 10000000 < max most (x.f3 + s.1 - q * x.f2 + bitsM x) then ((0 : Int), false) else waitD block x first n (q + 1) s.1 (max most (x.f3 + s.1 - q * x.f2 + bitsM x))).2) ∧ (r.2 = true → r.1 = (if s.2 = false ∨ 10000000 < max most (x.f3 + s.1 - q * x.f2 + bitsM x) then ((0 : Int), false) else waitD block x first n (q + 1) s.1 (max most (x.f3 + s.1 - q * x.f2 + bitsM x))).1)) fun r hr => ?_).succ fun k => ?_
      · by_cases c : 10000000 < max most (x.f3 + s.1 - q * x.f2 + bitsM x)
        · rw [if_pos (.inr c)]
          rw [dF (show ¬ max most (x.f3 + s.1 - q * x.f2 + bitsM x) ≤ 10000000 by omega), Bool.false_and] at hr
          exact ⟨by rw [hr.1]; simp, fun h => by rw [hr.1] at h; cases h⟩
        · rw [if_neg (fun h => h.elim hs' c)]
          rw [dT (show max most (x.f3 + s.1 - q * x.f2 + bitsM x) ≤ 10000000 by omega), Bool.true_and] at hr
          rw [dT (show most ≤ 10000000 by omega), Bool.true_and]
          exact hr
      · show r8_delay.l3 (k + 1) first block u (bitsM x) most s.1 q false x.f0 x.f1 x.f2 x.f3 = _
        rw [r8_delay.l3, if_neg z9, w64s (x.f3 + s.1) z3 z3, w64s (q * x.f2) z3 z3, w64s (x.f3 + s.1 - q * x.f2) z3 z3, w64s (x.f3 + s.1 - q * x.f2 + bitsM x) z3 z3, w64s (q + 1) z3 z3, mx_max]
    · show r8_delay.l2 (k + 1) first block u (bitsM x) most w q x.f0 x.f1 x.f2 x.f3 = _
      rw [r8_delay.l2, aboveR hx hu0 hu1, Option.bind_some, if_pos z3]
theorem rdelay_val : EvP (fun k => r8_delay.f k x.f0 x.f1 x.f2 x.f3 first block) (fun r => r.2 = (delayD x first block).2 ∧ (r.2 = true → r.1 = (delayD x first block).1)) := by
  (have hall := okM_snoc x first hx hw); (have hlen : (first ++ [x]).length ≤ 9 := by rw [List.length_append, List.length_singleton]; omega); (have ef : fracTo (first ++ [x]) (first ++ [x]).length = fracTo ([x] ++ first) ([x] ++ first).length := by rw [fracTo_snoc, fracTo_cons]); (have hm : MonoF (busyN block x first) := fun s t _ h => busyN_mono hx hw h); (have hone := busyN_one hx hw hb0); (obtain ⟨K, hK⟩ := fixQ_ev (busyN block x first) hm 1 z9 hone); (have hT := fixQ_true (busyN block x first) hm 1 z9 hone); (have hF : fixF (busyN block x first) K 1 = some (fixQ (busyN block x first) 1) := hK K (Nat.le_refl _))
  have main : EvP (fun k => if sgnC (fracTo (first ++ [x]) (first ++ [x]).length).1 (fracTo (first ++ [x]) (first ++ [x]).length).2 ≥ 0 then some ((0 : Int), false) else r8_delay.l0 k first block (first ++ [x]) 1 true x.f0 x.f1 x.f2 x.f3) (fun r => r.2 = (delayD x first block).2 ∧ (r.2 = true → r.1 = (delayD x first block).1)) := by
    rw [ef]
    unfold delayD
    by_cases c : 0 ≤ sgnC (fracTo ([x] ++ first) ([x] ++ first).length).1 (fracTo ([x] ++ first) ([x] ++ first).length).2
    · rw [if_pos c]
      exact EvP.at (0, false) (fun k => if_pos c) ⟨rfl, fun h => by cases h⟩
    · rw [if_neg c]
      refine EvP.same (g := fun k => r8_delay.l0 k first block (first ++ [x]) 1 true x.f0 x.f1 x.f2 x.f3) ?_ fun k => if_neg c
      generalize fixQ (busyN block x first) 1 = s at hF hT ⊢
      refine rdelay_l0 x first block hx hw h8 hb0 hb1 _ K 1 s z3 z3 hF (fun hs => ?_) (fun hs => ?_)
      · rw [if_pos hs]
        exact ⟨rfl, fun h => by cases h⟩
      · obtain ⟨t1, t2, t3⟩ := hT hs
        have hi := inst_bounds hx (show 0 ≤ s.1 by omega) t2
        rw [if_neg (by rw [hs]; simp)]
        have h2 := rdelay_l2 x first block hx hw h8 hb0 hb1 s.1 z3 t2 (inst x s.1).toNat 0 0 0 z3 z3 z3 z3 (waitN_nonneg hx hw hb0 (Int.le_refl 0) z9 (Int.le_refl 0) z9)
        rw [dT z9, Bool.true_and] at h2
        refine h2.succ fun k => ?_
        show r8_delay.l0 (k + 1) first block (first ++ [x]) s.1 false x.f0 x.f1 x.f2 x.f3 = _
        rw [r8_delay.l0, if_neg z9, longestR hx, Option.bind_some]
  obtain ⟨r, h1, h2⟩ := main; (refine ⟨r, ?_, h2⟩); (refine (loadedCmp (first ++ [x]) hall hlen (g := fun k t => if t ≥ 0 then some ((0 : Int), false) else r8_delay.l0 k first block (first ++ [x]) 1 true x.f0 x.f1 x.f2 x.f3) h1).same fun k => ?_); (show r8_delay.f k x.f0 x.f1 x.f2 x.f3 first block = _); (unfold r8_delay.f); rw [if_pos (by simp; omega), Option.bind_some, if_pos (by simp; omega), Option.bind_some]; rfl
end
end Go.Proofs.YtbanemecfobonaaDoor.B
namespace Go.Proofs.YtbanemecfobonaaDoor.B
open Go.RowKit Go.Proofs.YtbanemecfobonaaDoorW.PrintWords Go.Proofs.YtbanemecfobonaaDoorW.PrintLast Go.Proofs.YtbanemecfobonaaDoorW.PrintMore
attribute [local go_sem] max2_int min2_int max_two min_two max_three min_three max_four min_four
set_option linter.unusedVariables false
set_option linter.unusedSimpArgs false
attribute [local go_sem] max2_int min2_int max_two min_two max_three min_three max_four min_four
set_option linter.unusedVariables false
set_option linter.unusedSimpArgs false
attribute [local go_sem] max2_int min2_int max_two min_two max_three min_three max_four min_four
set_option linter.unusedVariables false
set_option linter.unusedSimpArgs false
end Go.Proofs.YtbanemecfobonaaDoor.B
namespace Go.Proofs.YtbanemecfobonaaDoor.B
open Go.RowKit Go.Proofs.YtbanemecfobonaaDoorW.PrintWords Go.Proofs.YtbanemecfobonaaDoorW.PrintLast Go.Proofs.YtbanemecfobonaaDoorW.PrintMore
set_option linter.unusedVariables false
set_option linter.unusedSimpArgs false
end Go.Proofs.YtbanemecfobonaaDoor.B
namespace Go.Proofs.YtbanemecfobonaaDoor.B
open Go.RowKit Go.Proofs.YtbanemecfobonaaDoorW.PrintWords Go.Proofs.YtbanemecfobonaaDoorW.PrintLast Go.Proofs.YtbanemecfobonaaDoorW.PrintMore
attribute [local go_sem] max2_int min2_int max_two min_two max_three min_three max_four min_four
set_option linter.unusedVariables false
set_option linter.unusedSimpArgs false
end Go.Proofs.YtbanemecfobonaaDoor.B
namespace Go.Proofs.YtbanemecfobonaaDoor.B
open Go.RowKit Go.Proofs.YtbanemecfobonaaDoorW.PrintWords Go.Proofs.YtbanemecfobonaaDoorW.PrintLast Go.Proofs.YtbanemecfobonaaDoorW.PrintMore
set_option linter.unusedVariables false
set_option linter.unusedSimpArgs false
end Go.Proofs.YtbanemecfobonaaDoor.B
namespace Go.Proofs.YtbanemecfobonaaDoor.B
open Go.RowKit Go.Proofs.YtbanemecfobonaaDoorW.PrintWords Go.Proofs.YtbanemecfobonaaDoorW.PrintLast Go.Proofs.YtbanemecfobonaaDoorW.PrintMore
attribute [local go_sem] max2_int min2_int max_two min_two max_three min_three max_four min_four
set_option linter.unusedVariables false
set_option linter.unusedSimpArgs false
end Go.Proofs.YtbanemecfobonaaDoor.B
namespace Go.Proofs.YtbanemecfobonaaDoor.B
open Go.RowKit Go.Proofs.YtbanemecfobonaaDoorW.PrintWords Go.Proofs.YtbanemecfobonaaDoorW.PrintLast Go.Proofs.YtbanemecfobonaaDoorW.PrintMore
set_option linter.unusedVariables false
set_option linter.unusedSimpArgs false
def limTo (lims : List Int) : Nat → Bool
  | 0 => true
  | n + 1 => limTo lims n && (decide (0 ≤ rd lims (n : Int)) && decide (rd lims (n : Int) ≤ 10000000))
def orderSpec (l : List S55) (lims : List Int) : List Int × Int :=
  if sentB l = false ∨ lims.length ≠ l.length ∨ limTo lims lims.length = false then ([], 2) else orderS l lims l.length (fun _ => true) 0 []
def badL (n : Int) : Bool := decide (n < 0) || decide (10000000 < n)
set_option maxHeartbeats 400000 in
set_option maxRecDepth 100000 in
theorem f81_any (n : Int) (w : World) : Calls Tryd.prog 81 #[.int .i64 n] w fun e w' => e = .returned (.bool (badL n)) ∧ Drawn0 w w' := by
  have hb : badL n = (decide (n < 0) || decide (10000000 < n)) := rfl
  by_cases c1 : n < 0
  · have t1 := dT c1
    have e : badL n = true := by rw [hb, t1]; rfl
    rw [e]
    clear hb e
    go_enter Tryd.func81, Tryd.ntmps81
    go_wp2
    go_ret
    exact ⟨rfl, by repeat (first | exact Drawn0.refl _ | apply Drawn0.step)⟩
  · have t1 := dF c1
    have e : badL n = decide (10000000 < n) := by rw [hb, t1, Bool.false_or]
    rw [e]
    clear hb e
    go_enter Tryd.func81, Tryd.ntmps81
    go_wp2
    go_ret
    exact ⟨rfl, by repeat (first | exact Drawn0.refl _ | apply Drawn0.step)⟩
def idxB (c : Nat → Bool) : Nat → Nat → Int
  | 0, _ => -1
  | n + 1, i => if c i = true then (i : Int) else idxB c n (i + 1)
set_option maxHeartbeats 800000 in
set_option maxRecDepth 100000 in
theorem IndexFunc_intE.calls (A0 : Option Addr) (c0 : Nat) (l : List Int) (e1 e2 e3 e4 : Value) (c : Nat → Bool) (w : World) (hr : Kd.C (Kd.int .i64) w A0 l.length l)
    (hC : ∀ (i : Nat) (W : World), i < l.length → Below w.heap.size w W → Calls Tryd.prog 83 #[.int .i64 (rd l (i : Int)), e1, e2, e3, e4] W fun e w' => e = .returned (.bool (c i)) ∧ Below W.heap.size W w') :
    Calls Tryd.prog 82 #[.slice A0 l.length c0, .func (.func 83) #[] #[e1, e2, e3, e4]] w fun e w' => e = .returned (.int .i64 (idxB c l.length 0)) ∧ Below w.heap.size w w' := by
  have HR := aM hr; have HCA := aM hC; (have HB0 := aM (Below.refl w.heap.size w)); (have hlen : (l.length : Int) ≤ 9223372036854775807 := by have := hr.2.1; omega); clear hr hC; (go_enter Tryd.func82, Tryd.ntmps82); go_wp2; (go_loopg [8] l.length (fun gk v8 w' => ∃ i : Nat, v8 = .int .i64 (i : Int) ∧ i ≤ l.length ∧ Aside0 (gk = l.length - i) ∧ Aside0 (idxB c l.length 0 = idxB c (l.length - i) i) ∧ Aside0 (Below w.heap.size w w'))); (case atStart => exact ⟨0, rfl, by omega, ⟨rfl⟩, ⟨rfl⟩, HB0⟩)
  case round =>
   clear HB0; obtain ⟨i, rfl, hi, HK, HI, HB⟩ := hrel; by_cases hlt : i < l.length; rotate_left
   · (obtain rfl : i = l.length := by omega); go_wp2; go_ret; (exact ⟨by rw [HI.out, Nat.sub_self]; rfl, HB.out⟩)
   (obtain ⟨ad, e0, hx0⟩ := Kd.at_int (Kd.C_below HR.out HB.out) (i : Int) z3 z3); cases e0; simp only [Int.toNat_natCast] at hx0; (have HN : Aside0 (idxB c (l.length - i) i = if c i = true then (i : Int) else idxB c (l.length - (i + 1)) (i + 1)) := ⟨by rw [show l.length - i = (l.length - (i + 1)) + 1 by omega]; rfl⟩); (have HC : Aside0 (Calls Tryd.prog 83 #[.int .i64 (rd l (i : Int)), e1, e2, e3, e4] wr fun e w' => e = .returned (.bool (c i)) ∧ Below wr.heap.size wr w') := ⟨HCA.out i wr hlt HB.out⟩); (generalize rd l (i : Int) = x at HC hx0); (obtain ⟨bb, hbb⟩ : ∃ bb, c i = bb := ⟨_, rfl⟩); rw [hbb] at HC HN; clear hbb; cases bb; rotate_left
   · (go_wp2_with (first | (go_at_call 83; refine HC.out.mono ?_; rintro e w1 ⟨rfl, b1⟩; replace b1 := aM b1))); go_ret; (exact ⟨by rw [HI.out, HN.out, if_pos trivial]; rfl, bSt HB.out b1.out⟩)
   (go_wp2_with (first | (go_at_call 83; refine HC.out.mono ?_; rintro e w1 ⟨rfl, b1⟩; replace b1 := aM b1))); (go_roundg (l.length - (i + 1))); (case measure => have := HK.out; omega); (case rel => exact ⟨i + 1, by go_num, by omega, ⟨rfl⟩, ⟨by rw [HI.out, HN.out, if_neg (by simp)]⟩, ⟨bSt HB.out b1.out⟩⟩)
def winO (l : List S55) (left : List Int) (x : Int) : Nat → List S55
  | 0 => []
  | n + 1 => if rd left (n : Int) = x then winO l left x n else winO l left x n ++ [rd_T55 l (rd left (n : Int))]
theorem winO_len (l : List S55) (left : List Int) (x : Int) : ∀ n, (winO l left x n).length ≤ n
  | 0 => Nat.le_refl _
  | n + 1 => by
    have := winO_len l left x n
    simp only [winO]
    split
    · omega
    · rw [List.length_append, List.length_singleton]; omega
theorem winO_ok (l : List S55) (left : List Int) (x : Int) (m : Nat) (h : ∀ q, q < m → okM (rd_T55 l (rd left (q : Int))) = true) : ∀ n, n ≤ m → ∀ k, k < (winO l left x n).length → okM (rd_T55 (winO l left x n) (k : Int)) = true
  | 0, _, k, hk => by simp [winO] at hk
  | n + 1, hn, k, hk => by
    have ih := winO_ok l left x m h n z3
    simp only [winO] at hk ⊢
    split at hk
    · rename_i hc
      rw [if_pos hc]; exact ih k hk
    · rename_i hc
      rw [if_neg hc, rd_T55_snoc]
      split
      · exact h n z3
      · exact ih k (by rw [List.length_append, List.length_singleton] at hk; omega)
def lastB (l : List S55) (lims left : List Int) (lose : List S55) (i : Nat) : Bool :=
  (delayD (rd_T55 l (i : Int)) (winO l left (i : Int) left.length) (maxTo lose lose.length)).2 && decide ((delayD (rd_T55 l (i : Int)) (winO l left (i : Int) left.length) (maxTo lose lose.length)).1 ≤ rd lims (i : Int))
set_option maxHeartbeats 2000000 in
set_option maxRecDepth 100000 in
theorem f83_any (left lims : List Int) (l lose : List S55) (AL Al Ao Am : Option Addr) (cL cl co cm gL gl go gm i : Nat) (w : World)
    (hgL : w.cell? ⟨gL, 0, none⟩ = some (.slice AL left.length cL)) (hL : Kd.C (Kd.int .i64) w AL left.length left)
    (hgl : w.cell? ⟨gl, 0, none⟩ = some (.slice Al l.length cl)) (hl : Kd.C k55 w Al l.length l)
    (hgo : w.cell? ⟨go, 0, none⟩ = some (.slice Ao lose.length co)) (ho : Kd.C k55 w Ao lose.length lose) (hco : lose.length ≤ co)
    (hgm : w.cell? ⟨gm, 0, none⟩ = some (.slice Am lims.length cm)) (hm : Kd.C (Kd.int .i64) w Am lims.length lims)
    (hok : OkL l) (hlo : ∀ q, q < lose.length → okM (rd_T55 lose (q : Int)) = true) (hlo8 : lose.length ≤ 8) (hle8 : left.length ≤ 8)
    (hr : ∀ q : Nat, q < left.length → 0 ≤ rd left (q : Int) ∧ rd left (q : Int) < (l.length : Int)) (hi : i < l.length) (him : i < lims.length) :
    Calls Tryd.prog 83 #[.int .i64 (i : Int), .pointer (some ⟨gL, 0, none⟩), .pointer (some ⟨gl, 0, none⟩), .pointer (some ⟨go, 0, none⟩), .pointer (some ⟨gm, 0, none⟩)] w fun e w' => e = .returned (.bool (lastB l lims left lose i)) ∧ Below w.heap.size w w' := by
  (obtain ⟨res, hres⟩ : ∃ b, b = lastB l lims left lose i := ⟨_, rfl⟩); rw [← hres]; have HRS := aM hres; clear hres; have hu55 := Tryd.underlying55; have HLC := aM hL; have HC := aM hl; have HO := aM ho; have HM := aM hm; have HR := aM hr; have HOK := aM hok; have HLO := aM hlo; have HGL := aM hgL; have Hgl := aM hgl; have HGO := aM hgo; have HGM := aM hgm; (have HB0 := aM (Below.refl w.heap.size w)); (have hlen : (left.length : Int) ≤ 9223372036854775807 := by omega); have hllen := hl.2.1; (have R0 : Aside0 (Kd.R k55 55 w w.heap.size (fun _ => True) (.slice none 0 0) ([] : List S55)) := ⟨Kd.R_nil _ _ _ _ _⟩); clear hL hl ho hm hr hok hlo hgl hgo hgm; (go_enter Tryd.func83, Tryd.ntmps83); go_wp2; clear hgL; (go_loopg [7, 14] left.length (fun gk v7 v14 w' => ∃ n : Nat, v14 = .int .i64 (n : Int) ∧ n ≤ left.length ∧ Aside0 (gk = left.length - n) ∧ Aside0 (Kd.R k55 55 w' w.heap.size (fun _ => True) v7 (winO l left (i : Int) n)) ∧ Aside0 (Below w.heap.size w w'))); (case atStart => exact ⟨0, rfl, by omega, ⟨rfl⟩, R0, HB0⟩)
  case round =>
   clear R0 HB0; obtain ⟨n, rfl, hn, HK, R7, HB⟩ := hrel; by_cases hlt : n < left.length
   · (obtain ⟨ad, e0, hx⟩ := Kd.at_int (Kd.C_below HLC.out HB.out) (n : Int) z3 z3); cases e0; rw [Int.toNat_natCast] at hx; (obtain ⟨q0, q1⟩ := HR.out n hlt); (have HWN : Aside0 (winO l left (i : Int) (n + 1) = if rd left (n : Int) = (i : Int) then winO l left (i : Int) n else winO l left (i : Int) n ++ [rd_T55 l (rd left (n : Int))]) := ⟨rfl⟩); (have hwl := winO_len l left (i : Int) n); (obtain ⟨ad2, e0, hy0, hy1, hy2, hy3⟩ := at_T55 (Kd.C_below HC.out HB.out) (rd left (n : Int)) q0 q1); cases e0; (have hgl := keepc HB.out Hgl.out); (generalize rd left (n : Int) = o at *); (obtain ⟨p, rfl⟩ : ∃ p : Nat, o = (p : Int) := Int.eq_ofNat_of_zero_le q0); rw [Int.toNat_natCast] at hy0 hy1 hy2 hy3; (generalize rd_T55 l (p : Int) = x at HWN hy0 hy1 hy2 hy3); (generalize winO l left (i : Int) n = ws at HWN R7 hwl); by_cases c : (p : Int) = (i : Int)
     · (have t1 : ((p : Int) != (i : Int)) = false := by simpa using c); rw [if_pos c] at HWN; clear c; go_wp2; (go_roundg (left.length - (n + 1))); (case measure => have := HK.out; omega); (case rel => exact ⟨n + 1, by go_num, by omega, ⟨rfl⟩, ⟨by rw [HWN.out]; exact R7.out⟩, HB⟩)
     (have t1 : ((p : Int) != (i : Int)) = true := by simpa using c); rw [if_neg c] at HWN; clear c
     go_wp2_with (first
     | ((with_reducible refine gate_builtin (b := .append) (xs := #[.tmp 21, .tmp 26]) rfl ?_); at_builtin; refine Kd.R_append k55 (w0 := w) w.heap.size rfl (.tmp 21) (.tmp 26) 46 55 (.agg #[(.int .i64 0), (.int .i64 0), (.int .i64 0), (.int .i64 0)]) 32 rfl Tryd.underlying46 info55 rfl z9 z3 u7 ws x [.int .i64 x.f0, .int .i64 x.f1, .int .i64 x.f2, .int .i64 x.f3] (fun _ => True) (fun _ => False) rfl rfl ?aP (fun _ hk => hk.elim) ?aF ?aO ?aB ?aS ?aL ?_; (case aP => exact k55_mkM _ _ _ x); (case aF => exact (fun k hk => trivial)); (case aO => exact R7.out); (case aB => exact HB.out); (case aS => exact HB.out.size); (case aL => omega); intro v1 w4 ho hb hg hat; have N1 := aM ho; have NB := aM hb; clear ho hb hg hat))
     (go_roundg (left.length - (n + 1))); (case measure => have := HK.out; omega); (case rel => exact ⟨n + 1, by go_num, by omega, ⟨rfl⟩, ⟨by rw [HWN.out]; exact N1.out⟩, NB⟩)
   (obtain rfl : n = left.length := by omega); (obtain ⟨A7, c7, rfl, h7, hr7⟩ := Kd.R_reads R7.out); (have W7 := aM (⟨hr7, h7⟩ : _ ∧ _)); (have HOKI := HOK.out i hi)
   have HOW := aM (winO_ok l left (i : Int) left.length (fun q hq => by
     obtain ⟨a, b⟩ := HR.out q hq
     obtain ⟨p, e⟩ := Int.eq_ofNat_of_zero_le a
     rw [e]
     exact HOK.out p z3) left.length (Nat.le_refl _))
   (have hwl := winO_len l left (i : Int) left.length); (obtain ⟨ad, e0, hx0, hx1, hx2, hx3⟩ := at_T55 (Kd.C_below HC.out HB.out) (i : Int) z3 z3); cases e0; simp only [Int.toNat_natCast] at hx0 hx1 hx2 hx3; (obtain ⟨adm, e0, hm0⟩ := Kd.at_int HM.out (i : Int) z3 z3); cases e0; rw [Int.toNat_natCast] at hm0; have HM0 := aM hm0; (have hgl := keepc HB.out Hgl.out); (have hgo := keepc HB.out HGO.out); (have HRES : Aside0 (res = ((delayD (rd_T55 l (i : Int)) (winO l left (i : Int) left.length) (maxTo lose lose.length)).2 && decide ((delayD (rd_T55 l (i : Int)) (winO l left (i : Int) left.length) (maxTo lose lose.length)).1 ≤ rd lims (i : Int)))) := ⟨HRS.out⟩); clear R7 h7 hr7 hm0 HRS; (generalize rd lims (i : Int) = lim at HM0 HRES); (generalize rd_T55 l (i : Int) = x at HOKI hx0 hx1 hx2 hx3 HRES); (generalize winO l left (i : Int) left.length = ws at W7 HOW hwl HRES ⊢); (obtain ⟨K, hK⟩ := delayF_ev x ws lose HOKI HOW.out HLO.out z3); (have hd : delayF K x ws lose = some (delayD x ws (maxTo lose lose.length)) := hK K (Nat.le_refl _)); clear hK; (generalize delayD x ws (maxTo lose lose.length) = D at hd HRES); obtain ⟨d, dk⟩ := D; have HOKX := aM HOKI; (have HCD : Aside0 (∀ W, Below wr.heap.size wr W → Calls Tryd.prog 67 #[.agg #[.int .i64 x.f0, .int .i64 x.f1, .int .i64 x.f2, .int .i64 x.f3], .slice A7 ws.length c7, .slice Ao lose.length co] W fun e w' => e = .returned (.tuple #[.int .i64 d, .bool dk]) ∧ Below W.heap.size W w') := ⟨fun W hb => bus_delay.calls K x A7 Ao c7 co ws lose d dk W (Kd.C_below W7.out.1 hb) W7.out.2 (Kd.C_below (Kd.C_below HO.out HB.out) hb) hco HOKX.out HOW.out HLO.out z3 z3 hd⟩)
   clear HOKI hwl hd; (have HY := aM (⟨hgl, hgo, hx0, hx1, hx2, hx3⟩ : _ ∧ _ ∧ _ ∧ _ ∧ _ ∧ _)); clear hgl hgo hx0 hx1 hx2 hx3; cases dk
   · (have e : res = false := by rw [HRES.out]; rfl); subst e; clear HRES; (go_upto_region 8 with (fail)); (have HS0 : Aside0 (∀ W1, Below wr.heap.size wr W1 → (fun w1 => w1.cell? ⟨gl, 0, none⟩ = some (.slice (some ad) l.length cl) ∧ w1.cell? ⟨go, 0, none⟩ = some (.slice Ao lose.length co) ∧ w1.cell? (ad.add (i * 4)) = some (.int .i64 x.f0) ∧ w1.cell? ⟨(ad.add (i * 4)).block, (ad.add (i * 4)).off + 1, none⟩ = some (.int .i64 x.f1) ∧ w1.cell? ⟨(ad.add (i * 4)).block, (ad.add (i * 4)).off + 2, none⟩ = some (.int .i64 x.f2) ∧ w1.cell? ⟨(ad.add (i * 4)).block, (ad.add (i * 4)).off + 3, none⟩ = some (.int .i64 x.f3)) W1) := ⟨fun W1 hb => ⟨keepc hb HY.out.1, keepc hb HY.out.2.1, keepc hb HY.out.2.2.1, keepc hb HY.out.2.2.2.1, keepc hb HY.out.2.2.2.2.1, keepc hb HY.out.2.2.2.2.2⟩⟩)
     go_region_held3 (fun w1 => w1.cell? ⟨gl, 0, none⟩ = some (.slice (some ad) l.length cl) ∧ w1.cell? ⟨go, 0, none⟩ = some (.slice Ao lose.length co) ∧ w1.cell? (ad.add (i * 4)) = some (.int .i64 x.f0) ∧ w1.cell? ⟨(ad.add (i * 4)).block, (ad.add (i * 4)).off + 1, none⟩ = some (.int .i64 x.f1) ∧ w1.cell? ⟨(ad.add (i * 4)).block, (ad.add (i * 4)).off + 2, none⟩ = some (.int .i64 x.f2) ∧ w1.cell? ⟨(ad.add (i * 4)).block, (ad.add (i * 4)).off + 3, none⟩ = some (.int .i64 x.f3)) (first | exact HY.out | exact HS0.out _ (by repeat (first | exact Below.refl _ _ | exact B5.out | apply bAl | apply pBd | apply bD1)) | go_keep)
       (first
       | (go_at_call 67; refine (HCD.out _ z7).mono ?_; rintro e w5 ⟨rfl, b5⟩; have B5 : Aside0 (Below wr.heap.size wr w5) := ⟨bSt z7 b5⟩; clear b5))
     (rename_i hHeld); clear hHeld HS0; go_wp2; go_ret; (exact ⟨rfl, bSt HB.out B5.out⟩)
   (have e : res = decide (d ≤ lim) := by rw [HRES.out]; rfl); subst e; clear HRES; (go_upto_region 8 with (fail)); (have HS0 : Aside0 (∀ W1, Below wr.heap.size wr W1 → (fun w1 => w1.cell? ⟨gl, 0, none⟩ = some (.slice (some ad) l.length cl) ∧ w1.cell? ⟨go, 0, none⟩ = some (.slice Ao lose.length co) ∧ w1.cell? (ad.add (i * 4)) = some (.int .i64 x.f0) ∧ w1.cell? ⟨(ad.add (i * 4)).block, (ad.add (i * 4)).off + 1, none⟩ = some (.int .i64 x.f1) ∧ w1.cell? ⟨(ad.add (i * 4)).block, (ad.add (i * 4)).off + 2, none⟩ = some (.int .i64 x.f2) ∧ w1.cell? ⟨(ad.add (i * 4)).block, (ad.add (i * 4)).off + 3, none⟩ = some (.int .i64 x.f3)) W1) := ⟨fun W1 hb => ⟨keepc hb HY.out.1, keepc hb HY.out.2.1, keepc hb HY.out.2.2.1, keepc hb HY.out.2.2.2.1, keepc hb HY.out.2.2.2.2.1, keepc hb HY.out.2.2.2.2.2⟩⟩)
   go_region_held3 (fun w1 => w1.cell? ⟨gl, 0, none⟩ = some (.slice (some ad) l.length cl) ∧ w1.cell? ⟨go, 0, none⟩ = some (.slice Ao lose.length co) ∧ w1.cell? (ad.add (i * 4)) = some (.int .i64 x.f0) ∧ w1.cell? ⟨(ad.add (i * 4)).block, (ad.add (i * 4)).off + 1, none⟩ = some (.int .i64 x.f1) ∧ w1.cell? ⟨(ad.add (i * 4)).block, (ad.add (i * 4)).off + 2, none⟩ = some (.int .i64 x.f2) ∧ w1.cell? ⟨(ad.add (i * 4)).block, (ad.add (i * 4)).off + 3, none⟩ = some (.int .i64 x.f3)) (first | exact HY.out | exact HS0.out _ (by repeat (first | exact Below.refl _ _ | exact B5.out | apply bAl | apply pBd | apply bD1)) | go_keep)
     (first
     | (go_at_call 67; refine (HCD.out _ z7).mono ?_; rintro e w5 ⟨rfl, b5⟩; have B5 : Aside0 (Below wr.heap.size wr w5) := ⟨bSt z7 b5⟩; clear b5))
   (rename_i hHeld); clear hHeld HS0; (have hgm := keepc (bSt HB.out B5.out) HGM.out); (have hml := keepc (bSt HB.out B5.out) HM0.out); go_wp2; go_ret; (exact ⟨rfl, bSt HB.out B5.out⟩)
end Go.Proofs.YtbanemecfobonaaDoor.B
namespace Go.Proofs
open Go.Shelf
def Tryd.laysNm223_ren : Go.Shelf.Ren := ⟨fun | 23 => 84 | n => n, fun | 22 => 22 | 3 => 3 | 4 => 4 | 0 => 0 | n => n, fun | n => n⟩
theorem Tryd.laysNm223 : Go.Proofs.Lays2.n23 Tryd.prog Tryd.laysNm223_ren := {
  mixed := by kernel_rfl
  f23 := Tryd.func84.trans (congrArg some (by kernel_rfl))
  t0 := Tryd.underlying0
  a0 := Tryd.isAgg0
  z0 := Tryd.sizeOf0
  v0 := Tryd.zeroValue0
  t3 := Tryd.underlying3
  a3 := Tryd.isAgg3
  z3 := Tryd.sizeOf3
  v3 := Tryd.zeroValue3
  t4 := Tryd.underlying4
  a4 := Tryd.isAgg4
  z4 := Tryd.sizeOf4
  v4 := Tryd.zeroValue4
  t22 := Tryd.underlying22
  a22 := Tryd.isAgg22
  z22 := Tryd.sizeOf22
  v22 := Tryd.zeroValue22
  i3 := by kernel_rfl }
open Go.RowKit Go.Lib Go.Sort in
theorem Tryd.slices_Delete_int_cells (b off n c i j : Nat) (zs : List Int) (w : World) (hz : n ≤ zs.length) (hcap : n ≤ c) (hm : c ≤ 9223372036854775807) (hij : i ≤ j) (hj : j ≤ n) (hc : ∀ j, j < zs.length → w.cell? ⟨b, off + j, none⟩ = some (.int .i64 (zs.getD j 0))) (hf : ∀ j, j < n → w.frozen? ⟨b, off + j, none⟩ = false) :
    Calls Tryd.prog 84 #[.slice (some ⟨b, off, none⟩) n c, .int .i64 i, .int .i64 j] w fun e w' => e = .returned (.slice (some ⟨b, off, none⟩) (n - (j - i)) c) ∧ ∃ q, w' = (w.drewN q).setCells b off (((zs.take n).take i ++ (zs.take n).drop j ++ List.replicate (j - i) 0).map (Value.int .i64)) := Any.slices_Delete_int_cells Tryd.laysNm223 b off n c i j zs w hz hcap hm hij hj hc hf
end Go.Proofs
namespace Go.Proofs.YtbanemecfobonaaDoor.B
open Go.RowKit Go.Proofs.YtbanemecfobonaaDoorW.PrintWords Go.Proofs.YtbanemecfobonaaDoorW.PrintLast Go.Proofs.YtbanemecfobonaaDoorW.PrintMore
set_option linter.unusedVariables false
set_option linter.unusedSimpArgs false
def selN (Q : Nat → Bool) (n : Nat) : List Nat := (List.range n).filter Q
def selI (Q : Nat → Bool) (n : Nat) : List Int := (selN Q n).map (fun t : Nat => (t : Int))
theorem selL_filter (l : List S55) (P : Nat → Bool) : ∀ n, selL l P n = (selN P n).map (fun t : Nat => rd_T55 l (t : Int))
  | 0 => rfl
  | n + 1 => by
    have ih := selL_filter l P n
    simp only [selL, selN, List.range_succ, List.filter_append, List.map_append] at ih ⊢
    rw [ih]
    by_cases c : P n = true
    · rw [if_pos c]; simp [c]
    · rw [if_neg c]; simp [c]
theorem rd_at (L : List Int) (k : Nat) (h : k < L.length) : rd L (k : Int) = L[k] := by
  show L.getD (Int.toNat (k : Int)) 0 = L[k]
  rw [Int.toNat_natCast]
  simp [List.getD, h]
theorem winO_filter (l : List S55) (left : List Int) (x : Int) : ∀ n, n ≤ left.length → winO l left x n = ((left.take n).filter (fun y => y != x)).map (fun y => rd_T55 l y)
  | 0, _ => rfl
  | n + 1, h => by
    have ih := winO_filter l left x n z3
    have e : left.take (n + 1) = left.take n ++ [left[n]] := List.take_succ_eq_append_getElem z3
    simp only [winO]
    rw [ih, e, rd_at left n z3, List.filter_append, List.map_append]
    by_cases c : left[n] = x
    · rw [if_pos c]; simp [c]
    · rw [if_neg c]; simp [c]
theorem winO_sel (l : List S55) (Q : Nat → Bool) (n i : Nat) : winO l (selI Q n) (i : Int) (selI Q n).length = selL l (fun t => Q t && t != i) n := by
  rw [winO_filter l _ _ _ (Nat.le_refl _), List.take_length, selL_filter]
  unfold selI selN
  rw [List.filter_map, List.map_map, List.filter_filter]
  congr 1
  refine List.filter_congr (fun t ht => ?_)
  show ((t : Int) != (i : Int) && Q t) = (Q t && t != i)
  have : ((t : Int) != (i : Int)) = (t != i) := by
    rw [Bool.eq_iff_iff, bne_iff_ne, bne_iff_ne]
    omega
  rw [this, Bool.and_comm]
theorem selI_len (Q : Nat → Bool) (n : Nat) : (selI Q n).length ≤ n := by
  unfold selI selN
  rw [List.length_map]
  exact Nat.le_trans (List.length_filter_le _ _) (by simp)
theorem selI_rd (Q : Nat → Bool) (n k : Nat) (h : k < (selI Q n).length) : ∃ t : Nat, rd (selI Q n) (k : Int) = (t : Int) ∧ t < n ∧ Q t = true ∧ ∃ h' : k < (selN Q n).length, (selN Q n)[k] = t := by
  have h' : k < (selN Q n).length := by unfold selI at h; rw [List.length_map] at h; exact h
  refine ⟨(selN Q n)[k], ?_, ?_, ?_, h', rfl⟩
  · rw [rd_at _ _ h]; simp [selI]
  · have := List.getElem_mem h'
    unfold selN at this
    rw [List.mem_filter, List.mem_range] at this
    exact this.1
  · have := List.getElem_mem h'
    unfold selN at this
    rw [List.mem_filter, List.mem_range] at this
    exact this.2
theorem selI_mem (Q : Nat → Bool) (n t : Nat) (h : t < n) (hq : Q t = true) : ∃ k, k < (selI Q n).length ∧ rd (selI Q n) (k : Int) = (t : Int) := by
  have hm : (t : Int) ∈ selI Q n := by
    unfold selI selN
    rw [List.mem_map]
    exact ⟨t, by rw [List.mem_filter, List.mem_range]; exact ⟨h, hq⟩, rfl⟩
  obtain ⟨k, hk, e⟩ := List.getElem_of_mem hm
  exact ⟨k, hk, by rw [rd_at _ _ hk]; exact e⟩
theorem selN_lt (Q : Nat → Bool) (n : Nat) : List.Pairwise (· < ·) (selN Q n) := List.Pairwise.filter _ List.pairwise_lt_range
theorem selI_lt (Q : Nat → Bool) (n a b : Nat) (h : a < b) (hb : b < (selI Q n).length) : rd (selI Q n) (a : Int) < rd (selI Q n) (b : Int) := by
  obtain ⟨s, e1, _, _, h1, e3⟩ := selI_rd Q n a z3
  obtain ⟨t, e2, _, _, h2, e4⟩ := selI_rd Q n b hb
  have := List.pairwise_iff_getElem.1 (selN_lt Q n) a b h1 h2 h
  rw [e1, e2]
  omega
theorem idxB_spec (c : Nat → Bool) : ∀ n i, (idxB c n i = -1 ∧ ∀ t, i ≤ t → t < i + n → c t = false) ∨ ∃ t : Nat, idxB c n i = (t : Int) ∧ i ≤ t ∧ t < i + n ∧ c t = true ∧ ∀ s, i ≤ s → s < t → c s = false
  | 0, i => .inl ⟨rfl, fun t h1 h2 => by omega⟩
  | n + 1, i => by
    simp only [idxB]
    by_cases h : c i = true
    · rw [if_pos h]; exact .inr ⟨i, rfl, Nat.le_refl _, by omega, h, fun s h1 h2 => by omega⟩
    · rw [if_neg h]
      have h' : c i = false := by simpa using h
      rcases idxB_spec c n (i + 1) with ⟨h1, h2⟩ | ⟨t, h1, h2, h3, h4, h5⟩
      · refine .inl ⟨h1, fun t h3 h4 => ?_⟩
        by_cases e : t = i
        · subst e; exact h'
        · exact h2 t z3 z3
      · refine .inr ⟨t, h1, by omega, by omega, h4, fun s h6 h7 => ?_⟩
        by_cases e : s = i
        · subst e; exact h'
        · exact h5 s z3 h7
theorem sel_find (Q F : Nat → Bool) (n : Nat) (c : Nat → Bool) (hF : ∀ t, F t = true → Q t = true) (hc : ∀ k t : Nat, k < (selI Q n).length → rd (selI Q n) (k : Int) = (t : Int) → c k = F t) :
    (idxB c (selI Q n).length 0 = -1 ∧ firstP F n 0 = none) ∨ ∃ k t : Nat, k < (selI Q n).length ∧ idxB c (selI Q n).length 0 = (k : Int) ∧ rd (selI Q n) (k : Int) = (t : Int) ∧ t < n ∧ firstP F n 0 = some t := by
  (rcases idxB_spec c (selI Q n).length 0 with ⟨h1, h2⟩ | ⟨k, h1, _, h3, h4, h5⟩)
  · (rcases firstP_spec F n 0 with ⟨g1, g2⟩ | ⟨t, g1, _, g3, g4, g5⟩)
    · (exact .inl ⟨h1, g1⟩)
    (obtain ⟨j, hj, ej⟩ := selI_mem Q n t z3 (hF t g4)); (have := h2 j z3 z3); rw [hc j t hj ej, g4] at this; cases this
  (have hk : k < (selI Q n).length := by omega); (obtain ⟨s, e1, hs, _, _⟩ := selI_rd Q n k hk); (have hcs := hc k s hk e1); rw [h4] at hcs; (rcases firstP_spec F n 0 with ⟨g1, g2⟩ | ⟨t, g1, _, g3, g4, g5⟩)
  · (have := g2 s z3 z3); rw [← hcs] at this; cases this
  (obtain ⟨j, hj, ej⟩ := selI_mem Q n t z3 (hF t g4))
  have hjk : j = k := by
    rcases Nat.lt_trichotomy j k with h | h | h
    · have := h5 j z3 h
      rw [hc j t hj ej, g4] at this; cases this
    · exact h
    · have hlt := selI_lt Q n k j h hj
      rw [e1, ej] at hlt
      have := g5 s z3 z3
      rw [← hcs] at this; cases this
  subst hjk; (exact .inr ⟨j, t, hk, h1, ej, by omega, g1⟩)
theorem erase_at : ∀ (L : List Nat) (k : Nat) (h : k < L.length), List.Pairwise (· < ·) L → L.take k ++ L.drop (k + 1) = L.filter (fun t => t != L[k])
  | [], k, h, _ => by simp at h
  | a :: r, 0, h, hp => by
    have h1 := (List.pairwise_cons.1 hp).1
    have : r.filter (fun t => t != a) = r := List.filter_eq_self.2 (fun t ht => by
      have := h1 t ht
      have : t ≠ a := by omega
      simpa using this)
    simp [this]
  | a :: r, k + 1, h, hp => by
    obtain ⟨h1, h2⟩ := List.pairwise_cons.1 hp
    have hk : k < r.length := by simpa using h
    have ih := erase_at r k hk h2
    have hne : a ≠ r[k] := by
      have := h1 _ (List.getElem_mem hk)
      omega
    simp only [List.take_succ_cons, List.drop_succ_cons, List.cons_append, List.getElem_cons_succ]
    rw [ih, List.filter_cons_of_pos (by simpa using hne)]
theorem selI_del (Q : Nat → Bool) (n k t : Nat) (h : k < (selI Q n).length) (e : rd (selI Q n) (k : Int) = (t : Int)) : (selI Q n).take k ++ (selI Q n).drop (k + 1) = selI (fun s => Q s && s != t) n := by
  obtain ⟨s, e1, _, _, h', e2⟩ := selI_rd Q n k h
  have est : s = t := by omega
  subst est
  have := erase_at (selN Q n) k h' (selN_lt Q n)
  unfold selI
  rw [← List.map_take, ← List.map_drop, ← List.map_append, this, e2]
  unfold selN
  rw [List.filter_filter]
  congr 1
  refine List.filter_congr (fun x _ => ?_)
  rw [Bool.and_comm]
theorem selI_all (n : Nat) : selI (fun _ => true) n = (List.range n).map (fun t : Nat => (t : Int)) := by
  unfold selI selN
  rw [List.filter_eq_self.2 (fun _ _ => rfl)]
theorem selI_snoc (n : Nat) : selI (fun _ => true) (n + 1) = selI (fun _ => true) n ++ [(n : Int)] := by
  rw [selI_all, selI_all, List.range_succ, List.map_append]; rfl
theorem selI_all_len (n : Nat) : (selI (fun _ => true) n).length = n := by rw [selI_all]; simp
theorem lastB_canB (l : List S55) (lims : List Int) (Q : Nat → Bool) (lose : List S55) (i : Nat) (h : Q i = true) : lastB l lims (selI Q l.length) lose i = canB l lims Q (maxTo lose lose.length) i := by
  unfold lastB canB dlP
  rw [winO_sel, h, Bool.true_and]
theorem Delete_R {w : World} {base : Nat} {ok : Nat → Prop} {v : Value} {xs : List Int} (h : Kd.R (Kd.int .i64) 3 w base ok v xs) (k : Nat) (hk : k < xs.length) :
    Calls Tryd.prog 84 #[v, .int .i64 (k : Int), .int .i64 ((k : Int) + 1)] w fun e w' => ∃ v', e = .returned v' ∧ v'.ownBlock = v.ownBlock ∧ Kd.R (Kd.int .i64) 3 w' base ok v' (xs.take k ++ xs.drop (k + 1)) ∧ w.grownBy w' v.ownBlock := by
  (have ho := Kd.own_of_R h); have hok := h.1; (rcases ho.2 with ⟨_, h0⟩ | ⟨g, cap, cur, rfl, hg, hh, hle, hcap, hsz, htk⟩)
  · omega
  rw [Nat.mul_one] at htk hsz
  have hcell : ∀ j, j < xs.length → w.cell? ⟨g, 0 + j, none⟩ = some (.int .i64 (xs.getD j 0)) := by
    intro j hj
    rw [Nat.zero_add, bCl hh, ← Array.getElem?_toList]
    have : cur.toList[j]? = (cur.toList.take xs.length)[j]? := by rw [List.getElem?_take, if_pos hj]
    rw [this, htk]
    simp [encs, List.getD, hj]
  (have hfr : ∀ j, j < xs.length → w.frozen? ⟨g, 0 + j, none⟩ = false := fun j _ => bFr hh _); (have hc := Tryd.slices_Delete_int_cells g 0 xs.length cap k (k + 1) xs w (Nat.le_refl _) hle hcap z3 z3 hcell hfr); (have e1 : ((k + 1 : Nat) : Int) = (k : Int) + 1 := by omega); rw [e1] at hc; (refine hc.mono ?_); (rintro e w' ⟨rfl, q, rfl⟩); (have hl1 : (xs.take k ++ xs.drop (k + 1)).length = xs.length - 1 := by simp; omega); (refine ⟨_, rfl, rfl, ?_, ?_⟩); rotate_left
  · (obtain ⟨b1, b2, b3, b4⟩ := setCells_same g (((xs.take xs.length).take k ++ (xs.take xs.length).drop (k + 1) ++ List.replicate (k + 1 - k) 0).map (Value.int .i64)) 0 (w.drewN q)); (refine ⟨b1, b2, b3, Nat.le_of_eq b4.symm, fun j hj hne => ?_⟩); rw [setCells_far _ _ j (by rintro rfl; exact hne rfl)]; rfl
  (have hh2 : (w.drewN q).heap[g]? = some (.cells cur 3 (0, 0)) := hh); (have hrow := setCells_row (((xs.take xs.length).take k ++ (xs.take xs.length).drop (k + 1) ++ List.replicate (k + 1 - k) 0).map (Value.int .i64)) 0 (w.drewN q) cur hh2 (by simp; omega)); obtain ⟨cur', a1, a2, a3⟩ := hrow; (have hs1 : xs.length - (k + 1 - k) = (xs.take k ++ xs.drop (k + 1)).length := by rw [hl1]; omega); rw [hs1]; (refine Kd.R_of_own ⟨by simp [encs], .inr ⟨g, cap, cur', rfl, hg, a1, by rw [hl1]; omega, hcap, by rw [Nat.mul_one, a2]; exact hsz, ?_⟩⟩ hok); rw [a3, Nat.mul_one, List.take_zero, List.nil_append, List.map_append, List.append_assoc, List.take_length]; rw [List.take_append_of_le_length (by rw [List.length_map]; exact Nat.le_refl _)]; rw [List.take_of_length_le (by rw [List.length_map]; exact Nat.le_refl _)]; rfl
theorem size_alloc1 (w : World) (o : Obj) : (w.alloc o).heap.size = w.heap.size + 1 := Array.size_push _
theorem limTo_any : ∀ (lims : List Int) (n : Nat), n ≤ lims.length → limTo lims n = !((lims.take n).any badL)
  | lims, 0, _ => by simp [limTo]
  | lims, n + 1, h => by
    have ih := limTo_any lims n z3
    have e : lims.take (n + 1) = lims.take n ++ [lims[n]] := List.take_succ_eq_append_getElem z3
    rw [limTo, ih, e, rd_at lims n z3, List.any_append, List.any_cons, List.any_nil, Bool.or_false, Bool.not_or]
    congr 1
    unfold badL
    rw [Bool.eq_iff_iff]
    simp only [Bool.and_eq_true, decide_eq_true_eq, Bool.not_eq_true', Bool.or_eq_false_iff, decide_eq_false_iff_not]
    omega
theorem limTo_all (lims : List Int) : limTo lims lims.length = !(lims.any badL) := by rw [limTo_any lims _ (Nat.le_refl _), List.take_length]
set_option maxHeartbeats 2000000 in
set_option maxRecDepth 100000 in
theorem order_bad (l : List S55) (lims : List Int) (A0 A1 : Option Addr) (c0 c1 : Nat) (w : World) (hr0 : Kd.C k55 w A0 l.length l) (hc0 : l.length ≤ c0) (hr1 : Kd.C (Kd.int .i64) w A1 lims.length lims) (hc1 : lims.length ≤ c1)
    (h : sentB l = false ∨ lims.length ≠ l.length ∨ limTo lims lims.length = false) :
    Calls Tryd.prog 37 #[.slice A0 l.length c0, .slice A1 lims.length c1] w fun e w' => e = .returned (.tuple #[.slice none 0 0, .int .i64 2]) ∧ Below w.heap.size w w' := by
  have HC0 := aM hr0; have HC1 := aM hr1; have HL0 := aM hc0; have HL1 := aM hc1; have hll := hr0.2.1; have hlm := hr1.2.1; (have HS : Aside0 (∀ W, Below w.heap.size w W → Calls Tryd.prog 64 #[.slice A0 l.length c0] W fun e w' => e = .returned (.bool (sentB l)) ∧ Below W.heap.size W w') := ⟨fun W hb => bus_sent.calls0 A0 c0 l W (Kd.C_below HC0.out hb) HL0.out⟩); (have HA : Aside0 (∀ W, Below w.heap.size w W → Calls Tryd.prog 80 #[.slice A1 lims.length c1, .func (.func 81) #[] #[]] W fun e w' => e = .returned (.bool (lims.any badL)) ∧ Drawn0 W w') := ⟨fun W hb => ContainsFunc_int.calls badL 81 (enter_of Tryd.func81 z5 rfl) (fun x w => f81_any x w) A1 c1 lims W (Kd.C_below HC1.out hb) HL1.out⟩); (have hany := limTo_all lims); have HH := aM h; clear h hr0 hr1 hc0 hc1; (generalize lims.any badL = ab at hany HA); (generalize limTo lims lims.length = lt at hany HH); subst hany; (generalize sentB l = sb at HS HH); cases sb
  · clear HH; (go_enter Tryd.func37, Tryd.ntmps37); (go_wp2_with (first | (go_at_call 64; refine (HS.out _ z7).mono ?_; rintro e w5 ⟨rfl, b5⟩; replace b5 := aM b5))); go_ret2; (exact ⟨rfl, bSt z7 b5.out⟩)
  (skip); by_cases hl : lims.length = l.length; rotate_left
  · (have t1 : ((lims.length : Int) != (l.length : Int)) = true := by rw [bne_iff_ne]; omega); clear HH hl; (go_enter Tryd.func37, Tryd.ntmps37); (go_upto_region 1 with (fail)); (obtain ⟨W0, hW0⟩ : ∃ W0, W0 = ((w.alloc (.cells #[.slice A0 l.length c0] 46)).alloc (.cells #[.slice A1 lims.length c1] 22)) := ⟨_, rfl⟩); rw [← hW0]; (have HB0 : Aside0 (Below w.heap.size w W0) := ⟨by rw [hW0]; exact bAl (bAl (Below.refl _ _) _) _⟩); (have hc2 : W0.cell? ⟨w.heap.size, 0, none⟩ = some (.slice A0 l.length c0) := by rw [hW0]; exact (bCl (kAl (blk_new w _) _) 0).trans rfl); (have hc3 : W0.cell? ⟨w.heap.size + 1, 0, none⟩ = some (.slice A1 lims.length c1) := by rw [hW0, ← size_alloc1 w (.cells #[.slice A0 l.length c0] 46)]; exact (bCl (blk_new _ _) 0).trans rfl); have HC2 := aM hc2; have HC3 := aM hc3; clear hW0 hc3; (generalize w.heap.size + 1 = g3 at HC3 ⊢); (go_wp2_with (first | (go_at_call 64; refine (HS.out _ (by repeat (first | exact HB0.out | apply bAl | apply pBd | apply bD1))).mono ?_; rintro e w5 ⟨rfl, b5⟩; have hc2 := keepc b5 HC2.out; have hc3 := keepc b5 HC3.out; replace b5 := aM (bSt HB0.out b5)))); go_ret2; (exact ⟨rfl, by repeat (first | exact b5.out | apply bAl | apply pBd | apply bD1)⟩)
  have e : ab = true := by
    rcases HH.out with h | h | h
    · cases h
    · exact absurd hl h
    · simpa using h
  subst e; (have t1 : ((lims.length : Int) != (l.length : Int)) = false := by rw [hl]; simp); clear HH hl; (go_enter Tryd.func37, Tryd.ntmps37); (go_upto_region 1 with (fail)); (obtain ⟨W0, hW0⟩ : ∃ W0, W0 = ((w.alloc (.cells #[.slice A0 l.length c0] 46)).alloc (.cells #[.slice A1 lims.length c1] 22)) := ⟨_, rfl⟩); rw [← hW0]; (have HB0 : Aside0 (Below w.heap.size w W0) := ⟨by rw [hW0]; exact bAl (bAl (Below.refl _ _) _) _⟩); (have hc2 : W0.cell? ⟨w.heap.size, 0, none⟩ = some (.slice A0 l.length c0) := by rw [hW0]; exact (bCl (kAl (blk_new w _) _) 0).trans rfl); (have hc3 : W0.cell? ⟨w.heap.size + 1, 0, none⟩ = some (.slice A1 lims.length c1) := by rw [hW0, ← size_alloc1 w (.cells #[.slice A0 l.length c0] 46)]; exact (bCl (blk_new _ _) 0).trans rfl); have HC2 := aM hc2; have HC3 := aM hc3; clear hW0 hc3; (generalize w.heap.size + 1 = g3 at HC3 ⊢); (go_wp2_with (first | (go_at_call 64; refine (HS.out _ (by repeat (first | exact HB0.out | apply bAl | apply pBd | apply bD1))).mono ?_; rintro e w5 ⟨rfl, b5⟩; have hc2 := keepc b5 HC2.out; have hc3 := keepc b5 HC3.out; replace b5 := aM (bSt HB0.out b5)) | (go_at_call 80; refine (HA.out _ (by repeat (first | exact b5.out | apply bAl | apply pBd | apply bD1))).mono ?_; rintro e w6 ⟨rfl, ⟨nd, rfl⟩⟩))); go_ret2; (exact ⟨rfl, by repeat (first | exact b5.out | apply bAl | apply pBd | apply bD1)⟩)
theorem drew_alloc1 (w : World) (o : Obj) : (w.alloc o).drew = w.drew.alloc o := rfl
structure EnvP (w W : World) (g2 g3 g6 : Nat) (A0 : Option Addr) (c0 n0 : Nat) (A1 : Option Addr) (c1 n1 : Nat) (vL : Value) (left : List Int) : Prop where
  b : Below w.heap.size w W
  h2 : W.heap[g2]? = some (.cells #[.slice A0 n0 c0] 46 (0, 0))
  h3 : W.heap[g3]? = some (.cells #[.slice A1 n1 c1] 22 (0, 0))
  h6 : W.heap[g6]? = some (.cells #[vL] 22 (0, 0))
  le6 : w.heap.size ≤ g6
  ne36 : g3 ≠ g6
  rL : Kd.R (Kd.int .i64) 3 W w.heap.size (fun _ => True) vL left
theorem blk_row {W W' : World} {α : Type} {d : Kd α} {e base : Nat} {ok : Nat → Prop} {v : Value} {xs : List α} {g : Nat} {cs : Array Value} {t : TypeId} (h : W.heap[g]? = some (.cells cs t (0, 0))) (hr : d.R e W base ok v xs) (hg : W.grownBy W' v.ownBlock) (ht : e ≠ t) : W'.heap[g]? = some (.cells cs t (0, 0)) := blk_grown h hg (Kd.R_ne hr h ht)
section
variable {w W W' : World} {g2 g3 g6 g9 : Nat} {A0 : Option Addr} {c0 n0 : Nat} {A1 : Option Addr} {c1 n1 : Nat} {vL vL' vO vO' vU vU' : Value} {left left' : List Int} {lose lose' : List S55} {out out' : List Int}
theorem EnvP.below (h : EnvP w W g2 g3 g6 A0 c0 n0 A1 c1 n1 vL left) (hb : Below W.heap.size W W') : EnvP w W' g2 g3 g6 A0 c0 n0 A1 c1 n1 vL left :=
  ⟨bSt h.b hb, kBl h.h2 hb, kBl h.h3 hb, kBl h.h6 hb, h.le6, h.ne36, Kd.R_below h.rL hb⟩
theorem EnvP.store (h : EnvP w W g2 g3 g6 A0 c0 n0 A1 c1 n1 vL left) (hr : Kd.R (Kd.int .i64) 3 W' w.heap.size (fun _ => True) vL' left') (hb : Below w.heap.size w W') (hg : W.grownBy W' vL.ownBlock) : EnvP w (W'.setCell ⟨g6, 0, none⟩ vL') g2 g3 g6 A0 c0 n0 A1 c1 n1 vL' left' := by
  have e2 := blk_row h.h2 h.rL hg z9
  have e3 := blk_row h.h3 h.rL hg z9
  have e6 := blk_row h.h6 h.rL hg z9
  exact ⟨below_set hb h.le6, blk_far e2 (p := ⟨g6, 0, none⟩) (blk_ne e2 e6 z9) _, blk_far e3 (p := ⟨g6, 0, none⟩) h.ne36 _, blk_put e6 0 _ rfl, h.le6, h.ne36, Kd.R_set hr e6 (fun q hq => by
    have : q = 3 := by simpa [Kd.int, Kd.scalar] using hq
    subst this; decide) 0 _⟩
structure EnvQ (w W : World) (g2 g3 g6 g9 : Nat) (A0 : Option Addr) (c0 n0 : Nat) (A1 : Option Addr) (c1 n1 : Nat) (vL : Value) (left : List Int) (vO : Value) (lose : List S55) (vU : Value) (out : List Int) : Prop where
  p : EnvP w W g2 g3 g6 A0 c0 n0 A1 c1 n1 vL left
  h9 : W.heap[g9]? = some (.cells #[vO] 46 (0, 0))
  le9 : w.heap.size ≤ g9
  ne29 : g2 ≠ g9
  rO : Kd.R k55 55 W w.heap.size (fun _ => True) vO lose
  rU : Kd.R (Kd.int .i64) 3 W w.heap.size (fun k => some k ≠ vL.ownBlock) vU out
theorem EnvQ.below (h : EnvQ w W g2 g3 g6 g9 A0 c0 n0 A1 c1 n1 vL left vO lose vU out) (hb : Below W.heap.size W W') : EnvQ w W' g2 g3 g6 g9 A0 c0 n0 A1 c1 n1 vL left vO lose vU out :=
  ⟨h.p.below hb, kBl h.h9 hb, h.le9, h.ne29, Kd.R_below h.rO hb, Kd.R_below h.rU hb⟩
theorem EnvQ.outs (h : EnvQ w W g2 g3 g6 g9 A0 c0 n0 A1 c1 n1 vL left vO lose vU out) (hb : Below W.heap.size W W') (hr : Kd.R (Kd.int .i64) 3 W' W.heap.size (fun _ => True) vU' out') : EnvQ w W' g2 g3 g6 g9 A0 c0 n0 A1 c1 n1 vL left vO lose vU' out' :=
  ⟨h.p.below hb, kBl h.h9 hb, h.le9, h.ne29, Kd.R_below h.rO hb, Kd.R_mono (Kd.R_lower (Kd.R_bound hr) h.p.b.size) (fun k hk he => by
    have := Kd.R_lt h.p.rL k he.symm
    have := hk.2.1
    omega)⟩
theorem R_apart {α β : Type} {d : Kd α} {d' : Kd β} {e e' base base' : Nat} {ok ok' : Nat → Prop} {v v' : Value} {xs : List α} {ys : List β} (h : d.R e W base ok v xs) (h' : d'.R e' W base' ok' v' ys) (hE : ∀ q, q ∈ e :: d.E → q ≠ e') : d.R e W base (fun k => ok k ∧ some k ≠ v'.ownBlock) v xs :=
  Kd.R_mono (Kd.R_bound h) (fun k hk => ⟨hk.1, fun he => by
    obtain ⟨_, _, _, q, hq, cells, hc⟩ := hk
    obtain ⟨_, ho⟩ := Kd.R_own h'
    obtain ⟨cells', hc'⟩ := own_typed ho k he.symm
    rw [hc] at hc'
    injection hc' with hc'
    injection hc' with _ hc'
    exact hE q hq hc'⟩)
theorem EnvQ.loses (h : EnvQ w W g2 g3 g6 g9 A0 c0 n0 A1 c1 n1 vL left vO lose vU out) (hr : Kd.R k55 55 W' w.heap.size (fun _ => True) vO' lose') (hb : Below w.heap.size w W') (hg : W.grownBy W' vO.ownBlock) : EnvQ w (W'.setCell ⟨g9, 0, none⟩ vO') g2 g3 g6 g9 A0 c0 n0 A1 c1 n1 vL left vO' lose' vU out := by
  have e2 := blk_row h.p.h2 h.rO hg z9
  have e3 := blk_row h.p.h3 h.rO hg z9
  have e6 := blk_row h.p.h6 h.rO hg z9
  have e9 := blk_row h.h9 h.rO hg z9
  have hi : ∀ q, q ∈ 3 :: (Kd.int .i64).E → q ≠ 55 := fun q hq => by
    have : q = 3 := by simpa [Kd.int, Kd.scalar] using hq
    subst this; decide
  have hi46 : ∀ q, q ∈ 3 :: (Kd.int .i64).E → q ≠ 46 := fun q hq => by
    have : q = 3 := by simpa [Kd.int, Kd.scalar] using hq
    subst this; decide
  have hk46 : ∀ q, q ∈ 55 :: k55.E → q ≠ 46 := by decide
  have rL := Kd.R_grown (R_apart h.p.rL h.rO hi) hg (fun k hk => hk.2)
  have rU := Kd.R_grown (R_apart h.rU h.rO hi) hg (fun k hk => hk.2)
  refine ⟨⟨below_set hb h.le9, blk_far e2 (p := ⟨g9, 0, none⟩) h.ne29 _, blk_far e3 (p := ⟨g9, 0, none⟩) (blk_ne e3 e9 z9) _, blk_far e6 (p := ⟨g9, 0, none⟩) (blk_ne e6 e9 z9) _, h.p.le6, h.p.ne36, Kd.R_mono (Kd.R_set rL e9 hi46 0 _) (fun _ _ => trivial)⟩, blk_put e9 0 _ rfl, h.le9, h.ne29, Kd.R_set hr e9 hk46 0 _, Kd.R_mono (Kd.R_set rU e9 hi46 0 _) (fun _ hk => hk.1)⟩
theorem EnvQ.lefts (h : EnvQ w W g2 g3 g6 g9 A0 c0 n0 A1 c1 n1 vL left vO lose vU out) (hr : Kd.R (Kd.int .i64) 3 W' w.heap.size (fun _ => True) vL' left') (he : vL'.ownBlock = vL.ownBlock) (hb : Below w.heap.size w W') (hg : W.grownBy W' vL.ownBlock) : EnvQ w (W'.setCell ⟨g6, 0, none⟩ vL') g2 g3 g6 g9 A0 c0 n0 A1 c1 n1 vL' left' vO lose vU out := by
  have e6 := blk_row h.p.h6 h.p.rL hg z9
  have e9 := blk_row h.h9 h.p.rL hg z9
  have hi : ∀ q, q ∈ 3 :: (Kd.int .i64).E → q ≠ 22 := fun q hq => by
    have : q = 3 := by simpa [Kd.int, Kd.scalar] using hq
    subst this; decide
  have hk3 : ∀ q, q ∈ 55 :: k55.E → q ≠ 3 := by decide
  have hk22 : ∀ q, q ∈ 55 :: k55.E → q ≠ 22 := by decide
  have rO := Kd.R_grown (R_apart h.rO h.p.rL hk3) hg (fun k hk => hk.2)
  have rU := Kd.R_grown h.rU hg (fun k hk => hk)
  refine ⟨h.p.store hr hb hg, blk_far e9 (p := ⟨g6, 0, none⟩) (blk_ne e9 e6 z9) _, h.le9, h.ne29, Kd.R_mono (Kd.R_set rO e6 hk22 0 _) (fun _ _ => trivial), ?_⟩
  rw [he]
  exact Kd.R_set rU e6 hi 0 _
end
set_option maxHeartbeats 4000000 in
set_option maxRecDepth 100000 in
theorem order_good (l : List S55) (lims : List Int) (A0 A1 : Option Addr) (c0 c1 : Nat) (w : World) (r1 : List Int) (r2 : Int) (hr0 : Kd.C k55 w A0 l.length l) (hc0 : l.length ≤ c0) (hr1 : Kd.C (Kd.int .i64) w A1 lims.length lims) (hc1 : lims.length ≤ c1)
    (hs : sentB l = true) (hll : lims.length = l.length) (hlim : limTo lims lims.length = true) (hres : orderS l lims l.length (fun _ => true) 0 [] = (r1, r2)) :
    Calls Tryd.prog 37 #[.slice A0 l.length c0, .slice A1 lims.length c1] w fun e w' => ∃ v1_ : Value, e = .returned (.tuple #[v1_, .int .i64 r2]) ∧ Kd.R (Kd.int .i64) 3 w' w.heap.size (fun _ => True) v1_ r1 ∧ Below w.heap.size w w' := by
  (obtain ⟨hl8, hok⟩ := sentB_oks l hs); have HOK := aM hok; have HRS := aM hres; have HC0 := aM hr0; have HC1 := aM hr1; have HL0 := aM hc0; have HL1 := aM hc1; (have HS : Aside0 (∀ W, Below w.heap.size w W → Calls Tryd.prog 64 #[.slice A0 l.length c0] W fun e w' => e = .returned (.bool true) ∧ Below W.heap.size W w') := ⟨fun W hb => hs ▸ bus_sent.calls0 A0 c0 l W (Kd.C_below HC0.out hb) HL0.out⟩); (have hany : lims.any badL = false := by have := limTo_all lims; rw [hlim] at this; simpa using this.symm); (have HA : Aside0 (∀ W, Below w.heap.size w W → Calls Tryd.prog 80 #[.slice A1 lims.length c1, .func (.func 81) #[] #[]] W fun e w' => e = .returned (.bool false) ∧ Drawn0 W w') := ⟨fun W hb => hany ▸ ContainsFunc_int.calls badL 81 (enter_of Tryd.func81 z5 rfl) (fun x w => f81_any x w) A1 c1 lims W (Kd.C_below HC1.out hb) HL1.out⟩); (have t1 : ((lims.length : Int) != (l.length : Int)) = false := by rw [hll]; simp); have HLL := aM hll; (have hlim8 : lims.length ≤ 8 := by omega); clear hany hs hok hres hr0 hr1 hc0 hc1 hll hlim; (go_enter Tryd.func37, Tryd.ntmps37); (go_upto_region 1 with (fail)); (obtain ⟨W0, hW0⟩ : ∃ W0, W0 = ((w.alloc (.cells #[.slice A0 l.length c0] 46)).alloc (.cells #[.slice A1 lims.length c1] 22)) := ⟨_, rfl⟩); rw [← hW0]; (have HB0 : Aside0 (Below w.heap.size w W0) := ⟨by rw [hW0]; exact bAl (bAl (Below.refl _ _) _) _⟩); (have HK2 : Aside0 (W0.heap[w.heap.size]? = some (.cells #[.slice A0 l.length c0] 46 (0, 0))) := ⟨by rw [hW0]; exact kAl (blk_new w _) _⟩)
  (have HK3 : Aside0 (W0.heap[w.heap.size + 1]? = some (.cells #[.slice A1 lims.length c1] 22 (0, 0))) := ⟨by rw [hW0, ← size_alloc1 w (.cells #[.slice A0 l.length c0] 46)]; exact blk_new _ _⟩); (have hc2 : W0.cell? ⟨w.heap.size, 0, none⟩ = some (.slice A0 l.length c0) := (bCl HK2.out 0).trans rfl); have HC2 := aM hc2; (have HC3 : Aside0 (W0.cell? ⟨w.heap.size + 1, 0, none⟩ = some (.slice A1 lims.length c1)) := ⟨(bCl HK3.out 0).trans rfl⟩); clear hW0; (generalize w.heap.size + 1 = g3 at HC3 HK3 ⊢); (go_upto_region 3 with (first | (go_at_call 64; refine (HS.out _ (by repeat (first | exact HB0.out | apply bAl | apply pBd | apply bD1))).mono ?_; rintro e w5 ⟨rfl, b5⟩; have hc2 := keepc b5 HC2.out; have hc3 := keepc b5 HC3.out; have B5 := aM b5; replace b5 := aM (bSt HB0.out b5)) | (go_at_call 80; refine (HA.out _ (by repeat (first | exact b5.out | apply bAl | apply pBd | apply bD1))).mono ?_; rintro e w6 ⟨rfl, ⟨nd, rfl⟩⟩))); (have K2 : Aside0 ((w5.drewN nd).heap[w.heap.size]? = some (.cells #[.slice A0 l.length c0] 46 (0, 0))) := ⟨kDn (kBl HK2.out B5.out) nd⟩); (have K3 : Aside0 ((w5.drewN nd).heap[g3]? = some (.cells #[.slice A1 lims.length c1] 22 (0, 0))) := ⟨kDn (kBl HK3.out B5.out) nd⟩); (have KB : Aside0 (Below w.heap.size w (w5.drewN nd)) := ⟨pBd b5.out nd⟩); clear HK2 HK3 HC2 HC3 HS HA B5 b5 hc2 hc3 HB0 t1; (generalize w5.drewN nd = WA at K2 K3 KB ⊢); (go_upto_region 4 with (fail))
  have E0 : Aside0 (EnvP w (WA.alloc (.cells #[.slice none 0 0] 22)) w.heap.size g3 WA.heap.size A0 c0 l.length A1 c1 lims.length (.slice none 0 0) (selI (fun _ => true) 0)) :=
    ⟨bAl KB.out _, kAl K2.out _, kAl K3.out _, blk_new WA _, KB.out.size, Nat.ne_of_lt (blk_lt K3.out), Kd.R_nil _ _ _ _ _⟩
  clear K2 K3 KB; (generalize WA.heap.size = g6 at E0 ⊢); (generalize WA.alloc (.cells #[.slice none 0 0] 22) = WB at E0 ⊢); (have hc2 : WB.cell? ⟨w.heap.size, 0, none⟩ = some (.slice A0 l.length c0) := (bCl E0.out.h2 0).trans rfl); (have hbig : (l.length : Int) ≤ 8 := by omega); go_wp2; (go_loopg [27] l.length (fun gk v27 w' => ∃ (n : Nat) (vL : Value), v27 = .int .i64 (n : Int) ∧ n ≤ l.length ∧ Aside0 (gk = l.length - n) ∧ Aside0 (EnvP w w' w.heap.size g3 g6 A0 c0 l.length A1 c1 lims.length vL (selI (fun _ => true) n)))); (case atStart => exact ⟨0, _, rfl, by omega, ⟨rfl⟩, E0⟩)
  case round =>
   clear E0 hc2; obtain ⟨n, vL, rfl, hn, HK, HE⟩ := hrel; by_cases hlt : n < l.length
   · (have hc6 : wr.cell? ⟨g6, 0, none⟩ = some vL := (bCl HE.out.h6 0).trans rfl); (have hsl := selI_all_len n); (have HN : Aside0 (selI (fun _ => true) (n + 1) = selI (fun _ => true) n ++ [(n : Int)]) := ⟨selI_snoc n⟩)
     go_wp2_with (first
       | ((with_reducible refine gate_builtin (b := .append) (xs := #[.tmp 30, .tmp 32]) rfl ?_); at_builtin; refine Kd.R_append (Kd.int .i64) (w0 := w) w.heap.size rfl (.tmp 30) (.tmp 32) 22 3 (.int .i64 0) 8 rfl Tryd.underlying22 info3 rfl z9 z3 vL (selI (fun _ => true) n) (n : Int) [.int .i64 (n : Int)] (fun _ => True) (fun _ => False) rfl rfl ?aP (fun _ hk => hk.elim) ?aF ?aO ?aB ?aS ?aL ?_; (case aP => exact rfl); (case aF => exact (fun k hk => trivial)); (case aO => exact HE.out.rL); (case aB => exact HE.out.b); (case aS => exact HE.out.b.size); (case aL => omega); intro v1 w4 ho hb hg hat; rw [← HN.out] at ho; obtain ⟨Av, cv, rfl⟩ := Kd.R_slice ho; have HH6 := aM (blk_row HE.out.h6 HE.out.rL hg z9); have hc6' : w4.cell? ⟨g6, 0, none⟩ = some vL := (bCl HH6.out 0).trans rfl; have hf6' := bFr HH6.out 0; have E1 := aM (HE.out.store ho hb hg); clear ho hb hg hat HH6))
     (go_roundg (l.length - (n + 1))); (case measure => have := HK.out; omega); (case rel => exact ⟨n + 1, _, by go_num, by omega, ⟨rfl⟩, E1⟩)
   (obtain rfl : n = l.length := by omega); go_wp2
   have Q0 : Aside0 (EnvQ w (wr.alloc (.cells #[.slice none 0 0] 46)) w.heap.size g3 g6 wr.heap.size A0 c0 l.length A1 c1 lims.length vL (selI (fun _ => true) l.length) (.slice none 0 0) [] (.slice none 0 0) []) :=
     ⟨HE.out.below (bAl (Below.refl _ _) _), blk_new wr _, HE.out.b.size, Nat.ne_of_lt (blk_lt HE.out.h2), Kd.R_nil _ _ _ _ _, Kd.R_nil _ _ _ _ _⟩
   clear HE HK hn hlt; (generalize wr.heap.size = g9 at Q0 ⊢); (generalize wr.alloc (.cells #[.slice none 0 0] 46) = WC at Q0 ⊢); clear wr; (go_loopg [8] l.length (fun gk v8 w' => ∃ (m : Nat) (Q : Nat → Bool) (vL vO : Value) (lose : List S55) (out : List Int), Aside0 (gk = m) ∧ Aside0 (EnvQ w w' w.heap.size g3 g6 g9 A0 c0 l.length A1 c1 lims.length vL (selI Q l.length) vO lose v8 out) ∧ Aside0 ((selI Q l.length).length = m ∧ lose.length + m = l.length ∧ out.length + m = l.length ∧ (∀ k : Nat, k < lose.length → okM (rd_T55 lose (k : Int)) = true) ∧ orderS l lims m Q (maxTo lose lose.length) out = (r1, r2)))); (case atStart => exact ⟨l.length, _, _, _, _, _, ⟨rfl⟩, Q0, ⟨selI_all_len _, by simp, by simp, fun k hk => by simp at hk, HRS.out⟩⟩)
   case round =>
    clear Q0 HRS; obtain ⟨m, Q, vL2, vO, lose, out, HK, HQ, HM⟩ := hrel; obtain ⟨hm1, hm2, hm3, hm4, hm5⟩ := HM.out; (obtain ⟨AL, cL, rfl, hcL, hCL⟩ := Kd.R_reads HQ.out.p.rL); (obtain ⟨Ao, co, rfl, hco, hCo⟩ := Kd.R_reads HQ.out.rO); (obtain ⟨AU, cU, rfl, hcU, hCU⟩ := Kd.R_reads HQ.out.rU); (have hc6 : wr.cell? ⟨g6, 0, none⟩ = some (.slice AL (selI Q l.length).length cL) := (bCl HQ.out.p.h6 0).trans rfl); have HM4 := aM hm4; have HM5 := aM hm5; have HL := aM hCL; have HO := aM hCo; have HU := aM hCU; have HCO := aM hco; clear hm4 hm5 hCL hCo hCU hco hcU hcL HM
    cases m with
    | zero =>
     rw [hm1] at hc6; (obtain ⟨rfl, rfl⟩ := Prod.mk.inj (show (out, (0 : Int)) = (r1, r2) from HM5.out)); clear HM5; go_wp2; go_ret2; (exact ⟨_, rfl, Kd.R_mono HQ.out.rU (fun _ _ => trivial), HQ.out.p.b⟩)
    | succ m =>
     (have hle := selI_len Q l.length)
     have EF := aM (sel_find Q (canB l lims Q (maxTo lose lose.length)) l.length (fun k => lastB l lims (selI Q l.length) lose (rd (selI Q l.length) (k : Int)).toNat) (fun t h => canB_Q h) (fun k t hk e => by
       obtain ⟨s, e1, _, hq, _⟩ := selI_rd Q l.length k hk
       have : s = t := by omega
       subst this
       show lastB l lims (selI Q l.length) lose (rd (selI Q l.length) (k : Int)).toNat = _
       rw [e, Int.toNat_natCast]
       exact lastB_canB l lims Q lose s hq))
     have HIX : Aside0 (∀ W', Below wr.heap.size wr W' → Calls Tryd.prog 82 #[.slice AL (selI Q l.length).length cL, .func (.func 83) #[] #[.pointer (some ⟨g6, 0, none⟩), .pointer (some ⟨w.heap.size, 0, none⟩), .pointer (some ⟨g9, 0, none⟩), .pointer (some ⟨g3, 0, none⟩)]] W' fun e w' => e = .returned (.int .i64 (idxB (fun k => lastB l lims (selI Q l.length) lose (rd (selI Q l.length) (k : Int)).toNat) (selI Q l.length).length 0)) ∧ Below W'.heap.size W' w') := ⟨fun W' hb =>
       IndexFunc_intE.calls AL cL (selI Q l.length) _ _ _ _ (fun k => lastB l lims (selI Q l.length) lose (rd (selI Q l.length) (k : Int)).toNat) W' (Kd.C_below HL.out hb) (fun i W2 hi hb2 => by
         have E2 := (HQ.out.below hb).below hb2
         obtain ⟨t, et, ht, hq, _⟩ := selI_rd Q l.length i hi
         rw [et, Int.toNat_natCast]
         exact f83_any (selI Q l.length) lims l lose AL A0 Ao A1 cL c0 co c1 g6 w.heap.size g9 g3 t W2 ((bCl E2.p.h6 0).trans rfl) (Kd.C_below (Kd.C_below HL.out hb) hb2) ((bCl E2.p.h2 0).trans rfl) (Kd.C_below HC0.out E2.p.b) ((bCl E2.h9 0).trans rfl) (Kd.C_below (Kd.C_below HO.out hb) hb2) HCO.out ((bCl E2.p.h3 0).trans rfl) (Kd.C_below HC1.out E2.p.b) HOK.out HM4.out z3 z3 (fun q hq => by
           obtain ⟨s, es, hs, _⟩ := selI_rd Q l.length q hq
           rw [es]; omega) ht (by rw [HLL.out]; exact ht))⟩
     (generalize idxB (fun k => lastB l lims (selI Q l.length) lose (rd (selI Q l.length) (k : Int)).toNat) (selI Q l.length).length 0 = ix at EF HIX); (rcases EF.out with ⟨e1, hf⟩ | ⟨k, t, hk, e1, het, ht, hf⟩)
     · subst e1; (have e : orderS l lims (m + 1) Q (maxTo lose lose.length) out = ([], 10) := by simp only [orderS]; rw [hf]); (obtain ⟨rfl, rfl⟩ := Prod.mk.inj (e.symm.trans HM5.out)); clear EF HM5 hf e; rw [hm1] at hc6; rw [hm1] at HIX; (go_wp2_with (first | (go_at_call 82; refine (HIX.out _ z7).mono ?_; rintro e w5 ⟨rfl, b5⟩; replace b5 := aM b5))); go_ret2; (exact ⟨_, rfl, Kd.R_nil _ _ _ _ _, bSt HQ.out.p.b b5.out⟩)
     subst e1; (have e : orderS l lims (m + 1) Q (maxTo lose lose.length) out = orderS l lims m (fun s => Q s && s != t) (max (maxTo lose lose.length) (bitsM (rd_T55 l (t : Int)))) ((t : Int) :: out) := by simp only [orderS]; rw [hf]); (have HM6 := aM (e.symm.trans HM5.out)); (have HDEL := aM (selI_del Q l.length k t hk het)); (have hkm : k < m + 1 := by omega); have HK1 := aM hk; clear EF HM5 hf e; (obtain ⟨ad, e0, hx⟩ := Kd.at_int HL.out (k : Int) z3 z3); cases e0; rw [Int.toNat_natCast, het] at hx; (obtain ⟨ad2, e0, hy0, hy1, hy2, hy3⟩ := at_T55 (Kd.C_below HC0.out HQ.out.p.b) (t : Int) z3 z3); cases e0; rw [Int.toNat_natCast] at hy0 hy1 hy2 hy3; have HX := aM hx
     have HYW : Aside0 (w.cell? (ad2.add (t * 4)) = some (.int .i64 (rd_T55 l (t : Int)).f0)) := ⟨by
       obtain ⟨ad3, e3, hz, _⟩ := at_T55 HC0.out (t : Int) z3 z3
       cases e3
       rw [Int.toNat_natCast] at hz; exact hz⟩
     (have HOT := HOK.out t ht); (have HY := aM (⟨hy0, hy1, hy2, hy3⟩ : _ ∧ _ ∧ _ ∧ _)); (have hi1 : IntKind.i64.wrap ((k : Int) + 1) = (k : Int) + 1 := IntWalk.i64_in _ z3); clear hx hy0 hy1 hy2 hy3; (generalize rd_T55 l (t : Int) = x at HM6 HY HOT HYW); have HOX := aM HOT; rw [hm1] at hc6; rw [hm1] at HIX; (go_upto_region 13 with (first | (go_at_call 82; refine (HIX.out _ z7).mono ?_; rintro e w1 ⟨rfl, b1⟩; replace b1 := aM b1))); (have E1 := aM (HQ.out.below b1.out)); (have hx := keepc b1.out HX.out); (have hc6 : w1.cell? ⟨g6, 0, none⟩ = some (.slice (some ad) (m + 1) cL) := by rw [← hm1]; exact (bCl E1.out.p.h6 0).trans rfl); (have HU1 := aM (Kd.C_below HU.out b1.out)); clear HIX HQ HU
     go_upto_region 16 with (first
       | ((with_reducible refine gate_dst (N := 47) rfl ?_); refine Kd.R_lit (Kd.int .i64) _ 3 ?hg (N := 47) ?hd (xs := ([(t : Int)] : List Int)) (inner := [.int .i64 (t : Int)]) (ok := fun _ => True) (okp := fun _ => True) ?hr ?hp (fun _ hk => hk) trivial (Below.refl _ _) (Nat.le_refl _) (by simp) ?_; (case hd => rfl); (case hg => rfl); (case hr => first | (go_simp; done) | (go_simp; rfl)); (case hp => exact (Reps.one (show Kd.M (Kd.int .i64) _ _ _ (t : Int) [.int .i64 (t : Int)] from rfl) (Reps.none _ _))); intro v47 w2 ho2 hb2 hg2 hn2; clear hg2 hn2; have R2 := aM ho2; have B2 := aM hb2; clear ho2 hb2)
       | ((with_reducible refine gate_builtin (b := .append) (xs := #[.tmp 47, .tmp 48]) rfl ?_); at_builtin; refine Kd.R_append_row (Value.int .i64) (0 : Int) (w0 := w1) w1.heap.size rfl (.tmp 47) (.tmp 48) 22 3 (.int .i64 0) 8 rfl Tryd.underlying22 info3 rfl z3 v47 [(t : Int)] out AU out.length cU (fun _ => True) rfl rfl (fun _ _ => trivial) R2.out (Kd.C_below HU1.out B2.out) B2.out B2.out.size (by simp; omega) ?_; intro v49 w3 ho3 hb3 hg3 hat3; obtain ⟨A49, c49, rfl⟩ := Kd.R_slice ho3; have E3 := aM (E1.out.outs hb3 ho3); have B3 := aM hb3; clear ho3 hb3 hg3 hat3))
     (have hc9 : w3.cell? ⟨g9, 0, none⟩ = some (.slice Ao lose.length co) := (bCl E3.out.h9 0).trans rfl); (have hc2 : w3.cell? ⟨w.heap.size, 0, none⟩ = some (.slice (some ad2) l.length c0) := (bCl E3.out.p.h2 0).trans rfl); (have hc6 : w3.cell? ⟨g6, 0, none⟩ = some (.slice (some ad) (m + 1) cL) := by rw [← hm1]; exact (bCl E3.out.p.h6 0).trans rfl); (have hx := keepc (bSt b1.out B3.out) HX.out); (have hy0 := keepc (bSt b1.out B3.out) HY.out.1); (have hy1 := keepc (bSt b1.out B3.out) HY.out.2.1); (have hy2 := keepc (bSt b1.out B3.out) HY.out.2.2.1); (have hy3 := keepc (bSt b1.out B3.out) HY.out.2.2.2); clear E1 HX HY HU1 R2 B2 b1 HL HO; (have hne9 := World.new_ne w3 _ hc9); (have hne9' : ¬ (w3.heap.size = g9) := hne9); (have hne9s : ¬ (g9 = w3.heap.size) := fun h => hne9 h.symm); (have hal9 : ∀ o, (w3.alloc o).cell? ⟨g9, 0, none⟩ = some (.slice Ao lose.length co) := fun o => (bCl (kAl E3.out.h9 o) 0).trans rfl); (have bk1 : (0 : Int) ≤ (k : Int) := by omega); (have bk2 : (k : Int) < (m : Int) + 1 := by omega); (have bk3 : (0 : Int) ≤ (t : Int) := by omega); (have bk4 : (t : Int) < (l.length : Int) := by omega); (go_cut [] (fun wc => ∃ vO' : Value, Aside0 (EnvQ w wc w.heap.size g3 g6 g9 (some ad2) c0 l.length A1 c1 lims.length (.slice (some ad) (selI Q l.length).length cL) (selI Q l.length) vO' (lose ++ [x]) (.slice A49 ([(t : Int)] ++ out).length c49) ([(t : Int)] ++ out))))
     case first =>
      (rename_i J0 K0 hJ0 hK0)
      go_region_law (first
        | ((try (first | rw [drew_alloc1 w3] | rw [drewN_alloc1 w3])); refine Kd.R_append_step k55 (w0 := w) w.heap.size (by rfl) (.tmp 50) (.tmp 58) 46 55 (.agg #[(.int .i64 0), (.int .i64 0), (.int .i64 0), (.int .i64 0)]) 32 rfl Tryd.underlying46 info55 rfl z9 z3 (.slice Ao lose.length co) lose x [.int .i64 x.f0, .int .i64 x.f1, .int .i64 x.f2, .int .i64 x.f3] (fun _ => True) (fun _ => False) rfl rfl ?aP (fun _ hk => hk.elim) ?aF ?aO ?aB ?aS ?aL ?_; (case aP => exact k55_mkM _ _ _ x); (case aF => exact (fun k hk => trivial)); (case aO => exact (EnvQ.below E3.out z7).rO); (case aB => exact (EnvQ.below E3.out z7).p.b); (case aS => exact (EnvQ.below E3.out z7).p.b.size); (case aL => omega); intro v1 w4 ho4 hb4 hg4 hat4; obtain ⟨A59, c59, rfl⟩ := Kd.R_slice ho4; have HH9 := aM (blk_row (EnvQ.below E3.out z7).h9 (EnvQ.below E3.out z7).rO hg4 z9); have hc9' : w4.cell? ⟨g9, 0, none⟩ = some (.slice Ao lose.length co) := (bCl HH9.out 0).trans rfl; have hf9' := bFr HH9.out 0; have E4 := aM ((EnvQ.below E3.out z7).loses ho4 hb4 hg4); clear ho4 hb4 hg4 hat4 HH9))
      all_goals
        have E5 : Aside0 (EnvQ w (w4.setCell ⟨g9, 0, none⟩ (.slice A59 (lose.length + 1) c59)) w.heap.size g3 g6 g9 (some ad2) c0 l.length A1 c1 lims.length (.slice (some ad) (selI Q l.length).length cL) (selI Q l.length) (.slice A59 (lose.length + 1) c59) (lose ++ [x]) (.slice A49 ([(t : Int)] ++ out).length c49) ([(t : Int)] ++ out)) := by
          have el : (lose ++ [x]).length = lose.length + 1 := by rw [List.length_append, List.length_singleton]
          rw [← el]
          exact E4
        clear E4 E3 HM6 HDEL HK1 HC0 HC1 HOK HLL HL0 HL1 HCO HM4 HOT HYW HOX
        refine hK0 _ _ (Met.intro (hJ0 _ _ ?_))
        repeat apply Exists.intro
        exact ⟨⟨_, E5⟩, rfl⟩
     case rest =>
     obtain ⟨vO', E4⟩ := hcut; clear E3 hc9 hc2 hc6 hx hy0 hy1 hy2 hy3 hal9 hne9 hne9' hne9s; (have hc6 : wc.cell? ⟨g6, 0, none⟩ = some (.slice (some ad) (m + 1) cL) := by rw [← hm1]; exact (bCl E4.out.p.h6 0).trans rfl)
     have HD : Aside0 (∀ W', Below wc.heap.size wc W' → Calls Tryd.prog 84 #[.slice (some ad) (m + 1) cL, .int .i64 (k : Int), .int .i64 ((k : Int) + 1)] W' fun e w' => ∃ v', e = .returned v' ∧ v'.ownBlock = (Value.slice (some ad) (selI Q l.length).length cL).ownBlock ∧ Kd.R (Kd.int .i64) 3 w' w.heap.size (fun _ => True) v' (selI (fun s => Q s && s != t) l.length) ∧ W'.grownBy w' (Value.slice (some ad) (selI Q l.length).length cL).ownBlock) := ⟨fun W' hb => by
       have := Delete_R (E4.out.below hb).p.rL k HK1.out
       rw [HDEL.out] at this
       rw [hm1] at this
       exact this⟩
     go_wp2_with (first
       | (go_at_call 84; refine (HD.out _ z7).mono ?_; rintro e w6 ⟨v6, rfl, hob, hr6, hg6⟩; have EW := E4.out.below z7; obtain ⟨A6, c6, rfl⟩ := Kd.R_slice hr6; have HH6 := aM (blk_row EW.p.h6 EW.p.rL hg6 z9); have hc6' := (bCl HH6.out 0).trans rfl; have hf6' := bFr HH6.out 0; have E6 := aM (EW.lefts hr6 hob (pw_below_grown EW.p.b _ EW.p.b.size hg6 (fun k hk => Kd.R_base EW.p.rL k hk)) hg6); clear hob hr6 hg6 EW HH6))
     (go_roundg m); (case measure => have := HK.out; omega)
     case rel => exact ⟨m, (fun s => Q s && s != t), _, vO', lose ++ [x], [(t : Int)] ++ out, ⟨rfl⟩, E6, ⟨by
       rw [← HDEL.out, List.length_append, List.length_take, List.length_drop]
       omega, by rw [List.length_append, List.length_singleton]; omega, by rw [List.length_append, List.length_singleton]; omega, fun q hq => by
         rw [rd_T55_snoc]
         split
         · exact HOX.out
         · exact HM4.out q (by rw [List.length_append, List.length_singleton] at hq; omega), by rw [maxTo_snoc]; exact HM6.out⟩⟩
end Go.Proofs.YtbanemecfobonaaDoor.B
namespace Go.Proofs.YtbanemecfobonaaDoor.B
open Go.RowKit Go.Proofs.YtbanemecfobonaaDoorW.PrintWords Go.Proofs.YtbanemecfobonaaDoorW.PrintLast Go.Proofs.YtbanemecfobonaaDoorW.PrintMore
set_option linter.unusedVariables false
def bus_Order.f (l : List S55) (lims : List Int) : Option (List Int × Int) := some (orderSpec l lims)
theorem bus_Order.calls (A0 : Option Addr) (c0 : Nat) (l0 : List S55) (A1 : Option Addr) (c1 : Nat) (l1 : List Int) (r1 : List Int) (r2 : Int) (w : World) (hr0 : Kd.C k55 w A0 l0.length l0) (hc0 : l0.length ≤ c0) (hr1 : Kd.C (Kd.int .i64) w A1 l1.length l1) (hc1 : l1.length ≤ c1) (h : bus_Order.f l0 l1 = some (r1, r2)) :
    Calls Tryd.prog 37 #[.slice A0 l0.length c0, .slice A1 l1.length c1] w fun e w' => ∃ v1_ : Value, e = .returned (.tuple #[v1_, .int .i64 r2]) ∧ Kd.R (Kd.int .i64) 3 w' w.heap.size (fun _ => True) v1_ r1 ∧ Below w.heap.size w w' := by
  have hres : orderSpec l0 l1 = (r1, r2) := sI h
  by_cases c : sentB l0 = false ∨ l1.length ≠ l0.length ∨ limTo l1 l1.length = false
  · unfold orderSpec at hres
    rw [if_pos c] at hres
    obtain ⟨rfl, rfl⟩ := Prod.mk.inj hres
    refine (order_bad l0 l1 A0 A1 c0 c1 w hr0 hc0 hr1 hc1 c).mono ?_
    rintro e w' ⟨rfl, hb⟩
    exact ⟨_, rfl, Kd.R_nil _ _ _ _ _, hb⟩
  · unfold orderSpec at hres
    rw [if_neg c] at hres
    have h1 : sentB l0 = true := by
      cases e : sentB l0
      · exact absurd (.inl e) c
      · rfl
    have h2 : l1.length = l0.length := by
      rcases Nat.decEq l1.length l0.length with e | e
      · exact absurd (.inr (.inl e)) c
      · exact e
    have h3 : limTo l1 l1.length = true := by
      cases e : limTo l1 l1.length
      · exact absurd (.inr (.inr e)) c
      · rfl
    exact order_good l0 l1 A0 A1 c0 c1 w r1 r2 hr0 hc0 hr1 hc1 h1 h2 h3 hres
end Go.Proofs.YtbanemecfobonaaDoor.B
