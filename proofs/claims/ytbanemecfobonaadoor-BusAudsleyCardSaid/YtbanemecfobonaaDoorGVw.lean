/- Written by a program (lite.py, squash.py) from my texts. -/
import Derived.Test.YtbanemecfobonaaDoorGUw
import Derived.Test.YtbanemecfobonaaDoorGYw
section
namespace Go.Proofs.YtbanemecfobonaaDoor.B
open Go.RowKit Go.Proofs.YtbanemecfobonaaDoorW.PrintWords Go.Proofs.YtbanemecfobonaaDoorW.PrintLast Go.Proofs.YtbanemecfobonaaDoorW.PrintMore
set_option linter.unusedVariables false
set_option linter.unusedSimpArgs false
theorem times_len (a b r : List Int) (ha : nW a) (hb : nW b) (hr : nW r) (h : vW r = vW a * vW b) : r.length ≤ a.length + b.length := by
  apply len_of r hr
  obtain ⟨a0, a1⟩ := V_any a ha.1 a.length
  obtain ⟨b0, b1⟩ := V_any b hb.1 b.length
  change 0 ≤ vW a at a0
  change vW a + 1 ≤ _ at a1
  change 0 ≤ vW b at b0
  change vW b + 1 ≤ _ at b1
  rw [h, Int.pow_add]
  have h1 : vW a * vW b ≤ (4294967296 ^ a.length - 1) * vW b := Int.mul_le_mul_of_nonneg_right z3 b0
  have h2 : (4294967296 ^ a.length - 1) * vW b ≤ (4294967296 ^ a.length - 1) * 4294967296 ^ b.length := Int.mul_le_mul_of_nonneg_left z3 (by have := powB a.length; omega)
  have e : ((4294967296 : Int) ^ a.length - 1) * 4294967296 ^ b.length = 4294967296 ^ a.length * 4294967296 ^ b.length - 4294967296 ^ b.length := by grind
  have := powB b.length
  omega
theorem plus_len (a b r : List Int) (n : Nat) (ha : nW a) (hb : nW b) (hr : nW r) (h : vW r = vW a + vW b) (h1 : a.length ≤ n) (h2 : b.length ≤ n) : r.length ≤ n + 1 := by
  apply len_of r hr
  have a1 := (V_any a ha.1 a.length).2
  have b1 := (V_any b hb.1 b.length).2
  change vW a + 1 ≤ _ at a1
  change vW b + 1 ≤ _ at b1
  have p1 := powB_le a.length n h1
  have p2 := powB_le b.length n h2
  have p3 := powB n
  rw [h, Int.pow_succ]; omega
theorem ratAdd_val (x y : List Int × List Int) (Nx Dx Ny Dy : Int) (hx : IsQ x Nx Dx) (hy : IsQ y Ny Dy) (hNx : 0 ≤ Nx) (hDx : 0 < Dx) (hNy : 0 ≤ Ny) (hDy : 0 < Dy) (A : Nat) (hA : A ≤ 100) (x1 : x.1.length ≤ A) (x2 : (den1 x.2).length ≤ A) (y1 : y.1.length ≤ 2) (y2 : (den1 y.2).length ≤ 2) :
    ∃ r, EvS (fun k => ratAdd (divG k) k k x.1 x.2 y.1 y.2) (some r) ∧ IsQ r (Nx * Dy + Ny * Dx) (Dx * Dy) ∧ r.1.length ≤ A + 3 ∧ (den1 r.2).length ≤ A + 3 := by
  (obtain ⟨cx, px⟩ := hx.cross hDx); (obtain ⟨cy, py⟩ := hy.cross hDy); have hx1 := hx.1; have hx2 := hx.2.1; have hy1 := hy.1; have hy2 := hy.2.1; (obtain ⟨a, a1, a2, a3⟩ := times_val x.1 (den1 y.2) hx1 hy2 z3 z3); (obtain ⟨b, b1, b2, b3⟩ := times_val y.1 (den1 x.2) hy1 hx2 z3 z3); (have al := times_len _ _ _ hx1 hy2 a2 a3); (have bl := times_len _ _ _ hy1 hx2 b2 b3); (obtain ⟨s, s1, s2, s3⟩ := plus2_val a b a2.1 b2.1 z3 z3); (have sl := plus_len a b s (A + 2) a2 b2 s2 s3 z3 z3); (obtain ⟨d, d1, d2, d3⟩ := times_val (den1 x.2) (den1 y.2) hx2 hy2 z3 z3); (have dl := times_len _ _ _ hx2 hy2 d2 d3); (have dpos : 0 < vW d := by rw [d3]; exact Int.mul_pos px py); (have n1 := vW_nonneg x.1 hx1.1); (have n2 := vW_nonneg y.1 hy1.1); (obtain ⟨r, r1, r2, r3, r4, r5⟩ := ratSet_val s d s2 d2 dpos z3 z3); (refine ⟨r, ?_, ?_, by omega, ?_⟩)
  · refine (a1.bind (g := fun k a => (big_times.f k y.1 (den1 x.2)).bind fun b => (plus2 k a b).bind fun s => (big_times.f k (den1 x.2) (den1 y.2)).bind fun d => ratSet (divG k) k k s d)
      (b1.bind (g := fun k b => (plus2 k a b).bind fun s => (big_times.f k (den1 x.2) (den1 y.2)).bind fun d => ratSet (divG k) k k s d)
      (s1.bind (g := fun k s => (big_times.f k (den1 x.2) (den1 y.2)).bind fun d => ratSet (divG k) k k s d)
      (d1.bind (g := fun k d => ratSet (divG k) k k s d) r1)))).same fun k => rfl
  rotate_left
  · rw [den1_some r.2 r3]; omega
  (have q1 : 0 ≤ vW s := vW_nonneg s s2.1); (refine r2.eq q1 dpos ?_ (Int.mul_pos hDx hDy) ?_)
  · (have h1 := Int.mul_nonneg hNx (Int.le_of_lt hDy)); (have h2 := Int.mul_nonneg hNy (Int.le_of_lt hDx)); omega
  rw [s3, a3, b3, d3]; (generalize vW x.1 = nx at *); (generalize vW y.1 = ny at *); (generalize vW (den1 x.2) = dx at *); (generalize vW (den1 y.2) = dy at *); (have e1 : (nx * dy + ny * dx) * (Dx * Dy) = (nx * Dx) * (dy * Dy) + (ny * Dy) * (dx * Dx) := by grind); rw [e1, cx, cy]; grind
theorem partOf_val (x : S55) (h : okM x = true) : ∃ r, EvS (fun k => partOf k x) (some r) ∧ IsQ r (bitsM x) x.f2 ∧ r.1.length ≤ 2 ∧ (den1 r.2).length ≤ 2 := by
  obtain ⟨b1, b2⟩ := bitsM_bounds h
  obtain ⟨_, _, _, _, p1, p2, _⟩ := okM_bounds h
  obtain ⟨n, n1, n2, n3, n4⟩ := of_val (bitsM x) z3 z3
  obtain ⟨d, d1, d2, d3, d4⟩ := of_val x.f2 z3 z3
  obtain ⟨r, r1, r2, r3, r4, r5⟩ := ratSet_val n d n2 d2 z3 z3 z3
  rw [n3, d3] at r2
  refine ⟨r, ?_, r2, by omega, by rw [den1_some r.2 r3]; omega⟩
  refine (n1.bind (g := fun k n => (big_of.f k x.f2).bind fun d => ratSet (divG k) k k n d) (d1.bind (g := fun k d => ratSet (divG k) k k n d) r1)).same fun k => ?_
  show partOf k x = _
  unfold partOf
  rw [bits_ok h, Option.bind_some, if_pos ⟨by omega, by omega, by omega, by omega⟩]
def fracTo (l : List S55) : Nat → Int × Int
  | 0 => (0, 1)
  | i + 1 => ((fracTo l i).1 * (rd_T55 l (i : Int)).f2 + bitsM (rd_T55 l (i : Int)) * (fracTo l i).2, (fracTo l i).2 * (rd_T55 l (i : Int)).f2)
theorem frac_pos (l : List S55) (h : ∀ i, i < l.length → okM (rd_T55 l (i : Int)) = true) : ∀ i : Nat, i ≤ l.length → 0 ≤ (fracTo l i).1 ∧ 0 < (fracTo l i).2
  | 0, _ => by simp [fracTo]
  | i + 1, hi => by
    obtain ⟨h1, h2⟩ := frac_pos l h i z3
    have hb := bitsM_bounds (h i z3)
    obtain ⟨_, _, _, _, p1, p2, _⟩ := okM_bounds (h i z3)
    have m1 := Int.mul_nonneg h1 (show 0 ≤ (rd_T55 l (i : Int)).f2 by omega)
    have m2 := Int.mul_nonneg (show 0 ≤ bitsM (rd_T55 l (i : Int)) by omega) (Int.le_of_lt h2)
    simp only [fracTo]
    exact ⟨by omega, Int.mul_pos h2 z3⟩
theorem shareTo_val (l : List S55) (h : ∀ i, i < l.length → okM (rd_T55 l (i : Int)) = true) (h9 : l.length ≤ 9) : ∀ i : Nat, i ≤ l.length →
    ∃ r, EvS (fun k => shareTo k l i) (some r) ∧ IsQ r (fracTo l i).1 (fracTo l i).2 ∧ r.1.length ≤ 3 * i + 1 ∧ (den1 r.2).length ≤ 3 * i + 1
  | 0, _ => ⟨([], []), ⟨0, fun k _ => rfl⟩, ⟨nW_nil, nW_one.1, show vW [] = (0 : Int) / (Int.gcd 0 1 : Int) by decide, show vW [1] = (1 : Int) / (Int.gcd 0 1 : Int) by decide⟩, by decide, by decide⟩
  | i + 1, hi => by
    obtain ⟨s, s1, s2, s3, s4⟩ := shareTo_val l h h9 i z3
    obtain ⟨f, f1, f2, f3, f4⟩ := partOf_val _ (h i z3)
    obtain ⟨n0, d0⟩ := frac_pos l h i z3
    have hb := bitsM_bounds (h i z3)
    obtain ⟨_, _, _, _, p1, p2, _⟩ := okM_bounds (h i z3)
    obtain ⟨r, r1, r2, r3, r4⟩ := ratAdd_val s f _ _ _ _ s2 f2 n0 d0 z3 z3 (3 * i + 1) z3 s3 s4 f3 f4
    refine ⟨r, ?_, r2, by omega, by omega⟩
    exact (s1.bind (g := fun k s => (partOf k (rd_T55 l (i : Int))).bind fun f => ratAdd (divG k) k k s.1 s.2 f.1 f.2) (f1.bind (g := fun k f => ratAdd (divG k) k k s.1 s.2 f.1 f.2) r1)).same fun k => rfl
theorem sgn_cross (n d N D : Int) (hd : 0 < d) (hD : 0 < D) (h : n * D = N * d) : sgnC n d = sgnC N D := by
  have key : ∀ a b : Int, (a < b ↔ a * (d * D) < b * (d * D)) := fun a b => ⟨fun h => Int.mul_lt_mul_of_pos_right h (Int.mul_pos hd hD), fun h => Int.lt_of_mul_lt_mul_right h (Int.le_of_lt (Int.mul_pos hd hD))⟩
  have e1 : n < d ↔ N < D := by
    constructor
    · intro h1
      apply Int.lt_of_mul_lt_mul_right (a := d) _ (Int.le_of_lt hd)
      rw [← h, Int.mul_comm D d]
      exact Int.mul_lt_mul_of_pos_right h1 hD
    · intro h1
      apply Int.lt_of_mul_lt_mul_right (a := D) _ (Int.le_of_lt hD)
      rw [h, Int.mul_comm d D]
      exact Int.mul_lt_mul_of_pos_right h1 hd
  have e2 : d < n ↔ D < N := by
    constructor
    · intro h1
      apply Int.lt_of_mul_lt_mul_right (a := d) _ (Int.le_of_lt hd)
      rw [← h, Int.mul_comm D d]
      exact Int.mul_lt_mul_of_pos_right h1 hD
    · intro h1
      apply Int.lt_of_mul_lt_mul_right (a := D) _ (Int.le_of_lt hD)
      rw [h, Int.mul_comm d D]
      exact Int.mul_lt_mul_of_pos_right h1 hd
  unfold sgnC
  simp only [e1, e2]
theorem one_ratio : ∃ o u, EvS (fun k => big_of.f k 1) (some o) ∧ EvS (fun k => ratSet (divG k) k k o o) (some u) ∧ nW u.1 ∧ nW (den1 u.2) ∧ vW u.1 = 1 ∧ vW (den1 u.2) = 1 ∧ u.1.length ≤ 2 ∧ (den1 u.2).length ≤ 2 := by
  obtain ⟨o, o1, o2, o3, o4⟩ := of_val 1 z3 z3
  obtain ⟨u, u1, u2, u3, u4, u5⟩ := ratSet_val o o o2 o2 z3 z3 z3
  rw [o3] at u2
  obtain ⟨q1, q2, q3, q4⟩ := u2
  have g1 : (1 : Int) / (Int.gcd 1 1 : Int) = 1 := by decide
  rw [g1] at q3 q4
  exact ⟨o, u, o1, u1, q1, q2, q3, q4, by omega, by rw [den1_some u.2 u3]; omega⟩
theorem ratCmp_val (s u : List Int × List Int) (N D : Int) (hs : IsQ s N D) (hD : 0 < D) (s3 : s.1.length ≤ 100) (s4 : (den1 s.2).length ≤ 100) (q1 : nW u.1) (q2 : nW (den1 u.2)) (q3 : vW u.1 = 1) (q4 : vW (den1 u.2) = 1) (q5 : u.1.length ≤ 2) (q6 : (den1 u.2).length ≤ 2) :
    EvS (fun k => ratCmp k s.1 s.2 u.1 u.2) (some (sgnC N D)) := by
  obtain ⟨c, cp⟩ := hs.cross hD
  have h1 := hs.1
  have h2 := hs.2.1
  obtain ⟨a, a1, a2, a3⟩ := times_val s.1 (den1 u.2) h1 q2 z3 z3
  obtain ⟨b, b1, b2, b3⟩ := times_val u.1 (den1 s.2) q1 h2 z3 z3
  have al := times_len _ _ _ h1 q2 a2 a3
  have bl := times_len _ _ _ q1 h2 b2 b3
  have cm := cmp_val a b a2 b2 z3 z3
  rw [a3, b3, q3, q4, Int.mul_one, Int.one_mul, sgn_cross _ _ _ _ cp hD c] at cm
  refine (a1.bind (g := fun k a => (big_times.f k u.1 (den1 s.2)).bind fun b => big_compare.f k a b) (b1.bind (g := fun k b => big_compare.f k a b) cm)).same fun k => ?_
  show ratCmp k s.1 s.2 u.1 u.2 = _
  unfold ratCmp; rfl
theorem fullC_val (l : List S55) (h : ∀ i, i < l.length → okM (rd_T55 l (i : Int)) = true) (h9 : l.length ≤ 9) : EvS (fun k => fullC k l) (some (sgnC (fracTo l l.length).1 (fracTo l l.length).2)) := by
  obtain ⟨s, s1, s2, s3, s4⟩ := shareTo_val l h h9 l.length (Nat.le_refl _)
  obtain ⟨n0, d0⟩ := frac_pos l h l.length (Nat.le_refl _)
  obtain ⟨o, u, o1, u1, q1, q2, q3, q4, q5, q6⟩ := one_ratio
  have hc := ratCmp_val s u _ _ s2 d0 z3 z3 q1 q2 q3 q4 q5 q6
  generalize sgnC (fracTo l l.length).1 (fracTo l l.length).2 = C at *
  clear s2 s3 s4 n0 d0 q1 q2 q3 q4 q5 q6
  obtain ⟨K1, s1⟩ := s1
  obtain ⟨K2, o1⟩ := o1
  obtain ⟨K3, u1⟩ := u1
  obtain ⟨K4, hc⟩ := hc
  refine ⟨K1 + K2 + K3 + K4, fun k hk => ?_⟩
  have s1 : shareTo k l l.length = some s := s1 k z3
  have o1 : big_of.f k 1 = some o := o1 k z3
  have u1 : ratSet (divG k) k k o o = some u := u1 k z3
  have hc : ratCmp k s.1 s.2 u.1 u.2 = some C := hc k z3
  show fullC k l = _
  unfold fullC bus_share.f
  rw [s1, Option.bind_some, o1, Option.bind_some, u1, Option.bind_some, hc]
end Go.Proofs.YtbanemecfobonaaDoor.B
end
section
namespace Go.Proofs.YtbanemecfobonaaDoor.B
open Go.RowKit Go.Proofs.YtbanemecfobonaaDoorW.PrintWords Go.Proofs.YtbanemecfobonaaDoorW.PrintLast Go.Proofs.YtbanemecfobonaaDoorW.PrintMore
set_option linter.unusedVariables false
set_option linter.unusedSimpArgs false
theorem fixF_mono (g : Int → Int) : ∀ (k : Nat) (t : Int) (r : Int × Bool), fixF g k t = some r → fixF g (k + 1) t = some r
  | 0, t, r, h => by simp [fixF] at h
  | k + 1, t, r, h => by
    rw [fixF] at h ⊢
    split
    · rename_i c; rw [if_pos c] at h; exact h
    · rename_i c
      rw [if_neg c] at h
      split
      · rename_i c2; rw [if_pos c2] at h; exact h
      · rename_i c2
        rw [if_neg c2] at h
        exact fixF_mono g k _ r h
theorem fixF_le (g : Int → Int) (k : Nat) (t : Int) (r : Int × Bool) (h : fixF g k t = some r) : ∀ m, k ≤ m → fixF g m t = some r := by
  intro m hm
  induction m with
  | zero => obtain rfl : k = 0 := by omega
            exact h
  | succ m ih =>
    by_cases e : k = m + 1
    · subst e; exact h
    · exact fixF_mono g m t r (ih z3)
def fuelN : Nat := 10000002
theorem fuelN_eq : fuelN = 10000002 := rfl
def fixQ (g : Int → Int) (t : Int) : Int × Bool := (fixF g fuelN t).getD (0, false)
attribute [irreducible] fuelN
theorem fixF_ends (g : Int → Int) (hm : ∀ s t, 0 ≤ s → s ≤ t → g s ≤ g t) : ∀ (m : Nat) (t : Int), 0 ≤ t → t ≤ g t → 10000001 - t ≤ m → ∃ r, fixF g (m + 1) t = some r
  | 0, t, h0, h1, h2 => ⟨(0, false), by rw [fixF, if_pos z3]⟩
  | m + 1, t, h0, h1, h2 => by
    rw [fixF]
    by_cases c : 10000000 < g t
    · exact ⟨_, if_pos c⟩
    · rw [if_neg c]
      by_cases c2 : g t = t
      · exact ⟨_, if_pos c2⟩
      · rw [if_neg c2]
        exact fixF_ends g hm m (g t) z3 (hm t (g t) h0 h1) z3
theorem fixQ_ev (g : Int → Int) (hm : ∀ s t, 0 ≤ s → s ≤ t → g s ≤ g t) (t : Int) (h0 : 0 ≤ t) (h1 : t ≤ g t) : EvS (fun k => fixF g k t) (some (fixQ g t)) := by
  obtain ⟨r, hr⟩ := fixF_ends g hm 10000001 t h0 h1 z3
  have e : fixQ g t = r := by
    unfold fixQ
    rw [fuelN_eq, fixF_le g _ t r hr 10000002 z3]; rfl
  exact ⟨10000002, fun k hk => by rw [e]; exact fixF_le g _ t r hr k hk⟩
theorem fixQ_fix (g : Int → Int) (hm : ∀ s t, 0 ≤ s → s ≤ t → g s ≤ g t) (hg : ∀ t, 0 ≤ t → t ≤ 10000000 → 0 ≤ g t) (t : Int) (h0 : 0 ≤ t) (h2 : t ≤ 10000000) (h1 : t ≤ g t) (h : (fixQ g t).2 = true) : 0 ≤ (fixQ g t).1 ∧ (fixQ g t).1 ≤ 10000000 ∧ g (fixQ g t).1 = (fixQ g t).1 := by
  obtain ⟨K, hK⟩ := fixQ_ev g hm t h0 h1
  have h3 : fixF g K t = some (fixQ g t) := hK K (Nat.le_refl _)
  have e : fixQ g t = ((fixQ g t).1, true) := by rw [← h]
  rw [e] at h3
  exact fixF_bounds g hg K t _ h0 h2 h3
theorem inst_mono (x : S55) (hp : 0 < x.f2) {s t : Int} (h : s ≤ t) : inst x s ≤ inst x t := Int.ediv_le_ediv hp z3
theorem instW_mono (x : S55) (hp : 0 < x.f2) {s t : Int} (h : s ≤ t) : instW x s ≤ instW x t := by
  have := Int.ediv_le_ediv (a := s + x.f3) (b := t + x.f3) hp z3
  unfold instW; omega
theorem sumI_mono (f g : S55 → Int) (l : List S55) (h : ∀ i, i < l.length → f (rd_T55 l (i : Int)) ≤ g (rd_T55 l (i : Int))) : ∀ i : Nat, i ≤ l.length → sumI f l i ≤ sumI g l i
  | 0, _ => Int.le_refl _
  | i + 1, hi => by
    have h1 := sumI_mono f g l h i z3
    have h2 := h i z3
    simp only [sumI]; omega
theorem okM_pos {x : S55} (h : okM x = true) : 0 < x.f2 ∧ 0 ≤ bitsM x := by
  obtain ⟨_, _, _, _, p1, p2, _⟩ := okM_bounds h
  have := bitsM_bounds h
  omega
theorem busyN_mono {blocked : Int} {x : S55} {win : List S55} (hx : okM x = true) (hw : ∀ k, k < win.length → okM (rd_T55 win (k : Int)) = true) {s t : Int} (h : s ≤ t) : busyN blocked x win s ≤ busyN blocked x win t := by
  have h1 : inst x s * bitsM x ≤ inst x t * bitsM x := Int.mul_le_mul_of_nonneg_right (inst_mono x (okM_pos hx).1 h) (okM_pos hx).2
  have h2 := sumI_mono (fun o => inst o s * bitsM o) (fun o => inst o t * bitsM o) win (fun i hi => Int.mul_le_mul_of_nonneg_right (inst_mono _ (okM_pos (hw i hi)).1 h) (okM_pos (hw i hi)).2) win.length (Nat.le_refl _)
  unfold busyN; omega
theorem waitN_mono {blocked q : Int} {x : S55} {win : List S55} (hw : ∀ k, k < win.length → okM (rd_T55 win (k : Int)) = true) {s t : Int} (h : s ≤ t) : waitN blocked q x win s ≤ waitN blocked q x win t := by
  have h2 := sumI_mono (fun o => instW o s * bitsM o) (fun o => instW o t * bitsM o) win (fun i hi => Int.mul_le_mul_of_nonneg_right (instW_mono _ (okM_pos (hw i hi)).1 h) (okM_pos (hw i hi)).2) win.length (Nat.le_refl _)
  unfold waitN; omega
theorem waitN_next {blocked q : Int} {x : S55} {win : List S55} (hx : okM x = true) (t : Int) : waitN blocked (q + 1) x win t = waitN blocked q x win t + bitsM x := by
  unfold waitN; grind
def waitD (blocked : Int) (x : S55) (win : List S55) : Nat → Int → Int → Int → Int × Bool
  | 0, q, v, worst => (worst, true)
  | n + 1, q, v, worst =>
      if (fixQ (waitN blocked q x win) v).2 = false ∨ 10000000 < max worst (x.f3 + (fixQ (waitN blocked q x win) v).1 - q * x.f2 + bitsM x) then (0, false)
      else waitD blocked x win n (q + 1) (fixQ (waitN blocked q x win) v).1 (max worst (x.f3 + (fixQ (waitN blocked q x win) v).1 - q * x.f2 + bitsM x))
def delayD (x : S55) (win : List S55) (blocked : Int) : Int × Bool :=
  if 0 ≤ sgnC (fracTo ([x] ++ win) ([x] ++ win).length).1 (fracTo ([x] ++ win) ([x] ++ win).length).2 then (0, false) else
    if (fixQ (busyN blocked x win) 1).2 = false then (0, false) else
      waitD blocked x win (inst x (fixQ (busyN blocked x win) 1).1).toNat 0 0 0
theorem waitTo_ev (blocked : Int) (x : S55) (win : List S55) (hx : okM x = true) (hw : ∀ k, k < win.length → okM (rd_T55 win (k : Int)) = true) (hb0 : 0 ≤ blocked) : ∀ (n : Nat) (q v worst : Int), 0 ≤ q → q + n ≤ 10200000 → 0 ≤ v → v ≤ 10000000 → v ≤ waitN blocked q x win v →
    EvS (fun k => waitTo k blocked x win n q v worst) (some (waitD blocked x win n q v worst))
  | 0, q, v, worst, h0, h1, h2, h3, h4 => ⟨0, fun k _ => rfl⟩
  | n + 1, q, v, worst, h0, h1, h2, h3, h4 => by
    have hm : ∀ s t : Int, 0 ≤ s → s ≤ t → waitN blocked q x win s ≤ waitN blocked q x win t := fun s t _ h => waitN_mono hw h
    have hf := fixQ_ev (waitN blocked q x win) hm v h2 h4
    have hx2 := fixQ_fix (waitN blocked q x win) hm (fun t a b => waitN_nonneg hx hw hb0 h0 z3 a b) v h2 h3 h4
    simp only [waitD]
    generalize fixQ (waitN blocked q x win) v = s at hf hx2 ⊢
    refine (hf.bind (g := fun k s => if s.2 = false ∨ 10000000 < max worst (x.f3 + s.1 - q * x.f2 + bitsM x) then some (0, false) else waitTo k blocked x win n (q + 1) s.1 (max worst (x.f3 + s.1 - q * x.f2 + bitsM x))) ?_).same fun k => rfl
    by_cases c : s.2 = false ∨ 10000000 < max worst (x.f3 + s.1 - q * x.f2 + bitsM x)
    · rw [if_pos c]
      exact ⟨0, fun k _ => if_pos c⟩
    · rw [if_neg c]
      have hs : s.2 = true := by
        cases h : s.2
        · exact absurd (.inl h) c
        · rfl
      obtain ⟨e1, e2, e3⟩ := hx2 hs
      have hb := bitsM_bounds hx
      refine (waitTo_ev blocked x win hx hw hb0 n (q + 1) s.1 _ z3 z3 e1 e2 (by rw [waitN_next hx, e3]; omega)).same fun k => ?_
      exact if_neg c
end Go.Proofs.YtbanemecfobonaaDoor.B
end
section
namespace Go.Proofs.YtbanemecfobonaaDoor.B
open Go.RowKit Go.Proofs.YtbanemecfobonaaDoorW.PrintWords Go.Proofs.YtbanemecfobonaaDoorW.PrintLast Go.Proofs.YtbanemecfobonaaDoorW.PrintMore
set_option linter.unusedVariables false
set_option linter.unusedSimpArgs false
theorem rd_app (x : S55) (l : List S55) : rd_T55 ([x] ++ l) ((0 : Nat) : Int) = x ∧ ∀ i : Nat, rd_T55 ([x] ++ l) ((i + 1 : Nat) : Int) = rd_T55 l (i : Int) := ⟨rfl, fun i => rfl⟩
theorem okM_app (x : S55) (l : List S55) (hx : okM x = true) (hl : ∀ i, i < l.length → okM (rd_T55 l (i : Int)) = true) : ∀ i, i < ([x] ++ l).length → okM (rd_T55 ([x] ++ l) (i : Int)) = true
  | 0, _ => by rw [(rd_app x l).1]; exact hx
  | i + 1, h => by rw [(rd_app x l).2]; exact hl i (by simp at h; omega)
theorem inst_pos {x : S55} (hx : okM x = true) {t : Int} (h : 1 ≤ t) : 1 ≤ inst x t := by
  obtain ⟨_, _, _, _, p1, p2, p3, p4⟩ := okM_bounds hx
  exact Int.le_ediv_of_mul_le z3 z3
theorem busyN_one {blocked : Int} {x : S55} {win : List S55} (hx : okM x = true) (hw : ∀ k, k < win.length → okM (rd_T55 win (k : Int)) = true) (hb0 : 0 ≤ blocked) : 1 ≤ busyN blocked x win 1 := by
  have a := inst_pos hx (Int.le_refl 1)
  have hb := bitsM_bounds hx
  have b : 1 * bitsM x ≤ inst x 1 * bitsM x := Int.mul_le_mul_of_nonneg_right a z3
  have c := sum_nonneg (fun o => inst o 1 * bitsM o) win (fun i hi => by
    have h3 := hw i hi
    have h4 := inst_bounds h3 (show (0 : Int) ≤ 1 by decide) (show (1 : Int) ≤ 10000000 by decide)
    exact (mulBits h4.1 h4.2 (bitsM_bounds h3).1 (bitsM_bounds h3).2).1) win.length (Nat.le_refl _)
  unfold busyN; omega
theorem delayF_ev (x : S55) (win lose : List S55) (hx : okM x = true) (hw : ∀ k, k < win.length → okM (rd_T55 win (k : Int)) = true) (hl : ∀ k, k < lose.length → okM (rd_T55 lose (k : Int)) = true) (h8 : win.length ≤ 8) :
    EvS (fun k => delayF k x win lose) (some (delayD x win (maxTo lose lose.length))) := by
  (have hb := (maxTo_bounds lose hl lose.length (Nat.le_refl _)).1); (have hfull := fullC_val ([x] ++ win) (okM_app x win hx hw) (by simp; omega)); (have hm : ∀ s t : Int, 0 ≤ s → s ≤ t → busyN (maxTo lose lose.length) x win s ≤ busyN (maxTo lose lose.length) x win t := fun s t _ h => busyN_mono hx hw h); (have hone := busyN_one hx hw hb); (have hf := fixQ_ev (busyN (maxTo lose lose.length) x win) hm 1 z10 hone); (have hx2 := fixQ_fix (busyN (maxTo lose lose.length) x win) hm (fun t a b => busyN_nonneg hx hw hb a b) 1 z10 z10 hone); (unfold delayD); (generalize sgnC (fracTo ([x] ++ win) ([x] ++ win).length).1 (fracTo ([x] ++ win) ([x] ++ win).length).2 = C at hfull ⊢)
  refine (hfull.bind (g := fun k c => if 0 ≤ c then some (0, false) else
    (fixF (busyN (maxTo lose lose.length) x win) k 1).bind fun s => if s.2 = false then some (0, false) else
      waitTo k (maxTo lose lose.length) x win (inst x s.1).toNat 0 0 0) ?_).same fun k => by show delayF k x win lose = _; unfold delayF; rfl
  by_cases c : 0 ≤ C
  · rw [if_pos c]; (exact ⟨0, fun k _ => if_pos c⟩)
  rw [if_neg c]; (generalize fixQ (busyN (maxTo lose lose.length) x win) 1 = s at hf hx2 ⊢)
  have h2 : EvS (fun k => if s.2 = false then some (0, false) else waitTo k (maxTo lose lose.length) x win (inst x s.1).toNat 0 0 0) (some (if s.2 = false then (0, false) else waitD (maxTo lose lose.length) x win (inst x s.1).toNat 0 0 0)) := by
    by_cases c2 : s.2 = false
    · rw [if_pos c2]
      exact ⟨0, fun k _ => if_pos c2⟩
    · rw [if_neg c2]
      have hs : s.2 = true := by
        cases h : s.2
        · exact absurd h c2
        · rfl
      obtain ⟨e1, e2, e3⟩ := hx2 hs
      have hi := inst_bounds hx e1 e2
      refine (waitTo_ev (maxTo lose lose.length) x win hx hw hb (inst x s.1).toNat 0 0 0 (Int.le_refl _) z3 (Int.le_refl _) z10 (waitN_nonneg hx hw hb (Int.le_refl _) z10 (Int.le_refl _) z10)).same fun k => if_neg c2
  refine (hf.bind (g := fun k s => if s.2 = false then some (0, false) else
      waitTo k (maxTo lose lose.length) x win (inst x s.1).toNat 0 0 0) h2).same fun k => if_neg c
def delaySpec (l : List S55) (no : Int) : Int × Int :=
  if sentB l = false then (0, 2) else if idxTo l no l.length 0 < 0 then (0, 6) else
    if (delayD (rd_T55 l (idxTo l no l.length 0)) (winTo l no l.length) (maxTo (loseTo l no l.length) (loseTo l no l.length).length)).2 = false then (0, 10)
    else ((delayD (rd_T55 l (idxTo l no l.length 0)) (winTo l no l.length) (maxTo (loseTo l no l.length) (loseTo l no l.length).length)).1, 0)
end Go.Proofs.YtbanemecfobonaaDoor.B
end
section
namespace Go.Proofs.YtbanemecfobonaaDoor.B
open Go.RowKit Go.Proofs.YtbanemecfobonaaDoorW.PrintWords Go.Proofs.YtbanemecfobonaaDoorW.PrintLast Go.Proofs.YtbanemecfobonaaDoorW.PrintMore
set_option linter.unusedVariables false
set_option linter.unusedSimpArgs false
theorem idxTo_nat (l : List S55) (no : Int) (h : ¬ idxTo l no l.length 0 < 0) : ∃ i : Nat, idxTo l no l.length 0 = (i : Int) ∧ i < l.length := by
  rcases idxTo_range l no l.length 0 with h1 | h1
  · omega
  · exact ⟨(idxTo l no l.length 0).toNat, by omega, by omega⟩
theorem delayK_ex (l : List S55) (no : Int) : ∃ k, delayK k l no = some (delaySpec l no) := by
  unfold delayK delaySpec
  by_cases hs : sentB l = false
  · exact ⟨0, by rw [if_pos hs, if_pos hs]⟩
  rw [if_neg hs]
  by_cases hi : idxTo l no l.length 0 < 0
  · exact ⟨0, by rw [if_neg hs, if_pos hi, if_pos hi]⟩
  rw [if_neg hi]
  obtain ⟨i, e, hil⟩ := idxTo_nat l no hi
  obtain ⟨h8, hok⟩ := sentB_oks l (by cases h : sentB l; exact absurd h hs; rfl)
  rw [e]
  have hwl := winTo_len l no l.length
  obtain ⟨K, hK⟩ := delayF_ev (rd_T55 l (i : Int)) (winTo l no l.length) (loseTo l no l.length) (hok i hil) (winTo_ok l no l.length hok l.length (Nat.le_refl _)) (loseTo_ok l no l.length hok l.length (Nat.le_refl _)) z3
  have hk : delayF K (rd_T55 l (i : Int)) (winTo l no l.length) (loseTo l no l.length) = some _ := hK K (Nat.le_refl _)
  refine ⟨K, ?_⟩
  rw [if_neg hs, if_neg z3, hk, Option.bind_some]
  split <;> rfl
def bus_Delay.f (l : List S55) (no : Int) : Option (Int × Int) := some (delaySpec l no)
theorem bus_Delay.calls (A0 : Option Addr) (c0 : Nat) (l0 : List S55) (a1 : Int) (r1 r2 : Int) (w : World) (hr0 : Kd.C k55 w A0 l0.length l0) (hc0 : l0.length ≤ c0) (h : bus_Delay.f l0 a1 = some (r1, r2)) :
    Calls Tryd.prog 30 #[.slice A0 l0.length c0, .int .i64 a1] w fun e w' => e = .returned (.tuple #[.int .i64 r1, .int .i64 r2]) ∧ Below w.heap.size w w' := by
  obtain ⟨k, hk⟩ := delayK_ex l0 a1
  exact bus_Delay.callsK k A0 c0 l0 a1 r1 r2 w hr0 hc0 (hk.trans h)
end Go.Proofs.YtbanemecfobonaaDoor.B
end
section
namespace Go.Proofs.YtbanemecfobonaaDoor.B
open Go.RowKit Go.Proofs.YtbanemecfobonaaDoorW.PrintWords Go.Proofs.YtbanemecfobonaaDoorW.PrintLast Go.Proofs.YtbanemecfobonaaDoorW.PrintMore
set_option linter.unusedVariables false
set_option linter.unusedSimpArgs false
def MonoF (g : Int → Int) : Prop := ∀ s t, 0 ≤ s → s ≤ t → g s ≤ g t
theorem fixF_least (g : Int → Int) (hm : MonoF g) (u : Int) (hu : u ≤ 10000000) (hg : g u ≤ u) : ∀ (k : Nat) (t : Int) (r : Int × Bool), 0 ≤ t → t ≤ u → t ≤ g t → fixF g k t = some r → r.2 = true ∧ r.1 ≤ u ∧ t ≤ r.1
  | 0, t, r, h0, h1, h2, h => by simp [fixF] at h
  | k + 1, t, r, h0, h1, h2, h => by
    have hgt := hm t u h0 h1
    rw [fixF, if_neg z3] at h
    by_cases c : g t = t
    · rw [if_pos c] at h
      obtain rfl := sI h
      exact ⟨rfl, h1, Int.le_refl _⟩
    · rw [if_neg c] at h
      obtain ⟨a, b, d⟩ := fixF_least g hm u hu hg k (g t) r z3 z3 (hm t (g t) h0 h2) h
      exact ⟨a, b, by omega⟩
theorem fixF_true (g : Int → Int) (hm : MonoF g) : ∀ (k : Nat) (t : Int) (r : Int × Bool), 0 ≤ t → t ≤ g t → fixF g k t = some r → r.2 = true → t ≤ r.1 ∧ r.1 ≤ 10000000 ∧ g r.1 = r.1
  | 0, t, r, h0, h1, h, hr => by simp [fixF] at h
  | k + 1, t, r, h0, h1, h, hr => by
    rw [fixF] at h
    by_cases c : 10000000 < g t
    · rw [if_pos c] at h
      obtain rfl := sI h
      cases hr
    rw [if_neg c] at h
    by_cases c2 : g t = t
    · rw [if_pos c2] at h
      obtain rfl := sI h
      exact ⟨Int.le_refl _, by show t ≤ _; omega, c2⟩
    · rw [if_neg c2] at h
      obtain ⟨a, b, d⟩ := fixF_true g hm k (g t) r z3 (hm t (g t) h0 h1) h hr
      exact ⟨by omega, b, d⟩
theorem fixQ_least (g : Int → Int) (hm : MonoF g) (t u : Int) (h0 : 0 ≤ t) (h1 : t ≤ g t) (hu : u ≤ 10000000) (hg : g u ≤ u) (htu : t ≤ u) : (fixQ g t).2 = true ∧ (fixQ g t).1 ≤ u ∧ t ≤ (fixQ g t).1 := by
  obtain ⟨K, hK⟩ := fixQ_ev g hm t h0 h1
  exact fixF_least g hm u hu hg K t _ h0 htu h1 (hK K (Nat.le_refl _))
theorem fixQ_true (g : Int → Int) (hm : MonoF g) (t : Int) (h0 : 0 ≤ t) (h1 : t ≤ g t) (h : (fixQ g t).2 = true) : t ≤ (fixQ g t).1 ∧ (fixQ g t).1 ≤ 10000000 ∧ g (fixQ g t).1 = (fixQ g t).1 := by
  obtain ⟨K, hK⟩ := fixQ_ev g hm t h0 h1
  exact fixF_true g hm K t _ h0 h1 (hK K (Nat.le_refl _)) h
theorem fixQ_mono (g g' : Int → Int) (hm : MonoF g) (hm' : MonoF g') (t t' : Int) (hg : ∀ s, t' ≤ s → g s ≤ g' s) (h0 : 0 ≤ t) (h1 : t ≤ t') (h2 : t ≤ g t) (h3 : t' ≤ g' t') (h : (fixQ g' t').2 = true) :
    (fixQ g t).2 = true ∧ (fixQ g t).1 ≤ (fixQ g' t').1 ∧ t ≤ (fixQ g t).1 := by
  obtain ⟨a, b, c⟩ := fixQ_true g' hm' t' z3 h3 h
  have := hg (fixQ g' t').1 a
  exact fixQ_least g hm t _ h0 h2 b z3 z3
theorem waitD_ge (b : Int) (x : S55) (win : List S55) : ∀ (n : Nat) (q v worst : Int), (waitD b x win n q v worst).2 = true → worst ≤ (waitD b x win n q v worst).1
  | 0, q, v, worst, _ => Int.le_refl _
  | n + 1, q, v, worst, h => by
    simp only [waitD] at h ⊢
    split
    · rename_i c; rw [if_pos c] at h; cases h
    · rename_i c
      rw [if_neg c] at h
      have := waitD_ge b x win n _ _ _ h
      omega
structure Worse (x y : S55) (win win' : List S55) (b b' : Int) : Prop where
  ox : okM x = true
  oy : okM y = true
  ow : ∀ k, k < win.length → okM (rd_T55 win (k : Int)) = true
  ow' : ∀ k, k < win'.length → okM (rd_T55 win' (k : Int)) = true
  b0 : 0 ≤ b
  b0' : 0 ≤ b'
  by_ : x.f1 = y.f1
  pe : y.f2 ≤ x.f2
  ji : x.f3 ≤ y.f3
  s : ∀ t, 1 ≤ t → b + sumI (fun o => inst o t * bitsM o) win win.length ≤ b' + sumI (fun o => inst o t * bitsM o) win' win'.length
  sw : ∀ t, 0 ≤ t → b + sumI (fun o => instW o t * bitsM o) win win.length ≤ b' + sumI (fun o => instW o t * bitsM o) win' win'.length
  fr : (fracTo ([x] ++ win) ([x] ++ win).length).2 ≤ (fracTo ([x] ++ win) ([x] ++ win).length).1 → (fracTo ([y] ++ win') ([y] ++ win').length).2 ≤ (fracTo ([y] ++ win') ([y] ++ win').length).1
theorem bitsM_eq {x y : S55} (h : x.f1 = y.f1) : bitsM x = bitsM y := by unfold bitsM; rw [h]
theorem ediv_anti (a b c : Int) (ha : 0 ≤ a) (hb : 0 < b) (h : b ≤ c) : a / c ≤ a / b := by
  apply Int.le_ediv_of_mul_le hb
  have h1 : a / c * b ≤ a / c * c := Int.mul_le_mul_of_nonneg_left h (Int.ediv_nonneg ha z3)
  have h2 := Int.ediv_mul_le a (show c ≠ 0 by omega)
  omega
theorem inst_worse {x y : S55} (hx : okM x = true) (hy : okM y = true) (hp : y.f2 ≤ x.f2) (hj : x.f3 ≤ y.f3) {t : Int} (h : 0 ≤ t) : inst x t ≤ inst y t := by
  obtain ⟨_, _, _, _, p1, p2, p3, p4⟩ := okM_bounds hx
  obtain ⟨_, _, _, _, q1, q2, q3, q4⟩ := okM_bounds hy
  have e : ∀ z : S55, 1 ≤ z.f2 → inst z t = (t + z.f3 - 1) / z.f2 + 1 := fun z hz => by
    unfold inst
    rw [show t + z.f3 + z.f2 - 1 = t + z.f3 - 1 + 1 * z.f2 by omega, Int.add_mul_ediv_right _ _ z3]
  rw [e x p1, e y q1]
  rcases (show t + x.f3 - 1 < 0 ∨ 0 ≤ t + x.f3 - 1 by omega) with h1 | h1
  · have a : t + x.f3 - 1 = -1 := by omega
    have b : (-1 : Int) / x.f2 = -1 := Int.ediv_eq_neg_one_of_neg_of_le z3 z3
    have c : -1 ≤ (t + y.f3 - 1) / y.f2 := by
      rcases (show t + y.f3 - 1 < 0 ∨ 0 ≤ t + y.f3 - 1 by omega) with h2 | h2
      · have a2 : t + y.f3 - 1 = -1 := by omega
        have b2 : (-1 : Int) / y.f2 = -1 := Int.ediv_eq_neg_one_of_neg_of_le z3 z3
        rw [a2, b2]; omega
      · have := Int.ediv_nonneg h2 (show 0 ≤ y.f2 by omega)
        omega
    rw [a, b]; omega
  · have a := ediv_anti (t + x.f3 - 1) y.f2 x.f2 h1 z3 hp
    have b := Int.ediv_le_ediv (a := t + x.f3 - 1) (b := t + y.f3 - 1) (show 0 < y.f2 by omega) z3
    omega
section
variable {x y : S55} {win win' : List S55} {b b' : Int}
theorem Worse.busy (H : Worse x y win win' b b') (t : Int) (h : 1 ≤ t) : busyN b x win t ≤ busyN b' y win' t := by
  have h1 := inst_worse H.ox H.oy H.pe H.ji (show 0 ≤ t by omega)
  have h2 : inst x t * bitsM x ≤ inst y t * bitsM x := Int.mul_le_mul_of_nonneg_right h1 (okM_pos H.ox).2
  have h3 := H.s t h
  unfold busyN
  rw [← bitsM_eq H.by_]; omega
theorem Worse.wait (H : Worse x y win win' b b') (q t : Int) (h : 0 ≤ t) : waitN b q x win t ≤ waitN b' q y win' t := by
  have h3 := H.sw t h
  unfold waitN
  rw [← bitsM_eq H.by_]; omega
theorem Worse.waitD (H : Worse x y win win' b b') : ∀ (n n' : Nat) (q v v' worst worst' : Int), n ≤ n' → 0 ≤ q → 0 ≤ v → v ≤ v' → v ≤ waitN b q x win v → v' ≤ waitN b' q y win' v' → worst ≤ worst' → (waitD b' y win' n' q v' worst').2 = true →
    (waitD b x win n q v worst).2 = true ∧ (waitD b x win n q v worst).1 ≤ (waitD b' y win' n' q v' worst').1
  | 0, n', q, v, v', worst, worst', h1, h2, h3, h4, h5, h6, h7, h => ⟨rfl, Int.le_trans h7 (waitD_ge b' y win' n' q v' worst' h)⟩
  | n + 1, n', q, v, v', worst, worst', h1, h2, h3, h4, h5, h6, h7, h => by
    obtain ⟨m, rfl⟩ : ∃ m, n' = m + 1 := ⟨n' - 1, by omega⟩
    have m1 : MonoF (waitN b q x win) := fun s t _ hst => waitN_mono H.ow hst
    have m2 : MonoF (waitN b' q y win') := fun s t _ hst => waitN_mono H.ow' hst
    simp only [B.waitD] at h ⊢
    have hT := fixQ_true (waitN b' q y win') m2 v' z3 h6
    have hM := fixQ_mono _ _ m1 m2 v v' (fun s hs => H.wait q s z3) h3 h4 h5 h6
    generalize fixQ (waitN b' q y win') v' = s' at h hT hM ⊢
    have hF := fixQ_true (waitN b q x win) m1 v h3 h5
    generalize fixQ (waitN b q x win) v = s at hM hF ⊢
    have hC := bitsM_eq H.by_
    have hb := okM_pos H.ox
    by_cases c : s'.2 = false ∨ 10000000 < max worst' (y.f3 + s'.1 - q * y.f2 + bitsM y)
    · rw [if_pos c] at h; cases h
    rw [if_neg c] at h ⊢
    have e : s'.2 = true := by
      cases h' : s'.2
      · exact absurd (.inl h') c
      · rfl
    have c2 : ¬ 10000000 < max worst' (y.f3 + s'.1 - q * y.f2 + bitsM y) := fun hh => c (.inr hh)
    obtain ⟨t1, t2, t3⟩ := hT e
    obtain ⟨a1, a2, a3⟩ := hM e
    obtain ⟨f1, f2, f3⟩ := hF a1
    have hq : q * y.f2 ≤ q * x.f2 := Int.mul_le_mul_of_nonneg_left H.pe h2
    have hj := H.ji
    have hw : max worst (x.f3 + s.1 - q * x.f2 + bitsM x) ≤ max worst' (y.f3 + s'.1 - q * y.f2 + bitsM y) := by omega
    rw [if_neg (by rw [a1]; simp only [Bool.true_eq_false, false_or]; omega)]
    exact Worse.waitD H n m (q + 1) s.1 s'.1 _ _ z3 z3 z3 a2 (by rw [waitN_next H.ox, f3]; omega) (by rw [waitN_next H.oy, t3]; omega) hw h
theorem sgn_ge (a c : Int) : 0 ≤ sgnC a c ↔ c ≤ a := by
  unfold sgnC
  by_cases h : a < c
  · rw [if_pos h]; omega
  · rw [if_neg h]
    by_cases h2 : c < a
    · rw [if_pos h2]; omega
    · rw [if_neg h2]; omega
theorem Worse.delayD (H : Worse x y win win' b b') (h : (delayD y win' b').2 = true) : (delayD x win b).2 = true ∧ (delayD x win b).1 ≤ (delayD y win' b').1 := by
  (have m1 : MonoF (busyN b x win) := fun s t _ hst => busyN_mono H.ox H.ow hst); (have m2 : MonoF (busyN b' y win') := fun s t _ hst => busyN_mono H.oy H.ow' hst); have hb0 := H.b0; have hb0' := H.b0'; (have o1 := busyN_one H.ox H.ow hb0); (have o2 := busyN_one H.oy H.ow' hb0'); (unfold B.delayD at h ⊢); by_cases c : 0 ≤ sgnC (fracTo ([y] ++ win') ([y] ++ win').length).1 (fracTo ([y] ++ win') ([y] ++ win').length).2
  · rw [if_pos c] at h; cases h
  rw [if_neg c] at h ⊢; rw [if_neg (fun hh => c ((sgn_ge _ _).mpr (H.fr ((sgn_ge _ _).mp hh))))]; (have hT := fixQ_true (busyN b' y win') m2 1 z3 o2); (have hM := fixQ_mono _ _ m1 m2 1 1 (fun s hs => H.busy s hs) z3 z3 o1 o2); (generalize fixQ (busyN b' y win') 1 = s' at h hT hM ⊢); (generalize fixQ (busyN b x win) 1 = s at hM ⊢); by_cases c2 : s'.2 = false
  · rw [if_pos c2] at h; cases h
  rw [if_neg c2] at h ⊢
  have e : s'.2 = true := by
    cases h' : s'.2
    · exact absurd h' c2
    · rfl
  (obtain ⟨t1, t2, t3⟩ := hT e); (obtain ⟨a1, a2, a3⟩ := hM e); rw [if_neg (by rw [a1]; simp)]; (have hi1 := inst_worse H.ox H.oy H.pe H.ji (show 0 ≤ s.1 by omega)); (have hi2 := inst_mono y (okM_pos H.oy).1 a2); (have w1 := waitN_nonneg H.ox H.ow hb0 (Int.le_refl 0) z10 (Int.le_refl 0) z10); (have w2 := waitN_nonneg H.oy H.ow' hb0' (Int.le_refl 0) z10 (Int.le_refl 0) z10); (exact Worse.waitD H _ _ 0 0 0 0 0 z3 z3 z3 z3 w1 w2 z3 h)
end
end Go.Proofs.YtbanemecfobonaaDoor.B
end
section
namespace Go.Proofs.YtbanemecfobonaaDoor.B
open Go.RowKit Go.Proofs.YtbanemecfobonaaDoorW.PrintWords Go.Proofs.YtbanemecfobonaaDoorW.PrintLast Go.Proofs.YtbanemecfobonaaDoorW.PrintMore
set_option linter.unusedVariables false
set_option linter.unusedSimpArgs false
def sW (f : S55 → Int) (l : List S55) (no : Int) : Nat → Int
  | 0 => 0
  | n + 1 => sW f l no n + if (rd_T55 l (n : Int)).f0 < no then f (rd_T55 l (n : Int)) else 0
def mL (l : List S55) (no : Int) : Nat → Int
  | 0 => 0
  | n + 1 => if no < (rd_T55 l (n : Int)).f0 then max (mL l no n) (bitsM (rd_T55 l (n : Int))) else mL l no n
def frS (p : Int × Int) (x : S55) : Int × Int := (p.1 * x.f2 + bitsM x * p.2, p.2 * x.f2)
def fW (l : List S55) (no : Int) : Nat → Int × Int
  | 0 => (0, 1)
  | n + 1 => if (rd_T55 l (n : Int)).f0 < no then frS (fW l no n) (rd_T55 l (n : Int)) else fW l no n
theorem sumI_congr (f : S55 → Int) (a b : List S55) : ∀ n : Nat, (∀ k : Nat, k < n → rd_T55 a (k : Int) = rd_T55 b (k : Int)) → sumI f a n = sumI f b n
  | 0, _ => rfl
  | n + 1, h => by simp only [sumI]; rw [sumI_congr f a b n (fun k hk => h k z3), h n z3]
theorem sumI_snoc (f : S55 → Int) (l : List S55) (x : S55) : sumI f (l ++ [x]) (l ++ [x]).length = sumI f l l.length + f x := by
  rw [List.length_append, List.length_singleton]
  simp only [sumI]
  rw [sumI_congr f (l ++ [x]) l l.length (fun k hk => by rw [rd_T55_snoc, if_neg z3]), rd_T55_snoc, if_pos rfl]
theorem sumI_win (f : S55 → Int) (l : List S55) (no : Int) : ∀ n, sumI f (winTo l no n) (winTo l no n).length = sW f l no n
  | 0 => rfl
  | n + 1 => by
    have ih := sumI_win f l no n
    simp only [winTo, sW]
    by_cases c : (rd_T55 l (n : Int)).f0 < no
    · rw [if_pos c, if_pos c, sumI_snoc, ih]
    · rw [if_neg c, if_neg c, ih]; omega
theorem maxTo_congr (a b : List S55) : ∀ n : Nat, (∀ k : Nat, k < n → rd_T55 a (k : Int) = rd_T55 b (k : Int)) → maxTo a n = maxTo b n
  | 0, _ => rfl
  | n + 1, h => by simp only [maxTo]; rw [maxTo_congr a b n (fun k hk => h k z3), h n z3]
theorem maxTo_snoc (l : List S55) (x : S55) : maxTo (l ++ [x]) (l ++ [x]).length = max (maxTo l l.length) (bitsM x) := by
  rw [List.length_append, List.length_singleton]
  simp only [maxTo]
  rw [maxTo_congr (l ++ [x]) l l.length (fun k hk => by rw [rd_T55_snoc, if_neg z3]), rd_T55_snoc, if_pos rfl]
theorem maxTo_lose (l : List S55) (no : Int) : ∀ n, maxTo (loseTo l no n) (loseTo l no n).length = mL l no n
  | 0 => rfl
  | n + 1 => by
    have ih := maxTo_lose l no n
    simp only [loseTo, mL]
    by_cases c : no < (rd_T55 l (n : Int)).f0
    · rw [if_pos c, if_pos c, maxTo_snoc, ih]
    · rw [if_neg c, if_neg c, ih]
theorem fracTo_congr (a b : List S55) : ∀ n : Nat, (∀ k : Nat, k < n → rd_T55 a (k : Int) = rd_T55 b (k : Int)) → fracTo a n = fracTo b n
  | 0, _ => rfl
  | n + 1, h => by simp only [fracTo]; rw [fracTo_congr a b n (fun k hk => h k z3), h n z3]
theorem fracTo_snoc (l : List S55) (x : S55) : fracTo (l ++ [x]) (l ++ [x]).length = frS (fracTo l l.length) x := by
  rw [List.length_append, List.length_singleton]
  simp only [fracTo]
  rw [fracTo_congr (l ++ [x]) l l.length (fun k hk => by rw [rd_T55_snoc, if_neg z3]), rd_T55_snoc, if_pos rfl]
  rfl
theorem frS_comm (p : Int × Int) (x y : S55) : frS (frS p x) y = frS (frS p y) x := by
  unfold frS
  simp only [Prod.mk.injEq]
  constructor <;> grind
theorem fracTo_cons (l : List S55) (x : S55) : fracTo ([x] ++ l) ([x] ++ l).length = frS (fracTo l l.length) x := by
  have key : ∀ n : Nat, fracTo ([x] ++ l) (n + 1) = frS (fracTo l n) x := by
    intro n
    induction n with
    | zero => simp only [fracTo, frS]; rw [(rd_app x l).1]
    | succ n ih =>
      have e : fracTo ([x] ++ l) (n + 1 + 1) = frS (fracTo ([x] ++ l) (n + 1)) (rd_T55 ([x] ++ l) ((n + 1 : Nat) : Int)) := rfl
      have e2 : fracTo l (n + 1) = frS (fracTo l n) (rd_T55 l (n : Int)) := rfl
      rw [e, ih, (rd_app x l).2, e2, frS_comm]
  have e : ([x] ++ l).length = l.length + 1 := by simp
  rw [e, key]
theorem fracTo_win (l : List S55) (no : Int) : ∀ n, fracTo (winTo l no n) (winTo l no n).length = fW l no n
  | 0 => rfl
  | n + 1 => by
    have ih := fracTo_win l no n
    simp only [winTo, fW]
    by_cases c : (rd_T55 l (n : Int)).f0 < no
    · rw [if_pos c, if_pos c, fracTo_snoc, ih]
    · rw [if_neg c, if_neg c, ih]
def FracLe (p q : Int × Int) : Prop := p.1 * q.2 ≤ q.1 * p.2
def PosQ (p : Int × Int) : Prop := 0 ≤ p.1 ∧ 0 < p.2
theorem PosQ.frS {p : Int × Int} (h : PosQ p) {x : S55} (hx : okM x = true) : PosQ (frS p x) := by
  have hb := bitsM_bounds hx
  obtain ⟨_, _, _, _, p1, p2, _⟩ := okM_bounds hx
  have m1 := Int.mul_nonneg h.1 (show 0 ≤ x.f2 by omega)
  have m2 := Int.mul_nonneg (show 0 ≤ bitsM x by omega) (Int.le_of_lt h.2)
  exact ⟨by show 0 ≤ p.1 * x.f2 + bitsM x * p.2; omega, Int.mul_pos h.2 z3⟩
theorem fracLe_step {p q : Int × Int} {x y : S55} (h : FracLe p q) (hp : PosQ p) (hq : PosQ q) (hx : okM x = true) (hy : okM y = true) (hb : x.f1 = y.f1) (ht : y.f2 ≤ x.f2) : FracLe (frS p x) (frS q y) := by
  unfold FracLe frS at *
  have eb := bitsM_eq hb
  obtain ⟨_, _, _, _, a1, _⟩ := okM_bounds hx
  obtain ⟨_, _, _, _, c1, _⟩ := okM_bounds hy
  have hC := bitsM_bounds hx
  rw [← eb]
  generalize bitsM x = C at *
  obtain ⟨p1, p2⟩ := p
  obtain ⟨q1, q2⟩ := q
  simp only at h hp hq ⊢
  have h1 : p1 * q2 * (x.f2 * y.f2) ≤ q1 * p2 * (x.f2 * y.f2) := Int.mul_le_mul_of_nonneg_right h (Int.mul_nonneg z3 z3)
  have h2 : C * p2 * q2 * y.f2 ≤ C * p2 * q2 * x.f2 := Int.mul_le_mul_of_nonneg_left ht (Int.mul_nonneg (Int.mul_nonneg z3 (Int.le_of_lt hp.2)) (Int.le_of_lt hq.2))
  have e1 : (p1 * x.f2 + C * p2) * (q2 * y.f2) = p1 * q2 * (x.f2 * y.f2) + C * p2 * q2 * y.f2 := by grind
  have e2 : (q1 * y.f2 + C * q2) * (p2 * x.f2) = q1 * p2 * (x.f2 * y.f2) + C * p2 * q2 * x.f2 := by grind
  rw [e1, e2]; omega
theorem fracLe_grow {p q : Int × Int} {y : S55} (h : FracLe p q) (hp : PosQ p) (hq : PosQ q) (hy : okM y = true) : FracLe p (frS q y) := by
  unfold FracLe frS at *
  obtain ⟨_, _, _, _, c1, _⟩ := okM_bounds hy
  have hC := bitsM_bounds hy
  generalize bitsM y = C at *
  obtain ⟨p1, p2⟩ := p
  obtain ⟨q1, q2⟩ := q
  simp only at h hp hq ⊢
  have h1 : p1 * q2 * y.f2 ≤ q1 * p2 * y.f2 := Int.mul_le_mul_of_nonneg_right h z3
  have h2 : 0 ≤ C * q2 * p2 := Int.mul_nonneg (Int.mul_nonneg z3 (Int.le_of_lt hq.2)) (Int.le_of_lt hp.2)
  have e1 : p1 * (q2 * y.f2) = p1 * q2 * y.f2 := by grind
  have e2 : (q1 * y.f2 + C * q2) * p2 = q1 * p2 * y.f2 + C * q2 * p2 := by grind
  rw [e1, e2]; omega
theorem fracLe_full {p q : Int × Int} (h : FracLe p q) (hp : PosQ p) (hq : PosQ q) (hf : p.2 ≤ p.1) : q.2 ≤ q.1 := by
  unfold FracLe at h
  have h1 : p.2 * q.2 ≤ p.1 * q.2 := Int.mul_le_mul_of_nonneg_right hf (Int.le_of_lt hq.2)
  have h2 : q.2 * p.2 ≤ q.1 * p.2 := by rw [Int.mul_comm q.2]; omega
  exact Int.le_of_mul_le_mul_right h2 hp.2
def OkL (l : List S55) : Prop := ∀ i, i < l.length → okM (rd_T55 l (i : Int)) = true
end Go.Proofs.YtbanemecfobonaaDoor.B
end
