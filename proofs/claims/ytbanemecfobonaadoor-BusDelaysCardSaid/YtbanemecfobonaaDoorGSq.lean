/- Written by a program (lite.py, squash.py) from my texts. -/
import Derived.Test.YtbanemecfobonaaDoorGTq
import Derived.Test.YtbanemecfobonaaDoorX8q
import Derived.Test.YtbanemecfobonaaDoorGVq
import Derived.Test.YtbanemecfobonaaDoorBMq
import Derived.Test.YtbanemecfobonaaDoorBMdq
import Derived.Test.YtbanemecfobonaaDoorU9eq
import Derived.Test.YtbanemecfobonaaDoorBM0q
import Derived.Test.YtbanemecfobonaaDoorBMfq
import Derived.Test.YtbanemecfobonaaDoorBM2q
section
namespace Go.Proofs.YtbanemecfobonaaDoor.B
open Go.RowKit Go.Proofs.YtbanemecfobonaaDoorW.PrintWords Go.Proofs.YtbanemecfobonaaDoorW.PrintLast Go.Proofs.YtbanemecfobonaaDoorW.PrintMore
set_option linter.unusedVariables false
set_option linter.unusedSimpArgs false
abbrev QD := Bool × List Int × Bool × List Int
def IsR (r : QD) (N D : Int) : Prop := r.1 = false ∧ r.2.2.1 = false ∧ IsD (N / (Int.gcd N D : Int)) r.2.1 ∧ IsD (D / (Int.gcd N D : Int)) r.2.2.2
theorem IsR.eq {r : QD} {N D N' D' : Int} (h : IsR r N D) (hN : 0 ≤ N) (hD : 0 < D) (hN' : 0 ≤ N') (hD' : 0 < D') (he : N * D' = N' * D) : IsR r N' D' := by
  obtain ⟨h1, h2, h3, h4⟩ := h
  obtain ⟨e1, e2⟩ := low_eq N D N' D' hN hD hN' hD' he
  exact ⟨h1, h2, e1 ▸ h3, e2 ▸ h4⟩
theorem IsR.cross {r : QD} {N D : Int} (h : IsR r N D) (hD : 0 < D) : vD r.2.1 * D = N * vD r.2.2.2 ∧ 0 < vD r.2.2.2 := by
  obtain ⟨h1, h2, ⟨_, h3⟩, _, h4⟩ := h
  have e1 : N / (Int.gcd N D : Int) * (Int.gcd N D : Int) = N := Int.ediv_mul_cancel (Int.gcd_dvd_left _ _)
  have e2 : D / (Int.gcd N D : Int) * (Int.gcd N D : Int) = D := Int.ediv_mul_cancel (Int.gcd_dvd_right _ _)
  have gp := gcd_pos N D hD
  rw [h3, h4]
  generalize N / (Int.gcd N D : Int) = n at *
  generalize D / (Int.gcd N D : Int) = d at *
  generalize (Int.gcd N D : Int) = g at *
  refine ⟨by rw [← e1, ← e2]; grind, ?_⟩
  rcases Int.lt_or_le 0 d with h | h
  · exact h
  · exfalso
    have : d * g ≤ 0 * g := Int.mul_le_mul_of_nonneg_right h z3
    omega
theorem lowestD (a b : List Int) (ha : nD a) (hb : nD b) (ha2 : a.length ≤ 1000) (hb2 : b.length ≤ 1000) (hb0 : 0 < vD b) :
    EvP (fun k => r1_lowest.f k false a false b) (fun r => IsR r (vD a) (vD b) ∧ r.2.1.length ≤ a.length ∧ r.2.2.2.length ≤ b.length) := by
  (have a0 := d10_vW_nonneg a ha.1); (have gp := gcd_pos (vD a) (vD b) hb0); (have gle : (Int.gcd (vD a) (vD b) : Int) ≤ vD b := Int.le_of_dvd hb0 (Int.gcd_dvd_right _ _)); (refine ((gcdD_val a b ha hb ha2 hb2).bind (g := fun k t => (r1_whole.f k false t).bind fun g => (r1_Over.f k false a g.1 g.2).bind fun p => (r1_Over.f k false b g.1 g.2).bind fun q => some (p.1, p.2.1, q.1, q.2.1)) (Q := fun r => IsR r (vD a) (vD b) ∧ r.2.1.length ≤ a.length ∧ r.2.2.2.length ≤ b.length) fun t ht => ?_).same fun k => ?_); rotate_left
  · (show r1_lowest.f k false a false b = _); (unfold r1_lowest.f r1_lowestP.f); rw [if_neg z8]
  (have tl := d10_len_le t b ht.1 hb.1 (by rw [ht.2]; omega)); (refine (dwholeP t z3 ht.1.1).bind (g := fun k g => (r1_Over.f k false a g.1 g.2).bind fun p => (r1_Over.f k false b g.1 g.2).bind fun q => some (p.1, p.2.1, q.1, q.2.1)) fun g hg => ?_); obtain ⟨g1, g2⟩ := g; obtain ⟨e, hg1, hg2⟩ := hg; (simp only at e hg1 hg2); subst e; rw [ht.2] at hg2; (have gl := d10_len_le g2 b hg1 hb.1 (by rw [hg2]; omega)); (have o1 := overD a g2 ha hg1 ha2 z3 z3); (have o2 := overD b g2 hb hg1 hb2 z3 z3); rw [hg2] at o1 o2; (refine o1.bind (g := fun k p => (r1_Over.f k false b false g2).bind fun q => some (p.1, p.2.1, q.1, q.2.1)) fun p hp => ?_); (refine o2.bind (g := fun k q => some (p.1, p.2.1, q.1, q.2.1)) fun q hq => ?_); (exact EvP.at _ (fun k => rfl) ⟨⟨hp.1, hq.1, hp.2.1, hq.2.1⟩, hp.2.2, hq.2.2⟩)
theorem fracD (n d : Int) (h0 : 0 ≤ n) (h1 : n ≤ 9223372036854775807) (h2 : 0 < d) (h3 : d ≤ 9223372036854775807) : EvP (fun k => r1_Frac.f k n d) (fun r => IsR r n d ∧ r.2.1.length ≤ 5 ∧ r.2.2.2.length ≤ 5) := by
  refine ((ofD n h0 h1).bind (g := fun k a => (r1_Of.f k d).bind fun b => (r1_lowest.f k a.1 a.2 b.1 b.2).bind fun r => some (r.1, r.2.1, r.2.2.1, r.2.2.2)) (Q := fun r => IsR r n d ∧ r.2.1.length ≤ 5 ∧ r.2.2.2.length ≤ 5) fun a ha => ?_).same fun k => rfl
  refine (ofD d z3 h3).bind (g := fun k b => (r1_lowest.f k a.1 a.2 b.1 b.2).bind fun r => some (r.1, r.2.1, r.2.2.1, r.2.2.2)) fun b hb => ?_
  obtain ⟨a1, a2⟩ := a
  obtain ⟨b1, b2⟩ := b
  obtain ⟨e1, ⟨na, va⟩, la⟩ := ha
  obtain ⟨e2, ⟨nb, vb⟩, lb⟩ := hb
  simp only at e1 na va la e2 nb vb lb
  subst e1 e2
  have h := lowestD a2 b2 na nb z3 z3 z3
  rw [va, vb] at h
  refine (h.weak (Q := fun r => IsR r n d ∧ r.2.1.length ≤ 5 ∧ r.2.2.2.length ≤ 5) fun r hr => ⟨hr.1, by omega, by omega⟩).same fun k => ?_
  cases r1_lowest.f k false a2 false b2 <;> rfl
theorem addQ (x y : QD) (Nx Dx Ny Dy : Int) (hx : IsR x Nx Dx) (hy : IsR y Ny Dy) (hNx : 0 ≤ Nx) (hDx : 0 < Dx) (hNy : 0 ≤ Ny) (hDy : 0 < Dy) (A : Nat) (hA : A ≤ 100) (x1 : x.2.1.length ≤ A) (x2 : x.2.2.2.length ≤ A) (y1 : y.2.1.length ≤ 5) (y2 : y.2.2.2.length ≤ 5) :
    EvP (fun k => r1_Add.f k x.1 x.2.1 x.2.2.1 x.2.2.2 y.1 y.2.1 y.2.2.1 y.2.2.2) (fun r => IsR r (Nx * Dy + Ny * Dx) (Dx * Dy) ∧ r.2.1.length ≤ A + 6 ∧ r.2.2.2.length ≤ A + 6) := by
  (obtain ⟨cx, px⟩ := hx.cross hDx); (obtain ⟨cy, py⟩ := hy.cross hDy); obtain ⟨x01, x02, x03, x04⟩ := x; obtain ⟨y01, y02, y03, y04⟩ := y; obtain ⟨e1, e2, ⟨n1, v1⟩, n2, v2⟩ := hx; obtain ⟨e3, e4, ⟨n3, v3⟩, n4, v4⟩ := hy; (simp only at e1 e2 e3 e4 n1 n2 n3 n4 x1 x2 y1 y2 cx cy px py); subst e1 e2 e3 e4; clear v1 v2 v3 v4; (simp only); (refine ((timesD x02 y04 n1 n4 z3 z3).bind (g := fun k a => (r1_Times.f k false y02 false x04).bind fun b => (r1_Plus.f k a.1 a.2 b.1 b.2).bind fun s => (r1_Times.f k false x04 false y04).bind fun d => (r1_lowest.f k s.1 s.2 d.1 d.2).bind fun r => some (r.1, r.2.1, r.2.2.1, r.2.2.2)) (Q := fun r => IsR r (Nx * Dy + Ny * Dx) (Dx * Dy) ∧ r.2.1.length ≤ A + 6 ∧ r.2.2.2.length ≤ A + 6) fun a ha => ?_).same fun k => rfl); obtain ⟨a1, a2⟩ := a; obtain ⟨e, ⟨na, va⟩, la⟩ := ha; (simp only at e na va la); subst e; (refine (timesD y02 x04 n3 n2 z3 z3).bind (g := fun k b => (r1_Plus.f k false a2 b.1 b.2).bind fun s => (r1_Times.f k false x04 false y04).bind fun d => (r1_lowest.f k s.1 s.2 d.1 d.2).bind fun r => some (r.1, r.2.1, r.2.2.1, r.2.2.2)) fun b hb => ?_); obtain ⟨b1, b2⟩ := b; obtain ⟨e, ⟨nb, vb⟩, lb⟩ := hb; (simp only at e nb vb lb); subst e; (refine (plusD a2 b2 (A + 5) na nb z3 z3 z3).bind (g := fun k s => (r1_Times.f k false x04 false y04).bind fun d => (r1_lowest.f k s.1 s.2 d.1 d.2).bind fun r => some (r.1, r.2.1, r.2.2.1, r.2.2.2)) fun s hs => ?_)
  obtain ⟨s1, s2⟩ := s; obtain ⟨e, ⟨ns, vs⟩, ls⟩ := hs; (simp only at e ns vs ls); subst e; (refine (timesD x04 y04 n2 n4 z3 z3).bind (g := fun k d => (r1_lowest.f k false s2 d.1 d.2).bind fun r => some (r.1, r.2.1, r.2.2.1, r.2.2.2)) fun d hd => ?_); obtain ⟨d1, d2⟩ := d; obtain ⟨e, ⟨nd, vd⟩, ld⟩ := hd; (simp only at e nd vd ld); subst e; (have dpos : 0 < vD d2 := by rw [vd]; exact Int.mul_pos px py); (refine ((lowestD s2 d2 ns nd z3 z3 dpos).weak (Q := fun r => IsR r (Nx * Dy + Ny * Dx) (Dx * Dy) ∧ r.2.1.length ≤ A + 6 ∧ r.2.2.2.length ≤ A + 6) fun r hr => ⟨hr.1.eq (d10_vW_nonneg s2 ns.1) dpos ?_ (Int.mul_pos hDx hDy) ?_, by omega, by omega⟩).same fun k => ?_)
  · (have h1 := Int.mul_nonneg hNx (Int.le_of_lt hDy)); (have h2 := Int.mul_nonneg hNy (Int.le_of_lt hDx)); omega
  rotate_left
  · (cases r1_lowest.f k false s2 false d2 <;> rfl)
  rw [vs, va, vb, vd]; (generalize vD x02 = nx at *); (generalize vD y02 = ny at *); (generalize vD x04 = dx at *); (generalize vD y04 = dy at *); (have e1 : (nx * dy + ny * dx) * (Dx * Dy) = (nx * Dx) * (dy * Dy) + (ny * Dy) * (dx * Dx) := by grind); rw [e1, cx, cy]; grind
theorem sgn_scale (a b c : Int) (hc : 0 < c) : sgnC (a * c) (b * c) = sgnC a b := by
  have key : ∀ a b : Int, (a * c < b * c ↔ a < b) := fun a b => ⟨fun h => Int.lt_of_mul_lt_mul_right h (Int.le_of_lt hc), fun h => Int.mul_lt_mul_of_pos_right h hc⟩
  unfold sgnC
  simp only [key]
theorem cmpQ (x y : QD) (Nx Dx Ny Dy : Int) (hx : IsR x Nx Dx) (hy : IsR y Ny Dy) (hDx : 0 < Dx) (hDy : 0 < Dy) (x1 : x.2.1.length ≤ 400) (x2 : x.2.2.2.length ≤ 400) (y1 : y.2.1.length ≤ 400) (y2 : y.2.2.2.length ≤ 400) :
    EvS (fun k => r1_Cmp.f k x.1 x.2.1 x.2.2.1 x.2.2.2 y.1 y.2.1 y.2.2.1 y.2.2.2) (some (sgnC (Nx * Dy) (Ny * Dx))) := by
  (obtain ⟨cx, px⟩ := hx.cross hDx); (obtain ⟨cy, py⟩ := hy.cross hDy); obtain ⟨x01, x02, x03, x04⟩ := x; obtain ⟨y01, y02, y03, y04⟩ := y; obtain ⟨e1, e2, ⟨n1, v1⟩, n2, v2⟩ := hx; obtain ⟨e3, e4, ⟨n3, v3⟩, n4, v4⟩ := hy; (simp only at e1 e2 e3 e4 n1 n2 n3 n4 x1 x2 y1 y2 cx cy px py); subst e1 e2 e3 e4; clear v1 v2 v3 v4; (simp only); (obtain ⟨⟨a1, a2⟩, ha, e, ⟨na, va⟩, la⟩ := timesD x02 y04 n1 n4 z3 z3); (simp only at e na va la); subst e; (obtain ⟨⟨b1, b2⟩, hb, e, ⟨nb, vb⟩, lb⟩ := timesD y02 x04 n3 n2 z3 z3); (simp only at e nb vb lb); subst e; (have hc := compareD a2 b2 na nb z3 z3)
  have es : sgnC (vD a2) (vD b2) = sgnC (Nx * Dy) (Ny * Dx) := by
    rw [va, vb, ← sgn_scale _ _ (Dx * Dy) (Int.mul_pos hDx hDy), ← sgn_scale (Nx * Dy) _ (vD x04 * vD y04) (Int.mul_pos px py)]
    have e1 : vD x02 * vD y04 * (Dx * Dy) = Nx * Dy * (vD x04 * vD y04) := by
      have : vD x02 * vD y04 * (Dx * Dy) = (vD x02 * Dx) * (vD y04 * Dy) := by grind
      rw [this, cx]; grind
    have e2 : vD y02 * vD x04 * (Dx * Dy) = Ny * Dx * (vD x04 * vD y04) := by
      have : vD y02 * vD x04 * (Dx * Dy) = (vD y02 * Dy) * (vD x04 * Dx) := by grind
      rw [this, cy]; grind
    rw [e1, e2]
  rw [es] at hc; (refine (ha.bind (g := fun k a => (r1_Times.f k false y02 false x04).bind fun b => (r1_Compare.f k a.1 a.2 b.1 b.2).bind fun t => some t) (hb.bind (g := fun k b => (r1_Compare.f k false a2 b.1 b.2).bind fun t => some t) (hc.bind (g := fun k t => some t) ⟨0, fun _ _ => rfl⟩))).same fun k => rfl)
theorem within_l0 (l : List Int) (hl : okD l) (hn : l.length ≤ 1000) (hv : vD l ≤ 4611686018427387904) : ∀ (i : Nat) (x : Int), i ≤ l.length → 0 ≤ x → x * 10000 ^ i + VD l i = vD l → EvS (fun k => r1_Within.l0 k x ((i : Int) - 1) false l) (some (vD l, true))
  | 0, x, hi, h0, hV => EvS.now 0 fun k _ => by
      have e : x = vD l := by rw [← hV]; show x = x * 1 + 0; omega
      rw [r1_Within.l0, if_neg z3, if_neg z8, e]
  | i + 1, x, hi, h0, hV => by
    obtain ⟨d0, d1⟩ := hl i z3
    have hp := d10_powB i
    have v0 := (d10_V_any l hl i).1
    have hV2 : (x * 10000 + rd l (i : Int)) * 10000 ^ i + VD l i = vD l := by
      rw [← hV, Int.pow_succ]; simp only [VD]; grind
    have hb : (x * 10000 + rd l (i : Int)) * 1 ≤ (x * 10000 + rd l (i : Int)) * 10000 ^ i := Int.mul_le_mul_of_nonneg_left hp z3
    refine (within_l0 l hl hn hv i (x * 10000 + rd l (i : Int)) z3 z3 hV2).succ 0 fun k _ => ?_
    have e : ((i + 1 : Nat) : Int) - 1 = (i : Int) := by omega
    rw [e, r1_Within.l0, if_pos z3, if_pos z3, if_pos z3, w64s (x * 10000) z3 z3, w64s (x * 10000 + rd l (i : Int)) z3 z3, w64s ((i : Int) - 1) z3 z3]
theorem withinD (l : List Int) (hl : nD l) (hn : l.length ≤ 1000) : EvS (fun k => r1_Within.f k false l 4611686018427387904) (some (if 4611686018427387904 < vD l then (0, false) else (vD l, true))) := by
  obtain ⟨⟨m1, m2⟩, hm, e, ⟨nm, vm⟩, lm⟩ := ofD 4611686018427387904 z8 z8
  simp only at e nm vm lm
  subst e
  have hc := dcmp_val l m2 hl nm z3 z3
  rw [vm] at hc
  refine (hm.bind (g := fun k b => (r1_cmpD.f k l b.2).bind fun t => if t > 0 then some (0, false) else r1_Within.l0 k 0 (wrap64 ((l.length : Int) - 1)) false l) (hc.bind (g := fun k t => if t > 0 then some (0, false) else r1_Within.l0 k 0 (wrap64 ((l.length : Int) - 1)) false l) ?_)).same fun k => rfl
  by_cases c : 4611686018427387904 < vD l
  · rw [if_pos c]
    exact ⟨0, fun k _ => if_pos ((sgn_gt _ _).mpr c)⟩
  · rw [if_neg c]
    refine (within_l0 l hl.1 hn z3 l.length 0 (Nat.le_refl _) z3 (by show 0 * _ + vD l = vD l; omega)).same fun k => ?_
    show (if _ then _ else _) = _
    rw [if_neg (fun h => c ((sgn_gt _ _).mp h)), w64s _ z3 z3]
theorem toRatioD (r : QD) (h1 : r.1 = false) (h2 : r.2.2.1 = false) (h3 : nD r.2.1) (h4 : nD r.2.2.2) (l1 : r.2.1.length ≤ 1000) (l2 : r.2.2.2.length ≤ 1000) :
    EvS (fun k => r1_ToRatio.f k r.1 r.2.1 r.2.2.1 r.2.2.2 4611686018427387904) (some (if 4611686018427387904 < vD r.2.1 ∨ 4611686018427387904 < vD r.2.2.2 then (0, 0, false) else (vD r.2.1, vD r.2.2.2, true))) := by
  rw [h1, h2]; (have w1 := withinD r.2.1 h3 l1); (have w2 := withinD r.2.2.2 h4 l2)
  have key : ∀ A B : Int × Bool, EvS (fun k => r1_Within.f k false r.2.1 4611686018427387904) (some A) → EvS (fun k => r1_Within.f k false r.2.2.2 4611686018427387904) (some B) →
      EvS (fun k => r1_ToRatio.f k false r.2.1 false r.2.2.2 4611686018427387904) (if A.2 = true then (if B.2 = true then some (A.1, B.1, true) else some (0, 0, false)) else some (0, 0, false)) := fun A B hA hB =>
    (hA.bind (g := fun k a => (r1_Within.f k false r.2.2.2 4611686018427387904).bind fun b => if a.2 = true then (if b.2 = true then some (a.1, b.1, true) else some (0, 0, false)) else some (0, 0, false)) (hB.bind (g := fun k b => if A.2 = true then (if b.2 = true then some (A.1, b.1, true) else some (0, 0, false)) else some (0, 0, false)) ⟨0, fun k _ => rfl⟩)).same fun k => rfl
  (have h := key _ _ w1 w2); by_cases c1 : 4611686018427387904 < vD r.2.1
  · rw [if_pos c1] at h; rw [if_pos (Or.inl c1)]; (exact h)
  by_cases c2 : 4611686018427387904 < vD r.2.2.2; rotate_left
  · rw [if_neg c1, if_neg c2] at h; rw [if_neg z3]; (exact h)
  rw [if_neg c1, if_pos c2] at h; rw [if_pos (Or.inr c2)]; (exact h)
theorem longestR {x : S55} (h : okM x = true) : r8_longest.f x.f1 = some (bitsM x) := by
  obtain ⟨_, _, h1, h2, _⟩ := okM_bounds h
  unfold r8_longest.f bitsM
  have e1 : wrap64 (8 * x.f1) = 8 * x.f1 := w64s _ z3 z3
  have e2 : wrap64 (33 + 8 * x.f1) = 33 + 8 * x.f1 := w64s _ z3 z3
  have e3 : wrap64 (47 + 8 * x.f1) = 47 + 8 * x.f1 := w64s _ z3 z3
  rw [e1, e2, e3, Int.tdiv_eq_ediv_of_nonneg z3, w64s ((33 + 8 * x.f1) / 4) z3 z3, w64s _ z3 z3]
theorem loaded_l0 (l : List S55) (h : ∀ i, i < l.length → okM (rd_T55 l (i : Int)) = true) (h9 : l.length ≤ 9) : ∀ (m i : Nat) (s : QD), l.length - i = m → i ≤ l.length → IsR s (fracTo l i).1 (fracTo l i).2 → s.2.1.length ≤ 6 * i + 5 → s.2.2.2.length ≤ 6 * i + 5 →
    EvP (fun k => r8_loaded.l0 k l (i : Int) s.1 s.2.1 s.2.2.1 s.2.2.2) (fun r => IsR r (fracTo l l.length).1 (fracTo l l.length).2 ∧ r.2.1.length ≤ 100 ∧ r.2.2.2.length ≤ 100)
  | 0, i, s, hm, hi, hs, l1, l2 => by
    obtain rfl : i = l.length := by omega
    exact EvP.now s (fun k => by rw [r8_loaded.l0, if_neg z3]) ⟨hs, by omega, by omega⟩
  | m + 1, i, s, hm, hi, hs, l1, l2 => by
    have ho := h i z3
    obtain ⟨n0, d0⟩ := frac_pos l h i z3
    have hb := bitsM_bounds ho
    obtain ⟨_, _, _, _, p1, p2, _⟩ := okM_bounds ho
    refine ((fracD (bitsM (rd_T55 l (i : Int))) (rd_T55 l (i : Int)).f2 z3 z3 z3 z3).bind (g := fun k q => (r1_Add.f k s.1 s.2.1 s.2.2.1 s.2.2.2 q.1 q.2.1 q.2.2.1 q.2.2.2).bind fun r => r8_loaded.l0 k l (wrap64 ((i : Int) + 1)) r.1 r.2.1 r.2.2.1 r.2.2.2) (Q := fun r => IsR r (fracTo l l.length).1 (fracTo l l.length).2 ∧ r.2.1.length ≤ 100 ∧ r.2.2.2.length ≤ 100) fun q hq => ?_).succ fun k => ?_
    · refine (addQ s q _ _ _ _ hs hq.1 n0 d0 z3 z3 (6 * i + 5) z3 l1 l2 hq.2.1 hq.2.2).bind (g := fun k r => r8_loaded.l0 k l (wrap64 ((i : Int) + 1)) r.1 r.2.1 r.2.2.1 r.2.2.2) fun r hr => ?_
      rw [w64p1 i z3]
      exact loaded_l0 l h h9 m (i + 1) r z3 z3 hr.1 z3 z3
    · show r8_loaded.l0 (k + 1) l (i : Int) s.1 s.2.1 s.2.2.1 s.2.2.2 = _
      rw [r8_loaded.l0, if_pos z3, if_pos z3, longestR ho, Option.bind_some]
theorem loadedD (l : List S55) (h : ∀ i, i < l.length → okM (rd_T55 l (i : Int)) = true) (h9 : l.length ≤ 9) :
    EvP (fun k => r8_loaded.f k l) (fun r => IsR r (fracTo l l.length).1 (fracTo l l.length).2 ∧ r.2.1.length ≤ 100 ∧ r.2.2.2.length ≤ 100) := by
  refine ((fracD 0 1 z3 z3 z3 z3).bind (g := fun k b => r8_loaded.l0 k l 0 b.1 b.2.1 b.2.2.1 b.2.2.2) (Q := fun r => IsR r (fracTo l l.length).1 (fracTo l l.length).2 ∧ r.2.1.length ≤ 100 ∧ r.2.2.2.length ≤ 100) fun b hb => ?_).same fun k => rfl
  exact loaded_l0 l h h9 l.length 0 b z3 z3 hb.1 z3 z3
theorem loadedCmp (l : List S55) (h : ∀ i, i < l.length → okM (rd_T55 l (i : Int)) = true) (h9 : l.length ≤ 9) {β : Type} {g : Nat → Int → Option β} {r : Option β} (H : EvS (fun k => g k (sgnC (fracTo l l.length).1 (fracTo l l.length).2)) r) :
    EvS (fun k => (r8_loaded.f k l).bind fun a => (r1_Frac.f k 1 1).bind fun b => (r1_Cmp.f k a.1 a.2.1 a.2.2.1 a.2.2.2 b.1 b.2.1 b.2.2.1 b.2.2.2).bind (g k)) r := by
  obtain ⟨a, ha, h1, h2, h3⟩ := loadedD l h h9
  obtain ⟨b, hb, h4, h5, h6⟩ := fracD 1 1 z3 z3 z3 z3
  obtain ⟨n0, d0⟩ := frac_pos l h l.length (Nat.le_refl _)
  have hc := cmpQ a b _ _ 1 1 h1 h4 d0 z3 z3 z3 z3 z3
  rw [Int.mul_one, Int.one_mul] at hc
  generalize sgnC (fracTo l l.length).1 (fracTo l l.length).2 = C at hc H
  clear h1 h2 h3 h4 h5 h6 n0 d0
  obtain ⟨K1, a1⟩ := ha
  obtain ⟨K2, b1⟩ := hb
  obtain ⟨K3, c1⟩ := hc
  obtain ⟨K4, H⟩ := H
  refine ⟨K1 + K2 + K3 + K4, fun k hk => ?_⟩
  have a1 : r8_loaded.f k l = some a := a1 k z3
  have b1 : r1_Frac.f k 1 1 = some b := b1 k z3
  have c1 : r1_Cmp.f k a.1 a.2.1 a.2.2.1 a.2.2.2 b.1 b.2.1 b.2.2.1 b.2.2.2 = some C := c1 k z3
  have H : g k C = r := H k z3
  show (r8_loaded.f k l).bind _ = _
  rw [a1, Option.bind_some, b1, Option.bind_some, c1, Option.bind_some, H]
end Go.Proofs.YtbanemecfobonaaDoor.B
end
section
namespace Go.Proofs.YtbanemecfobonaaDoor.B
open Go.RowKit Go.Proofs.YtbanemecfobonaaDoorW.PrintWords Go.Proofs.YtbanemecfobonaaDoorW.PrintLast Go.Proofs.YtbanemecfobonaaDoorW.PrintMore
set_option linter.unusedVariables false
set_option linter.unusedSimpArgs false
theorem mx_max (a b : Int) : mx a b = max a b := by unfold mx; split <;> omega
theorem okM_snoc (x : S55) (l : List S55) (hx : okM x = true) (hl : ∀ i, i < l.length → okM (rd_T55 l (i : Int)) = true) : ∀ i, i < (l ++ [x]).length → okM (rd_T55 (l ++ [x]) (i : Int)) = true := fun i h => by
  rw [rd_T55_snoc]
  split
  · exact hx
  · exact hl i (by rw [List.length_append, List.length_singleton] at h; omega)
theorem aboveR {x : S55} (hx : okM x = true) {t : Int} (h0 : 0 ≤ t) (h1 : t ≤ 10000000) : r8_above.f (wrap64 (t + x.f3)) x.f2 = some (inst x t) := by
  obtain ⟨_, _, _, _, p1, p2, p3, p4⟩ := okM_bounds hx
  have hi := inst_bounds hx h0 h1
  unfold r8_above.f
  rw [if_neg z3, w64s (t + x.f3) z3 z3, w64s (t + x.f3 + x.f2) z3 z3, w64s (t + x.f3 + x.f2 - 1) z3 z3, Int.tdiv_eq_ediv_of_nonneg z3]
  unfold inst at hi ⊢
  rw [w64s _ z3 z3]
theorem waitR {x : S55} (hx : okM x = true) {t : Int} (h0 : 0 ≤ t) (h1 : t ≤ 10000000) : wrap64 (wrap64 (Int.tdiv (wrap64 (t + x.f3)) x.f2) + 1) = instW x t := by
  obtain ⟨_, _, _, _, p1, p2, p3, p4⟩ := okM_bounds hx
  have hi := instW_bounds hx h0 h1
  rw [w64s (t + x.f3) z3 z3, Int.tdiv_eq_ediv_of_nonneg z3]
  unfold instW at hi ⊢
  rw [w64s ((t + x.f3) / x.f2) z3 z3, w64s _ z3 z3]
theorem sumInst_bounds (l : List S55) (hl : ∀ i, i < l.length → okM (rd_T55 l (i : Int)) = true) {t : Int} (h0 : 0 ≤ t) (h1 : t ≤ 10000000) : ∀ i : Nat, i ≤ l.length → 0 ≤ sumI (fun o => inst o t * bitsM o) l i ∧ sumI (fun o => inst o t * bitsM o) l i ≤ (i : Int) * 1400000000 :=
  sumI_bounds _ l 1400000000 z3 (fun i hi => by
    have a := inst_bounds (hl i hi) h0 h1
    have b := mulBits a.1 a.2 (bitsM_bounds (hl i hi)).1 (bitsM_bounds (hl i hi)).2
    exact b)
theorem sumWait_bounds (l : List S55) (hl : ∀ i, i < l.length → okM (rd_T55 l (i : Int)) = true) {t : Int} (h0 : 0 ≤ t) (h1 : t ≤ 10000000) : ∀ i : Nat, i ≤ l.length → 0 ≤ sumI (fun o => instW o t * bitsM o) l i ∧ sumI (fun o => instW o t * bitsM o) l i ≤ (i : Int) * 1400000000 :=
  sumI_bounds _ l 1400000000 z3 (fun i hi => by
    have a := instW_bounds (hl i hi) h0 h1
    have b := mulBits z3 a.2 (bitsM_bounds (hl i hi)).1 (bitsM_bounds (hl i hi)).2
    exact b)
section
variable (x : S55) (first : List S55) (block : Int) (hx : okM x = true) (hw : ∀ k, k < first.length → okM (rd_T55 first (k : Int)) = true) (h8 : first.length ≤ 8) (hb0 : 0 ≤ block) (hb1 : block ≤ 135) (Q : Int × Bool → Prop)
include hx hw h8 hb0 hb1
theorem rdelay_l1 (t : Int) (h0 : 0 ≤ t) (h1 : t ≤ 10000000) (H1 : 10000000 < busyN block x first t → Q (0, false)) (H2 : ¬ 10000000 < busyN block x first t → EvP (fun k => r8_delay.l0 k first block (first ++ [x]) (busyN block x first t) (busyN block x first t != t) x.f0 x.f1 x.f2 x.f3) Q) :
    ∀ m i : Nat, (first ++ [x]).length - i = m → i ≤ (first ++ [x]).length → EvP (fun k => r8_delay.l1 k first block (first ++ [x]) t (block + sumI (fun o => inst o t * bitsM o) (first ++ [x]) i) (i : Int) x.f0 x.f1 x.f2 x.f3) Q
  | 0, i, hm, hi => by
    obtain rfl : i = (first ++ [x]).length := by omega
    have e : block + sumI (fun o => inst o t * bitsM o) (first ++ [x]) (first ++ [x]).length = busyN block x first t := by
      rw [sumI_snoc]; unfold busyN; omega
    rw [e]
    by_cases c : 10000000 < busyN block x first t
    · exact EvP.now (0, false) (fun k => by rw [r8_delay.l1, if_neg z3, if_pos c]) (H1 c)
    · exact (H2 c).succ fun k => by rw [r8_delay.l1, if_neg z3, if_neg c]
  | m + 1, i, hm, hi => by
    have hall := okM_snoc x first hx hw
    have ho := hall i z3
    have hlen : (first ++ [x]).length ≤ 9 := by rw [List.length_append, List.length_singleton]; omega
    have s1 := sumInst_bounds _ hall h0 h1 i z3
    have a := inst_bounds ho h0 h1
    have b := mulBits a.1 a.2 (bitsM_bounds ho).1 (bitsM_bounds ho).2
    refine (rdelay_l1 t h0 h1 H1 H2 m (i + 1) z3 z3).succ fun k => ?_
    show r8_delay.l1 (k + 1) first block (first ++ [x]) t _ (i : Int) x.f0 x.f1 x.f2 x.f3 = _
    rw [r8_delay.l1, if_pos z3, if_pos z3, aboveR ho h0 h1, Option.bind_some, longestR ho, Option.bind_some, w64s (inst (rd_T55 (first ++ [x]) (i : Int)) t * bitsM (rd_T55 (first ++ [x]) (i : Int))) z3 z3, w64s (block + _ + _) z3 z3, nNx i z3]
    simp only [sumI]
    rw [Int.add_assoc]
theorem rdelay_l0 : ∀ (n : Nat) (t : Int) (r : Int × Bool), 0 ≤ t → t ≤ 10000000 → fixF (busyN block x first) n t = some r → (r.2 = false → Q (0, false)) → (r.2 = true → EvP (fun k => r8_delay.l0 k first block (first ++ [x]) r.1 false x.f0 x.f1 x.f2 x.f3) Q) →
    EvP (fun k => r8_delay.l0 k first block (first ++ [x]) t true x.f0 x.f1 x.f2 x.f3) Q
  | 0, t, r, h0, h1, h, G1, G2 => by simp [fixF] at h
  | n + 1, t, r, h0, h1, h, G1, G2 => by
    have hnn := busyN_nonneg hx hw hb0 h0 h1
    rw [fixF] at h
    have H := rdelay_l1 x first block hx hw h8 hb0 hb1 Q t h0 h1 (fun c => by
      rw [if_pos c] at h
      obtain rfl := sI h
      exact G1 rfl) (fun c => by
      rw [if_neg c] at h
      by_cases c2 : busyN block x first t = t
      · rw [if_pos c2] at h
        obtain rfl := sI h
        have e : (busyN block x first t != t) = false := by rw [c2]; simp
        rw [e, c2]
        exact G2 rfl
      · rw [if_neg c2] at h
        have e : (busyN block x first t != t) = true := by simpa using c2
        rw [e]
        exact rdelay_l0 n _ r hnn z3 h G1 G2) (first ++ [x]).length 0 z3 z3
    have e0 : block + sumI (fun o => inst o t * bitsM o) (first ++ [x]) 0 = block := by simp only [sumI]; omega
    rw [e0] at H
    refine H.succ fun k => ?_
    show r8_delay.l0 (k + 1) first block (first ++ [x]) t true x.f0 x.f1 x.f2 x.f3 = _
    rw [r8_delay.l0, if_pos rfl]; rfl
theorem rdelay_l4 (u t q most : Int) (hq0 : 0 ≤ q) (hq1 : q ≤ 10200000) (h0 : 0 ≤ t) (h1 : t ≤ 10000000) (H1 : 10000000 < waitN block q x first t → Q (0, false)) (H2 : ¬ 10000000 < waitN block q x first t → EvP (fun k => r8_delay.l3 k first block u (bitsM x) most (waitN block q x first t) q (waitN block q x first t != t) x.f0 x.f1 x.f2 x.f3) Q) :
    ∀ m i : Nat, first.length - i = m → i ≤ first.length → EvP (fun k => r8_delay.l4 k first block u (bitsM x) most t q (block + q * bitsM x + sumI (fun o => instW o t * bitsM o) first i) (i : Int) x.f0 x.f1 x.f2 x.f3) Q
  | 0, i, hm, hi => by
    obtain rfl : i = first.length := by omega
    have e : block + q * bitsM x + sumI (fun o => instW o t * bitsM o) first first.length = waitN block q x first t := rfl
    rw [e]
    by_cases c : 10000000 < waitN block q x first t
    · exact EvP.now (0, false) (fun k => by rw [r8_delay.l4, if_neg z3, if_pos c]) (H1 c)
    · exact (H2 c).succ fun k => by rw [r8_delay.l4, if_neg z3, if_neg c]
  | m + 1, i, hm, hi => by
    have ho := hw i z3
    have s1 := sumWait_bounds _ hw h0 h1 i z3
    have a := instW_bounds ho h0 h1
    have b := mulBits z3 a.2 (bitsM_bounds ho).1 (bitsM_bounds ho).2
    have b2 := mulBits hq0 hq1 (bitsM_bounds hx).1 (bitsM_bounds hx).2
    obtain ⟨_, _, _, _, p1, p2, p3, p4⟩ := okM_bounds ho
    refine (rdelay_l4 u t q most hq0 hq1 h0 h1 H1 H2 m (i + 1) z3 z3).succ fun k => ?_
    show r8_delay.l4 (k + 1) first block u (bitsM x) most t q _ (i : Int) x.f0 x.f1 x.f2 x.f3 = _
    rw [r8_delay.l4, if_pos z3, if_pos z3, if_neg z3, longestR ho, Option.bind_some, waitR ho h0 h1, w64s (instW (rd_T55 first (i : Int)) t * bitsM (rd_T55 first (i : Int))) z3 z3, w64s (block + _ + _ + _) z3 z3, nNx i z3]
    simp only [sumI]
    rw [Int.add_assoc (block + q * bitsM x)]
theorem rdelay_l3 (u q most : Int) (hq0 : 0 ≤ q) (hq1 : q ≤ 10200000) : ∀ (n : Nat) (t : Int) (r : Int × Bool), 0 ≤ t → t ≤ 10000000 → fixF (waitN block q x first) n t = some r → (r.2 = false → Q (0, false)) → (r.2 = true → EvP (fun k => r8_delay.l3 k first block u (bitsM x) most r.1 q false x.f0 x.f1 x.f2 x.f3) Q) →
    EvP (fun k => r8_delay.l3 k first block u (bitsM x) most t q true x.f0 x.f1 x.f2 x.f3) Q
  | 0, t, r, h0, h1, h, G1, G2 => by simp [fixF] at h
  | n + 1, t, r, h0, h1, h, G1, G2 => by
    have hnn := waitN_nonneg hx hw hb0 hq0 hq1 h0 h1
    have b2 := mulBits hq0 hq1 (bitsM_bounds hx).1 (bitsM_bounds hx).2
    rw [fixF] at h
    have H := rdelay_l4 x first block hx hw h8 hb0 hb1 Q u t q most hq0 hq1 h0 h1 (fun c => by
      rw [if_pos c] at h
      obtain rfl := sI h
      exact G1 rfl) (fun c => by
      rw [if_neg c] at h
      by_cases c2 : waitN block q x first t = t
      · rw [if_pos c2] at h
        obtain rfl := sI h
        have e : (waitN block q x first t != t) = false := by rw [c2]; simp
        rw [e, c2]
        exact G2 rfl
      · rw [if_neg c2] at h
        have e : (waitN block q x first t != t) = true := by simpa using c2
        rw [e]
        exact rdelay_l3 u q most hq0 hq1 n _ r hnn z3 h G1 G2) first.length 0 z3 z3
    have e0 : block + q * bitsM x + sumI (fun o => instW o t * bitsM o) first 0 = block + q * bitsM x := by simp only [sumI]; omega
    rw [e0] at H
    refine H.succ fun k => ?_
    show r8_delay.l3 (k + 1) first block u (bitsM x) most t q true x.f0 x.f1 x.f2 x.f3 = _
    rw [r8_delay.l3, if_pos rfl, w64s (q * bitsM x) z3 z3, w64s (block + q * bitsM x) z3 z3]; rfl
end
section
variable (x : S55) (first : List S55) (block : Int) (hx : okM x = true) (hw : ∀ k, k < first.length → okM (rd_T55 first (k : Int)) = true) (h8 : first.length ≤ 8) (hb0 : 0 ≤ block) (hb1 : block ≤ 135)
include hx hw h8 hb0 hb1
theorem rdelay_l2 (u : Int) (hu0 : 0 ≤ u) (hu1 : u ≤ 10000000) : ∀ (n : Nat) (q w most : Int), 0 ≤ q → q + n = inst x u → 0 ≤ w → w ≤ 10000000 → w ≤ waitN block q x first w →
    EvP (fun k => r8_delay.l2 k first block u (bitsM x) most w q x.f0 x.f1 x.f2 x.f3) (fun r => r.2 = (decide (most ≤ 10000000) && (waitD block x first n q w most).2) ∧ (r.2 = true → r.1 = (waitD block x first n q w most).1))
  | 0, q, w, most, hq0, hqn, hw0, hw1, hwn => by
    refine EvP.now (most, decide (most ≤ 10000000)) (fun k => ?_) ⟨by simp only [waitD, Bool.and_true], fun _ => rfl⟩
    show r8_delay.l2 (k + 1) first block u (bitsM x) most w q x.f0 x.f1 x.f2 x.f3 = _
    rw [r8_delay.l2, aboveR hx hu0 hu1, Option.bind_some, if_neg z3]
  | n + 1, q, w, most, hq0, hqn, hw0, hw1, hwn => by
    have hi := inst_bounds hx hu0 hu1
    have hm : MonoF (waitN block q x first) := fun s t _ h => waitN_mono hw h
    obtain ⟨K, hK⟩ := fixQ_ev (waitN block q x first) hm w hw0 hwn
    have hT := fixQ_true (waitN block q x first) hm w hw0 hwn
    have hF : fixF (waitN block q x first) K w = some (fixQ (waitN block q x first) w) := hK K (Nat.le_refl _)
    simp only [waitD]
    generalize fixQ (waitN block q x first) w = s at hF hT ⊢
    obtain ⟨_, _, _, _, p1, p2, p3, p4⟩ := okM_bounds hx
    have hb := bitsM_bounds hx
    refine (rdelay_l3 x first block hx hw h8 hb0 hb1 _ u q most hq0 z3 K w s hw0 hw1 hF (fun hs => ?_) (fun hs => ?_)).succ fun k => ?_
    · rw [if_pos (.inl hs)]
      exact ⟨by simp, fun h => by cases h⟩
    · obtain ⟨t1, t2, t3⟩ := hT hs
      have hqp : 0 ≤ q * x.f2 ∧ q * x.f2 ≤ 10200000 * 100000 := ⟨Int.mul_nonneg hq0 z3, Int.mul_le_mul z3 p2 z3 z3⟩
      have ih := rdelay_l2 u hu0 hu1 n (q + 1) s.1 (max most (x.f3 + s.1 - q * x.f2 + bitsM x)) z3 z3 z3 t2 (by rw [waitN_next hx, t3]; omega)
      have hs' : ¬ s.2 = false := by rw [hs]; simp
      refine (ih.weak (Q := fun r => r.2 = (decide (most ≤ 10000000) && (if s.2 = false ∨ 10000000 < max most (x.f3 + s.1 - q * x.f2 + bitsM x) then ((0 : Int), false) else waitD block x first n (q + 1) s.1 (max most (x.f3 + s.1 - q * x.f2 + bitsM x))).2) ∧ (r.2 = true → r.1 = (if s.2 = false ∨ 10000000 < max most (x.f3 + s.1 - q * x.f2 + bitsM x) then ((0 : Int), false) else waitD block x first n (q + 1) s.1 (max most (x.f3 + s.1 - q * x.f2 + bitsM x))).1)) fun r hr => ?_).succ fun k => ?_
      · by_cases c : 10000000 < max most (x.f3 + s.1 - q * x.f2 + bitsM x)
        · rw [if_pos (.inr c)]
          rw [dF (show ¬ max most (x.f3 + s.1 - q * x.f2 + bitsM x) ≤ 10000000 by omega), Bool.false_and] at hr
          exact ⟨by rw [hr.1]; simp, fun h => by rw [hr.1] at h; cases h⟩
        · rw [if_neg (fun h => h.elim hs' c)]
          rw [dT (show max most (x.f3 + s.1 - q * x.f2 + bitsM x) ≤ 10000000 by omega), Bool.true_and] at hr
          rw [dT (show most ≤ 10000000 by omega), Bool.true_and]
          exact hr
      · show r8_delay.l3 (k + 1) first block u (bitsM x) most s.1 q false x.f0 x.f1 x.f2 x.f3 = _
        rw [r8_delay.l3, if_neg z8, w64s (x.f3 + s.1) z3 z3, w64s (q * x.f2) z3 z3, w64s (x.f3 + s.1 - q * x.f2) z3 z3, w64s (x.f3 + s.1 - q * x.f2 + bitsM x) z3 z3, w64s (q + 1) z3 z3, mx_max]
    · show r8_delay.l2 (k + 1) first block u (bitsM x) most w q x.f0 x.f1 x.f2 x.f3 = _
      rw [r8_delay.l2, aboveR hx hu0 hu1, Option.bind_some, if_pos z3]
theorem rdelay_val : EvP (fun k => r8_delay.f k x.f0 x.f1 x.f2 x.f3 first block) (fun r => r.2 = (delayD x first block).2 ∧ (r.2 = true → r.1 = (delayD x first block).1)) := by
  (have hall := okM_snoc x first hx hw); (have hlen : (first ++ [x]).length ≤ 9 := by rw [List.length_append, List.length_singleton]; omega); (have ef : fracTo (first ++ [x]) (first ++ [x]).length = fracTo ([x] ++ first) ([x] ++ first).length := by rw [fracTo_snoc, fracTo_cons]); (have hm : MonoF (busyN block x first) := fun s t _ h => busyN_mono hx hw h); (have hone := busyN_one hx hw hb0); (obtain ⟨K, hK⟩ := fixQ_ev (busyN block x first) hm 1 z8 hone); (have hT := fixQ_true (busyN block x first) hm 1 z8 hone); (have hF : fixF (busyN block x first) K 1 = some (fixQ (busyN block x first) 1) := hK K (Nat.le_refl _))
  have main : EvP (fun k => if sgnC (fracTo (first ++ [x]) (first ++ [x]).length).1 (fracTo (first ++ [x]) (first ++ [x]).length).2 ≥ 0 then some ((0 : Int), false) else r8_delay.l0 k first block (first ++ [x]) 1 true x.f0 x.f1 x.f2 x.f3) (fun r => r.2 = (delayD x first block).2 ∧ (r.2 = true → r.1 = (delayD x first block).1)) := by
    rw [ef]
    unfold delayD
    by_cases c : 0 ≤ sgnC (fracTo ([x] ++ first) ([x] ++ first).length).1 (fracTo ([x] ++ first) ([x] ++ first).length).2
    · rw [if_pos c]
      exact EvP.at (0, false) (fun k => if_pos c) ⟨rfl, fun h => by cases h⟩
    · rw [if_neg c]
      refine EvP.same (g := fun k => r8_delay.l0 k first block (first ++ [x]) 1 true x.f0 x.f1 x.f2 x.f3) ?_ fun k => if_neg c
      generalize fixQ (busyN block x first) 1 = s at hF hT ⊢
      refine rdelay_l0 x first block hx hw h8 hb0 hb1 _ K 1 s z3 z3 hF (fun hs => ?_) (fun hs => ?_)
      · rw [if_pos hs]
        exact ⟨rfl, fun h => by cases h⟩
      · obtain ⟨t1, t2, t3⟩ := hT hs
        have hi := inst_bounds hx (show 0 ≤ s.1 by omega) t2
        rw [if_neg (by rw [hs]; simp)]
        have h2 := rdelay_l2 x first block hx hw h8 hb0 hb1 s.1 z3 t2 (inst x s.1).toNat 0 0 0 z3 z3 z3 z3 (waitN_nonneg hx hw hb0 (Int.le_refl 0) z8 (Int.le_refl 0) z8)
        rw [dT z8, Bool.true_and] at h2
        refine h2.succ fun k => ?_
        show r8_delay.l0 (k + 1) first block (first ++ [x]) s.1 false x.f0 x.f1 x.f2 x.f3 = _
        rw [r8_delay.l0, if_neg z8, longestR hx, Option.bind_some]
  obtain ⟨r, h1, h2⟩ := main; (refine ⟨r, ?_, h2⟩); (refine (loadedCmp (first ++ [x]) hall hlen (g := fun k t => if t ≥ 0 then some ((0 : Int), false) else r8_delay.l0 k first block (first ++ [x]) 1 true x.f0 x.f1 x.f2 x.f3) h1).same fun k => ?_); (show r8_delay.f k x.f0 x.f1 x.f2 x.f3 first block = _); (unfold r8_delay.f); rw [if_pos (by simp; omega), Option.bind_some, if_pos (by simp; omega), Option.bind_some]; rfl
end
end Go.Proofs.YtbanemecfobonaaDoor.B
end
section
namespace Go.Proofs.YtbanemecfobonaaDoor.B
open Go.RowKit Go.Proofs.YtbanemecfobonaaDoorW.PrintWords Go.Proofs.YtbanemecfobonaaDoorW.PrintLast Go.Proofs.YtbanemecfobonaaDoorW.PrintMore
set_option linter.unusedVariables false
set_option linter.unusedSimpArgs false
theorem nosM_has (l : List S55) (x : Int) : ∀ n, (nosM l n).contains x = true ↔ ∃ t, t < n ∧ (rd_T55 l (t : Int)).f0 = x
  | 0 => by simp [nosM]
  | n + 1 => by
    have e : nosM l (n + 1) = (rd_T55 l (n : Int)).f0 :: nosM l n := rfl
    rw [e, List.contains_cons, Bool.or_eq_true, nosM_has l x n]
    constructor
    · rintro (h | ⟨t, h1, h2⟩)
      · exact ⟨n, by omega, (by simpa using h : x = _).symm⟩
      · exact ⟨t, by omega, h2⟩
    · rintro ⟨t, h1, h2⟩
      by_cases ht : t = n
      · subst ht
        exact .inl (by simpa using h2.symm)
      · exact .inr ⟨t, by omega, h2⟩
theorem okM_iff (x : S55) : okM x = true ↔ 0 ≤ x.f0 ∧ x.f0 ≤ 2047 ∧ 0 ≤ x.f1 ∧ x.f1 ≤ 8 ∧ 1 ≤ x.f2 ∧ x.f2 ≤ 100000 ∧ 0 ≤ x.f3 ∧ x.f3 ≤ 100000 := by
  simp only [okM, Bool.and_eq_true, decide_eq_true_eq, and_assoc]
theorem msg_l1 (l : List S55) (i : Nat) (hi : i ≤ l.length) (hl : l.length ≤ 1000) (a b c d : Int) (r : Option Bool) (h : EvS (fun k => r8_Messages.l0 k l ((i + 1 : Nat) : Int)) r) : ∀ m j, i - j = m → j ≤ i → (∀ t, j ≤ t → t < i → (rd_T55 l (t : Int)).f0 ≠ a) → EvS (fun k => r8_Messages.l1 k l (i : Int) (j : Int) a b c d) r
  | 0, j, hm, hj, hno => by
    obtain rfl : j = i := by omega
    refine h.succ 0 fun k _ => ?_
    rw [r8_Messages.l1, if_neg z3, nNx j z3]
  | m + 1, j, hm, hj, hno => by
    refine (msg_l1 l i hi hl a b c d r h m (j + 1) z3 z3 (fun t h1 h2 => hno t z3 h2)).succ 0 fun k _ => ?_
    rw [r8_Messages.l1, if_pos z3, if_pos z3, if_pos z3, if_neg (hno j (Nat.le_refl _) z3), nNx j z3]
theorem msg_l1_bad (l : List S55) (i : Nat) (hi : i ≤ l.length) (hl : l.length ≤ 1000) (a b c d : Int) : ∀ m j, i - j = m → (∃ t, j ≤ t ∧ t < i ∧ (rd_T55 l (t : Int)).f0 = a) → EvS (fun k => r8_Messages.l1 k l (i : Int) (j : Int) a b c d) (some false)
  | 0, j, hm, ⟨t, h1, h2, h3⟩ => by omega
  | m + 1, j, hm, ⟨t, h1, h2, h3⟩ => by
    by_cases hj : (rd_T55 l (j : Int)).f0 = a
    · refine EvS.now 0 fun k _ => ?_
      rw [r8_Messages.l1, if_pos z3, if_pos z3, if_pos z3, if_pos hj]
    · have hne : t ≠ j := fun e => hj (by rw [← e]; exact h3)
      refine (msg_l1_bad l i hi hl a b c d m (j + 1) z3 ⟨t, by omega, h2, h3⟩).succ 0 fun k _ => ?_
      rw [r8_Messages.l1, if_pos z3, if_pos z3, if_pos z3, if_neg hj, nNx j z3]
theorem msg_l0_eq (l : List S55) (i : Nat) (hi : i < l.length) (k : Nat) : r8_Messages.l0 (k + 1) l (i : Int) = r8_Messages.j1 k l (i : Int) (!okM (rd_T55 l (i : Int))) (rd_T55 l (i : Int)).f0 (rd_T55 l (i : Int)).f1 (rd_T55 l (i : Int)).f2 (rd_T55 l (i : Int)).f3 := by
  rw [r8_Messages.l0, if_pos z3, if_pos z3]
  generalize rd_T55 l (i : Int) = x
  cases ho : okM x
  · have hn : ¬ (0 ≤ x.f0 ∧ x.f0 ≤ 2047 ∧ 0 ≤ x.f1 ∧ x.f1 ≤ 8 ∧ 1 ≤ x.f2 ∧ x.f2 ≤ 100000 ∧ 0 ≤ x.f3 ∧ x.f3 ≤ 100000) := fun h => by
      rw [(okM_iff x).2 h] at ho; cases ho
    by_cases c1 : x.f0 < 0
    · rw [if_pos c1]; rfl
    rw [if_neg c1]
    by_cases c2 : x.f0 > 2047
    · rw [if_pos c2]; rfl
    rw [if_neg c2]
    by_cases c3 : x.f1 < 0
    · rw [if_pos c3]; rfl
    rw [if_neg c3]
    by_cases c4 : x.f1 > 8
    · rw [if_pos c4]; rfl
    rw [if_neg c4]
    by_cases c5 : x.f2 < 1
    · rw [if_pos c5]; rfl
    rw [if_neg c5]
    by_cases c6 : x.f2 > 100000
    · rw [if_pos c6]; rfl
    rw [if_neg c6]
    by_cases c7 : x.f3 < 0
    · rw [if_pos c7]; rfl
    rw [if_neg c7, dT (by omega : x.f3 > 100000)]; rfl
  · obtain ⟨h0, h1, h2, h3, h4, h5, h6, h7⟩ := (okM_iff x).1 ho
    rw [if_neg z3, if_neg z3, if_neg z3, if_neg z3, if_neg z3, if_neg z3, if_neg z3, dF (by omega : ¬ x.f3 > 100000)]; rfl
theorem msg_l0 (l : List S55) (hl : l.length ≤ 1000) : ∀ m i, l.length - i = m → i ≤ l.length → sentTo l i = true → EvS (fun k => r8_Messages.l0 k l (i : Int)) (some (sentTo l l.length))
  | 0, i, hm, hi, hs => by
    obtain rfl : i = l.length := by omega
    refine EvS.now 0 fun k _ => ?_
    rw [r8_Messages.l0, if_neg z3, hs]
  | m + 1, i, hm, hi, hs => by
    have hs1 : sentTo l (i + 1) = (sentTo l i && (okM (rd_T55 l (i : Int)) && !(nosM l i).contains (rd_T55 l (i : Int)).f0)) := rfl
    cases ho : okM (rd_T55 l (i : Int))
    · have hb : sentTo l (i + 1) = false := by rw [hs1, ho]; simp
      refine EvS.succ (g := fun k => r8_Messages.j1 k l (i : Int) true (rd_T55 l (i : Int)).f0 (rd_T55 l (i : Int)).f1 (rd_T55 l (i : Int)).f2 (rd_T55 l (i : Int)).f3) (EvS.now 0 fun k _ => ?_) 0 fun k _ => ?_
      · rw [r8_Messages.j1, if_pos rfl, sentTo_mono l _ hb l.length z3]
      · rw [msg_l0_eq l i z3, ho]; rfl
    · cases hc : (nosM l i).contains (rd_T55 l (i : Int)).f0
      · have hg : sentTo l (i + 1) = true := by rw [hs1, hs, ho, hc]; rfl
        have ih := msg_l0 l hl m (i + 1) z3 z3 hg
        have hno : ∀ t, 0 ≤ t → t < i → (rd_T55 l (t : Int)).f0 ≠ (rd_T55 l (i : Int)).f0 := fun t _ ht e => by
          rw [(nosM_has l _ i).2 ⟨t, ht, e⟩] at hc; cases hc
        have h1 := msg_l1 l i z3 hl (rd_T55 l (i : Int)).f0 (rd_T55 l (i : Int)).f1 (rd_T55 l (i : Int)).f2 (rd_T55 l (i : Int)).f3 _ ih i 0 z3 z3 hno
        refine EvS.succ (g := fun k => r8_Messages.j1 k l (i : Int) false (rd_T55 l (i : Int)).f0 (rd_T55 l (i : Int)).f1 (rd_T55 l (i : Int)).f2 (rd_T55 l (i : Int)).f3) (h1.succ 0 fun k _ => ?_) 0 fun k _ => ?_
        · rw [r8_Messages.j1, if_neg (by simp)]; rfl
        · rw [msg_l0_eq l i z3, ho]; rfl
      · have hb : sentTo l (i + 1) = false := by rw [hs1, hc]; simp
        obtain ⟨t, h1, h2⟩ := (nosM_has l _ i).1 hc
        have h3 := msg_l1_bad l i z3 hl (rd_T55 l (i : Int)).f0 (rd_T55 l (i : Int)).f1 (rd_T55 l (i : Int)).f2 (rd_T55 l (i : Int)).f3 i 0 z3 ⟨t, by omega, h1, h2⟩
        rw [sentTo_mono l _ hb l.length z3]
        refine EvS.succ (g := fun k => r8_Messages.j1 k l (i : Int) false (rd_T55 l (i : Int)).f0 (rd_T55 l (i : Int)).f1 (rd_T55 l (i : Int)).f2 (rd_T55 l (i : Int)).f3) (h3.succ 0 fun k _ => ?_) 0 fun k _ => ?_
        · rw [r8_Messages.j1, if_neg (by simp)]; rfl
        · rw [msg_l0_eq l i z3, ho]; rfl
theorem Messages_eq (l : List S55) : EvS (fun k => r8_Messages.f k l) (some (sentB l)) := by
  by_cases h8 : l.length ≤ 8
  · have e : sentB l = sentTo l l.length := by unfold sentB; rw [dT h8, Bool.and_true]
    rw [e]
    refine (msg_l0 l z3 l.length 0 z3 z3 rfl).same fun k => ?_
    show r8_Messages.f k l = _
    unfold r8_Messages.f
    rw [if_neg z3]; rfl
  · have e : sentB l = false := by unfold sentB; rw [dF h8, Bool.and_false]
    rw [e]
    exact ⟨0, fun k _ => by show r8_Messages.f k l = _; unfold r8_Messages.f; rw [if_pos z3]⟩
end Go.Proofs.YtbanemecfobonaaDoor.B
end
section
namespace Go.Proofs.YtbanemecfobonaaDoor.B
open Go.RowKit Go.Proofs.YtbanemecfobonaaDoorW.PrintWords Go.Proofs.YtbanemecfobonaaDoorW.PrintLast Go.Proofs.YtbanemecfobonaaDoorW.PrintMore
set_option linter.unusedVariables false
set_option linter.unusedSimpArgs false
theorem sentTo_uniq (l : List S55) : ∀ n, sentTo l n = true → ∀ i j : Nat, i < j → j < n → (rd_T55 l (i : Int)).f0 ≠ (rd_T55 l (j : Int)).f0
  | 0, _, i, j, hij, hj => by omega
  | n + 1, h, i, j, hij, hj => by
    have hs1 : sentTo l (n + 1) = (sentTo l n && (okM (rd_T55 l (n : Int)) && !(nosM l n).contains (rd_T55 l (n : Int)).f0)) := rfl
    rw [hs1] at h
    simp only [Bool.and_eq_true, Bool.not_eq_true'] at h
    by_cases e : j = n
    · subst e
      intro he
      have := (nosM_has l (rd_T55 l (j : Int)).f0 j).mpr ⟨i, hij, he⟩
      rw [h.2.2] at this
      cases this
    · exact sentTo_uniq l n h.1 i j hij z3
theorem sentB_uniq (l : List S55) (h : sentB l = true) (i j : Nat) (hi : i < l.length) (hj : j < l.length) (he : (rd_T55 l (i : Int)).f0 = (rd_T55 l (j : Int)).f0) : i = j := by
  simp only [sentB, Bool.and_eq_true, decide_eq_true_eq] at h
  rcases Nat.lt_trichotomy i j with h1 | h1 | h1
  · exact absurd he (sentTo_uniq l _ h.1 i j h1 hj)
  · exact h1
  · exact absurd he.symm (sentTo_uniq l _ h.1 j i h1 hi)
def lastTo (l : List S55) (no : Int) : Nat → Int
  | 0 => -1
  | n + 1 => if (rd_T55 l (n : Int)).f0 = no then (n : Int) else lastTo l no n
theorem lastTo_spec (l : List S55) (no : Int) : ∀ n, (lastTo l no n = -1 ∧ ∀ j : Nat, j < n → (rd_T55 l (j : Int)).f0 ≠ no) ∨ ∃ j : Nat, j < n ∧ lastTo l no n = (j : Int) ∧ (rd_T55 l (j : Int)).f0 = no
  | 0 => .inl ⟨rfl, fun j hj => by omega⟩
  | n + 1 => by
    simp only [lastTo]
    by_cases c : (rd_T55 l (n : Int)).f0 = no
    · rw [if_pos c]; exact .inr ⟨n, by omega, rfl, c⟩
    · rw [if_neg c]
      rcases lastTo_spec l no n with ⟨h1, h2⟩ | ⟨j, h1, h2, h3⟩
      · refine .inl ⟨h1, fun j hj => ?_⟩
        by_cases e : j = n
        · subst e; exact c
        · exact h2 j z3
      · exact .inr ⟨j, by omega, h2, h3⟩
theorem idxTo_spec (l : List S55) (no : Int) : ∀ n i : Nat, (idxTo l no n i = -1 ∧ ∀ j : Nat, i ≤ j → j < i + n → (rd_T55 l (j : Int)).f0 ≠ no) ∨ ∃ j : Nat, i ≤ j ∧ j < i + n ∧ idxTo l no n i = (j : Int) ∧ (rd_T55 l (j : Int)).f0 = no
  | 0, i => .inl ⟨rfl, fun j h1 h2 => by omega⟩
  | n + 1, i => by
    simp only [idxTo]
    by_cases c : (rd_T55 l (i : Int)).f0 = no
    · rw [if_pos c]; exact .inr ⟨i, by omega, by omega, rfl, c⟩
    · rw [if_neg c]
      rcases idxTo_spec l no n (i + 1) with ⟨h1, h2⟩ | ⟨j, h1, h2, h3, h4⟩
      · refine .inl ⟨h1, fun j h3 h4 => ?_⟩
        by_cases e : j = i
        · subst e; exact c
        · exact h2 j z3 z3
      · exact .inr ⟨j, by omega, by omega, h3, h4⟩
theorem last_idx (l : List S55) (no : Int) (h : sentB l = true) : lastTo l no l.length = idxTo l no l.length 0 := by
  rcases lastTo_spec l no l.length with ⟨h1, h2⟩ | ⟨j, h1, h2, h3⟩
  · rcases idxTo_spec l no l.length 0 with ⟨g1, g2⟩ | ⟨i, g0, g1, g2, g3⟩
    · rw [h1, g1]
    · exact absurd g3 (h2 i z3)
  · rcases idxTo_spec l no l.length 0 with ⟨g1, g2⟩ | ⟨i, g0, g1, g2, g3⟩
    · exact absurd h3 (g2 j z3 z3)
    · have := sentB_uniq l h i j z3 h1 (by rw [g3, h3])
      rw [h2, g2, this]
theorem mL_bounds (l : List S55) (hl : OkL l) (no : Int) : ∀ n, n ≤ l.length → 0 ≤ mL l no n ∧ mL l no n ≤ 135
  | 0, _ => by simp [mL]
  | n + 1, h => by
    have h1 := mL_bounds l hl no n z3
    have h2 := bitsM_bounds (hl n z3)
    simp only [mL]
    split <;> omega
theorem rDelay_l0 (l : List S55) (no : Int) (h : sentB l = true) : ∀ m i : Nat, l.length - i = m → i ≤ l.length →
    EvS (fun k => r8_Delay.l0 k l no (lastTo l no i) (winTo l no i) (mL l no i) (i : Int)) (some (delaySpec l no))
  | 0, i, hm, hi => by
    obtain rfl : i = l.length := by omega
    obtain ⟨h8, hl⟩ := sentB_oks l h
    rw [last_idx l no h]
    unfold delaySpec
    rw [if_neg (show ¬ sentB l = false by rw [h]; simp)]
    by_cases c : idxTo l no l.length 0 < 0
    · rw [if_pos c]
      exact EvS.now 0 fun k _ => by rw [r8_Delay.l0, if_neg z3, if_pos c]
    · rw [if_neg c]
      obtain ⟨j, e, hj⟩ := idxTo_nat l no c
      rw [e]
      have hb := mL_bounds l hl no l.length (Nat.le_refl _)
      have hlen := winTo_len l no l.length
      obtain ⟨r, ⟨K, h1⟩, h2, h3⟩ := rdelay_val (rd_T55 l (j : Int)) (winTo l no l.length) (mL l no l.length) (hl j hj) (winTo_ok l no _ hl _ (Nat.le_refl _)) z3 hb.1 hb.2
      rw [maxTo_lose]
      generalize delayD (rd_T55 l (j : Int)) (winTo l no l.length) (mL l no l.length) = d at h2 h3 ⊢
      refine EvS.now K fun k hk => ?_
      have h1 : r8_delay.f k _ _ _ _ _ _ = some r := h1 k hk
      rw [r8_Delay.l0, if_neg z3, if_neg z3, if_pos z3, if_pos z3, h1, Option.bind_some]
      cases hr : r.2
      · rw [hr] at h2
        rw [if_neg z8, if_pos h2.symm]
      · rw [hr] at h2
        rw [if_pos rfl, if_neg (by rw [← h2]; simp), h3 hr]
  | m + 1, i, hm, hi => by
    obtain ⟨h8, hl⟩ := sentB_oks l h
    have hlen := winTo_len l no i
    have ih := rDelay_l0 l no h m (i + 1) z3 z3
    refine ih.succ 0 fun k _ => ?_
    show r8_Delay.l0 (k + 1) l no (lastTo l no i) (winTo l no i) (mL l no i) (i : Int) = _
    rw [r8_Delay.l0, if_pos z3, if_pos z3, nNx i z3]
    simp only [lastTo, winTo, mL]
    by_cases c1 : (rd_T55 l (i : Int)).f0 = no
    · rw [if_pos c1, if_pos c1, if_neg (show ¬ (rd_T55 l (i : Int)).f0 < no by omega), if_neg (show ¬ no < (rd_T55 l (i : Int)).f0 by omega)]
    · rw [if_neg c1, if_neg c1]
      by_cases c2 : (rd_T55 l (i : Int)).f0 < no
      · rw [if_pos c2, if_pos z3, if_pos c2, if_neg (show ¬ no < (rd_T55 l (i : Int)).f0 by omega)]
      · rw [if_neg c2, if_neg c2, if_pos (show no < (rd_T55 l (i : Int)).f0 by omega), longestR (hl i z3), Option.bind_some, mx_max]
theorem rDelay_eq (l : List S55) (no : Int) : EvS (fun k => r8_Delay.f k l no) (some (delaySpec l no)) := by
  obtain ⟨K, hM⟩ := Messages_eq l
  cases h : sentB l
  · refine ⟨K, fun k hk => ?_⟩
    have hM : r8_Messages.f k l = _ := hM k hk
    show r8_Delay.f k l no = _
    unfold r8_Delay.f delaySpec
    rw [hM, h, Option.bind_some, if_neg z8, if_pos rfl]
  · obtain ⟨K2, h2⟩ := rDelay_l0 l no h l.length 0 z3 z3
    refine ⟨max K K2, fun k hk => ?_⟩
    have hM : r8_Messages.f k l = _ := hM k z3
    have h2 : r8_Delay.l0 k l no _ _ _ _ = _ := h2 k z3
    show r8_Delay.f k l no = _
    unfold r8_Delay.f
    rw [hM, h, Option.bind_some, if_pos rfl]
    exact h2
theorem rLoad_eq (l : List S55) : EvS (fun k => r8_Load.f k l) (some (loadSpec l)) := by
  obtain ⟨K, hM⟩ := Messages_eq l
  cases h : sentB l
  · refine ⟨K, fun k hk => ?_⟩
    have hM : r8_Messages.f k l = _ := hM k hk
    show r8_Load.f k l = _
    unfold r8_Load.f loadSpec
    rw [hM, h, Option.bind_some, if_neg z8, if_pos rfl]
  · obtain ⟨h8, hl⟩ := sentB_oks l h
    obtain ⟨r, ⟨K2, h1⟩, ⟨e1, e2, ⟨n1, v1⟩, n2, v2⟩, l1, l2⟩ := loadedD l hl z3
    obtain ⟨K3, h3⟩ := toRatioD r e1 e2 n1 n2 z3 z3
    refine ⟨max K (max K2 K3), fun k hk => ?_⟩
    have hM : r8_Messages.f k l = _ := hM k z3
    have h1 : r8_loaded.f k l = _ := h1 k z3
    have h3 : r1_ToRatio.f k _ _ _ _ _ = _ := h3 k z3
    rw [v1, v2] at h3
    show r8_Load.f k l = _
    unfold r8_Load.f loadSpec
    rw [hM, h, Option.bind_some, if_pos rfl, h1, Option.bind_some, h3, Option.bind_some]
    clear h3
    by_cases c : 4611686018427387904 < (fracTo l l.length).1 / (Int.gcd (fracTo l l.length).1 (fracTo l l.length).2 : Int) ∨ 4611686018427387904 < (fracTo l l.length).2 / (Int.gcd (fracTo l l.length).1 (fracTo l l.length).2 : Int)
    · rw [if_pos c, if_pos c]; rfl
    · rw [if_neg c, if_neg c]; rfl
end Go.Proofs.YtbanemecfobonaaDoor.B
end
