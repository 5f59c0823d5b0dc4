/- Written by a program (lite.py, squash.py) from my texts. -/
import Derived.Test.YtbanemecfobonaaDoorGTm
import Derived.Test.YtbanemecfobonaaDoorX8m
import Derived.Test.YtbanemecfobonaaDoorGVm
import Derived.Test.YtbanemecfobonaaDoorBMm
import Derived.Test.YtbanemecfobonaaDoorBMdm
import Derived.Test.YtbanemecfobonaaDoorU9em
import Derived.Test.YtbanemecfobonaaDoorBM0m
import Derived.Test.YtbanemecfobonaaDoorBMfm
import Derived.Test.YtbanemecfobonaaDoorBM2m
section
namespace Go.Proofs.YtbanemecfobonaaDoor.B
open Go.RowKit Go.Proofs.YtbanemecfobonaaDoorW.PrintWords Go.Proofs.YtbanemecfobonaaDoorW.PrintLast Go.Proofs.YtbanemecfobonaaDoorW.PrintMore
set_option linter.unusedVariables false
set_option linter.unusedSimpArgs false
abbrev QD := Bool × List Int × Bool × List Int
def IsR (r : QD) (N D : Int) : Prop := r.1 = false ∧ r.2.2.1 = false ∧ IsD (N / (Int.gcd N D : Int)) r.2.1 ∧ IsD (D / (Int.gcd N D : Int)) r.2.2.2
theorem IsR.cross {r : QD} {N D : Int} (h : IsR r N D) (hD : 0 < D) : vD r.2.1 * D = N * vD r.2.2.2 ∧ 0 < vD r.2.2.2 := by
  obtain ⟨h1, h2, ⟨_, h3⟩, _, h4⟩ := h
  have e1 : N / (Int.gcd N D : Int) * (Int.gcd N D : Int) = N := Int.ediv_mul_cancel (Int.gcd_dvd_left _ _)
  have e2 : D / (Int.gcd N D : Int) * (Int.gcd N D : Int) = D := Int.ediv_mul_cancel (Int.gcd_dvd_right _ _)
  have gp := gcd_pos N D hD
  rw [h3, h4]
  generalize N / (Int.gcd N D : Int) = n at *
  generalize D / (Int.gcd N D : Int) = d at *
  generalize (Int.gcd N D : Int) = g at *
  refine ⟨by rw [← e1, ← e2]; grind, ?_⟩
  rcases Int.lt_or_le 0 d with h | h
  · exact h
  · exfalso
    have : d * g ≤ 0 * g := Int.mul_le_mul_of_nonneg_right h z3
    omega
theorem lowestD (a b : List Int) (ha : nD a) (hb : nD b) (ha2 : a.length ≤ 1000) (hb2 : b.length ≤ 1000) (hb0 : 0 < vD b) :
    EvP (fun k => r1_lowest.f k false a false b) (fun r => IsR r (vD a) (vD b) ∧ r.2.1.length ≤ a.length ∧ r.2.2.2.length ≤ b.length) := by
  (have a0 := d10_vW_nonneg a ha.1); (have gp := gcd_pos (vD a) (vD b) hb0); (have gle : (Int.gcd (vD a) (vD b) : Int) ≤ vD b := Int.le_of_dvd hb0 (Int.gcd_dvd_right _ _)); (refine ((gcdD_val a b ha hb ha2 hb2).bind (g := fun k t => (r1_whole.f k false t).bind fun g => (r1_Over.f k false a g.1 g.2).bind fun p => (r1_Over.f k false b g.1 g.2).bind fun q => some (p.1, p.2.1, q.1, q.2.1)) (Q := fun r => IsR r (vD a) (vD b) ∧ r.2.1.length ≤ a.length ∧ r.2.2.2.length ≤ b.length) fun t ht => ?_).same fun k => ?_); rotate_left
  · (show r1_lowest.f k false a false b = _); (unfold r1_lowest.f r1_lowestP.f); rw [if_neg z10]
  (have tl := d10_len_le t b ht.1 hb.1 (by rw [ht.2]; omega)); (refine (dwholeP t z3 ht.1.1).bind (g := fun k g => (r1_Over.f k false a g.1 g.2).bind fun p => (r1_Over.f k false b g.1 g.2).bind fun q => some (p.1, p.2.1, q.1, q.2.1)) fun g hg => ?_); obtain ⟨g1, g2⟩ := g; obtain ⟨e, hg1, hg2⟩ := hg; (simp only at e hg1 hg2); subst e; rw [ht.2] at hg2; (have gl := d10_len_le g2 b hg1 hb.1 (by rw [hg2]; omega)); (have o1 := overD a g2 ha hg1 ha2 z3 z3); (have o2 := overD b g2 hb hg1 hb2 z3 z3); rw [hg2] at o1 o2; (refine o1.bind (g := fun k p => (r1_Over.f k false b false g2).bind fun q => some (p.1, p.2.1, q.1, q.2.1)) fun p hp => ?_); (refine o2.bind (g := fun k q => some (p.1, p.2.1, q.1, q.2.1)) fun q hq => ?_); (exact EvP.at _ (fun k => rfl) ⟨⟨hp.1, hq.1, hp.2.1, hq.2.1⟩, hp.2.2, hq.2.2⟩)
theorem fracD (n d : Int) (h0 : 0 ≤ n) (h1 : n ≤ 9223372036854775807) (h2 : 0 < d) (h3 : d ≤ 9223372036854775807) : EvP (fun k => r1_Frac.f k n d) (fun r => IsR r n d ∧ r.2.1.length ≤ 5 ∧ r.2.2.2.length ≤ 5) := by
  refine ((ofD n h0 h1).bind (g := fun k a => (r1_Of.f k d).bind fun b => (r1_lowest.f k a.1 a.2 b.1 b.2).bind fun r => some (r.1, r.2.1, r.2.2.1, r.2.2.2)) (Q := fun r => IsR r n d ∧ r.2.1.length ≤ 5 ∧ r.2.2.2.length ≤ 5) fun a ha => ?_).same fun k => rfl
  refine (ofD d z3 h3).bind (g := fun k b => (r1_lowest.f k a.1 a.2 b.1 b.2).bind fun r => some (r.1, r.2.1, r.2.2.1, r.2.2.2)) fun b hb => ?_
  obtain ⟨a1, a2⟩ := a
  obtain ⟨b1, b2⟩ := b
  obtain ⟨e1, ⟨na, va⟩, la⟩ := ha
  obtain ⟨e2, ⟨nb, vb⟩, lb⟩ := hb
  simp only at e1 na va la e2 nb vb lb
  subst e1 e2
  have h := lowestD a2 b2 na nb z3 z3 z3
  rw [va, vb] at h
  refine (h.weak (Q := fun r => IsR r n d ∧ r.2.1.length ≤ 5 ∧ r.2.2.2.length ≤ 5) fun r hr => ⟨hr.1, by omega, by omega⟩).same fun k => ?_
  cases r1_lowest.f k false a2 false b2 <;> rfl
theorem sgn_scale (a b c : Int) (hc : 0 < c) : sgnC (a * c) (b * c) = sgnC a b := by
  have key : ∀ a b : Int, (a * c < b * c ↔ a < b) := fun a b => ⟨fun h => Int.lt_of_mul_lt_mul_right h (Int.le_of_lt hc), fun h => Int.mul_lt_mul_of_pos_right h hc⟩
  unfold sgnC
  simp only [key]
theorem cmpQ (x y : QD) (Nx Dx Ny Dy : Int) (hx : IsR x Nx Dx) (hy : IsR y Ny Dy) (hDx : 0 < Dx) (hDy : 0 < Dy) (x1 : x.2.1.length ≤ 400) (x2 : x.2.2.2.length ≤ 400) (y1 : y.2.1.length ≤ 400) (y2 : y.2.2.2.length ≤ 400) :
    EvS (fun k => r1_Cmp.f k x.1 x.2.1 x.2.2.1 x.2.2.2 y.1 y.2.1 y.2.2.1 y.2.2.2) (some (sgnC (Nx * Dy) (Ny * Dx))) := by
  (obtain ⟨cx, px⟩ := hx.cross hDx); (obtain ⟨cy, py⟩ := hy.cross hDy); obtain ⟨x01, x02, x03, x04⟩ := x; obtain ⟨y01, y02, y03, y04⟩ := y; obtain ⟨e1, e2, ⟨n1, v1⟩, n2, v2⟩ := hx; obtain ⟨e3, e4, ⟨n3, v3⟩, n4, v4⟩ := hy; (simp only at e1 e2 e3 e4 n1 n2 n3 n4 x1 x2 y1 y2 cx cy px py); subst e1 e2 e3 e4; clear v1 v2 v3 v4; (simp only); (obtain ⟨⟨a1, a2⟩, ha, e, ⟨na, va⟩, la⟩ := timesD x02 y04 n1 n4 z3 z3); (simp only at e na va la); subst e; (obtain ⟨⟨b1, b2⟩, hb, e, ⟨nb, vb⟩, lb⟩ := timesD y02 x04 n3 n2 z3 z3); (simp only at e nb vb lb); subst e; (have hc := compareD a2 b2 na nb z3 z3)
  have es : sgnC (vD a2) (vD b2) = sgnC (Nx * Dy) (Ny * Dx) := by
    rw [va, vb, ← sgn_scale _ _ (Dx * Dy) (Int.mul_pos hDx hDy), ← sgn_scale (Nx * Dy) _ (vD x04 * vD y04) (Int.mul_pos px py)]
    have e1 : vD x02 * vD y04 * (Dx * Dy) = Nx * Dy * (vD x04 * vD y04) := by
      have : vD x02 * vD y04 * (Dx * Dy) = (vD x02 * Dx) * (vD y04 * Dy) := by grind
      rw [this, cx]; grind
    have e2 : vD y02 * vD x04 * (Dx * Dy) = Ny * Dx * (vD x04 * vD y04) := by
      have : vD y02 * vD x04 * (Dx * Dy) = (vD y02 * Dy) * (vD x04 * Dx) := by grind
      rw [this, cy]; grind
    rw [e1, e2]
  rw [es] at hc; (refine (ha.bind (g := fun k a => (r1_Times.f k false y02 false x04).bind fun b => (r1_Compare.f k a.1 a.2 b.1 b.2).bind fun t => some t) (hb.bind (g := fun k b => (r1_Compare.f k false a2 b.1 b.2).bind fun t => some t) (hc.bind (g := fun k t => some t) ⟨0, fun _ _ => rfl⟩))).same fun k => rfl)
end Go.Proofs.YtbanemecfobonaaDoor.B
end
section
namespace Go.Proofs.YtbanemecfobonaaDoor.B
open Go.RowKit Go.Proofs.YtbanemecfobonaaDoorW.PrintWords Go.Proofs.YtbanemecfobonaaDoorW.PrintLast Go.Proofs.YtbanemecfobonaaDoorW.PrintMore
set_option linter.unusedVariables false
set_option linter.unusedSimpArgs false
theorem mx_max (a b : Int) : mx a b = max a b := by unfold mx; split <;> omega
end Go.Proofs.YtbanemecfobonaaDoor.B
end
section
namespace Go.Proofs.YtbanemecfobonaaDoor.B
open Go.RowKit Go.Proofs.YtbanemecfobonaaDoorW.PrintWords Go.Proofs.YtbanemecfobonaaDoorW.PrintLast Go.Proofs.YtbanemecfobonaaDoorW.PrintMore
set_option linter.unusedVariables false
set_option linter.unusedSimpArgs false
theorem nosM_has (l : List S55) (x : Int) : ∀ n, (nosM l n).contains x = true ↔ ∃ t, t < n ∧ (rd_T55 l (t : Int)).f0 = x
  | 0 => by simp [nosM]
  | n + 1 => by
    have e : nosM l (n + 1) = (rd_T55 l (n : Int)).f0 :: nosM l n := rfl
    rw [e, List.contains_cons, Bool.or_eq_true, nosM_has l x n]
    constructor
    · rintro (h | ⟨t, h1, h2⟩)
      · exact ⟨n, by omega, (by simpa using h : x = _).symm⟩
      · exact ⟨t, by omega, h2⟩
    · rintro ⟨t, h1, h2⟩
      by_cases ht : t = n
      · subst ht
        exact .inl (by simpa using h2.symm)
      · exact .inr ⟨t, by omega, h2⟩
theorem okM_iff (x : S55) : okM x = true ↔ 0 ≤ x.f0 ∧ x.f0 ≤ 2047 ∧ 0 ≤ x.f1 ∧ x.f1 ≤ 8 ∧ 1 ≤ x.f2 ∧ x.f2 ≤ 100000 ∧ 0 ≤ x.f3 ∧ x.f3 ≤ 100000 := by
  simp only [okM, Bool.and_eq_true, decide_eq_true_eq, and_assoc]
theorem msg_l1 (l : List S55) (i : Nat) (hi : i ≤ l.length) (hl : l.length ≤ 1000) (a b c d : Int) (r : Option Bool) (h : EvS (fun k => r8_Messages.l0 k l ((i + 1 : Nat) : Int)) r) : ∀ m j, i - j = m → j ≤ i → (∀ t, j ≤ t → t < i → (rd_T55 l (t : Int)).f0 ≠ a) → EvS (fun k => r8_Messages.l1 k l (i : Int) (j : Int) a b c d) r
  | 0, j, hm, hj, hno => by
    obtain rfl : j = i := by omega
    refine h.succ 0 fun k _ => ?_
    rw [r8_Messages.l1, if_neg z3, nNx j z3]
  | m + 1, j, hm, hj, hno => by
    refine (msg_l1 l i hi hl a b c d r h m (j + 1) z3 z3 (fun t h1 h2 => hno t z3 h2)).succ 0 fun k _ => ?_
    rw [r8_Messages.l1, if_pos z3, if_pos z3, if_pos z3, if_neg (hno j (Nat.le_refl _) z3), nNx j z3]
theorem msg_l1_bad (l : List S55) (i : Nat) (hi : i ≤ l.length) (hl : l.length ≤ 1000) (a b c d : Int) : ∀ m j, i - j = m → (∃ t, j ≤ t ∧ t < i ∧ (rd_T55 l (t : Int)).f0 = a) → EvS (fun k => r8_Messages.l1 k l (i : Int) (j : Int) a b c d) (some false)
  | 0, j, hm, ⟨t, h1, h2, h3⟩ => by omega
  | m + 1, j, hm, ⟨t, h1, h2, h3⟩ => by
    by_cases hj : (rd_T55 l (j : Int)).f0 = a
    · refine EvS.now 0 fun k _ => ?_
      rw [r8_Messages.l1, if_pos z3, if_pos z3, if_pos z3, if_pos hj]
    · have hne : t ≠ j := fun e => hj (by rw [← e]; exact h3)
      refine (msg_l1_bad l i hi hl a b c d m (j + 1) z3 ⟨t, by omega, h2, h3⟩).succ 0 fun k _ => ?_
      rw [r8_Messages.l1, if_pos z3, if_pos z3, if_pos z3, if_neg hj, nNx j z3]
theorem msg_l0_eq (l : List S55) (i : Nat) (hi : i < l.length) (k : Nat) : r8_Messages.l0 (k + 1) l (i : Int) = r8_Messages.j1 k l (i : Int) (!okM (rd_T55 l (i : Int))) (rd_T55 l (i : Int)).f0 (rd_T55 l (i : Int)).f1 (rd_T55 l (i : Int)).f2 (rd_T55 l (i : Int)).f3 := by
  rw [r8_Messages.l0, if_pos z3, if_pos z3]
  generalize rd_T55 l (i : Int) = x
  cases ho : okM x
  · have hn : ¬ (0 ≤ x.f0 ∧ x.f0 ≤ 2047 ∧ 0 ≤ x.f1 ∧ x.f1 ≤ 8 ∧ 1 ≤ x.f2 ∧ x.f2 ≤ 100000 ∧ 0 ≤ x.f3 ∧ x.f3 ≤ 100000) := fun h => by
      rw [(okM_iff x).2 h] at ho; cases ho
    by_cases c1 : x.f0 < 0
    · rw [if_pos c1]; rfl
    rw [if_neg c1]
    by_cases c2 : x.f0 > 2047
    · rw [if_pos c2]; rfl
    rw [if_neg c2]
    by_cases c3 : x.f1 < 0
    · rw [if_pos c3]; rfl
    rw [if_neg c3]
    by_cases c4 : x.f1 > 8
    · rw [if_pos c4]; rfl
    rw [if_neg c4]
    by_cases c5 : x.f2 < 1
    · rw [if_pos c5]; rfl
    rw [if_neg c5]
    by_cases c6 : x.f2 > 100000
    · rw [if_pos c6]; rfl
    rw [if_neg c6]
    by_cases c7 : x.f3 < 0
    · rw [if_pos c7]; rfl
    rw [if_neg c7, dT (by omega : x.f3 > 100000)]; rfl
  · obtain ⟨h0, h1, h2, h3, h4, h5, h6, h7⟩ := (okM_iff x).1 ho
    rw [if_neg z3, if_neg z3, if_neg z3, if_neg z3, if_neg z3, if_neg z3, if_neg z3, dF (by omega : ¬ x.f3 > 100000)]; rfl
theorem msg_l0 (l : List S55) (hl : l.length ≤ 1000) : ∀ m i, l.length - i = m → i ≤ l.length → sentTo l i = true → EvS (fun k => r8_Messages.l0 k l (i : Int)) (some (sentTo l l.length))
  | 0, i, hm, hi, hs => by
    obtain rfl : i = l.length := by omega
    refine EvS.now 0 fun k _ => ?_
    rw [r8_Messages.l0, if_neg z3, hs]
  | m + 1, i, hm, hi, hs => by
    have hs1 : sentTo l (i + 1) = (sentTo l i && (okM (rd_T55 l (i : Int)) && !(nosM l i).contains (rd_T55 l (i : Int)).f0)) := rfl
    cases ho : okM (rd_T55 l (i : Int))
    · have hb : sentTo l (i + 1) = false := by rw [hs1, ho]; simp
      refine EvS.succ (g := fun k => r8_Messages.j1 k l (i : Int) true (rd_T55 l (i : Int)).f0 (rd_T55 l (i : Int)).f1 (rd_T55 l (i : Int)).f2 (rd_T55 l (i : Int)).f3) (EvS.now 0 fun k _ => ?_) 0 fun k _ => ?_
      · rw [r8_Messages.j1, if_pos rfl, sentTo_mono l _ hb l.length z3]
      · rw [msg_l0_eq l i z3, ho]; rfl
    · cases hc : (nosM l i).contains (rd_T55 l (i : Int)).f0
      · have hg : sentTo l (i + 1) = true := by rw [hs1, hs, ho, hc]; rfl
        have ih := msg_l0 l hl m (i + 1) z3 z3 hg
        have hno : ∀ t, 0 ≤ t → t < i → (rd_T55 l (t : Int)).f0 ≠ (rd_T55 l (i : Int)).f0 := fun t _ ht e => by
          rw [(nosM_has l _ i).2 ⟨t, ht, e⟩] at hc; cases hc
        have h1 := msg_l1 l i z3 hl (rd_T55 l (i : Int)).f0 (rd_T55 l (i : Int)).f1 (rd_T55 l (i : Int)).f2 (rd_T55 l (i : Int)).f3 _ ih i 0 z3 z3 hno
        refine EvS.succ (g := fun k => r8_Messages.j1 k l (i : Int) false (rd_T55 l (i : Int)).f0 (rd_T55 l (i : Int)).f1 (rd_T55 l (i : Int)).f2 (rd_T55 l (i : Int)).f3) (h1.succ 0 fun k _ => ?_) 0 fun k _ => ?_
        · rw [r8_Messages.j1, if_neg (by simp)]; rfl
        · rw [msg_l0_eq l i z3, ho]; rfl
      · have hb : sentTo l (i + 1) = false := by rw [hs1, hc]; simp
        obtain ⟨t, h1, h2⟩ := (nosM_has l _ i).1 hc
        have h3 := msg_l1_bad l i z3 hl (rd_T55 l (i : Int)).f0 (rd_T55 l (i : Int)).f1 (rd_T55 l (i : Int)).f2 (rd_T55 l (i : Int)).f3 i 0 z3 ⟨t, by omega, h1, h2⟩
        rw [sentTo_mono l _ hb l.length z3]
        refine EvS.succ (g := fun k => r8_Messages.j1 k l (i : Int) false (rd_T55 l (i : Int)).f0 (rd_T55 l (i : Int)).f1 (rd_T55 l (i : Int)).f2 (rd_T55 l (i : Int)).f3) (h3.succ 0 fun k _ => ?_) 0 fun k _ => ?_
        · rw [r8_Messages.j1, if_neg (by simp)]; rfl
        · rw [msg_l0_eq l i z3, ho]; rfl
theorem Messages_eq (l : List S55) : EvS (fun k => r8_Messages.f k l) (some (sentB l)) := by
  by_cases h8 : l.length ≤ 8
  · have e : sentB l = sentTo l l.length := by unfold sentB; rw [dT h8, Bool.and_true]
    rw [e]
    refine (msg_l0 l z3 l.length 0 z3 z3 rfl).same fun k => ?_
    show r8_Messages.f k l = _
    unfold r8_Messages.f
    rw [if_neg z3]; rfl
  · have e : sentB l = false := by unfold sentB; rw [dF h8, Bool.and_false]
    rw [e]
    exact ⟨0, fun k _ => by show r8_Messages.f k l = _; unfold r8_Messages.f; rw [if_pos z3]⟩
end Go.Proofs.YtbanemecfobonaaDoor.B
end
section
namespace Go.Proofs.YtbanemecfobonaaDoor.B
open Go.RowKit Go.Proofs.YtbanemecfobonaaDoorW.PrintWords Go.Proofs.YtbanemecfobonaaDoorW.PrintLast Go.Proofs.YtbanemecfobonaaDoorW.PrintMore
set_option linter.unusedVariables false
set_option linter.unusedSimpArgs false
end Go.Proofs.YtbanemecfobonaaDoor.B
end
