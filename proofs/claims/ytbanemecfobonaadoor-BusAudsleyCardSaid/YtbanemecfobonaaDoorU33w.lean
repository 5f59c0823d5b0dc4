/- Written by a program (lite.py) from my texts. -/
import Derived.Test.YtbanemecfobonaaDoorGVw
namespace Go.Proofs.YtbanemecfobonaaDoor.B
open Go.RowKit Go.Proofs.YtbanemecfobonaaDoorW.PrintWords Go.Proofs.YtbanemecfobonaaDoorW.PrintLast Go.Proofs.YtbanemecfobonaaDoorW.PrintMore
set_option linter.unusedVariables false
set_option linter.unusedSimpArgs false
def selL (l : List S55) (P : Nat → Bool) : Nat → List S55
  | 0 => []
  | n + 1 => if P n = true then selL l P n ++ [rd_T55 l (n : Int)] else selL l P n
def selS (f : S55 → Int) (l : List S55) (P : Nat → Bool) : Nat → Int
  | 0 => 0
  | n + 1 => selS f l P n + if P n = true then f (rd_T55 l (n : Int)) else 0
def selF (l : List S55) (P : Nat → Bool) : Nat → Int × Int
  | 0 => (0, 1)
  | n + 1 => if P n = true then frS (selF l P n) (rd_T55 l (n : Int)) else selF l P n
theorem selL_ok (l : List S55) (P : Nat → Bool) (m : Nat) (h : ∀ i, i < m → okM (rd_T55 l (i : Int)) = true) : ∀ n, n ≤ m → ∀ k, k < (selL l P n).length → okM (rd_T55 (selL l P n) (k : Int)) = true
  | 0, _, k, hk => by simp [selL] at hk
  | n + 1, hn, k, hk => by
    have ih := selL_ok l P m h n z3
    simp only [selL] at hk ⊢
    split at hk
    · rename_i hc
      rw [if_pos hc, rd_T55_snoc]
      split
      · exact h n z3
      · exact ih k (by rw [List.length_append, List.length_singleton] at hk; omega)
    · rename_i hc
      rw [if_neg hc]; exact ih k hk
theorem sumI_sel (f : S55 → Int) (l : List S55) (P : Nat → Bool) : ∀ n, sumI f (selL l P n) (selL l P n).length = selS f l P n
  | 0 => rfl
  | n + 1 => by
    have ih := sumI_sel f l P n
    simp only [selL, selS]
    by_cases c : P n = true
    · rw [if_pos c, if_pos c, sumI_snoc, ih]
    · rw [if_neg c, if_neg c, ih]; omega
theorem fracTo_sel (l : List S55) (P : Nat → Bool) : ∀ n, fracTo (selL l P n) (selL l P n).length = selF l P n
  | 0 => rfl
  | n + 1 => by
    have ih := fracTo_sel l P n
    simp only [selL, selF]
    by_cases c : P n = true
    · rw [if_pos c, if_pos c, fracTo_snoc, ih]
    · rw [if_neg c, if_neg c, ih]
theorem selS_drop (f : S55 → Int) (l : List S55) (P : Nat → Bool) (b : Nat) : ∀ n, selS f l (fun t => P t && t != b) n = selS f l P n - if b < n ∧ P b = true then f (rd_T55 l (b : Int)) else 0
  | 0 => by rw [if_neg z3]; rfl
  | n + 1 => by
    have ih := selS_drop f l P b n
    have e1 : selS f l (fun t => P t && t != b) (n + 1) = selS f l (fun t => P t && t != b) n + if (P n && n != b) = true then f (rd_T55 l (n : Int)) else 0 := rfl
    have e2 : selS f l P (n + 1) = selS f l P n + if P n = true then f (rd_T55 l (n : Int)) else 0 := rfl
    rw [e1, e2, ih]
    by_cases h1 : n = b
    · subst h1
      rw [if_neg (show ¬ (P n && n != n) = true by simp), if_neg (show ¬ (n < n ∧ P n = true) by omega)]
      by_cases c : P n = true
      · rw [if_pos c, if_pos ⟨by omega, c⟩]; omega
      · rw [if_neg c, if_neg (fun h => c h.2)]; omega
    · have e : ((P n && n != b) = true) ↔ (P n = true) := by simp [h1]
      by_cases h2 : b < n ∧ P b = true
      · rw [if_pos h2, if_pos (show b < n + 1 ∧ P b = true from ⟨by omega, h2.2⟩)]
        by_cases c : P n = true
        · rw [if_pos c, if_pos (e.mpr c)]; omega
        · rw [if_neg c, if_neg (fun h => c (e.mp h))]; omega
      · rw [if_neg h2, if_neg (show ¬ (b < n + 1 ∧ P b = true) from fun h => h2 ⟨by omega, h.2⟩)]
        by_cases c : P n = true
        · rw [if_pos c, if_pos (e.mpr c)]; omega
        · rw [if_neg c, if_neg (fun h => c (e.mp h))]; omega
theorem selF_pos (l : List S55) (hl : OkL l) (P : Nat → Bool) : ∀ n, n ≤ l.length → PosQ (selF l P n)
  | 0, _ => by unfold PosQ selF; decide
  | n + 1, h => by
    have ih := selF_pos l hl P n z3
    simp only [selF]
    split
    · exact ih.frS (hl n z3)
    · exact ih
theorem selF_le (l : List S55) (hl : OkL l) (P P' : Nat → Bool) (h : ∀ t, P t = true → P' t = true) : ∀ n, n ≤ l.length → FracLe (selF l P n) (selF l P' n)
  | 0, _ => Int.le_refl _
  | n + 1, hn => by
    have ih := selF_le l hl P P' h n z3
    simp only [selF]
    by_cases c : P n = true
    · rw [if_pos c, if_pos (h n c)]
      exact fracLe_step ih (selF_pos l hl P n z3) (selF_pos l hl P' n z3) (hl n z3) (hl n z3) rfl (Int.le_refl _)
    · rw [if_neg c]
      split
      · exact fracLe_grow ih (selF_pos l hl P n z3) (selF_pos l hl P' n z3) (hl n z3)
      · exact ih
def dlP (l : List S55) (P : Nat → Bool) (b : Int) (i : Nat) : Int × Bool := delayD (rd_T55 l (i : Int)) (selL l P l.length) b
theorem instW_ge1 {x : S55} (h : okM x = true) {t : Int} (h0 : 0 ≤ t) : 1 ≤ instW x t := by
  obtain ⟨_, _, _, _, p1, _, p3, _⟩ := okM_bounds h
  have := Int.ediv_nonneg (show 0 ≤ t + x.f3 by omega) (show 0 ≤ x.f2 by omega)
  unfold instW; omega
theorem dlP_drop (l : List S55) (hl : OkL l) (P : Nat → Bool) (b : Int) (hb : 0 ≤ b) (i z : Nat) (hi : i < l.length) (hz : z < l.length) (hP : P i = true) (h : (dlP l P b z).2 = true) :
    (dlP l (fun t => P t && t != i) (max b (bitsM (rd_T55 l (i : Int)))) z).2 = true ∧ (dlP l (fun t => P t && t != i) (max b (bitsM (rd_T55 l (i : Int)))) z).1 ≤ (dlP l P b z).1 := by
  (have hx := hl z hz); (have hC := bitsM_bounds (hl i hi)); (have hw := selL_ok l P l.length hl l.length (Nat.le_refl _)); (have hw' := selL_ok l (fun t => P t && t != i) l.length hl l.length (Nat.le_refl _))
  have hsw : ∀ t, 0 ≤ t → max b (bitsM (rd_T55 l (i : Int))) + sumI (fun o => instW o t * bitsM o) (selL l (fun t => P t && t != i) l.length) (selL l (fun t => P t && t != i) l.length).length ≤ b + sumI (fun o => instW o t * bitsM o) (selL l P l.length) (selL l P l.length).length := fun t ht => by
    rw [sumI_sel, sumI_sel, selS_drop, if_pos ⟨hi, hP⟩]
    have h1 : 1 * bitsM (rd_T55 l (i : Int)) ≤ instW (rd_T55 l (i : Int)) t * bitsM (rd_T55 l (i : Int)) := Int.mul_le_mul_of_nonneg_right (instW_ge1 (hl i hi) ht) z3
    omega
  have hsb : ∀ t, 1 ≤ t → max b (bitsM (rd_T55 l (i : Int))) + sumI (fun o => inst o t * bitsM o) (selL l (fun t => P t && t != i) l.length) (selL l (fun t => P t && t != i) l.length).length ≤ b + sumI (fun o => inst o t * bitsM o) (selL l P l.length) (selL l P l.length).length := fun t ht => by
    rw [sumI_sel, sumI_sel, selS_drop, if_pos ⟨hi, hP⟩]
    have h1 : 1 * bitsM (rd_T55 l (i : Int)) ≤ inst (rd_T55 l (i : Int)) t * bitsM (rd_T55 l (i : Int)) := Int.mul_le_mul_of_nonneg_right (inst_pos (hl i hi) ht) z3
    omega
  (refine Worse.delayD (x := rd_T55 l (z : Int)) (y := rd_T55 l (z : Int)) ⟨hx, hx, hw', hw, by omega, hb, rfl, Int.le_refl _, Int.le_refl _, hsb, hsw, ?_⟩ h); rw [fracTo_cons, fracTo_cons, fracTo_sel, fracTo_sel]; (have p := selF_pos l hl (fun t => P t && t != i) l.length (Nat.le_refl _)); (have q := selF_pos l hl P l.length (Nat.le_refl _)); (exact fracLe_full (fracLe_step (selF_le l hl _ P (fun t ht => by simp at ht; exact ht.1) l.length (Nat.le_refl _)) p q hx hx rfl (Int.le_refl _)) (p.frS hx) (q.frS hx))
def canB (l : List S55) (lims : List Int) (Q : Nat → Bool) (b : Int) (i : Nat) : Bool := Q i && (dlP l (fun t => Q t && t != i) b i).2 && decide ((dlP l (fun t => Q t && t != i) b i).1 ≤ rd lims (i : Int))
def firstP (c : Nat → Bool) : Nat → Nat → Option Nat
  | 0, i => none
  | n + 1, i => if c i = true then some i else firstP c n (i + 1)
def orderS (l : List S55) (lims : List Int) : Nat → (Nat → Bool) → Int → List Int → List Int × Int
  | 0, Q, b, out => (out, 0)
  | n + 1, Q, b, out => match firstP (canB l lims Q b) l.length 0 with
    | none => ([], 10)
    | some i => orderS l lims n (fun t => Q t && t != i) (max b (bitsM (rd_T55 l (i : Int)))) ((i : Int) :: out)
theorem firstP_spec (c : Nat → Bool) : ∀ n i, (firstP c n i = none ∧ ∀ t, i ≤ t → t < i + n → c t = false) ∨ ∃ t, firstP c n i = some t ∧ i ≤ t ∧ t < i + n ∧ c t = true ∧ ∀ s, i ≤ s → s < t → c s = false
  | 0, i => .inl ⟨rfl, fun t h1 h2 => by omega⟩
  | n + 1, i => by
    simp only [firstP]
    by_cases h : c i = true
    · rw [if_pos h]; exact .inr ⟨i, rfl, Nat.le_refl _, by omega, h, fun s h1 h2 => by omega⟩
    · rw [if_neg h]
      have h' : c i = false := by simpa using h
      rcases firstP_spec c n (i + 1) with ⟨h1, h2⟩ | ⟨t, h1, h2, h3, h4, h5⟩
      · refine .inl ⟨h1, fun t h3 h4 => ?_⟩
        by_cases e : t = i
        · subst e; exact h'
        · exact h2 t z3 z3
      · refine .inr ⟨t, h1, by omega, by omega, h4, fun s h6 h7 => ?_⟩
        by_cases e : s = i
        · subst e; exact h'
        · exact h5 s z3 h7
def GoodOrd (l : List S55) (lims : List Int) : List Nat → (Nat → Bool) → Int → Prop
  | [], Q, b => ∀ t, t < l.length → Q t = false
  | i :: rest, Q, b => i < l.length ∧ canB l lims Q b i = true ∧ GoodOrd l lims rest (fun t => Q t && t != i) (max b (bitsM (rd_T55 l (i : Int))))
theorem canB_Q {l : List S55} {lims : List Int} {Q : Nat → Bool} {b : Int} {i : Nat} (h : canB l lims Q b i = true) : Q i = true := by
  unfold canB at h
  simp only [Bool.and_eq_true] at h
  exact h.1.1
theorem drop_comm (Q : Nat → Bool) (a b : Nat) : (fun t => (fun t => Q t && t != a) t && t != b) = (fun t => (fun t => Q t && t != b) t && t != a) := by
  funext t
  simp only
  cases Q t <;> cases t != a <;> cases t != b <;> rfl
theorem canB_drop {l : List S55} {lims : List Int} {Q : Nat → Bool} {b : Int} {i z : Nat} (hl : OkL l) (hb : 0 ≤ b) (hi : i < l.length) (hz : z < l.length) (hne : i ≠ z) (hQ : Q i = true) (h : canB l lims Q b z = true) :
    canB l lims (fun t => Q t && t != i) (max b (bitsM (rd_T55 l (i : Int)))) z = true := by
  unfold canB at h ⊢
  simp only [Bool.and_eq_true, decide_eq_true_eq] at h ⊢
  obtain ⟨⟨h1, h2⟩, h3⟩ := h
  have hd := dlP_drop l hl (fun t => Q t && t != z) b hb i z hi hz (by simp [hQ, hne]) h2
  have e : (fun t => (fun t => Q t && t != z) t && t != i) = (fun t => Q t && t != i && t != z) := by
    funext t
    simp only
    cases Q t <;> cases t != i <;> cases t != z <;> rfl
  rw [e] at hd
  exact ⟨⟨⟨h1, by simp; exact fun e => hne e.symm⟩, hd.1⟩, Int.le_trans hd.2 h3⟩
theorem GoodOrd.erase (l : List S55) (lims : List Int) (hl : OkL l) : ∀ (rl : List Nat) (Q : Nat → Bool) (b : Int) (i : Nat), 0 ≤ b → i < l.length → Q i = true → GoodOrd l lims rl Q b →
    ∃ rl', rl'.length + 1 = rl.length ∧ GoodOrd l lims rl' (fun t => Q t && t != i) (max b (bitsM (rd_T55 l (i : Int))))
  | [], Q, b, i, hb, hi, hQ, h => by
    have h1 : Q i = false := h i hi
    rw [hQ] at h1; cases h1
  | z :: rest, Q, b, i, hb, hi, hQ, ⟨h1, h2, h3⟩ => by
    by_cases e : i = z
    · subst e; exact ⟨rest, rfl, h3⟩
    · obtain ⟨rl', g1, g2⟩ := GoodOrd.erase l lims hl rest (fun t => Q t && t != z) (max b (bitsM (rd_T55 l (z : Int)))) i z3 hi (by simp [hQ, e]) h3
      refine ⟨z :: rl', by simp; omega, h1, canB_drop hl hb hi h1 e hQ h2, ?_⟩
      rw [drop_comm Q i z, show max (max b (bitsM (rd_T55 l (i : Int)))) (bitsM (rd_T55 l (z : Int))) = max (max b (bitsM (rd_T55 l (z : Int)))) (bitsM (rd_T55 l (i : Int))) by omega]
      exact g2
theorem orderS_finds (l : List S55) (lims : List Int) (hl : OkL l) : ∀ (n : Nat) (rl : List Nat) (Q : Nat → Bool) (b : Int) (out : List Int), rl.length = n → 0 ≤ b → GoodOrd l lims rl Q b → (orderS l lims n Q b out).2 = 0
  | 0, rl, Q, b, out, hn, hb, h => rfl
  | n + 1, [], Q, b, out, hn, hb, h => by simp at hn
  | n + 1, z :: rest, Q, b, out, hn, hb, ⟨h1, h2, h3⟩ => by
    simp only [orderS]
    rcases firstP_spec (canB l lims Q b) l.length 0 with ⟨g1, g2⟩ | ⟨i, g1, g2, g3, g4, g5⟩
    · have := g2 z z3 z3
      rw [h2] at this; cases this
    · rw [g1]
      obtain ⟨rl', e1, e2⟩ := GoodOrd.erase l lims hl (z :: rest) Q b i hb z3 (canB_Q g4) ⟨h1, h2, h3⟩
      exact orderS_finds l lims hl n rl' _ _ _ (by simp at e1 hn; omega) z3 e2
def cntQ (P : Nat → Bool) : Nat → Nat
  | 0 => 0
  | n + 1 => cntQ P n + if P n = true then 1 else 0
theorem cntQ_drop (P : Nat → Bool) (b : Nat) : ∀ n, cntQ (fun t => P t && t != b) n + (if b < n ∧ P b = true then 1 else 0) = cntQ P n
  | 0 => by rw [if_neg z3]; rfl
  | n + 1 => by
    have ih := cntQ_drop P b n
    have e1 : cntQ (fun t => P t && t != b) (n + 1) = cntQ (fun t => P t && t != b) n + if (P n && n != b) = true then 1 else 0 := rfl
    have e2 : cntQ P (n + 1) = cntQ P n + if P n = true then 1 else 0 := rfl
    rw [e1, e2, ← ih]
    by_cases h1 : n = b
    · subst h1
      rw [if_neg (show ¬ (P n && n != n) = true by simp), if_neg (show ¬ (n < n ∧ P n = true) by omega)]
      by_cases c : P n = true
      · rw [if_pos c, if_pos ⟨by omega, c⟩]
      · rw [if_neg c, if_neg (fun h => c h.2)]
    · have e : ((P n && n != b) = true) ↔ (P n = true) := by simp [h1]
      by_cases h2 : b < n ∧ P b = true
      · rw [if_pos h2, if_pos (show b < n + 1 ∧ P b = true from ⟨by omega, h2.2⟩)]
        by_cases c : P n = true
        · rw [if_pos c, if_pos (e.mpr c)]
        · rw [if_neg c, if_neg (fun h => c (e.mp h))]
      · rw [if_neg h2, if_neg (show ¬ (b < n + 1 ∧ P b = true) from fun h => h2 ⟨by omega, h.2⟩)]
        by_cases c : P n = true
        · rw [if_pos c, if_pos (e.mpr c)]
        · rw [if_neg c, if_neg (fun h => c (e.mp h))]
theorem cntQ_zero (P : Nat → Bool) : ∀ n, cntQ P n = 0 → ∀ t, t < n → P t = false
  | 0, _, t, ht => by omega
  | n + 1, h, t, ht => by
    simp only [cntQ] at h
    by_cases e : t = n
    · subst e
      cases hP : P t
      · rfl
      · rw [hP, if_pos rfl] at h; omega
    · exact cntQ_zero P n z3 t z3
theorem cntQ_all : ∀ n, cntQ (fun _ => true) n = n
  | 0 => rfl
  | n + 1 => by simp only [cntQ]; rw [cntQ_all n]; rfl
theorem orderS_good (l : List S55) (lims : List Int) : ∀ (n : Nat) (Q : Nat → Bool) (b : Int) (out : List Int), cntQ Q l.length = n → (orderS l lims n Q b out).2 = 0 → ∃ rl, rl.length = n ∧ (orderS l lims n Q b out).1 = rl.reverse.map (fun i : Nat => (i : Int)) ++ out ∧ GoodOrd l lims rl Q b
  | 0, Q, b, out, hc, h => ⟨[], rfl, rfl, cntQ_zero Q l.length hc⟩
  | n + 1, Q, b, out, hc, h => by
    simp only [orderS] at h ⊢
    rcases firstP_spec (canB l lims Q b) l.length 0 with ⟨g1, g2⟩ | ⟨i, g1, g2, g3, g4, g5⟩
    · rw [g1] at h; exact absurd (show (10 : Int) = 0 from h) z10
    · rw [g1] at h ⊢
      have hd := cntQ_drop Q i l.length
      rw [if_pos ⟨by omega, canB_Q g4⟩] at hd
      obtain ⟨rl, e1, e2, e3⟩ := orderS_good l lims n _ _ _ z3 h
      exact ⟨i :: rl, by simp [e1], by simp [e2], by omega, g4, e3⟩
theorem orderS_none (l : List S55) (lims : List Int) : ∀ (n : Nat) (Q : Nat → Bool) (b : Int) (out : List Int), (orderS l lims n Q b out).2 = 0 ∨ (orderS l lims n Q b out) = ([], 10)
  | 0, Q, b, out => .inl rfl
  | n + 1, Q, b, out => by
    simp only [orderS]
    rcases firstP_spec (canB l lims Q b) l.length 0 with ⟨g1, g2⟩ | ⟨i, g1, _⟩
    · rw [g1]; exact .inr rfl
    · rw [g1]; exact orderS_none l lims n _ _ _
end Go.Proofs.YtbanemecfobonaaDoor.B
