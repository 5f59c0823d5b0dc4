/- Written by a program (lite.py) from my texts. -/
import Derived.Test.YtbanemecfobonaaDoorU33w
import Derived.Test.YtbanemecfobonaaDoorU32w
import Derived.Test.YtbanemecfobonaaDoorBL2w
namespace Go.Proofs.YtbanemecfobonaaDoor.B
open Go.RowKit Go.Proofs.YtbanemecfobonaaDoorW.PrintWords Go.Proofs.YtbanemecfobonaaDoorW.PrintLast Go.Proofs.YtbanemecfobonaaDoorW.PrintMore
set_option linter.unusedVariables false
set_option linter.unusedSimpArgs false
def limTo (lims : List Int) : Nat → Bool
  | 0 => true
  | n + 1 => limTo lims n && (decide (0 ≤ rd lims (n : Int)) && decide (rd lims (n : Int) ≤ 10000000))
def orderSpec (l : List S55) (lims : List Int) : List Int × Int :=
  if sentB l = false ∨ lims.length ≠ l.length ∨ limTo lims lims.length = false then ([], 2) else orderS l lims l.length (fun _ => true) 0 []
theorem selL_congr (l : List S55) (P P' : Nat → Bool) : ∀ n, (∀ t, t < n → P t = P' t) → selL l P n = selL l P' n
  | 0, _ => rfl
  | n + 1, h => by simp only [selL]; rw [selL_congr l P P' n (fun t ht => h t z3), h n z3]
theorem dlP_congr (l : List S55) (P P' : Nat → Bool) (b : Int) (i : Nat) (h : ∀ t, t < l.length → P t = P' t) : dlP l P b i = dlP l P' b i := by
  unfold dlP; rw [selL_congr l P P' _ h]
theorem canB_congr (l : List S55) (lims : List Int) (Q Q' : Nat → Bool) (b : Int) (i : Nat) (hi : i < l.length) (h : ∀ t, t < l.length → Q t = Q' t) : canB l lims Q b i = canB l lims Q' b i := by
  unfold canB
  rw [h i hi, dlP_congr l (fun t => Q t && t != i) (fun t => Q' t && t != i) b i (fun t ht => by rw [h t ht])]
theorem GoodOrd.congr (l : List S55) (lims : List Int) : ∀ (rl : List Nat) (Q Q' : Nat → Bool) (b : Int), (∀ t, t < l.length → Q t = Q' t) → GoodOrd l lims rl Q b → GoodOrd l lims rl Q' b
  | [], Q, Q', b, h, g => fun t ht => by rw [← h t ht]; exact g t ht
  | i :: rest, Q, Q', b, h, ⟨g1, g2, g3⟩ => ⟨g1, by rw [← canB_congr l lims Q Q' b i g1 h]; exact g2, GoodOrd.congr l lims rest _ _ _ (fun t ht => by rw [h t ht]) g3⟩
def mxS (l : List S55) (P : Nat → Bool) : Nat → Int
  | 0 => 0
  | n + 1 => if P n = true then max (mxS l P n) (bitsM (rd_T55 l (n : Int))) else mxS l P n
theorem mxS_none (l : List S55) (P : Nat → Bool) : ∀ n, (∀ t, t < n → P t = false) → mxS l P n = 0
  | 0, _ => rfl
  | n + 1, h => by simp only [mxS]; rw [mxS_none l P n (fun t ht => h t z3), h n z3]; rfl
theorem mxS_add (l : List S55) (P P' : Nat → Bool) (i : Nat) (h0 : P i = false) : ∀ n, (∀ t, t < n → P' t = (P t || t == i)) → mxS l P' n = if i < n then max (mxS l P n) (bitsM (rd_T55 l (i : Int))) else mxS l P n
  | 0, _ => by rw [if_neg z3]; rfl
  | n + 1, h => by
    have ih := mxS_add l P P' i h0 n (fun t ht => h t z3)
    simp only [mxS]
    rw [ih, h n z3]
    by_cases e : n = i
    · subst e
      rw [h0, if_neg (show ¬ n < n by omega), if_pos (show n < n + 1 by omega)]
      simp
    · have e2 : (P n || n == i) = P n := by simp [e]
      rw [e2]
      by_cases h1 : i < n
      · rw [if_pos h1, if_pos (show i < n + 1 by omega)]
        split <;> omega
      · rw [if_neg h1, if_neg (show ¬ i < n + 1 by omega)]
structure Perm (n : Nat) (o pos : Nat → Nat) : Prop where
  lt : ∀ p, p < n → o p < n
  plt : ∀ t, t < n → pos t < n
  po : ∀ p, p < n → pos (o p) = p
  op : ∀ t, t < n → o (pos t) = t
def rlF (o : Nat → Nat) : Nat → List Nat
  | 0 => []
  | p + 1 => o p :: rlF o p
theorem rlF_len (o : Nat → Nat) : ∀ p, (rlF o p).length = p
  | 0 => rfl
  | p + 1 => by simp only [rlF, List.length_cons, rlF_len o p]
def behind (l : List S55) (pos : Nat → Nat) (p : Nat) : Int := mxS l (fun t => decide (p ≤ pos t)) l.length
theorem behind_step (l : List S55) (o pos : Nat → Nat) (H : Perm l.length o pos) (p : Nat) (hp : p < l.length) : behind l pos p = max (behind l pos (p + 1)) (bitsM (rd_T55 l (o p : Int))) := by
  unfold behind
  rw [mxS_add l (fun t => decide (p + 1 ≤ pos t)) (fun t => decide (p ≤ pos t)) (o p) (by simp [H.po p hp]) l.length (fun t ht => by
    by_cases e : t = o p
    · subst e; simp [H.po p hp]
    · have hne : pos t ≠ p := fun h => e (by rw [← H.op t ht, h])
      have e2 : (t == o p) = false := by simpa using e
      rw [e2, Bool.or_false]
      by_cases h : p ≤ pos t
      · rw [dT h, dT (show p + 1 ≤ pos t by omega)]
      · rw [dF h, dF (show ¬ p + 1 ≤ pos t by omega)]), if_pos (H.lt p hp)]
theorem goodF (l : List S55) (lims : List Int) (o pos : Nat → Nat) (H : Perm l.length o pos) : ∀ p, p ≤ l.length → (GoodOrd l lims (rlF o p) (fun t => decide (pos t < p)) (behind l pos p) ↔ ∀ q, q < p → canB l lims (fun t => decide (pos t < q + 1)) (behind l pos (q + 1)) (o q) = true)
  | 0, _ => ⟨fun _ q hq => by omega, fun _ t _ => by simp⟩
  | p + 1, hp => by
    have ih := goodF l lims o pos H p z3
    have hst := behind_step l o pos H p z3
    have hc : ∀ t, t < l.length → (fun t => decide (pos t < p + 1) && t != o p) t = (fun t => decide (pos t < p)) t := fun t ht => by
      simp only
      by_cases e : t = o p
      · subst e; simp [H.po p z3]
      · have hne : pos t ≠ p := fun h => e (by rw [← H.op t ht, h])
        have e2 : (t != o p) = true := by simpa using e
        rw [e2, Bool.and_true]
        by_cases h : pos t < p
        · rw [dT h, dT (show pos t < p + 1 by omega)]
        · rw [dF h, dF (show ¬ pos t < p + 1 by omega)]
    constructor
    · rintro ⟨g1, g2, g3⟩ q hq
      by_cases e : q = p
      · subst e; exact g2
      · rw [← hst] at g3
        exact ih.mp (GoodOrd.congr l lims _ _ _ _ hc g3) q z3
    · intro h
      refine ⟨H.lt p z3, h p z3, ?_⟩
      rw [← hst]
      exact GoodOrd.congr l lims _ _ _ _ (fun t ht => (hc t ht).symm) (ih.mpr fun q hq => h q z3)
theorem behind_end (l : List S55) (o pos : Nat → Nat) (H : Perm l.length o pos) : behind l pos l.length = 0 :=
  mxS_none l _ _ fun t ht => by have := H.plt t ht; simp; omega
theorem goodAll (l : List S55) (lims : List Int) (o pos : Nat → Nat) (H : Perm l.length o pos) : GoodOrd l lims (rlF o l.length) (fun _ => true) 0 ↔ ∀ q, q < l.length → canB l lims (fun t => decide (pos t < q + 1)) (behind l pos (q + 1)) (o q) = true := by
  have h := goodF l lims o pos H l.length (Nat.le_refl _)
  rw [behind_end l o pos H] at h
  have hc : ∀ t, t < l.length → (fun _ => true) t = (fun t => decide (pos t < l.length)) t := fun t ht => by simp [H.plt t ht]
  exact ⟨fun g => h.mp (GoodOrd.congr l lims _ _ _ _ hc g), fun g => GoodOrd.congr l lims _ _ _ _ (fun t ht => (hc t ht).symm) (h.mpr g)⟩
def NumB (l m : List S55) (pos : Nat → Nat) : Prop := m.length = l.length ∧ ∀ t, t < l.length → rd_T55 m (t : Int) = (⟨(pos t : Int), (rd_T55 l (t : Int)).f1, (rd_T55 l (t : Int)).f2, (rd_T55 l (t : Int)).f3⟩ : S55)
section
variable {l m : List S55} {o pos : Nat → Nat} (H : Perm l.length o pos) (N : NumB l m pos) (hs : sentB l = true)
include H N hs
theorem NumB.sentTo : ∀ n, n ≤ l.length → sentTo m n = true
  | 0, _ => rfl
  | n + 1, hn => by
    have ih := NumB.sentTo n z3
    have h8 := (sentB_oks l hs).1
    have hl := (sentB_oks l hs).2
    have hs1 : B.sentTo m (n + 1) = (B.sentTo m n && (okM (rd_T55 m (n : Int)) && !(nosM m n).contains (rd_T55 m (n : Int)).f0)) := rfl
    rw [hs1, ih]
    have hp := H.plt n z3
    have ho : okM (rd_T55 m (n : Int)) = true := by
      rw [N.2 n z3, okM_iff]
      obtain ⟨_, _, a, b, c, d, e, f⟩ := okM_bounds (hl n z3)
      exact ⟨by simp only; omega, by simp only; omega, a, b, c, d, e, f⟩
    have hn2 : (nosM m n).contains (rd_T55 m (n : Int)).f0 = false := by
      cases h : (nosM m n).contains (rd_T55 m (n : Int)).f0
      · rfl
      · obtain ⟨t, ht, e⟩ := (nosM_has m _ n).mp h
        rw [N.2 t z3, N.2 n z3] at e
        simp only at e
        have e2 : pos t = pos n := by omega
        have : t = n := by rw [← H.op t z3, ← H.op n z3, e2]
        omega
    rw [ho, hn2]; rfl
theorem NumB.sent : sentB m = true := by
  have h8 := (sentB_oks l hs).1
  unfold sentB
  rw [N.1, NumB.sentTo H N hs l.length (Nat.le_refl _), dT h8]; rfl
omit hs H in
theorem NumB.sW (F : S55 → Int) (hF : ∀ a b : S55, a.f1 = b.f1 → a.f2 = b.f2 → a.f3 = b.f3 → F a = F b) (p : Nat) : ∀ n, n ≤ l.length → B.sW F m (p : Int) n = selS F l (fun t => decide (pos t < p)) n
  | 0, _ => rfl
  | n + 1, hn => by
    have ih := NumB.sW F hF p n z3
    have e := N.2 n z3
    have e1 : B.sW F m (p : Int) (n + 1) = B.sW F m (p : Int) n + if (rd_T55 m (n : Int)).f0 < (p : Int) then F (rd_T55 m (n : Int)) else 0 := rfl
    have e2 : selS F l (fun t => decide (pos t < p)) (n + 1) = selS F l (fun t => decide (pos t < p)) n + if decide (pos n < p) = true then F (rd_T55 l (n : Int)) else 0 := rfl
    have eF : F (rd_T55 m (n : Int)) = F (rd_T55 l (n : Int)) := by rw [e]; exact hF _ _ rfl rfl rfl
    rw [e1, e2, ih, eF]
    by_cases c : pos n < p
    · rw [if_pos (by rw [e]; simp only; omega), if_pos (dT c)]
    · rw [if_neg (by rw [e]; simp only; omega), if_neg (by simp [c])]
omit hs H in
theorem NumB.fW (p : Nat) : ∀ n, n ≤ l.length → B.fW m (p : Int) n = selF l (fun t => decide (pos t < p)) n
  | 0, _ => rfl
  | n + 1, hn => by
    have ih := NumB.fW p n z3
    have e := N.2 n z3
    have e1 : B.fW m (p : Int) (n + 1) = if (rd_T55 m (n : Int)).f0 < (p : Int) then frS (B.fW m (p : Int) n) (rd_T55 m (n : Int)) else B.fW m (p : Int) n := rfl
    have e2 : selF l (fun t => decide (pos t < p)) (n + 1) = if decide (pos n < p) = true then frS (selF l (fun t => decide (pos t < p)) n) (rd_T55 l (n : Int)) else selF l (fun t => decide (pos t < p)) n := rfl
    have eF : ∀ q, frS q (rd_T55 m (n : Int)) = frS q (rd_T55 l (n : Int)) := fun q => by rw [e]; rfl
    rw [e1, e2, ih, eF]
    by_cases c : pos n < p
    · rw [if_pos (by rw [e]; simp only; omega), if_pos (dT c)]
    · rw [if_neg (by rw [e]; simp only; omega), if_neg (by simp [c])]
omit hs H in
theorem NumB.mL (p : Nat) : ∀ n, n ≤ l.length → B.mL m (p : Int) n = mxS l (fun t => decide (p + 1 ≤ pos t)) n
  | 0, _ => rfl
  | n + 1, hn => by
    have ih := NumB.mL p n z3
    have e := N.2 n z3
    have e1 : B.mL m (p : Int) (n + 1) = if (p : Int) < (rd_T55 m (n : Int)).f0 then max (B.mL m (p : Int) n) (bitsM (rd_T55 m (n : Int))) else B.mL m (p : Int) n := rfl
    have e2 : mxS l (fun t => decide (p + 1 ≤ pos t)) (n + 1) = if decide (p + 1 ≤ pos n) = true then max (mxS l (fun t => decide (p + 1 ≤ pos t)) n) (bitsM (rd_T55 l (n : Int))) else mxS l (fun t => decide (p + 1 ≤ pos t)) n := rfl
    have eF : bitsM (rd_T55 m (n : Int)) = bitsM (rd_T55 l (n : Int)) := by rw [e]; rfl
    rw [e1, e2, ih, eF]
    by_cases c : p + 1 ≤ pos n
    · rw [if_pos (by rw [e]; simp only; omega), if_pos (dT c)]
    · rw [if_neg (by rw [e]; simp only; omega), if_neg (by simp [c])]
theorem NumB.delay (p : Nat) (hp : p < l.length) : delaySpec m (p : Int) = if (dlP l (fun t => decide (pos t < p + 1) && t != o p) (behind l pos (p + 1)) (o p)).2 = false then (0, 10) else ((dlP l (fun t => decide (pos t < p + 1) && t != o p) (behind l pos (p + 1)) (o p)).1, 0) := by
  (have hi := H.lt p hp); (have hm := NumB.sent H N hs); (have e := N.2 (o p) hi); rw [H.po p hp] at e; (have e0 : (rd_T55 m (o p : Int)).f0 = (p : Int) := by rw [e]); (have h := delaySpec_at m hm (o p) (by rw [N.1]; exact hi)); rw [e0] at h; rw [h]
  have key : delayD (rd_T55 m (o p : Int)) (winTo m (p : Int) m.length) (B.mL m (p : Int) m.length) = dlP l (fun t => decide (pos t < p + 1) && t != o p) (behind l pos (p + 1)) (o p) := by
    have hc : ∀ t, t < l.length → (fun t => decide (pos t < p + 1) && t != o p) t = (fun t => decide (pos t < p)) t := fun t ht => by
      simp only
      by_cases e : t = o p
      · subst e; simp [H.po p hp]
      · have hne : pos t ≠ p := fun h => e (by rw [← H.op t ht, h])
        have e2 : (t != o p) = true := by simpa using e
        rw [e2, Bool.and_true]
        by_cases h : pos t < p
        · rw [dT h, dT (show pos t < p + 1 by omega)]
        · rw [dF h, dF (show ¬ pos t < p + 1 by omega)]
    rw [dlP_congr l _ _ _ _ hc]
    unfold dlP
    have eb : B.mL m (p : Int) m.length = behind l pos (p + 1) := by
      rw [N.1, NumB.mL N p l.length (Nat.le_refl _)]; rfl
    rw [eb]
    have f1 : (rd_T55 m (o p : Int)).f1 = (rd_T55 l (o p : Int)).f1 := by rw [e]
    have f2 : (rd_T55 m (o p : Int)).f2 = (rd_T55 l (o p : Int)).f2 := by rw [e]
    have f3 : (rd_T55 m (o p : Int)).f3 = (rd_T55 l (o p : Int)).f3 := by rw [e]
    have hfr : fracTo ([rd_T55 m (o p : Int)] ++ winTo m (p : Int) m.length) ([rd_T55 m (o p : Int)] ++ winTo m (p : Int) m.length).length = fracTo ([rd_T55 l (o p : Int)] ++ selL l (fun t => decide (pos t < p)) l.length) ([rd_T55 l (o p : Int)] ++ selL l (fun t => decide (pos t < p)) l.length).length := by
      rw [fracTo_cons, fracTo_cons, fracTo_win, fracTo_sel, N.1, NumB.fW N p l.length (Nat.le_refl _), e]; rfl
    have hS : ∀ F : S55 → Int, (∀ a b : S55, a.f1 = b.f1 → a.f2 = b.f2 → a.f3 = b.f3 → F a = F b) → sumI F (winTo m (p : Int) m.length) (winTo m (p : Int) m.length).length = sumI F (selL l (fun t => decide (pos t < p)) l.length) (selL l (fun t => decide (pos t < p)) l.length).length := fun F hF => by
      rw [sumI_win, sumI_sel, N.1, NumB.sW N F hF p l.length (Nat.le_refl _)]
    generalize rd_T55 m (o p : Int) = x at *
    generalize rd_T55 l (o p : Int) = y at *
    generalize winTo m (p : Int) m.length = W1 at *
    generalize selL l (fun t => decide (pos t < p)) l.length = W2 at *
    generalize behind l pos (p + 1) = b at *
    have hbt : bitsM x = bitsM y := bitsM_eq f1
    have hI : ∀ t, inst x t = inst y t := fun t => by unfold inst; rw [f2, f3]
    have hbusy : busyN b x W1 = busyN b y W2 := by
      funext t
      unfold busyN
      rw [hS (fun o => inst o t * bitsM o) (fun a c h1 h2 h3 => by unfold inst bitsM; rw [h1, h2, h3]), hbt, hI]
    have hwait : ∀ q, waitN b q x W1 = waitN b q y W2 := fun q => by
      funext t
      unfold waitN
      rw [hS (fun o => instW o t * bitsM o) (fun a c h1 h2 h3 => by unfold instW bitsM; rw [h1, h2, h3]), hbt]
    have hwd : ∀ n q v worst, waitD b x W1 n q v worst = waitD b y W2 n q v worst := by
      intro n
      induction n with
      | zero => intro q v worst; rfl
      | succ n ih => intro q v worst; simp only [waitD]; rw [hwait q, f2, f3, hbt, ih]
    unfold delayD
    rw [hfr, hbusy]
    simp only [hI, hwd]
  rw [key]
end
end Go.Proofs.YtbanemecfobonaaDoor.B
