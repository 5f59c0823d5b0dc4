/- Written by a program (lite.py) from my texts. -/
import Derived.Test.YtbanemecfobonaaDoorU31v
import Derived.Test.YtbanemecfobonaaDoorGVv
namespace Go.Proofs.YtbanemecfobonaaDoor.B
open Go.RowKit Go.Proofs.YtbanemecfobonaaDoorW.PrintWords Go.Proofs.YtbanemecfobonaaDoorW.PrintLast Go.Proofs.YtbanemecfobonaaDoorW.PrintMore
set_option linter.unusedVariables false
set_option linter.unusedSimpArgs false
theorem sentTo_uniqN (l : List S55) : ∀ n, sentTo l n = true → ∀ i j : Nat, i < j → j < n → (rd_T55 l (i : Int)).f0 ≠ (rd_T55 l (j : Int)).f0
  | 0, _, i, j, hij, hj => by omega
  | n + 1, h, i, j, hij, hj => by
    have hs1 : sentTo l (n + 1) = (sentTo l n && (okM (rd_T55 l (n : Int)) && !(nosM l n).contains (rd_T55 l (n : Int)).f0)) := rfl
    rw [hs1] at h
    simp only [Bool.and_eq_true, Bool.not_eq_true'] at h
    by_cases e : j = n
    · subst e
      intro he
      have := (nosM_has l (rd_T55 l (j : Int)).f0 j).mpr ⟨i, hij, he⟩
      rw [h.2.2] at this
      cases this
    · exact sentTo_uniqN l n h.1 i j hij z3
theorem sentB_uniqN (l : List S55) (h : sentB l = true) (i j : Nat) (hi : i < l.length) (hj : j < l.length) (he : (rd_T55 l (i : Int)).f0 = (rd_T55 l (j : Int)).f0) : i = j := by
  simp only [sentB, Bool.and_eq_true, decide_eq_true_eq] at h
  rcases Nat.lt_trichotomy i j with h1 | h1 | h1
  · exact absurd he (sentTo_uniqN l _ h.1 i j h1 hj)
  · exact h1
  · exact absurd he.symm (sentTo_uniqN l _ h.1 j i h1 hi)
theorem idxTo_at (l : List S55) (h : sentB l = true) (j : Nat) (hj : j < l.length) : ∀ n i : Nat, i ≤ j → i + n = l.length → idxTo l (rd_T55 l (j : Int)).f0 n i = (j : Int)
  | 0, i, h1, h2 => by omega
  | n + 1, i, h1, h2 => by
    simp only [idxTo]
    by_cases c : (rd_T55 l (i : Int)).f0 = (rd_T55 l (j : Int)).f0
    · rw [if_pos c, sentB_uniqN l h i j z3 hj c]
    · rw [if_neg c]
      have hne : i ≠ j := fun e => c (by rw [e])
      exact idxTo_at l h j hj n (i + 1) z3 z3
theorem maxTo_loseN (l : List S55) (no : Int) : maxTo (loseTo l no l.length) (loseTo l no l.length).length = mL l no l.length := maxTo_lose l no l.length
theorem delaySpec_at (l : List S55) (h : sentB l = true) (i : Nat) (hi : i < l.length) : delaySpec l (rd_T55 l (i : Int)).f0 =
    if (delayD (rd_T55 l (i : Int)) (winTo l (rd_T55 l (i : Int)).f0 l.length) (mL l (rd_T55 l (i : Int)).f0 l.length)).2 = false then (0, 10) else ((delayD (rd_T55 l (i : Int)) (winTo l (rd_T55 l (i : Int)).f0 l.length) (mL l (rd_T55 l (i : Int)).f0 l.length)).1, 0) := by
  have h1 : ¬ sentB l = false := by rw [h]; simp
  have h2 : ¬ (i : Int) < 0 := by omega
  unfold delaySpec
  rw [if_neg h1, idxTo_at l h i hi l.length 0 z3 z3, if_neg h2, maxTo_loseN]
theorem waitD_max (b : Int) (x : S55) (win : List S55) : ∀ (n : Nat) (q v worst : Int), worst ≤ 10000000 → (waitD b x win n q v worst).2 = true → (waitD b x win n q v worst).1 ≤ 10000000
  | 0, q, v, worst, hw, _ => hw
  | n + 1, q, v, worst, hw, h => by
    simp only [waitD] at h ⊢
    split
    · decide
    · rename_i c
      rw [if_neg c] at h
      exact waitD_max b x win n _ _ _ (by
        by_cases h2 : 10000000 < max worst (x.f3 + (fixQ (waitN b q x win) v).1 - q * x.f2 + bitsM x)
        · exact absurd (.inr h2) c
        · omega) h
theorem delayD_max (x : S55) (win : List S55) (b : Int) (h : (delayD x win b).2 = true) : 0 ≤ (delayD x win b).1 ∧ (delayD x win b).1 ≤ 10000000 := by
  unfold delayD at h ⊢
  split
  · exact ⟨by decide, by decide⟩
  · rename_i c
    rw [if_neg c] at h
    split
    · exact ⟨by decide, by decide⟩
    · rename_i c2
      rw [if_neg c2] at h
      exact ⟨waitD_ge b x win _ 0 0 0 h, waitD_max b x win _ 0 0 0 z10 h⟩
section
variable {l : List S55} {la : List (List Int)} {T : Int} {n : Nat} {ix : Nat → Nat} {st : Nat → Int} {g : Nat → Nat → Nat} {s : List S74} (H : Told l la T n ix st g s)
include H
theorem Told.count_le (i : Nat) : ∀ k, k ≤ n → g k i ≤ k
  | 0, _ => by rw [H.sched.zero i]; exact Nat.le_refl _
  | k + 1, hk => by
    have := Told.count_le i k z3
    rw [H.sched.next k z3 i]
    split <;> omega
theorem Told.count_all : ∀ k, k ≤ n → sumTo (g k) l.length = k
  | 0, _ => by
    have hz : ∀ N, sumTo (g 0) N = 0 := fun N => by
      induction N with
      | zero => rfl
      | succ N ih => simp only [sumTo]; rw [ih, H.sched.zero N]
    exact hz _
  | k + 1, hk => by
    have ih := Told.count_all k z3
    have e : g (k + 1) = upd (g k) (ix k) := by
      funext t
      rw [H.sched.next k z3 t]; rfl
    rw [e, sumTo_upd, if_pos (H.sched.ixl k z3), ih]
theorem Told.delay_told (hs : sentB l = true) (hok : okFrom l la 0) (i : Nat) (hi : i < l.length) :
    ∃ e d, some (delaySpec l (rd_T55 l (i : Int)).f0) = some (d, e) ∧ (e = 0 ∨ e = 10) ∧ (e = 0 → d ≤ 10000000 ∧ 0 ≤ d ∧ ∀ k, k < n → ix k = i → st k + bitsM (rd_T55 l (i : Int)) ≤ (g k i : Int) * (rd_T55 l (i : Int)).f2 + d) := by
  have hl := (sentB_oks l hs).2
  have hu : ∀ a b : Nat, a < l.length → b < l.length → (rd_T55 l (a : Int)).f0 = (rd_T55 l (b : Int)).f0 → a = b := fun a b ha hb h => sentB_uniqN l hs a b ha hb h
  rw [delaySpec_at l hs i hi]
  by_cases c : (delayD (rd_T55 l (i : Int)) (winTo l (rd_T55 l (i : Int)).f0 l.length) (mL l (rd_T55 l (i : Int)).f0 l.length)).2 = false
  · rw [if_pos c]
    exact ⟨10, 0, rfl, .inr rfl, fun h => absurd h z10⟩
  · rw [if_neg c]
    have c' : (delayD (rd_T55 l (i : Int)) (winTo l (rd_T55 l (i : Int)).f0 l.length) (mL l (rd_T55 l (i : Int)).f0 l.length)).2 = true := by
      cases h' : (delayD (rd_T55 l (i : Int)) (winTo l (rd_T55 l (i : Int)).f0 l.length) (mL l (rd_T55 l (i : Int)).f0 l.length)).2
      · exact absurd h' c
      · rfl
    have hm := delayD_max _ _ _ c'
    refine ⟨0, _, rfl, .inl rfl, fun _ => ⟨hm.2, hm.1, fun k hk e => ?_⟩⟩
    subst e
    exact H.sched.never hl hok hu k hk c'
end
end Go.Proofs.YtbanemecfobonaaDoor.B
