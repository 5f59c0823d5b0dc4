/- Written by a program (lite.py) from my texts. -/
import Derived.Test.YtbanemecfobonaaDoorU31w
import Derived.Test.YtbanemecfobonaaDoorGVw
namespace Go.Proofs.YtbanemecfobonaaDoor.B
open Go.RowKit Go.Proofs.YtbanemecfobonaaDoorW.PrintWords Go.Proofs.YtbanemecfobonaaDoorW.PrintLast Go.Proofs.YtbanemecfobonaaDoorW.PrintMore
set_option linter.unusedVariables false
set_option linter.unusedSimpArgs false
theorem sentTo_uniqN (l : List S55) : ∀ n, sentTo l n = true → ∀ i j : Nat, i < j → j < n → (rd_T55 l (i : Int)).f0 ≠ (rd_T55 l (j : Int)).f0
  | 0, _, i, j, hij, hj => by omega
  | n + 1, h, i, j, hij, hj => by
    have hs1 : sentTo l (n + 1) = (sentTo l n && (okM (rd_T55 l (n : Int)) && !(nosM l n).contains (rd_T55 l (n : Int)).f0)) := rfl
    rw [hs1] at h
    simp only [Bool.and_eq_true, Bool.not_eq_true'] at h
    by_cases e : j = n
    · subst e
      intro he
      have := (nosM_has l (rd_T55 l (j : Int)).f0 j).mpr ⟨i, hij, he⟩
      rw [h.2.2] at this
      cases this
    · exact sentTo_uniqN l n h.1 i j hij z3
theorem sentB_uniqN (l : List S55) (h : sentB l = true) (i j : Nat) (hi : i < l.length) (hj : j < l.length) (he : (rd_T55 l (i : Int)).f0 = (rd_T55 l (j : Int)).f0) : i = j := by
  simp only [sentB, Bool.and_eq_true, decide_eq_true_eq] at h
  rcases Nat.lt_trichotomy i j with h1 | h1 | h1
  · exact absurd he (sentTo_uniqN l _ h.1 i j h1 hj)
  · exact h1
  · exact absurd he.symm (sentTo_uniqN l _ h.1 j i h1 hi)
theorem idxTo_at (l : List S55) (h : sentB l = true) (j : Nat) (hj : j < l.length) : ∀ n i : Nat, i ≤ j → i + n = l.length → idxTo l (rd_T55 l (j : Int)).f0 n i = (j : Int)
  | 0, i, h1, h2 => by omega
  | n + 1, i, h1, h2 => by
    simp only [idxTo]
    by_cases c : (rd_T55 l (i : Int)).f0 = (rd_T55 l (j : Int)).f0
    · rw [if_pos c, sentB_uniqN l h i j z3 hj c]
    · rw [if_neg c]
      have hne : i ≠ j := fun e => c (by rw [e])
      exact idxTo_at l h j hj n (i + 1) z3 z3
theorem maxTo_loseN (l : List S55) (no : Int) : maxTo (loseTo l no l.length) (loseTo l no l.length).length = mL l no l.length := maxTo_lose l no l.length
theorem delaySpec_at (l : List S55) (h : sentB l = true) (i : Nat) (hi : i < l.length) : delaySpec l (rd_T55 l (i : Int)).f0 =
    if (delayD (rd_T55 l (i : Int)) (winTo l (rd_T55 l (i : Int)).f0 l.length) (mL l (rd_T55 l (i : Int)).f0 l.length)).2 = false then (0, 10) else ((delayD (rd_T55 l (i : Int)) (winTo l (rd_T55 l (i : Int)).f0 l.length) (mL l (rd_T55 l (i : Int)).f0 l.length)).1, 0) := by
  have h1 : ¬ sentB l = false := by rw [h]; simp
  have h2 : ¬ (i : Int) < 0 := by omega
  unfold delaySpec
  rw [if_neg h1, idxTo_at l h i hi l.length 0 z3 z3, if_neg h2, maxTo_loseN]
end Go.Proofs.YtbanemecfobonaaDoor.B
