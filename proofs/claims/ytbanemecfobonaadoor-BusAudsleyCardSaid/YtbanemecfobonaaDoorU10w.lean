/- Written by a program (lite.py) from my texts. -/
import Derived.Test.YtbanemecfobonaaDoorU9ew
import Derived.Test.YtbanemecfobonaaDoorBM0w
namespace Go.Proofs.YtbanemecfobonaaDoor.B
open Go.RowKit Go.Proofs.YtbanemecfobonaaDoorW.PrintWords Go.Proofs.YtbanemecfobonaaDoorW.PrintLast Go.Proofs.YtbanemecfobonaaDoorW.PrintMore
set_option linter.unusedVariables false
set_option linter.unusedSimpArgs false
theorem nosM_has (l : List S55) (x : Int) : ∀ n, (nosM l n).contains x = true ↔ ∃ t, t < n ∧ (rd_T55 l (t : Int)).f0 = x
  | 0 => by simp [nosM]
  | n + 1 => by
    have e : nosM l (n + 1) = (rd_T55 l (n : Int)).f0 :: nosM l n := rfl
    rw [e, List.contains_cons, Bool.or_eq_true, nosM_has l x n]
    constructor
    · rintro (h | ⟨t, h1, h2⟩)
      · exact ⟨n, by omega, (by simpa using h : x = _).symm⟩
      · exact ⟨t, by omega, h2⟩
    · rintro ⟨t, h1, h2⟩
      by_cases ht : t = n
      · subst ht
        exact .inl (by simpa using h2.symm)
      · exact .inr ⟨t, by omega, h2⟩
theorem okM_iff (x : S55) : okM x = true ↔ 0 ≤ x.f0 ∧ x.f0 ≤ 2047 ∧ 0 ≤ x.f1 ∧ x.f1 ≤ 8 ∧ 1 ≤ x.f2 ∧ x.f2 ≤ 100000 ∧ 0 ≤ x.f3 ∧ x.f3 ≤ 100000 := by
  simp only [okM, Bool.and_eq_true, decide_eq_true_eq, and_assoc]
end Go.Proofs.YtbanemecfobonaaDoor.B
