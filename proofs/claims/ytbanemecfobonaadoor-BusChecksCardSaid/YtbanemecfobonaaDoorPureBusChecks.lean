/- BusChecks, plainly: what the walk computes is true. -/
import Derived.Test.YtbanemecfobonaaDoorBLawBusChecks
import Derived.Test.YtbanemecfobonaaDoorU1
namespace Go.Proofs.YtbanemecfobonaaDoor.Pure
open Go.RowKit Go.Proofs.YtbanemecfobonaaDoor.B Go.Proofs.YtbanemecfobonaaDoorW.PrintWords Go.Proofs.YtbanemecfobonaaDoorW.PrintLast

theorem BusChecks : neonwrightlaw08_BusChecks.Pure := by
  intro l0 a1 _ _ _ _
  refine ⟨400, ?_⟩
  unfold neonwrightlaw08_BusChecks.f
  by_cases h : l0.length ≤ 300
  · have e : neonwrightref08_Longest.f a1 = bus_Longest.f a1 := rfl
    rw [if_neg (by omega), Option.bind_some, if_pos (by simp; omega), Option.bind_some, List.nil_append, bus_Check_eq l0 (by omega) 400 (by omega), Option.bind_some, ref_Check_eq l0 (by omega) 400 (by omega), Option.bind_some, if_pos rfl]
    have e2 : ((chkAns l0).2 != (chkAns l0).2) = false := by simp
    rw [e2]
    show neonwrightlaw08_BusChecks.j0 (399 + 1) _ _ _ _ = _
    rw [neonwrightlaw08_BusChecks.j0, if_neg (by simp), e]
    obtain ⟨x, hx⟩ : ∃ x, bus_Longest.f a1 = some x := by
      unfold bus_Longest.f
      split
      · exact ⟨_, rfl⟩
      · split
        · exact ⟨_, rfl⟩
        · exact ⟨_, rfl⟩
    rw [hx, Option.bind_some, Option.bind_some, if_pos rfl, if_pos rfl, same_eq l0 l0 (by omega) 399 (by omega), Option.bind_some, if_pos (by simp)]
    rfl
  · rw [if_pos (by omega)]
    rfl
end Go.Proofs.YtbanemecfobonaaDoor.Pure
