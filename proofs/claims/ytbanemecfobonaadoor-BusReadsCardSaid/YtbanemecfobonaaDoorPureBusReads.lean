/- BusReads, plainly: what the walk computes is true. -/
import Derived.Test.YtbanemecfobonaaDoorBLawBusReads
import Derived.Test.YtbanemecfobonaaDoorU6
namespace Go.Proofs.YtbanemecfobonaaDoor.Pure
open Go.RowKit Go.Proofs.YtbanemecfobonaaDoor.B Go.Proofs.YtbanemecfobonaaDoorW.PrintWords Go.Proofs.YtbanemecfobonaaDoorW.PrintLast

theorem BusReads : neonwrightlaw08_BusReads.Pure := by
  intro l _ _ _
  by_cases h : l.length ≤ 300
  · obtain ⟨r, h1, ⟨K, h2⟩, h3⟩ := Read_alike l h
    refine ⟨max K 400, ?_⟩
    have h4 : neonwrightref08_Read.f (max K 400) l = some r := h2 _ (by omega)
    unfold neonwrightlaw08_BusReads.f
    rw [if_neg (by omega), h1, Option.bind_some, h4, Option.bind_some, if_pos rfl, same_eq r.2.1 r.2.1 (by omega) _ (by omega), Option.bind_some, if_pos (by simp), if_pos rfl, if_pos rfl]
    rfl
  · refine ⟨1, ?_⟩
    unfold neonwrightlaw08_BusReads.f
    rw [if_pos (by omega)]
    rfl
end Go.Proofs.YtbanemecfobonaaDoor.Pure
