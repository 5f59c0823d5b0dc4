/- Written by a program (lite.py) from my texts. -/
import Derived.Test.YtbanemecfobonaaDoorBLawBusDelaysq
import Derived.Test.YtbanemecfobonaaDoorGSq
namespace Go.Proofs.YtbanemecfobonaaDoor.Pure
open Go.RowKit Go.Proofs.YtbanemecfobonaaDoor.B Go.Proofs.YtbanemecfobonaaDoorW.PrintWords Go.Proofs.YtbanemecfobonaaDoorW.PrintLast
set_option linter.unusedVariables false
set_option linter.unusedSimpArgs false
theorem BusDelays (l : List S55) (no : Int) : ∃ k, w8_BusDelays.f k l no = some true := by
  obtain ⟨K1, h1⟩ := rDelay_eq l no
  obtain ⟨K2, h2⟩ := rLoad_eq l
  refine ⟨max K1 K2 + 1, ?_⟩
  have h1 : r8_Delay.f (max K1 K2 + 1) l no = some (delaySpec l no) := h1 _ (by omega)
  have h2 : r8_Load.f (max K1 K2) l = some (loadSpec l) := h2 _ (by omega)
  unfold w8_BusDelays.f
  split
  · rfl
  · have e1 : bus_Delay.f l no = some (delaySpec l no) := rfl
    have e2 : bus_Load.f l = some (loadSpec l) := rfl
    rw [e1, h1, Option.bind_some, Option.bind_some, if_pos rfl]
    have e3 : ((delaySpec l no).2 != (delaySpec l no).2) = false := by simp
    rw [e3, w8_BusDelays.j0, if_neg (by decide), e2, h2, Option.bind_some, Option.bind_some, if_pos (by simp), if_pos rfl]
    rfl
end Go.Proofs.YtbanemecfobonaaDoor.Pure
