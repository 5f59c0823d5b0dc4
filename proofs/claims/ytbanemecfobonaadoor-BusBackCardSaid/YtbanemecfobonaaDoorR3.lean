/- Arguments opened: lists of truths. -/
import Derived.Test.YtbanemecfobonaaDoorR2
namespace Go.Proofs.YtbanemecfobonaaDoor.B
open Go.Proofs.YtbanemecfobonaaDoorW.PrintWords Go.Proofs.YtbanemecfobonaaDoorW.PrintLast Go.Proofs.YtbanemecfobonaaDoorW.PrintMore Go.ChangeShapes Go.WideShapes Go.ChangeAt Go.RowKit Go.Joins Go.Deep
set_option linter.unusedVariables false
section
variable {H : Type} {enc : TypeId × Value → H} {w : World} {base : Nat} {held : Bool}
set_option maxRecDepth 100000 in
theorem bools_of_trod {fuel : Nat} {v : Value} {x : DataW H × List MemPlace} (h : DataW.trod enc Tryd.prog w base (fun _ => true) held fuel 38 [v] = some x) :
    ∃ (A : Option Addr) (l : List Bool) (c : Nat), v = .slice A l.length c ∧ Kd.C Kd.bool w A l.length l ∧ l.length ≤ c ∧ l.length ≤ maxLen := by
  refine rows_of_trod Kd.bool false 38 4 Tryd.underlying38 (by kernel_rfl) (fun fuel cs x hcl ht => ?_) h
  obtain ⟨b, e, _⟩ := DataW.trod_bool Tryd.underlying4 ht
  subst e
  exact ⟨b, rfl⟩
end
end Go.Proofs.YtbanemecfobonaaDoor.B
