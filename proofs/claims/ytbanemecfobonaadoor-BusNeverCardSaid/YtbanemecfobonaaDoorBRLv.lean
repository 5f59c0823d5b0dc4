/- Written by a program (lite.py) from my texts. -/
import Derived.Test.YtbanemecfobonaaDoorB0v
namespace Go.Proofs.YtbanemecfobonaaDoor.B
open Go.RowKit Go.Proofs.YtbanemecfobonaaDoorW.PrintWords Go.Proofs.YtbanemecfobonaaDoorW.PrintLast Go.Proofs.YtbanemecfobonaaDoorW.PrintMore
attribute [local go_sem] max2_int min2_int max_two min_two max_three min_three max_four min_four
set_option linter.unusedVariables false
set_option linter.unusedSimpArgs false
def r8_longest.f (a0 : Int) : Option (Int) := some (wrap64 ((wrap64 (47 + (wrap64 (8 * a0)))) + (wrap64 (Int.tdiv (wrap64 (33 + (wrap64 (8 * a0)))) 4))))
def r8_Longest.f (a0 : Int) : Option (Int × Int) := if a0 < 0 then (some (0, 2)) else (if a0 > 8 then (some (0, 2)) else ((r8_longest.f a0).bind fun t378 => (some (t378, 0))))
end Go.Proofs.YtbanemecfobonaaDoor.B
