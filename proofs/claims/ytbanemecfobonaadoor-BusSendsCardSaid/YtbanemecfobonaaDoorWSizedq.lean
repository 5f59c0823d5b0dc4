/- Written by a program (lite.py) from my texts. -/
import Derived.SizedLaws
import Derived.ChangeSlices
namespace Go.Proofs.YtbanemecfobonaaDoorW.PrintWords
open Go.ChangeShapes Go.WideShapes
end Go.Proofs.YtbanemecfobonaaDoorW.PrintWords
