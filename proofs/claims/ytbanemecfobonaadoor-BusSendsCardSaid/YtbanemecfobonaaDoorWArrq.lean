/- Written by a program (lite.py) from my texts. -/
import Derived.Test.YtbanemecfobonaaDoorWWordsq
namespace Go.Proofs.YtbanemecfobonaaDoorW.PrintWords
open Go.RowKit
namespace Kd
end Kd
end Go.Proofs.YtbanemecfobonaaDoorW.PrintWords
