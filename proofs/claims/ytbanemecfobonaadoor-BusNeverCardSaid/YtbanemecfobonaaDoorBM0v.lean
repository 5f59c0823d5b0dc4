/- Written by a program (lite.py) from my texts. -/
import Derived.Test.YtbanemecfobonaaDoorB0v
import Derived.Test.YtbanemecfobonaaDoorGWv
namespace Go.Proofs.YtbanemecfobonaaDoor.B
open Go.RowKit Go.Proofs.YtbanemecfobonaaDoorW.PrintWords Go.Proofs.YtbanemecfobonaaDoorW.PrintLast Go.Proofs.YtbanemecfobonaaDoorW.PrintMore
attribute [local go_sem] max2_int min2_int max_two min_two max_three min_three max_four min_four
set_option linter.unusedVariables false
set_option linter.unusedSimpArgs false
mutual
def r8_Messages.l0 : Nat → List (S55) → Int → Option (Bool)
  | 0, _, _ => none
  | k + 1, x0, x3 => if x3 < (x0.length : Int) then (if 0 ≤ x3 then (if ((rd_T55 x0 x3).f0) < 0 then (r8_Messages.j1 k x0 x3 true ((rd_T55 x0 x3).f0) ((rd_T55 x0 x3).f1) ((rd_T55 x0 x3).f2) ((rd_T55 x0 x3).f3)) else (if ((rd_T55 x0 x3).f0) > 2047 then (r8_Messages.j1 k x0 x3 true ((rd_T55 x0 x3).f0) ((rd_T55 x0 x3).f1) ((rd_T55 x0 x3).f2) ((rd_T55 x0 x3).f3)) else (if ((rd_T55 x0 x3).f1) < 0 then (r8_Messages.j1 k x0 x3 true ((rd_T55 x0 x3).f0) ((rd_T55 x0 x3).f1) ((rd_T55 x0 x3).f2) ((rd_T55 x0 x3).f3)) else (if ((rd_T55 x0 x3).f1) > 8 then (r8_Messages.j1 k x0 x3 true ((rd_T55 x0 x3).f0) ((rd_T55 x0 x3).f1) ((rd_T55 x0 x3).f2) ((rd_T55 x0 x3).f3)) else (if ((rd_T55 x0 x3).f2) < 1 then (r8_Messages.j1 k x0 x3 true ((rd_T55 x0 x3).f0) ((rd_T55 x0 x3).f1) ((rd_T55 x0 x3).f2) ((rd_T55 x0 x3).f3)) else (if ((rd_T55 x0 x3).f2) > 100000 then (r8_Messages.j1 k x0 x3 true ((rd_T55 x0 x3).f0) ((rd_T55 x0 x3).f1) ((rd_T55 x0 x3).f2) ((rd_T55 x0 x3).f3)) else (if ((rd_T55 x0 x3).f3) < 0 then (r8_Messages.j1 k x0 x3 true ((rd_T55 x0 x3).f0) ((rd_T55 x0 x3).f1) ((rd_T55 x0 x3).f2) ((rd_T55 x0 x3).f3)) else (r8_Messages.j1 k x0 x3 (decide (((rd_T55 x0 x3).f3) > 100000)) ((rd_T55 x0 x3).f0) ((rd_T55 x0 x3).f1) ((rd_T55 x0 x3).f2) ((rd_T55 x0 x3).f3))))))))) else (none)) else (some true)
def r8_Messages.j1 : Nat → List (S55) → Int → Bool → Int → Int → Int → Int → Option (Bool)
  | 0, _, _, _, _, _, _, _ => none
  | k + 1, x0, x3, x56, x398000, x398001, x398002, x398003 => if x56 = true then (some false) else (r8_Messages.l1 k x0 x3 0 x398000 x398001 x398002 x398003)
def r8_Messages.l1 : Nat → List (S55) → Int → Int → Int → Int → Int → Int → Option (Bool)
  | 0, _, _, _, _, _, _, _ => none
  | k + 1, x0, x3, x5, x398000, x398001, x398002, x398003 => if x5 < x3 then (if 0 ≤ x5 then (if x5 < (x0.length : Int) then (if ((rd_T55 x0 x5).f0) = x398000 then (some false) else (r8_Messages.l1 k x0 x3 (wrap64 (x5 + 1)) x398000 x398001 x398002 x398003)) else (none)) else (none)) else (r8_Messages.l0 k x0 (wrap64 (x3 + 1)))
end
def r8_Messages.f (k : Nat) (l0 : List (S55)) : Option (Bool) := if (l0.length : Int) > 8 then (some false) else (r8_Messages.l0 k l0 0)
end Go.Proofs.YtbanemecfobonaaDoor.B
