/- Written by a program (lite.py) from my texts. -/
import Derived.Test.YtbanemecfobonaaDoorB0v
import Derived.Test.YtbanemecfobonaaDoorBM0v
import Derived.Test.YtbanemecfobonaaDoorBRLv
import Derived.Test.YtbanemecfobonaaDoorGWv
namespace Go.Proofs.YtbanemecfobonaaDoor.B
open Go.RowKit Go.Proofs.YtbanemecfobonaaDoorW.PrintWords Go.Proofs.YtbanemecfobonaaDoorW.PrintLast Go.Proofs.YtbanemecfobonaaDoorW.PrintMore
attribute [local go_sem] max2_int min2_int max_two min_two max_three min_three max_four min_four
set_option linter.unusedVariables false
set_option linter.unusedSimpArgs false
def r8_due.f (a0_0 : Int) (a0_1 : Int) (a0_2 : Int) (a0_3 : Int) (l1 : List Int) (a2 : Int) : Option (Int) := if a2 < (l1.length : Int) then (if 0 ≤ a2 then (some (wrap64 ((wrap64 (a2 * a0_2)) + (rd l1 a2)))) else (none)) else (some (wrap64 (a2 * a0_2)))
mutual
def r8_Late.j0 : Nat → List (S55) → List (List Int) → Bool → Option (Bool)
  | 0, _, _, _ => none
  | k + 1, x0, x1, x26 => if x26 = true then (some false) else (r8_Late.l0 k x0 x1 0)
def r8_Late.l0 : Nat → List (S55) → List (List Int) → Int → Option (Bool)
  | 0, _, _, _ => none
  | k + 1, x0, x1, x7 => if x7 < (x0.length : Int) then (r8_Late.l1 k x0 x1 x7 0) else (some true)
def r8_Late.l1 : Nat → List (S55) → List (List Int) → Int → Int → Option (Bool)
  | 0, _, _, _, _ => none
  | k + 1, x0, x1, x7, x8 => if 0 ≤ x7 then (if x7 < (x1.length : Int) then (if x8 < ((rd_L1 x1 x7).length : Int) then (if 0 ≤ x8 then (if (rd (rd_L1 x1 x7) x8) < 0 then (some false) else (if x7 < (x0.length : Int) then (if (rd (rd_L1 x1 x7) x8) > ((rd_T55 x0 x7).f3) then (some false) else ((r8_due.f ((rd_T55 x0 x7).f0) ((rd_T55 x0 x7).f1) ((rd_T55 x0 x7).f2) ((rd_T55 x0 x7).f3) (rd_L1 x1 x7) x8).bind fun t870 => ((r8_due.f ((rd_T55 x0 x7).f0) ((rd_T55 x0 x7).f1) ((rd_T55 x0 x7).f2) ((rd_T55 x0 x7).f3) (rd_L1 x1 x7) (wrap64 (x8 + 1))).bind fun t873 => (if t870 ≥ t873 then (some false) else (r8_Late.l1 k x0 x1 x7 (wrap64 (x8 + 1))))))) else (none))) else (none)) else (r8_Late.l0 k x0 x1 (wrap64 (x7 + 1)))) else (none)) else (none)
end
def r8_Late.f (k : Nat) (l0 : List (S55)) (l1 : List (List Int)) (a2 : Int) : Option (Bool) := (r8_Messages.f k l0).bind fun t861 => (if t861 = true then (if a2 < 0 then (r8_Late.j0 k l0 l1 true) else (if a2 > 1000000 then (r8_Late.j0 k l0 l1 true) else (r8_Late.j0 k l0 l1 ((l1.length : Int) != (l0.length : Int))))) else (r8_Late.j0 k l0 l1 true))
end Go.Proofs.YtbanemecfobonaaDoor.B
