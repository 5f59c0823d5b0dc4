/- Written by a program (lite.py) from my texts. -/
import Derived.Test.YtbanemecfobonaaDoorB0v
import Derived.Test.YtbanemecfobonaaDoorBM0v
import Derived.Test.YtbanemecfobonaaDoorBRLv
import Derived.Test.YtbanemecfobonaaDoorGWv
import Derived.Test.YtbanemecfobonaaDoorBM3v
namespace Go.Proofs.YtbanemecfobonaaDoor.B
open Go.RowKit Go.Proofs.YtbanemecfobonaaDoorW.PrintWords Go.Proofs.YtbanemecfobonaaDoorW.PrintLast Go.Proofs.YtbanemecfobonaaDoorW.PrintMore
attribute [local go_sem] max2_int min2_int max_two min_two max_three min_three max_four min_four
set_option linter.unusedVariables false
set_option linter.unusedSimpArgs false
mutual
def r8_Send.l0 : Nat → List (S55) → List (List Int) → Int → List Int → List (S74) → Int → Option ((List (S74)) × Int)
  | 0, _, _, _, _, _, _ => none
  | k + 1, x0, x1, x2, x8, x9, x10 => r8_Send.l1 k x0 x1 x2 x8 x9 x10 (-1) (-1) 0
def r8_Send.l1 : Nat → List (S55) → List (List Int) → Int → List Int → List (S74) → Int → Int → Int → Int → Option ((List (S74)) × Int)
  | 0, _, _, _, _, _, _, _, _, _ => none
  | k + 1, x0, x1, x2, x8, x9, x10, x11, x12, x13 => if x13 < (x0.length : Int) then (if 0 ≤ x13 then (if x13 < (x1.length : Int) then (if x13 < (x8.length : Int) then ((r8_due.f ((rd_T55 x0 x13).f0) ((rd_T55 x0 x13).f1) ((rd_T55 x0 x13).f2) ((rd_T55 x0 x13).f3) (rd_L1 x1 x13) (rd x8 x13)).bind fun t881 => (if t881 ≥ x2 then (r8_Send.l1 k x0 x1 x2 x8 x9 x10 x11 x12 (wrap64 (x13 + 1))) else (if x12 < 0 then (r8_Send.j2 k x0 x1 x2 x8 x9 x10 x11 x12 x13 t881 true) else (r8_Send.j2 k x0 x1 x2 x8 x9 x10 x11 x12 x13 t881 (decide (t881 < x12)))))) else (none)) else (none)) else (none)) else (if x12 < 0 then (some (x9, 0)) else (if x11 < 0 then (r8_Send.l0 k x0 x1 x2 x8 x9 x12) else (if (x9.length : Int) = 20000 then (some (([] : List (S74)), 8)) else (if 0 ≤ x11 then (if x11 < (x0.length : Int) then (if x11 < (x1.length : Int) then (if x11 < (x8.length : Int) then ((r8_due.f ((rd_T55 x0 x11).f0) ((rd_T55 x0 x11).f1) ((rd_T55 x0 x11).f2) ((rd_T55 x0 x11).f3) (rd_L1 x1 x11) (rd x8 x11)).bind fun t889 => ((r8_longest.f ((rd_T55 x0 x11).f1)).bind fun t891 => (if x9.length < 5864062014805 then (r8_Send.l0 k x0 x1 x2 (x8.set (x11 : Int).toNat (wrap64 ((rd x8 x11) + 1))) (x9 ++ [(⟨(rd_T55 x0 x11).f0, t889, wrap64 (x10 + t891)⟩ : S74)]) (wrap64 (x10 + t891))) else (none)))) else (none)) else (none)) else (none)) else (none)))))
def r8_Send.j2 : Nat → List (S55) → List (List Int) → Int → List Int → List (S74) → Int → Int → Int → Int → Int → Bool → Option ((List (S74)) × Int)
  | 0, _, _, _, _, _, _, _, _, _, _, _ => none
  | k + 1, x0, x1, x2, x8, x9, x10, x11, x12, x13, x14, x52 => if x52 = true then (if x14 ≤ x10 then (if x11 < 0 then (r8_Send.l1 k x0 x1 x2 x8 x9 x10 x13 x14 (wrap64 (x13 + 1))) else (if 0 ≤ x13 then (if x13 < (x0.length : Int) then (if 0 ≤ x11 then (if x11 < (x0.length : Int) then (if ((rd_T55 x0 x13).f0) < ((rd_T55 x0 x11).f0) then (r8_Send.l1 k x0 x1 x2 x8 x9 x10 x13 x14 (wrap64 (x13 + 1))) else (r8_Send.l1 k x0 x1 x2 x8 x9 x10 x11 x14 (wrap64 (x13 + 1)))) else (none)) else (none)) else (none)) else (none))) else (r8_Send.l1 k x0 x1 x2 x8 x9 x10 x11 x14 (wrap64 (x13 + 1)))) else (if x14 ≤ x10 then (if x11 < 0 then (r8_Send.l1 k x0 x1 x2 x8 x9 x10 x13 x12 (wrap64 (x13 + 1))) else (if 0 ≤ x13 then (if x13 < (x0.length : Int) then (if 0 ≤ x11 then (if x11 < (x0.length : Int) then (if ((rd_T55 x0 x13).f0) < ((rd_T55 x0 x11).f0) then (r8_Send.l1 k x0 x1 x2 x8 x9 x10 x13 x12 (wrap64 (x13 + 1))) else (r8_Send.l1 k x0 x1 x2 x8 x9 x10 x11 x12 (wrap64 (x13 + 1)))) else (none)) else (none)) else (none)) else (none))) else (r8_Send.l1 k x0 x1 x2 x8 x9 x10 x11 x12 (wrap64 (x13 + 1))))
end
def r8_Send.f (k : Nat) (l0 : List (S55)) (l1 : List (List Int)) (a2 : Int) : Option ((List (S74)) × Int) := (r8_Late.f k l0 l1 a2).bind fun t874 => (if t874 = true then (if 0 ≤ (l0.length : Int) then (if ((l0.length : Int) : Int).toNat ≤ 35184372088832 then (r8_Send.l0 k l0 l1 a2 (List.replicate ((l0.length : Int) : Int).toNat 0) ([] : List (S74)) 0) else (none)) else (none)) else (some (([] : List (S74)), 2)))
end Go.Proofs.YtbanemecfobonaaDoor.B
