/- Written by a program (lite.py) from my texts. -/
import Derived.Test.YtbanemecfobonaaDoorB0q
namespace Go.Proofs.YtbanemecfobonaaDoor.B
open Go.RowKit Go.Proofs.YtbanemecfobonaaDoorW.PrintWords Go.Proofs.YtbanemecfobonaaDoorW.PrintLast Go.Proofs.YtbanemecfobonaaDoorW.PrintMore
attribute [local go_sem] max2_int min2_int max_two min_two max_three min_three max_four min_four
set_option linter.unusedVariables false
set_option linter.unusedSimpArgs false
def r8_longest.f (a0 : Int) : Option (Int) := some (wrap64 ((wrap64 (47 + (wrap64 (8 * a0)))) + (wrap64 (Int.tdiv (wrap64 (33 + (wrap64 (8 * a0)))) 4))))
set_option maxHeartbeats 8000000 in
set_option maxRecDepth 100000 in
theorem r8_longest.calls (a0 : Int) (r : Int) (w : World) (h : r8_longest.f a0 = some r) :
    Calls Tryd.prog 63 #[.int .i64 a0] w fun e w' => e = .returned (.int .i64 r) ∧ Drawn0 w w' := by
  have H : (some (wrap64 ((wrap64 (47 + (wrap64 (8 * a0)))) + (wrap64 (Int.tdiv (wrap64 (33 + (wrap64 (8 * a0)))) 4))))) = some r := h
  clear h
  obtain rfl := sI H
  go_enter Tryd.func63, Tryd.ntmps63
  go_wp2
  go_ret
  exact ⟨by first | rfl | (simp; done) | (simp [*]; done), by repeat (first | exact Drawn0.refl _ | apply Drawn0.step)⟩
def r8_Longest.f (a0 : Int) : Option (Int × Int) := if a0 < 0 then (some (0, 2)) else (if a0 > 8 then (some (0, 2)) else ((r8_longest.f a0).bind fun t378 => (some (t378, 0))))
end Go.Proofs.YtbanemecfobonaaDoor.B
