/- Hidden's contract, in the printer's form. -/
import Derived.Test.YtfbibheeogcacaaDoorXC6
namespace Go.Proofs.YtfbibheeogcacaaDoor.B
open Go.RowKit Go.Proofs.YtfbibheeogcacaaDoorW.PrintWords Go.Proofs.YtfbibheeogcacaaDoorW.PrintLast Go.Proofs.YtfbibheeogcacaaDoorW.PrintMore
set_option linter.unusedVariables false
set_option linter.unusedSimpArgs false
set_option maxHeartbeats 800000 in
set_option maxRecDepth 100000 in
theorem find_Hidden_bad (n d : Int) (A : Option Addr) (c : Nat) (l : List (List Int)) (w : World) (hr : Kd.C (Kd.slice 3 (Kd.int .i64)) w A l.length l) (he : ofE n l ≠ 0) :
    Calls Tryd.prog 5 #[.int .i64 n, .slice A l.length c, .int .i64 d] w fun e w' => e = .returned (.tuple #[.slice none 0 0, .int .i64 (ofE n l)]) ∧ Below w.heap.size w w' := by
  have HF := Aside0.mk (find_of_bad n A c l w hr he)
  have t1 : (ofE n l != 0) = true := by simpa using he
  clear hr he
  generalize ofE n l = r at *
  go_enter Tryd.func5, Tryd.ntmps5
  go_wp2_with (first | (go_at_call 9; refine HF.out.mono ?_; rintro e w1 ⟨rfl, b1⟩; replace b1 := Aside0.mk b1))
  go_ret2
  exact ⟨rfl, b1.out⟩
end Go.Proofs.YtfbibheeogcacaaDoor.B
