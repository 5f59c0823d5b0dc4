/- Sort of a row of one number. -/
import Derived.Test.YtfbibheeogcacaaDoorBS
import Derived.Test.YtfbibheeogcacaaDoorXC1
namespace Go.Proofs.YtfbibheeogcacaaDoor.B
open Go.RowKit Go.Proofs.YtfbibheeogcacaaDoorW.PrintWords Go.Proofs.YtfbibheeogcacaaDoorW.PrintLast Go.Proofs.YtfbibheeogcacaaDoorW.PrintMore
set_option linter.unusedVariables false
set_option linter.unusedSimpArgs false
theorem insert_one (x : Int) : slices_insertionSortOrdered_int.f 1 [x] 0 1 = some [x] := by
  unfold slices_insertionSortOrdered_int.f
  rw [slices_insertionSortOrdered_int.l0, if_neg (by simp [wrap64])]
set_option maxHeartbeats 800000 in
set_option maxRecDepth 100000 in
theorem len64_one (w : World) : Calls Tryd.prog 78 #[.int .u64 1] w fun e w' => e = .returned (.int .i64 1) ∧ Drawn0 w w' := by
  go_enter Tryd.func78, Tryd.ntmps78
  go_wp2
  go_ret
  exact ⟨by kernel_rfl, by repeat (first | exact Drawn0.refl _ | apply Drawn0.step)⟩
set_option maxHeartbeats 800000 in
set_option maxRecDepth 100000 in
theorem len_one (w : World) : Calls Tryd.prog 61 #[.int .u64 1] w fun e w' => e = .returned (.int .i64 1) ∧ Drawn0 w w' := by
  go_enter Tryd.func61, Tryd.ntmps61
  go_wp2_with (first | (go_at_call 78; refine (len64_one _).mono ?_; rintro e w1 ⟨rfl, ⟨nd, rfl⟩⟩))
  go_ret
  exact ⟨rfl, ⟨nd, rfl⟩⟩
set_option maxHeartbeats 2000000 in
set_option maxRecDepth 100000 in
theorem sort60_one (ad : Addr) (c : Nat) (x lim : Int) (P : Nat → Prop) (w0 w : World) (hB : Below w0.heap.size w0 w) (ho : Kd.R (Kd.int .i64) 3 w w0.heap.size P (.slice (some ad) 1 c) [x]) :
    Calls Tryd.prog 60 #[.slice (some ad) 1 c, .int .i64 0, .int .i64 1, .int .i64 lim] w fun e w' => e = .returned (.tuple #[]) ∧ Kd.R (Kd.int .i64) 3 w' w0.heap.size (fun k => P k ∨ w.heap.size ≤ k) (.slice (some ad) 1 c) [x] ∧ Below w0.heap.size w0 w' := by
  have HC := Aside0.mk (slices_insertionSortOrdered_int.calls 1 P (.slice (some ad) 1 c) [x] 0 1 [x] w0 w hB ho (insert_one x))
  clear hB ho
  go_enter Tryd.func60, Tryd.ntmps60
  go_wp2
  go_loopg [1, 2] 0 (fun gk v1 v2 w' => v1 = .int .i64 0 ∧ v2 = .int .i64 1 ∧ w' = w)
  case atStart => exact ⟨rfl, rfl, rfl⟩
  case round =>
    obtain ⟨rfl, rfl, rfl⟩ := hrel
    go_wp2_with (first | (go_at_call 68; refine HC.out.mono ?_; rintro e w1 ⟨rfl, r1, b1, _⟩; have R1 := Aside0.mk r1; have B1 := Aside0.mk b1; clear r1 b1))
    first | exact ⟨rfl, R1.out, B1.out⟩ | (first | go_end0 | ((try simp only [Exit.inBlock, Exit.then]); refine bodyPost_ret (results_none rfl _ _ _) rfl ?_)); exact ⟨rfl, R1.out, B1.out⟩
set_option maxHeartbeats 800000 in
set_option maxRecDepth 100000 in
theorem sort45_one (ad : Addr) (c : Nat) (x : Int) (P : Nat → Prop) (w0 w : World) (hB : Below w0.heap.size w0 w) (ho : Kd.R (Kd.int .i64) 3 w w0.heap.size P (.slice (some ad) 1 c) [x]) :
    Calls Tryd.prog 45 #[.slice (some ad) 1 c] w fun e w' => e = .returned (.tuple #[]) ∧ Kd.R (Kd.int .i64) 3 w' w0.heap.size (fun _ => True) (.slice (some ad) 1 c) [x] ∧ Below w0.heap.size w0 w' := by
  have HC : Aside0 (∀ nd lim, Calls Tryd.prog 60 #[.slice (some ad) 1 c, .int .i64 0, .int .i64 1, .int .i64 lim] (w.drewN nd) fun e w' => e = .returned (.tuple #[]) ∧ Kd.R (Kd.int .i64) 3 w' w0.heap.size (fun k => P k ∨ (w.drewN nd).heap.size ≤ k) (.slice (some ad) 1 c) [x] ∧ Below w0.heap.size w0 w') := ⟨fun nd lim => sort60_one ad c x lim P w0 _ (pw_below_drewN hB nd) (Kd.R_drewN ho nd)⟩
  clear hB ho
  go_enter Tryd.func45, Tryd.ntmps45
  go_wp2_with (first | (go_at_call 61; refine (len_one _).mono ?_; rintro e w1 ⟨rfl, ⟨nd, rfl⟩⟩) | (go_at_call 60; refine (HC.out _ _).mono ?_; rintro e w1 ⟨rfl, r1, b1⟩; have R1 := Aside0.mk r1; have B1 := Aside0.mk b1; clear r1 b1))
  first | go_end0 | ((try simp only [Exit.inBlock, Exit.then]); refine bodyPost_ret (results_none rfl _ _ _) rfl ?_)
  exact ⟨rfl, Kd.R_mono R1.out (fun _ _ => trivial), B1.out⟩
end Go.Proofs.YtfbibheeogcacaaDoor.B
