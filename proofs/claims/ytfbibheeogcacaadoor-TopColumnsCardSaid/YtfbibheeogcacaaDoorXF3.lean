/- bend.Free of "LLL". -/
import Derived.Test.YtfbibheeogcacaaDoorXF2
import Derived.Test.YtfbibheeogcacaaDoorXS
namespace Go.Proofs.YtfbibheeogcacaaDoor.B
open Go.RowKit Go.Proofs.YtfbibheeogcacaaDoorW.PrintWords Go.Proofs.YtfbibheeogcacaaDoorW.PrintLast Go.Proofs.YtfbibheeogcacaaDoorW.PrintMore
set_option linter.unusedVariables false
set_option linter.unusedSimpArgs false
theorem freeB_plL : freeB plL = false := by first | decide | decide +kernel
set_option maxHeartbeats 800000 in
set_option maxRecDepth 100000 in
theorem all_LLL (w : World) : Calls Tryd.prog 35 #[.string LLL] w fun e w' => e = .returned (.int .i64 7) ∧ Below w.heap.size w w' := by
  go_enter Tryd.func35, Tryd.ntmps35
  go_wp2
  go_ret
  exact ⟨by first | rfl | (congr 1; decide +kernel), by repeat (first | exact Below.refl _ _ | apply below_alloc | apply pw_below_drewN | apply below_drew1)⟩
set_option maxHeartbeats 800000 in
set_option maxRecDepth 100000 in
theorem formed_LLL (w : World) : Calls Tryd.prog 32 #[.string LLL] w fun e w' => e = .returned (.bool true) ∧ Below w.heap.size w w' := by
  go_enter Tryd.func32, Tryd.ntmps32
  go_wp2_with (first | (go_at_call 43; refine (Tryd.Trim_LLL _).mono ?_; rintro e w1 ⟨rfl, b1⟩; replace b1 := Aside0.mk b1))
  go_ret
  exact ⟨rfl, b1.out⟩
set_option maxHeartbeats 1600000 in
set_option maxRecDepth 100000 in
/-- Free of "LLL", where global 0 holds the map of the turns. -/
theorem Free_LLL (w : World) (bm : Nat) (hg : w.cell? ⟨0, 0, none⟩ = some (.map (some bm))) (hl : ∀ W, Below w.heap.size w W → (Instr.lookup 80 (.map (some bm)) (.int .u8 76) false).run Tryd.prog W = .ok (.func (.func 115) #[] #[]) W) :
    Calls Tryd.prog 19 #[.string LLL] w fun e w' => e = .returned (.tuple #[.bool false, .int .i64 0]) ∧ Below w.heap.size w w' := by
  have HP : Aside0 (∀ W, Below w.heap.size w W → Calls Tryd.prog 34 #[.string LLL, .int .i64 7] W fun e w' => ∃ A c, e = .returned (.slice A 5 c) ∧ Kd.C k77 w' A 5 plL ∧ Below W.heap.size W w') := ⟨fun W hb => places_LLL W bm (keepc hb hg) (fun W' hb' => hl W' (below_step hb hb'))⟩
  have HF : Aside0 (∀ W A c, Kd.C k77 W A 5 plL → Calls Tryd.prog 33 #[.slice A 5 c] W fun e w' => e = .returned (.bool false) ∧ Below W.heap.size W w') := ⟨fun W A c h => by have h2 := bend_free.calls A c plL W h (by decide); rwa [freeB_plL] at h2⟩
  clear hg hl
  go_enter Tryd.func19, Tryd.ntmps19
  go_wp2_with (first
    | (go_at_call 32; refine (formed_LLL _).mono ?_; rintro e w1 ⟨rfl, b1⟩; replace b1 := Aside0.mk b1)
    | (go_at_call 35; refine (all_LLL _).mono ?_; rintro e w2 ⟨rfl, b2⟩; replace b2 := Aside0.mk (below_step b1.out b2))
    | (go_at_call 34; refine (HP.out _ b2.out).mono ?_; rintro e w3 ⟨A, c, rfl, hc, b3⟩; have HC3 := Aside0.mk hc; clear hc; replace b3 := Aside0.mk (below_step b2.out b3))
    | (go_at_call 33; refine (HF.out _ _ _ HC3.out).mono ?_; rintro e w4 ⟨rfl, b4⟩; replace b4 := Aside0.mk (below_step b3.out b4)))
  go_ret2
  exact ⟨rfl, b4.out⟩
end Go.Proofs.YtfbibheeogcacaaDoor.B
