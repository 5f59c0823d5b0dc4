/- BusOrders: the law's tied card. For every list of messages and list of numbers that memory can hold; the package-level variable bus.tail starts as the program's text lays it (the card ties it). -/
import Derived.Test.YtbanemecfobonaaDoorRows
import Derived.Test.YtbanemecfobonaaDoorTie
import Derived.Test.YtbanemecfobonaaDoorCards
import Derived.Test.YtbanemecfobonaaDoorJ2o
import Derived.Test.YtbanemecfobonaaDoorJ9o
import Derived.SevenTiedAt
namespace Go.Proofs.YtbanemecfobonaaDoor.busOrders
open Go.ChangeShapes Go.WideShapes Go.ChangeAt Go.RowKit
set_option linter.unusedVariables false
set_option maxRecDepth 100000 in
theorem lifted (os : Os) (started : os.Started) (H : Type) (enc : TypeId × Value → H) :
    ReturnsInHanded {} Tryd.checked os 12 .any (fun w args => (Rows.busOrdersSpec.pre enc Tryd.prog Tryd.f12 [] false w args ∧ laidMetH Tryd.prog B.laid w) ∧ sizedMet enc Tryd.prog Tryd.f12 (OpenSpec.ofChange Rows.busOrdersSpec) false w args)
      (Rows.busOrdersSpec.post enc Tryd.prog Tryd.f12 false true false false) := by
  refine returnsInHanded_of_change_and (C := Tryd.checked) (X := fun w _ => laidMetH Tryd.prog B.laid w) (fun _ _ _ hh h => h.of_heap hh) B.own started (by kernel_rfl) Tryd.func12
    (ChangeSpec.witness_shaped (enc := enc) (C := Tryd.checked) (os := os) (X := fun w _ => laidMetH Tryd.prog B.laid w) false (World.doorLaid Tryd.prog 400 os) #[.slice none 0 0, .slice none 0 0] 8 rfl (World.shaped_of_RefB (by kernel_rfl) (by kernel_rfl)) (by kernel_rfl) (by kernel_rfl) (by kernel_rfl) (B.door_met os _)) ?_
  (intro W base args ds gs before hval0 hW _ hsz0 hL _); (have hval : ∀ (j : Nat) t v, Tryd.f12.params[j]? = some t → args[j]? = some v → Value.okWide Tryd.prog W .any base t v := hval0); have hW' := hW; obtain ⟨p, q, hA0, hV, rfl, hfz, hnd⟩ := hW; (have hA : DataW.TrodAll enc Tryd.prog W 0 (fun _ => true) true Tryd.f12.params.toList args.toList ds p := hA0); rw [Tryd.params12] at hA hval; (obtain ⟨v0, vs0, d0, ds0, p0, q0, hargs, rfl, rfl, h0, r0⟩ := trodAll_cons hA); (obtain ⟨v1, vs1, d1, ds1, p1, q1, rfl, rfl, rfl, h1, r1⟩ := trodAll_cons r0); (obtain ⟨rfl, rfl, rfl⟩ := trodAll_nil r1); (obtain rfl : args = #[v0, v1] := by cases args; simp_all); (obtain ⟨rfl, rfl⟩ := trodVars_none hV); have k0 := h0; (have lt0 : ∀ x ∈ p0, x.block < W.heap.size := by obtain ⟨m, hm⟩ := k0; exact DataW.trod_lt m _ _ _ hm); have k1 := h1; (have lt1 : ∀ x ∈ p1, x.block < W.heap.size := by obtain ⟨m, hm⟩ := k1; exact DataW.trod_lt m _ _ _ hm); (obtain ⟨a0, len0, cap0, rfl⟩ := okWide_slice Tryd.underlying46 (hval 0 46 v0 rfl rfl)); obtain ⟨fu0, hf0⟩ := h0; (obtain ⟨A0, l0, c0, e0, hr0, hc0, hm0⟩ := B.messages_of_trod hf0); simp only [Value.slice.injEq] at e0; obtain ⟨rfl, rfl, rfl⟩ := e0; (obtain ⟨a1, len1, cap1, rfl⟩ := okWide_slice Tryd.underlying22 (hval 1 22 v1 rfl rfl)); obtain ⟨fu1, hf1⟩ := h1; (obtain ⟨A1, l1, c1, e1, hr1, hc1, hm1⟩ := B.ints_of_trod hf1); simp only [Value.slice.injEq] at e1; obtain ⟨rfl, rfl, rfl⟩ := e1; clear hA0 hval0 hsz0; (obtain ⟨k, h⟩ := Pure.BusOrders l0 l1); (refine (B.w8_BusOrders.calls k _ _ l0 _ _ l1 true W hr0 hc0 hr1 hc1 h (B.of_laid hL)).mono ?_)
  (rintro e W' ⟨he, bel⟩); subst he; (exact ⟨_, rfl, _, _, _, [], _, [], hW', trodAll_mk1 (shut_bool Tryd.underlying4 _), (trodAll_cons_mk (Below.trod B.laidOut (by kernel_rfl) (of_decide_eq_true (by kernel_rfl)) k0 bel lt0) (trodAll_cons_mk (Below.trod B.laidOut (by kernel_rfl) (of_decide_eq_true (by kernel_rfl)) k1 bel lt1) trodAll_mk0)), rfl, bel.frame _, fun h => by cases h⟩)
theorem row : Rows.BusOrdersSaid :=
  OpenClaim.holds_of_wide 12 Tryd.f12 rfl rfl rfl rfl rfl rfl rfl ⟨rfl, rfl, rfl, rfl, rfl⟩ rfl rfl rfl rfl rfl (by kernel_rfl) Tryd.func12 (by kernel_rfl)
    (of_decide_eq_true (by kernel_rfl)) (by unfold Func.isWrapper; first | (rw [if_pos (by decide +kernel)]; kernel_rfl) | (rw [if_neg (by decide +kernel)]; exact ⟨rfl, rfl⟩))
    (fun os started H enc _ => lifted os started H enc)
end Go.Proofs.YtbanemecfobonaaDoor.busOrders
namespace Go.Proofs.YtbanemecfobonaaDoor
theorem busOrders_holds : Rows.BusOrdersCardSaid :=
  Claim7.holds_tied_plain_at .later [] [.widerDeep] true (true, "7ed61bca531f4f1d482c95627f8e3c3f2d4eddf80943f5c5304d9b474644a252") false
    busOrders.row (fun _ h => by cases h) (by kernel_rfl) (fun _ h => by cases h) busOrders_row_tie rfl ⟨rfl, rfl⟩ (by kernel_rfl) rfl
    (fun f fn hf hfn => by
      obtain rfl : f = 12 := Option.some.inj ((show Tryd.prog.funcNamed "neonwright/neonwrightlaw08.BusOrders" = some 12 by kernel_rfl).symm.trans hf) |>.symm
      obtain rfl : fn = Tryd.f12 := (Option.some.inj (Tryd.func12.symm.trans hfn)).symm
      exact ⟨by kernel_rfl, fun j t ht => by
        rw [Tryd.params12] at ht
        have hm := Array.mem_of_getElem? ht
        have hall : ((#[46, 22] : Array TypeId).toList.all fun u => !Tryd.prog.wantsStandIn u) = true := by kernel_rfl
        exact (show Tryd.prog.wantsStandIn t = false by simpa using List.all_eq_true.1 hall t (by simpa using hm))⟩)
    (by kernel_rfl)
#print axioms busOrders_holds
end Go.Proofs.YtbanemecfobonaaDoor
