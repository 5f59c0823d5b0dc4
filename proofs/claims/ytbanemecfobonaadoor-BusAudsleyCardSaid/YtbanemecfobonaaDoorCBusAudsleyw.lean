/- BusAudsley: the law's tied card. For every list of messages, two lists of numbers and number that memory can hold; the package-level variable bus.tail starts as the program's text lays it (the card ties it). -/
import Derived.Test.YtbanemecfobonaaDoorRows
import Derived.Test.YtbanemecfobonaaDoorTie
import Derived.Test.YtbanemecfobonaaDoorCards
import Derived.Test.YtbanemecfobonaaDoorGRw
import Derived.Test.YtbanemecfobonaaDoorPureBusAudsleyw
import Derived.SevenTiedAt
namespace Go.Proofs.YtbanemecfobonaaDoor.busAudsley
open Go.ChangeShapes Go.WideShapes Go.ChangeAt Go.RowKit
set_option linter.unusedVariables false
set_option maxRecDepth 100000 in
theorem lifted (os : Os) (started : os.Started) (H : Type) (enc : TypeId × Value → H) :
    ReturnsInHanded {} Tryd.checked os 13 .any (fun w args => (Rows.busAudsleySpec.pre enc Tryd.prog Tryd.f13 [] false w args ∧ laidMetH Tryd.prog B.laid w) ∧ sizedMet enc Tryd.prog Tryd.f13 (OpenSpec.ofChange Rows.busAudsleySpec) false w args)
      (Rows.busAudsleySpec.post enc Tryd.prog Tryd.f13 false true false false) := by
  refine returnsInHanded_of_change_and (C := Tryd.checked) (X := fun w _ => laidMetH Tryd.prog B.laid w) (fun _ _ _ hh h => h.of_heap hh) B.own started (by kernel_rfl) Tryd.func13
    (ChangeSpec.witness_shaped (enc := enc) (C := Tryd.checked) (os := os) (X := fun w _ => laidMetH Tryd.prog B.laid w) false (World.doorLaid Tryd.prog 400 os) #[.slice none 0 0, .slice none 0 0, .slice none 0 0, .int .u16 0] 8 rfl (World.shaped_of_RefB (by kernel_rfl) (by kernel_rfl)) (by kernel_rfl) (by kernel_rfl) (by kernel_rfl) (B.door_met os _)) ?_
  (intro W base args ds gs before hval0 hW _ hsz0 hL _); (have hval : ∀ (j : Nat) t v, Tryd.f13.params[j]? = some t → args[j]? = some v → Value.okWide Tryd.prog W .any base t v := hval0); have hW' := hW; obtain ⟨p, q, hA0, hV, rfl, hfz, hnd⟩ := hW; (have hA : DataW.TrodAll enc Tryd.prog W 0 (fun _ => true) true Tryd.f13.params.toList args.toList ds p := hA0); rw [Tryd.params13] at hA hval; (obtain ⟨v0, vs0, d0, ds0, p0, q0, hargs, rfl, rfl, h0, r0⟩ := trodAll_cons hA); (obtain ⟨v1, vs1, d1, ds1, p1, q1, rfl, rfl, rfl, h1, r1⟩ := trodAll_cons r0); (obtain ⟨v2, vs2, d2, ds2, p2, q2, rfl, rfl, rfl, h2, r2⟩ := trodAll_cons r1); (obtain ⟨v3, vs3, d3, ds3, p3, q3, rfl, rfl, rfl, h3, r3⟩ := trodAll_cons r2); (obtain ⟨rfl, rfl, rfl⟩ := trodAll_nil r3); (obtain rfl : args = #[v0, v1, v2, v3] := by cases args; simp_all); (obtain ⟨rfl, rfl⟩ := trodVars_none hV); have k0 := h0; (have lt0 : ∀ x ∈ p0, x.block < W.heap.size := by obtain ⟨m, hm⟩ := k0; exact DataW.trod_lt m _ _ _ hm); have k1 := h1; (have lt1 : ∀ x ∈ p1, x.block < W.heap.size := by obtain ⟨m, hm⟩ := k1; exact DataW.trod_lt m _ _ _ hm); have k2 := h2; (have lt2 : ∀ x ∈ p2, x.block < W.heap.size := by obtain ⟨m, hm⟩ := k2; exact DataW.trod_lt m _ _ _ hm); have k3 := h3; (have lt3 : ∀ x ∈ p3, x.block < W.heap.size := by obtain ⟨m, hm⟩ := k3; exact DataW.trod_lt m _ _ _ hm); (obtain ⟨a0, len0, cap0, rfl⟩ := okWide_slice Tryd.underlying46 (hval 0 46 v0 rfl rfl)); obtain ⟨fu0, hf0⟩ := h0; (obtain ⟨A0, l0, c0, e0, hr0, hc0, hm0⟩ := B.messages_of_trod hf0); simp only [Value.slice.injEq] at e0
  obtain ⟨rfl, rfl, rfl⟩ := e0; (obtain ⟨a1, len1, cap1, rfl⟩ := okWide_slice Tryd.underlying22 (hval 1 22 v1 rfl rfl)); obtain ⟨fu1, hf1⟩ := h1; (obtain ⟨A1, l1, c1, e1, hr1, hc1, hm1⟩ := B.ints_of_trod hf1); simp only [Value.slice.injEq] at e1; obtain ⟨rfl, rfl, rfl⟩ := e1; (obtain ⟨a2, len2, cap2, rfl⟩ := okWide_slice Tryd.underlying22 (hval 2 22 v2 rfl rfl)); obtain ⟨fu2, hf2⟩ := h2; (obtain ⟨A2, l2, c2, e2, hr2, hc2, hm2⟩ := B.ints_of_trod hf2); simp only [Value.slice.injEq] at e2; obtain ⟨rfl, rfl, rfl⟩ := e2; (obtain ⟨a3, rfl, rfl, rfl, w3⟩ := open_int Tryd.underlying53 (hval 3 53 v3 rfl rfl) h3)
  have hw3 : 0 ≤ a3 ∧ a3 ≤ 65535 := by
    simp only [Lit.wf, Bool.and_eq_true, decide_eq_true_eq] at w3
    exact ⟨w3.1, w3.2⟩
  clear hA0 hval0 hsz0; (obtain ⟨k, h⟩ := Pure.BusAudsley l0 l1 l2 a3 hw3.1 hw3.2); (refine (B.w8_BusAudsley.calls k _ _ l0 _ _ l1 _ _ l2 a3 true W hr0 hc0 hr1 hc1 hr2 hc2 h (B.of_laid hL)).mono ?_); (rintro e W' ⟨he, bel⟩); subst he; (exact ⟨_, rfl, _, _, _, [], _, [], hW', trodAll_mk1 (shut_bool Tryd.underlying4 _), (trodAll_cons_mk (Below.trod B.laidOut (by kernel_rfl) (of_decide_eq_true (by kernel_rfl)) k0 bel lt0) (trodAll_cons_mk (Below.trod B.laidOut (by kernel_rfl) (of_decide_eq_true (by kernel_rfl)) k1 bel lt1) (trodAll_cons_mk (Below.trod B.laidOut (by kernel_rfl) (of_decide_eq_true (by kernel_rfl)) k2 bel lt2) (trodAll_cons_mk (Below.trod B.laidOut (by kernel_rfl) (of_decide_eq_true (by kernel_rfl)) k3 bel lt3) trodAll_mk0)))), rfl, bel.frame _, fun h => by cases h⟩)
theorem row : Rows.BusAudsleySaid :=
  OpenClaim.holds_of_wide 13 Tryd.f13 rfl rfl rfl rfl rfl rfl rfl ⟨rfl, rfl, rfl, rfl, rfl⟩ rfl rfl rfl rfl rfl (by kernel_rfl) Tryd.func13 (by kernel_rfl)
    (of_decide_eq_true (by kernel_rfl)) (by unfold Func.isWrapper; first | (rw [if_pos (by decide +kernel)]; kernel_rfl) | (rw [if_neg (by decide +kernel)]; exact ⟨rfl, rfl⟩))
    (fun os started H enc _ => lifted os started H enc)
end Go.Proofs.YtbanemecfobonaaDoor.busAudsley
namespace Go.Proofs.YtbanemecfobonaaDoor
theorem busAudsley_holds : Rows.BusAudsleyCardSaid :=
  Claim7.holds_tied_plain_at .later [] [.widerDeep] true (true, "7ed61bca531f4f1d482c95627f8e3c3f2d4eddf80943f5c5304d9b474644a252") false
    busAudsley.row (fun _ h => by cases h) (by kernel_rfl) (fun _ h => by cases h) busAudsley_row_tie rfl ⟨rfl, rfl⟩ (by kernel_rfl) rfl
    (fun f fn hf hfn => by
      obtain rfl : f = 13 := Option.some.inj ((show Tryd.prog.funcNamed "neonwright/neonwrightlaw08.BusAudsley" = some 13 by kernel_rfl).symm.trans hf) |>.symm
      obtain rfl : fn = Tryd.f13 := (Option.some.inj (Tryd.func13.symm.trans hfn)).symm
      exact ⟨by kernel_rfl, fun j t ht => by
        rw [Tryd.params13] at ht
        have hm := Array.mem_of_getElem? ht
        have hall : ((#[46, 22, 22, 53] : Array TypeId).toList.all fun u => !Tryd.prog.wantsStandIn u) = true := by kernel_rfl
        exact (show Tryd.prog.wantsStandIn t = false by simpa using List.all_eq_true.1 hall t (by simpa using hm))⟩)
    (by kernel_rfl)
#print axioms busAudsley_holds
end Go.Proofs.YtbanemecfobonaaDoor
