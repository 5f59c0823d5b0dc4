/- BusMore: the law's tied card. For every list of messages, numbers and message that memory can hold; the package-level variable bus.tail starts as the program's text lays it (the card ties it). -/
import Derived.Test.YtbanemecfobonaaDoorRows
import Derived.Test.YtbanemecfobonaaDoorTie
import Derived.Test.YtbanemecfobonaaDoorCards
import Derived.Test.YtbanemecfobonaaDoorGRm
import Derived.Test.YtbanemecfobonaaDoorR5m
import Derived.Test.YtbanemecfobonaaDoorPureBusMorem
import Derived.SevenTiedAt
namespace Go.Proofs.YtbanemecfobonaaDoor.busMore
open Go.ChangeShapes Go.WideShapes Go.ChangeAt Go.RowKit
set_option linter.unusedVariables false
set_option maxRecDepth 100000 in
theorem lifted (os : Os) (started : os.Started) (H : Type) (enc : TypeId × Value → H) :
    ReturnsInHanded {} Tryd.checked os 11 .any (fun w args => (Rows.busMoreSpec.pre enc Tryd.prog Tryd.f11 [] false w args ∧ laidMetH Tryd.prog B.laid w) ∧ sizedMet enc Tryd.prog Tryd.f11 (OpenSpec.ofChange Rows.busMoreSpec) false w args)
      (Rows.busMoreSpec.post enc Tryd.prog Tryd.f11 false true false false) := by
  refine returnsInHanded_of_change_and (C := Tryd.checked) (X := fun w _ => laidMetH Tryd.prog B.laid w) (fun _ _ _ hh h => h.of_heap hh) B.own started (by kernel_rfl) Tryd.func11
    (ChangeSpec.witness_shaped (enc := enc) (C := Tryd.checked) (os := os) (X := fun w _ => laidMetH Tryd.prog B.laid w) false (World.doorLaid Tryd.prog 400 os) #[.slice none 0 0, .int .i64 0, .int .u16 0, .int .u16 0, .agg #[.int .i64 0, .int .i64 0, .int .i64 0, .int .i64 0]] 8 rfl (World.shaped_of_RefB (by kernel_rfl) (by kernel_rfl)) (by kernel_rfl) (by kernel_rfl) (by kernel_rfl) (B.door_met os _)) ?_
  (intro W base args ds gs before hval0 hW _ hsz0 hL _); (have hval : ∀ (j : Nat) t v, Tryd.f11.params[j]? = some t → args[j]? = some v → Value.okWide Tryd.prog W .any base t v := hval0); have hW' := hW; obtain ⟨p, q, hA0, hV, rfl, hfz, hnd⟩ := hW; (have hA : DataW.TrodAll enc Tryd.prog W 0 (fun _ => true) true Tryd.f11.params.toList args.toList ds p := hA0); rw [Tryd.params11] at hA hval; (obtain ⟨v0, vs0, d0, ds0, p0, q0, hargs, rfl, rfl, h0, r0⟩ := trodAll_cons hA); (obtain ⟨v1, vs1, d1, ds1, p1, q1, rfl, rfl, rfl, h1, r1⟩ := trodAll_cons r0); (obtain ⟨v2, vs2, d2, ds2, p2, q2, rfl, rfl, rfl, h2, r2⟩ := trodAll_cons r1); (obtain ⟨v3, vs3, d3, ds3, p3, q3, rfl, rfl, rfl, h3, r3⟩ := trodAll_cons r2); (obtain ⟨v4, vs4, d4, ds4, p4, q4, rfl, rfl, rfl, h4, r4⟩ := trodAll_cons r3); (obtain ⟨rfl, rfl, rfl⟩ := trodAll_nil r4); (obtain rfl : args = #[v0, v1, v2, v3, v4] := by cases args; simp_all); (obtain ⟨rfl, rfl⟩ := trodVars_none hV); have k0 := h0; (have lt0 : ∀ x ∈ p0, x.block < W.heap.size := by obtain ⟨m, hm⟩ := k0; exact DataW.trod_lt m _ _ _ hm); have k1 := h1; (have lt1 : ∀ x ∈ p1, x.block < W.heap.size := by obtain ⟨m, hm⟩ := k1; exact DataW.trod_lt m _ _ _ hm); have k2 := h2; (have lt2 : ∀ x ∈ p2, x.block < W.heap.size := by obtain ⟨m, hm⟩ := k2; exact DataW.trod_lt m _ _ _ hm); have k3 := h3; (have lt3 : ∀ x ∈ p3, x.block < W.heap.size := by obtain ⟨m, hm⟩ := k3; exact DataW.trod_lt m _ _ _ hm); have k4 := h4; (have lt4 : ∀ x ∈ p4, x.block < W.heap.size := by obtain ⟨m, hm⟩ := k4; exact DataW.trod_lt m _ _ _ hm); (obtain ⟨a0, len0, cap0, rfl⟩ := okWide_slice Tryd.underlying46 (hval 0 46 v0 rfl rfl))
  obtain ⟨fu0, hf0⟩ := h0; (obtain ⟨A0, l0, c0, e0, hr0, hc0, hm0⟩ := B.messages_of_trod hf0); simp only [Value.slice.injEq] at e0; obtain ⟨rfl, rfl, rfl⟩ := e0; (obtain ⟨a1, rfl, rfl, rfl, w1⟩ := open_int Tryd.underlying3 (hval 1 3 v1 rfl rfl) h1); (obtain ⟨a2, rfl, rfl, rfl, w2⟩ := open_int Tryd.underlying53 (hval 2 53 v2 rfl rfl) h2)
  have hw2 : 0 ≤ a2 ∧ a2 ≤ 65535 := by
    simp only [Lit.wf, Bool.and_eq_true, decide_eq_true_eq] at w2
    exact ⟨w2.1, w2.2⟩
  (obtain ⟨a3, rfl, rfl, rfl, w3⟩ := open_int Tryd.underlying53 (hval 3 53 v3 rfl rfl) h3)
  have hw3 : 0 ≤ a3 ∧ a3 ≤ 65535 := by
    simp only [Lit.wf, Bool.and_eq_true, decide_eq_true_eq] at w3
    exact ⟨w3.1, w3.2⟩
  (obtain ⟨a4, b4, c4, d4, rfl⟩ := B.open_message (hval 4 55 v4 rfl rfl) h4); clear hA0 hval0 hsz0; (obtain ⟨k, h⟩ := Pure.BusMore l0 a1 a2 a3 a4 b4 c4 d4 hw2.1 hw2.2 hw3.1 hw3.2); (refine (B.w8_BusMore.calls k _ _ l0 a1 a2 a3 a4 b4 c4 d4 true W hr0 hc0 h (B.of_laid hL)).mono ?_); (rintro e W' ⟨he, bel⟩); subst he; (exact ⟨_, rfl, _, _, _, [], _, [], hW', trodAll_mk1 (shut_bool Tryd.underlying4 _), (trodAll_cons_mk (Below.trod B.laidOut (by kernel_rfl) (of_decide_eq_true (by kernel_rfl)) k0 bel lt0) (trodAll_cons_mk (Below.trod B.laidOut (by kernel_rfl) (of_decide_eq_true (by kernel_rfl)) k1 bel lt1) (trodAll_cons_mk (Below.trod B.laidOut (by kernel_rfl) (of_decide_eq_true (by kernel_rfl)) k2 bel lt2) (trodAll_cons_mk (Below.trod B.laidOut (by kernel_rfl) (of_decide_eq_true (by kernel_rfl)) k3 bel lt3) (trodAll_cons_mk (Below.trod B.laidOut (by kernel_rfl) (of_decide_eq_true (by kernel_rfl)) k4 bel lt4) trodAll_mk0))))), rfl, bel.frame _, fun h => by cases h⟩)
theorem row : Rows.BusMoreSaid :=
  OpenClaim.holds_of_wide 11 Tryd.f11 rfl rfl rfl rfl rfl rfl rfl ⟨rfl, rfl, rfl, rfl, rfl⟩ rfl rfl rfl rfl rfl (by kernel_rfl) Tryd.func11 (by kernel_rfl)
    (of_decide_eq_true (by kernel_rfl)) (by unfold Func.isWrapper; first | (rw [if_pos (by decide +kernel)]; kernel_rfl) | (rw [if_neg (by decide +kernel)]; exact ⟨rfl, rfl⟩))
    (fun os started H enc _ => lifted os started H enc)
end Go.Proofs.YtbanemecfobonaaDoor.busMore
namespace Go.Proofs.YtbanemecfobonaaDoor
theorem busMore_holds : Rows.BusMoreCardSaid :=
  Claim7.holds_tied_plain_at .later [] [.widerDeep] true (true, "7ed61bca531f4f1d482c95627f8e3c3f2d4eddf80943f5c5304d9b474644a252") false
    busMore.row (fun _ h => by cases h) (by kernel_rfl) (fun _ h => by cases h) busMore_row_tie rfl ⟨rfl, rfl⟩ (by kernel_rfl) rfl
    (fun f fn hf hfn => by
      obtain rfl : f = 11 := Option.some.inj ((show Tryd.prog.funcNamed "neonwright/neonwrightlaw08.BusMore" = some 11 by kernel_rfl).symm.trans hf) |>.symm
      obtain rfl : fn = Tryd.f11 := (Option.some.inj (Tryd.func11.symm.trans hfn)).symm
      exact ⟨by kernel_rfl, fun j t ht => by
        rw [Tryd.params11] at ht
        have hm := Array.mem_of_getElem? ht
        have hall : ((#[46, 3, 53, 53, 55] : Array TypeId).toList.all fun u => !Tryd.prog.wantsStandIn u) = true := by kernel_rfl
        exact (show Tryd.prog.wantsStandIn t = false by simpa using List.all_eq_true.1 hall t (by simpa using hm))⟩)
    (by kernel_rfl)
#print axioms busMore_holds
end Go.Proofs.YtbanemecfobonaaDoor
