/- Ratios: set, SetFrac, Add, Cmp. -/
import Derived.Test.YtbanemecfobonaaDoorX6c
import Derived.StillTailTactics
namespace Go.Proofs.YtbanemecfobonaaDoor.B
open Go.RowKit Go.Proofs.YtbanemecfobonaaDoorW.PrintWords Go.Proofs.YtbanemecfobonaaDoorW.PrintLast Go.Proofs.YtbanemecfobonaaDoorW.PrintMore
set_option linter.unusedVariables false
set_option linter.unusedSimpArgs false

/-- A ratio at block g that is not below 0. -/
def RatB (w : World) (g : Nat) (l d : List Int) : Prop :=
  ∃ A c A' c', w.heap[g]? = some (.cells #[.bool false, .slice A l.length c, .slice A' d.length c'] 123 (0, 0)) ∧ WA w A c l ∧ WA w A' c' d
section
variable {w w' : World} {g g' : Nat} {l d : List Int}
theorem RatB.below (h : RatB w g l d) (hb : Below w.heap.size w w') : RatB w' g l d := by
  obtain ⟨A, c, A', c', h1, h2, h3⟩ := h
  exact ⟨A, c, A', c', blk_below h1 hb, h2.below hb, h3.below hb⟩
theorem RatB.only {cs : Array Value} {t : TypeId} (h : RatB w g l d) (hg : w.heap[g']? = some (.cells cs t (0, 0))) (ht : t ≠ 149) (hne : g ≠ g') (hk : Only w w' g') : RatB w' g l d := by
  obtain ⟨A, c, A', c', h1, h2, h3⟩ := h
  exact ⟨A, c, A', c', KeepBut.blk hk.2 h1 hne (by simp), h2.keep hg ht hk.2, h3.keep hg ht hk.2⟩
theorem RatB.num (h : RatB w g l d) : IntC w g false l := by
  obtain ⟨A, c, A', c', h1, h2, h3⟩ := h
  exact ⟨_, _, A, c, h1, by decide, rfl, rfl, h2⟩
end

/-- A ratio in lowest terms. -/
def ratSet (Div : List Int → List Int → Option (List Int × List Int)) (k n : Nat) (num den : List Int) : Option (List Int × List Int) :=
  (commonF Div k n num den).bind fun g => (big_compare.f k g [1]).bind fun c => if c > 0 then (Div num g).bind fun q1 => (Div den g).bind fun q2 => some (q1.1, q2.1) else some (num, den)

set_option maxHeartbeats 800000 in
set_option maxRecDepth 100000 in
theorem big_Rat_set.calls (Div : List Int → List Int → Option (List Int × List Int)) (hD : DivOk Div) (k n g : Nat) (v0 v1 v2 : Value) (A0 A1 : Option Addr) (c0 c1 : Nat) (l0 l1 r1 r2 : List Int) (w : World) (hg : w.heap[g]? = some (.cells #[v0, v1, v2] 123 (0, 0))) (h0 : WA w A0 c0 l0) (h1 : WA w A1 c1 l1) (h : ratSet Div k n l0 l1 = some (r1, r2)) :
    Calls Tryd.prog 120 #[.pointer (some ⟨g, 0, none⟩), .bool false, .slice A0 l0.length c0, .slice A1 l1.length c1] w fun e w' => e = .returned (.pointer (some ⟨g, 0, none⟩)) ∧ Only w w' g ∧ RatB w' g r1 r2 := by
  obtain ⟨gc, hgc, h⟩ := Option.bind_eq_some_iff.mp h
  obtain ⟨c, hc, h⟩ := Option.bind_eq_some_iff.mp h
  have HG := Aside0.mk hg
  have H0 := Aside0.mk h0
  have H1 := Aside0.mk h1
  have HC := Aside0.mk (fun w h0 h1 => big_common.calls Div hD k n A0 A1 c0 c1 l0 l1 gc w h0 h1 hgc)
  by_cases hlt : c > 0
  · rw [if_pos hlt] at h
    obtain ⟨⟨q1, s1⟩, hd1, h⟩ := Option.bind_eq_some_iff.mp h
    obtain ⟨⟨q2, s2⟩, hd2, h⟩ := Option.bind_eq_some_iff.mp h
    simp only [Option.some.injEq, Prod.mk.injEq] at h
    obtain ⟨rfl, rfl⟩ := h
    have t1 : decide (0 < c) = true := decide_eq_true hlt
    have HC2 : Aside0 (∀ (Ag : Option Addr) (cg : Nat) (w1 : World), WA w1 Ag cg gc → Calls Tryd.prog 105 #[.slice Ag gc.length cg, .slice (some ⟨w1.heap.size, 0, none⟩) 1 1] (w1.alloc (.cells #[.int .u32 1] 149)) fun e w' => e = .returned (.int .i64 c) ∧ Drawn0 (w1.alloc (.cells #[.int .u32 1] 149)) w') :=
      ⟨fun Ag cg w1 ha => big_compare.calls k Ag cg gc (some ⟨w1.heap.size, 0, none⟩) 1 [1] c (w1.alloc (.cells #[.int .u32 1] 149)) (ha.alloc _).1 (ha.alloc (.cells #[.int .u32 1] 149)).2.1 (WA.lit1 w1 1).1 (WA.lit1 w1 1).2.1 hc⟩
    have HA := Aside0.mk (fun (Ag : Option Addr) (cg : Nat) w h0 h1 => hD A0 Ag c0 cg l0 gc q1 s1 w h0 h1)
    have HB := Aside0.mk (fun (Ag : Option Addr) (cg : Nat) w h0 h1 => hD A1 Ag c1 cg l1 gc q2 s2 w h0 h1)
    have HD1 := Aside0.mk hd1
    have HD2 := Aside0.mk hd2
    clear hg h0 h1 hc hlt hd1 hd2
    go_enter Tryd.func120, Tryd.ntmps120
    go_wp2_with (first | (go_at_call 131; refine (HC.out _ H0.out H1.out).mono ?_; rintro e w1 ⟨Ag, cg, rfl, hga, hb1⟩; replace hga := Aside0.mk hga; replace hb1 := Aside0.mk hb1) | (go_at_call 105; (with_reducible refine (HC2.out Ag cg w1 hga.out).mono ?_); rintro e w2 ⟨rfl, ⟨nd, hw2⟩⟩; replace hga := Aside0.mk ((hga.out.alloc (.cells #[.int .u32 1] 149)).drewN nd); replace hb1 := Aside0.mk (pw_below_drewN (below_alloc hb1.out (.cells #[.int .u32 1] 149)) nd); rw [← hw2] at hga hb1; clear hw2) | (go_at_call 132; (with_reducible refine (HA.out Ag cg _ ?q1 ?q2 HD1.out).mono ?_); (case q1 => exact H0.out.below hb1.out); (case q2 => exact hga.out); rintro e w3 ⟨Aq, cq, Ar, cr, rfl, hq1, hr, hb3⟩; replace hq1 := Aside0.mk hq1; replace hga := Aside0.mk (hga.out.below hb3); replace hb1 := Aside0.mk (below_step hb1.out hb3); clear hr hb3) | (go_at_call 132; (with_reducible refine (HB.out Ag cg _ ?q1 ?q2 HD2.out).mono ?_); (case q1 => exact H1.out.below hb1.out); (case q2 => exact hga.out); rintro e w4 ⟨Aq2, cq2, Ar2, cr2, rfl, hq2, hr, hb3⟩; replace hq1 := Aside0.mk (hq1.out.below hb3); replace hq2 := Aside0.mk hq2; replace hb1 := Aside0.mk (below_step hb1.out hb3); clear hr hb3 hga) | (go_at_call 108; refine (big_Int_set.calls g #[v0, v1, v2] 123 false Aq cq q1 w4 (blk_below HG.out hb1.out) (by simp)).mono ?_; rintro e w5 ⟨rfl, hk, hz, he⟩; replace hk := Aside0.mk hk; have hfz := blk_frozen he 2; have hcz : w5.cell? ⟨g, 2, none⟩ = some v2 := (blk_cell he 2).trans (by simp); replace he := Aside0.mk he; clear hz))
    go_ret
    exact ⟨rfl, ((Only.of_below hb1.out g).trans hk.out).set_ 2 _, Aq, cq, Aq2, cq2, (blk_set he.out 2 _).trans (by simp), (hq1.out.keep (blk_below HG.out hb1.out) (by decide) hk.out.2).put he.out (by decide) 2 _, (hq2.out.keep (blk_below HG.out hb1.out) (by decide) hk.out.2).put he.out (by decide) 2 _⟩
  · rw [if_neg hlt] at h
    simp only [Option.some.injEq, Prod.mk.injEq] at h
    obtain ⟨rfl, rfl⟩ := h
    have t1 : decide (0 < c) = false := decide_eq_false hlt
    have HC2 : Aside0 (∀ (Ag : Option Addr) (cg : Nat) (w1 : World), WA w1 Ag cg gc → Calls Tryd.prog 105 #[.slice Ag gc.length cg, .slice (some ⟨w1.heap.size, 0, none⟩) 1 1] (w1.alloc (.cells #[.int .u32 1] 149)) fun e w' => e = .returned (.int .i64 c) ∧ Drawn0 (w1.alloc (.cells #[.int .u32 1] 149)) w') :=
      ⟨fun Ag cg w1 ha => big_compare.calls k Ag cg gc (some ⟨w1.heap.size, 0, none⟩) 1 [1] c (w1.alloc (.cells #[.int .u32 1] 149)) (ha.alloc _).1 (ha.alloc (.cells #[.int .u32 1] 149)).2.1 (WA.lit1 w1 1).1 (WA.lit1 w1 1).2.1 hc⟩
    clear hg h0 h1 hc hlt
    go_enter Tryd.func120, Tryd.ntmps120
    go_wp2_with (first | (go_at_call 131; refine (HC.out _ H0.out H1.out).mono ?_; rintro e w1 ⟨Ag, cg, rfl, hga, hb1⟩; replace hga := Aside0.mk hga; replace hb1 := Aside0.mk hb1) | (go_at_call 105; (with_reducible refine (HC2.out Ag cg w1 hga.out).mono ?_); rintro e w4 ⟨rfl, ⟨nd, hw2⟩⟩; replace hb1 := Aside0.mk (pw_below_drewN (below_alloc hb1.out (.cells #[.int .u32 1] 149)) nd); clear hga; rw [← hw2] at hb1; clear hw2) | (go_at_call 108; refine (big_Int_set.calls g #[v0, v1, v2] 123 false A0 c0 l0 w4 (blk_below HG.out hb1.out) (by simp)).mono ?_; rintro e w5 ⟨rfl, hk, hz, he⟩; replace hk := Aside0.mk hk; have hfz := blk_frozen he 2; have hcz : w5.cell? ⟨g, 2, none⟩ = some v2 := (blk_cell he 2).trans (by simp); replace he := Aside0.mk he; clear hz))
    go_ret
    exact ⟨rfl, ((Only.of_below hb1.out g).trans hk.out).set_ 2 _, A0, c0, A1, c1, (blk_set he.out 2 _).trans (by simp), ((H0.out.below hb1.out).keep (blk_below HG.out hb1.out) (by decide) hk.out.2).put he.out (by decide) 2 _, ((H1.out.below hb1.out).keep (blk_below HG.out hb1.out) (by decide) hk.out.2).put he.out (by decide) 2 _⟩

set_option maxHeartbeats 800000 in
set_option maxRecDepth 100000 in
theorem big_Rat_SetFrac.calls (Div : List Int → List Int → Option (List Int × List Int)) (hD : DivOk Div) (k n g ga gb : Nat) (v0 v1 v2 : Value) (la lb r1 r2 : List Int) (w : World) (hg : w.heap[g]? = some (.cells #[v0, v1, v2] 123 (0, 0))) (ha : IntC w ga false la) (hb : IntC w gb false lb) (h : ratSet Div k n la lb = some (r1, r2)) :
    Calls Tryd.prog 96 #[.pointer (some ⟨g, 0, none⟩), .pointer (some ⟨ga, 0, none⟩), .pointer (some ⟨gb, 0, none⟩)] w fun e w' => e = .returned (.pointer (some ⟨g, 0, none⟩)) ∧ Only w w' g ∧ RatB w' g r1 r2 := by
  obtain ⟨csx, tx, Ax, cx, hx1, hx2, hx3, hx4, hx5⟩ := ha
  obtain ⟨csy, ty, Ay, cy, hy1, hy2, hy3, hy4, hy5⟩ := hb
  have hcx0 : w.cell? ⟨ga, 0, none⟩ = some (.bool false) := (blk_cell hx1 0).trans hx3
  have hcx1 : w.cell? ⟨ga, 1, none⟩ = some (.slice Ax la.length cx) := (blk_cell hx1 1).trans hx4
  have hcy0 : w.cell? ⟨gb, 0, none⟩ = some (.bool false) := (blk_cell hy1 0).trans hy3
  have hcy1 : w.cell? ⟨gb, 1, none⟩ = some (.slice Ay lb.length cy) := (blk_cell hy1 1).trans hy4
  have HC : Aside0 (∀ m, Calls Tryd.prog 120 #[.pointer (some ⟨g, 0, none⟩), .bool false, .slice Ax la.length cx, .slice Ay lb.length cy] (w.drewN m) fun e w' => e = .returned (.pointer (some ⟨g, 0, none⟩)) ∧ Only w w' g ∧ RatB w' g r1 r2) :=
    ⟨fun m => (big_Rat_set.calls Div hD k n g v0 v1 v2 Ax Ay cx cy la lb r1 r2 (w.drewN m) hg (hx5.drewN m) (hy5.drewN m) h).mono fun e w' hh => hh⟩
  clear hg hx5 hy5 hx1 hx2 hx3 hx4 hy1 hy2 hy3 hy4 h
  go_enter Tryd.func96, Tryd.ntmps96
  go_wp2
  go_still_tail 18, (by kernel_rfl)
  change wpList _ _ _ _ _ (w.drewN 1)
  go_wp2_with (first | (go_at_call 120; refine (HC.out 1).mono ?_; rintro e w1 ⟨rfl, h1, h2⟩; replace h1 := Aside0.mk h1; replace h2 := Aside0.mk h2))
  go_ret
  exact ⟨rfl, h1.out, h2.out⟩

end Go.Proofs.YtbanemecfobonaaDoor.B
