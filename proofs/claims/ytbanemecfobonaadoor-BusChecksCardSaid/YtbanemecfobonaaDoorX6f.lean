/- Ratios: Add. -/
import Derived.Test.YtbanemecfobonaaDoorX6e0
import Derived.Deep.DeepCutAuto
import Derived.Deep.RegionHeld3
namespace Go.Proofs.YtbanemecfobonaaDoor.B
open Go.RowKit Go.Proofs.YtbanemecfobonaaDoorW.PrintWords Go.Proofs.YtbanemecfobonaaDoorW.PrintLast Go.Proofs.YtbanemecfobonaaDoorW.PrintMore
set_option linter.unusedVariables false
set_option linter.unusedSimpArgs false

/-- The sum of two ratios. -/
def ratAdd (Div : List Int → List Int → Option (List Int × List Int)) (k n : Nat) (lx dx ly dy : List Int) : Option (List Int × List Int) :=
  (big_times.f k lx (den1 dy)).bind fun a => (big_times.f k ly (den1 dx)).bind fun b => (plus2 k a b).bind fun s => (big_times.f k (den1 dx) (den1 dy)).bind fun d => ratSet Div k n s d

/-- Add into a number of the call's own, told by a base world. -/
theorem big_Int_Add.calls2 (k g gb : Nat) (la lb r : List Int) (w W : World) (hg : FI w W g la) (hy : FI w W gb lb) (hB : Below w.heap.size w W) (h : plus2 k la lb = some r) :
    Calls Tryd.prog 121 #[.pointer (some ⟨g, 0, none⟩), .pointer (some ⟨g, 0, none⟩), .pointer (some ⟨gb, 0, none⟩)] W fun e w' => e = .returned (.pointer (some ⟨g, 0, none⟩)) ∧ Below w.heap.size w w' ∧ FI w w' g r := by
  have hi := hg.int
  obtain ⟨h0, A, c, h1, h2⟩ := hg
  refine (big_Int_Add.calls k g g gb _ 121 la lb r W h1 (by decide) (by simp) hi hy.int h).mono fun e w' ⟨he, ho, A2, c2, ha, hh⟩ => ⟨he, ho.below hB h0, h0, A2, c2, hh.trans (by simp), ha⟩
/-- below, told by a base world. -/
theorem big_Rat_below.calls2 (g : Nat) (l d : List Int) (w W : World) (hg : RatB W g l d) (hB : Below w.heap.size w W) :
    Calls Tryd.prog 109 #[.pointer (some ⟨g, 0, none⟩)] W fun e w' => ∃ A' c', e = .returned (.slice A' (den1 d).length c') ∧ WA w' A' c' (den1 d) ∧ Below W.heap.size W w' ∧ Below w.heap.size w w' := by
  obtain ⟨A, c, A', c', h1, h2, h3⟩ := hg
  exact (big_Rat_below.calls g _ _ 123 A' c' d W h1 h3).mono fun e w' ⟨A2, c2, ha, he, hb⟩ => ⟨A2, c2, he, ha, hb, below_step hB hb⟩
/-- times, told by a base world. -/
theorem big_times.calls2 (k : Nat) (A0 : Option Addr) (c0 : Nat) (l0 : List Int) (A1 : Option Addr) (c1 : Nat) (l1 r : List Int) (w W : World) (h0 : WA W A0 c0 l0) (h1 : WA W A1 c1 l1) (hB : Below w.heap.size w W) (h : big_times.f k l0 l1 = some r) :
    Calls Tryd.prog 122 #[.slice A0 l0.length c0, .slice A1 l1.length c1] W fun e w' => ∃ A' c', e = .returned (.slice A' r.length c') ∧ WA w' A' c' r ∧ Below W.heap.size W w' ∧ Below w.heap.size w w' := by
  refine (big_times.calls k A0 c0 l0 A1 c1 l1 r W h0.1 h0.2.1 h1.1 h1.2.1 h).mono ?_
  rintro e w1 ⟨v, rfl, hv, hb⟩
  obtain ⟨Ar, cr, rfl, hr⟩ := WA.of_R hv
  have hb' : Below W.heap.size W w1 := ⟨hb.os, hb.tape, hb.output, hb.size, hb.block⟩
  exact ⟨Ar, cr, rfl, hr, hb', below_step hB hb'⟩

set_option maxHeartbeats 4000000 in
set_option maxRecDepth 100000 in
theorem big_Rat_Add.calls (Div : List Int → List Int → Option (List Int × List Int)) (hD : DivOk Div) (k n gz gx gy : Nat) (v0 v1 v2 : Value) (lx dx ly dy r1 r2 : List Int) (w : World) (hz : w.heap[gz]? = some (.cells #[v0, v1, v2] 123 (0, 0))) (hx : RatB w gx lx dx) (hy : RatB w gy ly dy) (h : ratAdd Div k n lx dx ly dy = some (r1, r2)) :
    Calls Tryd.prog 102 #[.pointer (some ⟨gz, 0, none⟩), .pointer (some ⟨gx, 0, none⟩), .pointer (some ⟨gy, 0, none⟩)] w fun e w' => e = .returned (.pointer (some ⟨gz, 0, none⟩)) ∧ Only w w' gz ∧ RatB w' gz r1 r2 := by
  obtain ⟨a, ha, h⟩ := Option.bind_eq_some_iff.mp h
  obtain ⟨b, hb, h⟩ := Option.bind_eq_some_iff.mp h
  obtain ⟨s, hs, h⟩ := Option.bind_eq_some_iff.mp h
  obtain ⟨d, hd, h⟩ := Option.bind_eq_some_iff.mp h
  have hltz : gz < w.heap.size := blk_lt hz
  have hltx : gx < w.heap.size := by
    obtain ⟨_, _, _, _, h1, _⟩ := hx
    exact blk_lt h1
  have hlty : gy < w.heap.size := by
    obtain ⟨_, _, _, _, h1, _⟩ := hy
    exact blk_lt h1
  have HX : Aside0 (∀ W, Below w.heap.size w W → RatB W gx lx dx) := ⟨fun W hb => hx.below hb⟩
  have HY : Aside0 (∀ W, Below w.heap.size w W → RatB W gy ly dy) := ⟨fun W hb => hy.below hb⟩
  have HZ : Aside0 (∀ W, Below w.heap.size w W → W.heap[gz]? = some (.cells #[v0, v1, v2] 123 (0, 0))) := ⟨fun W hb => blk_below hz hb⟩
  have HA := Aside0.mk ha
  have HB := Aside0.mk hb
  have HS := Aside0.mk hs
  have HD := Aside0.mk hd
  have HR := Aside0.mk h
  have HLz := Aside0.mk hltz
  have HLx := Aside0.mk hltx
  have HLy := Aside0.mk hlty
  clear hx hy hz ha hb hs hd h hltx hlty hltz
  go_enter Tryd.func102, Tryd.ntmps102
  go_wp2
  go_cut [7] (fun s7 w' => ∃ g1 : Nat, s7 = .pointer (some ⟨g1, 0, none⟩) ∧ Below w.heap.size w w' ∧ FI w w' g1 a)
  case first =>
    go_region_with (first | (go_at_call_of 73 (Value.pointer (some ⟨gy, 0, none⟩)); refine (big_Rat_Denom.calls2 gy ly dy w _ (HY.out _ ?q1) ?q1).mono ?_; (case q1 => repeat (first | exact Below.refl _ _ | exact B9.out | exact B2.out | exact B1.out | exact B0.out | apply below_alloc | apply pw_below_drewN | apply below_drew1)); rintro e w1 ⟨g1, rfl, b1, B1, s1, f1⟩; replace b1 := Aside0.mk b1; replace B1 := Aside0.mk B1; replace s1 := Aside0.mk s1; replace f1 := Aside0.mk f1) | (go_at_call_of 119 (Value.pointer (some ⟨gx, 0, none⟩)); refine (big_Int_Mul.calls2 k _ gx g1 [] lx (den1 dy) a w _ ?q1 (HX.out _ ?q5).num (FI.int (w := w) ?q2) ?q3 ?q4 ?q5 HA.out).mono ?_; (case q5 => repeat (first | exact Below.refl _ _ | exact B9.out | exact B2.out | exact B1.out | exact B0.out | apply below_alloc | apply pw_below_drewN | apply below_drew1)); (case q1 => repeat (first | with_reducible exact f1.out | with_reducible refine FI.drewN ?_ _ | with_reducible refine FI.drew ?_ | with_reducible refine FI.below ?_ b1.out | ((with_reducible refine FI.new' ?_ ?_); rotate_left; (first | rfl | simp only [World.size_alloc, drew_size]); refine Below.size (B := w.heap.size) ?_; repeat (first | exact Below.refl _ _ | exact B9.out | exact B2.out | exact B1.out | exact B0.out | apply below_alloc | apply pw_below_drewN | apply below_drew1)) | with_reducible refine FI.alloc ?_ _)); (case q2 => repeat (first | with_reducible exact f1.out | with_reducible refine FI.drewN ?_ _ | with_reducible refine FI.drew ?_ | with_reducible refine FI.below ?_ b1.out | ((with_reducible refine FI.new' ?_ ?_); rotate_left; (first | rfl | simp only [World.size_alloc, drew_size]); refine Below.size (B := w.heap.size) ?_; repeat (first | exact Below.refl _ _ | exact B9.out | exact B2.out | exact B1.out | exact B0.out | apply below_alloc | apply pw_below_drewN | apply below_drew1)) | with_reducible refine FI.alloc ?_ _)); (case q3 => (have z0_ : World.drew w.drew = w.drew.drew := rfl; (try have y0_ := HLx.out); (try simp only [World.size_alloc, drew_size] at y0_); (try have y1_ := s1.out); (try simp only [World.size_alloc, drew_size] at y1_); (try have y2_ := f1.out.lt); (try simp only [World.size_alloc, drew_size] at y2_); (try have y3_ := B1.out.size); (try simp only [World.size_alloc, drew_size] at y3_); (try have y4_ := b1.out.size); (try simp only [World.size_alloc, drew_size] at y4_); (first | omega | (simp only [World.size_alloc, drew_size, ne_eq]; omega)))); (case q4 => (have z0_ : World.drew w.drew = w.drew.drew := rfl; (try have y0_ := HLx.out); (try simp only [World.size_alloc, drew_size] at y0_); (try have y1_ := s1.out); (try simp only [World.size_alloc, drew_size] at y1_); (try have y2_ := f1.out.lt); (try simp only [World.size_alloc, drew_size] at y2_); (try have y3_ := B1.out.size); (try simp only [World.size_alloc, drew_size] at y3_); (try have y4_ := b1.out.size); (try simp only [World.size_alloc, drew_size] at y4_); (first | omega | (simp only [World.size_alloc, drew_size, ne_eq]; omega)))); rintro e w2 ⟨rfl, o2, B2, f2, T2⟩; replace B2 := Aside0.mk B2; replace f2 := Aside0.mk f2; clear f1 s1 T2 o2))
    all_goals (go_wp2; go_meet; exact ⟨_, rfl, B2.out, f2.out⟩)
  case rest =>
  obtain ⟨g7, rfl, B0, f7⟩ := hcut
  replace B0 := Aside0.mk B0
  replace f7 := Aside0.mk f7
  go_wp2
  go_cut [8] (fun s8 w' => ∃ g2 : Nat, s8 = .pointer (some ⟨g2, 0, none⟩) ∧ Below w.heap.size w w' ∧ FI w w' g7 a ∧ FI w w' g2 b)
  case first =>
    go_region_with (first | (go_at_call_of 73 (Value.pointer (some ⟨gx, 0, none⟩)); refine (big_Rat_Denom.calls2 gx lx dx w _ (HX.out _ ?q1) ?q1).mono ?_; (case q1 => repeat (first | exact Below.refl _ _ | exact B9.out | exact B2.out | exact B1.out | exact B0.out | apply below_alloc | apply pw_below_drewN | apply below_drew1)); rintro e w1 ⟨g1, rfl, b1, B1, s1, f1⟩; replace b1 := Aside0.mk b1; replace B1 := Aside0.mk B1; replace s1 := Aside0.mk s1; replace f1 := Aside0.mk f1) | (go_at_call_of 119 (Value.pointer (some ⟨gy, 0, none⟩)); refine (big_Int_Mul.calls2 k _ gy g1 [] ly (den1 dx) b w _ ?q1 (HY.out _ ?q5).num (FI.int (w := w) ?q2) ?q3 ?q4 ?q5 HB.out).mono ?_; (case q5 => repeat (first | exact Below.refl _ _ | exact B9.out | exact B2.out | exact B1.out | exact B0.out | apply below_alloc | apply pw_below_drewN | apply below_drew1)); (case q1 => repeat (first | with_reducible exact f1.out | with_reducible refine FI.drewN ?_ _ | with_reducible refine FI.drew ?_ | with_reducible refine FI.below ?_ b1.out | ((with_reducible refine FI.new' ?_ ?_); rotate_left; (first | rfl | simp only [World.size_alloc, drew_size]); refine Below.size (B := w.heap.size) ?_; repeat (first | exact Below.refl _ _ | exact B9.out | exact B2.out | exact B1.out | exact B0.out | apply below_alloc | apply pw_below_drewN | apply below_drew1)) | with_reducible refine FI.alloc ?_ _)); (case q2 => repeat (first | with_reducible exact f1.out | with_reducible refine FI.drewN ?_ _ | with_reducible refine FI.drew ?_ | with_reducible refine FI.below ?_ b1.out | ((with_reducible refine FI.new' ?_ ?_); rotate_left; (first | rfl | simp only [World.size_alloc, drew_size]); refine Below.size (B := w.heap.size) ?_; repeat (first | exact Below.refl _ _ | exact B9.out | exact B2.out | exact B1.out | exact B0.out | apply below_alloc | apply pw_below_drewN | apply below_drew1)) | with_reducible refine FI.alloc ?_ _)); (case q3 => (have z0_ : World.drew w.drew = w.drew.drew := rfl; (try have y0_ := HLx.out); (try simp only [World.size_alloc, drew_size] at y0_); (try have y1_ := HLy.out); (try simp only [World.size_alloc, drew_size] at y1_); (try have y2_ := s1.out); (try simp only [World.size_alloc, drew_size] at y2_); (try have y3_ := f1.out.lt); (try simp only [World.size_alloc, drew_size] at y3_); (try have y4_ := B1.out.size); (try simp only [World.size_alloc, drew_size] at y4_); (try have y5_ := b1.out.size); (try simp only [World.size_alloc, drew_size] at y5_); (try have y6_ := B0.out.size); (try simp only [World.size_alloc, drew_size] at y6_); (try have y7_ := f7.out.lt); (try simp only [World.size_alloc, drew_size] at y7_); (first | omega | (simp only [World.size_alloc, drew_size, ne_eq]; omega)))); (case q4 => (have z0_ : World.drew w.drew = w.drew.drew := rfl; (try have y0_ := HLx.out); (try simp only [World.size_alloc, drew_size] at y0_); (try have y1_ := HLy.out); (try simp only [World.size_alloc, drew_size] at y1_); (try have y2_ := s1.out); (try simp only [World.size_alloc, drew_size] at y2_); (try have y3_ := f1.out.lt); (try simp only [World.size_alloc, drew_size] at y3_); (try have y4_ := B1.out.size); (try simp only [World.size_alloc, drew_size] at y4_); (try have y5_ := b1.out.size); (try simp only [World.size_alloc, drew_size] at y5_); (try have y6_ := B0.out.size); (try simp only [World.size_alloc, drew_size] at y6_); (try have y7_ := f7.out.lt); (try simp only [World.size_alloc, drew_size] at y7_); (first | omega | (simp only [World.size_alloc, drew_size, ne_eq]; omega)))); rintro e w2 ⟨rfl, o2, B2, f2, T2⟩; replace B2 := Aside0.mk B2; replace f2 := Aside0.mk f2; replace T2 := Aside0.mk (T2 g7 a ?q6 ?q7); (case q6 => (have z0_ : World.drew w.drew = w.drew.drew := rfl; (try have y0_ := HLx.out); (try simp only [World.size_alloc, drew_size] at y0_); (try have y1_ := HLy.out); (try simp only [World.size_alloc, drew_size] at y1_); (try have y2_ := s1.out); (try simp only [World.size_alloc, drew_size] at y2_); (try have y3_ := f1.out.lt); (try simp only [World.size_alloc, drew_size] at y3_); (try have y4_ := B1.out.size); (try simp only [World.size_alloc, drew_size] at y4_); (try have y5_ := b1.out.size); (try simp only [World.size_alloc, drew_size] at y5_); (try have y6_ := B0.out.size); (try simp only [World.size_alloc, drew_size] at y6_); (try have y7_ := f7.out.lt); (try simp only [World.size_alloc, drew_size] at y7_); (first | omega | (simp only [World.size_alloc, drew_size, ne_eq]; omega)))); (case q7 => repeat (first | with_reducible exact f7.out | with_reducible refine FI.drewN ?_ _ | with_reducible refine FI.drew ?_ | with_reducible refine FI.below ?_ b1.out | ((with_reducible refine FI.new' ?_ ?_); rotate_left; (first | rfl | simp only [World.size_alloc, drew_size]); refine Below.size (B := w.heap.size) ?_; repeat (first | exact Below.refl _ _ | exact B9.out | exact B2.out | exact B1.out | exact B0.out | apply below_alloc | apply pw_below_drewN | apply below_drew1)) | with_reducible refine FI.alloc ?_ _)); clear f1 s1 o2))
    all_goals (go_wp2; go_meet; exact ⟨_, rfl, B2.out, T2.out, f2.out⟩)
  case rest =>
  obtain ⟨g8, rfl, B1, f9, f8⟩ := hcut
  replace B1 := Aside0.mk B1
  replace f9 := Aside0.mk f9
  replace f8 := Aside0.mk f8
  clear f7 B0
  go_wp2_with (first | (go_at_call 121; refine (big_Int_Add.calls2 k g7 g8 a b s w _ f9.out f8.out B1.out HS.out).mono ?_; rintro e w3 ⟨rfl, B2, f3⟩; replace B2 := Aside0.mk B2; obtain ⟨h70, As, cs, h7b, h7w⟩ := f3))
  have hcx0 : w3.cell? ⟨g7, 0, none⟩ = some (.bool false) := (blk_cell h7b 0).trans rfl
  have hcx1 : w3.cell? ⟨g7, 1, none⟩ = some (.slice As s.length cs) := (blk_cell h7b 1).trans rfl
  have HS0 := Aside0.mk (show ∀ W, Below w3.heap.size w3 W → W.cell? ⟨g7, 0, none⟩ = some (.bool false) ∧ W.cell? ⟨g7, 1, none⟩ = some (.slice As s.length cs) from fun W hb => ⟨(blk_cell (blk_below h7b hb) 0).trans rfl, (blk_cell (blk_below h7b hb) 1).trans rfl⟩)
  have HS2 := Aside0.mk (show ∀ W1 W2, Below w3.heap.size w3 W1 → KeepBut W1 W2 gz none → W2.cell? ⟨g7, 0, none⟩ = some (.bool false) ∧ W2.cell? ⟨g7, 1, none⟩ = some (.slice As s.length cs) from fun W1 W2 hb hk => ⟨keep_cell hk ((blk_cell (blk_below h7b hb) 0).trans rfl) (by have := HLz.out; simp only; omega), keep_cell hk ((blk_cell (blk_below h7b hb) 1).trans rfl) (by have := HLz.out; simp only; omega)⟩)
  have HW7 := Aside0.mk (show ∀ W, Below w3.heap.size w3 W → WA W As cs s from fun W hb => h7w.below hb)
  clear h70 h7b h7w f9 f8
  go_wp2
  go_region_held3 (fun w1 => w1.cell? ⟨g7, 0, none⟩ = some (.bool false) ∧ w1.cell? ⟨g7, 1, none⟩ = some (.slice As s.length cs)) (first | exact ⟨hcx0, hcx1⟩ | exact HS2.out _ _ B9.out hk.out.2 | exact HS0.out _ B9.out | go_keep)
    (first
    | (go_at_call_of 109 (Value.pointer (some ⟨gx, 0, none⟩)); refine (big_Rat_below.calls2 gx lx dx w3 _ (HX.out _ (below_step B2.out ?q1)) ?q1).mono ?_; (case q1 => repeat (first | exact Below.refl _ _ | exact B9.out | exact B2.out | exact B1.out | exact B0.out | apply below_alloc | apply pw_below_drewN | apply below_drew1)); rintro e w4 ⟨A4, c4, rfl, a4, b4, B9⟩; replace a4 := Aside0.mk a4; replace B9 := Aside0.mk B9; clear b4)
    | (go_at_call_of 109 (Value.pointer (some ⟨gy, 0, none⟩)); refine (big_Rat_below.calls2 gy ly dy w3 _ (HY.out _ (below_step B2.out ?q1)) ?q1).mono ?_; (case q1 => repeat (first | exact Below.refl _ _ | exact B9.out | exact B2.out | exact B1.out | exact B0.out | apply below_alloc | apply pw_below_drewN | apply below_drew1)); rintro e w5 ⟨A5, c5, rfl, a5, b5, B9⟩; replace a4 := Aside0.mk ((a4.out.drewN 0).below b5); replace a5 := Aside0.mk a5; replace B9 := Aside0.mk B9; clear b5)
    | (go_at_call 122; refine (big_times.calls2 k A4 c4 (den1 dx) A5 c5 (den1 dy) d w3 _ (by first | exact a4.out | exact a4.out.drewN _) (by first | exact a5.out | exact a5.out.drewN _) ?q1 HD.out).mono ?_; (case q1 => repeat (first | exact Below.refl _ _ | exact B9.out | exact B2.out | exact B1.out | exact B0.out | apply below_alloc | apply pw_below_drewN | apply below_drew1)); rintro e w6 ⟨A6, c6, rfl, a6, b6, B9⟩; replace a6 := Aside0.mk a6; replace B9 := Aside0.mk B9; clear b6 a4 a5)
    | (go_at_call 120; refine (big_Rat_set.calls Div hD k n gz v0 v1 v2 As A6 cs c6 s d r1 r2 _ (HZ.out _ (below_step B2.out ?q1)) (HW7.out _ ?q1) (by first | exact a6.out | exact a6.out.drewN _) HR.out).mono ?_; (case q1 => repeat (first | exact Below.refl _ _ | exact B9.out | exact B2.out | exact B1.out | exact B0.out | apply below_alloc | apply pw_below_drewN | apply below_drew1)); rintro e w7 ⟨rfl, hk, he⟩; replace hk := Aside0.mk hk; replace he := Aside0.mk he))
  rename_i hHeld
  clear hHeld HS0 HS2 hcx0 hcx1
  go_wp2
  go_ret
  exact ⟨rfl, (Only.of_below (below_step B2.out (by repeat (first | exact Below.refl _ _ | exact B9.out | exact B2.out | exact B1.out | exact B0.out | apply below_alloc | apply pw_below_drewN | apply below_drew1))) gz).trans hk.out, he.out⟩

end Go.Proofs.YtbanemecfobonaaDoor.B
