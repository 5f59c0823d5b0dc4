/- tube.least, doubled and Double at the closed drawing of two points and one line. -/
import Derived.Test.YtfbibheeogcacaaDoorXDE
namespace Go.Proofs.YtfbibheeogcacaaDoor.B
open Go.RowKit Go.Proofs.YtfbibheeogcacaaDoorW.PrintWords Go.Proofs.YtfbibheeogcacaaDoorW.PrintLast Go.Proofs.YtfbibheeogcacaaDoorW.PrintMore
set_option linter.unusedVariables false
set_option linter.unusedSimpArgs false
def lineL : List S48 := [⟨0, 1, 3⟩]
set_option maxHeartbeats 800000 in
set_option maxRecDepth 100000 in
theorem fine_q (A : Option Addr) (n c gm : Nat) (w : World) (hm : w.cell? ⟨gm, 0, none⟩ = some (.int .i64 0)) :
    Calls Tryd.prog 42 #[.slice A n c, .pointer (some ⟨gm, 0, none⟩)] w fun e w' => e = .returned (.bool (decide (n = 0))) ∧ w' = w := by
  go_enter Tryd.func42, Tryd.ntmps42
  go_wp2
  go_ret
  exact ⟨rfl, rfl⟩
theorem all_v : tube_drawing_all.f 2 lineL = some (1, 2) := by decide +kernel
theorem odd_v0 : tube_drawing_odd.f 4 2 lineL 0 = some (3, 2) := by decide +kernel
theorem odd_v1 : tube_drawing_odd.f 4 2 lineL 1 = some (0, 2) := by decide +kernel
theorem mem_v3 : tube_members.f 5 3 = some [0, 1] := by decide +kernel
theorem mem_v0 : tube_members.f 5 0 = some [] := by decide +kernel
theorem mem_v1 : tube_members.f 5 1 = some [0] := by decide +kernel
theorem len_v1 : tube_drawing_length.f 5 2 lineL 1 = some (3, 2) := by decide +kernel
theorem len_v0 : tube_drawing_length.f 5 2 lineL 0 = some (0, 2) := by decide +kernel
set_option maxHeartbeats 2000000 in
set_option maxRecDepth 100000 in
theorem least_one (g gm : Nat) (w0 w : World) (hI : IsS83 w0 w g 2 lineL) (hB : Below w0.heap.size w0 w) (hm : w0.cell? ⟨gm, 0, none⟩ = some (.int .i64 0)) :
    Calls Tryd.prog 41 #[.pointer (some ⟨g, 0, none⟩), .func (.func 42) #[] #[.pointer (some ⟨gm, 0, none⟩)]] w fun e w' => ∃ v : Value, e = .returned (.tuple #[v, .int .i64 3]) ∧ Kd.R (Kd.int .i64) 3 w' w0.heap.size (fun _ => True) v [0] ∧ Below w0.heap.size w0 w' := by
  have HI := Aside0.mk hI
  have HB := Aside0.mk hB
  have HM := Aside0.mk hm
  clear hI hB hm
  go_enter Tryd.func41, Tryd.ntmps41
  go_upto_region 3 with (first
    | (go_at_call 48; refine (tube_drawing_all.calls g 2 lineL 1 2 w0 _ HI.out HB.out all_v).mono ?_; rintro e w1 ⟨rfl, hI1, hB1, _⟩; have HI1 := Aside0.mk hI1; have HB1 := Aside0.mk hB1; clear hI1 hB1))
  clear HI HB
  go_loopg [6, 7, 14] 2 (fun gk v6 v7 v14 w' => ∃ s : Nat, v14 = .int .i64 (s : Int) ∧ Aside0 (gk = 2 - s) ∧ Aside0 ((s = 0 ∧ v6 = .int .i64 0 ∧ v7 = .bool false) ∨ (s = 1 ∧ v6 = .int .i64 0 ∧ v7 = .bool false) ∨ (s = 2 ∧ v6 = .int .i64 1 ∧ v7 = .bool true)) ∧ Aside0 (IsS83 w0 w' g 2 lineL) ∧ Aside0 (Below w0.heap.size w0 w'))
  case atStart => exact ⟨0, rfl, ⟨rfl⟩, ⟨.inl ⟨rfl, rfl, rfl⟩⟩, HI1, HB1⟩
  case round =>
    clear HI1 HB1
    obtain ⟨s, rfl, HK, HS, HI, HB⟩ := hrel
    rcases HS.out with ⟨rfl, rfl, rfl⟩ | ⟨rfl, rfl, rfl⟩ | ⟨rfl, rfl, rfl⟩
    · clear HS
      go_wp2_with (first
        | (go_at_call 50; refine (tube_drawing_odd.calls 4 g 2 lineL 0 3 2 w0 _ HI.out HB.out odd_v0).mono ?_; rintro e w1 ⟨rfl, hI1, hB1, _⟩; have HI1 := Aside0.mk hI1; have HB1 := Aside0.mk hB1; clear hI1 hB1)
        | (go_at_call 49; refine (tube_members.calls 5 3 [0, 1] _ mem_v3).mono ?_; rintro e w2 ⟨v2, rfl, r2, b2⟩; obtain ⟨A2, c2, rfl⟩ := Kd.R_slice r2; have HB2 := Aside0.mk (below_step HB1.out b2); have HI2 := Aside0.mk (IsS83.below HI1.out b2); have HM2 := Aside0.mk (cell_keep HB2.out (cell_lt HM.out) HM.out); clear r2 b2)
        | (go_at_call 42; refine (fine_q A2 _ c2 gm _ HM2.out).mono ?_; rintro e w3 ⟨rfl, hw3⟩; cases hw3))
      go_roundg 1
      case measure => have := HK.out; omega
      case rel => exact ⟨1, rfl, ⟨rfl⟩, ⟨.inr (.inl ⟨rfl, rfl, rfl⟩)⟩, HI2, HB2⟩
    · clear HS
      go_wp2_with (first
        | (go_at_call 50; refine (tube_drawing_odd.calls 4 g 2 lineL 1 0 2 w0 _ HI.out HB.out odd_v1).mono ?_; rintro e w1 ⟨rfl, hI1, hB1, _⟩; have HI1 := Aside0.mk hI1; have HB1 := Aside0.mk hB1; clear hI1 hB1)
        | (go_at_call 49; refine (tube_members.calls 5 0 [] _ mem_v0).mono ?_; rintro e w2 ⟨v2, rfl, r2, b2⟩; obtain ⟨A2, c2, rfl⟩ := Kd.R_slice r2; have HB2 := Aside0.mk (below_step HB1.out b2); have HI2 := Aside0.mk (IsS83.below HI1.out b2); have HM2 := Aside0.mk (cell_keep HB2.out (cell_lt HM.out) HM.out); clear r2 b2)
        | (go_at_call 42; refine (fine_q A2 _ c2 gm _ HM2.out).mono ?_; rintro e w3 ⟨rfl, hw3⟩; cases hw3)
        | (go_at_call_of 51 (Value.int .i64 1); refine (tube_drawing_length.calls 5 g 2 lineL 1 3 2 w0 _ HI2.out HB2.out len_v1).mono ?_; rintro e w4 ⟨rfl, hI4, hB4, _⟩; have HI4 := Aside0.mk hI4; have HB4 := Aside0.mk hB4; clear hI4 hB4)
        | (go_at_call_of 51 (Value.int .i64 0); refine (tube_drawing_length.calls 5 g 2 lineL 0 0 2 w0 _ HI4.out HB4.out len_v0).mono ?_; rintro e w5 ⟨rfl, hI5, hB5, _⟩; have HI5 := Aside0.mk hI5; have HB5 := Aside0.mk hB5; clear hI5 hB5))
      go_roundg 0
      case measure => have := HK.out; omega
      case rel => exact ⟨2, rfl, ⟨rfl⟩, ⟨.inr (.inr ⟨rfl, rfl, rfl⟩)⟩, HI5, HB5⟩
    · clear HS HK
      go_wp2_with (first
        | (go_at_call 49; refine (tube_members.calls 5 1 [0] _ mem_v1).mono ?_; rintro e w2 ⟨v2, rfl, r2, b2⟩; obtain ⟨A2, c2, rfl⟩ := Kd.R_slice r2; have HB2 := Aside0.mk (below_step HB.out b2); have HI2 := Aside0.mk (IsS83.below HI.out b2); have R2 := Aside0.mk (Kd.R_lower r2 HB.out.size); clear r2 b2)
        | (go_at_call 51; refine (tube_drawing_length.calls 5 g 2 lineL 1 3 2 w0 _ HI2.out HB2.out len_v1).mono ?_; rintro e w4 ⟨rfl, hI4, hB4, hk4⟩; have HB4 := Aside0.mk hB4; have HK4 := Aside0.mk hk4; clear hI4 hB4 hk4))
      go_ret2
      refine ⟨_, rfl, ?_, HB4.out⟩
      obtain ⟨AI, cI, hbI, _, _⟩ := HI2.out
      exact Kd.R_mono (Kd.R_keep (Kd.R_types R2.out hbI (by decide)) HK4.out (fun _ hk => hk.2)) (fun _ _ => trivial)
set_option maxHeartbeats 2000000 in
set_option maxRecDepth 100000 in
theorem doubled_one (gl cL : Nat) (w : World) (hC : Kd.C k48 w (some ⟨gl, 0, none⟩) 1 lineL) :
    Calls Tryd.prog 31 #[.int .i64 2, .slice (some ⟨gl, 0, none⟩) 1 cL, .int .i64 0] w fun e w' => ∃ v : Value, e = .returned (.tuple #[v, .int .i64 3, .int .i64 0]) ∧ Kd.R (Kd.int .i64) 3 w' w.heap.size (fun _ => True) v [0] ∧ Below w.heap.size w w' := by
  have HC := Aside0.mk hC
  clear hC
  have hh := blk_new w (.cells #[.int .i64 0] 3)
  have B1 := Aside0.mk (below_alloc (Below.refl w.heap.size w) (.cells #[.int .i64 0] 3))
  have HM := Aside0.mk (show (w.alloc (.cells #[.int .i64 0] 3)).cell? ⟨w.heap.size, 0, none⟩ = some (.int .i64 0) from cell_of_row _ _ 0 _ _ (0, 0) hh)
  have C1 := Aside0.mk (Kd.C_below HC.out B1.out)
  obtain ⟨ad, e0, h0, h1, h2⟩ := at_T48 C1.out 0 (by decide) (by decide)
  injection e0 with e0
  subst e0
  have HA := Aside0.mk h0
  have HB := Aside0.mk h1
  have HN := Aside0.mk h2
  have HL := Aside0.mk (cell_lt h0)
  clear hh h0 h1 h2 HC
  go_enter Tryd.func31, Tryd.ntmps31
  generalize hw1 : (w.alloc (.cells #[.int .i64 0] 3)) = w1 at *
  go_upto_region 2 with (first
    | (go_at_call 39; refine (of_one gl cL w1 HL.out HA.out HB.out HN.out).mono ?_; rintro e w2 ⟨g, rfl, hg2, hgs, hb2⟩; have G2 := Aside0.mk hg2; have S2 := Aside0.mk hgs; have B2 := Aside0.mk hb2; clear hg2 hgs hb2))
  have I2 := Aside0.mk (show IsS83 w1 w2 g 2 lineL from ⟨_, _, G2.out, S2.out, C1.out⟩)
  have D2 : Aside0 (Dr w2 w2.heap.size g gl cL) := ⟨cell_lt (cell_of_row _ g 0 _ _ (0, 0) G2.out), Nat.lt_of_lt_of_le HL.out B2.out.size, cell_of_row _ g 0 _ _ (0, 0) G2.out, cell_of_row _ g 1 _ _ (0, 0) G2.out, cell_keep B2.out HL.out HA.out, cell_keep B2.out HL.out HB.out, cell_keep B2.out HL.out HN.out⟩
  go_wp2_with (first
    | (go_at_call 40; refine (conn_one g gl cL w2 D2.out).mono ?_; rintro e w3 ⟨rfl, hb3⟩; have I3 := Aside0.mk (IsS83.below I2.out hb3); have B3 := Aside0.mk (below_step B2.out hb3); clear hb3)
    | (go_at_call 41; refine (least_one g w.heap.size w1 _ I3.out B3.out HM.out).mono ?_; rintro e w4 ⟨v4, rfl, hr4, hb4⟩; have R4 := Aside0.mk hr4; have B4 := Aside0.mk hb4; clear hr4 hb4))
  go_ret3
  exact ⟨_, rfl, Kd.R_lower R4.out (by have := B1.out.size; exact this), below_step B1.out B4.out⟩
set_option maxHeartbeats 2000000 in
set_option maxRecDepth 100000 in
theorem Double_one (gl cL : Nat) (w : World) (hC : Kd.C k48 w (some ⟨gl, 0, none⟩) 1 lineL) :
    Calls Tryd.prog 18 #[.int .i64 2, .slice (some ⟨gl, 0, none⟩) 1 cL] w fun e w' => ∃ v : Value, e = .returned (.tuple #[v, .int .i64 3, .int .i64 0]) ∧ Kd.R (Kd.int .i64) 3 w' w.heap.size (fun _ => True) v [0] ∧ Below w.heap.size w w' := by
  have HC := Aside0.mk hC
  clear hC
  go_enter Tryd.func18, Tryd.ntmps18
  go_wp2_with (first
    | (go_at_call 31; refine (doubled_one gl cL w HC.out).mono ?_; rintro e w4 ⟨v4, rfl, hr4, hb4⟩; have R4 := Aside0.mk hr4; have B4 := Aside0.mk hb4; clear hr4 hb4))
  go_ret3
  exact ⟨_, rfl, R4.out, B4.out⟩
end Go.Proofs.YtfbibheeogcacaaDoor.B
