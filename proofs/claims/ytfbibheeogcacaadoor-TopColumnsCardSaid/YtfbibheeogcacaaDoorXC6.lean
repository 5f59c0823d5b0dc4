/- Hidden, by hand. -/
import Derived.Test.YtfbibheeogcacaaDoorXC5
import Derived.Test.YtfbibheeogcacaaDoorBA
namespace Go.Proofs.YtfbibheeogcacaaDoor.B
open Go.RowKit Go.Proofs.YtfbibheeogcacaaDoorW.PrintWords Go.Proofs.YtfbibheeogcacaaDoorW.PrintLast Go.Proofs.YtfbibheeogcacaaDoorW.PrintMore
set_option linter.unusedVariables false
set_option linter.unusedSimpArgs false

/-- Is tube t in no test? -/
def zB (cols : List Int) (t : Nat) : Bool := hidA false (Go.bits .andNot .u64 (rd cols (t : Int)) 0)
/-- Does tube s hide tube t? -/
def hB (cols : List Int) (t s : Nat) : Bool := hidA (decide ((t : Int) = (s : Int))) (Go.bits .andNot .u64 (rd cols (t : Int)) (Go.bits .or .u64 0 (rd cols (s : Int))))
def RYd (gf : Nat) (t : Int) (l : List Int) (W w' : World) : Prop := ∃ v' : Value, w'.heap[gf]? = some (.cells #[v'] 24 (0, 0)) ∧ Kd.R (Kd.int .i64) 3 w' W.heap.size (fun _ => True) v' ([t] ++ l) ∧ ∀ B, B ≤ gf → B ≤ W.heap.size → Below B W w'
structure HidE (W : World) (gt gc gf t : Nat) (Ac : Option Addr) (cc : Nat) (cols : List Int) : Prop where
  t : W.cell? ⟨gt, 0, none⟩ = some (.int .i64 (t : Int))
  c : W.cell? ⟨gc, 0, none⟩ = some (.slice Ac cols.length cc)
  col : Kd.C (Kd.int .u64) W Ac cols.length cols
  cc : cols.length ≤ cc
  f : W.heap[gf]? = some (.cells #[.slice none 0 0] 24 (0, 0))
theorem HidE.below {W W' : World} {gt gc gf t : Nat} {Ac : Option Addr} {cc : Nat} {cols : List Int} (h : HidE W gt gc gf t Ac cc cols) (hb : Below W.heap.size W W') : HidE W' gt gc gf t Ac cc cols :=
  ⟨keepc hb h.t, keepc hb h.c, Kd.C_below h.col hb, h.cc, blk_below h.f hb⟩
theorem has_none (t : Int) : slices_Contains_int_int.f 1 [] t = some false := by simp [slices_Contains_int_int.f, slices_Index_int_int.f, slices_Index_int_int.l0]
theorem has_one (t s : Int) : slices_Contains_int_int.f 2 [s] t = some (decide (t = s)) := by
  have e : rd [s] 0 = s := rfl
  unfold slices_Contains_int_int.f slices_Index_int_int.f
  rw [slices_Index_int_int.l0, if_pos (show (0 : Int) < (([s] : List Int).length : Int) by simp), if_pos (by decide), if_pos (show (0 : Int) < (([s] : List Int).length : Int) by simp), e]
  by_cases c : t = s
  · rw [if_pos c, Option.bind_some, decide_eq_true c]; rfl
  · rw [if_neg c, slices_Index_int_int.l0, if_neg (by simp [wrap64]), Option.bind_some, decide_eq_false c]; rfl
theorem dark_none (cols : List Int) : find_dark.f 1 cols [] = some 0 := by simp [find_dark.f, find_dark.l0]
theorem dark_one (cols : List Int) (s : Int) (h0 : 0 ≤ s) (h1 : s < (cols.length : Int)) : find_dark.f 2 cols [s] = some (Go.bits .or .u64 0 (rd cols s)) := by
  have e : rd [s] 0 = s := rfl
  unfold find_dark.f
  rw [find_dark.l0, if_pos (show (0 : Int) < (([s] : List Int).length : Int) by simp), if_pos (by decide), if_pos (show (0 : Int) < (([s] : List Int).length : Int) by simp), e, if_pos h0, if_pos h1, find_dark.l0, if_neg (by simp [wrap64])]
section
variable {W : World} {gt gc gf t : Nat} {Ac : Option Addr} {cc : Nat} {cols : List Int} (E : HidE W gt gc gf t Ac cc cols) (ht : t < cols.length)
include E ht
theorem visit_zero : Calls Tryd.prog 13 #[.slice none 0 0, .pointer (some ⟨gt, 0, none⟩), .pointer (some ⟨gc, 0, none⟩), .pointer (some ⟨gf, 0, none⟩)] W fun e w' => e = .returned (.bool (zB cols t)) ∧ (zB cols t = false → Below W.heap.size W w') ∧ (zB cols t = true → RYd gf t [] W w') := by
  cases hz : zB cols t
  · refine (f13_no [] none 0 (t : Int) cols Ac cc gt gc gf W 1 1 false 0 E.t E.c E.col E.cc (Kd.C_nil _ _) (Nat.le_refl _) (by omega) (by omega) (has_none _) (dark_none _) hz).mono ?_
    rintro e w' ⟨h1, h2⟩
    exact ⟨h1, fun _ => below_drawn0 h2, (fun x => by cases x)⟩
  · refine (f13_yes [] none 0 (t : Int) cols Ac cc gt gc gf _ W 1 1 0 E.t E.c E.col E.cc E.f (by simp) (Kd.C_nil _ _) (Nat.le_refl _) (by omega) (by omega) (has_none _) (dark_none _) hz).mono ?_
    rintro e w' ⟨h1, h2⟩
    exact ⟨h1, (fun x => by cases x), fun _ => h2⟩
theorem visit_one (s : Nat) (hs : s < cols.length) (A : Option Addr) (c : Nat) (hA : Kd.C (Kd.int .i64) W A 1 [(s : Int)]) (hc : 1 ≤ c) :
    Calls Tryd.prog 13 #[.slice A 1 c, .pointer (some ⟨gt, 0, none⟩), .pointer (some ⟨gc, 0, none⟩), .pointer (some ⟨gf, 0, none⟩)] W fun e w' => e = .returned (.bool (hB cols t s)) ∧ (hB cols t s = false → Below W.heap.size W w') ∧ (hB cols t s = true → RYd gf t [(s : Int)] W w') := by
  cases hz : hB cols t s
  · refine (f13_no [(s : Int)] A c (t : Int) cols Ac cc gt gc gf W 2 2 (decide ((t : Int) = (s : Int))) _ E.t E.c E.col E.cc hA hc (by omega) (by omega) (has_one _ _) (dark_one _ _ (by omega) (by omega)) hz).mono ?_
    rintro e w' ⟨h1, h2⟩
    exact ⟨h1, fun _ => below_drawn0 h2, (fun x => by cases x)⟩
  · have hne : decide ((t : Int) = (s : Int)) = false := by
      unfold hB hidA at hz
      cases hd : decide ((t : Int) = (s : Int))
      · rfl
      · rw [hd] at hz; simp at hz
    have hz2 : hidA false (Go.bits .andNot .u64 (rd cols (t : Int)) (Go.bits .or .u64 0 (rd cols (s : Int)))) = true := by
      unfold hB at hz; rwa [hne] at hz
    refine (f13_yes [(s : Int)] A c (t : Int) cols Ac cc gt gc gf _ W 2 2 _ E.t E.c E.col E.cc E.f (by simp) hA hc (by omega) (by omega) (hne ▸ has_one _ _) (dark_one _ _ (by omega) (by omega)) hz2).mono ?_
    rintro e w' ⟨h1, h2⟩
    exact ⟨h1, (fun x => by cases x), fun _ => h2⟩
end
/-- What Hidden finds: the first tube that is hidden, and the ones that hide it. -/
def hidL (cols : List Int) (n : Nat) : Nat → Nat → List Int
  | 0, _ => []
  | m + 1, t => if zB cols t = true then [(t : Int)] else if 0 ≤ idxB (hB cols t) n 0 then [(t : Int), idxB (hB cols t) n 0] else hidL cols n m (t + 1)
/-- What holds in the search for what hides tube t. -/
structure SeaE (w W : World) (gt gc t : Nat) (Ac : Option Addr) (cc : Nat) (cols : List Int) : Prop where
  b : Below w.heap.size w W
  t : W.cell? ⟨gt, 0, none⟩ = some (.int .i64 (t : Int))
  c : W.cell? ⟨gc, 0, none⟩ = some (.slice Ac cols.length cc)
  col : Kd.C (Kd.int .u64) W Ac cols.length cols
  cc : cols.length ≤ cc
theorem SeaE.below {w W W' : World} {gt gc t : Nat} {Ac : Option Addr} {cc : Nat} {cols : List Int} (h : SeaE w W gt gc t Ac cc cols) (hb : Below W.heap.size W W') : SeaE w W' gt gc t Ac cc cols :=
  ⟨below_step h.b hb, keepc hb h.t, keepc hb h.c, Kd.C_below h.col hb, h.cc⟩
theorem SeaE.box {w W : World} {gt gc t : Nat} {Ac : Option Addr} {cc : Nat} {cols : List Int} (h : SeaE w W gt gc t Ac cc cols) : HidE (W.alloc (.cells #[.slice none 0 0] 24)) gt gc W.heap.size t Ac cc cols :=
  have hb := below_alloc (Below.refl W.heap.size W) (.cells #[.slice none 0 0] 24)
  ⟨keepc hb h.t, keepc hb h.c, Kd.C_below h.col hb, h.cc, blk_new _ _⟩
structure ColE (w W : World) (gc : Nat) (Ac : Option Addr) (cc : Nat) (cols : List Int) : Prop where
  b : Below w.heap.size w W
  c : W.cell? ⟨gc, 0, none⟩ = some (.slice Ac cols.length cc)
  col : Kd.C (Kd.int .u64) W Ac cols.length cols
  cc : cols.length ≤ cc
theorem ColE.tube {w W : World} {gc : Nat} {Ac : Option Addr} {cc : Nat} {cols : List Int} (h : ColE w W gc Ac cc cols) (t : Nat) : SeaE w (W.alloc (.cells #[.int .i64 (t : Int)] 3)) W.heap.size gc t Ac cc cols :=
  have hb := below_alloc (Below.refl W.heap.size W) (.cells #[.int .i64 (t : Int)] 3)
  ⟨below_step h.b hb, (blk_cell (blk_new W (.cells #[.int .i64 (t : Int)] 3)) 0).trans rfl, keepc hb h.c, Kd.C_below h.col hb, h.cc⟩
set_option maxHeartbeats 4000000 in
set_option maxRecDepth 100000 in
theorem find_Hidden_ok (n : Nat) (A : Option Addr) (c : Nat) (l : List (List Int)) (cols : List Int) (k : Nat) (w : World) (hr : Kd.C (Kd.slice 3 (Kd.int .i64)) w A l.length l) (he : ofE (n : Int) l = 0) (hn : n ≤ 49)
    (hk : find_design_columns.f k (n : Int) l = some (cols, (n : Int))) (hlen : cols.length = n) :
    Calls Tryd.prog 5 #[.int .i64 (n : Int), .slice A l.length c, .int .i64 1] w fun e w' => ∃ v : Value, e = .returned (.tuple #[v, .int .i64 0]) ∧ Kd.R (Kd.int .i64) 3 w' w.heap.size (fun _ => True) v (hidL cols n n 0) ∧ Below w.heap.size w w' := by
  have HF := Aside0.mk (find_of_ok (n : Int) A c l w hr he)
  have HCO : Aside0 (∀ (g : Nat) (W : World), IsS58 w W g (n : Int) l → Below w.heap.size w W → Calls Tryd.prog 11 #[.pointer (some ⟨g, 0, none⟩)] W fun e w' => ∃ v0_ : Value, e = .returned (v0_) ∧ Kd.R (Kd.int .u64) 40 w' W.heap.size (fun _ => True) v0_ cols ∧ Below w.heap.size w w') := ⟨fun g W hI hB => (find_design_columns.calls k g (n : Int) l cols (n : Int) w W hI hB hk).mono fun e w' ⟨v0, h1, h2, h3, h4, h5⟩ => ⟨v0, h1, h2, h4⟩⟩
  obtain ⟨res, hres⟩ : ∃ res, res = hidL cols n n 0 := ⟨_, rfl⟩
  rw [← hres]
  have HRES := Aside0.mk hres
  have HLEN := Aside0.mk hlen
  clear hr he hk hres hlen
  go_enter Tryd.func5, Tryd.ntmps5
  go_upto_region 6 with (first | (go_at_call 9; refine HF.out.mono ?_; rintro e w1 ⟨g, rfl, i1, b1⟩; have I1 := Aside0.mk i1; have B1 := Aside0.mk b1; clear i1 b1) | (go_at_call 10; refine (find_few.calls 1 true _ (by decide)).mono ?_; rintro e w2 ⟨rfl, ⟨nd, rfl⟩⟩))
  have B2 : Aside0 (Below w.heap.size w (w1.drewN nd)) := ⟨pw_below_drewN B1.out nd⟩
  have I2 : Aside0 (IsS58 w (w1.drewN nd) g (n : Int) l) := ⟨I1.out.below (pw_below_drewN (Below.refl _ _) nd)⟩
  clear B1 I1 HF
  generalize w1.drewN nd = w2 at *
  have HC11 := Aside0.mk (HCO.out g w2 I2.out B2.out)
  clear HCO I2
  have hs2 : w.heap.size ≤ w2.heap.size := B2.out.size
  go_wp2_with (first | (go_at_call 11; refine HC11.out.mono ?_; rintro e w3 ⟨v3, rfl, r3, b3⟩; obtain ⟨Ac, cc, rfl, hcc, hcol⟩ := Kd.R_reads r3; have R3 := Aside0.mk hcol; have C3 := Aside0.mk hcc; have B3 := Aside0.mk b3; clear r3 b3 hcc hcol))
  have E0 : Aside0 (ColE w (w3.alloc (.cells #[.slice Ac cols.length cc] 35)) w3.heap.size Ac cc cols) :=
    ⟨below_alloc B3.out _, (blk_cell (blk_new w3 (.cells #[.slice Ac cols.length cc] 35)) 0).trans rfl, Kd.C_below R3.out (below_alloc (Below.refl _ _) _), C3.out⟩
  clear HC11 R3 C3 B3 B2 hs2
  generalize w3.heap.size = gc at E0 ⊢
  generalize w3.alloc (.cells #[.slice Ac cols.length cc] 35) = w4 at E0 ⊢
  go_loopg [31] n (fun gk v31 w' => ∃ t : Nat, v31 = .int .i64 (t : Int) ∧ t ≤ n ∧ Aside0 (gk = n - t) ∧ Aside0 (res = hidL cols n (n - t) t) ∧ Aside0 (ColE w w' gc Ac cc cols))
  case atStart => exact ⟨0, rfl, by omega, ⟨rfl⟩, HRES, E0⟩
  case round =>
    clear E0 HRES
    obtain ⟨t, rfl, ht, HK, HI, HE⟩ := hrel
    by_cases hlt : t < n
    · have HN : Aside0 (res = if zB cols t = true then [(t : Int)] else if 0 ≤ idxB (hB cols t) n 0 then [(t : Int), idxB (hB cols t) n 0] else hidL cols n (n - (t + 1)) (t + 1)) := ⟨by rw [HI.out, show n - t = (n - (t + 1)) + 1 by omega]; rfl⟩
      go_wp2
      have S0 := Aside0.mk (HE.out.tube t)
      clear HE HI
      generalize wr.heap.size = gt at S0 ⊢
      generalize wr.alloc (.cells #[.int .i64 (t : Int)] 3) = w5 at S0 ⊢
      go_loopg [36] 2 (fun gk v36 w' => ∃ m : Nat, v36 = .int .i64 (m : Int) ∧ m ≤ 2 ∧ Aside0 (gk = 2 - m) ∧ Aside0 (1 ≤ m → zB cols t = false) ∧ Aside0 (2 ≤ m → idxB (hB cols t) n 0 = -1) ∧ Aside0 (SeaE w w' gt gc t Ac cc cols))
      case atStart => exact ⟨0, rfl, by omega, ⟨rfl⟩, ⟨fun h => by omega⟩, ⟨fun h => by omega⟩, S0⟩
      case round =>
        clear S0
        obtain ⟨m, rfl, hm, HK2, HZ, HH, HS⟩ := hrel
        have HX := Aside0.mk HS.out.box
        have htl : t < cols.length := by rw [HLEN.out]; exact hlt
        have HTL := Aside0.mk htl
        clear htl
        rcases (show m = 0 ∨ m = 1 ∨ m = 2 by omega) with rfl | rfl | rfl
        · have HS0 := Aside0.mk (subsets_zero (n : Int) (.pointer (some ⟨gt, 0, none⟩)) (.pointer (some ⟨gc, 0, none⟩)) (.pointer (some ⟨wr.heap.size, 0, none⟩)) (zB cols t) (RYd wr.heap.size (t : Int) []) (wr.alloc (.cells #[.slice none 0 0] 24)) (fun W hb => visit_zero (HX.out.below hb) HTL.out))
          cases hz : zB cols t
          · rw [hz] at HS0
            have HZ1 := Aside0.mk hz
            clear hz HX HN HZ HH
            go_wp2_with (first | (go_at_call 12; refine HS0.out.mono ?_; rintro e w6 ⟨rfl, r6⟩; have V6 := Aside0.mk r6; clear r6))
            go_roundg 1
            case measure => have := HK2.out; omega
            case rel =>
              obtain ⟨W, hb1, hb2, _⟩ := V6.out
              exact ⟨1, rfl, by omega, ⟨rfl⟩, ⟨fun _ => HZ1.out⟩, ⟨fun h => by omega⟩, ⟨HS.out.below (below_step (below_step (below_alloc (Below.refl _ _) _) hb1) (hb2 rfl))⟩⟩
          · rw [hz] at HS0
            rw [hz, if_pos rfl] at HN
            clear hz HX HZ HH
            go_upto_region 15 with (first | (go_at_call 12; refine HS0.out.mono ?_; rintro e w6 ⟨rfl, r6⟩; have V6 := Aside0.mk r6; clear r6))
            obtain ⟨W, hb1, _, hb2⟩ := V6.out
            obtain ⟨v7, h7, r7, B7⟩ := hb2 rfl
            have h7c : w6.cell? ⟨wr.heap.size, 0, none⟩ = some v7 := (blk_cell h7 0).trans rfl
            have hsz : w.heap.size ≤ wr.heap.size := HS.out.b.size
            have hW : Below wr.heap.size wr W := below_step (below_alloc (Below.refl _ _) _) hb1
            have R7 := Aside0.mk (Kd.R_lower r7 (Nat.le_trans hsz hW.size))
            have Z7 := Aside0.mk ((below_step HS.out.b hW).trans (B7 w.heap.size hsz (Nat.le_trans hsz hW.size)))
            clear V6 hb1 hb2 h7 r7 B7 hW HS0 HS
            obtain ⟨A7, c7, rfl⟩ := Kd.R_slice R7.out
            go_wp2
            go_ret2
            exact ⟨_, rfl, by rw [HN.out]; exact R7.out, Z7.out⟩
        · have HS1 := Aside0.mk (subsets_one n (.pointer (some ⟨gt, 0, none⟩)) (.pointer (some ⟨gc, 0, none⟩)) (.pointer (some ⟨wr.heap.size, 0, none⟩)) (hB cols t) (fun W s w' => RYd wr.heap.size (t : Int) [(s : Int)] W w') (wr.alloc (.cells #[.slice none 0 0] 24)) (by omega) (fun s A c W hs hb hA hc => visit_one (HX.out.below hb) HTL.out s (by rw [HLEN.out]; exact hs) A c hA hc))
          have hz0 := HZ.out (Nat.le_refl 1)
          rw [if_neg (by rw [hz0]; simp)] at HN
          have HZ1 := Aside0.mk hz0
          by_cases hi : 0 ≤ idxB (hB cols t) n 0
          · rw [if_pos hi] at HN
            have HS2 : Aside0 (Calls Tryd.prog 12 #[.int .i64 (n : Int), .int .i64 1, .func (.func 13) #[] #[.pointer (some ⟨gt, 0, none⟩), .pointer (some ⟨gc, 0, none⟩), .pointer (some ⟨wr.heap.size, 0, none⟩)]] (wr.alloc (.cells #[.slice none 0 0] 24)) fun e w' => e = .returned (.bool true) ∧ VisR true (RYd wr.heap.size (t : Int) [idxB (hB cols t) n 0]) (wr.alloc (.cells #[.slice none 0 0] 24)) w') := ⟨HS1.out.mono fun e w' hh => by
              rcases hh with ⟨h1, _, _⟩ | ⟨s, h1, _, _, h4, h5⟩
              · omega
              · rw [h1]; exact ⟨h4, h5⟩⟩
            clear hz0 HS1 HX HZ HH hi
            generalize idxB (hB cols t) n 0 = s at HN HS2
            go_upto_region 15 with (first | (go_at_call 12; refine HS2.out.mono ?_; rintro e w6 ⟨rfl, r6⟩; have V6 := Aside0.mk r6; clear r6))
            obtain ⟨W, hb1, _, hb2⟩ := V6.out
            obtain ⟨v7, h7, r7, B7⟩ := hb2 rfl
            have h7c : w6.cell? ⟨wr.heap.size, 0, none⟩ = some v7 := (blk_cell h7 0).trans rfl
            have hsz : w.heap.size ≤ wr.heap.size := HS.out.b.size
            have hW : Below wr.heap.size wr W := below_step (below_alloc (Below.refl _ _) _) hb1
            have R7 := Aside0.mk (Kd.R_lower r7 (Nat.le_trans hsz hW.size))
            have Z7 := Aside0.mk ((below_step HS.out.b hW).trans (B7 w.heap.size hsz (Nat.le_trans hsz hW.size)))
            clear V6 hb1 hb2 h7 r7 B7 hW HS2 HS
            obtain ⟨A7, c7, rfl⟩ := Kd.R_slice R7.out
            go_wp2
            go_ret2
            exact ⟨_, rfl, by rw [HN.out]; exact R7.out, Z7.out⟩
          · rw [if_neg hi] at HN
            have hi1 : idxB (hB cols t) n 0 = -1 := by
              rcases idxB_spec (hB cols t) n 0 with ⟨h1, _⟩ | ⟨s, h1, _⟩
              · exact h1
              · omega
            have HI1 := Aside0.mk hi1
            have HS2 : Aside0 (Calls Tryd.prog 12 #[.int .i64 (n : Int), .int .i64 1, .func (.func 13) #[] #[.pointer (some ⟨gt, 0, none⟩), .pointer (some ⟨gc, 0, none⟩), .pointer (some ⟨wr.heap.size, 0, none⟩)]] (wr.alloc (.cells #[.slice none 0 0] 24)) fun e w' => e = .returned (.bool false) ∧ Below (wr.alloc (.cells #[.slice none 0 0] 24)).heap.size (wr.alloc (.cells #[.slice none 0 0] 24)) w') := ⟨HS1.out.mono fun e w' hh => by
              rcases hh with ⟨h1, h2, h3⟩ | ⟨s, h1, _, _, h4, h5⟩
              · exact ⟨h2, h3⟩
              · omega⟩
            clear hz0 HS1 HX HZ HH hi hi1
            go_wp2_with (first | (go_at_call 12; refine HS2.out.mono ?_; rintro e w6 ⟨rfl, r6⟩; have V6 := Aside0.mk r6; clear r6))
            go_roundg 0
            case measure => have := HK2.out; omega
            case rel => exact ⟨2, rfl, by omega, ⟨rfl⟩, ⟨fun _ => HZ1.out⟩, ⟨fun _ => HI1.out⟩, ⟨HS.out.below (below_step (below_alloc (Below.refl _ _) _) V6.out)⟩⟩
        · have hz0 := HZ.out (by decide)
          have hi1 := HH.out (Nat.le_refl 2)
          rw [if_neg (by rw [hz0]; simp), if_neg (by rw [hi1]; decide)] at HN
          clear hz0 hi1 HX HZ HH
          go_wp2
          go_roundg (n - (t + 1))
          case measure => have := HK.out; omega
          case rel => exact ⟨t + 1, by go_num, by omega, ⟨rfl⟩, HN, ⟨HS.out.b, HS.out.c, HS.out.col, HS.out.cc⟩⟩
    · obtain rfl : t = n := by omega
      have hr0 : res = [] := by rw [HI.out, Nat.sub_self]; rfl
      have HR0 := Aside0.mk hr0
      clear hr0
      go_wp2
      go_ret2
      exact ⟨_, rfl, by rw [HR0.out]; exact Kd.R_nil _ _ _ _ _, HE.out.b⟩
end Go.Proofs.YtfbibheeogcacaaDoor.B
