/- Written by a program (lite.py) from my texts. -/
import Derived.Test.YtbanemecfobonaaDoorB0v
import Derived.Test.YtbanemecfobonaaDoorGVv
namespace Go.Proofs.YtbanemecfobonaaDoor.B
open Go.RowKit Go.Proofs.YtbanemecfobonaaDoorW.PrintWords Go.Proofs.YtbanemecfobonaaDoorW.PrintLast Go.Proofs.YtbanemecfobonaaDoorW.PrintMore
attribute [local go_sem] max2_int min2_int max_two min_two max_three min_three max_four min_four
set_option linter.unusedVariables false
set_option linter.unusedSimpArgs false
def w8_numbered.l0 : Nat → List (S55) → List Int → List (S55) → Int → Option ((List (S55)))
  | 0, _, _, _, _ => none
  | k + 1, x0, x1, x5, x6 => if x6 < (x1.length : Int) then (if 0 ≤ x6 then (if (rd x1 x6) < 0 then (some ([] : List (S55))) else (if (rd x1 x6) ≥ (x0.length : Int) then (some ([] : List (S55))) else (if 0 ≤ (rd x1 x6) then (if (rd x1 x6) < (x5.length : Int) then (w8_numbered.l0 k x0 x1 (x5.set ((rd x1 x6) : Int).toNat (⟨x6, (rd_T55 x5 (rd x1 x6)).f1, (rd_T55 x5 (rd x1 x6)).f2, (rd_T55 x5 (rd x1 x6)).f3⟩ : S55)) (wrap64 (x6 + 1))) else (none)) else (none)))) else (none)) else (some x5)
def w8_numbered.f (k : Nat) (l0 : List (S55)) (l1 : List Int) : Option ((List (S55))) := (some (([] : List (S55)) : List (S55))).bind fun y777 => (if y777.length + l0.length < 4398046511104 then (w8_numbered.l0 k l0 l1 (y777 ++ l0) 0) else (none))
mutual
def w8_holds.l0 : Nat → List (S55) → List Int → List Int → Int → Option (Bool)
  | 0, _, _, _, _ => none
  | k + 1, x0, x1, x2, x7 => if x7 < (x2.length : Int) then (w8_holds.l1 k x0 x1 x2 x7 0) else ((w8_numbered.f k x0 x2).bind fun t789 => (w8_holds.l2 k x0 x1 t789 0))
def w8_holds.l1 : Nat → List (S55) → List Int → List Int → Int → Int → Option (Bool)
  | 0, _, _, _, _, _ => none
  | k + 1, x0, x1, x2, x7, x8 => if x8 < x7 then (if 0 ≤ x7 then (if x7 < (x2.length : Int) then (if 0 ≤ x8 then (if x8 < (x2.length : Int) then (if (rd x2 x7) = (rd x2 x8) then (some false) else (w8_holds.l1 k x0 x1 x2 x7 (wrap64 (x8 + 1)))) else (none)) else (none)) else (none)) else (none)) else (w8_holds.l0 k x0 x1 x2 (wrap64 (x7 + 1)))
def w8_holds.l2 : Nat → List (S55) → List Int → List (S55) → Int → Option (Bool)
  | 0, _, _, _, _ => none
  | k + 1, x0, x1, x9, x10 => if x10 < (x9.length : Int) then (if 0 ≤ x10 then ((bus_Delay.f x9 ((rd_T55 x9 x10).f0)).bind fun bt793 => (if bt793.2 = 0 then (if x10 < (x1.length : Int) then (if bt793.1 > (rd x1 x10) then (some false) else (w8_holds.l2 k x0 x1 x9 (wrap64 (x10 + 1)))) else (none)) else (some false))) else (none)) else (some ((x9.length : Int) == (x0.length : Int)))
end
def w8_holds.f (k : Nat) (l0 : List (S55)) (l1 : List Int) (l2 : List Int) : Option (Bool) := if (l2.length : Int) = (l0.length : Int) then (w8_holds.l0 k l0 l1 l2 0) else (some false)
def w8_few.l0 : Nat → List (S55) → List (List Int) → Int → Option (Bool)
  | 0, _, _, _ => none
  | k + 1, x0, x1, x5 => if x5 < (x1.length : Int) then (if x5 ≥ 20 then (some false) else (if 0 ≤ x5 then (if ((rd_L1 x1 x5).length : Int) > 1000 then (some false) else (w8_few.l0 k x0 x1 (wrap64 (x5 + 1)))) else (none))) else (some (decide ((x0.length : Int) ≤ 20)))
def w8_few.f (k : Nat) (l0 : List (S55)) (l1 : List (List Int)) : Option (Bool) := w8_few.l0 k l0 l1 0
set_option maxHeartbeats 8000000 in
set_option maxRecDepth 100000 in
theorem w8_few.calls (k : Nat) (A0 : Option Addr) (c0 : Nat) (l0 : List (S55)) (A1 : Option Addr) (c1 : Nat) (l1 : List (List Int)) (r : Bool) (w : World) (hr0 : Kd.C k55 w A0 l0.length l0) (hc0 : l0.length ≤ c0) (hr1 : Kd.C (Kd.slice 3 (Kd.int .i64)) w A1 l1.length l1) (hc1 : l1.length ≤ c1) (h : w8_few.f k l0 l1 = some r) :
    Calls Tryd.prog 40 #[.slice A0 l0.length c0, .slice A1 l1.length c1] w fun e w' => e = .returned (.bool r) ∧ Drawn0 w w' := by
  have HR0 := aM hr0; have HC0 := aM hc0; clear hr0 hc0; have HR1 := aM hr1; have HC1 := aM hc1; clear hr1 hc1; (have H : (w8_few.l0 k l0 l1 0) = some r := h); clear h; have H' := aM H; clear H; (go_enter Tryd.func40, Tryd.ntmps40); go_wp2; (go_loopg [5] k (fun kq v5 w' => ∃ (x5_1 : Int), v5 = .int .i64 x5_1 ∧ Aside0 (w8_few.l0 kq l0 l1 x5_1 = some r) ∧ Aside0 (kq ≤ k) ∧ Drawn0 w w')); (case atStart => exact ⟨(0), z4, H', ⟨Nat.le_refl _⟩, by repeat (first | exact Drawn0.refl _ | apply Drawn0.step)⟩)
  case round =>
   clear H'; (try clear c1); (try clear p2); obtain ⟨x5_1, rfl, HA, HK1, ⟨m1, rfl⟩⟩ := hrel
   cases gk with
   | zero => exact absurd HA.out (by simp [w8_few.l0])
   | succ k1 =>
    have H := HA.out; clear HA; simp only [w8_few.l0] at H; by_cases c3 : x5_1 < (l1.length : Int); rotate_left
    · rw [if_neg c3] at H; (have c3b0 : decide (x5_1 < (l1.length : Int)) = false := dF c3); clear c3; (obtain rfl := sI H); go_wp2; go_ret; (exact ⟨by first | rfl | (simp; done) | (simp [*]; done), by repeat (first | exact Drawn0.refl _ | apply Drawn0.step)⟩)
    rw [if_pos c3] at H; (have c3b0 : decide (x5_1 < (l1.length : Int)) = true := dT c3); clear c3; by_cases c4 : x5_1 ≥ 20
    · rw [if_pos c4] at H; (have c4b0 : decide (20 ≤ x5_1) = true := dT c4); clear c4; (obtain rfl := sI H); go_wp2; go_ret; (exact ⟨by first | rfl | (simp; done) | (simp [*]; done), by repeat (first | exact Drawn0.refl _ | apply Drawn0.step)⟩)
    rw [if_neg c4] at H; (have c4b0 : decide (20 ≤ x5_1) = false := dF c4); clear c4; by_cases c5 : 0 ≤ x5_1; rotate_left
    · rw [if_neg c5] at H; (exact absurd H (by simp))
    rw [if_pos c5] at H; (have c5b0 : decide (0 ≤ x5_1) = true := dT c5); clear c5; by_cases c6 : ((rd_L1 l1 x5_1).length : Int) > 1000
    · rw [if_pos c6] at H; (have c6b0 : decide (1000 < ((rd_L1 l1 x5_1).length : Int)) = true := dT c6); (have c6b1 : decide (1000 < (rd_L1 l1 x5_1).length) = true := dT z3); clear c6; (obtain rfl := sI H); (have p819 : 0 ≤ (x5_1 : Int) := oD z1); (have q819 : x5_1 < (l1.length : Int) := oD z1); (obtain ⟨ad819, A819_0, c819_0, e819, hx819_0, hl819_0, hi819_0⟩ := at_L1 HR1.out x5_1 p819 q819); cases e819; have HR819_0 := aM hi819_0; have HC819_0 := aM hl819_0; clear hi819_0 hl819_0; (replace p819 := eq_true p819); (replace q819 := eq_true q819); go_wp2; go_ret; (exact ⟨by first | rfl | (simp; done) | (simp [*]; done), by repeat (first | exact Drawn0.refl _ | apply Drawn0.step)⟩)
    rw [if_neg c6] at H; (have c6b0 : decide (1000 < ((rd_L1 l1 x5_1).length : Int)) = false := dF c6); (have c6b1 : decide (1000 < (rd_L1 l1 x5_1).length) = false := dF z3); clear c6; have H' := aM H; clear H; (have p819 : 0 ≤ (x5_1 : Int) := oD z1); (have q819 : x5_1 < (l1.length : Int) := oD z1); (obtain ⟨ad819, A819_0, c819_0, e819, hx819_0, hl819_0, hi819_0⟩ := at_L1 HR1.out x5_1 p819 q819); cases e819; have HR819_0 := aM hi819_0; have HC819_0 := aM hl819_0; clear hi819_0 hl819_0; (replace p819 := eq_true p819); (replace q819 := eq_true q819); go_wp2; (go_roundg k1); (case measure => have := HK1.out; omega); (case rel => exact ⟨(wrap64 (x5_1 + 1)), z4, H', ⟨by have := HK1.out; omega⟩, by repeat (first | exact Drawn0.refl _ | apply Drawn0.step)⟩)
end Go.Proofs.YtbanemecfobonaaDoor.B
