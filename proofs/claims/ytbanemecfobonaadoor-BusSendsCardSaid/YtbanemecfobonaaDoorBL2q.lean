/- Written by a program (lite.py) from my texts. -/
import Derived.Test.YtbanemecfobonaaDoorB0q
import Derived.Test.YtbanemecfobonaaDoorXM4q
namespace Go.Proofs.YtbanemecfobonaaDoor.B
open Go.RowKit Go.Proofs.YtbanemecfobonaaDoorW.PrintWords Go.Proofs.YtbanemecfobonaaDoorW.PrintLast Go.Proofs.YtbanemecfobonaaDoorW.PrintMore
attribute [local go_sem] max2_int min2_int max_two min_two max_three min_three max_four min_four
set_option linter.unusedVariables false
set_option linter.unusedSimpArgs false
def neonwrightlaw08_few.l0 : Nat → List (S55) → List (List Int) → Int → Option (Bool)
  | 0, _, _, _ => none
  | k + 1, x0, x1, x5 => if x5 < (x1.length : Int) then (if x5 ≥ 20 then (some false) else (if 0 ≤ x5 then (if ((rd_L1 x1 x5).length : Int) > 1000 then (some false) else (neonwrightlaw08_few.l0 k x0 x1 (wrap64 (x5 + 1)))) else (none))) else (some (decide ((x0.length : Int) ≤ 20)))
def neonwrightlaw08_few.f (k : Nat) (l0 : List (S55)) (l1 : List (List Int)) : Option (Bool) := neonwrightlaw08_few.l0 k l0 l1 0
set_option maxHeartbeats 8000000 in
set_option maxRecDepth 100000 in
theorem neonwrightlaw08_few.calls (k : Nat) (A0 : Option Addr) (c0 : Nat) (l0 : List (S55)) (A1 : Option Addr) (c1 : Nat) (l1 : List (List Int)) (r : Bool) (w : World) (hr0 : Kd.C k55 w A0 l0.length l0) (hc0 : l0.length ≤ c0) (hr1 : Kd.C (Kd.slice 3 (Kd.int .i64)) w A1 l1.length l1) (hc1 : l1.length ≤ c1) (h : neonwrightlaw08_few.f k l0 l1 = some r) :
    Calls Tryd.prog 40 #[.slice A0 l0.length c0, .slice A1 l1.length c1] w fun e w' => e = .returned (.bool r) ∧ Drawn0 w w' := by
  have HR0 := Aside0.mk hr0; have HC0 := Aside0.mk hc0; clear hr0 hc0; have HR1 := Aside0.mk hr1; have HC1 := Aside0.mk hc1; clear hr1 hc1; (have H : (neonwrightlaw08_few.l0 k l0 l1 0) = some r := h); clear h; have H' := Aside0.mk H; clear H; (go_enter Tryd.func40, Tryd.ntmps40); go_wp2; (go_loopg [5] k (fun kq v5 w' => ∃ (x5_1 : Int), v5 = .int .i64 x5_1 ∧ Aside0 (neonwrightlaw08_few.l0 kq l0 l1 x5_1 = some r) ∧ Aside0 (kq ≤ k) ∧ Drawn0 w w')); (case atStart => exact ⟨(0), (by first | rfl | (simp; done) | (simp [*]; done)), H', ⟨Nat.le_refl _⟩, by repeat (first | exact Drawn0.refl _ | apply Drawn0.step)⟩)
  case round =>
   clear H'; (try clear c1); (try clear p2); obtain ⟨x5_1, rfl, HA, HK1, ⟨m1, rfl⟩⟩ := hrel
   cases gk with
   | zero => exact absurd HA.out (by simp [neonwrightlaw08_few.l0])
   | succ k1 =>
    have H := HA.out; clear HA; simp only [neonwrightlaw08_few.l0] at H; by_cases c3 : x5_1 < (l1.length : Int); rotate_left
    · rw [if_neg c3] at H; (have c3b0 : decide (x5_1 < (l1.length : Int)) = false := decide_eq_false c3); clear c3; (obtain rfl := Option.some.inj H); go_wp2; go_ret; (exact ⟨by first | rfl | (simp; done) | (simp [*]; done), by repeat (first | exact Drawn0.refl _ | apply Drawn0.step)⟩)
    rw [if_pos c3] at H; (have c3b0 : decide (x5_1 < (l1.length : Int)) = true := decide_eq_true c3); clear c3; by_cases c4 : x5_1 ≥ 20
    · rw [if_pos c4] at H; (have c4b0 : decide (20 ≤ x5_1) = true := decide_eq_true c4); clear c4; (obtain rfl := Option.some.inj H); go_wp2; go_ret; (exact ⟨by first | rfl | (simp; done) | (simp [*]; done), by repeat (first | exact Drawn0.refl _ | apply Drawn0.step)⟩)
    rw [if_neg c4] at H; (have c4b0 : decide (20 ≤ x5_1) = false := decide_eq_false c4); clear c4; by_cases c5 : 0 ≤ x5_1; rotate_left
    · rw [if_neg c5] at H; (exact absurd H (by simp))
    rw [if_pos c5] at H; (have c5b0 : decide (0 ≤ x5_1) = true := decide_eq_true c5); clear c5; by_cases c6 : ((rd_L1 l1 x5_1).length : Int) > 1000
    · rw [if_pos c6] at H; (have c6b0 : decide (1000 < ((rd_L1 l1 x5_1).length : Int)) = true := decide_eq_true c6); (have c6b1 : decide (1000 < (rd_L1 l1 x5_1).length) = true := decide_eq_true (by omega)); clear c6; (obtain rfl := Option.some.inj H); (have p819 : 0 ≤ (x5_1 : Int) := of_decide_eq_true (by first | (with_reducible assumption) | assumption)); (have q819 : x5_1 < (l1.length : Int) := of_decide_eq_true (by first | (with_reducible assumption) | assumption)); (obtain ⟨ad819, A819_0, c819_0, e819, hx819_0, hl819_0, hi819_0⟩ := at_L1 HR1.out x5_1 p819 q819); cases e819; have HR819_0 := Aside0.mk hi819_0; have HC819_0 := Aside0.mk hl819_0; clear hi819_0 hl819_0; (replace p819 := eq_true p819); (replace q819 := eq_true q819); go_wp2; go_ret; (exact ⟨by first | rfl | (simp; done) | (simp [*]; done), by repeat (first | exact Drawn0.refl _ | apply Drawn0.step)⟩)
    rw [if_neg c6] at H; (have c6b0 : decide (1000 < ((rd_L1 l1 x5_1).length : Int)) = false := decide_eq_false c6); (have c6b1 : decide (1000 < (rd_L1 l1 x5_1).length) = false := decide_eq_false (by omega)); clear c6; have H' := Aside0.mk H; clear H; (have p819 : 0 ≤ (x5_1 : Int) := of_decide_eq_true (by first | (with_reducible assumption) | assumption)); (have q819 : x5_1 < (l1.length : Int) := of_decide_eq_true (by first | (with_reducible assumption) | assumption)); (obtain ⟨ad819, A819_0, c819_0, e819, hx819_0, hl819_0, hi819_0⟩ := at_L1 HR1.out x5_1 p819 q819); cases e819; have HR819_0 := Aside0.mk hi819_0; have HC819_0 := Aside0.mk hl819_0; clear hi819_0 hl819_0; (replace p819 := eq_true p819); (replace q819 := eq_true q819); go_wp2; (go_roundg k1); (case measure => have := HK1.out; omega); (case rel => exact ⟨(wrap64 (x5_1 + 1)), (by first | rfl | (simp; done) | (simp [*]; done)), H', ⟨by have := HK1.out; omega⟩, by repeat (first | exact Drawn0.refl _ | apply Drawn0.step)⟩)
end Go.Proofs.YtbanemecfobonaaDoor.B
