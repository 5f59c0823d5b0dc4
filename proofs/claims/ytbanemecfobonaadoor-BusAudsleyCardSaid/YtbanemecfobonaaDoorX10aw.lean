/- Written by a program (lite.py) from my texts. -/
import Derived.Test.YtbanemecfobonaaDoorGYw
import Derived.Test.YtbanemecfobonaaDoorU34w
namespace Go.Proofs.YtbanemecfobonaaDoor.B
open Go.RowKit Go.Proofs.YtbanemecfobonaaDoorW.PrintWords Go.Proofs.YtbanemecfobonaaDoorW.PrintLast Go.Proofs.YtbanemecfobonaaDoorW.PrintMore
set_option linter.unusedVariables false
set_option linter.unusedSimpArgs false
def badL (n : Int) : Bool := decide (n < 0) || decide (10000000 < n)
set_option maxHeartbeats 400000 in
set_option maxRecDepth 100000 in
theorem f81_any (n : Int) (w : World) : Calls Tryd.prog 81 #[.int .i64 n] w fun e w' => e = .returned (.bool (badL n)) ∧ Drawn0 w w' := by
  have hb : badL n = (decide (n < 0) || decide (10000000 < n)) := rfl
  by_cases c1 : n < 0
  · have t1 := dT c1
    have e : badL n = true := by rw [hb, t1]; rfl
    rw [e]
    clear hb e
    go_enter Tryd.func81, Tryd.ntmps81
    go_wp2
    go_ret
    exact ⟨rfl, by repeat (first | exact Drawn0.refl _ | apply Drawn0.step)⟩
  · have t1 := dF c1
    have e : badL n = decide (10000000 < n) := by rw [hb, t1, Bool.false_or]
    rw [e]
    clear hb e
    go_enter Tryd.func81, Tryd.ntmps81
    go_wp2
    go_ret
    exact ⟨rfl, by repeat (first | exact Drawn0.refl _ | apply Drawn0.step)⟩
def idxB (c : Nat → Bool) : Nat → Nat → Int
  | 0, _ => -1
  | n + 1, i => if c i = true then (i : Int) else idxB c n (i + 1)
set_option maxHeartbeats 800000 in
set_option maxRecDepth 100000 in
theorem IndexFunc_intE.calls (A0 : Option Addr) (c0 : Nat) (l : List Int) (e1 e2 e3 e4 : Value) (c : Nat → Bool) (w : World) (hr : Kd.C (Kd.int .i64) w A0 l.length l)
    (hC : ∀ (i : Nat) (W : World), i < l.length → Below w.heap.size w W → Calls Tryd.prog 83 #[.int .i64 (rd l (i : Int)), e1, e2, e3, e4] W fun e w' => e = .returned (.bool (c i)) ∧ Below W.heap.size W w') :
    Calls Tryd.prog 82 #[.slice A0 l.length c0, .func (.func 83) #[] #[e1, e2, e3, e4]] w fun e w' => e = .returned (.int .i64 (idxB c l.length 0)) ∧ Below w.heap.size w w' := by
  have HR := aM hr; have HCA := aM hC; (have HB0 := aM (Below.refl w.heap.size w)); (have hlen : (l.length : Int) ≤ 9223372036854775807 := by have := hr.2.1; omega); clear hr hC; (go_enter Tryd.func82, Tryd.ntmps82); go_wp2; (go_loopg [8] l.length (fun gk v8 w' => ∃ i : Nat, v8 = .int .i64 (i : Int) ∧ i ≤ l.length ∧ Aside0 (gk = l.length - i) ∧ Aside0 (idxB c l.length 0 = idxB c (l.length - i) i) ∧ Aside0 (Below w.heap.size w w'))); (case atStart => exact ⟨0, rfl, by omega, ⟨rfl⟩, ⟨rfl⟩, HB0⟩)
  case round =>
   clear HB0; obtain ⟨i, rfl, hi, HK, HI, HB⟩ := hrel; by_cases hlt : i < l.length; rotate_left
   · (obtain rfl : i = l.length := by omega); go_wp2; go_ret; (exact ⟨by rw [HI.out, Nat.sub_self]; rfl, HB.out⟩)
   (obtain ⟨ad, e0, hx0⟩ := Kd.at_int (Kd.C_below HR.out HB.out) (i : Int) z3 z3); cases e0; simp only [Int.toNat_natCast] at hx0; (have HN : Aside0 (idxB c (l.length - i) i = if c i = true then (i : Int) else idxB c (l.length - (i + 1)) (i + 1)) := ⟨by rw [show l.length - i = (l.length - (i + 1)) + 1 by omega]; rfl⟩); (have HC : Aside0 (Calls Tryd.prog 83 #[.int .i64 (rd l (i : Int)), e1, e2, e3, e4] wr fun e w' => e = .returned (.bool (c i)) ∧ Below wr.heap.size wr w') := ⟨HCA.out i wr hlt HB.out⟩); (generalize rd l (i : Int) = x at HC hx0); (obtain ⟨bb, hbb⟩ : ∃ bb, c i = bb := ⟨_, rfl⟩); rw [hbb] at HC HN; clear hbb; cases bb; rotate_left
   · (go_wp2_with (first | (go_at_call 83; refine HC.out.mono ?_; rintro e w1 ⟨rfl, b1⟩; replace b1 := aM b1))); go_ret; (exact ⟨by rw [HI.out, HN.out, if_pos trivial]; rfl, below_step HB.out b1.out⟩)
   (go_wp2_with (first | (go_at_call 83; refine HC.out.mono ?_; rintro e w1 ⟨rfl, b1⟩; replace b1 := aM b1))); (go_roundg (l.length - (i + 1))); (case measure => have := HK.out; omega); (case rel => exact ⟨i + 1, by go_num, by omega, ⟨rfl⟩, ⟨by rw [HI.out, HN.out, if_neg (by simp)]⟩, ⟨below_step HB.out b1.out⟩⟩)
end Go.Proofs.YtbanemecfobonaaDoor.B
