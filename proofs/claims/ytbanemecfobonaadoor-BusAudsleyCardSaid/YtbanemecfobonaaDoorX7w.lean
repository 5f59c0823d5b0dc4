/- Written by a program (lite.py) from my texts. -/
import Derived.Test.YtbanemecfobonaaDoorX10fw
namespace Go.Proofs.YtbanemecfobonaaDoor.B
open Go.RowKit Go.Proofs.YtbanemecfobonaaDoorW.PrintWords Go.Proofs.YtbanemecfobonaaDoorW.PrintLast Go.Proofs.YtbanemecfobonaaDoorW.PrintMore
set_option linter.unusedVariables false
def bus_Order.f (l : List S55) (lims : List Int) : Option (List Int × Int) := some (orderSpec l lims)
theorem bus_Order.calls (A0 : Option Addr) (c0 : Nat) (l0 : List S55) (A1 : Option Addr) (c1 : Nat) (l1 : List Int) (r1 : List Int) (r2 : Int) (w : World) (hr0 : Kd.C k55 w A0 l0.length l0) (hc0 : l0.length ≤ c0) (hr1 : Kd.C (Kd.int .i64) w A1 l1.length l1) (hc1 : l1.length ≤ c1) (h : bus_Order.f l0 l1 = some (r1, r2)) :
    Calls Tryd.prog 37 #[.slice A0 l0.length c0, .slice A1 l1.length c1] w fun e w' => ∃ v1_ : Value, e = .returned (.tuple #[v1_, .int .i64 r2]) ∧ Kd.R (Kd.int .i64) 3 w' w.heap.size (fun _ => True) v1_ r1 ∧ Below w.heap.size w w' := by
  have hres : orderSpec l0 l1 = (r1, r2) := sI h
  by_cases c : sentB l0 = false ∨ l1.length ≠ l0.length ∨ limTo l1 l1.length = false
  · unfold orderSpec at hres
    rw [if_pos c] at hres
    obtain ⟨rfl, rfl⟩ := Prod.mk.inj hres
    refine (order_bad l0 l1 A0 A1 c0 c1 w hr0 hc0 hr1 hc1 c).mono ?_
    rintro e w' ⟨rfl, hb⟩
    exact ⟨_, rfl, Kd.R_nil _ _ _ _ _, hb⟩
  · unfold orderSpec at hres
    rw [if_neg c] at hres
    have h1 : sentB l0 = true := by
      cases e : sentB l0
      · exact absurd (.inl e) c
      · rfl
    have h2 : l1.length = l0.length := by
      rcases Nat.decEq l1.length l0.length with e | e
      · exact absurd (.inr (.inl e)) c
      · exact e
    have h3 : limTo l1 l1.length = true := by
      cases e : limTo l1 l1.length
      · exact absurd (.inr (.inr e)) c
      · rfl
    exact order_good l0 l1 A0 A1 c0 c1 w r1 r2 hr0 hc0 hr1 hc1 h1 h2 h3 hres
end Go.Proofs.YtbanemecfobonaaDoor.B
