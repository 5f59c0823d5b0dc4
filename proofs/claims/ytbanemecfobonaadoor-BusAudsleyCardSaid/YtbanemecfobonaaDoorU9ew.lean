/- Written by a program (lite.py) from my texts. -/
import Derived.Test.YtbanemecfobonaaDoorX5w
namespace Go.Proofs.YtbanemecfobonaaDoor.B
open Go.RowKit Go.Proofs.YtbanemecfobonaaDoorW.PrintWords Go.Proofs.YtbanemecfobonaaDoorW.PrintLast Go.Proofs.YtbanemecfobonaaDoorW.PrintMore
set_option linter.unusedVariables false
set_option linter.unusedSimpArgs false
def EvS {α : Type} (f : Nat → Option α) (r : Option α) : Prop := ∃ K, ∀ k, K ≤ k → f k = r
theorem EvS.succ {α : Type} {f g : Nat → Option α} {r : Option α} (h : EvS g r) (K0 : Nat) (hs : ∀ k, K0 ≤ k → f (k + 1) = g k) : EvS f r := by
  obtain ⟨K, hK⟩ := h
  refine ⟨max K K0 + 1, fun k hk => ?_⟩
  obtain ⟨k', rfl⟩ : ∃ k', k = k' + 1 := ⟨k - 1, by omega⟩
  rw [hs k' z3]
  exact hK k' z3
theorem EvS.now {α : Type} {f : Nat → Option α} {r : Option α} (K0 : Nat) (hs : ∀ k, K0 ≤ k → f (k + 1) = r) : EvS f r :=
  ⟨K0 + 1, fun k hk => by
    obtain ⟨k', rfl⟩ : ∃ k', k = k' + 1 := ⟨k - 1, by omega⟩
    exact hs k' z3⟩
theorem EvS.same {α : Type} {f g : Nat → Option α} {r : Option α} (h : EvS g r) (hs : ∀ k, f k = g k) : EvS f r := by
  obtain ⟨K, hK⟩ := h
  exact ⟨K, fun k hk => (hs k).trans (hK k hk)⟩
theorem EvS.bind {α β : Type} {f : Nat → Option α} {a : α} {g : Nat → α → Option β} {r : Option β} (h : EvS f (some a)) (h2 : EvS (fun k => g k a) r) : EvS (fun k => (f k).bind (g k)) r := by
  obtain ⟨K, hK⟩ := h
  obtain ⟨K2, hK2⟩ := h2
  refine ⟨max K K2, fun k hk => ?_⟩
  show (f k).bind (g k) = r
  rw [hK k z3, Option.bind_some]
  exact hK2 k z3
theorem w64s (x : Int) (h1 : -9223372036854775808 ≤ x) (h2 : x ≤ 9223372036854775807) : wrap64 x = x := by simp only [wrap64]; omega
theorem nNx (i : Nat) (h : i ≤ 1000000000) : wrap64 ((i : Int) + 1) = ((i + 1 : Nat) : Int) := by rw [w64s _ z3 z3]; omega
end Go.Proofs.YtbanemecfobonaaDoor.B
