/- Written by a program (lite.py) from my texts. -/
import Derived.Test.YtbanemecfobonaaDoorR1q
namespace Go.Proofs.YtbanemecfobonaaDoor.B
open Go.Proofs.YtbanemecfobonaaDoorW.PrintWords Go.Proofs.YtbanemecfobonaaDoorW.PrintLast Go.Proofs.YtbanemecfobonaaDoorW.PrintMore Go.ChangeShapes Go.WideShapes Go.ChangeAt Go.RowKit Go.Joins Go.Deep
set_option linter.unusedVariables false
section
variable {H : Type} {enc : TypeId × Value → H} {w : World} {base : Nat} {held : Bool}
theorem rows_of_trod {α : Type} (K : Kd α) (z : α) (t e : TypeId) (ht : Tryd.prog.underlying t = some (.slice e)) (hC : Tryd.prog.cellsOf e = K.sz)
    (each : ∀ (fuel : Nat) (cs : List Value) (x : DataW H × List MemPlace), cs.length = K.sz → DataW.trod enc Tryd.prog w base (fun _ => true) held fuel e cs = some x → ∃ y, K.K w y cs)
    {fuel : Nat} {v : Value} {x : DataW H × List MemPlace} (h : DataW.trod enc Tryd.prog w base (fun _ => true) held fuel t [v] = some x) :
    ∃ (A : Option Addr) (l : List α) (c : Nat), v = .slice A l.length c ∧ Kd.C K w A l.length l ∧ l.length ≤ c ∧ l.length ≤ maxLen := by
  (rcases open_slice ht h with ⟨hcs, _⟩ | ⟨a, len, cap, m, n, D, Pl, hcs, _, hl, hm, hmm, _, hi⟩)
  · simp only [List.cons.injEq, and_true] at hcs; (exact ⟨none, [], 0, hcs, Kd.C_nil _ _, Nat.le_refl _, Nat.zero_le _⟩)
  simp only [List.cons.injEq, and_true] at hcs; simp only [if_true] at hmm
  have one : ∀ i, ∃ y, i < len → ∃ cs, cs.length = K.sz ∧ K.K w y cs ∧ ∀ j u, cs[j]? = some u → w.cell? (a.add (i * K.sz + j)) = some u := by
    intro i
    by_cases hlt : i < len
    · obtain ⟨cs', hc, ht'⟩ := hi i (by omega)
      rw [hC] at hc
      obtain ⟨_, hcl, hat⟩ := World.cells?_some hc
      obtain ⟨y, hy⟩ := each n cs' _ hcl ht'
      refine ⟨y, fun _ => ⟨cs', hcl, hy, fun j u hj => ?_⟩⟩
      have hjl : j < K.sz := by have := (List.getElem?_eq_some_iff.1 hj).1; omega
      rw [← Go.Deep.add_add, hat j hjl, hj]
    · exact ⟨z, fun h => absurd h hlt⟩
  (have hlen : ((List.range len).map fun i => (one i).choose).length = len := by simp); (refine ⟨some a, (List.range len).map fun i => (one i).choose, cap, by rw [hlen]; exact hcs, ⟨rfl, by rw [hlen]; unfold maxLen at hm; omega, fun _ => ⟨a, rfl, fun j p hp => ?_⟩⟩, by rw [hlen]; exact hl, by rw [hlen]; omega⟩)
  have hj : j < len := by
    have := (List.getElem?_eq_some_iff.1 hp).1
    rw [hlen] at this
    exact this
  rw [List.getElem?_map, List.getElem?_range hj] at hp; (obtain rfl := Option.some.inj hp); (exact (one j).choose_spec hj)
end
end Go.Proofs.YtbanemecfobonaaDoor.B
