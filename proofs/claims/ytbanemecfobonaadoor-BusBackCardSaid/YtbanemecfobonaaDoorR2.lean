/- Arguments opened: lists of frames, lists of messages. -/
import Derived.Test.YtbanemecfobonaaDoorR1
namespace Go.Proofs.YtbanemecfobonaaDoor.B
open Go.Proofs.YtbanemecfobonaaDoorW.PrintWords Go.Proofs.YtbanemecfobonaaDoorW.PrintLast Go.Proofs.YtbanemecfobonaaDoorW.PrintMore Go.ChangeShapes Go.WideShapes Go.ChangeAt Go.RowKit Go.Joins Go.Deep
set_option linter.unusedVariables false

section
variable {H : Type} {enc : TypeId × Value → H} {w : World} {base : Nat} {held : Bool}

/-- A list whose elements are read by a kind. -/
theorem rows_of_trod {α : Type} (K : Kd α) (z : α) (t e : TypeId) (ht : Tryd.prog.underlying t = some (.slice e)) (hC : Tryd.prog.cellsOf e = K.sz)
    (each : ∀ (fuel : Nat) (cs : List Value) (x : DataW H × List MemPlace), cs.length = K.sz → DataW.trod enc Tryd.prog w base (fun _ => true) held fuel e cs = some x → ∃ y, K.K w y cs)
    {fuel : Nat} {v : Value} {x : DataW H × List MemPlace} (h : DataW.trod enc Tryd.prog w base (fun _ => true) held fuel t [v] = some x) :
    ∃ (A : Option Addr) (l : List α) (c : Nat), v = .slice A l.length c ∧ Kd.C K w A l.length l ∧ l.length ≤ c ∧ l.length ≤ maxLen := by
  rcases open_slice ht h with ⟨hcs, _⟩ | ⟨a, len, cap, m, n, D, Pl, hcs, _, hl, hm, hmm, _, hi⟩
  · simp only [List.cons.injEq, and_true] at hcs
    exact ⟨none, [], 0, hcs, Kd.C_nil _ _, Nat.le_refl _, Nat.zero_le _⟩
  · simp only [List.cons.injEq, and_true] at hcs
    simp only [if_true] at hmm
    have one : ∀ i, ∃ y, i < len → ∃ cs, cs.length = K.sz ∧ K.K w y cs ∧ ∀ j u, cs[j]? = some u → w.cell? (a.add (i * K.sz + j)) = some u := by
      intro i
      by_cases hlt : i < len
      · obtain ⟨cs', hc, ht'⟩ := hi i (by omega)
        rw [hC] at hc
        obtain ⟨_, hcl, hat⟩ := World.cells?_some hc
        obtain ⟨y, hy⟩ := each n cs' _ hcl ht'
        refine ⟨y, fun _ => ⟨cs', hcl, hy, fun j u hj => ?_⟩⟩
        have hjl : j < K.sz := by have := (List.getElem?_eq_some_iff.1 hj).1; omega
        rw [← Go.Deep.add_add, hat j hjl, hj]
      · exact ⟨z, fun h => absurd h hlt⟩
    have hlen : ((List.range len).map fun i => (one i).choose).length = len := by simp
    refine ⟨some a, (List.range len).map fun i => (one i).choose, cap, by rw [hlen]; exact hcs, ⟨rfl, by rw [hlen]; unfold maxLen at hm; omega, fun _ => ⟨a, rfl, fun j p hp => ?_⟩⟩, by rw [hlen]; exact hl, by rw [hlen]; omega⟩
    have hj : j < len := by
      have := (List.getElem?_eq_some_iff.1 hp).1
      rw [hlen] at this
      exact this
    rw [List.getElem?_map, List.getElem?_range hj] at hp
    obtain rfl := Option.some.inj hp
    exact (one j).choose_spec hj
set_option maxRecDepth 100000 in
theorem frames_of_trod {fuel : Nat} {v : Value} {x : DataW H × List MemPlace} (h : DataW.trod enc Tryd.prog w base (fun _ => true) held fuel 34 [v] = some x) :
    ∃ (A : Option Addr) (l : List S24) (c : Nat), v = .slice A l.length c ∧ Kd.C k24 w A l.length l ∧ l.length ≤ c ∧ l.length ≤ maxLen := by
  refine rows_of_trod k24 z24 34 24 Tryd.underlying34 (by kernel_rfl) (fun fuel cs x hcl ht => ?_) h
  obtain ⟨y0, y1, n, _, _, h0, h1⟩ := trod_struct2 Tryd.underlying24 ht
  have hc1 : Tryd.prog.cellsOf 3 = 1 := by kernel_rfl
  have hc2 : Tryd.prog.cellsOf 22 = 1 := by kernel_rfl
  have hsz : k24.sz = 2 := rfl
  rw [hsz] at hcl
  match cs, hcl with
  | [v0, v1], _ =>
    have h0' : DataW.trod enc Tryd.prog w base (fun _ => true) held n 3 [v0] = some y0 := by
      have := h0
      simp only [hc1] at this
      exact this
    have h1' : DataW.trod enc Tryd.prog w base (fun _ => true) held n 22 [v1] = some y1 := by
      have := h1
      simp only [hc2] at this
      exact this
    obtain ⟨no, e1, _, _⟩ := DataW.trod_int Tryd.underlying3 h0'
    simp only [List.cons.injEq, and_true] at e1
    obtain ⟨A, l, c, e2, hr, hc, _, _⟩ := ints_of_trod h1'
    subst e1
    subst e2
    exact ⟨⟨no, l⟩, k24_mk w ⟨no, l⟩ hc hr⟩
end
end Go.Proofs.YtbanemecfobonaaDoor.B
