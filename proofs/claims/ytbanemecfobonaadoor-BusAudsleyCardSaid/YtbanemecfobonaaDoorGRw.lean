/- Written by a program (lite.py, squash.py) from my texts. -/
import Derived.Test.YtbanemecfobonaaDoorRows
import Derived.Test.YtbanemecfobonaaDoorXM1w
import Derived.WalkKit
import Derived.ProofKit
import Derived.OpenShut
import Derived.ShutString
import Derived.ChangeOld
import Derived.Below
import Derived.SizedLaws
import Derived.LaidMore
import Derived.Stop.Joined
import Derived.Test.YtbanemecfobonaaDoorGWw
import Derived.Lib.SmallJoins
import Derived.Deep.Slices
import Derived.Deep.Fields
import Derived.ChangeSame
section
namespace Go.Proofs.YtbanemecfobonaaDoor.B
open Go.Proofs.YtbanemecfobonaaDoorW.PrintWords Go.Proofs.YtbanemecfobonaaDoorW.PrintLast Go.Proofs.YtbanemecfobonaaDoorW.PrintMore Go.ChangeShapes Go.WideShapes Go.ChangeAt Go.RowKit
set_option linter.unusedVariables false
def laid : List (String × DataW Unit) := [("neonwright/bus.tail", Rows.laid_neonwright_bus_tail)]
theorem own : ownKnob Tryd.prog.godebug = none := by kernel_rfl
theorem laidOut : laidOutB Tryd.prog = true := by kernel_rfl
theorem gTail : Tryd.prog.globalNamed "neonwright/bus.tail" = some 0 := by kernel_rfl
theorem tTail : (Tryd.prog.globals[0]?).map (·.type) = some 22 := by kernel_rfl
theorem door_met (os : Os) (args : Array Value) : laidMetH Tryd.prog laid ((World.doorLaid Tryd.prog 400 os).forCall (fun _ _ => 0) ⟨#[], args, []⟩).memory :=
  laidMetH_of_parts3 (fuel := 8) (laidMet_of_run' 8 z9 z9) z9 z9
theorem of_laid {W : World} (h : laidMetH Tryd.prog laid W) : TailLaid W := by
  rw [MakeChecks.laidMetH_plain _ _ _ z9] at h; obtain ⟨ps, ⟨g0, t0, cs0, f0, p0, q0, hg0, ht0, hv0, hd0, _, _⟩, _, _⟩ := h; (obtain rfl := sI (gTail.symm.trans hg0)); (obtain rfl := sI (tTail.symm.trans ht0)); (rcases open_ints Tryd.underlying22 Tryd.underlying3 z9 hd0 with ⟨_, hx⟩ | ⟨x, l, c, zs, hcs, _, hl, hm, hz, hx, hcell, hwz⟩)
  · (simp [Rows.laid_neonwright_bus_tail] at hx)
  have hcl : W.cell? ⟨0, 0, none⟩ = some (.slice (some x) l c) := by
    have := World.var?_cell hg0 hv0 0
    rw [Array.eq_one_of_toList hcs] at this
    simpa using this
  have he : (lits .i64 (zs.take l) : List (DataW Unit)) = lits .i64 tailD := by
    have h1 := congrArg Prod.fst hx
    simp only [Rows.laid_neonwright_bus_tail, DataW.slice.injEq] at h1
    exact h1.1.symm
  have ht : zs.take l = tailD := by
    have h1 := congrArg (List.map (fun d : DataW Unit => match d with | .lit (.int _ n) => n | _ => 0)) he
    simpa [lits, Function.comp_def] using h1
  (have hzc : zs.length = c := by simpa using hz)
  have hl13 : l = 13 := by
    have h1 := congrArg List.length ht
    rw [List.length_take, tailD_length] at h1
    omega
  subst hl13; (refine ⟨some x, c, hcl, hl, Kd.C_of_reads (d := (0 : Int)) (h1 := fun _ => rfl) (show ReadsInt W .i64 (some x) 13 tailD from ⟨rfl, by omega, fun _ => ⟨x, rfl, fun j hj => ?_⟩⟩)⟩); rw [hcell j z3, ← ht, List.getD_eq_getElem?_getD, List.getD_eq_getElem?_getD, List.getElem?_take_of_lt hj]
end Go.Proofs.YtbanemecfobonaaDoor.B
end
section
namespace Go.Proofs.YtbanemecfobonaaDoor.B
open Go.Proofs.YtbanemecfobonaaDoorW.PrintWords Go.Proofs.YtbanemecfobonaaDoorW.PrintLast Go.Proofs.YtbanemecfobonaaDoorW.PrintMore Go.ChangeShapes Go.WideShapes Go.ChangeAt Go.RowKit Go.Joins Go.Deep
set_option linter.unusedVariables false
section
variable {H : Type} {enc : TypeId × Value → H} {w : World} {base : Nat} {held : Bool}
theorem ints_of_trod {fuel : Nat} {v : Value} {x : DataW H × List MemPlace} (h : DataW.trod enc Tryd.prog w base (fun _ => true) held fuel 22 [v] = some x) :
    ∃ (A : Option Addr) (l : List Int) (c : Nat), v = .slice A l.length c ∧ Kd.C (Kd.int .i64) w A l.length l ∧ l.length ≤ c ∧ l.length ≤ maxLen ∧ ∀ n ∈ l, (Lit.int .i64 n).wf = true := by
  rcases open_ints Tryd.underlying22 Tryd.underlying3 z9 h with ⟨hcs, _⟩ | ⟨a, l, c, zs, hcs, _, hl, hm, hz, _, hcell, hwz⟩
  · simp only [List.cons.injEq, and_true] at hcs
    exact ⟨none, [], 0, hcs, Kd.C_nil _ _, Nat.le_refl _, Nat.zero_le _, fun _ h => by simp at h⟩
  · simp only [List.cons.injEq, and_true] at hcs
    obtain ⟨zl, e, hr, hm', hw, hc'⟩ := ReadsInt.ofRowC (k := .i64) (w := w) (a := some a) (len := l) (cap := c) (zs := zs) (.inr ⟨a, rfl, hl, hm, by simpa using hz, hcell, hwz⟩)
    subst e
    exact ⟨some a, zl, c, hcs, Kd.C_of_reads (d := (0 : Int)) (h1 := fun _ => rfl) hr, hc', hm', hw⟩
end
end Go.Proofs.YtbanemecfobonaaDoor.B
end
section
namespace Go.Proofs.YtbanemecfobonaaDoor.B
open Go.Proofs.YtbanemecfobonaaDoorW.PrintWords Go.Proofs.YtbanemecfobonaaDoorW.PrintLast Go.Proofs.YtbanemecfobonaaDoorW.PrintMore Go.ChangeShapes Go.WideShapes Go.ChangeAt Go.RowKit Go.Joins Go.Deep
set_option linter.unusedVariables false
section
variable {H : Type} {enc : TypeId × Value → H} {w : World} {base : Nat} {held : Bool}
theorem rows_of_trod {α : Type} (K : Kd α) (z : α) (t e : TypeId) (ht : Tryd.prog.underlying t = some (.slice e)) (hC : Tryd.prog.cellsOf e = K.sz)
    (each : ∀ (fuel : Nat) (cs : List Value) (x : DataW H × List MemPlace), cs.length = K.sz → DataW.trod enc Tryd.prog w base (fun _ => true) held fuel e cs = some x → ∃ y, K.K w y cs)
    {fuel : Nat} {v : Value} {x : DataW H × List MemPlace} (h : DataW.trod enc Tryd.prog w base (fun _ => true) held fuel t [v] = some x) :
    ∃ (A : Option Addr) (l : List α) (c : Nat), v = .slice A l.length c ∧ Kd.C K w A l.length l ∧ l.length ≤ c ∧ l.length ≤ maxLen := by
  (rcases open_slice ht h with ⟨hcs, _⟩ | ⟨a, len, cap, m, n, D, Pl, hcs, _, hl, hm, hmm, _, hi⟩)
  · simp only [List.cons.injEq, and_true] at hcs; (exact ⟨none, [], 0, hcs, Kd.C_nil _ _, Nat.le_refl _, Nat.zero_le _⟩)
  simp only [List.cons.injEq, and_true] at hcs; simp only [if_true] at hmm
  have one : ∀ i, ∃ y, i < len → ∃ cs, cs.length = K.sz ∧ K.K w y cs ∧ ∀ j u, cs[j]? = some u → w.cell? (a.add (i * K.sz + j)) = some u := by
    intro i
    by_cases hlt : i < len
    · obtain ⟨cs', hc, ht'⟩ := hi i z3
      rw [hC] at hc
      obtain ⟨_, hcl, hat⟩ := World.cells?_some hc
      obtain ⟨y, hy⟩ := each n cs' _ hcl ht'
      refine ⟨y, fun _ => ⟨cs', hcl, hy, fun j u hj => ?_⟩⟩
      have hjl : j < K.sz := by have := (List.getElem?_eq_some_iff.1 hj).1; omega
      rw [← Go.Deep.add_add, hat j hjl, hj]
    · exact ⟨z, fun h => absurd h hlt⟩
  (have hlen : ((List.range len).map fun i => (one i).choose).length = len := by simp); (refine ⟨some a, (List.range len).map fun i => (one i).choose, cap, by rw [hlen]; exact hcs, ⟨rfl, by rw [hlen]; unfold maxLen at hm; omega, fun _ => ⟨a, rfl, fun j p hp => ?_⟩⟩, by rw [hlen]; exact hl, by rw [hlen]; omega⟩)
  have hj : j < len := by
    have := (List.getElem?_eq_some_iff.1 hp).1
    rw [hlen] at this
    exact this
  rw [List.getElem?_map, List.getElem?_range hj] at hp; (obtain rfl := sI hp); (exact (one j).choose_spec hj)
end
end Go.Proofs.YtbanemecfobonaaDoor.B
end
section
namespace Go.Proofs.YtbanemecfobonaaDoor.B
open Go.Proofs.YtbanemecfobonaaDoorW.PrintWords Go.Proofs.YtbanemecfobonaaDoorW.PrintLast Go.Proofs.YtbanemecfobonaaDoorW.PrintMore Go.ChangeShapes Go.WideShapes Go.ChangeAt Go.RowKit Go.Joins Go.Deep
set_option linter.unusedVariables false
section
variable {H : Type} {enc : TypeId × Value → H} {w : World} {base : Nat} {held : Bool}
set_option maxRecDepth 100000 in
theorem messages_of_trod {fuel : Nat} {v : Value} {x : DataW H × List MemPlace} (h : DataW.trod enc Tryd.prog w base (fun _ => true) held fuel 46 [v] = some x) :
    ∃ (A : Option Addr) (l : List S55) (c : Nat), v = .slice A l.length c ∧ Kd.C k55 w A l.length l ∧ l.length ≤ c ∧ l.length ≤ maxLen := by
  (refine rows_of_trod k55 z55 46 55 Tryd.underlying46 z9 (fun fuel cs x hcl ht => ?_) h); (obtain ⟨xs, n, _, rfl, hl, hlen, hf⟩ := DataW.trod_struct Tryd.underlying55 ht); (have hc1 : Tryd.prog.cellsOf 3 = 1 := by kernel_rfl); (have hsz : k55.sz = 4 := rfl); rw [hsz] at hcl
  match xs, hlen with
  | [y0, y1, y2, y3], _ =>
    match cs, hcl with
    | [v0, v1, v2, v3], _ =>
      have h0 : DataW.trod enc Tryd.prog w base (fun _ => true) held n 3 [v0] = some y0 := by
        have := hf 0 _ rfl
        simpa [hc1] using this
      have h1 : DataW.trod enc Tryd.prog w base (fun _ => true) held n 3 [v1] = some y1 := by
        have := hf 1 _ rfl
        simpa [hc1] using this
      have h2 : DataW.trod enc Tryd.prog w base (fun _ => true) held n 3 [v2] = some y2 := by
        have := hf 2 _ rfl
        simpa [hc1] using this
      have h3 : DataW.trod enc Tryd.prog w base (fun _ => true) held n 3 [v3] = some y3 := by
        have := hf 3 _ rfl
        simpa [hc1] using this
      obtain ⟨a, e0, _, _⟩ := DataW.trod_int Tryd.underlying3 h0
      obtain ⟨b, e1, _, _⟩ := DataW.trod_int Tryd.underlying3 h1
      obtain ⟨c, e2, _, _⟩ := DataW.trod_int Tryd.underlying3 h2
      obtain ⟨d, e3, _, _⟩ := DataW.trod_int Tryd.underlying3 h3
      replace e0 : v0 = .int .i64 a := by simpa using e0
      replace e1 : v1 = .int .i64 b := by simpa using e1
      replace e2 : v2 = .int .i64 c := by simpa using e2
      replace e3 : v3 = .int .i64 d := by simpa using e3
      subst e0 e1 e2 e3
      exact ⟨⟨a, b, c, d⟩, k55_mk w ⟨a, b, c, d⟩⟩
end
end Go.Proofs.YtbanemecfobonaaDoor.B
end
