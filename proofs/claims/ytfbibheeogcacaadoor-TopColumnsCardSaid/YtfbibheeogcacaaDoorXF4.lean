/- The map of the turns, off the laid premise. -/
import Derived.Test.YtfbibheeogcacaaDoorXF3
import Derived.Test.YtfbibheeogcacaaDoorRows
import Derived.ProofKit
import Derived.LaidMore
import Derived.OpenShut
import Derived.Maps.Keyed
import Derived.Stop.Joined
namespace Go.Proofs.YtfbibheeogcacaaDoor.B
open Go.ChangeShapes Go.WideShapes Go.ChangeAt Go.WideMaps Go.WideElems Go.RowKit Go.Proofs.YtfbibheeogcacaaDoorW.PrintWords Go.Proofs.YtfbibheeogcacaaDoorW.PrintLast
theorem gTurns : Tryd.prog.globalNamed "neonwright/bend.turns" = some 0 := by kernel_rfl
theorem tTurns : (Tryd.prog.globals[0]?).map (·.type) = some 80 := by kernel_rfl
set_option maxRecDepth 100000 in
theorem turns_laid {W : World} (h : laidMetH Tryd.prog Rows.topColumnsRow.laid W) : ∃ bm, W.cell? ⟨0, 0, none⟩ = some (.map (some bm)) ∧ ∀ W', Below W.heap.size W W' → (Instr.lookup 80 (.map (some bm)) (.int .u8 76) false).run Tryd.prog W' = .ok (.func (.func 115) #[] #[]) W' := by
  obtain ⟨g, t, cs, fuel, p, hg, ht, hv, hd⟩ := h.funcs (List.mem_cons_of_mem _ (List.mem_cons_self ..))
  obtain rfl := Option.some.inj (gTurns.symm.trans hg)
  obtain rfl := Option.some.inj (tTurns.symm.trans ht)
  rcases open_map Tryd.underlying80 hd with ⟨_, hx⟩ | ⟨bm, es, clock, m, rfl, hcs, hb, _, F, hx⟩
  · exact absurd (congrArg Prod.fst hx) (by intro e; cases e)
  have hx1 := (Prod.mk.inj hx).1
  have hcell : W.cell? ⟨0, 0, none⟩ = some (.map (some bm)) := by
    have := World.var?_cell hg hv 0
    rw [Array.eq_one_of_toList hcs] at this
    simpa using this
  refine ⟨bm, hcell, fun W' hB => ?_⟩
  have hb' := (hB.block bm (blk_lt hb)).trans hb
  have hz : (zeroValue 79).run Tryd.prog W' = .ok .nilFunc W' := by kernel_rfl
  rcases Maps.fit_look false (Maps.int_keyed Tryd.underlying5) Tryd.underlying80 hz hb' F (Maps.keyOf_int_mk (a := 76) Tryd.underlying5 (by decide)) with ⟨_, _, hat⟩ | ⟨e0, y, _, _, hrun, hRv, hat, _⟩
  · have := hat .nil
    rw [← hx1] at this
    cases this
  · have := hat .nil
    rw [← hx1] at this
    obtain ⟨d, q⟩ := y
    have e2 : d = .held [110, 101, 111, 110, 119, 114, 105, 103, 104, 116, 47, 98, 101, 110, 100, 46, 116, 117, 114, 110, 115, 36, 50] := this.symm
    subst e2
    unfold elemAt at hRv
    split at hRv
    · rename_i hform
      rw [hrun]
      have hv1 : e0.val.cells.toList = [e0.val] := by
        generalize e0.val = v at hform hRv
        cases v <;> first | rfl | (simp [Value.formed, Tryd.underlying79] at hform)
      rw [hv1] at hRv
      have := func_of_trod (f0 := 115) Tryd.underlying79 (by kernel_rfl) hRv
      rw [this]
      rfl
    · cases hRv
end Go.Proofs.YtfbibheeogcacaaDoor.B
