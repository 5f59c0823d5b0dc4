/- Written by a program (lite.py) from my texts. -/
import Derived.Test.YtbanemecfobonaaDoorRows
import Derived.Test.YtbanemecfobonaaDoorXM1q
import Derived.WalkKit
import Derived.ProofKit
import Derived.OpenShut
import Derived.ShutString
import Derived.ChangeOld
import Derived.Below
import Derived.SizedLaws
import Derived.LaidMore
import Derived.Stop.Joined
import Derived.Test.YtbanemecfobonaaDoorWSizedq
namespace Go.Proofs.YtbanemecfobonaaDoor.B
open Go.Proofs.YtbanemecfobonaaDoorW.PrintWords Go.Proofs.YtbanemecfobonaaDoorW.PrintLast Go.Proofs.YtbanemecfobonaaDoorW.PrintMore Go.ChangeShapes Go.WideShapes Go.ChangeAt Go.RowKit
set_option linter.unusedVariables false
def laid : List (String × DataW Unit) := [("neonwright/bus.tail", Rows.laid_neonwright_bus_tail)]
theorem own : ownKnob Tryd.prog.godebug = none := by kernel_rfl
theorem laidOut : laidOutB Tryd.prog = true := by kernel_rfl
theorem gTail : Tryd.prog.globalNamed "neonwright/bus.tail" = some 0 := by kernel_rfl
theorem tTail : (Tryd.prog.globals[0]?).map (·.type) = some 22 := by kernel_rfl
theorem door_met (os : Os) (args : Array Value) : laidMetH Tryd.prog laid ((World.doorLaid Tryd.prog 400 os).forCall (fun _ _ => 0) ⟨#[], args, []⟩).memory :=
  laidMetH_of_parts3 (fuel := 8) (laidMet_of_run' 8 (by kernel_rfl) (by kernel_rfl)) (by kernel_rfl) (by kernel_rfl)
theorem of_laid {W : World} (h : laidMetH Tryd.prog laid W) : TailLaid W := by
  rw [MakeChecks.laidMetH_plain _ _ _ (by kernel_rfl)] at h; obtain ⟨ps, ⟨g0, t0, cs0, f0, p0, q0, hg0, ht0, hv0, hd0, _, _⟩, _, _⟩ := h; (obtain rfl := Option.some.inj (gTail.symm.trans hg0)); (obtain rfl := Option.some.inj (tTail.symm.trans ht0)); (rcases open_ints Tryd.underlying22 Tryd.underlying3 (by kernel_rfl) hd0 with ⟨_, hx⟩ | ⟨x, l, c, zs, hcs, _, hl, hm, hz, hx, hcell, hwz⟩)
  · (simp [Rows.laid_neonwright_bus_tail] at hx)
  have hcl : W.cell? ⟨0, 0, none⟩ = some (.slice (some x) l c) := by
    have := World.var?_cell hg0 hv0 0
    rw [Array.eq_one_of_toList hcs] at this
    simpa using this
  have he : (lits .i64 (zs.take l) : List (DataW Unit)) = lits .i64 tailD := by
    have h1 := congrArg Prod.fst hx
    simp only [Rows.laid_neonwright_bus_tail, DataW.slice.injEq] at h1
    exact h1.1.symm
  have ht : zs.take l = tailD := by
    have h1 := congrArg (List.map (fun d : DataW Unit => match d with | .lit (.int _ n) => n | _ => 0)) he
    simpa [lits, Function.comp_def] using h1
  (have hzc : zs.length = c := by simpa using hz)
  have hl13 : l = 13 := by
    have h1 := congrArg List.length ht
    rw [List.length_take, tailD_length] at h1
    omega
  subst hl13; (refine ⟨some x, c, hcl, hl, Kd.C_of_reads (d := (0 : Int)) (h1 := fun _ => rfl) (show ReadsInt W .i64 (some x) 13 tailD from ⟨rfl, by omega, fun _ => ⟨x, rfl, fun j hj => ?_⟩⟩)⟩); rw [hcell j (by omega), ← ht, List.getD_eq_getElem?_getD, List.getD_eq_getElem?_getD, List.getElem?_take_of_lt hj]
end Go.Proofs.YtbanemecfobonaaDoor.B
