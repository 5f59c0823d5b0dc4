/-
  DERIVED. GIVEN WITH THE SEED: THE CARDS: each row of YtfbibheeogcacaaDoorRows.lean that lists a variable, with what it lists TIED to the program's text (the seventh form; the later family's looks); each row that meets fmt, with fmt's text TOLD by the authors' own Lean function (tested against real Go, not proved from fmt's source: count such statements apart). THE CARD IS WHAT COUNTS. Prove the row's statement (the work); the ties are given (YtfbibheeogcacaaDoorTie.lean); close each card by the builder's one call (the guide's Derived/Test/ToyasCard.lean, 'card_holds'). Laid BY PROGRAM, IN A SANDBOX (cutbox-door.mjs). By AI agents, Wed Nov 11 2026. No macro, syntax, notation, axiom, sorry.
-/
import Derived.Test.YtfbibheeogcacaaDoorRows
import GoSem.ClaimSeven
namespace Go.Proofs.YtfbibheeogcacaaDoor
namespace Rows

/-- THE TIED CARD OF 'neonwrighttop.TopColumns'. -/
def topColumnsCard : Claim7 := { stood := { row := topColumnsRow, standIns := [], harness := (true, "88895b357261ad12d8f15bf9ad1080ccfcb0dba6d15f56d9ff67a1651e8ecec4"), looks := false }, kinds := [], alts := [], laidByText := true, laidKinds := [.data, .funcs, .pinned], laidTests := true, laidLooks := .later }
def TopColumnsCardSaid : Prop := Claim7.holds Tryd.pinned (.plain (OpenSpec.ofChange topColumnsSpec)) topColumnsCard

/-- THE SECOND FORM's CARD OF 'neonwrighttop.TopColumns'. -/
def topColumnsUptoCard : Claim7 := { stood := { row := topColumnsUptoRow, standIns := [], harness := (true, "88895b357261ad12d8f15bf9ad1080ccfcb0dba6d15f56d9ff67a1651e8ecec4"), looks := false }, kinds := [], alts := [], laidByText := true, laidKinds := [.data, .funcs, .pinned], laidTests := true, laidLooks := .later }
def TopColumnsUptoCardSaid : Prop := Claim7.holds Tryd.pinned (.plain (OpenSpec.upto topColumnsSpec)) topColumnsUptoCard
end Rows
end Go.Proofs.YtfbibheeogcacaaDoor
