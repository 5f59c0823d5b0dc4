/-
  DERIVED. GIVEN WITH THE SEED: THE CARDS: each row of YtbanemecfobonaaDoorRows.lean that lists a variable, with what it lists TIED to the program's text (the seventh form; the later family's looks); each row that meets fmt, with fmt's text TOLD by the authors' own Lean function (tested against real Go, not proved from fmt's source: count such statements apart). THE CARD IS WHAT COUNTS. Prove the row's statement (the work); the ties are given (YtbanemecfobonaaDoorTie.lean); close each card by the builder's one call (the guide's Derived/Test/ToyasCard.lean, 'card_holds'). Laid BY PROGRAM, IN A SANDBOX (cutbox-door.mjs). By AI agents, Wed Nov 11 2026. No macro, syntax, notation, axiom, sorry.
-/
import Derived.Test.YtbanemecfobonaaDoorRows
import GoSem.ClaimSeven
namespace Go.Proofs.YtbanemecfobonaaDoor
namespace Rows

/-- THE TIED CARD OF 'neonwrightlaw08.BusBits'. -/
def busBitsCard : Claim7 := { stood := { row := busBitsRow, standIns := [], harness := (true, "7ed61bca531f4f1d482c95627f8e3c3f2d4eddf80943f5c5304d9b474644a252"), looks := false }, kinds := [], alts := [], laidByText := true, laidKinds := [.widerDeep], laidTests := true, laidLooks := .later }
def BusBitsCardSaid : Prop := Claim7.holds Tryd.pinned (.plain (OpenSpec.ofChange busBitsSpec)) busBitsCard

/-- THE TIED CARD OF 'neonwrightlaw08.BusReads'. -/
def busReadsCard : Claim7 := { stood := { row := busReadsRow, standIns := [], harness := (true, "7ed61bca531f4f1d482c95627f8e3c3f2d4eddf80943f5c5304d9b474644a252"), looks := false }, kinds := [], alts := [], laidByText := true, laidKinds := [.widerDeep], laidTests := true, laidLooks := .later }
def BusReadsCardSaid : Prop := Claim7.holds Tryd.pinned (.plain (OpenSpec.ofChange busReadsSpec)) busReadsCard

/-- THE TIED CARD OF 'neonwrightlaw08.BusWins'. -/
def busWinsCard : Claim7 := { stood := { row := busWinsRow, standIns := [], harness := (true, "7ed61bca531f4f1d482c95627f8e3c3f2d4eddf80943f5c5304d9b474644a252"), looks := false }, kinds := [], alts := [], laidByText := true, laidKinds := [.widerDeep], laidTests := true, laidLooks := .later }
def BusWinsCardSaid : Prop := Claim7.holds Tryd.pinned (.plain (OpenSpec.ofChange busWinsSpec)) busWinsCard

/-- THE TIED CARD OF 'neonwrightlaw08.BusArbitrates'. -/
def busArbitratesCard : Claim7 := { stood := { row := busArbitratesRow, standIns := [], harness := (true, "7ed61bca531f4f1d482c95627f8e3c3f2d4eddf80943f5c5304d9b474644a252"), looks := false }, kinds := [], alts := [], laidByText := true, laidKinds := [.widerDeep], laidTests := true, laidLooks := .later }
def BusArbitratesCardSaid : Prop := Claim7.holds Tryd.pinned (.plain (OpenSpec.ofChange busArbitratesSpec)) busArbitratesCard

/-- THE TIED CARD OF 'neonwrightlaw08.BusBack'. -/
def busBackCard : Claim7 := { stood := { row := busBackRow, standIns := [], harness := (true, "7ed61bca531f4f1d482c95627f8e3c3f2d4eddf80943f5c5304d9b474644a252"), looks := false }, kinds := [], alts := [], laidByText := true, laidKinds := [.widerDeep], laidTests := true, laidLooks := .later }
def BusBackCardSaid : Prop := Claim7.holds Tryd.pinned (.plain (OpenSpec.ofChange busBackSpec)) busBackCard

/-- THE TIED CARD OF 'neonwrightlaw08.BusChanged'. -/
def busChangedCard : Claim7 := { stood := { row := busChangedRow, standIns := [], harness := (true, "7ed61bca531f4f1d482c95627f8e3c3f2d4eddf80943f5c5304d9b474644a252"), looks := false }, kinds := [], alts := [], laidByText := true, laidKinds := [.widerDeep], laidTests := true, laidLooks := .later }
def BusChangedCardSaid : Prop := Claim7.holds Tryd.pinned (.plain (OpenSpec.ofChange busChangedSpec)) busChangedCard

/-- THE TIED CARD OF 'neonwrightlaw08.BusChecks'. -/
def busChecksCard : Claim7 := { stood := { row := busChecksRow, standIns := [], harness := (true, "7ed61bca531f4f1d482c95627f8e3c3f2d4eddf80943f5c5304d9b474644a252"), looks := false }, kinds := [], alts := [], laidByText := true, laidKinds := [.widerDeep], laidTests := true, laidLooks := .later }
def BusChecksCardSaid : Prop := Claim7.holds Tryd.pinned (.plain (OpenSpec.ofChange busChecksSpec)) busChecksCard

/-- THE TIED CARD OF 'neonwrightlaw08.BusDelays'. -/
def busDelaysCard : Claim7 := { stood := { row := busDelaysRow, standIns := [], harness := (true, "7ed61bca531f4f1d482c95627f8e3c3f2d4eddf80943f5c5304d9b474644a252"), looks := false }, kinds := [], alts := [], laidByText := true, laidKinds := [.widerDeep], laidTests := true, laidLooks := .later }
def BusDelaysCardSaid : Prop := Claim7.holds Tryd.pinned (.plain (OpenSpec.ofChange busDelaysSpec)) busDelaysCard

/-- THE TIED CARD OF 'neonwrightlaw08.BusMore'. -/
def busMoreCard : Claim7 := { stood := { row := busMoreRow, standIns := [], harness := (true, "7ed61bca531f4f1d482c95627f8e3c3f2d4eddf80943f5c5304d9b474644a252"), looks := false }, kinds := [], alts := [], laidByText := true, laidKinds := [.widerDeep], laidTests := true, laidLooks := .later }
def BusMoreCardSaid : Prop := Claim7.holds Tryd.pinned (.plain (OpenSpec.ofChange busMoreSpec)) busMoreCard

/-- THE TIED CARD OF 'neonwrightlaw08.BusOrders'. -/
def busOrdersCard : Claim7 := { stood := { row := busOrdersRow, standIns := [], harness := (true, "7ed61bca531f4f1d482c95627f8e3c3f2d4eddf80943f5c5304d9b474644a252"), looks := false }, kinds := [], alts := [], laidByText := true, laidKinds := [.widerDeep], laidTests := true, laidLooks := .later }
def BusOrdersCardSaid : Prop := Claim7.holds Tryd.pinned (.plain (OpenSpec.ofChange busOrdersSpec)) busOrdersCard

/-- THE TIED CARD OF 'neonwrightlaw08.BusAudsley'. -/
def busAudsleyCard : Claim7 := { stood := { row := busAudsleyRow, standIns := [], harness := (true, "7ed61bca531f4f1d482c95627f8e3c3f2d4eddf80943f5c5304d9b474644a252"), looks := false }, kinds := [], alts := [], laidByText := true, laidKinds := [.widerDeep], laidTests := true, laidLooks := .later }
def BusAudsleyCardSaid : Prop := Claim7.holds Tryd.pinned (.plain (OpenSpec.ofChange busAudsleySpec)) busAudsleyCard

/-- THE TIED CARD OF 'neonwrightlaw08.BusSends'. -/
def busSendsCard : Claim7 := { stood := { row := busSendsRow, standIns := [], harness := (true, "7ed61bca531f4f1d482c95627f8e3c3f2d4eddf80943f5c5304d9b474644a252"), looks := false }, kinds := [], alts := [], laidByText := true, laidKinds := [.widerDeep], laidTests := true, laidLooks := .later }
def BusSendsCardSaid : Prop := Claim7.holds Tryd.pinned (.plain (OpenSpec.ofChange busSendsSpec)) busSendsCard

/-- THE TIED CARD OF 'neonwrightlaw08.BusNever'. -/
def busNeverCard : Claim7 := { stood := { row := busNeverRow, standIns := [], harness := (true, "7ed61bca531f4f1d482c95627f8e3c3f2d4eddf80943f5c5304d9b474644a252"), looks := false }, kinds := [], alts := [], laidByText := true, laidKinds := [.widerDeep], laidTests := true, laidLooks := .later }
def BusNeverCardSaid : Prop := Claim7.holds Tryd.pinned (.plain (OpenSpec.ofChange busNeverSpec)) busNeverCard

/-- THE SECOND FORM's CARD OF 'neonwrightlaw08.BusBits'. -/
def busBitsUptoCard : Claim7 := { stood := { row := busBitsUptoRow, standIns := [], harness := (true, "7ed61bca531f4f1d482c95627f8e3c3f2d4eddf80943f5c5304d9b474644a252"), looks := false }, kinds := [], alts := [], laidByText := true, laidKinds := [.widerDeep], laidTests := true, laidLooks := .later }
def BusBitsUptoCardSaid : Prop := Claim7.holds Tryd.pinned (.plain (OpenSpec.upto busBitsSpec)) busBitsUptoCard

/-- THE SECOND FORM's CARD OF 'neonwrightlaw08.BusReads'. -/
def busReadsUptoCard : Claim7 := { stood := { row := busReadsUptoRow, standIns := [], harness := (true, "7ed61bca531f4f1d482c95627f8e3c3f2d4eddf80943f5c5304d9b474644a252"), looks := false }, kinds := [], alts := [], laidByText := true, laidKinds := [.widerDeep], laidTests := true, laidLooks := .later }
def BusReadsUptoCardSaid : Prop := Claim7.holds Tryd.pinned (.plain (OpenSpec.upto busReadsSpec)) busReadsUptoCard

/-- THE SECOND FORM's CARD OF 'neonwrightlaw08.BusWins'. -/
def busWinsUptoCard : Claim7 := { stood := { row := busWinsUptoRow, standIns := [], harness := (true, "7ed61bca531f4f1d482c95627f8e3c3f2d4eddf80943f5c5304d9b474644a252"), looks := false }, kinds := [], alts := [], laidByText := true, laidKinds := [.widerDeep], laidTests := true, laidLooks := .later }
def BusWinsUptoCardSaid : Prop := Claim7.holds Tryd.pinned (.plain (OpenSpec.upto busWinsSpec)) busWinsUptoCard

/-- THE SECOND FORM's CARD OF 'neonwrightlaw08.BusArbitrates'. -/
def busArbitratesUptoCard : Claim7 := { stood := { row := busArbitratesUptoRow, standIns := [], harness := (true, "7ed61bca531f4f1d482c95627f8e3c3f2d4eddf80943f5c5304d9b474644a252"), looks := false }, kinds := [], alts := [], laidByText := true, laidKinds := [.widerDeep], laidTests := true, laidLooks := .later }
def BusArbitratesUptoCardSaid : Prop := Claim7.holds Tryd.pinned (.plain (OpenSpec.upto busArbitratesSpec)) busArbitratesUptoCard

/-- THE SECOND FORM's CARD OF 'neonwrightlaw08.BusBack'. -/
def busBackUptoCard : Claim7 := { stood := { row := busBackUptoRow, standIns := [], harness := (true, "7ed61bca531f4f1d482c95627f8e3c3f2d4eddf80943f5c5304d9b474644a252"), looks := false }, kinds := [], alts := [], laidByText := true, laidKinds := [.widerDeep], laidTests := true, laidLooks := .later }
def BusBackUptoCardSaid : Prop := Claim7.holds Tryd.pinned (.plain (OpenSpec.upto busBackSpec)) busBackUptoCard

/-- THE SECOND FORM's CARD OF 'neonwrightlaw08.BusChanged'. -/
def busChangedUptoCard : Claim7 := { stood := { row := busChangedUptoRow, standIns := [], harness := (true, "7ed61bca531f4f1d482c95627f8e3c3f2d4eddf80943f5c5304d9b474644a252"), looks := false }, kinds := [], alts := [], laidByText := true, laidKinds := [.widerDeep], laidTests := true, laidLooks := .later }
def BusChangedUptoCardSaid : Prop := Claim7.holds Tryd.pinned (.plain (OpenSpec.upto busChangedSpec)) busChangedUptoCard

/-- THE SECOND FORM's CARD OF 'neonwrightlaw08.BusChecks'. -/
def busChecksUptoCard : Claim7 := { stood := { row := busChecksUptoRow, standIns := [], harness := (true, "7ed61bca531f4f1d482c95627f8e3c3f2d4eddf80943f5c5304d9b474644a252"), looks := false }, kinds := [], alts := [], laidByText := true, laidKinds := [.widerDeep], laidTests := true, laidLooks := .later }
def BusChecksUptoCardSaid : Prop := Claim7.holds Tryd.pinned (.plain (OpenSpec.upto busChecksSpec)) busChecksUptoCard

/-- THE SECOND FORM's CARD OF 'neonwrightlaw08.BusDelays'. -/
def busDelaysUptoCard : Claim7 := { stood := { row := busDelaysUptoRow, standIns := [], harness := (true, "7ed61bca531f4f1d482c95627f8e3c3f2d4eddf80943f5c5304d9b474644a252"), looks := false }, kinds := [], alts := [], laidByText := true, laidKinds := [.widerDeep], laidTests := true, laidLooks := .later }
def BusDelaysUptoCardSaid : Prop := Claim7.holds Tryd.pinned (.plain (OpenSpec.upto busDelaysSpec)) busDelaysUptoCard

/-- THE SECOND FORM's CARD OF 'neonwrightlaw08.BusMore'. -/
def busMoreUptoCard : Claim7 := { stood := { row := busMoreUptoRow, standIns := [], harness := (true, "7ed61bca531f4f1d482c95627f8e3c3f2d4eddf80943f5c5304d9b474644a252"), looks := false }, kinds := [], alts := [], laidByText := true, laidKinds := [.widerDeep], laidTests := true, laidLooks := .later }
def BusMoreUptoCardSaid : Prop := Claim7.holds Tryd.pinned (.plain (OpenSpec.upto busMoreSpec)) busMoreUptoCard

/-- THE SECOND FORM's CARD OF 'neonwrightlaw08.BusOrders'. -/
def busOrdersUptoCard : Claim7 := { stood := { row := busOrdersUptoRow, standIns := [], harness := (true, "7ed61bca531f4f1d482c95627f8e3c3f2d4eddf80943f5c5304d9b474644a252"), looks := false }, kinds := [], alts := [], laidByText := true, laidKinds := [.widerDeep], laidTests := true, laidLooks := .later }
def BusOrdersUptoCardSaid : Prop := Claim7.holds Tryd.pinned (.plain (OpenSpec.upto busOrdersSpec)) busOrdersUptoCard

/-- THE SECOND FORM's CARD OF 'neonwrightlaw08.BusAudsley'. -/
def busAudsleyUptoCard : Claim7 := { stood := { row := busAudsleyUptoRow, standIns := [], harness := (true, "7ed61bca531f4f1d482c95627f8e3c3f2d4eddf80943f5c5304d9b474644a252"), looks := false }, kinds := [], alts := [], laidByText := true, laidKinds := [.widerDeep], laidTests := true, laidLooks := .later }
def BusAudsleyUptoCardSaid : Prop := Claim7.holds Tryd.pinned (.plain (OpenSpec.upto busAudsleySpec)) busAudsleyUptoCard

/-- THE SECOND FORM's CARD OF 'neonwrightlaw08.BusSends'. -/
def busSendsUptoCard : Claim7 := { stood := { row := busSendsUptoRow, standIns := [], harness := (true, "7ed61bca531f4f1d482c95627f8e3c3f2d4eddf80943f5c5304d9b474644a252"), looks := false }, kinds := [], alts := [], laidByText := true, laidKinds := [.widerDeep], laidTests := true, laidLooks := .later }
def BusSendsUptoCardSaid : Prop := Claim7.holds Tryd.pinned (.plain (OpenSpec.upto busSendsSpec)) busSendsUptoCard

/-- THE SECOND FORM's CARD OF 'neonwrightlaw08.BusNever'. -/
def busNeverUptoCard : Claim7 := { stood := { row := busNeverUptoRow, standIns := [], harness := (true, "7ed61bca531f4f1d482c95627f8e3c3f2d4eddf80943f5c5304d9b474644a252"), looks := false }, kinds := [], alts := [], laidByText := true, laidKinds := [.widerDeep], laidTests := true, laidLooks := .later }
def BusNeverUptoCardSaid : Prop := Claim7.holds Tryd.pinned (.plain (OpenSpec.upto busNeverSpec)) busNeverUptoCard
end Rows
end Go.Proofs.YtbanemecfobonaaDoor
