/-
  NARROWER THAN 'FOR EVERY INPUT', by the rows' own cells (each row's printed sentence says how): BusBits: laid · BusReads: laid · BusWins: laid · BusArbitrates: laid · BusBack: laid · BusChanged: laid · BusChecks: laid · BusDelays: laid · BusMore: laid · BusOrders: laid · BusAudsley: laid · BusSends: laid · BusNever: laid.
  DERIVED. THE GIVEN ROWS OF THIS SEAT. 13 by the template 'for every input the law returns true; each argument reads behind the call as it read before'; 0 by the template 'total and deterministic' (their statements: YtbanemecfobonaaDoorTotals.lean).
  GIVEN WITH THE SEED: the statements are not yours to turn. If you find one false, say at which input.
  Laid BY PROGRAM, IN A SANDBOX (cutbox-rows.mjs): the forced cells as the released guide's own fill.sh prints them over the translation cf9d79a41b49d2c8… (all of the seat's roots in one cut). By AI agents, Wed Nov 11 2026. No macro, syntax, notation, axiom, sorry.
-/
import Derived.Test.YtbanemecfobonaaDoorChecked
import GoSem.Claim
import GoSem.ClaimJoined
import GoSem.ClaimMapViews
import Derived.JoinedTies
import Derived.KernelRfl
namespace Go.Proofs.YtbanemecfobonaaDoor
/- THE CELL 'sum', in the pinned program and in every row, IS THE sha256 OF THE DUMP (.gsa) THAT YtbanemecfobonaaDoorProg.lean LOADS. Nothing in Lean hashes anything: it is a label: what it is worth is what the hold of that sum in a sandbox is worth. -/
noncomputable def Tryd.pinned : Pinned := { name := "ytbanemecfobonaadoor", sum := "cf9d79a41b49d2c822c1fa8fb0987607fc5661069565f464de56f6a6efa0f0ea", checked := Tryd.checked }
namespace Rows
def none {H : Type} : Left H := { results := [], args := [] }

/- WHAT THE LISTED PACKAGE-LEVEL VARIABLES READ AS WHEN THE CALL BEGINS. Each datum BY PROGRAM (the guide's laid-datum.mjs) off the statement by which the dump's own 'gosem.cut.vars' lays the variable. In a bare row this is a premise. The card (YtbanemecfobonaaDoorCards.lean) ties it to the program's text. -/
def laid_neonwright_bus_tail {H : Type} : DataW H := .slice [.lit (.int .i64 1), .lit (.int .i64 0), .lit (.int .i64 1), .lit (.int .i64 1), .lit (.int .i64 1), .lit (.int .i64 1), .lit (.int .i64 1), .lit (.int .i64 1), .lit (.int .i64 1), .lit (.int .i64 1), .lit (.int .i64 1), .lit (.int .i64 1), .lit (.int .i64 1)] []

/-- 'neonwrightlaw08.BusBits': WHATEVER THE INPUT: true; the input reads as it did. -/
def busBitsSpec : ChangeSpec := { name := "busBits", fn := fun _ => fun
  | [d] => { results := [.lit (.bool true)], args := [d] }
  | _ => none }
def busBitsRow : OpenClaim := { program := "ytbanemecfobonaadoor", sum := "cf9d79a41b49d2c822c1fa8fb0987607fc5661069565f464de56f6a6efa0f0ea", func := "neonwright/neonwrightlaw08.BusBits", spec := "busBits", unfollowed := true, recurses := true, named := ["neonwright/bus.tail"], apart := false, laid := [("neonwright/bus.tail", laid_neonwright_bus_tail)] }
def BusBitsSaid : Prop := busBitsRow.holds Tryd.pinned (OpenSpec.ofChange busBitsSpec)

/-- ITS FALSE NEIGHBOUR: 'it returns false'. Refute it at one input. -/
def busBitsWrong : ChangeSpec := { name := "busBits", fn := fun _ => fun
  | [d] => { results := [.lit (.bool false)], args := [d] }
  | _ => none }
def BusBitsWrongFalsely : Prop := busBitsRow.holds Tryd.pinned (OpenSpec.ofChange busBitsWrong)

/-- 'neonwrightlaw08.BusReads': WHATEVER THE INPUT: true; the input reads as it did. -/
def busReadsSpec : ChangeSpec := { name := "busReads", fn := fun _ => fun
  | [d] => { results := [.lit (.bool true)], args := [d] }
  | _ => none }
def busReadsRow : OpenClaim := { program := "ytbanemecfobonaadoor", sum := "cf9d79a41b49d2c822c1fa8fb0987607fc5661069565f464de56f6a6efa0f0ea", func := "neonwright/neonwrightlaw08.BusReads", spec := "busReads", unfollowed := true, recurses := true, named := ["neonwright/bus.tail"], apart := false, laid := [("neonwright/bus.tail", laid_neonwright_bus_tail)] }
def BusReadsSaid : Prop := busReadsRow.holds Tryd.pinned (OpenSpec.ofChange busReadsSpec)

/-- ITS FALSE NEIGHBOUR: 'it returns false'. Refute it at one input. -/
def busReadsWrong : ChangeSpec := { name := "busReads", fn := fun _ => fun
  | [d] => { results := [.lit (.bool false)], args := [d] }
  | _ => none }
def BusReadsWrongFalsely : Prop := busReadsRow.holds Tryd.pinned (OpenSpec.ofChange busReadsWrong)

/-- 'neonwrightlaw08.BusWins': WHATEVER THE INPUT: true; the input reads as it did. -/
def busWinsSpec : ChangeSpec := { name := "busWins", fn := fun _ => fun
  | [d] => { results := [.lit (.bool true)], args := [d] }
  | _ => none }
def busWinsRow : OpenClaim := { program := "ytbanemecfobonaadoor", sum := "cf9d79a41b49d2c822c1fa8fb0987607fc5661069565f464de56f6a6efa0f0ea", func := "neonwright/neonwrightlaw08.BusWins", spec := "busWins", unfollowed := true, recurses := true, named := ["neonwright/bus.tail"], apart := false, laid := [("neonwright/bus.tail", laid_neonwright_bus_tail)] }
def BusWinsSaid : Prop := busWinsRow.holds Tryd.pinned (OpenSpec.ofChange busWinsSpec)

/-- ITS FALSE NEIGHBOUR: 'it returns false'. Refute it at one input. -/
def busWinsWrong : ChangeSpec := { name := "busWins", fn := fun _ => fun
  | [d] => { results := [.lit (.bool false)], args := [d] }
  | _ => none }
def BusWinsWrongFalsely : Prop := busWinsRow.holds Tryd.pinned (OpenSpec.ofChange busWinsWrong)

/-- 'neonwrightlaw08.BusArbitrates': WHATEVER THE INPUT: true; the input reads as it did. -/
def busArbitratesSpec : ChangeSpec := { name := "busArbitrates", fn := fun _ => fun
  | [d] => { results := [.lit (.bool true)], args := [d] }
  | _ => none }
def busArbitratesRow : OpenClaim := { program := "ytbanemecfobonaadoor", sum := "cf9d79a41b49d2c822c1fa8fb0987607fc5661069565f464de56f6a6efa0f0ea", func := "neonwright/neonwrightlaw08.BusArbitrates", spec := "busArbitrates", unfollowed := true, recurses := true, named := ["neonwright/bus.tail"], apart := false, laid := [("neonwright/bus.tail", laid_neonwright_bus_tail)] }
def BusArbitratesSaid : Prop := busArbitratesRow.holds Tryd.pinned (OpenSpec.ofChange busArbitratesSpec)

/-- ITS FALSE NEIGHBOUR: 'it returns false'. Refute it at one input. -/
def busArbitratesWrong : ChangeSpec := { name := "busArbitrates", fn := fun _ => fun
  | [d] => { results := [.lit (.bool false)], args := [d] }
  | _ => none }
def BusArbitratesWrongFalsely : Prop := busArbitratesRow.holds Tryd.pinned (OpenSpec.ofChange busArbitratesWrong)

/-- 'neonwrightlaw08.BusBack': WHATEVER THE INPUT: true; the input reads as it did. -/
def busBackSpec : ChangeSpec := { name := "busBack", fn := fun _ => fun
  | [d1, d2] => { results := [.lit (.bool true)], args := [d1, d2] }
  | _ => none }
def busBackRow : OpenClaim := { program := "ytbanemecfobonaadoor", sum := "cf9d79a41b49d2c822c1fa8fb0987607fc5661069565f464de56f6a6efa0f0ea", func := "neonwright/neonwrightlaw08.BusBack", spec := "busBack", unfollowed := true, recurses := true, named := ["neonwright/bus.tail"], apart := false, laid := [("neonwright/bus.tail", laid_neonwright_bus_tail)] }
def BusBackSaid : Prop := busBackRow.holds Tryd.pinned (OpenSpec.ofChange busBackSpec)

/-- ITS FALSE NEIGHBOUR: 'it returns false'. Refute it at one input. -/
def busBackWrong : ChangeSpec := { name := "busBack", fn := fun _ => fun
  | [d1, d2] => { results := [.lit (.bool false)], args := [d1, d2] }
  | _ => none }
def BusBackWrongFalsely : Prop := busBackRow.holds Tryd.pinned (OpenSpec.ofChange busBackWrong)

/-- 'neonwrightlaw08.BusChanged': WHATEVER THE INPUT: true; the input reads as it did. -/
def busChangedSpec : ChangeSpec := { name := "busChanged", fn := fun _ => fun
  | [d1, d2, d3] => { results := [.lit (.bool true)], args := [d1, d2, d3] }
  | _ => none }
def busChangedRow : OpenClaim := { program := "ytbanemecfobonaadoor", sum := "cf9d79a41b49d2c822c1fa8fb0987607fc5661069565f464de56f6a6efa0f0ea", func := "neonwright/neonwrightlaw08.BusChanged", spec := "busChanged", unfollowed := true, recurses := true, named := ["neonwright/bus.tail"], apart := false, laid := [("neonwright/bus.tail", laid_neonwright_bus_tail)] }
def BusChangedSaid : Prop := busChangedRow.holds Tryd.pinned (OpenSpec.ofChange busChangedSpec)

/-- ITS FALSE NEIGHBOUR: 'it returns false'. Refute it at one input. -/
def busChangedWrong : ChangeSpec := { name := "busChanged", fn := fun _ => fun
  | [d1, d2, d3] => { results := [.lit (.bool false)], args := [d1, d2, d3] }
  | _ => none }
def BusChangedWrongFalsely : Prop := busChangedRow.holds Tryd.pinned (OpenSpec.ofChange busChangedWrong)

/-- 'neonwrightlaw08.BusChecks': WHATEVER THE INPUT: true; the input reads as it did. -/
def busChecksSpec : ChangeSpec := { name := "busChecks", fn := fun _ => fun
  | [d1, d2] => { results := [.lit (.bool true)], args := [d1, d2] }
  | _ => none }
def busChecksRow : OpenClaim := { program := "ytbanemecfobonaadoor", sum := "cf9d79a41b49d2c822c1fa8fb0987607fc5661069565f464de56f6a6efa0f0ea", func := "neonwright/neonwrightlaw08.BusChecks", spec := "busChecks", unfollowed := true, recurses := true, named := ["neonwright/bus.tail"], apart := false, laid := [("neonwright/bus.tail", laid_neonwright_bus_tail)] }
def BusChecksSaid : Prop := busChecksRow.holds Tryd.pinned (OpenSpec.ofChange busChecksSpec)

/-- ITS FALSE NEIGHBOUR: 'it returns false'. Refute it at one input. -/
def busChecksWrong : ChangeSpec := { name := "busChecks", fn := fun _ => fun
  | [d1, d2] => { results := [.lit (.bool false)], args := [d1, d2] }
  | _ => none }
def BusChecksWrongFalsely : Prop := busChecksRow.holds Tryd.pinned (OpenSpec.ofChange busChecksWrong)

/-- 'neonwrightlaw08.BusDelays': WHATEVER THE INPUT: true; the input reads as it did. -/
def busDelaysSpec : ChangeSpec := { name := "busDelays", fn := fun _ => fun
  | [d1, d2] => { results := [.lit (.bool true)], args := [d1, d2] }
  | _ => none }
def busDelaysRow : OpenClaim := { program := "ytbanemecfobonaadoor", sum := "cf9d79a41b49d2c822c1fa8fb0987607fc5661069565f464de56f6a6efa0f0ea", func := "neonwright/neonwrightlaw08.BusDelays", spec := "busDelays", unfollowed := true, recurses := true, named := ["neonwright/bus.tail"], apart := false, laid := [("neonwright/bus.tail", laid_neonwright_bus_tail)] }
def BusDelaysSaid : Prop := busDelaysRow.holds Tryd.pinned (OpenSpec.ofChange busDelaysSpec)

/-- ITS FALSE NEIGHBOUR: 'it returns false'. Refute it at one input. -/
def busDelaysWrong : ChangeSpec := { name := "busDelays", fn := fun _ => fun
  | [d1, d2] => { results := [.lit (.bool false)], args := [d1, d2] }
  | _ => none }
def BusDelaysWrongFalsely : Prop := busDelaysRow.holds Tryd.pinned (OpenSpec.ofChange busDelaysWrong)

/-- 'neonwrightlaw08.BusMore': WHATEVER THE INPUT: true; the input reads as it did. -/
def busMoreSpec : ChangeSpec := { name := "busMore", fn := fun _ => fun
  | [d1, d2, d3, d4, d5] => { results := [.lit (.bool true)], args := [d1, d2, d3, d4, d5] }
  | _ => none }
def busMoreRow : OpenClaim := { program := "ytbanemecfobonaadoor", sum := "cf9d79a41b49d2c822c1fa8fb0987607fc5661069565f464de56f6a6efa0f0ea", func := "neonwright/neonwrightlaw08.BusMore", spec := "busMore", unfollowed := true, recurses := true, named := ["neonwright/bus.tail"], apart := false, laid := [("neonwright/bus.tail", laid_neonwright_bus_tail)] }
def BusMoreSaid : Prop := busMoreRow.holds Tryd.pinned (OpenSpec.ofChange busMoreSpec)

/-- ITS FALSE NEIGHBOUR: 'it returns false'. Refute it at one input. -/
def busMoreWrong : ChangeSpec := { name := "busMore", fn := fun _ => fun
  | [d1, d2, d3, d4, d5] => { results := [.lit (.bool false)], args := [d1, d2, d3, d4, d5] }
  | _ => none }
def BusMoreWrongFalsely : Prop := busMoreRow.holds Tryd.pinned (OpenSpec.ofChange busMoreWrong)

/-- 'neonwrightlaw08.BusOrders': WHATEVER THE INPUT: true; the input reads as it did. -/
def busOrdersSpec : ChangeSpec := { name := "busOrders", fn := fun _ => fun
  | [d1, d2] => { results := [.lit (.bool true)], args := [d1, d2] }
  | _ => none }
def busOrdersRow : OpenClaim := { program := "ytbanemecfobonaadoor", sum := "cf9d79a41b49d2c822c1fa8fb0987607fc5661069565f464de56f6a6efa0f0ea", func := "neonwright/neonwrightlaw08.BusOrders", spec := "busOrders", unfollowed := true, recurses := true, named := ["neonwright/bus.tail"], apart := false, laid := [("neonwright/bus.tail", laid_neonwright_bus_tail)] }
def BusOrdersSaid : Prop := busOrdersRow.holds Tryd.pinned (OpenSpec.ofChange busOrdersSpec)

/-- ITS FALSE NEIGHBOUR: 'it returns false'. Refute it at one input. -/
def busOrdersWrong : ChangeSpec := { name := "busOrders", fn := fun _ => fun
  | [d1, d2] => { results := [.lit (.bool false)], args := [d1, d2] }
  | _ => none }
def BusOrdersWrongFalsely : Prop := busOrdersRow.holds Tryd.pinned (OpenSpec.ofChange busOrdersWrong)

/-- 'neonwrightlaw08.BusAudsley': WHATEVER THE INPUT: true; the input reads as it did. -/
def busAudsleySpec : ChangeSpec := { name := "busAudsley", fn := fun _ => fun
  | [d1, d2, d3, d4] => { results := [.lit (.bool true)], args := [d1, d2, d3, d4] }
  | _ => none }
def busAudsleyRow : OpenClaim := { program := "ytbanemecfobonaadoor", sum := "cf9d79a41b49d2c822c1fa8fb0987607fc5661069565f464de56f6a6efa0f0ea", func := "neonwright/neonwrightlaw08.BusAudsley", spec := "busAudsley", unfollowed := true, recurses := true, named := ["neonwright/bus.tail"], apart := false, laid := [("neonwright/bus.tail", laid_neonwright_bus_tail)] }
def BusAudsleySaid : Prop := busAudsleyRow.holds Tryd.pinned (OpenSpec.ofChange busAudsleySpec)

/-- ITS FALSE NEIGHBOUR: 'it returns false'. Refute it at one input. -/
def busAudsleyWrong : ChangeSpec := { name := "busAudsley", fn := fun _ => fun
  | [d1, d2, d3, d4] => { results := [.lit (.bool false)], args := [d1, d2, d3, d4] }
  | _ => none }
def BusAudsleyWrongFalsely : Prop := busAudsleyRow.holds Tryd.pinned (OpenSpec.ofChange busAudsleyWrong)

/-- 'neonwrightlaw08.BusSends': WHATEVER THE INPUT: true; the input reads as it did. -/
def busSendsSpec : ChangeSpec := { name := "busSends", fn := fun _ => fun
  | [d1, d2, d3] => { results := [.lit (.bool true)], args := [d1, d2, d3] }
  | _ => none }
def busSendsRow : OpenClaim := { program := "ytbanemecfobonaadoor", sum := "cf9d79a41b49d2c822c1fa8fb0987607fc5661069565f464de56f6a6efa0f0ea", func := "neonwright/neonwrightlaw08.BusSends", spec := "busSends", unfollowed := true, recurses := true, named := ["neonwright/bus.tail"], apart := false, laid := [("neonwright/bus.tail", laid_neonwright_bus_tail)] }
def BusSendsSaid : Prop := busSendsRow.holds Tryd.pinned (OpenSpec.ofChange busSendsSpec)

/-- ITS FALSE NEIGHBOUR: 'it returns false'. Refute it at one input. -/
def busSendsWrong : ChangeSpec := { name := "busSends", fn := fun _ => fun
  | [d1, d2, d3] => { results := [.lit (.bool false)], args := [d1, d2, d3] }
  | _ => none }
def BusSendsWrongFalsely : Prop := busSendsRow.holds Tryd.pinned (OpenSpec.ofChange busSendsWrong)

/-- 'neonwrightlaw08.BusNever': WHATEVER THE INPUT: true; the input reads as it did. -/
def busNeverSpec : ChangeSpec := { name := "busNever", fn := fun _ => fun
  | [d1, d2, d3] => { results := [.lit (.bool true)], args := [d1, d2, d3] }
  | _ => none }
def busNeverRow : OpenClaim := { program := "ytbanemecfobonaadoor", sum := "cf9d79a41b49d2c822c1fa8fb0987607fc5661069565f464de56f6a6efa0f0ea", func := "neonwright/neonwrightlaw08.BusNever", spec := "busNever", unfollowed := true, recurses := true, named := ["neonwright/bus.tail"], apart := false, laid := [("neonwright/bus.tail", laid_neonwright_bus_tail)] }
def BusNeverSaid : Prop := busNeverRow.holds Tryd.pinned (OpenSpec.ofChange busNeverSpec)

/-- ITS FALSE NEIGHBOUR: 'it returns false'. Refute it at one input. -/
def busNeverWrong : ChangeSpec := { name := "busNever", fn := fun _ => fun
  | [d1, d2, d3] => { results := [.lit (.bool false)], args := [d1, d2, d3] }
  | _ => none }
def BusNeverWrongFalsely : Prop := busNeverRow.holds Tryd.pinned (OpenSpec.ofChange busNeverWrong)

/- THE SECOND FORM. 'bulk': how many values and letters a reading holds, each counted each time it is reached (what is shared counts as often as it is met; a slice's spare places count too). A statement '..UptoSaid' is the law's where the arguments, and the package variables that the reading takes, are together of bulk at most 1048576: NARROWER than '..Said'. Prove '..Said' where nothing that the law and all that it calls make is longer than what came in: it says more and counts as full. Else prove '..UptoSaid'. A law counts once. -/
mutual
def uptoBulk {H : Type} : DataW H → Nat
  | .lit (.string bytes) => bytes.length + 1
  | .lit _ => 1
  | .nil => 1
  | .ptr d => uptoBulk d + 1
  | .slice elems spare => uptoBulkAll elems + uptoBulkAll spare + 1
  | .agg parts => uptoBulkAll parts + 1
  | .iface _ d => uptoBulk d + 1
  | .map entries => uptoBulkEntries entries + 1
  | .held _ => 1
def uptoBulkAll {H : Type} : List (DataW H) → Nat
  | [] => 0
  | d :: r => uptoBulk d + uptoBulkAll r
def uptoBulkEntries {H : Type} : List (Lit × DataW H) → Nat
  | [] => 0
  | x :: r => uptoBulkEntry x + uptoBulkEntries r
def uptoBulkEntry {H : Type} : Lit × DataW H → Nat
  | (.string bytes, d) => bytes.length + uptoBulk d + 1
  | (_, d) => uptoBulk d + 1
 end
def uptoSmall : (H : Type) → List (DataW H) → Bool := fun _ ds => decide (uptoBulkAll ds ≤ 1048576)
def OpenSpec.upto (s : _root_.Go.ChangeSpec) : _root_.Go.OpenSpec := { _root_.Go.OpenSpec.ofChange s with cond := some uptoSmall }

/-- 'neonwrightlaw08.BusBits', WHERE WHAT IT READS IS OF BULK AT MOST 1048576: true; the input reads as it did. -/
def busBitsUptoRow : OpenClaim := { program := "ytbanemecfobonaadoor", sum := "cf9d79a41b49d2c822c1fa8fb0987607fc5661069565f464de56f6a6efa0f0ea", func := "neonwright/neonwrightlaw08.BusBits", spec := "busBits", unfollowed := true, recurses := true, named := ["neonwright/bus.tail"], apart := false, laid := [("neonwright/bus.tail", laid_neonwright_bus_tail)], narrowed := true }
def BusBitsUptoSaid : Prop := busBitsUptoRow.holds Tryd.pinned (OpenSpec.upto busBitsSpec)

/-- 'neonwrightlaw08.BusReads', WHERE WHAT IT READS IS OF BULK AT MOST 1048576: true; the input reads as it did. -/
def busReadsUptoRow : OpenClaim := { program := "ytbanemecfobonaadoor", sum := "cf9d79a41b49d2c822c1fa8fb0987607fc5661069565f464de56f6a6efa0f0ea", func := "neonwright/neonwrightlaw08.BusReads", spec := "busReads", unfollowed := true, recurses := true, named := ["neonwright/bus.tail"], apart := false, laid := [("neonwright/bus.tail", laid_neonwright_bus_tail)], narrowed := true }
def BusReadsUptoSaid : Prop := busReadsUptoRow.holds Tryd.pinned (OpenSpec.upto busReadsSpec)

/-- 'neonwrightlaw08.BusWins', WHERE WHAT IT READS IS OF BULK AT MOST 1048576: true; the input reads as it did. -/
def busWinsUptoRow : OpenClaim := { program := "ytbanemecfobonaadoor", sum := "cf9d79a41b49d2c822c1fa8fb0987607fc5661069565f464de56f6a6efa0f0ea", func := "neonwright/neonwrightlaw08.BusWins", spec := "busWins", unfollowed := true, recurses := true, named := ["neonwright/bus.tail"], apart := false, laid := [("neonwright/bus.tail", laid_neonwright_bus_tail)], narrowed := true }
def BusWinsUptoSaid : Prop := busWinsUptoRow.holds Tryd.pinned (OpenSpec.upto busWinsSpec)

/-- 'neonwrightlaw08.BusArbitrates', WHERE WHAT IT READS IS OF BULK AT MOST 1048576: true; the input reads as it did. -/
def busArbitratesUptoRow : OpenClaim := { program := "ytbanemecfobonaadoor", sum := "cf9d79a41b49d2c822c1fa8fb0987607fc5661069565f464de56f6a6efa0f0ea", func := "neonwright/neonwrightlaw08.BusArbitrates", spec := "busArbitrates", unfollowed := true, recurses := true, named := ["neonwright/bus.tail"], apart := false, laid := [("neonwright/bus.tail", laid_neonwright_bus_tail)], narrowed := true }
def BusArbitratesUptoSaid : Prop := busArbitratesUptoRow.holds Tryd.pinned (OpenSpec.upto busArbitratesSpec)

/-- 'neonwrightlaw08.BusBack', WHERE WHAT IT READS IS OF BULK AT MOST 1048576: true; the input reads as it did. -/
def busBackUptoRow : OpenClaim := { program := "ytbanemecfobonaadoor", sum := "cf9d79a41b49d2c822c1fa8fb0987607fc5661069565f464de56f6a6efa0f0ea", func := "neonwright/neonwrightlaw08.BusBack", spec := "busBack", unfollowed := true, recurses := true, named := ["neonwright/bus.tail"], apart := false, laid := [("neonwright/bus.tail", laid_neonwright_bus_tail)], narrowed := true }
def BusBackUptoSaid : Prop := busBackUptoRow.holds Tryd.pinned (OpenSpec.upto busBackSpec)

/-- 'neonwrightlaw08.BusChanged', WHERE WHAT IT READS IS OF BULK AT MOST 1048576: true; the input reads as it did. -/
def busChangedUptoRow : OpenClaim := { program := "ytbanemecfobonaadoor", sum := "cf9d79a41b49d2c822c1fa8fb0987607fc5661069565f464de56f6a6efa0f0ea", func := "neonwright/neonwrightlaw08.BusChanged", spec := "busChanged", unfollowed := true, recurses := true, named := ["neonwright/bus.tail"], apart := false, laid := [("neonwright/bus.tail", laid_neonwright_bus_tail)], narrowed := true }
def BusChangedUptoSaid : Prop := busChangedUptoRow.holds Tryd.pinned (OpenSpec.upto busChangedSpec)

/-- 'neonwrightlaw08.BusChecks', WHERE WHAT IT READS IS OF BULK AT MOST 1048576: true; the input reads as it did. -/
def busChecksUptoRow : OpenClaim := { program := "ytbanemecfobonaadoor", sum := "cf9d79a41b49d2c822c1fa8fb0987607fc5661069565f464de56f6a6efa0f0ea", func := "neonwright/neonwrightlaw08.BusChecks", spec := "busChecks", unfollowed := true, recurses := true, named := ["neonwright/bus.tail"], apart := false, laid := [("neonwright/bus.tail", laid_neonwright_bus_tail)], narrowed := true }
def BusChecksUptoSaid : Prop := busChecksUptoRow.holds Tryd.pinned (OpenSpec.upto busChecksSpec)

/-- 'neonwrightlaw08.BusDelays', WHERE WHAT IT READS IS OF BULK AT MOST 1048576: true; the input reads as it did. -/
def busDelaysUptoRow : OpenClaim := { program := "ytbanemecfobonaadoor", sum := "cf9d79a41b49d2c822c1fa8fb0987607fc5661069565f464de56f6a6efa0f0ea", func := "neonwright/neonwrightlaw08.BusDelays", spec := "busDelays", unfollowed := true, recurses := true, named := ["neonwright/bus.tail"], apart := false, laid := [("neonwright/bus.tail", laid_neonwright_bus_tail)], narrowed := true }
def BusDelaysUptoSaid : Prop := busDelaysUptoRow.holds Tryd.pinned (OpenSpec.upto busDelaysSpec)

/-- 'neonwrightlaw08.BusMore', WHERE WHAT IT READS IS OF BULK AT MOST 1048576: true; the input reads as it did. -/
def busMoreUptoRow : OpenClaim := { program := "ytbanemecfobonaadoor", sum := "cf9d79a41b49d2c822c1fa8fb0987607fc5661069565f464de56f6a6efa0f0ea", func := "neonwright/neonwrightlaw08.BusMore", spec := "busMore", unfollowed := true, recurses := true, named := ["neonwright/bus.tail"], apart := false, laid := [("neonwright/bus.tail", laid_neonwright_bus_tail)], narrowed := true }
def BusMoreUptoSaid : Prop := busMoreUptoRow.holds Tryd.pinned (OpenSpec.upto busMoreSpec)

/-- 'neonwrightlaw08.BusOrders', WHERE WHAT IT READS IS OF BULK AT MOST 1048576: true; the input reads as it did. -/
def busOrdersUptoRow : OpenClaim := { program := "ytbanemecfobonaadoor", sum := "cf9d79a41b49d2c822c1fa8fb0987607fc5661069565f464de56f6a6efa0f0ea", func := "neonwright/neonwrightlaw08.BusOrders", spec := "busOrders", unfollowed := true, recurses := true, named := ["neonwright/bus.tail"], apart := false, laid := [("neonwright/bus.tail", laid_neonwright_bus_tail)], narrowed := true }
def BusOrdersUptoSaid : Prop := busOrdersUptoRow.holds Tryd.pinned (OpenSpec.upto busOrdersSpec)

/-- 'neonwrightlaw08.BusAudsley', WHERE WHAT IT READS IS OF BULK AT MOST 1048576: true; the input reads as it did. -/
def busAudsleyUptoRow : OpenClaim := { program := "ytbanemecfobonaadoor", sum := "cf9d79a41b49d2c822c1fa8fb0987607fc5661069565f464de56f6a6efa0f0ea", func := "neonwright/neonwrightlaw08.BusAudsley", spec := "busAudsley", unfollowed := true, recurses := true, named := ["neonwright/bus.tail"], apart := false, laid := [("neonwright/bus.tail", laid_neonwright_bus_tail)], narrowed := true }
def BusAudsleyUptoSaid : Prop := busAudsleyUptoRow.holds Tryd.pinned (OpenSpec.upto busAudsleySpec)

/-- 'neonwrightlaw08.BusSends', WHERE WHAT IT READS IS OF BULK AT MOST 1048576: true; the input reads as it did. -/
def busSendsUptoRow : OpenClaim := { program := "ytbanemecfobonaadoor", sum := "cf9d79a41b49d2c822c1fa8fb0987607fc5661069565f464de56f6a6efa0f0ea", func := "neonwright/neonwrightlaw08.BusSends", spec := "busSends", unfollowed := true, recurses := true, named := ["neonwright/bus.tail"], apart := false, laid := [("neonwright/bus.tail", laid_neonwright_bus_tail)], narrowed := true }
def BusSendsUptoSaid : Prop := busSendsUptoRow.holds Tryd.pinned (OpenSpec.upto busSendsSpec)

/-- 'neonwrightlaw08.BusNever', WHERE WHAT IT READS IS OF BULK AT MOST 1048576: true; the input reads as it did. -/
def busNeverUptoRow : OpenClaim := { program := "ytbanemecfobonaadoor", sum := "cf9d79a41b49d2c822c1fa8fb0987607fc5661069565f464de56f6a6efa0f0ea", func := "neonwright/neonwrightlaw08.BusNever", spec := "busNever", unfollowed := true, recurses := true, named := ["neonwright/bus.tail"], apart := false, laid := [("neonwright/bus.tail", laid_neonwright_bus_tail)], narrowed := true }
def BusNeverUptoSaid : Prop := busNeverUptoRow.holds Tryd.pinned (OpenSpec.upto busNeverSpec)

end Rows
end Go.Proofs.YtbanemecfobonaaDoor
