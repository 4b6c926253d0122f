/-
  DERIVED. GIVEN WITH THE SEED: THE CARDS: each row of YtnimfdpinpggdabGreatDoorRows.lean that lists a variable, with what it lists TIED to the program's text (the seventh form; the later family's looks); each row that meets fmt, with fmt's text TOLD by the authors' own Lean function (tested against real Go, not proved from fmt's source: count such statements apart). THE CARD IS WHAT COUNTS. Prove the row's statement (the work); the ties are given (YtnimfdpinpggdabGreatDoorTie.lean); close each card by the builder's one call (the guide's Derived/Test/ToyasCard.lean, 'card_holds'). Laid BY PROGRAM, IN A SANDBOX (cutbox-door.mjs). By AI agents, Wed Nov 11 2026. No macro, syntax, notation, axiom, sorry.
-/
import Derived.Test.YtnimfdpinpggdabGreatDoorRows
import GoSem.ClaimSeven
namespace Go.Proofs.YtnimfdpinpggdabGreatDoor
namespace Rows

/-- THE TIED CARD OF 'laws.FnDeskLine'. -/
def fnDeskLineCard : Claim7 := { stood := { row := fnDeskLineRow, standIns := [], harness := (true, "aad06b1229ffa933cf94380fe42312d841d5ca68ad6e6a8bd7923a659e37bab5"), looks := true }, kinds := [], alts := [], laidByText := true, laidKinds := [.data, .data, .data, .sentinel, .sentinel], laidTests := true, laidLooks := .later }
def FnDeskLineCardSaid : Prop := Claim7.holds Tryz.pinned (.plain (OpenSpec.ofChange fnDeskLineSpec)) fnDeskLineCard

/-- THE TIED CARD OF 'laws.FnDeskSay'. -/
def fnDeskSayCard : Claim7 := { stood := { row := fnDeskSayRow, standIns := [], harness := (true, "aad06b1229ffa933cf94380fe42312d841d5ca68ad6e6a8bd7923a659e37bab5"), looks := true }, kinds := [], alts := [], laidByText := true, laidKinds := [.data, .data, .data, .data, .sentinel, .sentinel, .pinned], laidTests := true, laidLooks := .later }
def FnDeskSayCardSaid : Prop := Claim7.holds Tryz.pinned (.plain (OpenSpec.ofChange fnDeskSaySpec)) fnDeskSayCard

/-- THE SECOND FORM's CARD OF 'laws.FnDeskLine'. -/
def fnDeskLineUptoCard : Claim7 := { stood := { row := fnDeskLineUptoRow, standIns := [], harness := (true, "aad06b1229ffa933cf94380fe42312d841d5ca68ad6e6a8bd7923a659e37bab5"), looks := true }, kinds := [], alts := [], laidByText := true, laidKinds := [.data, .data, .data, .sentinel, .sentinel], laidTests := true, laidLooks := .later }
def FnDeskLineUptoCardSaid : Prop := Claim7.holds Tryz.pinned (.plain (OpenSpec.upto fnDeskLineSpec)) fnDeskLineUptoCard

/-- THE SECOND FORM's CARD OF 'laws.FnDeskSay'. -/
def fnDeskSayUptoCard : Claim7 := { stood := { row := fnDeskSayUptoRow, standIns := [], harness := (true, "aad06b1229ffa933cf94380fe42312d841d5ca68ad6e6a8bd7923a659e37bab5"), looks := true }, kinds := [], alts := [], laidByText := true, laidKinds := [.data, .data, .data, .data, .sentinel, .sentinel, .pinned], laidTests := true, laidLooks := .later }
def FnDeskSayUptoCardSaid : Prop := Claim7.holds Tryz.pinned (.plain (OpenSpec.upto fnDeskSaySpec)) fnDeskSayUptoCard
end Rows
end Go.Proofs.YtnimfdpinpggdabGreatDoor
