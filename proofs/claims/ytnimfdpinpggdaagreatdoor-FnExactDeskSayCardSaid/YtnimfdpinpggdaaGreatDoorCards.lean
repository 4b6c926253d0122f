/-
  DERIVED. GIVEN WITH THE SEED: THE CARDS: each row of YtnimfdpinpggdaaGreatDoorRows.lean that lists a variable, with what it lists TIED to the program's text (the seventh form; the later family's looks); each row that meets fmt, with fmt's text TOLD by the authors' own Lean function (tested against real Go, not proved from fmt's source: count such statements apart). THE CARD IS WHAT COUNTS. Prove the row's statement (the work); the ties are given (YtnimfdpinpggdaaGreatDoorTie.lean); close each card by the builder's one call (the guide's Derived/Test/ToyasCard.lean, 'card_holds'). Laid BY PROGRAM, IN A SANDBOX (cutbox-door.mjs). By AI agents, Wed Nov 11 2026. No macro, syntax, notation, axiom, sorry.
-/
import Derived.Test.YtnimfdpinpggdaaGreatDoorRows
import GoSem.ClaimSeven
namespace Go.Proofs.YtnimfdpinpggdaaGreatDoor
namespace Rows

/-- THE TIED CARD OF 'laws.FnExactDeskLine'. -/
def fnExactDeskLineCard : Claim7 := { stood := { row := fnExactDeskLineRow, standIns := [], harness := (true, "9a3c2929d60c12d03a8e18b45fcd8496a62a433a58d33a04905e23aaa11270c6"), looks := true }, kinds := [], alts := [], laidByText := true, laidKinds := [.data, .data, .data, .sentinel, .sentinel], laidTests := true, laidLooks := .later }
def FnExactDeskLineCardSaid : Prop := Claim7.holds Tryz.pinned (.plain (OpenSpec.ofChange fnExactDeskLineSpec)) fnExactDeskLineCard

/-- THE TIED CARD OF 'laws.FnExactDeskSay'. -/
def fnExactDeskSayCard : Claim7 := { stood := { row := fnExactDeskSayRow, standIns := [], harness := (true, "9a3c2929d60c12d03a8e18b45fcd8496a62a433a58d33a04905e23aaa11270c6"), looks := true }, kinds := [], alts := [], laidByText := true, laidKinds := [.data, .data, .data, .sentinel, .sentinel], laidTests := true, laidLooks := .later }
def FnExactDeskSayCardSaid : Prop := Claim7.holds Tryz.pinned (.plain (OpenSpec.ofChange fnExactDeskSaySpec)) fnExactDeskSayCard

/-- THE SECOND FORM's CARD OF 'laws.FnExactDeskLine'. -/
def fnExactDeskLineUptoCard : Claim7 := { stood := { row := fnExactDeskLineUptoRow, standIns := [], harness := (true, "9a3c2929d60c12d03a8e18b45fcd8496a62a433a58d33a04905e23aaa11270c6"), looks := true }, kinds := [], alts := [], laidByText := true, laidKinds := [.data, .data, .data, .sentinel, .sentinel], laidTests := true, laidLooks := .later }
def FnExactDeskLineUptoCardSaid : Prop := Claim7.holds Tryz.pinned (.plain (OpenSpec.upto fnExactDeskLineSpec)) fnExactDeskLineUptoCard

/-- THE SECOND FORM's CARD OF 'laws.FnExactDeskSay'. -/
def fnExactDeskSayUptoCard : Claim7 := { stood := { row := fnExactDeskSayUptoRow, standIns := [], harness := (true, "9a3c2929d60c12d03a8e18b45fcd8496a62a433a58d33a04905e23aaa11270c6"), looks := true }, kinds := [], alts := [], laidByText := true, laidKinds := [.data, .data, .data, .sentinel, .sentinel], laidTests := true, laidLooks := .later }
def FnExactDeskSayUptoCardSaid : Prop := Claim7.holds Tryz.pinned (.plain (OpenSpec.upto fnExactDeskSaySpec)) fnExactDeskSayUptoCard
end Rows
end Go.Proofs.YtnimfdpinpggdaaGreatDoor
