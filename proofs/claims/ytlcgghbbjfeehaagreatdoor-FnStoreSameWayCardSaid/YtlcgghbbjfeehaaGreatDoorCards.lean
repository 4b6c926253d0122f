/-
  DERIVED. GIVEN WITH THE SEED: THE CARDS: each row of YtlcgghbbjfeehaaGreatDoorRows.lean that lists a variable, with what it lists TIED to the program's text (the seventh form; the later family's looks); each row that meets fmt, with fmt's text TOLD by the authors' own Lean function (tested against real Go, not proved from fmt's source: count such statements apart). THE CARD IS WHAT COUNTS. Prove the row's statement (the work); the ties are given (YtlcgghbbjfeehaaGreatDoorTie.lean); close each card by the builder's one call (the guide's Derived/Test/ToyasCard.lean, 'card_holds'). Laid BY PROGRAM, IN A SANDBOX (cutbox-door.mjs). By AI agents, Wed Nov 11 2026. No macro, syntax, notation, axiom, sorry.
-/
import Derived.Test.YtlcgghbbjfeehaaGreatDoorRows
import GoSem.ClaimSeven
namespace Go.Proofs.YtlcgghbbjfeehaaGreatDoor
namespace Rows

/-- THE TIED CARD OF 'laws.FnExactStoreSave'. -/
def fnExactStoreSaveCard : Claim7 := { stood := { row := fnExactStoreSaveRow, standIns := [], harness := (true, "6e8dd9deb8934a72b4d92f1b0ab6c9673d0c0d7c0796f47db823c791a26dc137"), looks := true }, kinds := [], alts := [], laidByText := true, laidKinds := [.data, .data, .data, .data, .sentinel, .sentinel, .pinned], laidTests := true, laidLooks := .later }
def FnExactStoreSaveCardSaid : Prop := Claim7.holds Tryz.pinned (.plain (OpenSpec.ofChange fnExactStoreSaveSpec)) fnExactStoreSaveCard

/-- THE TIED CARD OF 'laws.FnStoreSave'. -/
def fnStoreSaveCard : Claim7 := { stood := { row := fnStoreSaveRow, standIns := [], harness := (true, "6e8dd9deb8934a72b4d92f1b0ab6c9673d0c0d7c0796f47db823c791a26dc137"), looks := true }, kinds := [], alts := [], laidByText := true, laidKinds := [.data, .data, .data, .data, .sentinel, .sentinel, .pinned], laidTests := true, laidLooks := .later }
def FnStoreSaveCardSaid : Prop := Claim7.holds Tryz.pinned (.plain (OpenSpec.ofChange fnStoreSaveSpec)) fnStoreSaveCard

/-- THE TIED CARD OF 'laws.FnStoreEnd'. -/
def fnStoreEndCard : Claim7 := { stood := { row := fnStoreEndRow, standIns := [], harness := (true, "6e8dd9deb8934a72b4d92f1b0ab6c9673d0c0d7c0796f47db823c791a26dc137"), looks := true }, kinds := [], alts := [], laidByText := true, laidKinds := [.data, .data, .data, .data, .sentinel, .sentinel, .pinned], laidTests := true, laidLooks := .later }
def FnStoreEndCardSaid : Prop := Claim7.holds Tryz.pinned (.plain (OpenSpec.ofChange fnStoreEndSpec)) fnStoreEndCard

/-- THE TIED CARD OF 'laws.FnStoreNever'. -/
def fnStoreNeverCard : Claim7 := { stood := { row := fnStoreNeverRow, standIns := [], harness := (true, "6e8dd9deb8934a72b4d92f1b0ab6c9673d0c0d7c0796f47db823c791a26dc137"), looks := true }, kinds := [], alts := [], laidByText := true, laidKinds := [.data, .data, .data, .data, .sentinel, .sentinel, .pinned], laidTests := true, laidLooks := .later }
def FnStoreNeverCardSaid : Prop := Claim7.holds Tryz.pinned (.plain (OpenSpec.ofChange fnStoreNeverSpec)) fnStoreNeverCard

/-- THE TIED CARD OF 'laws.FnStoreSameWay'. -/
def fnStoreSameWayCard : Claim7 := { stood := { row := fnStoreSameWayRow, standIns := [], harness := (true, "6e8dd9deb8934a72b4d92f1b0ab6c9673d0c0d7c0796f47db823c791a26dc137"), looks := true }, kinds := [], alts := [], laidByText := true, laidKinds := [.data, .data, .data, .data, .sentinel, .sentinel, .pinned], laidTests := true, laidLooks := .later }
def FnStoreSameWayCardSaid : Prop := Claim7.holds Tryz.pinned (.plain (OpenSpec.ofChange fnStoreSameWaySpec)) fnStoreSameWayCard

/-- THE TIED CARD OF 'laws.FnDeskRun'. -/
def fnDeskRunCard : Claim7 := { stood := { row := fnDeskRunRow, standIns := [], harness := (true, "6e8dd9deb8934a72b4d92f1b0ab6c9673d0c0d7c0796f47db823c791a26dc137"), looks := true }, kinds := [], alts := [], laidByText := true, laidKinds := [.data, .data, .data], laidTests := true, laidLooks := .later }
def FnDeskRunCardSaid : Prop := Claim7.holds Tryz.pinned (.plain (OpenSpec.ofChange fnDeskRunSpec)) fnDeskRunCard

/-- THE SECOND FORM's CARD OF 'laws.FnExactStoreSave'. -/
def fnExactStoreSaveUptoCard : Claim7 := { stood := { row := fnExactStoreSaveUptoRow, standIns := [], harness := (true, "6e8dd9deb8934a72b4d92f1b0ab6c9673d0c0d7c0796f47db823c791a26dc137"), looks := true }, kinds := [], alts := [], laidByText := true, laidKinds := [.data, .data, .data, .data, .sentinel, .sentinel, .pinned], laidTests := true, laidLooks := .later }
def FnExactStoreSaveUptoCardSaid : Prop := Claim7.holds Tryz.pinned (.plain (OpenSpec.upto fnExactStoreSaveSpec)) fnExactStoreSaveUptoCard

/-- THE SECOND FORM's CARD OF 'laws.FnStoreSave'. -/
def fnStoreSaveUptoCard : Claim7 := { stood := { row := fnStoreSaveUptoRow, standIns := [], harness := (true, "6e8dd9deb8934a72b4d92f1b0ab6c9673d0c0d7c0796f47db823c791a26dc137"), looks := true }, kinds := [], alts := [], laidByText := true, laidKinds := [.data, .data, .data, .data, .sentinel, .sentinel, .pinned], laidTests := true, laidLooks := .later }
def FnStoreSaveUptoCardSaid : Prop := Claim7.holds Tryz.pinned (.plain (OpenSpec.upto fnStoreSaveSpec)) fnStoreSaveUptoCard

/-- THE SECOND FORM's CARD OF 'laws.FnStoreEnd'. -/
def fnStoreEndUptoCard : Claim7 := { stood := { row := fnStoreEndUptoRow, standIns := [], harness := (true, "6e8dd9deb8934a72b4d92f1b0ab6c9673d0c0d7c0796f47db823c791a26dc137"), looks := true }, kinds := [], alts := [], laidByText := true, laidKinds := [.data, .data, .data, .data, .sentinel, .sentinel, .pinned], laidTests := true, laidLooks := .later }
def FnStoreEndUptoCardSaid : Prop := Claim7.holds Tryz.pinned (.plain (OpenSpec.upto fnStoreEndSpec)) fnStoreEndUptoCard

/-- THE SECOND FORM's CARD OF 'laws.FnStoreNever'. -/
def fnStoreNeverUptoCard : Claim7 := { stood := { row := fnStoreNeverUptoRow, standIns := [], harness := (true, "6e8dd9deb8934a72b4d92f1b0ab6c9673d0c0d7c0796f47db823c791a26dc137"), looks := true }, kinds := [], alts := [], laidByText := true, laidKinds := [.data, .data, .data, .data, .sentinel, .sentinel, .pinned], laidTests := true, laidLooks := .later }
def FnStoreNeverUptoCardSaid : Prop := Claim7.holds Tryz.pinned (.plain (OpenSpec.upto fnStoreNeverSpec)) fnStoreNeverUptoCard

/-- THE SECOND FORM's CARD OF 'laws.FnStoreSameWay'. -/
def fnStoreSameWayUptoCard : Claim7 := { stood := { row := fnStoreSameWayUptoRow, standIns := [], harness := (true, "6e8dd9deb8934a72b4d92f1b0ab6c9673d0c0d7c0796f47db823c791a26dc137"), looks := true }, kinds := [], alts := [], laidByText := true, laidKinds := [.data, .data, .data, .data, .sentinel, .sentinel, .pinned], laidTests := true, laidLooks := .later }
def FnStoreSameWayUptoCardSaid : Prop := Claim7.holds Tryz.pinned (.plain (OpenSpec.upto fnStoreSameWaySpec)) fnStoreSameWayUptoCard

/-- THE SECOND FORM's CARD OF 'laws.FnDeskRun'. -/
def fnDeskRunUptoCard : Claim7 := { stood := { row := fnDeskRunUptoRow, standIns := [], harness := (true, "6e8dd9deb8934a72b4d92f1b0ab6c9673d0c0d7c0796f47db823c791a26dc137"), looks := true }, kinds := [], alts := [], laidByText := true, laidKinds := [.data, .data, .data], laidTests := true, laidLooks := .later }
def FnDeskRunUptoCardSaid : Prop := Claim7.holds Tryz.pinned (.plain (OpenSpec.upto fnDeskRunSpec)) fnDeskRunUptoCard
end Rows
end Go.Proofs.YtlcgghbbjfeehaaGreatDoor
