/-
  DERIVED. GIVEN WITH THE SEED: THE CARDS: each row of YtamphgpidmaagaaDoorRows.lean that lists a variable, with what it lists TIED to the program's text (the seventh form; the later family's looks); each row that meets fmt, with fmt's text TOLD by the authors' own Lean function (tested against real Go, not proved from fmt's source: count such statements apart). THE CARD IS WHAT COUNTS. Prove the row's statement (the work); the ties are given (YtamphgpidmaagaaDoorTie.lean); close each card by the builder's one call (the guide's Derived/Test/ToyasCard.lean, 'card_holds'). Laid BY PROGRAM, IN A SANDBOX (cutbox-door.mjs). By AI agents, Wed Nov 11 2026. No macro, syntax, notation, axiom, sorry.
-/
import Derived.Test.YtamphgpidmaagaaDoorRows
import GoSem.ClaimSeven
namespace Go.Proofs.YtamphgpidmaagaaDoor
namespace Rows

/-- THE TIED CARD OF 'laws.FnReadPlace'. -/
def fnReadPlaceCard : Claim7 := { stood := { row := fnReadPlaceRow, standIns := [], harness := (true, "cc119ed54ab0eb453e5eea4f37333123e2840447a89e387711501f710fa16f44"), looks := false }, kinds := [], alts := [], laidByText := true, laidKinds := [.data, .data, .data, .data, .pinned], laidTests := true, laidLooks := .later }
def FnReadPlaceCardSaid : Prop := Claim7.holds Tryd.pinned (.plain (OpenSpec.ofChange fnReadPlaceSpec)) fnReadPlaceCard

/-- THE SECOND FORM's CARD OF 'laws.FnReadPlace'. -/
def fnReadPlaceUptoCard : Claim7 := { stood := { row := fnReadPlaceUptoRow, standIns := [], harness := (true, "cc119ed54ab0eb453e5eea4f37333123e2840447a89e387711501f710fa16f44"), looks := false }, kinds := [], alts := [], laidByText := true, laidKinds := [.data, .data, .data, .data, .pinned], laidTests := true, laidLooks := .later }
def FnReadPlaceUptoCardSaid : Prop := Claim7.holds Tryd.pinned (.plain (OpenSpec.upto fnReadPlaceSpec)) fnReadPlaceUptoCard
end Rows
end Go.Proofs.YtamphgpidmaagaaDoor
