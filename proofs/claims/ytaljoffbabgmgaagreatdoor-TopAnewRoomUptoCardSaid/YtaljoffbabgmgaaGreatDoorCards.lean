/-
  DERIVED. GIVEN WITH THE SEED: THE CARDS: each row of YtaljoffbabgmgaaGreatDoorRows.lean that lists a variable, with what it lists TIED to the program's text (the seventh form; the later family's looks); each row that meets fmt, with fmt's text TOLD by the authors' own Lean function (tested against real Go, not proved from fmt's source: count such statements apart). THE CARD IS WHAT COUNTS. Prove the row's statement (the work); the ties are given (YtaljoffbabgmgaaGreatDoorTie.lean); close each card by the builder's one call (the guide's Derived/Test/ToyasCard.lean, 'card_holds'). Laid BY PROGRAM, IN A SANDBOX (cutbox-door.mjs). By AI agents, Wed Nov 11 2026. No macro, syntax, notation, axiom, sorry.
-/
import Derived.Test.YtaljoffbabgmgaaGreatDoorRows
import GoSem.ClaimSeven
namespace Go.Proofs.YtaljoffbabgmgaaGreatDoor
namespace Rows

/-- THE TIED CARD OF 'ceroplasttop.TopAnewRoom'. -/
def topAnewRoomCard : Claim7 := { stood := { row := topAnewRoomRow, standIns := [], harness := (true, "b9357141173453a5a69d54974dd04dc7a6ea9c1bf405aec8387be8e1be09c94e"), looks := false }, kinds := [], alts := [], laidByText := true, laidKinds := [.data, .data], laidTests := true, laidLooks := .later }
def TopAnewRoomCardSaid : Prop := Claim7.holds Tryz.pinned (.plain (OpenSpec.ofChange topAnewRoomSpec)) topAnewRoomCard

/-- THE SECOND FORM's CARD OF 'ceroplasttop.TopAnewRoom'. -/
def topAnewRoomUptoCard : Claim7 := { stood := { row := topAnewRoomUptoRow, standIns := [], harness := (true, "b9357141173453a5a69d54974dd04dc7a6ea9c1bf405aec8387be8e1be09c94e"), looks := false }, kinds := [], alts := [], laidByText := true, laidKinds := [.data, .data], laidTests := true, laidLooks := .later }
def TopAnewRoomUptoCardSaid : Prop := Claim7.holds Tryz.pinned (.plain (OpenSpec.upto topAnewRoomSpec)) topAnewRoomUptoCard
end Rows
end Go.Proofs.YtaljoffbabgmgaaGreatDoor
