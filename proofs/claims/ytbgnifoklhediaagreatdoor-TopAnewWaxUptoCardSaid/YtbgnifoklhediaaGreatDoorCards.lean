/-
  DERIVED. GIVEN WITH THE SEED: THE CARDS: each row of YtbgnifoklhediaaGreatDoorRows.lean that lists a variable, with what it lists TIED to the program's text (the seventh form; the later family's looks); each row that meets fmt, with fmt's text TOLD by the authors' own Lean function (tested against real Go, not proved from fmt's source: count such statements apart). THE CARD IS WHAT COUNTS. Prove the row's statement (the work); the ties are given (YtbgnifoklhediaaGreatDoorTie.lean); close each card by the builder's one call (the guide's Derived/Test/ToyasCard.lean, 'card_holds'). Laid BY PROGRAM, IN A SANDBOX (cutbox-door.mjs). By AI agents, Wed Nov 11 2026. No macro, syntax, notation, axiom, sorry.
-/
import Derived.Test.YtbgnifoklhediaaGreatDoorRows
import GoSem.ClaimSeven
namespace Go.Proofs.YtbgnifoklhediaaGreatDoor
namespace Rows

/-- THE TIED CARD OF 'ceroplasttop.TopAnewWax'. -/
def topAnewWaxCard : Claim7 := { stood := { row := topAnewWaxRow, standIns := [], harness := (true, "5cecf54a2b82ee467ccdd50111b4f082e79d7145acb439c00f08f645fedc30bf"), looks := false }, kinds := [], alts := [], laidByText := true, laidKinds := [.data, .data], laidTests := true, laidLooks := .later }
def TopAnewWaxCardSaid : Prop := Claim7.holds Tryz.pinned (.plain (OpenSpec.ofChange topAnewWaxSpec)) topAnewWaxCard

/-- THE SECOND FORM's CARD OF 'ceroplasttop.TopAnewWax'. -/
def topAnewWaxUptoCard : Claim7 := { stood := { row := topAnewWaxUptoRow, standIns := [], harness := (true, "5cecf54a2b82ee467ccdd50111b4f082e79d7145acb439c00f08f645fedc30bf"), looks := false }, kinds := [], alts := [], laidByText := true, laidKinds := [.data, .data], laidTests := true, laidLooks := .later }
def TopAnewWaxUptoCardSaid : Prop := Claim7.holds Tryz.pinned (.plain (OpenSpec.upto topAnewWaxSpec)) topAnewWaxUptoCard
end Rows
end Go.Proofs.YtbgnifoklhediaaGreatDoor
