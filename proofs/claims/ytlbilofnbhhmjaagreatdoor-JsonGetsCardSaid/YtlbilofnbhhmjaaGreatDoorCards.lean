/-
  DERIVED. GIVEN WITH THE SEED: THE CARDS: each row of YtlbilofnbhhmjaaGreatDoorRows.lean that lists a variable, with what it lists TIED to the program's text (the seventh form; the later family's looks); each row that meets fmt, with fmt's text TOLD by the authors' own Lean function (tested against real Go, not proved from fmt's source: count such statements apart). THE CARD IS WHAT COUNTS. Prove the row's statement (the work); the ties are given (YtlbilofnbhhmjaaGreatDoorTie.lean); close each card by the builder's one call (the guide's Derived/Test/ToyasCard.lean, 'card_holds'). Laid BY PROGRAM, IN A SANDBOX (cutbox-door.mjs). By AI agents, Wed Nov 11 2026. No macro, syntax, notation, axiom, sorry.
-/
import Derived.Test.YtlbilofnbhhmjaaGreatDoorRows
import GoSem.ClaimSeven
namespace Go.Proofs.YtlbilofnbhhmjaaGreatDoor
namespace Rows

/-- THE TIED CARD OF 'ciboriumlaw13.JsonGets'. -/
def jsonGetsCard : Claim7 := { stood := { row := jsonGetsRow, standIns := [], harness := (true, "e31e3ed22884a3ef2549596dde35d52532cadd939624e1c9bf1d4ae5977c193e"), looks := true }, kinds := [], alts := [], laidByText := true, laidKinds := [.data, .data, .data, .data, .sentinel, .sentinel, .pinned], laidTests := true, laidLooks := .later }
def JsonGetsCardSaid : Prop := Claim7.holds Tryz.pinned (.plain (OpenSpec.ofChange jsonGetsSpec)) jsonGetsCard

/-- THE SECOND FORM's CARD OF 'ciboriumlaw13.JsonGets'. -/
def jsonGetsUptoCard : Claim7 := { stood := { row := jsonGetsUptoRow, standIns := [], harness := (true, "e31e3ed22884a3ef2549596dde35d52532cadd939624e1c9bf1d4ae5977c193e"), looks := true }, kinds := [], alts := [], laidByText := true, laidKinds := [.data, .data, .data, .data, .sentinel, .sentinel, .pinned], laidTests := true, laidLooks := .later }
def JsonGetsUptoCardSaid : Prop := Claim7.holds Tryz.pinned (.plain (OpenSpec.upto jsonGetsSpec)) jsonGetsUptoCard
end Rows
end Go.Proofs.YtlbilofnbhhmjaaGreatDoor
