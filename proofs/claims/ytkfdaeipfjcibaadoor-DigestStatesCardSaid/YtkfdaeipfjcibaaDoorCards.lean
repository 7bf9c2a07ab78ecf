/-
  DERIVED. GIVEN WITH THE SEED: THE CARDS: each row of YtkfdaeipfjcibaaDoorRows.lean that lists a variable, with what it lists TIED to the program's text (the seventh form; the later family's looks); each row that meets fmt, with fmt's text TOLD by the authors' own Lean function (tested against real Go, not proved from fmt's source: count such statements apart). THE CARD IS WHAT COUNTS. Prove the row's statement (the work); the ties are given (YtkfdaeipfjcibaaDoorTie.lean); close each card by the builder's one call (the guide's Derived/Test/ToyasCard.lean, 'card_holds'). Laid BY PROGRAM, IN A SANDBOX (cutbox-door.mjs). By AI agents, Wed Nov 11 2026. No macro, syntax, notation, axiom, sorry.
-/
import Derived.Test.YtkfdaeipfjcibaaDoorRows
import GoSem.ClaimSeven
namespace Go.Proofs.YtkfdaeipfjcibaaDoor
namespace Rows

/-- THE TIED CARD OF 'ciboriumlaw02.DigestSums'. -/
def digestSumsCard : Claim7 := { stood := { row := digestSumsRow, standIns := [], harness := (true, "4acc4c5eb43ae9096c7d2b362e18bea8d076117e82b9eb6590c68e5a3dd6cf72"), looks := false }, kinds := [], alts := [], laidByText := true, laidKinds := [.data], laidTests := true, laidLooks := .later }
def DigestSumsCardSaid : Prop := Claim7.holds Tryd.pinned (.plain (OpenSpec.ofChange digestSumsSpec)) digestSumsCard

/-- THE TIED CARD OF 'ciboriumlaw02.DigestStates'. -/
def digestStatesCard : Claim7 := { stood := { row := digestStatesRow, standIns := [], harness := (true, "4acc4c5eb43ae9096c7d2b362e18bea8d076117e82b9eb6590c68e5a3dd6cf72"), looks := false }, kinds := [], alts := [], laidByText := true, laidKinds := [.data], laidTests := true, laidLooks := .later }
def DigestStatesCardSaid : Prop := Claim7.holds Tryd.pinned (.plain (OpenSpec.ofChange digestStatesSpec)) digestStatesCard

/-- THE TIED CARD OF 'ciboriumlaw02.DigestPieces'. -/
def digestPiecesCard : Claim7 := { stood := { row := digestPiecesRow, standIns := [], harness := (true, "4acc4c5eb43ae9096c7d2b362e18bea8d076117e82b9eb6590c68e5a3dd6cf72"), looks := false }, kinds := [], alts := [], laidByText := true, laidKinds := [.data], laidTests := true, laidLooks := .later }
def DigestPiecesCardSaid : Prop := Claim7.holds Tryd.pinned (.plain (OpenSpec.ofChange digestPiecesSpec)) digestPiecesCard

/-- THE TIED CARD OF 'ciboriumlaw02.DigestMacs'. -/
def digestMacsCard : Claim7 := { stood := { row := digestMacsRow, standIns := [], harness := (true, "4acc4c5eb43ae9096c7d2b362e18bea8d076117e82b9eb6590c68e5a3dd6cf72"), looks := false }, kinds := [], alts := [], laidByText := true, laidKinds := [.data], laidTests := true, laidLooks := .later }
def DigestMacsCardSaid : Prop := Claim7.holds Tryd.pinned (.plain (OpenSpec.ofChange digestMacsSpec)) digestMacsCard

/-- THE TIED CARD OF 'ciboriumlaw02.DigestKeys'. -/
def digestKeysCard : Claim7 := { stood := { row := digestKeysRow, standIns := [], harness := (true, "4acc4c5eb43ae9096c7d2b362e18bea8d076117e82b9eb6590c68e5a3dd6cf72"), looks := false }, kinds := [], alts := [], laidByText := true, laidKinds := [.data], laidTests := true, laidLooks := .later }
def DigestKeysCardSaid : Prop := Claim7.holds Tryd.pinned (.plain (OpenSpec.ofChange digestKeysSpec)) digestKeysCard

/-- THE SECOND FORM's CARD OF 'ciboriumlaw02.DigestSums'. -/
def digestSumsUptoCard : Claim7 := { stood := { row := digestSumsUptoRow, standIns := [], harness := (true, "4acc4c5eb43ae9096c7d2b362e18bea8d076117e82b9eb6590c68e5a3dd6cf72"), looks := false }, kinds := [], alts := [], laidByText := true, laidKinds := [.data], laidTests := true, laidLooks := .later }
def DigestSumsUptoCardSaid : Prop := Claim7.holds Tryd.pinned (.plain (OpenSpec.upto digestSumsSpec)) digestSumsUptoCard

/-- THE SECOND FORM's CARD OF 'ciboriumlaw02.DigestStates'. -/
def digestStatesUptoCard : Claim7 := { stood := { row := digestStatesUptoRow, standIns := [], harness := (true, "4acc4c5eb43ae9096c7d2b362e18bea8d076117e82b9eb6590c68e5a3dd6cf72"), looks := false }, kinds := [], alts := [], laidByText := true, laidKinds := [.data], laidTests := true, laidLooks := .later }
def DigestStatesUptoCardSaid : Prop := Claim7.holds Tryd.pinned (.plain (OpenSpec.upto digestStatesSpec)) digestStatesUptoCard

/-- THE SECOND FORM's CARD OF 'ciboriumlaw02.DigestPieces'. -/
def digestPiecesUptoCard : Claim7 := { stood := { row := digestPiecesUptoRow, standIns := [], harness := (true, "4acc4c5eb43ae9096c7d2b362e18bea8d076117e82b9eb6590c68e5a3dd6cf72"), looks := false }, kinds := [], alts := [], laidByText := true, laidKinds := [.data], laidTests := true, laidLooks := .later }
def DigestPiecesUptoCardSaid : Prop := Claim7.holds Tryd.pinned (.plain (OpenSpec.upto digestPiecesSpec)) digestPiecesUptoCard

/-- THE SECOND FORM's CARD OF 'ciboriumlaw02.DigestMacs'. -/
def digestMacsUptoCard : Claim7 := { stood := { row := digestMacsUptoRow, standIns := [], harness := (true, "4acc4c5eb43ae9096c7d2b362e18bea8d076117e82b9eb6590c68e5a3dd6cf72"), looks := false }, kinds := [], alts := [], laidByText := true, laidKinds := [.data], laidTests := true, laidLooks := .later }
def DigestMacsUptoCardSaid : Prop := Claim7.holds Tryd.pinned (.plain (OpenSpec.upto digestMacsSpec)) digestMacsUptoCard

/-- THE SECOND FORM's CARD OF 'ciboriumlaw02.DigestKeys'. -/
def digestKeysUptoCard : Claim7 := { stood := { row := digestKeysUptoRow, standIns := [], harness := (true, "4acc4c5eb43ae9096c7d2b362e18bea8d076117e82b9eb6590c68e5a3dd6cf72"), looks := false }, kinds := [], alts := [], laidByText := true, laidKinds := [.data], laidTests := true, laidLooks := .later }
def DigestKeysUptoCardSaid : Prop := Claim7.holds Tryd.pinned (.plain (OpenSpec.upto digestKeysSpec)) digestKeysUptoCard
end Rows
end Go.Proofs.YtkfdaeipfjcibaaDoor
