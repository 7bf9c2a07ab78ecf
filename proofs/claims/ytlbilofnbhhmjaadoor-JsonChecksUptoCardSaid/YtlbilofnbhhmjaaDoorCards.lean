/-
  DERIVED. GIVEN WITH THE SEED: THE CARDS: each row of YtlbilofnbhhmjaaDoorRows.lean that lists a variable, with what it lists TIED to the program's text (the seventh form; the later family's looks); each row that meets fmt, with fmt's text TOLD by the authors' own Lean function (tested against real Go, not proved from fmt's source: count such statements apart). THE CARD IS WHAT COUNTS. Prove the row's statement (the work); the ties are given (YtlbilofnbhhmjaaDoorTie.lean); close each card by the builder's one call (the guide's Derived/Test/ToyasCard.lean, 'card_holds'). Laid BY PROGRAM, IN A SANDBOX (cutbox-door.mjs). By AI agents, Wed Nov 11 2026. No macro, syntax, notation, axiom, sorry.
-/
import Derived.Test.YtlbilofnbhhmjaaDoorRows
import GoSem.ClaimSeven
namespace Go.Proofs.YtlbilofnbhhmjaaDoor
namespace Rows

/-- THE TIED CARD OF 'ciboriumlaw13.JsonParses'. -/
def jsonParsesCard : Claim7 := { stood := { row := jsonParsesRow, standIns := [], harness := (true, "ff76a1cebf35ca6c3703a9e0c9afc4db0796bef37311b752371292032a423a4a"), looks := true }, kinds := [], alts := [], laidByText := true, laidKinds := [.data, .pinned], laidTests := true, laidLooks := .later }
def JsonParsesCardSaid : Prop := Claim7.holds Tryd.pinned (.plain (OpenSpec.ofChange jsonParsesSpec)) jsonParsesCard

/-- THE TIED CARD OF 'ciboriumlaw13.JsonLoose'. -/
def jsonLooseCard : Claim7 := { stood := { row := jsonLooseRow, standIns := [], harness := (true, "ff76a1cebf35ca6c3703a9e0c9afc4db0796bef37311b752371292032a423a4a"), looks := true }, kinds := [], alts := [], laidByText := true, laidKinds := [.data, .pinned], laidTests := true, laidLooks := .later }
def JsonLooseCardSaid : Prop := Claim7.holds Tryd.pinned (.plain (OpenSpec.ofChange jsonLooseSpec)) jsonLooseCard

/-- THE TIED CARD OF 'ciboriumlaw13.JsonSpelt'. -/
def jsonSpeltCard : Claim7 := { stood := { row := jsonSpeltRow, standIns := [], harness := (true, "ff76a1cebf35ca6c3703a9e0c9afc4db0796bef37311b752371292032a423a4a"), looks := true }, kinds := [], alts := [], laidByText := true, laidKinds := [.data, .pinned], laidTests := true, laidLooks := .later }
def JsonSpeltCardSaid : Prop := Claim7.holds Tryd.pinned (.plain (OpenSpec.ofChange jsonSpeltSpec)) jsonSpeltCard

/-- THE TIED CARD OF 'ciboriumlaw13.JsonChecks'. -/
def jsonChecksCard : Claim7 := { stood := { row := jsonChecksRow, standIns := [], harness := (true, "ff76a1cebf35ca6c3703a9e0c9afc4db0796bef37311b752371292032a423a4a"), looks := true }, kinds := [], alts := [], laidByText := true, laidKinds := [.data, .pinned], laidTests := true, laidLooks := .later }
def JsonChecksCardSaid : Prop := Claim7.holds Tryd.pinned (.plain (OpenSpec.ofChange jsonChecksSpec)) jsonChecksCard

/-- THE TIED CARD OF 'ciboriumlaw13.JsonBack'. -/
def jsonBackCard : Claim7 := { stood := { row := jsonBackRow, standIns := [], harness := (true, "ff76a1cebf35ca6c3703a9e0c9afc4db0796bef37311b752371292032a423a4a"), looks := true }, kinds := [], alts := [], laidByText := true, laidKinds := [.data, .pinned], laidTests := true, laidLooks := .later }
def JsonBackCardSaid : Prop := Claim7.holds Tryd.pinned (.plain (OpenSpec.ofChange jsonBackSpec)) jsonBackCard

/-- THE TIED CARD OF 'ciboriumlaw13.JsonForm'. -/
def jsonFormCard : Claim7 := { stood := { row := jsonFormRow, standIns := [], harness := (true, "ff76a1cebf35ca6c3703a9e0c9afc4db0796bef37311b752371292032a423a4a"), looks := true }, kinds := [], alts := [], laidByText := true, laidKinds := [.data, .pinned], laidTests := true, laidLooks := .later }
def JsonFormCardSaid : Prop := Claim7.holds Tryd.pinned (.plain (OpenSpec.ofChange jsonFormSpec)) jsonFormCard

/-- THE SECOND FORM's CARD OF 'ciboriumlaw13.JsonParses'. -/
def jsonParsesUptoCard : Claim7 := { stood := { row := jsonParsesUptoRow, standIns := [], harness := (true, "ff76a1cebf35ca6c3703a9e0c9afc4db0796bef37311b752371292032a423a4a"), looks := true }, kinds := [], alts := [], laidByText := true, laidKinds := [.data, .pinned], laidTests := true, laidLooks := .later }
def JsonParsesUptoCardSaid : Prop := Claim7.holds Tryd.pinned (.plain (OpenSpec.upto jsonParsesSpec)) jsonParsesUptoCard

/-- THE SECOND FORM's CARD OF 'ciboriumlaw13.JsonLoose'. -/
def jsonLooseUptoCard : Claim7 := { stood := { row := jsonLooseUptoRow, standIns := [], harness := (true, "ff76a1cebf35ca6c3703a9e0c9afc4db0796bef37311b752371292032a423a4a"), looks := true }, kinds := [], alts := [], laidByText := true, laidKinds := [.data, .pinned], laidTests := true, laidLooks := .later }
def JsonLooseUptoCardSaid : Prop := Claim7.holds Tryd.pinned (.plain (OpenSpec.upto jsonLooseSpec)) jsonLooseUptoCard

/-- THE SECOND FORM's CARD OF 'ciboriumlaw13.JsonSpelt'. -/
def jsonSpeltUptoCard : Claim7 := { stood := { row := jsonSpeltUptoRow, standIns := [], harness := (true, "ff76a1cebf35ca6c3703a9e0c9afc4db0796bef37311b752371292032a423a4a"), looks := true }, kinds := [], alts := [], laidByText := true, laidKinds := [.data, .pinned], laidTests := true, laidLooks := .later }
def JsonSpeltUptoCardSaid : Prop := Claim7.holds Tryd.pinned (.plain (OpenSpec.upto jsonSpeltSpec)) jsonSpeltUptoCard

/-- THE SECOND FORM's CARD OF 'ciboriumlaw13.JsonChecks'. -/
def jsonChecksUptoCard : Claim7 := { stood := { row := jsonChecksUptoRow, standIns := [], harness := (true, "ff76a1cebf35ca6c3703a9e0c9afc4db0796bef37311b752371292032a423a4a"), looks := true }, kinds := [], alts := [], laidByText := true, laidKinds := [.data, .pinned], laidTests := true, laidLooks := .later }
def JsonChecksUptoCardSaid : Prop := Claim7.holds Tryd.pinned (.plain (OpenSpec.upto jsonChecksSpec)) jsonChecksUptoCard

/-- THE SECOND FORM's CARD OF 'ciboriumlaw13.JsonBack'. -/
def jsonBackUptoCard : Claim7 := { stood := { row := jsonBackUptoRow, standIns := [], harness := (true, "ff76a1cebf35ca6c3703a9e0c9afc4db0796bef37311b752371292032a423a4a"), looks := true }, kinds := [], alts := [], laidByText := true, laidKinds := [.data, .pinned], laidTests := true, laidLooks := .later }
def JsonBackUptoCardSaid : Prop := Claim7.holds Tryd.pinned (.plain (OpenSpec.upto jsonBackSpec)) jsonBackUptoCard

/-- THE SECOND FORM's CARD OF 'ciboriumlaw13.JsonForm'. -/
def jsonFormUptoCard : Claim7 := { stood := { row := jsonFormUptoRow, standIns := [], harness := (true, "ff76a1cebf35ca6c3703a9e0c9afc4db0796bef37311b752371292032a423a4a"), looks := true }, kinds := [], alts := [], laidByText := true, laidKinds := [.data, .pinned], laidTests := true, laidLooks := .later }
def JsonFormUptoCardSaid : Prop := Claim7.holds Tryd.pinned (.plain (OpenSpec.upto jsonFormSpec)) jsonFormUptoCard
end Rows
end Go.Proofs.YtlbilofnbhhmjaaDoor
