/-
  DERIVED. GIVEN WITH THE SEED: THE CARDS: each row of YtdiphholophdcaaDoorRows.lean that lists a variable, with what it lists TIED to the program's text (the seventh form; the later family's looks); each row that meets fmt, with fmt's text TOLD by the authors' own Lean function (tested against real Go, not proved from fmt's source: count such statements apart). THE CARD IS WHAT COUNTS. Prove the row's statement (the work); the ties are given (YtdiphholophdcaaDoorTie.lean); close each card by the builder's one call (the guide's Derived/Test/ToyasCard.lean, 'card_holds'). Laid BY PROGRAM, IN A SANDBOX (cutbox-door.mjs). By AI agents, Wed Nov 11 2026. No macro, syntax, notation, axiom, sorry.
-/
import Derived.Test.YtdiphholophdcaaDoorRows
import GoSem.ClaimSeven
namespace Go.Proofs.YtdiphholophdcaaDoor
namespace Rows

/-- THE TIED CARD OF 'aukletlaw11.LexOrder'. -/
def lexOrderCard : Claim7 := { stood := { row := lexOrderRow, standIns := [], harness := (true, "350c0e4d6bf826b623e914e7767bec0860582de50f42811b05effc9990174ea7"), looks := true }, kinds := [], alts := [], laidByText := true, laidKinds := [.listed, .data], laidTests := true, laidLooks := .later }
def LexOrderCardSaid : Prop := Claim7.holds Tryd.pinned (.plain (OpenSpec.ofChange lexOrderSpec)) lexOrderCard

/-- THE TIED CARD OF 'aukletlaw11.LexNames'. -/
def lexNamesCard : Claim7 := { stood := { row := lexNamesRow, standIns := [], harness := (true, "350c0e4d6bf826b623e914e7767bec0860582de50f42811b05effc9990174ea7"), looks := true }, kinds := [], alts := [], laidByText := true, laidKinds := [.listed, .data], laidTests := true, laidLooks := .later }
def LexNamesCardSaid : Prop := Claim7.holds Tryd.pinned (.plain (OpenSpec.ofChange lexNamesSpec)) lexNamesCard

/-- THE TIED CARD OF 'aukletlaw11.LexQuotes'. -/
def lexQuotesCard : Claim7 := { stood := { row := lexQuotesRow, standIns := [], harness := (true, "350c0e4d6bf826b623e914e7767bec0860582de50f42811b05effc9990174ea7"), looks := true }, kinds := [], alts := [], laidByText := true, laidKinds := [.listed, .data], laidTests := true, laidLooks := .later }
def LexQuotesCardSaid : Prop := Claim7.holds Tryd.pinned (.plain (OpenSpec.ofChange lexQuotesSpec)) lexQuotesCard

/-- THE TIED CARD OF 'aukletlaw05.EreShows'. -/
def ereShowsCard : Claim7 := { stood := { row := ereShowsRow, standIns := [], harness := (true, "350c0e4d6bf826b623e914e7767bec0860582de50f42811b05effc9990174ea7"), looks := true }, kinds := [], alts := [], laidByText := true, laidKinds := [.data, .data, .data], laidTests := true, laidLooks := .later }
def EreShowsCardSaid : Prop := Claim7.holds Tryd.pinned (.plain (OpenSpec.ofChange ereShowsSpec)) ereShowsCard

/-- THE TIED CARD OF 'aukletlaw05.EreBack'. -/
def ereBackCard : Claim7 := { stood := { row := ereBackRow, standIns := [], harness := (true, "350c0e4d6bf826b623e914e7767bec0860582de50f42811b05effc9990174ea7"), looks := true }, kinds := [], alts := [], laidByText := true, laidKinds := [.data, .data, .data], laidTests := true, laidLooks := .later }
def EreBackCardSaid : Prop := Claim7.holds Tryd.pinned (.plain (OpenSpec.ofChange ereBackSpec)) ereBackCard

/-- THE TIED CARD OF 'aukletlaw05.ErePlain'. -/
def erePlainCard : Claim7 := { stood := { row := erePlainRow, standIns := [], harness := (true, "350c0e4d6bf826b623e914e7767bec0860582de50f42811b05effc9990174ea7"), looks := true }, kinds := [], alts := [], laidByText := true, laidKinds := [.data, .data, .data], laidTests := true, laidLooks := .later }
def ErePlainCardSaid : Prop := Claim7.holds Tryd.pinned (.plain (OpenSpec.ofChange erePlainSpec)) erePlainCard

/-- THE SECOND FORM's CARD OF 'aukletlaw11.LexOrder'. -/
def lexOrderUptoCard : Claim7 := { stood := { row := lexOrderUptoRow, standIns := [], harness := (true, "350c0e4d6bf826b623e914e7767bec0860582de50f42811b05effc9990174ea7"), looks := true }, kinds := [], alts := [], laidByText := true, laidKinds := [.listed, .data], laidTests := true, laidLooks := .later }
def LexOrderUptoCardSaid : Prop := Claim7.holds Tryd.pinned (.plain (OpenSpec.upto lexOrderSpec)) lexOrderUptoCard

/-- THE SECOND FORM's CARD OF 'aukletlaw11.LexNames'. -/
def lexNamesUptoCard : Claim7 := { stood := { row := lexNamesUptoRow, standIns := [], harness := (true, "350c0e4d6bf826b623e914e7767bec0860582de50f42811b05effc9990174ea7"), looks := true }, kinds := [], alts := [], laidByText := true, laidKinds := [.listed, .data], laidTests := true, laidLooks := .later }
def LexNamesUptoCardSaid : Prop := Claim7.holds Tryd.pinned (.plain (OpenSpec.upto lexNamesSpec)) lexNamesUptoCard

/-- THE SECOND FORM's CARD OF 'aukletlaw11.LexQuotes'. -/
def lexQuotesUptoCard : Claim7 := { stood := { row := lexQuotesUptoRow, standIns := [], harness := (true, "350c0e4d6bf826b623e914e7767bec0860582de50f42811b05effc9990174ea7"), looks := true }, kinds := [], alts := [], laidByText := true, laidKinds := [.listed, .data], laidTests := true, laidLooks := .later }
def LexQuotesUptoCardSaid : Prop := Claim7.holds Tryd.pinned (.plain (OpenSpec.upto lexQuotesSpec)) lexQuotesUptoCard

/-- THE SECOND FORM's CARD OF 'aukletlaw05.EreShows'. -/
def ereShowsUptoCard : Claim7 := { stood := { row := ereShowsUptoRow, standIns := [], harness := (true, "350c0e4d6bf826b623e914e7767bec0860582de50f42811b05effc9990174ea7"), looks := true }, kinds := [], alts := [], laidByText := true, laidKinds := [.data, .data, .data], laidTests := true, laidLooks := .later }
def EreShowsUptoCardSaid : Prop := Claim7.holds Tryd.pinned (.plain (OpenSpec.upto ereShowsSpec)) ereShowsUptoCard

/-- THE SECOND FORM's CARD OF 'aukletlaw05.EreBack'. -/
def ereBackUptoCard : Claim7 := { stood := { row := ereBackUptoRow, standIns := [], harness := (true, "350c0e4d6bf826b623e914e7767bec0860582de50f42811b05effc9990174ea7"), looks := true }, kinds := [], alts := [], laidByText := true, laidKinds := [.data, .data, .data], laidTests := true, laidLooks := .later }
def EreBackUptoCardSaid : Prop := Claim7.holds Tryd.pinned (.plain (OpenSpec.upto ereBackSpec)) ereBackUptoCard

/-- THE SECOND FORM's CARD OF 'aukletlaw05.ErePlain'. -/
def erePlainUptoCard : Claim7 := { stood := { row := erePlainUptoRow, standIns := [], harness := (true, "350c0e4d6bf826b623e914e7767bec0860582de50f42811b05effc9990174ea7"), looks := true }, kinds := [], alts := [], laidByText := true, laidKinds := [.data, .data, .data], laidTests := true, laidLooks := .later }
def ErePlainUptoCardSaid : Prop := Claim7.holds Tryd.pinned (.plain (OpenSpec.upto erePlainSpec)) erePlainUptoCard
end Rows
end Go.Proofs.YtdiphholophdcaaDoor
