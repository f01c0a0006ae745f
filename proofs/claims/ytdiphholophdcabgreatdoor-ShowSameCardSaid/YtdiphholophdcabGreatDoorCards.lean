/-
  DERIVED. GIVEN WITH THE SEED: THE CARDS: each row of YtdiphholophdcabGreatDoorRows.lean that lists a variable, with what it lists TIED to the program's text (the seventh form; the later family's looks); each row that meets fmt, with fmt's text TOLD by the authors' own Lean function (tested against real Go, not proved from fmt's source: count such statements apart). THE CARD IS WHAT COUNTS. Prove the row's statement (the work); the ties are given (YtdiphholophdcabGreatDoorTie.lean); close each card by the builder's one call (the guide's Derived/Test/ToyasCard.lean, 'card_holds'). Laid BY PROGRAM, IN A SANDBOX (cutbox-door.mjs). By AI agents, Wed Nov 11 2026. No macro, syntax, notation, axiom, sorry.
-/
import Derived.Test.YtdiphholophdcabGreatDoorRows
import GoSem.ClaimSeven
namespace Go.Proofs.YtdiphholophdcabGreatDoor
namespace Rows

/-- THE TIED CARD OF 'aukletlaw13.ShowExprs'. -/
def showExprsCard : Claim7 := { stood := { row := showExprsRow, standIns := [], harness := (true, "ea8271113d08cb2a3277a229eadfcb6de50067d10d97bd2d0c34377382f2ea62"), looks := true }, kinds := [], alts := [], laidByText := true, laidKinds := [.data, .listed, .data, .pinned], laidTests := true, laidLooks := .later }
def ShowExprsCardSaid : Prop := Claim7.holds Tryz.pinned (.plain (OpenSpec.ofChange showExprsSpec)) showExprsCard

/-- THE TIED CARD OF 'aukletlaw13.ShowSame'. -/
def showSameCard : Claim7 := { stood := { row := showSameRow, standIns := [], harness := (true, "ea8271113d08cb2a3277a229eadfcb6de50067d10d97bd2d0c34377382f2ea62"), looks := true }, kinds := [], alts := [], laidByText := true, laidKinds := [.data, .listed, .data, .pinned], laidTests := true, laidLooks := .later }
def ShowSameCardSaid : Prop := Claim7.holds Tryz.pinned (.plain (OpenSpec.ofChange showSameSpec)) showSameCard

/-- THE TIED CARD OF 'aukletlaw14.ResolvePrograms'. -/
def resolveProgramsCard : Claim7 := { stood := { row := resolveProgramsRow, standIns := [], harness := (true, "ea8271113d08cb2a3277a229eadfcb6de50067d10d97bd2d0c34377382f2ea62"), looks := true }, kinds := [], alts := [], laidByText := true, laidKinds := [.listed, .data, .widerDeep], laidTests := true, laidLooks := .later }
def ResolveProgramsCardSaid : Prop := Claim7.holds Tryz.pinned (.plain (OpenSpec.ofChange resolveProgramsSpec)) resolveProgramsCard

/-- THE TIED CARD OF 'aukletlaw14.ResolveApart'. -/
def resolveApartCard : Claim7 := { stood := { row := resolveApartRow, standIns := [], harness := (true, "ea8271113d08cb2a3277a229eadfcb6de50067d10d97bd2d0c34377382f2ea62"), looks := true }, kinds := [], alts := [], laidByText := true, laidKinds := [.listed, .data, .widerDeep], laidTests := true, laidLooks := .later }
def ResolveApartCardSaid : Prop := Claim7.holds Tryz.pinned (.plain (OpenSpec.ofChange resolveApartSpec)) resolveApartCard

/-- THE TIED CARD OF 'aukletlaw14.ResolveSwaps'. -/
def resolveSwapsCard : Claim7 := { stood := { row := resolveSwapsRow, standIns := [], harness := (true, "ea8271113d08cb2a3277a229eadfcb6de50067d10d97bd2d0c34377382f2ea62"), looks := true }, kinds := [], alts := [], laidByText := true, laidKinds := [.listed, .data, .widerDeep], laidTests := true, laidLooks := .later }
def ResolveSwapsCardSaid : Prop := Claim7.holds Tryz.pinned (.plain (OpenSpec.ofChange resolveSwapsSpec)) resolveSwapsCard

/-- THE TIED CARD OF 'aukletlaw13.ShowPrograms'. -/
def showProgramsCard : Claim7 := { stood := { row := showProgramsRow, standIns := [], harness := (true, "ea8271113d08cb2a3277a229eadfcb6de50067d10d97bd2d0c34377382f2ea62"), looks := true }, kinds := [], alts := [], laidByText := true, laidKinds := [.data, .listed, .data, .pinned], laidTests := true, laidLooks := .later }
def ShowProgramsCardSaid : Prop := Claim7.holds Tryz.pinned (.plain (OpenSpec.ofChange showProgramsSpec)) showProgramsCard

/-- THE SECOND FORM's CARD OF 'aukletlaw13.ShowExprs'. -/
def showExprsUptoCard : Claim7 := { stood := { row := showExprsUptoRow, standIns := [], harness := (true, "ea8271113d08cb2a3277a229eadfcb6de50067d10d97bd2d0c34377382f2ea62"), looks := true }, kinds := [], alts := [], laidByText := true, laidKinds := [.data, .listed, .data, .pinned], laidTests := true, laidLooks := .later }
def ShowExprsUptoCardSaid : Prop := Claim7.holds Tryz.pinned (.plain (OpenSpec.upto showExprsSpec)) showExprsUptoCard

/-- THE SECOND FORM's CARD OF 'aukletlaw13.ShowSame'. -/
def showSameUptoCard : Claim7 := { stood := { row := showSameUptoRow, standIns := [], harness := (true, "ea8271113d08cb2a3277a229eadfcb6de50067d10d97bd2d0c34377382f2ea62"), looks := true }, kinds := [], alts := [], laidByText := true, laidKinds := [.data, .listed, .data, .pinned], laidTests := true, laidLooks := .later }
def ShowSameUptoCardSaid : Prop := Claim7.holds Tryz.pinned (.plain (OpenSpec.upto showSameSpec)) showSameUptoCard

/-- THE SECOND FORM's CARD OF 'aukletlaw14.ResolvePrograms'. -/
def resolveProgramsUptoCard : Claim7 := { stood := { row := resolveProgramsUptoRow, standIns := [], harness := (true, "ea8271113d08cb2a3277a229eadfcb6de50067d10d97bd2d0c34377382f2ea62"), looks := true }, kinds := [], alts := [], laidByText := true, laidKinds := [.listed, .data, .widerDeep], laidTests := true, laidLooks := .later }
def ResolveProgramsUptoCardSaid : Prop := Claim7.holds Tryz.pinned (.plain (OpenSpec.upto resolveProgramsSpec)) resolveProgramsUptoCard

/-- THE SECOND FORM's CARD OF 'aukletlaw14.ResolveApart'. -/
def resolveApartUptoCard : Claim7 := { stood := { row := resolveApartUptoRow, standIns := [], harness := (true, "ea8271113d08cb2a3277a229eadfcb6de50067d10d97bd2d0c34377382f2ea62"), looks := true }, kinds := [], alts := [], laidByText := true, laidKinds := [.listed, .data, .widerDeep], laidTests := true, laidLooks := .later }
def ResolveApartUptoCardSaid : Prop := Claim7.holds Tryz.pinned (.plain (OpenSpec.upto resolveApartSpec)) resolveApartUptoCard

/-- THE SECOND FORM's CARD OF 'aukletlaw14.ResolveSwaps'. -/
def resolveSwapsUptoCard : Claim7 := { stood := { row := resolveSwapsUptoRow, standIns := [], harness := (true, "ea8271113d08cb2a3277a229eadfcb6de50067d10d97bd2d0c34377382f2ea62"), looks := true }, kinds := [], alts := [], laidByText := true, laidKinds := [.listed, .data, .widerDeep], laidTests := true, laidLooks := .later }
def ResolveSwapsUptoCardSaid : Prop := Claim7.holds Tryz.pinned (.plain (OpenSpec.upto resolveSwapsSpec)) resolveSwapsUptoCard

/-- THE SECOND FORM's CARD OF 'aukletlaw13.ShowPrograms'. -/
def showProgramsUptoCard : Claim7 := { stood := { row := showProgramsUptoRow, standIns := [], harness := (true, "ea8271113d08cb2a3277a229eadfcb6de50067d10d97bd2d0c34377382f2ea62"), looks := true }, kinds := [], alts := [], laidByText := true, laidKinds := [.data, .listed, .data, .pinned], laidTests := true, laidLooks := .later }
def ShowProgramsUptoCardSaid : Prop := Claim7.holds Tryz.pinned (.plain (OpenSpec.upto showProgramsSpec)) showProgramsUptoCard
end Rows
end Go.Proofs.YtdiphholophdcabGreatDoor
