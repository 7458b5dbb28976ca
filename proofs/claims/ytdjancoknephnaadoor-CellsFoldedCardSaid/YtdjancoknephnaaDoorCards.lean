/-
  DERIVED. GIVEN WITH THE SEED: THE CARDS: each row of YtdjancoknephnaaDoorRows.lean that lists a variable, with what it lists TIED to the program's text (the seventh form; the later family's looks); each row that meets fmt, with fmt's text TOLD by the authors' own Lean function (tested against real Go, not proved from fmt's source: count such statements apart). THE CARD IS WHAT COUNTS. Prove the row's statement (the work); the ties are given (YtdjancoknephnaaDoorTie.lean); close each card by the builder's one call (the guide's Derived/Test/ToyasCard.lean, 'card_holds'). Laid BY PROGRAM, IN A SANDBOX (cutbox-door.mjs). By AI agents, Wed Nov 11 2026. No macro, syntax, notation, axiom, sorry.
-/
import Derived.Test.YtdjancoknephnaaDoorRows
import GoSem.ClaimSeven
namespace Go.Proofs.YtdjancoknephnaaDoor
namespace Rows

/-- THE TIED CARD OF 'handlaw1.FractionsWritten'. -/
def fractionsWrittenCard : Claim7 := { stood := { row := fractionsWrittenRow, standIns := [], harness := (true, "abfe10a393078ec7218eb26c362b0416cacdd3adb6441abaac7ac583f97e92e5"), looks := false }, kinds := [], alts := [], laidByText := true, laidKinds := [.data, .data, .data], laidTests := true, laidLooks := .later }
def FractionsWrittenCardSaid : Prop := Claim7.holds Tryd.pinned (.plain (OpenSpec.ofChange fractionsWrittenSpec)) fractionsWrittenCard

/-- THE TIED CARD OF 'handlaw1.CellsFolded'. -/
def cellsFoldedCard : Claim7 := { stood := { row := cellsFoldedRow, standIns := [], harness := (true, "abfe10a393078ec7218eb26c362b0416cacdd3adb6441abaac7ac583f97e92e5"), looks := false }, kinds := [], alts := [], laidByText := true, laidKinds := [.data, .pinned], laidTests := true, laidLooks := .later }
def CellsFoldedCardSaid : Prop := Claim7.holds Tryd.pinned (.plain (OpenSpec.ofChange cellsFoldedSpec)) cellsFoldedCard

/-- THE SECOND FORM's CARD OF 'handlaw1.FractionsWritten'. -/
def fractionsWrittenUptoCard : Claim7 := { stood := { row := fractionsWrittenUptoRow, standIns := [], harness := (true, "abfe10a393078ec7218eb26c362b0416cacdd3adb6441abaac7ac583f97e92e5"), looks := false }, kinds := [], alts := [], laidByText := true, laidKinds := [.data, .data, .data], laidTests := true, laidLooks := .later }
def FractionsWrittenUptoCardSaid : Prop := Claim7.holds Tryd.pinned (.plain (OpenSpec.upto fractionsWrittenSpec)) fractionsWrittenUptoCard

/-- THE SECOND FORM's CARD OF 'handlaw1.CellsFolded'. -/
def cellsFoldedUptoCard : Claim7 := { stood := { row := cellsFoldedUptoRow, standIns := [], harness := (true, "abfe10a393078ec7218eb26c362b0416cacdd3adb6441abaac7ac583f97e92e5"), looks := false }, kinds := [], alts := [], laidByText := true, laidKinds := [.data, .pinned], laidTests := true, laidLooks := .later }
def CellsFoldedUptoCardSaid : Prop := Claim7.holds Tryd.pinned (.plain (OpenSpec.upto cellsFoldedSpec)) cellsFoldedUptoCard
end Rows
end Go.Proofs.YtdjancoknephnaaDoor
