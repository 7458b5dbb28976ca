/-
  DERIVED. GIVEN WITH THE SEED: THE CARDS: each row of YtfemminjhecocaaDoorRows.lean that lists a variable, with what it lists TIED to the program's text (the seventh form; the later family's looks); each row that meets fmt, with fmt's text TOLD by the authors' own Lean function (tested against real Go, not proved from fmt's source: count such statements apart). THE CARD IS WHAT COUNTS. Prove the row's statement (the work); the ties are given (YtfemminjhecocaaDoorTie.lean); close each card by the builder's one call (the guide's Derived/Test/ToyasCard.lean, 'card_holds'). Laid BY PROGRAM, IN A SANDBOX (cutbox-door.mjs). By AI agents, Wed Nov 11 2026. No macro, syntax, notation, axiom, sorry.
-/
import Derived.Test.YtfemminjhecocaaDoorRows
import GoSem.ClaimSeven
namespace Go.Proofs.YtfemminjhecocaaDoor
namespace Rows

/-- THE TIED CARD OF 'handlaw1.PursesKept'. -/
def pursesKeptCard : Claim7 := { stood := { row := pursesKeptRow, standIns := [], harness := (true, "669c21126664f1950c3926c82ae4830044272d9a486a6838a35fa441baa24610"), looks := false }, kinds := [], alts := [], laidByText := true, laidKinds := [.data, .pinned], laidTests := true, laidLooks := .later }
def PursesKeptCardSaid : Prop := Claim7.holds Tryd.pinned (.plain (OpenSpec.ofChange pursesKeptSpec)) pursesKeptCard

/-- THE TIED CARD OF 'handlaw1.OffersFit'. -/
def offersFitCard : Claim7 := { stood := { row := offersFitRow, standIns := [], harness := (true, "669c21126664f1950c3926c82ae4830044272d9a486a6838a35fa441baa24610"), looks := false }, kinds := [], alts := [], laidByText := true, laidKinds := [.data, .pinned], laidTests := true, laidLooks := .later }
def OffersFitCardSaid : Prop := Claim7.holds Tryd.pinned (.plain (OpenSpec.ofChange offersFitSpec)) offersFitCard

/-- THE TIED CARD OF 'handlaw1.CellsFolded'. -/
def cellsFoldedCard : Claim7 := { stood := { row := cellsFoldedRow, standIns := [], harness := (true, "669c21126664f1950c3926c82ae4830044272d9a486a6838a35fa441baa24610"), looks := false }, kinds := [], alts := [], laidByText := true, laidKinds := [.data, .pinned], laidTests := true, laidLooks := .later }
def CellsFoldedCardSaid : Prop := Claim7.holds Tryd.pinned (.plain (OpenSpec.ofChange cellsFoldedSpec)) cellsFoldedCard

/-- THE SECOND FORM's CARD OF 'handlaw1.PursesKept'. -/
def pursesKeptUptoCard : Claim7 := { stood := { row := pursesKeptUptoRow, standIns := [], harness := (true, "669c21126664f1950c3926c82ae4830044272d9a486a6838a35fa441baa24610"), looks := false }, kinds := [], alts := [], laidByText := true, laidKinds := [.data, .pinned], laidTests := true, laidLooks := .later }
def PursesKeptUptoCardSaid : Prop := Claim7.holds Tryd.pinned (.plain (OpenSpec.upto pursesKeptSpec)) pursesKeptUptoCard

/-- THE SECOND FORM's CARD OF 'handlaw1.OffersFit'. -/
def offersFitUptoCard : Claim7 := { stood := { row := offersFitUptoRow, standIns := [], harness := (true, "669c21126664f1950c3926c82ae4830044272d9a486a6838a35fa441baa24610"), looks := false }, kinds := [], alts := [], laidByText := true, laidKinds := [.data, .pinned], laidTests := true, laidLooks := .later }
def OffersFitUptoCardSaid : Prop := Claim7.holds Tryd.pinned (.plain (OpenSpec.upto offersFitSpec)) offersFitUptoCard

/-- THE SECOND FORM's CARD OF 'handlaw1.CellsFolded'. -/
def cellsFoldedUptoCard : Claim7 := { stood := { row := cellsFoldedUptoRow, standIns := [], harness := (true, "669c21126664f1950c3926c82ae4830044272d9a486a6838a35fa441baa24610"), looks := false }, kinds := [], alts := [], laidByText := true, laidKinds := [.data, .pinned], laidTests := true, laidLooks := .later }
def CellsFoldedUptoCardSaid : Prop := Claim7.holds Tryd.pinned (.plain (OpenSpec.upto cellsFoldedSpec)) cellsFoldedUptoCard
end Rows
end Go.Proofs.YtfemminjhecocaaDoor
