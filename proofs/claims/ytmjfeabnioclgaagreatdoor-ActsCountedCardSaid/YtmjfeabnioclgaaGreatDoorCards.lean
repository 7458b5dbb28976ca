/-
  DERIVED. GIVEN WITH THE SEED: THE CARDS: each row of YtmjfeabnioclgaaGreatDoorRows.lean that lists a variable, with what it lists TIED to the program's text (the seventh form; the later family's looks); each row that meets fmt, with fmt's text TOLD by the authors' own Lean function (tested against real Go, not proved from fmt's source: count such statements apart). THE CARD IS WHAT COUNTS. Prove the row's statement (the work); the ties are given (YtmjfeabnioclgaaGreatDoorTie.lean); close each card by the builder's one call (the guide's Derived/Test/ToyasCard.lean, 'card_holds'). Laid BY PROGRAM, IN A SANDBOX (cutbox-door.mjs). By AI agents, Wed Nov 11 2026. No macro, syntax, notation, axiom, sorry.
-/
import Derived.Test.YtmjfeabnioclgaaGreatDoorRows
import GoSem.ClaimSeven
namespace Go.Proofs.YtmjfeabnioclgaaGreatDoor
namespace Rows

/-- THE TIED CARD OF 'handlaw1.ActsCounted'. -/
def actsCountedCard : Claim7 := { stood := { row := actsCountedRow, standIns := [], harness := (true, "246b6e2222cd796a56d26682df66a5d242da1df6cc1530db5b0877f30b7297bf"), looks := false }, kinds := [], alts := [], laidByText := true, laidKinds := [.data, .pinned], laidTests := true, laidLooks := .later }
def ActsCountedCardSaid : Prop := Claim7.holds Tryz.pinned (.plain (OpenSpec.ofChange actsCountedSpec)) actsCountedCard

/-- THE SECOND FORM's CARD OF 'handlaw1.ActsCounted'. -/
def actsCountedUptoCard : Claim7 := { stood := { row := actsCountedUptoRow, standIns := [], harness := (true, "246b6e2222cd796a56d26682df66a5d242da1df6cc1530db5b0877f30b7297bf"), looks := false }, kinds := [], alts := [], laidByText := true, laidKinds := [.data, .pinned], laidTests := true, laidLooks := .later }
def ActsCountedUptoCardSaid : Prop := Claim7.holds Tryz.pinned (.plain (OpenSpec.upto actsCountedSpec)) actsCountedUptoCard
end Rows
end Go.Proofs.YtmjfeabnioclgaaGreatDoor
