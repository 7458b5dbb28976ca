/-
  DERIVED. GIVEN WITH THE SEED: THE CARDS: each row of YtfemminjhecocaaGreatDoorRows.lean that lists a variable, with what it lists TIED to the program's text (the seventh form; the later family's looks); each row that meets fmt, with fmt's text TOLD by the authors' own Lean function (tested against real Go, not proved from fmt's source: count such statements apart). THE CARD IS WHAT COUNTS. Prove the row's statement (the work); the ties are given (YtfemminjhecocaaGreatDoorTie.lean); close each card by the builder's one call (the guide's Derived/Test/ToyasCard.lean, 'card_holds'). Laid BY PROGRAM, IN A SANDBOX (cutbox-door.mjs). By AI agents, Wed Nov 11 2026. No macro, syntax, notation, axiom, sorry.
-/
import Derived.Test.YtfemminjhecocaaGreatDoorRows
import GoSem.ClaimSeven
namespace Go.Proofs.YtfemminjhecocaaGreatDoor
namespace Rows

/-- THE TIED CARD OF 'handlaw1.BasketsPriced'. -/
def basketsPricedCard : Claim7 := { stood := { row := basketsPricedRow, standIns := [], harness := (true, "1edf5698fa4ac34151ceb4364f9c95966807fc660a0221fea6741249b517ea11"), looks := false }, kinds := [], alts := [], laidByText := true, laidKinds := [.data, .pinned], laidTests := true, laidLooks := .later }
def BasketsPricedCardSaid : Prop := Claim7.holds Tryz.pinned (.plain (OpenSpec.ofChange basketsPricedSpec)) basketsPricedCard

/-- THE TIED CARD OF 'handlaw1.BestChosen'. -/
def bestChosenCard : Claim7 := { stood := { row := bestChosenRow, standIns := [], harness := (true, "1edf5698fa4ac34151ceb4364f9c95966807fc660a0221fea6741249b517ea11"), looks := false }, kinds := [], alts := [], laidByText := true, laidKinds := [.data, .pinned], laidTests := true, laidLooks := .later }
def BestChosenCardSaid : Prop := Claim7.holds Tryz.pinned (.plain (OpenSpec.ofChange bestChosenSpec)) bestChosenCard

/-- THE TIED CARD OF 'handkeep1.GainsAddUp'. -/
def gainsAddUpCard : Claim7 := { stood := { row := gainsAddUpRow, standIns := [], harness := (true, "1edf5698fa4ac34151ceb4364f9c95966807fc660a0221fea6741249b517ea11"), looks := false }, kinds := [], alts := [], laidByText := true, laidKinds := [.data, .pinned], laidTests := true, laidLooks := .later }
def GainsAddUpCardSaid : Prop := Claim7.holds Tryz.pinned (.plain (OpenSpec.ofChange gainsAddUpSpec)) gainsAddUpCard

/-- THE TIED CARD OF 'handlaw1.ActsCounted'. -/
def actsCountedCard : Claim7 := { stood := { row := actsCountedRow, standIns := [], harness := (true, "1edf5698fa4ac34151ceb4364f9c95966807fc660a0221fea6741249b517ea11"), looks := false }, kinds := [], alts := [], laidByText := true, laidKinds := [.data, .pinned], laidTests := true, laidLooks := .later }
def ActsCountedCardSaid : Prop := Claim7.holds Tryz.pinned (.plain (OpenSpec.ofChange actsCountedSpec)) actsCountedCard

/-- THE TIED CARD OF 'handlaw1.GainsShared'. -/
def gainsSharedCard : Claim7 := { stood := { row := gainsSharedRow, standIns := [], harness := (true, "1edf5698fa4ac34151ceb4364f9c95966807fc660a0221fea6741249b517ea11"), looks := false }, kinds := [], alts := [], laidByText := true, laidKinds := [.data, .pinned], laidTests := true, laidLooks := .later }
def GainsSharedCardSaid : Prop := Claim7.holds Tryz.pinned (.plain (OpenSpec.ofChange gainsSharedSpec)) gainsSharedCard

/-- THE SECOND FORM's CARD OF 'handlaw1.BasketsPriced'. -/
def basketsPricedUptoCard : Claim7 := { stood := { row := basketsPricedUptoRow, standIns := [], harness := (true, "1edf5698fa4ac34151ceb4364f9c95966807fc660a0221fea6741249b517ea11"), looks := false }, kinds := [], alts := [], laidByText := true, laidKinds := [.data, .pinned], laidTests := true, laidLooks := .later }
def BasketsPricedUptoCardSaid : Prop := Claim7.holds Tryz.pinned (.plain (OpenSpec.upto basketsPricedSpec)) basketsPricedUptoCard

/-- THE SECOND FORM's CARD OF 'handlaw1.BestChosen'. -/
def bestChosenUptoCard : Claim7 := { stood := { row := bestChosenUptoRow, standIns := [], harness := (true, "1edf5698fa4ac34151ceb4364f9c95966807fc660a0221fea6741249b517ea11"), looks := false }, kinds := [], alts := [], laidByText := true, laidKinds := [.data, .pinned], laidTests := true, laidLooks := .later }
def BestChosenUptoCardSaid : Prop := Claim7.holds Tryz.pinned (.plain (OpenSpec.upto bestChosenSpec)) bestChosenUptoCard

/-- THE SECOND FORM's CARD OF 'handkeep1.GainsAddUp'. -/
def gainsAddUpUptoCard : Claim7 := { stood := { row := gainsAddUpUptoRow, standIns := [], harness := (true, "1edf5698fa4ac34151ceb4364f9c95966807fc660a0221fea6741249b517ea11"), looks := false }, kinds := [], alts := [], laidByText := true, laidKinds := [.data, .pinned], laidTests := true, laidLooks := .later }
def GainsAddUpUptoCardSaid : Prop := Claim7.holds Tryz.pinned (.plain (OpenSpec.upto gainsAddUpSpec)) gainsAddUpUptoCard

/-- THE SECOND FORM's CARD OF 'handlaw1.ActsCounted'. -/
def actsCountedUptoCard : Claim7 := { stood := { row := actsCountedUptoRow, standIns := [], harness := (true, "1edf5698fa4ac34151ceb4364f9c95966807fc660a0221fea6741249b517ea11"), looks := false }, kinds := [], alts := [], laidByText := true, laidKinds := [.data, .pinned], laidTests := true, laidLooks := .later }
def ActsCountedUptoCardSaid : Prop := Claim7.holds Tryz.pinned (.plain (OpenSpec.upto actsCountedSpec)) actsCountedUptoCard

/-- THE SECOND FORM's CARD OF 'handlaw1.GainsShared'. -/
def gainsSharedUptoCard : Claim7 := { stood := { row := gainsSharedUptoRow, standIns := [], harness := (true, "1edf5698fa4ac34151ceb4364f9c95966807fc660a0221fea6741249b517ea11"), looks := false }, kinds := [], alts := [], laidByText := true, laidKinds := [.data, .pinned], laidTests := true, laidLooks := .later }
def GainsSharedUptoCardSaid : Prop := Claim7.holds Tryz.pinned (.plain (OpenSpec.upto gainsSharedSpec)) gainsSharedUptoCard
end Rows
end Go.Proofs.YtfemminjhecocaaGreatDoor
