/-
  DERIVED. GIVEN WITH THE SEED: THE CARDS: each row of YtihnjdhjkpmggaaDoorRows.lean that lists a variable, with what it lists TIED to the program's text (the seventh form; the later family's looks); each row that meets fmt, with fmt's text TOLD by the authors' own Lean function (tested against real Go, not proved from fmt's source: count such statements apart). THE CARD IS WHAT COUNTS. Prove the row's statement (the work); the ties are given (YtihnjdhjkpmggaaDoorTie.lean); close each card by the builder's one call (the guide's Derived/Test/ToyasCard.lean, 'card_holds'). Laid BY PROGRAM, IN A SANDBOX (cutbox-door.mjs). By AI agents, Wed Nov 11 2026. No macro, syntax, notation, axiom, sorry.
-/
import Derived.Test.YtihnjdhjkpmggaaDoorRows
import GoSem.ClaimSeven
namespace Go.Proofs.YtihnjdhjkpmggaaDoor
namespace Rows

/-- THE TIED CARD OF 'handlaw1.SentChecks'. -/
def sentChecksCard : Claim7 := { stood := { row := sentChecksRow, standIns := [], harness := (true, "049d844e77f0021740fa50e4e0369669103ba0f2c4b4891821f700d100aa9810"), looks := false }, kinds := [], alts := [], laidByText := true, laidKinds := [.data, .pinned], laidTests := true, laidLooks := .later }
def SentChecksCardSaid : Prop := Claim7.holds Tryd.pinned (.plain (OpenSpec.ofChange sentChecksSpec)) sentChecksCard

/-- THE TIED CARD OF 'handlaw1.ArmsDrawn'. -/
def armsDrawnCard : Claim7 := { stood := { row := armsDrawnRow, standIns := [], harness := (true, "049d844e77f0021740fa50e4e0369669103ba0f2c4b4891821f700d100aa9810"), looks := false }, kinds := [], alts := [], laidByText := true, laidKinds := [.data, .pinned], laidTests := true, laidLooks := .later }
def ArmsDrawnCardSaid : Prop := Claim7.holds Tryd.pinned (.plain (OpenSpec.ofChange armsDrawnSpec)) armsDrawnCard

/-- THE TIED CARD OF 'handkeep1.PursesHold'. -/
def pursesHoldCard : Claim7 := { stood := { row := pursesHoldRow, standIns := [], harness := (true, "049d844e77f0021740fa50e4e0369669103ba0f2c4b4891821f700d100aa9810"), looks := false }, kinds := [], alts := [], laidByText := true, laidKinds := [.data, .pinned], laidTests := true, laidLooks := .later }
def PursesHoldCardSaid : Prop := Claim7.holds Tryd.pinned (.plain (OpenSpec.ofChange pursesHoldSpec)) pursesHoldCard

/-- THE SECOND FORM's CARD OF 'handlaw1.SentChecks'. -/
def sentChecksUptoCard : Claim7 := { stood := { row := sentChecksUptoRow, standIns := [], harness := (true, "049d844e77f0021740fa50e4e0369669103ba0f2c4b4891821f700d100aa9810"), looks := false }, kinds := [], alts := [], laidByText := true, laidKinds := [.data, .pinned], laidTests := true, laidLooks := .later }
def SentChecksUptoCardSaid : Prop := Claim7.holds Tryd.pinned (.plain (OpenSpec.upto sentChecksSpec)) sentChecksUptoCard

/-- THE SECOND FORM's CARD OF 'handlaw1.ArmsDrawn'. -/
def armsDrawnUptoCard : Claim7 := { stood := { row := armsDrawnUptoRow, standIns := [], harness := (true, "049d844e77f0021740fa50e4e0369669103ba0f2c4b4891821f700d100aa9810"), looks := false }, kinds := [], alts := [], laidByText := true, laidKinds := [.data, .pinned], laidTests := true, laidLooks := .later }
def ArmsDrawnUptoCardSaid : Prop := Claim7.holds Tryd.pinned (.plain (OpenSpec.upto armsDrawnSpec)) armsDrawnUptoCard

/-- THE SECOND FORM's CARD OF 'handkeep1.PursesHold'. -/
def pursesHoldUptoCard : Claim7 := { stood := { row := pursesHoldUptoRow, standIns := [], harness := (true, "049d844e77f0021740fa50e4e0369669103ba0f2c4b4891821f700d100aa9810"), looks := false }, kinds := [], alts := [], laidByText := true, laidKinds := [.data, .pinned], laidTests := true, laidLooks := .later }
def PursesHoldUptoCardSaid : Prop := Claim7.holds Tryd.pinned (.plain (OpenSpec.upto pursesHoldSpec)) pursesHoldUptoCard
end Rows
end Go.Proofs.YtihnjdhjkpmggaaDoor
