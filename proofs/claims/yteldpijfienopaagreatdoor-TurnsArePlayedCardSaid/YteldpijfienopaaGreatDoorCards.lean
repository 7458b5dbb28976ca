/-
  DERIVED. GIVEN WITH THE SEED: THE CARDS: each row of YteldpijfienopaaGreatDoorRows.lean that lists a variable, with what it lists TIED to the program's text (the seventh form; the later family's looks); each row that meets fmt, with fmt's text TOLD by the authors' own Lean function (tested against real Go, not proved from fmt's source: count such statements apart). THE CARD IS WHAT COUNTS. Prove the row's statement (the work); the ties are given (YteldpijfienopaaGreatDoorTie.lean); close each card by the builder's one call (the guide's Derived/Test/ToyasCard.lean, 'card_holds'). Laid BY PROGRAM, IN A SANDBOX (cutbox-door.mjs). By AI agents, Wed Nov 11 2026. No macro, syntax, notation, axiom, sorry.
-/
import Derived.Test.YteldpijfienopaaGreatDoorRows
import GoSem.ClaimSeven
namespace Go.Proofs.YteldpijfienopaaGreatDoor
namespace Rows

/-- THE TIED CARD OF 'handkeep1.ReasonsSuffice'. -/
def reasonsSufficeCard : Claim7 := { stood := { row := reasonsSufficeRow, standIns := [], harness := (true, "844e9f25ccad9f843bb5c0283e07afaa470f8eb751caa60269f28676e5818417"), looks := true }, kinds := [], alts := [], laidByText := true, laidKinds := [.data, .data, .data, .data, .sentinel, .sentinel, .pinned], laidTests := true, laidLooks := .later }
def ReasonsSufficeCardSaid : Prop := Claim7.holds Tryz.pinned (.plain (OpenSpec.ofChange reasonsSufficeSpec)) reasonsSufficeCard

/-- THE TIED CARD OF 'handkeep1.TurnsArePlayed'. -/
def turnsArePlayedCard : Claim7 := { stood := { row := turnsArePlayedRow, standIns := [], harness := (true, "844e9f25ccad9f843bb5c0283e07afaa470f8eb751caa60269f28676e5818417"), looks := true }, kinds := [], alts := [], laidByText := true, laidKinds := [.data, .data, .data, .data, .sentinel, .sentinel, .pinned], laidTests := true, laidLooks := .later }
def TurnsArePlayedCardSaid : Prop := Claim7.holds Tryz.pinned (.plain (OpenSpec.ofChange turnsArePlayedSpec)) turnsArePlayedCard

/-- THE TIED CARD OF 'handlaw1.CondReasons'. -/
def condReasonsCard : Claim7 := { stood := { row := condReasonsRow, standIns := [], harness := (true, "844e9f25ccad9f843bb5c0283e07afaa470f8eb751caa60269f28676e5818417"), looks := true }, kinds := [], alts := [], laidByText := true, laidKinds := [.data, .data, .data, .data, .sentinel, .sentinel, .listed, .data, .pinned], laidTests := true, laidLooks := .later }
def CondReasonsCardSaid : Prop := Claim7.holds Tryz.pinned (.plain (OpenSpec.ofChange condReasonsSpec)) condReasonsCard

/-- THE SECOND FORM's CARD OF 'handkeep1.ReasonsSuffice'. -/
def reasonsSufficeUptoCard : Claim7 := { stood := { row := reasonsSufficeUptoRow, standIns := [], harness := (true, "844e9f25ccad9f843bb5c0283e07afaa470f8eb751caa60269f28676e5818417"), looks := true }, kinds := [], alts := [], laidByText := true, laidKinds := [.data, .data, .data, .data, .sentinel, .sentinel, .pinned], laidTests := true, laidLooks := .later }
def ReasonsSufficeUptoCardSaid : Prop := Claim7.holds Tryz.pinned (.plain (OpenSpec.upto reasonsSufficeSpec)) reasonsSufficeUptoCard

/-- THE SECOND FORM's CARD OF 'handkeep1.TurnsArePlayed'. -/
def turnsArePlayedUptoCard : Claim7 := { stood := { row := turnsArePlayedUptoRow, standIns := [], harness := (true, "844e9f25ccad9f843bb5c0283e07afaa470f8eb751caa60269f28676e5818417"), looks := true }, kinds := [], alts := [], laidByText := true, laidKinds := [.data, .data, .data, .data, .sentinel, .sentinel, .pinned], laidTests := true, laidLooks := .later }
def TurnsArePlayedUptoCardSaid : Prop := Claim7.holds Tryz.pinned (.plain (OpenSpec.upto turnsArePlayedSpec)) turnsArePlayedUptoCard

/-- THE SECOND FORM's CARD OF 'handlaw1.CondReasons'. -/
def condReasonsUptoCard : Claim7 := { stood := { row := condReasonsUptoRow, standIns := [], harness := (true, "844e9f25ccad9f843bb5c0283e07afaa470f8eb751caa60269f28676e5818417"), looks := true }, kinds := [], alts := [], laidByText := true, laidKinds := [.data, .data, .data, .data, .sentinel, .sentinel, .listed, .data, .pinned], laidTests := true, laidLooks := .later }
def CondReasonsUptoCardSaid : Prop := Claim7.holds Tryz.pinned (.plain (OpenSpec.upto condReasonsSpec)) condReasonsUptoCard
end Rows
end Go.Proofs.YteldpijfienopaaGreatDoor
