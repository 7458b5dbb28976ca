/-
  NARROWER THAN 'FOR EVERY INPUT', by the rows' own cells (each row's printed sentence says how): SentChecks: laid · ArmsDrawn: laid · PursesHold: laid.
  DERIVED. THE GIVEN ROWS OF THIS SEAT. 3 by the template 'for every input the law returns true; each argument reads behind the call as it read before'; 0 by the template 'total and deterministic' (their statements: YtihnjdhjkpmggaaDoorTotals.lean).
  GIVEN WITH THE SEED: the statements are not yours to turn. If you find one false, say at which input.
  Laid BY PROGRAM, IN A SANDBOX (cutbox-rows.mjs): the forced cells as the released guide's own fill.sh prints them over the translation 64e2e4b380a22e55… (all of the seat's roots in one cut). By AI agents, Wed Nov 11 2026. No macro, syntax, notation, axiom, sorry.
-/
import Derived.Test.YtihnjdhjkpmggaaDoorChecked
import GoSem.PinnedTables
import GoSem.Claim
import GoSem.ClaimJoined
import GoSem.ClaimMapViews
import Derived.JoinedTies
import Derived.KernelRfl
namespace Go.Proofs.YtihnjdhjkpmggaaDoor
/- THE CELL 'sum', in the pinned program and in every row, IS THE sha256 OF THE DUMP (.gsa) THAT YtihnjdhjkpmggaaDoorProg.lean LOADS. Nothing in Lean hashes anything: it is a label: what it is worth is what the hold of that sum in a sandbox is worth. -/
noncomputable def Tryd.pinned : Pinned := { name := "ytihnjdhjkpmggaadoor", sum := "64e2e4b380a22e556ab62073aefcfa04e2dd0fc34da9ec4cfa50f06a47c4eb3e", checked := Tryd.checked }
namespace Rows
def none {H : Type} : Left H := { results := [], args := [] }

/- WHAT THE LISTED PACKAGE-LEVEL VARIABLES READ AS WHEN THE CALL BEGINS. Each datum BY PROGRAM (the guide's laid-datum.mjs) off the statement by which the dump's own 'gosem.cut.vars' lays the variable. In a bare row this is a premise. The card (YtihnjdhjkpmggaaDoorCards.lean) ties it to the program's text. -/
def laid_unicode_utf8_acceptRanges {H : Type} : DataW H := .agg [.agg [.lit (.int .u8 128), .lit (.int .u8 191)], .agg [.lit (.int .u8 160), .lit (.int .u8 191)], .agg [.lit (.int .u8 128), .lit (.int .u8 159)], .agg [.lit (.int .u8 144), .lit (.int .u8 191)], .agg [.lit (.int .u8 128), .lit (.int .u8 143)], .agg [.lit (.int .u8 0), .lit (.int .u8 0)], .agg [.lit (.int .u8 0), .lit (.int .u8 0)], .agg [.lit (.int .u8 0), .lit (.int .u8 0)], .agg [.lit (.int .u8 0), .lit (.int .u8 0)], .agg [.lit (.int .u8 0), .lit (.int .u8 0)], .agg [.lit (.int .u8 0), .lit (.int .u8 0)], .agg [.lit (.int .u8 0), .lit (.int .u8 0)], .agg [.lit (.int .u8 0), .lit (.int .u8 0)], .agg [.lit (.int .u8 0), .lit (.int .u8 0)], .agg [.lit (.int .u8 0), .lit (.int .u8 0)], .agg [.lit (.int .u8 0), .lit (.int .u8 0)]]
/-- One of Go's own tables, pinned by name: the form's constant. -/
def laid_unicode_utf8_first : DataW Unit := Go.Pinned.utf8First

/-- 'handlaw1.SentChecks': WHATEVER THE INPUT: true; the input reads as it did. -/
def sentChecksSpec : ChangeSpec := { name := "sentChecks", fn := fun _ => fun
  | [d] => { results := [.lit (.bool true)], args := [d] }
  | _ => none }
def sentChecksRow : OpenClaim := { program := "ytihnjdhjkpmggaadoor", sum := "64e2e4b380a22e556ab62073aefcfa04e2dd0fc34da9ec4cfa50f06a47c4eb3e", func := "handbill/handlaw1.SentChecks", spec := "sentChecks", inPlace := ["internal/bytealg.IndexByteString", "internal/bytealg.IndexString"], unfollowed := true, recurses := true, named := ["unicode/utf8.first", "unicode/utf8.acceptRanges", "internal/bytealg.MaxLen"], apart := false, laid := [("unicode/utf8.acceptRanges", laid_unicode_utf8_acceptRanges), ("unicode/utf8.first", laid_unicode_utf8_first)] }
def SentChecksSaid : Prop := sentChecksRow.holds Tryd.pinned (OpenSpec.ofChange sentChecksSpec)

/-- ITS FALSE NEIGHBOUR: 'it returns false'. Refute it at one input. -/
def sentChecksWrong : ChangeSpec := { name := "sentChecks", fn := fun _ => fun
  | [d] => { results := [.lit (.bool false)], args := [d] }
  | _ => none }
def SentChecksWrongFalsely : Prop := sentChecksRow.holds Tryd.pinned (OpenSpec.ofChange sentChecksWrong)

/-- 'handlaw1.ArmsDrawn': WHATEVER THE INPUT: true; the input reads as it did. -/
def armsDrawnSpec : ChangeSpec := { name := "armsDrawn", fn := fun _ => fun
  | [d] => { results := [.lit (.bool true)], args := [d] }
  | _ => none }
def armsDrawnRow : OpenClaim := { program := "ytihnjdhjkpmggaadoor", sum := "64e2e4b380a22e556ab62073aefcfa04e2dd0fc34da9ec4cfa50f06a47c4eb3e", func := "handbill/handlaw1.ArmsDrawn", spec := "armsDrawn", inPlace := ["internal/bytealg.IndexByteString", "internal/bytealg.IndexString"], unfollowed := true, recurses := true, named := ["unicode/utf8.first", "unicode/utf8.acceptRanges", "internal/bytealg.MaxLen"], apart := false, laid := [("unicode/utf8.acceptRanges", laid_unicode_utf8_acceptRanges), ("unicode/utf8.first", laid_unicode_utf8_first)] }
def ArmsDrawnSaid : Prop := armsDrawnRow.holds Tryd.pinned (OpenSpec.ofChange armsDrawnSpec)

/-- ITS FALSE NEIGHBOUR: 'it returns false'. Refute it at one input. -/
def armsDrawnWrong : ChangeSpec := { name := "armsDrawn", fn := fun _ => fun
  | [d] => { results := [.lit (.bool false)], args := [d] }
  | _ => none }
def ArmsDrawnWrongFalsely : Prop := armsDrawnRow.holds Tryd.pinned (OpenSpec.ofChange armsDrawnWrong)

/-- 'handkeep1.PursesHold': WHATEVER THE INPUT: true; the input reads as it did. -/
def pursesHoldSpec : ChangeSpec := { name := "pursesHold", fn := fun _ => fun
  | [d] => { results := [.lit (.bool true)], args := [d] }
  | _ => none }
def pursesHoldRow : OpenClaim := { program := "ytihnjdhjkpmggaadoor", sum := "64e2e4b380a22e556ab62073aefcfa04e2dd0fc34da9ec4cfa50f06a47c4eb3e", func := "handbill/handkeep1.PursesHold", spec := "pursesHold", inPlace := ["internal/bytealg.IndexByteString", "internal/bytealg.IndexString"], unfollowed := true, recurses := true, named := ["unicode/utf8.first", "unicode/utf8.acceptRanges", "internal/bytealg.MaxLen"], apart := false, laid := [("unicode/utf8.acceptRanges", laid_unicode_utf8_acceptRanges), ("unicode/utf8.first", laid_unicode_utf8_first)] }
def PursesHoldSaid : Prop := pursesHoldRow.holds Tryd.pinned (OpenSpec.ofChange pursesHoldSpec)

/-- ITS FALSE NEIGHBOUR: 'it returns false'. Refute it at one input. -/
def pursesHoldWrong : ChangeSpec := { name := "pursesHold", fn := fun _ => fun
  | [d] => { results := [.lit (.bool false)], args := [d] }
  | _ => none }
def PursesHoldWrongFalsely : Prop := pursesHoldRow.holds Tryd.pinned (OpenSpec.ofChange pursesHoldWrong)

/- THE SECOND FORM. 'bulk': how many values and letters a reading holds, each counted each time it is reached (what is shared counts as often as it is met; a slice's spare places count too). A statement '..UptoSaid' is the law's where the arguments, and the package variables that the reading takes, are together of bulk at most 1048576: NARROWER than '..Said'. Prove '..Said' where nothing that the law and all that it calls make is longer than what came in: it says more and counts as full. Else prove '..UptoSaid'. A law counts once. -/
mutual
def uptoBulk {H : Type} : DataW H → Nat
  | .lit (.string bytes) => bytes.length + 1
  | .lit _ => 1
  | .nil => 1
  | .ptr d => uptoBulk d + 1
  | .slice elems spare => uptoBulkAll elems + uptoBulkAll spare + 1
  | .agg parts => uptoBulkAll parts + 1
  | .iface _ d => uptoBulk d + 1
  | .map entries => uptoBulkEntries entries + 1
  | .held _ => 1
def uptoBulkAll {H : Type} : List (DataW H) → Nat
  | [] => 0
  | d :: r => uptoBulk d + uptoBulkAll r
def uptoBulkEntries {H : Type} : List (Lit × DataW H) → Nat
  | [] => 0
  | x :: r => uptoBulkEntry x + uptoBulkEntries r
def uptoBulkEntry {H : Type} : Lit × DataW H → Nat
  | (.string bytes, d) => bytes.length + uptoBulk d + 1
  | (_, d) => uptoBulk d + 1
 end
def uptoSmall : (H : Type) → List (DataW H) → Bool := fun _ ds => decide (uptoBulkAll ds ≤ 1048576)
def OpenSpec.upto (s : _root_.Go.ChangeSpec) : _root_.Go.OpenSpec := { _root_.Go.OpenSpec.ofChange s with cond := some uptoSmall }

/-- 'handlaw1.SentChecks', WHERE WHAT IT READS IS OF BULK AT MOST 1048576: true; the input reads as it did. -/
def sentChecksUptoRow : OpenClaim := { program := "ytihnjdhjkpmggaadoor", sum := "64e2e4b380a22e556ab62073aefcfa04e2dd0fc34da9ec4cfa50f06a47c4eb3e", func := "handbill/handlaw1.SentChecks", spec := "sentChecks", inPlace := ["internal/bytealg.IndexByteString", "internal/bytealg.IndexString"], unfollowed := true, recurses := true, named := ["unicode/utf8.first", "unicode/utf8.acceptRanges", "internal/bytealg.MaxLen"], apart := false, laid := [("unicode/utf8.acceptRanges", laid_unicode_utf8_acceptRanges), ("unicode/utf8.first", laid_unicode_utf8_first)], narrowed := true }
def SentChecksUptoSaid : Prop := sentChecksUptoRow.holds Tryd.pinned (OpenSpec.upto sentChecksSpec)

/-- 'handlaw1.ArmsDrawn', WHERE WHAT IT READS IS OF BULK AT MOST 1048576: true; the input reads as it did. -/
def armsDrawnUptoRow : OpenClaim := { program := "ytihnjdhjkpmggaadoor", sum := "64e2e4b380a22e556ab62073aefcfa04e2dd0fc34da9ec4cfa50f06a47c4eb3e", func := "handbill/handlaw1.ArmsDrawn", spec := "armsDrawn", inPlace := ["internal/bytealg.IndexByteString", "internal/bytealg.IndexString"], unfollowed := true, recurses := true, named := ["unicode/utf8.first", "unicode/utf8.acceptRanges", "internal/bytealg.MaxLen"], apart := false, laid := [("unicode/utf8.acceptRanges", laid_unicode_utf8_acceptRanges), ("unicode/utf8.first", laid_unicode_utf8_first)], narrowed := true }
def ArmsDrawnUptoSaid : Prop := armsDrawnUptoRow.holds Tryd.pinned (OpenSpec.upto armsDrawnSpec)

/-- 'handkeep1.PursesHold', WHERE WHAT IT READS IS OF BULK AT MOST 1048576: true; the input reads as it did. -/
def pursesHoldUptoRow : OpenClaim := { program := "ytihnjdhjkpmggaadoor", sum := "64e2e4b380a22e556ab62073aefcfa04e2dd0fc34da9ec4cfa50f06a47c4eb3e", func := "handbill/handkeep1.PursesHold", spec := "pursesHold", inPlace := ["internal/bytealg.IndexByteString", "internal/bytealg.IndexString"], unfollowed := true, recurses := true, named := ["unicode/utf8.first", "unicode/utf8.acceptRanges", "internal/bytealg.MaxLen"], apart := false, laid := [("unicode/utf8.acceptRanges", laid_unicode_utf8_acceptRanges), ("unicode/utf8.first", laid_unicode_utf8_first)], narrowed := true }
def PursesHoldUptoSaid : Prop := pursesHoldUptoRow.holds Tryd.pinned (OpenSpec.upto pursesHoldSpec)

end Rows
end Go.Proofs.YtihnjdhjkpmggaaDoor
