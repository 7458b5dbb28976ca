/-
  No cell of these rows narrows 'for every input' (looked for: loops, veiled, ifaces, maps, wideKeys, modest, calm, conditions, laid).
  DERIVED. THE GIVEN ROWS OF THIS SEAT. 9 by the template 'for every input the law returns true; each argument reads behind the call as it read before'; 0 by the template 'total and deterministic' (their statements: YtihnjdhjkpmggaaTotals.lean).
  GIVEN WITH THE SEED: the statements are not yours to turn. If you find one false, say at which input.
  Laid BY PROGRAM, IN A SANDBOX (cutbox-rows.mjs): the forced cells as the released guide's own fill.sh prints them over the translation 0421c1b1d8ffabfc… (all of the seat's roots in one cut). By AI agents, Wed Nov 11 2026. No macro, syntax, notation, axiom, sorry.
-/
import Derived.Test.YtihnjdhjkpmggaaChecked
import GoSem.Claim
import GoSem.ClaimJoined
import GoSem.ClaimMapViews
import Derived.JoinedTies
import Derived.KernelRfl
namespace Go.Proofs.Ytihnjdhjkpmggaa
/- THE CELL 'sum', in the pinned program and in every row, IS THE sha256 OF THE DUMP (.gsa) THAT YtihnjdhjkpmggaaProg.lean LOADS. Nothing in Lean hashes anything: it is a label: what it is worth is what the hold of that sum in a sandbox is worth. -/
noncomputable def Try.pinned : Pinned := { name := "ytihnjdhjkpmggaa", sum := "0421c1b1d8ffabfc3bbc09a91381494af691c715a26819c408fab3baaf63d239", checked := Try.checked }
namespace Rows
def none {H : Type} : Left H := { results := [], args := [] }

/-- 'handkeep1.TestsTurn': WHATEVER THE INPUT: true; the input reads as it did. -/
def testsTurnSpec : ChangeSpec := { name := "testsTurn", fn := fun _ => fun
  | [d] => { results := [.lit (.bool true)], args := [d] }
  | _ => none }
def testsTurnRow : OpenClaim := { program := "ytihnjdhjkpmggaa", sum := "0421c1b1d8ffabfc3bbc09a91381494af691c715a26819c408fab3baaf63d239", func := "handbill/handkeep1.TestsTurn", spec := "testsTurn", unfollowed := true, recurses := true, apart := false }
def TestsTurnSaid : Prop := testsTurnRow.holds Try.pinned (OpenSpec.ofChange testsTurnSpec)

/-- ITS FALSE NEIGHBOUR: 'it returns false'. Refute it at one input. -/
def testsTurnWrong : ChangeSpec := { name := "testsTurn", fn := fun _ => fun
  | [d] => { results := [.lit (.bool false)], args := [d] }
  | _ => none }
def TestsTurnWrongFalsely : Prop := testsTurnRow.holds Try.pinned (OpenSpec.ofChange testsTurnWrong)

/-- 'handlaw1.FractionsReduced': WHATEVER THE INPUT: true; the input reads as it did. -/
def fractionsReducedSpec : ChangeSpec := { name := "fractionsReduced", fn := fun _ => fun
  | [d] => { results := [.lit (.bool true)], args := [d] }
  | _ => none }
def fractionsReducedRow : OpenClaim := { program := "ytihnjdhjkpmggaa", sum := "0421c1b1d8ffabfc3bbc09a91381494af691c715a26819c408fab3baaf63d239", func := "handbill/handlaw1.FractionsReduced", spec := "fractionsReduced", recurses := true, apart := false }
def FractionsReducedSaid : Prop := fractionsReducedRow.holds Try.pinned (OpenSpec.ofChange fractionsReducedSpec)

/-- ITS FALSE NEIGHBOUR: 'it returns false'. Refute it at one input. -/
def fractionsReducedWrong : ChangeSpec := { name := "fractionsReduced", fn := fun _ => fun
  | [d] => { results := [.lit (.bool false)], args := [d] }
  | _ => none }
def FractionsReducedWrongFalsely : Prop := fractionsReducedRow.holds Try.pinned (OpenSpec.ofChange fractionsReducedWrong)

/-- 'handkeep1.CodesNotice': WHATEVER THE INPUT: true; the input reads as it did. -/
def codesNoticeSpec : ChangeSpec := { name := "codesNotice", fn := fun _ => fun
  | [d] => { results := [.lit (.bool true)], args := [d] }
  | _ => none }
def codesNoticeRow : OpenClaim := { program := "ytihnjdhjkpmggaa", sum := "0421c1b1d8ffabfc3bbc09a91381494af691c715a26819c408fab3baaf63d239", func := "handbill/handkeep1.CodesNotice", spec := "codesNotice", inPlace := ["internal/bytealg.IndexByteString", "internal/abi.NoEscape", "internal/bytealg.MakeNoZero"], apart := false }
def CodesNoticeSaid : Prop := codesNoticeRow.holds Try.pinned (OpenSpec.ofChange codesNoticeSpec)

/-- ITS FALSE NEIGHBOUR: 'it returns false'. Refute it at one input. -/
def codesNoticeWrong : ChangeSpec := { name := "codesNotice", fn := fun _ => fun
  | [d] => { results := [.lit (.bool false)], args := [d] }
  | _ => none }
def CodesNoticeWrongFalsely : Prop := codesNoticeRow.holds Try.pinned (OpenSpec.ofChange codesNoticeWrong)

/-- 'handlaw1.TestsExact': WHATEVER THE INPUT: true; the input reads as it did. -/
def testsExactSpec : ChangeSpec := { name := "testsExact", fn := fun _ => fun
  | [d] => { results := [.lit (.bool true)], args := [d] }
  | _ => none }
def testsExactRow : OpenClaim := { program := "ytihnjdhjkpmggaa", sum := "0421c1b1d8ffabfc3bbc09a91381494af691c715a26819c408fab3baaf63d239", func := "handbill/handlaw1.TestsExact", spec := "testsExact", unfollowed := true, recurses := true, apart := false }
def TestsExactSaid : Prop := testsExactRow.holds Try.pinned (OpenSpec.ofChange testsExactSpec)

/-- ITS FALSE NEIGHBOUR: 'it returns false'. Refute it at one input. -/
def testsExactWrong : ChangeSpec := { name := "testsExact", fn := fun _ => fun
  | [d] => { results := [.lit (.bool false)], args := [d] }
  | _ => none }
def TestsExactWrongFalsely : Prop := testsExactRow.holds Try.pinned (OpenSpec.ofChange testsExactWrong)

/-- 'handkeep1.CodesCount': WHATEVER THE INPUT: true; the input reads as it did. -/
def codesCountSpec : ChangeSpec := { name := "codesCount", fn := fun _ => fun
  | [d] => { results := [.lit (.bool true)], args := [d] }
  | _ => none }
def codesCountRow : OpenClaim := { program := "ytihnjdhjkpmggaa", sum := "0421c1b1d8ffabfc3bbc09a91381494af691c715a26819c408fab3baaf63d239", func := "handbill/handkeep1.CodesCount", spec := "codesCount", inPlace := ["internal/bytealg.IndexByteString"], named := ["math/bits.divideError", "math/bits.overflowError"], apart := false }
def CodesCountSaid : Prop := codesCountRow.holds Try.pinned (OpenSpec.ofChange codesCountSpec)

/-- ITS FALSE NEIGHBOUR: 'it returns false'. Refute it at one input. -/
def codesCountWrong : ChangeSpec := { name := "codesCount", fn := fun _ => fun
  | [d] => { results := [.lit (.bool false)], args := [d] }
  | _ => none }
def CodesCountWrongFalsely : Prop := codesCountRow.holds Try.pinned (OpenSpec.ofChange codesCountWrong)

/-- 'handkeep1.FoldsAddUp': WHATEVER THE INPUT: true; the input reads as it did. -/
def foldsAddUpSpec : ChangeSpec := { name := "foldsAddUp", fn := fun _ => fun
  | [d] => { results := [.lit (.bool true)], args := [d] }
  | _ => none }
def foldsAddUpRow : OpenClaim := { program := "ytihnjdhjkpmggaa", sum := "0421c1b1d8ffabfc3bbc09a91381494af691c715a26819c408fab3baaf63d239", func := "handbill/handkeep1.FoldsAddUp", spec := "foldsAddUp", unfollowed := true, recurses := true, apart := false }
def FoldsAddUpSaid : Prop := foldsAddUpRow.holds Try.pinned (OpenSpec.ofChange foldsAddUpSpec)

/-- ITS FALSE NEIGHBOUR: 'it returns false'. Refute it at one input. -/
def foldsAddUpWrong : ChangeSpec := { name := "foldsAddUp", fn := fun _ => fun
  | [d] => { results := [.lit (.bool false)], args := [d] }
  | _ => none }
def FoldsAddUpWrongFalsely : Prop := foldsAddUpRow.holds Try.pinned (OpenSpec.ofChange foldsAddUpWrong)

/-- 'handlaw1.CentsShared': WHATEVER THE INPUT: true; the input reads as it did. -/
def centsSharedSpec : ChangeSpec := { name := "centsShared", fn := fun _ => fun
  | [d] => { results := [.lit (.bool true)], args := [d] }
  | _ => none }
def centsSharedRow : OpenClaim := { program := "ytihnjdhjkpmggaa", sum := "0421c1b1d8ffabfc3bbc09a91381494af691c715a26819c408fab3baaf63d239", func := "handbill/handlaw1.CentsShared", spec := "centsShared", inPlace := ["internal/bytealg.IndexByteString"], unfollowed := true, recurses := true, named := ["math/bits.divideError", "math/bits.overflowError"], apart := false }
def CentsSharedSaid : Prop := centsSharedRow.holds Try.pinned (OpenSpec.ofChange centsSharedSpec)

/-- ITS FALSE NEIGHBOUR: 'it returns false'. Refute it at one input. -/
def centsSharedWrong : ChangeSpec := { name := "centsShared", fn := fun _ => fun
  | [d] => { results := [.lit (.bool false)], args := [d] }
  | _ => none }
def CentsSharedWrongFalsely : Prop := centsSharedRow.holds Try.pinned (OpenSpec.ofChange centsSharedWrong)

/-- 'handlaw1.QuantilesFound': WHATEVER THE INPUT: true; the input reads as it did. -/
def quantilesFoundSpec : ChangeSpec := { name := "quantilesFound", fn := fun _ => fun
  | [d] => { results := [.lit (.bool true)], args := [d] }
  | _ => none }
def quantilesFoundRow : OpenClaim := { program := "ytihnjdhjkpmggaa", sum := "0421c1b1d8ffabfc3bbc09a91381494af691c715a26819c408fab3baaf63d239", func := "handbill/handlaw1.QuantilesFound", spec := "quantilesFound", unfollowed := true, recurses := true, apart := false }
def QuantilesFoundSaid : Prop := quantilesFoundRow.holds Try.pinned (OpenSpec.ofChange quantilesFoundSpec)

/-- ITS FALSE NEIGHBOUR: 'it returns false'. Refute it at one input. -/
def quantilesFoundWrong : ChangeSpec := { name := "quantilesFound", fn := fun _ => fun
  | [d] => { results := [.lit (.bool false)], args := [d] }
  | _ => none }
def QuantilesFoundWrongFalsely : Prop := quantilesFoundRow.holds Try.pinned (OpenSpec.ofChange quantilesFoundWrong)

/-- 'handkeep1.SharesAddUp': WHATEVER THE INPUT: true; the input reads as it did. -/
def sharesAddUpSpec : ChangeSpec := { name := "sharesAddUp", fn := fun _ => fun
  | [d1, d2] => { results := [.lit (.bool true)], args := [d1, d2] }
  | _ => none }
def sharesAddUpRow : OpenClaim := { program := "ytihnjdhjkpmggaa", sum := "0421c1b1d8ffabfc3bbc09a91381494af691c715a26819c408fab3baaf63d239", func := "handbill/handkeep1.SharesAddUp", spec := "sharesAddUp", unfollowed := true, recurses := true, apart := false }
def SharesAddUpSaid : Prop := sharesAddUpRow.holds Try.pinned (OpenSpec.ofChange sharesAddUpSpec)

/-- ITS FALSE NEIGHBOUR: 'it returns false'. Refute it at one input. -/
def sharesAddUpWrong : ChangeSpec := { name := "sharesAddUp", fn := fun _ => fun
  | [d1, d2] => { results := [.lit (.bool false)], args := [d1, d2] }
  | _ => none }
def SharesAddUpWrongFalsely : Prop := sharesAddUpRow.holds Try.pinned (OpenSpec.ofChange sharesAddUpWrong)

/- THE SECOND FORM. 'bulk': how many values and letters a reading holds, each counted each time it is reached (what is shared counts as often as it is met; a slice's spare places count too). A statement '..UptoSaid' is the law's where the arguments, and the package variables that the reading takes, are together of bulk at most 1048576: NARROWER than '..Said'. Prove '..Said' where nothing that the law and all that it calls make is longer than what came in: it says more and counts as full. Else prove '..UptoSaid'. A law counts once. -/
mutual
def uptoBulk {H : Type} : DataW H → Nat
  | .lit (.string bytes) => bytes.length + 1
  | .lit _ => 1
  | .nil => 1
  | .ptr d => uptoBulk d + 1
  | .slice elems spare => uptoBulkAll elems + uptoBulkAll spare + 1
  | .agg parts => uptoBulkAll parts + 1
  | .iface _ d => uptoBulk d + 1
  | .map entries => uptoBulkEntries entries + 1
  | .held _ => 1
def uptoBulkAll {H : Type} : List (DataW H) → Nat
  | [] => 0
  | d :: r => uptoBulk d + uptoBulkAll r
def uptoBulkEntries {H : Type} : List (Lit × DataW H) → Nat
  | [] => 0
  | x :: r => uptoBulkEntry x + uptoBulkEntries r
def uptoBulkEntry {H : Type} : Lit × DataW H → Nat
  | (.string bytes, d) => bytes.length + uptoBulk d + 1
  | (_, d) => uptoBulk d + 1
 end
def uptoSmall : (H : Type) → List (DataW H) → Bool := fun _ ds => decide (uptoBulkAll ds ≤ 1048576)
def OpenSpec.upto (s : _root_.Go.ChangeSpec) : _root_.Go.OpenSpec := { _root_.Go.OpenSpec.ofChange s with cond := some uptoSmall }

/-- 'handkeep1.TestsTurn', WHERE WHAT IT READS IS OF BULK AT MOST 1048576: true; the input reads as it did. -/
def testsTurnUptoRow : OpenClaim := { program := "ytihnjdhjkpmggaa", sum := "0421c1b1d8ffabfc3bbc09a91381494af691c715a26819c408fab3baaf63d239", func := "handbill/handkeep1.TestsTurn", spec := "testsTurn", unfollowed := true, recurses := true, apart := false, narrowed := true }
def TestsTurnUptoSaid : Prop := testsTurnUptoRow.holds Try.pinned (OpenSpec.upto testsTurnSpec)

/-- 'handlaw1.FractionsReduced', WHERE WHAT IT READS IS OF BULK AT MOST 1048576: true; the input reads as it did. -/
def fractionsReducedUptoRow : OpenClaim := { program := "ytihnjdhjkpmggaa", sum := "0421c1b1d8ffabfc3bbc09a91381494af691c715a26819c408fab3baaf63d239", func := "handbill/handlaw1.FractionsReduced", spec := "fractionsReduced", recurses := true, apart := false, narrowed := true }
def FractionsReducedUptoSaid : Prop := fractionsReducedUptoRow.holds Try.pinned (OpenSpec.upto fractionsReducedSpec)

/-- 'handkeep1.CodesNotice', WHERE WHAT IT READS IS OF BULK AT MOST 1048576: true; the input reads as it did. -/
def codesNoticeUptoRow : OpenClaim := { program := "ytihnjdhjkpmggaa", sum := "0421c1b1d8ffabfc3bbc09a91381494af691c715a26819c408fab3baaf63d239", func := "handbill/handkeep1.CodesNotice", spec := "codesNotice", inPlace := ["internal/bytealg.IndexByteString", "internal/abi.NoEscape", "internal/bytealg.MakeNoZero"], apart := false, narrowed := true }
def CodesNoticeUptoSaid : Prop := codesNoticeUptoRow.holds Try.pinned (OpenSpec.upto codesNoticeSpec)

/-- 'handlaw1.TestsExact', WHERE WHAT IT READS IS OF BULK AT MOST 1048576: true; the input reads as it did. -/
def testsExactUptoRow : OpenClaim := { program := "ytihnjdhjkpmggaa", sum := "0421c1b1d8ffabfc3bbc09a91381494af691c715a26819c408fab3baaf63d239", func := "handbill/handlaw1.TestsExact", spec := "testsExact", unfollowed := true, recurses := true, apart := false, narrowed := true }
def TestsExactUptoSaid : Prop := testsExactUptoRow.holds Try.pinned (OpenSpec.upto testsExactSpec)

/-- 'handkeep1.CodesCount', WHERE WHAT IT READS IS OF BULK AT MOST 1048576: true; the input reads as it did. -/
def codesCountUptoRow : OpenClaim := { program := "ytihnjdhjkpmggaa", sum := "0421c1b1d8ffabfc3bbc09a91381494af691c715a26819c408fab3baaf63d239", func := "handbill/handkeep1.CodesCount", spec := "codesCount", inPlace := ["internal/bytealg.IndexByteString"], named := ["math/bits.divideError", "math/bits.overflowError"], apart := false, narrowed := true }
def CodesCountUptoSaid : Prop := codesCountUptoRow.holds Try.pinned (OpenSpec.upto codesCountSpec)

/-- 'handkeep1.FoldsAddUp', WHERE WHAT IT READS IS OF BULK AT MOST 1048576: true; the input reads as it did. -/
def foldsAddUpUptoRow : OpenClaim := { program := "ytihnjdhjkpmggaa", sum := "0421c1b1d8ffabfc3bbc09a91381494af691c715a26819c408fab3baaf63d239", func := "handbill/handkeep1.FoldsAddUp", spec := "foldsAddUp", unfollowed := true, recurses := true, apart := false, narrowed := true }
def FoldsAddUpUptoSaid : Prop := foldsAddUpUptoRow.holds Try.pinned (OpenSpec.upto foldsAddUpSpec)

/-- 'handlaw1.CentsShared', WHERE WHAT IT READS IS OF BULK AT MOST 1048576: true; the input reads as it did. -/
def centsSharedUptoRow : OpenClaim := { program := "ytihnjdhjkpmggaa", sum := "0421c1b1d8ffabfc3bbc09a91381494af691c715a26819c408fab3baaf63d239", func := "handbill/handlaw1.CentsShared", spec := "centsShared", inPlace := ["internal/bytealg.IndexByteString"], unfollowed := true, recurses := true, named := ["math/bits.divideError", "math/bits.overflowError"], apart := false, narrowed := true }
def CentsSharedUptoSaid : Prop := centsSharedUptoRow.holds Try.pinned (OpenSpec.upto centsSharedSpec)

/-- 'handlaw1.QuantilesFound', WHERE WHAT IT READS IS OF BULK AT MOST 1048576: true; the input reads as it did. -/
def quantilesFoundUptoRow : OpenClaim := { program := "ytihnjdhjkpmggaa", sum := "0421c1b1d8ffabfc3bbc09a91381494af691c715a26819c408fab3baaf63d239", func := "handbill/handlaw1.QuantilesFound", spec := "quantilesFound", unfollowed := true, recurses := true, apart := false, narrowed := true }
def QuantilesFoundUptoSaid : Prop := quantilesFoundUptoRow.holds Try.pinned (OpenSpec.upto quantilesFoundSpec)

/-- 'handkeep1.SharesAddUp', WHERE WHAT IT READS IS OF BULK AT MOST 1048576: true; the input reads as it did. -/
def sharesAddUpUptoRow : OpenClaim := { program := "ytihnjdhjkpmggaa", sum := "0421c1b1d8ffabfc3bbc09a91381494af691c715a26819c408fab3baaf63d239", func := "handbill/handkeep1.SharesAddUp", spec := "sharesAddUp", unfollowed := true, recurses := true, apart := false, narrowed := true }
def SharesAddUpUptoSaid : Prop := sharesAddUpUptoRow.holds Try.pinned (OpenSpec.upto sharesAddUpSpec)

end Rows
end Go.Proofs.Ytihnjdhjkpmggaa
