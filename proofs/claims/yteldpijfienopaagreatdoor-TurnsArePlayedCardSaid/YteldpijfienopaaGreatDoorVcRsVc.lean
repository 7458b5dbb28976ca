/- Formulas of the functions that ReasonsSuffice reaches. -/
import Derived.Test.YteldpijfienopaaGreatDoorVcOwns
import Derived.Test.YteldpijfienopaaGreatDoorVcBits
import Derived.Test.YteldpijfienopaaGreatDoorProg
set_option linter.unusedVariables false
set_option maxRecDepth 100000
namespace Go.Proofs.YteldpijfienopaaGreatDoorVc
/-- handbill/handkeep1.ReasonsSuffice -/
def vc3 (I : FuncId → List V → Post → T) (l0 : Sl) (Q : Post) : T :=
 fun h1 =>
 (newK (.cells false [.slice 1 l0, .int .i64 0]) (fun i2 h3 =>
 I 6 [.one (.ptr (some (i2, 0))), .one (.int .i64 3)]
 (fun cs4 h5 =>
 ∃ n6 : Int, ∃ s7 : ByteArray, ∃ s8 : ByteArray, ∃ s9 : ByteArray, ∃ l10 : Sl, ∃ l11 : Sl, ∃ n12 : Int, ∃ n13 : Int, ∃ l14 : Sl, (cs4 = [.agg [.int .i64 n6, .str s7, .str s8, .str s9, .slice 3 l10, .slice 5 l11, .int .i64 n12, .int .i64 n13, .slice 9 l14]]) ∧
 I 7 [.one (.ptr (some (i2, 0)))]
 (fun cs15 h16 =>
 ∃ l17 : Sl, (cs15 = [.one (.slice 4 l17)]) ∧
 I 8 [.one (.ptr (some (i2, 0))), .one (.int .i64 6)]
 (fun cs18 h19 =>
 ∃ l20 : Sl, (cs18 = [.one (.slice 6 l20)]) ∧
 I 9 [.one (.ptr (some (i2, 0))), .one (.int .i64 2000)]
 (fun cs21 h22 =>
 ∃ n23 : Int, (cs21 = [.one (.int .i64 n23)]) ∧
 I 10 [.agg [.int .i64 n6, .str s7, .str s8, .str s9, .slice 3 l10, .slice 5 l11, .int .i64 n12, .int .i64 n13, .slice 9 l14], .one (.slice 4 l17), .one (.slice 6 l20), .one (.int .i64 n23)]
 (fun cs24 h25 =>
 ∃ l26 : Sl, ∃ n27 : Int, (cs24 = [.one (.slice 9 l26), .one (.int .i64 n27)]) ∧
 I 11 [.agg [.int .i64 n6, .str s7, .str s8, .str s9, .slice 3 l10, .slice 5 l11, .int .i64 n12, .int .i64 n13, .slice 9 l14], .one (.slice 4 l17), .one (.slice 6 l20), .one (.int .i64 n23)]
 (fun cs28 h29 =>
 ∃ b30 : Bool, ∃ n31 : Int, (cs28 = [.one (.bool b30), .one (.int .i64 n31)]) ∧
 (joinK (A := Bool)
 (fun b32 => ifT b32
 (Q [.one (.bool false)])
 (loopK (A := Sl × Sl × Int × Int) ((l17, l20, n23, 0))
 (fun x33 => uncur fun l34 => uncur fun l35 => uncur fun n36 n37 => ifT (decide (n37 < 6))
 (loopK (A := Bool × Int) ((true, 0))
 (fun x38 => uncur fun b39 n40 => ifT (decide (n40 < (↑l26.len : Int)))
 (fun h41 =>
 ((0 ≤ n40) ∧
 n40 < (↑l26.len : Int)) ∧
 (derefK l26.a (fun i42 => fun i43 h44 =>
 ∃ n45 : Int, ∃ s46 : ByteArray, ∃ s47 : ByteArray, ∃ s48 : ByteArray, ∃ l49 : Sl, ∃ l50 : Sl, ∃ n51 : Int, ∃ n52 : Int, ∃ l53 : Sl, (h44.read i42 (i43 + n40.toNat * 9) 9 = some [.int .i64 n45, .str s46, .str s47, .str s48, .slice 3 l49, .slice 5 l50, .int .i64 n51, .int .i64 n52, .slice 9 l53]) ∧
 I 11 [.agg [.int .i64 n45, .str s46, .str s47, .str s48, .slice 3 l49, .slice 5 l50, .int .i64 n51, .int .i64 n52, .slice 9 l53], .one (.slice 4 l34), .one (.slice 6 l35), .one (.int .i64 n36)]
 (fun cs54 h55 =>
 ∃ b56 : Bool, ∃ n57 : Int, (cs54 = [.one (.bool b56), .one (.int .i64 n57)]) ∧
 (ifT (!decide (n57 = 0))
 (Q [.one (.bool false)])
 (ifT b39
 (x38 ((b56, IntKind.i64.wrap (n40 + 1))))
 (x38 ((false, IntKind.i64.wrap (n40 + 1)))))) h55) h44)) h41)
 (fun h58 =>
 I 11 [.agg [.int .i64 n6, .str s7, .str s8, .str s9, .slice 3 l10, .slice 5 l11, .int .i64 n12, .int .i64 n13, .slice 9 l14], .one (.slice 4 l34), .one (.slice 6 l35), .one (.int .i64 n36)]
 (fun cs59 h60 =>
 ∃ b61 : Bool, ∃ n62 : Int, (cs59 = [.one (.bool b61), .one (.int .i64 n62)]) ∧
 (joinK (A := Bool)
 (fun b63 => ifT b63
 (Q [.one (.bool false)])
 (fun h64 =>
 I 7 [.one (.ptr (some (i2, 0)))]
 (fun cs65 h66 =>
 ∃ l67 : Sl, (cs65 = [.one (.slice 4 l67)]) ∧
 I 8 [.one (.ptr (some (i2, 0))), .one (.int .i64 6)]
 (fun cs68 h69 =>
 ∃ l70 : Sl, (cs68 = [.one (.slice 6 l70)]) ∧
 I 9 [.one (.ptr (some (i2, 0))), .one (.int .i64 2000)]
 (fun cs71 h72 =>
 ∃ n73 : Int, (cs71 = [.one (.int .i64 n73)]) ∧
 x33 ((l67, l70, n73, IntKind.i64.wrap (n37 + 1))) h72) h69) h66) h64))
 (fun x74 => ifT (!decide (n62 = 0))
 (x74 true)
 (ifT b39
 (ifT (!decide (b61 = b30))
 (x74 true)
 (ifT (decide (n37 = 0))
 (x74 (!b39))
 (x74 false)))
 (ifT (decide (n37 = 0))
 (x74 (!b39))
 (x74 false))))) h60) h58)))
 (fun h75 =>
 I 12 []
 (fun cs76 h77 =>
 ∃ b78 : Bool, (cs76 = [.one (.bool b78)]) ∧
 Q [.one (.bool b78)] h77) h75))))
 (fun x79 => ifT (!decide (n27 = 0))
 (x79 true)
 (x79 (!decide (n31 = 0))))) h29) h25) h22) h19) h16) h5) h3)) h1
theorem den3 (I : FuncId → List V → Post → T) (l0 : Sl) (Q : Post) : denF Go.Proofs.Tryz.prog 32784 (⟨[(508, 8866461766385664, [(52, tk Go.Proofs.Tryz.prog 4)]), (4182844, 10141166116199607543840035045376, [(102, tk Go.Proofs.Tryz.prog 4)])], [(2042, 1298074214633706898125424828592356, [(5, tk Go.Proofs.Tryz.prog 32), (6, tk Go.Proofs.Tryz.prog 34), (7, tk Go.Proofs.Tryz.prog 3), (53, tk Go.Proofs.Tryz.prog 3)]), (2091418, 151115439221452495364100, [(13, tk Go.Proofs.Tryz.prog 4), (58, tk Go.Proofs.Tryz.prog 3)])]⟩) I 3 [V.one (Cell.slice 1 l0)] Q = vc3 I l0 Q := by kernel_rfl
/-- (*handbill/handmake.Stream).Cond -/
def vc6 (I : FuncId → List V → Post → T) (p0 : Option (Nat × Nat)) (n1 : Int) (Q : Post) : T :=
 joinK (A := Bool)
 (fun b2 => ifT b2
 (fun h3 =>
 I 23 [.one (.ptr p0)]
 (fun cs4 h5 =>
 ∃ n6 : Int, ∃ s7 : ByteArray, ∃ s8 : ByteArray, ∃ s9 : ByteArray, ∃ l10 : Sl, ∃ l11 : Sl, ∃ n12 : Int, ∃ n13 : Int, ∃ l14 : Sl, (cs4 = [.agg [.int .i64 n6, .str s7, .str s8, .str s9, .slice 3 l10, .slice 5 l11, .int .i64 n12, .int .i64 n13, .slice 9 l14]]) ∧
 Q [.agg [.int .i64 n6, .str s7, .str s8, .str s9, .slice 3 l10, .slice 5 l11, .int .i64 n12, .int .i64 n13, .slice 9 l14]] h5) h3)
 (fun h15 =>
 (newK (.cells false [.int .i64 3, .int .i64 4, .int .i64 5]) (fun i16 h17 =>
 I 24 [.one (.ptr p0), .one (.slice 1 { a := some (i16, 0), len := 3 })]
 (fun cs18 h19 =>
 ∃ n20 : Int, (cs18 = [.one (.int .i64 n20)]) ∧
 (joinK (A := Int)
 (fun n21 => loopK (A := (Int × ByteArray × ByteArray × ByteArray × Sl × Sl × Int × Int × Sl × PUnit) × Int) (((n20, ByteArray.empty, ByteArray.empty, ByteArray.empty, { a := none, len := 0 }, { a := none, len := 0 }, 0, 0, { a := none, len := 0 }, ()), 0))
 (fun x22 => uncur (uncur fun n23 => uncur fun s24 => uncur fun s25 => uncur fun s26 => uncur fun l27 => uncur fun l28 => uncur fun n29 => uncur fun n30 => uncur fun l31 x32 => fun n33 => ifT (decide (n33 < n21))
 (fun h34 =>
 I 6 [.one (.ptr p0), .one (.int .i64 (IntKind.i64.wrap (n1 - 1)))]
 (fun cs35 h36 =>
 ∃ n37 : Int, ∃ s38 : ByteArray, ∃ s39 : ByteArray, ∃ s40 : ByteArray, ∃ l41 : Sl, ∃ l42 : Sl, ∃ n43 : Int, ∃ n44 : Int, ∃ l45 : Sl, (cs35 = [.agg [.int .i64 n37, .str s38, .str s39, .str s40, .slice 3 l41, .slice 5 l42, .int .i64 n43, .int .i64 n44, .slice 9 l45]]) ∧
 (appendTo [] 9 144 l31 1 [.int .i64 n37, .str s38, .str s39, .str s40, .slice 3 l41, .slice 5 l42, .int .i64 n43, .int .i64 n44, .slice 9 l45] (fun l46 h47 =>
 x22 (((n23, s24, s25, s26, l27, l28, n29, n30, l46, ()), IntKind.i64.wrap (n33 + 1))) h47)) h36) h34)
 (joinK (A := Bool)
 (fun b48 => joinK (A := Int × ByteArray × ByteArray × ByteArray × Sl × Sl × Int × Int × Sl × PUnit)
 (uncur fun n49 => uncur fun s50 => uncur fun s51 => uncur fun s52 => uncur fun l53 => uncur fun l54 => uncur fun n55 => uncur fun n56 => uncur fun l57 x58 => joinK (A := Bool)
 (fun b59 => ifT b59
 (fun h60 =>
 (((0 : Int) ≤ (0 : Int)) ∧
 0 < (↑l57.len : Int)) ∧
 (derefK l57.a (fun i61 => fun i62 h63 =>
 ∃ n64 : Int, ∃ s65 : ByteArray, ∃ s66 : ByteArray, ∃ s67 : ByteArray, ∃ l68 : Sl, ∃ l69 : Sl, ∃ n70 : Int, ∃ n71 : Int, ∃ l72 : Sl, (h63.read i61 (i62 + 0) 9 = some [.int .i64 n64, .str s65, .str s66, .str s67, .slice 3 l68, .slice 5 l69, .int .i64 n70, .int .i64 n71, .slice 9 l72]) ∧
 (newK (.cells false [.int .i64 n64, .str s65, .str s66, .str s67, .slice 3 l68, .slice 5 l69, .int .i64 n70, .int .i64 n71, .slice 9 l72]) (fun i73 h74 =>
 (appendTo [] 9 144 l57 1 [.int .i64 5, .str ByteArray.empty, .str ByteArray.empty, .str ByteArray.empty, .slice 3 { a := none, len := 0 }, .slice 5 { a := none, len := 0 }, .int .i64 0, .int .i64 0, .slice 9 { a := some (i73, 0), len := 1 }] (fun l75 h76 =>
 Q [.agg [.int .i64 n49, .str s50, .str s51, .str s52, .slice 3 l53, .slice 5 l54, .int .i64 n55, .int .i64 n56, .slice 9 l75]] h76)) h74)) h63)) h60)
 (fun h77 =>
 Q [.agg [.int .i64 n49, .str s50, .str s51, .str s52, .slice 3 l53, .slice 5 l54, .int .i64 n55, .int .i64 n56, .slice 9 l57]] h77))
 (fun x78 => ifT (decide (n21 > 1))
 (fun h79 =>
 I 22 [.one (.ptr p0), .one (.int .i64 5)]
 (fun cs80 h81 =>
 ∃ b82 : Bool, (cs80 = [.one (.bool b82)]) ∧
 x78 b82 h81) h79)
 (x78 false)))
 (fun x83 => ifT b48
 (fun h84 =>
 (((0 : Int) ≤ (0 : Int)) ∧
 0 < (↑l31.len : Int)) ∧
 (derefK l31.a (fun i85 => fun i86 h87 =>
 ∃ n88 : Int, ∃ s89 : ByteArray, ∃ s90 : ByteArray, ∃ s91 : ByteArray, ∃ l92 : Sl, ∃ l93 : Sl, ∃ n94 : Int, ∃ n95 : Int, ∃ l96 : Sl, (h87.read i85 (i86 + 0) 9 = some [.int .i64 n88, .str s89, .str s90, .str s91, .slice 3 l92, .slice 5 l93, .int .i64 n94, .int .i64 n95, .slice 9 l96]) ∧
 (appendTo [] 9 144 l31 1 [.int .i64 n88, .str s89, .str s90, .str s91, .slice 3 l92, .slice 5 l93, .int .i64 n94, .int .i64 n95, .slice 9 l96] (fun l97 h98 =>
 x83 ((n23, s24, s25, s26, l27, l28, n29, n30, l97, ())) h98)) h87)) h84)
 (x83 ((n23, s24, s25, s26, l27, l28, n29, n30, l31, ())))))
 (fun x99 => ifT (decide (n21 > 1))
 (fun h100 =>
 I 22 [.one (.ptr p0), .one (.int .i64 4)]
 (fun cs101 h102 =>
 ∃ b103 : Bool, (cs101 = [.one (.bool b103)]) ∧
 x99 b103 h102) h100)
 (x99 false))))))
 (fun x104 => ifT (!decide (n20 = 5))
 (fun h105 =>
 I 25 [.one (.ptr p0), .one (.int .i64 2), .one (.int .i64 3)]
 (fun cs106 h107 =>
 ∃ n108 : Int, (cs106 = [.one (.int .i64 n108)]) ∧
 x104 n108 h107) h105)
 (x104 1))) h19) h17)) h15))
 (fun x109 => ifT (decide (n1 < 1))
 (x109 true)
 (fun h110 =>
 I 22 [.one (.ptr p0), .one (.int .i64 3)]
 (fun cs111 h112 =>
 ∃ b113 : Bool, (cs111 = [.one (.bool b113)]) ∧
 x109 b113 h112) h110))
theorem den6 (I : FuncId → List V → Post → T) (p0 : Option (Nat × Nat)) (n1 : Int) (Q : Post) : denF Go.Proofs.Tryz.prog 48 (⟨[(12, 8064, [(12, tk Go.Proofs.Tryz.prog 4)]), (125, 12582976, [(6, tk Go.Proofs.Tryz.prog 3)]), (508, 8658654068736, [(42, tk Go.Proofs.Tryz.prog 4)]), (509, 4494803534348320, [(5, tvar Go.Proofs.Tryz.prog 30)]), (1020, 283726776524341248, [(57, tk Go.Proofs.Tryz.prog 4)])], [(506, 137405399072, [(5, tvar Go.Proofs.Tryz.prog 30), (25, tk Go.Proofs.Tryz.prog 3)])]⟩) I 6 [V.one (Cell.ptr p0), V.one (Cell.int IntKind.i64 n1)] Q = vc6 I p0 n1 Q := by kernel_rfl
/-- (*handbill/handmake.Stream).Flip -/
def vc22 (I : FuncId → List V → Post → T) (p0 : Option (Nat × Nat)) (n1 : Int) (Q : Post) : T :=
 fun h2 =>
 I 9 [.one (.ptr p0), .one (.int .i64 n1)]
 (fun cs3 h4 =>
 ∃ n5 : Int, (cs3 = [.one (.int .i64 n5)]) ∧
 Q [.one (.bool (decide (n5 = 0)))] h4) h2
theorem den22 (I : FuncId → List V → Post → T) (p0 : Option (Nat × Nat)) (n1 : Int) (Q : Post) : denF Go.Proofs.Tryz.prog 0 (⟨[], []⟩) I 22 [V.one (Cell.ptr p0), V.one (Cell.int IntKind.i64 n1)] Q = vc22 I p0 n1 Q := by kernel_rfl
/-- (*handbill/handmake.Stream).Next -/
def vc9 (I : FuncId → List V → Post → T) (p0 : Option (Nat × Nat)) (n1 : Int) (Q : Post) : T :=
 derefK p0 (fun i2 => fun i3 h4 =>
 ∃ n5 : Int, (h4.read i2 (i3 + 1) 1 = some [.int .i64 n5]) ∧
 (derefK p0 (fun i6 => fun i7 h8 =>
 (storeK [] i6 (i7 + 1) [.int .i64 (IntKind.i64.wrap (n5 + 1))] (derefK p0 (fun i9 => fun i10 h11 =>
 ∃ l12 : Sl, (h11.read i9 (i10 + 0) 1 = some [.slice 1 l12]) ∧
 (ifT (decide ((↑l12.len : Int) = 0))
 (derefK p0 (fun i13 => fun i14 h15 =>
 ∃ n16 : Int, (h15.read i13 (i14 + 1) 1 = some [.int .i64 n16]) ∧
 I 31 [.one (.int .i64 (IntKind.i64.wrap (n16 * 7919))), .one (.int .i64 n1)]
 (fun cs17 h18 =>
 ∃ n19 : Int, (cs17 = [.one (.int .i64 n19)]) ∧
 Q [.one (.int .i64 n19)] h18) h15))
 (derefK p0 (fun i20 => fun i21 h22 =>
 ∃ n23 : Int, (h22.read i20 (i21 + 1) 1 = some [.int .i64 n23]) ∧
 (derefK p0 (fun i24 => fun i25 h26 =>
 ∃ l27 : Sl, (h26.read i24 (i25 + 0) 1 = some [.slice 1 l27]) ∧
 ((↑l27.len : Int) ≠ 0) ∧
 (derefK p0 (fun i28 => fun i29 h30 =>
 ∃ n31 : Int, (h30.read i28 (i29 + 1) 1 = some [.int .i64 n31]) ∧
 (derefK p0 (fun i32 => fun i33 h34 =>
 ∃ l35 : Sl, (h34.read i32 (i33 + 0) 1 = some [.slice 1 l35]) ∧
 ((↑l35.len : Int) ≠ 0) ∧
 (derefK p0 (fun i36 => fun i37 h38 =>
 ∃ l39 : Sl, (h38.read i36 (i37 + 0) 1 = some [.slice 1 l39]) ∧
 ((0 ≤ (IntKind.i64.wrap (n23 - 1)).tmod (↑l27.len : Int)) ∧
 (IntKind.i64.wrap (n23 - 1)).tmod (↑l27.len : Int) < (↑l39.len : Int)) ∧
 (derefK l39.a (fun i40 => fun i41 h42 =>
 ∃ n43 : Int, (h42.read i40 (i41 + ((IntKind.i64.wrap (n23 - 1)).tmod (↑l27.len : Int)).toNat * 1) 1 = some [.int .i64 n43]) ∧
 I 31 [.one (.int .i64 n43), .one (.int .i64 1073741824)]
 (fun cs44 h45 =>
 ∃ n46 : Int, (cs44 = [.one (.int .i64 n46)]) ∧
 I 31 [.one (.int .i64 (IntKind.i64.wrap (n46 + IntKind.i64.wrap (IntKind.i64.wrap ((IntKind.i64.wrap (n31 - 1)).tdiv (↑l35.len : Int)) * IntKind.i64.wrap (7919 + (IntKind.i64.wrap (n23 - 1)).tmod (↑l27.len : Int)))))), .one (.int .i64 n1)]
 (fun cs47 h48 =>
 ∃ n49 : Int, (cs47 = [.one (.int .i64 n49)]) ∧
 Q [.one (.int .i64 n49)] h48) h45) h42)) h38)) h34)) h30)) h26)) h22))) h11))) h8)) h4)
theorem den9 (I : FuncId → List V → Post → T) (p0 : Option (Nat × Nat)) (n1 : Int) (Q : Post) : denF Go.Proofs.Tryz.prog 0 (⟨[], []⟩) I 9 [V.one (Cell.ptr p0), V.one (Cell.int IntKind.i64 n1)] Q = vc9 I p0 n1 Q := by kernel_rfl
/-- handbill/handmake.Below -/
def vc31 (I : FuncId → List V → Post → T) (n0 : Int) (n1 : Int) (Q : Post) : T :=
 ifT (decide (n1 < 1))
 (Q [.one (.int .i64 0)])
 (fun h2 =>
 (n1 ≠ 0) ∧
 (ifT (decide (n0.tmod n1 < 0))
 (Q [.one (.int .i64 (IntKind.i64.wrap (n0.tmod n1 + n1)))])
 (Q [.one (.int .i64 (n0.tmod n1))])) h2)
theorem den31 (I : FuncId → List V → Post → T) (n0 : Int) (n1 : Int) (Q : Post) : denF Go.Proofs.Tryz.prog 0 (⟨[], []⟩) I 31 [V.one (Cell.int IntKind.i64 n0), V.one (Cell.int IntKind.i64 n1)] Q = vc31 I n0 n1 Q := by kernel_rfl
/-- (*handbill/handmake.Stream).test -/
def vc23 (I : FuncId → List V → Post → T) (p0 : Option (Nat × Nat)) (Q : Post) : T :=
 fun h1 =>
 I 26 []
 (fun cs2 h3 =>
 ∃ l4 : Sl, (cs2 = [.one (.slice 1 l4)]) ∧
 I 29 [.one (.ptr p0), .one (.slice 1 l4)]
 (fun cs5 h6 =>
 ∃ s7 : ByteArray, (cs5 = [.one (.str s7)]) ∧
 I 30 []
 (fun cs8 h9 =>
 ∃ l10 : Sl, (cs8 = [.one (.slice 1 l10)]) ∧
 I 29 [.one (.ptr p0), .one (.slice 1 l10)]
 (fun cs11 h12 =>
 ∃ s13 : ByteArray, (cs11 = [.one (.str s13)]) ∧
 (newK (.cells false [.int .i64 0, .int .i64 0, .int .i64 1, .int .i64 30, .int .i64 60, .int .i64 1440, .int .i64 2880]) (fun i14 h15 =>
 I 24 [.one (.ptr p0), .one (.slice 1 { a := some (i14, 0), len := 7 })]
 (fun cs16 h17 =>
 ∃ n18 : Int, (cs16 = [.one (.int .i64 n18)]) ∧
 I 9 [.one (.ptr p0), .one (.int .i64 10)]
 (fun cs19 h20 =>
 ∃ n21 : Int, (cs19 = [.one (.int .i64 n21)]) ∧
 (ifT (decide (n21 = 0))
 (fun h22 =>
 (newK (.cells false [.int .i64 1, .int .i64 2]) (fun i23 h24 =>
 I 24 [.one (.ptr p0), .one (.slice 1 { a := some (i23, 0), len := 2 })]
 (fun cs25 h26 =>
 ∃ n27 : Int, (cs25 = [.one (.int .i64 n27)]) ∧
 Q [.agg [.int .i64 n27, .str ByteArray.empty, .str ByteArray.empty, .str ByteArray.empty, .slice 3 { a := none, len := 0 }, .slice 5 { a := none, len := 0 }, .int .i64 0, .int .i64 0, .slice 9 { a := none, len := 0 }]] h26) h24)) h22)
 (ifT (decide (n21 = 1))
 (fun h28 =>
 Q [.agg [.int .i64 6, .str s7, .str ByteArray.empty, .str ByteArray.empty, .slice 3 { a := none, len := 0 }, .slice 5 { a := none, len := 0 }, .int .i64 0, .int .i64 0, .slice 9 { a := none, len := 0 }]] h28)
 (ifT (decide (n21 = 2))
 (fun h29 =>
 I 25 [.one (.ptr p0), .one (.int .i64 1), .one (.int .i64 3)]
 (fun cs30 h31 =>
 ∃ n32 : Int, (cs30 = [.one (.int .i64 n32)]) ∧
 (loopK (A := (Int × ByteArray × ByteArray × ByteArray × Sl × Sl × Int × Int × Sl × PUnit) × Int) (((8, s7, ByteArray.empty, ByteArray.empty, { a := none, len := 0 }, { a := none, len := 0 }, 0, 0, { a := none, len := 0 }, ()), 0))
 (fun x33 => uncur (uncur fun n34 => uncur fun s35 => uncur fun s36 => uncur fun s37 => uncur fun l38 => uncur fun l39 => uncur fun n40 => uncur fun n41 => uncur fun l42 x43 => fun n44 => ifT (decide (n44 < n32))
 (fun h45 =>
 I 27 [.one (.ptr p0), .one (.str s7)]
 (fun cs46 h47 =>
 ∃ n48 : Int, ∃ s49 : ByteArray, ∃ n50 : Int, (cs46 = [.agg [.int .i64 n48, .str s49, .int .i64 n50]]) ∧
 (appendTo [] 3 32 l38 1 [.int .i64 n48, .str s49, .int .i64 n50] (fun l51 h52 =>
 x33 (((n34, s35, s36, s37, l51, l39, n40, n41, l42, ()), IntKind.i64.wrap (n44 + 1))) h52)) h47) h45)
 (fun h53 =>
 Q [.agg [.int .i64 n34, .str s35, .str s36, .str s37, .slice 3 l38, .slice 5 l39, .int .i64 n40, .int .i64 n41, .slice 9 l42]] h53)))) h31) h29)
 (ifT (decide (n21 = 3))
 (fun h54 =>
 (newK (.cells false [.int .i64 9, .int .i64 10]) (fun i55 h56 =>
 I 24 [.one (.ptr p0), .one (.slice 1 { a := some (i55, 0), len := 2 })]
 (fun cs57 h58 =>
 ∃ n59 : Int, (cs57 = [.one (.int .i64 n59)]) ∧
 (newK (.cells false [.str { data := #[85] }, .str { data := #[108] }, .str { data := #[] }, .str { data := #[85, 108, 109] }]) (fun i60 h61 =>
 I 29 [.one (.ptr p0), .one (.slice 1 { a := some (i60, 0), len := 4 })]
 (fun cs62 h63 =>
 ∃ s64 : ByteArray, (cs62 = [.one (.str s64)]) ∧
 (newK (.cells false [.int .i64 1, .str s64, .int .i64 0]) (fun i65 h66 =>
 Q [.agg [.int .i64 n59, .str s7, .str ByteArray.empty, .str ByteArray.empty, .slice 3 { a := some (i65, 0), len := 1 }, .slice 5 { a := none, len := 0 }, .int .i64 0, .int .i64 0, .slice 9 { a := none, len := 0 }]] h66)) h63) h61)) h58) h56)) h54)
 (joinK (A := Bool)
 (fun b67 => ifT b67
 (fun h68 =>
 I 57 [.one (.ptr p0)]
 (fun cs69 h70 =>
 ∃ l71 : Sl, (cs69 = [.one (.slice 5 l71)]) ∧
 I 58 [.one (.ptr p0)]
 (fun cs72 h73 =>
 ∃ s74 : ByteArray, (cs72 = [.one (.str s74)]) ∧
 (newK (.cells false [.int .i64 0, .int .i64 1, .int .i64 2, .int .i64 3, .int .i64 (-1)]) (fun i75 h76 =>
 I 24 [.one (.ptr p0), .one (.slice 1 { a := some (i75, 0), len := 5 })]
 (fun cs77 h78 =>
 ∃ n79 : Int, (cs77 = [.one (.int .i64 n79)]) ∧
 Q [.agg [.int .i64 11, .str s13, .str ByteArray.empty, .str s74, .slice 3 { a := none, len := 0 }, .slice 5 l71, .int .i64 n18, .int .i64 n79, .slice 9 { a := none, len := 0 }]] h78) h76)) h73) h70) h68)
 (ifT (decide (n21 = 6))
 (fun h80 =>
 (newK (.cells false [.str { data := #[99, 101, 110, 116, 115] }, .str { data := #[99, 101, 110, 116, 115] }, .str { data := #[105, 116, 101, 109] }]) (fun i81 h82 =>
 I 29 [.one (.ptr p0), .one (.slice 1 { a := some (i81, 0), len := 3 })]
 (fun cs83 h84 =>
 ∃ s85 : ByteArray, (cs83 = [.one (.str s85)]) ∧
 I 57 [.one (.ptr p0)]
 (fun cs86 h87 =>
 ∃ l88 : Sl, (cs86 = [.one (.slice 5 l88)]) ∧
 I 58 [.one (.ptr p0)]
 (fun cs89 h90 =>
 ∃ s91 : ByteArray, (cs89 = [.one (.str s91)]) ∧
 (newK (.cells false [.int .i64 0, .int .i64 5, .int .i64 100, .int .i64 105, .int .i64 (-5)]) (fun i92 h93 =>
 I 24 [.one (.ptr p0), .one (.slice 1 { a := some (i92, 0), len := 5 })]
 (fun cs94 h95 =>
 ∃ n96 : Int, (cs94 = [.one (.int .i64 n96)]) ∧
 Q [.agg [.int .i64 12, .str s13, .str s85, .str s91, .slice 3 { a := none, len := 0 }, .slice 5 l88, .int .i64 n18, .int .i64 n96, .slice 9 { a := none, len := 0 }]] h95) h93)) h90) h87) h84) h82)) h80)
 (ifT (decide (n21 = 7))
 (fun h97 =>
 I 57 [.one (.ptr p0)]
 (fun cs98 h99 =>
 ∃ l100 : Sl, (cs98 = [.one (.slice 5 l100)]) ∧
 I 58 [.one (.ptr p0)]
 (fun cs101 h102 =>
 ∃ s103 : ByteArray, (cs101 = [.one (.str s103)]) ∧
 (newK (.cells false [.int .i64 0, .int .i64 1, .int .i64 30, .int .i64 60, .int .i64 1440]) (fun i104 h105 =>
 I 24 [.one (.ptr p0), .one (.slice 1 { a := some (i104, 0), len := 5 })]
 (fun cs106 h107 =>
 ∃ n108 : Int, (cs106 = [.one (.int .i64 n108)]) ∧
 Q [.agg [.int .i64 13, .str s13, .str ByteArray.empty, .str s103, .slice 3 { a := none, len := 0 }, .slice 5 l100, .int .i64 0, .int .i64 n108, .slice 9 { a := none, len := 0 }]] h107) h105)) h102) h99) h97)
 (ifT (decide (n21 = 8))
 (fun h109 =>
 I 30 []
 (fun cs110 h111 =>
 ∃ l112 : Sl, (cs110 = [.one (.slice 1 l112)]) ∧
 I 29 [.one (.ptr p0), .one (.slice 1 l112)]
 (fun cs113 h114 =>
 ∃ s115 : ByteArray, (cs113 = [.one (.str s115)]) ∧
 Q [.agg [.int .i64 14, .str s13, .str s115, .str ByteArray.empty, .slice 3 { a := none, len := 0 }, .slice 5 { a := none, len := 0 }, .int .i64 n18, .int .i64 0, .slice 9 { a := none, len := 0 }]] h114) h111) h109)
 (fun h116 =>
 I 58 [.one (.ptr p0)]
 (fun cs117 h118 =>
 ∃ s119 : ByteArray, (cs117 = [.one (.str s119)]) ∧
 I 27 [.one (.ptr p0), .one (.str s7)]
 (fun cs120 h121 =>
 ∃ n122 : Int, ∃ s123 : ByteArray, ∃ n124 : Int, (cs120 = [.agg [.int .i64 n122, .str s123, .int .i64 n124]]) ∧
 (newK (.cells false [.int .i64 n122, .str s123, .int .i64 n124]) (fun i125 h126 =>
 Q [.agg [.int .i64 7, .str s7, .str ByteArray.empty, .str s119, .slice 3 { a := some (i125, 0), len := 1 }, .slice 5 { a := none, len := 0 }, .int .i64 0, .int .i64 0, .slice 9 { a := none, len := 0 }]] h126)) h121) h118) h116)))))
 (fun x127 => ifT (decide (n21 = 4))
 (x127 (decide (n21 = 4)))
 (x127 (decide (n21 = 5))))))))) h20) h17) h15)) h12) h9) h6) h3) h1
theorem den23 (I : FuncId → List V → Post → T) (p0 : Option (Nat × Nat)) (Q : Post) : denF Go.Proofs.Tryz.prog 68 (⟨[(125949, 1441151880758558720, [(58, tk Go.Proofs.Tryz.prog 4)])], [(125930, 35167192219712, [(6, tvar Go.Proofs.Tryz.prog 30), (34, tk Go.Proofs.Tryz.prog 3)])]⟩) I 23 [V.one (Cell.ptr p0)] Q = vc23 I p0 Q := by kernel_rfl
/-- (*handbill/handmake.Stream).Pick -/
def vc24 (I : FuncId → List V → Post → T) (p0 : Option (Nat × Nat)) (l1 : Sl) (Q : Post) : T :=
 fun h2 =>
 I 9 [.one (.ptr p0), .one (.int .i64 (↑l1.len : Int))]
 (fun cs3 h4 =>
 ∃ n5 : Int, (cs3 = [.one (.int .i64 n5)]) ∧
 ((0 ≤ n5) ∧
 n5 < (↑l1.len : Int)) ∧
 (derefK l1.a (fun i6 => fun i7 h8 =>
 ∃ n9 : Int, (h8.read i6 (i7 + n5.toNat * 1) 1 = some [.int .i64 n9]) ∧
 Q [.one (.int .i64 n9)] h8)) h4) h2
theorem den24 (I : FuncId → List V → Post → T) (p0 : Option (Nat × Nat)) (l1 : Sl) (Q : Post) : denF Go.Proofs.Tryz.prog 0 (⟨[], []⟩) I 24 [V.one (Cell.ptr p0), V.one (Cell.slice 1 l1)] Q = vc24 I p0 l1 Q := by kernel_rfl
/-- (*handbill/handmake.Stream).Range -/
def vc25 (I : FuncId → List V → Post → T) (p0 : Option (Nat × Nat)) (n1 : Int) (n2 : Int) (Q : Post) : T :=
 ifT (decide (n2 < n1))
 (Q [.one (.int .i64 n1)])
 (fun h3 =>
 I 9 [.one (.ptr p0), .one (.int .i64 (IntKind.i64.wrap (IntKind.i64.wrap (n2 - n1) + 1)))]
 (fun cs4 h5 =>
 ∃ n6 : Int, (cs4 = [.one (.int .i64 n6)]) ∧
 Q [.one (.int .i64 (IntKind.i64.wrap (n1 + n6)))] h5) h3)
theorem den25 (I : FuncId → List V → Post → T) (p0 : Option (Nat × Nat)) (n1 : Int) (n2 : Int) (Q : Post) : denF Go.Proofs.Tryz.prog 0 (⟨[], []⟩) I 25 [V.one (Cell.ptr p0), V.one (Cell.int IntKind.i64 n1), V.one (Cell.int IntKind.i64 n2)] Q = vc25 I p0 n1 n2 Q := by kernel_rfl
/-- handbill/handmake.condFields -/
def vc26 (I : FuncId → List V → Post → T) (Q : Post) : T :=
 fun h0 =>
 (newK (.cells false [.str { data := #[97, 103, 101] }, .str { data := #[99, 105, 116, 121] }, .str { data := #[110, 101, 119, 115] }, .str { data := #[115, 105, 110, 99, 101, 45, 100, 97, 121] }]) (fun i1 h2 =>
 Q [.one (.slice 1 { a := some (i1, 0), len := 4 })] h2)) h0
theorem den26 (I : FuncId → List V → Post → T) (Q : Post) : denF Go.Proofs.Tryz.prog 0 (⟨[], []⟩) I 26 [] Q = vc26 I Q := by kernel_rfl
/-- (*handbill/handmake.Stream).fieldValue -/
def vc27 (I : FuncId → List V → Post → T) (p0 : Option (Nat × Nat)) (s1 : ByteArray) (Q : Post) : T :=
 fun h2 =>
 I 22 [.one (.ptr p0), .one (.int .i64 12)]
 (fun cs3 h4 =>
 ∃ b5 : Bool, (cs3 = [.one (.bool b5)]) ∧
 (ifT b5
 (fun h6 =>
 (newK (.cells false [.str { data := #[] }, .str { data := #[120] }, .str { data := #[97, 32, 34, 98, 34, 92] }]) (fun i7 h8 =>
 I 29 [.one (.ptr p0), .one (.slice 1 { a := some (i7, 0), len := 3 })]
 (fun cs9 h10 =>
 ∃ s11 : ByteArray, (cs9 = [.one (.str s11)]) ∧
 Q [.agg [.int .i64 1, .str s11, .int .i64 0]] h10) h8)) h6)
 (ifT (decide (s1 = { data := #[97, 103, 101] }))
 (fun h12 =>
 (newK (.cells false [.int .i64 (-3), .int .i64 0, .int .i64 3, .int .i64 17, .int .i64 18, .int .i64 1000000000000]) (fun i13 h14 =>
 I 24 [.one (.ptr p0), .one (.slice 1 { a := some (i13, 0), len := 6 })]
 (fun cs15 h16 =>
 ∃ n17 : Int, (cs15 = [.one (.int .i64 n17)]) ∧
 Q [.agg [.int .i64 2, .str ByteArray.empty, .int .i64 n17]] h16) h14)) h12)
 (ifT (decide (s1 = { data := #[110, 101, 119, 115] }))
 (fun h18 =>
 I 9 [.one (.ptr p0), .one (.int .i64 2)]
 (fun cs19 h20 =>
 ∃ n21 : Int, (cs19 = [.one (.int .i64 n21)]) ∧
 Q [.agg [.int .i64 3, .str ByteArray.empty, .int .i64 n21]] h20) h18)
 (ifT (decide (s1 = { data := #[115, 105, 110, 99, 101, 45, 100, 97, 121] }))
 (fun h22 =>
 (newK (.cells false [.int .i64 0, .int .i64 70, .int .i64 1440, .int .i64 4321439]) (fun i23 h24 =>
 I 24 [.one (.ptr p0), .one (.slice 1 { a := some (i23, 0), len := 4 })]
 (fun cs25 h26 =>
 ∃ n27 : Int, (cs25 = [.one (.int .i64 n27)]) ∧
 Q [.agg [.int .i64 4, .str ByteArray.empty, .int .i64 n27]] h26) h24)) h22)
 (fun h28 =>
 (newK (.cells false [.str { data := #[85, 108, 109] }, .str { data := #[66, 111, 110, 110] }, .str { data := #[85, 108] }, .str { data := #[195, 169] }]) (fun i29 h30 =>
 I 29 [.one (.ptr p0), .one (.slice 1 { a := some (i29, 0), len := 4 })]
 (fun cs31 h32 =>
 ∃ s33 : ByteArray, (cs31 = [.one (.str s33)]) ∧
 Q [.agg [.int .i64 1, .str s33, .int .i64 0]] h32) h30)) h28))))) h4) h2
theorem den27 (I : FuncId → List V → Post → T) (p0 : Option (Nat × Nat)) (s1 : ByteArray) (Q : Post) : denF Go.Proofs.Tryz.prog 16 (⟨[], []⟩) I 27 [V.one (Cell.ptr p0), V.one (Cell.str s1)] Q = vc27 I p0 s1 Q := by kernel_rfl
/-- (*handbill/handmake.Stream).one -/
def vc29 (I : FuncId → List V → Post → T) (p0 : Option (Nat × Nat)) (l1 : Sl) (Q : Post) : T :=
 fun h2 =>
 I 9 [.one (.ptr p0), .one (.int .i64 (↑l1.len : Int))]
 (fun cs3 h4 =>
 ∃ n5 : Int, (cs3 = [.one (.int .i64 n5)]) ∧
 ((0 ≤ n5) ∧
 n5 < (↑l1.len : Int)) ∧
 (derefK l1.a (fun i6 => fun i7 h8 =>
 ∃ s9 : ByteArray, (h8.read i6 (i7 + n5.toNat * 1) 1 = some [.str s9]) ∧
 Q [.one (.str s9)] h8)) h4) h2
theorem den29 (I : FuncId → List V → Post → T) (p0 : Option (Nat × Nat)) (l1 : Sl) (Q : Post) : denF Go.Proofs.Tryz.prog 0 (⟨[], []⟩) I 29 [V.one (Cell.ptr p0), V.one (Cell.slice 1 l1)] Q = vc29 I p0 l1 Q := by kernel_rfl
/-- handbill/handmake.condEvents -/
def vc30 (I : FuncId → List V → Post → T) (Q : Post) : T :=
 fun h0 =>
 (newK (.cells false [.str { data := #[98, 117, 121] }, .str { data := #[111, 112, 101, 110] }, .str { data := #[118, 105, 115, 105, 116] }]) (fun i1 h2 =>
 Q [.one (.slice 1 { a := some (i1, 0), len := 3 })] h2)) h0
theorem den30 (I : FuncId → List V → Post → T) (Q : Post) : denF Go.Proofs.Tryz.prog 0 (⟨[], []⟩) I 30 [] Q = vc30 I Q := by kernel_rfl
/-- (*handbill/handmake.Stream).wheres -/
def vc57 (I : FuncId → List V → Post → T) (p0 : Option (Nat × Nat)) (Q : Post) : T :=
 fun h1 =>
 (newK (.cells false [.int .i64 0, .int .i64 0, .int .i64 0, .int .i64 1, .int .i64 2]) (fun i2 h3 =>
 I 24 [.one (.ptr p0), .one (.slice 1 { a := some (i2, 0), len := 5 })]
 (fun cs4 h5 =>
 ∃ n6 : Int, (cs4 = [.one (.int .i64 n6)]) ∧
 (loopK (A := Sl × Int) (({ a := none, len := 0 }, 0))
 (fun x7 => uncur fun l8 n9 => ifT (decide (n9 < n6))
 (fun h10 =>
 I 22 [.one (.ptr p0), .one (.int .i64 2)]
 (fun cs11 h12 =>
 ∃ b13 : Bool, (cs11 = [.one (.bool b13)]) ∧
 (ifT b13
 (fun h14 =>
 I 58 [.one (.ptr p0)]
 (fun cs15 h16 =>
 ∃ s17 : ByteArray, (cs15 = [.one (.str s17)]) ∧
 (newK (.cells false [.int .i64 0, .int .i64 5, .int .i64 100]) (fun i18 h19 =>
 I 24 [.one (.ptr p0), .one (.slice 1 { a := some (i18, 0), len := 3 })]
 (fun cs20 h21 =>
 ∃ n22 : Int, (cs20 = [.one (.int .i64 n22)]) ∧
 (appendTo [] 5 64 l8 1 [.str { data := #[99, 101, 110, 116, 115] }, .str s17, .int .i64 2, .str ByteArray.empty, .int .i64 n22] (fun l23 h24 =>
 x7 ((l23, IntKind.i64.wrap (n9 + 1))) h24)) h21) h19)) h16) h14)
 (fun h25 =>
 I 58 [.one (.ptr p0)]
 (fun cs26 h27 =>
 ∃ s28 : ByteArray, (cs26 = [.one (.str s28)]) ∧
 (appendTo [] 5 64 l8 1 [.str { data := #[105, 116, 101, 109] }, .str s28, .int .i64 1, .str { data := #[104, 97, 116] }, .int .i64 0] (fun l29 h30 =>
 x7 ((l29, IntKind.i64.wrap (n9 + 1))) h30)) h27) h25)) h12) h10)
 (Q [.one (.slice 5 l8)]))) h5) h3)) h1
theorem den57 (I : FuncId → List V → Post → T) (p0 : Option (Nat × Nat)) (Q : Post) : denF Go.Proofs.Tryz.prog 0 (⟨[], [(58, 536870792, [(3, tk Go.Proofs.Tryz.prog 27), (7, tk Go.Proofs.Tryz.prog 3)])]⟩) I 57 [V.one (Cell.ptr p0)] Q = vc57 I p0 Q := by kernel_rfl
/-- (*handbill/handmake.Stream).compareSign -/
def vc58 (I : FuncId → List V → Post → T) (p0 : Option (Nat × Nat)) (Q : Post) : T :=
 fun h1 =>
 (newK (.cells false [.str { data := #[61] }, .str { data := #[33, 61] }, .str { data := #[60] }, .str { data := #[60, 61] }, .str { data := #[62] }, .str { data := #[62, 61] }]) (fun i2 h3 =>
 I 29 [.one (.ptr p0), .one (.slice 1 { a := some (i2, 0), len := 6 })]
 (fun cs4 h5 =>
 ∃ s6 : ByteArray, (cs4 = [.one (.str s6)]) ∧
 Q [.one (.str s6)] h5) h3)) h1
theorem den58 (I : FuncId → List V → Post → T) (p0 : Option (Nat × Nat)) (Q : Post) : denF Go.Proofs.Tryz.prog 0 (⟨[], []⟩) I 58 [V.one (Cell.ptr p0)] Q = vc58 I p0 Q := by kernel_rfl
/-- (*handbill/handmake.Stream).Record -/
def vc7 (I : FuncId → List V → Post → T) (p0 : Option (Nat × Nat)) (Q : Post) : T :=
 fun h1 =>
 I 26 []
 (fun cs2 h3 =>
 ∃ l4 : Sl, (cs2 = [.one (.slice 1 l4)]) ∧
 (loopK (A := Sl × Int) (({ a := none, len := 0 }, 0))
 (fun x5 => uncur fun l6 n7 => ifT (decide (n7 < (↑l4.len : Int)))
 (fun h8 =>
 ((0 ≤ n7) ∧
 n7 < (↑l4.len : Int)) ∧
 (derefK l4.a (fun i9 => fun i10 h11 =>
 ∃ s12 : ByteArray, (h11.read i9 (i10 + n7.toNat * 1) 1 = some [.str s12]) ∧
 I 22 [.one (.ptr p0), .one (.int .i64 3)]
 (fun cs13 h14 =>
 ∃ b15 : Bool, (cs13 = [.one (.bool b15)]) ∧
 (ifT b15
 (x5 ((l6, IntKind.i64.wrap (n7 + 1))))
 (fun h16 =>
 I 27 [.one (.ptr p0), .one (.str s12)]
 (fun cs17 h18 =>
 ∃ n19 : Int, ∃ s20 : ByteArray, ∃ n21 : Int, (cs17 = [.agg [.int .i64 n19, .str s20, .int .i64 n21]]) ∧
 (appendTo [] 4 48 l6 1 [.str s12, .int .i64 n19, .str s20, .int .i64 n21] (fun l22 h23 =>
 x5 ((l22, IntKind.i64.wrap (n7 + 1))) h23)) h18) h16)) h14) h11)) h8)
 (Q [.one (.slice 4 l6)]))) h3) h1
theorem den7 (I : FuncId → List V → Post → T) (p0 : Option (Nat × Nat)) (Q : Post) : denF Go.Proofs.Tryz.prog 0 (⟨[], [(58, 8388392, [(3, tk Go.Proofs.Tryz.prog 32), (8, tk Go.Proofs.Tryz.prog 3)])]⟩) I 7 [V.one (Cell.ptr p0)] Q = vc7 I p0 Q := by kernel_rfl
/-- (*handbill/handmake.Stream).History -/
def vc8 (I : FuncId → List V → Post → T) (p0 : Option (Nat × Nat)) (n1 : Int) (Q : Post) : T :=
 fun h2 =>
 I 9 [.one (.ptr p0), .one (.int .i64 50)]
 (fun cs3 h4 =>
 ∃ n5 : Int, (cs3 = [.one (.int .i64 n5)]) ∧
 I 9 [.one (.ptr p0), .one (.int .i64 (IntKind.i64.wrap (n1 + 1)))]
 (fun cs6 h7 =>
 ∃ n8 : Int, (cs6 = [.one (.int .i64 n8)]) ∧
 (loopK (A := Sl × Int × Int) (({ a := none, len := 0 }, n5, 0))
 (fun x9 => uncur fun l10 => uncur fun n11 n12 => ifT (decide (n12 < n8))
 (fun h13 =>
 I 28 [.one (.int .i64 n12)]
 (fun cs14 h15 =>
 ∃ s16 : ByteArray, (cs14 = [.one (.str s16)]) ∧
 I 30 []
 (fun cs17 h18 =>
 ∃ l19 : Sl, (cs17 = [.one (.slice 1 l19)]) ∧
 I 29 [.one (.ptr p0), .one (.slice 1 l19)]
 (fun cs20 h21 =>
 ∃ s22 : ByteArray, (cs20 = [.one (.str s22)]) ∧
 I 22 [.one (.ptr p0), .one (.int .i64 4)]
 (fun cs23 h24 =>
 ∃ b25 : Bool, (cs23 = [.one (.bool b25)]) ∧
 (joinK (A := ByteArray × ByteArray × Int × Int × ByteArray × Sl × PUnit)
 (uncur fun s26 => uncur fun s27 => uncur fun n28 => uncur fun n29 => uncur fun s30 => uncur fun l31 x32 => fun h33 =>
 I 22 [.one (.ptr p0), .one (.int .i64 3)]
 (fun cs34 h35 =>
 ∃ b36 : Bool, (cs34 = [.one (.bool b36)]) ∧
 (joinK (A := ByteArray × ByteArray × Int × Int × ByteArray × Sl × PUnit)
 (uncur fun s37 => uncur fun s38 => uncur fun n39 => uncur fun n40 => uncur fun s41 => uncur fun l42 x43 => fun h44 =>
 (appendTo [] 6 88 l10 1 [.str s37, .str s38, .int .i64 n39, .int .i64 n40, .str s41, .slice 4 l42] (fun l45 h46 =>
 (newK (.cells false [.int .i64 0, .int .i64 1, .int .i64 10, .int .i64 30, .int .i64 60, .int .i64 300, .int .i64 1440]) (fun i47 h48 =>
 I 24 [.one (.ptr p0), .one (.slice 1 { a := some (i47, 0), len := 7 })]
 (fun cs49 h50 =>
 ∃ n51 : Int, (cs49 = [.one (.int .i64 n51)]) ∧
 x9 ((l45, IntKind.i64.wrap (n11 + n51), IntKind.i64.wrap (n12 + 1))) h50) h48)) h46)) h44)
 (fun x52 => ifT b36
 (fun h53 =>
 (newK (.cells false [.str { data := #[104, 97, 116] }, .str { data := #[99, 97, 112] }]) (fun i54 h55 =>
 I 29 [.one (.ptr p0), .one (.slice 1 { a := some (i54, 0), len := 2 })]
 (fun cs56 h57 =>
 ∃ s58 : ByteArray, (cs56 = [.one (.str s58)]) ∧
 (appendTo [] 4 48 l31 1 [.str { data := #[105, 116, 101, 109] }, .int .i64 1, .str s58, .int .i64 0] (fun l59 h60 =>
 x52 ((s26, s27, n28, n29, s30, l59, ())) h60)) h57) h55)) h53)
 (x52 ((s26, s27, n28, n29, s30, l31, ()))))) h35) h33)
 (fun x61 => ifT (!b25)
 (fun h62 =>
 (newK (.cells false [.int .i64 0, .int .i64 5, .int .i64 100, .int .i64 (-5)]) (fun i63 h64 =>
 I 24 [.one (.ptr p0), .one (.slice 1 { a := some (i63, 0), len := 4 })]
 (fun cs65 h66 =>
 ∃ n67 : Int, (cs65 = [.one (.int .i64 n67)]) ∧
 (appendTo [] 4 48 ({ a := none, len := 0 }) 1 [.str { data := #[99, 101, 110, 116, 115] }, .int .i64 2, .str ByteArray.empty, .int .i64 n67] (fun l68 h69 =>
 x61 ((s16, s22, n11, 1, { data := #[97, 110, 110, 64, 98, 46, 100, 101] }, l68, ())) h69)) h66) h64)) h62)
 (x61 ((s16, s22, n11, 1, { data := #[97, 110, 110, 64, 98, 46, 100, 101] }, { a := none, len := 0 }, ()))))) h24) h21) h18) h15) h13)
 (Q [.one (.slice 6 l10)]))) h7) h4) h2
theorem den8 (I : FuncId → List V → Post → T) (p0 : Option (Nat × Nat)) (n1 : Int) (Q : Post) : denF Go.Proofs.Tryz.prog 256 (⟨[(62669, 549218943232, [(8, tvar Go.Proofs.Tryz.prog 54)]), (125341, 2249600790429952, [(8, tvar Go.Proofs.Tryz.prog 54)])], [(122, 2305843009213661664, [(5, tk Go.Proofs.Tryz.prog 34), (6, tk Go.Proofs.Tryz.prog 3), (15, tk Go.Proofs.Tryz.prog 3)])]⟩) I 8 [V.one (Cell.ptr p0), V.one (Cell.int IntKind.i64 n1)] Q = vc8 I p0 n1 Q := by kernel_rfl
/-- handbill/handmake.eventId -/
def vc28 (I : FuncId → List V → Post → T) (n0 : Int) (Q : Post) : T :=
 fun h1 =>
 (1 + (Utf8.encode (IntKind.i32.wrap (IntKind.i64.wrap (97 + (IntKind.i64.wrap (n0.tdiv 26)).tmod 26)))).size ≤ 9223372036854775807) ∧
 (({ data := #[101] } ++ Utf8.encode (IntKind.i32.wrap (IntKind.i64.wrap (97 + (IntKind.i64.wrap (n0.tdiv 26)).tmod 26)))).size + (Utf8.encode (IntKind.i32.wrap (IntKind.i64.wrap (97 + n0.tmod 26)))).size ≤ 9223372036854775807) ∧
 Q [.one (.str ({ data := #[101] } ++ Utf8.encode (IntKind.i32.wrap (IntKind.i64.wrap (97 + (IntKind.i64.wrap (n0.tdiv 26)).tmod 26))) ++ Utf8.encode (IntKind.i32.wrap (IntKind.i64.wrap (97 + n0.tmod 26)))))] h1
theorem den28 (I : FuncId → List V → Post → T) (n0 : Int) (Q : Post) : denF Go.Proofs.Tryz.prog 0 (⟨[], []⟩) I 28 [V.one (Cell.int IntKind.i64 n0)] Q = vc28 I n0 Q := by kernel_rfl
/-- handbill/segment.Why -/
def vc10 (I : FuncId → List V → Post → T) (n0 : Int) (s1 : ByteArray) (s2 : ByteArray) (s3 : ByteArray) (l4 : Sl) (l5 : Sl) (n6 : Int) (n7 : Int) (l8 : Sl) (l9 : Sl) (l10 : Sl) (n11 : Int) (Q : Post) : T :=
 fun h12 =>
 I 32 [.agg [.int .i64 n0, .str s1, .str s2, .str s3, .slice 3 l4, .slice 5 l5, .int .i64 n6, .int .i64 n7, .slice 9 l8], .one (.slice 4 l9), .one (.slice 6 l10), .one (.int .i64 n11)]
 (fun cs13 h14 =>
 ∃ n15 : Int, (cs13 = [.one (.int .i64 n15)]) ∧
 (ifT (!decide (n15 = 0))
 (Q [.one (.slice 9 { a := none, len := 0 }), .one (.int .i64 n15)])
 (fun h16 =>
 I 33 [.agg [.int .i64 n0, .str s1, .str s2, .str s3, .slice 3 l4, .slice 5 l5, .int .i64 n6, .int .i64 n7, .slice 9 l8], .one (.slice 4 l9), .one (.slice 6 l10)]
 (fun cs17 h18 =>
 ∃ p19 : Option (Nat × Nat), (cs17 = [.one (.ptr p19)]) ∧
 I 34 [.one (.ptr p19), .one (.int .i64 n11)]
 (fun cs20 h21 =>
 ∃ l22 : Sl, (cs20 = [.one (.slice 9 l22)]) ∧
 (loopK (A := Sl × Int) (({ a := none, len := 0 }, 0))
 (fun x23 => uncur fun l24 n25 => ifT (decide (n25 < (↑l22.len : Int)))
 (fun h26 =>
 ((0 ≤ n25) ∧
 n25 < (↑l22.len : Int)) ∧
 (derefK l22.a (fun i27 => fun i28 h29 =>
 ∃ n30 : Int, ∃ s31 : ByteArray, ∃ s32 : ByteArray, ∃ s33 : ByteArray, ∃ l34 : Sl, ∃ l35 : Sl, ∃ n36 : Int, ∃ n37 : Int, ∃ l38 : Sl, (h29.read i27 (i28 + n25.toNat * 9) 9 = some [.int .i64 n30, .str s31, .str s32, .str s33, .slice 3 l34, .slice 5 l35, .int .i64 n36, .int .i64 n37, .slice 9 l38]) ∧
 (newK (.cells false [.int .i64 0, .str ByteArray.empty, .str ByteArray.empty, .str ByteArray.empty, .slice 3 { a := none, len := 0 }, .slice 5 { a := none, len := 0 }, .int .i64 0, .int .i64 0, .slice 9 { a := none, len := 0 }]) (fun i39 h40 =>
 (storeK [] i39 0 [.int .i64 n30, .str s31, .str s32, .str s33, .slice 3 l34, .slice 5 l35, .int .i64 n36, .int .i64 n37, .slice 9 l38] (fun h41 =>
 I 35 [.one (.slice 9 l24), .one (.func (some (36, [(i39, 0)])))]
 (fun cs42 h43 =>
 ∃ b44 : Bool, (cs42 = [.one (.bool b44)]) ∧
 (ifT (!b44)
 (fun h45 =>
 ∃ n46 : Int, ∃ s47 : ByteArray, ∃ s48 : ByteArray, ∃ s49 : ByteArray, ∃ l50 : Sl, ∃ l51 : Sl, ∃ n52 : Int, ∃ n53 : Int, ∃ l54 : Sl, (h45.read i39 0 9 = some [.int .i64 n46, .str s47, .str s48, .str s49, .slice 3 l50, .slice 5 l51, .int .i64 n52, .int .i64 n53, .slice 9 l54]) ∧
 (appendTo [] 9 144 l24 1 [.int .i64 n46, .str s47, .str s48, .str s49, .slice 3 l50, .slice 5 l51, .int .i64 n52, .int .i64 n53, .slice 9 l54] (fun l55 h56 =>
 x23 ((l55, IntKind.i64.wrap (n25 + 1))) h56)) h45)
 (x23 ((l24, IntKind.i64.wrap (n25 + 1))))) h43) h41)) h40)) h29)) h26)
 (Q [.one (.slice 9 l24), .one (.int .i64 0)]))) h21) h18) h16)) h14) h12
theorem den10 (I : FuncId → List V → Post → T) (n0 : Int) (s1 : ByteArray) (s2 : ByteArray) (s3 : ByteArray) (l4 : Sl) (l5 : Sl) (n6 : Int) (n7 : Int) (l8 : Sl) (l9 : Sl) (l10 : Sl) (n11 : Int) (Q : Post) : denF Go.Proofs.Tryz.prog 16 (⟨[], [(122, 4397509650432, [(11, tk Go.Proofs.Tryz.prog 28), (29, tk Go.Proofs.Tryz.prog 3)])]⟩) I 10 [V.agg [Cell.int IntKind.i64 n0, Cell.str s1, Cell.str s2, Cell.str s3, Cell.slice 3 l4, Cell.slice 5 l5, Cell.int IntKind.i64 n6, Cell.int IntKind.i64 n7, Cell.slice 9 l8], V.one (Cell.slice 4 l9), V.one (Cell.slice 6 l10), V.one (Cell.int IntKind.i64 n11)] Q = vc10 I n0 s1 s2 s3 l4 l5 n6 n7 l8 l9 l10 n11 Q := by kernel_rfl
/-- handbill/segment.checkAll -/
def vc32 (I : FuncId → List V → Post → T) (n0 : Int) (s1 : ByteArray) (s2 : ByteArray) (s3 : ByteArray) (l4 : Sl) (l5 : Sl) (n6 : Int) (n7 : Int) (l8 : Sl) (l9 : Sl) (l10 : Sl) (n11 : Int) (Q : Post) : T :=
 fun h12 =>
 I 40 [.agg [.int .i64 n0, .str s1, .str s2, .str s3, .slice 3 l4, .slice 5 l5, .int .i64 n6, .int .i64 n7, .slice 9 l8], .one (.slice 4 l9), .one (.slice 6 l10)]
 (fun cs13 h14 =>
 ∃ n15 : Int, (cs13 = [.one (.int .i64 n15)]) ∧
 (ifT (!decide (n15 = 0))
 (Q [.one (.int .i64 n15)])
 (fun h16 =>
 I 59 [.one (.int .i64 n11), .one (.int .i64 0), .one (.int .i64 4321439)]
 (fun cs17 h18 =>
 ∃ b19 : Bool, (cs17 = [.one (.bool b19)]) ∧
 (ifT (!b19)
 (Q [.one (.int .i64 1)])
 (Q [.one (.int .i64 0)])) h18) h16)) h14) h12
theorem den32 (I : FuncId → List V → Post → T) (n0 : Int) (s1 : ByteArray) (s2 : ByteArray) (s3 : ByteArray) (l4 : Sl) (l5 : Sl) (n6 : Int) (n7 : Int) (l8 : Sl) (l9 : Sl) (l10 : Sl) (n11 : Int) (Q : Post) : denF Go.Proofs.Tryz.prog 16 (⟨[], []⟩) I 32 [V.agg [Cell.int IntKind.i64 n0, Cell.str s1, Cell.str s2, Cell.str s3, Cell.slice 3 l4, Cell.slice 5 l5, Cell.int IntKind.i64 n6, Cell.int IntKind.i64 n7, Cell.slice 9 l8], V.one (Cell.slice 4 l9), V.one (Cell.slice 6 l10), V.one (Cell.int IntKind.i64 n11)] Q = vc32 I n0 s1 s2 s3 l4 l5 n6 n7 l8 l9 l10 n11 Q := by kernel_rfl
/-- handbill/segment.checkFor -/
def vc40 (I : FuncId → List V → Post → T) (n0 : Int) (s1 : ByteArray) (s2 : ByteArray) (s3 : ByteArray) (l4 : Sl) (l5 : Sl) (n6 : Int) (n7 : Int) (l8 : Sl) (l9 : Sl) (l10 : Sl) (Q : Post) : T :=
 fun h11 =>
 I 82 [.agg [.int .i64 n0, .str s1, .str s2, .str s3, .slice 3 l4, .slice 5 l5, .int .i64 n6, .int .i64 n7, .slice 9 l8]]
 (fun cs12 h13 =>
 ∃ n14 : Int, (cs12 = [.one (.int .i64 n14)]) ∧
 (ifT (!decide (n14 = 0))
 (Q [.one (.int .i64 n14)])
 (fun h15 =>
 I 83 [.one (.slice 4 l9)]
 (fun cs16 h17 =>
 ∃ n18 : Int, (cs16 = [.one (.int .i64 n18)]) ∧
 (ifT (!decide (n18 = 0))
 (Q [.one (.int .i64 n18)])
 (fun h19 =>
 I 84 [.one (.slice 6 l10)]
 (fun cs20 h21 =>
 ∃ n22 : Int, (cs20 = [.one (.int .i64 n22)]) ∧
 Q [.one (.int .i64 n22)] h21) h19)) h17) h15)) h13) h11
theorem den40 (I : FuncId → List V → Post → T) (n0 : Int) (s1 : ByteArray) (s2 : ByteArray) (s3 : ByteArray) (l4 : Sl) (l5 : Sl) (n6 : Int) (n7 : Int) (l8 : Sl) (l9 : Sl) (l10 : Sl) (Q : Post) : denF Go.Proofs.Tryz.prog 8 (⟨[], []⟩) I 40 [V.agg [Cell.int IntKind.i64 n0, Cell.str s1, Cell.str s2, Cell.str s3, Cell.slice 3 l4, Cell.slice 5 l5, Cell.int IntKind.i64 n6, Cell.int IntKind.i64 n7, Cell.slice 9 l8], V.one (Cell.slice 4 l9), V.one (Cell.slice 6 l10)] Q = vc40 I n0 s1 s2 s3 l4 l5 n6 n7 l8 l9 l10 Q := by kernel_rfl
/-- handbill/segment.CheckCond -/
def vc82 (I : FuncId → List V → Post → T) (n0 : Int) (s1 : ByteArray) (s2 : ByteArray) (s3 : ByteArray) (l4 : Sl) (l5 : Sl) (n6 : Int) (n7 : Int) (l8 : Sl) (Q : Post) : T :=
 fun h9 =>
 I 116 [.agg [.int .i64 n0, .str s1, .str s2, .str s3, .slice 3 l4, .slice 5 l5, .int .i64 n6, .int .i64 n7, .slice 9 l8]]
 (fun cs10 h11 =>
 ∃ b12 : Bool, (cs10 = [.one (.bool b12)]) ∧
 (ifT b12
 (Q [.one (.int .i64 2)])
 (fun h13 =>
 I 117 [.agg [.int .i64 n0, .str s1, .str s2, .str s3, .slice 3 l4, .slice 5 l5, .int .i64 n6, .int .i64 n7, .slice 9 l8], .one (.func (some (118, [])))]
 (fun cs14 h15 =>
 ∃ n16 : Int, (cs14 = [.one (.int .i64 n16)]) ∧
 Q [.one (.int .i64 n16)] h15) h13)) h11) h9
theorem den82 (I : FuncId → List V → Post → T) (n0 : Int) (s1 : ByteArray) (s2 : ByteArray) (s3 : ByteArray) (l4 : Sl) (l5 : Sl) (n6 : Int) (n7 : Int) (l8 : Sl) (Q : Post) : denF Go.Proofs.Tryz.prog 2 (⟨[], []⟩) I 82 [V.agg [Cell.int IntKind.i64 n0, Cell.str s1, Cell.str s2, Cell.str s3, Cell.slice 3 l4, Cell.slice 5 l5, Cell.int IntKind.i64 n6, Cell.int IntKind.i64 n7, Cell.slice 9 l8]] Q = vc82 I n0 s1 s2 s3 l4 l5 n6 n7 l8 Q := by kernel_rfl
/-- handbill/segment.large -/
def vc116 (I : FuncId → List V → Post → T) (n0 : Int) (s1 : ByteArray) (s2 : ByteArray) (s3 : ByteArray) (l4 : Sl) (l5 : Sl) (n6 : Int) (n7 : Int) (l8 : Sl) (Q : Post) : T :=
 fun h9 =>
 (newK (.cells false [.int .i64 0]) (fun i10 h11 =>
 (storeK [] i10 0 [.int .i64 0] (fun h12 =>
 (newK (.cells false [.func none]) (fun i13 h14 =>
 (storeK [] i13 0 [.func (some (168, [(i10, 0), (i13, 0)]))] (fun h15 =>
 ∃ p16 : Option (Nat × List (Nat × Nat)), (h15.read i13 0 1 = some [.func p16]) ∧
 (funK p16 (fun i17 => fun cs18 h19 =>
 I i17 (.agg [.int .i64 n0, .str s1, .str s2, .str s3, .slice 3 l4, .slice 5 l5, .int .i64 n6, .int .i64 n7, .slice 9 l8] :: .one (.int .i64 1) :: cs18)
 (fun cs20 h21 =>
 ∃ b22 : Bool, (cs20 = [.one (.bool b22)]) ∧
 Q [.one (.bool b22)] h21) h19)) h15)) h14)) h12)) h11)) h9
theorem den116 (I : FuncId → List V → Post → T) (n0 : Int) (s1 : ByteArray) (s2 : ByteArray) (s3 : ByteArray) (l4 : Sl) (l5 : Sl) (n6 : Int) (n7 : Int) (l8 : Sl) (Q : Post) : denF Go.Proofs.Tryz.prog 2 (⟨[], []⟩) I 116 [V.agg [Cell.int IntKind.i64 n0, Cell.str s1, Cell.str s2, Cell.str s3, Cell.slice 3 l4, Cell.slice 5 l5, Cell.int IntKind.i64 n6, Cell.int IntKind.i64 n7, Cell.slice 9 l8]] Q = vc116 I n0 s1 s2 s3 l4 l5 n6 n7 l8 Q := by kernel_rfl
/-- handbill/segment.large$1 -/
def vc168 (I : FuncId → List V → Post → T) (n0 : Int) (s1 : ByteArray) (s2 : ByteArray) (s3 : ByteArray) (l4 : Sl) (l5 : Sl) (n6 : Int) (n7 : Int) (l8 : Sl) (n9 : Int) (i10 : Nat) (i11 : Nat) (i12 : Nat) (i13 : Nat) (Q : Post) : T :=
 fun h14 =>
 (newK (.cells false [.int .i64 n9]) (fun i15 h16 =>
 ∃ n17 : Int, (h16.read i10 i11 1 = some [.int .i64 n17]) ∧
 (storeK [] i10 i11 [.int .i64 (IntKind.i64.wrap (n17 + 1))] (joinK (A := Bool)
 (fun b18 => ifT b18
 (Q [.one (.bool true)])
 (fun h19 =>
 I 35 [.one (.slice 9 l8), .one (.func (some (169, [(i12, i13), (i15, 0)])))]
 (fun cs20 h21 =>
 ∃ b22 : Bool, (cs20 = [.one (.bool b22)]) ∧
 Q [.one (.bool b22)] h21) h19))
 (fun x23 h24 =>
 ∃ n25 : Int, (h24.read i10 i11 1 = some [.int .i64 n25]) ∧
 (ifT (decide (n25 > 300))
 (x23 true)
 (fun h26 =>
 ∃ n27 : Int, (h26.read i15 0 1 = some [.int .i64 n27]) ∧
 x23 (decide (n27 > 20)) h26)) h24))) h16)) h14
theorem den168 (I : FuncId → List V → Post → T) (n0 : Int) (s1 : ByteArray) (s2 : ByteArray) (s3 : ByteArray) (l4 : Sl) (l5 : Sl) (n6 : Int) (n7 : Int) (l8 : Sl) (n9 : Int) (i10 : Nat) (i11 : Nat) (i12 : Nat) (i13 : Nat) (Q : Post) : denF Go.Proofs.Tryz.prog 16 (⟨[(28, 32256, [(14, tk Go.Proofs.Tryz.prog 4)])], []⟩) I 168 [V.agg [Cell.int IntKind.i64 n0, Cell.str s1, Cell.str s2, Cell.str s3, Cell.slice 3 l4, Cell.slice 5 l5, Cell.int IntKind.i64 n6, Cell.int IntKind.i64 n7, Cell.slice 9 l8], V.one (Cell.int IntKind.i64 n9), V.one (Cell.ptr (some (i10, i11))), V.one (Cell.ptr (some (i12, i13)))] Q = vc168 I n0 s1 s2 s3 l4 l5 n6 n7 l8 n9 i10 i11 i12 i13 Q := by kernel_rfl
/-- slices.ContainsFunc[[]handbill/api.Cond,handbill/api.Cond] -/
def vc35 (I : FuncId → List V → Post → T) (l0 : Sl) (p1 : Option (Nat × List (Nat × Nat))) (Q : Post) : T :=
 fun h2 =>
 I 67 [.one (.slice 9 l0), .one (.func p1)]
 (fun cs3 h4 =>
 ∃ n5 : Int, (cs3 = [.one (.int .i64 n5)]) ∧
 Q [.one (.bool (decide (n5 ≥ 0)))] h4) h2
theorem den35 (I : FuncId → List V → Post → T) (l0 : Sl) (p1 : Option (Nat × List (Nat × Nat))) (Q : Post) : denF Go.Proofs.Tryz.prog 0 (⟨[], []⟩) I 35 [V.one (Cell.slice 9 l0), V.one (Cell.func p1)] Q = vc35 I l0 p1 Q := by kernel_rfl
/-- slices.IndexFunc[[]handbill/api.Cond,handbill/api.Cond] -/
def vc67 (I : FuncId → List V → Post → T) (l0 : Sl) (p1 : Option (Nat × List (Nat × Nat))) (Q : Post) : T :=
 loopK (A := Int) 0
 (fun x2 n3 => ifT (decide (n3 < (↑l0.len : Int)))
 (fun h4 =>
 ((0 ≤ n3) ∧
 n3 < (↑l0.len : Int)) ∧
 (derefK l0.a (fun i5 => fun i6 h7 =>
 ∃ n8 : Int, ∃ s9 : ByteArray, ∃ s10 : ByteArray, ∃ s11 : ByteArray, ∃ l12 : Sl, ∃ l13 : Sl, ∃ n14 : Int, ∃ n15 : Int, ∃ l16 : Sl, (h7.read i5 (i6 + n3.toNat * 9) 9 = some [.int .i64 n8, .str s9, .str s10, .str s11, .slice 3 l12, .slice 5 l13, .int .i64 n14, .int .i64 n15, .slice 9 l16]) ∧
 (funK p1 (fun i17 => fun cs18 h19 =>
 I i17 (.agg [.int .i64 n8, .str s9, .str s10, .str s11, .slice 3 l12, .slice 5 l13, .int .i64 n14, .int .i64 n15, .slice 9 l16] :: cs18)
 (fun cs20 h21 =>
 ∃ b22 : Bool, (cs20 = [.one (.bool b22)]) ∧
 (ifT b22
 (Q [.one (.int .i64 n3)])
 (x2 (IntKind.i64.wrap (n3 + 1)))) h21) h19)) h7)) h4)
 (Q [.one (.int .i64 (-1))]))
theorem den67 (I : FuncId → List V → Post → T) (l0 : Sl) (p1 : Option (Nat × List (Nat × Nat))) (Q : Post) : denF Go.Proofs.Tryz.prog 0 (⟨[], [(26, 524080, [(8, tk Go.Proofs.Tryz.prog 3)])]⟩) I 67 [V.one (Cell.slice 9 l0), V.one (Cell.func p1)] Q = vc67 I l0 p1 Q := by kernel_rfl
/-- handbill/segment.large$1$1 -/
def vc169 (I : FuncId → List V → Post → T) (n0 : Int) (s1 : ByteArray) (s2 : ByteArray) (s3 : ByteArray) (l4 : Sl) (l5 : Sl) (n6 : Int) (n7 : Int) (l8 : Sl) (i9 : Nat) (i10 : Nat) (i11 : Nat) (i12 : Nat) (Q : Post) : T :=
 fun h13 =>
 ∃ p14 : Option (Nat × List (Nat × Nat)), (h13.read i9 i10 1 = some [.func p14]) ∧
 ∃ n15 : Int, (h13.read i11 i12 1 = some [.int .i64 n15]) ∧
 (funK p14 (fun i16 => fun cs17 h18 =>
 I i16 (.agg [.int .i64 n0, .str s1, .str s2, .str s3, .slice 3 l4, .slice 5 l5, .int .i64 n6, .int .i64 n7, .slice 9 l8] :: .one (.int .i64 (IntKind.i64.wrap (n15 + 1))) :: cs17)
 (fun cs19 h20 =>
 ∃ b21 : Bool, (cs19 = [.one (.bool b21)]) ∧
 Q [.one (.bool b21)] h20) h18)) h13
theorem den169 (I : FuncId → List V → Post → T) (n0 : Int) (s1 : ByteArray) (s2 : ByteArray) (s3 : ByteArray) (l4 : Sl) (l5 : Sl) (n6 : Int) (n7 : Int) (l8 : Sl) (i9 : Nat) (i10 : Nat) (i11 : Nat) (i12 : Nat) (Q : Post) : denF Go.Proofs.Tryz.prog 8 (⟨[], []⟩) I 169 [V.agg [Cell.int IntKind.i64 n0, Cell.str s1, Cell.str s2, Cell.str s3, Cell.slice 3 l4, Cell.slice 5 l5, Cell.int IntKind.i64 n6, Cell.int IntKind.i64 n7, Cell.slice 9 l8], V.one (Cell.ptr (some (i9, i10))), V.one (Cell.ptr (some (i11, i12)))] Q = vc169 I n0 s1 s2 s3 l4 l5 n6 n7 l8 i9 i10 i11 i12 Q := by kernel_rfl
/-- handbill/segment.walk -/
def vc117 (I : FuncId → List V → Post → T) (n0 : Int) (s1 : ByteArray) (s2 : ByteArray) (s3 : ByteArray) (l4 : Sl) (l5 : Sl) (n6 : Int) (n7 : Int) (l8 : Sl) (p9 : Option (Nat × List (Nat × Nat))) (Q : Post) : T :=
 fun h10 =>
 (funK p9 (fun i11 => fun cs12 h13 =>
 I i11 (.agg [.int .i64 n0, .str s1, .str s2, .str s3, .slice 3 l4, .slice 5 l5, .int .i64 n6, .int .i64 n7, .slice 9 l8] :: cs12)
 (fun cs14 h15 =>
 ∃ n16 : Int, (cs14 = [.one (.int .i64 n16)]) ∧
 (ifT (!decide (n16 = 0))
 (Q [.one (.int .i64 n16)])
 (loopK (A := Int) 0
 (fun x17 n18 => ifT (decide (n18 < (↑l8.len : Int)))
 (fun h19 =>
 ((0 ≤ n18) ∧
 n18 < (↑l8.len : Int)) ∧
 (derefK l8.a (fun i20 => fun i21 h22 =>
 ∃ n23 : Int, ∃ s24 : ByteArray, ∃ s25 : ByteArray, ∃ s26 : ByteArray, ∃ l27 : Sl, ∃ l28 : Sl, ∃ n29 : Int, ∃ n30 : Int, ∃ l31 : Sl, (h22.read i20 (i21 + n18.toNat * 9) 9 = some [.int .i64 n23, .str s24, .str s25, .str s26, .slice 3 l27, .slice 5 l28, .int .i64 n29, .int .i64 n30, .slice 9 l31]) ∧
 I 117 [.agg [.int .i64 n23, .str s24, .str s25, .str s26, .slice 3 l27, .slice 5 l28, .int .i64 n29, .int .i64 n30, .slice 9 l31], .one (.func p9)]
 (fun cs32 h33 =>
 ∃ n34 : Int, (cs32 = [.one (.int .i64 n34)]) ∧
 (ifT (!decide (n34 = 0))
 (Q [.one (.int .i64 n34)])
 (x17 (IntKind.i64.wrap (n18 + 1)))) h33) h22)) h19)
 (Q [.one (.int .i64 0)])))) h15) h13)) h10
theorem den117 (I : FuncId → List V → Post → T) (n0 : Int) (s1 : ByteArray) (s2 : ByteArray) (s3 : ByteArray) (l4 : Sl) (l5 : Sl) (n6 : Int) (n7 : Int) (l8 : Sl) (p9 : Option (Nat × List (Nat × Nat))) (Q : Post) : denF Go.Proofs.Tryz.prog 132 (⟨[], [(58, 536609168, [(18, tk Go.Proofs.Tryz.prog 3)])]⟩) I 117 [V.agg [Cell.int IntKind.i64 n0, Cell.str s1, Cell.str s2, Cell.str s3, Cell.slice 3 l4, Cell.slice 5 l5, Cell.int IntKind.i64 n6, Cell.int IntKind.i64 n7, Cell.slice 9 l8], V.one (Cell.func p9)] Q = vc117 I n0 s1 s2 s3 l4 l5 n6 n7 l8 p9 Q := by kernel_rfl
/-- handbill/segment.checkNode -/
def vc118 (I : FuncId → List V → Post → T) (n0 : Int) (s1 : ByteArray) (s2 : ByteArray) (s3 : ByteArray) (l4 : Sl) (l5 : Sl) (n6 : Int) (n7 : Int) (l8 : Sl) (Q : Post) : T :=
 fun h9 =>
 I 170 [.one (.int .i64 n0)]
 (fun cs10 h11 =>
 ∃ b12 : Bool, ∃ b13 : Bool, ∃ b14 : Bool, ∃ b15 : Bool, ∃ b16 : Bool, ∃ b17 : Bool, ∃ n18 : Int, ∃ n19 : Int, ∃ n20 : Int, ∃ n21 : Int, ∃ b22 : Bool, (cs10 = [.agg [.bool b12, .bool b13, .bool b14, .bool b15, .bool b16, .bool b17, .int .i64 n18, .int .i64 n19, .int .i64 n20, .int .i64 n21], .one (.bool b22)]) ∧
 (ifT (!b22)
 (Q [.one (.int .i64 4)])
 (fun h23 =>
 I 171 [.agg [.int .i64 n0, .str s1, .str s2, .str s3, .slice 3 l4, .slice 5 l5, .int .i64 n6, .int .i64 n7, .slice 9 l8], .agg [.bool b12, .bool b13, .bool b14, .bool b15, .bool b16, .bool b17, .int .i64 n18, .int .i64 n19, .int .i64 n20, .int .i64 n21]]
 (fun cs24 h25 =>
 ∃ b26 : Bool, (cs24 = [.one (.bool b26)]) ∧
 (ifT (!b26)
 (Q [.one (.int .i64 3)])
 (joinK (A := Bool)
 (fun b27 => ifT b27
 (Q [.one (.int .i64 5)])
 (joinK (A := Bool)
 (fun b28 => ifT b28
 (Q [.one (.int .i64 4)])
 (loopK (A := Int) 0
 (fun x29 n30 => ifT (decide (n30 < (↑l4.len : Int)))
 (fun h31 =>
 ((0 ≤ n30) ∧
 n30 < (↑l4.len : Int)) ∧
 (derefK l4.a (fun i32 => fun i33 h34 =>
 ∃ n35 : Int, ∃ s36 : ByteArray, ∃ n37 : Int, (h34.read i32 (i33 + n30.toNat * 3) 3 = some [.int .i64 n35, .str s36, .int .i64 n37]) ∧
 I 120 [.agg [.int .i64 n35, .str s36, .int .i64 n37]]
 (fun cs38 h39 =>
 ∃ n40 : Int, (cs38 = [.one (.int .i64 n40)]) ∧
 (ifT (!decide (n40 = 0))
 (Q [.one (.int .i64 n40)])
 (ifT (decide (n0 = 9))
 (ifT (!decide (n35 = 1))
 (Q [.one (.int .i64 10)])
 (x29 (IntKind.i64.wrap (n30 + 1))))
 (ifT (decide (n0 = 10))
 (ifT (!decide (n35 = 1))
 (Q [.one (.int .i64 10)])
 (x29 (IntKind.i64.wrap (n30 + 1))))
 (x29 (IntKind.i64.wrap (n30 + 1)))))) h39) h34)) h31)
 (fun h41 =>
 I 173 [.one (.slice 5 l5)]
 (fun cs42 h43 =>
 ∃ n44 : Int, (cs42 = [.one (.int .i64 n44)]) ∧
 (ifT (!decide (n44 = 0))
 (Q [.one (.int .i64 n44)])
 (joinK (A := Int × Int)
 (uncur fun n45 n46 => fun h47 =>
 I 59 [.one (.int .i64 n6), .one (.int .i64 0), .one (.int .i64 4321440)]
 (fun cs48 h49 =>
 ∃ b50 : Bool, (cs48 = [.one (.bool b50)]) ∧
 (ifT (!b50)
 (Q [.one (.int .i64 1)])
 (fun h51 =>
 I 59 [.one (.int .i64 n7), .one (.int .i64 n45), .one (.int .i64 n46)]
 (fun cs52 h53 =>
 ∃ b54 : Bool, (cs52 = [.one (.bool b54)]) ∧
 (ifT (!b54)
 (Q [.one (.int .i64 1)])
 (Q [.one (.int .i64 0)])) h53) h51)) h49) h47)
 (fun x55 => ifT (decide (n0 = 13))
 (x55 ((0, 4321440)))
 (x55 ((-5000000000000000, 5000000000000000)))))) h43) h41))))
 (fun x56 => ifT b14
 (fun h57 =>
 I 71 [.one (.str s3)]
 (fun cs58 h59 =>
 ∃ n60 : Int, (cs58 = [.one (.int .i64 n60)]) ∧
 x56 (decide (n60 < 0)) h59) h57)
 (x56 false))))
 (fun x61 => ifT b12
 (fun h62 =>
 I 172 [.one (.str s1)]
 (fun cs63 h64 =>
 ∃ b65 : Bool, (cs63 = [.one (.bool b65)]) ∧
 (ifT (!b65)
 (x61 true)
 (ifT b13
 (fun h66 =>
 I 172 [.one (.str s2)]
 (fun cs67 h68 =>
 ∃ b69 : Bool, (cs67 = [.one (.bool b69)]) ∧
 x61 (!b69) h68) h66)
 (x61 false))) h64) h62)
 (ifT b13
 (fun h70 =>
 I 172 [.one (.str s2)]
 (fun cs71 h72 =>
 ∃ b73 : Bool, (cs71 = [.one (.bool b73)]) ∧
 x61 (!b73) h72) h70)
 (x61 false))))) h25) h23)) h11) h9
theorem den118 (I : FuncId → List V → Post → T) (n0 : Int) (s1 : ByteArray) (s2 : ByteArray) (s3 : ByteArray) (l4 : Sl) (l5 : Sl) (n6 : Int) (n7 : Int) (l8 : Sl) (Q : Post) : denF Go.Proofs.Tryz.prog 74 (⟨[(509, 1536, [(9, tk Go.Proofs.Tryz.prog 3), (10, tk Go.Proofs.Tryz.prog 3)]), (926, 17592152489984, [(25, tk Go.Proofs.Tryz.prog 4)]), (3710, 8989607068696576, [(44, tk Go.Proofs.Tryz.prog 4)])], [(122, 604462837749720549425348, [(56, tk Go.Proofs.Tryz.prog 3)])]⟩) I 118 [V.agg [Cell.int IntKind.i64 n0, Cell.str s1, Cell.str s2, Cell.str s3, Cell.slice 3 l4, Cell.slice 5 l5, Cell.int IntKind.i64 n6, Cell.int IntKind.i64 n7, Cell.slice 9 l8]] Q = vc118 I n0 s1 s2 s3 l4 l5 n6 n7 l8 Q := by kernel_rfl
/-- handbill/segment.within -/
def vc59 (I : FuncId → List V → Post → T) (n0 : Int) (n1 : Int) (n2 : Int) (Q : Post) : T :=
 ifT (decide (n1 ≤ n0))
 (Q [.one (.bool (decide (n0 ≤ n2)))])
 (Q [.one (.bool false)])
theorem den59 (I : FuncId → List V → Post → T) (n0 : Int) (n1 : Int) (n2 : Int) (Q : Post) : denF Go.Proofs.Tryz.prog 0 (⟨[], []⟩) I 59 [V.one (Cell.int IntKind.i64 n0), V.one (Cell.int IntKind.i64 n1), V.one (Cell.int IntKind.i64 n2)] Q = vc59 I n0 n1 n2 Q := by kernel_rfl
/-- handbill/segment.signAt -/
def vc71 (I : FuncId → List V → Post → T) (s0 : ByteArray) (Q : Post) : T :=
 fun h1 =>
 (newK (.cells false [.str { data := #[61] }, .str { data := #[33, 61] }, .str { data := #[60] }, .str { data := #[60, 61] }, .str { data := #[62] }, .str { data := #[62, 61] }]) (fun i2 h3 =>
 I 108 [.one (.slice 1 { a := some (i2, 0), len := 6 }), .one (.str s0)]
 (fun cs4 h5 =>
 ∃ n6 : Int, (cs4 = [.one (.int .i64 n6)]) ∧
 Q [.one (.int .i64 n6)] h5) h3)) h1
theorem den71 (I : FuncId → List V → Post → T) (s0 : ByteArray) (Q : Post) : denF Go.Proofs.Tryz.prog 0 (⟨[], []⟩) I 71 [V.one (Cell.str s0)] Q = vc71 I s0 Q := by kernel_rfl
/-- slices.Index[[]string,string] -/
def vc108 (I : FuncId → List V → Post → T) (l0 : Sl) (s1 : ByteArray) (Q : Post) : T :=
 loopK (A := Int) 0
 (fun x2 n3 => ifT (decide (n3 < (↑l0.len : Int)))
 (fun h4 =>
 ((0 ≤ n3) ∧
 n3 < (↑l0.len : Int)) ∧
 (derefK l0.a (fun i5 => fun i6 h7 =>
 ∃ s8 : ByteArray, (h7.read i5 (i6 + n3.toNat * 1) 1 = some [.str s8]) ∧
 (ifT (decide (s1 = s8))
 (Q [.one (.int .i64 n3)])
 (x2 (IntKind.i64.wrap (n3 + 1)))) h7)) h4)
 (Q [.one (.int .i64 (-1))]))
theorem den108 (I : FuncId → List V → Post → T) (l0 : Sl) (s1 : ByteArray) (Q : Post) : denF Go.Proofs.Tryz.prog 0 (⟨[], [(26, 524080, [(8, tk Go.Proofs.Tryz.prog 3)])]⟩) I 108 [V.one (Cell.slice 1 l0), V.one (Cell.str s1)] Q = vc108 I l0 s1 Q := by kernel_rfl
/-- handbill/person.CheckValue -/
def vc120 (I : FuncId → List V → Post → T) (n0 : Int) (s1 : ByteArray) (n2 : Int) (Q : Post) : T :=
 ifT (decide (n0 = 1))
 (ifT (!decide (n2 = 0))
 (Q [.one (.int .i64 3)])
 (fun h3 =>
 I 179 [.one (.str s1)]
 (fun cs4 h5 =>
 ∃ n6 : Int, (cs4 = [.one (.int .i64 n6)]) ∧
 Q [.one (.int .i64 n6)] h5) h3))
 (joinK (A := Int × Int)
 (uncur fun n7 n8 => ifT (!decide (s1 = { data := #[] }))
 (Q [.one (.int .i64 3)])
 (fun h9 =>
 I 174 [.one (.int .i64 n2), .one (.int .i64 n7), .one (.int .i64 n8)]
 (fun cs10 h11 =>
 ∃ b12 : Bool, (cs10 = [.one (.bool b12)]) ∧
 (ifT (!b12)
 (Q [.one (.int .i64 1)])
 (Q [.one (.int .i64 0)])) h11) h9))
 (fun x13 => ifT (decide (n0 = 2))
 (x13 ((-1000000000000, 1000000000000)))
 (joinK (A := Int)
 (fun n14 h15 =>
 x13 ((0, n14)) h15)
 (fun x16 => ifT (decide (n0 = 3))
 (x16 1)
 (ifT (decide (n0 = 4))
 (x16 4321439)
 (Q [.one (.int .i64 4)]))))))
theorem den120 (I : FuncId → List V → Post → T) (n0 : Int) (s1 : ByteArray) (n2 : Int) (Q : Post) : denF Go.Proofs.Tryz.prog 2 (⟨[(471, 1966108, [(3, tk Go.Proofs.Tryz.prog 3), (4, tk Go.Proofs.Tryz.prog 3)]), (1887, 1572884, [(4, tk Go.Proofs.Tryz.prog 3)])], []⟩) I 120 [V.agg [Cell.int IntKind.i64 n0, Cell.str s1, Cell.int IntKind.i64 n2]] Q = vc120 I n0 s1 n2 Q := by kernel_rfl
/-- handbill/person.within -/
def vc174 (I : FuncId → List V → Post → T) (n0 : Int) (n1 : Int) (n2 : Int) (Q : Post) : T :=
 ifT (decide (n1 ≤ n0))
 (Q [.one (.bool (decide (n0 ≤ n2)))])
 (Q [.one (.bool false)])
theorem den174 (I : FuncId → List V → Post → T) (n0 : Int) (n1 : Int) (n2 : Int) (Q : Post) : denF Go.Proofs.Tryz.prog 0 (⟨[], []⟩) I 174 [V.one (Cell.int IntKind.i64 n0), V.one (Cell.int IntKind.i64 n1), V.one (Cell.int IntKind.i64 n2)] Q = vc174 I n0 n1 n2 Q := by kernel_rfl
/-- handbill/person.checkText -/
def vc179 (I : FuncId → List V → Post → T) (s0 : ByteArray) (Q : Post) : T :=
 ifT (decide ((↑s0.size : Int) > 200))
 (Q [.one (.int .i64 2)])
 (fun h1 =>
 I 216 [.one (.str s0)]
 (fun cs2 h3 =>
 ∃ b4 : Bool, (cs2 = [.one (.bool b4)]) ∧
 (ifT (!b4)
 (Q [.one (.int .i64 3)])
 (fun h5 =>
 I 176 [.one (.str s0), .one (.func (some (217, [])))]
 (fun cs6 h7 =>
 ∃ b8 : Bool, (cs6 = [.one (.bool b8)]) ∧
 (ifT (!b8)
 (Q [.one (.int .i64 3)])
 (Q [.one (.int .i64 0)])) h7) h5)) h3) h1)
theorem den179 (I : FuncId → List V → Post → T) (s0 : ByteArray) (Q : Post) : denF Go.Proofs.Tryz.prog 0 (⟨[], []⟩) I 179 [V.one (Cell.str s0)] Q = vc179 I s0 Q := by kernel_rfl
/-- handbill/person.all -/
def vc176 (I : FuncId → List V → Post → T) (s0 : ByteArray) (p1 : Option (Nat × List (Nat × Nat))) (Q : Post) : T :=
 loopK (A := Int) 0
 (fun x2 n3 => ifT (decide (n3 < (↑s0.size : Int)))
 (fun h4 =>
 ((0 ≤ n3) ∧
 n3 < (↑s0.size : Int)) ∧
 (funK p1 (fun i5 => fun cs6 h7 =>
 I i5 (.one (.int .u8 (byteAt s0 n3)) :: cs6)
 (fun cs8 h9 =>
 ∃ b10 : Bool, (cs8 = [.one (.bool b10)]) ∧
 (ifT (!b10)
 (Q [.one (.bool false)])
 (x2 (IntKind.i64.wrap (n3 + 1)))) h9) h7)) h4)
 (Q [.one (.bool true)]))
theorem den176 (I : FuncId → List V → Post → T) (s0 : ByteArray) (p1 : Option (Nat × List (Nat × Nat))) (Q : Post) : denF Go.Proofs.Tryz.prog 0 (⟨[], [(26, 261936, [(8, tk Go.Proofs.Tryz.prog 3)])]⟩) I 176 [V.one (Cell.str s0), V.one (Cell.func p1)] Q = vc176 I s0 p1 Q := by kernel_rfl
/-- unicode/utf8.ValidString -/
def vc216 (I : FuncId → List V → Post → T) (s0 : ByteArray) (Q : Post) : T :=
 loopK (A := ByteArray) s0
 (fun x1 s2 => ifT (decide ((↑s2.size : Int) > 0))
 (fun h3 =>
 (((0 : Int) ≤ (0 : Int)) ∧
 0 < (↑s2.size : Int)) ∧
 (ifT (decide (byteAt s2 0 < 128))
 (fun h4 =>
 (((0 : Int) ≤ (1 : Int)) ∧
 (1 ≤ (↑s2.size : Int)) ∧
 (↑s2.size : Int) ≤ (↑s2.size : Int)) ∧
 (joinK (A := Bool)
 (fun b5 => joinK (A := ByteArray)
 (fun s6 h7 =>
 x1 s6 h7)
 (fun x8 => ifT b5
 (fun h9 =>
 (((0 : Int) ≤ (8 : Int)) ∧
 (8 ≤ (↑(s2.extract 1 (↑s2.size : Int).toNat).size : Int)) ∧
 (↑(s2.extract 1 (↑s2.size : Int).toNat).size : Int) ≤ (↑(s2.extract 1 (↑s2.size : Int).toNat).size : Int)) ∧
 (joinK (A := Bool)
 (fun b10 => joinK (A := ByteArray)
 (fun s11 h12 =>
 x8 s11 h12)
 (fun x13 => ifT b10
 (fun h14 =>
 (((0 : Int) ≤ (16 : Int)) ∧
 (16 ≤ (↑((s2.extract 1 (↑s2.size : Int).toNat).extract 8 (↑(s2.extract 1 (↑s2.size : Int).toNat).size : Int).toNat).size : Int)) ∧
 (↑((s2.extract 1 (↑s2.size : Int).toNat).extract 8 (↑(s2.extract 1 (↑s2.size : Int).toNat).size : Int).toNat).size : Int) ≤ (↑((s2.extract 1 (↑s2.size : Int).toNat).extract 8 (↑(s2.extract 1 (↑s2.size : Int).toNat).size : Int).toNat).size : Int)) ∧
 (loopK (A := ByteArray) (((s2.extract 1 (↑s2.size : Int).toNat).extract 8 (↑(s2.extract 1 (↑s2.size : Int).toNat).size : Int).toNat).extract 16 (↑((s2.extract 1 (↑s2.size : Int).toNat).extract 8 (↑(s2.extract 1 (↑s2.size : Int).toNat).size : Int).toNat).size : Int).toNat)
 (fun x15 s16 => joinK (A := Bool)
 (fun b17 => ifT b17
 (fun h18 =>
 (((0 : Int) ≤ (32 : Int)) ∧
 (32 ≤ (↑s16.size : Int)) ∧
 (↑s16.size : Int) ≤ (↑s16.size : Int)) ∧
 x15 (s16.extract 32 (↑s16.size : Int).toNat) h18)
 (x13 s16))
 (fun x19 => ifT (decide ((↑s16.size : Int) > 32))
 (fun h20 =>
 (((0 : Int) ≤ (8 : Int)) ∧
 (8 ≤ (↑s16.size : Int)) ∧
 (↑s16.size : Int) ≤ (↑s16.size : Int)) ∧
 (((0 : Int) ≤ (16 : Int)) ∧
 (16 ≤ (↑s16.size : Int)) ∧
 (↑s16.size : Int) ≤ (↑s16.size : Int)) ∧
 (((0 : Int) ≤ (24 : Int)) ∧
 (24 ≤ (↑s16.size : Int)) ∧
 (↑s16.size : Int) ≤ (↑s16.size : Int)) ∧
 I 249 [.one (.str s16)]
 (fun cs21 h22 =>
 ∃ n23 : Int, (cs21 = [.one (.int .u64 n23)]) ∧
 I 249 [.one (.str (s16.extract 8 (↑s16.size : Int).toNat))]
 (fun cs24 h25 =>
 ∃ n26 : Int, (cs24 = [.one (.int .u64 n26)]) ∧
 I 249 [.one (.str (s16.extract 16 (↑s16.size : Int).toNat))]
 (fun cs27 h28 =>
 ∃ n29 : Int, (cs27 = [.one (.int .u64 n29)]) ∧
 I 249 [.one (.str (s16.extract 24 (↑s16.size : Int).toNat))]
 (fun cs30 h31 =>
 ∃ n32 : Int, (cs30 = [.one (.int .u64 n32)]) ∧
 x19 (decide (IntKind.u64.wrap (↑(BitVec.ofInt 64 (IntKind.u64.wrap (↑(BitVec.ofInt 64 (IntKind.u64.wrap (↑(BitVec.ofInt 64 n23 ||| BitVec.ofInt 64 n26).toNat : Int)) ||| BitVec.ofInt 64 (IntKind.u64.wrap (↑(BitVec.ofInt 64 n29 ||| BitVec.ofInt 64 n32).toNat : Int))).toNat : Int)) &&& BitVec.ofInt 64 9259542123273814144).toNat : Int) = 0)) h31) h28) h25) h22) h20)
 (x19 false)))) h14)
 (x13 ((s2.extract 1 (↑s2.size : Int).toNat).extract 8 (↑(s2.extract 1 (↑s2.size : Int).toNat).size : Int).toNat))))
 (fun x33 => ifT (decide ((↑((s2.extract 1 (↑s2.size : Int).toNat).extract 8 (↑(s2.extract 1 (↑s2.size : Int).toNat).size : Int).toNat).size : Int) > 16))
 (fun h34 =>
 (((0 : Int) ≤ (8 : Int)) ∧
 (8 ≤ (↑((s2.extract 1 (↑s2.size : Int).toNat).extract 8 (↑(s2.extract 1 (↑s2.size : Int).toNat).size : Int).toNat).size : Int)) ∧
 (↑((s2.extract 1 (↑s2.size : Int).toNat).extract 8 (↑(s2.extract 1 (↑s2.size : Int).toNat).size : Int).toNat).size : Int) ≤ (↑((s2.extract 1 (↑s2.size : Int).toNat).extract 8 (↑(s2.extract 1 (↑s2.size : Int).toNat).size : Int).toNat).size : Int)) ∧
 I 249 [.one (.str ((s2.extract 1 (↑s2.size : Int).toNat).extract 8 (↑(s2.extract 1 (↑s2.size : Int).toNat).size : Int).toNat))]
 (fun cs35 h36 =>
 ∃ n37 : Int, (cs35 = [.one (.int .u64 n37)]) ∧
 I 249 [.one (.str (((s2.extract 1 (↑s2.size : Int).toNat).extract 8 (↑(s2.extract 1 (↑s2.size : Int).toNat).size : Int).toNat).extract 8 (↑((s2.extract 1 (↑s2.size : Int).toNat).extract 8 (↑(s2.extract 1 (↑s2.size : Int).toNat).size : Int).toNat).size : Int).toNat))]
 (fun cs38 h39 =>
 ∃ n40 : Int, (cs38 = [.one (.int .u64 n40)]) ∧
 x33 (decide (IntKind.u64.wrap (↑(BitVec.ofInt 64 (IntKind.u64.wrap (↑(BitVec.ofInt 64 n37 ||| BitVec.ofInt 64 n40).toNat : Int)) &&& BitVec.ofInt 64 9259542123273814144).toNat : Int) = 0)) h39) h36) h34)
 (x33 false))) h9)
 (x8 (s2.extract 1 (↑s2.size : Int).toNat))))
 (fun x41 => ifT (decide ((↑(s2.extract 1 (↑s2.size : Int).toNat).size : Int) > 8))
 (fun h42 =>
 I 249 [.one (.str (s2.extract 1 (↑s2.size : Int).toNat))]
 (fun cs43 h44 =>
 ∃ n45 : Int, (cs43 = [.one (.int .u64 n45)]) ∧
 x41 (decide (IntKind.u64.wrap (↑(BitVec.ofInt 64 n45 &&& BitVec.ofInt 64 9259542123273814144).toNat : Int) = 0)) h44) h42)
 (x41 false))) h4)
 (fun h46 =>
 ((0 ≤ byteAt s2 0) ∧
 byteAt s2 0 < (↑256 : Int)) ∧
 (globK 1 (fun i47 => fun i48 h49 =>
 ∃ n50 : Int, (h49.read i48 ((byteAt s2 0).toNat * 1) 1 = some [.int .u8 n50]) ∧
 ((0 ≤ shr IntKind.u8 n50 4) ∧
 shr IntKind.u8 n50 4 < (↑16 : Int)) ∧
 (globK 2 (fun i51 => fun i52 h53 =>
 ∃ n54 : Int, ∃ n55 : Int, (h53.read i52 ((shr IntKind.u8 n50 4).toNat * 2) 2 = some [.int .u8 n54, .int .u8 n55]) ∧
 (ifT (decide (IntKind.i64.wrap (IntKind.u8.wrap (↑(BitVec.ofInt 8 n50 &&& BitVec.ofInt 8 7).toNat : Int)) = 2))
 (ifT (decide ((↑s2.size : Int) < 2))
 (Q [.one (.bool false)])
 (fun h56 =>
 (((0 : Int) ≤ (1 : Int)) ∧
 1 < (↑s2.size : Int)) ∧
 (ifT (decide (byteAt s2 1 < n54))
 (Q [.one (.bool false)])
 (fun h57 =>
 (((0 : Int) ≤ (1 : Int)) ∧
 1 < (↑s2.size : Int)) ∧
 (ifT (decide (n55 < byteAt s2 1))
 (Q [.one (.bool false)])
 (fun h58 =>
 (((0 : Int) ≤ (2 : Int)) ∧
 (2 ≤ (↑s2.size : Int)) ∧
 (↑s2.size : Int) ≤ (↑s2.size : Int)) ∧
 x1 (s2.extract 2 (↑s2.size : Int).toNat) h58)) h57)) h56))
 (ifT (decide (IntKind.i64.wrap (IntKind.u8.wrap (↑(BitVec.ofInt 8 n50 &&& BitVec.ofInt 8 7).toNat : Int)) = 3))
 (ifT (decide ((↑s2.size : Int) < 3))
 (Q [.one (.bool false)])
 (fun h59 =>
 (((0 : Int) ≤ (1 : Int)) ∧
 1 < (↑s2.size : Int)) ∧
 (ifT (decide (byteAt s2 1 < n54))
 (Q [.one (.bool false)])
 (fun h60 =>
 (((0 : Int) ≤ (1 : Int)) ∧
 1 < (↑s2.size : Int)) ∧
 (ifT (decide (n55 < byteAt s2 1))
 (Q [.one (.bool false)])
 (fun h61 =>
 (((0 : Int) ≤ (2 : Int)) ∧
 2 < (↑s2.size : Int)) ∧
 (ifT (decide (byteAt s2 2 < 128))
 (Q [.one (.bool false)])
 (fun h62 =>
 (((0 : Int) ≤ (2 : Int)) ∧
 2 < (↑s2.size : Int)) ∧
 (ifT (decide (191 < byteAt s2 2))
 (Q [.one (.bool false)])
 (fun h63 =>
 (((0 : Int) ≤ (3 : Int)) ∧
 (3 ≤ (↑s2.size : Int)) ∧
 (↑s2.size : Int) ≤ (↑s2.size : Int)) ∧
 x1 (s2.extract 3 (↑s2.size : Int).toNat) h63)) h62)) h61)) h60)) h59))
 (ifT (decide (IntKind.i64.wrap (IntKind.u8.wrap (↑(BitVec.ofInt 8 n50 &&& BitVec.ofInt 8 7).toNat : Int)) = 4))
 (ifT (decide ((↑s2.size : Int) < 4))
 (Q [.one (.bool false)])
 (fun h64 =>
 (((0 : Int) ≤ (1 : Int)) ∧
 1 < (↑s2.size : Int)) ∧
 (ifT (decide (byteAt s2 1 < n54))
 (Q [.one (.bool false)])
 (fun h65 =>
 (((0 : Int) ≤ (1 : Int)) ∧
 1 < (↑s2.size : Int)) ∧
 (ifT (decide (n55 < byteAt s2 1))
 (Q [.one (.bool false)])
 (fun h66 =>
 (((0 : Int) ≤ (2 : Int)) ∧
 2 < (↑s2.size : Int)) ∧
 (ifT (decide (byteAt s2 2 < 128))
 (Q [.one (.bool false)])
 (fun h67 =>
 (((0 : Int) ≤ (2 : Int)) ∧
 2 < (↑s2.size : Int)) ∧
 (ifT (decide (191 < byteAt s2 2))
 (Q [.one (.bool false)])
 (fun h68 =>
 (((0 : Int) ≤ (3 : Int)) ∧
 3 < (↑s2.size : Int)) ∧
 (ifT (decide (byteAt s2 3 < 128))
 (Q [.one (.bool false)])
 (fun h69 =>
 (((0 : Int) ≤ (3 : Int)) ∧
 3 < (↑s2.size : Int)) ∧
 (ifT (decide (191 < byteAt s2 3))
 (Q [.one (.bool false)])
 (fun h70 =>
 (((0 : Int) ≤ (4 : Int)) ∧
 (4 ≤ (↑s2.size : Int)) ∧
 (↑s2.size : Int) ≤ (↑s2.size : Int)) ∧
 x1 (s2.extract 4 (↑s2.size : Int).toNat) h70)) h69)) h68)) h67)) h66)) h65)) h64))
 (Q [.one (.bool false)])))) h53)) h49)) h46)) h3)
 (Q [.one (.bool true)]))
theorem den216 (I : FuncId → List V → Post → T) (s0 : ByteArray) (Q : Post) : denF Go.Proofs.Tryz.prog 64 (⟨[(12628, 33488896, [(24, tk Go.Proofs.Tryz.prog 4)]), (12629, 36893488147385548801, [(0, tk Go.Proofs.Tryz.prog 9)]), (101034, 1099377410048, [(39, tk Go.Proofs.Tryz.prog 4)]), (101035, 36893487047907475457, [(0, tk Go.Proofs.Tryz.prog 9)]), (6466256, 9223367638808264704, [(62, tk Go.Proofs.Tryz.prog 4)])], [(12, 748288838313422294120286634350736906063837462003709, [(0, tk Go.Proofs.Tryz.prog 9)]), (808282, 36893483749372592129, [(0, tk Go.Proofs.Tryz.prog 9)])]⟩) I 216 [V.one (Cell.str s0)] Q = vc216 I s0 Q := by kernel_rfl
/-- unicode/utf8.word[string] -/
def vc249 (I : FuncId → List V → Post → T) (s0 : ByteArray) (Q : Post) : T :=
 fun h1 =>
 (((0 : Int) ≤ (0 : Int)) ∧
 0 < (↑s0.size : Int)) ∧
 (((0 : Int) ≤ (1 : Int)) ∧
 1 < (↑s0.size : Int)) ∧
 (((0 : Int) ≤ (2 : Int)) ∧
 2 < (↑s0.size : Int)) ∧
 (((0 : Int) ≤ (3 : Int)) ∧
 3 < (↑s0.size : Int)) ∧
 (((0 : Int) ≤ (4 : Int)) ∧
 4 < (↑s0.size : Int)) ∧
 (((0 : Int) ≤ (5 : Int)) ∧
 5 < (↑s0.size : Int)) ∧
 (((0 : Int) ≤ (6 : Int)) ∧
 6 < (↑s0.size : Int)) ∧
 (((0 : Int) ≤ (7 : Int)) ∧
 7 < (↑s0.size : Int)) ∧
 Q [.one (.int .u64 (IntKind.u64.wrap (↑(BitVec.ofInt 64 (IntKind.u64.wrap (↑(BitVec.ofInt 64 (IntKind.u64.wrap (↑(BitVec.ofInt 64 (IntKind.u64.wrap (↑(BitVec.ofInt 64 (IntKind.u64.wrap (↑(BitVec.ofInt 64 (IntKind.u64.wrap (↑(BitVec.ofInt 64 (IntKind.u64.wrap (↑(BitVec.ofInt 64 (IntKind.u64.wrap (byteAt s0 0)) ||| BitVec.ofInt 64 (shl IntKind.u64 (IntKind.u64.wrap (byteAt s0 1)) 8)).toNat : Int)) ||| BitVec.ofInt 64 (shl IntKind.u64 (IntKind.u64.wrap (byteAt s0 2)) 16)).toNat : Int)) ||| BitVec.ofInt 64 (shl IntKind.u64 (IntKind.u64.wrap (byteAt s0 3)) 24)).toNat : Int)) ||| BitVec.ofInt 64 (shl IntKind.u64 (IntKind.u64.wrap (byteAt s0 4)) 32)).toNat : Int)) ||| BitVec.ofInt 64 (shl IntKind.u64 (IntKind.u64.wrap (byteAt s0 5)) 40)).toNat : Int)) ||| BitVec.ofInt 64 (shl IntKind.u64 (IntKind.u64.wrap (byteAt s0 6)) 48)).toNat : Int)) ||| BitVec.ofInt 64 (shl IntKind.u64 (IntKind.u64.wrap (byteAt s0 7)) 56)).toNat : Int)))] h1
theorem den249 (I : FuncId → List V → Post → T) (s0 : ByteArray) (Q : Post) : denF Go.Proofs.Tryz.prog 0 (⟨[], []⟩) I 249 [V.one (Cell.str s0)] Q = vc249 I s0 Q := by kernel_rfl
/-- handbill/person.checkText$1 -/
def vc217 (I : FuncId → List V → Post → T) (n0 : Int) (Q : Post) : T :=
 ifT (decide (n0 ≥ 32))
 (Q [.one (.bool (!decide (n0 = 127)))])
 (Q [.one (.bool false)])
theorem den217 (I : FuncId → List V → Post → T) (n0 : Int) (Q : Post) : denF Go.Proofs.Tryz.prog 0 (⟨[], []⟩) I 217 [V.one (Cell.int IntKind.u8 n0)] Q = vc217 I n0 Q := by kernel_rfl
/-- handbill/segment.useOf -/
def vc170 (I : FuncId → List V → Post → T) (n0 : Int) (Q : Post) : T :=
 joinK (A := Bool)
 (fun b1 => ifT b1
 (fun h2 =>
 Q [.agg [.bool false, .bool false, .bool false, .bool false, .bool false, .bool false, .int .i64 0, .int .i64 0, .int .i64 0, .int .i64 0], .one (.bool true)] h2)
 (joinK (A := Bool)
 (fun b3 => ifT b3
 (fun h4 =>
 Q [.agg [.bool false, .bool false, .bool false, .bool false, .bool false, .bool false, .int .i64 0, .int .i64 0, .int .i64 2, .int .i64 1073741824], .one (.bool true)] h4)
 (ifT (decide (n0 = 5))
 (fun h5 =>
 Q [.agg [.bool false, .bool false, .bool false, .bool false, .bool false, .bool false, .int .i64 0, .int .i64 0, .int .i64 1, .int .i64 1], .one (.bool true)] h5)
 (ifT (decide (n0 = 6))
 (fun h6 =>
 Q [.agg [.bool true, .bool false, .bool false, .bool false, .bool false, .bool false, .int .i64 0, .int .i64 0, .int .i64 0, .int .i64 0], .one (.bool true)] h6)
 (ifT (decide (n0 = 7))
 (fun h7 =>
 Q [.agg [.bool true, .bool false, .bool true, .bool false, .bool false, .bool false, .int .i64 1, .int .i64 1, .int .i64 0, .int .i64 0], .one (.bool true)] h7)
 (ifT (decide (n0 = 8))
 (fun h8 =>
 Q [.agg [.bool true, .bool false, .bool false, .bool false, .bool false, .bool false, .int .i64 1, .int .i64 50, .int .i64 0, .int .i64 0], .one (.bool true)] h8)
 (joinK (A := Bool)
 (fun b9 => ifT b9
 (fun h10 =>
 Q [.agg [.bool true, .bool false, .bool false, .bool false, .bool false, .bool false, .int .i64 1, .int .i64 1, .int .i64 0, .int .i64 0], .one (.bool true)] h10)
 (ifT (decide (n0 = 11))
 (fun h11 =>
 Q [.agg [.bool true, .bool false, .bool true, .bool true, .bool true, .bool true, .int .i64 0, .int .i64 0, .int .i64 0, .int .i64 0], .one (.bool true)] h11)
 (ifT (decide (n0 = 12))
 (fun h12 =>
 Q [.agg [.bool true, .bool true, .bool true, .bool true, .bool true, .bool true, .int .i64 0, .int .i64 0, .int .i64 0, .int .i64 0], .one (.bool true)] h12)
 (ifT (decide (n0 = 13))
 (fun h13 =>
 Q [.agg [.bool true, .bool false, .bool true, .bool true, .bool false, .bool true, .int .i64 0, .int .i64 0, .int .i64 0, .int .i64 0], .one (.bool true)] h13)
 (ifT (decide (n0 = 14))
 (fun h14 =>
 Q [.agg [.bool true, .bool true, .bool false, .bool false, .bool true, .bool false, .int .i64 0, .int .i64 0, .int .i64 0, .int .i64 0], .one (.bool true)] h14)
 (fun h15 =>
 Q [.agg [.bool false, .bool false, .bool false, .bool false, .bool false, .bool false, .int .i64 0, .int .i64 0, .int .i64 0, .int .i64 0], .one (.bool false)] h15))))))
 (fun x16 => ifT (decide (n0 = 9))
 (x16 (decide (n0 = 9)))
 (x16 (decide (n0 = 10))))))))))
 (fun x17 => ifT (decide (n0 = 3))
 (x17 (decide (n0 = 3)))
 (x17 (decide (n0 = 4))))))
 (fun x18 => ifT (decide (n0 = 1))
 (x18 (decide (n0 = 1)))
 (x18 (decide (n0 = 2))))
theorem den170 (I : FuncId → List V → Post → T) (n0 : Int) (Q : Post) : denF Go.Proofs.Tryz.prog 4 (⟨[(105, 160, [(5, tk Go.Proofs.Tryz.prog 4)]), (429, 2560, [(9, tk Go.Proofs.Tryz.prog 4)]), (442365, 167772160, [(25, tk Go.Proofs.Tryz.prog 4)])], []⟩) I 170 [V.one (Cell.int IntKind.i64 n0)] Q = vc170 I n0 Q := by kernel_rfl
/-- handbill/segment.formed -/
def vc171 (I : FuncId → List V → Post → T) (n0 : Int) (s1 : ByteArray) (s2 : ByteArray) (s3 : ByteArray) (l4 : Sl) (l5 : Sl) (n6 : Int) (n7 : Int) (l8 : Sl) (b9 : Bool) (b10 : Bool) (b11 : Bool) (b12 : Bool) (b13 : Bool) (b14 : Bool) (n15 : Int) (n16 : Int) (n17 : Int) (n18 : Int) (Q : Post) : T :=
 joinK (A := Bool)
 (fun b19 => joinK (A := Bool)
 (fun b20 => ifT b20
 (Q [.one (.bool false)])
 (fun h21 =>
 I 59 [.one (.int .i64 (↑l4.len : Int)), .one (.int .i64 n15), .one (.int .i64 n16)]
 (fun cs22 h23 =>
 ∃ b24 : Bool, (cs22 = [.one (.bool b24)]) ∧
 (joinK (A := Bool)
 (fun b25 => ifT b25
 (Q [.one (.bool false)])
 (ifT (decide ((↑l5.len : Int) = 0))
 (Q [.one (.bool true)])
 (ifT b12
 (Q [.one (.bool (decide ((↑l5.len : Int) ≤ 5)))])
 (Q [.one (.bool false)]))))
 (fun x26 => ifT (!b24)
 (x26 (!b24))
 (fun h27 =>
 I 59 [.one (.int .i64 (↑l8.len : Int)), .one (.int .i64 n17), .one (.int .i64 n18)]
 (fun cs28 h29 =>
 ∃ b30 : Bool, (cs28 = [.one (.bool b30)]) ∧
 x26 (!b30) h29) h27))) h23) h21))
 (fun x31 => ifT b19
 (x31 b19)
 (joinK (A := Bool)
 (fun b32 => joinK (A := Bool)
 (fun b33 h34 =>
 x31 b33 h34)
 (fun x35 => ifT b32
 (x35 b32)
 (joinK (A := Bool)
 (fun b36 => joinK (A := Bool)
 (fun b37 h38 =>
 x35 b37 h38)
 (fun x39 => ifT b36
 (x39 b36)
 (joinK (A := Bool)
 (fun b40 => joinK (A := Bool)
 (fun b41 h42 =>
 x39 b41 h42)
 (fun x43 => ifT b40
 (x43 b40)
 (joinK (A := Bool)
 (fun b44 h45 =>
 x43 b44 h45)
 (fun x46 => ifT (!b14)
 (x46 (!decide (n7 = 0)))
 (x46 false)))))
 (fun x47 => ifT (!b13)
 (x47 (!decide (n6 = 0)))
 (x47 false)))))
 (fun x48 => ifT (!b11)
 (x48 (!decide (s3 = { data := #[] })))
 (x48 false)))))
 (fun x49 => ifT (!b10)
 (x49 (!decide (s2 = { data := #[] })))
 (x49 false)))))
 (fun x50 => ifT (!b9)
 (x50 (!decide (s1 = { data := #[] })))
 (x50 false))
theorem den171 (I : FuncId → List V → Post → T) (n0 : Int) (s1 : ByteArray) (s2 : ByteArray) (s3 : ByteArray) (l4 : Sl) (l5 : Sl) (n6 : Int) (n7 : Int) (l8 : Sl) (b9 : Bool) (b10 : Bool) (b11 : Bool) (b12 : Bool) (b13 : Bool) (b14 : Bool) (n15 : Int) (n16 : Int) (n17 : Int) (n18 : Int) (Q : Post) : denF Go.Proofs.Tryz.prog 12 (⟨[(48, 16352, [(5, tk Go.Proofs.Tryz.prog 4)]), (49, 70368744161312, [(5, tk Go.Proofs.Tryz.prog 4)]), (198, 4177952, [(5, tk Go.Proofs.Tryz.prog 4)]), (199, 70368739983392, [(5, tk Go.Proofs.Tryz.prog 4)]), (205, 36821500922125352960, [(46, tk Go.Proofs.Tryz.prog 4)]), (798, 1069547552, [(5, tk Go.Proofs.Tryz.prog 4)]), (799, 70367670435872, [(5, tk Go.Proofs.Tryz.prog 4)]), (3198, 273804165152, [(5, tk Go.Proofs.Tryz.prog 4)]), (3199, 70093866270752, [(5, tk Go.Proofs.Tryz.prog 4)]), (6399, 70093866270752, [(5, tk Go.Proofs.Tryz.prog 4)])], []⟩) I 171 [V.agg [Cell.int IntKind.i64 n0, Cell.str s1, Cell.str s2, Cell.str s3, Cell.slice 3 l4, Cell.slice 5 l5, Cell.int IntKind.i64 n6, Cell.int IntKind.i64 n7, Cell.slice 9 l8], V.agg [Cell.bool b9, Cell.bool b10, Cell.bool b11, Cell.bool b12, Cell.bool b13, Cell.bool b14, Cell.int IntKind.i64 n15, Cell.int IntKind.i64 n16, Cell.int IntKind.i64 n17, Cell.int IntKind.i64 n18]] Q = vc171 I n0 s1 s2 s3 l4 l5 n6 n7 l8 b9 b10 b11 b12 b13 b14 n15 n16 n17 n18 Q := by kernel_rfl
/-- handbill/segment.isName -/
def vc172 (I : FuncId → List V → Post → T) (s0 : ByteArray) (Q : Post) : T :=
 fun h1 =>
 I 119 [.one (.str s0)]
 (fun cs2 h3 =>
 ∃ b4 : Bool, (cs2 = [.one (.bool b4)]) ∧
 (ifT b4
 (fun h5 =>
 I 215 [.one (.str s0)]
 (fun cs6 h7 =>
 ∃ b8 : Bool, (cs6 = [.one (.bool b8)]) ∧
 Q [.one (.bool !b8)] h7) h5)
 (Q [.one (.bool false)])) h3) h1
theorem den172 (I : FuncId → List V → Post → T) (s0 : ByteArray) (Q : Post) : denF Go.Proofs.Tryz.prog 0 (⟨[], []⟩) I 172 [V.one (Cell.str s0)] Q = vc172 I s0 Q := by kernel_rfl
/-- handbill/person.IsKey -/
def vc119 (I : FuncId → List V → Post → T) (s0 : ByteArray) (Q : Post) : T :=
 fun h1 =>
 I 174 [.one (.int .i64 (↑s0.size : Int)), .one (.int .i64 1), .one (.int .i64 40)]
 (fun cs2 h3 =>
 ∃ b4 : Bool, (cs2 = [.one (.bool b4)]) ∧
 (ifT b4
 (fun h5 =>
 (((0 : Int) ≤ (0 : Int)) ∧
 0 < (↑s0.size : Int)) ∧
 I 175 [.one (.int .u8 (byteAt s0 0))]
 (fun cs6 h7 =>
 ∃ b8 : Bool, (cs6 = [.one (.bool b8)]) ∧
 (ifT b8
 (fun h9 =>
 I 176 [.one (.str s0), .one (.func (some (177, [])))]
 (fun cs10 h11 =>
 ∃ b12 : Bool, (cs10 = [.one (.bool b12)]) ∧
 Q [.one (.bool b12)] h11) h9)
 (Q [.one (.bool false)])) h7) h5)
 (Q [.one (.bool false)])) h3) h1
theorem den119 (I : FuncId → List V → Post → T) (s0 : ByteArray) (Q : Post) : denF Go.Proofs.Tryz.prog 0 (⟨[], []⟩) I 119 [V.one (Cell.str s0)] Q = vc119 I s0 Q := by kernel_rfl
/-- handbill/person.small -/
def vc175 (I : FuncId → List V → Post → T) (n0 : Int) (Q : Post) : T :=
 ifT (decide (97 ≤ n0))
 (Q [.one (.bool (decide (n0 ≤ 122)))])
 (Q [.one (.bool false)])
theorem den175 (I : FuncId → List V → Post → T) (n0 : Int) (Q : Post) : denF Go.Proofs.Tryz.prog 0 (⟨[], []⟩) I 175 [V.one (Cell.int IntKind.u8 n0)] Q = vc175 I n0 Q := by kernel_rfl
/-- handbill/person.IsKey$1 -/
def vc177 (I : FuncId → List V → Post → T) (n0 : Int) (Q : Post) : T :=
 fun h1 =>
 I 175 [.one (.int .u8 n0)]
 (fun cs2 h3 =>
 ∃ b4 : Bool, (cs2 = [.one (.bool b4)]) ∧
 (ifT b4
 (Q [.one (.bool true)])
 (fun h5 =>
 I 178 [.one (.int .u8 n0)]
 (fun cs6 h7 =>
 ∃ b8 : Bool, (cs6 = [.one (.bool b8)]) ∧
 (ifT b8
 (Q [.one (.bool true)])
 (ifT (decide (n0 = 45))
 (Q [.one (.bool true)])
 (Q [.one (.bool (decide (n0 = 95)))]))) h7) h5)) h3) h1
theorem den177 (I : FuncId → List V → Post → T) (n0 : Int) (Q : Post) : denF Go.Proofs.Tryz.prog 0 (⟨[], []⟩) I 177 [V.one (Cell.int IntKind.u8 n0)] Q = vc177 I n0 Q := by kernel_rfl
/-- handbill/person.digit -/
def vc178 (I : FuncId → List V → Post → T) (n0 : Int) (Q : Post) : T :=
 ifT (decide (48 ≤ n0))
 (Q [.one (.bool (decide (n0 ≤ 57)))])
 (Q [.one (.bool false)])
theorem den178 (I : FuncId → List V → Post → T) (n0 : Int) (Q : Post) : denF Go.Proofs.Tryz.prog 0 (⟨[], []⟩) I 178 [V.one (Cell.int IntKind.u8 n0)] Q = vc178 I n0 Q := by kernel_rfl
/-- handbill/segment.isWord -/
def vc215 (I : FuncId → List V → Post → T) (s0 : ByteArray) (Q : Post) : T :=
 ifT (decide (s0 = { data := #[97, 108, 108] }))
 (ifT (decide (s0 = { data := #[97, 108, 108] }))
 (Q [.one (.bool true)])
 (Q [.one (.bool false)]))
 (ifT (decide (s0 = { data := #[110, 111, 110, 101] }))
 (ifT (decide (s0 = { data := #[110, 111, 110, 101] }))
 (Q [.one (.bool true)])
 (Q [.one (.bool false)]))
 (ifT (decide (s0 = { data := #[97, 110, 100] }))
 (ifT (decide (s0 = { data := #[97, 110, 100] }))
 (Q [.one (.bool true)])
 (Q [.one (.bool false)]))
 (ifT (decide (s0 = { data := #[111, 114] }))
 (ifT (decide (s0 = { data := #[111, 114] }))
 (Q [.one (.bool true)])
 (Q [.one (.bool false)]))
 (ifT (decide (s0 = { data := #[110, 111, 116] }))
 (ifT (decide (s0 = { data := #[110, 111, 116] }))
 (Q [.one (.bool true)])
 (Q [.one (.bool false)]))
 (ifT (decide (s0 = { data := #[104, 97, 115] }))
 (ifT (decide (s0 = { data := #[104, 97, 115] }))
 (Q [.one (.bool true)])
 (Q [.one (.bool false)]))
 (ifT (decide (s0 = { data := #[105, 110] }))
 (ifT (decide (s0 = { data := #[105, 110] }))
 (Q [.one (.bool true)])
 (Q [.one (.bool false)]))
 (ifT (decide (s0 = { data := #[98, 101, 103, 105, 110, 115] }))
 (ifT (decide (s0 = { data := #[98, 101, 103, 105, 110, 115] }))
 (Q [.one (.bool true)])
 (Q [.one (.bool false)]))
 (ifT (decide (s0 = { data := #[99, 111, 110, 116, 97, 105, 110, 115] }))
 (ifT (decide (s0 = { data := #[99, 111, 110, 116, 97, 105, 110, 115] }))
 (Q [.one (.bool true)])
 (Q [.one (.bool false)]))
 (ifT (decide (s0 = { data := #[99, 111, 117, 110, 116] }))
 (ifT (decide (s0 = { data := #[99, 111, 117, 110, 116] }))
 (Q [.one (.bool true)])
 (Q [.one (.bool false)]))
 (ifT (decide (s0 = { data := #[115, 117, 109] }))
 (ifT (decide (s0 = { data := #[115, 117, 109] }))
 (Q [.one (.bool true)])
 (Q [.one (.bool false)]))
 (ifT (decide (s0 = { data := #[115, 105, 110, 99, 101] }))
 (ifT (decide (s0 = { data := #[115, 105, 110, 99, 101] }))
 (Q [.one (.bool true)])
 (Q [.one (.bool false)]))
 (ifT (decide (s0 = { data := #[116, 104, 101, 110] }))
 (ifT (decide (s0 = { data := #[116, 104, 101, 110] }))
 (Q [.one (.bool true)])
 (Q [.one (.bool false)]))
 (ifT (decide (s0 = { data := #[119, 104, 101, 114, 101] }))
 (ifT (decide (s0 = { data := #[119, 104, 101, 114, 101] }))
 (Q [.one (.bool true)])
 (Q [.one (.bool false)]))
 (ifT (decide (s0 = { data := #[119, 105, 116, 104, 105, 110] }))
 (ifT (decide (s0 = { data := #[119, 105, 116, 104, 105, 110] }))
 (Q [.one (.bool true)])
 (Q [.one (.bool false)]))
 (ifT (decide (s0 = { data := #[100, 97, 121, 115] }))
 (ifT (decide (s0 = { data := #[100, 97, 121, 115] }))
 (Q [.one (.bool true)])
 (Q [.one (.bool false)]))
 (ifT (decide (s0 = { data := #[104, 111, 117, 114, 115] }))
 (ifT (decide (s0 = { data := #[104, 111, 117, 114, 115] }))
 (Q [.one (.bool true)])
 (Q [.one (.bool false)]))
 (ifT (decide (s0 = { data := #[109, 105, 110, 117, 116, 101, 115] }))
 (ifT (decide (s0 = { data := #[109, 105, 110, 117, 116, 101, 115] }))
 (Q [.one (.bool true)])
 (Q [.one (.bool false)]))
 (ifT (decide (s0 = { data := #[121, 101, 115] }))
 (ifT (decide (s0 = { data := #[121, 101, 115] }))
 (Q [.one (.bool true)])
 (Q [.one (.bool false)]))
 (ifT (decide (s0 = { data := #[110, 111] }))
 (Q [.one (.bool true)])
 (Q [.one (.bool false)]))))))))))))))))))))
theorem den215 (I : FuncId → List V → Post → T) (s0 : ByteArray) (Q : Post) : denF Go.Proofs.Tryz.prog 0 (⟨[], []⟩) I 215 [V.one (Cell.str s0)] Q = vc215 I s0 Q := by kernel_rfl
/-- handbill/segment.checkWhere -/
def vc173 (I : FuncId → List V → Post → T) (l0 : Sl) (Q : Post) : T :=
 loopK (A := Int) 0
 (fun x1 n2 => ifT (decide (n2 < (↑l0.len : Int)))
 (fun h3 =>
 ((0 ≤ n2) ∧
 n2 < (↑l0.len : Int)) ∧
 (derefK l0.a (fun i4 => fun i5 h6 =>
 ∃ s7 : ByteArray, ∃ s8 : ByteArray, ∃ n9 : Int, ∃ s10 : ByteArray, ∃ n11 : Int, (h6.read i4 (i5 + n2.toNat * 5) 5 = some [.str s7, .str s8, .int .i64 n9, .str s10, .int .i64 n11]) ∧
 I 172 [.one (.str s7)]
 (fun cs12 h13 =>
 ∃ b14 : Bool, (cs12 = [.one (.bool b14)]) ∧
 (ifT (!b14)
 (Q [.one (.int .i64 5)])
 (fun h15 =>
 I 71 [.one (.str s8)]
 (fun cs16 h17 =>
 ∃ n18 : Int, (cs16 = [.one (.int .i64 n18)]) ∧
 (ifT (decide (n18 < 0))
 (Q [.one (.int .i64 4)])
 (fun h19 =>
 I 120 [.agg [.int .i64 n9, .str s10, .int .i64 n11]]
 (fun cs20 h21 =>
 ∃ n22 : Int, (cs20 = [.one (.int .i64 n22)]) ∧
 (ifT (!decide (n22 = 0))
 (Q [.one (.int .i64 n22)])
 (x1 (IntKind.i64.wrap (n2 + 1)))) h21) h19)) h17) h15)) h13) h6)) h3)
 (Q [.one (.int .i64 0)]))
theorem den173 (I : FuncId → List V → Post → T) (l0 : Sl) (Q : Post) : denF Go.Proofs.Tryz.prog 16 (⟨[], [(26, 536870708, [(8, tk Go.Proofs.Tryz.prog 3)])]⟩) I 173 [V.one (Cell.slice 5 l0)] Q = vc173 I l0 Q := by kernel_rfl
/-- handbill/person.CheckFields -/
def vc83 (I : FuncId → List V → Post → T) (l0 : Sl) (Q : Post) : T :=
 ifT (decide ((↑l0.len : Int) > 30))
 (Q [.one (.int .i64 2)])
 (loopK (A := Int) 0
 (fun x1 n2 => ifT (decide (n2 < (↑l0.len : Int)))
 (fun h3 =>
 ((0 ≤ n2) ∧
 n2 < (↑l0.len : Int)) ∧
 (derefK l0.a (fun i4 => fun i5 h6 =>
 ∃ s7 : ByteArray, ∃ n8 : Int, ∃ s9 : ByteArray, ∃ n10 : Int, (h6.read i4 (i5 + n2.toNat * 4) 4 = some [.str s7, .int .i64 n8, .str s9, .int .i64 n10]) ∧
 I 119 [.one (.str s7)]
 (fun cs11 h12 =>
 ∃ b13 : Bool, (cs11 = [.one (.bool b13)]) ∧
 (ifT (!b13)
 (Q [.one (.int .i64 5)])
 (fun h14 =>
 I 120 [.agg [.int .i64 n8, .str s9, .int .i64 n10]]
 (fun cs15 h16 =>
 ∃ n17 : Int, (cs15 = [.one (.int .i64 n17)]) ∧
 (ifT (!decide (n17 = 0))
 (Q [.one (.int .i64 n17)])
 (ifT (decide (n2 > 0))
 (fun h18 =>
 ((0 ≤ IntKind.i64.wrap (n2 - 1)) ∧
 IntKind.i64.wrap (n2 - 1) < (↑l0.len : Int)) ∧
 (derefK l0.a (fun i19 => fun i20 h21 =>
 ∃ s22 : ByteArray, (h21.read i19 (i20 + (IntKind.i64.wrap (n2 - 1)).toNat * 4 + 0) 1 = some [.str s22]) ∧
 (ifT (Op.bytesLess s7.toList s22.toList || decide (s7 = s22))
 (Q [.one (.int .i64 7)])
 (x1 (IntKind.i64.wrap (n2 + 1)))) h21)) h18)
 (x1 (IntKind.i64.wrap (n2 + 1))))) h16) h14)) h12) h6)) h3)
 (Q [.one (.int .i64 0)])))
theorem den83 (I : FuncId → List V → Post → T) (l0 : Sl) (Q : Post) : denF Go.Proofs.Tryz.prog 16 (⟨[], [(58, 1099511625788, [(11, tk Go.Proofs.Tryz.prog 3)])]⟩) I 83 [V.one (Cell.slice 4 l0)] Q = vc83 I l0 Q := by kernel_rfl
/-- handbill/event.Check -/
def vc84 (I : FuncId → List V → Post → T) (l0 : Sl) (Q : Post) : T :=
 ifT (decide ((↑l0.len : Int) > 5000))
 (Q [.one (.int .i64 2)])
 (fun h1 =>
 (newK (.map []) (fun i2 => loopK (A := Int) 0
 (fun x3 n4 => ifT (decide (n4 < (↑l0.len : Int)))
 (fun h5 =>
 ((0 ≤ n4) ∧
 n4 < (↑l0.len : Int)) ∧
 (derefK l0.a (fun i6 => fun i7 h8 =>
 ∃ s9 : ByteArray, ∃ s10 : ByteArray, ∃ n11 : Int, ∃ n12 : Int, ∃ s13 : ByteArray, ∃ l14 : Sl, (h8.read i6 (i7 + n4.toNat * 6) 6 = some [.str s9, .str s10, .int .i64 n11, .int .i64 n12, .str s13, .slice 4 l14]) ∧
 I 121 [.agg [.str s9, .str s10, .int .i64 n11, .int .i64 n12, .str s13, .slice 4 l14]]
 (fun cs15 h16 =>
 ∃ n17 : Int, (cs15 = [.one (.int .i64 n17)]) ∧
 (ifT (!decide (n17 = 0))
 (Q [.one (.int .i64 n17)])
 (ifT (decide (n4 > 0))
 (fun h18 =>
 ((0 ≤ IntKind.i64.wrap (n4 - 1)) ∧
 IntKind.i64.wrap (n4 - 1) < (↑l0.len : Int)) ∧
 (derefK l0.a (fun i19 => fun i20 h21 =>
 ∃ s22 : ByteArray, ∃ s23 : ByteArray, ∃ n24 : Int, ∃ n25 : Int, ∃ s26 : ByteArray, ∃ l27 : Sl, (h21.read i19 (i20 + (IntKind.i64.wrap (n4 - 1)).toNat * 6) 6 = some [.str s22, .str s23, .int .i64 n24, .int .i64 n25, .str s26, .slice 4 l27]) ∧
 I 122 [.agg [.str s22, .str s23, .int .i64 n24, .int .i64 n25, .str s26, .slice 4 l27], .agg [.str s9, .str s10, .int .i64 n11, .int .i64 n12, .str s13, .slice 4 l14]]
 (fun cs28 h29 =>
 ∃ n30 : Int, (cs28 = [.one (.int .i64 n30)]) ∧
 (ifT (decide (n30 ≥ 0))
 (Q [.one (.int .i64 7)])
 (fun h31 =>
 ∃ b32 : Bool, ∃ b33 : Bool, (∃ cs34 : List (V × V), (mapOf h31 (some i2) = some cs34) ∧
 mapGet (.one (.str s9)) (.one (.bool false)) cs34 = some (.one (.bool b32), b33)) ∧
 (ifT b32
 (Q [.one (.int .i64 6)])
 (fun h35 =>
 (mapK [] (some i2) (.one (.str s9)) (.one (.bool true)) (x3 (IntKind.i64.wrap (n4 + 1)))) h35)) h31)) h29) h21)) h18)
 (fun h36 =>
 ∃ b37 : Bool, ∃ b38 : Bool, (∃ cs39 : List (V × V), (mapOf h36 (some i2) = some cs39) ∧
 mapGet (.one (.str s9)) (.one (.bool false)) cs39 = some (.one (.bool b37), b38)) ∧
 (ifT b37
 (Q [.one (.int .i64 6)])
 (fun h40 =>
 (mapK [] (some i2) (.one (.str s9)) (.one (.bool true)) (x3 (IntKind.i64.wrap (n4 + 1)))) h40)) h36))) h16) h8)) h5)
 (Q [.one (.int .i64 0)])))) h1)
theorem den84 (I : FuncId → List V → Post → T) (l0 : Sl) (Q : Post) : denF Go.Proofs.Tryz.prog 32 (⟨[], [(122, 8796093014132, [(13, tk Go.Proofs.Tryz.prog 3)])]⟩) I 84 [V.one (Cell.slice 6 l0)] Q = vc84 I l0 Q := by kernel_rfl
/-- handbill/event.CheckOne -/
def vc121 (I : FuncId → List V → Post → T) (s0 : ByteArray) (s1 : ByteArray) (n2 : Int) (n3 : Int) (s4 : ByteArray) (l5 : Sl) (Q : Post) : T :=
 joinK (A := Bool)
 (fun b6 => ifT b6
 (Q [.one (.int .i64 5)])
 (fun h7 =>
 I 180 [.one (.int .i64 n2), .one (.int .i64 0), .one (.int .i64 4321439)]
 (fun cs8 h9 =>
 ∃ b10 : Bool, (cs8 = [.one (.bool b10)]) ∧
 (ifT (!b10)
 (Q [.one (.int .i64 1)])
 (fun h11 =>
 I 181 [.agg [.int .i64 n3, .str s4]]
 (fun cs12 h13 =>
 ∃ n14 : Int, (cs12 = [.one (.int .i64 n14)]) ∧
 (ifT (!decide (n14 = 0))
 (Q [.one (.int .i64 n14)])
 (fun h15 =>
 I 83 [.one (.slice 4 l5)]
 (fun cs16 h17 =>
 ∃ n18 : Int, (cs16 = [.one (.int .i64 n18)]) ∧
 Q [.one (.int .i64 n18)] h17) h15)) h13) h11)) h9) h7))
 (fun x19 h20 =>
 I 119 [.one (.str s0)]
 (fun cs21 h22 =>
 ∃ b23 : Bool, (cs21 = [.one (.bool b23)]) ∧
 (ifT (!b23)
 (x19 true)
 (fun h24 =>
 I 119 [.one (.str s1)]
 (fun cs25 h26 =>
 ∃ b27 : Bool, (cs25 = [.one (.bool b27)]) ∧
 x19 (!b27) h26) h24)) h22) h20)
theorem den121 (I : FuncId → List V → Post → T) (s0 : ByteArray) (s1 : ByteArray) (n2 : Int) (n3 : Int) (s4 : ByteArray) (l5 : Sl) (Q : Post) : denF Go.Proofs.Tryz.prog 2 (⟨[(24, 32752, [(4, tk Go.Proofs.Tryz.prog 4)])], []⟩) I 121 [V.agg [Cell.str s0, Cell.str s1, Cell.int IntKind.i64 n2, Cell.int IntKind.i64 n3, Cell.str s4, Cell.slice 4 l5]] Q = vc121 I s0 s1 n2 n3 s4 l5 Q := by kernel_rfl
/-- handbill/event.within -/
def vc180 (I : FuncId → List V → Post → T) (n0 : Int) (n1 : Int) (n2 : Int) (Q : Post) : T :=
 ifT (decide (n1 ≤ n0))
 (Q [.one (.bool (decide (n0 ≤ n2)))])
 (Q [.one (.bool false)])
theorem den180 (I : FuncId → List V → Post → T) (n0 : Int) (n1 : Int) (n2 : Int) (Q : Post) : denF Go.Proofs.Tryz.prog 0 (⟨[], []⟩) I 180 [V.one (Cell.int IntKind.i64 n0), V.one (Cell.int IntKind.i64 n1), V.one (Cell.int IntKind.i64 n2)] Q = vc180 I n0 n1 n2 Q := by kernel_rfl
/-- handbill/person.CheckId -/
def vc181 (I : FuncId → List V → Post → T) (n0 : Int) (s1 : ByteArray) (Q : Post) : T :=
 joinK (A := Bool)
 (fun b2 => ifT (!b2)
 (Q [.one (.int .i64 3)])
 (ifT (decide (n0 = 3))
 (fun h3 =>
 (((0 : Int) ≤ (0 : Int)) ∧
 (0 ≤ IntKind.i64.wrap ((↑s1.size : Int) - 1)) ∧
 IntKind.i64.wrap ((↑s1.size : Int) - 1) ≤ (↑s1.size : Int)) ∧
 ((0 ≤ IntKind.i64.wrap ((↑s1.size : Int) - 1)) ∧
 IntKind.i64.wrap ((↑s1.size : Int) - 1) < (↑s1.size : Int)) ∧
 I 222 [.one (.str (s1.extract 0 (IntKind.i64.wrap ((↑s1.size : Int) - 1)).toNat))]
 (fun cs4 h5 =>
 ∃ n6 : Int, (cs4 = [.one (.int .u8 n6)]) ∧
 (ifT (!decide (n6 = byteAt s1 (IntKind.i64.wrap ((↑s1.size : Int) - 1))))
 (Q [.one (.int .i64 15)])
 (Q [.one (.int .i64 0)])) h5) h3)
 (Q [.one (.int .i64 0)])))
 (fun x7 => ifT (decide (n0 = 1))
 (fun h8 =>
 I 218 [.one (.str s1)]
 (fun cs9 h10 =>
 ∃ b11 : Bool, (cs9 = [.one (.bool b11)]) ∧
 x7 b11 h10) h8)
 (joinK (A := Bool)
 (fun b12 h13 =>
 x7 b12 h13)
 (fun x14 => ifT (decide (n0 = 2))
 (fun h15 =>
 I 219 [.one (.str s1)]
 (fun cs16 h17 =>
 ∃ b18 : Bool, (cs16 = [.one (.bool b18)]) ∧
 x14 b18 h17) h15)
 (joinK (A := Bool)
 (fun b19 h20 =>
 x14 b19 h20)
 (fun x21 => ifT (decide (n0 = 3))
 (fun h22 =>
 I 220 [.one (.str s1)]
 (fun cs23 h24 =>
 ∃ b25 : Bool, (cs23 = [.one (.bool b25)]) ∧
 x21 b25 h24) h22)
 (ifT (decide (n0 = 4))
 (fun h26 =>
 I 221 [.one (.str s1)]
 (fun cs27 h28 =>
 ∃ b29 : Bool, (cs27 = [.one (.bool b29)]) ∧
 x21 b29 h28) h26)
 (Q [.one (.int .i64 4)])))))))
theorem den181 (I : FuncId → List V → Post → T) (n0 : Int) (s1 : ByteArray) (Q : Post) : denF Go.Proofs.Tryz.prog 2 (⟨[(117, 134217228, [(3, tk Go.Proofs.Tryz.prog 4)]), (471, 134201356, [(3, tk Go.Proofs.Tryz.prog 4)]), (1887, 133693452, [(3, tk Go.Proofs.Tryz.prog 4)])], []⟩) I 181 [V.agg [Cell.int IntKind.i64 n0, Cell.str s1]] Q = vc181 I n0 s1 Q := by kernel_rfl
/-- handbill/person.isMail -/
def vc218 (I : FuncId → List V → Post → T) (s0 : ByteArray) (Q : Post) : T :=
 fun h1 =>
 I 202 [.one (.str s0), .one (.str { data := #[64] })]
 (fun cs2 h3 =>
 ∃ s4 : ByteArray, ∃ s5 : ByteArray, ∃ b6 : Bool, (cs2 = [.one (.str s4), .one (.str s5), .one (.bool b6)]) ∧
 (joinK (A := Bool)
 (fun b7 => ifT b7
 (Q [.one (.bool false)])
 (fun h8 =>
 I 176 [.one (.str s4), .one (.func (some (250, [])))]
 (fun cs9 h10 =>
 ∃ b11 : Bool, (cs9 = [.one (.bool b11)]) ∧
 (ifT (!b11)
 (Q [.one (.bool false)])
 (fun h12 =>
 I 203 [.one (.str s5), .one (.str { data := #[46] })]
 (fun cs13 h14 =>
 ∃ l15 : Sl, (cs13 = [.one (.slice 1 l15)]) ∧
 (loopK (A := Int) 0
 (fun x16 n17 => ifT (decide (n17 < (↑l15.len : Int)))
 (fun h18 =>
 ((0 ≤ n17) ∧
 n17 < (↑l15.len : Int)) ∧
 (derefK l15.a (fun i19 => fun i20 h21 =>
 ∃ s22 : ByteArray, (h21.read i19 (i20 + n17.toNat * 1) 1 = some [.str s22]) ∧
 I 251 [.one (.str s22)]
 (fun cs23 h24 =>
 ∃ b25 : Bool, (cs23 = [.one (.bool b25)]) ∧
 (ifT (!b25)
 (Q [.one (.bool false)])
 (x16 (IntKind.i64.wrap (n17 + 1)))) h24) h21)) h18)
 (Q [.one (.bool (decide ((↑l15.len : Int) ≥ 2)))]))) h14) h12)) h10) h8))
 (fun x26 => ifT (!b6)
 (x26 true)
 (ifT (decide ((↑s0.size : Int) > 80))
 (x26 true)
 (fun h27 =>
 I 174 [.one (.int .i64 (↑s4.size : Int)), .one (.int .i64 1), .one (.int .i64 64)]
 (fun cs28 h29 =>
 ∃ b30 : Bool, (cs28 = [.one (.bool b30)]) ∧
 (ifT (!b30)
 (x26 true)
 (fun h31 =>
 (((0 : Int) ≤ (0 : Int)) ∧
 0 < (↑s4.size : Int)) ∧
 (ifT (decide (byteAt s4 0 = 46))
 (x26 true)
 (fun h32 =>
 ((0 ≤ IntKind.i64.wrap ((↑s4.size : Int) - 1)) ∧
 IntKind.i64.wrap ((↑s4.size : Int) - 1) < (↑s4.size : Int)) ∧
 (ifT (decide (byteAt s4 (IntKind.i64.wrap ((↑s4.size : Int) - 1)) = 46))
 (x26 true)
 (fun h33 =>
 I 103 [.one (.str s4), .one (.str { data := #[46, 46] })]
 (fun cs34 h35 =>
 ∃ b36 : Bool, (cs34 = [.one (.bool b36)]) ∧
 x26 b36 h35) h33)) h32)) h31)) h29) h27)))) h3) h1
theorem den218 (I : FuncId → List V → Post → T) (s0 : ByteArray) (Q : Post) : denF Go.Proofs.Tryz.prog 0 (⟨[(28, 35184372056064, [(44, tk Go.Proofs.Tryz.prog 4)])], [(506, 1148417904979476740, [(52, tk Go.Proofs.Tryz.prog 3)])]⟩) I 218 [V.one (Cell.str s0)] Q = vc218 I s0 Q := by kernel_rfl
/-- strings.Contains -/
def vc103 (I : FuncId → List V → Post → T) (s0 : ByteArray) (s1 : ByteArray) (Q : Post) : T :=
 fun h2 =>
 I 156 [.one (.str s0), .one (.str s1)]
 (fun cs3 h4 =>
 ∃ n5 : Int, (cs3 = [.one (.int .i64 n5)]) ∧
 Q [.one (.bool (decide (n5 ≥ 0)))] h4) h2
theorem den103 (I : FuncId → List V → Post → T) (s0 : ByteArray) (s1 : ByteArray) (Q : Post) : denF Go.Proofs.Tryz.prog 0 (⟨[], []⟩) I 103 [V.one (Cell.str s0), V.one (Cell.str s1)] Q = vc103 I s0 s1 Q := by kernel_rfl
/-- strings.Index -/
def vc156 (I : FuncId → List V → Post → T) (s0 : ByteArray) (s1 : ByteArray) (Q : Post) : T :=
 fun h2 =>
 I 208 [.one (.str s0), .one (.str s1)]
 (fun cs3 h4 =>
 ∃ n5 : Int, (cs3 = [.one (.int .i64 n5)]) ∧
 Q [.one (.int .i64 n5)] h4) h2
theorem den156 (I : FuncId → List V → Post → T) (s0 : ByteArray) (s1 : ByteArray) (Q : Post) : denF Go.Proofs.Tryz.prog 0 (⟨[], []⟩) I 156 [V.one (Cell.str s0), V.one (Cell.str s1)] Q = vc156 I s0 s1 Q := by kernel_rfl
/-- internal/stringslite.Index -/
def vc208 (I : FuncId → List V → Post → T) (s0 : ByteArray) (s1 : ByteArray) (Q : Post) : T :=
 joinK (A := Bool)
 (fun b2 => ifT b2
 (Q [.one (.int .i64 0)])
 (ifT (decide ((↑s1.size : Int) = 1))
 (fun h3 =>
 (((0 : Int) ≤ (0 : Int)) ∧
 0 < (↑s1.size : Int)) ∧
 I 212 [.one (.str s0), .one (.int .u8 (byteAt s1 0))]
 (fun cs4 h5 =>
 ∃ n6 : Int, (cs4 = [.one (.int .i64 n6)]) ∧
 Q [.one (.int .i64 n6)] h5) h3)
 (ifT (decide ((↑s1.size : Int) ≥ (↑s0.size : Int)))
 (Q [.one (.int .i64 (-1))])
 (joinK (A := Bool)
 (fun b7 => ifT b7
 (fun h8 =>
 I 243 [.one (.str s0), .one (.str s1)]
 (fun cs9 h10 =>
 ∃ n11 : Int, (cs9 = [.one (.int .i64 n11)]) ∧
 Q [.one (.int .i64 n11)] h10) h8)
 (fun h12 =>
 (((0 : Int) ≤ (0 : Int)) ∧
 0 < (↑s1.size : Int)) ∧
 (((0 : Int) ≤ (1 : Int)) ∧
 1 < (↑s1.size : Int)) ∧
 (loopK (A := Int × Int) ((0, 0))
 (fun x13 => uncur fun n14 n15 => ifT (decide (n14 < IntKind.i64.wrap (IntKind.i64.wrap ((↑s0.size : Int) - (↑s1.size : Int)) + 1)))
 (fun h16 =>
 ((0 ≤ n14) ∧
 n14 < (↑s0.size : Int)) ∧
 (joinK (A := Int)
 (fun n17 => joinK (A := Bool)
 (fun b18 => ifT b18
 (Q [.one (.int .i64 n17)])
 (joinK (A := Bool)
 (fun b19 => ifT b19
 (fun h20 =>
 ((0 ≤ IntKind.i64.wrap (n17 + 1)) ∧
 (IntKind.i64.wrap (n17 + 1) ≤ (↑s0.size : Int)) ∧
 (↑s0.size : Int) ≤ (↑s0.size : Int)) ∧
 I 243 [.one (.str (s0.extract (IntKind.i64.wrap (n17 + 1)).toNat (↑s0.size : Int).toNat)), .one (.str s1)]
 (fun cs21 h22 =>
 ∃ n23 : Int, (cs21 = [.one (.int .i64 n23)]) ∧
 (ifT (decide (n23 ≥ 0))
 (Q [.one (.int .i64 (IntKind.i64.wrap (n23 + IntKind.i64.wrap (n17 + 1))))])
 (Q [.one (.int .i64 (-1))])) h22) h20)
 (joinK (A := Bool)
 (fun b24 => ifT b24
 (fun h25 =>
 ((0 ≤ IntKind.i64.wrap (n17 + 1)) ∧
 (IntKind.i64.wrap (n17 + 1) ≤ (↑s0.size : Int)) ∧
 (↑s0.size : Int) ≤ (↑s0.size : Int)) ∧
 I 245 [.one (.str (s0.extract (IntKind.i64.wrap (n17 + 1)).toNat (↑s0.size : Int).toNat)), .one (.str s1)]
 (fun cs26 h27 =>
 ∃ n28 : Int, (cs26 = [.one (.int .i64 n28)]) ∧
 (ifT (decide (n28 < 0))
 (Q [.one (.int .i64 (-1))])
 (Q [.one (.int .i64 (IntKind.i64.wrap (IntKind.i64.wrap (n17 + 1) + n28)))])) h27) h25)
 (x13 ((IntKind.i64.wrap (n17 + 1), IntKind.i64.wrap (n15 + 1)))))
 (fun x29 => globK 0 (fun i30 => fun i31 h32 =>
 ∃ n33 : Int, (h32.read i31 0 1 = some [.int .i64 n33]) ∧
 (ifT (decide ((↑s1.size : Int) > n33))
 (ifT (decide (IntKind.i64.wrap (n15 + 1) ≥ IntKind.i64.wrap (4 + shr IntKind.i64 (IntKind.i64.wrap (n17 + 1)) 4)))
 (x29 (decide (IntKind.i64.wrap (n17 + 1) < IntKind.i64.wrap (IntKind.i64.wrap ((↑s0.size : Int) - (↑s1.size : Int)) + 1))))
 (x29 false))
 (x29 false)) h32))))
 (fun x34 => globK 0 (fun i35 => fun i36 h37 =>
 ∃ n38 : Int, (h37.read i36 0 1 = some [.int .i64 n38]) ∧
 (ifT (decide ((↑s1.size : Int) ≤ n38))
 (fun h39 =>
 I 244 [.one (.int .i64 (IntKind.i64.wrap (n17 + 1)))]
 (fun cs40 h41 =>
 ∃ n42 : Int, (cs40 = [.one (.int .i64 n42)]) ∧
 x34 (decide (IntKind.i64.wrap (n15 + 1) > n42)) h41) h39)
 (x34 false)) h37))))
 (fun x43 h44 =>
 ((0 ≤ IntKind.i64.wrap (n17 + 1)) ∧
 IntKind.i64.wrap (n17 + 1) < (↑s0.size : Int)) ∧
 (ifT (decide (byteAt s0 (IntKind.i64.wrap (n17 + 1)) = byteAt s1 1))
 (fun h45 =>
 ((0 ≤ n17) ∧
 (n17 ≤ IntKind.i64.wrap (n17 + (↑s1.size : Int))) ∧
 IntKind.i64.wrap (n17 + (↑s1.size : Int)) ≤ (↑s0.size : Int)) ∧
 x43 (decide (s0.extract n17.toNat (IntKind.i64.wrap (n17 + (↑s1.size : Int))).toNat = s1)) h45)
 (x43 false)) h44))
 (fun x46 => ifT (!decide (byteAt s0 n14 = byteAt s1 0))
 (fun h47 =>
 ((0 ≤ IntKind.i64.wrap (n14 + 1)) ∧
 (IntKind.i64.wrap (n14 + 1) ≤ IntKind.i64.wrap (IntKind.i64.wrap ((↑s0.size : Int) - (↑s1.size : Int)) + 1)) ∧
 IntKind.i64.wrap (IntKind.i64.wrap ((↑s0.size : Int) - (↑s1.size : Int)) + 1) ≤ (↑s0.size : Int)) ∧
 I 212 [.one (.str (s0.extract (IntKind.i64.wrap (n14 + 1)).toNat (IntKind.i64.wrap (IntKind.i64.wrap ((↑s0.size : Int) - (↑s1.size : Int)) + 1)).toNat)), .one (.int .u8 (byteAt s1 0))]
 (fun cs48 h49 =>
 ∃ n50 : Int, (cs48 = [.one (.int .i64 n50)]) ∧
 (ifT (decide (n50 < 0))
 (Q [.one (.int .i64 (-1))])
 (x46 (IntKind.i64.wrap (n14 + IntKind.i64.wrap (n50 + 1))))) h49) h47)
 (x46 n14))) h16)
 (Q [.one (.int .i64 (-1))]))) h12))
 (fun x51 => globK 0 (fun i52 => fun i53 h54 =>
 ∃ n55 : Int, (h54.read i53 0 1 = some [.int .i64 n55]) ∧
 (ifT (decide ((↑s1.size : Int) ≤ n55))
 (x51 (decide ((↑s0.size : Int) ≤ 64)))
 (x51 false)) h54))))))
 (fun x56 => ifT (decide ((↑s1.size : Int) = 0))
 (x56 true)
 (x56 (decide (s1 = s0))))
theorem den208 (I : FuncId → List V → Post → T) (s0 : ByteArray) (s1 : ByteArray) (Q : Post) : denF Go.Proofs.Tryz.prog 0 (⟨[(56, 16711680, [(16, tk Go.Proofs.Tryz.prog 4)]), (3710, 35115652612096, [(36, tk Go.Proofs.Tryz.prog 4)]), (65417, 302194561415509874575632, [(8, tk Go.Proofs.Tryz.prog 3)]), (130836, 19806738397111180741092311040, [(93, tk Go.Proofs.Tryz.prog 4)]), (523358, 323884728358312612082407668973568, [(107, tk Go.Proofs.Tryz.prog 4)]), (2093438, 10888703434471084601859761486051512680448, [(132, tk Go.Proofs.Tryz.prog 4)])], [(2044, 11150372599265311570767858992208992677149968, [(8, tk Go.Proofs.Tryz.prog 3), (10, tk Go.Proofs.Tryz.prog 3)])]⟩) I 208 [V.one (Cell.str s0), V.one (Cell.str s1)] Q = vc208 I s0 s1 Q := by kernel_rfl
/-- internal/stringslite.IndexByte -/
def vc212 (I : FuncId → List V → Post → T) (s0 : ByteArray) (n1 : Int) (Q : Post) : T :=
 fun h2 =>
 I 246 [.one (.str s0), .one (.int .u8 n1)]
 (fun cs3 h4 =>
 ∃ n5 : Int, (cs3 = [.one (.int .i64 n5)]) ∧
 Q [.one (.int .i64 n5)] h4) h2
theorem den212 (I : FuncId → List V → Post → T) (s0 : ByteArray) (n1 : Int) (Q : Post) : denF Go.Proofs.Tryz.prog 0 (⟨[], []⟩) I 212 [V.one (Cell.str s0), V.one (Cell.int IntKind.u8 n1)] Q = vc212 I s0 n1 Q := by kernel_rfl
/-- internal/bytealg.Cutover -/
def vc244 (I : FuncId → List V → Post → T) (n0 : Int) (Q : Post) : T :=
 Q [.one (.int .i64 (IntKind.i64.wrap ((IntKind.i64.wrap (n0 + 16)).tdiv 8)))]
theorem den244 (I : FuncId → List V → Post → T) (n0 : Int) (Q : Post) : denF Go.Proofs.Tryz.prog 0 (⟨[], []⟩) I 244 [V.one (Cell.int IntKind.i64 n0)] Q = vc244 I n0 Q := by kernel_rfl
/-- strings.Cut -/
def vc202 (I : FuncId → List V → Post → T) (s0 : ByteArray) (s1 : ByteArray) (Q : Post) : T :=
 fun h2 =>
 I 239 [.one (.str s0), .one (.str s1)]
 (fun cs3 h4 =>
 ∃ s5 : ByteArray, ∃ s6 : ByteArray, ∃ b7 : Bool, (cs3 = [.one (.str s5), .one (.str s6), .one (.bool b7)]) ∧
 Q [.one (.str s5), .one (.str s6), .one (.bool b7)] h4) h2
theorem den202 (I : FuncId → List V → Post → T) (s0 : ByteArray) (s1 : ByteArray) (Q : Post) : denF Go.Proofs.Tryz.prog 0 (⟨[], []⟩) I 202 [V.one (Cell.str s0), V.one (Cell.str s1)] Q = vc202 I s0 s1 Q := by kernel_rfl
/-- internal/stringslite.Cut -/
def vc239 (I : FuncId → List V → Post → T) (s0 : ByteArray) (s1 : ByteArray) (Q : Post) : T :=
 fun h2 =>
 I 208 [.one (.str s0), .one (.str s1)]
 (fun cs3 h4 =>
 ∃ n5 : Int, (cs3 = [.one (.int .i64 n5)]) ∧
 (ifT (decide (n5 ≥ 0))
 (fun h6 =>
 (((0 : Int) ≤ (0 : Int)) ∧
 (0 ≤ n5) ∧
 n5 ≤ (↑s0.size : Int)) ∧
 ((0 ≤ IntKind.i64.wrap (n5 + (↑s1.size : Int))) ∧
 (IntKind.i64.wrap (n5 + (↑s1.size : Int)) ≤ (↑s0.size : Int)) ∧
 (↑s0.size : Int) ≤ (↑s0.size : Int)) ∧
 Q [.one (.str (s0.extract 0 n5.toNat)), .one (.str (s0.extract (IntKind.i64.wrap (n5 + (↑s1.size : Int))).toNat (↑s0.size : Int).toNat)), .one (.bool true)] h6)
 (Q [.one (.str s0), .one (.str { data := #[] }), .one (.bool false)])) h4) h2
theorem den239 (I : FuncId → List V → Post → T) (s0 : ByteArray) (s1 : ByteArray) (Q : Post) : denF Go.Proofs.Tryz.prog 0 (⟨[], []⟩) I 239 [V.one (Cell.str s0), V.one (Cell.str s1)] Q = vc239 I s0 s1 Q := by kernel_rfl
/-- strings.Split -/
def vc203 (I : FuncId → List V → Post → T) (s0 : ByteArray) (s1 : ByteArray) (Q : Post) : T :=
 fun h2 =>
 I 240 [.one (.str s0), .one (.str s1), .one (.int .i64 0), .one (.int .i64 (-1))]
 (fun cs3 h4 =>
 ∃ l5 : Sl, (cs3 = [.one (.slice 1 l5)]) ∧
 Q [.one (.slice 1 l5)] h4) h2
theorem den203 (I : FuncId → List V → Post → T) (s0 : ByteArray) (s1 : ByteArray) (Q : Post) : denF Go.Proofs.Tryz.prog 0 (⟨[], []⟩) I 203 [V.one (Cell.str s0), V.one (Cell.str s1)] Q = vc203 I s0 s1 Q := by kernel_rfl
/-- strings.genSplit -/
def vc240 (I : FuncId → List V → Post → T) (s0 : ByteArray) (s1 : ByteArray) (n2 : Int) (n3 : Int) (Q : Post) : T :=
 ifT (decide (n3 = 0))
 (Q [.one (.slice 1 { a := none, len := 0 })])
 (ifT (decide (s1 = { data := #[] }))
 (fun h4 =>
 I 261 [.one (.str s0), .one (.int .i64 n3)]
 (fun cs5 h6 =>
 ∃ l7 : Sl, (cs5 = [.one (.slice 1 l7)]) ∧
 Q [.one (.slice 1 l7)] h6) h4)
 (joinK (A := Int)
 (fun n8 h9 =>
 (true = true) ∧
 (0 ≤ min n8 (IntKind.i64.wrap ((↑s0.size : Int) + 1))) ∧
 (min n8 (IntKind.i64.wrap ((↑s0.size : Int) + 1)) ≤ min n8 (IntKind.i64.wrap ((↑s0.size : Int) + 1))) ∧
 (min n8 (IntKind.i64.wrap ((↑s0.size : Int) + 1)) * (↑16 : Int) ≤ 140737488355328) ∧
 (newK (.cells false (slCells (VK.one Kd.str) (min n8 (IntKind.i64.wrap ((↑s0.size : Int) + 1))).toNat)) (fun i10 => loopK (A := ByteArray × Int) ((s0, 0))
 (fun x11 => uncur fun s12 n13 => ifT (decide (n13 < IntKind.i64.wrap (min n8 (IntKind.i64.wrap ((↑s0.size : Int) + 1)) - 1)))
 (fun h14 =>
 I 156 [.one (.str s12), .one (.str s1)]
 (fun cs15 h16 =>
 ∃ n17 : Int, (cs15 = [.one (.int .i64 n17)]) ∧
 (ifT (decide (n17 < 0))
 (fun h18 =>
 ((0 ≤ n13) ∧
 n13 < (↑(min n8 (IntKind.i64.wrap ((↑s0.size : Int) + 1))).toNat : Int)) ∧
 (storeK [] i10 (0 + n13.toNat * 1) [.str s12] (fun h19 =>
 (((0 : Int) ≤ (0 : Int)) ∧
 (0 ≤ IntKind.i64.wrap (n13 + 1)) ∧
 IntKind.i64.wrap (n13 + 1) ≤ (↑(min n8 (IntKind.i64.wrap ((↑s0.size : Int) + 1))).toNat : Int)) ∧
 Q [.one (.slice 1 (({ a := some (i10, 0), len := (min n8 (IntKind.i64.wrap ((↑s0.size : Int) + 1))).toNat } : Sl).sub 1 0 (IntKind.i64.wrap (n13 + 1)).toNat))] h19)) h18)
 (fun h20 =>
 (((0 : Int) ≤ (0 : Int)) ∧
 (0 ≤ IntKind.i64.wrap (n17 + n2)) ∧
 IntKind.i64.wrap (n17 + n2) ≤ (↑s12.size : Int)) ∧
 ((0 ≤ n13) ∧
 n13 < (↑(min n8 (IntKind.i64.wrap ((↑s0.size : Int) + 1))).toNat : Int)) ∧
 (storeK [] i10 (0 + n13.toNat * 1) [.str (s12.extract 0 (IntKind.i64.wrap (n17 + n2)).toNat)] (fun h21 =>
 ((0 ≤ IntKind.i64.wrap (n17 + (↑s1.size : Int))) ∧
 (IntKind.i64.wrap (n17 + (↑s1.size : Int)) ≤ (↑s12.size : Int)) ∧
 (↑s12.size : Int) ≤ (↑s12.size : Int)) ∧
 x11 ((s12.extract (IntKind.i64.wrap (n17 + (↑s1.size : Int))).toNat (↑s12.size : Int).toNat, IntKind.i64.wrap (n13 + 1))) h21)) h20)) h16) h14)
 (fun h22 =>
 ((0 ≤ n13) ∧
 n13 < (↑(min n8 (IntKind.i64.wrap ((↑s0.size : Int) + 1))).toNat : Int)) ∧
 (storeK [] i10 (0 + n13.toNat * 1) [.str s12] (fun h23 =>
 (((0 : Int) ≤ (0 : Int)) ∧
 (0 ≤ IntKind.i64.wrap (n13 + 1)) ∧
 IntKind.i64.wrap (n13 + 1) ≤ (↑(min n8 (IntKind.i64.wrap ((↑s0.size : Int) + 1))).toNat : Int)) ∧
 Q [.one (.slice 1 (({ a := some (i10, 0), len := (min n8 (IntKind.i64.wrap ((↑s0.size : Int) + 1))).toNat } : Sl).sub 1 0 (IntKind.i64.wrap (n13 + 1)).toNat))] h23)) h22)))) h9)
 (fun x24 => ifT (decide (n3 < 0))
 (fun h25 =>
 I 262 [.one (.str s0), .one (.str s1)]
 (fun cs26 h27 =>
 ∃ n28 : Int, (cs26 = [.one (.int .i64 n28)]) ∧
 x24 (IntKind.i64.wrap (n28 + 1)) h27) h25)
 (x24 n3))))
theorem den240 (I : FuncId → List V → Post → T) (s0 : ByteArray) (s1 : ByteArray) (n2 : Int) (n3 : Int) (Q : Post) : denF Go.Proofs.Tryz.prog 0 (⟨[(61, 31457288, [(3, tk Go.Proofs.Tryz.prog 3)])], [(2044, 288230358971845633, [(0, tk Go.Proofs.Tryz.prog 9), (10, tk Go.Proofs.Tryz.prog 3)])]⟩) I 240 [V.one (Cell.str s0), V.one (Cell.str s1), V.one (Cell.int IntKind.i64 n2), V.one (Cell.int IntKind.i64 n3)] Q = vc240 I s0 s1 n2 n3 Q := by kernel_rfl
/-- strings.explode -/
def vc261 (I : FuncId → List V → Post → T) (s0 : ByteArray) (n1 : Int) (Q : Post) : T :=
 fun h2 =>
 I 272 [.one (.str s0)]
 (fun cs3 h4 =>
 ∃ n5 : Int, (cs3 = [.one (.int .i64 n5)]) ∧
 (joinK (A := Bool)
 (fun b6 => joinK (A := Int)
 (fun n7 h8 =>
 (true = true) ∧
 (0 ≤ n7) ∧
 (n7 ≤ n7) ∧
 (n7 * (↑16 : Int) ≤ 140737488355328) ∧
 (newK (.cells false (slCells (VK.one Kd.str) n7.toNat)) (fun i9 => loopK (A := ByteArray × Int) ((s0, 0))
 (fun x10 => uncur fun s11 n12 => ifT (decide (n12 < IntKind.i64.wrap (n7 - 1)))
 (fun h13 =>
 I 201 [.one (.str s11)]
 (fun cs14 h15 =>
 ∃ n16 : Int, ∃ n17 : Int, (cs14 = [.one (.int .i32 n16), .one (.int .i64 n17)]) ∧
 (((0 : Int) ≤ (0 : Int)) ∧
 (0 ≤ n17) ∧
 n17 ≤ (↑s11.size : Int)) ∧
 ((0 ≤ n12) ∧
 n12 < (↑n7.toNat : Int)) ∧
 (storeK [] i9 (0 + n12.toNat * 1) [.str (s11.extract 0 n17.toNat)] (fun h18 =>
 ((0 ≤ n17) ∧
 (n17 ≤ (↑s11.size : Int)) ∧
 (↑s11.size : Int) ≤ (↑s11.size : Int)) ∧
 x10 ((s11.extract n17.toNat (↑s11.size : Int).toNat, IntKind.i64.wrap (n12 + 1))) h18)) h15) h13)
 (ifT (decide (n7 > 0))
 (fun h19 =>
 ((0 ≤ IntKind.i64.wrap (n7 - 1)) ∧
 IntKind.i64.wrap (n7 - 1) < (↑n7.toNat : Int)) ∧
 (storeK [] i9 (0 + (IntKind.i64.wrap (n7 - 1)).toNat * 1) [.str s11] (Q [.one (.slice 1 { a := some (i9, 0), len := n7.toNat })])) h19)
 (Q [.one (.slice 1 { a := some (i9, 0), len := n7.toNat })]))))) h8)
 (fun x20 => ifT b6
 (x20 n5)
 (x20 n1)))
 (fun x21 => ifT (decide (n1 < 0))
 (x21 true)
 (x21 (decide (n1 > n5))))) h4) h2
theorem den261 (I : FuncId → List V → Post → T) (s0 : ByteArray) (n1 : Int) (Q : Post) : denF Go.Proofs.Tryz.prog 0 (⟨[(28, 520192, [(18, tk Go.Proofs.Tryz.prog 4)]), (29, 524290, [(1, tk Go.Proofs.Tryz.prog 3)])], [(250, 4398042317697, [(0, tk Go.Proofs.Tryz.prog 9), (7, tk Go.Proofs.Tryz.prog 3)])]⟩) I 261 [V.one (Cell.str s0), V.one (Cell.int IntKind.i64 n1)] Q = vc261 I s0 n1 Q := by kernel_rfl
/-- unicode/utf8.DecodeRuneInString -/
def vc201 (I : FuncId → List V → Post → T) (s0 : ByteArray) (Q : Post) : T :=
 joinK (A := Bool)
 (fun b1 => ifT b1
 (fun h2 =>
 (((0 : Int) ≤ (0 : Int)) ∧
 0 < (↑s0.size : Int)) ∧
 Q [.one (.int .i32 (IntKind.i32.wrap (byteAt s0 0))), .one (.int .i64 1)] h2)
 (fun h3 =>
 I 238 [.one (.str s0)]
 (fun cs4 h5 =>
 ∃ n6 : Int, ∃ n7 : Int, (cs4 = [.one (.int .i32 n6), .one (.int .i64 n7)]) ∧
 Q [.one (.int .i32 n6), .one (.int .i64 n7)] h5) h3))
 (fun x8 => ifT (!decide (s0 = { data := #[] }))
 (fun h9 =>
 (((0 : Int) ≤ (0 : Int)) ∧
 0 < (↑s0.size : Int)) ∧
 x8 (decide (byteAt s0 0 < 128)) h9)
 (x8 false))
theorem den201 (I : FuncId → List V → Post → T) (s0 : ByteArray) (Q : Post) : denF Go.Proofs.Tryz.prog 0 (⟨[(12, 2032, [(10, tk Go.Proofs.Tryz.prog 4)])], []⟩) I 201 [V.one (Cell.str s0)] Q = vc201 I s0 Q := by kernel_rfl
/-- unicode/utf8.decodeRuneInStringSlow -/
def vc238 (I : FuncId → List V → Post → T) (s0 : ByteArray) (Q : Post) : T :=
 ifT (decide ((↑s0.size : Int) < 1))
 (Q [.one (.int .i32 65533), .one (.int .i64 0)])
 (fun h1 =>
 (((0 : Int) ≤ (0 : Int)) ∧
 0 < (↑s0.size : Int)) ∧
 ((0 ≤ byteAt s0 0) ∧
 byteAt s0 0 < (↑256 : Int)) ∧
 (globK 1 (fun i2 => fun i3 h4 =>
 ∃ n5 : Int, (h4.read i3 ((byteAt s0 0).toNat * 1) 1 = some [.int .u8 n5]) ∧
 (ifT (decide (n5 ≥ 240))
 (fun h6 =>
 (((0 : Int) ≤ (0 : Int)) ∧
 0 < (↑s0.size : Int)) ∧
 Q [.one (.int .i32 (IntKind.i32.wrap (↑(BitVec.ofInt 32 (IntKind.i32.wrap (↑(BitVec.ofInt 32 (IntKind.i32.wrap (byteAt s0 0)) &&& ~~~BitVec.ofInt 32 (shr IntKind.i32 (shl IntKind.i32 (IntKind.i32.wrap n5) 31) 31)).toNat : Int)) ||| BitVec.ofInt 32 (IntKind.i32.wrap (↑(BitVec.ofInt 32 65533 &&& BitVec.ofInt 32 (shr IntKind.i32 (shl IntKind.i32 (IntKind.i32.wrap n5) 31) 31)).toNat : Int))).toNat : Int))), .one (.int .i64 1)] h6)
 (fun h7 =>
 ((0 ≤ shr IntKind.u8 n5 4) ∧
 shr IntKind.u8 n5 4 < (↑16 : Int)) ∧
 (globK 2 (fun i8 => fun i9 h10 =>
 ∃ n11 : Int, ∃ n12 : Int, (h10.read i9 ((shr IntKind.u8 n5 4).toNat * 2) 2 = some [.int .u8 n11, .int .u8 n12]) ∧
 (ifT (decide ((↑s0.size : Int) < IntKind.i64.wrap (IntKind.u8.wrap (↑(BitVec.ofInt 8 n5 &&& BitVec.ofInt 8 7).toNat : Int))))
 (Q [.one (.int .i32 65533), .one (.int .i64 1)])
 (fun h13 =>
 (((0 : Int) ≤ (1 : Int)) ∧
 1 < (↑s0.size : Int)) ∧
 (joinK (A := Bool)
 (fun b14 => ifT b14
 (Q [.one (.int .i32 65533), .one (.int .i64 1)])
 (ifT (decide (IntKind.i64.wrap (IntKind.u8.wrap (↑(BitVec.ofInt 8 n5 &&& BitVec.ofInt 8 7).toNat : Int)) ≤ 2))
 (Q [.one (.int .i32 (IntKind.i32.wrap (↑(BitVec.ofInt 32 (shl IntKind.i32 (IntKind.i32.wrap (IntKind.u8.wrap (↑(BitVec.ofInt 8 (byteAt s0 0) &&& BitVec.ofInt 8 31).toNat : Int))) 6) ||| BitVec.ofInt 32 (IntKind.i32.wrap (IntKind.u8.wrap (↑(BitVec.ofInt 8 (byteAt s0 1) &&& BitVec.ofInt 8 63).toNat : Int)))).toNat : Int))), .one (.int .i64 2)])
 (fun h15 =>
 (((0 : Int) ≤ (2 : Int)) ∧
 2 < (↑s0.size : Int)) ∧
 (joinK (A := Bool)
 (fun b16 => ifT b16
 (Q [.one (.int .i32 65533), .one (.int .i64 1)])
 (ifT (decide (IntKind.i64.wrap (IntKind.u8.wrap (↑(BitVec.ofInt 8 n5 &&& BitVec.ofInt 8 7).toNat : Int)) ≤ 3))
 (Q [.one (.int .i32 (IntKind.i32.wrap (↑(BitVec.ofInt 32 (IntKind.i32.wrap (↑(BitVec.ofInt 32 (shl IntKind.i32 (IntKind.i32.wrap (IntKind.u8.wrap (↑(BitVec.ofInt 8 (byteAt s0 0) &&& BitVec.ofInt 8 15).toNat : Int))) 12) ||| BitVec.ofInt 32 (shl IntKind.i32 (IntKind.i32.wrap (IntKind.u8.wrap (↑(BitVec.ofInt 8 (byteAt s0 1) &&& BitVec.ofInt 8 63).toNat : Int))) 6)).toNat : Int)) ||| BitVec.ofInt 32 (IntKind.i32.wrap (IntKind.u8.wrap (↑(BitVec.ofInt 8 (byteAt s0 2) &&& BitVec.ofInt 8 63).toNat : Int)))).toNat : Int))), .one (.int .i64 3)])
 (fun h17 =>
 (((0 : Int) ≤ (3 : Int)) ∧
 3 < (↑s0.size : Int)) ∧
 (joinK (A := Bool)
 (fun b18 => ifT b18
 (Q [.one (.int .i32 65533), .one (.int .i64 1)])
 (Q [.one (.int .i32 (IntKind.i32.wrap (↑(BitVec.ofInt 32 (IntKind.i32.wrap (↑(BitVec.ofInt 32 (IntKind.i32.wrap (↑(BitVec.ofInt 32 (shl IntKind.i32 (IntKind.i32.wrap (IntKind.u8.wrap (↑(BitVec.ofInt 8 (byteAt s0 0) &&& BitVec.ofInt 8 7).toNat : Int))) 18) ||| BitVec.ofInt 32 (shl IntKind.i32 (IntKind.i32.wrap (IntKind.u8.wrap (↑(BitVec.ofInt 8 (byteAt s0 1) &&& BitVec.ofInt 8 63).toNat : Int))) 12)).toNat : Int)) ||| BitVec.ofInt 32 (shl IntKind.i32 (IntKind.i32.wrap (IntKind.u8.wrap (↑(BitVec.ofInt 8 (byteAt s0 2) &&& BitVec.ofInt 8 63).toNat : Int))) 6)).toNat : Int)) ||| BitVec.ofInt 32 (IntKind.i32.wrap (IntKind.u8.wrap (↑(BitVec.ofInt 8 (byteAt s0 3) &&& BitVec.ofInt 8 63).toNat : Int)))).toNat : Int))), .one (.int .i64 4)]))
 (fun x19 => ifT (decide (byteAt s0 3 < 128))
 (x19 true)
 (x19 (decide (191 < byteAt s0 3))))) h17)))
 (fun x20 => ifT (decide (byteAt s0 2 < 128))
 (x20 true)
 (x20 (decide (191 < byteAt s0 2))))) h15)))
 (fun x21 => ifT (decide (byteAt s0 1 < n11))
 (x21 true)
 (x21 (decide (n12 < byteAt s0 1))))) h13)) h10)) h7)) h4)) h1)
theorem den238 (I : FuncId → List V → Post → T) (s0 : ByteArray) (Q : Post) : denF Go.Proofs.Tryz.prog 512 (⟨[(8188, 287948901175001088, [(57, tk Go.Proofs.Tryz.prog 4)]), (65532, 74377272105196912115712, [(75, tk Go.Proofs.Tryz.prog 4)]), (524284, 623921779799831658549158608896, [(98, tk Go.Proofs.Tryz.prog 4)])], []⟩) I 238 [V.one (Cell.str s0)] Q = vc238 I s0 Q := by kernel_rfl
/-- unicode/utf8.RuneCountInString -/
def vc272 (I : FuncId → List V → Post → T) (s0 : ByteArray) (Q : Post) : T :=
 fun h1 =>
 False
theorem den272 (I : FuncId → List V → Post → T) (s0 : ByteArray) (Q : Post) : denF Go.Proofs.Tryz.prog 0 (⟨[], [(26, 484, [(2, tk Go.Proofs.Tryz.prog 3)])]⟩) I 272 [V.one (Cell.str s0)] Q = vc272 I s0 Q := by kernel_rfl
/-- strings.Count -/
def vc262 (I : FuncId → List V → Post → T) (s0 : ByteArray) (s1 : ByteArray) (Q : Post) : T :=
 ifT (decide ((↑s1.size : Int) = 0))
 (fun h2 =>
 I 272 [.one (.str s0)]
 (fun cs3 h4 =>
 ∃ n5 : Int, (cs3 = [.one (.int .i64 n5)]) ∧
 Q [.one (.int .i64 (IntKind.i64.wrap (n5 + 1)))] h4) h2)
 (ifT (decide ((↑s1.size : Int) = 1))
 (fun h6 =>
 (((0 : Int) ≤ (0 : Int)) ∧
 0 < (↑s1.size : Int)) ∧
 I 273 [.one (.str s0), .one (.int .u8 (byteAt s1 0))]
 (fun cs7 h8 =>
 ∃ n9 : Int, (cs7 = [.one (.int .i64 n9)]) ∧
 Q [.one (.int .i64 n9)] h8) h6)
 (loopK (A := ByteArray × Int) ((s0, 0))
 (fun x10 => uncur fun s11 n12 => fun h13 =>
 I 156 [.one (.str s11), .one (.str s1)]
 (fun cs14 h15 =>
 ∃ n16 : Int, (cs14 = [.one (.int .i64 n16)]) ∧
 (ifT (decide (n16 = -1))
 (Q [.one (.int .i64 n12)])
 (fun h17 =>
 ((0 ≤ IntKind.i64.wrap (n16 + (↑s1.size : Int))) ∧
 (IntKind.i64.wrap (n16 + (↑s1.size : Int)) ≤ (↑s11.size : Int)) ∧
 (↑s11.size : Int) ≤ (↑s11.size : Int)) ∧
 x10 ((s11.extract (IntKind.i64.wrap (n16 + (↑s1.size : Int))).toNat (↑s11.size : Int).toNat, IntKind.i64.wrap (n12 + 1))) h17)) h15) h13)))
theorem den262 (I : FuncId → List V → Post → T) (s0 : ByteArray) (s1 : ByteArray) (Q : Post) : denF Go.Proofs.Tryz.prog 0 (⟨[], [(62, 17178820721, [(0, tk Go.Proofs.Tryz.prog 9), (5, tk Go.Proofs.Tryz.prog 3)])]⟩) I 262 [V.one (Cell.str s0), V.one (Cell.str s1)] Q = vc262 I s0 s1 Q := by kernel_rfl
/-- handbill/person.isMail$1 -/
def vc250 (I : FuncId → List V → Post → T) (n0 : Int) (Q : Post) : T :=
 fun h1 =>
 I 175 [.one (.int .u8 n0)]
 (fun cs2 h3 =>
 ∃ b4 : Bool, (cs2 = [.one (.bool b4)]) ∧
 (ifT b4
 (Q [.one (.bool true)])
 (fun h5 =>
 I 178 [.one (.int .u8 n0)]
 (fun cs6 h7 =>
 ∃ b8 : Bool, (cs6 = [.one (.bool b8)]) ∧
 (ifT b8
 (Q [.one (.bool true)])
 (ifT (decide (n0 = 46))
 (Q [.one (.bool true)])
 (ifT (decide (n0 = 45))
 (Q [.one (.bool true)])
 (Q [.one (.bool (decide (n0 = 95)))])))) h7) h5)) h3) h1
theorem den250 (I : FuncId → List V → Post → T) (n0 : Int) (Q : Post) : denF Go.Proofs.Tryz.prog 0 (⟨[], []⟩) I 250 [V.one (Cell.int IntKind.u8 n0)] Q = vc250 I n0 Q := by kernel_rfl
/-- handbill/person.isLabel -/
def vc251 (I : FuncId → List V → Post → T) (s0 : ByteArray) (Q : Post) : T :=
 fun h1 =>
 I 174 [.one (.int .i64 (↑s0.size : Int)), .one (.int .i64 1), .one (.int .i64 30)]
 (fun cs2 h3 =>
 ∃ b4 : Bool, (cs2 = [.one (.bool b4)]) ∧
 (ifT b4
 (fun h5 =>
 (((0 : Int) ≤ (0 : Int)) ∧
 0 < (↑s0.size : Int)) ∧
 (ifT (!decide (byteAt s0 0 = 45))
 (fun h6 =>
 ((0 ≤ IntKind.i64.wrap ((↑s0.size : Int) - 1)) ∧
 IntKind.i64.wrap ((↑s0.size : Int) - 1) < (↑s0.size : Int)) ∧
 (ifT (!decide (byteAt s0 (IntKind.i64.wrap ((↑s0.size : Int) - 1)) = 45))
 (fun h7 =>
 I 176 [.one (.str s0), .one (.func (some (268, [])))]
 (fun cs8 h9 =>
 ∃ b10 : Bool, (cs8 = [.one (.bool b10)]) ∧
 Q [.one (.bool b10)] h9) h7)
 (Q [.one (.bool false)])) h6)
 (Q [.one (.bool false)])) h5)
 (Q [.one (.bool false)])) h3) h1
theorem den251 (I : FuncId → List V → Post → T) (s0 : ByteArray) (Q : Post) : denF Go.Proofs.Tryz.prog 0 (⟨[], []⟩) I 251 [V.one (Cell.str s0)] Q = vc251 I s0 Q := by kernel_rfl
/-- handbill/person.isLabel$1 -/
def vc268 (I : FuncId → List V → Post → T) (n0 : Int) (Q : Post) : T :=
 fun h1 =>
 I 175 [.one (.int .u8 n0)]
 (fun cs2 h3 =>
 ∃ b4 : Bool, (cs2 = [.one (.bool b4)]) ∧
 (ifT b4
 (Q [.one (.bool true)])
 (fun h5 =>
 I 178 [.one (.int .u8 n0)]
 (fun cs6 h7 =>
 ∃ b8 : Bool, (cs6 = [.one (.bool b8)]) ∧
 (ifT b8
 (Q [.one (.bool true)])
 (Q [.one (.bool (decide (n0 = 45)))])) h7) h5)) h3) h1
theorem den268 (I : FuncId → List V → Post → T) (n0 : Int) (Q : Post) : denF Go.Proofs.Tryz.prog 0 (⟨[], []⟩) I 268 [V.one (Cell.int IntKind.u8 n0)] Q = vc268 I n0 Q := by kernel_rfl
/-- handbill/person.isPhone -/
def vc219 (I : FuncId → List V → Post → T) (s0 : ByteArray) (Q : Post) : T :=
 fun h1 =>
 I 102 [.one (.str s0), .one (.str { data := #[43] })]
 (fun cs2 h3 =>
 ∃ b4 : Bool, (cs2 = [.one (.bool b4)]) ∧
 (ifT b4
 (fun h5 =>
 I 174 [.one (.int .i64 (↑s0.size : Int)), .one (.int .i64 8), .one (.int .i64 16)]
 (fun cs6 h7 =>
 ∃ b8 : Bool, (cs6 = [.one (.bool b8)]) ∧
 (ifT b8
 (fun h9 =>
 (((0 : Int) ≤ (1 : Int)) ∧
 (1 ≤ (↑s0.size : Int)) ∧
 (↑s0.size : Int) ≤ (↑s0.size : Int)) ∧
 I 176 [.one (.str (s0.extract 1 (↑s0.size : Int).toNat)), .one (.func (some (178, [])))]
 (fun cs10 h11 =>
 ∃ b12 : Bool, (cs10 = [.one (.bool b12)]) ∧
 (ifT b12
 (fun h13 =>
 (((0 : Int) ≤ (1 : Int)) ∧
 1 < (↑s0.size : Int)) ∧
 Q [.one (.bool (!decide (byteAt s0 1 = 48)))] h13)
 (Q [.one (.bool false)])) h11) h9)
 (Q [.one (.bool false)])) h7) h5)
 (Q [.one (.bool false)])) h3) h1
theorem den219 (I : FuncId → List V → Post → T) (s0 : ByteArray) (Q : Post) : denF Go.Proofs.Tryz.prog 0 (⟨[], []⟩) I 219 [V.one (Cell.str s0)] Q = vc219 I s0 Q := by kernel_rfl
/-- strings.HasPrefix -/
def vc102 (I : FuncId → List V → Post → T) (s0 : ByteArray) (s1 : ByteArray) (Q : Post) : T :=
 fun h2 =>
 I 155 [.one (.str s0), .one (.str s1)]
 (fun cs3 h4 =>
 ∃ b5 : Bool, (cs3 = [.one (.bool b5)]) ∧
 Q [.one (.bool b5)] h4) h2
theorem den102 (I : FuncId → List V → Post → T) (s0 : ByteArray) (s1 : ByteArray) (Q : Post) : denF Go.Proofs.Tryz.prog 0 (⟨[], []⟩) I 102 [V.one (Cell.str s0), V.one (Cell.str s1)] Q = vc102 I s0 s1 Q := by kernel_rfl
/-- internal/stringslite.HasPrefix -/
def vc155 (I : FuncId → List V → Post → T) (s0 : ByteArray) (s1 : ByteArray) (Q : Post) : T :=
 ifT (decide ((↑s0.size : Int) ≥ (↑s1.size : Int)))
 (fun h2 =>
 (((0 : Int) ≤ (0 : Int)) ∧
 (0 ≤ (↑s1.size : Int)) ∧
 (↑s1.size : Int) ≤ (↑s0.size : Int)) ∧
 Q [.one (.bool (decide (s0.extract 0 (↑s1.size : Int).toNat = s1)))] h2)
 (Q [.one (.bool false)])
theorem den155 (I : FuncId → List V → Post → T) (s0 : ByteArray) (s1 : ByteArray) (Q : Post) : denF Go.Proofs.Tryz.prog 0 (⟨[], []⟩) I 155 [V.one (Cell.str s0), V.one (Cell.str s1)] Q = vc155 I s0 s1 Q := by kernel_rfl
/-- handbill/person.isMember -/
def vc220 (I : FuncId → List V → Post → T) (s0 : ByteArray) (Q : Post) : T :=
 fun h1 =>
 I 174 [.one (.int .i64 (↑s0.size : Int)), .one (.int .i64 4), .one (.int .i64 20)]
 (fun cs2 h3 =>
 ∃ b4 : Bool, (cs2 = [.one (.bool b4)]) ∧
 (ifT b4
 (fun h5 =>
 I 176 [.one (.str s0), .one (.func (some (252, [])))]
 (fun cs6 h7 =>
 ∃ b8 : Bool, (cs6 = [.one (.bool b8)]) ∧
 Q [.one (.bool b8)] h7) h5)
 (Q [.one (.bool false)])) h3) h1
theorem den220 (I : FuncId → List V → Post → T) (s0 : ByteArray) (Q : Post) : denF Go.Proofs.Tryz.prog 0 (⟨[], []⟩) I 220 [V.one (Cell.str s0)] Q = vc220 I s0 Q := by kernel_rfl
/-- handbill/person.isMember$1 -/
def vc252 (I : FuncId → List V → Post → T) (n0 : Int) (Q : Post) : T :=
 fun h1 =>
 I 178 [.one (.int .u8 n0)]
 (fun cs2 h3 =>
 ∃ b4 : Bool, (cs2 = [.one (.bool b4)]) ∧
 (ifT b4
 (Q [.one (.bool true)])
 (fun h5 =>
 I 253 [.one (.int .u8 n0)]
 (fun cs6 h7 =>
 ∃ b8 : Bool, (cs6 = [.one (.bool b8)]) ∧
 Q [.one (.bool b8)] h7) h5)) h3) h1
theorem den252 (I : FuncId → List V → Post → T) (n0 : Int) (Q : Post) : denF Go.Proofs.Tryz.prog 0 (⟨[], []⟩) I 252 [V.one (Cell.int IntKind.u8 n0)] Q = vc252 I n0 Q := by kernel_rfl
/-- handbill/person.capital -/
def vc253 (I : FuncId → List V → Post → T) (n0 : Int) (Q : Post) : T :=
 ifT (decide (65 ≤ n0))
 (Q [.one (.bool (decide (n0 ≤ 90)))])
 (Q [.one (.bool false)])
theorem den253 (I : FuncId → List V → Post → T) (n0 : Int) (Q : Post) : denF Go.Proofs.Tryz.prog 0 (⟨[], []⟩) I 253 [V.one (Cell.int IntKind.u8 n0)] Q = vc253 I n0 Q := by kernel_rfl
/-- handbill/person.isDevice -/
def vc221 (I : FuncId → List V → Post → T) (s0 : ByteArray) (Q : Post) : T :=
 ifT (decide ((↑s0.size : Int) = 32))
 (fun h1 =>
 I 176 [.one (.str s0), .one (.func (some (254, [])))]
 (fun cs2 h3 =>
 ∃ b4 : Bool, (cs2 = [.one (.bool b4)]) ∧
 Q [.one (.bool b4)] h3) h1)
 (Q [.one (.bool false)])
theorem den221 (I : FuncId → List V → Post → T) (s0 : ByteArray) (Q : Post) : denF Go.Proofs.Tryz.prog 0 (⟨[], []⟩) I 221 [V.one (Cell.str s0)] Q = vc221 I s0 Q := by kernel_rfl
/-- handbill/person.isDevice$1 -/
def vc254 (I : FuncId → List V → Post → T) (n0 : Int) (Q : Post) : T :=
 fun h1 =>
 I 178 [.one (.int .u8 n0)]
 (fun cs2 h3 =>
 ∃ b4 : Bool, (cs2 = [.one (.bool b4)]) ∧
 (ifT b4
 (Q [.one (.bool true)])
 (ifT (decide (97 ≤ n0))
 (Q [.one (.bool (decide (n0 ≤ 102)))])
 (Q [.one (.bool false)]))) h3) h1
theorem den254 (I : FuncId → List V → Post → T) (n0 : Int) (Q : Post) : denF Go.Proofs.Tryz.prog 0 (⟨[], []⟩) I 254 [V.one (Cell.int IntKind.u8 n0)] Q = vc254 I n0 Q := by kernel_rfl
/-- handbill/person.checkSign -/
def vc222 (I : FuncId → List V → Post → T) (s0 : ByteArray) (Q : Post) : T :=
 loopK (A := Int × Int × Int) ((0, 2, IntKind.i64.wrap ((↑s0.size : Int) - 1)))
 (fun x1 => uncur fun n2 => uncur fun n3 n4 => ifT (decide (n4 ≥ 0))
 (fun h5 =>
 ((0 ≤ n4) ∧
 n4 < (↑s0.size : Int)) ∧
 I 165 [.one (.str { data := #[48, 49, 50, 51, 52, 53, 54, 55, 56, 57, 65, 66, 67, 68, 69, 70, 71, 72, 73, 74, 75, 76, 77, 78, 79, 80, 81, 82, 83, 84, 85, 86, 87, 88, 89, 90] }), .one (.int .u8 (byteAt s0 n4))]
 (fun cs6 h7 =>
 ∃ n8 : Int, (cs6 = [.one (.int .i64 n8)]) ∧
 x1 ((IntKind.i64.wrap (n2 + IntKind.i64.wrap (IntKind.i64.wrap ((IntKind.i64.wrap (n3 * n8)).tdiv 36) + (IntKind.i64.wrap (n3 * n8)).tmod 36)), IntKind.i64.wrap (3 - n3), IntKind.i64.wrap (n4 - 1))) h7) h5)
 (fun h9 =>
 ((0 ≤ (IntKind.i64.wrap (36 - n2.tmod 36)).tmod 36) ∧
 (IntKind.i64.wrap (36 - n2.tmod 36)).tmod 36 < (↑36 : Int)) ∧
 Q [.one (.int .u8 (byteAt { data := #[48, 49, 50, 51, 52, 53, 54, 55, 56, 57, 65, 66, 67, 68, 69, 70, 71, 72, 73, 74, 75, 76, 77, 78, 79, 80, 81, 82, 83, 84, 85, 86, 87, 88, 89, 90] } ((IntKind.i64.wrap (36 - n2.tmod 36)).tmod 36)))] h9))
theorem den222 (I : FuncId → List V → Post → T) (s0 : ByteArray) (Q : Post) : denF Go.Proofs.Tryz.prog 0 (⟨[], [(58, 536870008, [(3, tk Go.Proofs.Tryz.prog 3), (4, tk Go.Proofs.Tryz.prog 3), (5, tk Go.Proofs.Tryz.prog 3)])]⟩) I 222 [V.one (Cell.str s0)] Q = vc222 I s0 Q := by kernel_rfl
/-- strings.IndexByte -/
def vc165 (I : FuncId → List V → Post → T) (s0 : ByteArray) (n1 : Int) (Q : Post) : T :=
 fun h2 =>
 I 212 [.one (.str s0), .one (.int .u8 n1)]
 (fun cs3 h4 =>
 ∃ n5 : Int, (cs3 = [.one (.int .i64 n5)]) ∧
 Q [.one (.int .i64 n5)] h4) h2
theorem den165 (I : FuncId → List V → Post → T) (s0 : ByteArray) (n1 : Int) (Q : Post) : denF Go.Proofs.Tryz.prog 0 (⟨[], []⟩) I 165 [V.one (Cell.str s0), V.one (Cell.int IntKind.u8 n1)] Q = vc165 I s0 n1 Q := by kernel_rfl
/-- handbill/event.Order -/
def vc122 (I : FuncId → List V → Post → T) (s0 : ByteArray) (s1 : ByteArray) (n2 : Int) (n3 : Int) (s4 : ByteArray) (l5 : Sl) (s6 : ByteArray) (s7 : ByteArray) (n8 : Int) (n9 : Int) (s10 : ByteArray) (l11 : Sl) (Q : Post) : T :=
 fun h12 =>
 I 69 [.one (.int .i64 n2), .one (.int .i64 n8)]
 (fun cs13 h14 =>
 ∃ n15 : Int, (cs13 = [.one (.int .i64 n15)]) ∧
 I 70 [.one (.str s0), .one (.str s6)]
 (fun cs16 h17 =>
 ∃ n18 : Int, (cs16 = [.one (.int .i64 n18)]) ∧
 (newK (.cells false [.int .i64 n15, .int .i64 n18]) (fun i19 h20 =>
 I 68 [.one (.slice 1 { a := some (i19, 0), len := 2 })]
 (fun cs21 h22 =>
 ∃ n23 : Int, (cs21 = [.one (.int .i64 n23)]) ∧
 Q [.one (.int .i64 n23)] h22) h20)) h17) h14) h12
theorem den122 (I : FuncId → List V → Post → T) (s0 : ByteArray) (s1 : ByteArray) (n2 : Int) (n3 : Int) (s4 : ByteArray) (l5 : Sl) (s6 : ByteArray) (s7 : ByteArray) (n8 : Int) (n9 : Int) (s10 : ByteArray) (l11 : Sl) (Q : Post) : denF Go.Proofs.Tryz.prog 12 (⟨[], []⟩) I 122 [V.agg [Cell.str s0, Cell.str s1, Cell.int IntKind.i64 n2, Cell.int IntKind.i64 n3, Cell.str s4, Cell.slice 4 l5], V.agg [Cell.str s6, Cell.str s7, Cell.int IntKind.i64 n8, Cell.int IntKind.i64 n9, Cell.str s10, Cell.slice 4 l11]] Q = vc122 I s0 s1 n2 n3 s4 l5 s6 s7 n8 n9 s10 l11 Q := by kernel_rfl
/-- cmp.Or[int] -/
def vc68 (I : FuncId → List V → Post → T) (l0 : Sl) (Q : Post) : T :=
 loopK (A := Int) 0
 (fun x1 n2 => ifT (decide (n2 < (↑l0.len : Int)))
 (fun h3 =>
 ((0 ≤ n2) ∧
 n2 < (↑l0.len : Int)) ∧
 (derefK l0.a (fun i4 => fun i5 h6 =>
 ∃ n7 : Int, (h6.read i4 (i5 + n2.toNat * 1) 1 = some [.int .i64 n7]) ∧
 (ifT (!decide (n7 = 0))
 (Q [.one (.int .i64 n7)])
 (x1 (IntKind.i64.wrap (n2 + 1)))) h6)) h3)
 (Q [.one (.int .i64 0)]))
theorem den68 (I : FuncId → List V → Post → T) (l0 : Sl) (Q : Post) : denF Go.Proofs.Tryz.prog 0 (⟨[], [(58, 130852, [(8, tk Go.Proofs.Tryz.prog 3)])]⟩) I 68 [V.one (Cell.slice 1 l0)] Q = vc68 I l0 Q := by kernel_rfl
/-- cmp.Compare[int] -/
def vc69 (I : FuncId → List V → Post → T) (n0 : Int) (n1 : Int) (Q : Post) : T :=
 fun h2 =>
 I 106 [.one (.int .i64 n0)]
 (fun cs3 h4 =>
 ∃ b5 : Bool, (cs3 = [.one (.bool b5)]) ∧
 I 106 [.one (.int .i64 n1)]
 (fun cs6 h7 =>
 ∃ b8 : Bool, (cs6 = [.one (.bool b8)]) ∧
 (ifT b5
 (ifT b8
 (Q [.one (.int .i64 0)])
 (Q [.one (.int .i64 (-1))]))
 (ifT b8
 (Q [.one (.int .i64 1)])
 (ifT (decide (n0 < n1))
 (Q [.one (.int .i64 (-1))])
 (ifT (decide (n0 > n1))
 (Q [.one (.int .i64 1)])
 (Q [.one (.int .i64 0)]))))) h7) h4) h2
theorem den69 (I : FuncId → List V → Post → T) (n0 : Int) (n1 : Int) (Q : Post) : denF Go.Proofs.Tryz.prog 0 (⟨[], []⟩) I 69 [V.one (Cell.int IntKind.i64 n0), V.one (Cell.int IntKind.i64 n1)] Q = vc69 I n0 n1 Q := by kernel_rfl
/-- cmp.isNaN[int] -/
def vc106 (I : FuncId → List V → Post → T) (n0 : Int) (Q : Post) : T :=
 Q [.one (.bool (!decide (n0 = n0)))]
theorem den106 (I : FuncId → List V → Post → T) (n0 : Int) (Q : Post) : denF Go.Proofs.Tryz.prog 0 (⟨[], []⟩) I 106 [V.one (Cell.int IntKind.i64 n0)] Q = vc106 I n0 Q := by kernel_rfl
/-- cmp.Compare[string] -/
def vc70 (I : FuncId → List V → Post → T) (s0 : ByteArray) (s1 : ByteArray) (Q : Post) : T :=
 fun h2 =>
 I 107 [.one (.str s0)]
 (fun cs3 h4 =>
 ∃ b5 : Bool, (cs3 = [.one (.bool b5)]) ∧
 I 107 [.one (.str s1)]
 (fun cs6 h7 =>
 ∃ b8 : Bool, (cs6 = [.one (.bool b8)]) ∧
 (ifT b5
 (ifT b8
 (Q [.one (.int .i64 0)])
 (Q [.one (.int .i64 (-1))]))
 (ifT b8
 (Q [.one (.int .i64 1)])
 (ifT (Op.bytesLess s0.toList s1.toList)
 (Q [.one (.int .i64 (-1))])
 (ifT (!(Op.bytesLess s0.toList s1.toList || decide (s0 = s1)))
 (Q [.one (.int .i64 1)])
 (Q [.one (.int .i64 0)]))))) h7) h4) h2
theorem den70 (I : FuncId → List V → Post → T) (s0 : ByteArray) (s1 : ByteArray) (Q : Post) : denF Go.Proofs.Tryz.prog 0 (⟨[], []⟩) I 70 [V.one (Cell.str s0), V.one (Cell.str s1)] Q = vc70 I s0 s1 Q := by kernel_rfl
/-- cmp.isNaN[string] -/
def vc107 (I : FuncId → List V → Post → T) (s0 : ByteArray) (Q : Post) : T :=
 Q [.one (.bool (!decide (s0 = s0)))]
theorem den107 (I : FuncId → List V → Post → T) (s0 : ByteArray) (Q : Post) : denF Go.Proofs.Tryz.prog 0 (⟨[], []⟩) I 107 [V.one (Cell.str s0)] Q = vc107 I s0 Q := by kernel_rfl
/-- handbill/segment.build -/
def vc33 (I : FuncId → List V → Post → T) (n0 : Int) (s1 : ByteArray) (s2 : ByteArray) (s3 : ByteArray) (l4 : Sl) (l5 : Sl) (n6 : Int) (n7 : Int) (l8 : Sl) (l9 : Sl) (l10 : Sl) (Q : Post) : T :=
 fun h11 =>
 (newK (.cells false [.int .i64 n0, .str s1, .str s2, .str s3, .slice 3 l4, .slice 5 l5, .int .i64 n6, .int .i64 n7, .slice 9 l8, .slice 1 { a := none, len := 0 }, .bool false, .slice 1 { a := none, len := 0 }, .slice 1 { a := none, len := 0 }, .int .i64 0]) (fun i12 => loopK (A := Int) 0
 (fun x13 n14 => ifT (decide (n14 < (↑l8.len : Int)))
 (fun h15 =>
 ((0 ≤ n14) ∧
 n14 < (↑l8.len : Int)) ∧
 (derefK l8.a (fun i16 => fun i17 h18 =>
 ∃ n19 : Int, ∃ s20 : ByteArray, ∃ s21 : ByteArray, ∃ s22 : ByteArray, ∃ l23 : Sl, ∃ l24 : Sl, ∃ n25 : Int, ∃ n26 : Int, ∃ l27 : Sl, (h18.read i16 (i17 + n14.toNat * 9) 9 = some [.int .i64 n19, .str s20, .str s21, .str s22, .slice 3 l23, .slice 5 l24, .int .i64 n25, .int .i64 n26, .slice 9 l27]) ∧
 ∃ l28 : Sl, (h18.read i12 9 1 = some [.slice 1 l28]) ∧
 I 33 [.agg [.int .i64 n19, .str s20, .str s21, .str s22, .slice 3 l23, .slice 5 l24, .int .i64 n25, .int .i64 n26, .slice 9 l27], .one (.slice 4 l9), .one (.slice 6 l10)]
 (fun cs29 h30 =>
 (h30 i12 = h18 i12) ∧
 ∃ p31 : Option (Nat × Nat), (cs29 = [.one (.ptr p31)]) ∧
 (appendTo [] 1 8 l28 1 [.ptr p31] (fun l32 h33 =>
 (storeK [] i12 9 [.slice 1 l32] (x13 (IntKind.i64.wrap (n14 + 1)))) h33)) h30) h18)) h15)
 (fun h34 =>
 I 60 [.agg [.int .i64 n0, .str s1, .str s2, .str s3, .slice 3 l4, .slice 5 l5, .int .i64 n6, .int .i64 n7, .slice 9 l8]]
 (fun cs35 h36 =>
 ∃ b37 : Bool, (cs35 = [.one (.bool b37)]) ∧
 (ifT b37
 (fun h38 =>
 I 61 [.agg [.int .i64 n0, .str s1, .str s2, .str s3, .slice 3 l4, .slice 5 l5, .int .i64 n6, .int .i64 n7, .slice 9 l8], .one (.slice 4 l9)]
 (fun cs39 h40 =>
 ∃ b41 : Bool, (cs39 = [.one (.bool b41)]) ∧
 (storeK [] i12 10 [.bool b41] (Q [.one (.ptr (some (i12, 0)))])) h40) h38)
 (ifT (decide (n0 = 14))
 (fun h42 =>
 I 62 [.agg [.int .i64 n0, .str s1, .str s2, .str s3, .slice 3 l4, .slice 5 l5, .int .i64 n6, .int .i64 n7, .slice 9 l8], .one (.slice 6 l10)]
 (fun cs43 h44 =>
 ∃ n45 : Int, (cs43 = [.one (.int .i64 n45)]) ∧
 (storeK [] i12 13 [.int .i64 n45] (Q [.one (.ptr (some (i12, 0)))])) h44) h42)
 (fun h46 =>
 I 63 [.agg [.int .i64 n0, .str s1, .str s2, .str s3, .slice 3 l4, .slice 5 l5, .int .i64 n6, .int .i64 n7, .slice 9 l8]]
 (fun cs47 h48 =>
 ∃ b49 : Bool, (cs47 = [.one (.bool b49)]) ∧
 (ifT b49
 (fun h50 =>
 (newK (.cells false [.int .i64 0]) (fun i51 => storeK [] i12 12 [.slice 1 { a := some (i51, 0), len := 1 }] (loopK (A := Int) 0
 (fun x52 n53 => ifT (decide (n53 < (↑l10.len : Int)))
 (fun h54 =>
 ((0 ≤ n53) ∧
 n53 < (↑l10.len : Int)) ∧
 (derefK l10.a (fun i55 => fun i56 h57 =>
 ∃ s58 : ByteArray, ∃ s59 : ByteArray, ∃ n60 : Int, ∃ n61 : Int, ∃ s62 : ByteArray, ∃ l63 : Sl, (h57.read i55 (i56 + n53.toNat * 6) 6 = some [.str s58, .str s59, .int .i64 n60, .int .i64 n61, .str s62, .slice 4 l63]) ∧
 (joinK (A := Bool)
 (fun b64 => ifT b64
 (x52 (IntKind.i64.wrap (n53 + 1)))
 (fun h65 =>
 ∃ l66 : Sl, (h65.read i12 12 1 = some [.slice 1 l66]) ∧
 ∃ l67 : Sl, (h65.read i12 12 1 = some [.slice 1 l67]) ∧
 ((0 ≤ IntKind.i64.wrap ((↑l67.len : Int) - 1)) ∧
 IntKind.i64.wrap ((↑l67.len : Int) - 1) < (↑l66.len : Int)) ∧
 (derefK l66.a (fun i68 => fun i69 h70 =>
 ∃ n71 : Int, (h70.read i68 (i69 + (IntKind.i64.wrap ((↑l67.len : Int) - 1)).toNat * 1) 1 = some [.int .i64 n71]) ∧
 I 65 [.one (.slice 4 l63), .one (.str s2)]
 (fun cs72 h73 =>
 ∃ n74 : Int, ∃ s75 : ByteArray, ∃ n76 : Int, ∃ b77 : Bool, (cs72 = [.agg [.int .i64 n74, .str s75, .int .i64 n76], .one (.bool b77)]) ∧
 (joinK (A := Bool)
 (fun b78 => joinK (A := Int)
 (fun n79 h80 =>
 ∃ l81 : Sl, (h80.read i12 11 1 = some [.slice 1 l81]) ∧
 ∃ l82 : Sl, (h80.read i12 12 1 = some [.slice 1 l82]) ∧
 (appendTo [i12] 1 8 l81 1 [.int .i64 n60] (fun l83 h84 =>
 (appendTo [] 1 8 l82 1 [.int .i64 n79] (fun l85 h86 =>
 (storeK [] i12 11 [.slice 1 l83] (fun h87 =>
 (storeK [] i12 12 [.slice 1 l85] (x52 (IntKind.i64.wrap (n53 + 1)))) h87)) h86)) h84)) h80)
 (fun x88 => ifT b78
 (x88 (IntKind.i64.wrap (n71 + n76)))
 (x88 n71)))
 (fun x89 => ifT b77
 (x89 (!decide (n74 = 1)))
 (x89 false))) h73) h70)) h65))
 (fun x90 => ifT (!decide (s59 = s1))
 (x90 true)
 (fun h91 =>
 I 64 [.agg [.str s58, .str s59, .int .i64 n60, .int .i64 n61, .str s62, .slice 4 l63], .one (.slice 5 l5)]
 (fun cs92 h93 =>
 ∃ b94 : Bool, (cs92 = [.one (.bool b94)]) ∧
 x90 (!b94) h93) h91))) h57)) h54)
 (Q [.one (.ptr (some (i12, 0)))]))))) h50)
 (Q [.one (.ptr (some (i12, 0)))])) h48) h46))) h36) h34)))) h11
theorem den33 (I : FuncId → List V → Post → T) (n0 : Int) (s1 : ByteArray) (s2 : ByteArray) (s3 : ByteArray) (l4 : Sl) (l5 : Sl) (n6 : Int) (n7 : Int) (l8 : Sl) (l9 : Sl) (l10 : Sl) (Q : Post) : denF Go.Proofs.Tryz.prog 10760 (⟨[(7992932, 9669045373675598575042560, [(82, tk Go.Proofs.Tryz.prog 4)]), (63943482, 638895902515027618354338415509504, [(108, tk Go.Proofs.Tryz.prog 4)]), (63943483, 9735556609752801803494680617291776, [(12, tk Go.Proofs.Tryz.prog 3)])], [(58, 549753717248, [(21, tk Go.Proofs.Tryz.prog 3)]), (31222, 43556142965880123323164375798676654684160, [(67, tk Go.Proofs.Tryz.prog 3)])]⟩) I 33 [V.agg [Cell.int IntKind.i64 n0, Cell.str s1, Cell.str s2, Cell.str s3, Cell.slice 3 l4, Cell.slice 5 l5, Cell.int IntKind.i64 n6, Cell.int IntKind.i64 n7, Cell.slice 9 l8], V.one (Cell.slice 4 l9), V.one (Cell.slice 6 l10)] Q = vc33 I n0 s1 s2 s3 l4 l5 n6 n7 l8 l9 l10 Q := by kernel_rfl
/-- handbill/segment.ofRecord -/
def vc60 (I : FuncId → List V → Post → T) (n0 : Int) (s1 : ByteArray) (s2 : ByteArray) (s3 : ByteArray) (l4 : Sl) (l5 : Sl) (n6 : Int) (n7 : Int) (l8 : Sl) (Q : Post) : T :=
 fun h9 =>
 I 59 [.one (.int .i64 n0), .one (.int .i64 6), .one (.int .i64 10)]
 (fun cs10 h11 =>
 ∃ b12 : Bool, (cs10 = [.one (.bool b12)]) ∧
 Q [.one (.bool b12)] h11) h9
theorem den60 (I : FuncId → List V → Post → T) (n0 : Int) (s1 : ByteArray) (s2 : ByteArray) (s3 : ByteArray) (l4 : Sl) (l5 : Sl) (n6 : Int) (n7 : Int) (l8 : Sl) (Q : Post) : denF Go.Proofs.Tryz.prog 2 (⟨[], []⟩) I 60 [V.agg [Cell.int IntKind.i64 n0, Cell.str s1, Cell.str s2, Cell.str s3, Cell.slice 3 l4, Cell.slice 5 l5, Cell.int IntKind.i64 n6, Cell.int IntKind.i64 n7, Cell.slice 9 l8]] Q = vc60 I n0 s1 s2 s3 l4 l5 n6 n7 l8 Q := by kernel_rfl
/-- handbill/segment.ofField -/
def vc61 (I : FuncId → List V → Post → T) (n0 : Int) (s1 : ByteArray) (s2 : ByteArray) (s3 : ByteArray) (l4 : Sl) (l5 : Sl) (n6 : Int) (n7 : Int) (l8 : Sl) (l9 : Sl) (Q : Post) : T :=
 fun h10 =>
 I 65 [.one (.slice 4 l9), .one (.str s1)]
 (fun cs11 h12 =>
 ∃ n13 : Int, ∃ s14 : ByteArray, ∃ n15 : Int, ∃ b16 : Bool, (cs11 = [.agg [.int .i64 n13, .str s14, .int .i64 n15], .one (.bool b16)]) ∧
 (newK (.cells false [.int .i64 0, .str ByteArray.empty, .int .i64 0]) (fun i17 h18 =>
 (storeK [] i17 0 [.int .i64 n13, .str s14, .int .i64 n15] (ifT (!b16)
 (Q [.one (.bool false)])
 (ifT (decide (n0 = 6))
 (Q [.one (.bool true)])
 (ifT (decide (n0 = 7))
 (fun h19 =>
 ∃ n20 : Int, ∃ s21 : ByteArray, ∃ n22 : Int, (h19.read i17 0 3 = some [.int .i64 n20, .str s21, .int .i64 n22]) ∧
 (((0 : Int) ≤ (0 : Int)) ∧
 0 < (↑l4.len : Int)) ∧
 (derefK l4.a (fun i23 => fun i24 h25 =>
 ∃ n26 : Int, ∃ s27 : ByteArray, ∃ n28 : Int, (h25.read i23 (i24 + 0) 3 = some [.int .i64 n26, .str s27, .int .i64 n28]) ∧
 I 99 [.agg [.int .i64 n20, .str s21, .int .i64 n22], .one (.str s3), .agg [.int .i64 n26, .str s27, .int .i64 n28]]
 (fun cs29 h30 =>
 ∃ b31 : Bool, (cs29 = [.one (.bool b31)]) ∧
 Q [.one (.bool b31)] h30) h25)) h19)
 (ifT (decide (n0 = 8))
 (fun h32 =>
 I 100 [.one (.slice 3 l4), .one (.func (some (101, [(i17, 0)])))]
 (fun cs33 h34 =>
 ∃ b35 : Bool, (cs33 = [.one (.bool b35)]) ∧
 Q [.one (.bool b35)] h34) h32)
 (ifT (decide (n0 = 9))
 (joinK (A := Bool)
 (fun b36 h37 =>
 Q [.one (.bool b36)] h37)
 (fun x38 h39 =>
 ∃ n40 : Int, (h39.read i17 0 1 = some [.int .i64 n40]) ∧
 (ifT (decide (n40 = 1))
 (fun h41 =>
 ∃ s42 : ByteArray, (h41.read i17 1 1 = some [.str s42]) ∧
 (((0 : Int) ≤ (0 : Int)) ∧
 0 < (↑l4.len : Int)) ∧
 (derefK l4.a (fun i43 => fun i44 h45 =>
 ∃ s46 : ByteArray, (h45.read i43 (i44 + 0 + 1) 1 = some [.str s46]) ∧
 I 102 [.one (.str s42), .one (.str s46)]
 (fun cs47 h48 =>
 ∃ b49 : Bool, (cs47 = [.one (.bool b49)]) ∧
 x38 b49 h48) h45)) h41)
 (x38 false)) h39))
 (fun h50 =>
 ∃ n51 : Int, (h50.read i17 0 1 = some [.int .i64 n51]) ∧
 (ifT (decide (n51 = 1))
 (fun h52 =>
 ∃ s53 : ByteArray, (h52.read i17 1 1 = some [.str s53]) ∧
 (((0 : Int) ≤ (0 : Int)) ∧
 0 < (↑l4.len : Int)) ∧
 (derefK l4.a (fun i54 => fun i55 h56 =>
 ∃ s57 : ByteArray, (h56.read i54 (i55 + 0 + 1) 1 = some [.str s57]) ∧
 I 103 [.one (.str s53), .one (.str s57)]
 (fun cs58 h59 =>
 ∃ b60 : Bool, (cs58 = [.one (.bool b60)]) ∧
 Q [.one (.bool b60)] h59) h56)) h52)
 (Q [.one (.bool false)])) h50))))))) h18)) h12) h10
theorem den61 (I : FuncId → List V → Post → T) (n0 : Int) (s1 : ByteArray) (s2 : ByteArray) (s3 : ByteArray) (l4 : Sl) (l5 : Sl) (n6 : Int) (n7 : Int) (l8 : Sl) (l9 : Sl) (Q : Post) : denF Go.Proofs.Tryz.prog 4 (⟨[(62972, 2251524935778320, [(4, tk Go.Proofs.Tryz.prog 4)])], []⟩) I 61 [V.agg [Cell.int IntKind.i64 n0, Cell.str s1, Cell.str s2, Cell.str s3, Cell.slice 3 l4, Cell.slice 5 l5, Cell.int IntKind.i64 n6, Cell.int IntKind.i64 n7, Cell.slice 9 l8], V.one (Cell.slice 4 l9)] Q = vc61 I n0 s1 s2 s3 l4 l5 n6 n7 l8 l9 Q := by kernel_rfl
/-- handbill/person.Find -/
def vc65 (I : FuncId → List V → Post → T) (l0 : Sl) (s1 : ByteArray) (Q : Post) : T :=
 fun h2 =>
 I 104 [.one (.slice 4 l0), .one (.str s1), .one (.func (some (105, [])))]
 (fun cs3 h4 =>
 ∃ n5 : Int, ∃ b6 : Bool, (cs3 = [.one (.int .i64 n5), .one (.bool b6)]) ∧
 (ifT (!b6)
 (fun h7 =>
 Q [.agg [.int .i64 0, .str ByteArray.empty, .int .i64 0], .one (.bool false)] h7)
 (fun h8 =>
 ((0 ≤ n5) ∧
 n5 < (↑l0.len : Int)) ∧
 (derefK l0.a (fun i9 => fun i10 h11 =>
 ∃ n12 : Int, ∃ s13 : ByteArray, ∃ n14 : Int, (h11.read i9 (i10 + n5.toNat * 4 + 1) 3 = some [.int .i64 n12, .str s13, .int .i64 n14]) ∧
 Q [.agg [.int .i64 n12, .str s13, .int .i64 n14], .one (.bool true)] h11)) h8)) h4) h2
theorem den65 (I : FuncId → List V → Post → T) (l0 : Sl) (s1 : ByteArray) (Q : Post) : denF Go.Proofs.Tryz.prog 16 (⟨[], []⟩) I 65 [V.one (Cell.slice 4 l0), V.one (Cell.str s1)] Q = vc65 I l0 s1 Q := by kernel_rfl
/-- slices.BinarySearchFunc[[]handbill/api.Field,handbill/api.Field,string] -/
def vc104 (I : FuncId → List V → Post → T) (l0 : Sl) (s1 : ByteArray) (p2 : Option (Nat × List (Nat × Nat))) (Q : Post) : T :=
 loopK (A := Int × Int) ((0, (↑l0.len : Int)))
 (fun x3 => uncur fun n4 n5 => ifT (decide (n4 < n5))
 (fun h6 =>
 ((0 ≤ IntKind.i64.wrap (shr IntKind.u64 (IntKind.u64.wrap (IntKind.i64.wrap (n4 + n5))) 1)) ∧
 IntKind.i64.wrap (shr IntKind.u64 (IntKind.u64.wrap (IntKind.i64.wrap (n4 + n5))) 1) < (↑l0.len : Int)) ∧
 (derefK l0.a (fun i7 => fun i8 h9 =>
 ∃ s10 : ByteArray, ∃ n11 : Int, ∃ s12 : ByteArray, ∃ n13 : Int, (h9.read i7 (i8 + (IntKind.i64.wrap (shr IntKind.u64 (IntKind.u64.wrap (IntKind.i64.wrap (n4 + n5))) 1)).toNat * 4) 4 = some [.str s10, .int .i64 n11, .str s12, .int .i64 n13]) ∧
 (funK p2 (fun i14 => fun cs15 h16 =>
 I i14 (.agg [.str s10, .int .i64 n11, .str s12, .int .i64 n13] :: .one (.str s1) :: cs15)
 (fun cs17 h18 =>
 ∃ n19 : Int, (cs17 = [.one (.int .i64 n19)]) ∧
 (ifT (decide (n19 < 0))
 (x3 ((IntKind.i64.wrap (IntKind.i64.wrap (shr IntKind.u64 (IntKind.u64.wrap (IntKind.i64.wrap (n4 + n5))) 1) + 1), n5)))
 (x3 ((n4, IntKind.i64.wrap (shr IntKind.u64 (IntKind.u64.wrap (IntKind.i64.wrap (n4 + n5))) 1))))) h18) h16)) h9)) h6)
 (ifT (decide (n4 < (↑l0.len : Int)))
 (fun h20 =>
 ((0 ≤ n4) ∧
 n4 < (↑l0.len : Int)) ∧
 (derefK l0.a (fun i21 => fun i22 h23 =>
 ∃ s24 : ByteArray, ∃ n25 : Int, ∃ s26 : ByteArray, ∃ n27 : Int, (h23.read i21 (i22 + n4.toNat * 4) 4 = some [.str s24, .int .i64 n25, .str s26, .int .i64 n27]) ∧
 (funK p2 (fun i28 => fun cs29 h30 =>
 I i28 (.agg [.str s24, .int .i64 n25, .str s26, .int .i64 n27] :: .one (.str s1) :: cs29)
 (fun cs31 h32 =>
 ∃ n33 : Int, (cs31 = [.one (.int .i64 n33)]) ∧
 Q [.one (.int .i64 n4), .one (.bool (decide (n33 = 0)))] h32) h30)) h23)) h20)
 (Q [.one (.int .i64 n4), .one (.bool false)])))
theorem den104 (I : FuncId → List V → Post → T) (l0 : Sl) (s1 : ByteArray) (p2 : Option (Nat × List (Nat × Nat))) (Q : Post) : denF Go.Proofs.Tryz.prog 0 (⟨[], [(60, 34359709184, [(9, tk Go.Proofs.Tryz.prog 3), (10, tk Go.Proofs.Tryz.prog 3)])]⟩) I 104 [V.one (Cell.slice 4 l0), V.one (Cell.str s1), V.one (Cell.func p2)] Q = vc104 I l0 s1 p2 Q := by kernel_rfl
/-- handbill/person.Find$1 -/
def vc105 (I : FuncId → List V → Post → T) (s0 : ByteArray) (n1 : Int) (s2 : ByteArray) (n3 : Int) (s4 : ByteArray) (Q : Post) : T :=
 fun h5 =>
 I 70 [.one (.str s0), .one (.str s4)]
 (fun cs6 h7 =>
 ∃ n8 : Int, (cs6 = [.one (.int .i64 n8)]) ∧
 Q [.one (.int .i64 n8)] h7) h5
theorem den105 (I : FuncId → List V → Post → T) (s0 : ByteArray) (n1 : Int) (s2 : ByteArray) (n3 : Int) (s4 : ByteArray) (Q : Post) : denF Go.Proofs.Tryz.prog 4 (⟨[], []⟩) I 105 [V.agg [Cell.str s0, Cell.int IntKind.i64 n1, Cell.str s2, Cell.int IntKind.i64 n3], V.one (Cell.str s4)] Q = vc105 I s0 n1 s2 n3 s4 Q := by kernel_rfl
/-- handbill/segment.compares -/
def vc99 (I : FuncId → List V → Post → T) (n0 : Int) (s1 : ByteArray) (n2 : Int) (s3 : ByteArray) (n4 : Int) (s5 : ByteArray) (n6 : Int) (Q : Post) : T :=
 ifT (decide (n0 = n4))
 (fun h7 =>
 I 70 [.one (.str s1), .one (.str s5)]
 (fun cs8 h9 =>
 ∃ n10 : Int, (cs8 = [.one (.int .i64 n10)]) ∧
 I 69 [.one (.int .i64 n2), .one (.int .i64 n6)]
 (fun cs11 h12 =>
 ∃ n13 : Int, (cs11 = [.one (.int .i64 n13)]) ∧
 (newK (.cells false [.int .i64 n10, .int .i64 n13]) (fun i14 h15 =>
 I 68 [.one (.slice 1 { a := some (i14, 0), len := 2 })]
 (fun cs16 h17 =>
 ∃ n18 : Int, (cs16 = [.one (.int .i64 n18)]) ∧
 I 111 [.one (.str s3), .one (.int .i64 n18)]
 (fun cs19 h20 =>
 ∃ b21 : Bool, (cs19 = [.one (.bool b21)]) ∧
 Q [.one (.bool b21)] h20) h17) h15)) h12) h9) h7)
 (Q [.one (.bool false)])
theorem den99 (I : FuncId → List V → Post → T) (n0 : Int) (s1 : ByteArray) (n2 : Int) (s3 : ByteArray) (n4 : Int) (s5 : ByteArray) (n6 : Int) (Q : Post) : denF Go.Proofs.Tryz.prog 40 (⟨[], []⟩) I 99 [V.agg [Cell.int IntKind.i64 n0, Cell.str s1, Cell.int IntKind.i64 n2], V.one (Cell.str s3), V.agg [Cell.int IntKind.i64 n4, Cell.str s5, Cell.int IntKind.i64 n6]] Q = vc99 I n0 s1 n2 s3 n4 s5 n6 Q := by kernel_rfl
/-- handbill/segment.holds -/
def vc111 (I : FuncId → List V → Post → T) (s0 : ByteArray) (n1 : Int) (Q : Post) : T :=
 ifT (decide (s0 = { data := #[61] }))
 (Q [.one (.bool (decide (n1 = 0)))])
 (ifT (decide (s0 = { data := #[33, 61] }))
 (Q [.one (.bool (!decide (n1 = 0)))])
 (ifT (decide (s0 = { data := #[60] }))
 (Q [.one (.bool (decide (n1 < 0)))])
 (ifT (decide (s0 = { data := #[60, 61] }))
 (Q [.one (.bool (decide (n1 ≤ 0)))])
 (ifT (decide (s0 = { data := #[62] }))
 (Q [.one (.bool (decide (n1 > 0)))])
 (Q [.one (.bool (decide (n1 ≥ 0)))])))))
theorem den111 (I : FuncId → List V → Post → T) (s0 : ByteArray) (n1 : Int) (Q : Post) : denF Go.Proofs.Tryz.prog 0 (⟨[], []⟩) I 111 [V.one (Cell.str s0), V.one (Cell.int IntKind.i64 n1)] Q = vc111 I s0 n1 Q := by kernel_rfl
/-- slices.ContainsFunc[[]handbill/api.Value,handbill/api.Value] -/
def vc100 (I : FuncId → List V → Post → T) (l0 : Sl) (p1 : Option (Nat × List (Nat × Nat))) (Q : Post) : T :=
 fun h2 =>
 I 154 [.one (.slice 3 l0), .one (.func p1)]
 (fun cs3 h4 =>
 ∃ n5 : Int, (cs3 = [.one (.int .i64 n5)]) ∧
 Q [.one (.bool (decide (n5 ≥ 0)))] h4) h2
theorem den100 (I : FuncId → List V → Post → T) (l0 : Sl) (p1 : Option (Nat × List (Nat × Nat))) (Q : Post) : denF Go.Proofs.Tryz.prog 0 (⟨[], []⟩) I 100 [V.one (Cell.slice 3 l0), V.one (Cell.func p1)] Q = vc100 I l0 p1 Q := by kernel_rfl
/-- slices.IndexFunc[[]handbill/api.Value,handbill/api.Value] -/
def vc154 (I : FuncId → List V → Post → T) (l0 : Sl) (p1 : Option (Nat × List (Nat × Nat))) (Q : Post) : T :=
 loopK (A := Int) 0
 (fun x2 n3 => ifT (decide (n3 < (↑l0.len : Int)))
 (fun h4 =>
 ((0 ≤ n3) ∧
 n3 < (↑l0.len : Int)) ∧
 (derefK l0.a (fun i5 => fun i6 h7 =>
 ∃ n8 : Int, ∃ s9 : ByteArray, ∃ n10 : Int, (h7.read i5 (i6 + n3.toNat * 3) 3 = some [.int .i64 n8, .str s9, .int .i64 n10]) ∧
 (funK p1 (fun i11 => fun cs12 h13 =>
 I i11 (.agg [.int .i64 n8, .str s9, .int .i64 n10] :: cs12)
 (fun cs14 h15 =>
 ∃ b16 : Bool, (cs14 = [.one (.bool b16)]) ∧
 (ifT b16
 (Q [.one (.int .i64 n3)])
 (x2 (IntKind.i64.wrap (n3 + 1)))) h15) h13)) h7)) h4)
 (Q [.one (.int .i64 (-1))]))
theorem den154 (I : FuncId → List V → Post → T) (l0 : Sl) (p1 : Option (Nat × List (Nat × Nat))) (Q : Post) : denF Go.Proofs.Tryz.prog 0 (⟨[], [(26, 524080, [(8, tk Go.Proofs.Tryz.prog 3)])]⟩) I 154 [V.one (Cell.slice 3 l0), V.one (Cell.func p1)] Q = vc154 I l0 p1 Q := by kernel_rfl
/-- handbill/segment.ofField$1 -/
def vc101 (I : FuncId → List V → Post → T) (n0 : Int) (s1 : ByteArray) (n2 : Int) (i3 : Nat) (i4 : Nat) (Q : Post) : T :=
 fun h5 =>
 ∃ n6 : Int, ∃ s7 : ByteArray, ∃ n8 : Int, (h5.read i3 i4 3 = some [.int .i64 n6, .str s7, .int .i64 n8]) ∧
 I 99 [.agg [.int .i64 n6, .str s7, .int .i64 n8], .one (.str { data := #[61] }), .agg [.int .i64 n0, .str s1, .int .i64 n2]]
 (fun cs9 h10 =>
 ∃ b11 : Bool, (cs9 = [.one (.bool b11)]) ∧
 Q [.one (.bool b11)] h10) h5
theorem den101 (I : FuncId → List V → Post → T) (n0 : Int) (s1 : ByteArray) (n2 : Int) (i3 : Nat) (i4 : Nat) (Q : Post) : denF Go.Proofs.Tryz.prog 4 (⟨[], []⟩) I 101 [V.agg [Cell.int IntKind.i64 n0, Cell.str s1, Cell.int IntKind.i64 n2], V.one (Cell.ptr (some (i3, i4)))] Q = vc101 I n0 s1 n2 i3 i4 Q := by kernel_rfl
/-- handbill/segment.firstThen -/
def vc62 (I : FuncId → List V → Post → T) (n0 : Int) (s1 : ByteArray) (s2 : ByteArray) (s3 : ByteArray) (l4 : Sl) (l5 : Sl) (n6 : Int) (n7 : Int) (l8 : Sl) (l9 : Sl) (Q : Post) : T :=
 loopK (A := Int × Int) ((-1, 0))
 (fun x10 => uncur fun n11 n12 => ifT (decide (n12 < (↑l9.len : Int)))
 (fun h13 =>
 ((0 ≤ n12) ∧
 n12 < (↑l9.len : Int)) ∧
 (derefK l9.a (fun i14 => fun i15 h16 =>
 ∃ s17 : ByteArray, ∃ s18 : ByteArray, ∃ n19 : Int, ∃ n20 : Int, ∃ s21 : ByteArray, ∃ l22 : Sl, (h16.read i14 (i15 + n12.toNat * 6) 6 = some [.str s17, .str s18, .int .i64 n19, .int .i64 n20, .str s21, .slice 4 l22]) ∧
 (ifT (decide (s18 = s2))
 (ifT (decide (n11 ≥ 0))
 (ifT (decide (n6 = 0))
 (Q [.one (.int .i64 n19)])
 (ifT (decide (IntKind.i64.wrap (n19 - n11) ≤ n6))
 (Q [.one (.int .i64 n19)])
 (ifT (decide (s18 = s1))
 (x10 ((n19, IntKind.i64.wrap (n12 + 1))))
 (x10 ((n11, IntKind.i64.wrap (n12 + 1)))))))
 (ifT (decide (s18 = s1))
 (x10 ((n19, IntKind.i64.wrap (n12 + 1))))
 (x10 ((n11, IntKind.i64.wrap (n12 + 1))))))
 (ifT (decide (s18 = s1))
 (x10 ((n19, IntKind.i64.wrap (n12 + 1))))
 (x10 ((n11, IntKind.i64.wrap (n12 + 1)))))) h16)) h13)
 (Q [.one (.int .i64 4321440)]))
theorem den62 (I : FuncId → List V → Post → T) (n0 : Int) (s1 : ByteArray) (s2 : ByteArray) (s3 : ByteArray) (l4 : Sl) (l5 : Sl) (n6 : Int) (n7 : Int) (l8 : Sl) (l9 : Sl) (Q : Post) : denF Go.Proofs.Tryz.prog 132 (⟨[], [(58, 140737488354480, [(5, tk Go.Proofs.Tryz.prog 3), (10, tk Go.Proofs.Tryz.prog 3)])]⟩) I 62 [V.agg [Cell.int IntKind.i64 n0, Cell.str s1, Cell.str s2, Cell.str s3, Cell.slice 3 l4, Cell.slice 5 l5, Cell.int IntKind.i64 n6, Cell.int IntKind.i64 n7, Cell.slice 9 l8], V.one (Cell.slice 6 l9)] Q = vc62 I n0 s1 s2 s3 l4 l5 n6 n7 l8 l9 Q := by kernel_rfl
/-- handbill/segment.ofEvents -/
def vc63 (I : FuncId → List V → Post → T) (n0 : Int) (s1 : ByteArray) (s2 : ByteArray) (s3 : ByteArray) (l4 : Sl) (l5 : Sl) (n6 : Int) (n7 : Int) (l8 : Sl) (Q : Post) : T :=
 fun h9 =>
 I 59 [.one (.int .i64 n0), .one (.int .i64 11), .one (.int .i64 14)]
 (fun cs10 h11 =>
 ∃ b12 : Bool, (cs10 = [.one (.bool b12)]) ∧
 Q [.one (.bool b12)] h11) h9
theorem den63 (I : FuncId → List V → Post → T) (n0 : Int) (s1 : ByteArray) (s2 : ByteArray) (s3 : ByteArray) (l4 : Sl) (l5 : Sl) (n6 : Int) (n7 : Int) (l8 : Sl) (Q : Post) : denF Go.Proofs.Tryz.prog 2 (⟨[], []⟩) I 63 [V.agg [Cell.int IntKind.i64 n0, Cell.str s1, Cell.str s2, Cell.str s3, Cell.slice 3 l4, Cell.slice 5 l5, Cell.int IntKind.i64 n6, Cell.int IntKind.i64 n7, Cell.slice 9 l8]] Q = vc63 I n0 s1 s2 s3 l4 l5 n6 n7 l8 Q := by kernel_rfl
/-- handbill/segment.matches -/
def vc64 (I : FuncId → List V → Post → T) (s0 : ByteArray) (s1 : ByteArray) (n2 : Int) (n3 : Int) (s4 : ByteArray) (l5 : Sl) (l6 : Sl) (Q : Post) : T :=
 loopK (A := Int) 0
 (fun x7 n8 => ifT (decide (n8 < (↑l6.len : Int)))
 (fun h9 =>
 ((0 ≤ n8) ∧
 n8 < (↑l6.len : Int)) ∧
 (derefK l6.a (fun i10 => fun i11 h12 =>
 ∃ s13 : ByteArray, ∃ s14 : ByteArray, ∃ n15 : Int, ∃ s16 : ByteArray, ∃ n17 : Int, (h12.read i10 (i11 + n8.toNat * 5) 5 = some [.str s13, .str s14, .int .i64 n15, .str s16, .int .i64 n17]) ∧
 I 65 [.one (.slice 4 l5), .one (.str s13)]
 (fun cs18 h19 =>
 ∃ n20 : Int, ∃ s21 : ByteArray, ∃ n22 : Int, ∃ b23 : Bool, (cs18 = [.agg [.int .i64 n20, .str s21, .int .i64 n22], .one (.bool b23)]) ∧
 (ifT (!b23)
 (Q [.one (.bool false)])
 (fun h24 =>
 I 99 [.agg [.int .i64 n20, .str s21, .int .i64 n22], .one (.str s14), .agg [.int .i64 n15, .str s16, .int .i64 n17]]
 (fun cs25 h26 =>
 ∃ b27 : Bool, (cs25 = [.one (.bool b27)]) ∧
 (ifT (!b27)
 (Q [.one (.bool false)])
 (x7 (IntKind.i64.wrap (n8 + 1)))) h26) h24)) h19) h12)) h9)
 (Q [.one (.bool true)]))
theorem den64 (I : FuncId → List V → Post → T) (s0 : ByteArray) (s1 : ByteArray) (n2 : Int) (n3 : Int) (s4 : ByteArray) (l5 : Sl) (l6 : Sl) (Q : Post) : denF Go.Proofs.Tryz.prog 196 (⟨[], [(26, 34359736784, [(11, tk Go.Proofs.Tryz.prog 3)])]⟩) I 64 [V.agg [Cell.str s0, Cell.str s1, Cell.int IntKind.i64 n2, Cell.int IntKind.i64 n3, Cell.str s4, Cell.slice 4 l5], V.one (Cell.slice 5 l6)] Q = vc64 I s0 s1 n2 n3 s4 l5 l6 Q := by kernel_rfl
/-- (*handbill/segment.node).why -/
def vc34 (I : FuncId → List V → Post → T) (p0 : Option (Nat × Nat)) (n1 : Int) (Q : Post) : T :=
 fun h2 =>
 I 38 [.one (.ptr p0), .one (.int .i64 n1)]
 (fun cs3 h4 =>
 ∃ b5 : Bool, (cs3 = [.one (.bool b5)]) ∧
 (derefK p0 (fun i6 => fun i7 h8 =>
 ∃ n9 : Int, (h8.read i6 (i7 + 0 + 0) 1 = some [.int .i64 n9]) ∧
 (joinK (A := Bool)
 (fun b10 => ifT b10
 (Q [.one (.slice 9 { a := none, len := 0 })])
 (ifT (decide (n9 = 5))
 (derefK p0 (fun i11 => fun i12 h13 =>
 ∃ l14 : Sl, (h13.read i11 (i12 + 9) 1 = some [.slice 1 l14]) ∧
 (((0 : Int) ≤ (0 : Int)) ∧
 0 < (↑l14.len : Int)) ∧
 (derefK l14.a (fun i15 => fun i16 h17 =>
 ∃ p18 : Option (Nat × Nat), (h17.read i15 (i16 + 0) 1 = some [.ptr p18]) ∧
 I 34 [.one (.ptr p18), .one (.int .i64 n1)]
 (fun cs19 h20 =>
 ∃ l21 : Sl, (cs19 = [.one (.slice 9 l21)]) ∧
 Q [.one (.slice 9 l21)] h20) h17)) h13))
 (joinK (A := Bool)
 (fun b22 => ifT b22
 (derefK p0 (fun i23 => fun i24 h25 =>
 ∃ l26 : Sl, (h25.read i23 (i24 + 9) 1 = some [.slice 1 l26]) ∧
 (loopK (A := Sl × Int) (({ a := none, len := 0 }, 0))
 (fun x27 => uncur fun l28 n29 => ifT (decide (n29 < (↑l26.len : Int)))
 (fun h30 =>
 ((0 ≤ n29) ∧
 n29 < (↑l26.len : Int)) ∧
 (derefK l26.a (fun i31 => fun i32 h33 =>
 ∃ p34 : Option (Nat × Nat), (h33.read i31 (i32 + n29.toNat * 1) 1 = some [.ptr p34]) ∧
 (joinK (A := Bool)
 (fun b35 => ifT b35
 (fun h36 =>
 I 34 [.one (.ptr p34), .one (.int .i64 n1)]
 (fun cs37 h38 =>
 ∃ l39 : Sl, (cs37 = [.one (.slice 9 l39)]) ∧
 Q [.one (.slice 9 l39)] h38) h36)
 (fun h40 =>
 I 34 [.one (.ptr p34), .one (.int .i64 n1)]
 (fun cs41 h42 =>
 ∃ l43 : Sl, (cs41 = [.one (.slice 9 l43)]) ∧
 ∃ cs44 : List Cell, (h42.sl 9 l43 = some cs44) ∧
 (appendTo [] 9 144 l28 l43.len cs44 (fun l45 h46 =>
 x27 ((l45, IntKind.i64.wrap (n29 + 1))) h46)) h42) h40))
 (fun x47 => derefK p0 (fun i48 => fun i49 h50 =>
 ∃ n51 : Int, (h50.read i48 (i49 + 0 + 0) 1 = some [.int .i64 n51]) ∧
 (ifT (!decide (b5 = decide (n51 = 3)))
 (fun h52 =>
 I 38 [.one (.ptr p34), .one (.int .i64 n1)]
 (fun cs53 h54 =>
 ∃ b55 : Bool, (cs53 = [.one (.bool b55)]) ∧
 x47 (decide (b55 = b5)) h54) h52)
 (x47 false)) h50))) h33)) h30)
 (Q [.one (.slice 9 l28)]))) h25))
 (ifT b5
 (derefK p0 (fun i56 => fun i57 h58 =>
 ∃ n59 : Int, ∃ s60 : ByteArray, ∃ s61 : ByteArray, ∃ s62 : ByteArray, ∃ l63 : Sl, ∃ l64 : Sl, ∃ n65 : Int, ∃ n66 : Int, ∃ l67 : Sl, (h58.read i56 (i57 + 0) 9 = some [.int .i64 n59, .str s60, .str s61, .str s62, .slice 3 l63, .slice 5 l64, .int .i64 n65, .int .i64 n66, .slice 9 l67]) ∧
 I 66 [.agg [.int .i64 n59, .str s60, .str s61, .str s62, .slice 3 l63, .slice 5 l64, .int .i64 n65, .int .i64 n66, .slice 9 l67]]
 (fun cs68 h69 =>
 ∃ n70 : Int, ∃ s71 : ByteArray, ∃ s72 : ByteArray, ∃ s73 : ByteArray, ∃ l74 : Sl, ∃ l75 : Sl, ∃ n76 : Int, ∃ n77 : Int, ∃ l78 : Sl, (cs68 = [.agg [.int .i64 n70, .str s71, .str s72, .str s73, .slice 3 l74, .slice 5 l75, .int .i64 n76, .int .i64 n77, .slice 9 l78]]) ∧
 (newK (.cells false [.int .i64 n70, .str s71, .str s72, .str s73, .slice 3 l74, .slice 5 l75, .int .i64 n76, .int .i64 n77, .slice 9 l78]) (fun i79 h80 =>
 Q [.one (.slice 9 { a := some (i79, 0), len := 1 })] h80)) h69) h58))
 (derefK p0 (fun i81 => fun i82 h83 =>
 ∃ n84 : Int, ∃ s85 : ByteArray, ∃ s86 : ByteArray, ∃ s87 : ByteArray, ∃ l88 : Sl, ∃ l89 : Sl, ∃ n90 : Int, ∃ n91 : Int, ∃ l92 : Sl, (h83.read i81 (i82 + 0) 9 = some [.int .i64 n84, .str s85, .str s86, .str s87, .slice 3 l88, .slice 5 l89, .int .i64 n90, .int .i64 n91, .slice 9 l92]) ∧
 I 66 [.agg [.int .i64 n84, .str s85, .str s86, .str s87, .slice 3 l88, .slice 5 l89, .int .i64 n90, .int .i64 n91, .slice 9 l92]]
 (fun cs93 h94 =>
 ∃ n95 : Int, ∃ s96 : ByteArray, ∃ s97 : ByteArray, ∃ s98 : ByteArray, ∃ l99 : Sl, ∃ l100 : Sl, ∃ n101 : Int, ∃ n102 : Int, ∃ l103 : Sl, (cs93 = [.agg [.int .i64 n95, .str s96, .str s97, .str s98, .slice 3 l99, .slice 5 l100, .int .i64 n101, .int .i64 n102, .slice 9 l103]]) ∧
 (newK (.cells false [.int .i64 n95, .str s96, .str s97, .str s98, .slice 3 l99, .slice 5 l100, .int .i64 n101, .int .i64 n102, .slice 9 l103]) (fun i104 h105 =>
 (newK (.cells false [.int .i64 5, .str ByteArray.empty, .str ByteArray.empty, .str ByteArray.empty, .slice 3 { a := none, len := 0 }, .slice 5 { a := none, len := 0 }, .int .i64 0, .int .i64 0, .slice 9 { a := some (i104, 0), len := 1 }]) (fun i106 h107 =>
 Q [.one (.slice 9 { a := some (i106, 0), len := 1 })] h107)) h105)) h94) h83))))
 (fun x108 => ifT (decide (n9 = 3))
 (x108 (decide (n9 = 3)))
 (x108 (decide (n9 = 4)))))))
 (fun x109 => ifT (decide (n9 = 1))
 (x109 (decide (n9 = 1)))
 (x109 (decide (n9 = 2))))) h8)) h4) h2
theorem den34 (I : FuncId → List V → Post → T) (p0 : Option (Nat × Nat)) (n1 : Int) (Q : Post) : denF Go.Proofs.Tryz.prog 0 (⟨[(233, 655360, [(17, tk Go.Proofs.Tryz.prog 4)]), (3773, 5368709120, [(30, tk Go.Proofs.Tryz.prog 4)]), (15460964, 144110790029344768, [(56, tk Go.Proofs.Tryz.prog 4)])], [(60394, 73786976019960299856, [(6, tk Go.Proofs.Tryz.prog 28), (38, tk Go.Proofs.Tryz.prog 3)])]⟩) I 34 [V.one (Cell.ptr p0), V.one (Cell.int IntKind.i64 n1)] Q = vc34 I p0 n1 Q := by kernel_rfl
/-- (*handbill/segment.node).at -/
def vc38 (I : FuncId → List V → Post → T) (p0 : Option (Nat × Nat)) (n1 : Int) (Q : Post) : T :=
 fun h2 =>
 (newK (.cells false [.int .i64 n1]) (fun i3 => derefK p0 (fun i4 => fun i5 h6 =>
 ∃ n7 : Int, (h6.read i4 (i5 + 0 + 0) 1 = some [.int .i64 n7]) ∧
 (ifT (decide (n7 = 1))
 (Q [.one (.bool true)])
 (ifT (decide (n7 = 2))
 (Q [.one (.bool false)])
 (ifT (decide (n7 = 3))
 (derefK p0 (fun i8 => fun i9 h10 =>
 ∃ l11 : Sl, (h10.read i8 (i9 + 9) 1 = some [.slice 1 l11]) ∧
 I 77 [.one (.slice 1 l11), .one (.func (some (78, [(i3, 0)])))]
 (fun cs12 h13 =>
 ∃ b14 : Bool, (cs12 = [.one (.bool b14)]) ∧
 Q [.one (.bool !b14)] h13) h10))
 (ifT (decide (n7 = 4))
 (derefK p0 (fun i15 => fun i16 h17 =>
 ∃ l18 : Sl, (h17.read i15 (i16 + 9) 1 = some [.slice 1 l18]) ∧
 I 77 [.one (.slice 1 l18), .one (.func (some (79, [(i3, 0)])))]
 (fun cs19 h20 =>
 ∃ b21 : Bool, (cs19 = [.one (.bool b21)]) ∧
 Q [.one (.bool b21)] h20) h17))
 (ifT (decide (n7 = 5))
 (derefK p0 (fun i22 => fun i23 h24 =>
 ∃ l25 : Sl, (h24.read i22 (i23 + 9) 1 = some [.slice 1 l25]) ∧
 (((0 : Int) ≤ (0 : Int)) ∧
 0 < (↑l25.len : Int)) ∧
 (derefK l25.a (fun i26 => fun i27 h28 =>
 ∃ p29 : Option (Nat × Nat), (h28.read i26 (i27 + 0) 1 = some [.ptr p29]) ∧
 ∃ n30 : Int, (h28.read i3 0 1 = some [.int .i64 n30]) ∧
 I 38 [.one (.ptr p29), .one (.int .i64 n30)]
 (fun cs31 h32 =>
 ∃ b33 : Bool, (cs31 = [.one (.bool b33)]) ∧
 Q [.one (.bool !b33)] h32) h28)) h24))
 (ifT (decide (n7 = 14))
 (fun h34 =>
 ∃ n35 : Int, (h34.read i3 0 1 = some [.int .i64 n35]) ∧
 (derefK p0 (fun i36 => fun i37 h38 =>
 ∃ n39 : Int, (h38.read i36 (i37 + 13) 1 = some [.int .i64 n39]) ∧
 Q [.one (.bool (decide (n35 ≥ n39)))] h38)) h34)
 (joinK (A := Bool)
 (fun b40 => ifT b40
 (fun h41 =>
 ∃ n42 : Int, (h41.read i3 0 1 = some [.int .i64 n42]) ∧
 I 80 [.one (.ptr p0), .one (.int .i64 n42)]
 (fun cs43 h44 =>
 ∃ b45 : Bool, (cs43 = [.one (.bool b45)]) ∧
 Q [.one (.bool b45)] h44) h41)
 (derefK p0 (fun i46 => fun i47 h48 =>
 ∃ b49 : Bool, (h48.read i46 (i47 + 10) 1 = some [.bool b49]) ∧
 Q [.one (.bool b49)] h48)))
 (fun x50 => ifT (decide (n7 = 11))
 (x50 (decide (n7 = 11)))
 (joinK (A := Bool)
 (fun b51 h52 =>
 x50 b51 h52)
 (fun x53 => ifT (decide (n7 = 12))
 (x53 (decide (n7 = 12)))
 (x53 (decide (n7 = 13))))))))))))) h6))) h2
theorem den38 (I : FuncId → List V → Post → T) (p0 : Option (Nat × Nat)) (n1 : Int) (Q : Post) : denF Go.Proofs.Tryz.prog 0 (⟨[(442365, 14636698788954112, [(50, tk Go.Proofs.Tryz.prog 4)]), (1769463, 10133099161583616, [(50, tk Go.Proofs.Tryz.prog 4)])], []⟩) I 38 [V.one (Cell.ptr p0), V.one (Cell.int IntKind.i64 n1)] Q = vc38 I p0 n1 Q := by kernel_rfl
/-- slices.ContainsFunc[[]*handbill/segment.node,*handbill/segment.node] -/
def vc77 (I : FuncId → List V → Post → T) (l0 : Sl) (p1 : Option (Nat × List (Nat × Nat))) (Q : Post) : T :=
 fun h2 =>
 I 109 [.one (.slice 1 l0), .one (.func p1)]
 (fun cs3 h4 =>
 ∃ n5 : Int, (cs3 = [.one (.int .i64 n5)]) ∧
 Q [.one (.bool (decide (n5 ≥ 0)))] h4) h2
theorem den77 (I : FuncId → List V → Post → T) (l0 : Sl) (p1 : Option (Nat × List (Nat × Nat))) (Q : Post) : denF Go.Proofs.Tryz.prog 0 (⟨[], []⟩) I 77 [V.one (Cell.slice 1 l0), V.one (Cell.func p1)] Q = vc77 I l0 p1 Q := by kernel_rfl
/-- slices.IndexFunc[[]*handbill/segment.node,*handbill/segment.node] -/
def vc109 (I : FuncId → List V → Post → T) (l0 : Sl) (p1 : Option (Nat × List (Nat × Nat))) (Q : Post) : T :=
 loopK (A := Int) 0
 (fun x2 n3 => ifT (decide (n3 < (↑l0.len : Int)))
 (fun h4 =>
 ((0 ≤ n3) ∧
 n3 < (↑l0.len : Int)) ∧
 (derefK l0.a (fun i5 => fun i6 h7 =>
 ∃ p8 : Option (Nat × Nat), (h7.read i5 (i6 + n3.toNat * 1) 1 = some [.ptr p8]) ∧
 (funK p1 (fun i9 => fun cs10 h11 =>
 I i9 (.one (.ptr p8) :: cs10)
 (fun cs12 h13 =>
 ∃ b14 : Bool, (cs12 = [.one (.bool b14)]) ∧
 (ifT b14
 (Q [.one (.int .i64 n3)])
 (x2 (IntKind.i64.wrap (n3 + 1)))) h13) h11)) h7)) h4)
 (Q [.one (.int .i64 (-1))]))
theorem den109 (I : FuncId → List V → Post → T) (l0 : Sl) (p1 : Option (Nat × List (Nat × Nat))) (Q : Post) : denF Go.Proofs.Tryz.prog 0 (⟨[], [(26, 524080, [(8, tk Go.Proofs.Tryz.prog 3)])]⟩) I 109 [V.one (Cell.slice 1 l0), V.one (Cell.func p1)] Q = vc109 I l0 p1 Q := by kernel_rfl
/-- (*handbill/segment.node).at$1 -/
def vc78 (I : FuncId → List V → Post → T) (p0 : Option (Nat × Nat)) (i1 : Nat) (i2 : Nat) (Q : Post) : T :=
 fun h3 =>
 ∃ n4 : Int, (h3.read i1 i2 1 = some [.int .i64 n4]) ∧
 I 38 [.one (.ptr p0), .one (.int .i64 n4)]
 (fun cs5 h6 =>
 ∃ b7 : Bool, (cs5 = [.one (.bool b7)]) ∧
 Q [.one (.bool !b7)] h6) h3
theorem den78 (I : FuncId → List V → Post → T) (p0 : Option (Nat × Nat)) (i1 : Nat) (i2 : Nat) (Q : Post) : denF Go.Proofs.Tryz.prog 0 (⟨[], []⟩) I 78 [V.one (Cell.ptr p0), V.one (Cell.ptr (some (i1, i2)))] Q = vc78 I p0 i1 i2 Q := by kernel_rfl
/-- (*handbill/segment.node).at$2 -/
def vc79 (I : FuncId → List V → Post → T) (p0 : Option (Nat × Nat)) (i1 : Nat) (i2 : Nat) (Q : Post) : T :=
 fun h3 =>
 ∃ n4 : Int, (h3.read i1 i2 1 = some [.int .i64 n4]) ∧
 I 38 [.one (.ptr p0), .one (.int .i64 n4)]
 (fun cs5 h6 =>
 ∃ b7 : Bool, (cs5 = [.one (.bool b7)]) ∧
 Q [.one (.bool b7)] h6) h3
theorem den79 (I : FuncId → List V → Post → T) (p0 : Option (Nat × Nat)) (i1 : Nat) (i2 : Nat) (Q : Post) : denF Go.Proofs.Tryz.prog 0 (⟨[], []⟩) I 79 [V.one (Cell.ptr p0), V.one (Cell.ptr (some (i1, i2)))] Q = vc79 I p0 i1 i2 Q := by kernel_rfl
/-- (*handbill/segment.node).test -/
def vc80 (I : FuncId → List V → Post → T) (p0 : Option (Nat × Nat)) (n1 : Int) (Q : Post) : T :=
 fun h2 =>
 I 110 [.one (.ptr p0), .one (.int .i64 n1)]
 (fun cs3 h4 =>
 ∃ n5 : Int, (cs3 = [.one (.int .i64 n5)]) ∧
 (derefK p0 (fun i6 => fun i7 h8 =>
 ∃ n9 : Int, (h8.read i6 (i7 + 0 + 6) 1 = some [.int .i64 n9]) ∧
 (joinK (A := Int)
 (fun n10 => derefK p0 (fun i11 => fun i12 h13 =>
 ∃ n14 : Int, (h13.read i11 (i12 + 0 + 0) 1 = some [.int .i64 n14]) ∧
 (ifT (decide (n14 = 11))
 (derefK p0 (fun i15 => fun i16 h17 =>
 ∃ s18 : ByteArray, (h17.read i15 (i16 + 0 + 3) 1 = some [.str s18]) ∧
 (derefK p0 (fun i19 => fun i20 h21 =>
 ∃ n22 : Int, (h21.read i19 (i20 + 0 + 7) 1 = some [.int .i64 n22]) ∧
 I 69 [.one (.int .i64 (IntKind.i64.wrap (n5 - n10))), .one (.int .i64 n22)]
 (fun cs23 h24 =>
 (h24 i15 = h21 i15) ∧
 ∃ n25 : Int, (cs23 = [.one (.int .i64 n25)]) ∧
 I 111 [.one (.str s18), .one (.int .i64 n25)]
 (fun cs26 h27 =>
 ∃ b28 : Bool, (cs26 = [.one (.bool b28)]) ∧
 Q [.one (.bool b28)] h27) h24) h21)) h17))
 (ifT (decide (n14 = 12))
 (derefK p0 (fun i29 => fun i30 h31 =>
 ∃ s32 : ByteArray, (h31.read i29 (i30 + 0 + 3) 1 = some [.str s32]) ∧
 (derefK p0 (fun i33 => fun i34 h35 =>
 ∃ l36 : Sl, (h35.read i33 (i34 + 12) 1 = some [.slice 1 l36]) ∧
 ((0 ≤ n5) ∧
 n5 < (↑l36.len : Int)) ∧
 (derefK l36.a (fun i37 => fun i38 h39 =>
 ∃ n40 : Int, (h39.read i37 (i38 + n5.toNat * 1) 1 = some [.int .i64 n40]) ∧
 (derefK p0 (fun i41 => fun i42 h43 =>
 ∃ l44 : Sl, (h43.read i41 (i42 + 12) 1 = some [.slice 1 l44]) ∧
 ((0 ≤ n10) ∧
 n10 < (↑l44.len : Int)) ∧
 (derefK l44.a (fun i45 => fun i46 h47 =>
 ∃ n48 : Int, (h47.read i45 (i46 + n10.toNat * 1) 1 = some [.int .i64 n48]) ∧
 (derefK p0 (fun i49 => fun i50 h51 =>
 ∃ n52 : Int, (h51.read i49 (i50 + 0 + 7) 1 = some [.int .i64 n52]) ∧
 I 69 [.one (.int .i64 (IntKind.i64.wrap (n40 - n48))), .one (.int .i64 n52)]
 (fun cs53 h54 =>
 (h54 i29 = h51 i29) ∧
 ∃ n55 : Int, (cs53 = [.one (.int .i64 n55)]) ∧
 I 111 [.one (.str s32), .one (.int .i64 n55)]
 (fun cs56 h57 =>
 ∃ b58 : Bool, (cs56 = [.one (.bool b58)]) ∧
 Q [.one (.bool b58)] h57) h54) h51)) h47)) h43)) h39)) h35)) h31))
 (ifT (decide (n5 > 0))
 (derefK p0 (fun i59 => fun i60 h61 =>
 ∃ s62 : ByteArray, (h61.read i59 (i60 + 0 + 3) 1 = some [.str s62]) ∧
 (derefK p0 (fun i63 => fun i64 h65 =>
 ∃ l66 : Sl, (h65.read i63 (i64 + 11) 1 = some [.slice 1 l66]) ∧
 ((0 ≤ IntKind.i64.wrap (n5 - 1)) ∧
 IntKind.i64.wrap (n5 - 1) < (↑l66.len : Int)) ∧
 (derefK l66.a (fun i67 => fun i68 h69 =>
 ∃ n70 : Int, (h69.read i67 (i68 + (IntKind.i64.wrap (n5 - 1)).toNat * 1) 1 = some [.int .i64 n70]) ∧
 (derefK p0 (fun i71 => fun i72 h73 =>
 ∃ n74 : Int, (h73.read i71 (i72 + 0 + 7) 1 = some [.int .i64 n74]) ∧
 I 69 [.one (.int .i64 (IntKind.i64.wrap (n1 - n70))), .one (.int .i64 n74)]
 (fun cs75 h76 =>
 (h76 i59 = h73 i59) ∧
 ∃ n77 : Int, (cs75 = [.one (.int .i64 n77)]) ∧
 I 111 [.one (.str s62), .one (.int .i64 n77)]
 (fun cs78 h79 =>
 ∃ b80 : Bool, (cs78 = [.one (.bool b80)]) ∧
 Q [.one (.bool b80)] h79) h76) h73)) h69)) h65)) h61))
 (Q [.one (.bool false)])))) h13))
 (fun x81 => ifT (decide (n9 > 0))
 (derefK p0 (fun i82 => fun i83 h84 =>
 ∃ n85 : Int, (h84.read i82 (i83 + 0 + 6) 1 = some [.int .i64 n85]) ∧
 I 110 [.one (.ptr p0), .one (.int .i64 (IntKind.i64.wrap (n1 - n85)))]
 (fun cs86 h87 =>
 ∃ n88 : Int, (cs86 = [.one (.int .i64 n88)]) ∧
 x81 n88 h87) h84))
 (x81 0))) h8)) h4) h2
theorem den80 (I : FuncId → List V → Post → T) (p0 : Option (Nat × Nat)) (n1 : Int) (Q : Post) : denF Go.Proofs.Tryz.prog 0 (⟨[(29, 33488960, [(6, tk Go.Proofs.Tryz.prog 3)])], []⟩) I 80 [V.one (Cell.ptr p0), V.one (Cell.int IntKind.i64 n1)] Q = vc80 I p0 n1 Q := by kernel_rfl
/-- (*handbill/segment.node).before -/
def vc110 (I : FuncId → List V → Post → T) (p0 : Option (Nat × Nat)) (n1 : Int) (Q : Post) : T :=
 derefK p0 (fun i2 => fun i3 h4 =>
 ∃ l5 : Sl, (h4.read i2 (i3 + 11) 1 = some [.slice 1 l5]) ∧
 I 157 [.one (.slice 1 l5), .one (.int .i64 (IntKind.i64.wrap (n1 + 1)))]
 (fun cs6 h7 =>
 ∃ n8 : Int, (cs6 = [.one (.int .i64 n8)]) ∧
 Q [.one (.int .i64 n8)] h7) h4)
theorem den110 (I : FuncId → List V → Post → T) (p0 : Option (Nat × Nat)) (n1 : Int) (Q : Post) : denF Go.Proofs.Tryz.prog 0 (⟨[], []⟩) I 110 [V.one (Cell.ptr p0), V.one (Cell.int IntKind.i64 n1)] Q = vc110 I p0 n1 Q := by kernel_rfl
/-- sort.SearchInts -/
def vc157 (I : FuncId → List V → Post → T) (l0 : Sl) (n1 : Int) (Q : Post) : T :=
 fun h2 =>
 (newK (.cells false [.slice 1 l0]) (fun i3 h4 =>
 (newK (.cells false [.int .i64 n1]) (fun i5 h6 =>
 ∃ l7 : Sl, (h6.read i3 0 1 = some [.slice 1 l7]) ∧
 I 42 [.one (.int .i64 (↑l7.len : Int)), .one (.func (some (209, [(i3, 0), (i5, 0)])))]
 (fun cs8 h9 =>
 ∃ n10 : Int, (cs8 = [.one (.int .i64 n10)]) ∧
 Q [.one (.int .i64 n10)] h9) h6)) h4)) h2
theorem den157 (I : FuncId → List V → Post → T) (l0 : Sl) (n1 : Int) (Q : Post) : denF Go.Proofs.Tryz.prog 0 (⟨[], []⟩) I 157 [V.one (Cell.slice 1 l0), V.one (Cell.int IntKind.i64 n1)] Q = vc157 I l0 n1 Q := by kernel_rfl
/-- sort.Search -/
def vc42 (I : FuncId → List V → Post → T) (n0 : Int) (p1 : Option (Nat × List (Nat × Nat))) (Q : Post) : T :=
 loopK (A := Int × Int) ((0, n0))
 (fun x2 => uncur fun n3 n4 => ifT (decide (n3 < n4))
 (fun h5 =>
 (funK p1 (fun i6 => fun cs7 h8 =>
 I i6 (.one (.int .i64 (IntKind.i64.wrap (shr IntKind.u64 (IntKind.u64.wrap (IntKind.i64.wrap (n3 + n4))) 1))) :: cs7)
 (fun cs9 h10 =>
 ∃ b11 : Bool, (cs9 = [.one (.bool b11)]) ∧
 (ifT (!b11)
 (x2 ((IntKind.i64.wrap (IntKind.i64.wrap (shr IntKind.u64 (IntKind.u64.wrap (IntKind.i64.wrap (n3 + n4))) 1) + 1), n4)))
 (x2 ((n3, IntKind.i64.wrap (shr IntKind.u64 (IntKind.u64.wrap (IntKind.i64.wrap (n3 + n4))) 1))))) h10) h8)) h5)
 (Q [.one (.int .i64 n3)]))
theorem den42 (I : FuncId → List V → Post → T) (n0 : Int) (p1 : Option (Nat × List (Nat × Nat))) (Q : Post) : denF Go.Proofs.Tryz.prog 0 (⟨[], [(28, 33554144, [(5, tk Go.Proofs.Tryz.prog 3), (6, tk Go.Proofs.Tryz.prog 3)])]⟩) I 42 [V.one (Cell.int IntKind.i64 n0), V.one (Cell.func p1)] Q = vc42 I n0 p1 Q := by kernel_rfl
/-- sort.SearchInts$1 -/
def vc209 (I : FuncId → List V → Post → T) (n0 : Int) (i1 : Nat) (i2 : Nat) (i3 : Nat) (i4 : Nat) (Q : Post) : T :=
 fun h5 =>
 ∃ l6 : Sl, (h5.read i1 i2 1 = some [.slice 1 l6]) ∧
 ((0 ≤ n0) ∧
 n0 < (↑l6.len : Int)) ∧
 (derefK l6.a (fun i7 => fun i8 h9 =>
 ∃ n10 : Int, (h9.read i7 (i8 + n0.toNat * 1) 1 = some [.int .i64 n10]) ∧
 ∃ n11 : Int, (h9.read i3 i4 1 = some [.int .i64 n11]) ∧
 Q [.one (.bool (decide (n10 ≥ n11)))] h9)) h5
theorem den209 (I : FuncId → List V → Post → T) (n0 : Int) (i1 : Nat) (i2 : Nat) (i3 : Nat) (i4 : Nat) (Q : Post) : denF Go.Proofs.Tryz.prog 0 (⟨[], []⟩) I 209 [V.one (Cell.int IntKind.i64 n0), V.one (Cell.ptr (some (i1, i2))), V.one (Cell.ptr (some (i3, i4)))] Q = vc209 I n0 i1 i2 i3 i4 Q := by kernel_rfl
/-- handbill/segment.Copy -/
def vc66 (I : FuncId → List V → Post → T) (n0 : Int) (s1 : ByteArray) (s2 : ByteArray) (s3 : ByteArray) (l4 : Sl) (l5 : Sl) (n6 : Int) (n7 : Int) (l8 : Sl) (Q : Post) : T :=
 fun h9 =>
 I 89 [.one (.slice 3 l4)]
 (fun cs10 h11 =>
 ∃ l12 : Sl, (cs10 = [.one (.slice 3 l12)]) ∧
 I 90 [.one (.slice 5 l5)]
 (fun cs13 h14 =>
 ∃ l15 : Sl, (cs13 = [.one (.slice 5 l15)]) ∧
 I 87 [.one (.slice 9 l8)]
 (fun cs16 h17 =>
 ∃ l18 : Sl, (cs16 = [.one (.slice 9 l18)]) ∧
 (loopK (A := Int) 0
 (fun x19 n20 => ifT (decide (n20 < (↑l18.len : Int)))
 (fun h21 =>
 ((0 ≤ n20) ∧
 n20 < (↑l18.len : Int)) ∧
 (derefK l18.a (fun i22 => fun i23 h24 =>
 ∃ n25 : Int, ∃ s26 : ByteArray, ∃ s27 : ByteArray, ∃ s28 : ByteArray, ∃ l29 : Sl, ∃ l30 : Sl, ∃ n31 : Int, ∃ n32 : Int, ∃ l33 : Sl, (h24.read i22 (i23 + n20.toNat * 9) 9 = some [.int .i64 n25, .str s26, .str s27, .str s28, .slice 3 l29, .slice 5 l30, .int .i64 n31, .int .i64 n32, .slice 9 l33]) ∧
 I 66 [.agg [.int .i64 n25, .str s26, .str s27, .str s28, .slice 3 l29, .slice 5 l30, .int .i64 n31, .int .i64 n32, .slice 9 l33]]
 (fun cs34 h35 =>
 ∃ n36 : Int, ∃ s37 : ByteArray, ∃ s38 : ByteArray, ∃ s39 : ByteArray, ∃ l40 : Sl, ∃ l41 : Sl, ∃ n42 : Int, ∃ n43 : Int, ∃ l44 : Sl, (cs34 = [.agg [.int .i64 n36, .str s37, .str s38, .str s39, .slice 3 l40, .slice 5 l41, .int .i64 n42, .int .i64 n43, .slice 9 l44]]) ∧
 ((0 ≤ n20) ∧
 n20 < (↑l18.len : Int)) ∧
 (derefK l18.a (fun i45 => fun i46 h47 =>
 (storeK [] i45 (i46 + n20.toNat * 9) [.int .i64 n36, .str s37, .str s38, .str s39, .slice 3 l40, .slice 5 l41, .int .i64 n42, .int .i64 n43, .slice 9 l44] (x19 (IntKind.i64.wrap (n20 + 1)))) h47)) h35) h24)) h21)
 (fun h48 =>
 Q [.agg [.int .i64 n0, .str s1, .str s2, .str s3, .slice 3 l12, .slice 5 l15, .int .i64 n6, .int .i64 n7, .slice 9 l18]] h48))) h17) h14) h11) h9
theorem den66 (I : FuncId → List V → Post → T) (n0 : Int) (s1 : ByteArray) (s2 : ByteArray) (s3 : ByteArray) (l4 : Sl) (l5 : Sl) (n6 : Int) (n7 : Int) (l8 : Sl) (Q : Post) : denF Go.Proofs.Tryz.prog 22 (⟨[], [(58, 4293918744, [(20, tk Go.Proofs.Tryz.prog 3)])]⟩) I 66 [V.agg [Cell.int IntKind.i64 n0, Cell.str s1, Cell.str s2, Cell.str s3, Cell.slice 3 l4, Cell.slice 5 l5, Cell.int IntKind.i64 n6, Cell.int IntKind.i64 n7, Cell.slice 9 l8]] Q = vc66 I n0 s1 s2 s3 l4 l5 n6 n7 l8 Q := by kernel_rfl
/-- slices.Clone[[]handbill/api.Cond,handbill/api.Cond] -/
def vc87 (I : FuncId → List V → Post → T) (l0 : Sl) (Q : Post) : T :=
 ifT l0.a.isNone
 (Q [.one (.slice 9 { a := none, len := 0 })])
 (fun h1 =>
 ∃ cs2 : List Cell, (h1.sl 9 l0 = some cs2) ∧
 (l0.len * 144 ≤ 140737488355328) ∧
 (newK (.cells false cs2) (fun i3 h4 =>
 Q [.one (.slice 9 { a := some (i3, 0), len := l0.len })] h4)) h1)
theorem den87 (I : FuncId → List V → Post → T) (l0 : Sl) (Q : Post) : denF Go.Proofs.Tryz.prog 0 (⟨[], []⟩) I 87 [V.one (Cell.slice 9 l0)] Q = vc87 I l0 Q := by kernel_rfl
/-- slices.Clone[[]handbill/api.Value,handbill/api.Value] -/
def vc89 (I : FuncId → List V → Post → T) (l0 : Sl) (Q : Post) : T :=
 ifT l0.a.isNone
 (Q [.one (.slice 3 { a := none, len := 0 })])
 (fun h1 =>
 ∃ cs2 : List Cell, (h1.sl 3 l0 = some cs2) ∧
 (l0.len * 32 ≤ 140737488355328) ∧
 (newK (.cells false cs2) (fun i3 h4 =>
 Q [.one (.slice 3 { a := some (i3, 0), len := l0.len })] h4)) h1)
theorem den89 (I : FuncId → List V → Post → T) (l0 : Sl) (Q : Post) : denF Go.Proofs.Tryz.prog 0 (⟨[], []⟩) I 89 [V.one (Cell.slice 3 l0)] Q = vc89 I l0 Q := by kernel_rfl
/-- slices.Clone[[]handbill/api.Where,handbill/api.Where] -/
def vc90 (I : FuncId → List V → Post → T) (l0 : Sl) (Q : Post) : T :=
 ifT l0.a.isNone
 (Q [.one (.slice 5 { a := none, len := 0 })])
 (fun h1 =>
 ∃ cs2 : List Cell, (h1.sl 5 l0 = some cs2) ∧
 (l0.len * 64 ≤ 140737488355328) ∧
 (newK (.cells false cs2) (fun i3 h4 =>
 Q [.one (.slice 5 { a := some (i3, 0), len := l0.len })] h4)) h1)
theorem den90 (I : FuncId → List V → Post → T) (l0 : Sl) (Q : Post) : denF Go.Proofs.Tryz.prog 0 (⟨[], []⟩) I 90 [V.one (Cell.slice 5 l0)] Q = vc90 I l0 Q := by kernel_rfl
/-- handbill/segment.Why$1 -/
def vc36 (I : FuncId → List V → Post → T) (n0 : Int) (s1 : ByteArray) (s2 : ByteArray) (s3 : ByteArray) (l4 : Sl) (l5 : Sl) (n6 : Int) (n7 : Int) (l8 : Sl) (i9 : Nat) (i10 : Nat) (Q : Post) : T :=
 fun h11 =>
 ∃ n12 : Int, ∃ s13 : ByteArray, ∃ s14 : ByteArray, ∃ s15 : ByteArray, ∃ l16 : Sl, ∃ l17 : Sl, ∃ n18 : Int, ∃ n19 : Int, ∃ l20 : Sl, (h11.read i9 i10 9 = some [.int .i64 n12, .str s13, .str s14, .str s15, .slice 3 l16, .slice 5 l17, .int .i64 n18, .int .i64 n19, .slice 9 l20]) ∧
 I 37 [.agg [.int .i64 n12, .str s13, .str s14, .str s15, .slice 3 l16, .slice 5 l17, .int .i64 n18, .int .i64 n19, .slice 9 l20], .agg [.int .i64 n0, .str s1, .str s2, .str s3, .slice 3 l4, .slice 5 l5, .int .i64 n6, .int .i64 n7, .slice 9 l8]]
 (fun cs21 h22 =>
 ∃ n23 : Int, (cs21 = [.one (.int .i64 n23)]) ∧
 Q [.one (.bool (decide (n23 = 0)))] h22) h11
theorem den36 (I : FuncId → List V → Post → T) (n0 : Int) (s1 : ByteArray) (s2 : ByteArray) (s3 : ByteArray) (l4 : Sl) (l5 : Sl) (n6 : Int) (n7 : Int) (l8 : Sl) (i9 : Nat) (i10 : Nat) (Q : Post) : denF Go.Proofs.Tryz.prog 4 (⟨[], []⟩) I 36 [V.agg [Cell.int IntKind.i64 n0, Cell.str s1, Cell.str s2, Cell.str s3, Cell.slice 3 l4, Cell.slice 5 l5, Cell.int IntKind.i64 n6, Cell.int IntKind.i64 n7, Cell.slice 9 l8], V.one (Cell.ptr (some (i9, i10)))] Q = vc36 I n0 s1 s2 s3 l4 l5 n6 n7 l8 i9 i10 Q := by kernel_rfl
/-- handbill/segment.compare -/
def vc37 (I : FuncId → List V → Post → T) (n0 : Int) (s1 : ByteArray) (s2 : ByteArray) (s3 : ByteArray) (l4 : Sl) (l5 : Sl) (n6 : Int) (n7 : Int) (l8 : Sl) (n9 : Int) (s10 : ByteArray) (s11 : ByteArray) (s12 : ByteArray) (l13 : Sl) (l14 : Sl) (n15 : Int) (n16 : Int) (l17 : Sl) (Q : Post) : T :=
 fun h18 =>
 I 69 [.one (.int .i64 n0), .one (.int .i64 n9)]
 (fun cs19 h20 =>
 ∃ n21 : Int, (cs19 = [.one (.int .i64 n21)]) ∧
 I 70 [.one (.str s1), .one (.str s10)]
 (fun cs22 h23 =>
 ∃ n24 : Int, (cs22 = [.one (.int .i64 n24)]) ∧
 I 70 [.one (.str s2), .one (.str s11)]
 (fun cs25 h26 =>
 ∃ n27 : Int, (cs25 = [.one (.int .i64 n27)]) ∧
 I 71 [.one (.str s3)]
 (fun cs28 h29 =>
 ∃ n30 : Int, (cs28 = [.one (.int .i64 n30)]) ∧
 I 71 [.one (.str s12)]
 (fun cs31 h32 =>
 ∃ n33 : Int, (cs31 = [.one (.int .i64 n33)]) ∧
 I 69 [.one (.int .i64 n30), .one (.int .i64 n33)]
 (fun cs34 h35 =>
 ∃ n36 : Int, (cs34 = [.one (.int .i64 n36)]) ∧
 I 72 [.one (.slice 3 l4), .one (.slice 3 l13), .one (.func (some (73, [])))]
 (fun cs37 h38 =>
 ∃ n39 : Int, (cs37 = [.one (.int .i64 n39)]) ∧
 I 74 [.one (.slice 5 l5), .one (.slice 5 l14), .one (.func (some (75, [])))]
 (fun cs40 h41 =>
 ∃ n42 : Int, (cs40 = [.one (.int .i64 n42)]) ∧
 I 69 [.one (.int .i64 n6), .one (.int .i64 n15)]
 (fun cs43 h44 =>
 ∃ n45 : Int, (cs43 = [.one (.int .i64 n45)]) ∧
 I 69 [.one (.int .i64 n7), .one (.int .i64 n16)]
 (fun cs46 h47 =>
 ∃ n48 : Int, (cs46 = [.one (.int .i64 n48)]) ∧
 I 76 [.one (.slice 9 l8), .one (.slice 9 l17), .one (.func (some (37, [])))]
 (fun cs49 h50 =>
 ∃ n51 : Int, (cs49 = [.one (.int .i64 n51)]) ∧
 (newK (.cells false [.int .i64 n21, .int .i64 n24, .int .i64 n27, .int .i64 n36, .int .i64 n39, .int .i64 n42, .int .i64 n45, .int .i64 n48, .int .i64 n51]) (fun i52 h53 =>
 I 68 [.one (.slice 1 { a := some (i52, 0), len := 9 })]
 (fun cs54 h55 =>
 ∃ n56 : Int, (cs54 = [.one (.int .i64 n56)]) ∧
 Q [.one (.int .i64 n56)] h55) h53)) h50) h47) h44) h41) h38) h35) h32) h29) h26) h23) h20) h18
theorem den37 (I : FuncId → List V → Post → T) (n0 : Int) (s1 : ByteArray) (s2 : ByteArray) (s3 : ByteArray) (l4 : Sl) (l5 : Sl) (n6 : Int) (n7 : Int) (l8 : Sl) (n9 : Int) (s10 : ByteArray) (s11 : ByteArray) (s12 : ByteArray) (l13 : Sl) (l14 : Sl) (n15 : Int) (n16 : Int) (l17 : Sl) (Q : Post) : denF Go.Proofs.Tryz.prog 12 (⟨[], []⟩) I 37 [V.agg [Cell.int IntKind.i64 n0, Cell.str s1, Cell.str s2, Cell.str s3, Cell.slice 3 l4, Cell.slice 5 l5, Cell.int IntKind.i64 n6, Cell.int IntKind.i64 n7, Cell.slice 9 l8], V.agg [Cell.int IntKind.i64 n9, Cell.str s10, Cell.str s11, Cell.str s12, Cell.slice 3 l13, Cell.slice 5 l14, Cell.int IntKind.i64 n15, Cell.int IntKind.i64 n16, Cell.slice 9 l17]] Q = vc37 I n0 s1 s2 s3 l4 l5 n6 n7 l8 n9 s10 s11 s12 l13 l14 n15 n16 l17 Q := by kernel_rfl
/-- slices.CompareFunc[[]handbill/api.Value,[]handbill/api.Value,handbill/api.Value,handbill/api.Value] -/
def vc72 (I : FuncId → List V → Post → T) (l0 : Sl) (l1 : Sl) (p2 : Option (Nat × List (Nat × Nat))) (Q : Post) : T :=
 loopK (A := Int) 0
 (fun x3 n4 => ifT (decide (n4 < (↑l0.len : Int)))
 (fun h5 =>
 ((0 ≤ n4) ∧
 n4 < (↑l0.len : Int)) ∧
 (derefK l0.a (fun i6 => fun i7 h8 =>
 ∃ n9 : Int, ∃ s10 : ByteArray, ∃ n11 : Int, (h8.read i6 (i7 + n4.toNat * 3) 3 = some [.int .i64 n9, .str s10, .int .i64 n11]) ∧
 (ifT (decide (n4 ≥ (↑l1.len : Int)))
 (Q [.one (.int .i64 1)])
 (fun h12 =>
 ((0 ≤ n4) ∧
 n4 < (↑l1.len : Int)) ∧
 (derefK l1.a (fun i13 => fun i14 h15 =>
 ∃ n16 : Int, ∃ s17 : ByteArray, ∃ n18 : Int, (h15.read i13 (i14 + n4.toNat * 3) 3 = some [.int .i64 n16, .str s17, .int .i64 n18]) ∧
 (funK p2 (fun i19 => fun cs20 h21 =>
 I i19 (.agg [.int .i64 n9, .str s10, .int .i64 n11] :: .agg [.int .i64 n16, .str s17, .int .i64 n18] :: cs20)
 (fun cs22 h23 =>
 ∃ n24 : Int, (cs22 = [.one (.int .i64 n24)]) ∧
 (ifT (!decide (n24 = 0))
 (Q [.one (.int .i64 n24)])
 (x3 (IntKind.i64.wrap (n4 + 1)))) h23) h21)) h15)) h12)) h8)) h5)
 (ifT (decide ((↑l0.len : Int) < (↑l1.len : Int)))
 (Q [.one (.int .i64 (-1))])
 (Q [.one (.int .i64 0)])))
theorem den72 (I : FuncId → List V → Post → T) (l0 : Sl) (l1 : Sl) (p2 : Option (Nat × List (Nat × Nat))) (Q : Post) : denF Go.Proofs.Tryz.prog 768 (⟨[], [(26, 17179862976, [(13, tk Go.Proofs.Tryz.prog 3)])]⟩) I 72 [V.one (Cell.slice 3 l0), V.one (Cell.slice 3 l1), V.one (Cell.func p2)] Q = vc72 I l0 l1 p2 Q := by kernel_rfl
/-- handbill/segment.compareValues -/
def vc73 (I : FuncId → List V → Post → T) (n0 : Int) (s1 : ByteArray) (n2 : Int) (n3 : Int) (s4 : ByteArray) (n5 : Int) (Q : Post) : T :=
 fun h6 =>
 I 69 [.one (.int .i64 n0), .one (.int .i64 n3)]
 (fun cs7 h8 =>
 ∃ n9 : Int, (cs7 = [.one (.int .i64 n9)]) ∧
 I 69 [.one (.int .i64 n2), .one (.int .i64 n5)]
 (fun cs10 h11 =>
 ∃ n12 : Int, (cs10 = [.one (.int .i64 n12)]) ∧
 I 70 [.one (.str s1), .one (.str s4)]
 (fun cs13 h14 =>
 ∃ n15 : Int, (cs13 = [.one (.int .i64 n15)]) ∧
 (newK (.cells false [.int .i64 n9, .int .i64 n12, .int .i64 n15]) (fun i16 h17 =>
 I 68 [.one (.slice 1 { a := some (i16, 0), len := 3 })]
 (fun cs18 h19 =>
 ∃ n20 : Int, (cs18 = [.one (.int .i64 n20)]) ∧
 Q [.one (.int .i64 n20)] h19) h17)) h14) h11) h8) h6
theorem den73 (I : FuncId → List V → Post → T) (n0 : Int) (s1 : ByteArray) (n2 : Int) (n3 : Int) (s4 : ByteArray) (n5 : Int) (Q : Post) : denF Go.Proofs.Tryz.prog 12 (⟨[], []⟩) I 73 [V.agg [Cell.int IntKind.i64 n0, Cell.str s1, Cell.int IntKind.i64 n2], V.agg [Cell.int IntKind.i64 n3, Cell.str s4, Cell.int IntKind.i64 n5]] Q = vc73 I n0 s1 n2 n3 s4 n5 Q := by kernel_rfl
/-- slices.CompareFunc[[]handbill/api.Where,[]handbill/api.Where,handbill/api.Where,handbill/api.Where] -/
def vc74 (I : FuncId → List V → Post → T) (l0 : Sl) (l1 : Sl) (p2 : Option (Nat × List (Nat × Nat))) (Q : Post) : T :=
 loopK (A := Int) 0
 (fun x3 n4 => ifT (decide (n4 < (↑l0.len : Int)))
 (fun h5 =>
 ((0 ≤ n4) ∧
 n4 < (↑l0.len : Int)) ∧
 (derefK l0.a (fun i6 => fun i7 h8 =>
 ∃ s9 : ByteArray, ∃ s10 : ByteArray, ∃ n11 : Int, ∃ s12 : ByteArray, ∃ n13 : Int, (h8.read i6 (i7 + n4.toNat * 5) 5 = some [.str s9, .str s10, .int .i64 n11, .str s12, .int .i64 n13]) ∧
 (ifT (decide (n4 ≥ (↑l1.len : Int)))
 (Q [.one (.int .i64 1)])
 (fun h14 =>
 ((0 ≤ n4) ∧
 n4 < (↑l1.len : Int)) ∧
 (derefK l1.a (fun i15 => fun i16 h17 =>
 ∃ s18 : ByteArray, ∃ s19 : ByteArray, ∃ n20 : Int, ∃ s21 : ByteArray, ∃ n22 : Int, (h17.read i15 (i16 + n4.toNat * 5) 5 = some [.str s18, .str s19, .int .i64 n20, .str s21, .int .i64 n22]) ∧
 (funK p2 (fun i23 => fun cs24 h25 =>
 I i23 (.agg [.str s9, .str s10, .int .i64 n11, .str s12, .int .i64 n13] :: .agg [.str s18, .str s19, .int .i64 n20, .str s21, .int .i64 n22] :: cs24)
 (fun cs26 h27 =>
 ∃ n28 : Int, (cs26 = [.one (.int .i64 n28)]) ∧
 (ifT (!decide (n28 = 0))
 (Q [.one (.int .i64 n28)])
 (x3 (IntKind.i64.wrap (n4 + 1)))) h27) h25)) h17)) h14)) h8)) h5)
 (ifT (decide ((↑l0.len : Int) < (↑l1.len : Int)))
 (Q [.one (.int .i64 (-1))])
 (Q [.one (.int .i64 0)])))
theorem den74 (I : FuncId → List V → Post → T) (l0 : Sl) (l1 : Sl) (p2 : Option (Nat × List (Nat × Nat))) (Q : Post) : denF Go.Proofs.Tryz.prog 768 (⟨[], [(26, 17179862976, [(13, tk Go.Proofs.Tryz.prog 3)])]⟩) I 74 [V.one (Cell.slice 5 l0), V.one (Cell.slice 5 l1), V.one (Cell.func p2)] Q = vc74 I l0 l1 p2 Q := by kernel_rfl
/-- handbill/segment.compareWhere -/
def vc75 (I : FuncId → List V → Post → T) (s0 : ByteArray) (s1 : ByteArray) (n2 : Int) (s3 : ByteArray) (n4 : Int) (s5 : ByteArray) (s6 : ByteArray) (n7 : Int) (s8 : ByteArray) (n9 : Int) (Q : Post) : T :=
 fun h10 =>
 I 70 [.one (.str s0), .one (.str s5)]
 (fun cs11 h12 =>
 ∃ n13 : Int, (cs11 = [.one (.int .i64 n13)]) ∧
 I 71 [.one (.str s1)]
 (fun cs14 h15 =>
 ∃ n16 : Int, (cs14 = [.one (.int .i64 n16)]) ∧
 I 71 [.one (.str s6)]
 (fun cs17 h18 =>
 ∃ n19 : Int, (cs17 = [.one (.int .i64 n19)]) ∧
 I 69 [.one (.int .i64 n16), .one (.int .i64 n19)]
 (fun cs20 h21 =>
 ∃ n22 : Int, (cs20 = [.one (.int .i64 n22)]) ∧
 I 73 [.agg [.int .i64 n2, .str s3, .int .i64 n4], .agg [.int .i64 n7, .str s8, .int .i64 n9]]
 (fun cs23 h24 =>
 ∃ n25 : Int, (cs23 = [.one (.int .i64 n25)]) ∧
 (newK (.cells false [.int .i64 n13, .int .i64 n22, .int .i64 n25]) (fun i26 h27 =>
 I 68 [.one (.slice 1 { a := some (i26, 0), len := 3 })]
 (fun cs28 h29 =>
 ∃ n30 : Int, (cs28 = [.one (.int .i64 n30)]) ∧
 Q [.one (.int .i64 n30)] h29) h27)) h24) h21) h18) h15) h12) h10
theorem den75 (I : FuncId → List V → Post → T) (s0 : ByteArray) (s1 : ByteArray) (n2 : Int) (s3 : ByteArray) (n4 : Int) (s5 : ByteArray) (s6 : ByteArray) (n7 : Int) (s8 : ByteArray) (n9 : Int) (Q : Post) : denF Go.Proofs.Tryz.prog 12 (⟨[], []⟩) I 75 [V.agg [Cell.str s0, Cell.str s1, Cell.int IntKind.i64 n2, Cell.str s3, Cell.int IntKind.i64 n4], V.agg [Cell.str s5, Cell.str s6, Cell.int IntKind.i64 n7, Cell.str s8, Cell.int IntKind.i64 n9]] Q = vc75 I s0 s1 n2 s3 n4 s5 s6 n7 s8 n9 Q := by kernel_rfl
/-- slices.CompareFunc[[]handbill/api.Cond,[]handbill/api.Cond,handbill/api.Cond,handbill/api.Cond] -/
def vc76 (I : FuncId → List V → Post → T) (l0 : Sl) (l1 : Sl) (p2 : Option (Nat × List (Nat × Nat))) (Q : Post) : T :=
 loopK (A := Int) 0
 (fun x3 n4 => ifT (decide (n4 < (↑l0.len : Int)))
 (fun h5 =>
 ((0 ≤ n4) ∧
 n4 < (↑l0.len : Int)) ∧
 (derefK l0.a (fun i6 => fun i7 h8 =>
 ∃ n9 : Int, ∃ s10 : ByteArray, ∃ s11 : ByteArray, ∃ s12 : ByteArray, ∃ l13 : Sl, ∃ l14 : Sl, ∃ n15 : Int, ∃ n16 : Int, ∃ l17 : Sl, (h8.read i6 (i7 + n4.toNat * 9) 9 = some [.int .i64 n9, .str s10, .str s11, .str s12, .slice 3 l13, .slice 5 l14, .int .i64 n15, .int .i64 n16, .slice 9 l17]) ∧
 (ifT (decide (n4 ≥ (↑l1.len : Int)))
 (Q [.one (.int .i64 1)])
 (fun h18 =>
 ((0 ≤ n4) ∧
 n4 < (↑l1.len : Int)) ∧
 (derefK l1.a (fun i19 => fun i20 h21 =>
 ∃ n22 : Int, ∃ s23 : ByteArray, ∃ s24 : ByteArray, ∃ s25 : ByteArray, ∃ l26 : Sl, ∃ l27 : Sl, ∃ n28 : Int, ∃ n29 : Int, ∃ l30 : Sl, (h21.read i19 (i20 + n4.toNat * 9) 9 = some [.int .i64 n22, .str s23, .str s24, .str s25, .slice 3 l26, .slice 5 l27, .int .i64 n28, .int .i64 n29, .slice 9 l30]) ∧
 (funK p2 (fun i31 => fun cs32 h33 =>
 I i31 (.agg [.int .i64 n9, .str s10, .str s11, .str s12, .slice 3 l13, .slice 5 l14, .int .i64 n15, .int .i64 n16, .slice 9 l17] :: .agg [.int .i64 n22, .str s23, .str s24, .str s25, .slice 3 l26, .slice 5 l27, .int .i64 n28, .int .i64 n29, .slice 9 l30] :: cs32)
 (fun cs34 h35 =>
 ∃ n36 : Int, (cs34 = [.one (.int .i64 n36)]) ∧
 (ifT (!decide (n36 = 0))
 (Q [.one (.int .i64 n36)])
 (x3 (IntKind.i64.wrap (n4 + 1)))) h35) h33)) h21)) h18)) h8)) h5)
 (ifT (decide ((↑l0.len : Int) < (↑l1.len : Int)))
 (Q [.one (.int .i64 (-1))])
 (Q [.one (.int .i64 0)])))
theorem den76 (I : FuncId → List V → Post → T) (l0 : Sl) (l1 : Sl) (p2 : Option (Nat × List (Nat × Nat))) (Q : Post) : denF Go.Proofs.Tryz.prog 768 (⟨[], [(26, 17179862976, [(13, tk Go.Proofs.Tryz.prog 3)])]⟩) I 76 [V.one (Cell.slice 9 l0), V.one (Cell.slice 9 l1), V.one (Cell.func p2)] Q = vc76 I l0 l1 p2 Q := by kernel_rfl
/-- handbill/segment.Is -/
def vc11 (I : FuncId → List V → Post → T) (n0 : Int) (s1 : ByteArray) (s2 : ByteArray) (s3 : ByteArray) (l4 : Sl) (l5 : Sl) (n6 : Int) (n7 : Int) (l8 : Sl) (l9 : Sl) (l10 : Sl) (n11 : Int) (Q : Post) : T :=
 fun h12 =>
 I 32 [.agg [.int .i64 n0, .str s1, .str s2, .str s3, .slice 3 l4, .slice 5 l5, .int .i64 n6, .int .i64 n7, .slice 9 l8], .one (.slice 4 l9), .one (.slice 6 l10), .one (.int .i64 n11)]
 (fun cs13 h14 =>
 ∃ n15 : Int, (cs13 = [.one (.int .i64 n15)]) ∧
 (ifT (!decide (n15 = 0))
 (Q [.one (.bool false), .one (.int .i64 n15)])
 (fun h16 =>
 I 33 [.agg [.int .i64 n0, .str s1, .str s2, .str s3, .slice 3 l4, .slice 5 l5, .int .i64 n6, .int .i64 n7, .slice 9 l8], .one (.slice 4 l9), .one (.slice 6 l10)]
 (fun cs17 h18 =>
 ∃ p19 : Option (Nat × Nat), (cs17 = [.one (.ptr p19)]) ∧
 I 38 [.one (.ptr p19), .one (.int .i64 n11)]
 (fun cs20 h21 =>
 ∃ b22 : Bool, (cs20 = [.one (.bool b22)]) ∧
 Q [.one (.bool b22), .one (.int .i64 0)] h21) h18) h16)) h14) h12
theorem den11 (I : FuncId → List V → Post → T) (n0 : Int) (s1 : ByteArray) (s2 : ByteArray) (s3 : ByteArray) (l4 : Sl) (l5 : Sl) (n6 : Int) (n7 : Int) (l8 : Sl) (l9 : Sl) (l10 : Sl) (n11 : Int) (Q : Post) : denF Go.Proofs.Tryz.prog 16 (⟨[], []⟩) I 11 [V.agg [Cell.int IntKind.i64 n0, Cell.str s1, Cell.str s2, Cell.str s3, Cell.slice 3 l4, Cell.slice 5 l5, Cell.int IntKind.i64 n6, Cell.int IntKind.i64 n7, Cell.slice 9 l8], V.one (Cell.slice 4 l9), V.one (Cell.slice 6 l10), V.one (Cell.int IntKind.i64 n11)] Q = vc11 I n0 s1 s2 s3 l4 l5 n6 n7 l8 l9 l10 n11 Q := by kernel_rfl
/-- handbill/handkeep1.segments -/
def vc12 (I : FuncId → List V → Post → T) (Q : Post) : T :=
 fun h0 =>
 (newK (.cells false [.str { data := #[97] }, .int .i64 3, .str ByteArray.empty, .int .i64 1]) (fun i1 h2 =>
 I 39 [.one (.str { data := #[104, 97, 115, 32, 97] }), .one (.slice 4 { a := some (i1, 0), len := 1 }), .one (.slice 6 { a := none, len := 0 }), .one (.int .i64 0)]
 (fun cs3 h4 =>
 ∃ b5 : Bool, ∃ n6 : Int, (cs3 = [.one (.bool b5), .one (.int .i64 n6)]) ∧
 (ifT (decide (n6 = 0))
 (Q [.one (.bool b5)])
 (Q [.one (.bool false)])) h4) h2)) h0
theorem den12 (I : FuncId → List V → Post → T) (Q : Post) : denF Go.Proofs.Tryz.prog 0 (⟨[], []⟩) I 12 [] Q = vc12 I Q := by kernel_rfl
/-- handbill/segment.Holds -/
def vc39 (I : FuncId → List V → Post → T) (s0 : ByteArray) (l1 : Sl) (l2 : Sl) (n3 : Int) (Q : Post) : T :=
 fun h4 =>
 I 81 [.one (.str s0)]
 (fun cs5 h6 =>
 ∃ n7 : Int, ∃ s8 : ByteArray, ∃ s9 : ByteArray, ∃ s10 : ByteArray, ∃ l11 : Sl, ∃ l12 : Sl, ∃ n13 : Int, ∃ n14 : Int, ∃ l15 : Sl, ∃ n16 : Int, ∃ n17 : Int, (cs5 = [.agg [.int .i64 n7, .str s8, .str s9, .str s10, .slice 3 l11, .slice 5 l12, .int .i64 n13, .int .i64 n14, .slice 9 l15], .one (.int .i64 n16), .one (.int .i64 n17)]) ∧
 (ifT (!decide (n17 = 0))
 (Q [.one (.bool false), .one (.int .i64 n17)])
 (fun h18 =>
 I 11 [.agg [.int .i64 n7, .str s8, .str s9, .str s10, .slice 3 l11, .slice 5 l12, .int .i64 n13, .int .i64 n14, .slice 9 l15], .one (.slice 4 l1), .one (.slice 6 l2), .one (.int .i64 n3)]
 (fun cs19 h20 =>
 ∃ b21 : Bool, ∃ n22 : Int, (cs19 = [.one (.bool b21), .one (.int .i64 n22)]) ∧
 Q [.one (.bool b21), .one (.int .i64 n22)] h20) h18)) h6) h4
theorem den39 (I : FuncId → List V → Post → T) (s0 : ByteArray) (l1 : Sl) (l2 : Sl) (n3 : Int) (Q : Post) : denF Go.Proofs.Tryz.prog 1024 (⟨[], []⟩) I 39 [V.one (Cell.str s0), V.one (Cell.slice 4 l1), V.one (Cell.slice 6 l2), V.one (Cell.int IntKind.i64 n3)] Q = vc39 I s0 l1 l2 n3 Q := by kernel_rfl
/-- handbill/segment.Parse -/
def vc81 (I : FuncId → List V → Post → T) (s0 : ByteArray) (Q : Post) : T :=
 fun h1 =>
 (newK (.cells false [.int .i64 0, .str ByteArray.empty, .str ByteArray.empty, .str ByteArray.empty, .slice 3 { a := none, len := 0 }, .slice 5 { a := none, len := 0 }, .int .i64 0, .int .i64 0, .slice 9 { a := none, len := 0 }]) (fun i2 h3 =>
 (newK (.cells false [.int .i64 0]) (fun i4 h5 =>
 (newK (.cells false [.int .i64 0]) (fun i6 => ifT (decide ((↑s0.size : Int) > 200000))
 (fun h7 =>
 (storeK [] i2 0 [.int .i64 0, .str ByteArray.empty, .str ByteArray.empty, .str ByteArray.empty, .slice 3 { a := none, len := 0 }, .slice 5 { a := none, len := 0 }, .int .i64 0, .int .i64 0, .slice 9 { a := none, len := 0 }] (fun h8 =>
 (storeK [] i4 0 [.int .i64 0] (fun h9 =>
 (storeK [] i6 0 [.int .i64 2] (fun h10 =>
 ∃ n11 : Int, ∃ s12 : ByteArray, ∃ s13 : ByteArray, ∃ s14 : ByteArray, ∃ l15 : Sl, ∃ l16 : Sl, ∃ n17 : Int, ∃ n18 : Int, ∃ l19 : Sl, (h10.read i2 0 9 = some [.int .i64 n11, .str s12, .str s13, .str s14, .slice 3 l15, .slice 5 l16, .int .i64 n17, .int .i64 n18, .slice 9 l19]) ∧
 ∃ n20 : Int, (h10.read i4 0 1 = some [.int .i64 n20]) ∧
 ∃ n21 : Int, (h10.read i6 0 1 = some [.int .i64 n21]) ∧
 Q [.agg [.int .i64 n11, .str s12, .str s13, .str s14, .slice 3 l15, .slice 5 l16, .int .i64 n17, .int .i64 n18, .slice 9 l19], .one (.int .i64 n20), .one (.int .i64 n21)] h10)) h9)) h8)) h7)
 (quietK Go.Proofs.Tryz.prog 112 3 (fun cs22 h23 =>
 (newK (.cells false [.str s0, .int .i64 0, .int .i64 0, .int .i64 0, .str ByteArray.empty]) (fun i24 h25 =>
 I 113 [.one (.ptr (some (i24, 0)))]
 (fun cs26 h27 =>
 (cs26 = []) ∧
 I 114 [.one (.ptr (some (i24, 0)))]
 (fun cs28 h29 =>
 ∃ n30 : Int, ∃ s31 : ByteArray, ∃ s32 : ByteArray, ∃ s33 : ByteArray, ∃ l34 : Sl, ∃ l35 : Sl, ∃ n36 : Int, ∃ n37 : Int, ∃ l38 : Sl, (cs28 = [.agg [.int .i64 n30, .str s31, .str s32, .str s33, .slice 3 l34, .slice 5 l35, .int .i64 n36, .int .i64 n37, .slice 9 l38]]) ∧
 (storeK [] i2 0 [.int .i64 n30, .str s31, .str s32, .str s33, .slice 3 l34, .slice 5 l35, .int .i64 n36, .int .i64 n37, .slice 9 l38] (fun h39 =>
 ∃ n40 : Int, (h39.read i24 2 1 = some [.int .i64 n40]) ∧
 (joinK (A := PUnit)
 (fun x41 h42 =>
 ∃ n43 : Int, ∃ s44 : ByteArray, ∃ s45 : ByteArray, ∃ s46 : ByteArray, ∃ l47 : Sl, ∃ l48 : Sl, ∃ n49 : Int, ∃ n50 : Int, ∃ l51 : Sl, (h42.read i2 0 9 = some [.int .i64 n43, .str s44, .str s45, .str s46, .slice 3 l47, .slice 5 l48, .int .i64 n49, .int .i64 n50, .slice 9 l51]) ∧
 I 82 [.agg [.int .i64 n43, .str s44, .str s45, .str s46, .slice 3 l47, .slice 5 l48, .int .i64 n49, .int .i64 n50, .slice 9 l51]]
 (fun cs52 h53 =>
 ∃ n54 : Int, (cs52 = [.one (.int .i64 n54)]) ∧
 (ifT (!decide (n54 = 0))
 (fun h55 =>
 (storeK [] i2 0 [.int .i64 0, .str ByteArray.empty, .str ByteArray.empty, .str ByteArray.empty, .slice 3 { a := none, len := 0 }, .slice 5 { a := none, len := 0 }, .int .i64 0, .int .i64 0, .slice 9 { a := none, len := 0 }] (fun h56 =>
 (storeK [] i4 0 [.int .i64 0] (fun h57 =>
 (storeK [] i6 0 [.int .i64 n54] (fun h58 =>
 ∃ n59 : Int, ∃ s60 : ByteArray, ∃ s61 : ByteArray, ∃ s62 : ByteArray, ∃ l63 : Sl, ∃ l64 : Sl, ∃ n65 : Int, ∃ n66 : Int, ∃ l67 : Sl, (h58.read i2 0 9 = some [.int .i64 n59, .str s60, .str s61, .str s62, .slice 3 l63, .slice 5 l64, .int .i64 n65, .int .i64 n66, .slice 9 l67]) ∧
 ∃ n68 : Int, (h58.read i4 0 1 = some [.int .i64 n68]) ∧
 ∃ n69 : Int, (h58.read i6 0 1 = some [.int .i64 n69]) ∧
 Q [.agg [.int .i64 n59, .str s60, .str s61, .str s62, .slice 3 l63, .slice 5 l64, .int .i64 n65, .int .i64 n66, .slice 9 l67], .one (.int .i64 n68), .one (.int .i64 n69)] h58)) h57)) h56)) h55)
 (fun h70 =>
 ∃ n71 : Int, ∃ s72 : ByteArray, ∃ s73 : ByteArray, ∃ s74 : ByteArray, ∃ l75 : Sl, ∃ l76 : Sl, ∃ n77 : Int, ∃ n78 : Int, ∃ l79 : Sl, (h70.read i2 0 9 = some [.int .i64 n71, .str s72, .str s73, .str s74, .slice 3 l75, .slice 5 l76, .int .i64 n77, .int .i64 n78, .slice 9 l79]) ∧
 (storeK [] i2 0 [.int .i64 n71, .str s72, .str s73, .str s74, .slice 3 l75, .slice 5 l76, .int .i64 n77, .int .i64 n78, .slice 9 l79] (fun h80 =>
 (storeK [] i4 0 [.int .i64 0] (fun h81 =>
 (storeK [] i6 0 [.int .i64 0] (fun h82 =>
 ∃ n83 : Int, ∃ s84 : ByteArray, ∃ s85 : ByteArray, ∃ s86 : ByteArray, ∃ l87 : Sl, ∃ l88 : Sl, ∃ n89 : Int, ∃ n90 : Int, ∃ l91 : Sl, (h82.read i2 0 9 = some [.int .i64 n83, .str s84, .str s85, .str s86, .slice 3 l87, .slice 5 l88, .int .i64 n89, .int .i64 n90, .slice 9 l91]) ∧
 ∃ n92 : Int, (h82.read i4 0 1 = some [.int .i64 n92]) ∧
 ∃ n93 : Int, (h82.read i6 0 1 = some [.int .i64 n93]) ∧
 Q [.agg [.int .i64 n83, .str s84, .str s85, .str s86, .slice 3 l87, .slice 5 l88, .int .i64 n89, .int .i64 n90, .slice 9 l91], .one (.int .i64 n92), .one (.int .i64 n93)] h82)) h81)) h80)) h70)) h53) h42)
 (fun x94 => ifT (!decide (n40 = 0))
 (fun h95 =>
 I 115 [.one (.ptr (some (i24, 0)))]
 (fun cs96 h97 =>
 (cs96 = []) ∧
 x94 () h97) h95)
 (x94 ()))) h39)) h29) h27) h25)) h23)))) h5)) h3)) h1
theorem den81 (I : FuncId → List V → Post → T) (s0 : ByteArray) (Q : Post) : denFD Go.Proofs.Tryz.prog 0 (⟨[(509, 100663296, [])], []⟩) I 81 [V.one (Cell.str s0)] Q = vc81 I s0 Q := by kernel_rfl
/-- handbill/segment.Parse$1 -/
def vc112 (I : FuncId → List V → Post → T) (i0 : Nat) (i1 : Nat) (i2 : Nat) (i3 : Nat) (i4 : Nat) (i5 : Nat) (Q : Post) : T :=
 fun h6 =>
 False
theorem den112 (I : FuncId → List V → Post → T) (i0 : Nat) (i1 : Nat) (i2 : Nat) (i3 : Nat) (i4 : Nat) (i5 : Nat) (Q : Post) : denF Go.Proofs.Tryz.prog 16 (⟨[(117, 65536, [])], []⟩) I 112 [V.one (Cell.ptr (some (i0, i1))), V.one (Cell.ptr (some (i2, i3))), V.one (Cell.ptr (some (i4, i5)))] Q = vc112 I i0 i1 i2 i3 i4 i5 Q := by kernel_rfl
/-- (*handbill/segment.parser).scan -/
def vc113 (I : FuncId → List V → Post → T) (p0 : Option (Nat × Nat)) (Q : Post) : T :=
 derefK p0 (fun i1 => fun i2 h3 =>
 ∃ n4 : Int, (h3.read i1 (i2 + 1) 1 = some [.int .i64 n4]) ∧
 I 158 [.one (.ptr p0), .one (.int .i64 n4), .one (.func (some (159, [])))]
 (fun cs5 h6 =>
 ∃ n7 : Int, (cs5 = [.one (.int .i64 n7)]) ∧
 (derefK p0 (fun i8 => fun i9 h10 =>
 (storeK [] i8 (i9 + 1) [.int .i64 n7] (derefK p0 (fun i11 => fun i12 h13 =>
 ∃ n14 : Int, (h13.read i11 (i12 + 1) 1 = some [.int .i64 n14]) ∧
 (derefK p0 (fun i15 => fun i16 h17 =>
 ∃ s18 : ByteArray, (h17.read i15 (i16 + 0) 1 = some [.str s18]) ∧
 (ifT (decide (n14 = (↑s18.size : Int)))
 (derefK p0 (fun i19 => fun i20 h21 =>
 (storeK [] i19 (i20 + 2) [.int .i64 0, .int .i64 n14, .str { data := #[] }] (Q [])) h21))
 (derefK p0 (fun i22 => fun i23 h24 =>
 ∃ s25 : ByteArray, (h24.read i22 (i23 + 0) 1 = some [.str s25]) ∧
 ((0 ≤ n14) ∧
 n14 < (↑s25.size : Int)) ∧
 I 160 [.one (.int .u8 (byteAt s25 n14))]
 (fun cs26 h27 =>
 ∃ b28 : Bool, (cs26 = [.one (.bool b28)]) ∧
 (joinK (A := Int × Int)
 (uncur fun n29 n30 => derefK p0 (fun i31 => fun i32 h33 =>
 (storeK [] i31 (i32 + 1) [.int .i64 n30] (derefK p0 (fun i34 => fun i35 h36 =>
 ∃ s37 : ByteArray, (h36.read i34 (i35 + 0) 1 = some [.str s37]) ∧
 ((0 ≤ n14) ∧
 (n14 ≤ n30) ∧
 n30 ≤ (↑s37.size : Int)) ∧
 (derefK p0 (fun i38 => fun i39 h40 =>
 (storeK [] i38 (i39 + 2) [.int .i64 n29, .int .i64 n14, .str (s37.extract n14.toNat n30.toNat)] (Q [])) h40)) h36))) h33))
 (fun x41 => ifT b28
 (fun h42 =>
 I 158 [.one (.ptr p0), .one (.int .i64 n14), .one (.func (some (161, [])))]
 (fun cs43 h44 =>
 ∃ n45 : Int, (cs43 = [.one (.int .i64 n45)]) ∧
 x41 ((1, n45)) h44) h42)
 (joinK (A := Bool)
 (fun b46 => joinK (A := Int × Int)
 (uncur fun n47 n48 => fun h49 =>
 x41 ((n47, n48)) h49)
 (fun x50 => ifT b46
 (fun h51 =>
 I 163 [.one (.ptr p0), .one (.int .i64 n14)]
 (fun cs52 h53 =>
 ∃ n54 : Int, (cs52 = [.one (.int .i64 n54)]) ∧
 (joinK (A := Int)
 (fun n55 h56 =>
 x50 ((n55, n54)) h56)
 (fun x57 => ifT (decide (n54 > n14))
 (x57 2)
 (x57 6))) h53) h51)
 (joinK (A := Int × Int)
 (uncur fun n58 n59 => fun h60 =>
 x50 ((n58, n59)) h60)
 (fun x61 => ifT (decide (byteAt s25 n14 = 34))
 (derefK p0 (fun i62 => fun i63 h64 =>
 ∃ s65 : ByteArray, (h64.read i62 (i63 + 0) 1 = some [.str s65]) ∧
 ((0 ≤ n14) ∧
 (n14 ≤ (↑s65.size : Int)) ∧
 (↑s65.size : Int) ≤ (↑s65.size : Int)) ∧
 I 164 [.one (.str (s65.extract n14.toNat (↑s65.size : Int).toNat))]
 (fun cs66 h67 =>
 ∃ s68 : ByteArray, ∃ n69 : Int, ∃ n70 : Int, (cs66 = [.one (.str s68), .one (.int .i64 n69), .one (.int .i64 n70)]) ∧
 (joinK (A := Int × Int)
 (uncur fun n71 n72 => fun h73 =>
 x61 ((n71, n72)) h73)
 (fun x74 => ifT (decide (n70 = 0))
 (x74 ((3, IntKind.i64.wrap (n14 + n69))))
 (x74 ((6, n14))))) h67) h64))
 (joinK (A := Int × Int)
 (uncur fun n75 n76 => fun h77 =>
 x61 ((n75, n76)) h77)
 (fun x78 => ifT (decide (byteAt s25 n14 = 64))
 (fun h79 =>
 I 163 [.one (.ptr p0), .one (.int .i64 (IntKind.i64.wrap (n14 + 1)))]
 (fun cs80 h81 =>
 ∃ n82 : Int, (cs80 = [.one (.int .i64 n82)]) ∧
 (joinK (A := Int)
 (fun n83 h84 =>
 x78 ((n83, n82)) h84)
 (fun x85 => ifT (decide (n82 > IntKind.i64.wrap (n14 + 1)))
 (x85 4)
 (x85 6))) h81) h79)
 (fun h86 =>
 I 165 [.one (.str { data := #[61, 40, 41, 41, 44, 46] }), .one (.int .u8 (byteAt s25 n14))]
 (fun cs87 h88 =>
 ∃ n89 : Int, (cs87 = [.one (.int .i64 n89)]) ∧
 (joinK (A := Int × Int)
 (uncur fun n90 n91 => fun h92 =>
 x78 ((n90, n91)) h92)
 (fun x93 => ifT (decide (n89 ≥ 0))
 (x93 ((5, IntKind.i64.wrap (n14 + 1))))
 (joinK (A := Bool)
 (fun b94 => joinK (A := Int × Int)
 (uncur fun n95 n96 => fun h97 =>
 x93 ((n95, n96)) h97)
 (fun x98 => ifT b94
 (joinK (A := Bool)
 (fun b99 => joinK (A := Int)
 (fun n100 => joinK (A := Bool)
 (fun b101 => joinK (A := Int)
 (fun n102 h103 =>
 x98 ((n102, n100)) h103)
 (fun x104 => ifT b101
 (x104 5)
 (x104 6)))
 (fun x105 => ifT (!decide (byteAt s25 n14 = 33))
 (x105 true)
 (x105 (decide (n100 = IntKind.i64.wrap (n14 + 2))))))
 (fun x106 => ifT b99
 (x106 (IntKind.i64.wrap (IntKind.i64.wrap (n14 + 1) + 1)))
 (x106 (IntKind.i64.wrap (n14 + 1)))))
 (fun x107 => derefK p0 (fun i108 => fun i109 h110 =>
 ∃ s111 : ByteArray, (h110.read i108 (i109 + 0) 1 = some [.str s111]) ∧
 (ifT (decide (IntKind.i64.wrap (n14 + 1) < (↑s111.size : Int)))
 (derefK p0 (fun i112 => fun i113 h114 =>
 ∃ s115 : ByteArray, (h114.read i112 (i113 + 0) 1 = some [.str s115]) ∧
 ((0 ≤ IntKind.i64.wrap (n14 + 1)) ∧
 IntKind.i64.wrap (n14 + 1) < (↑s115.size : Int)) ∧
 x107 (decide (byteAt s115 (IntKind.i64.wrap (n14 + 1)) = 61)) h114))
 (x107 false)) h110)))
 (x98 ((6, n14)))))
 (fun x116 => ifT (decide (byteAt s25 n14 = 60))
 (x116 true)
 (ifT (decide (byteAt s25 n14 = 62))
 (x116 true)
 (x116 (decide (byteAt s25 n14 = 33)))))))) h88) h86)))))))
 (fun x117 h118 =>
 I 162 [.one (.int .u8 (byteAt s25 n14))]
 (fun cs119 h120 =>
 ∃ b121 : Bool, (cs119 = [.one (.bool b121)]) ∧
 (ifT b121
 (x117 true)
 (x117 (decide (byteAt s25 n14 = 45)))) h120) h118)))) h27) h24))) h17)) h13))) h10)) h6) h3)
theorem den113 (I : FuncId → List V → Post → T) (p0 : Option (Nat × Nat)) (Q : Post) : denF Go.Proofs.Tryz.prog 0 (⟨[(501, 43556142965880123323311949733674145022424, [(3, tk Go.Proofs.Tryz.prog 3), (4, tk Go.Proofs.Tryz.prog 3)]), (2006, 17873661021126656, [(47, tk Go.Proofs.Tryz.prog 4)]), (2007, 43556142965880123323311931736867821584856, [(3, tk Go.Proofs.Tryz.prog 3), (4, tk Go.Proofs.Tryz.prog 3)]), (8031, 43556142965880123323302726379229476291032, [(3, tk Go.Proofs.Tryz.prog 3), (4, tk Go.Proofs.Tryz.prog 3)]), (16059, 8, [(3, tk Go.Proofs.Tryz.prog 3)]), (32127, 43556142965880118487608671292749632241688, [(3, tk Go.Proofs.Tryz.prog 3), (4, tk Go.Proofs.Tryz.prog 3)]), (64251, 528905046081400263933976, [(3, tk Go.Proofs.Tryz.prog 3), (4, tk Go.Proofs.Tryz.prog 3)]), (128511, 43556142965860316282683383666867945078808, [(3, tk Go.Proofs.Tryz.prog 3), (4, tk Go.Proofs.Tryz.prog 3)]), (257019, 8, [(3, tk Go.Proofs.Tryz.prog 3)]), (514046, 162180048666699099053984466337792, [(96, tk Go.Proofs.Tryz.prog 4)]), (514047, 43556142803620846494098586359688320778264, [(3, tk Go.Proofs.Tryz.prog 3), (4, tk Go.Proofs.Tryz.prog 3)]), (8224756, 42534646828009991079468259616929873920, [(124, tk Go.Proofs.Tryz.prog 4)]), (8224757, 127605887595351923798765477786913079312, [(4, tk Go.Proofs.Tryz.prog 3)]), (8224758, 43386001782419654091580262447550446960640, [(134, tk Go.Proofs.Tryz.prog 4)]), (8224759, 8, [(3, tk Go.Proofs.Tryz.prog 3)])], []⟩) I 113 [V.one (Cell.ptr p0)] Q = vc113 I p0 Q := by kernel_rfl
/-- (*handbill/segment.parser).run -/
def vc158 (I : FuncId → List V → Post → T) (p0 : Option (Nat × Nat)) (n1 : Int) (p2 : Option (Nat × List (Nat × Nat))) (Q : Post) : T :=
 loopK (A := Int) n1
 (fun x3 n4 => derefK p0 (fun i5 => fun i6 h7 =>
 ∃ s8 : ByteArray, (h7.read i5 (i6 + 0) 1 = some [.str s8]) ∧
 (ifT (decide (n4 < (↑s8.size : Int)))
 (derefK p0 (fun i9 => fun i10 h11 =>
 ∃ s12 : ByteArray, (h11.read i9 (i10 + 0) 1 = some [.str s12]) ∧
 ((0 ≤ n4) ∧
 n4 < (↑s12.size : Int)) ∧
 (funK p2 (fun i13 => fun cs14 h15 =>
 I i13 (.one (.int .u8 (byteAt s12 n4)) :: cs14)
 (fun cs16 h17 =>
 ∃ b18 : Bool, (cs16 = [.one (.bool b18)]) ∧
 (ifT b18
 (x3 (IntKind.i64.wrap (n4 + 1)))
 (Q [.one (.int .i64 n4)])) h17) h15)) h11))
 (Q [.one (.int .i64 n4)])) h7))
theorem den158 (I : FuncId → List V → Post → T) (p0 : Option (Nat × Nat)) (n1 : Int) (p2 : Option (Nat × List (Nat × Nat))) (Q : Post) : denF Go.Proofs.Tryz.prog 0 (⟨[], [(12, 67108738, [(1, tk Go.Proofs.Tryz.prog 3)])]⟩) I 158 [V.one (Cell.ptr p0), V.one (Cell.int IntKind.i64 n1), V.one (Cell.func p2)] Q = vc158 I p0 n1 p2 Q := by kernel_rfl
/-- (*handbill/segment.parser).scan$1 -/
def vc159 (I : FuncId → List V → Post → T) (n0 : Int) (Q : Post) : T :=
 ifT (decide (n0 = 32))
 (Q [.one (.bool true)])
 (Q [.one (.bool (decide (n0 = 10)))])
theorem den159 (I : FuncId → List V → Post → T) (n0 : Int) (Q : Post) : denF Go.Proofs.Tryz.prog 0 (⟨[], []⟩) I 159 [V.one (Cell.int IntKind.u8 n0)] Q = vc159 I n0 Q := by kernel_rfl
/-- handbill/segment.isSmall -/
def vc160 (I : FuncId → List V → Post → T) (n0 : Int) (Q : Post) : T :=
 ifT (decide (97 ≤ n0))
 (Q [.one (.bool (decide (n0 ≤ 122)))])
 (Q [.one (.bool false)])
theorem den160 (I : FuncId → List V → Post → T) (n0 : Int) (Q : Post) : denF Go.Proofs.Tryz.prog 0 (⟨[], []⟩) I 160 [V.one (Cell.int IntKind.u8 n0)] Q = vc160 I n0 Q := by kernel_rfl
/-- (*handbill/segment.parser).scan$2 -/
def vc161 (I : FuncId → List V → Post → T) (n0 : Int) (Q : Post) : T :=
 fun h1 =>
 I 160 [.one (.int .u8 n0)]
 (fun cs2 h3 =>
 ∃ b4 : Bool, (cs2 = [.one (.bool b4)]) ∧
 (ifT b4
 (Q [.one (.bool true)])
 (fun h5 =>
 I 162 [.one (.int .u8 n0)]
 (fun cs6 h7 =>
 ∃ b8 : Bool, (cs6 = [.one (.bool b8)]) ∧
 (ifT b8
 (Q [.one (.bool true)])
 (ifT (decide (n0 = 45))
 (Q [.one (.bool true)])
 (Q [.one (.bool (decide (n0 = 95)))]))) h7) h5)) h3) h1
theorem den161 (I : FuncId → List V → Post → T) (n0 : Int) (Q : Post) : denF Go.Proofs.Tryz.prog 0 (⟨[], []⟩) I 161 [V.one (Cell.int IntKind.u8 n0)] Q = vc161 I n0 Q := by kernel_rfl
/-- handbill/segment.isDigit -/
def vc162 (I : FuncId → List V → Post → T) (n0 : Int) (Q : Post) : T :=
 ifT (decide (48 ≤ n0))
 (Q [.one (.bool (decide (n0 ≤ 57)))])
 (Q [.one (.bool false)])
theorem den162 (I : FuncId → List V → Post → T) (n0 : Int) (Q : Post) : denF Go.Proofs.Tryz.prog 0 (⟨[], []⟩) I 162 [V.one (Cell.int IntKind.u8 n0)] Q = vc162 I n0 Q := by kernel_rfl
/-- (*handbill/segment.parser).numberEnd -/
def vc163 (I : FuncId → List V → Post → T) (p0 : Option (Nat × Nat)) (n1 : Int) (Q : Post) : T :=
 joinK (A := Bool)
 (fun b2 => ifT b2
 (fun h3 =>
 I 158 [.one (.ptr p0), .one (.int .i64 (IntKind.i64.wrap (n1 + 1))), .one (.func (some (162, [])))]
 (fun cs4 h5 =>
 ∃ n6 : Int, (cs4 = [.one (.int .i64 n6)]) ∧
 (ifT (decide (n6 > IntKind.i64.wrap (n1 + 1)))
 (Q [.one (.int .i64 n6)])
 (Q [.one (.int .i64 n1)])) h5) h3)
 (fun h7 =>
 I 158 [.one (.ptr p0), .one (.int .i64 n1), .one (.func (some (162, [])))]
 (fun cs8 h9 =>
 ∃ n10 : Int, (cs8 = [.one (.int .i64 n10)]) ∧
 (ifT (decide (n10 > n1))
 (Q [.one (.int .i64 n10)])
 (Q [.one (.int .i64 n1)])) h9) h7))
 (fun x11 => derefK p0 (fun i12 => fun i13 h14 =>
 ∃ s15 : ByteArray, (h14.read i12 (i13 + 0) 1 = some [.str s15]) ∧
 (ifT (decide (n1 < (↑s15.size : Int)))
 (derefK p0 (fun i16 => fun i17 h18 =>
 ∃ s19 : ByteArray, (h18.read i16 (i17 + 0) 1 = some [.str s19]) ∧
 ((0 ≤ n1) ∧
 n1 < (↑s19.size : Int)) ∧
 x11 (decide (byteAt s19 n1 = 45)) h18))
 (x11 false)) h14))
theorem den163 (I : FuncId → List V → Post → T) (p0 : Option (Nat × Nat)) (n1 : Int) (Q : Post) : denF Go.Proofs.Tryz.prog 0 (⟨[(28, 16776960, [(23, tk Go.Proofs.Tryz.prog 4)])], []⟩) I 163 [V.one (Cell.ptr p0), V.one (Cell.int IntKind.i64 n1)] Q = vc163 I p0 n1 Q := by kernel_rfl
/-- handbill/person.Unquote -/
def vc164 (I : FuncId → List V → Post → T) (s0 : ByteArray) (Q : Post) : T :=
 joinK (A := Bool)
 (fun b1 => ifT b1
 (Q [.one (.str { data := #[] }), .one (.int .i64 0), .one (.int .i64 9)])
 (loopK (A := Sl × Int) (({ a := none, len := 0 }, 1))
 (fun x2 => uncur fun l3 n4 => ifT (decide (n4 < (↑s0.size : Int)))
 (fun h5 =>
 ((0 ≤ n4) ∧
 n4 < (↑s0.size : Int)) ∧
 (ifT (decide (byteAt s0 n4 = 34))
 (fun h6 =>
 ∃ s7 : ByteArray, (h6.sl 1 l3 = some (byteCells s7)) ∧
 Q [.one (.str s7), .one (.int .i64 (IntKind.i64.wrap (n4 + 1))), .one (.int .i64 0)] h6)
 (ifT (decide (byteAt s0 n4 = 92))
 (fun h8 =>
 ((0 ≤ IntKind.i64.wrap (n4 + 1)) ∧
 (IntKind.i64.wrap (n4 + 1) ≤ (↑s0.size : Int)) ∧
 (↑s0.size : Int) ≤ (↑s0.size : Int)) ∧
 I 210 [.one (.str (s0.extract (IntKind.i64.wrap (n4 + 1)).toNat (↑s0.size : Int).toNat))]
 (fun cs9 h10 =>
 ∃ n11 : Int, ∃ n12 : Int, (cs9 = [.one (.int .u8 n11), .one (.int .i64 n12)]) ∧
 (ifT (decide (n12 = 0))
 (Q [.one (.str { data := #[] }), .one (.int .i64 0), .one (.int .i64 9)])
 (fun h13 =>
 (appendTo [] 1 1 l3 1 [.int .u8 n11] (fun l14 h15 =>
 x2 ((l14, IntKind.i64.wrap (n4 + IntKind.i64.wrap (1 + n12)))) h15)) h13)) h10) h8)
 (fun h16 =>
 I 211 [.one (.int .u8 (byteAt s0 n4))]
 (fun cs17 h18 =>
 ∃ b19 : Bool, (cs17 = [.one (.bool b19)]) ∧
 (ifT b19
 (Q [.one (.str { data := #[] }), .one (.int .i64 0), .one (.int .i64 9)])
 (ifT (decide (byteAt s0 n4 = 10))
 (Q [.one (.str { data := #[] }), .one (.int .i64 0), .one (.int .i64 9)])
 (fun h20 =>
 (appendTo [] 1 1 l3 1 [.int .u8 (byteAt s0 n4)] (fun l21 h22 =>
 x2 ((l21, IntKind.i64.wrap (n4 + 1))) h22)) h20))) h18) h16))) h5)
 (Q [.one (.str { data := #[] }), .one (.int .i64 0), .one (.int .i64 9)]))))
 (fun x23 => ifT (decide (s0 = { data := #[] }))
 (x23 true)
 (fun h24 =>
 (((0 : Int) ≤ (0 : Int)) ∧
 0 < (↑s0.size : Int)) ∧
 x23 (!decide (byteAt s0 0 = 34)) h24))
theorem den164 (I : FuncId → List V → Post → T) (s0 : ByteArray) (Q : Post) : denF Go.Proofs.Tryz.prog 0 (⟨[(12, 130048, [(16, tk Go.Proofs.Tryz.prog 4)])], [(122, 36893488147418973180, [(5, tk Go.Proofs.Tryz.prog 164), (6, tk Go.Proofs.Tryz.prog 3)])]⟩) I 164 [V.one (Cell.str s0)] Q = vc164 I s0 Q := by kernel_rfl
/-- handbill/person.escaped -/
def vc210 (I : FuncId → List V → Post → T) (s0 : ByteArray) (Q : Post) : T :=
 ifT (decide (s0 = { data := #[] }))
 (Q [.one (.int .u8 0), .one (.int .i64 0)])
 (fun h1 =>
 (((0 : Int) ≤ (0 : Int)) ∧
 0 < (↑s0.size : Int)) ∧
 (joinK (A := Bool)
 (fun b2 => ifT b2
 (fun h3 =>
 (((0 : Int) ≤ (0 : Int)) ∧
 0 < (↑s0.size : Int)) ∧
 Q [.one (.int .u8 (byteAt s0 0)), .one (.int .i64 1)] h3)
 (ifT (decide (byteAt s0 0 = 110))
 (Q [.one (.int .u8 10), .one (.int .i64 1)])
 (ifT (decide (byteAt s0 0 = 120))
 (ifT (decide ((↑s0.size : Int) < 3))
 (Q [.one (.int .u8 0), .one (.int .i64 0)])
 (fun h4 =>
 (((0 : Int) ≤ (1 : Int)) ∧
 1 < (↑s0.size : Int)) ∧
 (((0 : Int) ≤ (2 : Int)) ∧
 2 < (↑s0.size : Int)) ∧
 I 165 [.one (.str { data := #[48, 49, 50, 51, 52, 53, 54, 55, 56, 57, 97, 98, 99, 100, 101, 102] }), .one (.int .u8 (byteAt s0 1))]
 (fun cs5 h6 =>
 ∃ n7 : Int, (cs5 = [.one (.int .i64 n7)]) ∧
 I 165 [.one (.str { data := #[48, 49, 50, 51, 52, 53, 54, 55, 56, 57, 97, 98, 99, 100, 101, 102] }), .one (.int .u8 (byteAt s0 2))]
 (fun cs8 h9 =>
 ∃ n10 : Int, (cs8 = [.one (.int .i64 n10)]) ∧
 (joinK (A := Bool)
 (fun b11 => ifT b11
 (Q [.one (.int .u8 0), .one (.int .i64 0)])
 (fun h12 =>
 I 211 [.one (.int .u8 (IntKind.u8.wrap (IntKind.i64.wrap (IntKind.i64.wrap (16 * n7) + n10))))]
 (fun cs13 h14 =>
 ∃ b15 : Bool, (cs13 = [.one (.bool b15)]) ∧
 (ifT b15
 (Q [.one (.int .u8 (IntKind.u8.wrap (IntKind.i64.wrap (IntKind.i64.wrap (16 * n7) + n10)))), .one (.int .i64 3)])
 (Q [.one (.int .u8 0), .one (.int .i64 0)])) h14) h12))
 (fun x16 => ifT (decide (n7 < 0))
 (x16 true)
 (x16 (decide (n10 < 0))))) h9) h6) h4))
 (Q [.one (.int .u8 0), .one (.int .i64 0)]))))
 (fun x17 => ifT (decide (byteAt s0 0 = 34))
 (x17 (decide (byteAt s0 0 = 34)))
 (x17 (decide (byteAt s0 0 = 92))))) h1)
theorem den210 (I : FuncId → List V → Post → T) (s0 : ByteArray) (Q : Post) : denF Go.Proofs.Tryz.prog 0 (⟨[(233, 10240, [(11, tk Go.Proofs.Tryz.prog 4)]), (60396, 33822867456, [(34, tk Go.Proofs.Tryz.prog 4)])], []⟩) I 210 [V.one (Cell.str s0)] Q = vc210 I s0 Q := by kernel_rfl
/-- handbill/person.hidden -/
def vc211 (I : FuncId → List V → Post → T) (n0 : Int) (Q : Post) : T :=
 ifT (decide (n0 < 33))
 (ifT (!decide (n0 = 10))
 (Q [.one (.bool true)])
 (Q [.one (.bool (decide (n0 ≥ 127)))]))
 (Q [.one (.bool (decide (n0 ≥ 127)))])
theorem den211 (I : FuncId → List V → Post → T) (n0 : Int) (Q : Post) : denF Go.Proofs.Tryz.prog 0 (⟨[], []⟩) I 211 [V.one (Cell.int IntKind.u8 n0)] Q = vc211 I n0 Q := by kernel_rfl
/-- (*handbill/segment.parser).or -/
def vc114 (I : FuncId → List V → Post → T) (p0 : Option (Nat × Nat)) (Q : Post) : T :=
 derefK p0 (fun i1 => fun i2 h3 =>
 I 166 [.one (.ptr p0), .one (.int .i64 4), .one (.str { data := #[111, 114] }), .one (.func (some (4263, [(i1, i2)])))]
 (fun cs4 h5 =>
 ∃ n6 : Int, ∃ s7 : ByteArray, ∃ s8 : ByteArray, ∃ s9 : ByteArray, ∃ l10 : Sl, ∃ l11 : Sl, ∃ n12 : Int, ∃ n13 : Int, ∃ l14 : Sl, (cs4 = [.agg [.int .i64 n6, .str s7, .str s8, .str s9, .slice 3 l10, .slice 5 l11, .int .i64 n12, .int .i64 n13, .slice 9 l14]]) ∧
 Q [.agg [.int .i64 n6, .str s7, .str s8, .str s9, .slice 3 l10, .slice 5 l11, .int .i64 n12, .int .i64 n13, .slice 9 l14]] h5) h3)
theorem den114 (I : FuncId → List V → Post → T) (p0 : Option (Nat × Nat)) (Q : Post) : denF Go.Proofs.Tryz.prog 4 (⟨[], []⟩) I 114 [V.one (Cell.ptr p0)] Q = vc114 I p0 Q := by kernel_rfl
/-- (*handbill/segment.parser).row -/
def vc166 (I : FuncId → List V → Post → T) (p0 : Option (Nat × Nat)) (n1 : Int) (s2 : ByteArray) (p3 : Option (Nat × List (Nat × Nat))) (Q : Post) : T :=
 fun h4 =>
 (funK p3 (fun i5 => fun cs6 h7 =>
 I i5 ([] ++ cs6)
 (fun cs8 h9 =>
 ∃ n10 : Int, ∃ s11 : ByteArray, ∃ s12 : ByteArray, ∃ s13 : ByteArray, ∃ l14 : Sl, ∃ l15 : Sl, ∃ n16 : Int, ∃ n17 : Int, ∃ l18 : Sl, (cs8 = [.agg [.int .i64 n10, .str s11, .str s12, .str s13, .slice 3 l14, .slice 5 l15, .int .i64 n16, .int .i64 n17, .slice 9 l18]]) ∧
 (newK (.cells false [.int .i64 n10, .str s11, .str s12, .str s13, .slice 3 l14, .slice 5 l15, .int .i64 n16, .int .i64 n17, .slice 9 l18]) (fun i19 => loopK (A := Sl) ({ a := some (i19, 0), len := 1 })
 (fun x20 => fun l21 h22 =>
 I 213 [.one (.ptr p0), .one (.str s2)]
 (fun cs23 h24 =>
 ∃ b25 : Bool, (cs23 = [.one (.bool b25)]) ∧
 (ifT b25
 (fun h26 =>
 (funK p3 (fun i27 => fun cs28 h29 =>
 I i27 ([] ++ cs28)
 (fun cs30 h31 =>
 ∃ n32 : Int, ∃ s33 : ByteArray, ∃ s34 : ByteArray, ∃ s35 : ByteArray, ∃ l36 : Sl, ∃ l37 : Sl, ∃ n38 : Int, ∃ n39 : Int, ∃ l40 : Sl, (cs30 = [.agg [.int .i64 n32, .str s33, .str s34, .str s35, .slice 3 l36, .slice 5 l37, .int .i64 n38, .int .i64 n39, .slice 9 l40]]) ∧
 (appendTo [] 9 144 l21 1 [.int .i64 n32, .str s33, .str s34, .str s35, .slice 3 l36, .slice 5 l37, .int .i64 n38, .int .i64 n39, .slice 9 l40] (fun l41 h42 =>
 x20 l41 h42)) h31) h29)) h26)
 (ifT (decide ((↑l21.len : Int) = 1))
 (fun h43 =>
 (((0 : Int) ≤ (0 : Int)) ∧
 0 < (↑l21.len : Int)) ∧
 (derefK l21.a (fun i44 => fun i45 h46 =>
 ∃ n47 : Int, ∃ s48 : ByteArray, ∃ s49 : ByteArray, ∃ s50 : ByteArray, ∃ l51 : Sl, ∃ l52 : Sl, ∃ n53 : Int, ∃ n54 : Int, ∃ l55 : Sl, (h46.read i44 (i45 + 0) 9 = some [.int .i64 n47, .str s48, .str s49, .str s50, .slice 3 l51, .slice 5 l52, .int .i64 n53, .int .i64 n54, .slice 9 l55]) ∧
 Q [.agg [.int .i64 n47, .str s48, .str s49, .str s50, .slice 3 l51, .slice 5 l52, .int .i64 n53, .int .i64 n54, .slice 9 l55]] h46)) h43)
 (fun h56 =>
 Q [.agg [.int .i64 n1, .str ByteArray.empty, .str ByteArray.empty, .str ByteArray.empty, .slice 3 { a := none, len := 0 }, .slice 5 { a := none, len := 0 }, .int .i64 0, .int .i64 0, .slice 9 l21]] h56))) h24) h22))) h9) h7)) h4
theorem den166 (I : FuncId → List V → Post → T) (p0 : Option (Nat × Nat)) (n1 : Int) (s2 : ByteArray) (p3 : Option (Nat × List (Nat × Nat))) (Q : Post) : denF Go.Proofs.Tryz.prog 256 (⟨[], [(28, 2089472, [(9, tk Go.Proofs.Tryz.prog 28)])]⟩) I 166 [V.one (Cell.ptr p0), V.one (Cell.int IntKind.i64 n1), V.one (Cell.str s2), V.one (Cell.func p3)] Q = vc166 I p0 n1 s2 p3 Q := by kernel_rfl
/-- (*handbill/segment.parser).take -/
def vc213 (I : FuncId → List V → Post → T) (p0 : Option (Nat × Nat)) (s1 : ByteArray) (Q : Post) : T :=
 fun h2 =>
 I 247 [.one (.ptr p0), .one (.str s1)]
 (fun cs3 h4 =>
 ∃ b5 : Bool, (cs3 = [.one (.bool b5)]) ∧
 (ifT (!b5)
 (Q [.one (.bool false)])
 (fun h6 =>
 I 113 [.one (.ptr p0)]
 (fun cs7 h8 =>
 (cs7 = []) ∧
 Q [.one (.bool true)] h8) h6)) h4) h2
theorem den213 (I : FuncId → List V → Post → T) (p0 : Option (Nat × Nat)) (s1 : ByteArray) (Q : Post) : denF Go.Proofs.Tryz.prog 0 (⟨[], []⟩) I 213 [V.one (Cell.ptr p0), V.one (Cell.str s1)] Q = vc213 I p0 s1 Q := by kernel_rfl
/-- (*handbill/segment.parser).is -/
def vc247 (I : FuncId → List V → Post → T) (p0 : Option (Nat × Nat)) (s1 : ByteArray) (Q : Post) : T :=
 derefK p0 (fun i2 => fun i3 h4 =>
 ∃ n5 : Int, (h4.read i2 (i3 + 2 + 0) 1 = some [.int .i64 n5]) ∧
 (ifT (decide (n5 = 1))
 (derefK p0 (fun i6 => fun i7 h8 =>
 ∃ s9 : ByteArray, (h8.read i6 (i7 + 2 + 2) 1 = some [.str s9]) ∧
 Q [.one (.bool (decide (s9 = s1)))] h8))
 (derefK p0 (fun i10 => fun i11 h12 =>
 ∃ n13 : Int, (h12.read i10 (i11 + 2 + 0) 1 = some [.int .i64 n13]) ∧
 (ifT (decide (n13 = 5))
 (derefK p0 (fun i14 => fun i15 h16 =>
 ∃ s17 : ByteArray, (h16.read i14 (i15 + 2 + 2) 1 = some [.str s17]) ∧
 Q [.one (.bool (decide (s17 = s1)))] h16))
 (Q [.one (.bool false)])) h12))) h4)
theorem den247 (I : FuncId → List V → Post → T) (p0 : Option (Nat × Nat)) (s1 : ByteArray) (Q : Post) : denF Go.Proofs.Tryz.prog 0 (⟨[], []⟩) I 247 [V.one (Cell.ptr p0), V.one (Cell.str s1)] Q = vc247 I p0 s1 Q := by kernel_rfl
/-- (*handbill/segment.parser).and -/
def vc167 (I : FuncId → List V → Post → T) (p0 : Option (Nat × Nat)) (Q : Post) : T :=
 derefK p0 (fun i1 => fun i2 h3 =>
 I 166 [.one (.ptr p0), .one (.int .i64 3), .one (.str { data := #[97, 110, 100] }), .one (.func (some (4310, [(i1, i2)])))]
 (fun cs4 h5 =>
 ∃ n6 : Int, ∃ s7 : ByteArray, ∃ s8 : ByteArray, ∃ s9 : ByteArray, ∃ l10 : Sl, ∃ l11 : Sl, ∃ n12 : Int, ∃ n13 : Int, ∃ l14 : Sl, (cs4 = [.agg [.int .i64 n6, .str s7, .str s8, .str s9, .slice 3 l10, .slice 5 l11, .int .i64 n12, .int .i64 n13, .slice 9 l14]]) ∧
 Q [.agg [.int .i64 n6, .str s7, .str s8, .str s9, .slice 3 l10, .slice 5 l11, .int .i64 n12, .int .i64 n13, .slice 9 l14]] h5) h3)
theorem den167 (I : FuncId → List V → Post → T) (p0 : Option (Nat × Nat)) (Q : Post) : denF Go.Proofs.Tryz.prog 4 (⟨[], []⟩) I 167 [V.one (Cell.ptr p0)] Q = vc167 I p0 Q := by kernel_rfl
/-- (*handbill/segment.parser).not -/
def vc214 (I : FuncId → List V → Post → T) (p0 : Option (Nat × Nat)) (Q : Post) : T :=
 fun h1 =>
 I 213 [.one (.ptr p0), .one (.str { data := #[110, 111, 116] })]
 (fun cs2 h3 =>
 ∃ b4 : Bool, (cs2 = [.one (.bool b4)]) ∧
 (ifT b4
 (fun h5 =>
 I 214 [.one (.ptr p0)]
 (fun cs6 h7 =>
 ∃ n8 : Int, ∃ s9 : ByteArray, ∃ s10 : ByteArray, ∃ s11 : ByteArray, ∃ l12 : Sl, ∃ l13 : Sl, ∃ n14 : Int, ∃ n15 : Int, ∃ l16 : Sl, (cs6 = [.agg [.int .i64 n8, .str s9, .str s10, .str s11, .slice 3 l12, .slice 5 l13, .int .i64 n14, .int .i64 n15, .slice 9 l16]]) ∧
 (newK (.cells false [.int .i64 n8, .str s9, .str s10, .str s11, .slice 3 l12, .slice 5 l13, .int .i64 n14, .int .i64 n15, .slice 9 l16]) (fun i17 h18 =>
 Q [.agg [.int .i64 5, .str ByteArray.empty, .str ByteArray.empty, .str ByteArray.empty, .slice 3 { a := none, len := 0 }, .slice 5 { a := none, len := 0 }, .int .i64 0, .int .i64 0, .slice 9 { a := some (i17, 0), len := 1 }]] h18)) h7) h5)
 (fun h19 =>
 I 248 [.one (.ptr p0)]
 (fun cs20 h21 =>
 ∃ n22 : Int, ∃ s23 : ByteArray, ∃ s24 : ByteArray, ∃ s25 : ByteArray, ∃ l26 : Sl, ∃ l27 : Sl, ∃ n28 : Int, ∃ n29 : Int, ∃ l30 : Sl, (cs20 = [.agg [.int .i64 n22, .str s23, .str s24, .str s25, .slice 3 l26, .slice 5 l27, .int .i64 n28, .int .i64 n29, .slice 9 l30]]) ∧
 Q [.agg [.int .i64 n22, .str s23, .str s24, .str s25, .slice 3 l26, .slice 5 l27, .int .i64 n28, .int .i64 n29, .slice 9 l30]] h21) h19)) h3) h1
theorem den214 (I : FuncId → List V → Post → T) (p0 : Option (Nat × Nat)) (Q : Post) : denF Go.Proofs.Tryz.prog 4 (⟨[], []⟩) I 214 [V.one (Cell.ptr p0)] Q = vc214 I p0 Q := by kernel_rfl
/-- (*handbill/segment.parser).primary -/
def vc248 (I : FuncId → List V → Post → T) (p0 : Option (Nat × Nat)) (Q : Post) : T :=
 fun h1 =>
 I 213 [.one (.ptr p0), .one (.str { data := #[40] })]
 (fun cs2 h3 =>
 ∃ b4 : Bool, (cs2 = [.one (.bool b4)]) ∧
 (ifT b4
 (fun h5 =>
 I 114 [.one (.ptr p0)]
 (fun cs6 h7 =>
 ∃ n8 : Int, ∃ s9 : ByteArray, ∃ s10 : ByteArray, ∃ s11 : ByteArray, ∃ l12 : Sl, ∃ l13 : Sl, ∃ n14 : Int, ∃ n15 : Int, ∃ l16 : Sl, (cs6 = [.agg [.int .i64 n8, .str s9, .str s10, .str s11, .slice 3 l12, .slice 5 l13, .int .i64 n14, .int .i64 n15, .slice 9 l16]]) ∧
 I 264 [.one (.ptr p0), .one (.str { data := #[41] })]
 (fun cs17 h18 =>
 (cs17 = []) ∧
 Q [.agg [.int .i64 n8, .str s9, .str s10, .str s11, .slice 3 l12, .slice 5 l13, .int .i64 n14, .int .i64 n15, .slice 9 l16]] h18) h7) h5)
 (fun h19 =>
 I 213 [.one (.ptr p0), .one (.str { data := #[97, 108, 108] })]
 (fun cs20 h21 =>
 ∃ b22 : Bool, (cs20 = [.one (.bool b22)]) ∧
 (ifT b22
 (fun h23 =>
 Q [.agg [.int .i64 1, .str ByteArray.empty, .str ByteArray.empty, .str ByteArray.empty, .slice 3 { a := none, len := 0 }, .slice 5 { a := none, len := 0 }, .int .i64 0, .int .i64 0, .slice 9 { a := none, len := 0 }]] h23)
 (fun h24 =>
 I 213 [.one (.ptr p0), .one (.str { data := #[110, 111, 110, 101] })]
 (fun cs25 h26 =>
 ∃ b27 : Bool, (cs25 = [.one (.bool b27)]) ∧
 (ifT b27
 (fun h28 =>
 Q [.agg [.int .i64 2, .str ByteArray.empty, .str ByteArray.empty, .str ByteArray.empty, .slice 3 { a := none, len := 0 }, .slice 5 { a := none, len := 0 }, .int .i64 0, .int .i64 0, .slice 9 { a := none, len := 0 }]] h28)
 (fun h29 =>
 I 213 [.one (.ptr p0), .one (.str { data := #[104, 97, 115] })]
 (fun cs30 h31 =>
 ∃ b32 : Bool, (cs30 = [.one (.bool b32)]) ∧
 (ifT b32
 (fun h33 =>
 I 265 [.one (.ptr p0)]
 (fun cs34 h35 =>
 ∃ s36 : ByteArray, (cs34 = [.one (.str s36)]) ∧
 Q [.agg [.int .i64 6, .str s36, .str ByteArray.empty, .str ByteArray.empty, .slice 3 { a := none, len := 0 }, .slice 5 { a := none, len := 0 }, .int .i64 0, .int .i64 0, .slice 9 { a := none, len := 0 }]] h35) h33)
 (fun h37 =>
 I 213 [.one (.ptr p0), .one (.str { data := #[99, 111, 117, 110, 116] })]
 (fun cs38 h39 =>
 ∃ b40 : Bool, (cs38 = [.one (.bool b40)]) ∧
 (ifT b40
 (fun h41 =>
 I 266 [.one (.ptr p0), .one (.int .i64 11)]
 (fun cs42 h43 =>
 ∃ n44 : Int, ∃ s45 : ByteArray, ∃ s46 : ByteArray, ∃ s47 : ByteArray, ∃ l48 : Sl, ∃ l49 : Sl, ∃ n50 : Int, ∃ n51 : Int, ∃ l52 : Sl, (cs42 = [.agg [.int .i64 n44, .str s45, .str s46, .str s47, .slice 3 l48, .slice 5 l49, .int .i64 n50, .int .i64 n51, .slice 9 l52]]) ∧
 Q [.agg [.int .i64 n44, .str s45, .str s46, .str s47, .slice 3 l48, .slice 5 l49, .int .i64 n50, .int .i64 n51, .slice 9 l52]] h43) h41)
 (fun h53 =>
 I 213 [.one (.ptr p0), .one (.str { data := #[115, 117, 109] })]
 (fun cs54 h55 =>
 ∃ b56 : Bool, (cs54 = [.one (.bool b56)]) ∧
 (ifT b56
 (fun h57 =>
 I 266 [.one (.ptr p0), .one (.int .i64 12)]
 (fun cs58 h59 =>
 ∃ n60 : Int, ∃ s61 : ByteArray, ∃ s62 : ByteArray, ∃ s63 : ByteArray, ∃ l64 : Sl, ∃ l65 : Sl, ∃ n66 : Int, ∃ n67 : Int, ∃ l68 : Sl, (cs58 = [.agg [.int .i64 n60, .str s61, .str s62, .str s63, .slice 3 l64, .slice 5 l65, .int .i64 n66, .int .i64 n67, .slice 9 l68]]) ∧
 Q [.agg [.int .i64 n60, .str s61, .str s62, .str s63, .slice 3 l64, .slice 5 l65, .int .i64 n66, .int .i64 n67, .slice 9 l68]] h59) h57)
 (fun h69 =>
 I 213 [.one (.ptr p0), .one (.str { data := #[115, 105, 110, 99, 101] })]
 (fun cs70 h71 =>
 ∃ b72 : Bool, (cs70 = [.one (.bool b72)]) ∧
 (ifT b72
 (fun h73 =>
 I 266 [.one (.ptr p0), .one (.int .i64 13)]
 (fun cs74 h75 =>
 ∃ n76 : Int, ∃ s77 : ByteArray, ∃ s78 : ByteArray, ∃ s79 : ByteArray, ∃ l80 : Sl, ∃ l81 : Sl, ∃ n82 : Int, ∃ n83 : Int, ∃ l84 : Sl, (cs74 = [.agg [.int .i64 n76, .str s77, .str s78, .str s79, .slice 3 l80, .slice 5 l81, .int .i64 n82, .int .i64 n83, .slice 9 l84]]) ∧
 Q [.agg [.int .i64 n76, .str s77, .str s78, .str s79, .slice 3 l80, .slice 5 l81, .int .i64 n82, .int .i64 n83, .slice 9 l84]] h75) h73)
 (fun h85 =>
 I 213 [.one (.ptr p0), .one (.str { data := #[116, 104, 101, 110] })]
 (fun cs86 h87 =>
 ∃ b88 : Bool, (cs86 = [.one (.bool b88)]) ∧
 (ifT b88
 (fun h89 =>
 I 266 [.one (.ptr p0), .one (.int .i64 14)]
 (fun cs90 h91 =>
 ∃ n92 : Int, ∃ s93 : ByteArray, ∃ s94 : ByteArray, ∃ s95 : ByteArray, ∃ l96 : Sl, ∃ l97 : Sl, ∃ n98 : Int, ∃ n99 : Int, ∃ l100 : Sl, (cs90 = [.agg [.int .i64 n92, .str s93, .str s94, .str s95, .slice 3 l96, .slice 5 l97, .int .i64 n98, .int .i64 n99, .slice 9 l100]]) ∧
 Q [.agg [.int .i64 n92, .str s93, .str s94, .str s95, .slice 3 l96, .slice 5 l97, .int .i64 n98, .int .i64 n99, .slice 9 l100]] h91) h89)
 (fun h101 =>
 I 267 [.one (.ptr p0)]
 (fun cs102 h103 =>
 ∃ n104 : Int, ∃ s105 : ByteArray, ∃ s106 : ByteArray, ∃ s107 : ByteArray, ∃ l108 : Sl, ∃ l109 : Sl, ∃ n110 : Int, ∃ n111 : Int, ∃ l112 : Sl, (cs102 = [.agg [.int .i64 n104, .str s105, .str s106, .str s107, .slice 3 l108, .slice 5 l109, .int .i64 n110, .int .i64 n111, .slice 9 l112]]) ∧
 Q [.agg [.int .i64 n104, .str s105, .str s106, .str s107, .slice 3 l108, .slice 5 l109, .int .i64 n110, .int .i64 n111, .slice 9 l112]] h103) h101)) h87) h85)) h71) h69)) h55) h53)) h39) h37)) h31) h29)) h26) h24)) h21) h19)) h3) h1
theorem den248 (I : FuncId → List V → Post → T) (p0 : Option (Nat × Nat)) (Q : Post) : denF Go.Proofs.Tryz.prog 12 (⟨[], []⟩) I 248 [V.one (Cell.ptr p0)] Q = vc248 I p0 Q := by kernel_rfl
/-- (*handbill/segment.parser).want -/
def vc264 (I : FuncId → List V → Post → T) (p0 : Option (Nat × Nat)) (s1 : ByteArray) (Q : Post) : T :=
 fun h2 =>
 I 213 [.one (.ptr p0), .one (.str s1)]
 (fun cs3 h4 =>
 ∃ b5 : Bool, (cs3 = [.one (.bool b5)]) ∧
 (ifT (!b5)
 (fun h6 =>
 I 115 [.one (.ptr p0)]
 (fun cs7 h8 =>
 (cs7 = []) ∧
 Q [] h8) h6)
 (Q [])) h4) h2
theorem den264 (I : FuncId → List V → Post → T) (p0 : Option (Nat × Nat)) (s1 : ByteArray) (Q : Post) : denF Go.Proofs.Tryz.prog 0 (⟨[], []⟩) I 264 [V.one (Cell.ptr p0), V.one (Cell.str s1)] Q = vc264 I p0 s1 Q := by kernel_rfl
/-- (*handbill/segment.parser).name -/
def vc265 (I : FuncId → List V → Post → T) (p0 : Option (Nat × Nat)) (Q : Post) : T :=
 derefK p0 (fun i1 => fun i2 h3 =>
 ∃ s4 : ByteArray, (h3.read i1 (i2 + 2 + 2) 1 = some [.str s4]) ∧
 (joinK (A := Bool)
 (fun b5 => ifT b5
 (fun h6 =>
 I 115 [.one (.ptr p0)]
 (fun cs7 h8 =>
 (cs7 = []) ∧
 I 113 [.one (.ptr p0)]
 (fun cs9 h10 =>
 (cs9 = []) ∧
 Q [.one (.str s4)] h10) h8) h6)
 (fun h11 =>
 I 113 [.one (.ptr p0)]
 (fun cs12 h13 =>
 (cs12 = []) ∧
 Q [.one (.str s4)] h13) h11))
 (fun x14 => derefK p0 (fun i15 => fun i16 h17 =>
 ∃ n18 : Int, (h17.read i15 (i16 + 2 + 0) 1 = some [.int .i64 n18]) ∧
 (ifT (!decide (n18 = 1))
 (x14 true)
 (fun h19 =>
 I 172 [.one (.str s4)]
 (fun cs20 h21 =>
 ∃ b22 : Bool, (cs20 = [.one (.bool b22)]) ∧
 x14 (!b22) h21) h19)) h17))) h3)
theorem den265 (I : FuncId → List V → Post → T) (p0 : Option (Nat × Nat)) (Q : Post) : denF Go.Proofs.Tryz.prog 0 (⟨[(28, 1048064, [(19, tk Go.Proofs.Tryz.prog 4)])], []⟩) I 265 [V.one (Cell.ptr p0)] Q = vc265 I p0 Q := by kernel_rfl
end Go.Proofs.YteldpijfienopaaGreatDoorVc
