/- CondChecks: what the functions mean, function by function. -/
import Derived.Test.YtadakbmoanbcgaaGreatDoorVcOwns
import Derived.Test.YtadakbmoanbcgaaGreatDoorVcBits
import Derived.Test.YtadakbmoanbcgaaGreatDoorProg
set_option linter.unusedVariables false
set_option maxRecDepth 100000
namespace Go.Proofs.YtadakbmoanbcgaaGreatDoorVc
/-- handbill/handlaw1.CondChecks -/
def vc3 (I : FuncId → List V → Post → T) (l0 : Sl) (Q : Post) : T :=
 fun h1 =>
 (newK (.cells false [.slice 1 l0, .int .i64 0]) (fun i2 h3 =>
 I 4 [.one (.ptr (some (i2, 0))), .one (.int .i64 3)]
 (fun cs4 h5 =>
 ∃ n6 : Int, ∃ s7 : ByteArray, ∃ s8 : ByteArray, ∃ s9 : ByteArray, ∃ l10 : Sl, ∃ l11 : Sl, ∃ n12 : Int, ∃ n13 : Int, ∃ l14 : Sl, (cs4 = [.agg [.int .i64 n6, .str s7, .str s8, .str s9, .slice 3 l10, .slice 5 l11, .int .i64 n12, .int .i64 n13, .slice 9 l14]]) ∧
 I 5 [.one (.ptr (some (i2, 0))), .one (.int .i64 3)]
 (fun cs15 h16 =>
 ∃ b17 : Bool, (cs15 = [.one (.bool b17)]) ∧
 (joinK (A := Int × ByteArray × ByteArray × ByteArray × Sl × Sl × Int × Int × Sl × PUnit)
 (uncur fun n18 => uncur fun s19 => uncur fun s20 => uncur fun s21 => uncur fun l22 => uncur fun l23 => uncur fun n24 => uncur fun n25 => uncur fun l26 x27 => fun h28 =>
 I 7 []
 (fun cs29 h30 =>
 ∃ b31 : Bool, (cs29 = [.one (.bool b31)]) ∧
 (ifT b31
 (fun h32 =>
 I 8 [.agg [.int .i64 n18, .str s19, .str s20, .str s21, .slice 3 l22, .slice 5 l23, .int .i64 n24, .int .i64 n25, .slice 9 l26]]
 (fun cs33 h34 =>
 ∃ n35 : Int, (cs33 = [.one (.int .i64 n35)]) ∧
 I 9 [.agg [.int .i64 n18, .str s19, .str s20, .str s21, .slice 3 l22, .slice 5 l23, .int .i64 n24, .int .i64 n25, .slice 9 l26]]
 (fun cs36 h37 =>
 ∃ n38 : Int, (cs36 = [.one (.int .i64 n38)]) ∧
 Q [.one (.bool (decide (n35 = n38)))] h37) h34) h32)
 (Q [.one (.bool false)])) h30) h28)
 (fun x39 => ifT (!b17)
 (fun h40 =>
 I 6 [.one (.ptr (some (i2, 0))), .agg [.int .i64 n6, .str s7, .str s8, .str s9, .slice 3 l10, .slice 5 l11, .int .i64 n12, .int .i64 n13, .slice 9 l14]]
 (fun cs41 h42 =>
 ∃ n43 : Int, ∃ s44 : ByteArray, ∃ s45 : ByteArray, ∃ s46 : ByteArray, ∃ l47 : Sl, ∃ l48 : Sl, ∃ n49 : Int, ∃ n50 : Int, ∃ l51 : Sl, (cs41 = [.agg [.int .i64 n43, .str s44, .str s45, .str s46, .slice 3 l47, .slice 5 l48, .int .i64 n49, .int .i64 n50, .slice 9 l51]]) ∧
 x39 ((n43, s44, s45, s46, l47, l48, n49, n50, l51, ())) h42) h40)
 (x39 ((n6, s7, s8, s9, l10, l11, n12, n13, l14, ()))))) h16) h5) h3)) h1
theorem den3 (I : FuncId → List V → Post → T) (l0 : Sl) (Q : Post) : denF Go.Proofs.Tryz.prog 16 (⟨[(61, 57360, [(4, tvar Go.Proofs.Tryz.prog 30)])], []⟩) I 3 [V.one (Cell.slice 1 l0)] Q = vc3 I l0 Q := by kernel_rfl
/-- (*handbill/handmake.Stream).Cond -/
def vc4 (I : FuncId → List V → Post → T) (p0 : Option (Nat × Nat)) (n1 : Int) (Q : Post) : T :=
 joinK (A := Bool)
 (fun b2 => ifT b2
 (fun h3 =>
 I 10 [.one (.ptr p0)]
 (fun cs4 h5 =>
 ∃ n6 : Int, ∃ s7 : ByteArray, ∃ s8 : ByteArray, ∃ s9 : ByteArray, ∃ l10 : Sl, ∃ l11 : Sl, ∃ n12 : Int, ∃ n13 : Int, ∃ l14 : Sl, (cs4 = [.agg [.int .i64 n6, .str s7, .str s8, .str s9, .slice 3 l10, .slice 5 l11, .int .i64 n12, .int .i64 n13, .slice 9 l14]]) ∧
 Q [.agg [.int .i64 n6, .str s7, .str s8, .str s9, .slice 3 l10, .slice 5 l11, .int .i64 n12, .int .i64 n13, .slice 9 l14]] h5) h3)
 (fun h15 =>
 (newK (.cells false [.int .i64 3, .int .i64 4, .int .i64 5]) (fun i16 h17 =>
 I 11 [.one (.ptr p0), .one (.slice 1 { a := some (i16, 0), len := 3 })]
 (fun cs18 h19 =>
 ∃ n20 : Int, (cs18 = [.one (.int .i64 n20)]) ∧
 (joinK (A := Int)
 (fun n21 => loopK (A := (Int × ByteArray × ByteArray × ByteArray × Sl × Sl × Int × Int × Sl × PUnit) × Int) (((n20, ByteArray.empty, ByteArray.empty, ByteArray.empty, { a := none, len := 0 }, { a := none, len := 0 }, 0, 0, { a := none, len := 0 }, ()), 0))
 (fun x22 => uncur (uncur fun n23 => uncur fun s24 => uncur fun s25 => uncur fun s26 => uncur fun l27 => uncur fun l28 => uncur fun n29 => uncur fun n30 => uncur fun l31 x32 => fun n33 => ifT (decide (n33 < n21))
 (fun h34 =>
 I 4 [.one (.ptr p0), .one (.int .i64 (IntKind.i64.wrap (n1 - 1)))]
 (fun cs35 h36 =>
 ∃ n37 : Int, ∃ s38 : ByteArray, ∃ s39 : ByteArray, ∃ s40 : ByteArray, ∃ l41 : Sl, ∃ l42 : Sl, ∃ n43 : Int, ∃ n44 : Int, ∃ l45 : Sl, (cs35 = [.agg [.int .i64 n37, .str s38, .str s39, .str s40, .slice 3 l41, .slice 5 l42, .int .i64 n43, .int .i64 n44, .slice 9 l45]]) ∧
 (appendTo [] 9 144 l31 1 [.int .i64 n37, .str s38, .str s39, .str s40, .slice 3 l41, .slice 5 l42, .int .i64 n43, .int .i64 n44, .slice 9 l45] (fun l46 h47 =>
 x22 (((n23, s24, s25, s26, l27, l28, n29, n30, l46, ()), IntKind.i64.wrap (n33 + 1))) h47)) h36) h34)
 (joinK (A := Bool)
 (fun b48 => joinK (A := Int × ByteArray × ByteArray × ByteArray × Sl × Sl × Int × Int × Sl × PUnit)
 (uncur fun n49 => uncur fun s50 => uncur fun s51 => uncur fun s52 => uncur fun l53 => uncur fun l54 => uncur fun n55 => uncur fun n56 => uncur fun l57 x58 => joinK (A := Bool)
 (fun b59 => ifT b59
 (fun h60 =>
 (((0 : Int) ≤ (0 : Int)) ∧
 0 < (↑l57.len : Int)) ∧
 (derefK l57.a (fun i61 => fun i62 h63 =>
 ∃ n64 : Int, ∃ s65 : ByteArray, ∃ s66 : ByteArray, ∃ s67 : ByteArray, ∃ l68 : Sl, ∃ l69 : Sl, ∃ n70 : Int, ∃ n71 : Int, ∃ l72 : Sl, (h63.read i61 (i62 + 0) 9 = some [.int .i64 n64, .str s65, .str s66, .str s67, .slice 3 l68, .slice 5 l69, .int .i64 n70, .int .i64 n71, .slice 9 l72]) ∧
 (newK (.cells false [.int .i64 n64, .str s65, .str s66, .str s67, .slice 3 l68, .slice 5 l69, .int .i64 n70, .int .i64 n71, .slice 9 l72]) (fun i73 h74 =>
 (appendTo [] 9 144 l57 1 [.int .i64 5, .str ByteArray.empty, .str ByteArray.empty, .str ByteArray.empty, .slice 3 { a := none, len := 0 }, .slice 5 { a := none, len := 0 }, .int .i64 0, .int .i64 0, .slice 9 { a := some (i73, 0), len := 1 }] (fun l75 h76 =>
 Q [.agg [.int .i64 n49, .str s50, .str s51, .str s52, .slice 3 l53, .slice 5 l54, .int .i64 n55, .int .i64 n56, .slice 9 l75]] h76)) h74)) h63)) h60)
 (fun h77 =>
 Q [.agg [.int .i64 n49, .str s50, .str s51, .str s52, .slice 3 l53, .slice 5 l54, .int .i64 n55, .int .i64 n56, .slice 9 l57]] h77))
 (fun x78 => ifT (decide (n21 > 1))
 (fun h79 =>
 I 5 [.one (.ptr p0), .one (.int .i64 5)]
 (fun cs80 h81 =>
 ∃ b82 : Bool, (cs80 = [.one (.bool b82)]) ∧
 x78 b82 h81) h79)
 (x78 false)))
 (fun x83 => ifT b48
 (fun h84 =>
 (((0 : Int) ≤ (0 : Int)) ∧
 0 < (↑l31.len : Int)) ∧
 (derefK l31.a (fun i85 => fun i86 h87 =>
 ∃ n88 : Int, ∃ s89 : ByteArray, ∃ s90 : ByteArray, ∃ s91 : ByteArray, ∃ l92 : Sl, ∃ l93 : Sl, ∃ n94 : Int, ∃ n95 : Int, ∃ l96 : Sl, (h87.read i85 (i86 + 0) 9 = some [.int .i64 n88, .str s89, .str s90, .str s91, .slice 3 l92, .slice 5 l93, .int .i64 n94, .int .i64 n95, .slice 9 l96]) ∧
 (appendTo [] 9 144 l31 1 [.int .i64 n88, .str s89, .str s90, .str s91, .slice 3 l92, .slice 5 l93, .int .i64 n94, .int .i64 n95, .slice 9 l96] (fun l97 h98 =>
 x83 ((n23, s24, s25, s26, l27, l28, n29, n30, l97, ())) h98)) h87)) h84)
 (x83 ((n23, s24, s25, s26, l27, l28, n29, n30, l31, ())))))
 (fun x99 => ifT (decide (n21 > 1))
 (fun h100 =>
 I 5 [.one (.ptr p0), .one (.int .i64 4)]
 (fun cs101 h102 =>
 ∃ b103 : Bool, (cs101 = [.one (.bool b103)]) ∧
 x99 b103 h102) h100)
 (x99 false))))))
 (fun x104 => ifT (!decide (n20 = 5))
 (fun h105 =>
 I 12 [.one (.ptr p0), .one (.int .i64 2), .one (.int .i64 3)]
 (fun cs106 h107 =>
 ∃ n108 : Int, (cs106 = [.one (.int .i64 n108)]) ∧
 x104 n108 h107) h105)
 (x104 1))) h19) h17)) h15))
 (fun x109 => ifT (decide (n1 < 1))
 (x109 true)
 (fun h110 =>
 I 5 [.one (.ptr p0), .one (.int .i64 3)]
 (fun cs111 h112 =>
 ∃ b113 : Bool, (cs111 = [.one (.bool b113)]) ∧
 x109 b113 h112) h110))
theorem den4 (I : FuncId → List V → Post → T) (p0 : Option (Nat × Nat)) (n1 : Int) (Q : Post) : denF Go.Proofs.Tryz.prog 48 (⟨[(12, 8064, [(12, tk Go.Proofs.Tryz.prog 4)]), (125, 12582976, [(6, tk Go.Proofs.Tryz.prog 3)]), (508, 8658654068736, [(42, tk Go.Proofs.Tryz.prog 4)]), (509, 4494803534348320, [(5, tvar Go.Proofs.Tryz.prog 30)]), (1020, 283726776524341248, [(57, tk Go.Proofs.Tryz.prog 4)])], [(506, 137405399072, [(5, tvar Go.Proofs.Tryz.prog 30), (25, tk Go.Proofs.Tryz.prog 3)])]⟩) I 4 [V.one (Cell.ptr p0), V.one (Cell.int IntKind.i64 n1)] Q = vc4 I p0 n1 Q := by kernel_rfl
/-- (*handbill/handmake.Stream).Flip -/
def vc5 (I : FuncId → List V → Post → T) (p0 : Option (Nat × Nat)) (n1 : Int) (Q : Post) : T :=
 fun h2 =>
 I 13 [.one (.ptr p0), .one (.int .i64 n1)]
 (fun cs3 h4 =>
 ∃ n5 : Int, (cs3 = [.one (.int .i64 n5)]) ∧
 Q [.one (.bool (decide (n5 = 0)))] h4) h2
theorem den5 (I : FuncId → List V → Post → T) (p0 : Option (Nat × Nat)) (n1 : Int) (Q : Post) : denF Go.Proofs.Tryz.prog 0 (⟨[], []⟩) I 5 [V.one (Cell.ptr p0), V.one (Cell.int IntKind.i64 n1)] Q = vc5 I p0 n1 Q := by kernel_rfl
/-- (*handbill/handmake.Stream).Next -/
def vc13 (I : FuncId → List V → Post → T) (p0 : Option (Nat × Nat)) (n1 : Int) (Q : Post) : T :=
 derefK p0 (fun i2 => fun i3 h4 =>
 ∃ n5 : Int, (h4.read i2 (i3 + 1) 1 = some [.int .i64 n5]) ∧
 (derefK p0 (fun i6 => fun i7 h8 =>
 (storeK [] i6 (i7 + 1) [.int .i64 (IntKind.i64.wrap (n5 + 1))] (derefK p0 (fun i9 => fun i10 h11 =>
 ∃ l12 : Sl, (h11.read i9 (i10 + 0) 1 = some [.slice 1 l12]) ∧
 (ifT (decide ((↑l12.len : Int) = 0))
 (derefK p0 (fun i13 => fun i14 h15 =>
 ∃ n16 : Int, (h15.read i13 (i14 + 1) 1 = some [.int .i64 n16]) ∧
 I 30 [.one (.int .i64 (IntKind.i64.wrap (n16 * 7919))), .one (.int .i64 n1)]
 (fun cs17 h18 =>
 ∃ n19 : Int, (cs17 = [.one (.int .i64 n19)]) ∧
 Q [.one (.int .i64 n19)] h18) h15))
 (derefK p0 (fun i20 => fun i21 h22 =>
 ∃ n23 : Int, (h22.read i20 (i21 + 1) 1 = some [.int .i64 n23]) ∧
 (derefK p0 (fun i24 => fun i25 h26 =>
 ∃ l27 : Sl, (h26.read i24 (i25 + 0) 1 = some [.slice 1 l27]) ∧
 ((↑l27.len : Int) ≠ 0) ∧
 (derefK p0 (fun i28 => fun i29 h30 =>
 ∃ n31 : Int, (h30.read i28 (i29 + 1) 1 = some [.int .i64 n31]) ∧
 (derefK p0 (fun i32 => fun i33 h34 =>
 ∃ l35 : Sl, (h34.read i32 (i33 + 0) 1 = some [.slice 1 l35]) ∧
 ((↑l35.len : Int) ≠ 0) ∧
 (derefK p0 (fun i36 => fun i37 h38 =>
 ∃ l39 : Sl, (h38.read i36 (i37 + 0) 1 = some [.slice 1 l39]) ∧
 ((0 ≤ (IntKind.i64.wrap (n23 - 1)).tmod (↑l27.len : Int)) ∧
 (IntKind.i64.wrap (n23 - 1)).tmod (↑l27.len : Int) < (↑l39.len : Int)) ∧
 (derefK l39.a (fun i40 => fun i41 h42 =>
 ∃ n43 : Int, (h42.read i40 (i41 + ((IntKind.i64.wrap (n23 - 1)).tmod (↑l27.len : Int)).toNat * 1) 1 = some [.int .i64 n43]) ∧
 I 30 [.one (.int .i64 n43), .one (.int .i64 1073741824)]
 (fun cs44 h45 =>
 ∃ n46 : Int, (cs44 = [.one (.int .i64 n46)]) ∧
 I 30 [.one (.int .i64 (IntKind.i64.wrap (n46 + IntKind.i64.wrap (IntKind.i64.wrap ((IntKind.i64.wrap (n31 - 1)).tdiv (↑l35.len : Int)) * IntKind.i64.wrap (7919 + (IntKind.i64.wrap (n23 - 1)).tmod (↑l27.len : Int)))))), .one (.int .i64 n1)]
 (fun cs47 h48 =>
 ∃ n49 : Int, (cs47 = [.one (.int .i64 n49)]) ∧
 Q [.one (.int .i64 n49)] h48) h45) h42)) h38)) h34)) h30)) h26)) h22))) h11))) h8)) h4)
theorem den13 (I : FuncId → List V → Post → T) (p0 : Option (Nat × Nat)) (n1 : Int) (Q : Post) : denF Go.Proofs.Tryz.prog 0 (⟨[], []⟩) I 13 [V.one (Cell.ptr p0), V.one (Cell.int IntKind.i64 n1)] Q = vc13 I p0 n1 Q := by kernel_rfl
/-- handbill/handmake.Below -/
def vc30 (I : FuncId → List V → Post → T) (n0 : Int) (n1 : Int) (Q : Post) : T :=
 ifT (decide (n1 < 1))
 (Q [.one (.int .i64 0)])
 (fun h2 =>
 (n1 ≠ 0) ∧
 (ifT (decide (n0.tmod n1 < 0))
 (Q [.one (.int .i64 (IntKind.i64.wrap (n0.tmod n1 + n1)))])
 (Q [.one (.int .i64 (n0.tmod n1))])) h2)
theorem den30 (I : FuncId → List V → Post → T) (n0 : Int) (n1 : Int) (Q : Post) : denF Go.Proofs.Tryz.prog 0 (⟨[], []⟩) I 30 [V.one (Cell.int IntKind.i64 n0), V.one (Cell.int IntKind.i64 n1)] Q = vc30 I n0 n1 Q := by kernel_rfl
/-- (*handbill/handmake.Stream).test -/
def vc10 (I : FuncId → List V → Post → T) (p0 : Option (Nat × Nat)) (Q : Post) : T :=
 fun h1 =>
 I 25 []
 (fun cs2 h3 =>
 ∃ l4 : Sl, (cs2 = [.one (.slice 1 l4)]) ∧
 I 15 [.one (.ptr p0), .one (.slice 1 l4)]
 (fun cs5 h6 =>
 ∃ s7 : ByteArray, (cs5 = [.one (.str s7)]) ∧
 I 26 []
 (fun cs8 h9 =>
 ∃ l10 : Sl, (cs8 = [.one (.slice 1 l10)]) ∧
 I 15 [.one (.ptr p0), .one (.slice 1 l10)]
 (fun cs11 h12 =>
 ∃ s13 : ByteArray, (cs11 = [.one (.str s13)]) ∧
 (newK (.cells false [.int .i64 0, .int .i64 0, .int .i64 1, .int .i64 30, .int .i64 60, .int .i64 1440, .int .i64 2880]) (fun i14 h15 =>
 I 11 [.one (.ptr p0), .one (.slice 1 { a := some (i14, 0), len := 7 })]
 (fun cs16 h17 =>
 ∃ n18 : Int, (cs16 = [.one (.int .i64 n18)]) ∧
 I 13 [.one (.ptr p0), .one (.int .i64 10)]
 (fun cs19 h20 =>
 ∃ n21 : Int, (cs19 = [.one (.int .i64 n21)]) ∧
 (ifT (decide (n21 = 0))
 (fun h22 =>
 (newK (.cells false [.int .i64 1, .int .i64 2]) (fun i23 h24 =>
 I 11 [.one (.ptr p0), .one (.slice 1 { a := some (i23, 0), len := 2 })]
 (fun cs25 h26 =>
 ∃ n27 : Int, (cs25 = [.one (.int .i64 n27)]) ∧
 Q [.agg [.int .i64 n27, .str ByteArray.empty, .str ByteArray.empty, .str ByteArray.empty, .slice 3 { a := none, len := 0 }, .slice 5 { a := none, len := 0 }, .int .i64 0, .int .i64 0, .slice 9 { a := none, len := 0 }]] h26) h24)) h22)
 (ifT (decide (n21 = 1))
 (fun h28 =>
 Q [.agg [.int .i64 6, .str s7, .str ByteArray.empty, .str ByteArray.empty, .slice 3 { a := none, len := 0 }, .slice 5 { a := none, len := 0 }, .int .i64 0, .int .i64 0, .slice 9 { a := none, len := 0 }]] h28)
 (ifT (decide (n21 = 2))
 (fun h29 =>
 I 12 [.one (.ptr p0), .one (.int .i64 1), .one (.int .i64 3)]
 (fun cs30 h31 =>
 ∃ n32 : Int, (cs30 = [.one (.int .i64 n32)]) ∧
 (loopK (A := (Int × ByteArray × ByteArray × ByteArray × Sl × Sl × Int × Int × Sl × PUnit) × Int) (((8, s7, ByteArray.empty, ByteArray.empty, { a := none, len := 0 }, { a := none, len := 0 }, 0, 0, { a := none, len := 0 }, ()), 0))
 (fun x33 => uncur (uncur fun n34 => uncur fun s35 => uncur fun s36 => uncur fun s37 => uncur fun l38 => uncur fun l39 => uncur fun n40 => uncur fun n41 => uncur fun l42 x43 => fun n44 => ifT (decide (n44 < n32))
 (fun h45 =>
 I 27 [.one (.ptr p0), .one (.str s7)]
 (fun cs46 h47 =>
 ∃ n48 : Int, ∃ s49 : ByteArray, ∃ n50 : Int, (cs46 = [.agg [.int .i64 n48, .str s49, .int .i64 n50]]) ∧
 (appendTo [] 3 32 l38 1 [.int .i64 n48, .str s49, .int .i64 n50] (fun l51 h52 =>
 x33 (((n34, s35, s36, s37, l51, l39, n40, n41, l42, ()), IntKind.i64.wrap (n44 + 1))) h52)) h47) h45)
 (fun h53 =>
 Q [.agg [.int .i64 n34, .str s35, .str s36, .str s37, .slice 3 l38, .slice 5 l39, .int .i64 n40, .int .i64 n41, .slice 9 l42]] h53)))) h31) h29)
 (ifT (decide (n21 = 3))
 (fun h54 =>
 (newK (.cells false [.int .i64 9, .int .i64 10]) (fun i55 h56 =>
 I 11 [.one (.ptr p0), .one (.slice 1 { a := some (i55, 0), len := 2 })]
 (fun cs57 h58 =>
 ∃ n59 : Int, (cs57 = [.one (.int .i64 n59)]) ∧
 (newK (.cells false [.str { data := #[85] }, .str { data := #[108] }, .str { data := #[] }, .str { data := #[85, 108, 109] }]) (fun i60 h61 =>
 I 15 [.one (.ptr p0), .one (.slice 1 { a := some (i60, 0), len := 4 })]
 (fun cs62 h63 =>
 ∃ s64 : ByteArray, (cs62 = [.one (.str s64)]) ∧
 (newK (.cells false [.int .i64 1, .str s64, .int .i64 0]) (fun i65 h66 =>
 Q [.agg [.int .i64 n59, .str s7, .str ByteArray.empty, .str ByteArray.empty, .slice 3 { a := some (i65, 0), len := 1 }, .slice 5 { a := none, len := 0 }, .int .i64 0, .int .i64 0, .slice 9 { a := none, len := 0 }]] h66)) h63) h61)) h58) h56)) h54)
 (joinK (A := Bool)
 (fun b67 => ifT b67
 (fun h68 =>
 I 28 [.one (.ptr p0)]
 (fun cs69 h70 =>
 ∃ l71 : Sl, (cs69 = [.one (.slice 5 l71)]) ∧
 I 29 [.one (.ptr p0)]
 (fun cs72 h73 =>
 ∃ s74 : ByteArray, (cs72 = [.one (.str s74)]) ∧
 (newK (.cells false [.int .i64 0, .int .i64 1, .int .i64 2, .int .i64 3, .int .i64 (-1)]) (fun i75 h76 =>
 I 11 [.one (.ptr p0), .one (.slice 1 { a := some (i75, 0), len := 5 })]
 (fun cs77 h78 =>
 ∃ n79 : Int, (cs77 = [.one (.int .i64 n79)]) ∧
 Q [.agg [.int .i64 11, .str s13, .str ByteArray.empty, .str s74, .slice 3 { a := none, len := 0 }, .slice 5 l71, .int .i64 n18, .int .i64 n79, .slice 9 { a := none, len := 0 }]] h78) h76)) h73) h70) h68)
 (ifT (decide (n21 = 6))
 (fun h80 =>
 (newK (.cells false [.str { data := #[99, 101, 110, 116, 115] }, .str { data := #[99, 101, 110, 116, 115] }, .str { data := #[105, 116, 101, 109] }]) (fun i81 h82 =>
 I 15 [.one (.ptr p0), .one (.slice 1 { a := some (i81, 0), len := 3 })]
 (fun cs83 h84 =>
 ∃ s85 : ByteArray, (cs83 = [.one (.str s85)]) ∧
 I 28 [.one (.ptr p0)]
 (fun cs86 h87 =>
 ∃ l88 : Sl, (cs86 = [.one (.slice 5 l88)]) ∧
 I 29 [.one (.ptr p0)]
 (fun cs89 h90 =>
 ∃ s91 : ByteArray, (cs89 = [.one (.str s91)]) ∧
 (newK (.cells false [.int .i64 0, .int .i64 5, .int .i64 100, .int .i64 105, .int .i64 (-5)]) (fun i92 h93 =>
 I 11 [.one (.ptr p0), .one (.slice 1 { a := some (i92, 0), len := 5 })]
 (fun cs94 h95 =>
 ∃ n96 : Int, (cs94 = [.one (.int .i64 n96)]) ∧
 Q [.agg [.int .i64 12, .str s13, .str s85, .str s91, .slice 3 { a := none, len := 0 }, .slice 5 l88, .int .i64 n18, .int .i64 n96, .slice 9 { a := none, len := 0 }]] h95) h93)) h90) h87) h84) h82)) h80)
 (ifT (decide (n21 = 7))
 (fun h97 =>
 I 28 [.one (.ptr p0)]
 (fun cs98 h99 =>
 ∃ l100 : Sl, (cs98 = [.one (.slice 5 l100)]) ∧
 I 29 [.one (.ptr p0)]
 (fun cs101 h102 =>
 ∃ s103 : ByteArray, (cs101 = [.one (.str s103)]) ∧
 (newK (.cells false [.int .i64 0, .int .i64 1, .int .i64 30, .int .i64 60, .int .i64 1440]) (fun i104 h105 =>
 I 11 [.one (.ptr p0), .one (.slice 1 { a := some (i104, 0), len := 5 })]
 (fun cs106 h107 =>
 ∃ n108 : Int, (cs106 = [.one (.int .i64 n108)]) ∧
 Q [.agg [.int .i64 13, .str s13, .str ByteArray.empty, .str s103, .slice 3 { a := none, len := 0 }, .slice 5 l100, .int .i64 0, .int .i64 n108, .slice 9 { a := none, len := 0 }]] h107) h105)) h102) h99) h97)
 (ifT (decide (n21 = 8))
 (fun h109 =>
 I 26 []
 (fun cs110 h111 =>
 ∃ l112 : Sl, (cs110 = [.one (.slice 1 l112)]) ∧
 I 15 [.one (.ptr p0), .one (.slice 1 l112)]
 (fun cs113 h114 =>
 ∃ s115 : ByteArray, (cs113 = [.one (.str s115)]) ∧
 Q [.agg [.int .i64 14, .str s13, .str s115, .str ByteArray.empty, .slice 3 { a := none, len := 0 }, .slice 5 { a := none, len := 0 }, .int .i64 n18, .int .i64 0, .slice 9 { a := none, len := 0 }]] h114) h111) h109)
 (fun h116 =>
 I 29 [.one (.ptr p0)]
 (fun cs117 h118 =>
 ∃ s119 : ByteArray, (cs117 = [.one (.str s119)]) ∧
 I 27 [.one (.ptr p0), .one (.str s7)]
 (fun cs120 h121 =>
 ∃ n122 : Int, ∃ s123 : ByteArray, ∃ n124 : Int, (cs120 = [.agg [.int .i64 n122, .str s123, .int .i64 n124]]) ∧
 (newK (.cells false [.int .i64 n122, .str s123, .int .i64 n124]) (fun i125 h126 =>
 Q [.agg [.int .i64 7, .str s7, .str ByteArray.empty, .str s119, .slice 3 { a := some (i125, 0), len := 1 }, .slice 5 { a := none, len := 0 }, .int .i64 0, .int .i64 0, .slice 9 { a := none, len := 0 }]] h126)) h121) h118) h116)))))
 (fun x127 => ifT (decide (n21 = 4))
 (x127 (decide (n21 = 4)))
 (x127 (decide (n21 = 5))))))))) h20) h17) h15)) h12) h9) h6) h3) h1
theorem den10 (I : FuncId → List V → Post → T) (p0 : Option (Nat × Nat)) (Q : Post) : denF Go.Proofs.Tryz.prog 68 (⟨[(125949, 1441151880758558720, [(58, tk Go.Proofs.Tryz.prog 4)])], [(125930, 35167192219712, [(6, tvar Go.Proofs.Tryz.prog 30), (34, tk Go.Proofs.Tryz.prog 3)])]⟩) I 10 [V.one (Cell.ptr p0)] Q = vc10 I p0 Q := by kernel_rfl
/-- (*handbill/handmake.Stream).Pick -/
def vc11 (I : FuncId → List V → Post → T) (p0 : Option (Nat × Nat)) (l1 : Sl) (Q : Post) : T :=
 fun h2 =>
 I 13 [.one (.ptr p0), .one (.int .i64 (↑l1.len : Int))]
 (fun cs3 h4 =>
 ∃ n5 : Int, (cs3 = [.one (.int .i64 n5)]) ∧
 ((0 ≤ n5) ∧
 n5 < (↑l1.len : Int)) ∧
 (derefK l1.a (fun i6 => fun i7 h8 =>
 ∃ n9 : Int, (h8.read i6 (i7 + n5.toNat * 1) 1 = some [.int .i64 n9]) ∧
 Q [.one (.int .i64 n9)] h8)) h4) h2
theorem den11 (I : FuncId → List V → Post → T) (p0 : Option (Nat × Nat)) (l1 : Sl) (Q : Post) : denF Go.Proofs.Tryz.prog 0 (⟨[], []⟩) I 11 [V.one (Cell.ptr p0), V.one (Cell.slice 1 l1)] Q = vc11 I p0 l1 Q := by kernel_rfl
/-- (*handbill/handmake.Stream).Range -/
def vc12 (I : FuncId → List V → Post → T) (p0 : Option (Nat × Nat)) (n1 : Int) (n2 : Int) (Q : Post) : T :=
 ifT (decide (n2 < n1))
 (Q [.one (.int .i64 n1)])
 (fun h3 =>
 I 13 [.one (.ptr p0), .one (.int .i64 (IntKind.i64.wrap (IntKind.i64.wrap (n2 - n1) + 1)))]
 (fun cs4 h5 =>
 ∃ n6 : Int, (cs4 = [.one (.int .i64 n6)]) ∧
 Q [.one (.int .i64 (IntKind.i64.wrap (n1 + n6)))] h5) h3)
theorem den12 (I : FuncId → List V → Post → T) (p0 : Option (Nat × Nat)) (n1 : Int) (n2 : Int) (Q : Post) : denF Go.Proofs.Tryz.prog 0 (⟨[], []⟩) I 12 [V.one (Cell.ptr p0), V.one (Cell.int IntKind.i64 n1), V.one (Cell.int IntKind.i64 n2)] Q = vc12 I p0 n1 n2 Q := by kernel_rfl
/-- handbill/handmake.condFields -/
def vc25 (I : FuncId → List V → Post → T) (Q : Post) : T :=
 fun h0 =>
 (newK (.cells false [.str { data := #[97, 103, 101] }, .str { data := #[99, 105, 116, 121] }, .str { data := #[110, 101, 119, 115] }, .str { data := #[115, 105, 110, 99, 101, 45, 100, 97, 121] }]) (fun i1 h2 =>
 Q [.one (.slice 1 { a := some (i1, 0), len := 4 })] h2)) h0
theorem den25 (I : FuncId → List V → Post → T) (Q : Post) : denF Go.Proofs.Tryz.prog 0 (⟨[], []⟩) I 25 [] Q = vc25 I Q := by kernel_rfl
/-- (*handbill/handmake.Stream).fieldValue -/
def vc27 (I : FuncId → List V → Post → T) (p0 : Option (Nat × Nat)) (s1 : ByteArray) (Q : Post) : T :=
 fun h2 =>
 I 5 [.one (.ptr p0), .one (.int .i64 12)]
 (fun cs3 h4 =>
 ∃ b5 : Bool, (cs3 = [.one (.bool b5)]) ∧
 (ifT b5
 (fun h6 =>
 (newK (.cells false [.str { data := #[] }, .str { data := #[120] }, .str { data := #[97, 32, 34, 98, 34, 92] }]) (fun i7 h8 =>
 I 15 [.one (.ptr p0), .one (.slice 1 { a := some (i7, 0), len := 3 })]
 (fun cs9 h10 =>
 ∃ s11 : ByteArray, (cs9 = [.one (.str s11)]) ∧
 Q [.agg [.int .i64 1, .str s11, .int .i64 0]] h10) h8)) h6)
 (ifT (decide (s1 = { data := #[97, 103, 101] }))
 (fun h12 =>
 (newK (.cells false [.int .i64 (-3), .int .i64 0, .int .i64 3, .int .i64 17, .int .i64 18, .int .i64 1000000000000]) (fun i13 h14 =>
 I 11 [.one (.ptr p0), .one (.slice 1 { a := some (i13, 0), len := 6 })]
 (fun cs15 h16 =>
 ∃ n17 : Int, (cs15 = [.one (.int .i64 n17)]) ∧
 Q [.agg [.int .i64 2, .str ByteArray.empty, .int .i64 n17]] h16) h14)) h12)
 (ifT (decide (s1 = { data := #[110, 101, 119, 115] }))
 (fun h18 =>
 I 13 [.one (.ptr p0), .one (.int .i64 2)]
 (fun cs19 h20 =>
 ∃ n21 : Int, (cs19 = [.one (.int .i64 n21)]) ∧
 Q [.agg [.int .i64 3, .str ByteArray.empty, .int .i64 n21]] h20) h18)
 (ifT (decide (s1 = { data := #[115, 105, 110, 99, 101, 45, 100, 97, 121] }))
 (fun h22 =>
 (newK (.cells false [.int .i64 0, .int .i64 70, .int .i64 1440, .int .i64 4321439]) (fun i23 h24 =>
 I 11 [.one (.ptr p0), .one (.slice 1 { a := some (i23, 0), len := 4 })]
 (fun cs25 h26 =>
 ∃ n27 : Int, (cs25 = [.one (.int .i64 n27)]) ∧
 Q [.agg [.int .i64 4, .str ByteArray.empty, .int .i64 n27]] h26) h24)) h22)
 (fun h28 =>
 (newK (.cells false [.str { data := #[85, 108, 109] }, .str { data := #[66, 111, 110, 110] }, .str { data := #[85, 108] }, .str { data := #[195, 169] }]) (fun i29 h30 =>
 I 15 [.one (.ptr p0), .one (.slice 1 { a := some (i29, 0), len := 4 })]
 (fun cs31 h32 =>
 ∃ s33 : ByteArray, (cs31 = [.one (.str s33)]) ∧
 Q [.agg [.int .i64 1, .str s33, .int .i64 0]] h32) h30)) h28))))) h4) h2
theorem den27 (I : FuncId → List V → Post → T) (p0 : Option (Nat × Nat)) (s1 : ByteArray) (Q : Post) : denF Go.Proofs.Tryz.prog 16 (⟨[], []⟩) I 27 [V.one (Cell.ptr p0), V.one (Cell.str s1)] Q = vc27 I p0 s1 Q := by kernel_rfl
/-- (*handbill/handmake.Stream).one -/
def vc15 (I : FuncId → List V → Post → T) (p0 : Option (Nat × Nat)) (l1 : Sl) (Q : Post) : T :=
 fun h2 =>
 I 13 [.one (.ptr p0), .one (.int .i64 (↑l1.len : Int))]
 (fun cs3 h4 =>
 ∃ n5 : Int, (cs3 = [.one (.int .i64 n5)]) ∧
 ((0 ≤ n5) ∧
 n5 < (↑l1.len : Int)) ∧
 (derefK l1.a (fun i6 => fun i7 h8 =>
 ∃ s9 : ByteArray, (h8.read i6 (i7 + n5.toNat * 1) 1 = some [.str s9]) ∧
 Q [.one (.str s9)] h8)) h4) h2
theorem den15 (I : FuncId → List V → Post → T) (p0 : Option (Nat × Nat)) (l1 : Sl) (Q : Post) : denF Go.Proofs.Tryz.prog 0 (⟨[], []⟩) I 15 [V.one (Cell.ptr p0), V.one (Cell.slice 1 l1)] Q = vc15 I p0 l1 Q := by kernel_rfl
/-- handbill/handmake.condEvents -/
def vc26 (I : FuncId → List V → Post → T) (Q : Post) : T :=
 fun h0 =>
 (newK (.cells false [.str { data := #[98, 117, 121] }, .str { data := #[111, 112, 101, 110] }, .str { data := #[118, 105, 115, 105, 116] }]) (fun i1 h2 =>
 Q [.one (.slice 1 { a := some (i1, 0), len := 3 })] h2)) h0
theorem den26 (I : FuncId → List V → Post → T) (Q : Post) : denF Go.Proofs.Tryz.prog 0 (⟨[], []⟩) I 26 [] Q = vc26 I Q := by kernel_rfl
/-- (*handbill/handmake.Stream).wheres -/
def vc28 (I : FuncId → List V → Post → T) (p0 : Option (Nat × Nat)) (Q : Post) : T :=
 fun h1 =>
 (newK (.cells false [.int .i64 0, .int .i64 0, .int .i64 0, .int .i64 1, .int .i64 2]) (fun i2 h3 =>
 I 11 [.one (.ptr p0), .one (.slice 1 { a := some (i2, 0), len := 5 })]
 (fun cs4 h5 =>
 ∃ n6 : Int, (cs4 = [.one (.int .i64 n6)]) ∧
 (loopK (A := Sl × Int) (({ a := none, len := 0 }, 0))
 (fun x7 => uncur fun l8 n9 => ifT (decide (n9 < n6))
 (fun h10 =>
 I 5 [.one (.ptr p0), .one (.int .i64 2)]
 (fun cs11 h12 =>
 ∃ b13 : Bool, (cs11 = [.one (.bool b13)]) ∧
 (ifT b13
 (fun h14 =>
 I 29 [.one (.ptr p0)]
 (fun cs15 h16 =>
 ∃ s17 : ByteArray, (cs15 = [.one (.str s17)]) ∧
 (newK (.cells false [.int .i64 0, .int .i64 5, .int .i64 100]) (fun i18 h19 =>
 I 11 [.one (.ptr p0), .one (.slice 1 { a := some (i18, 0), len := 3 })]
 (fun cs20 h21 =>
 ∃ n22 : Int, (cs20 = [.one (.int .i64 n22)]) ∧
 (appendTo [] 5 64 l8 1 [.str { data := #[99, 101, 110, 116, 115] }, .str s17, .int .i64 2, .str ByteArray.empty, .int .i64 n22] (fun l23 h24 =>
 x7 ((l23, IntKind.i64.wrap (n9 + 1))) h24)) h21) h19)) h16) h14)
 (fun h25 =>
 I 29 [.one (.ptr p0)]
 (fun cs26 h27 =>
 ∃ s28 : ByteArray, (cs26 = [.one (.str s28)]) ∧
 (appendTo [] 5 64 l8 1 [.str { data := #[105, 116, 101, 109] }, .str s28, .int .i64 1, .str { data := #[104, 97, 116] }, .int .i64 0] (fun l29 h30 =>
 x7 ((l29, IntKind.i64.wrap (n9 + 1))) h30)) h27) h25)) h12) h10)
 (Q [.one (.slice 5 l8)]))) h5) h3)) h1
theorem den28 (I : FuncId → List V → Post → T) (p0 : Option (Nat × Nat)) (Q : Post) : denF Go.Proofs.Tryz.prog 0 (⟨[], [(58, 536870792, [(3, tk Go.Proofs.Tryz.prog 27), (7, tk Go.Proofs.Tryz.prog 3)])]⟩) I 28 [V.one (Cell.ptr p0)] Q = vc28 I p0 Q := by kernel_rfl
/-- (*handbill/handmake.Stream).compareSign -/
def vc29 (I : FuncId → List V → Post → T) (p0 : Option (Nat × Nat)) (Q : Post) : T :=
 fun h1 =>
 (newK (.cells false [.str { data := #[61] }, .str { data := #[33, 61] }, .str { data := #[60] }, .str { data := #[60, 61] }, .str { data := #[62] }, .str { data := #[62, 61] }]) (fun i2 h3 =>
 I 15 [.one (.ptr p0), .one (.slice 1 { a := some (i2, 0), len := 6 })]
 (fun cs4 h5 =>
 ∃ s6 : ByteArray, (cs4 = [.one (.str s6)]) ∧
 Q [.one (.str s6)] h5) h3)) h1
theorem den29 (I : FuncId → List V → Post → T) (p0 : Option (Nat × Nat)) (Q : Post) : denF Go.Proofs.Tryz.prog 0 (⟨[], []⟩) I 29 [V.one (Cell.ptr p0)] Q = vc29 I p0 Q := by kernel_rfl
/-- handbill/segment.checkAll -/
def vc65 (I : FuncId → List V → Post → T) (n0 : Int) (s1 : ByteArray) (s2 : ByteArray) (s3 : ByteArray) (l4 : Sl) (l5 : Sl) (n6 : Int) (n7 : Int) (l8 : Sl) (l9 : Sl) (l10 : Sl) (n11 : Int) (Q : Post) : T :=
 fun h12 =>
 I 92 [.agg [.int .i64 n0, .str s1, .str s2, .str s3, .slice 3 l4, .slice 5 l5, .int .i64 n6, .int .i64 n7, .slice 9 l8], .one (.slice 4 l9), .one (.slice 6 l10)]
 (fun cs13 h14 =>
 ∃ n15 : Int, (cs13 = [.one (.int .i64 n15)]) ∧
 (ifT (!decide (n15 = 0))
 (Q [.one (.int .i64 n15)])
 (fun h16 =>
 I 48 [.one (.int .i64 n11), .one (.int .i64 0), .one (.int .i64 4321439)]
 (fun cs17 h18 =>
 ∃ b19 : Bool, (cs17 = [.one (.bool b19)]) ∧
 (ifT (!b19)
 (Q [.one (.int .i64 1)])
 (Q [.one (.int .i64 0)])) h18) h16)) h14) h12
theorem den65 (I : FuncId → List V → Post → T) (n0 : Int) (s1 : ByteArray) (s2 : ByteArray) (s3 : ByteArray) (l4 : Sl) (l5 : Sl) (n6 : Int) (n7 : Int) (l8 : Sl) (l9 : Sl) (l10 : Sl) (n11 : Int) (Q : Post) : denF Go.Proofs.Tryz.prog 16 (⟨[], []⟩) I 65 [V.agg [Cell.int IntKind.i64 n0, Cell.str s1, Cell.str s2, Cell.str s3, Cell.slice 3 l4, Cell.slice 5 l5, Cell.int IntKind.i64 n6, Cell.int IntKind.i64 n7, Cell.slice 9 l8], V.one (Cell.slice 4 l9), V.one (Cell.slice 6 l10), V.one (Cell.int IntKind.i64 n11)] Q = vc65 I n0 s1 s2 s3 l4 l5 n6 n7 l8 l9 l10 n11 Q := by kernel_rfl
/-- handbill/segment.checkFor -/
def vc92 (I : FuncId → List V → Post → T) (n0 : Int) (s1 : ByteArray) (s2 : ByteArray) (s3 : ByteArray) (l4 : Sl) (l5 : Sl) (n6 : Int) (n7 : Int) (l8 : Sl) (l9 : Sl) (l10 : Sl) (Q : Post) : T :=
 fun h11 =>
 I 8 [.agg [.int .i64 n0, .str s1, .str s2, .str s3, .slice 3 l4, .slice 5 l5, .int .i64 n6, .int .i64 n7, .slice 9 l8]]
 (fun cs12 h13 =>
 ∃ n14 : Int, (cs12 = [.one (.int .i64 n14)]) ∧
 (ifT (!decide (n14 = 0))
 (Q [.one (.int .i64 n14)])
 (fun h15 =>
 I 118 [.one (.slice 4 l9)]
 (fun cs16 h17 =>
 ∃ n18 : Int, (cs16 = [.one (.int .i64 n18)]) ∧
 (ifT (!decide (n18 = 0))
 (Q [.one (.int .i64 n18)])
 (fun h19 =>
 I 119 [.one (.slice 6 l10)]
 (fun cs20 h21 =>
 ∃ n22 : Int, (cs20 = [.one (.int .i64 n22)]) ∧
 Q [.one (.int .i64 n22)] h21) h19)) h17) h15)) h13) h11
theorem den92 (I : FuncId → List V → Post → T) (n0 : Int) (s1 : ByteArray) (s2 : ByteArray) (s3 : ByteArray) (l4 : Sl) (l5 : Sl) (n6 : Int) (n7 : Int) (l8 : Sl) (l9 : Sl) (l10 : Sl) (Q : Post) : denF Go.Proofs.Tryz.prog 8 (⟨[], []⟩) I 92 [V.agg [Cell.int IntKind.i64 n0, Cell.str s1, Cell.str s2, Cell.str s3, Cell.slice 3 l4, Cell.slice 5 l5, Cell.int IntKind.i64 n6, Cell.int IntKind.i64 n7, Cell.slice 9 l8], V.one (Cell.slice 4 l9), V.one (Cell.slice 6 l10)] Q = vc92 I n0 s1 s2 s3 l4 l5 n6 n7 l8 l9 l10 Q := by kernel_rfl
/-- handbill/segment.CheckCond -/
def vc8 (I : FuncId → List V → Post → T) (n0 : Int) (s1 : ByteArray) (s2 : ByteArray) (s3 : ByteArray) (l4 : Sl) (l5 : Sl) (n6 : Int) (n7 : Int) (l8 : Sl) (Q : Post) : T :=
 fun h9 =>
 I 20 [.agg [.int .i64 n0, .str s1, .str s2, .str s3, .slice 3 l4, .slice 5 l5, .int .i64 n6, .int .i64 n7, .slice 9 l8]]
 (fun cs10 h11 =>
 ∃ b12 : Bool, (cs10 = [.one (.bool b12)]) ∧
 (ifT b12
 (Q [.one (.int .i64 2)])
 (fun h13 =>
 I 21 [.agg [.int .i64 n0, .str s1, .str s2, .str s3, .slice 3 l4, .slice 5 l5, .int .i64 n6, .int .i64 n7, .slice 9 l8], .one (.func (some (22, [])))]
 (fun cs14 h15 =>
 ∃ n16 : Int, (cs14 = [.one (.int .i64 n16)]) ∧
 Q [.one (.int .i64 n16)] h15) h13)) h11) h9
theorem den8 (I : FuncId → List V → Post → T) (n0 : Int) (s1 : ByteArray) (s2 : ByteArray) (s3 : ByteArray) (l4 : Sl) (l5 : Sl) (n6 : Int) (n7 : Int) (l8 : Sl) (Q : Post) : denF Go.Proofs.Tryz.prog 2 (⟨[], []⟩) I 8 [V.agg [Cell.int IntKind.i64 n0, Cell.str s1, Cell.str s2, Cell.str s3, Cell.slice 3 l4, Cell.slice 5 l5, Cell.int IntKind.i64 n6, Cell.int IntKind.i64 n7, Cell.slice 9 l8]] Q = vc8 I n0 s1 s2 s3 l4 l5 n6 n7 l8 Q := by kernel_rfl
/-- handbill/segment.large -/
def vc20 (I : FuncId → List V → Post → T) (n0 : Int) (s1 : ByteArray) (s2 : ByteArray) (s3 : ByteArray) (l4 : Sl) (l5 : Sl) (n6 : Int) (n7 : Int) (l8 : Sl) (Q : Post) : T :=
 fun h9 =>
 (newK (.cells false [.int .i64 0]) (fun i10 h11 =>
 (storeK [] i10 0 [.int .i64 0] (fun h12 =>
 (newK (.cells false [.func none]) (fun i13 h14 =>
 (storeK [] i13 0 [.func (some (39, [(i10, 0), (i13, 0)]))] (fun h15 =>
 ∃ p16 : Option (Nat × List (Nat × Nat)), (h15.read i13 0 1 = some [.func p16]) ∧
 (funK p16 (fun i17 => fun cs18 h19 =>
 I i17 (.agg [.int .i64 n0, .str s1, .str s2, .str s3, .slice 3 l4, .slice 5 l5, .int .i64 n6, .int .i64 n7, .slice 9 l8] :: .one (.int .i64 1) :: cs18)
 (fun cs20 h21 =>
 ∃ b22 : Bool, (cs20 = [.one (.bool b22)]) ∧
 Q [.one (.bool b22)] h21) h19)) h15)) h14)) h12)) h11)) h9
theorem den20 (I : FuncId → List V → Post → T) (n0 : Int) (s1 : ByteArray) (s2 : ByteArray) (s3 : ByteArray) (l4 : Sl) (l5 : Sl) (n6 : Int) (n7 : Int) (l8 : Sl) (Q : Post) : denF Go.Proofs.Tryz.prog 2 (⟨[], []⟩) I 20 [V.agg [Cell.int IntKind.i64 n0, Cell.str s1, Cell.str s2, Cell.str s3, Cell.slice 3 l4, Cell.slice 5 l5, Cell.int IntKind.i64 n6, Cell.int IntKind.i64 n7, Cell.slice 9 l8]] Q = vc20 I n0 s1 s2 s3 l4 l5 n6 n7 l8 Q := by kernel_rfl
/-- handbill/segment.large$1 -/
def vc39 (I : FuncId → List V → Post → T) (n0 : Int) (s1 : ByteArray) (s2 : ByteArray) (s3 : ByteArray) (l4 : Sl) (l5 : Sl) (n6 : Int) (n7 : Int) (l8 : Sl) (n9 : Int) (i10 : Nat) (i11 : Nat) (i12 : Nat) (i13 : Nat) (Q : Post) : T :=
 fun h14 =>
 (newK (.cells false [.int .i64 n9]) (fun i15 h16 =>
 ∃ n17 : Int, (h16.read i10 i11 1 = some [.int .i64 n17]) ∧
 (storeK [] i10 i11 [.int .i64 (IntKind.i64.wrap (n17 + 1))] (joinK (A := Bool)
 (fun b18 => ifT b18
 (Q [.one (.bool true)])
 (fun h19 =>
 I 40 [.one (.slice 9 l8), .one (.func (some (41, [(i12, i13), (i15, 0)])))]
 (fun cs20 h21 =>
 ∃ b22 : Bool, (cs20 = [.one (.bool b22)]) ∧
 Q [.one (.bool b22)] h21) h19))
 (fun x23 h24 =>
 ∃ n25 : Int, (h24.read i10 i11 1 = some [.int .i64 n25]) ∧
 (ifT (decide (n25 > 300))
 (x23 true)
 (fun h26 =>
 ∃ n27 : Int, (h26.read i15 0 1 = some [.int .i64 n27]) ∧
 x23 (decide (n27 > 20)) h26)) h24))) h16)) h14
theorem den39 (I : FuncId → List V → Post → T) (n0 : Int) (s1 : ByteArray) (s2 : ByteArray) (s3 : ByteArray) (l4 : Sl) (l5 : Sl) (n6 : Int) (n7 : Int) (l8 : Sl) (n9 : Int) (i10 : Nat) (i11 : Nat) (i12 : Nat) (i13 : Nat) (Q : Post) : denF Go.Proofs.Tryz.prog 16 (⟨[(28, 32256, [(14, tk Go.Proofs.Tryz.prog 4)])], []⟩) I 39 [V.agg [Cell.int IntKind.i64 n0, Cell.str s1, Cell.str s2, Cell.str s3, Cell.slice 3 l4, Cell.slice 5 l5, Cell.int IntKind.i64 n6, Cell.int IntKind.i64 n7, Cell.slice 9 l8], V.one (Cell.int IntKind.i64 n9), V.one (Cell.ptr (some (i10, i11))), V.one (Cell.ptr (some (i12, i13)))] Q = vc39 I n0 s1 s2 s3 l4 l5 n6 n7 l8 n9 i10 i11 i12 i13 Q := by kernel_rfl
/-- slices.ContainsFunc[[]handbill/api.Cond,handbill/api.Cond] -/
def vc40 (I : FuncId → List V → Post → T) (l0 : Sl) (p1 : Option (Nat × List (Nat × Nat))) (Q : Post) : T :=
 fun h2 =>
 I 68 [.one (.slice 9 l0), .one (.func p1)]
 (fun cs3 h4 =>
 ∃ n5 : Int, (cs3 = [.one (.int .i64 n5)]) ∧
 Q [.one (.bool (decide (n5 ≥ 0)))] h4) h2
theorem den40 (I : FuncId → List V → Post → T) (l0 : Sl) (p1 : Option (Nat × List (Nat × Nat))) (Q : Post) : denF Go.Proofs.Tryz.prog 0 (⟨[], []⟩) I 40 [V.one (Cell.slice 9 l0), V.one (Cell.func p1)] Q = vc40 I l0 p1 Q := by kernel_rfl
/-- slices.IndexFunc[[]handbill/api.Cond,handbill/api.Cond] -/
def vc68 (I : FuncId → List V → Post → T) (l0 : Sl) (p1 : Option (Nat × List (Nat × Nat))) (Q : Post) : T :=
 loopK (A := Int) 0
 (fun x2 n3 => ifT (decide (n3 < (↑l0.len : Int)))
 (fun h4 =>
 ((0 ≤ n3) ∧
 n3 < (↑l0.len : Int)) ∧
 (derefK l0.a (fun i5 => fun i6 h7 =>
 ∃ n8 : Int, ∃ s9 : ByteArray, ∃ s10 : ByteArray, ∃ s11 : ByteArray, ∃ l12 : Sl, ∃ l13 : Sl, ∃ n14 : Int, ∃ n15 : Int, ∃ l16 : Sl, (h7.read i5 (i6 + n3.toNat * 9) 9 = some [.int .i64 n8, .str s9, .str s10, .str s11, .slice 3 l12, .slice 5 l13, .int .i64 n14, .int .i64 n15, .slice 9 l16]) ∧
 (funK p1 (fun i17 => fun cs18 h19 =>
 I i17 (.agg [.int .i64 n8, .str s9, .str s10, .str s11, .slice 3 l12, .slice 5 l13, .int .i64 n14, .int .i64 n15, .slice 9 l16] :: cs18)
 (fun cs20 h21 =>
 ∃ b22 : Bool, (cs20 = [.one (.bool b22)]) ∧
 (ifT b22
 (Q [.one (.int .i64 n3)])
 (x2 (IntKind.i64.wrap (n3 + 1)))) h21) h19)) h7)) h4)
 (Q [.one (.int .i64 (-1))]))
theorem den68 (I : FuncId → List V → Post → T) (l0 : Sl) (p1 : Option (Nat × List (Nat × Nat))) (Q : Post) : denF Go.Proofs.Tryz.prog 0 (⟨[], [(26, 524080, [(8, tk Go.Proofs.Tryz.prog 3)])]⟩) I 68 [V.one (Cell.slice 9 l0), V.one (Cell.func p1)] Q = vc68 I l0 p1 Q := by kernel_rfl
/-- handbill/segment.large$1$1 -/
def vc41 (I : FuncId → List V → Post → T) (n0 : Int) (s1 : ByteArray) (s2 : ByteArray) (s3 : ByteArray) (l4 : Sl) (l5 : Sl) (n6 : Int) (n7 : Int) (l8 : Sl) (i9 : Nat) (i10 : Nat) (i11 : Nat) (i12 : Nat) (Q : Post) : T :=
 fun h13 =>
 ∃ p14 : Option (Nat × List (Nat × Nat)), (h13.read i9 i10 1 = some [.func p14]) ∧
 ∃ n15 : Int, (h13.read i11 i12 1 = some [.int .i64 n15]) ∧
 (funK p14 (fun i16 => fun cs17 h18 =>
 I i16 (.agg [.int .i64 n0, .str s1, .str s2, .str s3, .slice 3 l4, .slice 5 l5, .int .i64 n6, .int .i64 n7, .slice 9 l8] :: .one (.int .i64 (IntKind.i64.wrap (n15 + 1))) :: cs17)
 (fun cs19 h20 =>
 ∃ b21 : Bool, (cs19 = [.one (.bool b21)]) ∧
 Q [.one (.bool b21)] h20) h18)) h13
theorem den41 (I : FuncId → List V → Post → T) (n0 : Int) (s1 : ByteArray) (s2 : ByteArray) (s3 : ByteArray) (l4 : Sl) (l5 : Sl) (n6 : Int) (n7 : Int) (l8 : Sl) (i9 : Nat) (i10 : Nat) (i11 : Nat) (i12 : Nat) (Q : Post) : denF Go.Proofs.Tryz.prog 8 (⟨[], []⟩) I 41 [V.agg [Cell.int IntKind.i64 n0, Cell.str s1, Cell.str s2, Cell.str s3, Cell.slice 3 l4, Cell.slice 5 l5, Cell.int IntKind.i64 n6, Cell.int IntKind.i64 n7, Cell.slice 9 l8], V.one (Cell.ptr (some (i9, i10))), V.one (Cell.ptr (some (i11, i12)))] Q = vc41 I n0 s1 s2 s3 l4 l5 n6 n7 l8 i9 i10 i11 i12 Q := by kernel_rfl
/-- handbill/segment.walk -/
def vc21 (I : FuncId → List V → Post → T) (n0 : Int) (s1 : ByteArray) (s2 : ByteArray) (s3 : ByteArray) (l4 : Sl) (l5 : Sl) (n6 : Int) (n7 : Int) (l8 : Sl) (p9 : Option (Nat × List (Nat × Nat))) (Q : Post) : T :=
 fun h10 =>
 (funK p9 (fun i11 => fun cs12 h13 =>
 I i11 (.agg [.int .i64 n0, .str s1, .str s2, .str s3, .slice 3 l4, .slice 5 l5, .int .i64 n6, .int .i64 n7, .slice 9 l8] :: cs12)
 (fun cs14 h15 =>
 ∃ n16 : Int, (cs14 = [.one (.int .i64 n16)]) ∧
 (ifT (!decide (n16 = 0))
 (Q [.one (.int .i64 n16)])
 (loopK (A := Int) 0
 (fun x17 n18 => ifT (decide (n18 < (↑l8.len : Int)))
 (fun h19 =>
 ((0 ≤ n18) ∧
 n18 < (↑l8.len : Int)) ∧
 (derefK l8.a (fun i20 => fun i21 h22 =>
 ∃ n23 : Int, ∃ s24 : ByteArray, ∃ s25 : ByteArray, ∃ s26 : ByteArray, ∃ l27 : Sl, ∃ l28 : Sl, ∃ n29 : Int, ∃ n30 : Int, ∃ l31 : Sl, (h22.read i20 (i21 + n18.toNat * 9) 9 = some [.int .i64 n23, .str s24, .str s25, .str s26, .slice 3 l27, .slice 5 l28, .int .i64 n29, .int .i64 n30, .slice 9 l31]) ∧
 I 21 [.agg [.int .i64 n23, .str s24, .str s25, .str s26, .slice 3 l27, .slice 5 l28, .int .i64 n29, .int .i64 n30, .slice 9 l31], .one (.func p9)]
 (fun cs32 h33 =>
 ∃ n34 : Int, (cs32 = [.one (.int .i64 n34)]) ∧
 (ifT (!decide (n34 = 0))
 (Q [.one (.int .i64 n34)])
 (x17 (IntKind.i64.wrap (n18 + 1)))) h33) h22)) h19)
 (Q [.one (.int .i64 0)])))) h15) h13)) h10
theorem den21 (I : FuncId → List V → Post → T) (n0 : Int) (s1 : ByteArray) (s2 : ByteArray) (s3 : ByteArray) (l4 : Sl) (l5 : Sl) (n6 : Int) (n7 : Int) (l8 : Sl) (p9 : Option (Nat × List (Nat × Nat))) (Q : Post) : denF Go.Proofs.Tryz.prog 132 (⟨[], [(58, 536609168, [(18, tk Go.Proofs.Tryz.prog 3)])]⟩) I 21 [V.agg [Cell.int IntKind.i64 n0, Cell.str s1, Cell.str s2, Cell.str s3, Cell.slice 3 l4, Cell.slice 5 l5, Cell.int IntKind.i64 n6, Cell.int IntKind.i64 n7, Cell.slice 9 l8], V.one (Cell.func p9)] Q = vc21 I n0 s1 s2 s3 l4 l5 n6 n7 l8 p9 Q := by kernel_rfl
/-- handbill/segment.checkNode -/
def vc22 (I : FuncId → List V → Post → T) (n0 : Int) (s1 : ByteArray) (s2 : ByteArray) (s3 : ByteArray) (l4 : Sl) (l5 : Sl) (n6 : Int) (n7 : Int) (l8 : Sl) (Q : Post) : T :=
 fun h9 =>
 I 42 [.one (.int .i64 n0)]
 (fun cs10 h11 =>
 ∃ b12 : Bool, ∃ b13 : Bool, ∃ b14 : Bool, ∃ b15 : Bool, ∃ b16 : Bool, ∃ b17 : Bool, ∃ n18 : Int, ∃ n19 : Int, ∃ n20 : Int, ∃ n21 : Int, ∃ b22 : Bool, (cs10 = [.agg [.bool b12, .bool b13, .bool b14, .bool b15, .bool b16, .bool b17, .int .i64 n18, .int .i64 n19, .int .i64 n20, .int .i64 n21], .one (.bool b22)]) ∧
 (ifT (!b22)
 (Q [.one (.int .i64 4)])
 (fun h23 =>
 I 43 [.agg [.int .i64 n0, .str s1, .str s2, .str s3, .slice 3 l4, .slice 5 l5, .int .i64 n6, .int .i64 n7, .slice 9 l8], .agg [.bool b12, .bool b13, .bool b14, .bool b15, .bool b16, .bool b17, .int .i64 n18, .int .i64 n19, .int .i64 n20, .int .i64 n21]]
 (fun cs24 h25 =>
 ∃ b26 : Bool, (cs24 = [.one (.bool b26)]) ∧
 (ifT (!b26)
 (Q [.one (.int .i64 3)])
 (joinK (A := Bool)
 (fun b27 => ifT b27
 (Q [.one (.int .i64 5)])
 (joinK (A := Bool)
 (fun b28 => ifT b28
 (Q [.one (.int .i64 4)])
 (loopK (A := Int) 0
 (fun x29 n30 => ifT (decide (n30 < (↑l4.len : Int)))
 (fun h31 =>
 ((0 ≤ n30) ∧
 n30 < (↑l4.len : Int)) ∧
 (derefK l4.a (fun i32 => fun i33 h34 =>
 ∃ n35 : Int, ∃ s36 : ByteArray, ∃ n37 : Int, (h34.read i32 (i33 + n30.toNat * 3) 3 = some [.int .i64 n35, .str s36, .int .i64 n37]) ∧
 I 46 [.agg [.int .i64 n35, .str s36, .int .i64 n37]]
 (fun cs38 h39 =>
 ∃ n40 : Int, (cs38 = [.one (.int .i64 n40)]) ∧
 (ifT (!decide (n40 = 0))
 (Q [.one (.int .i64 n40)])
 (ifT (decide (n0 = 9))
 (ifT (!decide (n35 = 1))
 (Q [.one (.int .i64 10)])
 (x29 (IntKind.i64.wrap (n30 + 1))))
 (ifT (decide (n0 = 10))
 (ifT (!decide (n35 = 1))
 (Q [.one (.int .i64 10)])
 (x29 (IntKind.i64.wrap (n30 + 1))))
 (x29 (IntKind.i64.wrap (n30 + 1)))))) h39) h34)) h31)
 (fun h41 =>
 I 47 [.one (.slice 5 l5)]
 (fun cs42 h43 =>
 ∃ n44 : Int, (cs42 = [.one (.int .i64 n44)]) ∧
 (ifT (!decide (n44 = 0))
 (Q [.one (.int .i64 n44)])
 (joinK (A := Int × Int)
 (uncur fun n45 n46 => fun h47 =>
 I 48 [.one (.int .i64 n6), .one (.int .i64 0), .one (.int .i64 4321440)]
 (fun cs48 h49 =>
 ∃ b50 : Bool, (cs48 = [.one (.bool b50)]) ∧
 (ifT (!b50)
 (Q [.one (.int .i64 1)])
 (fun h51 =>
 I 48 [.one (.int .i64 n7), .one (.int .i64 n45), .one (.int .i64 n46)]
 (fun cs52 h53 =>
 ∃ b54 : Bool, (cs52 = [.one (.bool b54)]) ∧
 (ifT (!b54)
 (Q [.one (.int .i64 1)])
 (Q [.one (.int .i64 0)])) h53) h51)) h49) h47)
 (fun x55 => ifT (decide (n0 = 13))
 (x55 ((0, 4321440)))
 (x55 ((-5000000000000000, 5000000000000000)))))) h43) h41))))
 (fun x56 => ifT b14
 (fun h57 =>
 I 45 [.one (.str s3)]
 (fun cs58 h59 =>
 ∃ n60 : Int, (cs58 = [.one (.int .i64 n60)]) ∧
 x56 (decide (n60 < 0)) h59) h57)
 (x56 false))))
 (fun x61 => ifT b12
 (fun h62 =>
 I 44 [.one (.str s1)]
 (fun cs63 h64 =>
 ∃ b65 : Bool, (cs63 = [.one (.bool b65)]) ∧
 (ifT (!b65)
 (x61 true)
 (ifT b13
 (fun h66 =>
 I 44 [.one (.str s2)]
 (fun cs67 h68 =>
 ∃ b69 : Bool, (cs67 = [.one (.bool b69)]) ∧
 x61 (!b69) h68) h66)
 (x61 false))) h64) h62)
 (ifT b13
 (fun h70 =>
 I 44 [.one (.str s2)]
 (fun cs71 h72 =>
 ∃ b73 : Bool, (cs71 = [.one (.bool b73)]) ∧
 x61 (!b73) h72) h70)
 (x61 false))))) h25) h23)) h11) h9
theorem den22 (I : FuncId → List V → Post → T) (n0 : Int) (s1 : ByteArray) (s2 : ByteArray) (s3 : ByteArray) (l4 : Sl) (l5 : Sl) (n6 : Int) (n7 : Int) (l8 : Sl) (Q : Post) : denF Go.Proofs.Tryz.prog 74 (⟨[(509, 1536, [(9, tk Go.Proofs.Tryz.prog 3), (10, tk Go.Proofs.Tryz.prog 3)]), (926, 17592152489984, [(25, tk Go.Proofs.Tryz.prog 4)]), (3710, 8989607068696576, [(44, tk Go.Proofs.Tryz.prog 4)])], [(122, 604462837749720549425348, [(56, tk Go.Proofs.Tryz.prog 3)])]⟩) I 22 [V.agg [Cell.int IntKind.i64 n0, Cell.str s1, Cell.str s2, Cell.str s3, Cell.slice 3 l4, Cell.slice 5 l5, Cell.int IntKind.i64 n6, Cell.int IntKind.i64 n7, Cell.slice 9 l8]] Q = vc22 I n0 s1 s2 s3 l4 l5 n6 n7 l8 Q := by kernel_rfl
/-- handbill/segment.within -/
def vc48 (I : FuncId → List V → Post → T) (n0 : Int) (n1 : Int) (n2 : Int) (Q : Post) : T :=
 ifT (decide (n1 ≤ n0))
 (Q [.one (.bool (decide (n0 ≤ n2)))])
 (Q [.one (.bool false)])
theorem den48 (I : FuncId → List V → Post → T) (n0 : Int) (n1 : Int) (n2 : Int) (Q : Post) : denF Go.Proofs.Tryz.prog 0 (⟨[], []⟩) I 48 [V.one (Cell.int IntKind.i64 n0), V.one (Cell.int IntKind.i64 n1), V.one (Cell.int IntKind.i64 n2)] Q = vc48 I n0 n1 n2 Q := by kernel_rfl
/-- handbill/segment.signAt -/
def vc45 (I : FuncId → List V → Post → T) (s0 : ByteArray) (Q : Post) : T :=
 fun h1 =>
 (newK (.cells false [.str { data := #[61] }, .str { data := #[33, 61] }, .str { data := #[60] }, .str { data := #[60, 61] }, .str { data := #[62] }, .str { data := #[62, 61] }]) (fun i2 h3 =>
 I 71 [.one (.slice 1 { a := some (i2, 0), len := 6 }), .one (.str s0)]
 (fun cs4 h5 =>
 ∃ n6 : Int, (cs4 = [.one (.int .i64 n6)]) ∧
 Q [.one (.int .i64 n6)] h5) h3)) h1
theorem den45 (I : FuncId → List V → Post → T) (s0 : ByteArray) (Q : Post) : denF Go.Proofs.Tryz.prog 0 (⟨[], []⟩) I 45 [V.one (Cell.str s0)] Q = vc45 I s0 Q := by kernel_rfl
/-- slices.Index[[]string,string] -/
def vc71 (I : FuncId → List V → Post → T) (l0 : Sl) (s1 : ByteArray) (Q : Post) : T :=
 loopK (A := Int) 0
 (fun x2 n3 => ifT (decide (n3 < (↑l0.len : Int)))
 (fun h4 =>
 ((0 ≤ n3) ∧
 n3 < (↑l0.len : Int)) ∧
 (derefK l0.a (fun i5 => fun i6 h7 =>
 ∃ s8 : ByteArray, (h7.read i5 (i6 + n3.toNat * 1) 1 = some [.str s8]) ∧
 (ifT (decide (s1 = s8))
 (Q [.one (.int .i64 n3)])
 (x2 (IntKind.i64.wrap (n3 + 1)))) h7)) h4)
 (Q [.one (.int .i64 (-1))]))
theorem den71 (I : FuncId → List V → Post → T) (l0 : Sl) (s1 : ByteArray) (Q : Post) : denF Go.Proofs.Tryz.prog 0 (⟨[], [(26, 524080, [(8, tk Go.Proofs.Tryz.prog 3)])]⟩) I 71 [V.one (Cell.slice 1 l0), V.one (Cell.str s1)] Q = vc71 I l0 s1 Q := by kernel_rfl
/-- handbill/person.CheckValue -/
def vc46 (I : FuncId → List V → Post → T) (n0 : Int) (s1 : ByteArray) (n2 : Int) (Q : Post) : T :=
 ifT (decide (n0 = 1))
 (ifT (!decide (n2 = 0))
 (Q [.one (.int .i64 3)])
 (fun h3 =>
 I 72 [.one (.str s1)]
 (fun cs4 h5 =>
 ∃ n6 : Int, (cs4 = [.one (.int .i64 n6)]) ∧
 Q [.one (.int .i64 n6)] h5) h3))
 (joinK (A := Int × Int)
 (uncur fun n7 n8 => ifT (!decide (s1 = { data := #[] }))
 (Q [.one (.int .i64 3)])
 (fun h9 =>
 I 73 [.one (.int .i64 n2), .one (.int .i64 n7), .one (.int .i64 n8)]
 (fun cs10 h11 =>
 ∃ b12 : Bool, (cs10 = [.one (.bool b12)]) ∧
 (ifT (!b12)
 (Q [.one (.int .i64 1)])
 (Q [.one (.int .i64 0)])) h11) h9))
 (fun x13 => ifT (decide (n0 = 2))
 (x13 ((-1000000000000, 1000000000000)))
 (joinK (A := Int)
 (fun n14 h15 =>
 x13 ((0, n14)) h15)
 (fun x16 => ifT (decide (n0 = 3))
 (x16 1)
 (ifT (decide (n0 = 4))
 (x16 4321439)
 (Q [.one (.int .i64 4)]))))))
theorem den46 (I : FuncId → List V → Post → T) (n0 : Int) (s1 : ByteArray) (n2 : Int) (Q : Post) : denF Go.Proofs.Tryz.prog 2 (⟨[(471, 1966108, [(3, tk Go.Proofs.Tryz.prog 3), (4, tk Go.Proofs.Tryz.prog 3)]), (1887, 1572884, [(4, tk Go.Proofs.Tryz.prog 3)])], []⟩) I 46 [V.agg [Cell.int IntKind.i64 n0, Cell.str s1, Cell.int IntKind.i64 n2]] Q = vc46 I n0 s1 n2 Q := by kernel_rfl
/-- handbill/person.within -/
def vc73 (I : FuncId → List V → Post → T) (n0 : Int) (n1 : Int) (n2 : Int) (Q : Post) : T :=
 ifT (decide (n1 ≤ n0))
 (Q [.one (.bool (decide (n0 ≤ n2)))])
 (Q [.one (.bool false)])
theorem den73 (I : FuncId → List V → Post → T) (n0 : Int) (n1 : Int) (n2 : Int) (Q : Post) : denF Go.Proofs.Tryz.prog 0 (⟨[], []⟩) I 73 [V.one (Cell.int IntKind.i64 n0), V.one (Cell.int IntKind.i64 n1), V.one (Cell.int IntKind.i64 n2)] Q = vc73 I n0 n1 n2 Q := by kernel_rfl
/-- handbill/person.checkText -/
def vc72 (I : FuncId → List V → Post → T) (s0 : ByteArray) (Q : Post) : T :=
 ifT (decide ((↑s0.size : Int) > 200))
 (Q [.one (.int .i64 2)])
 (fun h1 =>
 I 107 [.one (.str s0)]
 (fun cs2 h3 =>
 ∃ b4 : Bool, (cs2 = [.one (.bool b4)]) ∧
 (ifT (!b4)
 (Q [.one (.int .i64 3)])
 (fun h5 =>
 I 104 [.one (.str s0), .one (.func (some (108, [])))]
 (fun cs6 h7 =>
 ∃ b8 : Bool, (cs6 = [.one (.bool b8)]) ∧
 (ifT (!b8)
 (Q [.one (.int .i64 3)])
 (Q [.one (.int .i64 0)])) h7) h5)) h3) h1)
theorem den72 (I : FuncId → List V → Post → T) (s0 : ByteArray) (Q : Post) : denF Go.Proofs.Tryz.prog 0 (⟨[], []⟩) I 72 [V.one (Cell.str s0)] Q = vc72 I s0 Q := by kernel_rfl
/-- handbill/person.all -/
def vc104 (I : FuncId → List V → Post → T) (s0 : ByteArray) (p1 : Option (Nat × List (Nat × Nat))) (Q : Post) : T :=
 loopK (A := Int) 0
 (fun x2 n3 => ifT (decide (n3 < (↑s0.size : Int)))
 (fun h4 =>
 ((0 ≤ n3) ∧
 n3 < (↑s0.size : Int)) ∧
 (funK p1 (fun i5 => fun cs6 h7 =>
 I i5 (.one (.int .u8 (byteAt s0 n3)) :: cs6)
 (fun cs8 h9 =>
 ∃ b10 : Bool, (cs8 = [.one (.bool b10)]) ∧
 (ifT (!b10)
 (Q [.one (.bool false)])
 (x2 (IntKind.i64.wrap (n3 + 1)))) h9) h7)) h4)
 (Q [.one (.bool true)]))
theorem den104 (I : FuncId → List V → Post → T) (s0 : ByteArray) (p1 : Option (Nat × List (Nat × Nat))) (Q : Post) : denF Go.Proofs.Tryz.prog 0 (⟨[], [(26, 261936, [(8, tk Go.Proofs.Tryz.prog 3)])]⟩) I 104 [V.one (Cell.str s0), V.one (Cell.func p1)] Q = vc104 I s0 p1 Q := by kernel_rfl
/-- unicode/utf8.ValidString -/
def vc107 (I : FuncId → List V → Post → T) (s0 : ByteArray) (Q : Post) : T :=
 loopK (A := ByteArray) s0
 (fun x1 s2 => ifT (decide ((↑s2.size : Int) > 0))
 (fun h3 =>
 (((0 : Int) ≤ (0 : Int)) ∧
 0 < (↑s2.size : Int)) ∧
 (ifT (decide (byteAt s2 0 < 128))
 (fun h4 =>
 (((0 : Int) ≤ (1 : Int)) ∧
 (1 ≤ (↑s2.size : Int)) ∧
 (↑s2.size : Int) ≤ (↑s2.size : Int)) ∧
 (joinK (A := Bool)
 (fun b5 => joinK (A := ByteArray)
 (fun s6 h7 =>
 x1 s6 h7)
 (fun x8 => ifT b5
 (fun h9 =>
 (((0 : Int) ≤ (8 : Int)) ∧
 (8 ≤ (↑(s2.extract 1 (↑s2.size : Int).toNat).size : Int)) ∧
 (↑(s2.extract 1 (↑s2.size : Int).toNat).size : Int) ≤ (↑(s2.extract 1 (↑s2.size : Int).toNat).size : Int)) ∧
 (joinK (A := Bool)
 (fun b10 => joinK (A := ByteArray)
 (fun s11 h12 =>
 x8 s11 h12)
 (fun x13 => ifT b10
 (fun h14 =>
 (((0 : Int) ≤ (16 : Int)) ∧
 (16 ≤ (↑((s2.extract 1 (↑s2.size : Int).toNat).extract 8 (↑(s2.extract 1 (↑s2.size : Int).toNat).size : Int).toNat).size : Int)) ∧
 (↑((s2.extract 1 (↑s2.size : Int).toNat).extract 8 (↑(s2.extract 1 (↑s2.size : Int).toNat).size : Int).toNat).size : Int) ≤ (↑((s2.extract 1 (↑s2.size : Int).toNat).extract 8 (↑(s2.extract 1 (↑s2.size : Int).toNat).size : Int).toNat).size : Int)) ∧
 (loopK (A := ByteArray) (((s2.extract 1 (↑s2.size : Int).toNat).extract 8 (↑(s2.extract 1 (↑s2.size : Int).toNat).size : Int).toNat).extract 16 (↑((s2.extract 1 (↑s2.size : Int).toNat).extract 8 (↑(s2.extract 1 (↑s2.size : Int).toNat).size : Int).toNat).size : Int).toNat)
 (fun x15 s16 => joinK (A := Bool)
 (fun b17 => ifT b17
 (fun h18 =>
 (((0 : Int) ≤ (32 : Int)) ∧
 (32 ≤ (↑s16.size : Int)) ∧
 (↑s16.size : Int) ≤ (↑s16.size : Int)) ∧
 x15 (s16.extract 32 (↑s16.size : Int).toNat) h18)
 (x13 s16))
 (fun x19 => ifT (decide ((↑s16.size : Int) > 32))
 (fun h20 =>
 (((0 : Int) ≤ (8 : Int)) ∧
 (8 ≤ (↑s16.size : Int)) ∧
 (↑s16.size : Int) ≤ (↑s16.size : Int)) ∧
 (((0 : Int) ≤ (16 : Int)) ∧
 (16 ≤ (↑s16.size : Int)) ∧
 (↑s16.size : Int) ≤ (↑s16.size : Int)) ∧
 (((0 : Int) ≤ (24 : Int)) ∧
 (24 ≤ (↑s16.size : Int)) ∧
 (↑s16.size : Int) ≤ (↑s16.size : Int)) ∧
 I 130 [.one (.str s16)]
 (fun cs21 h22 =>
 ∃ n23 : Int, (cs21 = [.one (.int .u64 n23)]) ∧
 I 130 [.one (.str (s16.extract 8 (↑s16.size : Int).toNat))]
 (fun cs24 h25 =>
 ∃ n26 : Int, (cs24 = [.one (.int .u64 n26)]) ∧
 I 130 [.one (.str (s16.extract 16 (↑s16.size : Int).toNat))]
 (fun cs27 h28 =>
 ∃ n29 : Int, (cs27 = [.one (.int .u64 n29)]) ∧
 I 130 [.one (.str (s16.extract 24 (↑s16.size : Int).toNat))]
 (fun cs30 h31 =>
 ∃ n32 : Int, (cs30 = [.one (.int .u64 n32)]) ∧
 x19 (decide (IntKind.u64.wrap (↑(BitVec.ofInt 64 (IntKind.u64.wrap (↑(BitVec.ofInt 64 (IntKind.u64.wrap (↑(BitVec.ofInt 64 n23 ||| BitVec.ofInt 64 n26).toNat : Int)) ||| BitVec.ofInt 64 (IntKind.u64.wrap (↑(BitVec.ofInt 64 n29 ||| BitVec.ofInt 64 n32).toNat : Int))).toNat : Int)) &&& BitVec.ofInt 64 9259542123273814144).toNat : Int) = 0)) h31) h28) h25) h22) h20)
 (x19 false)))) h14)
 (x13 ((s2.extract 1 (↑s2.size : Int).toNat).extract 8 (↑(s2.extract 1 (↑s2.size : Int).toNat).size : Int).toNat))))
 (fun x33 => ifT (decide ((↑((s2.extract 1 (↑s2.size : Int).toNat).extract 8 (↑(s2.extract 1 (↑s2.size : Int).toNat).size : Int).toNat).size : Int) > 16))
 (fun h34 =>
 (((0 : Int) ≤ (8 : Int)) ∧
 (8 ≤ (↑((s2.extract 1 (↑s2.size : Int).toNat).extract 8 (↑(s2.extract 1 (↑s2.size : Int).toNat).size : Int).toNat).size : Int)) ∧
 (↑((s2.extract 1 (↑s2.size : Int).toNat).extract 8 (↑(s2.extract 1 (↑s2.size : Int).toNat).size : Int).toNat).size : Int) ≤ (↑((s2.extract 1 (↑s2.size : Int).toNat).extract 8 (↑(s2.extract 1 (↑s2.size : Int).toNat).size : Int).toNat).size : Int)) ∧
 I 130 [.one (.str ((s2.extract 1 (↑s2.size : Int).toNat).extract 8 (↑(s2.extract 1 (↑s2.size : Int).toNat).size : Int).toNat))]
 (fun cs35 h36 =>
 ∃ n37 : Int, (cs35 = [.one (.int .u64 n37)]) ∧
 I 130 [.one (.str (((s2.extract 1 (↑s2.size : Int).toNat).extract 8 (↑(s2.extract 1 (↑s2.size : Int).toNat).size : Int).toNat).extract 8 (↑((s2.extract 1 (↑s2.size : Int).toNat).extract 8 (↑(s2.extract 1 (↑s2.size : Int).toNat).size : Int).toNat).size : Int).toNat))]
 (fun cs38 h39 =>
 ∃ n40 : Int, (cs38 = [.one (.int .u64 n40)]) ∧
 x33 (decide (IntKind.u64.wrap (↑(BitVec.ofInt 64 (IntKind.u64.wrap (↑(BitVec.ofInt 64 n37 ||| BitVec.ofInt 64 n40).toNat : Int)) &&& BitVec.ofInt 64 9259542123273814144).toNat : Int) = 0)) h39) h36) h34)
 (x33 false))) h9)
 (x8 (s2.extract 1 (↑s2.size : Int).toNat))))
 (fun x41 => ifT (decide ((↑(s2.extract 1 (↑s2.size : Int).toNat).size : Int) > 8))
 (fun h42 =>
 I 130 [.one (.str (s2.extract 1 (↑s2.size : Int).toNat))]
 (fun cs43 h44 =>
 ∃ n45 : Int, (cs43 = [.one (.int .u64 n45)]) ∧
 x41 (decide (IntKind.u64.wrap (↑(BitVec.ofInt 64 n45 &&& BitVec.ofInt 64 9259542123273814144).toNat : Int) = 0)) h44) h42)
 (x41 false))) h4)
 (fun h46 =>
 ((0 ≤ byteAt s2 0) ∧
 byteAt s2 0 < (↑256 : Int)) ∧
 (globK 1 (fun i47 => fun i48 h49 =>
 ∃ n50 : Int, (h49.read i48 ((byteAt s2 0).toNat * 1) 1 = some [.int .u8 n50]) ∧
 ((0 ≤ shr IntKind.u8 n50 4) ∧
 shr IntKind.u8 n50 4 < (↑16 : Int)) ∧
 (globK 2 (fun i51 => fun i52 h53 =>
 ∃ n54 : Int, ∃ n55 : Int, (h53.read i52 ((shr IntKind.u8 n50 4).toNat * 2) 2 = some [.int .u8 n54, .int .u8 n55]) ∧
 (ifT (decide (IntKind.i64.wrap (IntKind.u8.wrap (↑(BitVec.ofInt 8 n50 &&& BitVec.ofInt 8 7).toNat : Int)) = 2))
 (ifT (decide ((↑s2.size : Int) < 2))
 (Q [.one (.bool false)])
 (fun h56 =>
 (((0 : Int) ≤ (1 : Int)) ∧
 1 < (↑s2.size : Int)) ∧
 (ifT (decide (byteAt s2 1 < n54))
 (Q [.one (.bool false)])
 (fun h57 =>
 (((0 : Int) ≤ (1 : Int)) ∧
 1 < (↑s2.size : Int)) ∧
 (ifT (decide (n55 < byteAt s2 1))
 (Q [.one (.bool false)])
 (fun h58 =>
 (((0 : Int) ≤ (2 : Int)) ∧
 (2 ≤ (↑s2.size : Int)) ∧
 (↑s2.size : Int) ≤ (↑s2.size : Int)) ∧
 x1 (s2.extract 2 (↑s2.size : Int).toNat) h58)) h57)) h56))
 (ifT (decide (IntKind.i64.wrap (IntKind.u8.wrap (↑(BitVec.ofInt 8 n50 &&& BitVec.ofInt 8 7).toNat : Int)) = 3))
 (ifT (decide ((↑s2.size : Int) < 3))
 (Q [.one (.bool false)])
 (fun h59 =>
 (((0 : Int) ≤ (1 : Int)) ∧
 1 < (↑s2.size : Int)) ∧
 (ifT (decide (byteAt s2 1 < n54))
 (Q [.one (.bool false)])
 (fun h60 =>
 (((0 : Int) ≤ (1 : Int)) ∧
 1 < (↑s2.size : Int)) ∧
 (ifT (decide (n55 < byteAt s2 1))
 (Q [.one (.bool false)])
 (fun h61 =>
 (((0 : Int) ≤ (2 : Int)) ∧
 2 < (↑s2.size : Int)) ∧
 (ifT (decide (byteAt s2 2 < 128))
 (Q [.one (.bool false)])
 (fun h62 =>
 (((0 : Int) ≤ (2 : Int)) ∧
 2 < (↑s2.size : Int)) ∧
 (ifT (decide (191 < byteAt s2 2))
 (Q [.one (.bool false)])
 (fun h63 =>
 (((0 : Int) ≤ (3 : Int)) ∧
 (3 ≤ (↑s2.size : Int)) ∧
 (↑s2.size : Int) ≤ (↑s2.size : Int)) ∧
 x1 (s2.extract 3 (↑s2.size : Int).toNat) h63)) h62)) h61)) h60)) h59))
 (ifT (decide (IntKind.i64.wrap (IntKind.u8.wrap (↑(BitVec.ofInt 8 n50 &&& BitVec.ofInt 8 7).toNat : Int)) = 4))
 (ifT (decide ((↑s2.size : Int) < 4))
 (Q [.one (.bool false)])
 (fun h64 =>
 (((0 : Int) ≤ (1 : Int)) ∧
 1 < (↑s2.size : Int)) ∧
 (ifT (decide (byteAt s2 1 < n54))
 (Q [.one (.bool false)])
 (fun h65 =>
 (((0 : Int) ≤ (1 : Int)) ∧
 1 < (↑s2.size : Int)) ∧
 (ifT (decide (n55 < byteAt s2 1))
 (Q [.one (.bool false)])
 (fun h66 =>
 (((0 : Int) ≤ (2 : Int)) ∧
 2 < (↑s2.size : Int)) ∧
 (ifT (decide (byteAt s2 2 < 128))
 (Q [.one (.bool false)])
 (fun h67 =>
 (((0 : Int) ≤ (2 : Int)) ∧
 2 < (↑s2.size : Int)) ∧
 (ifT (decide (191 < byteAt s2 2))
 (Q [.one (.bool false)])
 (fun h68 =>
 (((0 : Int) ≤ (3 : Int)) ∧
 3 < (↑s2.size : Int)) ∧
 (ifT (decide (byteAt s2 3 < 128))
 (Q [.one (.bool false)])
 (fun h69 =>
 (((0 : Int) ≤ (3 : Int)) ∧
 3 < (↑s2.size : Int)) ∧
 (ifT (decide (191 < byteAt s2 3))
 (Q [.one (.bool false)])
 (fun h70 =>
 (((0 : Int) ≤ (4 : Int)) ∧
 (4 ≤ (↑s2.size : Int)) ∧
 (↑s2.size : Int) ≤ (↑s2.size : Int)) ∧
 x1 (s2.extract 4 (↑s2.size : Int).toNat) h70)) h69)) h68)) h67)) h66)) h65)) h64))
 (Q [.one (.bool false)])))) h53)) h49)) h46)) h3)
 (Q [.one (.bool true)]))
theorem den107 (I : FuncId → List V → Post → T) (s0 : ByteArray) (Q : Post) : denF Go.Proofs.Tryz.prog 64 (⟨[(12628, 33488896, [(24, tk Go.Proofs.Tryz.prog 4)]), (12629, 36893488147385548801, [(0, tk Go.Proofs.Tryz.prog 9)]), (101034, 1099377410048, [(39, tk Go.Proofs.Tryz.prog 4)]), (101035, 36893487047907475457, [(0, tk Go.Proofs.Tryz.prog 9)]), (6466256, 9223367638808264704, [(62, tk Go.Proofs.Tryz.prog 4)])], [(12, 748288838313422294120286634350736906063837462003709, [(0, tk Go.Proofs.Tryz.prog 9)]), (808282, 36893483749372592129, [(0, tk Go.Proofs.Tryz.prog 9)])]⟩) I 107 [V.one (Cell.str s0)] Q = vc107 I s0 Q := by kernel_rfl
/-- unicode/utf8.word[string] -/
def vc130 (I : FuncId → List V → Post → T) (s0 : ByteArray) (Q : Post) : T :=
 fun h1 =>
 (((0 : Int) ≤ (0 : Int)) ∧
 0 < (↑s0.size : Int)) ∧
 (((0 : Int) ≤ (1 : Int)) ∧
 1 < (↑s0.size : Int)) ∧
 (((0 : Int) ≤ (2 : Int)) ∧
 2 < (↑s0.size : Int)) ∧
 (((0 : Int) ≤ (3 : Int)) ∧
 3 < (↑s0.size : Int)) ∧
 (((0 : Int) ≤ (4 : Int)) ∧
 4 < (↑s0.size : Int)) ∧
 (((0 : Int) ≤ (5 : Int)) ∧
 5 < (↑s0.size : Int)) ∧
 (((0 : Int) ≤ (6 : Int)) ∧
 6 < (↑s0.size : Int)) ∧
 (((0 : Int) ≤ (7 : Int)) ∧
 7 < (↑s0.size : Int)) ∧
 Q [.one (.int .u64 (IntKind.u64.wrap (↑(BitVec.ofInt 64 (IntKind.u64.wrap (↑(BitVec.ofInt 64 (IntKind.u64.wrap (↑(BitVec.ofInt 64 (IntKind.u64.wrap (↑(BitVec.ofInt 64 (IntKind.u64.wrap (↑(BitVec.ofInt 64 (IntKind.u64.wrap (↑(BitVec.ofInt 64 (IntKind.u64.wrap (↑(BitVec.ofInt 64 (IntKind.u64.wrap (byteAt s0 0)) ||| BitVec.ofInt 64 (shl IntKind.u64 (IntKind.u64.wrap (byteAt s0 1)) 8)).toNat : Int)) ||| BitVec.ofInt 64 (shl IntKind.u64 (IntKind.u64.wrap (byteAt s0 2)) 16)).toNat : Int)) ||| BitVec.ofInt 64 (shl IntKind.u64 (IntKind.u64.wrap (byteAt s0 3)) 24)).toNat : Int)) ||| BitVec.ofInt 64 (shl IntKind.u64 (IntKind.u64.wrap (byteAt s0 4)) 32)).toNat : Int)) ||| BitVec.ofInt 64 (shl IntKind.u64 (IntKind.u64.wrap (byteAt s0 5)) 40)).toNat : Int)) ||| BitVec.ofInt 64 (shl IntKind.u64 (IntKind.u64.wrap (byteAt s0 6)) 48)).toNat : Int)) ||| BitVec.ofInt 64 (shl IntKind.u64 (IntKind.u64.wrap (byteAt s0 7)) 56)).toNat : Int)))] h1
theorem den130 (I : FuncId → List V → Post → T) (s0 : ByteArray) (Q : Post) : denF Go.Proofs.Tryz.prog 0 (⟨[], []⟩) I 130 [V.one (Cell.str s0)] Q = vc130 I s0 Q := by kernel_rfl
/-- handbill/person.checkText$1 -/
def vc108 (I : FuncId → List V → Post → T) (n0 : Int) (Q : Post) : T :=
 ifT (decide (n0 ≥ 32))
 (Q [.one (.bool (!decide (n0 = 127)))])
 (Q [.one (.bool false)])
theorem den108 (I : FuncId → List V → Post → T) (n0 : Int) (Q : Post) : denF Go.Proofs.Tryz.prog 0 (⟨[], []⟩) I 108 [V.one (Cell.int IntKind.u8 n0)] Q = vc108 I n0 Q := by kernel_rfl
/-- handbill/segment.useOf -/
def vc42 (I : FuncId → List V → Post → T) (n0 : Int) (Q : Post) : T :=
 joinK (A := Bool)
 (fun b1 => ifT b1
 (fun h2 =>
 Q [.agg [.bool false, .bool false, .bool false, .bool false, .bool false, .bool false, .int .i64 0, .int .i64 0, .int .i64 0, .int .i64 0], .one (.bool true)] h2)
 (joinK (A := Bool)
 (fun b3 => ifT b3
 (fun h4 =>
 Q [.agg [.bool false, .bool false, .bool false, .bool false, .bool false, .bool false, .int .i64 0, .int .i64 0, .int .i64 2, .int .i64 1073741824], .one (.bool true)] h4)
 (ifT (decide (n0 = 5))
 (fun h5 =>
 Q [.agg [.bool false, .bool false, .bool false, .bool false, .bool false, .bool false, .int .i64 0, .int .i64 0, .int .i64 1, .int .i64 1], .one (.bool true)] h5)
 (ifT (decide (n0 = 6))
 (fun h6 =>
 Q [.agg [.bool true, .bool false, .bool false, .bool false, .bool false, .bool false, .int .i64 0, .int .i64 0, .int .i64 0, .int .i64 0], .one (.bool true)] h6)
 (ifT (decide (n0 = 7))
 (fun h7 =>
 Q [.agg [.bool true, .bool false, .bool true, .bool false, .bool false, .bool false, .int .i64 1, .int .i64 1, .int .i64 0, .int .i64 0], .one (.bool true)] h7)
 (ifT (decide (n0 = 8))
 (fun h8 =>
 Q [.agg [.bool true, .bool false, .bool false, .bool false, .bool false, .bool false, .int .i64 1, .int .i64 50, .int .i64 0, .int .i64 0], .one (.bool true)] h8)
 (joinK (A := Bool)
 (fun b9 => ifT b9
 (fun h10 =>
 Q [.agg [.bool true, .bool false, .bool false, .bool false, .bool false, .bool false, .int .i64 1, .int .i64 1, .int .i64 0, .int .i64 0], .one (.bool true)] h10)
 (ifT (decide (n0 = 11))
 (fun h11 =>
 Q [.agg [.bool true, .bool false, .bool true, .bool true, .bool true, .bool true, .int .i64 0, .int .i64 0, .int .i64 0, .int .i64 0], .one (.bool true)] h11)
 (ifT (decide (n0 = 12))
 (fun h12 =>
 Q [.agg [.bool true, .bool true, .bool true, .bool true, .bool true, .bool true, .int .i64 0, .int .i64 0, .int .i64 0, .int .i64 0], .one (.bool true)] h12)
 (ifT (decide (n0 = 13))
 (fun h13 =>
 Q [.agg [.bool true, .bool false, .bool true, .bool true, .bool false, .bool true, .int .i64 0, .int .i64 0, .int .i64 0, .int .i64 0], .one (.bool true)] h13)
 (ifT (decide (n0 = 14))
 (fun h14 =>
 Q [.agg [.bool true, .bool true, .bool false, .bool false, .bool true, .bool false, .int .i64 0, .int .i64 0, .int .i64 0, .int .i64 0], .one (.bool true)] h14)
 (fun h15 =>
 Q [.agg [.bool false, .bool false, .bool false, .bool false, .bool false, .bool false, .int .i64 0, .int .i64 0, .int .i64 0, .int .i64 0], .one (.bool false)] h15))))))
 (fun x16 => ifT (decide (n0 = 9))
 (x16 (decide (n0 = 9)))
 (x16 (decide (n0 = 10))))))))))
 (fun x17 => ifT (decide (n0 = 3))
 (x17 (decide (n0 = 3)))
 (x17 (decide (n0 = 4))))))
 (fun x18 => ifT (decide (n0 = 1))
 (x18 (decide (n0 = 1)))
 (x18 (decide (n0 = 2))))
theorem den42 (I : FuncId → List V → Post → T) (n0 : Int) (Q : Post) : denF Go.Proofs.Tryz.prog 4 (⟨[(105, 160, [(5, tk Go.Proofs.Tryz.prog 4)]), (429, 2560, [(9, tk Go.Proofs.Tryz.prog 4)]), (442365, 167772160, [(25, tk Go.Proofs.Tryz.prog 4)])], []⟩) I 42 [V.one (Cell.int IntKind.i64 n0)] Q = vc42 I n0 Q := by kernel_rfl
/-- handbill/segment.formed -/
def vc43 (I : FuncId → List V → Post → T) (n0 : Int) (s1 : ByteArray) (s2 : ByteArray) (s3 : ByteArray) (l4 : Sl) (l5 : Sl) (n6 : Int) (n7 : Int) (l8 : Sl) (b9 : Bool) (b10 : Bool) (b11 : Bool) (b12 : Bool) (b13 : Bool) (b14 : Bool) (n15 : Int) (n16 : Int) (n17 : Int) (n18 : Int) (Q : Post) : T :=
 joinK (A := Bool)
 (fun b19 => joinK (A := Bool)
 (fun b20 => ifT b20
 (Q [.one (.bool false)])
 (fun h21 =>
 I 48 [.one (.int .i64 (↑l4.len : Int)), .one (.int .i64 n15), .one (.int .i64 n16)]
 (fun cs22 h23 =>
 ∃ b24 : Bool, (cs22 = [.one (.bool b24)]) ∧
 (joinK (A := Bool)
 (fun b25 => ifT b25
 (Q [.one (.bool false)])
 (ifT (decide ((↑l5.len : Int) = 0))
 (Q [.one (.bool true)])
 (ifT b12
 (Q [.one (.bool (decide ((↑l5.len : Int) ≤ 5)))])
 (Q [.one (.bool false)]))))
 (fun x26 => ifT (!b24)
 (x26 (!b24))
 (fun h27 =>
 I 48 [.one (.int .i64 (↑l8.len : Int)), .one (.int .i64 n17), .one (.int .i64 n18)]
 (fun cs28 h29 =>
 ∃ b30 : Bool, (cs28 = [.one (.bool b30)]) ∧
 x26 (!b30) h29) h27))) h23) h21))
 (fun x31 => ifT b19
 (x31 b19)
 (joinK (A := Bool)
 (fun b32 => joinK (A := Bool)
 (fun b33 h34 =>
 x31 b33 h34)
 (fun x35 => ifT b32
 (x35 b32)
 (joinK (A := Bool)
 (fun b36 => joinK (A := Bool)
 (fun b37 h38 =>
 x35 b37 h38)
 (fun x39 => ifT b36
 (x39 b36)
 (joinK (A := Bool)
 (fun b40 => joinK (A := Bool)
 (fun b41 h42 =>
 x39 b41 h42)
 (fun x43 => ifT b40
 (x43 b40)
 (joinK (A := Bool)
 (fun b44 h45 =>
 x43 b44 h45)
 (fun x46 => ifT (!b14)
 (x46 (!decide (n7 = 0)))
 (x46 false)))))
 (fun x47 => ifT (!b13)
 (x47 (!decide (n6 = 0)))
 (x47 false)))))
 (fun x48 => ifT (!b11)
 (x48 (!decide (s3 = { data := #[] })))
 (x48 false)))))
 (fun x49 => ifT (!b10)
 (x49 (!decide (s2 = { data := #[] })))
 (x49 false)))))
 (fun x50 => ifT (!b9)
 (x50 (!decide (s1 = { data := #[] })))
 (x50 false))
theorem den43 (I : FuncId → List V → Post → T) (n0 : Int) (s1 : ByteArray) (s2 : ByteArray) (s3 : ByteArray) (l4 : Sl) (l5 : Sl) (n6 : Int) (n7 : Int) (l8 : Sl) (b9 : Bool) (b10 : Bool) (b11 : Bool) (b12 : Bool) (b13 : Bool) (b14 : Bool) (n15 : Int) (n16 : Int) (n17 : Int) (n18 : Int) (Q : Post) : denF Go.Proofs.Tryz.prog 12 (⟨[(48, 16352, [(5, tk Go.Proofs.Tryz.prog 4)]), (49, 70368744161312, [(5, tk Go.Proofs.Tryz.prog 4)]), (198, 4177952, [(5, tk Go.Proofs.Tryz.prog 4)]), (199, 70368739983392, [(5, tk Go.Proofs.Tryz.prog 4)]), (205, 36821500922125352960, [(46, tk Go.Proofs.Tryz.prog 4)]), (798, 1069547552, [(5, tk Go.Proofs.Tryz.prog 4)]), (799, 70367670435872, [(5, tk Go.Proofs.Tryz.prog 4)]), (3198, 273804165152, [(5, tk Go.Proofs.Tryz.prog 4)]), (3199, 70093866270752, [(5, tk Go.Proofs.Tryz.prog 4)]), (6399, 70093866270752, [(5, tk Go.Proofs.Tryz.prog 4)])], []⟩) I 43 [V.agg [Cell.int IntKind.i64 n0, Cell.str s1, Cell.str s2, Cell.str s3, Cell.slice 3 l4, Cell.slice 5 l5, Cell.int IntKind.i64 n6, Cell.int IntKind.i64 n7, Cell.slice 9 l8], V.agg [Cell.bool b9, Cell.bool b10, Cell.bool b11, Cell.bool b12, Cell.bool b13, Cell.bool b14, Cell.int IntKind.i64 n15, Cell.int IntKind.i64 n16, Cell.int IntKind.i64 n17, Cell.int IntKind.i64 n18]] Q = vc43 I n0 s1 s2 s3 l4 l5 n6 n7 l8 b9 b10 b11 b12 b13 b14 n15 n16 n17 n18 Q := by kernel_rfl
/-- handbill/segment.isName -/
def vc44 (I : FuncId → List V → Post → T) (s0 : ByteArray) (Q : Post) : T :=
 fun h1 =>
 I 69 [.one (.str s0)]
 (fun cs2 h3 =>
 ∃ b4 : Bool, (cs2 = [.one (.bool b4)]) ∧
 (ifT b4
 (fun h5 =>
 I 70 [.one (.str s0)]
 (fun cs6 h7 =>
 ∃ b8 : Bool, (cs6 = [.one (.bool b8)]) ∧
 Q [.one (.bool !b8)] h7) h5)
 (Q [.one (.bool false)])) h3) h1
theorem den44 (I : FuncId → List V → Post → T) (s0 : ByteArray) (Q : Post) : denF Go.Proofs.Tryz.prog 0 (⟨[], []⟩) I 44 [V.one (Cell.str s0)] Q = vc44 I s0 Q := by kernel_rfl
/-- handbill/person.IsKey -/
def vc69 (I : FuncId → List V → Post → T) (s0 : ByteArray) (Q : Post) : T :=
 fun h1 =>
 I 73 [.one (.int .i64 (↑s0.size : Int)), .one (.int .i64 1), .one (.int .i64 40)]
 (fun cs2 h3 =>
 ∃ b4 : Bool, (cs2 = [.one (.bool b4)]) ∧
 (ifT b4
 (fun h5 =>
 (((0 : Int) ≤ (0 : Int)) ∧
 0 < (↑s0.size : Int)) ∧
 I 103 [.one (.int .u8 (byteAt s0 0))]
 (fun cs6 h7 =>
 ∃ b8 : Bool, (cs6 = [.one (.bool b8)]) ∧
 (ifT b8
 (fun h9 =>
 I 104 [.one (.str s0), .one (.func (some (105, [])))]
 (fun cs10 h11 =>
 ∃ b12 : Bool, (cs10 = [.one (.bool b12)]) ∧
 Q [.one (.bool b12)] h11) h9)
 (Q [.one (.bool false)])) h7) h5)
 (Q [.one (.bool false)])) h3) h1
theorem den69 (I : FuncId → List V → Post → T) (s0 : ByteArray) (Q : Post) : denF Go.Proofs.Tryz.prog 0 (⟨[], []⟩) I 69 [V.one (Cell.str s0)] Q = vc69 I s0 Q := by kernel_rfl
/-- handbill/person.small -/
def vc103 (I : FuncId → List V → Post → T) (n0 : Int) (Q : Post) : T :=
 ifT (decide (97 ≤ n0))
 (Q [.one (.bool (decide (n0 ≤ 122)))])
 (Q [.one (.bool false)])
theorem den103 (I : FuncId → List V → Post → T) (n0 : Int) (Q : Post) : denF Go.Proofs.Tryz.prog 0 (⟨[], []⟩) I 103 [V.one (Cell.int IntKind.u8 n0)] Q = vc103 I n0 Q := by kernel_rfl
/-- handbill/person.IsKey$1 -/
def vc105 (I : FuncId → List V → Post → T) (n0 : Int) (Q : Post) : T :=
 fun h1 =>
 I 103 [.one (.int .u8 n0)]
 (fun cs2 h3 =>
 ∃ b4 : Bool, (cs2 = [.one (.bool b4)]) ∧
 (ifT b4
 (Q [.one (.bool true)])
 (fun h5 =>
 I 106 [.one (.int .u8 n0)]
 (fun cs6 h7 =>
 ∃ b8 : Bool, (cs6 = [.one (.bool b8)]) ∧
 (ifT b8
 (Q [.one (.bool true)])
 (ifT (decide (n0 = 45))
 (Q [.one (.bool true)])
 (Q [.one (.bool (decide (n0 = 95)))]))) h7) h5)) h3) h1
theorem den105 (I : FuncId → List V → Post → T) (n0 : Int) (Q : Post) : denF Go.Proofs.Tryz.prog 0 (⟨[], []⟩) I 105 [V.one (Cell.int IntKind.u8 n0)] Q = vc105 I n0 Q := by kernel_rfl
/-- handbill/person.digit -/
def vc106 (I : FuncId → List V → Post → T) (n0 : Int) (Q : Post) : T :=
 ifT (decide (48 ≤ n0))
 (Q [.one (.bool (decide (n0 ≤ 57)))])
 (Q [.one (.bool false)])
theorem den106 (I : FuncId → List V → Post → T) (n0 : Int) (Q : Post) : denF Go.Proofs.Tryz.prog 0 (⟨[], []⟩) I 106 [V.one (Cell.int IntKind.u8 n0)] Q = vc106 I n0 Q := by kernel_rfl
/-- handbill/segment.isWord -/
def vc70 (I : FuncId → List V → Post → T) (s0 : ByteArray) (Q : Post) : T :=
 ifT (decide (s0 = { data := #[97, 108, 108] }))
 (ifT (decide (s0 = { data := #[97, 108, 108] }))
 (Q [.one (.bool true)])
 (Q [.one (.bool false)]))
 (ifT (decide (s0 = { data := #[110, 111, 110, 101] }))
 (ifT (decide (s0 = { data := #[110, 111, 110, 101] }))
 (Q [.one (.bool true)])
 (Q [.one (.bool false)]))
 (ifT (decide (s0 = { data := #[97, 110, 100] }))
 (ifT (decide (s0 = { data := #[97, 110, 100] }))
 (Q [.one (.bool true)])
 (Q [.one (.bool false)]))
 (ifT (decide (s0 = { data := #[111, 114] }))
 (ifT (decide (s0 = { data := #[111, 114] }))
 (Q [.one (.bool true)])
 (Q [.one (.bool false)]))
 (ifT (decide (s0 = { data := #[110, 111, 116] }))
 (ifT (decide (s0 = { data := #[110, 111, 116] }))
 (Q [.one (.bool true)])
 (Q [.one (.bool false)]))
 (ifT (decide (s0 = { data := #[104, 97, 115] }))
 (ifT (decide (s0 = { data := #[104, 97, 115] }))
 (Q [.one (.bool true)])
 (Q [.one (.bool false)]))
 (ifT (decide (s0 = { data := #[105, 110] }))
 (ifT (decide (s0 = { data := #[105, 110] }))
 (Q [.one (.bool true)])
 (Q [.one (.bool false)]))
 (ifT (decide (s0 = { data := #[98, 101, 103, 105, 110, 115] }))
 (ifT (decide (s0 = { data := #[98, 101, 103, 105, 110, 115] }))
 (Q [.one (.bool true)])
 (Q [.one (.bool false)]))
 (ifT (decide (s0 = { data := #[99, 111, 110, 116, 97, 105, 110, 115] }))
 (ifT (decide (s0 = { data := #[99, 111, 110, 116, 97, 105, 110, 115] }))
 (Q [.one (.bool true)])
 (Q [.one (.bool false)]))
 (ifT (decide (s0 = { data := #[99, 111, 117, 110, 116] }))
 (ifT (decide (s0 = { data := #[99, 111, 117, 110, 116] }))
 (Q [.one (.bool true)])
 (Q [.one (.bool false)]))
 (ifT (decide (s0 = { data := #[115, 117, 109] }))
 (ifT (decide (s0 = { data := #[115, 117, 109] }))
 (Q [.one (.bool true)])
 (Q [.one (.bool false)]))
 (ifT (decide (s0 = { data := #[115, 105, 110, 99, 101] }))
 (ifT (decide (s0 = { data := #[115, 105, 110, 99, 101] }))
 (Q [.one (.bool true)])
 (Q [.one (.bool false)]))
 (ifT (decide (s0 = { data := #[116, 104, 101, 110] }))
 (ifT (decide (s0 = { data := #[116, 104, 101, 110] }))
 (Q [.one (.bool true)])
 (Q [.one (.bool false)]))
 (ifT (decide (s0 = { data := #[119, 104, 101, 114, 101] }))
 (ifT (decide (s0 = { data := #[119, 104, 101, 114, 101] }))
 (Q [.one (.bool true)])
 (Q [.one (.bool false)]))
 (ifT (decide (s0 = { data := #[119, 105, 116, 104, 105, 110] }))
 (ifT (decide (s0 = { data := #[119, 105, 116, 104, 105, 110] }))
 (Q [.one (.bool true)])
 (Q [.one (.bool false)]))
 (ifT (decide (s0 = { data := #[100, 97, 121, 115] }))
 (ifT (decide (s0 = { data := #[100, 97, 121, 115] }))
 (Q [.one (.bool true)])
 (Q [.one (.bool false)]))
 (ifT (decide (s0 = { data := #[104, 111, 117, 114, 115] }))
 (ifT (decide (s0 = { data := #[104, 111, 117, 114, 115] }))
 (Q [.one (.bool true)])
 (Q [.one (.bool false)]))
 (ifT (decide (s0 = { data := #[109, 105, 110, 117, 116, 101, 115] }))
 (ifT (decide (s0 = { data := #[109, 105, 110, 117, 116, 101, 115] }))
 (Q [.one (.bool true)])
 (Q [.one (.bool false)]))
 (ifT (decide (s0 = { data := #[121, 101, 115] }))
 (ifT (decide (s0 = { data := #[121, 101, 115] }))
 (Q [.one (.bool true)])
 (Q [.one (.bool false)]))
 (ifT (decide (s0 = { data := #[110, 111] }))
 (Q [.one (.bool true)])
 (Q [.one (.bool false)]))))))))))))))))))))
theorem den70 (I : FuncId → List V → Post → T) (s0 : ByteArray) (Q : Post) : denF Go.Proofs.Tryz.prog 0 (⟨[], []⟩) I 70 [V.one (Cell.str s0)] Q = vc70 I s0 Q := by kernel_rfl
/-- handbill/segment.checkWhere -/
def vc47 (I : FuncId → List V → Post → T) (l0 : Sl) (Q : Post) : T :=
 loopK (A := Int) 0
 (fun x1 n2 => ifT (decide (n2 < (↑l0.len : Int)))
 (fun h3 =>
 ((0 ≤ n2) ∧
 n2 < (↑l0.len : Int)) ∧
 (derefK l0.a (fun i4 => fun i5 h6 =>
 ∃ s7 : ByteArray, ∃ s8 : ByteArray, ∃ n9 : Int, ∃ s10 : ByteArray, ∃ n11 : Int, (h6.read i4 (i5 + n2.toNat * 5) 5 = some [.str s7, .str s8, .int .i64 n9, .str s10, .int .i64 n11]) ∧
 I 44 [.one (.str s7)]
 (fun cs12 h13 =>
 ∃ b14 : Bool, (cs12 = [.one (.bool b14)]) ∧
 (ifT (!b14)
 (Q [.one (.int .i64 5)])
 (fun h15 =>
 I 45 [.one (.str s8)]
 (fun cs16 h17 =>
 ∃ n18 : Int, (cs16 = [.one (.int .i64 n18)]) ∧
 (ifT (decide (n18 < 0))
 (Q [.one (.int .i64 4)])
 (fun h19 =>
 I 46 [.agg [.int .i64 n9, .str s10, .int .i64 n11]]
 (fun cs20 h21 =>
 ∃ n22 : Int, (cs20 = [.one (.int .i64 n22)]) ∧
 (ifT (!decide (n22 = 0))
 (Q [.one (.int .i64 n22)])
 (x1 (IntKind.i64.wrap (n2 + 1)))) h21) h19)) h17) h15)) h13) h6)) h3)
 (Q [.one (.int .i64 0)]))
theorem den47 (I : FuncId → List V → Post → T) (l0 : Sl) (Q : Post) : denF Go.Proofs.Tryz.prog 16 (⟨[], [(26, 536870708, [(8, tk Go.Proofs.Tryz.prog 3)])]⟩) I 47 [V.one (Cell.slice 5 l0)] Q = vc47 I l0 Q := by kernel_rfl
/-- handbill/person.CheckFields -/
def vc118 (I : FuncId → List V → Post → T) (l0 : Sl) (Q : Post) : T :=
 ifT (decide ((↑l0.len : Int) > 30))
 (Q [.one (.int .i64 2)])
 (loopK (A := Int) 0
 (fun x1 n2 => ifT (decide (n2 < (↑l0.len : Int)))
 (fun h3 =>
 ((0 ≤ n2) ∧
 n2 < (↑l0.len : Int)) ∧
 (derefK l0.a (fun i4 => fun i5 h6 =>
 ∃ s7 : ByteArray, ∃ n8 : Int, ∃ s9 : ByteArray, ∃ n10 : Int, (h6.read i4 (i5 + n2.toNat * 4) 4 = some [.str s7, .int .i64 n8, .str s9, .int .i64 n10]) ∧
 I 69 [.one (.str s7)]
 (fun cs11 h12 =>
 ∃ b13 : Bool, (cs11 = [.one (.bool b13)]) ∧
 (ifT (!b13)
 (Q [.one (.int .i64 5)])
 (fun h14 =>
 I 46 [.agg [.int .i64 n8, .str s9, .int .i64 n10]]
 (fun cs15 h16 =>
 ∃ n17 : Int, (cs15 = [.one (.int .i64 n17)]) ∧
 (ifT (!decide (n17 = 0))
 (Q [.one (.int .i64 n17)])
 (ifT (decide (n2 > 0))
 (fun h18 =>
 ((0 ≤ IntKind.i64.wrap (n2 - 1)) ∧
 IntKind.i64.wrap (n2 - 1) < (↑l0.len : Int)) ∧
 (derefK l0.a (fun i19 => fun i20 h21 =>
 ∃ s22 : ByteArray, (h21.read i19 (i20 + (IntKind.i64.wrap (n2 - 1)).toNat * 4 + 0) 1 = some [.str s22]) ∧
 (ifT (Op.bytesLess s7.toList s22.toList || decide (s7 = s22))
 (Q [.one (.int .i64 7)])
 (x1 (IntKind.i64.wrap (n2 + 1)))) h21)) h18)
 (x1 (IntKind.i64.wrap (n2 + 1))))) h16) h14)) h12) h6)) h3)
 (Q [.one (.int .i64 0)])))
theorem den118 (I : FuncId → List V → Post → T) (l0 : Sl) (Q : Post) : denF Go.Proofs.Tryz.prog 16 (⟨[], [(58, 1099511625788, [(11, tk Go.Proofs.Tryz.prog 3)])]⟩) I 118 [V.one (Cell.slice 4 l0)] Q = vc118 I l0 Q := by kernel_rfl
/-- handbill/event.Check -/
def vc119 (I : FuncId → List V → Post → T) (l0 : Sl) (Q : Post) : T :=
 ifT (decide ((↑l0.len : Int) > 5000))
 (Q [.one (.int .i64 2)])
 (fun h1 =>
 (newK (.map []) (fun i2 => loopK (A := Int) 0
 (fun x3 n4 => ifT (decide (n4 < (↑l0.len : Int)))
 (fun h5 =>
 ((0 ≤ n4) ∧
 n4 < (↑l0.len : Int)) ∧
 (derefK l0.a (fun i6 => fun i7 h8 =>
 ∃ s9 : ByteArray, ∃ s10 : ByteArray, ∃ n11 : Int, ∃ n12 : Int, ∃ s13 : ByteArray, ∃ l14 : Sl, (h8.read i6 (i7 + n4.toNat * 6) 6 = some [.str s9, .str s10, .int .i64 n11, .int .i64 n12, .str s13, .slice 4 l14]) ∧
 I 141 [.agg [.str s9, .str s10, .int .i64 n11, .int .i64 n12, .str s13, .slice 4 l14]]
 (fun cs15 h16 =>
 ∃ n17 : Int, (cs15 = [.one (.int .i64 n17)]) ∧
 (ifT (!decide (n17 = 0))
 (Q [.one (.int .i64 n17)])
 (ifT (decide (n4 > 0))
 (fun h18 =>
 ((0 ≤ IntKind.i64.wrap (n4 - 1)) ∧
 IntKind.i64.wrap (n4 - 1) < (↑l0.len : Int)) ∧
 (derefK l0.a (fun i19 => fun i20 h21 =>
 ∃ s22 : ByteArray, ∃ s23 : ByteArray, ∃ n24 : Int, ∃ n25 : Int, ∃ s26 : ByteArray, ∃ l27 : Sl, (h21.read i19 (i20 + (IntKind.i64.wrap (n4 - 1)).toNat * 6) 6 = some [.str s22, .str s23, .int .i64 n24, .int .i64 n25, .str s26, .slice 4 l27]) ∧
 I 142 [.agg [.str s22, .str s23, .int .i64 n24, .int .i64 n25, .str s26, .slice 4 l27], .agg [.str s9, .str s10, .int .i64 n11, .int .i64 n12, .str s13, .slice 4 l14]]
 (fun cs28 h29 =>
 ∃ n30 : Int, (cs28 = [.one (.int .i64 n30)]) ∧
 (ifT (decide (n30 ≥ 0))
 (Q [.one (.int .i64 7)])
 (fun h31 =>
 ∃ b32 : Bool, ∃ b33 : Bool, (∃ cs34 : List (V × V), (mapOf h31 (some i2) = some cs34) ∧
 mapGet (.one (.str s9)) (.one (.bool false)) cs34 = some (.one (.bool b32), b33)) ∧
 (ifT b32
 (Q [.one (.int .i64 6)])
 (fun h35 =>
 (mapK [] (some i2) (.one (.str s9)) (.one (.bool true)) (x3 (IntKind.i64.wrap (n4 + 1)))) h35)) h31)) h29) h21)) h18)
 (fun h36 =>
 ∃ b37 : Bool, ∃ b38 : Bool, (∃ cs39 : List (V × V), (mapOf h36 (some i2) = some cs39) ∧
 mapGet (.one (.str s9)) (.one (.bool false)) cs39 = some (.one (.bool b37), b38)) ∧
 (ifT b37
 (Q [.one (.int .i64 6)])
 (fun h40 =>
 (mapK [] (some i2) (.one (.str s9)) (.one (.bool true)) (x3 (IntKind.i64.wrap (n4 + 1)))) h40)) h36))) h16) h8)) h5)
 (Q [.one (.int .i64 0)])))) h1)
theorem den119 (I : FuncId → List V → Post → T) (l0 : Sl) (Q : Post) : denF Go.Proofs.Tryz.prog 32 (⟨[], [(122, 8796093014132, [(13, tk Go.Proofs.Tryz.prog 3)])]⟩) I 119 [V.one (Cell.slice 6 l0)] Q = vc119 I l0 Q := by kernel_rfl
/-- handbill/event.CheckOne -/
def vc141 (I : FuncId → List V → Post → T) (s0 : ByteArray) (s1 : ByteArray) (n2 : Int) (n3 : Int) (s4 : ByteArray) (l5 : Sl) (Q : Post) : T :=
 joinK (A := Bool)
 (fun b6 => ifT b6
 (Q [.one (.int .i64 5)])
 (fun h7 =>
 I 155 [.one (.int .i64 n2), .one (.int .i64 0), .one (.int .i64 4321439)]
 (fun cs8 h9 =>
 ∃ b10 : Bool, (cs8 = [.one (.bool b10)]) ∧
 (ifT (!b10)
 (Q [.one (.int .i64 1)])
 (fun h11 =>
 I 156 [.agg [.int .i64 n3, .str s4]]
 (fun cs12 h13 =>
 ∃ n14 : Int, (cs12 = [.one (.int .i64 n14)]) ∧
 (ifT (!decide (n14 = 0))
 (Q [.one (.int .i64 n14)])
 (fun h15 =>
 I 118 [.one (.slice 4 l5)]
 (fun cs16 h17 =>
 ∃ n18 : Int, (cs16 = [.one (.int .i64 n18)]) ∧
 Q [.one (.int .i64 n18)] h17) h15)) h13) h11)) h9) h7))
 (fun x19 h20 =>
 I 69 [.one (.str s0)]
 (fun cs21 h22 =>
 ∃ b23 : Bool, (cs21 = [.one (.bool b23)]) ∧
 (ifT (!b23)
 (x19 true)
 (fun h24 =>
 I 69 [.one (.str s1)]
 (fun cs25 h26 =>
 ∃ b27 : Bool, (cs25 = [.one (.bool b27)]) ∧
 x19 (!b27) h26) h24)) h22) h20)
theorem den141 (I : FuncId → List V → Post → T) (s0 : ByteArray) (s1 : ByteArray) (n2 : Int) (n3 : Int) (s4 : ByteArray) (l5 : Sl) (Q : Post) : denF Go.Proofs.Tryz.prog 2 (⟨[(24, 32752, [(4, tk Go.Proofs.Tryz.prog 4)])], []⟩) I 141 [V.agg [Cell.str s0, Cell.str s1, Cell.int IntKind.i64 n2, Cell.int IntKind.i64 n3, Cell.str s4, Cell.slice 4 l5]] Q = vc141 I s0 s1 n2 n3 s4 l5 Q := by kernel_rfl
/-- handbill/event.within -/
def vc155 (I : FuncId → List V → Post → T) (n0 : Int) (n1 : Int) (n2 : Int) (Q : Post) : T :=
 ifT (decide (n1 ≤ n0))
 (Q [.one (.bool (decide (n0 ≤ n2)))])
 (Q [.one (.bool false)])
theorem den155 (I : FuncId → List V → Post → T) (n0 : Int) (n1 : Int) (n2 : Int) (Q : Post) : denF Go.Proofs.Tryz.prog 0 (⟨[], []⟩) I 155 [V.one (Cell.int IntKind.i64 n0), V.one (Cell.int IntKind.i64 n1), V.one (Cell.int IntKind.i64 n2)] Q = vc155 I n0 n1 n2 Q := by kernel_rfl
/-- handbill/person.CheckId -/
def vc156 (I : FuncId → List V → Post → T) (n0 : Int) (s1 : ByteArray) (Q : Post) : T :=
 joinK (A := Bool)
 (fun b2 => ifT (!b2)
 (Q [.one (.int .i64 3)])
 (ifT (decide (n0 = 3))
 (fun h3 =>
 (((0 : Int) ≤ (0 : Int)) ∧
 (0 ≤ IntKind.i64.wrap ((↑s1.size : Int) - 1)) ∧
 IntKind.i64.wrap ((↑s1.size : Int) - 1) ≤ (↑s1.size : Int)) ∧
 ((0 ≤ IntKind.i64.wrap ((↑s1.size : Int) - 1)) ∧
 IntKind.i64.wrap ((↑s1.size : Int) - 1) < (↑s1.size : Int)) ∧
 I 179 [.one (.str (s1.extract 0 (IntKind.i64.wrap ((↑s1.size : Int) - 1)).toNat))]
 (fun cs4 h5 =>
 ∃ n6 : Int, (cs4 = [.one (.int .u8 n6)]) ∧
 (ifT (!decide (n6 = byteAt s1 (IntKind.i64.wrap ((↑s1.size : Int) - 1))))
 (Q [.one (.int .i64 15)])
 (Q [.one (.int .i64 0)])) h5) h3)
 (Q [.one (.int .i64 0)])))
 (fun x7 => ifT (decide (n0 = 1))
 (fun h8 =>
 I 175 [.one (.str s1)]
 (fun cs9 h10 =>
 ∃ b11 : Bool, (cs9 = [.one (.bool b11)]) ∧
 x7 b11 h10) h8)
 (joinK (A := Bool)
 (fun b12 h13 =>
 x7 b12 h13)
 (fun x14 => ifT (decide (n0 = 2))
 (fun h15 =>
 I 176 [.one (.str s1)]
 (fun cs16 h17 =>
 ∃ b18 : Bool, (cs16 = [.one (.bool b18)]) ∧
 x14 b18 h17) h15)
 (joinK (A := Bool)
 (fun b19 h20 =>
 x14 b19 h20)
 (fun x21 => ifT (decide (n0 = 3))
 (fun h22 =>
 I 177 [.one (.str s1)]
 (fun cs23 h24 =>
 ∃ b25 : Bool, (cs23 = [.one (.bool b25)]) ∧
 x21 b25 h24) h22)
 (ifT (decide (n0 = 4))
 (fun h26 =>
 I 178 [.one (.str s1)]
 (fun cs27 h28 =>
 ∃ b29 : Bool, (cs27 = [.one (.bool b29)]) ∧
 x21 b29 h28) h26)
 (Q [.one (.int .i64 4)])))))))
theorem den156 (I : FuncId → List V → Post → T) (n0 : Int) (s1 : ByteArray) (Q : Post) : denF Go.Proofs.Tryz.prog 2 (⟨[(117, 134217228, [(3, tk Go.Proofs.Tryz.prog 4)]), (471, 134201356, [(3, tk Go.Proofs.Tryz.prog 4)]), (1887, 133693452, [(3, tk Go.Proofs.Tryz.prog 4)])], []⟩) I 156 [V.agg [Cell.int IntKind.i64 n0, Cell.str s1]] Q = vc156 I n0 s1 Q := by kernel_rfl
/-- handbill/person.isMail -/
def vc175 (I : FuncId → List V → Post → T) (s0 : ByteArray) (Q : Post) : T :=
 fun h1 =>
 I 184 [.one (.str s0), .one (.str { data := #[64] })]
 (fun cs2 h3 =>
 ∃ s4 : ByteArray, ∃ s5 : ByteArray, ∃ b6 : Bool, (cs2 = [.one (.str s4), .one (.str s5), .one (.bool b6)]) ∧
 (joinK (A := Bool)
 (fun b7 => ifT b7
 (Q [.one (.bool false)])
 (fun h8 =>
 I 104 [.one (.str s4), .one (.func (some (185, [])))]
 (fun cs9 h10 =>
 ∃ b11 : Bool, (cs9 = [.one (.bool b11)]) ∧
 (ifT (!b11)
 (Q [.one (.bool false)])
 (fun h12 =>
 I 186 [.one (.str s5), .one (.str { data := #[46] })]
 (fun cs13 h14 =>
 ∃ l15 : Sl, (cs13 = [.one (.slice 1 l15)]) ∧
 (loopK (A := Int) 0
 (fun x16 n17 => ifT (decide (n17 < (↑l15.len : Int)))
 (fun h18 =>
 ((0 ≤ n17) ∧
 n17 < (↑l15.len : Int)) ∧
 (derefK l15.a (fun i19 => fun i20 h21 =>
 ∃ s22 : ByteArray, (h21.read i19 (i20 + n17.toNat * 1) 1 = some [.str s22]) ∧
 I 187 [.one (.str s22)]
 (fun cs23 h24 =>
 ∃ b25 : Bool, (cs23 = [.one (.bool b25)]) ∧
 (ifT (!b25)
 (Q [.one (.bool false)])
 (x16 (IntKind.i64.wrap (n17 + 1)))) h24) h21)) h18)
 (Q [.one (.bool (decide ((↑l15.len : Int) ≥ 2)))]))) h14) h12)) h10) h8))
 (fun x26 => ifT (!b6)
 (x26 true)
 (ifT (decide ((↑s0.size : Int) > 80))
 (x26 true)
 (fun h27 =>
 I 73 [.one (.int .i64 (↑s4.size : Int)), .one (.int .i64 1), .one (.int .i64 64)]
 (fun cs28 h29 =>
 ∃ b30 : Bool, (cs28 = [.one (.bool b30)]) ∧
 (ifT (!b30)
 (x26 true)
 (fun h31 =>
 (((0 : Int) ≤ (0 : Int)) ∧
 0 < (↑s4.size : Int)) ∧
 (ifT (decide (byteAt s4 0 = 46))
 (x26 true)
 (fun h32 =>
 ((0 ≤ IntKind.i64.wrap ((↑s4.size : Int) - 1)) ∧
 IntKind.i64.wrap ((↑s4.size : Int) - 1) < (↑s4.size : Int)) ∧
 (ifT (decide (byteAt s4 (IntKind.i64.wrap ((↑s4.size : Int) - 1)) = 46))
 (x26 true)
 (fun h33 =>
 I 51 [.one (.str s4), .one (.str { data := #[46, 46] })]
 (fun cs34 h35 =>
 ∃ b36 : Bool, (cs34 = [.one (.bool b36)]) ∧
 x26 b36 h35) h33)) h32)) h31)) h29) h27)))) h3) h1
theorem den175 (I : FuncId → List V → Post → T) (s0 : ByteArray) (Q : Post) : denF Go.Proofs.Tryz.prog 0 (⟨[(28, 35184372056064, [(44, tk Go.Proofs.Tryz.prog 4)])], [(506, 1148417904979476740, [(52, tk Go.Proofs.Tryz.prog 3)])]⟩) I 175 [V.one (Cell.str s0)] Q = vc175 I s0 Q := by kernel_rfl
/-- strings.Contains -/
def vc51 (I : FuncId → List V → Post → T) (s0 : ByteArray) (s1 : ByteArray) (Q : Post) : T :=
 fun h2 =>
 I 75 [.one (.str s0), .one (.str s1)]
 (fun cs3 h4 =>
 ∃ n5 : Int, (cs3 = [.one (.int .i64 n5)]) ∧
 Q [.one (.bool (decide (n5 ≥ 0)))] h4) h2
theorem den51 (I : FuncId → List V → Post → T) (s0 : ByteArray) (s1 : ByteArray) (Q : Post) : denF Go.Proofs.Tryz.prog 0 (⟨[], []⟩) I 51 [V.one (Cell.str s0), V.one (Cell.str s1)] Q = vc51 I s0 s1 Q := by kernel_rfl
/-- strings.Index -/
def vc75 (I : FuncId → List V → Post → T) (s0 : ByteArray) (s1 : ByteArray) (Q : Post) : T :=
 fun h2 =>
 I 109 [.one (.str s0), .one (.str s1)]
 (fun cs3 h4 =>
 ∃ n5 : Int, (cs3 = [.one (.int .i64 n5)]) ∧
 Q [.one (.int .i64 n5)] h4) h2
theorem den75 (I : FuncId → List V → Post → T) (s0 : ByteArray) (s1 : ByteArray) (Q : Post) : denF Go.Proofs.Tryz.prog 0 (⟨[], []⟩) I 75 [V.one (Cell.str s0), V.one (Cell.str s1)] Q = vc75 I s0 s1 Q := by kernel_rfl
/-- internal/stringslite.Index -/
def vc109 (I : FuncId → List V → Post → T) (s0 : ByteArray) (s1 : ByteArray) (Q : Post) : T :=
 joinK (A := Bool)
 (fun b2 => ifT b2
 (Q [.one (.int .i64 0)])
 (ifT (decide ((↑s1.size : Int) = 1))
 (fun h3 =>
 (((0 : Int) ≤ (0 : Int)) ∧
 0 < (↑s1.size : Int)) ∧
 I 115 [.one (.str s0), .one (.int .u8 (byteAt s1 0))]
 (fun cs4 h5 =>
 ∃ n6 : Int, (cs4 = [.one (.int .i64 n6)]) ∧
 Q [.one (.int .i64 n6)] h5) h3)
 (ifT (decide ((↑s1.size : Int) ≥ (↑s0.size : Int)))
 (Q [.one (.int .i64 (-1))])
 (joinK (A := Bool)
 (fun b7 => ifT b7
 (fun h8 =>
 I 131 [.one (.str s0), .one (.str s1)]
 (fun cs9 h10 =>
 ∃ n11 : Int, (cs9 = [.one (.int .i64 n11)]) ∧
 Q [.one (.int .i64 n11)] h10) h8)
 (fun h12 =>
 (((0 : Int) ≤ (0 : Int)) ∧
 0 < (↑s1.size : Int)) ∧
 (((0 : Int) ≤ (1 : Int)) ∧
 1 < (↑s1.size : Int)) ∧
 (loopK (A := Int × Int) ((0, 0))
 (fun x13 => uncur fun n14 n15 => ifT (decide (n14 < IntKind.i64.wrap (IntKind.i64.wrap ((↑s0.size : Int) - (↑s1.size : Int)) + 1)))
 (fun h16 =>
 ((0 ≤ n14) ∧
 n14 < (↑s0.size : Int)) ∧
 (joinK (A := Int)
 (fun n17 => joinK (A := Bool)
 (fun b18 => ifT b18
 (Q [.one (.int .i64 n17)])
 (joinK (A := Bool)
 (fun b19 => ifT b19
 (fun h20 =>
 ((0 ≤ IntKind.i64.wrap (n17 + 1)) ∧
 (IntKind.i64.wrap (n17 + 1) ≤ (↑s0.size : Int)) ∧
 (↑s0.size : Int) ≤ (↑s0.size : Int)) ∧
 I 131 [.one (.str (s0.extract (IntKind.i64.wrap (n17 + 1)).toNat (↑s0.size : Int).toNat)), .one (.str s1)]
 (fun cs21 h22 =>
 ∃ n23 : Int, (cs21 = [.one (.int .i64 n23)]) ∧
 (ifT (decide (n23 ≥ 0))
 (Q [.one (.int .i64 (IntKind.i64.wrap (n23 + IntKind.i64.wrap (n17 + 1))))])
 (Q [.one (.int .i64 (-1))])) h22) h20)
 (joinK (A := Bool)
 (fun b24 => ifT b24
 (fun h25 =>
 ((0 ≤ IntKind.i64.wrap (n17 + 1)) ∧
 (IntKind.i64.wrap (n17 + 1) ≤ (↑s0.size : Int)) ∧
 (↑s0.size : Int) ≤ (↑s0.size : Int)) ∧
 I 133 [.one (.str (s0.extract (IntKind.i64.wrap (n17 + 1)).toNat (↑s0.size : Int).toNat)), .one (.str s1)]
 (fun cs26 h27 =>
 ∃ n28 : Int, (cs26 = [.one (.int .i64 n28)]) ∧
 (ifT (decide (n28 < 0))
 (Q [.one (.int .i64 (-1))])
 (Q [.one (.int .i64 (IntKind.i64.wrap (IntKind.i64.wrap (n17 + 1) + n28)))])) h27) h25)
 (x13 ((IntKind.i64.wrap (n17 + 1), IntKind.i64.wrap (n15 + 1)))))
 (fun x29 => globK 0 (fun i30 => fun i31 h32 =>
 ∃ n33 : Int, (h32.read i31 0 1 = some [.int .i64 n33]) ∧
 (ifT (decide ((↑s1.size : Int) > n33))
 (ifT (decide (IntKind.i64.wrap (n15 + 1) ≥ IntKind.i64.wrap (4 + shr IntKind.i64 (IntKind.i64.wrap (n17 + 1)) 4)))
 (x29 (decide (IntKind.i64.wrap (n17 + 1) < IntKind.i64.wrap (IntKind.i64.wrap ((↑s0.size : Int) - (↑s1.size : Int)) + 1))))
 (x29 false))
 (x29 false)) h32))))
 (fun x34 => globK 0 (fun i35 => fun i36 h37 =>
 ∃ n38 : Int, (h37.read i36 0 1 = some [.int .i64 n38]) ∧
 (ifT (decide ((↑s1.size : Int) ≤ n38))
 (fun h39 =>
 I 132 [.one (.int .i64 (IntKind.i64.wrap (n17 + 1)))]
 (fun cs40 h41 =>
 ∃ n42 : Int, (cs40 = [.one (.int .i64 n42)]) ∧
 x34 (decide (IntKind.i64.wrap (n15 + 1) > n42)) h41) h39)
 (x34 false)) h37))))
 (fun x43 h44 =>
 ((0 ≤ IntKind.i64.wrap (n17 + 1)) ∧
 IntKind.i64.wrap (n17 + 1) < (↑s0.size : Int)) ∧
 (ifT (decide (byteAt s0 (IntKind.i64.wrap (n17 + 1)) = byteAt s1 1))
 (fun h45 =>
 ((0 ≤ n17) ∧
 (n17 ≤ IntKind.i64.wrap (n17 + (↑s1.size : Int))) ∧
 IntKind.i64.wrap (n17 + (↑s1.size : Int)) ≤ (↑s0.size : Int)) ∧
 x43 (decide (s0.extract n17.toNat (IntKind.i64.wrap (n17 + (↑s1.size : Int))).toNat = s1)) h45)
 (x43 false)) h44))
 (fun x46 => ifT (!decide (byteAt s0 n14 = byteAt s1 0))
 (fun h47 =>
 ((0 ≤ IntKind.i64.wrap (n14 + 1)) ∧
 (IntKind.i64.wrap (n14 + 1) ≤ IntKind.i64.wrap (IntKind.i64.wrap ((↑s0.size : Int) - (↑s1.size : Int)) + 1)) ∧
 IntKind.i64.wrap (IntKind.i64.wrap ((↑s0.size : Int) - (↑s1.size : Int)) + 1) ≤ (↑s0.size : Int)) ∧
 I 115 [.one (.str (s0.extract (IntKind.i64.wrap (n14 + 1)).toNat (IntKind.i64.wrap (IntKind.i64.wrap ((↑s0.size : Int) - (↑s1.size : Int)) + 1)).toNat)), .one (.int .u8 (byteAt s1 0))]
 (fun cs48 h49 =>
 ∃ n50 : Int, (cs48 = [.one (.int .i64 n50)]) ∧
 (ifT (decide (n50 < 0))
 (Q [.one (.int .i64 (-1))])
 (x46 (IntKind.i64.wrap (n14 + IntKind.i64.wrap (n50 + 1))))) h49) h47)
 (x46 n14))) h16)
 (Q [.one (.int .i64 (-1))]))) h12))
 (fun x51 => globK 0 (fun i52 => fun i53 h54 =>
 ∃ n55 : Int, (h54.read i53 0 1 = some [.int .i64 n55]) ∧
 (ifT (decide ((↑s1.size : Int) ≤ n55))
 (x51 (decide ((↑s0.size : Int) ≤ 64)))
 (x51 false)) h54))))))
 (fun x56 => ifT (decide ((↑s1.size : Int) = 0))
 (x56 true)
 (x56 (decide (s1 = s0))))
theorem den109 (I : FuncId → List V → Post → T) (s0 : ByteArray) (s1 : ByteArray) (Q : Post) : denF Go.Proofs.Tryz.prog 0 (⟨[(56, 16711680, [(16, tk Go.Proofs.Tryz.prog 4)]), (3710, 35115652612096, [(36, tk Go.Proofs.Tryz.prog 4)]), (65417, 302194561415509874575632, [(8, tk Go.Proofs.Tryz.prog 3)]), (130836, 19806738397111180741092311040, [(93, tk Go.Proofs.Tryz.prog 4)]), (523358, 323884728358312612082407668973568, [(107, tk Go.Proofs.Tryz.prog 4)]), (2093438, 10888703434471084601859761486051512680448, [(132, tk Go.Proofs.Tryz.prog 4)])], [(2044, 11150372599265311570767858992208992677149968, [(8, tk Go.Proofs.Tryz.prog 3), (10, tk Go.Proofs.Tryz.prog 3)])]⟩) I 109 [V.one (Cell.str s0), V.one (Cell.str s1)] Q = vc109 I s0 s1 Q := by kernel_rfl
/-- internal/stringslite.IndexByte -/
def vc115 (I : FuncId → List V → Post → T) (s0 : ByteArray) (n1 : Int) (Q : Post) : T :=
 fun h2 =>
 I 138 [.one (.str s0), .one (.int .u8 n1)]
 (fun cs3 h4 =>
 ∃ n5 : Int, (cs3 = [.one (.int .i64 n5)]) ∧
 Q [.one (.int .i64 n5)] h4) h2
theorem den115 (I : FuncId → List V → Post → T) (s0 : ByteArray) (n1 : Int) (Q : Post) : denF Go.Proofs.Tryz.prog 0 (⟨[], []⟩) I 115 [V.one (Cell.str s0), V.one (Cell.int IntKind.u8 n1)] Q = vc115 I s0 n1 Q := by kernel_rfl
/-- internal/bytealg.Cutover -/
def vc132 (I : FuncId → List V → Post → T) (n0 : Int) (Q : Post) : T :=
 Q [.one (.int .i64 (IntKind.i64.wrap ((IntKind.i64.wrap (n0 + 16)).tdiv 8)))]
theorem den132 (I : FuncId → List V → Post → T) (n0 : Int) (Q : Post) : denF Go.Proofs.Tryz.prog 0 (⟨[], []⟩) I 132 [V.one (Cell.int IntKind.i64 n0)] Q = vc132 I n0 Q := by kernel_rfl
/-- strings.Cut -/
def vc184 (I : FuncId → List V → Post → T) (s0 : ByteArray) (s1 : ByteArray) (Q : Post) : T :=
 fun h2 =>
 I 196 [.one (.str s0), .one (.str s1)]
 (fun cs3 h4 =>
 ∃ s5 : ByteArray, ∃ s6 : ByteArray, ∃ b7 : Bool, (cs3 = [.one (.str s5), .one (.str s6), .one (.bool b7)]) ∧
 Q [.one (.str s5), .one (.str s6), .one (.bool b7)] h4) h2
theorem den184 (I : FuncId → List V → Post → T) (s0 : ByteArray) (s1 : ByteArray) (Q : Post) : denF Go.Proofs.Tryz.prog 0 (⟨[], []⟩) I 184 [V.one (Cell.str s0), V.one (Cell.str s1)] Q = vc184 I s0 s1 Q := by kernel_rfl
/-- internal/stringslite.Cut -/
def vc196 (I : FuncId → List V → Post → T) (s0 : ByteArray) (s1 : ByteArray) (Q : Post) : T :=
 fun h2 =>
 I 109 [.one (.str s0), .one (.str s1)]
 (fun cs3 h4 =>
 ∃ n5 : Int, (cs3 = [.one (.int .i64 n5)]) ∧
 (ifT (decide (n5 ≥ 0))
 (fun h6 =>
 (((0 : Int) ≤ (0 : Int)) ∧
 (0 ≤ n5) ∧
 n5 ≤ (↑s0.size : Int)) ∧
 ((0 ≤ IntKind.i64.wrap (n5 + (↑s1.size : Int))) ∧
 (IntKind.i64.wrap (n5 + (↑s1.size : Int)) ≤ (↑s0.size : Int)) ∧
 (↑s0.size : Int) ≤ (↑s0.size : Int)) ∧
 Q [.one (.str (s0.extract 0 n5.toNat)), .one (.str (s0.extract (IntKind.i64.wrap (n5 + (↑s1.size : Int))).toNat (↑s0.size : Int).toNat)), .one (.bool true)] h6)
 (Q [.one (.str s0), .one (.str { data := #[] }), .one (.bool false)])) h4) h2
theorem den196 (I : FuncId → List V → Post → T) (s0 : ByteArray) (s1 : ByteArray) (Q : Post) : denF Go.Proofs.Tryz.prog 0 (⟨[], []⟩) I 196 [V.one (Cell.str s0), V.one (Cell.str s1)] Q = vc196 I s0 s1 Q := by kernel_rfl
/-- strings.Split -/
def vc186 (I : FuncId → List V → Post → T) (s0 : ByteArray) (s1 : ByteArray) (Q : Post) : T :=
 fun h2 =>
 I 197 [.one (.str s0), .one (.str s1), .one (.int .i64 0), .one (.int .i64 (-1))]
 (fun cs3 h4 =>
 ∃ l5 : Sl, (cs3 = [.one (.slice 1 l5)]) ∧
 Q [.one (.slice 1 l5)] h4) h2
theorem den186 (I : FuncId → List V → Post → T) (s0 : ByteArray) (s1 : ByteArray) (Q : Post) : denF Go.Proofs.Tryz.prog 0 (⟨[], []⟩) I 186 [V.one (Cell.str s0), V.one (Cell.str s1)] Q = vc186 I s0 s1 Q := by kernel_rfl
/-- strings.genSplit -/
def vc197 (I : FuncId → List V → Post → T) (s0 : ByteArray) (s1 : ByteArray) (n2 : Int) (n3 : Int) (Q : Post) : T :=
 ifT (decide (n3 = 0))
 (Q [.one (.slice 1 { a := none, len := 0 })])
 (ifT (decide (s1 = { data := #[] }))
 (fun h4 =>
 I 204 [.one (.str s0), .one (.int .i64 n3)]
 (fun cs5 h6 =>
 ∃ l7 : Sl, (cs5 = [.one (.slice 1 l7)]) ∧
 Q [.one (.slice 1 l7)] h6) h4)
 (joinK (A := Int)
 (fun n8 h9 =>
 (true = true) ∧
 (0 ≤ min n8 (IntKind.i64.wrap ((↑s0.size : Int) + 1))) ∧
 (min n8 (IntKind.i64.wrap ((↑s0.size : Int) + 1)) ≤ min n8 (IntKind.i64.wrap ((↑s0.size : Int) + 1))) ∧
 (min n8 (IntKind.i64.wrap ((↑s0.size : Int) + 1)) * (↑16 : Int) ≤ 140737488355328) ∧
 (newK (.cells false (slCells (VK.one Kd.str) (min n8 (IntKind.i64.wrap ((↑s0.size : Int) + 1))).toNat)) (fun i10 => loopK (A := ByteArray × Int) ((s0, 0))
 (fun x11 => uncur fun s12 n13 => ifT (decide (n13 < IntKind.i64.wrap (min n8 (IntKind.i64.wrap ((↑s0.size : Int) + 1)) - 1)))
 (fun h14 =>
 I 75 [.one (.str s12), .one (.str s1)]
 (fun cs15 h16 =>
 ∃ n17 : Int, (cs15 = [.one (.int .i64 n17)]) ∧
 (ifT (decide (n17 < 0))
 (fun h18 =>
 ((0 ≤ n13) ∧
 n13 < (↑(min n8 (IntKind.i64.wrap ((↑s0.size : Int) + 1))).toNat : Int)) ∧
 (storeK [] i10 (0 + n13.toNat * 1) [.str s12] (fun h19 =>
 (((0 : Int) ≤ (0 : Int)) ∧
 (0 ≤ IntKind.i64.wrap (n13 + 1)) ∧
 IntKind.i64.wrap (n13 + 1) ≤ (↑(min n8 (IntKind.i64.wrap ((↑s0.size : Int) + 1))).toNat : Int)) ∧
 Q [.one (.slice 1 (({ a := some (i10, 0), len := (min n8 (IntKind.i64.wrap ((↑s0.size : Int) + 1))).toNat } : Sl).sub 1 0 (IntKind.i64.wrap (n13 + 1)).toNat))] h19)) h18)
 (fun h20 =>
 (((0 : Int) ≤ (0 : Int)) ∧
 (0 ≤ IntKind.i64.wrap (n17 + n2)) ∧
 IntKind.i64.wrap (n17 + n2) ≤ (↑s12.size : Int)) ∧
 ((0 ≤ n13) ∧
 n13 < (↑(min n8 (IntKind.i64.wrap ((↑s0.size : Int) + 1))).toNat : Int)) ∧
 (storeK [] i10 (0 + n13.toNat * 1) [.str (s12.extract 0 (IntKind.i64.wrap (n17 + n2)).toNat)] (fun h21 =>
 ((0 ≤ IntKind.i64.wrap (n17 + (↑s1.size : Int))) ∧
 (IntKind.i64.wrap (n17 + (↑s1.size : Int)) ≤ (↑s12.size : Int)) ∧
 (↑s12.size : Int) ≤ (↑s12.size : Int)) ∧
 x11 ((s12.extract (IntKind.i64.wrap (n17 + (↑s1.size : Int))).toNat (↑s12.size : Int).toNat, IntKind.i64.wrap (n13 + 1))) h21)) h20)) h16) h14)
 (fun h22 =>
 ((0 ≤ n13) ∧
 n13 < (↑(min n8 (IntKind.i64.wrap ((↑s0.size : Int) + 1))).toNat : Int)) ∧
 (storeK [] i10 (0 + n13.toNat * 1) [.str s12] (fun h23 =>
 (((0 : Int) ≤ (0 : Int)) ∧
 (0 ≤ IntKind.i64.wrap (n13 + 1)) ∧
 IntKind.i64.wrap (n13 + 1) ≤ (↑(min n8 (IntKind.i64.wrap ((↑s0.size : Int) + 1))).toNat : Int)) ∧
 Q [.one (.slice 1 (({ a := some (i10, 0), len := (min n8 (IntKind.i64.wrap ((↑s0.size : Int) + 1))).toNat } : Sl).sub 1 0 (IntKind.i64.wrap (n13 + 1)).toNat))] h23)) h22)))) h9)
 (fun x24 => ifT (decide (n3 < 0))
 (fun h25 =>
 I 205 [.one (.str s0), .one (.str s1)]
 (fun cs26 h27 =>
 ∃ n28 : Int, (cs26 = [.one (.int .i64 n28)]) ∧
 x24 (IntKind.i64.wrap (n28 + 1)) h27) h25)
 (x24 n3))))
theorem den197 (I : FuncId → List V → Post → T) (s0 : ByteArray) (s1 : ByteArray) (n2 : Int) (n3 : Int) (Q : Post) : denF Go.Proofs.Tryz.prog 0 (⟨[(61, 31457288, [(3, tk Go.Proofs.Tryz.prog 3)])], [(2044, 288230358971845633, [(0, tk Go.Proofs.Tryz.prog 9), (10, tk Go.Proofs.Tryz.prog 3)])]⟩) I 197 [V.one (Cell.str s0), V.one (Cell.str s1), V.one (Cell.int IntKind.i64 n2), V.one (Cell.int IntKind.i64 n3)] Q = vc197 I s0 s1 n2 n3 Q := by kernel_rfl
/-- strings.explode -/
def vc204 (I : FuncId → List V → Post → T) (s0 : ByteArray) (n1 : Int) (Q : Post) : T :=
 fun h2 =>
 I 212 [.one (.str s0)]
 (fun cs3 h4 =>
 ∃ n5 : Int, (cs3 = [.one (.int .i64 n5)]) ∧
 (joinK (A := Bool)
 (fun b6 => joinK (A := Int)
 (fun n7 h8 =>
 (true = true) ∧
 (0 ≤ n7) ∧
 (n7 ≤ n7) ∧
 (n7 * (↑16 : Int) ≤ 140737488355328) ∧
 (newK (.cells false (slCells (VK.one Kd.str) n7.toNat)) (fun i9 => loopK (A := ByteArray × Int) ((s0, 0))
 (fun x10 => uncur fun s11 n12 => ifT (decide (n12 < IntKind.i64.wrap (n7 - 1)))
 (fun h13 =>
 I 112 [.one (.str s11)]
 (fun cs14 h15 =>
 ∃ n16 : Int, ∃ n17 : Int, (cs14 = [.one (.int .i32 n16), .one (.int .i64 n17)]) ∧
 (((0 : Int) ≤ (0 : Int)) ∧
 (0 ≤ n17) ∧
 n17 ≤ (↑s11.size : Int)) ∧
 ((0 ≤ n12) ∧
 n12 < (↑n7.toNat : Int)) ∧
 (storeK [] i9 (0 + n12.toNat * 1) [.str (s11.extract 0 n17.toNat)] (fun h18 =>
 ((0 ≤ n17) ∧
 (n17 ≤ (↑s11.size : Int)) ∧
 (↑s11.size : Int) ≤ (↑s11.size : Int)) ∧
 x10 ((s11.extract n17.toNat (↑s11.size : Int).toNat, IntKind.i64.wrap (n12 + 1))) h18)) h15) h13)
 (ifT (decide (n7 > 0))
 (fun h19 =>
 ((0 ≤ IntKind.i64.wrap (n7 - 1)) ∧
 IntKind.i64.wrap (n7 - 1) < (↑n7.toNat : Int)) ∧
 (storeK [] i9 (0 + (IntKind.i64.wrap (n7 - 1)).toNat * 1) [.str s11] (Q [.one (.slice 1 { a := some (i9, 0), len := n7.toNat })])) h19)
 (Q [.one (.slice 1 { a := some (i9, 0), len := n7.toNat })]))))) h8)
 (fun x20 => ifT b6
 (x20 n5)
 (x20 n1)))
 (fun x21 => ifT (decide (n1 < 0))
 (x21 true)
 (x21 (decide (n1 > n5))))) h4) h2
theorem den204 (I : FuncId → List V → Post → T) (s0 : ByteArray) (n1 : Int) (Q : Post) : denF Go.Proofs.Tryz.prog 0 (⟨[(28, 520192, [(18, tk Go.Proofs.Tryz.prog 4)]), (29, 524290, [(1, tk Go.Proofs.Tryz.prog 3)])], [(250, 4398042317697, [(0, tk Go.Proofs.Tryz.prog 9), (7, tk Go.Proofs.Tryz.prog 3)])]⟩) I 204 [V.one (Cell.str s0), V.one (Cell.int IntKind.i64 n1)] Q = vc204 I s0 n1 Q := by kernel_rfl
/-- unicode/utf8.DecodeRuneInString -/
def vc112 (I : FuncId → List V → Post → T) (s0 : ByteArray) (Q : Post) : T :=
 joinK (A := Bool)
 (fun b1 => ifT b1
 (fun h2 =>
 (((0 : Int) ≤ (0 : Int)) ∧
 0 < (↑s0.size : Int)) ∧
 Q [.one (.int .i32 (IntKind.i32.wrap (byteAt s0 0))), .one (.int .i64 1)] h2)
 (fun h3 =>
 I 137 [.one (.str s0)]
 (fun cs4 h5 =>
 ∃ n6 : Int, ∃ n7 : Int, (cs4 = [.one (.int .i32 n6), .one (.int .i64 n7)]) ∧
 Q [.one (.int .i32 n6), .one (.int .i64 n7)] h5) h3))
 (fun x8 => ifT (!decide (s0 = { data := #[] }))
 (fun h9 =>
 (((0 : Int) ≤ (0 : Int)) ∧
 0 < (↑s0.size : Int)) ∧
 x8 (decide (byteAt s0 0 < 128)) h9)
 (x8 false))
theorem den112 (I : FuncId → List V → Post → T) (s0 : ByteArray) (Q : Post) : denF Go.Proofs.Tryz.prog 0 (⟨[(12, 2032, [(10, tk Go.Proofs.Tryz.prog 4)])], []⟩) I 112 [V.one (Cell.str s0)] Q = vc112 I s0 Q := by kernel_rfl
/-- unicode/utf8.decodeRuneInStringSlow -/
def vc137 (I : FuncId → List V → Post → T) (s0 : ByteArray) (Q : Post) : T :=
 ifT (decide ((↑s0.size : Int) < 1))
 (Q [.one (.int .i32 65533), .one (.int .i64 0)])
 (fun h1 =>
 (((0 : Int) ≤ (0 : Int)) ∧
 0 < (↑s0.size : Int)) ∧
 ((0 ≤ byteAt s0 0) ∧
 byteAt s0 0 < (↑256 : Int)) ∧
 (globK 1 (fun i2 => fun i3 h4 =>
 ∃ n5 : Int, (h4.read i3 ((byteAt s0 0).toNat * 1) 1 = some [.int .u8 n5]) ∧
 (ifT (decide (n5 ≥ 240))
 (fun h6 =>
 (((0 : Int) ≤ (0 : Int)) ∧
 0 < (↑s0.size : Int)) ∧
 Q [.one (.int .i32 (IntKind.i32.wrap (↑(BitVec.ofInt 32 (IntKind.i32.wrap (↑(BitVec.ofInt 32 (IntKind.i32.wrap (byteAt s0 0)) &&& ~~~BitVec.ofInt 32 (shr IntKind.i32 (shl IntKind.i32 (IntKind.i32.wrap n5) 31) 31)).toNat : Int)) ||| BitVec.ofInt 32 (IntKind.i32.wrap (↑(BitVec.ofInt 32 65533 &&& BitVec.ofInt 32 (shr IntKind.i32 (shl IntKind.i32 (IntKind.i32.wrap n5) 31) 31)).toNat : Int))).toNat : Int))), .one (.int .i64 1)] h6)
 (fun h7 =>
 ((0 ≤ shr IntKind.u8 n5 4) ∧
 shr IntKind.u8 n5 4 < (↑16 : Int)) ∧
 (globK 2 (fun i8 => fun i9 h10 =>
 ∃ n11 : Int, ∃ n12 : Int, (h10.read i9 ((shr IntKind.u8 n5 4).toNat * 2) 2 = some [.int .u8 n11, .int .u8 n12]) ∧
 (ifT (decide ((↑s0.size : Int) < IntKind.i64.wrap (IntKind.u8.wrap (↑(BitVec.ofInt 8 n5 &&& BitVec.ofInt 8 7).toNat : Int))))
 (Q [.one (.int .i32 65533), .one (.int .i64 1)])
 (fun h13 =>
 (((0 : Int) ≤ (1 : Int)) ∧
 1 < (↑s0.size : Int)) ∧
 (joinK (A := Bool)
 (fun b14 => ifT b14
 (Q [.one (.int .i32 65533), .one (.int .i64 1)])
 (ifT (decide (IntKind.i64.wrap (IntKind.u8.wrap (↑(BitVec.ofInt 8 n5 &&& BitVec.ofInt 8 7).toNat : Int)) ≤ 2))
 (Q [.one (.int .i32 (IntKind.i32.wrap (↑(BitVec.ofInt 32 (shl IntKind.i32 (IntKind.i32.wrap (IntKind.u8.wrap (↑(BitVec.ofInt 8 (byteAt s0 0) &&& BitVec.ofInt 8 31).toNat : Int))) 6) ||| BitVec.ofInt 32 (IntKind.i32.wrap (IntKind.u8.wrap (↑(BitVec.ofInt 8 (byteAt s0 1) &&& BitVec.ofInt 8 63).toNat : Int)))).toNat : Int))), .one (.int .i64 2)])
 (fun h15 =>
 (((0 : Int) ≤ (2 : Int)) ∧
 2 < (↑s0.size : Int)) ∧
 (joinK (A := Bool)
 (fun b16 => ifT b16
 (Q [.one (.int .i32 65533), .one (.int .i64 1)])
 (ifT (decide (IntKind.i64.wrap (IntKind.u8.wrap (↑(BitVec.ofInt 8 n5 &&& BitVec.ofInt 8 7).toNat : Int)) ≤ 3))
 (Q [.one (.int .i32 (IntKind.i32.wrap (↑(BitVec.ofInt 32 (IntKind.i32.wrap (↑(BitVec.ofInt 32 (shl IntKind.i32 (IntKind.i32.wrap (IntKind.u8.wrap (↑(BitVec.ofInt 8 (byteAt s0 0) &&& BitVec.ofInt 8 15).toNat : Int))) 12) ||| BitVec.ofInt 32 (shl IntKind.i32 (IntKind.i32.wrap (IntKind.u8.wrap (↑(BitVec.ofInt 8 (byteAt s0 1) &&& BitVec.ofInt 8 63).toNat : Int))) 6)).toNat : Int)) ||| BitVec.ofInt 32 (IntKind.i32.wrap (IntKind.u8.wrap (↑(BitVec.ofInt 8 (byteAt s0 2) &&& BitVec.ofInt 8 63).toNat : Int)))).toNat : Int))), .one (.int .i64 3)])
 (fun h17 =>
 (((0 : Int) ≤ (3 : Int)) ∧
 3 < (↑s0.size : Int)) ∧
 (joinK (A := Bool)
 (fun b18 => ifT b18
 (Q [.one (.int .i32 65533), .one (.int .i64 1)])
 (Q [.one (.int .i32 (IntKind.i32.wrap (↑(BitVec.ofInt 32 (IntKind.i32.wrap (↑(BitVec.ofInt 32 (IntKind.i32.wrap (↑(BitVec.ofInt 32 (shl IntKind.i32 (IntKind.i32.wrap (IntKind.u8.wrap (↑(BitVec.ofInt 8 (byteAt s0 0) &&& BitVec.ofInt 8 7).toNat : Int))) 18) ||| BitVec.ofInt 32 (shl IntKind.i32 (IntKind.i32.wrap (IntKind.u8.wrap (↑(BitVec.ofInt 8 (byteAt s0 1) &&& BitVec.ofInt 8 63).toNat : Int))) 12)).toNat : Int)) ||| BitVec.ofInt 32 (shl IntKind.i32 (IntKind.i32.wrap (IntKind.u8.wrap (↑(BitVec.ofInt 8 (byteAt s0 2) &&& BitVec.ofInt 8 63).toNat : Int))) 6)).toNat : Int)) ||| BitVec.ofInt 32 (IntKind.i32.wrap (IntKind.u8.wrap (↑(BitVec.ofInt 8 (byteAt s0 3) &&& BitVec.ofInt 8 63).toNat : Int)))).toNat : Int))), .one (.int .i64 4)]))
 (fun x19 => ifT (decide (byteAt s0 3 < 128))
 (x19 true)
 (x19 (decide (191 < byteAt s0 3))))) h17)))
 (fun x20 => ifT (decide (byteAt s0 2 < 128))
 (x20 true)
 (x20 (decide (191 < byteAt s0 2))))) h15)))
 (fun x21 => ifT (decide (byteAt s0 1 < n11))
 (x21 true)
 (x21 (decide (n12 < byteAt s0 1))))) h13)) h10)) h7)) h4)) h1)
theorem den137 (I : FuncId → List V → Post → T) (s0 : ByteArray) (Q : Post) : denF Go.Proofs.Tryz.prog 512 (⟨[(8188, 287948901175001088, [(57, tk Go.Proofs.Tryz.prog 4)]), (65532, 74377272105196912115712, [(75, tk Go.Proofs.Tryz.prog 4)]), (524284, 623921779799831658549158608896, [(98, tk Go.Proofs.Tryz.prog 4)])], []⟩) I 137 [V.one (Cell.str s0)] Q = vc137 I s0 Q := by kernel_rfl
/-- unicode/utf8.RuneCountInString -/
def vc212 (I : FuncId → List V → Post → T) (s0 : ByteArray) (Q : Post) : T :=
 fun h1 =>
 False
theorem den212 (I : FuncId → List V → Post → T) (s0 : ByteArray) (Q : Post) : denF Go.Proofs.Tryz.prog 0 (⟨[], [(26, 484, [(2, tk Go.Proofs.Tryz.prog 3)])]⟩) I 212 [V.one (Cell.str s0)] Q = vc212 I s0 Q := by kernel_rfl
/-- strings.Count -/
def vc205 (I : FuncId → List V → Post → T) (s0 : ByteArray) (s1 : ByteArray) (Q : Post) : T :=
 ifT (decide ((↑s1.size : Int) = 0))
 (fun h2 =>
 I 212 [.one (.str s0)]
 (fun cs3 h4 =>
 ∃ n5 : Int, (cs3 = [.one (.int .i64 n5)]) ∧
 Q [.one (.int .i64 (IntKind.i64.wrap (n5 + 1)))] h4) h2)
 (ifT (decide ((↑s1.size : Int) = 1))
 (fun h6 =>
 (((0 : Int) ≤ (0 : Int)) ∧
 0 < (↑s1.size : Int)) ∧
 I 213 [.one (.str s0), .one (.int .u8 (byteAt s1 0))]
 (fun cs7 h8 =>
 ∃ n9 : Int, (cs7 = [.one (.int .i64 n9)]) ∧
 Q [.one (.int .i64 n9)] h8) h6)
 (loopK (A := ByteArray × Int) ((s0, 0))
 (fun x10 => uncur fun s11 n12 => fun h13 =>
 I 75 [.one (.str s11), .one (.str s1)]
 (fun cs14 h15 =>
 ∃ n16 : Int, (cs14 = [.one (.int .i64 n16)]) ∧
 (ifT (decide (n16 = -1))
 (Q [.one (.int .i64 n12)])
 (fun h17 =>
 ((0 ≤ IntKind.i64.wrap (n16 + (↑s1.size : Int))) ∧
 (IntKind.i64.wrap (n16 + (↑s1.size : Int)) ≤ (↑s11.size : Int)) ∧
 (↑s11.size : Int) ≤ (↑s11.size : Int)) ∧
 x10 ((s11.extract (IntKind.i64.wrap (n16 + (↑s1.size : Int))).toNat (↑s11.size : Int).toNat, IntKind.i64.wrap (n12 + 1))) h17)) h15) h13)))
theorem den205 (I : FuncId → List V → Post → T) (s0 : ByteArray) (s1 : ByteArray) (Q : Post) : denF Go.Proofs.Tryz.prog 0 (⟨[], [(62, 17178820721, [(0, tk Go.Proofs.Tryz.prog 9), (5, tk Go.Proofs.Tryz.prog 3)])]⟩) I 205 [V.one (Cell.str s0), V.one (Cell.str s1)] Q = vc205 I s0 s1 Q := by kernel_rfl
/-- handbill/person.isMail$1 -/
def vc185 (I : FuncId → List V → Post → T) (n0 : Int) (Q : Post) : T :=
 fun h1 =>
 I 103 [.one (.int .u8 n0)]
 (fun cs2 h3 =>
 ∃ b4 : Bool, (cs2 = [.one (.bool b4)]) ∧
 (ifT b4
 (Q [.one (.bool true)])
 (fun h5 =>
 I 106 [.one (.int .u8 n0)]
 (fun cs6 h7 =>
 ∃ b8 : Bool, (cs6 = [.one (.bool b8)]) ∧
 (ifT b8
 (Q [.one (.bool true)])
 (ifT (decide (n0 = 46))
 (Q [.one (.bool true)])
 (ifT (decide (n0 = 45))
 (Q [.one (.bool true)])
 (Q [.one (.bool (decide (n0 = 95)))])))) h7) h5)) h3) h1
theorem den185 (I : FuncId → List V → Post → T) (n0 : Int) (Q : Post) : denF Go.Proofs.Tryz.prog 0 (⟨[], []⟩) I 185 [V.one (Cell.int IntKind.u8 n0)] Q = vc185 I n0 Q := by kernel_rfl
/-- handbill/person.isLabel -/
def vc187 (I : FuncId → List V → Post → T) (s0 : ByteArray) (Q : Post) : T :=
 fun h1 =>
 I 73 [.one (.int .i64 (↑s0.size : Int)), .one (.int .i64 1), .one (.int .i64 30)]
 (fun cs2 h3 =>
 ∃ b4 : Bool, (cs2 = [.one (.bool b4)]) ∧
 (ifT b4
 (fun h5 =>
 (((0 : Int) ≤ (0 : Int)) ∧
 0 < (↑s0.size : Int)) ∧
 (ifT (!decide (byteAt s0 0 = 45))
 (fun h6 =>
 ((0 ≤ IntKind.i64.wrap ((↑s0.size : Int) - 1)) ∧
 IntKind.i64.wrap ((↑s0.size : Int) - 1) < (↑s0.size : Int)) ∧
 (ifT (!decide (byteAt s0 (IntKind.i64.wrap ((↑s0.size : Int) - 1)) = 45))
 (fun h7 =>
 I 104 [.one (.str s0), .one (.func (some (198, [])))]
 (fun cs8 h9 =>
 ∃ b10 : Bool, (cs8 = [.one (.bool b10)]) ∧
 Q [.one (.bool b10)] h9) h7)
 (Q [.one (.bool false)])) h6)
 (Q [.one (.bool false)])) h5)
 (Q [.one (.bool false)])) h3) h1
theorem den187 (I : FuncId → List V → Post → T) (s0 : ByteArray) (Q : Post) : denF Go.Proofs.Tryz.prog 0 (⟨[], []⟩) I 187 [V.one (Cell.str s0)] Q = vc187 I s0 Q := by kernel_rfl
/-- handbill/person.isLabel$1 -/
def vc198 (I : FuncId → List V → Post → T) (n0 : Int) (Q : Post) : T :=
 fun h1 =>
 I 103 [.one (.int .u8 n0)]
 (fun cs2 h3 =>
 ∃ b4 : Bool, (cs2 = [.one (.bool b4)]) ∧
 (ifT b4
 (Q [.one (.bool true)])
 (fun h5 =>
 I 106 [.one (.int .u8 n0)]
 (fun cs6 h7 =>
 ∃ b8 : Bool, (cs6 = [.one (.bool b8)]) ∧
 (ifT b8
 (Q [.one (.bool true)])
 (Q [.one (.bool (decide (n0 = 45)))])) h7) h5)) h3) h1
theorem den198 (I : FuncId → List V → Post → T) (n0 : Int) (Q : Post) : denF Go.Proofs.Tryz.prog 0 (⟨[], []⟩) I 198 [V.one (Cell.int IntKind.u8 n0)] Q = vc198 I n0 Q := by kernel_rfl
/-- handbill/person.isPhone -/
def vc176 (I : FuncId → List V → Post → T) (s0 : ByteArray) (Q : Post) : T :=
 fun h1 =>
 I 32 [.one (.str s0), .one (.str { data := #[43] })]
 (fun cs2 h3 =>
 ∃ b4 : Bool, (cs2 = [.one (.bool b4)]) ∧
 (ifT b4
 (fun h5 =>
 I 73 [.one (.int .i64 (↑s0.size : Int)), .one (.int .i64 8), .one (.int .i64 16)]
 (fun cs6 h7 =>
 ∃ b8 : Bool, (cs6 = [.one (.bool b8)]) ∧
 (ifT b8
 (fun h9 =>
 (((0 : Int) ≤ (1 : Int)) ∧
 (1 ≤ (↑s0.size : Int)) ∧
 (↑s0.size : Int) ≤ (↑s0.size : Int)) ∧
 I 104 [.one (.str (s0.extract 1 (↑s0.size : Int).toNat)), .one (.func (some (106, [])))]
 (fun cs10 h11 =>
 ∃ b12 : Bool, (cs10 = [.one (.bool b12)]) ∧
 (ifT b12
 (fun h13 =>
 (((0 : Int) ≤ (1 : Int)) ∧
 1 < (↑s0.size : Int)) ∧
 Q [.one (.bool (!decide (byteAt s0 1 = 48)))] h13)
 (Q [.one (.bool false)])) h11) h9)
 (Q [.one (.bool false)])) h7) h5)
 (Q [.one (.bool false)])) h3) h1
theorem den176 (I : FuncId → List V → Post → T) (s0 : ByteArray) (Q : Post) : denF Go.Proofs.Tryz.prog 0 (⟨[], []⟩) I 176 [V.one (Cell.str s0)] Q = vc176 I s0 Q := by kernel_rfl
/-- strings.HasPrefix -/
def vc32 (I : FuncId → List V → Post → T) (s0 : ByteArray) (s1 : ByteArray) (Q : Post) : T :=
 fun h2 =>
 I 58 [.one (.str s0), .one (.str s1)]
 (fun cs3 h4 =>
 ∃ b5 : Bool, (cs3 = [.one (.bool b5)]) ∧
 Q [.one (.bool b5)] h4) h2
theorem den32 (I : FuncId → List V → Post → T) (s0 : ByteArray) (s1 : ByteArray) (Q : Post) : denF Go.Proofs.Tryz.prog 0 (⟨[], []⟩) I 32 [V.one (Cell.str s0), V.one (Cell.str s1)] Q = vc32 I s0 s1 Q := by kernel_rfl
/-- internal/stringslite.HasPrefix -/
def vc58 (I : FuncId → List V → Post → T) (s0 : ByteArray) (s1 : ByteArray) (Q : Post) : T :=
 ifT (decide ((↑s0.size : Int) ≥ (↑s1.size : Int)))
 (fun h2 =>
 (((0 : Int) ≤ (0 : Int)) ∧
 (0 ≤ (↑s1.size : Int)) ∧
 (↑s1.size : Int) ≤ (↑s0.size : Int)) ∧
 Q [.one (.bool (decide (s0.extract 0 (↑s1.size : Int).toNat = s1)))] h2)
 (Q [.one (.bool false)])
theorem den58 (I : FuncId → List V → Post → T) (s0 : ByteArray) (s1 : ByteArray) (Q : Post) : denF Go.Proofs.Tryz.prog 0 (⟨[], []⟩) I 58 [V.one (Cell.str s0), V.one (Cell.str s1)] Q = vc58 I s0 s1 Q := by kernel_rfl
/-- handbill/person.isMember -/
def vc177 (I : FuncId → List V → Post → T) (s0 : ByteArray) (Q : Post) : T :=
 fun h1 =>
 I 73 [.one (.int .i64 (↑s0.size : Int)), .one (.int .i64 4), .one (.int .i64 20)]
 (fun cs2 h3 =>
 ∃ b4 : Bool, (cs2 = [.one (.bool b4)]) ∧
 (ifT b4
 (fun h5 =>
 I 104 [.one (.str s0), .one (.func (some (188, [])))]
 (fun cs6 h7 =>
 ∃ b8 : Bool, (cs6 = [.one (.bool b8)]) ∧
 Q [.one (.bool b8)] h7) h5)
 (Q [.one (.bool false)])) h3) h1
theorem den177 (I : FuncId → List V → Post → T) (s0 : ByteArray) (Q : Post) : denF Go.Proofs.Tryz.prog 0 (⟨[], []⟩) I 177 [V.one (Cell.str s0)] Q = vc177 I s0 Q := by kernel_rfl
/-- handbill/person.isMember$1 -/
def vc188 (I : FuncId → List V → Post → T) (n0 : Int) (Q : Post) : T :=
 fun h1 =>
 I 106 [.one (.int .u8 n0)]
 (fun cs2 h3 =>
 ∃ b4 : Bool, (cs2 = [.one (.bool b4)]) ∧
 (ifT b4
 (Q [.one (.bool true)])
 (fun h5 =>
 I 189 [.one (.int .u8 n0)]
 (fun cs6 h7 =>
 ∃ b8 : Bool, (cs6 = [.one (.bool b8)]) ∧
 Q [.one (.bool b8)] h7) h5)) h3) h1
theorem den188 (I : FuncId → List V → Post → T) (n0 : Int) (Q : Post) : denF Go.Proofs.Tryz.prog 0 (⟨[], []⟩) I 188 [V.one (Cell.int IntKind.u8 n0)] Q = vc188 I n0 Q := by kernel_rfl
/-- handbill/person.capital -/
def vc189 (I : FuncId → List V → Post → T) (n0 : Int) (Q : Post) : T :=
 ifT (decide (65 ≤ n0))
 (Q [.one (.bool (decide (n0 ≤ 90)))])
 (Q [.one (.bool false)])
theorem den189 (I : FuncId → List V → Post → T) (n0 : Int) (Q : Post) : denF Go.Proofs.Tryz.prog 0 (⟨[], []⟩) I 189 [V.one (Cell.int IntKind.u8 n0)] Q = vc189 I n0 Q := by kernel_rfl
/-- handbill/person.isDevice -/
def vc178 (I : FuncId → List V → Post → T) (s0 : ByteArray) (Q : Post) : T :=
 ifT (decide ((↑s0.size : Int) = 32))
 (fun h1 =>
 I 104 [.one (.str s0), .one (.func (some (190, [])))]
 (fun cs2 h3 =>
 ∃ b4 : Bool, (cs2 = [.one (.bool b4)]) ∧
 Q [.one (.bool b4)] h3) h1)
 (Q [.one (.bool false)])
theorem den178 (I : FuncId → List V → Post → T) (s0 : ByteArray) (Q : Post) : denF Go.Proofs.Tryz.prog 0 (⟨[], []⟩) I 178 [V.one (Cell.str s0)] Q = vc178 I s0 Q := by kernel_rfl
/-- handbill/person.isDevice$1 -/
def vc190 (I : FuncId → List V → Post → T) (n0 : Int) (Q : Post) : T :=
 fun h1 =>
 I 106 [.one (.int .u8 n0)]
 (fun cs2 h3 =>
 ∃ b4 : Bool, (cs2 = [.one (.bool b4)]) ∧
 (ifT b4
 (Q [.one (.bool true)])
 (ifT (decide (97 ≤ n0))
 (Q [.one (.bool (decide (n0 ≤ 102)))])
 (Q [.one (.bool false)]))) h3) h1
theorem den190 (I : FuncId → List V → Post → T) (n0 : Int) (Q : Post) : denF Go.Proofs.Tryz.prog 0 (⟨[], []⟩) I 190 [V.one (Cell.int IntKind.u8 n0)] Q = vc190 I n0 Q := by kernel_rfl
/-- handbill/person.checkSign -/
def vc179 (I : FuncId → List V → Post → T) (s0 : ByteArray) (Q : Post) : T :=
 loopK (A := Int × Int × Int) ((0, 2, IntKind.i64.wrap ((↑s0.size : Int) - 1)))
 (fun x1 => uncur fun n2 => uncur fun n3 n4 => ifT (decide (n4 ≥ 0))
 (fun h5 =>
 ((0 ≤ n4) ∧
 n4 < (↑s0.size : Int)) ∧
 I 89 [.one (.str { data := #[48, 49, 50, 51, 52, 53, 54, 55, 56, 57, 65, 66, 67, 68, 69, 70, 71, 72, 73, 74, 75, 76, 77, 78, 79, 80, 81, 82, 83, 84, 85, 86, 87, 88, 89, 90] }), .one (.int .u8 (byteAt s0 n4))]
 (fun cs6 h7 =>
 ∃ n8 : Int, (cs6 = [.one (.int .i64 n8)]) ∧
 x1 ((IntKind.i64.wrap (n2 + IntKind.i64.wrap (IntKind.i64.wrap ((IntKind.i64.wrap (n3 * n8)).tdiv 36) + (IntKind.i64.wrap (n3 * n8)).tmod 36)), IntKind.i64.wrap (3 - n3), IntKind.i64.wrap (n4 - 1))) h7) h5)
 (fun h9 =>
 ((0 ≤ (IntKind.i64.wrap (36 - n2.tmod 36)).tmod 36) ∧
 (IntKind.i64.wrap (36 - n2.tmod 36)).tmod 36 < (↑36 : Int)) ∧
 Q [.one (.int .u8 (byteAt { data := #[48, 49, 50, 51, 52, 53, 54, 55, 56, 57, 65, 66, 67, 68, 69, 70, 71, 72, 73, 74, 75, 76, 77, 78, 79, 80, 81, 82, 83, 84, 85, 86, 87, 88, 89, 90] } ((IntKind.i64.wrap (36 - n2.tmod 36)).tmod 36)))] h9))
theorem den179 (I : FuncId → List V → Post → T) (s0 : ByteArray) (Q : Post) : denF Go.Proofs.Tryz.prog 0 (⟨[], [(58, 536870008, [(3, tk Go.Proofs.Tryz.prog 3), (4, tk Go.Proofs.Tryz.prog 3), (5, tk Go.Proofs.Tryz.prog 3)])]⟩) I 179 [V.one (Cell.str s0)] Q = vc179 I s0 Q := by kernel_rfl
/-- strings.IndexByte -/
def vc89 (I : FuncId → List V → Post → T) (s0 : ByteArray) (n1 : Int) (Q : Post) : T :=
 fun h2 =>
 I 115 [.one (.str s0), .one (.int .u8 n1)]
 (fun cs3 h4 =>
 ∃ n5 : Int, (cs3 = [.one (.int .i64 n5)]) ∧
 Q [.one (.int .i64 n5)] h4) h2
theorem den89 (I : FuncId → List V → Post → T) (s0 : ByteArray) (n1 : Int) (Q : Post) : denF Go.Proofs.Tryz.prog 0 (⟨[], []⟩) I 89 [V.one (Cell.str s0), V.one (Cell.int IntKind.u8 n1)] Q = vc89 I s0 n1 Q := by kernel_rfl
/-- handbill/event.Order -/
def vc142 (I : FuncId → List V → Post → T) (s0 : ByteArray) (s1 : ByteArray) (n2 : Int) (n3 : Int) (s4 : ByteArray) (l5 : Sl) (s6 : ByteArray) (s7 : ByteArray) (n8 : Int) (n9 : Int) (s10 : ByteArray) (l11 : Sl) (Q : Post) : T :=
 fun h12 =>
 I 129 [.one (.int .i64 n2), .one (.int .i64 n8)]
 (fun cs13 h14 =>
 ∃ n15 : Int, (cs13 = [.one (.int .i64 n15)]) ∧
 I 125 [.one (.str s0), .one (.str s6)]
 (fun cs16 h17 =>
 ∃ n18 : Int, (cs16 = [.one (.int .i64 n18)]) ∧
 (newK (.cells false [.int .i64 n15, .int .i64 n18]) (fun i19 h20 =>
 I 143 [.one (.slice 1 { a := some (i19, 0), len := 2 })]
 (fun cs21 h22 =>
 ∃ n23 : Int, (cs21 = [.one (.int .i64 n23)]) ∧
 Q [.one (.int .i64 n23)] h22) h20)) h17) h14) h12
theorem den142 (I : FuncId → List V → Post → T) (s0 : ByteArray) (s1 : ByteArray) (n2 : Int) (n3 : Int) (s4 : ByteArray) (l5 : Sl) (s6 : ByteArray) (s7 : ByteArray) (n8 : Int) (n9 : Int) (s10 : ByteArray) (l11 : Sl) (Q : Post) : denF Go.Proofs.Tryz.prog 12 (⟨[], []⟩) I 142 [V.agg [Cell.str s0, Cell.str s1, Cell.int IntKind.i64 n2, Cell.int IntKind.i64 n3, Cell.str s4, Cell.slice 4 l5], V.agg [Cell.str s6, Cell.str s7, Cell.int IntKind.i64 n8, Cell.int IntKind.i64 n9, Cell.str s10, Cell.slice 4 l11]] Q = vc142 I s0 s1 n2 n3 s4 l5 s6 s7 n8 n9 s10 l11 Q := by kernel_rfl
/-- cmp.Or[int] -/
def vc143 (I : FuncId → List V → Post → T) (l0 : Sl) (Q : Post) : T :=
 loopK (A := Int) 0
 (fun x1 n2 => ifT (decide (n2 < (↑l0.len : Int)))
 (fun h3 =>
 ((0 ≤ n2) ∧
 n2 < (↑l0.len : Int)) ∧
 (derefK l0.a (fun i4 => fun i5 h6 =>
 ∃ n7 : Int, (h6.read i4 (i5 + n2.toNat * 1) 1 = some [.int .i64 n7]) ∧
 (ifT (!decide (n7 = 0))
 (Q [.one (.int .i64 n7)])
 (x1 (IntKind.i64.wrap (n2 + 1)))) h6)) h3)
 (Q [.one (.int .i64 0)]))
theorem den143 (I : FuncId → List V → Post → T) (l0 : Sl) (Q : Post) : denF Go.Proofs.Tryz.prog 0 (⟨[], [(58, 130852, [(8, tk Go.Proofs.Tryz.prog 3)])]⟩) I 143 [V.one (Cell.slice 1 l0)] Q = vc143 I l0 Q := by kernel_rfl
/-- cmp.Compare[int] -/
def vc129 (I : FuncId → List V → Post → T) (n0 : Int) (n1 : Int) (Q : Post) : T :=
 fun h2 =>
 I 147 [.one (.int .i64 n0)]
 (fun cs3 h4 =>
 ∃ b5 : Bool, (cs3 = [.one (.bool b5)]) ∧
 I 147 [.one (.int .i64 n1)]
 (fun cs6 h7 =>
 ∃ b8 : Bool, (cs6 = [.one (.bool b8)]) ∧
 (ifT b5
 (ifT b8
 (Q [.one (.int .i64 0)])
 (Q [.one (.int .i64 (-1))]))
 (ifT b8
 (Q [.one (.int .i64 1)])
 (ifT (decide (n0 < n1))
 (Q [.one (.int .i64 (-1))])
 (ifT (decide (n0 > n1))
 (Q [.one (.int .i64 1)])
 (Q [.one (.int .i64 0)]))))) h7) h4) h2
theorem den129 (I : FuncId → List V → Post → T) (n0 : Int) (n1 : Int) (Q : Post) : denF Go.Proofs.Tryz.prog 0 (⟨[], []⟩) I 129 [V.one (Cell.int IntKind.i64 n0), V.one (Cell.int IntKind.i64 n1)] Q = vc129 I n0 n1 Q := by kernel_rfl
/-- cmp.isNaN[int] -/
def vc147 (I : FuncId → List V → Post → T) (n0 : Int) (Q : Post) : T :=
 Q [.one (.bool (!decide (n0 = n0)))]
theorem den147 (I : FuncId → List V → Post → T) (n0 : Int) (Q : Post) : denF Go.Proofs.Tryz.prog 0 (⟨[], []⟩) I 147 [V.one (Cell.int IntKind.i64 n0)] Q = vc147 I n0 Q := by kernel_rfl
/-- cmp.Compare[string] -/
def vc125 (I : FuncId → List V → Post → T) (s0 : ByteArray) (s1 : ByteArray) (Q : Post) : T :=
 fun h2 =>
 I 145 [.one (.str s0)]
 (fun cs3 h4 =>
 ∃ b5 : Bool, (cs3 = [.one (.bool b5)]) ∧
 I 145 [.one (.str s1)]
 (fun cs6 h7 =>
 ∃ b8 : Bool, (cs6 = [.one (.bool b8)]) ∧
 (ifT b5
 (ifT b8
 (Q [.one (.int .i64 0)])
 (Q [.one (.int .i64 (-1))]))
 (ifT b8
 (Q [.one (.int .i64 1)])
 (ifT (Op.bytesLess s0.toList s1.toList)
 (Q [.one (.int .i64 (-1))])
 (ifT (!(Op.bytesLess s0.toList s1.toList || decide (s0 = s1)))
 (Q [.one (.int .i64 1)])
 (Q [.one (.int .i64 0)]))))) h7) h4) h2
theorem den125 (I : FuncId → List V → Post → T) (s0 : ByteArray) (s1 : ByteArray) (Q : Post) : denF Go.Proofs.Tryz.prog 0 (⟨[], []⟩) I 125 [V.one (Cell.str s0), V.one (Cell.str s1)] Q = vc125 I s0 s1 Q := by kernel_rfl
/-- cmp.isNaN[string] -/
def vc145 (I : FuncId → List V → Post → T) (s0 : ByteArray) (Q : Post) : T :=
 Q [.one (.bool (!decide (s0 = s0)))]
theorem den145 (I : FuncId → List V → Post → T) (s0 : ByteArray) (Q : Post) : denF Go.Proofs.Tryz.prog 0 (⟨[], []⟩) I 145 [V.one (Cell.str s0)] Q = vc145 I s0 Q := by kernel_rfl
/-- handbill/segment.build -/
def vc66 (I : FuncId → List V → Post → T) (n0 : Int) (s1 : ByteArray) (s2 : ByteArray) (s3 : ByteArray) (l4 : Sl) (l5 : Sl) (n6 : Int) (n7 : Int) (l8 : Sl) (l9 : Sl) (l10 : Sl) (Q : Post) : T :=
 fun h11 =>
 (newK (.cells false [.int .i64 n0, .str s1, .str s2, .str s3, .slice 3 l4, .slice 5 l5, .int .i64 n6, .int .i64 n7, .slice 9 l8, .slice 1 { a := none, len := 0 }, .bool false, .slice 1 { a := none, len := 0 }, .slice 1 { a := none, len := 0 }, .int .i64 0]) (fun i12 => loopK (A := Int) 0
 (fun x13 n14 => ifT (decide (n14 < (↑l8.len : Int)))
 (fun h15 =>
 ((0 ≤ n14) ∧
 n14 < (↑l8.len : Int)) ∧
 (derefK l8.a (fun i16 => fun i17 h18 =>
 ∃ n19 : Int, ∃ s20 : ByteArray, ∃ s21 : ByteArray, ∃ s22 : ByteArray, ∃ l23 : Sl, ∃ l24 : Sl, ∃ n25 : Int, ∃ n26 : Int, ∃ l27 : Sl, (h18.read i16 (i17 + n14.toNat * 9) 9 = some [.int .i64 n19, .str s20, .str s21, .str s22, .slice 3 l23, .slice 5 l24, .int .i64 n25, .int .i64 n26, .slice 9 l27]) ∧
 ∃ l28 : Sl, (h18.read i12 9 1 = some [.slice 1 l28]) ∧
 I 66 [.agg [.int .i64 n19, .str s20, .str s21, .str s22, .slice 3 l23, .slice 5 l24, .int .i64 n25, .int .i64 n26, .slice 9 l27], .one (.slice 4 l9), .one (.slice 6 l10)]
 (fun cs29 h30 =>
 (h30 i12 = h18 i12) ∧
 ∃ p31 : Option (Nat × Nat), (cs29 = [.one (.ptr p31)]) ∧
 (appendTo [] 1 8 l28 1 [.ptr p31] (fun l32 h33 =>
 (storeK [] i12 9 [.slice 1 l32] (x13 (IntKind.i64.wrap (n14 + 1)))) h33)) h30) h18)) h15)
 (fun h34 =>
 I 93 [.agg [.int .i64 n0, .str s1, .str s2, .str s3, .slice 3 l4, .slice 5 l5, .int .i64 n6, .int .i64 n7, .slice 9 l8]]
 (fun cs35 h36 =>
 ∃ b37 : Bool, (cs35 = [.one (.bool b37)]) ∧
 (ifT b37
 (fun h38 =>
 I 94 [.agg [.int .i64 n0, .str s1, .str s2, .str s3, .slice 3 l4, .slice 5 l5, .int .i64 n6, .int .i64 n7, .slice 9 l8], .one (.slice 4 l9)]
 (fun cs39 h40 =>
 ∃ b41 : Bool, (cs39 = [.one (.bool b41)]) ∧
 (storeK [] i12 10 [.bool b41] (Q [.one (.ptr (some (i12, 0)))])) h40) h38)
 (ifT (decide (n0 = 14))
 (fun h42 =>
 I 95 [.agg [.int .i64 n0, .str s1, .str s2, .str s3, .slice 3 l4, .slice 5 l5, .int .i64 n6, .int .i64 n7, .slice 9 l8], .one (.slice 6 l10)]
 (fun cs43 h44 =>
 ∃ n45 : Int, (cs43 = [.one (.int .i64 n45)]) ∧
 (storeK [] i12 13 [.int .i64 n45] (Q [.one (.ptr (some (i12, 0)))])) h44) h42)
 (fun h46 =>
 I 96 [.agg [.int .i64 n0, .str s1, .str s2, .str s3, .slice 3 l4, .slice 5 l5, .int .i64 n6, .int .i64 n7, .slice 9 l8]]
 (fun cs47 h48 =>
 ∃ b49 : Bool, (cs47 = [.one (.bool b49)]) ∧
 (ifT b49
 (fun h50 =>
 (newK (.cells false [.int .i64 0]) (fun i51 => storeK [] i12 12 [.slice 1 { a := some (i51, 0), len := 1 }] (loopK (A := Int) 0
 (fun x52 n53 => ifT (decide (n53 < (↑l10.len : Int)))
 (fun h54 =>
 ((0 ≤ n53) ∧
 n53 < (↑l10.len : Int)) ∧
 (derefK l10.a (fun i55 => fun i56 h57 =>
 ∃ s58 : ByteArray, ∃ s59 : ByteArray, ∃ n60 : Int, ∃ n61 : Int, ∃ s62 : ByteArray, ∃ l63 : Sl, (h57.read i55 (i56 + n53.toNat * 6) 6 = some [.str s58, .str s59, .int .i64 n60, .int .i64 n61, .str s62, .slice 4 l63]) ∧
 (joinK (A := Bool)
 (fun b64 => ifT b64
 (x52 (IntKind.i64.wrap (n53 + 1)))
 (fun h65 =>
 ∃ l66 : Sl, (h65.read i12 12 1 = some [.slice 1 l66]) ∧
 ∃ l67 : Sl, (h65.read i12 12 1 = some [.slice 1 l67]) ∧
 ((0 ≤ IntKind.i64.wrap ((↑l67.len : Int) - 1)) ∧
 IntKind.i64.wrap ((↑l67.len : Int) - 1) < (↑l66.len : Int)) ∧
 (derefK l66.a (fun i68 => fun i69 h70 =>
 ∃ n71 : Int, (h70.read i68 (i69 + (IntKind.i64.wrap ((↑l67.len : Int) - 1)).toNat * 1) 1 = some [.int .i64 n71]) ∧
 I 98 [.one (.slice 4 l63), .one (.str s2)]
 (fun cs72 h73 =>
 ∃ n74 : Int, ∃ s75 : ByteArray, ∃ n76 : Int, ∃ b77 : Bool, (cs72 = [.agg [.int .i64 n74, .str s75, .int .i64 n76], .one (.bool b77)]) ∧
 (joinK (A := Bool)
 (fun b78 => joinK (A := Int)
 (fun n79 h80 =>
 ∃ l81 : Sl, (h80.read i12 11 1 = some [.slice 1 l81]) ∧
 ∃ l82 : Sl, (h80.read i12 12 1 = some [.slice 1 l82]) ∧
 (appendTo [i12] 1 8 l81 1 [.int .i64 n60] (fun l83 h84 =>
 (appendTo [] 1 8 l82 1 [.int .i64 n79] (fun l85 h86 =>
 (storeK [] i12 11 [.slice 1 l83] (fun h87 =>
 (storeK [] i12 12 [.slice 1 l85] (x52 (IntKind.i64.wrap (n53 + 1)))) h87)) h86)) h84)) h80)
 (fun x88 => ifT b78
 (x88 (IntKind.i64.wrap (n71 + n76)))
 (x88 n71)))
 (fun x89 => ifT b77
 (x89 (!decide (n74 = 1)))
 (x89 false))) h73) h70)) h65))
 (fun x90 => ifT (!decide (s59 = s1))
 (x90 true)
 (fun h91 =>
 I 97 [.agg [.str s58, .str s59, .int .i64 n60, .int .i64 n61, .str s62, .slice 4 l63], .one (.slice 5 l5)]
 (fun cs92 h93 =>
 ∃ b94 : Bool, (cs92 = [.one (.bool b94)]) ∧
 x90 (!b94) h93) h91))) h57)) h54)
 (Q [.one (.ptr (some (i12, 0)))]))))) h50)
 (Q [.one (.ptr (some (i12, 0)))])) h48) h46))) h36) h34)))) h11
theorem den66 (I : FuncId → List V → Post → T) (n0 : Int) (s1 : ByteArray) (s2 : ByteArray) (s3 : ByteArray) (l4 : Sl) (l5 : Sl) (n6 : Int) (n7 : Int) (l8 : Sl) (l9 : Sl) (l10 : Sl) (Q : Post) : denF Go.Proofs.Tryz.prog 10760 (⟨[(7992932, 9669045373675598575042560, [(82, tk Go.Proofs.Tryz.prog 4)]), (63943482, 638895902515027618354338415509504, [(108, tk Go.Proofs.Tryz.prog 4)]), (63943483, 9735556609752801803494680617291776, [(12, tk Go.Proofs.Tryz.prog 3)])], [(58, 549753717248, [(21, tk Go.Proofs.Tryz.prog 3)]), (31222, 43556142965880123323164375798676654684160, [(67, tk Go.Proofs.Tryz.prog 3)])]⟩) I 66 [V.agg [Cell.int IntKind.i64 n0, Cell.str s1, Cell.str s2, Cell.str s3, Cell.slice 3 l4, Cell.slice 5 l5, Cell.int IntKind.i64 n6, Cell.int IntKind.i64 n7, Cell.slice 9 l8], V.one (Cell.slice 4 l9), V.one (Cell.slice 6 l10)] Q = vc66 I n0 s1 s2 s3 l4 l5 n6 n7 l8 l9 l10 Q := by kernel_rfl
/-- handbill/segment.ofRecord -/
def vc93 (I : FuncId → List V → Post → T) (n0 : Int) (s1 : ByteArray) (s2 : ByteArray) (s3 : ByteArray) (l4 : Sl) (l5 : Sl) (n6 : Int) (n7 : Int) (l8 : Sl) (Q : Post) : T :=
 fun h9 =>
 I 48 [.one (.int .i64 n0), .one (.int .i64 6), .one (.int .i64 10)]
 (fun cs10 h11 =>
 ∃ b12 : Bool, (cs10 = [.one (.bool b12)]) ∧
 Q [.one (.bool b12)] h11) h9
theorem den93 (I : FuncId → List V → Post → T) (n0 : Int) (s1 : ByteArray) (s2 : ByteArray) (s3 : ByteArray) (l4 : Sl) (l5 : Sl) (n6 : Int) (n7 : Int) (l8 : Sl) (Q : Post) : denF Go.Proofs.Tryz.prog 2 (⟨[], []⟩) I 93 [V.agg [Cell.int IntKind.i64 n0, Cell.str s1, Cell.str s2, Cell.str s3, Cell.slice 3 l4, Cell.slice 5 l5, Cell.int IntKind.i64 n6, Cell.int IntKind.i64 n7, Cell.slice 9 l8]] Q = vc93 I n0 s1 s2 s3 l4 l5 n6 n7 l8 Q := by kernel_rfl
/-- handbill/segment.ofField -/
def vc94 (I : FuncId → List V → Post → T) (n0 : Int) (s1 : ByteArray) (s2 : ByteArray) (s3 : ByteArray) (l4 : Sl) (l5 : Sl) (n6 : Int) (n7 : Int) (l8 : Sl) (l9 : Sl) (Q : Post) : T :=
 fun h10 =>
 I 98 [.one (.slice 4 l9), .one (.str s1)]
 (fun cs11 h12 =>
 ∃ n13 : Int, ∃ s14 : ByteArray, ∃ n15 : Int, ∃ b16 : Bool, (cs11 = [.agg [.int .i64 n13, .str s14, .int .i64 n15], .one (.bool b16)]) ∧
 (newK (.cells false [.int .i64 0, .str ByteArray.empty, .int .i64 0]) (fun i17 h18 =>
 (storeK [] i17 0 [.int .i64 n13, .str s14, .int .i64 n15] (ifT (!b16)
 (Q [.one (.bool false)])
 (ifT (decide (n0 = 6))
 (Q [.one (.bool true)])
 (ifT (decide (n0 = 7))
 (fun h19 =>
 ∃ n20 : Int, ∃ s21 : ByteArray, ∃ n22 : Int, (h19.read i17 0 3 = some [.int .i64 n20, .str s21, .int .i64 n22]) ∧
 (((0 : Int) ≤ (0 : Int)) ∧
 0 < (↑l4.len : Int)) ∧
 (derefK l4.a (fun i23 => fun i24 h25 =>
 ∃ n26 : Int, ∃ s27 : ByteArray, ∃ n28 : Int, (h25.read i23 (i24 + 0) 3 = some [.int .i64 n26, .str s27, .int .i64 n28]) ∧
 I 120 [.agg [.int .i64 n20, .str s21, .int .i64 n22], .one (.str s3), .agg [.int .i64 n26, .str s27, .int .i64 n28]]
 (fun cs29 h30 =>
 ∃ b31 : Bool, (cs29 = [.one (.bool b31)]) ∧
 Q [.one (.bool b31)] h30) h25)) h19)
 (ifT (decide (n0 = 8))
 (fun h32 =>
 I 121 [.one (.slice 3 l4), .one (.func (some (122, [(i17, 0)])))]
 (fun cs33 h34 =>
 ∃ b35 : Bool, (cs33 = [.one (.bool b35)]) ∧
 Q [.one (.bool b35)] h34) h32)
 (ifT (decide (n0 = 9))
 (joinK (A := Bool)
 (fun b36 h37 =>
 Q [.one (.bool b36)] h37)
 (fun x38 h39 =>
 ∃ n40 : Int, (h39.read i17 0 1 = some [.int .i64 n40]) ∧
 (ifT (decide (n40 = 1))
 (fun h41 =>
 ∃ s42 : ByteArray, (h41.read i17 1 1 = some [.str s42]) ∧
 (((0 : Int) ≤ (0 : Int)) ∧
 0 < (↑l4.len : Int)) ∧
 (derefK l4.a (fun i43 => fun i44 h45 =>
 ∃ s46 : ByteArray, (h45.read i43 (i44 + 0 + 1) 1 = some [.str s46]) ∧
 I 32 [.one (.str s42), .one (.str s46)]
 (fun cs47 h48 =>
 ∃ b49 : Bool, (cs47 = [.one (.bool b49)]) ∧
 x38 b49 h48) h45)) h41)
 (x38 false)) h39))
 (fun h50 =>
 ∃ n51 : Int, (h50.read i17 0 1 = some [.int .i64 n51]) ∧
 (ifT (decide (n51 = 1))
 (fun h52 =>
 ∃ s53 : ByteArray, (h52.read i17 1 1 = some [.str s53]) ∧
 (((0 : Int) ≤ (0 : Int)) ∧
 0 < (↑l4.len : Int)) ∧
 (derefK l4.a (fun i54 => fun i55 h56 =>
 ∃ s57 : ByteArray, (h56.read i54 (i55 + 0 + 1) 1 = some [.str s57]) ∧
 I 51 [.one (.str s53), .one (.str s57)]
 (fun cs58 h59 =>
 ∃ b60 : Bool, (cs58 = [.one (.bool b60)]) ∧
 Q [.one (.bool b60)] h59) h56)) h52)
 (Q [.one (.bool false)])) h50))))))) h18)) h12) h10
theorem den94 (I : FuncId → List V → Post → T) (n0 : Int) (s1 : ByteArray) (s2 : ByteArray) (s3 : ByteArray) (l4 : Sl) (l5 : Sl) (n6 : Int) (n7 : Int) (l8 : Sl) (l9 : Sl) (Q : Post) : denF Go.Proofs.Tryz.prog 4 (⟨[(62972, 2251524935778320, [(4, tk Go.Proofs.Tryz.prog 4)])], []⟩) I 94 [V.agg [Cell.int IntKind.i64 n0, Cell.str s1, Cell.str s2, Cell.str s3, Cell.slice 3 l4, Cell.slice 5 l5, Cell.int IntKind.i64 n6, Cell.int IntKind.i64 n7, Cell.slice 9 l8], V.one (Cell.slice 4 l9)] Q = vc94 I n0 s1 s2 s3 l4 l5 n6 n7 l8 l9 Q := by kernel_rfl
/-- handbill/person.Find -/
def vc98 (I : FuncId → List V → Post → T) (l0 : Sl) (s1 : ByteArray) (Q : Post) : T :=
 fun h2 =>
 I 123 [.one (.slice 4 l0), .one (.str s1), .one (.func (some (124, [])))]
 (fun cs3 h4 =>
 ∃ n5 : Int, ∃ b6 : Bool, (cs3 = [.one (.int .i64 n5), .one (.bool b6)]) ∧
 (ifT (!b6)
 (fun h7 =>
 Q [.agg [.int .i64 0, .str ByteArray.empty, .int .i64 0], .one (.bool false)] h7)
 (fun h8 =>
 ((0 ≤ n5) ∧
 n5 < (↑l0.len : Int)) ∧
 (derefK l0.a (fun i9 => fun i10 h11 =>
 ∃ n12 : Int, ∃ s13 : ByteArray, ∃ n14 : Int, (h11.read i9 (i10 + n5.toNat * 4 + 1) 3 = some [.int .i64 n12, .str s13, .int .i64 n14]) ∧
 Q [.agg [.int .i64 n12, .str s13, .int .i64 n14], .one (.bool true)] h11)) h8)) h4) h2
theorem den98 (I : FuncId → List V → Post → T) (l0 : Sl) (s1 : ByteArray) (Q : Post) : denF Go.Proofs.Tryz.prog 16 (⟨[], []⟩) I 98 [V.one (Cell.slice 4 l0), V.one (Cell.str s1)] Q = vc98 I l0 s1 Q := by kernel_rfl
/-- slices.BinarySearchFunc[[]handbill/api.Field,handbill/api.Field,string] -/
def vc123 (I : FuncId → List V → Post → T) (l0 : Sl) (s1 : ByteArray) (p2 : Option (Nat × List (Nat × Nat))) (Q : Post) : T :=
 loopK (A := Int × Int) ((0, (↑l0.len : Int)))
 (fun x3 => uncur fun n4 n5 => ifT (decide (n4 < n5))
 (fun h6 =>
 ((0 ≤ IntKind.i64.wrap (shr IntKind.u64 (IntKind.u64.wrap (IntKind.i64.wrap (n4 + n5))) 1)) ∧
 IntKind.i64.wrap (shr IntKind.u64 (IntKind.u64.wrap (IntKind.i64.wrap (n4 + n5))) 1) < (↑l0.len : Int)) ∧
 (derefK l0.a (fun i7 => fun i8 h9 =>
 ∃ s10 : ByteArray, ∃ n11 : Int, ∃ s12 : ByteArray, ∃ n13 : Int, (h9.read i7 (i8 + (IntKind.i64.wrap (shr IntKind.u64 (IntKind.u64.wrap (IntKind.i64.wrap (n4 + n5))) 1)).toNat * 4) 4 = some [.str s10, .int .i64 n11, .str s12, .int .i64 n13]) ∧
 (funK p2 (fun i14 => fun cs15 h16 =>
 I i14 (.agg [.str s10, .int .i64 n11, .str s12, .int .i64 n13] :: .one (.str s1) :: cs15)
 (fun cs17 h18 =>
 ∃ n19 : Int, (cs17 = [.one (.int .i64 n19)]) ∧
 (ifT (decide (n19 < 0))
 (x3 ((IntKind.i64.wrap (IntKind.i64.wrap (shr IntKind.u64 (IntKind.u64.wrap (IntKind.i64.wrap (n4 + n5))) 1) + 1), n5)))
 (x3 ((n4, IntKind.i64.wrap (shr IntKind.u64 (IntKind.u64.wrap (IntKind.i64.wrap (n4 + n5))) 1))))) h18) h16)) h9)) h6)
 (ifT (decide (n4 < (↑l0.len : Int)))
 (fun h20 =>
 ((0 ≤ n4) ∧
 n4 < (↑l0.len : Int)) ∧
 (derefK l0.a (fun i21 => fun i22 h23 =>
 ∃ s24 : ByteArray, ∃ n25 : Int, ∃ s26 : ByteArray, ∃ n27 : Int, (h23.read i21 (i22 + n4.toNat * 4) 4 = some [.str s24, .int .i64 n25, .str s26, .int .i64 n27]) ∧
 (funK p2 (fun i28 => fun cs29 h30 =>
 I i28 (.agg [.str s24, .int .i64 n25, .str s26, .int .i64 n27] :: .one (.str s1) :: cs29)
 (fun cs31 h32 =>
 ∃ n33 : Int, (cs31 = [.one (.int .i64 n33)]) ∧
 Q [.one (.int .i64 n4), .one (.bool (decide (n33 = 0)))] h32) h30)) h23)) h20)
 (Q [.one (.int .i64 n4), .one (.bool false)])))
theorem den123 (I : FuncId → List V → Post → T) (l0 : Sl) (s1 : ByteArray) (p2 : Option (Nat × List (Nat × Nat))) (Q : Post) : denF Go.Proofs.Tryz.prog 0 (⟨[], [(60, 34359709184, [(9, tk Go.Proofs.Tryz.prog 3), (10, tk Go.Proofs.Tryz.prog 3)])]⟩) I 123 [V.one (Cell.slice 4 l0), V.one (Cell.str s1), V.one (Cell.func p2)] Q = vc123 I l0 s1 p2 Q := by kernel_rfl
/-- handbill/person.Find$1 -/
def vc124 (I : FuncId → List V → Post → T) (s0 : ByteArray) (n1 : Int) (s2 : ByteArray) (n3 : Int) (s4 : ByteArray) (Q : Post) : T :=
 fun h5 =>
 I 125 [.one (.str s0), .one (.str s4)]
 (fun cs6 h7 =>
 ∃ n8 : Int, (cs6 = [.one (.int .i64 n8)]) ∧
 Q [.one (.int .i64 n8)] h7) h5
theorem den124 (I : FuncId → List V → Post → T) (s0 : ByteArray) (n1 : Int) (s2 : ByteArray) (n3 : Int) (s4 : ByteArray) (Q : Post) : denF Go.Proofs.Tryz.prog 4 (⟨[], []⟩) I 124 [V.agg [Cell.str s0, Cell.int IntKind.i64 n1, Cell.str s2, Cell.int IntKind.i64 n3], V.one (Cell.str s4)] Q = vc124 I s0 n1 s2 n3 s4 Q := by kernel_rfl
/-- handbill/segment.compares -/
def vc120 (I : FuncId → List V → Post → T) (n0 : Int) (s1 : ByteArray) (n2 : Int) (s3 : ByteArray) (n4 : Int) (s5 : ByteArray) (n6 : Int) (Q : Post) : T :=
 ifT (decide (n0 = n4))
 (fun h7 =>
 I 125 [.one (.str s1), .one (.str s5)]
 (fun cs8 h9 =>
 ∃ n10 : Int, (cs8 = [.one (.int .i64 n10)]) ∧
 I 129 [.one (.int .i64 n2), .one (.int .i64 n6)]
 (fun cs11 h12 =>
 ∃ n13 : Int, (cs11 = [.one (.int .i64 n13)]) ∧
 (newK (.cells false [.int .i64 n10, .int .i64 n13]) (fun i14 h15 =>
 I 143 [.one (.slice 1 { a := some (i14, 0), len := 2 })]
 (fun cs16 h17 =>
 ∃ n18 : Int, (cs16 = [.one (.int .i64 n18)]) ∧
 I 128 [.one (.str s3), .one (.int .i64 n18)]
 (fun cs19 h20 =>
 ∃ b21 : Bool, (cs19 = [.one (.bool b21)]) ∧
 Q [.one (.bool b21)] h20) h17) h15)) h12) h9) h7)
 (Q [.one (.bool false)])
theorem den120 (I : FuncId → List V → Post → T) (n0 : Int) (s1 : ByteArray) (n2 : Int) (s3 : ByteArray) (n4 : Int) (s5 : ByteArray) (n6 : Int) (Q : Post) : denF Go.Proofs.Tryz.prog 40 (⟨[], []⟩) I 120 [V.agg [Cell.int IntKind.i64 n0, Cell.str s1, Cell.int IntKind.i64 n2], V.one (Cell.str s3), V.agg [Cell.int IntKind.i64 n4, Cell.str s5, Cell.int IntKind.i64 n6]] Q = vc120 I n0 s1 n2 s3 n4 s5 n6 Q := by kernel_rfl
/-- handbill/segment.holds -/
def vc128 (I : FuncId → List V → Post → T) (s0 : ByteArray) (n1 : Int) (Q : Post) : T :=
 ifT (decide (s0 = { data := #[61] }))
 (Q [.one (.bool (decide (n1 = 0)))])
 (ifT (decide (s0 = { data := #[33, 61] }))
 (Q [.one (.bool (!decide (n1 = 0)))])
 (ifT (decide (s0 = { data := #[60] }))
 (Q [.one (.bool (decide (n1 < 0)))])
 (ifT (decide (s0 = { data := #[60, 61] }))
 (Q [.one (.bool (decide (n1 ≤ 0)))])
 (ifT (decide (s0 = { data := #[62] }))
 (Q [.one (.bool (decide (n1 > 0)))])
 (Q [.one (.bool (decide (n1 ≥ 0)))])))))
theorem den128 (I : FuncId → List V → Post → T) (s0 : ByteArray) (n1 : Int) (Q : Post) : denF Go.Proofs.Tryz.prog 0 (⟨[], []⟩) I 128 [V.one (Cell.str s0), V.one (Cell.int IntKind.i64 n1)] Q = vc128 I s0 n1 Q := by kernel_rfl
/-- slices.ContainsFunc[[]handbill/api.Value,handbill/api.Value] -/
def vc121 (I : FuncId → List V → Post → T) (l0 : Sl) (p1 : Option (Nat × List (Nat × Nat))) (Q : Post) : T :=
 fun h2 =>
 I 144 [.one (.slice 3 l0), .one (.func p1)]
 (fun cs3 h4 =>
 ∃ n5 : Int, (cs3 = [.one (.int .i64 n5)]) ∧
 Q [.one (.bool (decide (n5 ≥ 0)))] h4) h2
theorem den121 (I : FuncId → List V → Post → T) (l0 : Sl) (p1 : Option (Nat × List (Nat × Nat))) (Q : Post) : denF Go.Proofs.Tryz.prog 0 (⟨[], []⟩) I 121 [V.one (Cell.slice 3 l0), V.one (Cell.func p1)] Q = vc121 I l0 p1 Q := by kernel_rfl
/-- slices.IndexFunc[[]handbill/api.Value,handbill/api.Value] -/
def vc144 (I : FuncId → List V → Post → T) (l0 : Sl) (p1 : Option (Nat × List (Nat × Nat))) (Q : Post) : T :=
 loopK (A := Int) 0
 (fun x2 n3 => ifT (decide (n3 < (↑l0.len : Int)))
 (fun h4 =>
 ((0 ≤ n3) ∧
 n3 < (↑l0.len : Int)) ∧
 (derefK l0.a (fun i5 => fun i6 h7 =>
 ∃ n8 : Int, ∃ s9 : ByteArray, ∃ n10 : Int, (h7.read i5 (i6 + n3.toNat * 3) 3 = some [.int .i64 n8, .str s9, .int .i64 n10]) ∧
 (funK p1 (fun i11 => fun cs12 h13 =>
 I i11 (.agg [.int .i64 n8, .str s9, .int .i64 n10] :: cs12)
 (fun cs14 h15 =>
 ∃ b16 : Bool, (cs14 = [.one (.bool b16)]) ∧
 (ifT b16
 (Q [.one (.int .i64 n3)])
 (x2 (IntKind.i64.wrap (n3 + 1)))) h15) h13)) h7)) h4)
 (Q [.one (.int .i64 (-1))]))
theorem den144 (I : FuncId → List V → Post → T) (l0 : Sl) (p1 : Option (Nat × List (Nat × Nat))) (Q : Post) : denF Go.Proofs.Tryz.prog 0 (⟨[], [(26, 524080, [(8, tk Go.Proofs.Tryz.prog 3)])]⟩) I 144 [V.one (Cell.slice 3 l0), V.one (Cell.func p1)] Q = vc144 I l0 p1 Q := by kernel_rfl
/-- handbill/segment.ofField$1 -/
def vc122 (I : FuncId → List V → Post → T) (n0 : Int) (s1 : ByteArray) (n2 : Int) (i3 : Nat) (i4 : Nat) (Q : Post) : T :=
 fun h5 =>
 ∃ n6 : Int, ∃ s7 : ByteArray, ∃ n8 : Int, (h5.read i3 i4 3 = some [.int .i64 n6, .str s7, .int .i64 n8]) ∧
 I 120 [.agg [.int .i64 n6, .str s7, .int .i64 n8], .one (.str { data := #[61] }), .agg [.int .i64 n0, .str s1, .int .i64 n2]]
 (fun cs9 h10 =>
 ∃ b11 : Bool, (cs9 = [.one (.bool b11)]) ∧
 Q [.one (.bool b11)] h10) h5
theorem den122 (I : FuncId → List V → Post → T) (n0 : Int) (s1 : ByteArray) (n2 : Int) (i3 : Nat) (i4 : Nat) (Q : Post) : denF Go.Proofs.Tryz.prog 4 (⟨[], []⟩) I 122 [V.agg [Cell.int IntKind.i64 n0, Cell.str s1, Cell.int IntKind.i64 n2], V.one (Cell.ptr (some (i3, i4)))] Q = vc122 I n0 s1 n2 i3 i4 Q := by kernel_rfl
/-- handbill/segment.firstThen -/
def vc95 (I : FuncId → List V → Post → T) (n0 : Int) (s1 : ByteArray) (s2 : ByteArray) (s3 : ByteArray) (l4 : Sl) (l5 : Sl) (n6 : Int) (n7 : Int) (l8 : Sl) (l9 : Sl) (Q : Post) : T :=
 loopK (A := Int × Int) ((-1, 0))
 (fun x10 => uncur fun n11 n12 => ifT (decide (n12 < (↑l9.len : Int)))
 (fun h13 =>
 ((0 ≤ n12) ∧
 n12 < (↑l9.len : Int)) ∧
 (derefK l9.a (fun i14 => fun i15 h16 =>
 ∃ s17 : ByteArray, ∃ s18 : ByteArray, ∃ n19 : Int, ∃ n20 : Int, ∃ s21 : ByteArray, ∃ l22 : Sl, (h16.read i14 (i15 + n12.toNat * 6) 6 = some [.str s17, .str s18, .int .i64 n19, .int .i64 n20, .str s21, .slice 4 l22]) ∧
 (ifT (decide (s18 = s2))
 (ifT (decide (n11 ≥ 0))
 (ifT (decide (n6 = 0))
 (Q [.one (.int .i64 n19)])
 (ifT (decide (IntKind.i64.wrap (n19 - n11) ≤ n6))
 (Q [.one (.int .i64 n19)])
 (ifT (decide (s18 = s1))
 (x10 ((n19, IntKind.i64.wrap (n12 + 1))))
 (x10 ((n11, IntKind.i64.wrap (n12 + 1)))))))
 (ifT (decide (s18 = s1))
 (x10 ((n19, IntKind.i64.wrap (n12 + 1))))
 (x10 ((n11, IntKind.i64.wrap (n12 + 1))))))
 (ifT (decide (s18 = s1))
 (x10 ((n19, IntKind.i64.wrap (n12 + 1))))
 (x10 ((n11, IntKind.i64.wrap (n12 + 1)))))) h16)) h13)
 (Q [.one (.int .i64 4321440)]))
theorem den95 (I : FuncId → List V → Post → T) (n0 : Int) (s1 : ByteArray) (s2 : ByteArray) (s3 : ByteArray) (l4 : Sl) (l5 : Sl) (n6 : Int) (n7 : Int) (l8 : Sl) (l9 : Sl) (Q : Post) : denF Go.Proofs.Tryz.prog 132 (⟨[], [(58, 140737488354480, [(5, tk Go.Proofs.Tryz.prog 3), (10, tk Go.Proofs.Tryz.prog 3)])]⟩) I 95 [V.agg [Cell.int IntKind.i64 n0, Cell.str s1, Cell.str s2, Cell.str s3, Cell.slice 3 l4, Cell.slice 5 l5, Cell.int IntKind.i64 n6, Cell.int IntKind.i64 n7, Cell.slice 9 l8], V.one (Cell.slice 6 l9)] Q = vc95 I n0 s1 s2 s3 l4 l5 n6 n7 l8 l9 Q := by kernel_rfl
/-- handbill/segment.ofEvents -/
def vc96 (I : FuncId → List V → Post → T) (n0 : Int) (s1 : ByteArray) (s2 : ByteArray) (s3 : ByteArray) (l4 : Sl) (l5 : Sl) (n6 : Int) (n7 : Int) (l8 : Sl) (Q : Post) : T :=
 fun h9 =>
 I 48 [.one (.int .i64 n0), .one (.int .i64 11), .one (.int .i64 14)]
 (fun cs10 h11 =>
 ∃ b12 : Bool, (cs10 = [.one (.bool b12)]) ∧
 Q [.one (.bool b12)] h11) h9
theorem den96 (I : FuncId → List V → Post → T) (n0 : Int) (s1 : ByteArray) (s2 : ByteArray) (s3 : ByteArray) (l4 : Sl) (l5 : Sl) (n6 : Int) (n7 : Int) (l8 : Sl) (Q : Post) : denF Go.Proofs.Tryz.prog 2 (⟨[], []⟩) I 96 [V.agg [Cell.int IntKind.i64 n0, Cell.str s1, Cell.str s2, Cell.str s3, Cell.slice 3 l4, Cell.slice 5 l5, Cell.int IntKind.i64 n6, Cell.int IntKind.i64 n7, Cell.slice 9 l8]] Q = vc96 I n0 s1 s2 s3 l4 l5 n6 n7 l8 Q := by kernel_rfl
/-- handbill/segment.matches -/
def vc97 (I : FuncId → List V → Post → T) (s0 : ByteArray) (s1 : ByteArray) (n2 : Int) (n3 : Int) (s4 : ByteArray) (l5 : Sl) (l6 : Sl) (Q : Post) : T :=
 loopK (A := Int) 0
 (fun x7 n8 => ifT (decide (n8 < (↑l6.len : Int)))
 (fun h9 =>
 ((0 ≤ n8) ∧
 n8 < (↑l6.len : Int)) ∧
 (derefK l6.a (fun i10 => fun i11 h12 =>
 ∃ s13 : ByteArray, ∃ s14 : ByteArray, ∃ n15 : Int, ∃ s16 : ByteArray, ∃ n17 : Int, (h12.read i10 (i11 + n8.toNat * 5) 5 = some [.str s13, .str s14, .int .i64 n15, .str s16, .int .i64 n17]) ∧
 I 98 [.one (.slice 4 l5), .one (.str s13)]
 (fun cs18 h19 =>
 ∃ n20 : Int, ∃ s21 : ByteArray, ∃ n22 : Int, ∃ b23 : Bool, (cs18 = [.agg [.int .i64 n20, .str s21, .int .i64 n22], .one (.bool b23)]) ∧
 (ifT (!b23)
 (Q [.one (.bool false)])
 (fun h24 =>
 I 120 [.agg [.int .i64 n20, .str s21, .int .i64 n22], .one (.str s14), .agg [.int .i64 n15, .str s16, .int .i64 n17]]
 (fun cs25 h26 =>
 ∃ b27 : Bool, (cs25 = [.one (.bool b27)]) ∧
 (ifT (!b27)
 (Q [.one (.bool false)])
 (x7 (IntKind.i64.wrap (n8 + 1)))) h26) h24)) h19) h12)) h9)
 (Q [.one (.bool true)]))
theorem den97 (I : FuncId → List V → Post → T) (s0 : ByteArray) (s1 : ByteArray) (n2 : Int) (n3 : Int) (s4 : ByteArray) (l5 : Sl) (l6 : Sl) (Q : Post) : denF Go.Proofs.Tryz.prog 196 (⟨[], [(26, 34359736784, [(11, tk Go.Proofs.Tryz.prog 3)])]⟩) I 97 [V.agg [Cell.str s0, Cell.str s1, Cell.int IntKind.i64 n2, Cell.int IntKind.i64 n3, Cell.str s4, Cell.slice 4 l5], V.one (Cell.slice 5 l6)] Q = vc97 I s0 s1 n2 n3 s4 l5 l6 Q := by kernel_rfl
/-- (*handbill/segment.node).at -/
def vc67 (I : FuncId → List V → Post → T) (p0 : Option (Nat × Nat)) (n1 : Int) (Q : Post) : T :=
 fun h2 =>
 (newK (.cells false [.int .i64 n1]) (fun i3 => derefK p0 (fun i4 => fun i5 h6 =>
 ∃ n7 : Int, (h6.read i4 (i5 + 0 + 0) 1 = some [.int .i64 n7]) ∧
 (ifT (decide (n7 = 1))
 (Q [.one (.bool true)])
 (ifT (decide (n7 = 2))
 (Q [.one (.bool false)])
 (ifT (decide (n7 = 3))
 (derefK p0 (fun i8 => fun i9 h10 =>
 ∃ l11 : Sl, (h10.read i8 (i9 + 9) 1 = some [.slice 1 l11]) ∧
 I 99 [.one (.slice 1 l11), .one (.func (some (100, [(i3, 0)])))]
 (fun cs12 h13 =>
 ∃ b14 : Bool, (cs12 = [.one (.bool b14)]) ∧
 Q [.one (.bool !b14)] h13) h10))
 (ifT (decide (n7 = 4))
 (derefK p0 (fun i15 => fun i16 h17 =>
 ∃ l18 : Sl, (h17.read i15 (i16 + 9) 1 = some [.slice 1 l18]) ∧
 I 99 [.one (.slice 1 l18), .one (.func (some (101, [(i3, 0)])))]
 (fun cs19 h20 =>
 ∃ b21 : Bool, (cs19 = [.one (.bool b21)]) ∧
 Q [.one (.bool b21)] h20) h17))
 (ifT (decide (n7 = 5))
 (derefK p0 (fun i22 => fun i23 h24 =>
 ∃ l25 : Sl, (h24.read i22 (i23 + 9) 1 = some [.slice 1 l25]) ∧
 (((0 : Int) ≤ (0 : Int)) ∧
 0 < (↑l25.len : Int)) ∧
 (derefK l25.a (fun i26 => fun i27 h28 =>
 ∃ p29 : Option (Nat × Nat), (h28.read i26 (i27 + 0) 1 = some [.ptr p29]) ∧
 ∃ n30 : Int, (h28.read i3 0 1 = some [.int .i64 n30]) ∧
 I 67 [.one (.ptr p29), .one (.int .i64 n30)]
 (fun cs31 h32 =>
 ∃ b33 : Bool, (cs31 = [.one (.bool b33)]) ∧
 Q [.one (.bool !b33)] h32) h28)) h24))
 (ifT (decide (n7 = 14))
 (fun h34 =>
 ∃ n35 : Int, (h34.read i3 0 1 = some [.int .i64 n35]) ∧
 (derefK p0 (fun i36 => fun i37 h38 =>
 ∃ n39 : Int, (h38.read i36 (i37 + 13) 1 = some [.int .i64 n39]) ∧
 Q [.one (.bool (decide (n35 ≥ n39)))] h38)) h34)
 (joinK (A := Bool)
 (fun b40 => ifT b40
 (fun h41 =>
 ∃ n42 : Int, (h41.read i3 0 1 = some [.int .i64 n42]) ∧
 I 102 [.one (.ptr p0), .one (.int .i64 n42)]
 (fun cs43 h44 =>
 ∃ b45 : Bool, (cs43 = [.one (.bool b45)]) ∧
 Q [.one (.bool b45)] h44) h41)
 (derefK p0 (fun i46 => fun i47 h48 =>
 ∃ b49 : Bool, (h48.read i46 (i47 + 10) 1 = some [.bool b49]) ∧
 Q [.one (.bool b49)] h48)))
 (fun x50 => ifT (decide (n7 = 11))
 (x50 (decide (n7 = 11)))
 (joinK (A := Bool)
 (fun b51 h52 =>
 x50 b51 h52)
 (fun x53 => ifT (decide (n7 = 12))
 (x53 (decide (n7 = 12)))
 (x53 (decide (n7 = 13))))))))))))) h6))) h2
theorem den67 (I : FuncId → List V → Post → T) (p0 : Option (Nat × Nat)) (n1 : Int) (Q : Post) : denF Go.Proofs.Tryz.prog 0 (⟨[(442365, 14636698788954112, [(50, tk Go.Proofs.Tryz.prog 4)]), (1769463, 10133099161583616, [(50, tk Go.Proofs.Tryz.prog 4)])], []⟩) I 67 [V.one (Cell.ptr p0), V.one (Cell.int IntKind.i64 n1)] Q = vc67 I p0 n1 Q := by kernel_rfl
/-- slices.ContainsFunc[[]*handbill/segment.node,*handbill/segment.node] -/
def vc99 (I : FuncId → List V → Post → T) (l0 : Sl) (p1 : Option (Nat × List (Nat × Nat))) (Q : Post) : T :=
 fun h2 =>
 I 126 [.one (.slice 1 l0), .one (.func p1)]
 (fun cs3 h4 =>
 ∃ n5 : Int, (cs3 = [.one (.int .i64 n5)]) ∧
 Q [.one (.bool (decide (n5 ≥ 0)))] h4) h2
theorem den99 (I : FuncId → List V → Post → T) (l0 : Sl) (p1 : Option (Nat × List (Nat × Nat))) (Q : Post) : denF Go.Proofs.Tryz.prog 0 (⟨[], []⟩) I 99 [V.one (Cell.slice 1 l0), V.one (Cell.func p1)] Q = vc99 I l0 p1 Q := by kernel_rfl
/-- slices.IndexFunc[[]*handbill/segment.node,*handbill/segment.node] -/
def vc126 (I : FuncId → List V → Post → T) (l0 : Sl) (p1 : Option (Nat × List (Nat × Nat))) (Q : Post) : T :=
 loopK (A := Int) 0
 (fun x2 n3 => ifT (decide (n3 < (↑l0.len : Int)))
 (fun h4 =>
 ((0 ≤ n3) ∧
 n3 < (↑l0.len : Int)) ∧
 (derefK l0.a (fun i5 => fun i6 h7 =>
 ∃ p8 : Option (Nat × Nat), (h7.read i5 (i6 + n3.toNat * 1) 1 = some [.ptr p8]) ∧
 (funK p1 (fun i9 => fun cs10 h11 =>
 I i9 (.one (.ptr p8) :: cs10)
 (fun cs12 h13 =>
 ∃ b14 : Bool, (cs12 = [.one (.bool b14)]) ∧
 (ifT b14
 (Q [.one (.int .i64 n3)])
 (x2 (IntKind.i64.wrap (n3 + 1)))) h13) h11)) h7)) h4)
 (Q [.one (.int .i64 (-1))]))
theorem den126 (I : FuncId → List V → Post → T) (l0 : Sl) (p1 : Option (Nat × List (Nat × Nat))) (Q : Post) : denF Go.Proofs.Tryz.prog 0 (⟨[], [(26, 524080, [(8, tk Go.Proofs.Tryz.prog 3)])]⟩) I 126 [V.one (Cell.slice 1 l0), V.one (Cell.func p1)] Q = vc126 I l0 p1 Q := by kernel_rfl
/-- (*handbill/segment.node).at$1 -/
def vc100 (I : FuncId → List V → Post → T) (p0 : Option (Nat × Nat)) (i1 : Nat) (i2 : Nat) (Q : Post) : T :=
 fun h3 =>
 ∃ n4 : Int, (h3.read i1 i2 1 = some [.int .i64 n4]) ∧
 I 67 [.one (.ptr p0), .one (.int .i64 n4)]
 (fun cs5 h6 =>
 ∃ b7 : Bool, (cs5 = [.one (.bool b7)]) ∧
 Q [.one (.bool !b7)] h6) h3
theorem den100 (I : FuncId → List V → Post → T) (p0 : Option (Nat × Nat)) (i1 : Nat) (i2 : Nat) (Q : Post) : denF Go.Proofs.Tryz.prog 0 (⟨[], []⟩) I 100 [V.one (Cell.ptr p0), V.one (Cell.ptr (some (i1, i2)))] Q = vc100 I p0 i1 i2 Q := by kernel_rfl
/-- (*handbill/segment.node).at$2 -/
def vc101 (I : FuncId → List V → Post → T) (p0 : Option (Nat × Nat)) (i1 : Nat) (i2 : Nat) (Q : Post) : T :=
 fun h3 =>
 ∃ n4 : Int, (h3.read i1 i2 1 = some [.int .i64 n4]) ∧
 I 67 [.one (.ptr p0), .one (.int .i64 n4)]
 (fun cs5 h6 =>
 ∃ b7 : Bool, (cs5 = [.one (.bool b7)]) ∧
 Q [.one (.bool b7)] h6) h3
theorem den101 (I : FuncId → List V → Post → T) (p0 : Option (Nat × Nat)) (i1 : Nat) (i2 : Nat) (Q : Post) : denF Go.Proofs.Tryz.prog 0 (⟨[], []⟩) I 101 [V.one (Cell.ptr p0), V.one (Cell.ptr (some (i1, i2)))] Q = vc101 I p0 i1 i2 Q := by kernel_rfl
/-- (*handbill/segment.node).test -/
def vc102 (I : FuncId → List V → Post → T) (p0 : Option (Nat × Nat)) (n1 : Int) (Q : Post) : T :=
 fun h2 =>
 I 127 [.one (.ptr p0), .one (.int .i64 n1)]
 (fun cs3 h4 =>
 ∃ n5 : Int, (cs3 = [.one (.int .i64 n5)]) ∧
 (derefK p0 (fun i6 => fun i7 h8 =>
 ∃ n9 : Int, (h8.read i6 (i7 + 0 + 6) 1 = some [.int .i64 n9]) ∧
 (joinK (A := Int)
 (fun n10 => derefK p0 (fun i11 => fun i12 h13 =>
 ∃ n14 : Int, (h13.read i11 (i12 + 0 + 0) 1 = some [.int .i64 n14]) ∧
 (ifT (decide (n14 = 11))
 (derefK p0 (fun i15 => fun i16 h17 =>
 ∃ s18 : ByteArray, (h17.read i15 (i16 + 0 + 3) 1 = some [.str s18]) ∧
 (derefK p0 (fun i19 => fun i20 h21 =>
 ∃ n22 : Int, (h21.read i19 (i20 + 0 + 7) 1 = some [.int .i64 n22]) ∧
 I 129 [.one (.int .i64 (IntKind.i64.wrap (n5 - n10))), .one (.int .i64 n22)]
 (fun cs23 h24 =>
 (h24 i15 = h21 i15) ∧
 ∃ n25 : Int, (cs23 = [.one (.int .i64 n25)]) ∧
 I 128 [.one (.str s18), .one (.int .i64 n25)]
 (fun cs26 h27 =>
 ∃ b28 : Bool, (cs26 = [.one (.bool b28)]) ∧
 Q [.one (.bool b28)] h27) h24) h21)) h17))
 (ifT (decide (n14 = 12))
 (derefK p0 (fun i29 => fun i30 h31 =>
 ∃ s32 : ByteArray, (h31.read i29 (i30 + 0 + 3) 1 = some [.str s32]) ∧
 (derefK p0 (fun i33 => fun i34 h35 =>
 ∃ l36 : Sl, (h35.read i33 (i34 + 12) 1 = some [.slice 1 l36]) ∧
 ((0 ≤ n5) ∧
 n5 < (↑l36.len : Int)) ∧
 (derefK l36.a (fun i37 => fun i38 h39 =>
 ∃ n40 : Int, (h39.read i37 (i38 + n5.toNat * 1) 1 = some [.int .i64 n40]) ∧
 (derefK p0 (fun i41 => fun i42 h43 =>
 ∃ l44 : Sl, (h43.read i41 (i42 + 12) 1 = some [.slice 1 l44]) ∧
 ((0 ≤ n10) ∧
 n10 < (↑l44.len : Int)) ∧
 (derefK l44.a (fun i45 => fun i46 h47 =>
 ∃ n48 : Int, (h47.read i45 (i46 + n10.toNat * 1) 1 = some [.int .i64 n48]) ∧
 (derefK p0 (fun i49 => fun i50 h51 =>
 ∃ n52 : Int, (h51.read i49 (i50 + 0 + 7) 1 = some [.int .i64 n52]) ∧
 I 129 [.one (.int .i64 (IntKind.i64.wrap (n40 - n48))), .one (.int .i64 n52)]
 (fun cs53 h54 =>
 (h54 i29 = h51 i29) ∧
 ∃ n55 : Int, (cs53 = [.one (.int .i64 n55)]) ∧
 I 128 [.one (.str s32), .one (.int .i64 n55)]
 (fun cs56 h57 =>
 ∃ b58 : Bool, (cs56 = [.one (.bool b58)]) ∧
 Q [.one (.bool b58)] h57) h54) h51)) h47)) h43)) h39)) h35)) h31))
 (ifT (decide (n5 > 0))
 (derefK p0 (fun i59 => fun i60 h61 =>
 ∃ s62 : ByteArray, (h61.read i59 (i60 + 0 + 3) 1 = some [.str s62]) ∧
 (derefK p0 (fun i63 => fun i64 h65 =>
 ∃ l66 : Sl, (h65.read i63 (i64 + 11) 1 = some [.slice 1 l66]) ∧
 ((0 ≤ IntKind.i64.wrap (n5 - 1)) ∧
 IntKind.i64.wrap (n5 - 1) < (↑l66.len : Int)) ∧
 (derefK l66.a (fun i67 => fun i68 h69 =>
 ∃ n70 : Int, (h69.read i67 (i68 + (IntKind.i64.wrap (n5 - 1)).toNat * 1) 1 = some [.int .i64 n70]) ∧
 (derefK p0 (fun i71 => fun i72 h73 =>
 ∃ n74 : Int, (h73.read i71 (i72 + 0 + 7) 1 = some [.int .i64 n74]) ∧
 I 129 [.one (.int .i64 (IntKind.i64.wrap (n1 - n70))), .one (.int .i64 n74)]
 (fun cs75 h76 =>
 (h76 i59 = h73 i59) ∧
 ∃ n77 : Int, (cs75 = [.one (.int .i64 n77)]) ∧
 I 128 [.one (.str s62), .one (.int .i64 n77)]
 (fun cs78 h79 =>
 ∃ b80 : Bool, (cs78 = [.one (.bool b80)]) ∧
 Q [.one (.bool b80)] h79) h76) h73)) h69)) h65)) h61))
 (Q [.one (.bool false)])))) h13))
 (fun x81 => ifT (decide (n9 > 0))
 (derefK p0 (fun i82 => fun i83 h84 =>
 ∃ n85 : Int, (h84.read i82 (i83 + 0 + 6) 1 = some [.int .i64 n85]) ∧
 I 127 [.one (.ptr p0), .one (.int .i64 (IntKind.i64.wrap (n1 - n85)))]
 (fun cs86 h87 =>
 ∃ n88 : Int, (cs86 = [.one (.int .i64 n88)]) ∧
 x81 n88 h87) h84))
 (x81 0))) h8)) h4) h2
theorem den102 (I : FuncId → List V → Post → T) (p0 : Option (Nat × Nat)) (n1 : Int) (Q : Post) : denF Go.Proofs.Tryz.prog 0 (⟨[(29, 33488960, [(6, tk Go.Proofs.Tryz.prog 3)])], []⟩) I 102 [V.one (Cell.ptr p0), V.one (Cell.int IntKind.i64 n1)] Q = vc102 I p0 n1 Q := by kernel_rfl
/-- (*handbill/segment.node).before -/
def vc127 (I : FuncId → List V → Post → T) (p0 : Option (Nat × Nat)) (n1 : Int) (Q : Post) : T :=
 derefK p0 (fun i2 => fun i3 h4 =>
 ∃ l5 : Sl, (h4.read i2 (i3 + 11) 1 = some [.slice 1 l5]) ∧
 I 146 [.one (.slice 1 l5), .one (.int .i64 (IntKind.i64.wrap (n1 + 1)))]
 (fun cs6 h7 =>
 ∃ n8 : Int, (cs6 = [.one (.int .i64 n8)]) ∧
 Q [.one (.int .i64 n8)] h7) h4)
theorem den127 (I : FuncId → List V → Post → T) (p0 : Option (Nat × Nat)) (n1 : Int) (Q : Post) : denF Go.Proofs.Tryz.prog 0 (⟨[], []⟩) I 127 [V.one (Cell.ptr p0), V.one (Cell.int IntKind.i64 n1)] Q = vc127 I p0 n1 Q := by kernel_rfl
/-- sort.SearchInts -/
def vc146 (I : FuncId → List V → Post → T) (l0 : Sl) (n1 : Int) (Q : Post) : T :=
 fun h2 =>
 (newK (.cells false [.slice 1 l0]) (fun i3 h4 =>
 (newK (.cells false [.int .i64 n1]) (fun i5 h6 =>
 ∃ l7 : Sl, (h6.read i3 0 1 = some [.slice 1 l7]) ∧
 I 157 [.one (.int .i64 (↑l7.len : Int)), .one (.func (some (158, [(i3, 0), (i5, 0)])))]
 (fun cs8 h9 =>
 ∃ n10 : Int, (cs8 = [.one (.int .i64 n10)]) ∧
 Q [.one (.int .i64 n10)] h9) h6)) h4)) h2
theorem den146 (I : FuncId → List V → Post → T) (l0 : Sl) (n1 : Int) (Q : Post) : denF Go.Proofs.Tryz.prog 0 (⟨[], []⟩) I 146 [V.one (Cell.slice 1 l0), V.one (Cell.int IntKind.i64 n1)] Q = vc146 I l0 n1 Q := by kernel_rfl
/-- sort.Search -/
def vc157 (I : FuncId → List V → Post → T) (n0 : Int) (p1 : Option (Nat × List (Nat × Nat))) (Q : Post) : T :=
 loopK (A := Int × Int) ((0, n0))
 (fun x2 => uncur fun n3 n4 => ifT (decide (n3 < n4))
 (fun h5 =>
 (funK p1 (fun i6 => fun cs7 h8 =>
 I i6 (.one (.int .i64 (IntKind.i64.wrap (shr IntKind.u64 (IntKind.u64.wrap (IntKind.i64.wrap (n3 + n4))) 1))) :: cs7)
 (fun cs9 h10 =>
 ∃ b11 : Bool, (cs9 = [.one (.bool b11)]) ∧
 (ifT (!b11)
 (x2 ((IntKind.i64.wrap (IntKind.i64.wrap (shr IntKind.u64 (IntKind.u64.wrap (IntKind.i64.wrap (n3 + n4))) 1) + 1), n4)))
 (x2 ((n3, IntKind.i64.wrap (shr IntKind.u64 (IntKind.u64.wrap (IntKind.i64.wrap (n3 + n4))) 1))))) h10) h8)) h5)
 (Q [.one (.int .i64 n3)]))
theorem den157 (I : FuncId → List V → Post → T) (n0 : Int) (p1 : Option (Nat × List (Nat × Nat))) (Q : Post) : denF Go.Proofs.Tryz.prog 0 (⟨[], [(28, 33554144, [(5, tk Go.Proofs.Tryz.prog 3), (6, tk Go.Proofs.Tryz.prog 3)])]⟩) I 157 [V.one (Cell.int IntKind.i64 n0), V.one (Cell.func p1)] Q = vc157 I n0 p1 Q := by kernel_rfl
/-- sort.SearchInts$1 -/
def vc158 (I : FuncId → List V → Post → T) (n0 : Int) (i1 : Nat) (i2 : Nat) (i3 : Nat) (i4 : Nat) (Q : Post) : T :=
 fun h5 =>
 ∃ l6 : Sl, (h5.read i1 i2 1 = some [.slice 1 l6]) ∧
 ((0 ≤ n0) ∧
 n0 < (↑l6.len : Int)) ∧
 (derefK l6.a (fun i7 => fun i8 h9 =>
 ∃ n10 : Int, (h9.read i7 (i8 + n0.toNat * 1) 1 = some [.int .i64 n10]) ∧
 ∃ n11 : Int, (h9.read i3 i4 1 = some [.int .i64 n11]) ∧
 Q [.one (.bool (decide (n10 ≥ n11)))] h9)) h5
theorem den158 (I : FuncId → List V → Post → T) (n0 : Int) (i1 : Nat) (i2 : Nat) (i3 : Nat) (i4 : Nat) (Q : Post) : denF Go.Proofs.Tryz.prog 0 (⟨[], []⟩) I 158 [V.one (Cell.int IntKind.i64 n0), V.one (Cell.ptr (some (i1, i2))), V.one (Cell.ptr (some (i3, i4)))] Q = vc158 I n0 i1 i2 i3 i4 Q := by kernel_rfl
/-- slices.Clone[[]handbill/api.Cond,handbill/api.Cond] -/
def vc14 (I : FuncId → List V → Post → T) (l0 : Sl) (Q : Post) : T :=
 ifT l0.a.isNone
 (Q [.one (.slice 9 { a := none, len := 0 })])
 (fun h1 =>
 ∃ cs2 : List Cell, (h1.sl 9 l0 = some cs2) ∧
 (l0.len * 144 ≤ 140737488355328) ∧
 (newK (.cells false cs2) (fun i3 h4 =>
 Q [.one (.slice 9 { a := some (i3, 0), len := l0.len })] h4)) h1)
theorem den14 (I : FuncId → List V → Post → T) (l0 : Sl) (Q : Post) : denF Go.Proofs.Tryz.prog 0 (⟨[], []⟩) I 14 [V.one (Cell.slice 9 l0)] Q = vc14 I l0 Q := by kernel_rfl
/-- slices.Clone[[]handbill/api.Value,handbill/api.Value] -/
def vc17 (I : FuncId → List V → Post → T) (l0 : Sl) (Q : Post) : T :=
 ifT l0.a.isNone
 (Q [.one (.slice 3 { a := none, len := 0 })])
 (fun h1 =>
 ∃ cs2 : List Cell, (h1.sl 3 l0 = some cs2) ∧
 (l0.len * 32 ≤ 140737488355328) ∧
 (newK (.cells false cs2) (fun i3 h4 =>
 Q [.one (.slice 3 { a := some (i3, 0), len := l0.len })] h4)) h1)
theorem den17 (I : FuncId → List V → Post → T) (l0 : Sl) (Q : Post) : denF Go.Proofs.Tryz.prog 0 (⟨[], []⟩) I 17 [V.one (Cell.slice 3 l0)] Q = vc17 I l0 Q := by kernel_rfl
/-- slices.Clone[[]handbill/api.Where,handbill/api.Where] -/
def vc18 (I : FuncId → List V → Post → T) (l0 : Sl) (Q : Post) : T :=
 ifT l0.a.isNone
 (Q [.one (.slice 5 { a := none, len := 0 })])
 (fun h1 =>
 ∃ cs2 : List Cell, (h1.sl 5 l0 = some cs2) ∧
 (l0.len * 64 ≤ 140737488355328) ∧
 (newK (.cells false cs2) (fun i3 h4 =>
 Q [.one (.slice 5 { a := some (i3, 0), len := l0.len })] h4)) h1)
theorem den18 (I : FuncId → List V → Post → T) (l0 : Sl) (Q : Post) : denF Go.Proofs.Tryz.prog 0 (⟨[], []⟩) I 18 [V.one (Cell.slice 5 l0)] Q = vc18 I l0 Q := by kernel_rfl
/-- handbill/segment.Is -/
def vc38 (I : FuncId → List V → Post → T) (n0 : Int) (s1 : ByteArray) (s2 : ByteArray) (s3 : ByteArray) (l4 : Sl) (l5 : Sl) (n6 : Int) (n7 : Int) (l8 : Sl) (l9 : Sl) (l10 : Sl) (n11 : Int) (Q : Post) : T :=
 fun h12 =>
 I 65 [.agg [.int .i64 n0, .str s1, .str s2, .str s3, .slice 3 l4, .slice 5 l5, .int .i64 n6, .int .i64 n7, .slice 9 l8], .one (.slice 4 l9), .one (.slice 6 l10), .one (.int .i64 n11)]
 (fun cs13 h14 =>
 ∃ n15 : Int, (cs13 = [.one (.int .i64 n15)]) ∧
 (ifT (!decide (n15 = 0))
 (Q [.one (.bool false), .one (.int .i64 n15)])
 (fun h16 =>
 I 66 [.agg [.int .i64 n0, .str s1, .str s2, .str s3, .slice 3 l4, .slice 5 l5, .int .i64 n6, .int .i64 n7, .slice 9 l8], .one (.slice 4 l9), .one (.slice 6 l10)]
 (fun cs17 h18 =>
 ∃ p19 : Option (Nat × Nat), (cs17 = [.one (.ptr p19)]) ∧
 I 67 [.one (.ptr p19), .one (.int .i64 n11)]
 (fun cs20 h21 =>
 ∃ b22 : Bool, (cs20 = [.one (.bool b22)]) ∧
 Q [.one (.bool b22), .one (.int .i64 0)] h21) h18) h16)) h14) h12
theorem den38 (I : FuncId → List V → Post → T) (n0 : Int) (s1 : ByteArray) (s2 : ByteArray) (s3 : ByteArray) (l4 : Sl) (l5 : Sl) (n6 : Int) (n7 : Int) (l8 : Sl) (l9 : Sl) (l10 : Sl) (n11 : Int) (Q : Post) : denF Go.Proofs.Tryz.prog 16 (⟨[], []⟩) I 38 [V.agg [Cell.int IntKind.i64 n0, Cell.str s1, Cell.str s2, Cell.str s3, Cell.slice 3 l4, Cell.slice 5 l5, Cell.int IntKind.i64 n6, Cell.int IntKind.i64 n7, Cell.slice 9 l8], V.one (Cell.slice 4 l9), V.one (Cell.slice 6 l10), V.one (Cell.int IntKind.i64 n11)] Q = vc38 I n0 s1 s2 s3 l4 l5 n6 n7 l8 l9 l10 n11 Q := by kernel_rfl
/-- handbill/segment.Holds -/
def vc19 (I : FuncId → List V → Post → T) (s0 : ByteArray) (l1 : Sl) (l2 : Sl) (n3 : Int) (Q : Post) : T :=
 fun h4 =>
 I 37 [.one (.str s0)]
 (fun cs5 h6 =>
 ∃ n7 : Int, ∃ s8 : ByteArray, ∃ s9 : ByteArray, ∃ s10 : ByteArray, ∃ l11 : Sl, ∃ l12 : Sl, ∃ n13 : Int, ∃ n14 : Int, ∃ l15 : Sl, ∃ n16 : Int, ∃ n17 : Int, (cs5 = [.agg [.int .i64 n7, .str s8, .str s9, .str s10, .slice 3 l11, .slice 5 l12, .int .i64 n13, .int .i64 n14, .slice 9 l15], .one (.int .i64 n16), .one (.int .i64 n17)]) ∧
 (ifT (!decide (n17 = 0))
 (Q [.one (.bool false), .one (.int .i64 n17)])
 (fun h18 =>
 I 38 [.agg [.int .i64 n7, .str s8, .str s9, .str s10, .slice 3 l11, .slice 5 l12, .int .i64 n13, .int .i64 n14, .slice 9 l15], .one (.slice 4 l1), .one (.slice 6 l2), .one (.int .i64 n3)]
 (fun cs19 h20 =>
 ∃ b21 : Bool, ∃ n22 : Int, (cs19 = [.one (.bool b21), .one (.int .i64 n22)]) ∧
 Q [.one (.bool b21), .one (.int .i64 n22)] h20) h18)) h6) h4
theorem den19 (I : FuncId → List V → Post → T) (s0 : ByteArray) (l1 : Sl) (l2 : Sl) (n3 : Int) (Q : Post) : denF Go.Proofs.Tryz.prog 1024 (⟨[], []⟩) I 19 [V.one (Cell.str s0), V.one (Cell.slice 4 l1), V.one (Cell.slice 6 l2), V.one (Cell.int IntKind.i64 n3)] Q = vc19 I s0 l1 l2 n3 Q := by kernel_rfl
/-- handbill/segment.Parse -/
def vc37 (I : FuncId → List V → Post → T) (s0 : ByteArray) (Q : Post) : T :=
 fun h1 =>
 (newK (.cells false [.int .i64 0, .str ByteArray.empty, .str ByteArray.empty, .str ByteArray.empty, .slice 3 { a := none, len := 0 }, .slice 5 { a := none, len := 0 }, .int .i64 0, .int .i64 0, .slice 9 { a := none, len := 0 }]) (fun i2 h3 =>
 (newK (.cells false [.int .i64 0]) (fun i4 h5 =>
 (newK (.cells false [.int .i64 0]) (fun i6 => ifT (decide ((↑s0.size : Int) > 200000))
 (fun h7 =>
 (storeK [] i2 0 [.int .i64 0, .str ByteArray.empty, .str ByteArray.empty, .str ByteArray.empty, .slice 3 { a := none, len := 0 }, .slice 5 { a := none, len := 0 }, .int .i64 0, .int .i64 0, .slice 9 { a := none, len := 0 }] (fun h8 =>
 (storeK [] i4 0 [.int .i64 0] (fun h9 =>
 (storeK [] i6 0 [.int .i64 2] (fun h10 =>
 ∃ n11 : Int, ∃ s12 : ByteArray, ∃ s13 : ByteArray, ∃ s14 : ByteArray, ∃ l15 : Sl, ∃ l16 : Sl, ∃ n17 : Int, ∃ n18 : Int, ∃ l19 : Sl, (h10.read i2 0 9 = some [.int .i64 n11, .str s12, .str s13, .str s14, .slice 3 l15, .slice 5 l16, .int .i64 n17, .int .i64 n18, .slice 9 l19]) ∧
 ∃ n20 : Int, (h10.read i4 0 1 = some [.int .i64 n20]) ∧
 ∃ n21 : Int, (h10.read i6 0 1 = some [.int .i64 n21]) ∧
 Q [.agg [.int .i64 n11, .str s12, .str s13, .str s14, .slice 3 l15, .slice 5 l16, .int .i64 n17, .int .i64 n18, .slice 9 l19], .one (.int .i64 n20), .one (.int .i64 n21)] h10)) h9)) h8)) h7)
 (quietK Go.Proofs.Tryz.prog 61 3 (fun cs22 h23 =>
 (newK (.cells false [.str s0, .int .i64 0, .int .i64 0, .int .i64 0, .str ByteArray.empty]) (fun i24 h25 =>
 I 62 [.one (.ptr (some (i24, 0)))]
 (fun cs26 h27 =>
 (cs26 = []) ∧
 I 63 [.one (.ptr (some (i24, 0)))]
 (fun cs28 h29 =>
 ∃ n30 : Int, ∃ s31 : ByteArray, ∃ s32 : ByteArray, ∃ s33 : ByteArray, ∃ l34 : Sl, ∃ l35 : Sl, ∃ n36 : Int, ∃ n37 : Int, ∃ l38 : Sl, (cs28 = [.agg [.int .i64 n30, .str s31, .str s32, .str s33, .slice 3 l34, .slice 5 l35, .int .i64 n36, .int .i64 n37, .slice 9 l38]]) ∧
 (storeK [] i2 0 [.int .i64 n30, .str s31, .str s32, .str s33, .slice 3 l34, .slice 5 l35, .int .i64 n36, .int .i64 n37, .slice 9 l38] (fun h39 =>
 ∃ n40 : Int, (h39.read i24 2 1 = some [.int .i64 n40]) ∧
 (joinK (A := PUnit)
 (fun x41 h42 =>
 ∃ n43 : Int, ∃ s44 : ByteArray, ∃ s45 : ByteArray, ∃ s46 : ByteArray, ∃ l47 : Sl, ∃ l48 : Sl, ∃ n49 : Int, ∃ n50 : Int, ∃ l51 : Sl, (h42.read i2 0 9 = some [.int .i64 n43, .str s44, .str s45, .str s46, .slice 3 l47, .slice 5 l48, .int .i64 n49, .int .i64 n50, .slice 9 l51]) ∧
 I 8 [.agg [.int .i64 n43, .str s44, .str s45, .str s46, .slice 3 l47, .slice 5 l48, .int .i64 n49, .int .i64 n50, .slice 9 l51]]
 (fun cs52 h53 =>
 ∃ n54 : Int, (cs52 = [.one (.int .i64 n54)]) ∧
 (ifT (!decide (n54 = 0))
 (fun h55 =>
 (storeK [] i2 0 [.int .i64 0, .str ByteArray.empty, .str ByteArray.empty, .str ByteArray.empty, .slice 3 { a := none, len := 0 }, .slice 5 { a := none, len := 0 }, .int .i64 0, .int .i64 0, .slice 9 { a := none, len := 0 }] (fun h56 =>
 (storeK [] i4 0 [.int .i64 0] (fun h57 =>
 (storeK [] i6 0 [.int .i64 n54] (fun h58 =>
 ∃ n59 : Int, ∃ s60 : ByteArray, ∃ s61 : ByteArray, ∃ s62 : ByteArray, ∃ l63 : Sl, ∃ l64 : Sl, ∃ n65 : Int, ∃ n66 : Int, ∃ l67 : Sl, (h58.read i2 0 9 = some [.int .i64 n59, .str s60, .str s61, .str s62, .slice 3 l63, .slice 5 l64, .int .i64 n65, .int .i64 n66, .slice 9 l67]) ∧
 ∃ n68 : Int, (h58.read i4 0 1 = some [.int .i64 n68]) ∧
 ∃ n69 : Int, (h58.read i6 0 1 = some [.int .i64 n69]) ∧
 Q [.agg [.int .i64 n59, .str s60, .str s61, .str s62, .slice 3 l63, .slice 5 l64, .int .i64 n65, .int .i64 n66, .slice 9 l67], .one (.int .i64 n68), .one (.int .i64 n69)] h58)) h57)) h56)) h55)
 (fun h70 =>
 ∃ n71 : Int, ∃ s72 : ByteArray, ∃ s73 : ByteArray, ∃ s74 : ByteArray, ∃ l75 : Sl, ∃ l76 : Sl, ∃ n77 : Int, ∃ n78 : Int, ∃ l79 : Sl, (h70.read i2 0 9 = some [.int .i64 n71, .str s72, .str s73, .str s74, .slice 3 l75, .slice 5 l76, .int .i64 n77, .int .i64 n78, .slice 9 l79]) ∧
 (storeK [] i2 0 [.int .i64 n71, .str s72, .str s73, .str s74, .slice 3 l75, .slice 5 l76, .int .i64 n77, .int .i64 n78, .slice 9 l79] (fun h80 =>
 (storeK [] i4 0 [.int .i64 0] (fun h81 =>
 (storeK [] i6 0 [.int .i64 0] (fun h82 =>
 ∃ n83 : Int, ∃ s84 : ByteArray, ∃ s85 : ByteArray, ∃ s86 : ByteArray, ∃ l87 : Sl, ∃ l88 : Sl, ∃ n89 : Int, ∃ n90 : Int, ∃ l91 : Sl, (h82.read i2 0 9 = some [.int .i64 n83, .str s84, .str s85, .str s86, .slice 3 l87, .slice 5 l88, .int .i64 n89, .int .i64 n90, .slice 9 l91]) ∧
 ∃ n92 : Int, (h82.read i4 0 1 = some [.int .i64 n92]) ∧
 ∃ n93 : Int, (h82.read i6 0 1 = some [.int .i64 n93]) ∧
 Q [.agg [.int .i64 n83, .str s84, .str s85, .str s86, .slice 3 l87, .slice 5 l88, .int .i64 n89, .int .i64 n90, .slice 9 l91], .one (.int .i64 n92), .one (.int .i64 n93)] h82)) h81)) h80)) h70)) h53) h42)
 (fun x94 => ifT (!decide (n40 = 0))
 (fun h95 =>
 I 64 [.one (.ptr (some (i24, 0)))]
 (fun cs96 h97 =>
 (cs96 = []) ∧
 x94 () h97) h95)
 (x94 ()))) h39)) h29) h27) h25)) h23)))) h5)) h3)) h1
theorem den37 (I : FuncId → List V → Post → T) (s0 : ByteArray) (Q : Post) : denFD Go.Proofs.Tryz.prog 0 (⟨[(509, 100663296, [])], []⟩) I 37 [V.one (Cell.str s0)] Q = vc37 I s0 Q := by kernel_rfl
/-- handbill/segment.Parse$1 -/
def vc61 (I : FuncId → List V → Post → T) (i0 : Nat) (i1 : Nat) (i2 : Nat) (i3 : Nat) (i4 : Nat) (i5 : Nat) (Q : Post) : T :=
 fun h6 =>
 False
theorem den61 (I : FuncId → List V → Post → T) (i0 : Nat) (i1 : Nat) (i2 : Nat) (i3 : Nat) (i4 : Nat) (i5 : Nat) (Q : Post) : denF Go.Proofs.Tryz.prog 16 (⟨[(117, 65536, [])], []⟩) I 61 [V.one (Cell.ptr (some (i0, i1))), V.one (Cell.ptr (some (i2, i3))), V.one (Cell.ptr (some (i4, i5)))] Q = vc61 I i0 i1 i2 i3 i4 i5 Q := by kernel_rfl
/-- (*handbill/segment.parser).scan -/
def vc62 (I : FuncId → List V → Post → T) (p0 : Option (Nat × Nat)) (Q : Post) : T :=
 derefK p0 (fun i1 => fun i2 h3 =>
 ∃ n4 : Int, (h3.read i1 (i2 + 1) 1 = some [.int .i64 n4]) ∧
 I 82 [.one (.ptr p0), .one (.int .i64 n4), .one (.func (some (83, [])))]
 (fun cs5 h6 =>
 ∃ n7 : Int, (cs5 = [.one (.int .i64 n7)]) ∧
 (derefK p0 (fun i8 => fun i9 h10 =>
 (storeK [] i8 (i9 + 1) [.int .i64 n7] (derefK p0 (fun i11 => fun i12 h13 =>
 ∃ n14 : Int, (h13.read i11 (i12 + 1) 1 = some [.int .i64 n14]) ∧
 (derefK p0 (fun i15 => fun i16 h17 =>
 ∃ s18 : ByteArray, (h17.read i15 (i16 + 0) 1 = some [.str s18]) ∧
 (ifT (decide (n14 = (↑s18.size : Int)))
 (derefK p0 (fun i19 => fun i20 h21 =>
 (storeK [] i19 (i20 + 2) [.int .i64 0, .int .i64 n14, .str { data := #[] }] (Q [])) h21))
 (derefK p0 (fun i22 => fun i23 h24 =>
 ∃ s25 : ByteArray, (h24.read i22 (i23 + 0) 1 = some [.str s25]) ∧
 ((0 ≤ n14) ∧
 n14 < (↑s25.size : Int)) ∧
 I 84 [.one (.int .u8 (byteAt s25 n14))]
 (fun cs26 h27 =>
 ∃ b28 : Bool, (cs26 = [.one (.bool b28)]) ∧
 (joinK (A := Int × Int)
 (uncur fun n29 n30 => derefK p0 (fun i31 => fun i32 h33 =>
 (storeK [] i31 (i32 + 1) [.int .i64 n30] (derefK p0 (fun i34 => fun i35 h36 =>
 ∃ s37 : ByteArray, (h36.read i34 (i35 + 0) 1 = some [.str s37]) ∧
 ((0 ≤ n14) ∧
 (n14 ≤ n30) ∧
 n30 ≤ (↑s37.size : Int)) ∧
 (derefK p0 (fun i38 => fun i39 h40 =>
 (storeK [] i38 (i39 + 2) [.int .i64 n29, .int .i64 n14, .str (s37.extract n14.toNat n30.toNat)] (Q [])) h40)) h36))) h33))
 (fun x41 => ifT b28
 (fun h42 =>
 I 82 [.one (.ptr p0), .one (.int .i64 n14), .one (.func (some (85, [])))]
 (fun cs43 h44 =>
 ∃ n45 : Int, (cs43 = [.one (.int .i64 n45)]) ∧
 x41 ((1, n45)) h44) h42)
 (joinK (A := Bool)
 (fun b46 => joinK (A := Int × Int)
 (uncur fun n47 n48 => fun h49 =>
 x41 ((n47, n48)) h49)
 (fun x50 => ifT b46
 (fun h51 =>
 I 87 [.one (.ptr p0), .one (.int .i64 n14)]
 (fun cs52 h53 =>
 ∃ n54 : Int, (cs52 = [.one (.int .i64 n54)]) ∧
 (joinK (A := Int)
 (fun n55 h56 =>
 x50 ((n55, n54)) h56)
 (fun x57 => ifT (decide (n54 > n14))
 (x57 2)
 (x57 6))) h53) h51)
 (joinK (A := Int × Int)
 (uncur fun n58 n59 => fun h60 =>
 x50 ((n58, n59)) h60)
 (fun x61 => ifT (decide (byteAt s25 n14 = 34))
 (derefK p0 (fun i62 => fun i63 h64 =>
 ∃ s65 : ByteArray, (h64.read i62 (i63 + 0) 1 = some [.str s65]) ∧
 ((0 ≤ n14) ∧
 (n14 ≤ (↑s65.size : Int)) ∧
 (↑s65.size : Int) ≤ (↑s65.size : Int)) ∧
 I 88 [.one (.str (s65.extract n14.toNat (↑s65.size : Int).toNat))]
 (fun cs66 h67 =>
 ∃ s68 : ByteArray, ∃ n69 : Int, ∃ n70 : Int, (cs66 = [.one (.str s68), .one (.int .i64 n69), .one (.int .i64 n70)]) ∧
 (joinK (A := Int × Int)
 (uncur fun n71 n72 => fun h73 =>
 x61 ((n71, n72)) h73)
 (fun x74 => ifT (decide (n70 = 0))
 (x74 ((3, IntKind.i64.wrap (n14 + n69))))
 (x74 ((6, n14))))) h67) h64))
 (joinK (A := Int × Int)
 (uncur fun n75 n76 => fun h77 =>
 x61 ((n75, n76)) h77)
 (fun x78 => ifT (decide (byteAt s25 n14 = 64))
 (fun h79 =>
 I 87 [.one (.ptr p0), .one (.int .i64 (IntKind.i64.wrap (n14 + 1)))]
 (fun cs80 h81 =>
 ∃ n82 : Int, (cs80 = [.one (.int .i64 n82)]) ∧
 (joinK (A := Int)
 (fun n83 h84 =>
 x78 ((n83, n82)) h84)
 (fun x85 => ifT (decide (n82 > IntKind.i64.wrap (n14 + 1)))
 (x85 4)
 (x85 6))) h81) h79)
 (fun h86 =>
 I 89 [.one (.str { data := #[61, 40, 41, 41, 44, 46] }), .one (.int .u8 (byteAt s25 n14))]
 (fun cs87 h88 =>
 ∃ n89 : Int, (cs87 = [.one (.int .i64 n89)]) ∧
 (joinK (A := Int × Int)
 (uncur fun n90 n91 => fun h92 =>
 x78 ((n90, n91)) h92)
 (fun x93 => ifT (decide (n89 ≥ 0))
 (x93 ((5, IntKind.i64.wrap (n14 + 1))))
 (joinK (A := Bool)
 (fun b94 => joinK (A := Int × Int)
 (uncur fun n95 n96 => fun h97 =>
 x93 ((n95, n96)) h97)
 (fun x98 => ifT b94
 (joinK (A := Bool)
 (fun b99 => joinK (A := Int)
 (fun n100 => joinK (A := Bool)
 (fun b101 => joinK (A := Int)
 (fun n102 h103 =>
 x98 ((n102, n100)) h103)
 (fun x104 => ifT b101
 (x104 5)
 (x104 6)))
 (fun x105 => ifT (!decide (byteAt s25 n14 = 33))
 (x105 true)
 (x105 (decide (n100 = IntKind.i64.wrap (n14 + 2))))))
 (fun x106 => ifT b99
 (x106 (IntKind.i64.wrap (IntKind.i64.wrap (n14 + 1) + 1)))
 (x106 (IntKind.i64.wrap (n14 + 1)))))
 (fun x107 => derefK p0 (fun i108 => fun i109 h110 =>
 ∃ s111 : ByteArray, (h110.read i108 (i109 + 0) 1 = some [.str s111]) ∧
 (ifT (decide (IntKind.i64.wrap (n14 + 1) < (↑s111.size : Int)))
 (derefK p0 (fun i112 => fun i113 h114 =>
 ∃ s115 : ByteArray, (h114.read i112 (i113 + 0) 1 = some [.str s115]) ∧
 ((0 ≤ IntKind.i64.wrap (n14 + 1)) ∧
 IntKind.i64.wrap (n14 + 1) < (↑s115.size : Int)) ∧
 x107 (decide (byteAt s115 (IntKind.i64.wrap (n14 + 1)) = 61)) h114))
 (x107 false)) h110)))
 (x98 ((6, n14)))))
 (fun x116 => ifT (decide (byteAt s25 n14 = 60))
 (x116 true)
 (ifT (decide (byteAt s25 n14 = 62))
 (x116 true)
 (x116 (decide (byteAt s25 n14 = 33)))))))) h88) h86)))))))
 (fun x117 h118 =>
 I 86 [.one (.int .u8 (byteAt s25 n14))]
 (fun cs119 h120 =>
 ∃ b121 : Bool, (cs119 = [.one (.bool b121)]) ∧
 (ifT b121
 (x117 true)
 (x117 (decide (byteAt s25 n14 = 45)))) h120) h118)))) h27) h24))) h17)) h13))) h10)) h6) h3)
theorem den62 (I : FuncId → List V → Post → T) (p0 : Option (Nat × Nat)) (Q : Post) : denF Go.Proofs.Tryz.prog 0 (⟨[(501, 43556142965880123323311949733674145022424, [(3, tk Go.Proofs.Tryz.prog 3), (4, tk Go.Proofs.Tryz.prog 3)]), (2006, 17873661021126656, [(47, tk Go.Proofs.Tryz.prog 4)]), (2007, 43556142965880123323311931736867821584856, [(3, tk Go.Proofs.Tryz.prog 3), (4, tk Go.Proofs.Tryz.prog 3)]), (8031, 43556142965880123323302726379229476291032, [(3, tk Go.Proofs.Tryz.prog 3), (4, tk Go.Proofs.Tryz.prog 3)]), (16059, 8, [(3, tk Go.Proofs.Tryz.prog 3)]), (32127, 43556142965880118487608671292749632241688, [(3, tk Go.Proofs.Tryz.prog 3), (4, tk Go.Proofs.Tryz.prog 3)]), (64251, 528905046081400263933976, [(3, tk Go.Proofs.Tryz.prog 3), (4, tk Go.Proofs.Tryz.prog 3)]), (128511, 43556142965860316282683383666867945078808, [(3, tk Go.Proofs.Tryz.prog 3), (4, tk Go.Proofs.Tryz.prog 3)]), (257019, 8, [(3, tk Go.Proofs.Tryz.prog 3)]), (514046, 162180048666699099053984466337792, [(96, tk Go.Proofs.Tryz.prog 4)]), (514047, 43556142803620846494098586359688320778264, [(3, tk Go.Proofs.Tryz.prog 3), (4, tk Go.Proofs.Tryz.prog 3)]), (8224756, 42534646828009991079468259616929873920, [(124, tk Go.Proofs.Tryz.prog 4)]), (8224757, 127605887595351923798765477786913079312, [(4, tk Go.Proofs.Tryz.prog 3)]), (8224758, 43386001782419654091580262447550446960640, [(134, tk Go.Proofs.Tryz.prog 4)]), (8224759, 8, [(3, tk Go.Proofs.Tryz.prog 3)])], []⟩) I 62 [V.one (Cell.ptr p0)] Q = vc62 I p0 Q := by kernel_rfl
/-- (*handbill/segment.parser).run -/
def vc82 (I : FuncId → List V → Post → T) (p0 : Option (Nat × Nat)) (n1 : Int) (p2 : Option (Nat × List (Nat × Nat))) (Q : Post) : T :=
 loopK (A := Int) n1
 (fun x3 n4 => derefK p0 (fun i5 => fun i6 h7 =>
 ∃ s8 : ByteArray, (h7.read i5 (i6 + 0) 1 = some [.str s8]) ∧
 (ifT (decide (n4 < (↑s8.size : Int)))
 (derefK p0 (fun i9 => fun i10 h11 =>
 ∃ s12 : ByteArray, (h11.read i9 (i10 + 0) 1 = some [.str s12]) ∧
 ((0 ≤ n4) ∧
 n4 < (↑s12.size : Int)) ∧
 (funK p2 (fun i13 => fun cs14 h15 =>
 I i13 (.one (.int .u8 (byteAt s12 n4)) :: cs14)
 (fun cs16 h17 =>
 ∃ b18 : Bool, (cs16 = [.one (.bool b18)]) ∧
 (ifT b18
 (x3 (IntKind.i64.wrap (n4 + 1)))
 (Q [.one (.int .i64 n4)])) h17) h15)) h11))
 (Q [.one (.int .i64 n4)])) h7))
theorem den82 (I : FuncId → List V → Post → T) (p0 : Option (Nat × Nat)) (n1 : Int) (p2 : Option (Nat × List (Nat × Nat))) (Q : Post) : denF Go.Proofs.Tryz.prog 0 (⟨[], [(12, 67108738, [(1, tk Go.Proofs.Tryz.prog 3)])]⟩) I 82 [V.one (Cell.ptr p0), V.one (Cell.int IntKind.i64 n1), V.one (Cell.func p2)] Q = vc82 I p0 n1 p2 Q := by kernel_rfl
/-- (*handbill/segment.parser).scan$1 -/
def vc83 (I : FuncId → List V → Post → T) (n0 : Int) (Q : Post) : T :=
 ifT (decide (n0 = 32))
 (Q [.one (.bool true)])
 (Q [.one (.bool (decide (n0 = 10)))])
theorem den83 (I : FuncId → List V → Post → T) (n0 : Int) (Q : Post) : denF Go.Proofs.Tryz.prog 0 (⟨[], []⟩) I 83 [V.one (Cell.int IntKind.u8 n0)] Q = vc83 I n0 Q := by kernel_rfl
/-- handbill/segment.isSmall -/
def vc84 (I : FuncId → List V → Post → T) (n0 : Int) (Q : Post) : T :=
 ifT (decide (97 ≤ n0))
 (Q [.one (.bool (decide (n0 ≤ 122)))])
 (Q [.one (.bool false)])
theorem den84 (I : FuncId → List V → Post → T) (n0 : Int) (Q : Post) : denF Go.Proofs.Tryz.prog 0 (⟨[], []⟩) I 84 [V.one (Cell.int IntKind.u8 n0)] Q = vc84 I n0 Q := by kernel_rfl
/-- (*handbill/segment.parser).scan$2 -/
def vc85 (I : FuncId → List V → Post → T) (n0 : Int) (Q : Post) : T :=
 fun h1 =>
 I 84 [.one (.int .u8 n0)]
 (fun cs2 h3 =>
 ∃ b4 : Bool, (cs2 = [.one (.bool b4)]) ∧
 (ifT b4
 (Q [.one (.bool true)])
 (fun h5 =>
 I 86 [.one (.int .u8 n0)]
 (fun cs6 h7 =>
 ∃ b8 : Bool, (cs6 = [.one (.bool b8)]) ∧
 (ifT b8
 (Q [.one (.bool true)])
 (ifT (decide (n0 = 45))
 (Q [.one (.bool true)])
 (Q [.one (.bool (decide (n0 = 95)))]))) h7) h5)) h3) h1
theorem den85 (I : FuncId → List V → Post → T) (n0 : Int) (Q : Post) : denF Go.Proofs.Tryz.prog 0 (⟨[], []⟩) I 85 [V.one (Cell.int IntKind.u8 n0)] Q = vc85 I n0 Q := by kernel_rfl
/-- handbill/segment.isDigit -/
def vc86 (I : FuncId → List V → Post → T) (n0 : Int) (Q : Post) : T :=
 ifT (decide (48 ≤ n0))
 (Q [.one (.bool (decide (n0 ≤ 57)))])
 (Q [.one (.bool false)])
theorem den86 (I : FuncId → List V → Post → T) (n0 : Int) (Q : Post) : denF Go.Proofs.Tryz.prog 0 (⟨[], []⟩) I 86 [V.one (Cell.int IntKind.u8 n0)] Q = vc86 I n0 Q := by kernel_rfl
/-- (*handbill/segment.parser).numberEnd -/
def vc87 (I : FuncId → List V → Post → T) (p0 : Option (Nat × Nat)) (n1 : Int) (Q : Post) : T :=
 joinK (A := Bool)
 (fun b2 => ifT b2
 (fun h3 =>
 I 82 [.one (.ptr p0), .one (.int .i64 (IntKind.i64.wrap (n1 + 1))), .one (.func (some (86, [])))]
 (fun cs4 h5 =>
 ∃ n6 : Int, (cs4 = [.one (.int .i64 n6)]) ∧
 (ifT (decide (n6 > IntKind.i64.wrap (n1 + 1)))
 (Q [.one (.int .i64 n6)])
 (Q [.one (.int .i64 n1)])) h5) h3)
 (fun h7 =>
 I 82 [.one (.ptr p0), .one (.int .i64 n1), .one (.func (some (86, [])))]
 (fun cs8 h9 =>
 ∃ n10 : Int, (cs8 = [.one (.int .i64 n10)]) ∧
 (ifT (decide (n10 > n1))
 (Q [.one (.int .i64 n10)])
 (Q [.one (.int .i64 n1)])) h9) h7))
 (fun x11 => derefK p0 (fun i12 => fun i13 h14 =>
 ∃ s15 : ByteArray, (h14.read i12 (i13 + 0) 1 = some [.str s15]) ∧
 (ifT (decide (n1 < (↑s15.size : Int)))
 (derefK p0 (fun i16 => fun i17 h18 =>
 ∃ s19 : ByteArray, (h18.read i16 (i17 + 0) 1 = some [.str s19]) ∧
 ((0 ≤ n1) ∧
 n1 < (↑s19.size : Int)) ∧
 x11 (decide (byteAt s19 n1 = 45)) h18))
 (x11 false)) h14))
theorem den87 (I : FuncId → List V → Post → T) (p0 : Option (Nat × Nat)) (n1 : Int) (Q : Post) : denF Go.Proofs.Tryz.prog 0 (⟨[(28, 16776960, [(23, tk Go.Proofs.Tryz.prog 4)])], []⟩) I 87 [V.one (Cell.ptr p0), V.one (Cell.int IntKind.i64 n1)] Q = vc87 I p0 n1 Q := by kernel_rfl
/-- handbill/person.Unquote -/
def vc88 (I : FuncId → List V → Post → T) (s0 : ByteArray) (Q : Post) : T :=
 joinK (A := Bool)
 (fun b1 => ifT b1
 (Q [.one (.str { data := #[] }), .one (.int .i64 0), .one (.int .i64 9)])
 (loopK (A := Sl × Int) (({ a := none, len := 0 }, 1))
 (fun x2 => uncur fun l3 n4 => ifT (decide (n4 < (↑s0.size : Int)))
 (fun h5 =>
 ((0 ≤ n4) ∧
 n4 < (↑s0.size : Int)) ∧
 (ifT (decide (byteAt s0 n4 = 34))
 (fun h6 =>
 ∃ s7 : ByteArray, (h6.sl 1 l3 = some (byteCells s7)) ∧
 Q [.one (.str s7), .one (.int .i64 (IntKind.i64.wrap (n4 + 1))), .one (.int .i64 0)] h6)
 (ifT (decide (byteAt s0 n4 = 92))
 (fun h8 =>
 ((0 ≤ IntKind.i64.wrap (n4 + 1)) ∧
 (IntKind.i64.wrap (n4 + 1) ≤ (↑s0.size : Int)) ∧
 (↑s0.size : Int) ≤ (↑s0.size : Int)) ∧
 I 113 [.one (.str (s0.extract (IntKind.i64.wrap (n4 + 1)).toNat (↑s0.size : Int).toNat))]
 (fun cs9 h10 =>
 ∃ n11 : Int, ∃ n12 : Int, (cs9 = [.one (.int .u8 n11), .one (.int .i64 n12)]) ∧
 (ifT (decide (n12 = 0))
 (Q [.one (.str { data := #[] }), .one (.int .i64 0), .one (.int .i64 9)])
 (fun h13 =>
 (appendTo [] 1 1 l3 1 [.int .u8 n11] (fun l14 h15 =>
 x2 ((l14, IntKind.i64.wrap (n4 + IntKind.i64.wrap (1 + n12)))) h15)) h13)) h10) h8)
 (fun h16 =>
 I 114 [.one (.int .u8 (byteAt s0 n4))]
 (fun cs17 h18 =>
 ∃ b19 : Bool, (cs17 = [.one (.bool b19)]) ∧
 (ifT b19
 (Q [.one (.str { data := #[] }), .one (.int .i64 0), .one (.int .i64 9)])
 (ifT (decide (byteAt s0 n4 = 10))
 (Q [.one (.str { data := #[] }), .one (.int .i64 0), .one (.int .i64 9)])
 (fun h20 =>
 (appendTo [] 1 1 l3 1 [.int .u8 (byteAt s0 n4)] (fun l21 h22 =>
 x2 ((l21, IntKind.i64.wrap (n4 + 1))) h22)) h20))) h18) h16))) h5)
 (Q [.one (.str { data := #[] }), .one (.int .i64 0), .one (.int .i64 9)]))))
 (fun x23 => ifT (decide (s0 = { data := #[] }))
 (x23 true)
 (fun h24 =>
 (((0 : Int) ≤ (0 : Int)) ∧
 0 < (↑s0.size : Int)) ∧
 x23 (!decide (byteAt s0 0 = 34)) h24))
theorem den88 (I : FuncId → List V → Post → T) (s0 : ByteArray) (Q : Post) : denF Go.Proofs.Tryz.prog 0 (⟨[(12, 130048, [(16, tk Go.Proofs.Tryz.prog 4)])], [(122, 36893488147418973180, [(5, tk Go.Proofs.Tryz.prog 70), (6, tk Go.Proofs.Tryz.prog 3)])]⟩) I 88 [V.one (Cell.str s0)] Q = vc88 I s0 Q := by kernel_rfl
/-- handbill/person.escaped -/
def vc113 (I : FuncId → List V → Post → T) (s0 : ByteArray) (Q : Post) : T :=
 ifT (decide (s0 = { data := #[] }))
 (Q [.one (.int .u8 0), .one (.int .i64 0)])
 (fun h1 =>
 (((0 : Int) ≤ (0 : Int)) ∧
 0 < (↑s0.size : Int)) ∧
 (joinK (A := Bool)
 (fun b2 => ifT b2
 (fun h3 =>
 (((0 : Int) ≤ (0 : Int)) ∧
 0 < (↑s0.size : Int)) ∧
 Q [.one (.int .u8 (byteAt s0 0)), .one (.int .i64 1)] h3)
 (ifT (decide (byteAt s0 0 = 110))
 (Q [.one (.int .u8 10), .one (.int .i64 1)])
 (ifT (decide (byteAt s0 0 = 120))
 (ifT (decide ((↑s0.size : Int) < 3))
 (Q [.one (.int .u8 0), .one (.int .i64 0)])
 (fun h4 =>
 (((0 : Int) ≤ (1 : Int)) ∧
 1 < (↑s0.size : Int)) ∧
 (((0 : Int) ≤ (2 : Int)) ∧
 2 < (↑s0.size : Int)) ∧
 I 89 [.one (.str { data := #[48, 49, 50, 51, 52, 53, 54, 55, 56, 57, 97, 98, 99, 100, 101, 102] }), .one (.int .u8 (byteAt s0 1))]
 (fun cs5 h6 =>
 ∃ n7 : Int, (cs5 = [.one (.int .i64 n7)]) ∧
 I 89 [.one (.str { data := #[48, 49, 50, 51, 52, 53, 54, 55, 56, 57, 97, 98, 99, 100, 101, 102] }), .one (.int .u8 (byteAt s0 2))]
 (fun cs8 h9 =>
 ∃ n10 : Int, (cs8 = [.one (.int .i64 n10)]) ∧
 (joinK (A := Bool)
 (fun b11 => ifT b11
 (Q [.one (.int .u8 0), .one (.int .i64 0)])
 (fun h12 =>
 I 114 [.one (.int .u8 (IntKind.u8.wrap (IntKind.i64.wrap (IntKind.i64.wrap (16 * n7) + n10))))]
 (fun cs13 h14 =>
 ∃ b15 : Bool, (cs13 = [.one (.bool b15)]) ∧
 (ifT b15
 (Q [.one (.int .u8 (IntKind.u8.wrap (IntKind.i64.wrap (IntKind.i64.wrap (16 * n7) + n10)))), .one (.int .i64 3)])
 (Q [.one (.int .u8 0), .one (.int .i64 0)])) h14) h12))
 (fun x16 => ifT (decide (n7 < 0))
 (x16 true)
 (x16 (decide (n10 < 0))))) h9) h6) h4))
 (Q [.one (.int .u8 0), .one (.int .i64 0)]))))
 (fun x17 => ifT (decide (byteAt s0 0 = 34))
 (x17 (decide (byteAt s0 0 = 34)))
 (x17 (decide (byteAt s0 0 = 92))))) h1)
theorem den113 (I : FuncId → List V → Post → T) (s0 : ByteArray) (Q : Post) : denF Go.Proofs.Tryz.prog 0 (⟨[(233, 10240, [(11, tk Go.Proofs.Tryz.prog 4)]), (60396, 33822867456, [(34, tk Go.Proofs.Tryz.prog 4)])], []⟩) I 113 [V.one (Cell.str s0)] Q = vc113 I s0 Q := by kernel_rfl
/-- handbill/person.hidden -/
def vc114 (I : FuncId → List V → Post → T) (n0 : Int) (Q : Post) : T :=
 ifT (decide (n0 < 33))
 (ifT (!decide (n0 = 10))
 (Q [.one (.bool true)])
 (Q [.one (.bool (decide (n0 ≥ 127)))]))
 (Q [.one (.bool (decide (n0 ≥ 127)))])
theorem den114 (I : FuncId → List V → Post → T) (n0 : Int) (Q : Post) : denF Go.Proofs.Tryz.prog 0 (⟨[], []⟩) I 114 [V.one (Cell.int IntKind.u8 n0)] Q = vc114 I n0 Q := by kernel_rfl
/-- (*handbill/segment.parser).or -/
def vc63 (I : FuncId → List V → Post → T) (p0 : Option (Nat × Nat)) (Q : Post) : T :=
 derefK p0 (fun i1 => fun i2 h3 =>
 I 90 [.one (.ptr p0), .one (.int .i64 4), .one (.str { data := #[111, 114] }), .one (.func (some (4187, [(i1, i2)])))]
 (fun cs4 h5 =>
 ∃ n6 : Int, ∃ s7 : ByteArray, ∃ s8 : ByteArray, ∃ s9 : ByteArray, ∃ l10 : Sl, ∃ l11 : Sl, ∃ n12 : Int, ∃ n13 : Int, ∃ l14 : Sl, (cs4 = [.agg [.int .i64 n6, .str s7, .str s8, .str s9, .slice 3 l10, .slice 5 l11, .int .i64 n12, .int .i64 n13, .slice 9 l14]]) ∧
 Q [.agg [.int .i64 n6, .str s7, .str s8, .str s9, .slice 3 l10, .slice 5 l11, .int .i64 n12, .int .i64 n13, .slice 9 l14]] h5) h3)
theorem den63 (I : FuncId → List V → Post → T) (p0 : Option (Nat × Nat)) (Q : Post) : denF Go.Proofs.Tryz.prog 4 (⟨[], []⟩) I 63 [V.one (Cell.ptr p0)] Q = vc63 I p0 Q := by kernel_rfl
/-- (*handbill/segment.parser).row -/
def vc90 (I : FuncId → List V → Post → T) (p0 : Option (Nat × Nat)) (n1 : Int) (s2 : ByteArray) (p3 : Option (Nat × List (Nat × Nat))) (Q : Post) : T :=
 fun h4 =>
 (funK p3 (fun i5 => fun cs6 h7 =>
 I i5 ([] ++ cs6)
 (fun cs8 h9 =>
 ∃ n10 : Int, ∃ s11 : ByteArray, ∃ s12 : ByteArray, ∃ s13 : ByteArray, ∃ l14 : Sl, ∃ l15 : Sl, ∃ n16 : Int, ∃ n17 : Int, ∃ l18 : Sl, (cs8 = [.agg [.int .i64 n10, .str s11, .str s12, .str s13, .slice 3 l14, .slice 5 l15, .int .i64 n16, .int .i64 n17, .slice 9 l18]]) ∧
 (newK (.cells false [.int .i64 n10, .str s11, .str s12, .str s13, .slice 3 l14, .slice 5 l15, .int .i64 n16, .int .i64 n17, .slice 9 l18]) (fun i19 => loopK (A := Sl) ({ a := some (i19, 0), len := 1 })
 (fun x20 => fun l21 h22 =>
 I 116 [.one (.ptr p0), .one (.str s2)]
 (fun cs23 h24 =>
 ∃ b25 : Bool, (cs23 = [.one (.bool b25)]) ∧
 (ifT b25
 (fun h26 =>
 (funK p3 (fun i27 => fun cs28 h29 =>
 I i27 ([] ++ cs28)
 (fun cs30 h31 =>
 ∃ n32 : Int, ∃ s33 : ByteArray, ∃ s34 : ByteArray, ∃ s35 : ByteArray, ∃ l36 : Sl, ∃ l37 : Sl, ∃ n38 : Int, ∃ n39 : Int, ∃ l40 : Sl, (cs30 = [.agg [.int .i64 n32, .str s33, .str s34, .str s35, .slice 3 l36, .slice 5 l37, .int .i64 n38, .int .i64 n39, .slice 9 l40]]) ∧
 (appendTo [] 9 144 l21 1 [.int .i64 n32, .str s33, .str s34, .str s35, .slice 3 l36, .slice 5 l37, .int .i64 n38, .int .i64 n39, .slice 9 l40] (fun l41 h42 =>
 x20 l41 h42)) h31) h29)) h26)
 (ifT (decide ((↑l21.len : Int) = 1))
 (fun h43 =>
 (((0 : Int) ≤ (0 : Int)) ∧
 0 < (↑l21.len : Int)) ∧
 (derefK l21.a (fun i44 => fun i45 h46 =>
 ∃ n47 : Int, ∃ s48 : ByteArray, ∃ s49 : ByteArray, ∃ s50 : ByteArray, ∃ l51 : Sl, ∃ l52 : Sl, ∃ n53 : Int, ∃ n54 : Int, ∃ l55 : Sl, (h46.read i44 (i45 + 0) 9 = some [.int .i64 n47, .str s48, .str s49, .str s50, .slice 3 l51, .slice 5 l52, .int .i64 n53, .int .i64 n54, .slice 9 l55]) ∧
 Q [.agg [.int .i64 n47, .str s48, .str s49, .str s50, .slice 3 l51, .slice 5 l52, .int .i64 n53, .int .i64 n54, .slice 9 l55]] h46)) h43)
 (fun h56 =>
 Q [.agg [.int .i64 n1, .str ByteArray.empty, .str ByteArray.empty, .str ByteArray.empty, .slice 3 { a := none, len := 0 }, .slice 5 { a := none, len := 0 }, .int .i64 0, .int .i64 0, .slice 9 l21]] h56))) h24) h22))) h9) h7)) h4
theorem den90 (I : FuncId → List V → Post → T) (p0 : Option (Nat × Nat)) (n1 : Int) (s2 : ByteArray) (p3 : Option (Nat × List (Nat × Nat))) (Q : Post) : denF Go.Proofs.Tryz.prog 256 (⟨[], [(28, 2089472, [(9, tk Go.Proofs.Tryz.prog 28)])]⟩) I 90 [V.one (Cell.ptr p0), V.one (Cell.int IntKind.i64 n1), V.one (Cell.str s2), V.one (Cell.func p3)] Q = vc90 I p0 n1 s2 p3 Q := by kernel_rfl
/-- (*handbill/segment.parser).take -/
def vc116 (I : FuncId → List V → Post → T) (p0 : Option (Nat × Nat)) (s1 : ByteArray) (Q : Post) : T :=
 fun h2 =>
 I 139 [.one (.ptr p0), .one (.str s1)]
 (fun cs3 h4 =>
 ∃ b5 : Bool, (cs3 = [.one (.bool b5)]) ∧
 (ifT (!b5)
 (Q [.one (.bool false)])
 (fun h6 =>
 I 62 [.one (.ptr p0)]
 (fun cs7 h8 =>
 (cs7 = []) ∧
 Q [.one (.bool true)] h8) h6)) h4) h2
theorem den116 (I : FuncId → List V → Post → T) (p0 : Option (Nat × Nat)) (s1 : ByteArray) (Q : Post) : denF Go.Proofs.Tryz.prog 0 (⟨[], []⟩) I 116 [V.one (Cell.ptr p0), V.one (Cell.str s1)] Q = vc116 I p0 s1 Q := by kernel_rfl
/-- (*handbill/segment.parser).is -/
def vc139 (I : FuncId → List V → Post → T) (p0 : Option (Nat × Nat)) (s1 : ByteArray) (Q : Post) : T :=
 derefK p0 (fun i2 => fun i3 h4 =>
 ∃ n5 : Int, (h4.read i2 (i3 + 2 + 0) 1 = some [.int .i64 n5]) ∧
 (ifT (decide (n5 = 1))
 (derefK p0 (fun i6 => fun i7 h8 =>
 ∃ s9 : ByteArray, (h8.read i6 (i7 + 2 + 2) 1 = some [.str s9]) ∧
 Q [.one (.bool (decide (s9 = s1)))] h8))
 (derefK p0 (fun i10 => fun i11 h12 =>
 ∃ n13 : Int, (h12.read i10 (i11 + 2 + 0) 1 = some [.int .i64 n13]) ∧
 (ifT (decide (n13 = 5))
 (derefK p0 (fun i14 => fun i15 h16 =>
 ∃ s17 : ByteArray, (h16.read i14 (i15 + 2 + 2) 1 = some [.str s17]) ∧
 Q [.one (.bool (decide (s17 = s1)))] h16))
 (Q [.one (.bool false)])) h12))) h4)
theorem den139 (I : FuncId → List V → Post → T) (p0 : Option (Nat × Nat)) (s1 : ByteArray) (Q : Post) : denF Go.Proofs.Tryz.prog 0 (⟨[], []⟩) I 139 [V.one (Cell.ptr p0), V.one (Cell.str s1)] Q = vc139 I p0 s1 Q := by kernel_rfl
/-- (*handbill/segment.parser).and -/
def vc91 (I : FuncId → List V → Post → T) (p0 : Option (Nat × Nat)) (Q : Post) : T :=
 derefK p0 (fun i1 => fun i2 h3 =>
 I 90 [.one (.ptr p0), .one (.int .i64 3), .one (.str { data := #[97, 110, 100] }), .one (.func (some (4213, [(i1, i2)])))]
 (fun cs4 h5 =>
 ∃ n6 : Int, ∃ s7 : ByteArray, ∃ s8 : ByteArray, ∃ s9 : ByteArray, ∃ l10 : Sl, ∃ l11 : Sl, ∃ n12 : Int, ∃ n13 : Int, ∃ l14 : Sl, (cs4 = [.agg [.int .i64 n6, .str s7, .str s8, .str s9, .slice 3 l10, .slice 5 l11, .int .i64 n12, .int .i64 n13, .slice 9 l14]]) ∧
 Q [.agg [.int .i64 n6, .str s7, .str s8, .str s9, .slice 3 l10, .slice 5 l11, .int .i64 n12, .int .i64 n13, .slice 9 l14]] h5) h3)
theorem den91 (I : FuncId → List V → Post → T) (p0 : Option (Nat × Nat)) (Q : Post) : denF Go.Proofs.Tryz.prog 4 (⟨[], []⟩) I 91 [V.one (Cell.ptr p0)] Q = vc91 I p0 Q := by kernel_rfl
/-- (*handbill/segment.parser).not -/
def vc117 (I : FuncId → List V → Post → T) (p0 : Option (Nat × Nat)) (Q : Post) : T :=
 fun h1 =>
 I 116 [.one (.ptr p0), .one (.str { data := #[110, 111, 116] })]
 (fun cs2 h3 =>
 ∃ b4 : Bool, (cs2 = [.one (.bool b4)]) ∧
 (ifT b4
 (fun h5 =>
 I 117 [.one (.ptr p0)]
 (fun cs6 h7 =>
 ∃ n8 : Int, ∃ s9 : ByteArray, ∃ s10 : ByteArray, ∃ s11 : ByteArray, ∃ l12 : Sl, ∃ l13 : Sl, ∃ n14 : Int, ∃ n15 : Int, ∃ l16 : Sl, (cs6 = [.agg [.int .i64 n8, .str s9, .str s10, .str s11, .slice 3 l12, .slice 5 l13, .int .i64 n14, .int .i64 n15, .slice 9 l16]]) ∧
 (newK (.cells false [.int .i64 n8, .str s9, .str s10, .str s11, .slice 3 l12, .slice 5 l13, .int .i64 n14, .int .i64 n15, .slice 9 l16]) (fun i17 h18 =>
 Q [.agg [.int .i64 5, .str ByteArray.empty, .str ByteArray.empty, .str ByteArray.empty, .slice 3 { a := none, len := 0 }, .slice 5 { a := none, len := 0 }, .int .i64 0, .int .i64 0, .slice 9 { a := some (i17, 0), len := 1 }]] h18)) h7) h5)
 (fun h19 =>
 I 140 [.one (.ptr p0)]
 (fun cs20 h21 =>
 ∃ n22 : Int, ∃ s23 : ByteArray, ∃ s24 : ByteArray, ∃ s25 : ByteArray, ∃ l26 : Sl, ∃ l27 : Sl, ∃ n28 : Int, ∃ n29 : Int, ∃ l30 : Sl, (cs20 = [.agg [.int .i64 n22, .str s23, .str s24, .str s25, .slice 3 l26, .slice 5 l27, .int .i64 n28, .int .i64 n29, .slice 9 l30]]) ∧
 Q [.agg [.int .i64 n22, .str s23, .str s24, .str s25, .slice 3 l26, .slice 5 l27, .int .i64 n28, .int .i64 n29, .slice 9 l30]] h21) h19)) h3) h1
theorem den117 (I : FuncId → List V → Post → T) (p0 : Option (Nat × Nat)) (Q : Post) : denF Go.Proofs.Tryz.prog 4 (⟨[], []⟩) I 117 [V.one (Cell.ptr p0)] Q = vc117 I p0 Q := by kernel_rfl
/-- (*handbill/segment.parser).primary -/
def vc140 (I : FuncId → List V → Post → T) (p0 : Option (Nat × Nat)) (Q : Post) : T :=
 fun h1 =>
 I 116 [.one (.ptr p0), .one (.str { data := #[40] })]
 (fun cs2 h3 =>
 ∃ b4 : Bool, (cs2 = [.one (.bool b4)]) ∧
 (ifT b4
 (fun h5 =>
 I 63 [.one (.ptr p0)]
 (fun cs6 h7 =>
 ∃ n8 : Int, ∃ s9 : ByteArray, ∃ s10 : ByteArray, ∃ s11 : ByteArray, ∃ l12 : Sl, ∃ l13 : Sl, ∃ n14 : Int, ∃ n15 : Int, ∃ l16 : Sl, (cs6 = [.agg [.int .i64 n8, .str s9, .str s10, .str s11, .slice 3 l12, .slice 5 l13, .int .i64 n14, .int .i64 n15, .slice 9 l16]]) ∧
 I 151 [.one (.ptr p0), .one (.str { data := #[41] })]
 (fun cs17 h18 =>
 (cs17 = []) ∧
 Q [.agg [.int .i64 n8, .str s9, .str s10, .str s11, .slice 3 l12, .slice 5 l13, .int .i64 n14, .int .i64 n15, .slice 9 l16]] h18) h7) h5)
 (fun h19 =>
 I 116 [.one (.ptr p0), .one (.str { data := #[97, 108, 108] })]
 (fun cs20 h21 =>
 ∃ b22 : Bool, (cs20 = [.one (.bool b22)]) ∧
 (ifT b22
 (fun h23 =>
 Q [.agg [.int .i64 1, .str ByteArray.empty, .str ByteArray.empty, .str ByteArray.empty, .slice 3 { a := none, len := 0 }, .slice 5 { a := none, len := 0 }, .int .i64 0, .int .i64 0, .slice 9 { a := none, len := 0 }]] h23)
 (fun h24 =>
 I 116 [.one (.ptr p0), .one (.str { data := #[110, 111, 110, 101] })]
 (fun cs25 h26 =>
 ∃ b27 : Bool, (cs25 = [.one (.bool b27)]) ∧
 (ifT b27
 (fun h28 =>
 Q [.agg [.int .i64 2, .str ByteArray.empty, .str ByteArray.empty, .str ByteArray.empty, .slice 3 { a := none, len := 0 }, .slice 5 { a := none, len := 0 }, .int .i64 0, .int .i64 0, .slice 9 { a := none, len := 0 }]] h28)
 (fun h29 =>
 I 116 [.one (.ptr p0), .one (.str { data := #[104, 97, 115] })]
 (fun cs30 h31 =>
 ∃ b32 : Bool, (cs30 = [.one (.bool b32)]) ∧
 (ifT b32
 (fun h33 =>
 I 152 [.one (.ptr p0)]
 (fun cs34 h35 =>
 ∃ s36 : ByteArray, (cs34 = [.one (.str s36)]) ∧
 Q [.agg [.int .i64 6, .str s36, .str ByteArray.empty, .str ByteArray.empty, .slice 3 { a := none, len := 0 }, .slice 5 { a := none, len := 0 }, .int .i64 0, .int .i64 0, .slice 9 { a := none, len := 0 }]] h35) h33)
 (fun h37 =>
 I 116 [.one (.ptr p0), .one (.str { data := #[99, 111, 117, 110, 116] })]
 (fun cs38 h39 =>
 ∃ b40 : Bool, (cs38 = [.one (.bool b40)]) ∧
 (ifT b40
 (fun h41 =>
 I 153 [.one (.ptr p0), .one (.int .i64 11)]
 (fun cs42 h43 =>
 ∃ n44 : Int, ∃ s45 : ByteArray, ∃ s46 : ByteArray, ∃ s47 : ByteArray, ∃ l48 : Sl, ∃ l49 : Sl, ∃ n50 : Int, ∃ n51 : Int, ∃ l52 : Sl, (cs42 = [.agg [.int .i64 n44, .str s45, .str s46, .str s47, .slice 3 l48, .slice 5 l49, .int .i64 n50, .int .i64 n51, .slice 9 l52]]) ∧
 Q [.agg [.int .i64 n44, .str s45, .str s46, .str s47, .slice 3 l48, .slice 5 l49, .int .i64 n50, .int .i64 n51, .slice 9 l52]] h43) h41)
 (fun h53 =>
 I 116 [.one (.ptr p0), .one (.str { data := #[115, 117, 109] })]
 (fun cs54 h55 =>
 ∃ b56 : Bool, (cs54 = [.one (.bool b56)]) ∧
 (ifT b56
 (fun h57 =>
 I 153 [.one (.ptr p0), .one (.int .i64 12)]
 (fun cs58 h59 =>
 ∃ n60 : Int, ∃ s61 : ByteArray, ∃ s62 : ByteArray, ∃ s63 : ByteArray, ∃ l64 : Sl, ∃ l65 : Sl, ∃ n66 : Int, ∃ n67 : Int, ∃ l68 : Sl, (cs58 = [.agg [.int .i64 n60, .str s61, .str s62, .str s63, .slice 3 l64, .slice 5 l65, .int .i64 n66, .int .i64 n67, .slice 9 l68]]) ∧
 Q [.agg [.int .i64 n60, .str s61, .str s62, .str s63, .slice 3 l64, .slice 5 l65, .int .i64 n66, .int .i64 n67, .slice 9 l68]] h59) h57)
 (fun h69 =>
 I 116 [.one (.ptr p0), .one (.str { data := #[115, 105, 110, 99, 101] })]
 (fun cs70 h71 =>
 ∃ b72 : Bool, (cs70 = [.one (.bool b72)]) ∧
 (ifT b72
 (fun h73 =>
 I 153 [.one (.ptr p0), .one (.int .i64 13)]
 (fun cs74 h75 =>
 ∃ n76 : Int, ∃ s77 : ByteArray, ∃ s78 : ByteArray, ∃ s79 : ByteArray, ∃ l80 : Sl, ∃ l81 : Sl, ∃ n82 : Int, ∃ n83 : Int, ∃ l84 : Sl, (cs74 = [.agg [.int .i64 n76, .str s77, .str s78, .str s79, .slice 3 l80, .slice 5 l81, .int .i64 n82, .int .i64 n83, .slice 9 l84]]) ∧
 Q [.agg [.int .i64 n76, .str s77, .str s78, .str s79, .slice 3 l80, .slice 5 l81, .int .i64 n82, .int .i64 n83, .slice 9 l84]] h75) h73)
 (fun h85 =>
 I 116 [.one (.ptr p0), .one (.str { data := #[116, 104, 101, 110] })]
 (fun cs86 h87 =>
 ∃ b88 : Bool, (cs86 = [.one (.bool b88)]) ∧
 (ifT b88
 (fun h89 =>
 I 153 [.one (.ptr p0), .one (.int .i64 14)]
 (fun cs90 h91 =>
 ∃ n92 : Int, ∃ s93 : ByteArray, ∃ s94 : ByteArray, ∃ s95 : ByteArray, ∃ l96 : Sl, ∃ l97 : Sl, ∃ n98 : Int, ∃ n99 : Int, ∃ l100 : Sl, (cs90 = [.agg [.int .i64 n92, .str s93, .str s94, .str s95, .slice 3 l96, .slice 5 l97, .int .i64 n98, .int .i64 n99, .slice 9 l100]]) ∧
 Q [.agg [.int .i64 n92, .str s93, .str s94, .str s95, .slice 3 l96, .slice 5 l97, .int .i64 n98, .int .i64 n99, .slice 9 l100]] h91) h89)
 (fun h101 =>
 I 154 [.one (.ptr p0)]
 (fun cs102 h103 =>
 ∃ n104 : Int, ∃ s105 : ByteArray, ∃ s106 : ByteArray, ∃ s107 : ByteArray, ∃ l108 : Sl, ∃ l109 : Sl, ∃ n110 : Int, ∃ n111 : Int, ∃ l112 : Sl, (cs102 = [.agg [.int .i64 n104, .str s105, .str s106, .str s107, .slice 3 l108, .slice 5 l109, .int .i64 n110, .int .i64 n111, .slice 9 l112]]) ∧
 Q [.agg [.int .i64 n104, .str s105, .str s106, .str s107, .slice 3 l108, .slice 5 l109, .int .i64 n110, .int .i64 n111, .slice 9 l112]] h103) h101)) h87) h85)) h71) h69)) h55) h53)) h39) h37)) h31) h29)) h26) h24)) h21) h19)) h3) h1
theorem den140 (I : FuncId → List V → Post → T) (p0 : Option (Nat × Nat)) (Q : Post) : denF Go.Proofs.Tryz.prog 12 (⟨[], []⟩) I 140 [V.one (Cell.ptr p0)] Q = vc140 I p0 Q := by kernel_rfl
/-- (*handbill/segment.parser).want -/
def vc151 (I : FuncId → List V → Post → T) (p0 : Option (Nat × Nat)) (s1 : ByteArray) (Q : Post) : T :=
 fun h2 =>
 I 116 [.one (.ptr p0), .one (.str s1)]
 (fun cs3 h4 =>
 ∃ b5 : Bool, (cs3 = [.one (.bool b5)]) ∧
 (ifT (!b5)
 (fun h6 =>
 I 64 [.one (.ptr p0)]
 (fun cs7 h8 =>
 (cs7 = []) ∧
 Q [] h8) h6)
 (Q [])) h4) h2
theorem den151 (I : FuncId → List V → Post → T) (p0 : Option (Nat × Nat)) (s1 : ByteArray) (Q : Post) : denF Go.Proofs.Tryz.prog 0 (⟨[], []⟩) I 151 [V.one (Cell.ptr p0), V.one (Cell.str s1)] Q = vc151 I p0 s1 Q := by kernel_rfl
/-- (*handbill/segment.parser).name -/
def vc152 (I : FuncId → List V → Post → T) (p0 : Option (Nat × Nat)) (Q : Post) : T :=
 derefK p0 (fun i1 => fun i2 h3 =>
 ∃ s4 : ByteArray, (h3.read i1 (i2 + 2 + 2) 1 = some [.str s4]) ∧
 (joinK (A := Bool)
 (fun b5 => ifT b5
 (fun h6 =>
 I 64 [.one (.ptr p0)]
 (fun cs7 h8 =>
 (cs7 = []) ∧
 I 62 [.one (.ptr p0)]
 (fun cs9 h10 =>
 (cs9 = []) ∧
 Q [.one (.str s4)] h10) h8) h6)
 (fun h11 =>
 I 62 [.one (.ptr p0)]
 (fun cs12 h13 =>
 (cs12 = []) ∧
 Q [.one (.str s4)] h13) h11))
 (fun x14 => derefK p0 (fun i15 => fun i16 h17 =>
 ∃ n18 : Int, (h17.read i15 (i16 + 2 + 0) 1 = some [.int .i64 n18]) ∧
 (ifT (!decide (n18 = 1))
 (x14 true)
 (fun h19 =>
 I 44 [.one (.str s4)]
 (fun cs20 h21 =>
 ∃ b22 : Bool, (cs20 = [.one (.bool b22)]) ∧
 x14 (!b22) h21) h19)) h17))) h3)
theorem den152 (I : FuncId → List V → Post → T) (p0 : Option (Nat × Nat)) (Q : Post) : denF Go.Proofs.Tryz.prog 0 (⟨[(28, 1048064, [(19, tk Go.Proofs.Tryz.prog 4)])], []⟩) I 152 [V.one (Cell.ptr p0)] Q = vc152 I p0 Q := by kernel_rfl
/-- (*handbill/handmake.Stream).SpoiledCond -/
def vc6 (I : FuncId → List V → Post → T) (p0 : Option (Nat × Nat)) (n1 : Int) (s2 : ByteArray) (s3 : ByteArray) (s4 : ByteArray) (l5 : Sl) (l6 : Sl) (n7 : Int) (n8 : Int) (l9 : Sl) (Q : Post) : T :=
 joinK (A := Bool)
 (fun b10 => ifT b10
 (fun h11 =>
 I 14 [.one (.slice 9 l9)]
 (fun cs12 h13 =>
 ∃ l14 : Sl, (cs12 = [.one (.slice 9 l14)]) ∧
 I 13 [.one (.ptr p0), .one (.int .i64 (↑l14.len : Int))]
 (fun cs15 h16 =>
 ∃ n17 : Int, (cs15 = [.one (.int .i64 n17)]) ∧
 ((0 ≤ n17) ∧
 n17 < (↑l14.len : Int)) ∧
 (derefK l14.a (fun i18 => fun i19 h20 =>
 ∃ n21 : Int, ∃ s22 : ByteArray, ∃ s23 : ByteArray, ∃ s24 : ByteArray, ∃ l25 : Sl, ∃ l26 : Sl, ∃ n27 : Int, ∃ n28 : Int, ∃ l29 : Sl, (h20.read i18 (i19 + n17.toNat * 9) 9 = some [.int .i64 n21, .str s22, .str s23, .str s24, .slice 3 l25, .slice 5 l26, .int .i64 n27, .int .i64 n28, .slice 9 l29]) ∧
 I 6 [.one (.ptr p0), .agg [.int .i64 n21, .str s22, .str s23, .str s24, .slice 3 l25, .slice 5 l26, .int .i64 n27, .int .i64 n28, .slice 9 l29]]
 (fun cs30 h31 =>
 ∃ n32 : Int, ∃ s33 : ByteArray, ∃ s34 : ByteArray, ∃ s35 : ByteArray, ∃ l36 : Sl, ∃ l37 : Sl, ∃ n38 : Int, ∃ n39 : Int, ∃ l40 : Sl, (cs30 = [.agg [.int .i64 n32, .str s33, .str s34, .str s35, .slice 3 l36, .slice 5 l37, .int .i64 n38, .int .i64 n39, .slice 9 l40]]) ∧
 ((0 ≤ n17) ∧
 n17 < (↑l14.len : Int)) ∧
 (derefK l14.a (fun i41 => fun i42 h43 =>
 (storeK [] i41 (i42 + n17.toNat * 9) [.int .i64 n32, .str s33, .str s34, .str s35, .slice 3 l36, .slice 5 l37, .int .i64 n38, .int .i64 n39, .slice 9 l40] (fun h44 =>
 Q [.agg [.int .i64 n1, .str s2, .str s3, .str s4, .slice 3 l5, .slice 5 l6, .int .i64 n7, .int .i64 n8, .slice 9 l14]] h44)) h43)) h31) h20)) h16) h13) h11)
 (fun h45 =>
 I 13 [.one (.ptr p0), .one (.int .i64 9)]
 (fun cs46 h47 =>
 ∃ n48 : Int, (cs46 = [.one (.int .i64 n48)]) ∧
 (ifT (decide (n48 = 0))
 (fun h49 =>
 I 12 [.one (.ptr p0), .one (.int .i64 0), .one (.int .i64 15)]
 (fun cs50 h51 =>
 ∃ n52 : Int, (cs50 = [.one (.int .i64 n52)]) ∧
 Q [.agg [.int .i64 n52, .str s2, .str s3, .str s4, .slice 3 l5, .slice 5 l6, .int .i64 n7, .int .i64 n8, .slice 9 l9]] h51) h49)
 (ifT (decide (n48 = 1))
 (fun h53 =>
 I 16 [.one (.str { data := #[110] }), .one (.int .i64 40)]
 (fun cs54 h55 =>
 ∃ s56 : ByteArray, (cs54 = [.one (.str s56)]) ∧
 I 16 [.one (.str { data := #[110] }), .one (.int .i64 41)]
 (fun cs57 h58 =>
 ∃ s59 : ByteArray, (cs57 = [.one (.str s59)]) ∧
 (newK (.cells false [.str { data := #[] }, .str { data := #[65, 103, 101] }, .str { data := #[97, 110, 100] }, .str { data := #[119, 105, 116, 104, 105, 110] }, .str s56, .str s59]) (fun i60 h61 =>
 I 15 [.one (.ptr p0), .one (.slice 1 { a := some (i60, 0), len := 6 })]
 (fun cs62 h63 =>
 ∃ s64 : ByteArray, (cs62 = [.one (.str s64)]) ∧
 Q [.agg [.int .i64 n1, .str s64, .str s3, .str s4, .slice 3 l5, .slice 5 l6, .int .i64 n7, .int .i64 n8, .slice 9 l9]] h63) h61)) h58) h55) h53)
 (ifT (decide (n48 = 2))
 (fun h65 =>
 (newK (.cells false [.str { data := #[] }, .str { data := #[120] }, .str { data := #[110, 111] }]) (fun i66 h67 =>
 I 15 [.one (.ptr p0), .one (.slice 1 { a := some (i66, 0), len := 3 })]
 (fun cs68 h69 =>
 ∃ s70 : ByteArray, (cs68 = [.one (.str s70)]) ∧
 Q [.agg [.int .i64 n1, .str s2, .str s70, .str s4, .slice 3 l5, .slice 5 l6, .int .i64 n7, .int .i64 n8, .slice 9 l9]] h69) h67)) h65)
 (ifT (decide (n48 = 3))
 (fun h71 =>
 (newK (.cells false [.str { data := #[] }, .str { data := #[61, 61] }, .str { data := #[60] }]) (fun i72 h73 =>
 I 15 [.one (.ptr p0), .one (.slice 1 { a := some (i72, 0), len := 3 })]
 (fun cs74 h75 =>
 ∃ s76 : ByteArray, (cs74 = [.one (.str s76)]) ∧
 Q [.agg [.int .i64 n1, .str s2, .str s3, .str s76, .slice 3 l5, .slice 5 l6, .int .i64 n7, .int .i64 n8, .slice 9 l9]] h75) h73)) h71)
 (ifT (decide (n48 = 4))
 (fun h77 =>
 I 17 [.one (.slice 3 l5)]
 (fun cs78 h79 =>
 ∃ l80 : Sl, (cs78 = [.one (.slice 3 l80)]) ∧
 I 12 [.one (.ptr p0), .one (.int .i64 0), .one (.int .i64 5)]
 (fun cs81 h82 =>
 ∃ n83 : Int, (cs81 = [.one (.int .i64 n83)]) ∧
 (newK (.cells false [.str { data := #[] }, .str { data := #[120] }]) (fun i84 h85 =>
 I 15 [.one (.ptr p0), .one (.slice 1 { a := some (i84, 0), len := 2 })]
 (fun cs86 h87 =>
 ∃ s88 : ByteArray, (cs86 = [.one (.str s88)]) ∧
 I 13 [.one (.ptr p0), .one (.int .i64 3)]
 (fun cs89 h90 =>
 ∃ n91 : Int, (cs89 = [.one (.int .i64 n91)]) ∧
 (appendTo [] 3 32 l80 1 [.int .i64 n83, .str s88, .int .i64 n91] (fun l92 h93 =>
 Q [.agg [.int .i64 n1, .str s2, .str s3, .str s4, .slice 3 l92, .slice 5 l6, .int .i64 n7, .int .i64 n8, .slice 9 l9]] h93)) h90) h87) h85)) h82) h79) h77)
 (ifT (decide (n48 = 5))
 (fun h94 =>
 (newK (.cells false [.int .i64 (-1), .int .i64 4321440, .int .i64 4321441, .int .i64 5]) (fun i95 h96 =>
 I 11 [.one (.ptr p0), .one (.slice 1 { a := some (i95, 0), len := 4 })]
 (fun cs97 h98 =>
 ∃ n99 : Int, (cs97 = [.one (.int .i64 n99)]) ∧
 Q [.agg [.int .i64 n1, .str s2, .str s3, .str s4, .slice 3 l5, .slice 5 l6, .int .i64 n99, .int .i64 n8, .slice 9 l9]] h98) h96)) h94)
 (ifT (decide (n48 = 6))
 (fun h100 =>
 (newK (.cells false [.int .i64 (-1), .int .i64 4321440, .int .i64 4321441, .int .i64 5000000000000000, .int .i64 5000000000000001]) (fun i101 h102 =>
 I 11 [.one (.ptr p0), .one (.slice 1 { a := some (i101, 0), len := 5 })]
 (fun cs103 h104 =>
 ∃ n105 : Int, (cs103 = [.one (.int .i64 n105)]) ∧
 Q [.agg [.int .i64 n1, .str s2, .str s3, .str s4, .slice 3 l5, .slice 5 l6, .int .i64 n7, .int .i64 n105, .slice 9 l9]] h104) h102)) h100)
 (ifT (decide (n48 = 7))
 (fun h106 =>
 I 18 [.one (.slice 5 l6)]
 (fun cs107 h108 =>
 ∃ l109 : Sl, (cs107 = [.one (.slice 5 l109)]) ∧
 (newK (.cells false [.str { data := #[99, 101, 110, 116, 115] }, .str { data := #[] }, .str { data := #[105, 110] }]) (fun i110 h111 =>
 I 15 [.one (.ptr p0), .one (.slice 1 { a := some (i110, 0), len := 3 })]
 (fun cs112 h113 =>
 ∃ s114 : ByteArray, (cs112 = [.one (.str s114)]) ∧
 (newK (.cells false [.str { data := #[61] }, .str { data := #[126] }]) (fun i115 h116 =>
 I 15 [.one (.ptr p0), .one (.slice 1 { a := some (i115, 0), len := 2 })]
 (fun cs117 h118 =>
 ∃ s119 : ByteArray, (cs117 = [.one (.str s119)]) ∧
 I 12 [.one (.ptr p0), .one (.int .i64 0), .one (.int .i64 3)]
 (fun cs120 h121 =>
 ∃ n122 : Int, (cs120 = [.one (.int .i64 n122)]) ∧
 (appendTo [] 5 64 l109 1 [.str s114, .str s119, .int .i64 n122, .str ByteArray.empty, .int .i64 0] (fun l123 h124 =>
 Q [.agg [.int .i64 n1, .str s2, .str s3, .str s4, .slice 3 l5, .slice 5 l123, .int .i64 n7, .int .i64 n8, .slice 9 l9]] h124)) h121) h118) h116)) h113) h111)) h108) h106)
 (fun h125 =>
 (newK (.cells false [.int .i64 1, .int .i64 19, .int .i64 20]) (fun i126 h127 =>
 I 11 [.one (.ptr p0), .one (.slice 1 { a := some (i126, 0), len := 3 })]
 (fun cs128 h129 =>
 ∃ n130 : Int, (cs128 = [.one (.int .i64 n130)]) ∧
 (loopK (A := (Int × ByteArray × ByteArray × ByteArray × Sl × Sl × Int × Int × Sl × PUnit) × Int) (((n1, s2, s3, s4, l5, l6, n7, n8, l9, ()), 0))
 (fun x131 => uncur (uncur fun n132 => uncur fun s133 => uncur fun s134 => uncur fun s135 => uncur fun l136 => uncur fun l137 => uncur fun n138 => uncur fun n139 => uncur fun l140 x141 => fun n142 => ifT (decide (n142 < n130))
 (fun h143 =>
 (newK (.cells false [.int .i64 n132, .str s133, .str s134, .str s135, .slice 3 l136, .slice 5 l137, .int .i64 n138, .int .i64 n139, .slice 9 l140]) (fun i144 h145 =>
 x131 (((5, ByteArray.empty, ByteArray.empty, ByteArray.empty, { a := none, len := 0 }, { a := none, len := 0 }, 0, 0, { a := some (i144, 0), len := 1 }, ()), IntKind.i64.wrap (n142 + 1))) h145)) h143)
 (fun h146 =>
 Q [.agg [.int .i64 n132, .str s133, .str s134, .str s135, .slice 3 l136, .slice 5 l137, .int .i64 n138, .int .i64 n139, .slice 9 l140]] h146)))) h129) h127)) h125))))))))) h47) h45))
 (fun x147 => ifT (decide ((↑l9.len : Int) > 0))
 (fun h148 =>
 I 5 [.one (.ptr p0), .one (.int .i64 3)]
 (fun cs149 h150 =>
 ∃ b151 : Bool, (cs149 = [.one (.bool b151)]) ∧
 x147 (!b151) h150) h148)
 (x147 false))
theorem den6 (I : FuncId → List V → Post → T) (p0 : Option (Nat × Nat)) (n1 : Int) (s2 : ByteArray) (s3 : ByteArray) (s4 : ByteArray) (l5 : Sl) (l6 : Sl) (n7 : Int) (n8 : Int) (l9 : Sl) (Q : Post) : denF Go.Proofs.Tryz.prog 24 (⟨[(12, 32704, [(14, tk Go.Proofs.Tryz.prog 4)])], [(15466494, 138538465099784, [(3, tvar Go.Proofs.Tryz.prog 30), (41, tk Go.Proofs.Tryz.prog 3)])]⟩) I 6 [V.one (Cell.ptr p0), V.agg [Cell.int IntKind.i64 n1, Cell.str s2, Cell.str s3, Cell.str s4, Cell.slice 3 l5, Cell.slice 5 l6, Cell.int IntKind.i64 n7, Cell.int IntKind.i64 n8, Cell.slice 9 l9]] Q = vc6 I p0 n1 s2 s3 s4 l5 l6 n7 n8 l9 Q := by kernel_rfl
/-- handbill/handref1.CondFault -/
def vc9 (I : FuncId → List V → Post → T) (n0 : Int) (s1 : ByteArray) (s2 : ByteArray) (s3 : ByteArray) (l4 : Sl) (l5 : Sl) (n6 : Int) (n7 : Int) (l8 : Sl) (Q : Post) : T :=
 fun h9 =>
 I 23 [.agg [.int .i64 n0, .str s1, .str s2, .str s3, .slice 3 l4, .slice 5 l5, .int .i64 n6, .int .i64 n7, .slice 9 l8]]
 (fun cs10 h11 =>
 ∃ n12 : Int, ∃ n13 : Int, (cs10 = [.one (.int .i64 n12), .one (.int .i64 n13)]) ∧
 (ifT (decide (n12 > 300))
 (Q [.one (.int .i64 2)])
 (ifT (decide (n13 > 20))
 (Q [.one (.int .i64 2)])
 (fun h14 =>
 I 24 [.agg [.int .i64 n0, .str s1, .str s2, .str s3, .slice 3 l4, .slice 5 l5, .int .i64 n6, .int .i64 n7, .slice 9 l8]]
 (fun cs15 h16 =>
 ∃ n17 : Int, (cs15 = [.one (.int .i64 n17)]) ∧
 Q [.one (.int .i64 n17)] h16) h14))) h11) h9
theorem den9 (I : FuncId → List V → Post → T) (n0 : Int) (s1 : ByteArray) (s2 : ByteArray) (s3 : ByteArray) (l4 : Sl) (l5 : Sl) (n6 : Int) (n7 : Int) (l8 : Sl) (Q : Post) : denF Go.Proofs.Tryz.prog 2 (⟨[], []⟩) I 9 [V.agg [Cell.int IntKind.i64 n0, Cell.str s1, Cell.str s2, Cell.str s3, Cell.slice 3 l4, Cell.slice 5 l5, Cell.int IntKind.i64 n6, Cell.int IntKind.i64 n7, Cell.slice 9 l8]] Q = vc9 I n0 s1 s2 s3 l4 l5 n6 n7 l8 Q := by kernel_rfl
/-- handbill/handref1.size -/
def vc23 (I : FuncId → List V → Post → T) (n0 : Int) (s1 : ByteArray) (s2 : ByteArray) (s3 : ByteArray) (l4 : Sl) (l5 : Sl) (n6 : Int) (n7 : Int) (l8 : Sl) (Q : Post) : T :=
 loopK (A := Int × Int × Int) ((1, 1, 0))
 (fun x9 => uncur fun n10 => uncur fun n11 n12 => ifT (decide (n12 < (↑l8.len : Int)))
 (fun h13 =>
 ((0 ≤ n12) ∧
 n12 < (↑l8.len : Int)) ∧
 (derefK l8.a (fun i14 => fun i15 h16 =>
 ∃ n17 : Int, ∃ s18 : ByteArray, ∃ s19 : ByteArray, ∃ s20 : ByteArray, ∃ l21 : Sl, ∃ l22 : Sl, ∃ n23 : Int, ∃ n24 : Int, ∃ l25 : Sl, (h16.read i14 (i15 + n12.toNat * 9) 9 = some [.int .i64 n17, .str s18, .str s19, .str s20, .slice 3 l21, .slice 5 l22, .int .i64 n23, .int .i64 n24, .slice 9 l25]) ∧
 I 23 [.agg [.int .i64 n17, .str s18, .str s19, .str s20, .slice 3 l21, .slice 5 l22, .int .i64 n23, .int .i64 n24, .slice 9 l25]]
 (fun cs26 h27 =>
 ∃ n28 : Int, ∃ n29 : Int, (cs26 = [.one (.int .i64 n28), .one (.int .i64 n29)]) ∧
 x9 ((IntKind.i64.wrap (n10 + n28), max n11 (IntKind.i64.wrap (n29 + 1)), IntKind.i64.wrap (n12 + 1))) h27) h16)) h13)
 (Q [.one (.int .i64 n10), .one (.int .i64 n11)]))
theorem den23 (I : FuncId → List V → Post → T) (n0 : Int) (s1 : ByteArray) (s2 : ByteArray) (s3 : ByteArray) (l4 : Sl) (l5 : Sl) (n6 : Int) (n7 : Int) (l8 : Sl) (Q : Post) : denF Go.Proofs.Tryz.prog 34 (⟨[], [(58, 268433644, [(2, tk Go.Proofs.Tryz.prog 3), (3, tk Go.Proofs.Tryz.prog 3), (11, tk Go.Proofs.Tryz.prog 3)])]⟩) I 23 [V.agg [Cell.int IntKind.i64 n0, Cell.str s1, Cell.str s2, Cell.str s3, Cell.slice 3 l4, Cell.slice 5 l5, Cell.int IntKind.i64 n6, Cell.int IntKind.i64 n7, Cell.slice 9 l8]] Q = vc23 I n0 s1 s2 s3 l4 l5 n6 n7 l8 Q := by kernel_rfl
/-- handbill/handref1.condFault -/
def vc24 (I : FuncId → List V → Post → T) (n0 : Int) (s1 : ByteArray) (s2 : ByteArray) (s3 : ByteArray) (l4 : Sl) (l5 : Sl) (n6 : Int) (n7 : Int) (l8 : Sl) (Q : Post) : T :=
 joinK (A := Bool)
 (fun b9 => ifT b9
 (Q [.one (.int .i64 4)])
 (fun h10 =>
 I 49 [.one (.int .i64 n0)]
 (fun cs11 h12 =>
 ∃ s13 : ByteArray, (cs11 = [.one (.str s13)]) ∧
 I 50 [.agg [.int .i64 n0, .str s1, .str s2, .str s3, .slice 3 l4, .slice 5 l5, .int .i64 n6, .int .i64 n7, .slice 9 l8]]
 (fun cs14 h15 =>
 ∃ b16 : Bool, (cs14 = [.one (.bool b16)]) ∧
 (ifT b16
 (Q [.one (.int .i64 3)])
 (joinK (A := Bool)
 (fun b17 => joinK (A := Bool)
 (fun b18 => ifT b18
 (Q [.one (.int .i64 5)])
 (joinK (A := Bool)
 (fun b19 => ifT b19
 (Q [.one (.int .i64 4)])
 (loopK (A := Int) 0
 (fun x20 n21 => ifT (decide (n21 < (↑l4.len : Int)))
 (fun h22 =>
 ((0 ≤ n21) ∧
 n21 < (↑l4.len : Int)) ∧
 (derefK l4.a (fun i23 => fun i24 h25 =>
 ∃ n26 : Int, ∃ s27 : ByteArray, ∃ n28 : Int, (h25.read i23 (i24 + n21.toNat * 3) 3 = some [.int .i64 n26, .str s27, .int .i64 n28]) ∧
 I 55 [.agg [.int .i64 n26, .str s27, .int .i64 n28]]
 (fun cs29 h30 =>
 ∃ n31 : Int, (cs29 = [.one (.int .i64 n31)]) ∧
 (ifT (!decide (n31 = 0))
 (Q [.one (.int .i64 n31)])
 (x20 (IntKind.i64.wrap (n21 + 1)))) h30) h25)) h22)
 (joinK (A := Bool)
 (fun b32 => ifT b32
 (Q [.one (.int .i64 10)])
 (loopK (A := Int) 0
 (fun x33 n34 => ifT (decide (n34 < (↑l5.len : Int)))
 (fun h35 =>
 ((0 ≤ n34) ∧
 n34 < (↑l5.len : Int)) ∧
 (derefK l5.a (fun i36 => fun i37 h38 =>
 ∃ s39 : ByteArray, ∃ s40 : ByteArray, ∃ n41 : Int, ∃ s42 : ByteArray, ∃ n43 : Int, (h38.read i36 (i37 + n34.toNat * 5) 5 = some [.str s39, .str s40, .int .i64 n41, .str s42, .int .i64 n43]) ∧
 I 52 [.one (.str s39)]
 (fun cs44 h45 =>
 ∃ b46 : Bool, (cs44 = [.one (.bool b46)]) ∧
 (ifT (!b46)
 (Q [.one (.int .i64 5)])
 (fun h47 =>
 I 54 []
 (fun cs48 h49 =>
 ∃ l50 : Sl, (cs48 = [.one (.slice 1 l50)]) ∧
 I 53 [.one (.slice 1 l50), .one (.str s40)]
 (fun cs51 h52 =>
 ∃ b53 : Bool, (cs51 = [.one (.bool b53)]) ∧
 (ifT (!b53)
 (Q [.one (.int .i64 4)])
 (fun h54 =>
 I 55 [.agg [.int .i64 n41, .str s42, .int .i64 n43]]
 (fun cs55 h56 =>
 ∃ n57 : Int, (cs55 = [.one (.int .i64 n57)]) ∧
 (ifT (!decide (n57 = 0))
 (Q [.one (.int .i64 n57)])
 (x33 (IntKind.i64.wrap (n34 + 1)))) h56) h54)) h52) h49) h47)) h45) h38)) h35)
 (joinK (A := Int × Int)
 (uncur fun n58 n59 => joinK (A := Bool)
 (fun b60 => ifT b60
 (Q [.one (.int .i64 1)])
 (loopK (A := Int) 0
 (fun x61 n62 => ifT (decide (n62 < (↑l8.len : Int)))
 (fun h63 =>
 ((0 ≤ n62) ∧
 n62 < (↑l8.len : Int)) ∧
 (derefK l8.a (fun i64 => fun i65 h66 =>
 ∃ n67 : Int, ∃ s68 : ByteArray, ∃ s69 : ByteArray, ∃ s70 : ByteArray, ∃ l71 : Sl, ∃ l72 : Sl, ∃ n73 : Int, ∃ n74 : Int, ∃ l75 : Sl, (h66.read i64 (i65 + n62.toNat * 9) 9 = some [.int .i64 n67, .str s68, .str s69, .str s70, .slice 3 l71, .slice 5 l72, .int .i64 n73, .int .i64 n74, .slice 9 l75]) ∧
 I 24 [.agg [.int .i64 n67, .str s68, .str s69, .str s70, .slice 3 l71, .slice 5 l72, .int .i64 n73, .int .i64 n74, .slice 9 l75]]
 (fun cs76 h77 =>
 ∃ n78 : Int, (cs76 = [.one (.int .i64 n78)]) ∧
 (ifT (!decide (n78 = 0))
 (Q [.one (.int .i64 n78)])
 (x61 (IntKind.i64.wrap (n62 + 1)))) h77) h66)) h63)
 (Q [.one (.int .i64 0)]))))
 (fun x79 => ifT (decide (n6 < 0))
 (x79 true)
 (ifT (decide (n6 > 4321440))
 (x79 true)
 (ifT (decide (n7 < n58))
 (x79 true)
 (x79 (decide (n7 > n59)))))))
 (fun x80 => ifT (decide (n0 = 13))
 (x80 ((0, 4321440)))
 (x80 ((-5000000000000000, 5000000000000000))))))))
 (fun x81 => ifT (decide (n0 = 9))
 (fun h82 =>
 (((0 : Int) ≤ (0 : Int)) ∧
 0 < (↑l4.len : Int)) ∧
 (derefK l4.a (fun i83 => fun i84 h85 =>
 ∃ n86 : Int, (h85.read i83 (i84 + 0 + 0) 1 = some [.int .i64 n86]) ∧
 x81 (!decide (n86 = 1)) h85)) h82)
 (ifT (decide (n0 = 10))
 (fun h87 =>
 (((0 : Int) ≤ (0 : Int)) ∧
 0 < (↑l4.len : Int)) ∧
 (derefK l4.a (fun i88 => fun i89 h90 =>
 ∃ n91 : Int, (h90.read i88 (i89 + 0 + 0) 1 = some [.int .i64 n91]) ∧
 x81 (!decide (n91 = 1)) h90)) h87)
 (x81 false)))))))
 (fun x92 h93 =>
 I 51 [.one (.str s13), .one (.str { data := #[115] })]
 (fun cs94 h95 =>
 ∃ b96 : Bool, (cs94 = [.one (.bool b96)]) ∧
 (ifT b96
 (fun h97 =>
 I 54 []
 (fun cs98 h99 =>
 ∃ l100 : Sl, (cs98 = [.one (.slice 1 l100)]) ∧
 I 53 [.one (.slice 1 l100), .one (.str s3)]
 (fun cs101 h102 =>
 ∃ b103 : Bool, (cs101 = [.one (.bool b103)]) ∧
 x92 (!b103) h102) h99) h97)
 (x92 false)) h95) h93)))
 (fun x104 => ifT b17
 (x104 b17)
 (joinK (A := Bool)
 (fun b105 h106 =>
 x104 b105 h106)
 (fun x107 h108 =>
 I 51 [.one (.str s13), .one (.str { data := #[102] })]
 (fun cs109 h110 =>
 ∃ b111 : Bool, (cs109 = [.one (.bool b111)]) ∧
 (ifT b111
 (fun h112 =>
 I 52 [.one (.str s2)]
 (fun cs113 h114 =>
 ∃ b115 : Bool, (cs113 = [.one (.bool b115)]) ∧
 x107 (!b115) h114) h112)
 (x107 false)) h110) h108))))
 (fun x116 h117 =>
 I 51 [.one (.str s13), .one (.str { data := #[110] })]
 (fun cs118 h119 =>
 ∃ b120 : Bool, (cs118 = [.one (.bool b120)]) ∧
 (ifT b120
 (fun h121 =>
 I 52 [.one (.str s1)]
 (fun cs122 h123 =>
 ∃ b124 : Bool, (cs122 = [.one (.bool b124)]) ∧
 x116 (!b124) h123) h121)
 (x116 false)) h119) h117))) h15) h12) h10))
 (fun x125 => ifT (decide (n0 < 1))
 (x125 true)
 (x125 (decide (n0 > 14))))
theorem den24 (I : FuncId → List V → Post → T) (n0 : Int) (s1 : ByteArray) (s2 : ByteArray) (s3 : ByteArray) (l4 : Sl) (l5 : Sl) (n6 : Int) (n7 : Int) (l8 : Sl) (Q : Post) : denF Go.Proofs.Tryz.prog 8482 (⟨[(12, 8355840, [(22, tk Go.Proofs.Tryz.prog 4)]), (252, 38685035931857774884945920, [(84, tk Go.Proofs.Tryz.prog 4)]), (972, 274341036032, [(29, tk Go.Proofs.Tryz.prog 4)]), (973, 70094403141632, [(29, tk Go.Proofs.Tryz.prog 4)]), (1947, 70094403141632, [(29, tk Go.Proofs.Tryz.prog 4)]), (1950, 71987225293750272, [(46, tk Go.Proofs.Tryz.prog 4)]), (2045, 3072, [(10, tk Go.Proofs.Tryz.prog 3), (11, tk Go.Proofs.Tryz.prog 3)]), (4092, 2722256339219078440293182594205981081600, [(130, tk Go.Proofs.Tryz.prog 4)])], [(250, 589719349606402228324, [(59, tk Go.Proofs.Tryz.prog 3)]), (1018, 324518244173416905438087295795972, [(88, tk Go.Proofs.Tryz.prog 3)]), (16378, 22278967127047683079874062297772728340471812, [(134, tk Go.Proofs.Tryz.prog 3)])]⟩) I 24 [V.agg [Cell.int IntKind.i64 n0, Cell.str s1, Cell.str s2, Cell.str s3, Cell.slice 3 l4, Cell.slice 5 l5, Cell.int IntKind.i64 n6, Cell.int IntKind.i64 n7, Cell.slice 9 l8]] Q = vc24 I n0 s1 s2 s3 l4 l5 n6 n7 l8 Q := by kernel_rfl
/-- handbill/handref2.ValueFault -/
def vc55 (I : FuncId → List V → Post → T) (n0 : Int) (s1 : ByteArray) (n2 : Int) (Q : Post) : T :=
 fun h3 =>
 I 78 [.one (.int .i64 n0), .one (.int .i64 1), .one (.int .i64 4)]
 (fun cs4 h5 =>
 ∃ b6 : Bool, (cs4 = [.one (.bool b6)]) ∧
 (ifT (!b6)
 (Q [.one (.int .i64 4)])
 (ifT (decide (n0 = 1))
 (ifT (!decide (n2 = 0))
 (Q [.one (.int .i64 3)])
 (ifT (decide ((↑s1.size : Int) > 200))
 (Q [.one (.int .i64 2)])
 (fun h7 =>
 I 79 [.one (.str s1)]
 (fun cs8 h9 =>
 ∃ l10 : Sl, (cs8 = [.one (.slice 1 l10)]) ∧
 (loopK (A := Int) 0
 (fun x11 n12 => ifT (decide (n12 < (↑l10.len : Int)))
 (fun h13 =>
 ((0 ≤ n12) ∧
 n12 < (↑l10.len : Int)) ∧
 (derefK l10.a (fun i14 => fun i15 h16 =>
 ∃ n17 : Int, (h16.read i14 (i15 + n12.toNat * 1) 1 = some [.int .i64 n17]) ∧
 (ifT (decide (n17 < 32))
 (Q [.one (.int .i64 3)])
 (ifT (decide (n17 = 127))
 (Q [.one (.int .i64 3)])
 (x11 (IntKind.i64.wrap (n12 + 1))))) h16)) h13)
 (Q [.one (.int .i64 0)]))) h9) h7)))
 (ifT (!decide (s1 = { data := #[] }))
 (Q [.one (.int .i64 3)])
 (fun h18 =>
 ((0 ≤ n0) ∧
 n0 < (↑5 : Int)) ∧
 ((0 ≤ n0) ∧
 n0 < (↑5 : Int)) ∧
 I 78 [.one (.int .i64 n2), .one (.int .i64 (nthI [.int .i64 0, .int .i64 0, .int .i64 (-1000000000000), .int .i64 0, .int .i64 0] n0)), .one (.int .i64 (nthI [.int .i64 0, .int .i64 0, .int .i64 1000000000000, .int .i64 1, .int .i64 4321439] n0))]
 (fun cs19 h20 =>
 ∃ b21 : Bool, (cs19 = [.one (.bool b21)]) ∧
 (ifT (!b21)
 (Q [.one (.int .i64 1)])
 (Q [.one (.int .i64 0)])) h20) h18)))) h5) h3
theorem den55 (I : FuncId → List V → Post → T) (n0 : Int) (s1 : ByteArray) (n2 : Int) (Q : Post) : denF Go.Proofs.Tryz.prog 2 (⟨[], [(938, 274743689236, [(27, tk Go.Proofs.Tryz.prog 3)])]⟩) I 55 [V.agg [Cell.int IntKind.i64 n0, Cell.str s1, Cell.int IntKind.i64 n2]] Q = vc55 I n0 s1 n2 Q := by kernel_rfl
/-- handbill/handref2.in -/
def vc78 (I : FuncId → List V → Post → T) (n0 : Int) (n1 : Int) (n2 : Int) (Q : Post) : T :=
 ifT (decide (n1 ≤ n0))
 (Q [.one (.bool (decide (n0 ≤ n2)))])
 (Q [.one (.bool false)])
theorem den78 (I : FuncId → List V → Post → T) (n0 : Int) (n1 : Int) (n2 : Int) (Q : Post) : denF Go.Proofs.Tryz.prog 0 (⟨[], []⟩) I 78 [V.one (Cell.int IntKind.i64 n0), V.one (Cell.int IntKind.i64 n1), V.one (Cell.int IntKind.i64 n2)] Q = vc78 I n0 n1 n2 Q := by kernel_rfl
/-- handbill/handref2.points -/
def vc79 (I : FuncId → List V → Post → T) (s0 : ByteArray) (Q : Post) : T :=
 loopK (A := ByteArray × Sl) ((s0, { a := none, len := 0 }))
 (fun x1 => uncur fun s2 l3 => ifT (!decide (s2 = { data := #[] }))
 (fun h4 =>
 I 112 [.one (.str s2)]
 (fun cs5 h6 =>
 ∃ n7 : Int, ∃ n8 : Int, (cs5 = [.one (.int .i32 n7), .one (.int .i64 n8)]) ∧
 (joinK (A := Bool)
 (fun b9 => ifT b9
 (fun h10 =>
 (((0 : Int) ≤ (0 : Int)) ∧
 0 < (↑s2.size : Int)) ∧
 (appendTo [] 1 8 l3 1 [.int .i64 (IntKind.i64.wrap (-1 - IntKind.i64.wrap (byteAt s2 0)))] (fun l11 h12 =>
 ((0 ≤ n8) ∧
 (n8 ≤ (↑s2.size : Int)) ∧
 (↑s2.size : Int) ≤ (↑s2.size : Int)) ∧
 x1 ((s2.extract n8.toNat (↑s2.size : Int).toNat, l11)) h12)) h10)
 (fun h13 =>
 (appendTo [] 1 8 l3 1 [.int .i64 (IntKind.i64.wrap n7)] (fun l14 h15 =>
 ((0 ≤ n8) ∧
 (n8 ≤ (↑s2.size : Int)) ∧
 (↑s2.size : Int) ≤ (↑s2.size : Int)) ∧
 x1 ((s2.extract n8.toNat (↑s2.size : Int).toNat, l14)) h15)) h13))
 (fun x16 => ifT (decide (n7 = 65533))
 (x16 (decide (n8 = 1)))
 (x16 false))) h6) h4)
 (Q [.one (.slice 1 l3)]))
theorem den79 (I : FuncId → List V → Post → T) (s0 : ByteArray) (Q : Post) : denF Go.Proofs.Tryz.prog 0 (⟨[(1812, 516096, [(18, tk Go.Proofs.Tryz.prog 4)])], [(28, 17179869177, [(0, tk Go.Proofs.Tryz.prog 9), (3, tk Go.Proofs.Tryz.prog 22)])]⟩) I 79 [V.one (Cell.str s0)] Q = vc79 I s0 Q := by kernel_rfl
/-- handbill/handref1.uses -/
def vc49 (I : FuncId → List V → Post → T) (n0 : Int) (Q : Post) : T :=
 fun h1 =>
 ((0 ≤ n0) ∧
 n0 < (↑15 : Int)) ∧
 Q [.one (.str (nthS [.str ByteArray.empty, .str { data := #[] }, .str { data := #[] }, .str { data := #[] }, .str { data := #[] }, .str { data := #[] }, .str { data := #[110] }, .str { data := #[110, 115] }, .str { data := #[110] }, .str { data := #[110] }, .str { data := #[110] }, .str { data := #[110, 115, 119, 105, 109] }, .str { data := #[110, 102, 115, 119, 105, 109] }, .str { data := #[110, 115, 119, 109] }, .str { data := #[110, 102, 105] }] n0))] h1
theorem den49 (I : FuncId → List V → Post → T) (n0 : Int) (Q : Post) : denF Go.Proofs.Tryz.prog 0 (⟨[], []⟩) I 49 [V.one (Cell.int IntKind.i64 n0)] Q = vc49 I n0 Q := by kernel_rfl
/-- handbill/handref1.formFault -/
def vc50 (I : FuncId → List V → Post → T) (n0 : Int) (s1 : ByteArray) (s2 : ByteArray) (s3 : ByteArray) (l4 : Sl) (l5 : Sl) (n6 : Int) (n7 : Int) (l8 : Sl) (Q : Post) : T :=
 fun h9 =>
 I 49 [.one (.int .i64 n0)]
 (fun cs10 h11 =>
 ∃ s12 : ByteArray, (cs10 = [.one (.str s12)]) ∧
 I 74 [.one (.int .i64 n0)]
 (fun cs13 h14 =>
 ∃ n15 : Int, ∃ n16 : Int, ∃ n17 : Int, ∃ n18 : Int, (cs13 = [.one (.int .i64 n15), .one (.int .i64 n16), .one (.int .i64 n17), .one (.int .i64 n18)]) ∧
 (joinK (A := Bool)
 (fun b19 h20 =>
 I 51 [.one (.str s12), .one (.str { data := #[119] })]
 (fun cs21 h22 =>
 ∃ b23 : Bool, (cs21 = [.one (.bool b23)]) ∧
 (joinK (A := Int)
 (fun n24 => ifT b19
 (Q [.one (.bool true)])
 (ifT (decide ((↑l8.len : Int) < n15))
 (Q [.one (.bool true)])
 (ifT (decide ((↑l8.len : Int) > n16))
 (Q [.one (.bool true)])
 (ifT (decide ((↑l4.len : Int) < n17))
 (Q [.one (.bool true)])
 (ifT (decide ((↑l4.len : Int) > n18))
 (Q [.one (.bool true)])
 (Q [.one (.bool (decide ((↑l5.len : Int) > n24)))]))))))
 (fun x25 => ifT b23
 (x25 5)
 (x25 0))) h22) h20)
 (fun x26 h27 =>
 I 51 [.one (.str s12), .one (.str { data := #[110] })]
 (fun cs28 h29 =>
 ∃ b30 : Bool, (cs28 = [.one (.bool b30)]) ∧
 (ifT (!b30)
 (ifT (!decide (s1 = { data := #[] }))
 (x26 true)
 (fun h31 =>
 I 51 [.one (.str s12), .one (.str { data := #[102] })]
 (fun cs32 h33 =>
 ∃ b34 : Bool, (cs32 = [.one (.bool b34)]) ∧
 (ifT (!b34)
 (ifT (!decide (s2 = { data := #[] }))
 (x26 true)
 (fun h35 =>
 I 51 [.one (.str s12), .one (.str { data := #[115] })]
 (fun cs36 h37 =>
 ∃ b38 : Bool, (cs36 = [.one (.bool b38)]) ∧
 (ifT (!b38)
 (ifT (!decide (s3 = { data := #[] }))
 (x26 true)
 (fun h39 =>
 I 51 [.one (.str s12), .one (.str { data := #[105] })]
 (fun cs40 h41 =>
 ∃ b42 : Bool, (cs40 = [.one (.bool b42)]) ∧
 (ifT (!b42)
 (ifT (!decide (n6 = 0))
 (x26 true)
 (fun h43 =>
 I 51 [.one (.str s12), .one (.str { data := #[109] })]
 (fun cs44 h45 =>
 ∃ b46 : Bool, (cs44 = [.one (.bool b46)]) ∧
 (ifT (!b46)
 (x26 (!decide (n7 = 0)))
 (x26 false)) h45) h43))
 (fun h47 =>
 I 51 [.one (.str s12), .one (.str { data := #[109] })]
 (fun cs48 h49 =>
 ∃ b50 : Bool, (cs48 = [.one (.bool b50)]) ∧
 (ifT (!b50)
 (x26 (!decide (n7 = 0)))
 (x26 false)) h49) h47)) h41) h39))
 (fun h51 =>
 I 51 [.one (.str s12), .one (.str { data := #[105] })]
 (fun cs52 h53 =>
 ∃ b54 : Bool, (cs52 = [.one (.bool b54)]) ∧
 (ifT (!b54)
 (ifT (!decide (n6 = 0))
 (x26 true)
 (fun h55 =>
 I 51 [.one (.str s12), .one (.str { data := #[109] })]
 (fun cs56 h57 =>
 ∃ b58 : Bool, (cs56 = [.one (.bool b58)]) ∧
 (ifT (!b58)
 (x26 (!decide (n7 = 0)))
 (x26 false)) h57) h55))
 (fun h59 =>
 I 51 [.one (.str s12), .one (.str { data := #[109] })]
 (fun cs60 h61 =>
 ∃ b62 : Bool, (cs60 = [.one (.bool b62)]) ∧
 (ifT (!b62)
 (x26 (!decide (n7 = 0)))
 (x26 false)) h61) h59)) h53) h51)) h37) h35))
 (fun h63 =>
 I 51 [.one (.str s12), .one (.str { data := #[115] })]
 (fun cs64 h65 =>
 ∃ b66 : Bool, (cs64 = [.one (.bool b66)]) ∧
 (ifT (!b66)
 (ifT (!decide (s3 = { data := #[] }))
 (x26 true)
 (fun h67 =>
 I 51 [.one (.str s12), .one (.str { data := #[105] })]
 (fun cs68 h69 =>
 ∃ b70 : Bool, (cs68 = [.one (.bool b70)]) ∧
 (ifT (!b70)
 (ifT (!decide (n6 = 0))
 (x26 true)
 (fun h71 =>
 I 51 [.one (.str s12), .one (.str { data := #[109] })]
 (fun cs72 h73 =>
 ∃ b74 : Bool, (cs72 = [.one (.bool b74)]) ∧
 (ifT (!b74)
 (x26 (!decide (n7 = 0)))
 (x26 false)) h73) h71))
 (fun h75 =>
 I 51 [.one (.str s12), .one (.str { data := #[109] })]
 (fun cs76 h77 =>
 ∃ b78 : Bool, (cs76 = [.one (.bool b78)]) ∧
 (ifT (!b78)
 (x26 (!decide (n7 = 0)))
 (x26 false)) h77) h75)) h69) h67))
 (fun h79 =>
 I 51 [.one (.str s12), .one (.str { data := #[105] })]
 (fun cs80 h81 =>
 ∃ b82 : Bool, (cs80 = [.one (.bool b82)]) ∧
 (ifT (!b82)
 (ifT (!decide (n6 = 0))
 (x26 true)
 (fun h83 =>
 I 51 [.one (.str s12), .one (.str { data := #[109] })]
 (fun cs84 h85 =>
 ∃ b86 : Bool, (cs84 = [.one (.bool b86)]) ∧
 (ifT (!b86)
 (x26 (!decide (n7 = 0)))
 (x26 false)) h85) h83))
 (fun h87 =>
 I 51 [.one (.str s12), .one (.str { data := #[109] })]
 (fun cs88 h89 =>
 ∃ b90 : Bool, (cs88 = [.one (.bool b90)]) ∧
 (ifT (!b90)
 (x26 (!decide (n7 = 0)))
 (x26 false)) h89) h87)) h81) h79)) h65) h63)) h33) h31))
 (fun h91 =>
 I 51 [.one (.str s12), .one (.str { data := #[102] })]
 (fun cs92 h93 =>
 ∃ b94 : Bool, (cs92 = [.one (.bool b94)]) ∧
 (ifT (!b94)
 (ifT (!decide (s2 = { data := #[] }))
 (x26 true)
 (fun h95 =>
 I 51 [.one (.str s12), .one (.str { data := #[115] })]
 (fun cs96 h97 =>
 ∃ b98 : Bool, (cs96 = [.one (.bool b98)]) ∧
 (ifT (!b98)
 (ifT (!decide (s3 = { data := #[] }))
 (x26 true)
 (fun h99 =>
 I 51 [.one (.str s12), .one (.str { data := #[105] })]
 (fun cs100 h101 =>
 ∃ b102 : Bool, (cs100 = [.one (.bool b102)]) ∧
 (ifT (!b102)
 (ifT (!decide (n6 = 0))
 (x26 true)
 (fun h103 =>
 I 51 [.one (.str s12), .one (.str { data := #[109] })]
 (fun cs104 h105 =>
 ∃ b106 : Bool, (cs104 = [.one (.bool b106)]) ∧
 (ifT (!b106)
 (x26 (!decide (n7 = 0)))
 (x26 false)) h105) h103))
 (fun h107 =>
 I 51 [.one (.str s12), .one (.str { data := #[109] })]
 (fun cs108 h109 =>
 ∃ b110 : Bool, (cs108 = [.one (.bool b110)]) ∧
 (ifT (!b110)
 (x26 (!decide (n7 = 0)))
 (x26 false)) h109) h107)) h101) h99))
 (fun h111 =>
 I 51 [.one (.str s12), .one (.str { data := #[105] })]
 (fun cs112 h113 =>
 ∃ b114 : Bool, (cs112 = [.one (.bool b114)]) ∧
 (ifT (!b114)
 (ifT (!decide (n6 = 0))
 (x26 true)
 (fun h115 =>
 I 51 [.one (.str s12), .one (.str { data := #[109] })]
 (fun cs116 h117 =>
 ∃ b118 : Bool, (cs116 = [.one (.bool b118)]) ∧
 (ifT (!b118)
 (x26 (!decide (n7 = 0)))
 (x26 false)) h117) h115))
 (fun h119 =>
 I 51 [.one (.str s12), .one (.str { data := #[109] })]
 (fun cs120 h121 =>
 ∃ b122 : Bool, (cs120 = [.one (.bool b122)]) ∧
 (ifT (!b122)
 (x26 (!decide (n7 = 0)))
 (x26 false)) h121) h119)) h113) h111)) h97) h95))
 (fun h123 =>
 I 51 [.one (.str s12), .one (.str { data := #[115] })]
 (fun cs124 h125 =>
 ∃ b126 : Bool, (cs124 = [.one (.bool b126)]) ∧
 (ifT (!b126)
 (ifT (!decide (s3 = { data := #[] }))
 (x26 true)
 (fun h127 =>
 I 51 [.one (.str s12), .one (.str { data := #[105] })]
 (fun cs128 h129 =>
 ∃ b130 : Bool, (cs128 = [.one (.bool b130)]) ∧
 (ifT (!b130)
 (ifT (!decide (n6 = 0))
 (x26 true)
 (fun h131 =>
 I 51 [.one (.str s12), .one (.str { data := #[109] })]
 (fun cs132 h133 =>
 ∃ b134 : Bool, (cs132 = [.one (.bool b134)]) ∧
 (ifT (!b134)
 (x26 (!decide (n7 = 0)))
 (x26 false)) h133) h131))
 (fun h135 =>
 I 51 [.one (.str s12), .one (.str { data := #[109] })]
 (fun cs136 h137 =>
 ∃ b138 : Bool, (cs136 = [.one (.bool b138)]) ∧
 (ifT (!b138)
 (x26 (!decide (n7 = 0)))
 (x26 false)) h137) h135)) h129) h127))
 (fun h139 =>
 I 51 [.one (.str s12), .one (.str { data := #[105] })]
 (fun cs140 h141 =>
 ∃ b142 : Bool, (cs140 = [.one (.bool b142)]) ∧
 (ifT (!b142)
 (ifT (!decide (n6 = 0))
 (x26 true)
 (fun h143 =>
 I 51 [.one (.str s12), .one (.str { data := #[109] })]
 (fun cs144 h145 =>
 ∃ b146 : Bool, (cs144 = [.one (.bool b146)]) ∧
 (ifT (!b146)
 (x26 (!decide (n7 = 0)))
 (x26 false)) h145) h143))
 (fun h147 =>
 I 51 [.one (.str s12), .one (.str { data := #[109] })]
 (fun cs148 h149 =>
 ∃ b150 : Bool, (cs148 = [.one (.bool b150)]) ∧
 (ifT (!b150)
 (x26 (!decide (n7 = 0)))
 (x26 false)) h149) h147)) h141) h139)) h125) h123)) h93) h91)) h29) h27)) h14) h11) h9
theorem den50 (I : FuncId → List V → Post → T) (n0 : Int) (s1 : ByteArray) (s2 : ByteArray) (s3 : ByteArray) (l4 : Sl) (l5 : Sl) (n6 : Int) (n7 : Int) (l8 : Sl) (Q : Post) : denF Go.Proofs.Tryz.prog 2 (⟨[(30, 590295810358703554816, [(8, tk Go.Proofs.Tryz.prog 4)]), (253, 512, [(9, tk Go.Proofs.Tryz.prog 3)])], []⟩) I 50 [V.agg [Cell.int IntKind.i64 n0, Cell.str s1, Cell.str s2, Cell.str s3, Cell.slice 3 l4, Cell.slice 5 l5, Cell.int IntKind.i64 n6, Cell.int IntKind.i64 n7, Cell.slice 9 l8]] Q = vc50 I n0 s1 s2 s3 l4 l5 n6 n7 l8 Q := by kernel_rfl
/-- handbill/handref1.counts -/
def vc74 (I : FuncId → List V → Post → T) (n0 : Int) (Q : Post) : T :=
 joinK (A := Bool)
 (fun b1 => ifT b1
 (Q [.one (.int .i64 2), .one (.int .i64 1073741824), .one (.int .i64 0), .one (.int .i64 0)])
 (ifT (decide (n0 = 5))
 (Q [.one (.int .i64 1), .one (.int .i64 1), .one (.int .i64 0), .one (.int .i64 0)])
 (ifT (decide (n0 = 7))
 (ifT (decide (n0 = 7))
 (Q [.one (.int .i64 0), .one (.int .i64 0), .one (.int .i64 1), .one (.int .i64 1)])
 (ifT (decide (n0 = 8))
 (Q [.one (.int .i64 0), .one (.int .i64 0), .one (.int .i64 1), .one (.int .i64 50)])
 (Q [.one (.int .i64 0), .one (.int .i64 0), .one (.int .i64 0), .one (.int .i64 0)])))
 (ifT (decide (n0 = 9))
 (ifT (decide (n0 = 9))
 (Q [.one (.int .i64 0), .one (.int .i64 0), .one (.int .i64 1), .one (.int .i64 1)])
 (ifT (decide (n0 = 8))
 (Q [.one (.int .i64 0), .one (.int .i64 0), .one (.int .i64 1), .one (.int .i64 50)])
 (Q [.one (.int .i64 0), .one (.int .i64 0), .one (.int .i64 0), .one (.int .i64 0)])))
 (ifT (decide (n0 = 10))
 (Q [.one (.int .i64 0), .one (.int .i64 0), .one (.int .i64 1), .one (.int .i64 1)])
 (ifT (decide (n0 = 8))
 (Q [.one (.int .i64 0), .one (.int .i64 0), .one (.int .i64 1), .one (.int .i64 50)])
 (Q [.one (.int .i64 0), .one (.int .i64 0), .one (.int .i64 0), .one (.int .i64 0)])))))))
 (fun x2 => ifT (decide (n0 = 3))
 (x2 (decide (n0 = 3)))
 (x2 (decide (n0 = 4))))
theorem den74 (I : FuncId → List V → Post → T) (n0 : Int) (Q : Post) : denF Go.Proofs.Tryz.prog 0 (⟨[(105, 640, [(7, tk Go.Proofs.Tryz.prog 4)])], []⟩) I 74 [V.one (Cell.int IntKind.i64 n0)] Q = vc74 I n0 Q := by kernel_rfl
/-- handbill/handref1.nameOf -/
def vc52 (I : FuncId → List V → Post → T) (s0 : ByteArray) (Q : Post) : T :=
 fun h1 =>
 I 76 [.one (.str s0)]
 (fun cs2 h3 =>
 ∃ b4 : Bool, (cs2 = [.one (.bool b4)]) ∧
 (ifT b4
 (fun h5 =>
 I 77 []
 (fun cs6 h7 =>
 ∃ l8 : Sl, (cs6 = [.one (.slice 1 l8)]) ∧
 I 53 [.one (.slice 1 l8), .one (.str s0)]
 (fun cs9 h10 =>
 ∃ b11 : Bool, (cs9 = [.one (.bool b11)]) ∧
 Q [.one (.bool !b11)] h10) h7) h5)
 (Q [.one (.bool false)])) h3) h1
theorem den52 (I : FuncId → List V → Post → T) (s0 : ByteArray) (Q : Post) : denF Go.Proofs.Tryz.prog 0 (⟨[], []⟩) I 52 [V.one (Cell.str s0)] Q = vc52 I s0 Q := by kernel_rfl
/-- slices.Contains[[]string,string] -/
def vc53 (I : FuncId → List V → Post → T) (l0 : Sl) (s1 : ByteArray) (Q : Post) : T :=
 fun h2 =>
 I 71 [.one (.slice 1 l0), .one (.str s1)]
 (fun cs3 h4 =>
 ∃ n5 : Int, (cs3 = [.one (.int .i64 n5)]) ∧
 Q [.one (.bool (decide (n5 ≥ 0)))] h4) h2
theorem den53 (I : FuncId → List V → Post → T) (l0 : Sl) (s1 : ByteArray) (Q : Post) : denF Go.Proofs.Tryz.prog 0 (⟨[], []⟩) I 53 [V.one (Cell.slice 1 l0), V.one (Cell.str s1)] Q = vc53 I l0 s1 Q := by kernel_rfl
/-- handbill/handref1.keyOf -/
def vc76 (I : FuncId → List V → Post → T) (s0 : ByteArray) (Q : Post) : T :=
 fun h1 =>
 I 110 [.one (.str s0)]
 (fun cs2 h3 =>
 ∃ b4 : Bool, (cs2 = [.one (.bool b4)]) ∧
 Q [.one (.bool b4)] h3) h1
theorem den76 (I : FuncId → List V → Post → T) (s0 : ByteArray) (Q : Post) : denF Go.Proofs.Tryz.prog 0 (⟨[], []⟩) I 76 [V.one (Cell.str s0)] Q = vc76 I s0 Q := by kernel_rfl
/-- handbill/handref2.Key -/
def vc110 (I : FuncId → List V → Post → T) (s0 : ByteArray) (Q : Post) : T :=
 fun h1 =>
 I 78 [.one (.int .i64 (↑s0.size : Int)), .one (.int .i64 1), .one (.int .i64 40)]
 (fun cs2 h3 =>
 ∃ b4 : Bool, (cs2 = [.one (.bool b4)]) ∧
 (ifT b4
 (fun h5 =>
 (((0 : Int) ≤ (0 : Int)) ∧
 ((0 : Int) ≤ (1 : Int)) ∧
 1 ≤ (↑s0.size : Int)) ∧
 I 134 [.one (.str (s0.extract 0 1)), .one (.str { data := #[97, 98, 99, 100, 101, 102, 103, 104, 105, 106, 107, 108, 109, 110, 111, 112, 113, 114, 115, 116, 117, 118, 119, 120, 121, 122] })]
 (fun cs6 h7 =>
 ∃ b8 : Bool, (cs6 = [.one (.bool b8)]) ∧
 (ifT b8
 (fun h9 =>
 I 134 [.one (.str s0), .one (.str { data := #[97, 98, 99, 100, 101, 102, 103, 104, 105, 106, 107, 108, 109, 110, 111, 112, 113, 114, 115, 116, 117, 118, 119, 120, 121, 122, 48, 49, 50, 51, 52, 53, 54, 55, 56, 57, 45, 95] })]
 (fun cs10 h11 =>
 ∃ b12 : Bool, (cs10 = [.one (.bool b12)]) ∧
 Q [.one (.bool b12)] h11) h9)
 (Q [.one (.bool false)])) h7) h5)
 (Q [.one (.bool false)])) h3) h1
theorem den110 (I : FuncId → List V → Post → T) (s0 : ByteArray) (Q : Post) : denF Go.Proofs.Tryz.prog 0 (⟨[], []⟩) I 110 [V.one (Cell.str s0)] Q = vc110 I s0 Q := by kernel_rfl
/-- handbill/handref2.only -/
def vc134 (I : FuncId → List V → Post → T) (s0 : ByteArray) (s1 : ByteArray) (Q : Post) : T :=
 fun h2 =>
 I 149 [.one (.str s0), .one (.str s1)]
 (fun cs3 h4 =>
 ∃ s5 : ByteArray, (cs3 = [.one (.str s5)]) ∧
 Q [.one (.bool (decide (s5 = { data := #[] })))] h4) h2
theorem den134 (I : FuncId → List V → Post → T) (s0 : ByteArray) (s1 : ByteArray) (Q : Post) : denF Go.Proofs.Tryz.prog 0 (⟨[], []⟩) I 134 [V.one (Cell.str s0), V.one (Cell.str s1)] Q = vc134 I s0 s1 Q := by kernel_rfl
/-- handbill/handref1.signs -/
def vc54 (I : FuncId → List V → Post → T) (Q : Post) : T :=
 fun h0 =>
 (newK (.cells false [.str { data := #[61] }, .str { data := #[33, 61] }, .str { data := #[60] }, .str { data := #[60, 61] }, .str { data := #[62] }, .str { data := #[62, 61] }]) (fun i1 h2 =>
 Q [.one (.slice 1 { a := some (i1, 0), len := 6 })] h2)) h0
theorem den54 (I : FuncId → List V → Post → T) (Q : Post) : denF Go.Proofs.Tryz.prog 0 (⟨[], []⟩) I 54 [] Q = vc54 I Q := by kernel_rfl
/-- handbill/handref1.condWords -/
def vc77 (I : FuncId → List V → Post → T) (Q : Post) : T :=
 fun h0 =>
 I 111 [.one (.str { data := #[97, 108, 108, 32, 110, 111, 110, 101, 32, 97, 110, 100, 32, 111, 114, 32, 110, 111, 116, 32, 104, 97, 115, 32, 105, 110, 32, 98, 101, 103, 105, 110, 115, 32, 99, 111, 110, 116, 97, 105, 110, 115, 32, 99, 111, 117, 110, 116, 32, 115, 117, 109, 32, 115, 105, 110, 99, 101, 32, 116, 104, 101, 110, 32, 119, 104, 101, 114, 101, 32, 119, 105, 116, 104, 105, 110, 32, 100, 97, 121, 115, 32, 104, 111, 117, 114, 115, 32, 109, 105, 110, 117, 116, 101, 115, 32, 121, 101, 115, 32, 110, 111] })]
 (fun cs1 h2 =>
 ∃ l3 : Sl, (cs1 = [.one (.slice 1 l3)]) ∧
 Q [.one (.slice 1 l3)] h2) h0
theorem den77 (I : FuncId → List V → Post → T) (Q : Post) : denF Go.Proofs.Tryz.prog 0 (⟨[], []⟩) I 77 [] Q = vc77 I Q := by kernel_rfl
/-- handbill/handlaw1.segments -/
def vc7 (I : FuncId → List V → Post → T) (Q : Post) : T :=
 fun h0 =>
 (newK (.cells false [.str { data := #[97] }, .int .i64 3, .str ByteArray.empty, .int .i64 1]) (fun i1 h2 =>
 I 19 [.one (.str { data := #[104, 97, 115, 32, 97] }), .one (.slice 4 { a := some (i1, 0), len := 1 }), .one (.slice 6 { a := none, len := 0 }), .one (.int .i64 0)]
 (fun cs3 h4 =>
 ∃ b5 : Bool, ∃ n6 : Int, (cs3 = [.one (.bool b5), .one (.int .i64 n6)]) ∧
 (ifT (decide (n6 = 0))
 (Q [.one (.bool b5)])
 (Q [.one (.bool false)])) h4) h2)) h0
theorem den7 (I : FuncId → List V → Post → T) (Q : Post) : denF Go.Proofs.Tryz.prog 0 (⟨[], []⟩) I 7 [] Q = vc7 I Q := by kernel_rfl
/-- strings.Trim -/
def vc149 (I : FuncId → List V → Post → T) (s0 : ByteArray) (s1 : ByteArray) (Q : Post) : T :=
 joinK (A := Bool)
 (fun b2 => ifT b2
 (Q [.one (.str s0)])
 (joinK (A := Bool)
 (fun b3 => ifT b3
 (fun h4 =>
 (((0 : Int) ≤ (0 : Int)) ∧
 0 < (↑s1.size : Int)) ∧
 (((0 : Int) ≤ (0 : Int)) ∧
 0 < (↑s1.size : Int)) ∧
 I 160 [.one (.str s0), .one (.int .u8 (byteAt s1 0))]
 (fun cs5 h6 =>
 ∃ s7 : ByteArray, (cs5 = [.one (.str s7)]) ∧
 I 159 [.one (.str s7), .one (.int .u8 (byteAt s1 0))]
 (fun cs8 h9 =>
 ∃ s10 : ByteArray, (cs8 = [.one (.str s10)]) ∧
 Q [.one (.str s10)] h9) h6) h4)
 (fun h11 =>
 I 161 [.one (.str s1)]
 (fun cs12 h13 =>
 exCells (List.replicate 256 Kd.bool) fun ds14 => ∃ b270 : Bool, (cs12 = [V.agg ds14, .one (.bool b270)]) ∧
 (newK (.cells false (List.replicate 256 (.bool false))) (fun i271 h272 =>
 (storeK [] i271 0 ds14 (ifT b270
 (fun h273 =>
 I 163 [.one (.str s0), .one (.ptr (some (i271, 0)))]
 (fun cs274 h275 =>
 ∃ s276 : ByteArray, (cs274 = [.one (.str s276)]) ∧
 I 162 [.one (.str s276), .one (.ptr (some (i271, 0)))]
 (fun cs277 h278 =>
 ∃ s279 : ByteArray, (cs277 = [.one (.str s279)]) ∧
 Q [.one (.str s279)] h278) h275) h273)
 (fun h280 =>
 I 165 [.one (.str s0), .one (.str s1)]
 (fun cs281 h282 =>
 ∃ s283 : ByteArray, (cs281 = [.one (.str s283)]) ∧
 I 164 [.one (.str s283), .one (.str s1)]
 (fun cs284 h285 =>
 ∃ s286 : ByteArray, (cs284 = [.one (.str s286)]) ∧
 Q [.one (.str s286)] h285) h282) h280))) h272)) h13) h11))
 (fun x287 => ifT (decide ((↑s1.size : Int) = 1))
 (fun h288 =>
 (((0 : Int) ≤ (0 : Int)) ∧
 0 < (↑s1.size : Int)) ∧
 x287 (decide (byteAt s1 0 < 128)) h288)
 (x287 false))))
 (fun x289 => ifT (decide (s0 = { data := #[] }))
 (x289 true)
 (x289 (decide (s1 = { data := #[] }))))
theorem den149 (I : FuncId → List V → Post → T) (s0 : ByteArray) (s1 : ByteArray) (Q : Post) : denF Go.Proofs.Tryz.prog 0 (⟨[(12, 8064, [(12, tk Go.Proofs.Tryz.prog 4)]), (28, 4177920, [(21, tk Go.Proofs.Tryz.prog 4)])], []⟩) I 149 [V.one (Cell.str s0), V.one (Cell.str s1)] Q = vc149 I s0 s1 Q := by kernel_rfl
/-- strings.trimLeftByte -/
def vc159 (I : FuncId → List V → Post → T) (s0 : ByteArray) (n1 : Int) (Q : Post) : T :=
 loopK (A := ByteArray) s0
 (fun x2 s3 => ifT (decide ((↑s3.size : Int) > 0))
 (fun h4 =>
 (((0 : Int) ≤ (0 : Int)) ∧
 0 < (↑s3.size : Int)) ∧
 (ifT (decide (byteAt s3 0 = n1))
 (fun h5 =>
 (((0 : Int) ≤ (1 : Int)) ∧
 (1 ≤ (↑s3.size : Int)) ∧
 (↑s3.size : Int) ≤ (↑s3.size : Int)) ∧
 x2 (s3.extract 1 (↑s3.size : Int).toNat) h5)
 (Q [.one (.str s3)])) h4)
 (Q [.one (.str s3)]))
theorem den159 (I : FuncId → List V → Post → T) (s0 : ByteArray) (n1 : Int) (Q : Post) : denF Go.Proofs.Tryz.prog 0 (⟨[], [(12, 65505, [(0, tk Go.Proofs.Tryz.prog 9)])]⟩) I 159 [V.one (Cell.str s0), V.one (Cell.int IntKind.u8 n1)] Q = vc159 I s0 n1 Q := by kernel_rfl
/-- strings.trimRightByte -/
def vc160 (I : FuncId → List V → Post → T) (s0 : ByteArray) (n1 : Int) (Q : Post) : T :=
 loopK (A := ByteArray) s0
 (fun x2 s3 => ifT (decide ((↑s3.size : Int) > 0))
 (fun h4 =>
 ((0 ≤ IntKind.i64.wrap ((↑s3.size : Int) - 1)) ∧
 IntKind.i64.wrap ((↑s3.size : Int) - 1) < (↑s3.size : Int)) ∧
 (ifT (decide (byteAt s3 (IntKind.i64.wrap ((↑s3.size : Int) - 1)) = n1))
 (fun h5 =>
 (((0 : Int) ≤ (0 : Int)) ∧
 (0 ≤ IntKind.i64.wrap ((↑s3.size : Int) - 1)) ∧
 IntKind.i64.wrap ((↑s3.size : Int) - 1) ≤ (↑s3.size : Int)) ∧
 x2 (s3.extract 0 (IntKind.i64.wrap ((↑s3.size : Int) - 1)).toNat) h5)
 (Q [.one (.str s3)])) h4)
 (Q [.one (.str s3)]))
theorem den160 (I : FuncId → List V → Post → T) (s0 : ByteArray) (n1 : Int) (Q : Post) : denF Go.Proofs.Tryz.prog 0 (⟨[], [(12, 4194273, [(0, tk Go.Proofs.Tryz.prog 9)])]⟩) I 160 [V.one (Cell.str s0), V.one (Cell.int IntKind.u8 n1)] Q = vc160 I s0 n1 Q := by kernel_rfl
/-- strings.makeASCIISet -/
def vc161 (I : FuncId → List V → Post → T) (s0 : ByteArray) (Q : Post) : T :=
 fun h1 =>
 (newK (.cells false (List.replicate 256 (.bool false))) (fun i2 => loopK (A := Int) 0
 (fun x3 n4 => ifT (decide (n4 < (↑s0.size : Int)))
 (fun h5 =>
 ((0 ≤ n4) ∧
 n4 < (↑s0.size : Int)) ∧
 (ifT (decide (byteAt s0 n4 ≥ 128))
 (fun h6 =>
 exCells (List.replicate 256 Kd.bool) fun ds7 => (h6.read i2 0 256 = some ds7) ∧
 (storeK [] i2 0 ds7 (fun h263 =>
 exCells (List.replicate 256 Kd.bool) fun ds264 => (h263.read i2 0 256 = some ds264) ∧
 Q [V.agg ds264, .one (.bool false)] h263)) h6)
 (fun h520 =>
 ((0 ≤ byteAt s0 n4) ∧
 byteAt s0 n4 < (↑256 : Int)) ∧
 (storeK [] i2 (0 + (byteAt s0 n4).toNat * 1) [.bool true] (x3 (IntKind.i64.wrap (n4 + 1)))) h520)) h5)
 (fun h521 =>
 exCells (List.replicate 256 Kd.bool) fun ds522 => (h521.read i2 0 256 = some ds522) ∧
 (storeK [] i2 0 ds522 (fun h778 =>
 exCells (List.replicate 256 Kd.bool) fun ds779 => (h778.read i2 0 256 = some ds779) ∧
 Q [V.agg ds779, .one (.bool true)] h778)) h521)))) h1
theorem den161 (I : FuncId → List V → Post → T) (s0 : ByteArray) (Q : Post) : denF Go.Proofs.Tryz.prog 0 (⟨[], [(26, 1048568, [(4, tk Go.Proofs.Tryz.prog 3)])]⟩) I 161 [V.one (Cell.str s0)] Q = vc161 I s0 Q := by kernel_rfl
/-- strings.trimLeftASCII -/
def vc162 (I : FuncId → List V → Post → T) (s0 : ByteArray) (p1 : Option (Nat × Nat)) (Q : Post) : T :=
 loopK (A := ByteArray) s0
 (fun x2 s3 => ifT (decide ((↑s3.size : Int) > 0))
 (fun h4 =>
 (((0 : Int) ≤ (0 : Int)) ∧
 0 < (↑s3.size : Int)) ∧
 I 180 [.one (.ptr p1), .one (.int .u8 (byteAt s3 0))]
 (fun cs5 h6 =>
 ∃ b7 : Bool, (cs5 = [.one (.bool b7)]) ∧
 (ifT (!b7)
 (Q [.one (.str s3)])
 (fun h8 =>
 (((0 : Int) ≤ (1 : Int)) ∧
 (1 ≤ (↑s3.size : Int)) ∧
 (↑s3.size : Int) ≤ (↑s3.size : Int)) ∧
 x2 (s3.extract 1 (↑s3.size : Int).toNat) h8)) h6) h4)
 (Q [.one (.str s3)]))
theorem den162 (I : FuncId → List V → Post → T) (s0 : ByteArray) (p1 : Option (Nat × Nat)) (Q : Post) : denF Go.Proofs.Tryz.prog 0 (⟨[], [(12, 32737, [(0, tk Go.Proofs.Tryz.prog 9)])]⟩) I 162 [V.one (Cell.str s0), V.one (Cell.ptr p1)] Q = vc162 I s0 p1 Q := by kernel_rfl
/-- strings.trimRightASCII -/
def vc163 (I : FuncId → List V → Post → T) (s0 : ByteArray) (p1 : Option (Nat × Nat)) (Q : Post) : T :=
 loopK (A := ByteArray) s0
 (fun x2 s3 => ifT (decide ((↑s3.size : Int) > 0))
 (fun h4 =>
 ((0 ≤ IntKind.i64.wrap ((↑s3.size : Int) - 1)) ∧
 IntKind.i64.wrap ((↑s3.size : Int) - 1) < (↑s3.size : Int)) ∧
 I 180 [.one (.ptr p1), .one (.int .u8 (byteAt s3 (IntKind.i64.wrap ((↑s3.size : Int) - 1))))]
 (fun cs5 h6 =>
 ∃ b7 : Bool, (cs5 = [.one (.bool b7)]) ∧
 (ifT (!b7)
 (Q [.one (.str s3)])
 (fun h8 =>
 (((0 : Int) ≤ (0 : Int)) ∧
 (0 ≤ IntKind.i64.wrap ((↑s3.size : Int) - 1)) ∧
 IntKind.i64.wrap ((↑s3.size : Int) - 1) ≤ (↑s3.size : Int)) ∧
 x2 (s3.extract 0 (IntKind.i64.wrap ((↑s3.size : Int) - 1)).toNat) h8)) h6) h4)
 (Q [.one (.str s3)]))
theorem den163 (I : FuncId → List V → Post → T) (s0 : ByteArray) (p1 : Option (Nat × Nat)) (Q : Post) : denF Go.Proofs.Tryz.prog 0 (⟨[], [(12, 2097121, [(0, tk Go.Proofs.Tryz.prog 9)])]⟩) I 163 [V.one (Cell.str s0), V.one (Cell.ptr p1)] Q = vc163 I s0 p1 Q := by kernel_rfl
/-- strings.trimLeftUnicode -/
def vc164 (I : FuncId → List V → Post → T) (s0 : ByteArray) (s1 : ByteArray) (Q : Post) : T :=
 loopK (A := ByteArray) s0
 (fun x2 s3 => ifT (decide ((↑s3.size : Int) > 0))
 (fun h4 =>
 I 112 [.one (.str s3)]
 (fun cs5 h6 =>
 ∃ n7 : Int, ∃ n8 : Int, (cs5 = [.one (.int .i32 n7), .one (.int .i64 n8)]) ∧
 I 181 [.one (.str s1), .one (.int .i32 n7)]
 (fun cs9 h10 =>
 ∃ b11 : Bool, (cs9 = [.one (.bool b11)]) ∧
 (ifT (!b11)
 (Q [.one (.str s3)])
 (fun h12 =>
 ((0 ≤ n8) ∧
 (n8 ≤ (↑s3.size : Int)) ∧
 (↑s3.size : Int) ≤ (↑s3.size : Int)) ∧
 x2 (s3.extract n8.toNat (↑s3.size : Int).toNat) h12)) h10) h6) h4)
 (Q [.one (.str s3)]))
theorem den164 (I : FuncId → List V → Post → T) (s0 : ByteArray) (s1 : ByteArray) (Q : Post) : denF Go.Proofs.Tryz.prog 0 (⟨[], [(12, 4194273, [(0, tk Go.Proofs.Tryz.prog 9)])]⟩) I 164 [V.one (Cell.str s0), V.one (Cell.str s1)] Q = vc164 I s0 s1 Q := by kernel_rfl
/-- strings.trimRightUnicode -/
def vc165 (I : FuncId → List V → Post → T) (s0 : ByteArray) (s1 : ByteArray) (Q : Post) : T :=
 loopK (A := ByteArray) s0
 (fun x2 s3 => ifT (decide ((↑s3.size : Int) > 0))
 (fun h4 =>
 ((0 ≤ IntKind.i64.wrap ((↑s3.size : Int) - 1)) ∧
 IntKind.i64.wrap ((↑s3.size : Int) - 1) < (↑s3.size : Int)) ∧
 (joinK (A := Int × Int)
 (uncur fun n5 n6 => fun h7 =>
 I 181 [.one (.str s1), .one (.int .i32 n5)]
 (fun cs8 h9 =>
 ∃ b10 : Bool, (cs8 = [.one (.bool b10)]) ∧
 (ifT (!b10)
 (Q [.one (.str s3)])
 (fun h11 =>
 (((0 : Int) ≤ (0 : Int)) ∧
 (0 ≤ IntKind.i64.wrap ((↑s3.size : Int) - n6)) ∧
 IntKind.i64.wrap ((↑s3.size : Int) - n6) ≤ (↑s3.size : Int)) ∧
 x2 (s3.extract 0 (IntKind.i64.wrap ((↑s3.size : Int) - n6)).toNat) h11)) h9) h7)
 (fun x12 => ifT (decide (IntKind.i32.wrap (byteAt s3 (IntKind.i64.wrap ((↑s3.size : Int) - 1))) ≥ 128))
 (fun h13 =>
 I 182 [.one (.str s3)]
 (fun cs14 h15 =>
 ∃ n16 : Int, ∃ n17 : Int, (cs14 = [.one (.int .i32 n16), .one (.int .i64 n17)]) ∧
 x12 ((n16, n17)) h15) h13)
 (x12 ((IntKind.i32.wrap (byteAt s3 (IntKind.i64.wrap ((↑s3.size : Int) - 1))), 1))))) h4)
 (Q [.one (.str s3)]))
theorem den165 (I : FuncId → List V → Post → T) (s0 : ByteArray) (s1 : ByteArray) (Q : Post) : denF Go.Proofs.Tryz.prog 0 (⟨[(789, 8126560, [(5, tk Go.Proofs.Tryz.prog 21), (6, tk Go.Proofs.Tryz.prog 3)])], [(12, 8589934561, [(0, tk Go.Proofs.Tryz.prog 9)])]⟩) I 165 [V.one (Cell.str s0), V.one (Cell.str s1)] Q = vc165 I s0 s1 Q := by kernel_rfl
/-- (*strings.asciiSet).contains -/
def vc180 (I : FuncId → List V → Post → T) (p0 : Option (Nat × Nat)) (n1 : Int) (Q : Post) : T :=
 derefK p0 (fun i2 => fun i3 h4 =>
 ((0 ≤ n1) ∧
 n1 < (↑256 : Int)) ∧
 ∃ b5 : Bool, (h4.read i2 (i3 + n1.toNat * 1) 1 = some [.bool b5]) ∧
 Q [.one (.bool b5)] h4)
theorem den180 (I : FuncId → List V → Post → T) (p0 : Option (Nat × Nat)) (n1 : Int) (Q : Post) : denF Go.Proofs.Tryz.prog 0 (⟨[], []⟩) I 180 [V.one (Cell.ptr p0), V.one (Cell.int IntKind.u8 n1)] Q = vc180 I p0 n1 Q := by kernel_rfl
end Go.Proofs.YtadakbmoanbcgaaGreatDoorVc
