/- The turns of the conditions: what the functions of the law TurnsArePlayed mean, function by function. -/
import Derived.Test.YteldpijfienopaaGreatDoorVcRsVc
set_option linter.unusedVariables false
set_option maxRecDepth 100000
namespace Go.Proofs.YteldpijfienopaaGreatDoorVc
/-- handbill/handkeep1.TurnsArePlayed -/
def vc4 (I : FuncId → List V → Post → T) (l0 : Sl) (Q : Post) : T :=
 fun h1 =>
 (newK (.cells false [.slice 1 l0, .int .i64 0]) (fun i2 h3 =>
 I 6 [.one (.ptr (some (i2, 0))), .one (.int .i64 2)]
 (fun cs4 h5 =>
 ∃ n6 : Int, ∃ s7 : ByteArray, ∃ s8 : ByteArray, ∃ s9 : ByteArray, ∃ l10 : Sl, ∃ l11 : Sl, ∃ n12 : Int, ∃ n13 : Int, ∃ l14 : Sl, (cs4 = [.agg [.int .i64 n6, .str s7, .str s8, .str s9, .slice 3 l10, .slice 5 l11, .int .i64 n12, .int .i64 n13, .slice 9 l14]]) ∧
 I 7 [.one (.ptr (some (i2, 0)))]
 (fun cs15 h16 =>
 ∃ l17 : Sl, (cs15 = [.one (.slice 4 l17)]) ∧
 I 8 [.one (.ptr (some (i2, 0))), .one (.int .i64 6)]
 (fun cs18 h19 =>
 ∃ l20 : Sl, (cs18 = [.one (.slice 6 l20)]) ∧
 I 13 [.agg [.int .i64 n6, .str s7, .str s8, .str s9, .slice 3 l10, .slice 5 l11, .int .i64 n12, .int .i64 n13, .slice 9 l14], .one (.slice 4 l17), .one (.slice 6 l20), .agg [.int .i64 0, .int .i64 4321440]]
 (fun cs21 h22 =>
 ∃ l23 : Sl, ∃ n24 : Int, (cs21 = [.one (.slice 3 l23), .one (.int .i64 n24)]) ∧
 (ifT (!decide (n24 = 0))
 (Q [.one (.bool false)])
 (loopK (A := Bool × Int) ((false, 0))
 (fun x25 => uncur fun b26 n27 => ifT (decide (n27 < (↑l23.len : Int)))
 (fun h28 =>
 ((0 ≤ n27) ∧
 n27 < (↑l23.len : Int)) ∧
 (derefK l23.a (fun i29 => fun i30 h31 =>
 ∃ s32 : ByteArray, ∃ n33 : Int, ∃ b34 : Bool, (h31.read i29 (i30 + n27.toNat * 3) 3 = some [.str s32, .int .i64 n33, .bool b34]) ∧
 (ifT (decide (b34 = b26))
 (Q [.one (.bool false)])
 (ifT (decide (n27 > 0))
 (fun h35 =>
 ((0 ≤ IntKind.i64.wrap (n27 - 1)) ∧
 IntKind.i64.wrap (n27 - 1) < (↑l23.len : Int)) ∧
 (derefK l23.a (fun i36 => fun i37 h38 =>
 ∃ n39 : Int, (h38.read i36 (i37 + (IntKind.i64.wrap (n27 - 1)).toNat * 3 + 1) 1 = some [.int .i64 n39]) ∧
 (ifT (decide (n33 ≤ n39))
 (Q [.one (.bool false)])
 (x25 ((b34, IntKind.i64.wrap (n27 + 1))))) h38)) h35)
 (x25 ((b34, IntKind.i64.wrap (n27 + 1)))))) h31)) h28)
 (loopK (A := Int) 0
 (fun x40 n41 => ifT (decide (n41 < 8))
 (fun h42 =>
 I 9 [.one (.ptr (some (i2, 0))), .one (.int .i64 5000)]
 (fun cs43 h44 =>
 ∃ n45 : Int, (cs43 = [.one (.int .i64 n45)]) ∧
 I 11 [.agg [.int .i64 n6, .str s7, .str s8, .str s9, .slice 3 l10, .slice 5 l11, .int .i64 n12, .int .i64 n13, .slice 9 l14], .one (.slice 4 l17), .one (.slice 6 l20), .one (.int .i64 n45)]
 (fun cs46 h47 =>
 ∃ b48 : Bool, ∃ n49 : Int, (cs46 = [.one (.bool b48), .one (.int .i64 n49)]) ∧
 (loopK (A := Bool × Int) ((false, 0))
 (fun x50 => uncur fun b51 n52 => ifT (decide (n52 < (↑l23.len : Int)))
 (fun h53 =>
 ((0 ≤ n52) ∧
 n52 < (↑l23.len : Int)) ∧
 (derefK l23.a (fun i54 => fun i55 h56 =>
 ∃ s57 : ByteArray, ∃ n58 : Int, ∃ b59 : Bool, (h56.read i54 (i55 + n52.toNat * 3) 3 = some [.str s57, .int .i64 n58, .bool b59]) ∧
 (ifT (decide (n58 ≤ n45))
 (x50 ((b59, IntKind.i64.wrap (n52 + 1))))
 (x50 ((b51, IntKind.i64.wrap (n52 + 1))))) h56)) h53)
 (ifT (!decide (n49 = 0))
 (Q [.one (.bool false)])
 (ifT (!decide (b48 = b51))
 (Q [.one (.bool false)])
 (x40 (IntKind.i64.wrap (n41 + 1))))))) h47) h44) h42)
 (fun h60 =>
 (newK (.cells false [.int .i64 0]) (fun i61 h62 =>
 (storeK [] i61 0 [.int .i64 0] (joinK (A := PUnit)
 (fun x63 h64 =>
 ∃ n65 : Int, (h64.read i61 0 1 = some [.int .i64 n65]) ∧
 I 14 [.agg [.int .i64 n6, .str s7, .str s8, .str s9, .slice 3 l10, .slice 5 l11, .int .i64 n12, .int .i64 n13, .slice 9 l14], .one (.slice 4 l17), .one (.slice 6 l20), .one (.int .i64 n65)]
 (fun cs66 h67 =>
 ∃ n68 : Int, ∃ n69 : Int, (cs66 = [.one (.int .i64 n68), .one (.int .i64 n69)]) ∧
 I 15 [.one (.slice 3 l23), .one (.func (some (16, [(i61, 0)])))]
 (fun cs70 h71 =>
 ∃ n72 : Int, (cs70 = [.one (.int .i64 n72)]) ∧
 I 12 []
 (fun cs73 h74 =>
 ∃ b75 : Bool, (cs73 = [.one (.bool b75)]) ∧
 (ifT b75
 (ifT (decide (n69 = 0))
 (ifT (decide (n72 < 0))
 (ifT (decide (n68 = -1))
 (Q [.one (.bool true)])
 (ifT (decide (n72 ≥ 0))
 (fun h76 =>
 ((0 ≤ n72) ∧
 n72 < (↑l23.len : Int)) ∧
 (derefK l23.a (fun i77 => fun i78 h79 =>
 ∃ n80 : Int, (h79.read i77 (i78 + n72.toNat * 3 + 1) 1 = some [.int .i64 n80]) ∧
 Q [.one (.bool (decide (n68 = n80)))] h79)) h76)
 (Q [.one (.bool false)])))
 (ifT (decide (n72 ≥ 0))
 (fun h81 =>
 ((0 ≤ n72) ∧
 n72 < (↑l23.len : Int)) ∧
 (derefK l23.a (fun i82 => fun i83 h84 =>
 ∃ n85 : Int, (h84.read i82 (i83 + n72.toNat * 3 + 1) 1 = some [.int .i64 n85]) ∧
 Q [.one (.bool (decide (n68 = n85)))] h84)) h81)
 (Q [.one (.bool false)])))
 (Q [.one (.bool false)]))
 (Q [.one (.bool false)])) h74) h71) h67) h64)
 (fun x86 => ifT (decide ((↑l20.len : Int) > 0))
 (fun h87 =>
 ((0 ≤ IntKind.i64.wrap ((↑l20.len : Int) - 1)) ∧
 IntKind.i64.wrap ((↑l20.len : Int) - 1) < (↑l20.len : Int)) ∧
 (derefK l20.a (fun i88 => fun i89 h90 =>
 ∃ n91 : Int, (h90.read i88 (i89 + (IntKind.i64.wrap ((↑l20.len : Int) - 1)).toNat * 6 + 2) 1 = some [.int .i64 n91]) ∧
 (storeK [] i61 0 [.int .i64 n91] (x86 ())) h90)) h87)
 (x86 ())))) h62)) h60)))))) h22) h19) h16) h5) h3)) h1
theorem den4 (I : FuncId → List V → Post → T) (l0 : Sl) (Q : Post) : denF Go.Proofs.Tryz.prog 133136 (⟨[(8189, 10303464078655048575365203653296128, [])], [(2042, 1180591611921318284804, [(9, tk Go.Proofs.Tryz.prog 4), (43, tk Go.Proofs.Tryz.prog 3)]), (4090, 10141204800645243591256214532100, [(70, tk Go.Proofs.Tryz.prog 3)]), (8377146, 39594738444018334729976840192, [(15, tk Go.Proofs.Tryz.prog 4), (84, tk Go.Proofs.Tryz.prog 3)])]⟩) I 4 [V.one (Cell.slice 1 l0)] Q = vc4 I l0 Q := by kernel_rfl
/-- handbill/segment.Changes -/
def vc13 (I : FuncId → List V → Post → T) (n0 : Int) (s1 : ByteArray) (s2 : ByteArray) (s3 : ByteArray) (l4 : Sl) (l5 : Sl) (n6 : Int) (n7 : Int) (l8 : Sl) (l9 : Sl) (l10 : Sl) (n11 : Int) (n12 : Int) (Q : Post) : T :=
 fun h13 =>
 I 40 [.agg [.int .i64 n0, .str s1, .str s2, .str s3, .slice 3 l4, .slice 5 l5, .int .i64 n6, .int .i64 n7, .slice 9 l8], .one (.slice 4 l9), .one (.slice 6 l10)]
 (fun cs14 h15 =>
 ∃ n16 : Int, (cs14 = [.one (.int .i64 n16)]) ∧
 (ifT (!decide (n16 = 0))
 (Q [.one (.slice 3 { a := none, len := 0 }), .one (.int .i64 n16)])
 (joinK (A := Bool)
 (fun b17 => ifT b17
 (Q [.one (.slice 3 { a := none, len := 0 }), .one (.int .i64 1)])
 (fun h18 =>
 I 33 [.agg [.int .i64 n0, .str s1, .str s2, .str s3, .slice 3 l4, .slice 5 l5, .int .i64 n6, .int .i64 n7, .slice 9 l8], .one (.slice 4 l9), .one (.slice 6 l10)]
 (fun cs19 h20 =>
 ∃ p21 : Option (Nat × Nat), (cs19 = [.one (.ptr p21)]) ∧
 (ifT (decide (n11 > 0))
 (fun h22 =>
 I 38 [.one (.ptr p21), .one (.int .i64 (IntKind.i64.wrap (n11 - 1)))]
 (fun cs23 h24 =>
 ∃ b25 : Bool, (cs23 = [.one (.bool b25)]) ∧
 I 41 [.one (.ptr p21), .agg [.int .i64 n11, .int .i64 n12], .one (.bool b25)]
 (fun cs26 h27 =>
 ∃ l28 : Sl, (cs26 = [.one (.slice 3 l28)]) ∧
 Q [.one (.slice 3 l28), .one (.int .i64 0)] h27) h24) h22)
 (fun h29 =>
 I 41 [.one (.ptr p21), .agg [.int .i64 n11, .int .i64 n12], .one (.bool false)]
 (fun cs30 h31 =>
 ∃ l32 : Sl, (cs30 = [.one (.slice 3 l32)]) ∧
 Q [.one (.slice 3 l32), .one (.int .i64 0)] h31) h29)) h20) h18))
 (fun x33 => ifT (decide (n11 < 0))
 (x33 true)
 (ifT (decide (n11 > n12))
 (x33 true)
 (x33 (decide (n12 > 4321440))))))) h15) h13
theorem den13 (I : FuncId → List V → Post → T) (n0 : Int) (s1 : ByteArray) (s2 : ByteArray) (s3 : ByteArray) (l4 : Sl) (l5 : Sl) (n6 : Int) (n7 : Int) (l8 : Sl) (l9 : Sl) (l10 : Sl) (n11 : Int) (n12 : Int) (Q : Post) : denF Go.Proofs.Tryz.prog 144 (⟨[(28, 17179344896, [(33, tk Go.Proofs.Tryz.prog 4)])], []⟩) I 13 [V.agg [Cell.int IntKind.i64 n0, Cell.str s1, Cell.str s2, Cell.str s3, Cell.slice 3 l4, Cell.slice 5 l5, Cell.int IntKind.i64 n6, Cell.int IntKind.i64 n7, Cell.slice 9 l8], V.one (Cell.slice 4 l9), V.one (Cell.slice 6 l10), V.agg [Cell.int IntKind.i64 n11, Cell.int IntKind.i64 n12]] Q = vc13 I n0 s1 s2 s3 l4 l5 n6 n7 l8 l9 l10 n11 n12 Q := by kernel_rfl
/-- handbill/segment.NextChange -/
def vc14 (I : FuncId → List V → Post → T) (n0 : Int) (s1 : ByteArray) (s2 : ByteArray) (s3 : ByteArray) (l4 : Sl) (l5 : Sl) (n6 : Int) (n7 : Int) (l8 : Sl) (l9 : Sl) (l10 : Sl) (n11 : Int) (Q : Post) : T :=
 fun h12 =>
 (newK (.cells false [.slice 6 l10]) (fun i13 h14 =>
 (newK (.cells false [.int .i64 n11]) (fun i15 h16 =>
 ∃ l17 : Sl, (h16.read i13 0 1 = some [.slice 6 l17]) ∧
 ∃ n18 : Int, (h16.read i15 0 1 = some [.int .i64 n18]) ∧
 I 32 [.agg [.int .i64 n0, .str s1, .str s2, .str s3, .slice 3 l4, .slice 5 l5, .int .i64 n6, .int .i64 n7, .slice 9 l8], .one (.slice 4 l9), .one (.slice 6 l17), .one (.int .i64 n18)]
 (fun cs19 h20 =>
 ∃ n21 : Int, (cs19 = [.one (.int .i64 n21)]) ∧
 (ifT (!decide (n21 = 0))
 (Q [.one (.int .i64 0), .one (.int .i64 n21)])
 (fun h22 =>
 ∃ l23 : Sl, (h22.read i13 0 1 = some [.slice 6 l23]) ∧
 I 42 [.one (.int .i64 (↑l23.len : Int)), .one (.func (some (43, [(i13, 0), (i15, 0)])))]
 (fun cs24 h25 =>
 ∃ n26 : Int, (cs24 = [.one (.int .i64 n26)]) ∧
 ∃ l27 : Sl, (h25.read i13 0 1 = some [.slice 6 l27]) ∧
 (((0 : Int) ≤ (0 : Int)) ∧
 (0 ≤ n26) ∧
 n26 ≤ (↑l27.len : Int)) ∧
 I 33 [.agg [.int .i64 n0, .str s1, .str s2, .str s3, .slice 3 l4, .slice 5 l5, .int .i64 n6, .int .i64 n7, .slice 9 l8], .one (.slice 4 l9), .one (.slice 6 (l27.sub 6 0 n26.toNat))]
 (fun cs28 h29 =>
 ∃ p30 : Option (Nat × Nat), (cs28 = [.one (.ptr p30)]) ∧
 ∃ n31 : Int, (h29.read i15 0 1 = some [.int .i64 n31]) ∧
 ∃ n32 : Int, (h29.read i15 0 1 = some [.int .i64 n32]) ∧
 I 38 [.one (.ptr p30), .one (.int .i64 n32)]
 (fun cs33 h34 =>
 (h34 i15 = h29 i15) ∧
 ∃ b35 : Bool, (cs33 = [.one (.bool b35)]) ∧
 I 41 [.one (.ptr p30), .agg [.int .i64 (IntKind.i64.wrap (n31 + 1)), .int .i64 4321440], .one (.bool b35)]
 (fun cs36 h37 =>
 ∃ l38 : Sl, (cs36 = [.one (.slice 3 l38)]) ∧
 (ifT (decide ((↑l38.len : Int) > 0))
 (fun h39 =>
 (((0 : Int) ≤ (0 : Int)) ∧
 0 < (↑l38.len : Int)) ∧
 (derefK l38.a (fun i40 => fun i41 h42 =>
 ∃ n43 : Int, (h42.read i40 (i41 + 0 + 1) 1 = some [.int .i64 n43]) ∧
 Q [.one (.int .i64 n43), .one (.int .i64 0)] h42)) h39)
 (Q [.one (.int .i64 (-1)), .one (.int .i64 0)])) h37) h34) h29) h25) h22)) h20) h16)) h14)) h12
theorem den14 (I : FuncId → List V → Post → T) (n0 : Int) (s1 : ByteArray) (s2 : ByteArray) (s3 : ByteArray) (l4 : Sl) (l5 : Sl) (n6 : Int) (n7 : Int) (l8 : Sl) (l9 : Sl) (l10 : Sl) (n11 : Int) (Q : Post) : denF Go.Proofs.Tryz.prog 16 (⟨[], []⟩) I 14 [V.agg [Cell.int IntKind.i64 n0, Cell.str s1, Cell.str s2, Cell.str s3, Cell.slice 3 l4, Cell.slice 5 l5, Cell.int IntKind.i64 n6, Cell.int IntKind.i64 n7, Cell.slice 9 l8], V.one (Cell.slice 4 l9), V.one (Cell.slice 6 l10), V.one (Cell.int IntKind.i64 n11)] Q = vc14 I n0 s1 s2 s3 l4 l5 n6 n7 l8 l9 l10 n11 Q := by kernel_rfl
/-- slices.IndexFunc[[]handbill/api.Turn,handbill/api.Turn] -/
def vc15 (I : FuncId → List V → Post → T) (l0 : Sl) (p1 : Option (Nat × List (Nat × Nat))) (Q : Post) : T :=
 loopK (A := Int) 0
 (fun x2 n3 => ifT (decide (n3 < (↑l0.len : Int)))
 (fun h4 =>
 ((0 ≤ n3) ∧
 n3 < (↑l0.len : Int)) ∧
 (derefK l0.a (fun i5 => fun i6 h7 =>
 ∃ s8 : ByteArray, ∃ n9 : Int, ∃ b10 : Bool, (h7.read i5 (i6 + n3.toNat * 3) 3 = some [.str s8, .int .i64 n9, .bool b10]) ∧
 (funK p1 (fun i11 => fun cs12 h13 =>
 I i11 (.agg [.str s8, .int .i64 n9, .bool b10] :: cs12)
 (fun cs14 h15 =>
 ∃ b16 : Bool, (cs14 = [.one (.bool b16)]) ∧
 (ifT b16
 (Q [.one (.int .i64 n3)])
 (x2 (IntKind.i64.wrap (n3 + 1)))) h15) h13)) h7)) h4)
 (Q [.one (.int .i64 (-1))]))
theorem den15 (I : FuncId → List V → Post → T) (l0 : Sl) (p1 : Option (Nat × List (Nat × Nat))) (Q : Post) : denF Go.Proofs.Tryz.prog 0 (⟨[], [(26, 524080, [(8, tk Go.Proofs.Tryz.prog 3)])]⟩) I 15 [V.one (Cell.slice 3 l0), V.one (Cell.func p1)] Q = vc15 I l0 p1 Q := by kernel_rfl
/-- handbill/handkeep1.TurnsArePlayed$1 -/
def vc16 (I : FuncId → List V → Post → T) (s0 : ByteArray) (n1 : Int) (b2 : Bool) (i3 : Nat) (i4 : Nat) (Q : Post) : T :=
 fun h5 =>
 ∃ n6 : Int, (h5.read i3 i4 1 = some [.int .i64 n6]) ∧
 Q [.one (.bool (decide (n1 > n6)))] h5
theorem den16 (I : FuncId → List V → Post → T) (s0 : ByteArray) (n1 : Int) (b2 : Bool) (i3 : Nat) (i4 : Nat) (Q : Post) : denF Go.Proofs.Tryz.prog 4 (⟨[], []⟩) I 16 [V.agg [Cell.str s0, Cell.int IntKind.i64 n1, Cell.bool b2], V.one (Cell.ptr (some (i3, i4)))] Q = vc16 I s0 n1 b2 i3 i4 Q := by kernel_rfl
/-- (*handbill/segment.node).changes -/
def vc41 (I : FuncId → List V → Post → T) (p0 : Option (Nat × Nat)) (n1 : Int) (n2 : Int) (b3 : Bool) (Q : Post) : T :=
 fun h4 =>
 (newK (.map []) (fun i5 h6 =>
 (mapK [] (some i5) (.one (.int .i64 n1)) (.one (.bool true)) (fun h7 =>
 I 85 [.one (.ptr p0), .one (.map (some i5))]
 (fun cs8 h9 =>
 (cs8 = []) ∧
 (rangeK i5 (fun i10 => loopK (A := Sl) ({ a := none, len := 0 })
 (fun x11 => fun l12 h13 =>
 (nextK i10
 (fun h14 =>
 I 86 [.one (.slice 1 l12)]
 (fun cs15 h16 =>
 (cs15 = []) ∧
 (loopK (A := Bool × Sl × Int) ((b3, { a := none, len := 0 }, 0))
 (fun x17 => uncur fun b18 => uncur fun l19 n20 => ifT (decide (n20 < (↑l12.len : Int)))
 (fun h21 =>
 ((0 ≤ n20) ∧
 n20 < (↑l12.len : Int)) ∧
 (derefK l12.a (fun i22 => fun i23 h24 =>
 ∃ n25 : Int, (h24.read i22 (i23 + n20.toNat * 1) 1 = some [.int .i64 n25]) ∧
 I 38 [.one (.ptr p0), .one (.int .i64 n25)]
 (fun cs26 h27 =>
 ∃ b28 : Bool, (cs26 = [.one (.bool b28)]) ∧
 (ifT (!decide (b28 = b18))
 (fun h29 =>
 (appendTo [] 3 32 l19 1 [.str ByteArray.empty, .int .i64 n25, .bool b28] (fun l30 h31 =>
 x17 ((b28, l30, IntKind.i64.wrap (n20 + 1))) h31)) h29)
 (x17 ((b18, l19, IntKind.i64.wrap (n20 + 1))))) h27) h24)) h21)
 (Q [.one (.slice 3 l19)]))) h16) h14)
 (fun x32 => fun x33 h34 =>
 ∃ n35 : Int, ∃ b36 : Bool, (x32 = .one (.int .i64 n35)) ∧
 (x33 = .one (.bool b36)) ∧
 (entryK i10 (fun x37 => fun x38 h39 =>
 ∃ n40 : Int, ∃ b41 : Bool, (x37 = .one (.int .i64 n40)) ∧
 (x38 = .one (.bool b41)) ∧
 (ifT (decide (n1 ≤ n40))
 (ifT (decide (n40 < n2))
 (fun h42 =>
 (appendTo [] 1 8 l12 1 [.int .i64 n40] (fun l43 h44 =>
 x11 l43 h44)) h42)
 (x11 l12))
 (x11 l12)) h39)) h34)) h13))) h9) h7)) h6)) h4
theorem den41 (I : FuncId → List V → Post → T) (p0 : Option (Nat × Nat)) (n1 : Int) (n2 : Int) (b3 : Bool) (Q : Post) : denF Go.Proofs.Tryz.prog 16 (⟨[], [(250, 2199014867712, [(8, tk Go.Proofs.Tryz.prog 22)]), (2042, 9223336852482700292, [(2, tk Go.Proofs.Tryz.prog 4), (10, tk Go.Proofs.Tryz.prog 44), (45, tk Go.Proofs.Tryz.prog 3)])]⟩) I 41 [V.one (Cell.ptr p0), V.agg [Cell.int IntKind.i64 n1, Cell.int IntKind.i64 n2], V.one (Cell.bool b3)] Q = vc41 I p0 n1 n2 b3 Q := by kernel_rfl
/-- handbill/segment.NextChange$1 -/
def vc43 (I : FuncId → List V → Post → T) (n0 : Int) (i1 : Nat) (i2 : Nat) (i3 : Nat) (i4 : Nat) (Q : Post) : T :=
 fun h5 =>
 ∃ l6 : Sl, (h5.read i1 i2 1 = some [.slice 6 l6]) ∧
 ((0 ≤ n0) ∧
 n0 < (↑l6.len : Int)) ∧
 (derefK l6.a (fun i7 => fun i8 h9 =>
 ∃ n10 : Int, (h9.read i7 (i8 + n0.toNat * 6 + 2) 1 = some [.int .i64 n10]) ∧
 ∃ n11 : Int, (h9.read i3 i4 1 = some [.int .i64 n11]) ∧
 Q [.one (.bool (decide (n10 > n11)))] h9)) h5
theorem den43 (I : FuncId → List V → Post → T) (n0 : Int) (i1 : Nat) (i2 : Nat) (i3 : Nat) (i4 : Nat) (Q : Post) : denF Go.Proofs.Tryz.prog 0 (⟨[], []⟩) I 43 [V.one (Cell.int IntKind.i64 n0), V.one (Cell.ptr (some (i1, i2))), V.one (Cell.ptr (some (i3, i4)))] Q = vc43 I n0 i1 i2 i3 i4 Q := by kernel_rfl
/-- (*handbill/segment.node).moments -/
def vc85 (I : FuncId → List V → Post → T) (p0 : Option (Nat × Nat)) (p1 : Option Nat) (Q : Post) : T :=
 derefK p0 (fun i2 => fun i3 h4 =>
 ∃ l5 : Sl, (h4.read i2 (i3 + 9) 1 = some [.slice 1 l5]) ∧
 (loopK (A := Int) 0
 (fun x6 n7 => ifT (decide (n7 < (↑l5.len : Int)))
 (fun h8 =>
 ((0 ≤ n7) ∧
 n7 < (↑l5.len : Int)) ∧
 (derefK l5.a (fun i9 => fun i10 h11 =>
 ∃ p12 : Option (Nat × Nat), (h11.read i9 (i10 + n7.toNat * 1) 1 = some [.ptr p12]) ∧
 I 85 [.one (.ptr p12), .one (.map p1)]
 (fun cs13 h14 =>
 (cs13 = []) ∧
 x6 (IntKind.i64.wrap (n7 + 1)) h14) h11)) h8)
 (derefK p0 (fun i15 => fun i16 h17 =>
 ∃ n18 : Int, (h17.read i15 (i16 + 0 + 0) 1 = some [.int .i64 n18]) ∧
 (joinK (A := PUnit)
 (fun x19 => derefK p0 (fun i20 => fun i21 h22 =>
 ∃ l23 : Sl, (h22.read i20 (i21 + 11) 1 = some [.slice 1 l23]) ∧
 (loopK (A := Int) 0
 (fun x24 n25 => ifT (decide (n25 < (↑l23.len : Int)))
 (fun h26 =>
 ((0 ≤ n25) ∧
 n25 < (↑l23.len : Int)) ∧
 (derefK l23.a (fun i27 => fun i28 h29 =>
 ∃ n30 : Int, (h29.read i27 (i28 + n25.toNat * 1) 1 = some [.int .i64 n30]) ∧
 (mapK [] p1 (.one (.int .i64 n30)) (.one (.bool true)) (derefK p0 (fun i31 => fun i32 h33 =>
 ∃ n34 : Int, (h33.read i31 (i32 + 0 + 0) 1 = some [.int .i64 n34]) ∧
 (ifT (decide (n34 = 13))
 (derefK p0 (fun i35 => fun i36 h37 =>
 ∃ n38 : Int, (h37.read i35 (i36 + 0 + 7) 1 = some [.int .i64 n38]) ∧
 (derefK p0 (fun i39 => fun i40 h41 =>
 ∃ n42 : Int, (h41.read i39 (i40 + 0 + 7) 1 = some [.int .i64 n42]) ∧
 (entK [] p1 (.one (.int .i64 (IntKind.i64.wrap (n30 + n38)))) (.one (.bool false)) (fun x43 => fun i44 h45 =>
 ∃ b46 : Bool, (x43 = .one (.bool b46)) ∧
 (entStK [] p1 (keyed Go.Proofs.Tryz.prog 3) ((↑i44 : Int)) (.one (.bool true)) (fun h47 =>
 (entK [] p1 (.one (.int .i64 (IntKind.i64.wrap (IntKind.i64.wrap (n30 + n42) + 1)))) (.one (.bool false)) (fun x48 => fun i49 h50 =>
 ∃ b51 : Bool, (x48 = .one (.bool b51)) ∧
 (entStK [] p1 (keyed Go.Proofs.Tryz.prog 3) ((↑i49 : Int)) (.one (.bool true)) (x24 (IntKind.i64.wrap (n25 + 1)))) h50)) h47)) h45)) h41)) h37))
 (derefK p0 (fun i52 => fun i53 h54 =>
 ∃ n55 : Int, (h54.read i52 (i53 + 0 + 6) 1 = some [.int .i64 n55]) ∧
 (ifT (decide (n55 > 0))
 (derefK p0 (fun i56 => fun i57 h58 =>
 ∃ n59 : Int, (h58.read i56 (i57 + 0 + 6) 1 = some [.int .i64 n59]) ∧
 (mapK [] p1 (.one (.int .i64 (IntKind.i64.wrap (n30 + n59)))) (.one (.bool true)) (x24 (IntKind.i64.wrap (n25 + 1)))) h58))
 (x24 (IntKind.i64.wrap (n25 + 1)))) h54))) h33))) h29)) h26)
 (Q []))) h22))
 (fun x60 => ifT (decide (n18 = 14))
 (derefK p0 (fun i61 => fun i62 h63 =>
 ∃ n64 : Int, (h63.read i61 (i62 + 13) 1 = some [.int .i64 n64]) ∧
 (mapK [] p1 (.one (.int .i64 n64)) (.one (.bool true)) (x60 ())) h63))
 (x60 ()))) h17)))) h4)
theorem den85 (I : FuncId → List V → Post → T) (p0 : Option (Nat × Nat)) (p1 : Option Nat) (Q : Post) : denF Go.Proofs.Tryz.prog 0 (⟨[(13, 4160749568, [])], [(10, 2088992, [(13, tk Go.Proofs.Tryz.prog 3)]), (30, 38685626227667996151644288, [(37, tk Go.Proofs.Tryz.prog 3)])]⟩) I 85 [V.one (Cell.ptr p0), V.one (Cell.map p1)] Q = vc85 I p0 p1 Q := by kernel_rfl
end Go.Proofs.YteldpijfienopaaGreatDoorVc
