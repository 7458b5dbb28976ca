/- Formulas of the functions that SumsStay reaches. -/
import Derived.Test.YtdjancoknephnaaGreatVcOwns
import Derived.Test.YtdjancoknephnaaGreatVcBits
import Derived.Test.YtdjancoknephnaaGreatVcCodeStr
import Derived.Test.YtdjancoknephnaaGreatVcLen8
import Derived.Test.YtdjancoknephnaaGreatProg
set_option linter.unusedVariables false
set_option maxRecDepth 100000
namespace Go.Proofs.YtdjancoknephnaaGreatVc
open Go.Proofs.YtdjancoknephnaaGreatCodes
/-- handbill/handkeep1.SumsStay -/
def vc3 (I : FuncId → List V → Post → T) (l0 : Sl) (Q : Post) : T :=
 fun h1 =>
 (newK (.cells false [.slice 1 l0, .int .i64 0]) (fun i2 h3 =>
 (newK (.cells false [.slice 1 l0, .int .i64 0]) (fun i4 h5 =>
 I 4 [.one (.ptr (some (i2, 0)))]
 (fun cs6 h7 =>
 ∃ l8 : Sl, (cs6 = [.one (.slice 3 l8)]) ∧
 I 5 [.one (.ptr (some (i2, 0))), .one (.int .i64 4)]
 (fun cs9 h10 =>
 ∃ l11 : Sl, (cs9 = [.one (.slice 12 l11)]) ∧
 I 6 [.one (.ptr (some (i2, 0)))]
 (fun cs12 h13 =>
 ∃ l14 : Sl, ∃ n15 : Int, (cs12 = [.agg [.slice 4 l14, .int .i64 n15]]) ∧
 I 7 [.one (.ptr (some (i2, 0)))]
 (fun cs16 h17 =>
 ∃ l18 : Sl, (cs16 = [.one (.slice 5 l18)]) ∧
 I 4 [.one (.ptr (some (i4, 0)))]
 (fun cs19 h20 =>
 ∃ l21 : Sl, (cs19 = [.one (.slice 3 l21)]) ∧
 I 5 [.one (.ptr (some (i4, 0))), .one (.int .i64 4)]
 (fun cs22 h23 =>
 ∃ l24 : Sl, (cs22 = [.one (.slice 12 l24)]) ∧
 I 6 [.one (.ptr (some (i4, 0)))]
 (fun cs25 h26 =>
 ∃ l27 : Sl, ∃ n28 : Int, (cs25 = [.agg [.slice 4 l27, .int .i64 n28]]) ∧
 I 7 [.one (.ptr (some (i4, 0)))]
 (fun cs29 h30 =>
 ∃ l31 : Sl, (cs29 = [.one (.slice 5 l31)]) ∧
 (newK (.cells false [.int .i64 0]) (fun i32 h33 =>
 I 8 [.one (.slice 3 l8), .one (.slice 1 { a := some (i32, 0), len := 1 })]
 (fun cs34 h35 =>
 ∃ l36 : Sl, ∃ n37 : Int, (cs34 = [.one (.slice 3 l36), .one (.int .i64 n37)]) ∧
 (joinK (A := PUnit)
 (fun x38 h39 =>
 I 9 [.one (.slice 12 l11), .agg [.slice 4 l14, .int .i64 n15], .one (.int .i64 0)]
 (fun cs40 h41 =>
 ∃ l42 : Sl, ∃ n43 : Int, ∃ l44 : Sl, ∃ n45 : Int, ∃ n46 : Int, (cs40 = [.agg [.slice 1 l42, .int .i64 n43, .slice 2 l44, .int .i64 n45], .one (.int .i64 n46)]) ∧
 (joinK (A := PUnit)
 (fun x47 h48 =>
 I 9 [.one (.slice 12 l24), .agg [.slice 4 l27, .int .i64 n28], .one (.int .i64 0)]
 (fun cs49 h50 =>
 ∃ l51 : Sl, ∃ n52 : Int, ∃ l53 : Sl, ∃ n54 : Int, ∃ n55 : Int, (cs49 = [.agg [.slice 1 l51, .int .i64 n52, .slice 2 l53, .int .i64 n54], .one (.int .i64 n55)]) ∧
 I 9 [.one (.slice 12 l11), .agg [.slice 4 l14, .int .i64 n15], .one (.int .i64 0)]
 (fun cs56 h57 =>
 ∃ l58 : Sl, ∃ n59 : Int, ∃ l60 : Sl, ∃ n61 : Int, ∃ n62 : Int, (cs56 = [.agg [.slice 1 l58, .int .i64 n59, .slice 2 l60, .int .i64 n61], .one (.int .i64 n62)]) ∧
 (joinK (A := Bool)
 (fun b63 => ifT b63
 (Q [.one (.bool false)])
 (fun h64 =>
 I 12 [.one (.slice 5 l18)]
 (fun cs65 h66 =>
 ∃ p67 : Option (Nat × Nat), ∃ n68 : Int, (cs65 = [.one (.ptr p67), .one (.int .i64 n68)]) ∧
 (joinK (A := PUnit)
 (fun x69 h70 =>
 I 14 []
 (fun cs71 h72 =>
 ∃ b73 : Bool, (cs71 = [.one (.bool b73)]) ∧
 (ifT b73
 (fun h74 =>
 I 15 []
 (fun cs75 h76 =>
 ∃ b77 : Bool, (cs75 = [.one (.bool b77)]) ∧
 Q [.one (.bool b77)] h76) h74)
 (Q [.one (.bool false)])) h72) h70)
 (fun x78 => ifT (decide (n68 = 0))
 (loopK (A := Int) 0
 (fun x79 n80 => ifT (decide (n80 < (↑l18.len : Int)))
 (fun h81 =>
 ((0 ≤ n80) ∧
 n80 < (↑l18.len : Int)) ∧
 (derefK l18.a (fun i82 => fun i83 h84 =>
 (storeK [] i82 (i83 + n80.toNat * 5 + 1) [.int .i64 0] (x79 (IntKind.i64.wrap (n80 + 1)))) h84)) h81)
 (loopK (A := Int) 0
 (fun x85 n86 => ifT (decide (n86 < (↑l31.len : Int)))
 (fun h87 =>
 ((0 ≤ n86) ∧
 n86 < (↑l31.len : Int)) ∧
 (derefK l31.a (fun i88 => fun i89 h90 =>
 ∃ s91 : ByteArray, ∃ n92 : Int, ∃ n93 : Int, ∃ n94 : Int, ∃ b95 : Bool, (h90.read i88 (i89 + n86.toNat * 5) 5 = some [.str s91, .int .i64 n92, .int .i64 n93, .int .i64 n94, .bool b95]) ∧
 I 13 [.one (.ptr p67), .one (.str s91), .one (.int .i64 4321439)]
 (fun cs96 h97 =>
 ∃ n98 : Int, ∃ n99 : Int, (cs96 = [.one (.int .i64 n98), .one (.int .i64 n99)]) ∧
 (ifT (!decide (n99 = 0))
 (Q [.one (.bool false)])
 (ifT (!decide (n98 = n92))
 (Q [.one (.bool false)])
 (x85 (IntKind.i64.wrap (n86 + 1))))) h97) h90)) h87)
 (x78 ())))))
 (x78 ()))) h66) h64))
 (fun x100 => ifT (!decide (n46 = n55))
 (x100 true)
 (ifT (!decide (n46 = n62))
 (x100 true)
 (fun h101 =>
 I 10 [.agg [.slice 1 l51, .int .i64 n52, .slice 2 l53, .int .i64 n54], .agg [.slice 1 l58, .int .i64 n59, .slice 2 l60, .int .i64 n61]]
 (fun cs102 h103 =>
 ∃ b104 : Bool, (cs102 = [.one (.bool b104)]) ∧
 (ifT (!b104)
 (x100 true)
 (fun h105 =>
 I 11 [.one (.slice 3 l8), .one (.slice 3 l21)]
 (fun cs106 h107 =>
 ∃ b108 : Bool, (cs106 = [.one (.bool b108)]) ∧
 x100 (!b108) h107) h105)) h103) h101)))) h57) h50) h48)
 (fun x109 => ifT (decide (n46 = 0))
 (loopK (A := Int) 0
 (fun x110 n111 => ifT (decide (n111 < (↑l42.len : Int)))
 (fun h112 =>
 ((0 ≤ n111) ∧
 n111 < (↑l42.len : Int)) ∧
 (derefK l42.a (fun i113 => fun i114 h115 =>
 (storeK [] i113 (i114 + n111.toNat * 1) [.int .i64 (-7)] (x110 (IntKind.i64.wrap (n111 + 1)))) h115)) h112)
 (x109 ())))
 (x109 ()))) h41) h39)
 (fun x116 => ifT (decide (n37 = 0))
 (loopK (A := Int) 0
 (fun x117 n118 => ifT (decide (n118 < (↑l36.len : Int)))
 (fun h119 =>
 ((0 ≤ n118) ∧
 n118 < (↑l36.len : Int)) ∧
 (derefK l36.a (fun i120 => fun i121 h122 =>
 ∃ l123 : Sl, (h122.read i120 (i121 + n118.toNat * 3 + 0) 1 = some [.slice 1 l123]) ∧
 (loopK (A := Int) 0
 (fun x124 n125 => ifT (decide (n125 < (↑l123.len : Int)))
 (fun h126 =>
 ((0 ≤ n118) ∧
 n118 < (↑l36.len : Int)) ∧
 (derefK l36.a (fun i127 => fun i128 h129 =>
 ∃ l130 : Sl, (h129.read i127 (i128 + n118.toNat * 3 + 0) 1 = some [.slice 1 l130]) ∧
 ((0 ≤ n125) ∧
 n125 < (↑l130.len : Int)) ∧
 (derefK l130.a (fun i131 => fun i132 h133 =>
 (storeK [] i131 (i132 + n125.toNat * 1) [.str { data := #[115, 112, 111, 105, 108, 116] }] (x124 (IntKind.i64.wrap (n125 + 1)))) h133)) h129)) h126)
 (x117 (IntKind.i64.wrap (n118 + 1))))) h122)) h119)
 (x116 ())))
 (x116 ()))) h35) h33)) h30) h26) h23) h20) h17) h13) h10) h7) h5)) h3)) h1
theorem den3 (I : FuncId → List V → Post → T) (l0 : Sl) (Q : Post) : denF Go.Proofs.Tryz.prog 273811584 (⟨[(253, 19342810807991057581703168, []), (1021, 10136253041668693690874029670400, []), (8188, 43556101427505255044690921507295697305600, [(134, tk Go.Proofs.Tryz.prog 4)]), (32765, 23945242820454327112216516513839651425880710353780740, [])], [(2026, 19342803890462029940621312, [(63, tk Go.Proofs.Tryz.prog 3)]), (8170, 10101590720568703043176854192128, [(95, tk Go.Proofs.Tryz.prog 3)]), (518758, 9666684190434163752501248, [(72, tk Go.Proofs.Tryz.prog 3)]), (524242, 5686690025625308901091608159525332184092114944, [(144, tk Go.Proofs.Tryz.prog 3)]), (524246, 23945219990066430116491075366648069802120618539220996, [(154, tk Go.Proofs.Tryz.prog 3)])]⟩) I 3 [V.one (Cell.slice 1 l0)] Q = vc3 I l0 Q := by kernel_rfl
/-- (*handbill/handmake.Stream).Cells -/
def vc4 (I : FuncId → List V → Post → T) (p0 : Option (Nat × Nat)) (Q : Post) : T :=
 fun h1 =>
 I 16 [.one (.ptr p0), .one (.int .i64 0), .one (.int .i64 3)]
 (fun cs2 h3 =>
 ∃ n4 : Int, (cs2 = [.one (.int .i64 n4)]) ∧
 (newK (.cells false [.str { data := #[97] }, .str { data := #[98] }]) (fun i5 => loopK (A := Sl × Int) (({ a := none, len := 0 }, 0))
 (fun x6 => uncur fun l7 n8 => ifT (decide (n8 < (↑2 : Int)))
 (fun h9 =>
 ((0 ≤ n8) ∧
 n8 < (↑2 : Int)) ∧
 ∃ s10 : ByteArray, (h9.read i5 (0 + n8.toNat * 1) 1 = some [.str s10]) ∧
 (newK (.cells false [.str { data := #[120] }, .str { data := #[121] }]) (fun i11 => loopK (A := Sl × Int) ((l7, 0))
 (fun x12 => uncur fun l13 n14 => ifT (decide (n14 < (↑2 : Int)))
 (fun h15 =>
 ((0 ≤ n14) ∧
 n14 < (↑2 : Int)) ∧
 ∃ s16 : ByteArray, (h15.read i11 (0 + n14.toNat * 1) 1 = some [.str s16]) ∧
 (newK (.cells false [.str { data := #[109] }, .str { data := #[110] }]) (fun i17 => loopK (A := Sl × Int) ((l13, 0))
 (fun x18 => uncur fun l19 n20 => ifT (decide (n20 < (↑2 : Int)))
 (fun h21 =>
 ((0 ≤ n20) ∧
 n20 < (↑2 : Int)) ∧
 ∃ s22 : ByteArray, (h21.read i17 (0 + n20.toNat * 1) 1 = some [.str s22]) ∧
 (joinK (A := Bool)
 (fun b23 => ifT b23
 (x18 ((l19, IntKind.i64.wrap (n20 + 1))))
 (fun h24 =>
 ((0 ≤ n4) ∧
 n4 ≤ (↑3 : Int)) ∧
 (newK (.cells false [.int .i64 0, .int .i64 1, .int .i64 5, .int .i64 999999, .int .i64 1000000]) (fun i25 h26 =>
 I 18 [.one (.ptr p0), .one (.slice 1 { a := some (i25, 0), len := 5 })]
 (fun cs27 h28 =>
 ∃ n29 : Int, (cs27 = [.one (.int .i64 n29)]) ∧
 (newK (.cells false [.int .i64 0, .int .i64 7, .int .i64 (-7), .int .i64 1000000000000, .int .i64 (-1000000000000)]) (fun i30 h31 =>
 I 18 [.one (.ptr p0), .one (.slice 1 { a := some (i30, 0), len := 5 })]
 (fun cs32 h33 =>
 ∃ n34 : Int, (cs32 = [.one (.int .i64 n34)]) ∧
 (newK (.cells false [.str s10, .str s16, .str s22]) (fun i35 h36 =>
 (appendTo [] 3 40 l19 1 [.slice 1 { a := some (i35, 0), len := n4.toNat }, .int .i64 n29, .int .i64 n34] (fun l37 h38 =>
 x18 ((l37, IntKind.i64.wrap (n20 + 1))) h38)) h36)) h33) h31)) h28) h26)) h24))
 (fun x39 => ifT (decide (n4 < 3))
 (ifT (decide (s22 = { data := #[110] }))
 (x39 true)
 (ifT (decide (n4 < 2))
 (ifT (decide (s16 = { data := #[121] }))
 (x39 true)
 (ifT (decide (n4 < 1))
 (ifT (decide (s10 = { data := #[98] }))
 (x39 true)
 (fun h40 =>
 I 17 [.one (.ptr p0), .one (.int .i64 3)]
 (fun cs41 h42 =>
 ∃ b43 : Bool, (cs41 = [.one (.bool b43)]) ∧
 x39 b43 h42) h40))
 (fun h44 =>
 I 17 [.one (.ptr p0), .one (.int .i64 3)]
 (fun cs45 h46 =>
 ∃ b47 : Bool, (cs45 = [.one (.bool b47)]) ∧
 x39 b47 h46) h44)))
 (ifT (decide (n4 < 1))
 (ifT (decide (s10 = { data := #[98] }))
 (x39 true)
 (fun h48 =>
 I 17 [.one (.ptr p0), .one (.int .i64 3)]
 (fun cs49 h50 =>
 ∃ b51 : Bool, (cs49 = [.one (.bool b51)]) ∧
 x39 b51 h50) h48))
 (fun h52 =>
 I 17 [.one (.ptr p0), .one (.int .i64 3)]
 (fun cs53 h54 =>
 ∃ b55 : Bool, (cs53 = [.one (.bool b55)]) ∧
 x39 b55 h54) h52))))
 (ifT (decide (n4 < 2))
 (ifT (decide (s16 = { data := #[121] }))
 (x39 true)
 (ifT (decide (n4 < 1))
 (ifT (decide (s10 = { data := #[98] }))
 (x39 true)
 (fun h56 =>
 I 17 [.one (.ptr p0), .one (.int .i64 3)]
 (fun cs57 h58 =>
 ∃ b59 : Bool, (cs57 = [.one (.bool b59)]) ∧
 x39 b59 h58) h56))
 (fun h60 =>
 I 17 [.one (.ptr p0), .one (.int .i64 3)]
 (fun cs61 h62 =>
 ∃ b63 : Bool, (cs61 = [.one (.bool b63)]) ∧
 x39 b63 h62) h60)))
 (ifT (decide (n4 < 1))
 (ifT (decide (s10 = { data := #[98] }))
 (x39 true)
 (fun h64 =>
 I 17 [.one (.ptr p0), .one (.int .i64 3)]
 (fun cs65 h66 =>
 ∃ b67 : Bool, (cs65 = [.one (.bool b67)]) ∧
 x39 b67 h66) h64))
 (fun h68 =>
 I 17 [.one (.ptr p0), .one (.int .i64 3)]
 (fun cs69 h70 =>
 ∃ b71 : Bool, (cs69 = [.one (.bool b71)]) ∧
 x39 b71 h70) h68))))) h21)
 (x12 ((l19, IntKind.i64.wrap (n14 + 1))))))) h15)
 (x6 ((l13, IntKind.i64.wrap (n8 + 1))))))) h9)
 (joinK (A := Bool)
 (fun b72 => ifT b72
 (fun h73 =>
 I 19 [.one (.ptr p0), .one (.int .i64 (↑l7.len : Int))]
 (fun cs74 h75 =>
 ∃ n76 : Int, (cs74 = [.one (.int .i64 n76)]) ∧
 ((0 ≤ n76) ∧
 n76 < (↑l7.len : Int)) ∧
 (derefK l7.a (fun i77 => fun i78 h79 =>
 I 19 [.one (.ptr p0), .one (.int .i64 3)]
 (fun cs80 h81 =>
 ∃ n82 : Int, (cs80 = [.one (.int .i64 n82)]) ∧
 (ifT (decide (n82 = 0))
 (fun h83 =>
 ∃ l84 : Sl, (h83.read i77 (i78 + n76.toNat * 3 + 0) 1 = some [.slice 1 l84]) ∧
 (newK (.cells false [.str { data := #[97] }, .str { data := #[] }, .str { data := #[122] }]) (fun i85 h86 =>
 I 20 [.one (.ptr p0), .one (.slice 1 { a := some (i85, 0), len := 3 })]
 (fun cs87 h88 =>
 (h88 i77 = h86 i77) ∧
 ∃ s89 : ByteArray, (cs87 = [.one (.str s89)]) ∧
 (newK (.cells false [.str s89]) (fun i90 h91 =>
 ∃ cs92 : List Cell, (h91.sl 1 l84 = some cs92) ∧
 (appendTo [] 1 16 ({ a := some (i90, 0), len := 1 }) l84.len cs92 (fun l93 h94 =>
 (storeK [] i77 (i78 + n76.toNat * 3 + 0) [.slice 1 l93] (Q [.one (.slice 3 l7)])) h94)) h91)) h88) h86)) h83)
 (ifT (decide (n82 = 1))
 (fun h95 =>
 (newK (.cells false [.int .i64 (-1), .int .i64 1000001]) (fun i96 h97 =>
 I 18 [.one (.ptr p0), .one (.slice 1 { a := some (i96, 0), len := 2 })]
 (fun cs98 h99 =>
 ∃ n100 : Int, (cs98 = [.one (.int .i64 n100)]) ∧
 (storeK [] i77 (i78 + n76.toNat * 3 + 1) [.int .i64 n100] (Q [.one (.slice 3 l7)])) h99) h97)) h95)
 (fun h101 =>
 (newK (.cells false [.int .i64 1000000000001, .int .i64 (-1000000000001)]) (fun i102 h103 =>
 I 18 [.one (.ptr p0), .one (.slice 1 { a := some (i102, 0), len := 2 })]
 (fun cs104 h105 =>
 ∃ n106 : Int, (cs104 = [.one (.int .i64 n106)]) ∧
 (storeK [] i77 (i78 + n76.toNat * 3 + 2) [.int .i64 n106] (Q [.one (.slice 3 l7)])) h105) h103)) h101))) h81) h79)) h75) h73)
 (Q [.one (.slice 3 l7)]))
 (fun x107 h108 =>
 I 17 [.one (.ptr p0), .one (.int .i64 12)]
 (fun cs109 h110 =>
 ∃ b111 : Bool, (cs109 = [.one (.bool b111)]) ∧
 (ifT b111
 (x107 (decide ((↑l7.len : Int) > 0)))
 (x107 false)) h110) h108))))) h3) h1
theorem den4 (I : FuncId → List V → Post → T) (p0 : Option (Nat × Nat)) (Q : Post) : denF Go.Proofs.Tryz.prog 0 (⟨[(124, 19191697386382238148460544, [(83, tk Go.Proofs.Tryz.prog 4)]), (2053531236, 288230371856744448, [(57, tk Go.Proofs.Tryz.prog 4)])], [(122, 151115727451828646774088, [(3, tk Go.Proofs.Tryz.prog 26), (16, tk Go.Proofs.Tryz.prog 3)]), (31334, 75557863725914319226120, [(3, tk Go.Proofs.Tryz.prog 26), (22, tk Go.Proofs.Tryz.prog 3)]), (8021606, 37778931862956893275144, [(3, tk Go.Proofs.Tryz.prog 26), (28, tk Go.Proofs.Tryz.prog 3)])]⟩) I 4 [V.one (Cell.ptr p0)] Q = vc4 I p0 Q := by kernel_rfl
/-- (*handbill/handmake.Stream).Offers -/
def vc5 (I : FuncId → List V → Post → T) (p0 : Option (Nat × Nat)) (n1 : Int) (Q : Post) : T :=
 fun h2 =>
 I 19 [.one (.ptr p0), .one (.int .i64 (IntKind.i64.wrap (n1 + 1)))]
 (fun cs3 h4 =>
 ∃ n5 : Int, (cs3 = [.one (.int .i64 n5)]) ∧
 (loopK (A := Sl × Int) (({ a := none, len := 0 }, 0))
 (fun x6 => uncur fun l7 n8 => ifT (decide (n8 < n5))
 (fun h9 =>
 (1 + (Utf8.encode (IntKind.i32.wrap (IntKind.i64.wrap (97 + n8)))).size ≤ 9223372036854775807) ∧
 I 21 [.one (.ptr p0), .one (.str ({ data := #[111] } ++ Utf8.encode (IntKind.i32.wrap (IntKind.i64.wrap (97 + n8)))))]
 (fun cs10 h11 =>
 ∃ s12 : ByteArray, ∃ n13 : Int, ∃ n14 : Int, ∃ n15 : Int, ∃ l16 : Sl, ∃ n17 : Int, ∃ n18 : Int, ∃ s19 : ByteArray, ∃ b20 : Bool, ∃ n21 : Int, ∃ n22 : Int, ∃ n23 : Int, (cs10 = [.agg [.str s12, .int .i64 n13, .int .i64 n14, .int .i64 n15, .slice 1 l16, .int .i64 n17, .int .i64 n18, .str s19, .bool b20, .int .i64 n21, .int .i64 n22, .int .i64 n23]]) ∧
 (appendTo [] 12 128 l7 1 [.str s12, .int .i64 n13, .int .i64 n14, .int .i64 n15, .slice 1 l16, .int .i64 n17, .int .i64 n18, .str s19, .bool b20, .int .i64 n21, .int .i64 n22, .int .i64 n23] (fun l24 h25 =>
 x6 ((l24, IntKind.i64.wrap (n8 + 1))) h25)) h11) h9)
 (joinK (A := Bool)
 (fun b26 => ifT b26
 (fun h27 =>
 I 19 [.one (.ptr p0), .one (.int .i64 (↑l7.len : Int))]
 (fun cs28 h29 =>
 ∃ n30 : Int, (cs28 = [.one (.int .i64 n30)]) ∧
 ((0 ≤ n30) ∧
 n30 < (↑l7.len : Int)) ∧
 (derefK l7.a (fun i31 => fun i32 h33 =>
 I 19 [.one (.ptr p0), .one (.int .i64 9)]
 (fun cs34 h35 =>
 ∃ n36 : Int, (cs34 = [.one (.int .i64 n36)]) ∧
 (ifT (decide (n36 = 0))
 (fun h37 =>
 (newK (.cells false [.str { data := #[] }, .str { data := #[111, 97] }, .str { data := #[79] }]) (fun i38 h39 =>
 I 20 [.one (.ptr p0), .one (.slice 1 { a := some (i38, 0), len := 3 })]
 (fun cs40 h41 =>
 ∃ s42 : ByteArray, (cs40 = [.one (.str s42)]) ∧
 (storeK [] i31 (i32 + n30.toNat * 12 + 0) [.str s42] (Q [.one (.slice 12 l7)])) h41) h39)) h37)
 (ifT (decide (n36 = 1))
 (fun h43 =>
 I 16 [.one (.ptr p0), .one (.int .i64 0), .one (.int .i64 5)]
 (fun cs44 h45 =>
 ∃ n46 : Int, (cs44 = [.one (.int .i64 n46)]) ∧
 (storeK [] i31 (i32 + n30.toNat * 12 + 1) [.int .i64 n46] (Q [.one (.slice 12 l7)])) h45) h43)
 (ifT (decide (n36 = 2))
 (fun h47 =>
 (newK (.cells false [.int .i64 0, .int .i64 101, .int .i64 21, .int .i64 1000000000001, .int .i64 (-1)]) (fun i48 h49 =>
 I 18 [.one (.ptr p0), .one (.slice 1 { a := some (i48, 0), len := 5 })]
 (fun cs50 h51 =>
 ∃ n52 : Int, (cs50 = [.one (.int .i64 n52)]) ∧
 (storeK [] i31 (i32 + n30.toNat * 12 + 2) [.int .i64 n52] (Q [.one (.slice 12 l7)])) h51) h49)) h47)
 (ifT (decide (n36 = 3))
 (fun h53 =>
 (newK (.cells false [.int .i64 0, .int .i64 1, .int .i64 21, .int .i64 (-1)]) (fun i54 h55 =>
 I 18 [.one (.ptr p0), .one (.slice 1 { a := some (i54, 0), len := 4 })]
 (fun cs56 h57 =>
 ∃ n58 : Int, (cs56 = [.one (.int .i64 n58)]) ∧
 (storeK [] i31 (i32 + n30.toNat * 12 + 3) [.int .i64 n58] (Q [.one (.slice 12 l7)])) h57) h55)) h53)
 (ifT (decide (n36 = 4))
 (fun h59 =>
 (newK (.cells false [.int .i64 (-1), .int .i64 0, .int .i64 1000000000001]) (fun i60 h61 =>
 I 18 [.one (.ptr p0), .one (.slice 1 { a := some (i60, 0), len := 3 })]
 (fun cs62 h63 =>
 ∃ n64 : Int, (cs62 = [.one (.int .i64 n64)]) ∧
 (newK (.cells false [.int .i64 (-1), .int .i64 0]) (fun i65 h66 =>
 I 18 [.one (.ptr p0), .one (.slice 1 { a := some (i65, 0), len := 2 })]
 (fun cs67 h68 =>
 ∃ n69 : Int, (cs67 = [.one (.int .i64 n69)]) ∧
 (storeK [] i31 (i32 + n30.toNat * 12 + 5) [.int .i64 n64] (fun h70 =>
 (storeK [] i31 (i32 + n30.toNat * 12 + 6) [.int .i64 n69] (Q [.one (.slice 12 l7)])) h70)) h68) h66)) h63) h61)) h59)
 (ifT (decide (n36 = 5))
 (fun h71 =>
 (newK (.cells false [.int .i64 (-1), .int .i64 4321440, .int .i64 5]) (fun i72 h73 =>
 I 18 [.one (.ptr p0), .one (.slice 1 { a := some (i72, 0), len := 3 })]
 (fun cs74 h75 =>
 ∃ n76 : Int, (cs74 = [.one (.int .i64 n76)]) ∧
 (newK (.cells false [.int .i64 5, .int .i64 6, .int .i64 4321441]) (fun i77 h78 =>
 I 18 [.one (.ptr p0), .one (.slice 1 { a := some (i77, 0), len := 3 })]
 (fun cs79 h80 =>
 ∃ n81 : Int, (cs79 = [.one (.int .i64 n81)]) ∧
 (storeK [] i31 (i32 + n30.toNat * 12 + 10) [.int .i64 n76] (fun h82 =>
 (storeK [] i31 (i32 + n30.toNat * 12 + 11) [.int .i64 n81] (Q [.one (.slice 12 l7)])) h82)) h80) h78)) h75) h73)) h71)
 (ifT (decide (n36 = 6))
 (fun h83 =>
 (newK (.cells false [.str { data := #[71] }, .str { data := #[103, 49] }]) (fun i84 h85 =>
 I 20 [.one (.ptr p0), .one (.slice 1 { a := some (i84, 0), len := 2 })]
 (fun cs86 h87 =>
 ∃ s88 : ByteArray, (cs86 = [.one (.str s88)]) ∧
 (storeK [] i31 (i32 + n30.toNat * 12 + 7) [.str s88] (Q [.one (.slice 12 l7)])) h87) h85)) h83)
 (ifT (decide (n36 = 7))
 (fun h89 =>
 (newK (.cells false [.str { data := #[72, 97, 116] }]) (fun i90 h91 =>
 (newK (.cells false [.str { data := #[104, 97, 116] }, .str { data := #[99, 97, 112] }]) (fun i92 h93 =>
 (newK (.cells false [.str { data := #[97] }, .str { data := #[98] }, .str { data := #[99] }, .str { data := #[100] }, .str { data := #[101] }, .str { data := #[102] }, .str { data := #[103] }, .str { data := #[104] }, .str { data := #[105] }, .str { data := #[106] }, .str { data := #[107] }]) (fun i94 h95 =>
 (newK (.cells false [.slice 1 { a := some (i90, 0), len := 1 }, .slice 1 { a := some (i92, 0), len := 2 }, .slice 1 { a := some (i94, 0), len := 11 }]) (fun i96 h97 =>
 I 19 [.one (.ptr p0), .one (.int .i64 3)]
 (fun cs98 h99 =>
 ∃ n100 : Int, (cs98 = [.one (.int .i64 n100)]) ∧
 ((0 ≤ n100) ∧
 n100 < (↑3 : Int)) ∧
 ∃ l101 : Sl, (h99.read i96 (0 + n100.toNat * 1) 1 = some [.slice 1 l101]) ∧
 (storeK [] i31 (i32 + n30.toNat * 12 + 4) [.slice 1 l101] (Q [.one (.slice 12 l7)])) h99) h97)) h95)) h93)) h91)) h89)
 (fun h102 =>
 (newK (.cells false [.int .i64 (-1), .int .i64 1001]) (fun i103 h104 =>
 I 18 [.one (.ptr p0), .one (.slice 1 { a := some (i103, 0), len := 2 })]
 (fun cs105 h106 =>
 ∃ n107 : Int, (cs105 = [.one (.int .i64 n107)]) ∧
 (storeK [] i31 (i32 + n30.toNat * 12 + 9) [.int .i64 n107] (Q [.one (.slice 12 l7)])) h106) h104)) h102))))))))) h35) h33)) h29) h27)
 (Q [.one (.slice 12 l7)]))
 (fun x108 h109 =>
 I 17 [.one (.ptr p0), .one (.int .i64 10)]
 (fun cs110 h111 =>
 ∃ b112 : Bool, (cs110 = [.one (.bool b112)]) ∧
 (ifT b112
 (x108 (decide ((↑l7.len : Int) > 0)))
 (x108 false)) h111) h109)))) h4) h2
theorem den5 (I : FuncId → List V → Post → T) (p0 : Option (Nat × Nat)) (n1 : Int) (Q : Post) : denF Go.Proofs.Tryz.prog 0 (⟨[(60, 8522825728, [(32, tk Go.Proofs.Tryz.prog 4)])], [(58, 67104864, [(5, tk Go.Proofs.Tryz.prog 28), (12, tk Go.Proofs.Tryz.prog 3)])]⟩) I 5 [V.one (Cell.ptr p0), V.one (Cell.int IntKind.i64 n1)] Q = vc5 I p0 n1 Q := by kernel_rfl
/-- (*handbill/handmake.Stream).Basket -/
def vc6 (I : FuncId → List V → Post → T) (p0 : Option (Nat × Nat)) (Q : Post) : T :=
 fun h1 =>
 (newK (.cells false [.int .i64 0, .int .i64 0, .int .i64 495, .int .i64 1000, .int .i64 1000000000000]) (fun i2 h3 =>
 I 18 [.one (.ptr p0), .one (.slice 1 { a := some (i2, 0), len := 5 })]
 (fun cs4 h5 =>
 ∃ n6 : Int, (cs4 = [.one (.int .i64 n6)]) ∧
 I 19 [.one (.ptr p0), .one (.int .i64 5)]
 (fun cs7 h8 =>
 ∃ n9 : Int, (cs7 = [.one (.int .i64 n9)]) ∧
 (loopK (A := (Sl × Int × PUnit) × Int) ((({ a := none, len := 0 }, n6, ()), 0))
 (fun x10 => uncur (uncur fun l11 => uncur fun n12 x13 => fun n14 => ifT (decide (n14 < n9))
 (fun h15 =>
 (1 + (Utf8.encode (IntKind.i32.wrap (IntKind.i64.wrap (97 + n14)))).size ≤ 9223372036854775807) ∧
 (newK (.cells false [.int .i64 0, .int .i64 1, .int .i64 99, .int .i64 300, .int .i64 1000, .int .i64 2001, .int .i64 10000000]) (fun i16 h17 =>
 I 18 [.one (.ptr p0), .one (.slice 1 { a := some (i16, 0), len := 7 })]
 (fun cs18 h19 =>
 ∃ n20 : Int, (cs18 = [.one (.int .i64 n20)]) ∧
 (newK (.cells false [.int .i64 1, .int .i64 1, .int .i64 2, .int .i64 3, .int .i64 7, .int .i64 100]) (fun i21 h22 =>
 I 18 [.one (.ptr p0), .one (.slice 1 { a := some (i21, 0), len := 6 })]
 (fun cs23 h24 =>
 ∃ n25 : Int, (cs23 = [.one (.int .i64 n25)]) ∧
 (newK (.cells false [.str { data := #[104, 97, 116] }]) (fun i26 h27 =>
 (newK (.cells false [.str { data := #[99, 97, 112] }]) (fun i28 h29 =>
 (newK (.cells false [.str { data := #[99, 97, 112] }, .str { data := #[104, 97, 116] }]) (fun i30 h31 =>
 (newK (.cells false [.str { data := #[115, 104, 111, 101] }]) (fun i32 h33 =>
 (newK (.cells false [.slice 1 { a := none, len := 0 }, .slice 1 { a := some (i26, 0), len := 1 }, .slice 1 { a := some (i28, 0), len := 1 }, .slice 1 { a := some (i30, 0), len := 2 }, .slice 1 { a := some (i32, 0), len := 1 }]) (fun i34 h35 =>
 I 19 [.one (.ptr p0), .one (.int .i64 5)]
 (fun cs36 h37 =>
 ∃ n38 : Int, (cs36 = [.one (.int .i64 n38)]) ∧
 ((0 ≤ n38) ∧
 n38 < (↑5 : Int)) ∧
 ∃ l39 : Sl, (h37.read i34 (0 + n38.toNat * 1) 1 = some [.slice 1 l39]) ∧
 (appendTo [] 4 56 l11 1 [.str ({ data := #[105] } ++ Utf8.encode (IntKind.i32.wrap (IntKind.i64.wrap (97 + n14)))), .int .i64 n20, .int .i64 n25, .slice 1 l39] (fun l40 h41 =>
 x10 (((l40, n12, ()), IntKind.i64.wrap (n14 + 1))) h41)) h37) h35)) h33)) h31)) h29)) h27)) h24) h22)) h19) h17)) h15)
 (fun h42 =>
 I 17 [.one (.ptr p0), .one (.int .i64 12)]
 (fun cs43 h44 =>
 ∃ b45 : Bool, (cs43 = [.one (.bool b45)]) ∧
 (joinK (A := Sl × Int × PUnit)
 (uncur fun l46 => uncur fun n47 x48 => joinK (A := Bool)
 (fun b49 => ifT b49
 (fun h50 =>
 I 19 [.one (.ptr p0), .one (.int .i64 (↑l46.len : Int))]
 (fun cs51 h52 =>
 ∃ n53 : Int, (cs51 = [.one (.int .i64 n53)]) ∧
 ((0 ≤ n53) ∧
 n53 < (↑l46.len : Int)) ∧
 (derefK l46.a (fun i54 => fun i55 h56 =>
 I 19 [.one (.ptr p0), .one (.int .i64 4)]
 (fun cs57 h58 =>
 ∃ n59 : Int, (cs57 = [.one (.int .i64 n59)]) ∧
 (ifT (decide (n59 = 0))
 (fun h60 =>
 (newK (.cells false [.str { data := #[] }, .str { data := #[105, 97] }, .str { data := #[73] }]) (fun i61 h62 =>
 I 20 [.one (.ptr p0), .one (.slice 1 { a := some (i61, 0), len := 3 })]
 (fun cs63 h64 =>
 ∃ s65 : ByteArray, (cs63 = [.one (.str s65)]) ∧
 (storeK [] i54 (i55 + n53.toNat * 4 + 0) [.str s65] (fun h66 =>
 Q [.agg [.slice 4 l46, .int .i64 n47]] h66)) h64) h62)) h60)
 (ifT (decide (n59 = 1))
 (fun h67 =>
 (newK (.cells false [.int .i64 (-1), .int .i64 10000001]) (fun i68 h69 =>
 I 18 [.one (.ptr p0), .one (.slice 1 { a := some (i68, 0), len := 2 })]
 (fun cs70 h71 =>
 ∃ n72 : Int, (cs70 = [.one (.int .i64 n72)]) ∧
 (storeK [] i54 (i55 + n53.toNat * 4 + 1) [.int .i64 n72] (fun h73 =>
 Q [.agg [.slice 4 l46, .int .i64 n47]] h73)) h71) h69)) h67)
 (ifT (decide (n59 = 2))
 (fun h74 =>
 (newK (.cells false [.int .i64 0, .int .i64 101]) (fun i75 h76 =>
 I 18 [.one (.ptr p0), .one (.slice 1 { a := some (i75, 0), len := 2 })]
 (fun cs77 h78 =>
 ∃ n79 : Int, (cs77 = [.one (.int .i64 n79)]) ∧
 (storeK [] i54 (i55 + n53.toNat * 4 + 2) [.int .i64 n79] (fun h80 =>
 Q [.agg [.slice 4 l46, .int .i64 n47]] h80)) h78) h76)) h74)
 (fun h81 =>
 (newK (.cells false [.str { data := #[98] }, .str { data := #[97] }]) (fun i82 h83 =>
 (newK (.cells false [.str { data := #[] }]) (fun i84 h85 =>
 (newK (.cells false [.str { data := #[120] }, .str { data := #[120] }]) (fun i86 h87 =>
 (newK (.cells false [.slice 1 { a := some (i82, 0), len := 2 }, .slice 1 { a := some (i84, 0), len := 1 }, .slice 1 { a := some (i86, 0), len := 2 }]) (fun i88 h89 =>
 I 19 [.one (.ptr p0), .one (.int .i64 3)]
 (fun cs90 h91 =>
 ∃ n92 : Int, (cs90 = [.one (.int .i64 n92)]) ∧
 ((0 ≤ n92) ∧
 n92 < (↑3 : Int)) ∧
 ∃ l93 : Sl, (h91.read i88 (0 + n92.toNat * 1) 1 = some [.slice 1 l93]) ∧
 (storeK [] i54 (i55 + n53.toNat * 4 + 3) [.slice 1 l93] (fun h94 =>
 Q [.agg [.slice 4 l46, .int .i64 n47]] h94)) h91) h89)) h87)) h85)) h83)) h81)))) h58) h56)) h52) h50)
 (fun h95 =>
 Q [.agg [.slice 4 l46, .int .i64 n47]] h95))
 (fun x96 h97 =>
 I 17 [.one (.ptr p0), .one (.int .i64 12)]
 (fun cs98 h99 =>
 ∃ b100 : Bool, (cs98 = [.one (.bool b100)]) ∧
 (ifT b100
 (x96 (decide ((↑l46.len : Int) > 0)))
 (x96 false)) h99) h97))
 (fun x101 => ifT b45
 (fun h102 =>
 (newK (.cells false [.int .i64 (-1), .int .i64 1000000000001, .int .i64 0]) (fun i103 h104 =>
 I 18 [.one (.ptr p0), .one (.slice 1 { a := some (i103, 0), len := 3 })]
 (fun cs105 h106 =>
 ∃ n107 : Int, (cs105 = [.one (.int .i64 n107)]) ∧
 x101 ((l11, n107, ())) h106) h104)) h102)
 (x101 ((l11, n12, ()))))) h44) h42)))) h8) h5) h3)) h1
theorem den6 (I : FuncId → List V → Post → T) (p0 : Option (Nat × Nat)) (Q : Post) : denF Go.Proofs.Tryz.prog 44 (⟨[(61, 2111062325329928, [(3, tvar Go.Proofs.Tryz.prog 32)]), (124, 574208952489738240, [(58, tk Go.Proofs.Tryz.prog 4)])], [(58, 35184372080696, [(3, tvar Go.Proofs.Tryz.prog 32), (13, tk Go.Proofs.Tryz.prog 3)])]⟩) I 6 [V.one (Cell.ptr p0)] Q = vc6 I p0 Q := by kernel_rfl
/-- (*handbill/handmake.Stream).Budgets -/
def vc7 (I : FuncId → List V → Post → T) (p0 : Option (Nat × Nat)) (Q : Post) : T :=
 fun h1 =>
 (newK (.cells false [.str { data := #[109, 97, 121] }, .str { data := #[106, 117, 110, 101] }, .str { data := #[97, 108, 108] }]) (fun i2 => loopK (A := Sl × Int) (({ a := none, len := 0 }, 0))
 (fun x3 => uncur fun l4 n5 => ifT (decide (n5 < (↑3 : Int)))
 (fun h6 =>
 ((0 ≤ n5) ∧
 n5 < (↑3 : Int)) ∧
 ∃ s7 : ByteArray, (h6.read i2 (0 + n5.toNat * 1) 1 = some [.str s7]) ∧
 I 17 [.one (.ptr p0), .one (.int .i64 4)]
 (fun cs8 h9 =>
 ∃ b10 : Bool, (cs8 = [.one (.bool b10)]) ∧
 (ifT b10
 (x3 ((l4, IntKind.i64.wrap (n5 + 1))))
 (fun h11 =>
 (newK (.cells false [.int .i64 0, .int .i64 0, .int .i64 1, .int .i64 5]) (fun i12 h13 =>
 I 18 [.one (.ptr p0), .one (.slice 1 { a := some (i12, 0), len := 4 })]
 (fun cs14 h15 =>
 ∃ n16 : Int, (cs14 = [.one (.int .i64 n16)]) ∧
 (newK (.cells false [.int .i64 0, .int .i64 100, .int .i64 1000, .int .i64 1001, .int .i64 1000000000000]) (fun i17 h18 =>
 I 18 [.one (.ptr p0), .one (.slice 1 { a := some (i17, 0), len := 5 })]
 (fun cs19 h20 =>
 ∃ n21 : Int, (cs19 = [.one (.int .i64 n21)]) ∧
 (newK (.cells false [.int .i64 0, .int .i64 2, .int .i64 9, .int .i64 2000]) (fun i22 h23 =>
 I 18 [.one (.ptr p0), .one (.slice 1 { a := some (i22, 0), len := 4 })]
 (fun cs24 h25 =>
 ∃ n26 : Int, (cs24 = [.one (.int .i64 n26)]) ∧
 I 17 [.one (.ptr p0), .one (.int .i64 2)]
 (fun cs27 h28 =>
 ∃ b29 : Bool, (cs27 = [.one (.bool b29)]) ∧
 (appendTo [] 5 48 l4 1 [.str s7, .int .i64 n21, .int .i64 n16, .int .i64 (IntKind.i64.wrap (n16 + n26)), .bool b29] (fun l30 h31 =>
 x3 ((l30, IntKind.i64.wrap (n5 + 1))) h31)) h28) h25) h23)) h20) h18)) h15) h13)) h11)) h9) h6)
 (joinK (A := Bool)
 (fun b32 => ifT b32
 (fun h33 =>
 I 19 [.one (.ptr p0), .one (.int .i64 (↑l4.len : Int))]
 (fun cs34 h35 =>
 ∃ n36 : Int, (cs34 = [.one (.int .i64 n36)]) ∧
 ((0 ≤ n36) ∧
 n36 < (↑l4.len : Int)) ∧
 (derefK l4.a (fun i37 => fun i38 h39 =>
 I 19 [.one (.ptr p0), .one (.int .i64 4)]
 (fun cs40 h41 =>
 ∃ n42 : Int, (cs40 = [.one (.int .i64 n42)]) ∧
 (ifT (decide (n42 = 0))
 (fun h43 =>
 (newK (.cells false [.str { data := #[] }, .str { data := #[109, 97, 121] }, .str { data := #[77, 97, 121] }]) (fun i44 h45 =>
 I 20 [.one (.ptr p0), .one (.slice 1 { a := some (i44, 0), len := 3 })]
 (fun cs46 h47 =>
 ∃ s48 : ByteArray, (cs46 = [.one (.str s48)]) ∧
 (storeK [] i37 (i38 + n36.toNat * 5 + 0) [.str s48] (Q [.one (.slice 5 l4)])) h47) h45)) h43)
 (ifT (decide (n42 = 1))
 (fun h49 =>
 (newK (.cells false [.int .i64 (-1), .int .i64 1000000000001]) (fun i50 h51 =>
 I 18 [.one (.ptr p0), .one (.slice 1 { a := some (i50, 0), len := 2 })]
 (fun cs52 h53 =>
 ∃ n54 : Int, (cs52 = [.one (.int .i64 n54)]) ∧
 (storeK [] i37 (i38 + n36.toNat * 5 + 1) [.int .i64 n54] (Q [.one (.slice 5 l4)])) h53) h51)) h49)
 (ifT (decide (n42 = 2))
 (fun h55 =>
 ∃ n56 : Int, (h55.read i37 (i38 + n36.toNat * 5 + 3) 1 = some [.int .i64 n56]) ∧
 (newK (.cells false [.int .i64 (-1), .int .i64 (IntKind.i64.wrap (n56 + 1))]) (fun i57 h58 =>
 I 18 [.one (.ptr p0), .one (.slice 1 { a := some (i57, 0), len := 2 })]
 (fun cs59 h60 =>
 ∃ n61 : Int, (cs59 = [.one (.int .i64 n61)]) ∧
 (storeK [] i37 (i38 + n36.toNat * 5 + 2) [.int .i64 n61] (Q [.one (.slice 5 l4)])) h60) h58)) h55)
 (fun h62 =>
 (newK (.cells false [.int .i64 3000, .int .i64 3001]) (fun i63 h64 =>
 I 18 [.one (.ptr p0), .one (.slice 1 { a := some (i63, 0), len := 2 })]
 (fun cs65 h66 =>
 ∃ n67 : Int, (cs65 = [.one (.int .i64 n67)]) ∧
 (storeK [] i37 (i38 + n36.toNat * 5 + 3) [.int .i64 n67] (Q [.one (.slice 5 l4)])) h66) h64)) h62)))) h41) h39)) h35) h33)
 (Q [.one (.slice 5 l4)]))
 (fun x68 h69 =>
 I 17 [.one (.ptr p0), .one (.int .i64 10)]
 (fun cs70 h71 =>
 ∃ b72 : Bool, (cs70 = [.one (.bool b72)]) ∧
 (ifT b72
 (x68 (decide ((↑l4.len : Int) > 0)))
 (x68 false)) h71) h69))))) h1
theorem den7 (I : FuncId → List V → Post → T) (p0 : Option (Nat × Nat)) (Q : Post) : denF Go.Proofs.Tryz.prog 0 (⟨[(60, 8727373545472, [(42, tk Go.Proofs.Tryz.prog 4)])], [(58, 68719475816, [(3, tk Go.Proofs.Tryz.prog 34), (10, tk Go.Proofs.Tryz.prog 3)])]⟩) I 7 [V.one (Cell.ptr p0)] Q = vc7 I p0 Q := by kernel_rfl
/-- (*handbill/handmake.Stream).Range -/
def vc16 (I : FuncId → List V → Post → T) (p0 : Option (Nat × Nat)) (n1 : Int) (n2 : Int) (Q : Post) : T :=
 ifT (decide (n2 < n1))
 (Q [.one (.int .i64 n1)])
 (fun h3 =>
 I 19 [.one (.ptr p0), .one (.int .i64 (IntKind.i64.wrap (IntKind.i64.wrap (n2 - n1) + 1)))]
 (fun cs4 h5 =>
 ∃ n6 : Int, (cs4 = [.one (.int .i64 n6)]) ∧
 Q [.one (.int .i64 (IntKind.i64.wrap (n1 + n6)))] h5) h3)
theorem den16 (I : FuncId → List V → Post → T) (p0 : Option (Nat × Nat)) (n1 : Int) (n2 : Int) (Q : Post) : denF Go.Proofs.Tryz.prog 0 (⟨[], []⟩) I 16 [V.one (Cell.ptr p0), V.one (Cell.int IntKind.i64 n1), V.one (Cell.int IntKind.i64 n2)] Q = vc16 I p0 n1 n2 Q := by kernel_rfl
/-- (*handbill/handmake.Stream).Flip -/
def vc17 (I : FuncId → List V → Post → T) (p0 : Option (Nat × Nat)) (n1 : Int) (Q : Post) : T :=
 fun h2 =>
 I 19 [.one (.ptr p0), .one (.int .i64 n1)]
 (fun cs3 h4 =>
 ∃ n5 : Int, (cs3 = [.one (.int .i64 n5)]) ∧
 Q [.one (.bool (decide (n5 = 0)))] h4) h2
theorem den17 (I : FuncId → List V → Post → T) (p0 : Option (Nat × Nat)) (n1 : Int) (Q : Post) : denF Go.Proofs.Tryz.prog 0 (⟨[], []⟩) I 17 [V.one (Cell.ptr p0), V.one (Cell.int IntKind.i64 n1)] Q = vc17 I p0 n1 Q := by kernel_rfl
/-- (*handbill/handmake.Stream).Pick -/
def vc18 (I : FuncId → List V → Post → T) (p0 : Option (Nat × Nat)) (l1 : Sl) (Q : Post) : T :=
 fun h2 =>
 I 19 [.one (.ptr p0), .one (.int .i64 (↑l1.len : Int))]
 (fun cs3 h4 =>
 ∃ n5 : Int, (cs3 = [.one (.int .i64 n5)]) ∧
 ((0 ≤ n5) ∧
 n5 < (↑l1.len : Int)) ∧
 (derefK l1.a (fun i6 => fun i7 h8 =>
 ∃ n9 : Int, (h8.read i6 (i7 + n5.toNat * 1) 1 = some [.int .i64 n9]) ∧
 Q [.one (.int .i64 n9)] h8)) h4) h2
theorem den18 (I : FuncId → List V → Post → T) (p0 : Option (Nat × Nat)) (l1 : Sl) (Q : Post) : denF Go.Proofs.Tryz.prog 0 (⟨[], []⟩) I 18 [V.one (Cell.ptr p0), V.one (Cell.slice 1 l1)] Q = vc18 I p0 l1 Q := by kernel_rfl
/-- (*handbill/handmake.Stream).Next -/
def vc19 (I : FuncId → List V → Post → T) (p0 : Option (Nat × Nat)) (n1 : Int) (Q : Post) : T :=
 derefK p0 (fun i2 => fun i3 h4 =>
 ∃ n5 : Int, (h4.read i2 (i3 + 1) 1 = some [.int .i64 n5]) ∧
 (derefK p0 (fun i6 => fun i7 h8 =>
 (storeK [] i6 (i7 + 1) [.int .i64 (IntKind.i64.wrap (n5 + 1))] (derefK p0 (fun i9 => fun i10 h11 =>
 ∃ l12 : Sl, (h11.read i9 (i10 + 0) 1 = some [.slice 1 l12]) ∧
 (ifT (decide ((↑l12.len : Int) = 0))
 (derefK p0 (fun i13 => fun i14 h15 =>
 ∃ n16 : Int, (h15.read i13 (i14 + 1) 1 = some [.int .i64 n16]) ∧
 I 49 [.one (.int .i64 (IntKind.i64.wrap (n16 * 7919))), .one (.int .i64 n1)]
 (fun cs17 h18 =>
 ∃ n19 : Int, (cs17 = [.one (.int .i64 n19)]) ∧
 Q [.one (.int .i64 n19)] h18) h15))
 (derefK p0 (fun i20 => fun i21 h22 =>
 ∃ n23 : Int, (h22.read i20 (i21 + 1) 1 = some [.int .i64 n23]) ∧
 (derefK p0 (fun i24 => fun i25 h26 =>
 ∃ l27 : Sl, (h26.read i24 (i25 + 0) 1 = some [.slice 1 l27]) ∧
 ((↑l27.len : Int) ≠ 0) ∧
 (derefK p0 (fun i28 => fun i29 h30 =>
 ∃ n31 : Int, (h30.read i28 (i29 + 1) 1 = some [.int .i64 n31]) ∧
 (derefK p0 (fun i32 => fun i33 h34 =>
 ∃ l35 : Sl, (h34.read i32 (i33 + 0) 1 = some [.slice 1 l35]) ∧
 ((↑l35.len : Int) ≠ 0) ∧
 (derefK p0 (fun i36 => fun i37 h38 =>
 ∃ l39 : Sl, (h38.read i36 (i37 + 0) 1 = some [.slice 1 l39]) ∧
 ((0 ≤ (IntKind.i64.wrap (n23 - 1)).tmod (↑l27.len : Int)) ∧
 (IntKind.i64.wrap (n23 - 1)).tmod (↑l27.len : Int) < (↑l39.len : Int)) ∧
 (derefK l39.a (fun i40 => fun i41 h42 =>
 ∃ n43 : Int, (h42.read i40 (i41 + ((IntKind.i64.wrap (n23 - 1)).tmod (↑l27.len : Int)).toNat * 1) 1 = some [.int .i64 n43]) ∧
 I 49 [.one (.int .i64 n43), .one (.int .i64 1073741824)]
 (fun cs44 h45 =>
 ∃ n46 : Int, (cs44 = [.one (.int .i64 n46)]) ∧
 I 49 [.one (.int .i64 (IntKind.i64.wrap (n46 + IntKind.i64.wrap (IntKind.i64.wrap ((IntKind.i64.wrap (n31 - 1)).tdiv (↑l35.len : Int)) * IntKind.i64.wrap (7919 + (IntKind.i64.wrap (n23 - 1)).tmod (↑l27.len : Int)))))), .one (.int .i64 n1)]
 (fun cs47 h48 =>
 ∃ n49 : Int, (cs47 = [.one (.int .i64 n49)]) ∧
 Q [.one (.int .i64 n49)] h48) h45) h42)) h38)) h34)) h30)) h26)) h22))) h11))) h8)) h4)
theorem den19 (I : FuncId → List V → Post → T) (p0 : Option (Nat × Nat)) (n1 : Int) (Q : Post) : denF Go.Proofs.Tryz.prog 0 (⟨[], []⟩) I 19 [V.one (Cell.ptr p0), V.one (Cell.int IntKind.i64 n1)] Q = vc19 I p0 n1 Q := by kernel_rfl
/-- (*handbill/handmake.Stream).one -/
def vc20 (I : FuncId → List V → Post → T) (p0 : Option (Nat × Nat)) (l1 : Sl) (Q : Post) : T :=
 fun h2 =>
 I 19 [.one (.ptr p0), .one (.int .i64 (↑l1.len : Int))]
 (fun cs3 h4 =>
 ∃ n5 : Int, (cs3 = [.one (.int .i64 n5)]) ∧
 ((0 ≤ n5) ∧
 n5 < (↑l1.len : Int)) ∧
 (derefK l1.a (fun i6 => fun i7 h8 =>
 ∃ s9 : ByteArray, (h8.read i6 (i7 + n5.toNat * 1) 1 = some [.str s9]) ∧
 Q [.one (.str s9)] h8)) h4) h2
theorem den20 (I : FuncId → List V → Post → T) (p0 : Option (Nat × Nat)) (l1 : Sl) (Q : Post) : denF Go.Proofs.Tryz.prog 0 (⟨[], []⟩) I 20 [V.one (Cell.ptr p0), V.one (Cell.slice 1 l1)] Q = vc20 I p0 l1 Q := by kernel_rfl
/-- (*handbill/handmake.Stream).Offer -/
def vc21 (I : FuncId → List V → Post → T) (p0 : Option (Nat × Nat)) (s1 : ByteArray) (Q : Post) : T :=
 fun h2 =>
 I 16 [.one (.ptr p0), .one (.int .i64 1), .one (.int .i64 4)]
 (fun cs3 h4 =>
 ∃ n5 : Int, (cs3 = [.one (.int .i64 n5)]) ∧
 (newK (.cells false [.int .i64 0, .int .i64 0, .int .i64 1, .int .i64 2]) (fun i6 h7 =>
 I 18 [.one (.ptr p0), .one (.slice 1 { a := some (i6, 0), len := 4 })]
 (fun cs8 h9 =>
 ∃ n10 : Int, (cs8 = [.one (.int .i64 n10)]) ∧
 (newK (.cells false [.int .i64 0, .int .i64 0, .int .i64 0, .int .i64 60]) (fun i11 h12 =>
 I 18 [.one (.ptr p0), .one (.slice 1 { a := some (i11, 0), len := 4 })]
 (fun cs13 h14 =>
 ∃ n15 : Int, (cs13 = [.one (.int .i64 n15)]) ∧
 (newK (.cells false [.int .i64 50, .int .i64 100, .int .i64 4321440, .int .i64 4321440]) (fun i16 h17 =>
 I 18 [.one (.ptr p0), .one (.slice 1 { a := some (i16, 0), len := 4 })]
 (fun cs18 h19 =>
 ∃ n20 : Int, (cs18 = [.one (.int .i64 n20)]) ∧
 (joinK (A := ByteArray × Int × Int × Int × Sl × Int × Int × ByteArray × Bool × Int × Int × Int × PUnit)
 (uncur fun s21 => uncur fun n22 => uncur fun n23 => uncur fun n24 => uncur fun l25 => uncur fun n26 => uncur fun n27 => uncur fun s28 => uncur fun b29 => uncur fun n30 => uncur fun n31 => uncur fun n32 x33 => joinK (A := Bool)
 (fun b34 => joinK (A := ByteArray × Int × Int × Int × Sl × Int × Int × ByteArray × Bool × Int × Int × Int × PUnit)
 (uncur fun s35 => uncur fun n36 => uncur fun n37 => uncur fun n38 => uncur fun l39 => uncur fun n40 => uncur fun n41 => uncur fun s42 => uncur fun b43 => uncur fun n44 => uncur fun n45 => uncur fun n46 x47 => fun h48 =>
 (newK (.cells false [.int .i64 0, .int .i64 0, .int .i64 0, .int .i64 500, .int .i64 3000]) (fun i49 h50 =>
 I 18 [.one (.ptr p0), .one (.slice 1 { a := some (i49, 0), len := 5 })]
 (fun cs51 h52 =>
 ∃ n53 : Int, (cs51 = [.one (.int .i64 n53)]) ∧
 (newK (.cells false [.int .i64 0, .int .i64 0, .int .i64 0, .int .i64 100, .int .i64 333]) (fun i54 h55 =>
 I 18 [.one (.ptr p0), .one (.slice 1 { a := some (i54, 0), len := 5 })]
 (fun cs56 h57 =>
 ∃ n58 : Int, (cs56 = [.one (.int .i64 n58)]) ∧
 I 17 [.one (.ptr p0), .one (.int .i64 4)]
 (fun cs59 h60 =>
 ∃ b61 : Bool, (cs59 = [.one (.bool b61)]) ∧
 (joinK (A := ByteArray × Int × Int × Int × Sl × Int × Int × ByteArray × Bool × Int × Int × Int × PUnit)
 (uncur fun s62 => uncur fun n63 => uncur fun n64 => uncur fun n65 => uncur fun l66 => uncur fun n67 => uncur fun n68 => uncur fun s69 => uncur fun b70 => uncur fun n71 => uncur fun n72 => uncur fun n73 x74 => fun h75 =>
 I 17 [.one (.ptr p0), .one (.int .i64 8)]
 (fun cs76 h77 =>
 ∃ b78 : Bool, (cs76 = [.one (.bool b78)]) ∧
 Q [.agg [.str s62, .int .i64 n63, .int .i64 n64, .int .i64 n65, .slice 1 l66, .int .i64 n67, .int .i64 n68, .str s69, .bool b78, .int .i64 n71, .int .i64 n72, .int .i64 n73]] h77) h75)
 (fun x79 => ifT b61
 (fun h80 =>
 (newK (.cells false [.str { data := #[103, 49] }, .str { data := #[103, 50] }]) (fun i81 h82 =>
 I 20 [.one (.ptr p0), .one (.slice 1 { a := some (i81, 0), len := 2 })]
 (fun cs83 h84 =>
 ∃ s85 : ByteArray, (cs83 = [.one (.str s85)]) ∧
 x79 ((s35, n36, n37, n38, l39, n53, n58, s85, b43, n44, n45, n46, ())) h84) h82)) h80)
 (x79 ((s35, n36, n37, n38, l39, n53, n58, s42, b43, n44, n45, n46, ()))))) h60) h57) h55)) h52) h50)) h48)
 (fun x86 => ifT b34
 (fun h87 =>
 (newK (.cells false [.str { data := #[104, 97, 116] }]) (fun i88 h89 =>
 (newK (.cells false [.str { data := #[99, 97, 112] }, .str { data := #[104, 97, 116] }]) (fun i90 h91 =>
 (newK (.cells false [.str { data := #[115, 104, 111, 101] }]) (fun i92 h93 =>
 (newK (.cells false [.slice 1 { a := some (i88, 0), len := 1 }, .slice 1 { a := some (i90, 0), len := 2 }, .slice 1 { a := some (i92, 0), len := 1 }]) (fun i94 h95 =>
 I 19 [.one (.ptr p0), .one (.int .i64 3)]
 (fun cs96 h97 =>
 ∃ n98 : Int, (cs96 = [.one (.int .i64 n98)]) ∧
 ((0 ≤ n98) ∧
 n98 < (↑3 : Int)) ∧
 ∃ l99 : Sl, (h97.read i94 (0 + n98.toNat * 1) 1 = some [.slice 1 l99]) ∧
 x86 ((s21, n22, n23, n24, l99, n26, n27, s28, b29, n30, n31, n32, ())) h97) h95)) h93)) h91)) h89)) h87)
 (x86 ((s21, n22, n23, n24, l25, n26, n27, s28, b29, n30, n31, n32, ())))))
 (fun x100 => ifT (!decide (n22 = 4))
 (fun h101 =>
 I 17 [.one (.ptr p0), .one (.int .i64 2)]
 (fun cs102 h103 =>
 ∃ b104 : Bool, (cs102 = [.one (.bool b104)]) ∧
 x100 b104 h103) h101)
 (x100 false)))
 (fun x105 => ifT (decide (n5 = 1))
 (fun h106 =>
 (newK (.cells false [.int .i64 1, .int .i64 10, .int .i64 33, .int .i64 50, .int .i64 100]) (fun i107 h108 =>
 I 18 [.one (.ptr p0), .one (.slice 1 { a := some (i107, 0), len := 5 })]
 (fun cs109 h110 =>
 ∃ n111 : Int, (cs109 = [.one (.int .i64 n111)]) ∧
 x105 ((s1, n5, n111, 0, { a := none, len := 0 }, 0, 0, ByteArray.empty, false, n10, n15, max n20 (IntKind.i64.wrap (n15 + 1)), ())) h110) h108)) h106)
 (joinK (A := ByteArray × Int × Int × Int × Sl × Int × Int × ByteArray × Bool × Int × Int × Int × PUnit)
 (uncur fun s112 => uncur fun n113 => uncur fun n114 => uncur fun n115 => uncur fun l116 => uncur fun n117 => uncur fun n118 => uncur fun s119 => uncur fun b120 => uncur fun n121 => uncur fun n122 => uncur fun n123 x124 => fun h125 =>
 x105 ((s112, n113, n114, n115, l116, n117, n118, s119, b120, n121, n122, n123, ())) h125)
 (fun x126 => ifT (decide (n5 = 3))
 (fun h127 =>
 I 16 [.one (.ptr p0), .one (.int .i64 1), .one (.int .i64 3)]
 (fun cs128 h129 =>
 ∃ n130 : Int, (cs128 = [.one (.int .i64 n130)]) ∧
 I 16 [.one (.ptr p0), .one (.int .i64 1), .one (.int .i64 2)]
 (fun cs131 h132 =>
 ∃ n133 : Int, (cs131 = [.one (.int .i64 n133)]) ∧
 x126 ((s1, n5, n130, n133, { a := none, len := 0 }, 0, 0, ByteArray.empty, false, n10, n15, max n20 (IntKind.i64.wrap (n15 + 1)), ())) h132) h129) h127)
 (fun h134 =>
 (newK (.cells false [.int .i64 1, .int .i64 100, .int .i64 500, .int .i64 5000, .int .i64 1000000000000]) (fun i135 h136 =>
 I 18 [.one (.ptr p0), .one (.slice 1 { a := some (i135, 0), len := 5 })]
 (fun cs137 h138 =>
 ∃ n139 : Int, (cs137 = [.one (.int .i64 n139)]) ∧
 x126 ((s1, n5, n139, 0, { a := none, len := 0 }, 0, 0, ByteArray.empty, false, n10, n15, max n20 (IntKind.i64.wrap (n15 + 1)), ())) h138) h136)) h134))))) h19) h17)) h14) h12)) h9) h7)) h4) h2
theorem den21 (I : FuncId → List V → Post → T) (p0 : Option (Nat × Nat)) (s1 : ByteArray) (Q : Post) : denF Go.Proofs.Tryz.prog 48 (⟨[(124, 8936830510563328, [(52, tk Go.Proofs.Tryz.prog 4)]), (125, 4602678819172646944, [(5, tvar Go.Proofs.Tryz.prog 65)]), (245, 70355590840352, [(5, tvar Go.Proofs.Tryz.prog 65)]), (983, 69273259081760, [(5, tvar Go.Proofs.Tryz.prog 65)]), (1021, 70835497243044678205472, [(5, tvar Go.Proofs.Tryz.prog 65)])], []⟩) I 21 [V.one (Cell.ptr p0), V.one (Cell.str s1)] Q = vc21 I p0 s1 Q := by kernel_rfl
/-- handbill/handmake.Below -/
def vc49 (I : FuncId → List V → Post → T) (n0 : Int) (n1 : Int) (Q : Post) : T :=
 ifT (decide (n1 < 1))
 (Q [.one (.int .i64 0)])
 (fun h2 =>
 (n1 ≠ 0) ∧
 (ifT (decide (n0.tmod n1 < 0))
 (Q [.one (.int .i64 (IntKind.i64.wrap (n0.tmod n1 + n1)))])
 (Q [.one (.int .i64 (n0.tmod n1))])) h2)
theorem den49 (I : FuncId → List V → Post → T) (n0 : Int) (n1 : Int) (Q : Post) : denF Go.Proofs.Tryz.prog 0 (⟨[], []⟩) I 49 [V.one (Cell.int IntKind.i64 n0), V.one (Cell.int IntKind.i64 n1)] Q = vc49 I n0 n1 Q := by kernel_rfl
/-- handbill/measure.Fold -/
def vc8 (I : FuncId → List V → Post → T) (l0 : Sl) (l1 : Sl) (Q : Post) : T :=
 fun h2 =>
 I 22 [.one (.slice 3 l0)]
 (fun cs3 h4 =>
 ∃ n5 : Int, (cs3 = [.one (.int .i64 n5)]) ∧
 (ifT (!decide (n5 = 0))
 (Q [.one (.slice 3 { a := none, len := 0 }), .one (.int .i64 n5)])
 (joinK (A := Int)
 (fun n6 => loopK (A := Int) 0
 (fun x7 n8 => ifT (decide (n8 < (↑l1.len : Int)))
 (fun h9 =>
 ((0 ≤ n8) ∧
 n8 < (↑l1.len : Int)) ∧
 (derefK l1.a (fun i10 => fun i11 h12 =>
 ∃ n13 : Int, (h12.read i10 (i11 + n8.toNat * 1) 1 = some [.int .i64 n13]) ∧
 I 23 [.one (.int .i64 n13), .one (.int .i64 0), .one (.int .i64 (IntKind.i64.wrap (n6 - 1)))]
 (fun cs14 h15 =>
 ∃ b16 : Bool, (cs14 = [.one (.bool b16)]) ∧
 (ifT (!b16)
 (Q [.one (.slice 3 { a := none, len := 0 }), .one (.int .i64 1)])
 (ifT (decide (n8 > 0))
 (fun h17 =>
 ((0 ≤ IntKind.i64.wrap (n8 - 1)) ∧
 IntKind.i64.wrap (n8 - 1) < (↑l1.len : Int)) ∧
 (derefK l1.a (fun i18 => fun i19 h20 =>
 ∃ n21 : Int, (h20.read i18 (i19 + (IntKind.i64.wrap (n8 - 1)).toNat * 1) 1 = some [.int .i64 n21]) ∧
 (ifT (decide (n13 ≤ n21))
 (Q [.one (.slice 3 { a := none, len := 0 }), .one (.int .i64 7)])
 (x7 (IntKind.i64.wrap (n8 + 1)))) h20)) h17)
 (x7 (IntKind.i64.wrap (n8 + 1))))) h15) h12)) h9)
 (loopK (A := Sl × Int) (({ a := none, len := 0 }, 0))
 (fun x22 => uncur fun l23 n24 => ifT (decide (n24 < (↑l0.len : Int)))
 (fun h25 =>
 ((0 ≤ n24) ∧
 n24 < (↑l0.len : Int)) ∧
 (derefK l0.a (fun i26 => fun i27 h28 =>
 ∃ l29 : Sl, ∃ n30 : Int, ∃ n31 : Int, (h28.read i26 (i27 + n24.toNat * 3) 3 = some [.slice 1 l29, .int .i64 n30, .int .i64 n31]) ∧
 (loopK (A := (Sl × Int × Int × PUnit) × Int) ((({ a := none, len := 0 }, n30, n31, ()), 0))
 (fun x32 => uncur (uncur fun l33 => uncur fun n34 => uncur fun n35 x36 => fun n37 => ifT (decide (n37 < (↑l1.len : Int)))
 (fun h38 =>
 ((0 ≤ n37) ∧
 n37 < (↑l1.len : Int)) ∧
 (derefK l1.a (fun i39 => fun i40 h41 =>
 ∃ n42 : Int, (h41.read i39 (i40 + n37.toNat * 1) 1 = some [.int .i64 n42]) ∧
 ((0 ≤ n42) ∧
 n42 < (↑l29.len : Int)) ∧
 (derefK l29.a (fun i43 => fun i44 h45 =>
 ∃ s46 : ByteArray, (h45.read i43 (i44 + n42.toNat * 1) 1 = some [.str s46]) ∧
 (appendTo [] 1 16 l33 1 [.str s46] (fun l47 h48 =>
 x32 (((l47, n34, n35, ()), IntKind.i64.wrap (n37 + 1))) h48)) h45)) h41)) h38)
 (fun h49 =>
 (appendTo [] 3 40 l23 1 [.slice 1 l33, .int .i64 n34, .int .i64 n35] (fun l50 h51 =>
 x22 ((l50, IntKind.i64.wrap (n24 + 1))) h51)) h49)))) h28)) h25)
 (fun h52 =>
 I 24 [.one (.slice 3 l23), .one (.func (some (25, [])))]
 (fun cs53 h54 =>
 (cs53 = []) ∧
 (loopK (A := Sl × Int) (({ a := none, len := 0 }, 0))
 (fun x55 => uncur fun l56 n57 => ifT (decide (n57 < (↑l23.len : Int)))
 (fun h58 =>
 ((0 ≤ n57) ∧
 n57 < (↑l23.len : Int)) ∧
 (derefK l23.a (fun i59 => fun i60 h61 =>
 ∃ l62 : Sl, ∃ n63 : Int, ∃ n64 : Int, (h61.read i59 (i60 + n57.toNat * 3) 3 = some [.slice 1 l62, .int .i64 n63, .int .i64 n64]) ∧
 (joinK (A := Bool)
 (fun b65 => ifT b65
 (fun h66 =>
 ((0 ≤ IntKind.i64.wrap ((↑l56.len : Int) - 1)) ∧
 IntKind.i64.wrap ((↑l56.len : Int) - 1) < (↑l56.len : Int)) ∧
 (derefK l56.a (fun i67 => fun i68 h69 =>
 ∃ n70 : Int, (h69.read i67 (i68 + (IntKind.i64.wrap ((↑l56.len : Int) - 1)).toNat * 3 + 1) 1 = some [.int .i64 n70]) ∧
 ((0 ≤ IntKind.i64.wrap ((↑l56.len : Int) - 1)) ∧
 IntKind.i64.wrap ((↑l56.len : Int) - 1) < (↑l56.len : Int)) ∧
 (derefK l56.a (fun i71 => fun i72 h73 =>
 (storeK [] i71 (i72 + (IntKind.i64.wrap ((↑l56.len : Int) - 1)).toNat * 3 + 1) [.int .i64 (IntKind.i64.wrap (n70 + n63))] (fun h74 =>
 ((0 ≤ IntKind.i64.wrap ((↑l56.len : Int) - 1)) ∧
 IntKind.i64.wrap ((↑l56.len : Int) - 1) < (↑l56.len : Int)) ∧
 (derefK l56.a (fun i75 => fun i76 h77 =>
 ∃ n78 : Int, (h77.read i75 (i76 + (IntKind.i64.wrap ((↑l56.len : Int) - 1)).toNat * 3 + 2) 1 = some [.int .i64 n78]) ∧
 ((0 ≤ IntKind.i64.wrap ((↑l56.len : Int) - 1)) ∧
 IntKind.i64.wrap ((↑l56.len : Int) - 1) < (↑l56.len : Int)) ∧
 (derefK l56.a (fun i79 => fun i80 h81 =>
 (storeK [] i79 (i80 + (IntKind.i64.wrap ((↑l56.len : Int) - 1)).toNat * 3 + 2) [.int .i64 (IntKind.i64.wrap (n78 + n64))] (x55 ((l56, IntKind.i64.wrap (n57 + 1))))) h81)) h77)) h74)) h73)) h69)) h66)
 (fun h82 =>
 (appendTo [] 3 40 l56 1 [.slice 1 l62, .int .i64 n63, .int .i64 n64] (fun l83 h84 =>
 x55 ((l83, IntKind.i64.wrap (n57 + 1))) h84)) h82))
 (fun x85 => ifT (decide (IntKind.i64.wrap ((↑l56.len : Int) - 1) ≥ 0))
 (fun h86 =>
 ((0 ≤ IntKind.i64.wrap ((↑l56.len : Int) - 1)) ∧
 IntKind.i64.wrap ((↑l56.len : Int) - 1) < (↑l56.len : Int)) ∧
 (derefK l56.a (fun i87 => fun i88 h89 =>
 ∃ l90 : Sl, (h89.read i87 (i88 + (IntKind.i64.wrap ((↑l56.len : Int) - 1)).toNat * 3 + 0) 1 = some [.slice 1 l90]) ∧
 I 27 [.one (.slice 1 l90), .one (.slice 1 l62)]
 (fun cs91 h92 =>
 ∃ b93 : Bool, (cs91 = [.one (.bool b93)]) ∧
 x85 b93 h92) h89)) h86)
 (x85 false))) h61)) h58)
 (fun h94 =>
 I 28 [.one (.slice 3 l56), .one (.func (some (29, [])))]
 (fun cs95 h96 =>
 ∃ b97 : Bool, (cs95 = [.one (.bool b97)]) ∧
 (ifT b97
 (Q [.one (.slice 3 { a := none, len := 0 }), .one (.int .i64 12)])
 (Q [.one (.slice 3 l56), .one (.int .i64 0)])) h96) h94))) h54) h52)))))
 (fun x98 => ifT (decide ((↑l0.len : Int) > 0))
 (fun h99 =>
 (((0 : Int) ≤ (0 : Int)) ∧
 0 < (↑l0.len : Int)) ∧
 (derefK l0.a (fun i100 => fun i101 h102 =>
 ∃ l103 : Sl, (h102.read i100 (i101 + 0 + 0) 1 = some [.slice 1 l103]) ∧
 x98 ((↑l103.len : Int)) h102)) h99)
 (x98 6)))) h4) h2
theorem den8 (I : FuncId → List V → Post → T) (l0 : Sl) (l1 : Sl) (Q : Post) : denF Go.Proofs.Tryz.prog 274432 (⟨[(61, 8321499264, [(7, tk Go.Proofs.Tryz.prog 3)]), (2095718, 41528233663476795193031997008117760, [(114, tk Go.Proofs.Tryz.prog 4)])], [(250, 576460717943685936, [(35, tk Go.Proofs.Tryz.prog 3)]), (1018, 4951760154835678090382849024, [(10, tk Go.Proofs.Tryz.prog 26), (61, tk Go.Proofs.Tryz.prog 3)]), (8186, 1393796574908084718183468127702929051025408, [(16, tk Go.Proofs.Tryz.prog 26), (96, tk Go.Proofs.Tryz.prog 3)]), (1042842, 154737782544189664717217792, [(13, tvar Go.Proofs.Tryz.prog 41), (72, tk Go.Proofs.Tryz.prog 3)])]⟩) I 8 [V.one (Cell.slice 3 l0), V.one (Cell.slice 1 l1)] Q = vc8 I l0 l1 Q := by kernel_rfl
/-- handbill/measure.CheckCells -/
def vc22 (I : FuncId → List V → Post → T) (l0 : Sl) (Q : Post) : T :=
 ifT (decide ((↑l0.len : Int) > 2000))
 (Q [.one (.int .i64 2)])
 (loopK (A := Int) 0
 (fun x1 n2 => ifT (decide (n2 < (↑l0.len : Int)))
 (fun h3 =>
 ((0 ≤ n2) ∧
 n2 < (↑l0.len : Int)) ∧
 (derefK l0.a (fun i4 => fun i5 h6 =>
 ∃ l7 : Sl, ∃ n8 : Int, ∃ n9 : Int, (h6.read i4 (i5 + n2.toNat * 3) 3 = some [.slice 1 l7, .int .i64 n8, .int .i64 n9]) ∧
 (joinK (A := Bool)
 (fun b10 => ifT b10
 (Q [.one (.int .i64 3)])
 (fun h11 =>
 I 50 [.one (.slice 1 l7), .one (.func (some (51, [])))]
 (fun cs12 h13 =>
 ∃ b14 : Bool, (cs12 = [.one (.bool b14)]) ∧
 (ifT b14
 (Q [.one (.int .i64 5)])
 (joinK (A := Bool)
 (fun b15 => ifT b15
 (Q [.one (.int .i64 7)])
 (fun h16 =>
 I 30 [.agg [.slice 1 l7, .int .i64 n8, .int .i64 n9]]
 (fun cs17 h18 =>
 ∃ b19 : Bool, (cs17 = [.one (.bool b19)]) ∧
 (ifT (!b19)
 (Q [.one (.int .i64 1)])
 (x1 (IntKind.i64.wrap (n2 + 1)))) h18) h16))
 (fun x20 => ifT (decide (n2 > 0))
 (fun h21 =>
 ((0 ≤ IntKind.i64.wrap (n2 - 1)) ∧
 IntKind.i64.wrap (n2 - 1) < (↑l0.len : Int)) ∧
 (derefK l0.a (fun i22 => fun i23 h24 =>
 ∃ l25 : Sl, (h24.read i22 (i23 + (IntKind.i64.wrap (n2 - 1)).toNat * 3 + 0) 1 = some [.slice 1 l25]) ∧
 I 26 [.one (.slice 1 l7), .one (.slice 1 l25)]
 (fun cs26 h27 =>
 ∃ n28 : Int, (cs26 = [.one (.int .i64 n28)]) ∧
 x20 (decide (n28 ≤ 0)) h27) h24)) h21)
 (x20 false)))) h13) h11))
 (fun x29 h30 =>
 (((0 : Int) ≤ (0 : Int)) ∧
 0 < (↑l0.len : Int)) ∧
 (derefK l0.a (fun i31 => fun i32 h33 =>
 ∃ l34 : Sl, (h33.read i31 (i32 + 0 + 0) 1 = some [.slice 1 l34]) ∧
 (ifT (!decide ((↑l7.len : Int) = (↑l34.len : Int)))
 (x29 true)
 (x29 (decide ((↑l7.len : Int) > 6)))) h33)) h30)) h6)) h3)
 (Q [.one (.int .i64 0)])))
theorem den22 (I : FuncId → List V → Post → T) (l0 : Sl) (Q : Post) : denF Go.Proofs.Tryz.prog 16 (⟨[(14948, 1073709056, [(29, tk Go.Proofs.Tryz.prog 4)]), (59804, 281466386776064, [(33, tk Go.Proofs.Tryz.prog 4)])], [(58, 9007199254739996, [(10, tk Go.Proofs.Tryz.prog 3)])]⟩) I 22 [V.one (Cell.slice 3 l0)] Q = vc22 I l0 Q := by kernel_rfl
/-- handbill/measure.within -/
def vc23 (I : FuncId → List V → Post → T) (n0 : Int) (n1 : Int) (n2 : Int) (Q : Post) : T :=
 ifT (decide (n1 ≤ n0))
 (Q [.one (.bool (decide (n0 ≤ n2)))])
 (Q [.one (.bool false)])
theorem den23 (I : FuncId → List V → Post → T) (n0 : Int) (n1 : Int) (n2 : Int) (Q : Post) : denF Go.Proofs.Tryz.prog 0 (⟨[], []⟩) I 23 [V.one (Cell.int IntKind.i64 n0), V.one (Cell.int IntKind.i64 n1), V.one (Cell.int IntKind.i64 n2)] Q = vc23 I n0 n1 n2 Q := by kernel_rfl
/-- slices.SortStableFunc[[]handbill/api.Cell,handbill/api.Cell] -/
def vc24 (I : FuncId → List V → Post → T) (l0 : Sl) (p1 : Option (Nat × List (Nat × Nat))) (Q : Post) : T :=
 fun h2 =>
 I 53 [.one (.slice 3 l0), .one (.int .i64 (↑l0.len : Int)), .one (.func p1)]
 (fun cs3 h4 =>
 (cs3 = []) ∧
 Q [] h4) h2
theorem den24 (I : FuncId → List V → Post → T) (l0 : Sl) (p1 : Option (Nat × List (Nat × Nat))) (Q : Post) : denF Go.Proofs.Tryz.prog 0 (⟨[], []⟩) I 24 [V.one (Cell.slice 3 l0), V.one (Cell.func p1)] Q = vc24 I l0 p1 Q := by kernel_rfl
/-- handbill/measure.Fold$1 -/
def vc25 (I : FuncId → List V → Post → T) (l0 : Sl) (n1 : Int) (n2 : Int) (l3 : Sl) (n4 : Int) (n5 : Int) (Q : Post) : T :=
 fun h6 =>
 I 26 [.one (.slice 1 l0), .one (.slice 1 l3)]
 (fun cs7 h8 =>
 ∃ n9 : Int, (cs7 = [.one (.int .i64 n9)]) ∧
 Q [.one (.int .i64 n9)] h8) h6
theorem den25 (I : FuncId → List V → Post → T) (l0 : Sl) (n1 : Int) (n2 : Int) (l3 : Sl) (n4 : Int) (n5 : Int) (Q : Post) : denF Go.Proofs.Tryz.prog 12 (⟨[], []⟩) I 25 [V.agg [Cell.slice 1 l0, Cell.int IntKind.i64 n1, Cell.int IntKind.i64 n2], V.agg [Cell.slice 1 l3, Cell.int IntKind.i64 n4, Cell.int IntKind.i64 n5]] Q = vc25 I l0 n1 n2 l3 n4 n5 Q := by kernel_rfl
/-- slices.Compare[[]string,string] -/
def vc26 (I : FuncId → List V → Post → T) (l0 : Sl) (l1 : Sl) (Q : Post) : T :=
 loopK (A := Int) 0
 (fun x2 n3 => ifT (decide (n3 < (↑l0.len : Int)))
 (fun h4 =>
 ((0 ≤ n3) ∧
 n3 < (↑l0.len : Int)) ∧
 (derefK l0.a (fun i5 => fun i6 h7 =>
 ∃ s8 : ByteArray, (h7.read i5 (i6 + n3.toNat * 1) 1 = some [.str s8]) ∧
 (ifT (decide (n3 ≥ (↑l1.len : Int)))
 (Q [.one (.int .i64 1)])
 (fun h9 =>
 ((0 ≤ n3) ∧
 n3 < (↑l1.len : Int)) ∧
 (derefK l1.a (fun i10 => fun i11 h12 =>
 ∃ s13 : ByteArray, (h12.read i10 (i11 + n3.toNat * 1) 1 = some [.str s13]) ∧
 I 54 [.one (.str s8), .one (.str s13)]
 (fun cs14 h15 =>
 ∃ n16 : Int, (cs14 = [.one (.int .i64 n16)]) ∧
 (ifT (!decide (n16 = 0))
 (Q [.one (.int .i64 n16)])
 (x2 (IntKind.i64.wrap (n3 + 1)))) h15) h12)) h9)) h7)) h4)
 (ifT (decide ((↑l0.len : Int) < (↑l1.len : Int)))
 (Q [.one (.int .i64 (-1))])
 (Q [.one (.int .i64 0)])))
theorem den26 (I : FuncId → List V → Post → T) (l0 : Sl) (l1 : Sl) (Q : Post) : denF Go.Proofs.Tryz.prog 0 (⟨[], [(26, 2147482096, [(11, tk Go.Proofs.Tryz.prog 3)])]⟩) I 26 [V.one (Cell.slice 1 l0), V.one (Cell.slice 1 l1)] Q = vc26 I l0 l1 Q := by kernel_rfl
/-- slices.Equal[[]string,string] -/
def vc27 (I : FuncId → List V → Post → T) (l0 : Sl) (l1 : Sl) (Q : Post) : T :=
 ifT (!decide ((↑l0.len : Int) = (↑l1.len : Int)))
 (Q [.one (.bool false)])
 (loopK (A := Int) 0
 (fun x2 n3 => ifT (decide (n3 < (↑l0.len : Int)))
 (fun h4 =>
 ((0 ≤ n3) ∧
 n3 < (↑l0.len : Int)) ∧
 (derefK l0.a (fun i5 => fun i6 h7 =>
 ∃ s8 : ByteArray, (h7.read i5 (i6 + n3.toNat * 1) 1 = some [.str s8]) ∧
 ((0 ≤ n3) ∧
 n3 < (↑l1.len : Int)) ∧
 (derefK l1.a (fun i9 => fun i10 h11 =>
 ∃ s12 : ByteArray, (h11.read i9 (i10 + n3.toNat * 1) 1 = some [.str s12]) ∧
 (ifT (!decide (s8 = s12))
 (Q [.one (.bool false)])
 (x2 (IntKind.i64.wrap (n3 + 1)))) h11)) h7)) h4)
 (Q [.one (.bool true)])))
theorem den27 (I : FuncId → List V → Post → T) (l0 : Sl) (l1 : Sl) (Q : Post) : denF Go.Proofs.Tryz.prog 0 (⟨[], [(58, 67100720, [(13, tk Go.Proofs.Tryz.prog 3)])]⟩) I 27 [V.one (Cell.slice 1 l0), V.one (Cell.slice 1 l1)] Q = vc27 I l0 l1 Q := by kernel_rfl
/-- slices.ContainsFunc[[]handbill/api.Cell,handbill/api.Cell] -/
def vc28 (I : FuncId → List V → Post → T) (l0 : Sl) (p1 : Option (Nat × List (Nat × Nat))) (Q : Post) : T :=
 fun h2 =>
 I 55 [.one (.slice 3 l0), .one (.func p1)]
 (fun cs3 h4 =>
 ∃ n5 : Int, (cs3 = [.one (.int .i64 n5)]) ∧
 Q [.one (.bool (decide (n5 ≥ 0)))] h4) h2
theorem den28 (I : FuncId → List V → Post → T) (l0 : Sl) (p1 : Option (Nat × List (Nat × Nat))) (Q : Post) : denF Go.Proofs.Tryz.prog 0 (⟨[], []⟩) I 28 [V.one (Cell.slice 3 l0), V.one (Cell.func p1)] Q = vc28 I l0 p1 Q := by kernel_rfl
/-- handbill/measure.Fold$2 -/
def vc29 (I : FuncId → List V → Post → T) (l0 : Sl) (n1 : Int) (n2 : Int) (Q : Post) : T :=
 fun h3 =>
 I 30 [.agg [.slice 1 l0, .int .i64 n1, .int .i64 n2]]
 (fun cs4 h5 =>
 ∃ b6 : Bool, (cs4 = [.one (.bool b6)]) ∧
 Q [.one (.bool !b6)] h5) h3
theorem den29 (I : FuncId → List V → Post → T) (l0 : Sl) (n1 : Int) (n2 : Int) (Q : Post) : denF Go.Proofs.Tryz.prog 2 (⟨[], []⟩) I 29 [V.agg [Cell.slice 1 l0, Cell.int IntKind.i64 n1, Cell.int IntKind.i64 n2]] Q = vc29 I l0 n1 n2 Q := by kernel_rfl
/-- handbill/measure.full -/
def vc30 (I : FuncId → List V → Post → T) (l0 : Sl) (n1 : Int) (n2 : Int) (Q : Post) : T :=
 fun h3 =>
 I 23 [.one (.int .i64 n1), .one (.int .i64 0), .one (.int .i64 1000000)]
 (fun cs4 h5 =>
 ∃ b6 : Bool, (cs4 = [.one (.bool b6)]) ∧
 (ifT b6
 (fun h7 =>
 I 23 [.one (.int .i64 n2), .one (.int .i64 (-1000000000000)), .one (.int .i64 1000000000000)]
 (fun cs8 h9 =>
 ∃ b10 : Bool, (cs8 = [.one (.bool b10)]) ∧
 Q [.one (.bool b10)] h9) h7)
 (Q [.one (.bool false)])) h5) h3
theorem den30 (I : FuncId → List V → Post → T) (l0 : Sl) (n1 : Int) (n2 : Int) (Q : Post) : denF Go.Proofs.Tryz.prog 2 (⟨[], []⟩) I 30 [V.agg [Cell.slice 1 l0, Cell.int IntKind.i64 n1, Cell.int IntKind.i64 n2]] Q = vc30 I l0 n1 n2 Q := by kernel_rfl
/-- slices.ContainsFunc[[]string,string] -/
def vc50 (I : FuncId → List V → Post → T) (l0 : Sl) (p1 : Option (Nat × List (Nat × Nat))) (Q : Post) : T :=
 fun h2 =>
 I 71 [.one (.slice 1 l0), .one (.func p1)]
 (fun cs3 h4 =>
 ∃ n5 : Int, (cs3 = [.one (.int .i64 n5)]) ∧
 Q [.one (.bool (decide (n5 ≥ 0)))] h4) h2
theorem den50 (I : FuncId → List V → Post → T) (l0 : Sl) (p1 : Option (Nat × List (Nat × Nat))) (Q : Post) : denF Go.Proofs.Tryz.prog 0 (⟨[], []⟩) I 50 [V.one (Cell.slice 1 l0), V.one (Cell.func p1)] Q = vc50 I l0 p1 Q := by kernel_rfl
/-- handbill/measure.CheckCells$1 -/
def vc51 (I : FuncId → List V → Post → T) (s0 : ByteArray) (Q : Post) : T :=
 fun h1 =>
 I 52 [.one (.str s0)]
 (fun cs2 h3 =>
 ∃ b4 : Bool, (cs2 = [.one (.bool b4)]) ∧
 Q [.one (.bool !b4)] h3) h1
theorem den51 (I : FuncId → List V → Post → T) (s0 : ByteArray) (Q : Post) : denF Go.Proofs.Tryz.prog 0 (⟨[], []⟩) I 51 [V.one (Cell.str s0)] Q = vc51 I s0 Q := by kernel_rfl
/-- handbill/person.IsKey -/
def vc52 (I : FuncId → List V → Post → T) (s0 : ByteArray) (Q : Post) : T :=
 fun h1 =>
 I 72 [.one (.int .i64 (↑s0.size : Int)), .one (.int .i64 1), .one (.int .i64 40)]
 (fun cs2 h3 =>
 ∃ b4 : Bool, (cs2 = [.one (.bool b4)]) ∧
 (ifT b4
 (fun h5 =>
 (((0 : Int) ≤ (0 : Int)) ∧
 0 < (↑s0.size : Int)) ∧
 I 73 [.one (.int .u8 (byteAt s0 0))]
 (fun cs6 h7 =>
 ∃ b8 : Bool, (cs6 = [.one (.bool b8)]) ∧
 (ifT b8
 (fun h9 =>
 I 74 [.one (.str s0), .one (.func (some (75, [])))]
 (fun cs10 h11 =>
 ∃ b12 : Bool, (cs10 = [.one (.bool b12)]) ∧
 Q [.one (.bool b12)] h11) h9)
 (Q [.one (.bool false)])) h7) h5)
 (Q [.one (.bool false)])) h3) h1
theorem den52 (I : FuncId → List V → Post → T) (s0 : ByteArray) (Q : Post) : denF Go.Proofs.Tryz.prog 0 (⟨[], []⟩) I 52 [V.one (Cell.str s0)] Q = vc52 I s0 Q := by kernel_rfl
/-- slices.stableCmpFunc[handbill/api.Cell] -/
def vc53 (I : FuncId → List V → Post → T) (l0 : Sl) (n1 : Int) (p2 : Option (Nat × List (Nat × Nat))) (Q : Post) : T :=
 loopK (A := Int × Int) ((0, 20))
 (fun x3 => uncur fun n4 n5 => ifT (decide (n5 ≤ n1))
 (fun h6 =>
 I 77 [.one (.slice 3 l0), .one (.int .i64 n4), .one (.int .i64 n5), .one (.func p2)]
 (fun cs7 h8 =>
 (cs7 = []) ∧
 x3 ((n5, IntKind.i64.wrap (n5 + 20))) h8) h6)
 (fun h9 =>
 I 77 [.one (.slice 3 l0), .one (.int .i64 n4), .one (.int .i64 n1), .one (.func p2)]
 (fun cs10 h11 =>
 (cs10 = []) ∧
 (loopK (A := Int) 20
 (fun x12 n13 => ifT (decide (n13 < n1))
 (loopK (A := Int × Int) ((0, IntKind.i64.wrap (2 * n13)))
 (fun x14 => uncur fun n15 n16 => ifT (decide (n16 ≤ n1))
 (fun h17 =>
 I 78 [.one (.slice 3 l0), .one (.int .i64 n15), .one (.int .i64 (IntKind.i64.wrap (n15 + n13))), .one (.int .i64 n16), .one (.func p2)]
 (fun cs18 h19 =>
 (cs18 = []) ∧
 x14 ((n16, IntKind.i64.wrap (n16 + IntKind.i64.wrap (2 * n13)))) h19) h17)
 (ifT (decide (IntKind.i64.wrap (n15 + n13) < n1))
 (fun h20 =>
 I 78 [.one (.slice 3 l0), .one (.int .i64 n15), .one (.int .i64 (IntKind.i64.wrap (n15 + n13))), .one (.int .i64 n1), .one (.func p2)]
 (fun cs21 h22 =>
 (cs21 = []) ∧
 x12 (IntKind.i64.wrap (n13 * 2)) h22) h20)
 (x12 (IntKind.i64.wrap (n13 * 2))))))
 (Q []))) h11) h9))
theorem den53 (I : FuncId → List V → Post → T) (l0 : Sl) (n1 : Int) (p2 : Option (Nat × List (Nat × Nat))) (Q : Post) : denF Go.Proofs.Tryz.prog 0 (⟨[], [(28, 8386944, [(7, tk Go.Proofs.Tryz.prog 3), (8, tk Go.Proofs.Tryz.prog 3)]), (62, 9223372036586341312, [(6, tk Go.Proofs.Tryz.prog 3)]), (3988, 562941363487104, [(7, tk Go.Proofs.Tryz.prog 3), (8, tk Go.Proofs.Tryz.prog 3)])]⟩) I 53 [V.one (Cell.slice 3 l0), V.one (Cell.int IntKind.i64 n1), V.one (Cell.func p2)] Q = vc53 I l0 n1 p2 Q := by kernel_rfl
/-- cmp.Compare[string] -/
def vc54 (I : FuncId → List V → Post → T) (s0 : ByteArray) (s1 : ByteArray) (Q : Post) : T :=
 fun h2 =>
 I 79 [.one (.str s0)]
 (fun cs3 h4 =>
 ∃ b5 : Bool, (cs3 = [.one (.bool b5)]) ∧
 I 79 [.one (.str s1)]
 (fun cs6 h7 =>
 ∃ b8 : Bool, (cs6 = [.one (.bool b8)]) ∧
 (ifT b5
 (ifT b8
 (Q [.one (.int .i64 0)])
 (Q [.one (.int .i64 (-1))]))
 (ifT b8
 (Q [.one (.int .i64 1)])
 (ifT (Op.bytesLess s0.toList s1.toList)
 (Q [.one (.int .i64 (-1))])
 (ifT (!(Op.bytesLess s0.toList s1.toList || decide (s0 = s1)))
 (Q [.one (.int .i64 1)])
 (Q [.one (.int .i64 0)]))))) h7) h4) h2
theorem den54 (I : FuncId → List V → Post → T) (s0 : ByteArray) (s1 : ByteArray) (Q : Post) : denF Go.Proofs.Tryz.prog 0 (⟨[], []⟩) I 54 [V.one (Cell.str s0), V.one (Cell.str s1)] Q = vc54 I s0 s1 Q := by kernel_rfl
/-- slices.IndexFunc[[]handbill/api.Cell,handbill/api.Cell] -/
def vc55 (I : FuncId → List V → Post → T) (l0 : Sl) (p1 : Option (Nat × List (Nat × Nat))) (Q : Post) : T :=
 loopK (A := Int) 0
 (fun x2 n3 => ifT (decide (n3 < (↑l0.len : Int)))
 (fun h4 =>
 ((0 ≤ n3) ∧
 n3 < (↑l0.len : Int)) ∧
 (derefK l0.a (fun i5 => fun i6 h7 =>
 ∃ l8 : Sl, ∃ n9 : Int, ∃ n10 : Int, (h7.read i5 (i6 + n3.toNat * 3) 3 = some [.slice 1 l8, .int .i64 n9, .int .i64 n10]) ∧
 (funK p1 (fun i11 => fun cs12 h13 =>
 I i11 (.agg [.slice 1 l8, .int .i64 n9, .int .i64 n10] :: cs12)
 (fun cs14 h15 =>
 ∃ b16 : Bool, (cs14 = [.one (.bool b16)]) ∧
 (ifT b16
 (Q [.one (.int .i64 n3)])
 (x2 (IntKind.i64.wrap (n3 + 1)))) h15) h13)) h7)) h4)
 (Q [.one (.int .i64 (-1))]))
theorem den55 (I : FuncId → List V → Post → T) (l0 : Sl) (p1 : Option (Nat × List (Nat × Nat))) (Q : Post) : denF Go.Proofs.Tryz.prog 0 (⟨[], [(26, 524080, [(8, tk Go.Proofs.Tryz.prog 3)])]⟩) I 55 [V.one (Cell.slice 3 l0), V.one (Cell.func p1)] Q = vc55 I l0 p1 Q := by kernel_rfl
/-- slices.IndexFunc[[]string,string] -/
def vc71 (I : FuncId → List V → Post → T) (l0 : Sl) (p1 : Option (Nat × List (Nat × Nat))) (Q : Post) : T :=
 loopK (A := Int) 0
 (fun x2 n3 => ifT (decide (n3 < (↑l0.len : Int)))
 (fun h4 =>
 ((0 ≤ n3) ∧
 n3 < (↑l0.len : Int)) ∧
 (derefK l0.a (fun i5 => fun i6 h7 =>
 ∃ s8 : ByteArray, (h7.read i5 (i6 + n3.toNat * 1) 1 = some [.str s8]) ∧
 (funK p1 (fun i9 => fun cs10 h11 =>
 I i9 (.one (.str s8) :: cs10)
 (fun cs12 h13 =>
 ∃ b14 : Bool, (cs12 = [.one (.bool b14)]) ∧
 (ifT b14
 (Q [.one (.int .i64 n3)])
 (x2 (IntKind.i64.wrap (n3 + 1)))) h13) h11)) h7)) h4)
 (Q [.one (.int .i64 (-1))]))
theorem den71 (I : FuncId → List V → Post → T) (l0 : Sl) (p1 : Option (Nat × List (Nat × Nat))) (Q : Post) : denF Go.Proofs.Tryz.prog 0 (⟨[], [(26, 524080, [(8, tk Go.Proofs.Tryz.prog 3)])]⟩) I 71 [V.one (Cell.slice 1 l0), V.one (Cell.func p1)] Q = vc71 I l0 p1 Q := by kernel_rfl
/-- handbill/person.within -/
def vc72 (I : FuncId → List V → Post → T) (n0 : Int) (n1 : Int) (n2 : Int) (Q : Post) : T :=
 ifT (decide (n1 ≤ n0))
 (Q [.one (.bool (decide (n0 ≤ n2)))])
 (Q [.one (.bool false)])
theorem den72 (I : FuncId → List V → Post → T) (n0 : Int) (n1 : Int) (n2 : Int) (Q : Post) : denF Go.Proofs.Tryz.prog 0 (⟨[], []⟩) I 72 [V.one (Cell.int IntKind.i64 n0), V.one (Cell.int IntKind.i64 n1), V.one (Cell.int IntKind.i64 n2)] Q = vc72 I n0 n1 n2 Q := by kernel_rfl
/-- handbill/person.small -/
def vc73 (I : FuncId → List V → Post → T) (n0 : Int) (Q : Post) : T :=
 ifT (decide (97 ≤ n0))
 (Q [.one (.bool (decide (n0 ≤ 122)))])
 (Q [.one (.bool false)])
theorem den73 (I : FuncId → List V → Post → T) (n0 : Int) (Q : Post) : denF Go.Proofs.Tryz.prog 0 (⟨[], []⟩) I 73 [V.one (Cell.int IntKind.u8 n0)] Q = vc73 I n0 Q := by kernel_rfl
/-- handbill/person.all -/
def vc74 (I : FuncId → List V → Post → T) (s0 : ByteArray) (p1 : Option (Nat × List (Nat × Nat))) (Q : Post) : T :=
 loopK (A := Int) 0
 (fun x2 n3 => ifT (decide (n3 < (↑s0.size : Int)))
 (fun h4 =>
 ((0 ≤ n3) ∧
 n3 < (↑s0.size : Int)) ∧
 (funK p1 (fun i5 => fun cs6 h7 =>
 I i5 (.one (.int .u8 (byteAt s0 n3)) :: cs6)
 (fun cs8 h9 =>
 ∃ b10 : Bool, (cs8 = [.one (.bool b10)]) ∧
 (ifT (!b10)
 (Q [.one (.bool false)])
 (x2 (IntKind.i64.wrap (n3 + 1)))) h9) h7)) h4)
 (Q [.one (.bool true)]))
theorem den74 (I : FuncId → List V → Post → T) (s0 : ByteArray) (p1 : Option (Nat × List (Nat × Nat))) (Q : Post) : denF Go.Proofs.Tryz.prog 0 (⟨[], [(26, 261936, [(8, tk Go.Proofs.Tryz.prog 3)])]⟩) I 74 [V.one (Cell.str s0), V.one (Cell.func p1)] Q = vc74 I s0 p1 Q := by kernel_rfl
/-- handbill/person.IsKey$1 -/
def vc75 (I : FuncId → List V → Post → T) (n0 : Int) (Q : Post) : T :=
 fun h1 =>
 I 73 [.one (.int .u8 n0)]
 (fun cs2 h3 =>
 ∃ b4 : Bool, (cs2 = [.one (.bool b4)]) ∧
 (ifT b4
 (Q [.one (.bool true)])
 (fun h5 =>
 I 76 [.one (.int .u8 n0)]
 (fun cs6 h7 =>
 ∃ b8 : Bool, (cs6 = [.one (.bool b8)]) ∧
 (ifT b8
 (Q [.one (.bool true)])
 (ifT (decide (n0 = 45))
 (Q [.one (.bool true)])
 (Q [.one (.bool (decide (n0 = 95)))]))) h7) h5)) h3) h1
theorem den75 (I : FuncId → List V → Post → T) (n0 : Int) (Q : Post) : denF Go.Proofs.Tryz.prog 0 (⟨[], []⟩) I 75 [V.one (Cell.int IntKind.u8 n0)] Q = vc75 I n0 Q := by kernel_rfl
/-- handbill/person.digit -/
def vc76 (I : FuncId → List V → Post → T) (n0 : Int) (Q : Post) : T :=
 ifT (decide (48 ≤ n0))
 (Q [.one (.bool (decide (n0 ≤ 57)))])
 (Q [.one (.bool false)])
theorem den76 (I : FuncId → List V → Post → T) (n0 : Int) (Q : Post) : denF Go.Proofs.Tryz.prog 0 (⟨[], []⟩) I 76 [V.one (Cell.int IntKind.u8 n0)] Q = vc76 I n0 Q := by kernel_rfl
/-- slices.insertionSortCmpFunc[handbill/api.Cell] -/
def vc77 (I : FuncId → List V → Post → T) (l0 : Sl) (n1 : Int) (n2 : Int) (p3 : Option (Nat × List (Nat × Nat))) (Q : Post) : T :=
 loopK (A := Int) (IntKind.i64.wrap (n1 + 1))
 (fun x4 n5 => ifT (decide (n5 < n2))
 (loopK (A := Int) n5
 (fun x6 n7 => joinK (A := Bool)
 (fun b8 => ifT b8
 (fun h9 =>
 ((0 ≤ IntKind.i64.wrap (n7 - 1)) ∧
 IntKind.i64.wrap (n7 - 1) < (↑l0.len : Int)) ∧
 (derefK l0.a (fun i10 => fun i11 h12 =>
 ∃ l13 : Sl, ∃ n14 : Int, ∃ n15 : Int, (h12.read i10 (i11 + (IntKind.i64.wrap (n7 - 1)).toNat * 3) 3 = some [.slice 1 l13, .int .i64 n14, .int .i64 n15]) ∧
 ((0 ≤ n7) ∧
 n7 < (↑l0.len : Int)) ∧
 (derefK l0.a (fun i16 => fun i17 h18 =>
 ∃ l19 : Sl, ∃ n20 : Int, ∃ n21 : Int, (h18.read i16 (i17 + n7.toNat * 3) 3 = some [.slice 1 l19, .int .i64 n20, .int .i64 n21]) ∧
 ((0 ≤ n7) ∧
 n7 < (↑l0.len : Int)) ∧
 (derefK l0.a (fun i22 => fun i23 h24 =>
 (storeK [] i22 (i23 + n7.toNat * 3) [.slice 1 l13, .int .i64 n14, .int .i64 n15] (fun h25 =>
 ((0 ≤ IntKind.i64.wrap (n7 - 1)) ∧
 IntKind.i64.wrap (n7 - 1) < (↑l0.len : Int)) ∧
 (derefK l0.a (fun i26 => fun i27 h28 =>
 (storeK [] i26 (i27 + (IntKind.i64.wrap (n7 - 1)).toNat * 3) [.slice 1 l19, .int .i64 n20, .int .i64 n21] (x6 (IntKind.i64.wrap (n7 - 1)))) h28)) h25)) h24)) h18)) h12)) h9)
 (x4 (IntKind.i64.wrap (n5 + 1))))
 (fun x29 => ifT (decide (n7 > n1))
 (fun h30 =>
 ((0 ≤ n7) ∧
 n7 < (↑l0.len : Int)) ∧
 (derefK l0.a (fun i31 => fun i32 h33 =>
 ∃ l34 : Sl, ∃ n35 : Int, ∃ n36 : Int, (h33.read i31 (i32 + n7.toNat * 3) 3 = some [.slice 1 l34, .int .i64 n35, .int .i64 n36]) ∧
 ((0 ≤ IntKind.i64.wrap (n7 - 1)) ∧
 IntKind.i64.wrap (n7 - 1) < (↑l0.len : Int)) ∧
 (derefK l0.a (fun i37 => fun i38 h39 =>
 ∃ l40 : Sl, ∃ n41 : Int, ∃ n42 : Int, (h39.read i37 (i38 + (IntKind.i64.wrap (n7 - 1)).toNat * 3) 3 = some [.slice 1 l40, .int .i64 n41, .int .i64 n42]) ∧
 (funK p3 (fun i43 => fun cs44 h45 =>
 I i43 (.agg [.slice 1 l34, .int .i64 n35, .int .i64 n36] :: .agg [.slice 1 l40, .int .i64 n41, .int .i64 n42] :: cs44)
 (fun cs46 h47 =>
 ∃ n48 : Int, (cs46 = [.one (.int .i64 n48)]) ∧
 x29 (decide (n48 < 0)) h47) h45)) h39)) h33)) h30)
 (x29 false))))
 (Q []))
theorem den77 (I : FuncId → List V → Post → T) (l0 : Sl) (n1 : Int) (n2 : Int) (p3 : Option (Nat × List (Nat × Nat))) (Q : Post) : denF Go.Proofs.Tryz.prog 0 (⟨[(3216, 34359476224, [(34, tk Go.Proofs.Tryz.prog 4)])], [(6, 9007199254737664, [(8, tk Go.Proofs.Tryz.prog 3)]), (402, 9007199254479360, [(9, tk Go.Proofs.Tryz.prog 3)])]⟩) I 77 [V.one (Cell.slice 3 l0), V.one (Cell.int IntKind.i64 n1), V.one (Cell.int IntKind.i64 n2), V.one (Cell.func p3)] Q = vc77 I l0 n1 n2 p3 Q := by kernel_rfl
/-- slices.symMergeCmpFunc[handbill/api.Cell] -/
def vc78 (I : FuncId → List V → Post → T) (l0 : Sl) (n1 : Int) (n2 : Int) (n3 : Int) (p4 : Option (Nat × List (Nat × Nat))) (Q : Post) : T :=
 ifT (decide (IntKind.i64.wrap (n2 - n1) = 1))
 (loopK (A := Int × Int) ((n2, n3))
 (fun x5 => uncur fun n6 n7 => ifT (decide (n6 < n7))
 (fun h8 =>
 ((0 ≤ IntKind.i64.wrap (shr IntKind.u64 (IntKind.u64.wrap (IntKind.i64.wrap (n6 + n7))) 1)) ∧
 IntKind.i64.wrap (shr IntKind.u64 (IntKind.u64.wrap (IntKind.i64.wrap (n6 + n7))) 1) < (↑l0.len : Int)) ∧
 (derefK l0.a (fun i9 => fun i10 h11 =>
 ∃ l12 : Sl, ∃ n13 : Int, ∃ n14 : Int, (h11.read i9 (i10 + (IntKind.i64.wrap (shr IntKind.u64 (IntKind.u64.wrap (IntKind.i64.wrap (n6 + n7))) 1)).toNat * 3) 3 = some [.slice 1 l12, .int .i64 n13, .int .i64 n14]) ∧
 ((0 ≤ n1) ∧
 n1 < (↑l0.len : Int)) ∧
 (derefK l0.a (fun i15 => fun i16 h17 =>
 ∃ l18 : Sl, ∃ n19 : Int, ∃ n20 : Int, (h17.read i15 (i16 + n1.toNat * 3) 3 = some [.slice 1 l18, .int .i64 n19, .int .i64 n20]) ∧
 (funK p4 (fun i21 => fun cs22 h23 =>
 I i21 (.agg [.slice 1 l12, .int .i64 n13, .int .i64 n14] :: .agg [.slice 1 l18, .int .i64 n19, .int .i64 n20] :: cs22)
 (fun cs24 h25 =>
 ∃ n26 : Int, (cs24 = [.one (.int .i64 n26)]) ∧
 (ifT (decide (n26 < 0))
 (x5 ((IntKind.i64.wrap (IntKind.i64.wrap (shr IntKind.u64 (IntKind.u64.wrap (IntKind.i64.wrap (n6 + n7))) 1) + 1), n7)))
 (x5 ((n6, IntKind.i64.wrap (shr IntKind.u64 (IntKind.u64.wrap (IntKind.i64.wrap (n6 + n7))) 1))))) h25) h23)) h17)) h11)) h8)
 (loopK (A := Int) n1
 (fun x27 n28 => ifT (decide (n28 < IntKind.i64.wrap (n6 - 1)))
 (fun h29 =>
 ((0 ≤ IntKind.i64.wrap (n28 + 1)) ∧
 IntKind.i64.wrap (n28 + 1) < (↑l0.len : Int)) ∧
 (derefK l0.a (fun i30 => fun i31 h32 =>
 ∃ l33 : Sl, ∃ n34 : Int, ∃ n35 : Int, (h32.read i30 (i31 + (IntKind.i64.wrap (n28 + 1)).toNat * 3) 3 = some [.slice 1 l33, .int .i64 n34, .int .i64 n35]) ∧
 ((0 ≤ n28) ∧
 n28 < (↑l0.len : Int)) ∧
 (derefK l0.a (fun i36 => fun i37 h38 =>
 ∃ l39 : Sl, ∃ n40 : Int, ∃ n41 : Int, (h38.read i36 (i37 + n28.toNat * 3) 3 = some [.slice 1 l39, .int .i64 n40, .int .i64 n41]) ∧
 ((0 ≤ n28) ∧
 n28 < (↑l0.len : Int)) ∧
 (derefK l0.a (fun i42 => fun i43 h44 =>
 (storeK [] i42 (i43 + n28.toNat * 3) [.slice 1 l33, .int .i64 n34, .int .i64 n35] (fun h45 =>
 ((0 ≤ IntKind.i64.wrap (n28 + 1)) ∧
 IntKind.i64.wrap (n28 + 1) < (↑l0.len : Int)) ∧
 (derefK l0.a (fun i46 => fun i47 h48 =>
 (storeK [] i46 (i47 + (IntKind.i64.wrap (n28 + 1)).toNat * 3) [.slice 1 l39, .int .i64 n40, .int .i64 n41] (x27 (IntKind.i64.wrap (n28 + 1)))) h48)) h45)) h44)) h38)) h32)) h29)
 (Q [])))))
 (ifT (decide (IntKind.i64.wrap (n3 - n2) = 1))
 (loopK (A := Int × Int) ((n1, n2))
 (fun x49 => uncur fun n50 n51 => ifT (decide (n50 < n51))
 (fun h52 =>
 ((0 ≤ n2) ∧
 n2 < (↑l0.len : Int)) ∧
 (derefK l0.a (fun i53 => fun i54 h55 =>
 ∃ l56 : Sl, ∃ n57 : Int, ∃ n58 : Int, (h55.read i53 (i54 + n2.toNat * 3) 3 = some [.slice 1 l56, .int .i64 n57, .int .i64 n58]) ∧
 ((0 ≤ IntKind.i64.wrap (shr IntKind.u64 (IntKind.u64.wrap (IntKind.i64.wrap (n50 + n51))) 1)) ∧
 IntKind.i64.wrap (shr IntKind.u64 (IntKind.u64.wrap (IntKind.i64.wrap (n50 + n51))) 1) < (↑l0.len : Int)) ∧
 (derefK l0.a (fun i59 => fun i60 h61 =>
 ∃ l62 : Sl, ∃ n63 : Int, ∃ n64 : Int, (h61.read i59 (i60 + (IntKind.i64.wrap (shr IntKind.u64 (IntKind.u64.wrap (IntKind.i64.wrap (n50 + n51))) 1)).toNat * 3) 3 = some [.slice 1 l62, .int .i64 n63, .int .i64 n64]) ∧
 (funK p4 (fun i65 => fun cs66 h67 =>
 I i65 (.agg [.slice 1 l56, .int .i64 n57, .int .i64 n58] :: .agg [.slice 1 l62, .int .i64 n63, .int .i64 n64] :: cs66)
 (fun cs68 h69 =>
 ∃ n70 : Int, (cs68 = [.one (.int .i64 n70)]) ∧
 (ifT (!decide (n70 < 0))
 (x49 ((IntKind.i64.wrap (IntKind.i64.wrap (shr IntKind.u64 (IntKind.u64.wrap (IntKind.i64.wrap (n50 + n51))) 1) + 1), n51)))
 (x49 ((n50, IntKind.i64.wrap (shr IntKind.u64 (IntKind.u64.wrap (IntKind.i64.wrap (n50 + n51))) 1))))) h69) h67)) h61)) h55)) h52)
 (loopK (A := Int) n2
 (fun x71 n72 => ifT (decide (n72 > n50))
 (fun h73 =>
 ((0 ≤ IntKind.i64.wrap (n72 - 1)) ∧
 IntKind.i64.wrap (n72 - 1) < (↑l0.len : Int)) ∧
 (derefK l0.a (fun i74 => fun i75 h76 =>
 ∃ l77 : Sl, ∃ n78 : Int, ∃ n79 : Int, (h76.read i74 (i75 + (IntKind.i64.wrap (n72 - 1)).toNat * 3) 3 = some [.slice 1 l77, .int .i64 n78, .int .i64 n79]) ∧
 ((0 ≤ n72) ∧
 n72 < (↑l0.len : Int)) ∧
 (derefK l0.a (fun i80 => fun i81 h82 =>
 ∃ l83 : Sl, ∃ n84 : Int, ∃ n85 : Int, (h82.read i80 (i81 + n72.toNat * 3) 3 = some [.slice 1 l83, .int .i64 n84, .int .i64 n85]) ∧
 ((0 ≤ n72) ∧
 n72 < (↑l0.len : Int)) ∧
 (derefK l0.a (fun i86 => fun i87 h88 =>
 (storeK [] i86 (i87 + n72.toNat * 3) [.slice 1 l77, .int .i64 n78, .int .i64 n79] (fun h89 =>
 ((0 ≤ IntKind.i64.wrap (n72 - 1)) ∧
 IntKind.i64.wrap (n72 - 1) < (↑l0.len : Int)) ∧
 (derefK l0.a (fun i90 => fun i91 h92 =>
 (storeK [] i90 (i91 + (IntKind.i64.wrap (n72 - 1)).toNat * 3) [.slice 1 l83, .int .i64 n84, .int .i64 n85] (x71 (IntKind.i64.wrap (n72 - 1)))) h92)) h89)) h88)) h82)) h76)) h73)
 (Q [])))))
 (joinK (A := Int × Int)
 (uncur fun n93 n94 => loopK (A := Int × Int) ((n93, n94))
 (fun x95 => uncur fun n96 n97 => ifT (decide (n96 < n97))
 (fun h98 =>
 ((0 ≤ IntKind.i64.wrap (IntKind.i64.wrap (IntKind.i64.wrap (IntKind.i64.wrap (shr IntKind.u64 (IntKind.u64.wrap (IntKind.i64.wrap (n1 + n3))) 1) + n2) - 1) - IntKind.i64.wrap (shr IntKind.u64 (IntKind.u64.wrap (IntKind.i64.wrap (n96 + n97))) 1))) ∧
 IntKind.i64.wrap (IntKind.i64.wrap (IntKind.i64.wrap (IntKind.i64.wrap (shr IntKind.u64 (IntKind.u64.wrap (IntKind.i64.wrap (n1 + n3))) 1) + n2) - 1) - IntKind.i64.wrap (shr IntKind.u64 (IntKind.u64.wrap (IntKind.i64.wrap (n96 + n97))) 1)) < (↑l0.len : Int)) ∧
 (derefK l0.a (fun i99 => fun i100 h101 =>
 ∃ l102 : Sl, ∃ n103 : Int, ∃ n104 : Int, (h101.read i99 (i100 + (IntKind.i64.wrap (IntKind.i64.wrap (IntKind.i64.wrap (IntKind.i64.wrap (shr IntKind.u64 (IntKind.u64.wrap (IntKind.i64.wrap (n1 + n3))) 1) + n2) - 1) - IntKind.i64.wrap (shr IntKind.u64 (IntKind.u64.wrap (IntKind.i64.wrap (n96 + n97))) 1))).toNat * 3) 3 = some [.slice 1 l102, .int .i64 n103, .int .i64 n104]) ∧
 ((0 ≤ IntKind.i64.wrap (shr IntKind.u64 (IntKind.u64.wrap (IntKind.i64.wrap (n96 + n97))) 1)) ∧
 IntKind.i64.wrap (shr IntKind.u64 (IntKind.u64.wrap (IntKind.i64.wrap (n96 + n97))) 1) < (↑l0.len : Int)) ∧
 (derefK l0.a (fun i105 => fun i106 h107 =>
 ∃ l108 : Sl, ∃ n109 : Int, ∃ n110 : Int, (h107.read i105 (i106 + (IntKind.i64.wrap (shr IntKind.u64 (IntKind.u64.wrap (IntKind.i64.wrap (n96 + n97))) 1)).toNat * 3) 3 = some [.slice 1 l108, .int .i64 n109, .int .i64 n110]) ∧
 (funK p4 (fun i111 => fun cs112 h113 =>
 I i111 (.agg [.slice 1 l102, .int .i64 n103, .int .i64 n104] :: .agg [.slice 1 l108, .int .i64 n109, .int .i64 n110] :: cs112)
 (fun cs114 h115 =>
 ∃ n116 : Int, (cs114 = [.one (.int .i64 n116)]) ∧
 (ifT (!decide (n116 < 0))
 (x95 ((IntKind.i64.wrap (IntKind.i64.wrap (shr IntKind.u64 (IntKind.u64.wrap (IntKind.i64.wrap (n96 + n97))) 1) + 1), n97)))
 (x95 ((n96, IntKind.i64.wrap (shr IntKind.u64 (IntKind.u64.wrap (IntKind.i64.wrap (n96 + n97))) 1))))) h115) h113)) h107)) h101)) h98)
 (joinK (A := Bool)
 (fun b117 => joinK (A := PUnit)
 (fun x118 => joinK (A := Bool)
 (fun b119 => joinK (A := PUnit)
 (fun x120 => ifT (decide (IntKind.i64.wrap (shr IntKind.u64 (IntKind.u64.wrap (IntKind.i64.wrap (n1 + n3))) 1) < IntKind.i64.wrap (IntKind.i64.wrap (IntKind.i64.wrap (shr IntKind.u64 (IntKind.u64.wrap (IntKind.i64.wrap (n1 + n3))) 1) + n2) - n96)))
 (ifT (decide (IntKind.i64.wrap (IntKind.i64.wrap (IntKind.i64.wrap (shr IntKind.u64 (IntKind.u64.wrap (IntKind.i64.wrap (n1 + n3))) 1) + n2) - n96) < n3))
 (fun h121 =>
 I 78 [.one (.slice 3 l0), .one (.int .i64 (IntKind.i64.wrap (shr IntKind.u64 (IntKind.u64.wrap (IntKind.i64.wrap (n1 + n3))) 1))), .one (.int .i64 (IntKind.i64.wrap (IntKind.i64.wrap (IntKind.i64.wrap (shr IntKind.u64 (IntKind.u64.wrap (IntKind.i64.wrap (n1 + n3))) 1) + n2) - n96))), .one (.int .i64 n3), .one (.func p4)]
 (fun cs122 h123 =>
 (cs122 = []) ∧
 Q [] h123) h121)
 (Q []))
 (Q []))
 (fun x124 => ifT b119
 (fun h125 =>
 I 78 [.one (.slice 3 l0), .one (.int .i64 n1), .one (.int .i64 n96), .one (.int .i64 (IntKind.i64.wrap (shr IntKind.u64 (IntKind.u64.wrap (IntKind.i64.wrap (n1 + n3))) 1))), .one (.func p4)]
 (fun cs126 h127 =>
 (cs126 = []) ∧
 x124 () h127) h125)
 (x124 ())))
 (fun x128 => ifT (decide (n1 < n96))
 (x128 (decide (n96 < IntKind.i64.wrap (shr IntKind.u64 (IntKind.u64.wrap (IntKind.i64.wrap (n1 + n3))) 1))))
 (x128 false)))
 (fun x129 => ifT b117
 (fun h130 =>
 I 99 [.one (.slice 3 l0), .one (.int .i64 n96), .one (.int .i64 n2), .one (.int .i64 (IntKind.i64.wrap (IntKind.i64.wrap (IntKind.i64.wrap (shr IntKind.u64 (IntKind.u64.wrap (IntKind.i64.wrap (n1 + n3))) 1) + n2) - n96))), .one (.func p4)]
 (fun cs131 h132 =>
 (cs131 = []) ∧
 x129 () h132) h130)
 (x129 ())))
 (fun x133 => ifT (decide (n96 < n2))
 (x133 (decide (n2 < IntKind.i64.wrap (IntKind.i64.wrap (IntKind.i64.wrap (shr IntKind.u64 (IntKind.u64.wrap (IntKind.i64.wrap (n1 + n3))) 1) + n2) - n96))))
 (x133 false)))))
 (fun x134 => ifT (decide (n2 > IntKind.i64.wrap (shr IntKind.u64 (IntKind.u64.wrap (IntKind.i64.wrap (n1 + n3))) 1)))
 (x134 ((IntKind.i64.wrap (IntKind.i64.wrap (IntKind.i64.wrap (shr IntKind.u64 (IntKind.u64.wrap (IntKind.i64.wrap (n1 + n3))) 1) + n2) - n3), IntKind.i64.wrap (shr IntKind.u64 (IntKind.u64.wrap (IntKind.i64.wrap (n1 + n3))) 1))))
 (x134 ((n1, n2))))))
theorem den78 (I : FuncId → List V → Post → T) (l0 : Sl) (n1 : Int) (n2 : Int) (n3 : Int) (p4 : Option (Nat × List (Nat × Nat))) (Q : Post) : denF Go.Proofs.Tryz.prog 0 (⟨[(253, 175618368438428657239593781397105846862741504, [(20, tk Go.Proofs.Tryz.prog 3), (21, tk Go.Proofs.Tryz.prog 3)]), (4092, 97696590730200414720344622980832210455694619039204638720, [(185, tk Go.Proofs.Tryz.prog 4)]), (4093, 6179022020771263876900855213470046628350756140644283973632, []), (8188, 1600660942523603594778126302917954936106100638338328800788480, [(199, tk Go.Proofs.Tryz.prog 4)]), (8189, 101237096788316387359143611817493243958898788608315948623986688, [])], [(172, 18014396362005504, [(10, tk Go.Proofs.Tryz.prog 3), (11, tk Go.Proofs.Tryz.prog 3)]), (428, 162259267157806806474544612753408, [(14, tk Go.Proofs.Tryz.prog 3), (15, tk Go.Proofs.Tryz.prog 3)]), (698, 151115691423031627882496, [(13, tk Go.Proofs.Tryz.prog 3)]), (1020, 47890484938435180470718404069304177263338029388398592, [(20, tk Go.Proofs.Tryz.prog 3), (21, tk Go.Proofs.Tryz.prog 3)]), (1722, 680564409323323268500022431707515977728, [(17, tk Go.Proofs.Tryz.prog 3)])]⟩) I 78 [V.one (Cell.slice 3 l0), V.one (Cell.int IntKind.i64 n1), V.one (Cell.int IntKind.i64 n2), V.one (Cell.int IntKind.i64 n3), V.one (Cell.func p4)] Q = vc78 I l0 n1 n2 n3 p4 Q := by kernel_rfl
/-- cmp.isNaN[string] -/
def vc79 (I : FuncId → List V → Post → T) (s0 : ByteArray) (Q : Post) : T :=
 Q [.one (.bool (!decide (s0 = s0)))]
theorem den79 (I : FuncId → List V → Post → T) (s0 : ByteArray) (Q : Post) : denF Go.Proofs.Tryz.prog 0 (⟨[], []⟩) I 79 [V.one (Cell.str s0)] Q = vc79 I s0 Q := by kernel_rfl
/-- slices.rotateCmpFunc[handbill/api.Cell] -/
def vc99 (I : FuncId → List V → Post → T) (l0 : Sl) (n1 : Int) (n2 : Int) (n3 : Int) (p4 : Option (Nat × List (Nat × Nat))) (Q : Post) : T :=
 loopK (A := Int × Int) ((IntKind.i64.wrap (n2 - n1), IntKind.i64.wrap (n3 - n2)))
 (fun x5 => uncur fun n6 n7 => ifT (!decide (n6 = n7))
 (ifT (decide (n6 > n7))
 (fun h8 =>
 I 111 [.one (.slice 3 l0), .one (.int .i64 (IntKind.i64.wrap (n2 - n6))), .one (.int .i64 n2), .one (.int .i64 n7), .one (.func p4)]
 (fun cs9 h10 =>
 (cs9 = []) ∧
 x5 ((IntKind.i64.wrap (n6 - n7), n7)) h10) h8)
 (fun h11 =>
 I 111 [.one (.slice 3 l0), .one (.int .i64 (IntKind.i64.wrap (n2 - n6))), .one (.int .i64 (IntKind.i64.wrap (IntKind.i64.wrap (n2 + n7) - n6))), .one (.int .i64 n6), .one (.func p4)]
 (fun cs12 h13 =>
 (cs12 = []) ∧
 x5 ((n6, IntKind.i64.wrap (n7 - n6))) h13) h11))
 (fun h14 =>
 I 111 [.one (.slice 3 l0), .one (.int .i64 (IntKind.i64.wrap (n2 - n6))), .one (.int .i64 n2), .one (.int .i64 n6), .one (.func p4)]
 (fun cs15 h16 =>
 (cs15 = []) ∧
 Q [] h16) h14))
theorem den99 (I : FuncId → List V → Post → T) (l0 : Sl) (n1 : Int) (n2 : Int) (n3 : Int) (p4 : Option (Nat × List (Nat × Nat))) (Q : Post) : denF Go.Proofs.Tryz.prog 0 (⟨[], [(28, 1125899906583552, [(10, tk Go.Proofs.Tryz.prog 3), (11, tk Go.Proofs.Tryz.prog 3)])]⟩) I 99 [V.one (Cell.slice 3 l0), V.one (Cell.int IntKind.i64 n1), V.one (Cell.int IntKind.i64 n2), V.one (Cell.int IntKind.i64 n3), V.one (Cell.func p4)] Q = vc99 I l0 n1 n2 n3 p4 Q := by kernel_rfl
/-- handbill/offer.Price -/
def vc9 (I : FuncId → List V → Post → T) (l0 : Sl) (l1 : Sl) (n2 : Int) (n3 : Int) (Q : Post) : T :=
 fun h4 =>
 (newK (.cells false [.slice 4 l1, .int .i64 n2]) (fun i5 h6 =>
 (newK (.cells false [.int .i64 n3]) (fun i7 h8 =>
 ∃ l9 : Sl, ∃ n10 : Int, (h8.read i5 0 2 = some [.slice 4 l9, .int .i64 n10]) ∧
 ∃ n11 : Int, (h8.read i7 0 1 = some [.int .i64 n11]) ∧
 I 31 [.one (.slice 12 l0), .agg [.slice 4 l9, .int .i64 n10], .one (.int .i64 n11)]
 (fun cs12 h13 =>
 ∃ n14 : Int, (cs12 = [.one (.int .i64 n14)]) ∧
 (ifT (!decide (n14 = 0))
 (fun h15 =>
 Q [.agg [.slice 1 { a := none, len := 0 }, .int .i64 0, .slice 2 { a := none, len := 0 }, .int .i64 0], .one (.int .i64 n14)] h15)
 (fun h16 =>
 I 32 [.one (.slice 12 l0)]
 (fun cs17 h18 =>
 ∃ b19 : Bool, (cs17 = [.one (.bool b19)]) ∧
 (ifT (!b19)
 (fun h20 =>
 Q [.agg [.slice 1 { a := none, len := 0 }, .int .i64 0, .slice 2 { a := none, len := 0 }, .int .i64 0], .one (.int .i64 16)] h20)
 (fun h21 =>
 I 33 [.one (.slice 12 l0), .one (.func (some (34, [(i5, 0), (i7, 0)])))]
 (fun cs22 h23 =>
 ∃ b24 : Bool, (cs22 = [.one (.bool b24)]) ∧
 (ifT b24
 (fun h25 =>
 Q [.agg [.slice 1 { a := none, len := 0 }, .int .i64 0, .slice 2 { a := none, len := 0 }, .int .i64 0], .one (.int .i64 11)] h25)
 (fun h26 =>
 ∃ l27 : Sl, ∃ n28 : Int, (h26.read i5 0 2 = some [.slice 4 l27, .int .i64 n28]) ∧
 I 36 [.one (.slice 12 l0), .agg [.slice 4 l27, .int .i64 n28]]
 (fun cs29 h30 =>
 ∃ l31 : Sl, ∃ n32 : Int, ∃ l33 : Sl, ∃ n34 : Int, (cs29 = [.agg [.slice 1 l31, .int .i64 n32, .slice 2 l33, .int .i64 n34]]) ∧
 Q [.agg [.slice 1 l31, .int .i64 n32, .slice 2 l33, .int .i64 n34], .one (.int .i64 0)] h30) h26)) h23) h21)) h18) h16)) h13) h8)) h6)) h4
theorem den9 (I : FuncId → List V → Post → T) (l0 : Sl) (l1 : Sl) (n2 : Int) (n3 : Int) (Q : Post) : denF Go.Proofs.Tryz.prog 64 (⟨[], []⟩) I 9 [V.one (Cell.slice 12 l0), V.agg [Cell.slice 4 l1, Cell.int IntKind.i64 n2], V.one (Cell.int IntKind.i64 n3)] Q = vc9 I l0 l1 n2 n3 Q := by kernel_rfl
/-- handbill/handref1.SamePriced -/
def vc10 (I : FuncId → List V → Post → T) (l0 : Sl) (n1 : Int) (l2 : Sl) (n3 : Int) (l4 : Sl) (n5 : Int) (l6 : Sl) (n7 : Int) (Q : Post) : T :=
 fun h8 =>
 I 37 [.one (.slice 1 l0), .one (.slice 1 l4)]
 (fun cs9 h10 =>
 ∃ b11 : Bool, (cs9 = [.one (.bool b11)]) ∧
 (ifT b11
 (ifT (decide (n1 = n5))
 (fun h12 =>
 I 38 [.one (.slice 2 l2), .one (.slice 2 l6)]
 (fun cs13 h14 =>
 ∃ b15 : Bool, (cs13 = [.one (.bool b15)]) ∧
 (ifT b15
 (Q [.one (.bool (decide (n3 = n7)))])
 (Q [.one (.bool false)])) h14) h12)
 (Q [.one (.bool false)]))
 (Q [.one (.bool false)])) h10) h8
theorem den10 (I : FuncId → List V → Post → T) (l0 : Sl) (n1 : Int) (l2 : Sl) (n3 : Int) (l4 : Sl) (n5 : Int) (l6 : Sl) (n7 : Int) (Q : Post) : denF Go.Proofs.Tryz.prog 12 (⟨[], []⟩) I 10 [V.agg [Cell.slice 1 l0, Cell.int IntKind.i64 n1, Cell.slice 2 l2, Cell.int IntKind.i64 n3], V.agg [Cell.slice 1 l4, Cell.int IntKind.i64 n5, Cell.slice 2 l6, Cell.int IntKind.i64 n7]] Q = vc10 I l0 n1 l2 n3 l4 n5 l6 n7 Q := by kernel_rfl
/-- handbill/handref1.SameCells -/
def vc11 (I : FuncId → List V → Post → T) (l0 : Sl) (l1 : Sl) (Q : Post) : T :=
 fun h2 =>
 I 39 [.one (.slice 3 l0), .one (.slice 3 l1), .one (.func (some (40, [])))]
 (fun cs3 h4 =>
 ∃ b5 : Bool, (cs3 = [.one (.bool b5)]) ∧
 Q [.one (.bool b5)] h4) h2
theorem den11 (I : FuncId → List V → Post → T) (l0 : Sl) (l1 : Sl) (Q : Post) : denF Go.Proofs.Tryz.prog 0 (⟨[], []⟩) I 11 [V.one (Cell.slice 3 l0), V.one (Cell.slice 3 l1)] Q = vc11 I l0 l1 Q := by kernel_rfl
/-- handbill/offer.NewPurse -/
def vc12 (I : FuncId → List V → Post → T) (l0 : Sl) (Q : Post) : T :=
 fun h1 =>
 I 41 [.one (.slice 5 l0)]
 (fun cs2 h3 =>
 ∃ n4 : Int, (cs2 = [.one (.int .i64 n4)]) ∧
 (ifT (!decide (n4 = 0))
 (Q [.one (.ptr none), .one (.int .i64 n4)])
 (fun h5 =>
 I 42 [.one (.slice 5 l0)]
 (fun cs6 h7 =>
 ∃ l8 : Sl, (cs6 = [.one (.slice 5 l8)]) ∧
 (newK (.cells false [.slice 5 l8, .slice 6 { a := none, len := 0 }, .int .i64 0]) (fun i9 h10 =>
 Q [.one (.ptr (some (i9, 0))), .one (.int .i64 0)] h10)) h7) h5)) h3) h1
theorem den12 (I : FuncId → List V → Post → T) (l0 : Sl) (Q : Post) : denF Go.Proofs.Tryz.prog 0 (⟨[], []⟩) I 12 [V.one (Cell.slice 5 l0)] Q = vc12 I l0 Q := by kernel_rfl
/-- (*handbill/offer.Purse).Left -/
def vc13 (I : FuncId → List V → Post → T) (p0 : Option (Nat × Nat)) (s1 : ByteArray) (n2 : Int) (Q : Post) : T :=
 fun h3 =>
 I 43 [.one (.ptr p0), .one (.str s1)]
 (fun cs4 h5 =>
 ∃ s6 : ByteArray, ∃ n7 : Int, ∃ n8 : Int, ∃ n9 : Int, ∃ b10 : Bool, ∃ b11 : Bool, (cs4 = [.agg [.str s6, .int .i64 n7, .int .i64 n8, .int .i64 n9, .bool b10], .one (.bool b11)]) ∧
 (ifT (!b11)
 (Q [.one (.int .i64 0), .one (.int .i64 8)])
 (fun h12 =>
 I 44 [.one (.int .i64 n2)]
 (fun cs13 h14 =>
 ∃ b15 : Bool, (cs13 = [.one (.bool b15)]) ∧
 (ifT (!b15)
 (Q [.one (.int .i64 0), .one (.int .i64 1)])
 (derefK p0 (fun i16 => fun i17 h18 =>
 ∃ n19 : Int, (h18.read i16 (i17 + 2) 1 = some [.int .i64 n19]) ∧
 (ifT (decide (n2 < n19))
 (Q [.one (.int .i64 0), .one (.int .i64 7)])
 (fun h20 =>
 I 45 [.agg [.str s6, .int .i64 n7, .int .i64 n8, .int .i64 n9, .bool b10], .one (.int .i64 n2)]
 (fun cs21 h22 =>
 ∃ n23 : Int, (cs21 = [.one (.int .i64 n23)]) ∧
 I 46 [.one (.ptr p0), .one (.str s1), .one (.int .i64 n2)]
 (fun cs24 h25 =>
 ∃ n26 : Int, (cs24 = [.one (.int .i64 n26)]) ∧
 Q [.one (.int .i64 (max (IntKind.i64.wrap (n23 - n26)) 0)), .one (.int .i64 0)] h25) h22) h20)) h18))) h14) h12)) h5) h3
theorem den13 (I : FuncId → List V → Post → T) (p0 : Option (Nat × Nat)) (s1 : ByteArray) (n2 : Int) (Q : Post) : denF Go.Proofs.Tryz.prog 256 (⟨[], []⟩) I 13 [V.one (Cell.ptr p0), V.one (Cell.str s1), V.one (Cell.int IntKind.i64 n2)] Q = vc13 I p0 s1 n2 Q := by kernel_rfl
/-- handbill/handkeep1.offers -/
def vc14 (I : FuncId → List V → Post → T) (Q : Post) : T :=
 fun h0 =>
 I 47 [.one (.str { data := #[49, 50, 51] })]
 (fun cs1 h2 =>
 ∃ s3 : ByteArray, ∃ n4 : Int, (cs1 = [.one (.str s3), .one (.int .i64 n4)]) ∧
 (ifT (decide (n4 = 0))
 (Q [.one (.bool (decide (s3 = { data := #[49, 50, 51, 67] })))])
 (Q [.one (.bool false)])) h2) h0
theorem den14 (I : FuncId → List V → Post → T) (Q : Post) : denF Go.Proofs.Tryz.prog 0 (⟨[], []⟩) I 14 [] Q = vc14 I Q := by kernel_rfl
/-- handbill/handkeep1.measures -/
def vc15 (I : FuncId → List V → Post → T) (Q : Post) : T :=
 fun h0 =>
 I 48 [.one (.int .i64 2), .one (.int .i64 4)]
 (fun cs1 h2 =>
 ∃ n3 : Int, ∃ n4 : Int, ∃ n5 : Int, (cs1 = [.agg [.int .i64 n3, .int .i64 n4], .one (.int .i64 n5)]) ∧
 (ifT (decide (n5 = 0))
 (Q [.one (.bool (decide (n3 = 1) && decide (n4 = 2)))])
 (Q [.one (.bool false)])) h2) h0
theorem den15 (I : FuncId → List V → Post → T) (Q : Post) : denF Go.Proofs.Tryz.prog 2 (⟨[], []⟩) I 15 [] Q = vc15 I Q := by kernel_rfl
/-- handbill/offer.checkAll -/
def vc31 (I : FuncId → List V → Post → T) (l0 : Sl) (l1 : Sl) (n2 : Int) (n3 : Int) (Q : Post) : T :=
 fun h4 =>
 I 56 [.one (.slice 12 l0)]
 (fun cs5 h6 =>
 ∃ n7 : Int, (cs5 = [.one (.int .i64 n7)]) ∧
 (ifT (!decide (n7 = 0))
 (Q [.one (.int .i64 n7)])
 (fun h8 =>
 I 57 [.agg [.slice 4 l1, .int .i64 n2]]
 (fun cs9 h10 =>
 ∃ n11 : Int, (cs9 = [.one (.int .i64 n11)]) ∧
 (ifT (!decide (n11 = 0))
 (Q [.one (.int .i64 n11)])
 (fun h12 =>
 I 44 [.one (.int .i64 n3)]
 (fun cs13 h14 =>
 ∃ b15 : Bool, (cs13 = [.one (.bool b15)]) ∧
 (ifT (!b15)
 (Q [.one (.int .i64 1)])
 (Q [.one (.int .i64 0)])) h14) h12)) h10) h8)) h6) h4
theorem den31 (I : FuncId → List V → Post → T) (l0 : Sl) (l1 : Sl) (n2 : Int) (n3 : Int) (Q : Post) : denF Go.Proofs.Tryz.prog 16 (⟨[], []⟩) I 31 [V.one (Cell.slice 12 l0), V.agg [Cell.slice 4 l1, Cell.int IntKind.i64 n2], V.one (Cell.int IntKind.i64 n3)] Q = vc31 I l0 l1 n2 n3 Q := by kernel_rfl
/-- handbill/offer.together -/
def vc32 (I : FuncId → List V → Post → T) (l0 : Sl) (Q : Post) : T :=
 fun h1 =>
 (newK (.map []) (fun i2 => loopK (A := Int) 0
 (fun x3 n4 => ifT (decide (n4 < (↑l0.len : Int)))
 (fun h5 =>
 ((0 ≤ n4) ∧
 n4 < (↑l0.len : Int)) ∧
 (derefK l0.a (fun i6 => fun i7 h8 =>
 ∃ s9 : ByteArray, ∃ n10 : Int, ∃ n11 : Int, ∃ n12 : Int, ∃ l13 : Sl, ∃ n14 : Int, ∃ n15 : Int, ∃ s16 : ByteArray, ∃ b17 : Bool, ∃ n18 : Int, ∃ n19 : Int, ∃ n20 : Int, (h8.read i6 (i7 + n4.toNat * 12) 12 = some [.str s9, .int .i64 n10, .int .i64 n11, .int .i64 n12, .slice 1 l13, .int .i64 n14, .int .i64 n15, .str s16, .bool b17, .int .i64 n18, .int .i64 n19, .int .i64 n20]) ∧
 (ifT b17
 (ifT (decide ((↑l0.len : Int) > 1))
 (Q [.one (.bool false)])
 (ifT (!decide (s16 = { data := #[] }))
 (fun h21 =>
 ∃ b22 : Bool, ∃ b23 : Bool, (∃ cs24 : List (V × V), (mapOf h21 (some i2) = some cs24) ∧
 mapGet (.one (.str s16)) (.one (.bool false)) cs24 = some (.one (.bool b22), b23)) ∧
 (ifT b22
 (Q [.one (.bool false)])
 (fun h25 =>
 (mapK [] (some i2) (.one (.str s16)) (.one (.bool true)) (x3 (IntKind.i64.wrap (n4 + 1)))) h25)) h21)
 (fun h26 =>
 (mapK [] (some i2) (.one (.str s16)) (.one (.bool true)) (x3 (IntKind.i64.wrap (n4 + 1)))) h26)))
 (ifT (!decide (s16 = { data := #[] }))
 (fun h27 =>
 ∃ b28 : Bool, ∃ b29 : Bool, (∃ cs30 : List (V × V), (mapOf h27 (some i2) = some cs30) ∧
 mapGet (.one (.str s16)) (.one (.bool false)) cs30 = some (.one (.bool b28), b29)) ∧
 (ifT b28
 (Q [.one (.bool false)])
 (fun h31 =>
 (mapK [] (some i2) (.one (.str s16)) (.one (.bool true)) (x3 (IntKind.i64.wrap (n4 + 1)))) h31)) h27)
 (fun h32 =>
 (mapK [] (some i2) (.one (.str s16)) (.one (.bool true)) (x3 (IntKind.i64.wrap (n4 + 1)))) h32))) h8)) h5)
 (Q [.one (.bool true)])))) h1
theorem den32 (I : FuncId → List V → Post → T) (l0 : Sl) (Q : Post) : denF Go.Proofs.Tryz.prog 32 (⟨[], [(58, 34359737892, [(9, tk Go.Proofs.Tryz.prog 3)])]⟩) I 32 [V.one (Cell.slice 12 l0)] Q = vc32 I l0 Q := by kernel_rfl
/-- slices.ContainsFunc[[]handbill/api.Offer,handbill/api.Offer] -/
def vc33 (I : FuncId → List V → Post → T) (l0 : Sl) (p1 : Option (Nat × List (Nat × Nat))) (Q : Post) : T :=
 fun h2 =>
 I 58 [.one (.slice 12 l0), .one (.func p1)]
 (fun cs3 h4 =>
 ∃ n5 : Int, (cs3 = [.one (.int .i64 n5)]) ∧
 Q [.one (.bool (decide (n5 ≥ 0)))] h4) h2
theorem den33 (I : FuncId → List V → Post → T) (l0 : Sl) (p1 : Option (Nat × List (Nat × Nat))) (Q : Post) : denF Go.Proofs.Tryz.prog 0 (⟨[], []⟩) I 33 [V.one (Cell.slice 12 l0), V.one (Cell.func p1)] Q = vc33 I l0 p1 Q := by kernel_rfl
/-- handbill/offer.Price$1 -/
def vc34 (I : FuncId → List V → Post → T) (s0 : ByteArray) (n1 : Int) (n2 : Int) (n3 : Int) (l4 : Sl) (n5 : Int) (n6 : Int) (s7 : ByteArray) (b8 : Bool) (n9 : Int) (n10 : Int) (n11 : Int) (i12 : Nat) (i13 : Nat) (i14 : Nat) (i15 : Nat) (Q : Post) : T :=
 fun h16 =>
 ∃ l17 : Sl, ∃ n18 : Int, (h16.read i12 i13 2 = some [.slice 4 l17, .int .i64 n18]) ∧
 ∃ n19 : Int, (h16.read i14 i15 1 = some [.int .i64 n19]) ∧
 I 35 [.agg [.str s0, .int .i64 n1, .int .i64 n2, .int .i64 n3, .slice 1 l4, .int .i64 n5, .int .i64 n6, .str s7, .bool b8, .int .i64 n9, .int .i64 n10, .int .i64 n11], .agg [.slice 4 l17, .int .i64 n18], .one (.int .i64 n19)]
 (fun cs20 h21 =>
 ∃ n22 : Int, (cs20 = [.one (.int .i64 n22)]) ∧
 Q [.one (.bool (!decide (n22 = 0)))] h21) h16
theorem den34 (I : FuncId → List V → Post → T) (s0 : ByteArray) (n1 : Int) (n2 : Int) (n3 : Int) (l4 : Sl) (n5 : Int) (n6 : Int) (s7 : ByteArray) (b8 : Bool) (n9 : Int) (n10 : Int) (n11 : Int) (i12 : Nat) (i13 : Nat) (i14 : Nat) (i15 : Nat) (Q : Post) : denF Go.Proofs.Tryz.prog 8 (⟨[], []⟩) I 34 [V.agg [Cell.str s0, Cell.int IntKind.i64 n1, Cell.int IntKind.i64 n2, Cell.int IntKind.i64 n3, Cell.slice 1 l4, Cell.int IntKind.i64 n5, Cell.int IntKind.i64 n6, Cell.str s7, Cell.bool b8, Cell.int IntKind.i64 n9, Cell.int IntKind.i64 n10, Cell.int IntKind.i64 n11], V.one (Cell.ptr (some (i12, i13))), V.one (Cell.ptr (some (i14, i15)))] Q = vc34 I s0 n1 n2 n3 l4 n5 n6 s7 b8 n9 n10 n11 i12 i13 i14 i15 Q := by kernel_rfl
/-- handbill/offer.fits -/
def vc35 (I : FuncId → List V → Post → T) (s0 : ByteArray) (n1 : Int) (n2 : Int) (n3 : Int) (l4 : Sl) (n5 : Int) (n6 : Int) (s7 : ByteArray) (b8 : Bool) (n9 : Int) (n10 : Int) (n11 : Int) (l12 : Sl) (n13 : Int) (n14 : Int) (Q : Post) : T :=
 loopK (A := Int × Int) ((0, 0))
 (fun x15 => uncur fun n16 n17 => ifT (decide (n17 < (↑l12.len : Int)))
 (fun h18 =>
 ((0 ≤ n17) ∧
 n17 < (↑l12.len : Int)) ∧
 (derefK l12.a (fun i19 => fun i20 h21 =>
 ∃ s22 : ByteArray, ∃ n23 : Int, ∃ n24 : Int, ∃ l25 : Sl, (h21.read i19 (i20 + n17.toNat * 4) 4 = some [.str s22, .int .i64 n23, .int .i64 n24, .slice 1 l25]) ∧
 (ifT (decide (n1 = 4))
 (x15 ((IntKind.i64.wrap (n16 + IntKind.i64.wrap (n23 * n24)), IntKind.i64.wrap (n17 + 1))))
 (fun h26 =>
 I 59 [.agg [.str s0, .int .i64 n1, .int .i64 n2, .int .i64 n3, .slice 1 l4, .int .i64 n5, .int .i64 n6, .str s7, .bool b8, .int .i64 n9, .int .i64 n10, .int .i64 n11], .agg [.str s22, .int .i64 n23, .int .i64 n24, .slice 1 l25]]
 (fun cs27 h28 =>
 ∃ b29 : Bool, (cs27 = [.one (.bool b29)]) ∧
 (ifT b29
 (x15 ((IntKind.i64.wrap (n16 + IntKind.i64.wrap (n23 * n24)), IntKind.i64.wrap (n17 + 1))))
 (x15 ((n16, IntKind.i64.wrap (n17 + 1))))) h28) h26)) h21)) h18)
 (joinK (A := Bool)
 (fun b30 => ifT (decide (n14 < n10))
 (Q [.one (.int .i64 1)])
 (ifT (decide (n14 ≥ n11))
 (Q [.one (.int .i64 2)])
 (ifT b30
 (Q [.one (.int .i64 3)])
 (ifT (decide (n16 < n5))
 (Q [.one (.int .i64 4)])
 (Q [.one (.int .i64 0)])))))
 (fun x31 => ifT (decide (n1 = 4))
 (x31 (decide (n13 = 0)))
 (x31 (decide (n16 = 0))))))
theorem den35 (I : FuncId → List V → Post → T) (s0 : ByteArray) (n1 : Int) (n2 : Int) (n3 : Int) (l4 : Sl) (n5 : Int) (n6 : Int) (s7 : ByteArray) (b8 : Bool) (n9 : Int) (n10 : Int) (n11 : Int) (l12 : Sl) (n13 : Int) (n14 : Int) (Q : Post) : denF Go.Proofs.Tryz.prog 536 (⟨[(125, 3848290698240, [(10, tk Go.Proofs.Tryz.prog 4)])], [(58, 17179853440, [(7, tk Go.Proofs.Tryz.prog 3), (14, tk Go.Proofs.Tryz.prog 3)])]⟩) I 35 [V.agg [Cell.str s0, Cell.int IntKind.i64 n1, Cell.int IntKind.i64 n2, Cell.int IntKind.i64 n3, Cell.slice 1 l4, Cell.int IntKind.i64 n5, Cell.int IntKind.i64 n6, Cell.str s7, Cell.bool b8, Cell.int IntKind.i64 n9, Cell.int IntKind.i64 n10, Cell.int IntKind.i64 n11], V.agg [Cell.slice 4 l12, Cell.int IntKind.i64 n13], V.one (Cell.int IntKind.i64 n14)] Q = vc35 I s0 n1 n2 n3 l4 n5 n6 s7 b8 n9 n10 n11 l12 n13 n14 Q := by kernel_rfl
/-- handbill/offer.price -/
def vc36 (I : FuncId → List V → Post → T) (l0 : Sl) (l1 : Sl) (n2 : Int) (Q : Post) : T :=
 fun h3 =>
 (newK (.cells false [.slice 4 l1, .int .i64 n2, .slice 1 { a := none, len := 0 }, .int .i64 n2]) (fun i4 => loopK (A := Int) 0
 (fun x5 n6 => ifT (decide (n6 < (↑l1.len : Int)))
 (fun h7 =>
 ((0 ≤ n6) ∧
 n6 < (↑l1.len : Int)) ∧
 (derefK l1.a (fun i8 => fun i9 h10 =>
 ∃ s11 : ByteArray, ∃ n12 : Int, ∃ n13 : Int, ∃ l14 : Sl, (h10.read i8 (i9 + n6.toNat * 4) 4 = some [.str s11, .int .i64 n12, .int .i64 n13, .slice 1 l14]) ∧
 ∃ l15 : Sl, (h10.read i4 2 1 = some [.slice 1 l15]) ∧
 (appendTo [] 1 8 l15 1 [.int .i64 (IntKind.i64.wrap (n12 * n13))] (fun l16 h17 =>
 (storeK [] i4 2 [.slice 1 l16] (x5 (IntKind.i64.wrap (n6 + 1)))) h17)) h10)) h7)
 (fun h18 =>
 I 60 [.one (.slice 12 l0)]
 (fun cs19 h20 =>
 ∃ l21 : Sl, (cs19 = [.one (.slice 12 l21)]) ∧
 (loopK (A := (Sl × Int × Sl × Int × PUnit) × Int) ((({ a := none, len := 0 }, 0, { a := none, len := 0 }, 0, ()), 0))
 (fun x22 => uncur (uncur fun l23 => uncur fun n24 => uncur fun l25 => uncur fun n26 x27 => fun n28 => ifT (decide (n28 < (↑l21.len : Int)))
 (fun h29 =>
 ((0 ≤ n28) ∧
 n28 < (↑l21.len : Int)) ∧
 (derefK l21.a (fun i30 => fun i31 h32 =>
 ∃ s33 : ByteArray, ∃ n34 : Int, ∃ n35 : Int, ∃ n36 : Int, ∃ l37 : Sl, ∃ n38 : Int, ∃ n39 : Int, ∃ s40 : ByteArray, ∃ b41 : Bool, ∃ n42 : Int, ∃ n43 : Int, ∃ n44 : Int, (h32.read i30 (i31 + n28.toNat * 12) 12 = some [.str s33, .int .i64 n34, .int .i64 n35, .int .i64 n36, .slice 1 l37, .int .i64 n38, .int .i64 n39, .str s40, .bool b41, .int .i64 n42, .int .i64 n43, .int .i64 n44]) ∧
 I 61 [.one (.ptr (some (i4, 0))), .agg [.str s33, .int .i64 n34, .int .i64 n35, .int .i64 n36, .slice 1 l37, .int .i64 n38, .int .i64 n39, .str s40, .bool b41, .int .i64 n42, .int .i64 n43, .int .i64 n44]]
 (fun cs45 h46 =>
 ∃ n47 : Int, (cs45 = [.one (.int .i64 n47)]) ∧
 (appendTo [] 2 24 l25 1 [.str s33, .int .i64 n47] (fun l48 h49 =>
 x22 (((l23, n24, l48, n26, ()), IntKind.i64.wrap (n28 + 1))) h49)) h46) h32)) h29)
 (fun h50 =>
 ∃ l51 : Sl, (h50.read i4 2 1 = some [.slice 1 l51]) ∧
 ∃ n52 : Int, (h50.read i4 3 1 = some [.int .i64 n52]) ∧
 ∃ n53 : Int, (h50.read i4 3 1 = some [.int .i64 n53]) ∧
 ∃ l54 : Sl, (h50.read i4 2 1 = some [.slice 1 l54]) ∧
 (loopK (A := (Sl × Int × Sl × Int × PUnit) × Int) (((l51, n52, l25, n53, ()), 0))
 (fun x55 => uncur (uncur fun l56 => uncur fun n57 => uncur fun l58 => uncur fun n59 x60 => fun n61 => ifT (decide (n61 < (↑l54.len : Int)))
 (fun h62 =>
 ((0 ≤ n61) ∧
 n61 < (↑l54.len : Int)) ∧
 (derefK l54.a (fun i63 => fun i64 h65 =>
 ∃ n66 : Int, (h65.read i63 (i64 + n61.toNat * 1) 1 = some [.int .i64 n66]) ∧
 x55 (((l56, n57, l58, IntKind.i64.wrap (n59 + n66), ()), IntKind.i64.wrap (n61 + 1))) h65)) h62)
 (fun h67 =>
 Q [.agg [.slice 1 l56, .int .i64 n57, .slice 2 l58, .int .i64 n59]] h67)))) h50)))) h20) h18)))) h3
theorem den36 (I : FuncId → List V → Post → T) (l0 : Sl) (l1 : Sl) (n2 : Int) (Q : Post) : denF Go.Proofs.Tryz.prog 1432 (⟨[], [(58, 1099509530752, [(21, tk Go.Proofs.Tryz.prog 3)]), (250, 576451956210402560, [(8, tvar Go.Proofs.Tryz.prog 44), (43, tk Go.Proofs.Tryz.prog 3)]), (1018, 618365556732882822862213376, [(8, tvar Go.Proofs.Tryz.prog 44), (79, tk Go.Proofs.Tryz.prog 3)])]⟩) I 36 [V.one (Cell.slice 12 l0), V.agg [Cell.slice 4 l1, Cell.int IntKind.i64 n2]] Q = vc36 I l0 l1 n2 Q := by kernel_rfl
/-- slices.Equal[[]int,int] -/
def vc37 (I : FuncId → List V → Post → T) (l0 : Sl) (l1 : Sl) (Q : Post) : T :=
 ifT (!decide ((↑l0.len : Int) = (↑l1.len : Int)))
 (Q [.one (.bool false)])
 (loopK (A := Int) 0
 (fun x2 n3 => ifT (decide (n3 < (↑l0.len : Int)))
 (fun h4 =>
 ((0 ≤ n3) ∧
 n3 < (↑l0.len : Int)) ∧
 (derefK l0.a (fun i5 => fun i6 h7 =>
 ∃ n8 : Int, (h7.read i5 (i6 + n3.toNat * 1) 1 = some [.int .i64 n8]) ∧
 ((0 ≤ n3) ∧
 n3 < (↑l1.len : Int)) ∧
 (derefK l1.a (fun i9 => fun i10 h11 =>
 ∃ n12 : Int, (h11.read i9 (i10 + n3.toNat * 1) 1 = some [.int .i64 n12]) ∧
 (ifT (!decide (n8 = n12))
 (Q [.one (.bool false)])
 (x2 (IntKind.i64.wrap (n3 + 1)))) h11)) h7)) h4)
 (Q [.one (.bool true)])))
theorem den37 (I : FuncId → List V → Post → T) (l0 : Sl) (l1 : Sl) (Q : Post) : denF Go.Proofs.Tryz.prog 0 (⟨[], [(58, 67100720, [(13, tk Go.Proofs.Tryz.prog 3)])]⟩) I 37 [V.one (Cell.slice 1 l0), V.one (Cell.slice 1 l1)] Q = vc37 I l0 l1 Q := by kernel_rfl
/-- slices.Equal[[]handbill/api.Taken,handbill/api.Taken] -/
def vc38 (I : FuncId → List V → Post → T) (l0 : Sl) (l1 : Sl) (Q : Post) : T :=
 ifT (!decide ((↑l0.len : Int) = (↑l1.len : Int)))
 (Q [.one (.bool false)])
 (loopK (A := Int) 0
 (fun x2 n3 => ifT (decide (n3 < (↑l0.len : Int)))
 (fun h4 =>
 ((0 ≤ n3) ∧
 n3 < (↑l0.len : Int)) ∧
 (derefK l0.a (fun i5 => fun i6 h7 =>
 ∃ s8 : ByteArray, ∃ n9 : Int, (h7.read i5 (i6 + n3.toNat * 2) 2 = some [.str s8, .int .i64 n9]) ∧
 ((0 ≤ n3) ∧
 n3 < (↑l1.len : Int)) ∧
 (derefK l1.a (fun i10 => fun i11 h12 =>
 ∃ s13 : ByteArray, ∃ n14 : Int, (h12.read i10 (i11 + n3.toNat * 2) 2 = some [.str s13, .int .i64 n14]) ∧
 (ifT (!(decide (s8 = s13) && decide (n9 = n14)))
 (Q [.one (.bool false)])
 (x2 (IntKind.i64.wrap (n3 + 1)))) h12)) h7)) h4)
 (Q [.one (.bool true)])))
theorem den38 (I : FuncId → List V → Post → T) (l0 : Sl) (l1 : Sl) (Q : Post) : denF Go.Proofs.Tryz.prog 0 (⟨[], [(58, 67100720, [(13, tk Go.Proofs.Tryz.prog 3)])]⟩) I 38 [V.one (Cell.slice 2 l0), V.one (Cell.slice 2 l1)] Q = vc38 I l0 l1 Q := by kernel_rfl
/-- slices.EqualFunc[[]handbill/api.Cell,[]handbill/api.Cell,handbill/api.Cell,handbill/api.Cell] -/
def vc39 (I : FuncId → List V → Post → T) (l0 : Sl) (l1 : Sl) (p2 : Option (Nat × List (Nat × Nat))) (Q : Post) : T :=
 ifT (!decide ((↑l0.len : Int) = (↑l1.len : Int)))
 (Q [.one (.bool false)])
 (loopK (A := Int) 0
 (fun x3 n4 => ifT (decide (n4 < (↑l0.len : Int)))
 (fun h5 =>
 ((0 ≤ n4) ∧
 n4 < (↑l0.len : Int)) ∧
 (derefK l0.a (fun i6 => fun i7 h8 =>
 ∃ l9 : Sl, ∃ n10 : Int, ∃ n11 : Int, (h8.read i6 (i7 + n4.toNat * 3) 3 = some [.slice 1 l9, .int .i64 n10, .int .i64 n11]) ∧
 ((0 ≤ n4) ∧
 n4 < (↑l1.len : Int)) ∧
 (derefK l1.a (fun i12 => fun i13 h14 =>
 ∃ l15 : Sl, ∃ n16 : Int, ∃ n17 : Int, (h14.read i12 (i13 + n4.toNat * 3) 3 = some [.slice 1 l15, .int .i64 n16, .int .i64 n17]) ∧
 (funK p2 (fun i18 => fun cs19 h20 =>
 I i18 (.agg [.slice 1 l9, .int .i64 n10, .int .i64 n11] :: .agg [.slice 1 l15, .int .i64 n16, .int .i64 n17] :: cs19)
 (fun cs21 h22 =>
 ∃ b23 : Bool, (cs21 = [.one (.bool b23)]) ∧
 (ifT (!b23)
 (Q [.one (.bool false)])
 (x3 (IntKind.i64.wrap (n4 + 1)))) h22) h20)) h14)) h8)) h5)
 (Q [.one (.bool true)])))
theorem den39 (I : FuncId → List V → Post → T) (l0 : Sl) (l1 : Sl) (p2 : Option (Nat × List (Nat × Nat))) (Q : Post) : denF Go.Proofs.Tryz.prog 768 (⟨[], [(58, 4294837184, [(17, tk Go.Proofs.Tryz.prog 3)])]⟩) I 39 [V.one (Cell.slice 3 l0), V.one (Cell.slice 3 l1), V.one (Cell.func p2)] Q = vc39 I l0 l1 p2 Q := by kernel_rfl
/-- handbill/handref1.SameCells$1 -/
def vc40 (I : FuncId → List V → Post → T) (l0 : Sl) (n1 : Int) (n2 : Int) (l3 : Sl) (n4 : Int) (n5 : Int) (Q : Post) : T :=
 fun h6 =>
 I 27 [.one (.slice 1 l0), .one (.slice 1 l3)]
 (fun cs7 h8 =>
 ∃ b9 : Bool, (cs7 = [.one (.bool b9)]) ∧
 (ifT b9
 (ifT (decide (n1 = n4))
 (Q [.one (.bool (decide (n2 = n5)))])
 (Q [.one (.bool false)]))
 (Q [.one (.bool false)])) h8) h6
theorem den40 (I : FuncId → List V → Post → T) (l0 : Sl) (n1 : Int) (n2 : Int) (l3 : Sl) (n4 : Int) (n5 : Int) (Q : Post) : denF Go.Proofs.Tryz.prog 12 (⟨[], []⟩) I 40 [V.agg [Cell.slice 1 l0, Cell.int IntKind.i64 n1, Cell.int IntKind.i64 n2], V.agg [Cell.slice 1 l3, Cell.int IntKind.i64 n4, Cell.int IntKind.i64 n5]] Q = vc40 I l0 n1 n2 l3 n4 n5 Q := by kernel_rfl
/-- handbill/offer.CheckBudgets -/
def vc41 (I : FuncId → List V → Post → T) (l0 : Sl) (Q : Post) : T :=
 ifT (decide ((↑l0.len : Int) > 50))
 (Q [.one (.int .i64 2)])
 (loopK (A := Int) 0
 (fun x1 n2 => ifT (decide (n2 < (↑l0.len : Int)))
 (fun h3 =>
 ((0 ≤ n2) ∧
 n2 < (↑l0.len : Int)) ∧
 (derefK l0.a (fun i4 => fun i5 h6 =>
 ∃ s7 : ByteArray, ∃ n8 : Int, ∃ n9 : Int, ∃ n10 : Int, ∃ b11 : Bool, (h6.read i4 (i5 + n2.toNat * 5) 5 = some [.str s7, .int .i64 n8, .int .i64 n9, .int .i64 n10, .bool b11]) ∧
 (newK (.cells false [.str ByteArray.empty, .int .i64 0, .int .i64 0, .int .i64 0, .bool false]) (fun i12 h13 =>
 (storeK [] i12 0 [.str s7, .int .i64 n8, .int .i64 n9, .int .i64 n10, .bool b11] (fun h14 =>
 ∃ s15 : ByteArray, (h14.read i12 0 1 = some [.str s15]) ∧
 I 52 [.one (.str s15)]
 (fun cs16 h17 =>
 ∃ b18 : Bool, (cs16 = [.one (.bool b18)]) ∧
 (ifT (!b18)
 (Q [.one (.int .i64 5)])
 (fun h19 =>
 (((0 : Int) ≤ (0 : Int)) ∧
 (0 ≤ n2) ∧
 n2 ≤ (↑l0.len : Int)) ∧
 I 62 [.one (.slice 5 (l0.sub 5 0 n2.toNat)), .one (.func (some (63, [(i12, 0)])))]
 (fun cs20 h21 =>
 ∃ b22 : Bool, (cs20 = [.one (.bool b22)]) ∧
 (ifT b22
 (Q [.one (.int .i64 6)])
 (fun h23 =>
 ∃ n24 : Int, (h23.read i12 1 1 = some [.int .i64 n24]) ∧
 I 64 [.one (.int .i64 n24), .one (.int .i64 0), .one (.int .i64 1000000000000)]
 (fun cs25 h26 =>
 ∃ b27 : Bool, (cs25 = [.one (.bool b27)]) ∧
 (ifT (!b27)
 (Q [.one (.int .i64 1)])
 (fun h28 =>
 ∃ n29 : Int, (h28.read i12 2 1 = some [.int .i64 n29]) ∧
 (ifT (decide (n29 < 0))
 (Q [.one (.int .i64 1)])
 (fun h30 =>
 ∃ n31 : Int, (h30.read i12 2 1 = some [.int .i64 n31]) ∧
 ∃ n32 : Int, (h30.read i12 3 1 = some [.int .i64 n32]) ∧
 (ifT (decide (n31 > n32))
 (Q [.one (.int .i64 1)])
 (fun h33 =>
 ∃ n34 : Int, (h33.read i12 3 1 = some [.int .i64 n34]) ∧
 (ifT (decide (n34 > 3000))
 (Q [.one (.int .i64 1)])
 (x1 (IntKind.i64.wrap (n2 + 1)))) h33)) h30)) h28)) h26) h23)) h21) h19)) h17) h14)) h13)) h6)) h3)
 (Q [.one (.int .i64 0)])))
theorem den41 (I : FuncId → List V → Post → T) (l0 : Sl) (Q : Post) : denF Go.Proofs.Tryz.prog 0 (⟨[], [(58, 562949953420316, [(10, tk Go.Proofs.Tryz.prog 3)])]⟩) I 41 [V.one (Cell.slice 5 l0)] Q = vc41 I l0 Q := by kernel_rfl
/-- slices.Clone[[]handbill/api.Budget,handbill/api.Budget] -/
def vc42 (I : FuncId → List V → Post → T) (l0 : Sl) (Q : Post) : T :=
 ifT l0.a.isNone
 (Q [.one (.slice 5 { a := none, len := 0 })])
 (fun h1 =>
 ∃ cs2 : List Cell, (h1.sl 5 l0 = some cs2) ∧
 (l0.len * 48 ≤ 140737488355328) ∧
 (newK (.cells false cs2) (fun i3 h4 =>
 Q [.one (.slice 5 { a := some (i3, 0), len := l0.len })] h4)) h1)
theorem den42 (I : FuncId → List V → Post → T) (l0 : Sl) (Q : Post) : denF Go.Proofs.Tryz.prog 0 (⟨[], []⟩) I 42 [V.one (Cell.slice 5 l0)] Q = vc42 I l0 Q := by kernel_rfl
/-- (*handbill/offer.Purse).budgetOf -/
def vc43 (I : FuncId → List V → Post → T) (p0 : Option (Nat × Nat)) (s1 : ByteArray) (Q : Post) : T :=
 fun h2 =>
 (newK (.cells false [.str s1]) (fun i3 => derefK p0 (fun i4 => fun i5 h6 =>
 ∃ l7 : Sl, (h6.read i4 (i5 + 0) 1 = some [.slice 5 l7]) ∧
 I 65 [.one (.slice 5 l7), .one (.func (some (66, [(i3, 0)])))]
 (fun cs8 h9 =>
 ∃ n10 : Int, (cs8 = [.one (.int .i64 n10)]) ∧
 (ifT (decide (n10 < 0))
 (fun h11 =>
 Q [.agg [.str ByteArray.empty, .int .i64 0, .int .i64 0, .int .i64 0, .bool false], .one (.bool false)] h11)
 (derefK p0 (fun i12 => fun i13 h14 =>
 ∃ l15 : Sl, (h14.read i12 (i13 + 0) 1 = some [.slice 5 l15]) ∧
 ((0 ≤ n10) ∧
 n10 < (↑l15.len : Int)) ∧
 (derefK l15.a (fun i16 => fun i17 h18 =>
 ∃ s19 : ByteArray, ∃ n20 : Int, ∃ n21 : Int, ∃ n22 : Int, ∃ b23 : Bool, (h18.read i16 (i17 + n10.toNat * 5) 5 = some [.str s19, .int .i64 n20, .int .i64 n21, .int .i64 n22, .bool b23]) ∧
 Q [.agg [.str s19, .int .i64 n20, .int .i64 n21, .int .i64 n22, .bool b23], .one (.bool true)] h18)) h14))) h9) h6))) h2
theorem den43 (I : FuncId → List V → Post → T) (p0 : Option (Nat × Nat)) (s1 : ByteArray) (Q : Post) : denF Go.Proofs.Tryz.prog 16 (⟨[], []⟩) I 43 [V.one (Cell.ptr p0), V.one (Cell.str s1)] Q = vc43 I p0 s1 Q := by kernel_rfl
/-- handbill/offer.isMoment -/
def vc44 (I : FuncId → List V → Post → T) (n0 : Int) (Q : Post) : T :=
 fun h1 =>
 I 64 [.one (.int .i64 n0), .one (.int .i64 0), .one (.int .i64 4321439)]
 (fun cs2 h3 =>
 ∃ b4 : Bool, (cs2 = [.one (.bool b4)]) ∧
 Q [.one (.bool b4)] h3) h1
theorem den44 (I : FuncId → List V → Post → T) (n0 : Int) (Q : Post) : denF Go.Proofs.Tryz.prog 0 (⟨[], []⟩) I 44 [V.one (Cell.int IntKind.i64 n0)] Q = vc44 I n0 Q := by kernel_rfl
/-- handbill/offer.paced -/
def vc45 (I : FuncId → List V → Post → T) (s0 : ByteArray) (n1 : Int) (n2 : Int) (n3 : Int) (b4 : Bool) (n5 : Int) (Q : Post) : T :=
 ifT (decide (IntKind.i64.wrap (n5.tdiv 1440) < n2))
 (Q [.one (.int .i64 0)])
 (joinK (A := Bool)
 (fun b6 => ifT b6
 (Q [.one (.int .i64 n1)])
 (fun h7 =>
 (IntKind.i64.wrap (IntKind.i64.wrap (n3 - n2) + 1) ≠ 0) ∧
 Q [.one (.int .i64 (IntKind.i64.wrap ((IntKind.i64.wrap (n1 * IntKind.i64.wrap (IntKind.i64.wrap (IntKind.i64.wrap (n5.tdiv 1440) - n2) + 1))).tdiv (IntKind.i64.wrap (IntKind.i64.wrap (n3 - n2) + 1)))))] h7))
 (fun x8 => ifT (decide (IntKind.i64.wrap (n5.tdiv 1440) ≥ n3))
 (x8 true)
 (x8 (!b4))))
theorem den45 (I : FuncId → List V → Post → T) (s0 : ByteArray) (n1 : Int) (n2 : Int) (n3 : Int) (b4 : Bool) (n5 : Int) (Q : Post) : denF Go.Proofs.Tryz.prog 4 (⟨[(230, 8380416, [(13, tk Go.Proofs.Tryz.prog 4)])], []⟩) I 45 [V.agg [Cell.str s0, Cell.int IntKind.i64 n1, Cell.int IntKind.i64 n2, Cell.int IntKind.i64 n3, Cell.bool b4], V.one (Cell.int IntKind.i64 n5)] Q = vc45 I s0 n1 n2 n3 b4 n5 Q := by kernel_rfl
/-- (*handbill/offer.Purse).taken -/
def vc46 (I : FuncId → List V → Post → T) (p0 : Option (Nat × Nat)) (s1 : ByteArray) (n2 : Int) (Q : Post) : T :=
 derefK p0 (fun i3 => fun i4 h5 =>
 ∃ l6 : Sl, (h5.read i3 (i4 + 1) 1 = some [.slice 6 l6]) ∧
 (loopK (A := Int × Int) ((0, 0))
 (fun x7 => uncur fun n8 n9 => ifT (decide (n9 < (↑l6.len : Int)))
 (fun h10 =>
 ((0 ≤ n9) ∧
 n9 < (↑l6.len : Int)) ∧
 (derefK l6.a (fun i11 => fun i12 h13 =>
 ∃ n14 : Int, ∃ s15 : ByteArray, ∃ n16 : Int, ∃ n17 : Int, ∃ n18 : Int, ∃ n19 : Int, (h13.read i11 (i12 + n9.toNat * 6) 6 = some [.int .i64 n14, .str s15, .int .i64 n16, .int .i64 n17, .int .i64 n18, .int .i64 n19]) ∧
 I 67 [.agg [.int .i64 n14, .str s15, .int .i64 n16, .int .i64 n17, .int .i64 n18, .int .i64 n19], .one (.int .i64 n2)]
 (fun cs20 h21 =>
 ∃ n22 : Int, (cs20 = [.one (.int .i64 n22)]) ∧
 (ifT (decide (s15 = s1))
 (ifT (decide (n22 = 1))
 (x7 ((IntKind.i64.wrap (n8 + n16), IntKind.i64.wrap (n9 + 1))))
 (ifT (decide (n22 = 2))
 (x7 ((IntKind.i64.wrap (n8 + n16), IntKind.i64.wrap (n9 + 1))))
 (x7 ((n8, IntKind.i64.wrap (n9 + 1))))))
 (x7 ((n8, IntKind.i64.wrap (n9 + 1))))) h21) h13)) h10)
 (Q [.one (.int .i64 n8)]))) h5)
theorem den46 (I : FuncId → List V → Post → T) (p0 : Option (Nat × Nat)) (s1 : ByteArray) (n2 : Int) (Q : Post) : denF Go.Proofs.Tryz.prog 512 (⟨[], [(58, 1099511563904, [(7, tk Go.Proofs.Tryz.prog 3), (16, tk Go.Proofs.Tryz.prog 3)])]⟩) I 46 [V.one (Cell.ptr p0), V.one (Cell.str s1), V.one (Cell.int IntKind.i64 n2)] Q = vc46 I p0 s1 n2 Q := by kernel_rfl
/-- handbill/offer.Seal -/
def vc47 (I : FuncId → List V → Post → T) (s0 : ByteArray) (Q : Post) : T :=
 fun h1 =>
 I 64 [.one (.int .i64 (↑s0.size : Int)), .one (.int .i64 3), .one (.int .i64 23)]
 (fun cs2 h3 =>
 ∃ b4 : Bool, (cs2 = [.one (.bool b4)]) ∧
 (ifT (!b4)
 (Q [.one (.str { data := #[] }), .one (.int .i64 2)])
 (fun h5 =>
 I 68 [.one (.str s0)]
 (fun cs6 h7 =>
 ∃ b8 : Bool, (cs6 = [.one (.bool b8)]) ∧
 (ifT (!b8)
 (Q [.one (.str { data := #[] }), .one (.int .i64 3)])
 (fun h9 =>
 I 69 [.one (.str s0)]
 (fun cs10 h11 =>
 ∃ s12 : ByteArray, (cs10 = [.one (.str s12)]) ∧
 Q [.one (.str s12), .one (.int .i64 0)] h11) h9)) h7) h5)) h3) h1
theorem den47 (I : FuncId → List V → Post → T) (s0 : ByteArray) (Q : Post) : denF Go.Proofs.Tryz.prog 0 (⟨[], []⟩) I 47 [V.one (Cell.str s0)] Q = vc47 I s0 Q := by kernel_rfl
/-- handbill/measure.Reduce -/
def vc48 (I : FuncId → List V → Post → T) (n0 : Int) (n1 : Int) (Q : Post) : T :=
 joinK (A := Bool)
 (fun b2 => ifT b2
 (fun h3 =>
 Q [.agg [.int .i64 0, .int .i64 0], .one (.int .i64 1)] h3)
 (ifT (decide (n1 = 0))
 (fun h4 =>
 Q [.agg [.int .i64 0, .int .i64 0], .one (.int .i64 8)] h4)
 (fun h5 =>
 I 70 [.one (.int .i64 n0), .one (.int .i64 n1)]
 (fun cs6 h7 =>
 ∃ n8 : Int, ∃ n9 : Int, (cs6 = [.agg [.int .i64 n8, .int .i64 n9]]) ∧
 Q [.agg [.int .i64 n8, .int .i64 n9], .one (.int .i64 0)] h7) h5)))
 (fun x10 h11 =>
 I 23 [.one (.int .i64 n0), .one (.int .i64 (-4611686018427387904)), .one (.int .i64 4611686018427387904)]
 (fun cs12 h13 =>
 ∃ b14 : Bool, (cs12 = [.one (.bool b14)]) ∧
 (ifT (!b14)
 (x10 true)
 (fun h15 =>
 I 23 [.one (.int .i64 n1), .one (.int .i64 (-4611686018427387904)), .one (.int .i64 4611686018427387904)]
 (fun cs16 h17 =>
 ∃ b18 : Bool, (cs16 = [.one (.bool b18)]) ∧
 x10 (!b18) h17) h15)) h13) h11)
theorem den48 (I : FuncId → List V → Post → T) (n0 : Int) (n1 : Int) (Q : Post) : denF Go.Proofs.Tryz.prog 16 (⟨[(24, 32704, [(6, tk Go.Proofs.Tryz.prog 4)])], []⟩) I 48 [V.one (Cell.int IntKind.i64 n0), V.one (Cell.int IntKind.i64 n1)] Q = vc48 I n0 n1 Q := by kernel_rfl
/-- handbill/offer.CheckOffers -/
def vc56 (I : FuncId → List V → Post → T) (l0 : Sl) (Q : Post) : T :=
 ifT (decide ((↑l0.len : Int) > 40))
 (Q [.one (.int .i64 2)])
 (loopK (A := Int) 0
 (fun x1 n2 => ifT (decide (n2 < (↑l0.len : Int)))
 (fun h3 =>
 ((0 ≤ n2) ∧
 n2 < (↑l0.len : Int)) ∧
 (derefK l0.a (fun i4 => fun i5 h6 =>
 ∃ s7 : ByteArray, ∃ n8 : Int, ∃ n9 : Int, ∃ n10 : Int, ∃ l11 : Sl, ∃ n12 : Int, ∃ n13 : Int, ∃ s14 : ByteArray, ∃ b15 : Bool, ∃ n16 : Int, ∃ n17 : Int, ∃ n18 : Int, (h6.read i4 (i5 + n2.toNat * 12) 12 = some [.str s7, .int .i64 n8, .int .i64 n9, .int .i64 n10, .slice 1 l11, .int .i64 n12, .int .i64 n13, .str s14, .bool b15, .int .i64 n16, .int .i64 n17, .int .i64 n18]) ∧
 (newK (.cells false [.str ByteArray.empty, .int .i64 0, .int .i64 0, .int .i64 0, .slice 1 { a := none, len := 0 }, .int .i64 0, .int .i64 0, .str ByteArray.empty, .bool false, .int .i64 0, .int .i64 0, .int .i64 0]) (fun i19 h20 =>
 (storeK [] i19 0 [.str s7, .int .i64 n8, .int .i64 n9, .int .i64 n10, .slice 1 l11, .int .i64 n12, .int .i64 n13, .str s14, .bool b15, .int .i64 n16, .int .i64 n17, .int .i64 n18] (fun h21 =>
 ∃ s22 : ByteArray, (h21.read i19 0 1 = some [.str s22]) ∧
 I 52 [.one (.str s22)]
 (fun cs23 h24 =>
 ∃ b25 : Bool, (cs23 = [.one (.bool b25)]) ∧
 (ifT (!b25)
 (Q [.one (.int .i64 5)])
 (fun h26 =>
 (((0 : Int) ≤ (0 : Int)) ∧
 (0 ≤ n2) ∧
 n2 ≤ (↑l0.len : Int)) ∧
 I 33 [.one (.slice 12 (l0.sub 12 0 n2.toNat)), .one (.func (some (80, [(i19, 0)])))]
 (fun cs27 h28 =>
 ∃ b29 : Bool, (cs27 = [.one (.bool b29)]) ∧
 (ifT b29
 (Q [.one (.int .i64 6)])
 (fun h30 =>
 ∃ n31 : Int, (h30.read i19 1 1 = some [.int .i64 n31]) ∧
 I 64 [.one (.int .i64 n31), .one (.int .i64 1), .one (.int .i64 4)]
 (fun cs32 h33 =>
 ∃ b34 : Bool, (cs32 = [.one (.bool b34)]) ∧
 (ifT (!b34)
 (Q [.one (.int .i64 4)])
 (joinK (A := Bool)
 (fun b35 => ifT b35
 (Q [.one (.int .i64 1)])
 (joinK (A := Bool)
 (fun b36 => ifT b36
 (Q [.one (.int .i64 1)])
 (joinK (A := Bool)
 (fun b37 => ifT b37
 (Q [.one (.int .i64 5)])
 (fun h38 =>
 ∃ l39 : Sl, (h38.read i19 4 1 = some [.slice 1 l39]) ∧
 I 82 [.one (.slice 1 l39)]
 (fun cs40 h41 =>
 ∃ n42 : Int, (cs40 = [.one (.int .i64 n42)]) ∧
 (ifT (!decide (n42 = 0))
 (Q [.one (.int .i64 n42)])
 (fun h43 =>
 ∃ l44 : Sl, (h43.read i19 4 1 = some [.slice 1 l44]) ∧
 (ifT (decide ((↑l44.len : Int) > 0))
 (fun h45 =>
 ∃ n46 : Int, (h45.read i19 1 1 = some [.int .i64 n46]) ∧
 (ifT (decide (n46 = 4))
 (Q [.one (.int .i64 3)])
 (x1 (IntKind.i64.wrap (n2 + 1)))) h45)
 (x1 (IntKind.i64.wrap (n2 + 1)))) h43)) h41) h38))
 (fun x47 h48 =>
 ∃ s49 : ByteArray, (h48.read i19 7 1 = some [.str s49]) ∧
 (ifT (!decide (s49 = { data := #[] }))
 (fun h50 =>
 ∃ s51 : ByteArray, (h50.read i19 7 1 = some [.str s51]) ∧
 I 52 [.one (.str s51)]
 (fun cs52 h53 =>
 ∃ b54 : Bool, (cs52 = [.one (.bool b54)]) ∧
 x47 (!b54) h53) h50)
 (x47 false)) h48)))
 (fun x55 h56 =>
 ∃ n57 : Int, (h56.read i19 10 1 = some [.int .i64 n57]) ∧
 I 44 [.one (.int .i64 n57)]
 (fun cs58 h59 =>
 ∃ b60 : Bool, (cs58 = [.one (.bool b60)]) ∧
 (ifT (!b60)
 (x55 true)
 (fun h61 =>
 ∃ n62 : Int, (h61.read i19 11 1 = some [.int .i64 n62]) ∧
 ∃ n63 : Int, (h61.read i19 10 1 = some [.int .i64 n63]) ∧
 I 64 [.one (.int .i64 n62), .one (.int .i64 (IntKind.i64.wrap (n63 + 1))), .one (.int .i64 4321440)]
 (fun cs64 h65 =>
 ∃ b66 : Bool, (cs64 = [.one (.bool b66)]) ∧
 x55 (!b66) h65) h61)) h59) h56)))
 (fun x67 h68 =>
 ∃ s69 : ByteArray, ∃ n70 : Int, ∃ n71 : Int, ∃ n72 : Int, ∃ l73 : Sl, ∃ n74 : Int, ∃ n75 : Int, ∃ s76 : ByteArray, ∃ b77 : Bool, ∃ n78 : Int, ∃ n79 : Int, ∃ n80 : Int, (h68.read i19 0 12 = some [.str s69, .int .i64 n70, .int .i64 n71, .int .i64 n72, .slice 1 l73, .int .i64 n74, .int .i64 n75, .str s76, .bool b77, .int .i64 n78, .int .i64 n79, .int .i64 n80]) ∧
 I 81 [.agg [.str s69, .int .i64 n70, .int .i64 n71, .int .i64 n72, .slice 1 l73, .int .i64 n74, .int .i64 n75, .str s76, .bool b77, .int .i64 n78, .int .i64 n79, .int .i64 n80]]
 (fun cs81 h82 =>
 ∃ b83 : Bool, (cs81 = [.one (.bool b83)]) ∧
 (ifT (!b83)
 (x67 true)
 (fun h84 =>
 ∃ n85 : Int, (h84.read i19 5 1 = some [.int .i64 n85]) ∧
 I 64 [.one (.int .i64 n85), .one (.int .i64 0), .one (.int .i64 1000000000000)]
 (fun cs86 h87 =>
 ∃ b88 : Bool, (cs86 = [.one (.bool b88)]) ∧
 (ifT (!b88)
 (x67 true)
 (fun h89 =>
 ∃ n90 : Int, (h89.read i19 6 1 = some [.int .i64 n90]) ∧
 I 64 [.one (.int .i64 n90), .one (.int .i64 0), .one (.int .i64 1000000000000)]
 (fun cs91 h92 =>
 ∃ b93 : Bool, (cs91 = [.one (.bool b93)]) ∧
 (ifT (!b93)
 (x67 true)
 (fun h94 =>
 ∃ n95 : Int, (h94.read i19 9 1 = some [.int .i64 n95]) ∧
 I 64 [.one (.int .i64 n95), .one (.int .i64 0), .one (.int .i64 1000)]
 (fun cs96 h97 =>
 ∃ b98 : Bool, (cs96 = [.one (.bool b98)]) ∧
 x67 (!b98) h97) h94)) h92) h89)) h87) h84)) h82) h68))) h33) h30)) h28) h26)) h24) h21)) h20)) h6)) h3)
 (Q [.one (.int .i64 0)])))
theorem den56 (I : FuncId → List V → Post → T) (l0 : Sl) (Q : Post) : denF Go.Proofs.Tryz.prog 0 (⟨[(1913470, 18014394214514688, [(32, tk Go.Proofs.Tryz.prog 4)]), (7653886, 295129890780843343872, [(54, tk Go.Proofs.Tryz.prog 4)]), (30615550, 301936306998477940850688, [(68, tk Go.Proofs.Tryz.prog 4)])], [(58, 19807040628566084398385985596, [(11, tk Go.Proofs.Tryz.prog 3)])]⟩) I 56 [V.one (Cell.slice 12 l0)] Q = vc56 I l0 Q := by kernel_rfl
/-- handbill/offer.CheckBasket -/
def vc57 (I : FuncId → List V → Post → T) (l0 : Sl) (n1 : Int) (Q : Post) : T :=
 ifT (decide ((↑l0.len : Int) > 50))
 (Q [.one (.int .i64 2)])
 (loopK (A := Int) 0
 (fun x2 n3 => ifT (decide (n3 < (↑l0.len : Int)))
 (fun h4 =>
 ((0 ≤ n3) ∧
 n3 < (↑l0.len : Int)) ∧
 (derefK l0.a (fun i5 => fun i6 h7 =>
 ∃ s8 : ByteArray, ∃ n9 : Int, ∃ n10 : Int, ∃ l11 : Sl, (h7.read i5 (i6 + n3.toNat * 4) 4 = some [.str s8, .int .i64 n9, .int .i64 n10, .slice 1 l11]) ∧
 (newK (.cells false [.str ByteArray.empty, .int .i64 0, .int .i64 0, .slice 1 { a := none, len := 0 }]) (fun i12 h13 =>
 (storeK [] i12 0 [.str s8, .int .i64 n9, .int .i64 n10, .slice 1 l11] (fun h14 =>
 ∃ s15 : ByteArray, (h14.read i12 0 1 = some [.str s15]) ∧
 I 52 [.one (.str s15)]
 (fun cs16 h17 =>
 ∃ b18 : Bool, (cs16 = [.one (.bool b18)]) ∧
 (ifT (!b18)
 (Q [.one (.int .i64 5)])
 (fun h19 =>
 (((0 : Int) ≤ (0 : Int)) ∧
 (0 ≤ n3) ∧
 n3 ≤ (↑l0.len : Int)) ∧
 I 83 [.one (.slice 4 (l0.sub 4 0 n3.toNat)), .one (.func (some (84, [(i12, 0)])))]
 (fun cs20 h21 =>
 ∃ b22 : Bool, (cs20 = [.one (.bool b22)]) ∧
 (ifT b22
 (Q [.one (.int .i64 6)])
 (joinK (A := Bool)
 (fun b23 => ifT b23
 (Q [.one (.int .i64 1)])
 (fun h24 =>
 ∃ l25 : Sl, (h24.read i12 3 1 = some [.slice 1 l25]) ∧
 I 82 [.one (.slice 1 l25)]
 (fun cs26 h27 =>
 ∃ n28 : Int, (cs26 = [.one (.int .i64 n28)]) ∧
 (ifT (!decide (n28 = 0))
 (Q [.one (.int .i64 n28)])
 (x2 (IntKind.i64.wrap (n3 + 1)))) h27) h24))
 (fun x29 h30 =>
 ∃ n31 : Int, (h30.read i12 1 1 = some [.int .i64 n31]) ∧
 I 64 [.one (.int .i64 n31), .one (.int .i64 0), .one (.int .i64 10000000)]
 (fun cs32 h33 =>
 ∃ b34 : Bool, (cs32 = [.one (.bool b34)]) ∧
 (ifT (!b34)
 (x29 true)
 (fun h35 =>
 ∃ n36 : Int, (h35.read i12 2 1 = some [.int .i64 n36]) ∧
 I 64 [.one (.int .i64 n36), .one (.int .i64 1), .one (.int .i64 100)]
 (fun cs37 h38 =>
 ∃ b39 : Bool, (cs37 = [.one (.bool b39)]) ∧
 x29 (!b39) h38) h35)) h33) h30))) h21) h19)) h17) h14)) h13)) h7)) h4)
 (fun h40 =>
 I 64 [.one (.int .i64 n1), .one (.int .i64 0), .one (.int .i64 1000000000000)]
 (fun cs41 h42 =>
 ∃ b43 : Bool, (cs41 = [.one (.bool b43)]) ∧
 (ifT (!b43)
 (Q [.one (.int .i64 1)])
 (Q [.one (.int .i64 0)])) h42) h40)))
theorem den57 (I : FuncId → List V → Post → T) (l0 : Sl) (n1 : Int) (Q : Post) : denF Go.Proofs.Tryz.prog 2 (⟨[(478366, 2197949513728, [(30, tk Go.Proofs.Tryz.prog 4)])], [(58, 281474976702524, [(13, tk Go.Proofs.Tryz.prog 3)])]⟩) I 57 [V.agg [Cell.slice 4 l0, Cell.int IntKind.i64 n1]] Q = vc57 I l0 n1 Q := by kernel_rfl
/-- slices.IndexFunc[[]handbill/api.Offer,handbill/api.Offer] -/
def vc58 (I : FuncId → List V → Post → T) (l0 : Sl) (p1 : Option (Nat × List (Nat × Nat))) (Q : Post) : T :=
 loopK (A := Int) 0
 (fun x2 n3 => ifT (decide (n3 < (↑l0.len : Int)))
 (fun h4 =>
 ((0 ≤ n3) ∧
 n3 < (↑l0.len : Int)) ∧
 (derefK l0.a (fun i5 => fun i6 h7 =>
 ∃ s8 : ByteArray, ∃ n9 : Int, ∃ n10 : Int, ∃ n11 : Int, ∃ l12 : Sl, ∃ n13 : Int, ∃ n14 : Int, ∃ s15 : ByteArray, ∃ b16 : Bool, ∃ n17 : Int, ∃ n18 : Int, ∃ n19 : Int, (h7.read i5 (i6 + n3.toNat * 12) 12 = some [.str s8, .int .i64 n9, .int .i64 n10, .int .i64 n11, .slice 1 l12, .int .i64 n13, .int .i64 n14, .str s15, .bool b16, .int .i64 n17, .int .i64 n18, .int .i64 n19]) ∧
 (funK p1 (fun i20 => fun cs21 h22 =>
 I i20 (.agg [.str s8, .int .i64 n9, .int .i64 n10, .int .i64 n11, .slice 1 l12, .int .i64 n13, .int .i64 n14, .str s15, .bool b16, .int .i64 n17, .int .i64 n18, .int .i64 n19] :: cs21)
 (fun cs23 h24 =>
 ∃ b25 : Bool, (cs23 = [.one (.bool b25)]) ∧
 (ifT b25
 (Q [.one (.int .i64 n3)])
 (x2 (IntKind.i64.wrap (n3 + 1)))) h24) h22)) h7)) h4)
 (Q [.one (.int .i64 (-1))]))
theorem den58 (I : FuncId → List V → Post → T) (l0 : Sl) (p1 : Option (Nat × List (Nat × Nat))) (Q : Post) : denF Go.Proofs.Tryz.prog 0 (⟨[], [(26, 524080, [(8, tk Go.Proofs.Tryz.prog 3)])]⟩) I 58 [V.one (Cell.slice 12 l0), V.one (Cell.func p1)] Q = vc58 I l0 p1 Q := by kernel_rfl
/-- handbill/offer.matches -/
def vc59 (I : FuncId → List V → Post → T) (s0 : ByteArray) (n1 : Int) (n2 : Int) (n3 : Int) (l4 : Sl) (n5 : Int) (n6 : Int) (s7 : ByteArray) (b8 : Bool) (n9 : Int) (n10 : Int) (n11 : Int) (s12 : ByteArray) (n13 : Int) (n14 : Int) (l15 : Sl) (Q : Post) : T :=
 fun h16 =>
 (newK (.cells false [.str s12, .int .i64 n13, .int .i64 n14, .slice 1 l15]) (fun i17 => ifT (decide ((↑l4.len : Int) = 0))
 (Q [.one (.bool true)])
 (fun h18 =>
 I 50 [.one (.slice 1 l4), .one (.func (some (85, [(i17, 0)])))]
 (fun cs19 h20 =>
 ∃ b21 : Bool, (cs19 = [.one (.bool b21)]) ∧
 Q [.one (.bool b21)] h20) h18))) h16
theorem den59 (I : FuncId → List V → Post → T) (s0 : ByteArray) (n1 : Int) (n2 : Int) (n3 : Int) (l4 : Sl) (n5 : Int) (n6 : Int) (s7 : ByteArray) (b8 : Bool) (n9 : Int) (n10 : Int) (n11 : Int) (s12 : ByteArray) (n13 : Int) (n14 : Int) (l15 : Sl) (Q : Post) : denF Go.Proofs.Tryz.prog 4 (⟨[], []⟩) I 59 [V.agg [Cell.str s0, Cell.int IntKind.i64 n1, Cell.int IntKind.i64 n2, Cell.int IntKind.i64 n3, Cell.slice 1 l4, Cell.int IntKind.i64 n5, Cell.int IntKind.i64 n6, Cell.str s7, Cell.bool b8, Cell.int IntKind.i64 n9, Cell.int IntKind.i64 n10, Cell.int IntKind.i64 n11], V.agg [Cell.str s12, Cell.int IntKind.i64 n13, Cell.int IntKind.i64 n14, Cell.slice 1 l15]] Q = vc59 I s0 n1 n2 n3 l4 n5 n6 s7 b8 n9 n10 n11 s12 n13 n14 l15 Q := by kernel_rfl
/-- handbill/offer.ordered -/
def vc60 (I : FuncId → List V → Post → T) (l0 : Sl) (Q : Post) : T :=
 fun h1 =>
 I 87 [.one (.slice 12 l0)]
 (fun cs2 h3 =>
 ∃ l4 : Sl, (cs2 = [.one (.slice 12 l4)]) ∧
 I 88 [.one (.slice 12 l4), .one (.func (some (89, [])))]
 (fun cs5 h6 =>
 (cs5 = []) ∧
 Q [.one (.slice 12 l4)] h6) h3) h1
theorem den60 (I : FuncId → List V → Post → T) (l0 : Sl) (Q : Post) : denF Go.Proofs.Tryz.prog 0 (⟨[], []⟩) I 60 [V.one (Cell.slice 12 l0)] Q = vc60 I l0 Q := by kernel_rfl
/-- (*handbill/offer.pricer).apply -/
def vc61 (I : FuncId → List V → Post → T) (p0 : Option (Nat × Nat)) (s1 : ByteArray) (n2 : Int) (n3 : Int) (n4 : Int) (l5 : Sl) (n6 : Int) (n7 : Int) (s8 : ByteArray) (b9 : Bool) (n10 : Int) (n11 : Int) (n12 : Int) (Q : Post) : T :=
 joinK (A := Sl)
 (fun l13 => loopK (A := Int × Int) ((0, 0))
 (fun x14 => uncur fun n15 n16 => ifT (decide (n16 < (↑l13.len : Int)))
 (fun h17 =>
 ((0 ≤ n16) ∧
 n16 < (↑l13.len : Int)) ∧
 (derefK l13.a (fun i18 => fun i19 h20 =>
 ∃ n21 : Int, (h20.read i18 (i19 + n16.toNat * 1) 1 = some [.int .i64 n21]) ∧
 (derefK p0 (fun i22 => fun i23 h24 =>
 ∃ l25 : Sl, (h24.read i22 (i23 + 2) 1 = some [.slice 1 l25]) ∧
 ((0 ≤ n16) ∧
 n16 < (↑l25.len : Int)) ∧
 (derefK l25.a (fun i26 => fun i27 h28 =>
 ∃ n29 : Int, (h28.read i26 (i27 + n16.toNat * 1) 1 = some [.int .i64 n29]) ∧
 ((0 ≤ n16) ∧
 n16 < (↑l25.len : Int)) ∧
 (derefK l25.a (fun i30 => fun i31 h32 =>
 (storeK [] i30 (i31 + n16.toNat * 1) [.int .i64 (IntKind.i64.wrap (n29 - n21))] (x14 ((IntKind.i64.wrap (n15 + n21), IntKind.i64.wrap (n16 + 1))))) h32)) h28)) h24)) h20)) h17)
 (Q [.one (.int .i64 n15)])))
 (fun x33 => ifT (decide (n2 = 1))
 (fun h34 =>
 I 92 [.one (.ptr p0), .agg [.str s1, .int .i64 n2, .int .i64 n3, .int .i64 n4, .slice 1 l5, .int .i64 n6, .int .i64 n7, .str s8, .bool b9, .int .i64 n10, .int .i64 n11, .int .i64 n12]]
 (fun cs35 h36 =>
 ∃ l37 : Sl, (cs35 = [.one (.slice 1 l37)]) ∧
 x33 l37 h36) h34)
 (joinK (A := Sl)
 (fun l38 h39 =>
 x33 l38 h39)
 (fun x40 => ifT (decide (n2 = 2))
 (fun h41 =>
 I 93 [.one (.ptr p0), .agg [.str s1, .int .i64 n2, .int .i64 n3, .int .i64 n4, .slice 1 l5, .int .i64 n6, .int .i64 n7, .str s8, .bool b9, .int .i64 n10, .int .i64 n11, .int .i64 n12]]
 (fun cs42 h43 =>
 ∃ l44 : Sl, (cs42 = [.one (.slice 1 l44)]) ∧
 x40 l44 h43) h41)
 (ifT (decide (n2 = 3))
 (fun h45 =>
 I 94 [.one (.ptr p0), .agg [.str s1, .int .i64 n2, .int .i64 n3, .int .i64 n4, .slice 1 l5, .int .i64 n6, .int .i64 n7, .str s8, .bool b9, .int .i64 n10, .int .i64 n11, .int .i64 n12]]
 (fun cs46 h47 =>
 ∃ l48 : Sl, (cs46 = [.one (.slice 1 l48)]) ∧
 x40 l48 h47) h45)
 (derefK p0 (fun i49 => fun i50 h51 =>
 ∃ n52 : Int, (h51.read i49 (i50 + 3) 1 = some [.int .i64 n52]) ∧
 (joinK (A := Int)
 (fun n53 => derefK p0 (fun i54 => fun i55 h56 =>
 ∃ n57 : Int, (h56.read i54 (i55 + 3) 1 = some [.int .i64 n57]) ∧
 (derefK p0 (fun i58 => fun i59 h60 =>
 (storeK [] i58 (i59 + 3) [.int .i64 (IntKind.i64.wrap (n57 - n53))] (Q [.one (.int .i64 n53)])) h60)) h56))
 (fun x61 => ifT (!decide (n7 = 0))
 (x61 (min (min n3 n52) n7))
 (x61 (min n3 n52)))) h51))))))
theorem den61 (I : FuncId → List V → Post → T) (p0 : Option (Nat × Nat)) (s1 : ByteArray) (n2 : Int) (n3 : Int) (n4 : Int) (l5 : Sl) (n6 : Int) (n7 : Int) (s8 : ByteArray) (b9 : Bool) (n10 : Int) (n11 : Int) (n12 : Int) (Q : Post) : denF Go.Proofs.Tryz.prog 8 (⟨[(117, 1125796827623536, [(5, tk Go.Proofs.Tryz.prog 22)]), (471, 1121536220065904, [(5, tk Go.Proofs.Tryz.prog 22)]), (30205, 62914624, [(6, tk Go.Proofs.Tryz.prog 3)])], [(250, 2361178737835195237248, [(7, tk Go.Proofs.Tryz.prog 3), (52, tk Go.Proofs.Tryz.prog 3)])]⟩) I 61 [V.one (Cell.ptr p0), V.agg [Cell.str s1, Cell.int IntKind.i64 n2, Cell.int IntKind.i64 n3, Cell.int IntKind.i64 n4, Cell.slice 1 l5, Cell.int IntKind.i64 n6, Cell.int IntKind.i64 n7, Cell.str s8, Cell.bool b9, Cell.int IntKind.i64 n10, Cell.int IntKind.i64 n11, Cell.int IntKind.i64 n12]] Q = vc61 I p0 s1 n2 n3 n4 l5 n6 n7 s8 b9 n10 n11 n12 Q := by kernel_rfl
/-- slices.ContainsFunc[[]handbill/api.Budget,handbill/api.Budget] -/
def vc62 (I : FuncId → List V → Post → T) (l0 : Sl) (p1 : Option (Nat × List (Nat × Nat))) (Q : Post) : T :=
 fun h2 =>
 I 65 [.one (.slice 5 l0), .one (.func p1)]
 (fun cs3 h4 =>
 ∃ n5 : Int, (cs3 = [.one (.int .i64 n5)]) ∧
 Q [.one (.bool (decide (n5 ≥ 0)))] h4) h2
theorem den62 (I : FuncId → List V → Post → T) (l0 : Sl) (p1 : Option (Nat × List (Nat × Nat))) (Q : Post) : denF Go.Proofs.Tryz.prog 0 (⟨[], []⟩) I 62 [V.one (Cell.slice 5 l0), V.one (Cell.func p1)] Q = vc62 I l0 p1 Q := by kernel_rfl
/-- handbill/offer.CheckBudgets$1 -/
def vc63 (I : FuncId → List V → Post → T) (s0 : ByteArray) (n1 : Int) (n2 : Int) (n3 : Int) (b4 : Bool) (i5 : Nat) (i6 : Nat) (Q : Post) : T :=
 fun h7 =>
 ∃ s8 : ByteArray, (h7.read i5 (i6 + 0) 1 = some [.str s8]) ∧
 Q [.one (.bool (decide (s0 = s8)))] h7
theorem den63 (I : FuncId → List V → Post → T) (s0 : ByteArray) (n1 : Int) (n2 : Int) (n3 : Int) (b4 : Bool) (i5 : Nat) (i6 : Nat) (Q : Post) : denF Go.Proofs.Tryz.prog 4 (⟨[], []⟩) I 63 [V.agg [Cell.str s0, Cell.int IntKind.i64 n1, Cell.int IntKind.i64 n2, Cell.int IntKind.i64 n3, Cell.bool b4], V.one (Cell.ptr (some (i5, i6)))] Q = vc63 I s0 n1 n2 n3 b4 i5 i6 Q := by kernel_rfl
/-- handbill/offer.within -/
def vc64 (I : FuncId → List V → Post → T) (n0 : Int) (n1 : Int) (n2 : Int) (Q : Post) : T :=
 ifT (decide (n1 ≤ n0))
 (Q [.one (.bool (decide (n0 ≤ n2)))])
 (Q [.one (.bool false)])
theorem den64 (I : FuncId → List V → Post → T) (n0 : Int) (n1 : Int) (n2 : Int) (Q : Post) : denF Go.Proofs.Tryz.prog 0 (⟨[], []⟩) I 64 [V.one (Cell.int IntKind.i64 n0), V.one (Cell.int IntKind.i64 n1), V.one (Cell.int IntKind.i64 n2)] Q = vc64 I n0 n1 n2 Q := by kernel_rfl
/-- slices.IndexFunc[[]handbill/api.Budget,handbill/api.Budget] -/
def vc65 (I : FuncId → List V → Post → T) (l0 : Sl) (p1 : Option (Nat × List (Nat × Nat))) (Q : Post) : T :=
 loopK (A := Int) 0
 (fun x2 n3 => ifT (decide (n3 < (↑l0.len : Int)))
 (fun h4 =>
 ((0 ≤ n3) ∧
 n3 < (↑l0.len : Int)) ∧
 (derefK l0.a (fun i5 => fun i6 h7 =>
 ∃ s8 : ByteArray, ∃ n9 : Int, ∃ n10 : Int, ∃ n11 : Int, ∃ b12 : Bool, (h7.read i5 (i6 + n3.toNat * 5) 5 = some [.str s8, .int .i64 n9, .int .i64 n10, .int .i64 n11, .bool b12]) ∧
 (funK p1 (fun i13 => fun cs14 h15 =>
 I i13 (.agg [.str s8, .int .i64 n9, .int .i64 n10, .int .i64 n11, .bool b12] :: cs14)
 (fun cs16 h17 =>
 ∃ b18 : Bool, (cs16 = [.one (.bool b18)]) ∧
 (ifT b18
 (Q [.one (.int .i64 n3)])
 (x2 (IntKind.i64.wrap (n3 + 1)))) h17) h15)) h7)) h4)
 (Q [.one (.int .i64 (-1))]))
theorem den65 (I : FuncId → List V → Post → T) (l0 : Sl) (p1 : Option (Nat × List (Nat × Nat))) (Q : Post) : denF Go.Proofs.Tryz.prog 0 (⟨[], [(26, 524080, [(8, tk Go.Proofs.Tryz.prog 3)])]⟩) I 65 [V.one (Cell.slice 5 l0), V.one (Cell.func p1)] Q = vc65 I l0 p1 Q := by kernel_rfl
/-- (*handbill/offer.Purse).budgetOf$1 -/
def vc66 (I : FuncId → List V → Post → T) (s0 : ByteArray) (n1 : Int) (n2 : Int) (n3 : Int) (b4 : Bool) (i5 : Nat) (i6 : Nat) (Q : Post) : T :=
 fun h7 =>
 ∃ s8 : ByteArray, (h7.read i5 i6 1 = some [.str s8]) ∧
 Q [.one (.bool (decide (s0 = s8)))] h7
theorem den66 (I : FuncId → List V → Post → T) (s0 : ByteArray) (n1 : Int) (n2 : Int) (n3 : Int) (b4 : Bool) (i5 : Nat) (i6 : Nat) (Q : Post) : denF Go.Proofs.Tryz.prog 4 (⟨[], []⟩) I 66 [V.agg [Cell.str s0, Cell.int IntKind.i64 n1, Cell.int IntKind.i64 n2, Cell.int IntKind.i64 n3, Cell.bool b4], V.one (Cell.ptr (some (i5, i6)))] Q = vc66 I s0 n1 n2 n3 b4 i5 i6 Q := by kernel_rfl
/-- handbill/offer.stateAt -/
def vc67 (I : FuncId → List V → Post → T) (n0 : Int) (s1 : ByteArray) (n2 : Int) (n3 : Int) (n4 : Int) (n5 : Int) (n6 : Int) (Q : Post) : T :=
 ifT (decide (n5 = 1))
 (ifT (decide (n6 ≥ n4))
 (Q [.one (.int .i64 4)])
 (Q [.one (.int .i64 n5)]))
 (Q [.one (.int .i64 n5)])
theorem den67 (I : FuncId → List V → Post → T) (n0 : Int) (s1 : ByteArray) (n2 : Int) (n3 : Int) (n4 : Int) (n5 : Int) (n6 : Int) (Q : Post) : denF Go.Proofs.Tryz.prog 4 (⟨[], []⟩) I 67 [V.agg [Cell.int IntKind.i64 n0, Cell.str s1, Cell.int IntKind.i64 n2, Cell.int IntKind.i64 n3, Cell.int IntKind.i64 n4, Cell.int IntKind.i64 n5], V.one (Cell.int IntKind.i64 n6)] Q = vc67 I n0 s1 n2 n3 n4 n5 n6 Q := by kernel_rfl
/-- handbill/offer.areSigns -/
def vc68 (I : FuncId → List V → Post → T) (s0 : ByteArray) (Q : Post) : T :=
 loopK (A := Int) 0
 (fun x1 n2 => ifT (decide (n2 < (↑s0.size : Int)))
 (fun h3 =>
 ((0 ≤ n2) ∧
 n2 < (↑s0.size : Int)) ∧
 I 95 [.one (.str signS), .one (.int .u8 (byteAt s0 n2))]
 (fun cs4 h5 =>
 ∃ n6 : Int, (cs4 = [.one (.int .i64 n6)]) ∧
 (ifT (decide (n6 < 0))
 (Q [.one (.bool false)])
 (x1 (IntKind.i64.wrap (n2 + 1)))) h5) h3)
 (Q [.one (.bool true)]))
theorem den68 (I : FuncId → List V → Post → T) (s0 : ByteArray) (Q : Post) : denF Go.Proofs.Tryz.prog 0 (⟨[], [(26, 32716, [(6, tk Go.Proofs.Tryz.prog 3)])]⟩) I 68 [V.one (Cell.str s0)] Q = vc68 I s0 Q := by kernel_rfl
/-- handbill/offer.seal -/
def vc69 (I : FuncId → List V → Post → T) (s0 : ByteArray) (Q : Post) : T :=
 loopK (A := Int) 0
 (fun x1 n2 => ifT (decide (n2 < 31))
 (fun h3 =>
 ((0 ≤ n2) ∧
 (n2 ≤ IntKind.i64.wrap (n2 + 1)) ∧
 IntKind.i64.wrap (n2 + 1) ≤ (↑31 : Int)) ∧
 (s0.size + (signS.extract n2.toNat (IntKind.i64.wrap (n2 + 1)).toNat).size ≤ 9223372036854775807) ∧
 I 96 [.one (.str (s0 ++ signS.extract n2.toNat (IntKind.i64.wrap (n2 + 1)).toNat))]
 (fun cs4 h5 =>
 ∃ n6 : Int, (cs4 = [.one (.int .i64 n6)]) ∧
 (ifT (decide (n6 = 0))
 (Q [.one (.str (s0 ++ signS.extract n2.toNat (IntKind.i64.wrap (n2 + 1)).toNat))])
 (x1 (IntKind.i64.wrap (n2 + 1)))) h5) h3)
 (Q [.one (.str s0)]))
theorem den69 (I : FuncId → List V → Post → T) (s0 : ByteArray) (Q : Post) : denF Go.Proofs.Tryz.prog 0 (⟨[], [(26, 524284, [(5, tk Go.Proofs.Tryz.prog 3)])]⟩) I 69 [V.one (Cell.str s0)] Q = vc69 I s0 Q := by kernel_rfl
/-- handbill/measure.reduce -/
def vc70 (I : FuncId → List V → Post → T) (n0 : Int) (n1 : Int) (Q : Post) : T :=
 joinK (A := Int × Int)
 (uncur fun n2 n3 => fun h4 =>
 I 98 [.one (.int .i64 n2)]
 (fun cs5 h6 =>
 ∃ n7 : Int, (cs5 = [.one (.int .u64 n7)]) ∧
 I 98 [.one (.int .i64 n3)]
 (fun cs8 h9 =>
 ∃ n10 : Int, (cs8 = [.one (.int .u64 n10)]) ∧
 I 97 [.one (.int .u64 n7), .one (.int .u64 n10)]
 (fun cs11 h12 =>
 ∃ n13 : Int, (cs11 = [.one (.int .u64 n13)]) ∧
 (IntKind.i64.wrap n13 ≠ 0) ∧
 (IntKind.i64.wrap n13 ≠ 0) ∧
 Q [.agg [.int .i64 (IntKind.i64.wrap (n2.tdiv (IntKind.i64.wrap n13))), .int .i64 (IntKind.i64.wrap (n3.tdiv (IntKind.i64.wrap n13)))]] h12) h9) h6) h4)
 (fun x14 => ifT (decide (n1 < 0))
 (x14 ((IntKind.i64.wrap (0 - n0), IntKind.i64.wrap (0 - n1))))
 (x14 ((n0, n1))))
theorem den70 (I : FuncId → List V → Post → T) (n0 : Int) (n1 : Int) (Q : Post) : denF Go.Proofs.Tryz.prog 16 (⟨[(13, 3843, [(0, tk Go.Proofs.Tryz.prog 3), (1, tk Go.Proofs.Tryz.prog 3)])], []⟩) I 70 [V.one (Cell.int IntKind.i64 n0), V.one (Cell.int IntKind.i64 n1)] Q = vc70 I n0 n1 Q := by kernel_rfl
/-- handbill/offer.CheckOffers$1 -/
def vc80 (I : FuncId → List V → Post → T) (s0 : ByteArray) (n1 : Int) (n2 : Int) (n3 : Int) (l4 : Sl) (n5 : Int) (n6 : Int) (s7 : ByteArray) (b8 : Bool) (n9 : Int) (n10 : Int) (n11 : Int) (i12 : Nat) (i13 : Nat) (Q : Post) : T :=
 fun h14 =>
 ∃ s15 : ByteArray, (h14.read i12 (i13 + 0) 1 = some [.str s15]) ∧
 Q [.one (.bool (decide (s0 = s15)))] h14
theorem den80 (I : FuncId → List V → Post → T) (s0 : ByteArray) (n1 : Int) (n2 : Int) (n3 : Int) (l4 : Sl) (n5 : Int) (n6 : Int) (s7 : ByteArray) (b8 : Bool) (n9 : Int) (n10 : Int) (n11 : Int) (i12 : Nat) (i13 : Nat) (Q : Post) : denF Go.Proofs.Tryz.prog 4 (⟨[], []⟩) I 80 [V.agg [Cell.str s0, Cell.int IntKind.i64 n1, Cell.int IntKind.i64 n2, Cell.int IntKind.i64 n3, Cell.slice 1 l4, Cell.int IntKind.i64 n5, Cell.int IntKind.i64 n6, Cell.str s7, Cell.bool b8, Cell.int IntKind.i64 n9, Cell.int IntKind.i64 n10, Cell.int IntKind.i64 n11], V.one (Cell.ptr (some (i12, i13)))] Q = vc80 I s0 n1 n2 n3 l4 n5 n6 s7 b8 n9 n10 n11 i12 i13 Q := by kernel_rfl
/-- handbill/offer.amounts -/
def vc81 (I : FuncId → List V → Post → T) (s0 : ByteArray) (n1 : Int) (n2 : Int) (n3 : Int) (l4 : Sl) (n5 : Int) (n6 : Int) (s7 : ByteArray) (b8 : Bool) (n9 : Int) (n10 : Int) (n11 : Int) (Q : Post) : T :=
 ifT (decide (n1 = 1))
 (joinK (A := Bool)
 (fun b12 h13 =>
 Q [.one (.bool b12)] h13)
 (fun x14 h15 =>
 I 64 [.one (.int .i64 n2), .one (.int .i64 1), .one (.int .i64 100)]
 (fun cs16 h17 =>
 ∃ b18 : Bool, (cs16 = [.one (.bool b18)]) ∧
 (ifT b18
 (x14 (decide (n3 = 0)))
 (x14 false)) h17) h15))
 (ifT (decide (n1 = 3))
 (joinK (A := Bool)
 (fun b19 h20 =>
 Q [.one (.bool b19)] h20)
 (fun x21 h22 =>
 I 64 [.one (.int .i64 n2), .one (.int .i64 1), .one (.int .i64 20)]
 (fun cs23 h24 =>
 ∃ b25 : Bool, (cs23 = [.one (.bool b25)]) ∧
 (ifT b25
 (fun h26 =>
 I 64 [.one (.int .i64 n3), .one (.int .i64 1), .one (.int .i64 20)]
 (fun cs27 h28 =>
 ∃ b29 : Bool, (cs27 = [.one (.bool b29)]) ∧
 x21 b29 h28) h26)
 (x21 false)) h24) h22))
 (fun h30 =>
 I 64 [.one (.int .i64 n2), .one (.int .i64 1), .one (.int .i64 1000000000000)]
 (fun cs31 h32 =>
 ∃ b33 : Bool, (cs31 = [.one (.bool b33)]) ∧
 (ifT b33
 (Q [.one (.bool (decide (n3 = 0)))])
 (Q [.one (.bool false)])) h32) h30))
theorem den81 (I : FuncId → List V → Post → T) (s0 : ByteArray) (n1 : Int) (n2 : Int) (n3 : Int) (l4 : Sl) (n5 : Int) (n6 : Int) (s7 : ByteArray) (b8 : Bool) (n9 : Int) (n10 : Int) (n11 : Int) (Q : Post) : denF Go.Proofs.Tryz.prog 2 (⟨[(212, 32644, [(2, tk Go.Proofs.Tryz.prog 4)]), (860, 33423364, [(2, tk Go.Proofs.Tryz.prog 4)])], []⟩) I 81 [V.agg [Cell.str s0, Cell.int IntKind.i64 n1, Cell.int IntKind.i64 n2, Cell.int IntKind.i64 n3, Cell.slice 1 l4, Cell.int IntKind.i64 n5, Cell.int IntKind.i64 n6, Cell.str s7, Cell.bool b8, Cell.int IntKind.i64 n9, Cell.int IntKind.i64 n10, Cell.int IntKind.i64 n11]] Q = vc81 I s0 n1 n2 n3 l4 n5 n6 s7 b8 n9 n10 n11 Q := by kernel_rfl
/-- handbill/offer.checkTags -/
def vc82 (I : FuncId → List V → Post → T) (l0 : Sl) (Q : Post) : T :=
 ifT (decide ((↑l0.len : Int) > 10))
 (Q [.one (.int .i64 2)])
 (loopK (A := Int) 0
 (fun x1 n2 => ifT (decide (n2 < (↑l0.len : Int)))
 (fun h3 =>
 ((0 ≤ n2) ∧
 n2 < (↑l0.len : Int)) ∧
 (derefK l0.a (fun i4 => fun i5 h6 =>
 ∃ s7 : ByteArray, (h6.read i4 (i5 + n2.toNat * 1) 1 = some [.str s7]) ∧
 I 52 [.one (.str s7)]
 (fun cs8 h9 =>
 ∃ b10 : Bool, (cs8 = [.one (.bool b10)]) ∧
 (ifT (!b10)
 (Q [.one (.int .i64 5)])
 (ifT (decide (n2 > 0))
 (fun h11 =>
 ((0 ≤ IntKind.i64.wrap (n2 - 1)) ∧
 IntKind.i64.wrap (n2 - 1) < (↑l0.len : Int)) ∧
 (derefK l0.a (fun i12 => fun i13 h14 =>
 ∃ s15 : ByteArray, (h14.read i12 (i13 + (IntKind.i64.wrap (n2 - 1)).toNat * 1) 1 = some [.str s15]) ∧
 (ifT (Op.bytesLess s7.toList s15.toList || decide (s7 = s15))
 (Q [.one (.int .i64 7)])
 (x1 (IntKind.i64.wrap (n2 + 1)))) h14)) h11)
 (x1 (IntKind.i64.wrap (n2 + 1))))) h9) h6)) h3)
 (Q [.one (.int .i64 0)])))
theorem den82 (I : FuncId → List V → Post → T) (l0 : Sl) (Q : Post) : denF Go.Proofs.Tryz.prog 0 (⟨[], [(58, 4294966300, [(10, tk Go.Proofs.Tryz.prog 3)])]⟩) I 82 [V.one (Cell.slice 1 l0)] Q = vc82 I l0 Q := by kernel_rfl
/-- slices.ContainsFunc[[]handbill/api.Item,handbill/api.Item] -/
def vc83 (I : FuncId → List V → Post → T) (l0 : Sl) (p1 : Option (Nat × List (Nat × Nat))) (Q : Post) : T :=
 fun h2 =>
 I 100 [.one (.slice 4 l0), .one (.func p1)]
 (fun cs3 h4 =>
 ∃ n5 : Int, (cs3 = [.one (.int .i64 n5)]) ∧
 Q [.one (.bool (decide (n5 ≥ 0)))] h4) h2
theorem den83 (I : FuncId → List V → Post → T) (l0 : Sl) (p1 : Option (Nat × List (Nat × Nat))) (Q : Post) : denF Go.Proofs.Tryz.prog 0 (⟨[], []⟩) I 83 [V.one (Cell.slice 4 l0), V.one (Cell.func p1)] Q = vc83 I l0 p1 Q := by kernel_rfl
/-- handbill/offer.CheckBasket$1 -/
def vc84 (I : FuncId → List V → Post → T) (s0 : ByteArray) (n1 : Int) (n2 : Int) (l3 : Sl) (i4 : Nat) (i5 : Nat) (Q : Post) : T :=
 fun h6 =>
 ∃ s7 : ByteArray, (h6.read i4 (i5 + 0) 1 = some [.str s7]) ∧
 Q [.one (.bool (decide (s0 = s7)))] h6
theorem den84 (I : FuncId → List V → Post → T) (s0 : ByteArray) (n1 : Int) (n2 : Int) (l3 : Sl) (i4 : Nat) (i5 : Nat) (Q : Post) : denF Go.Proofs.Tryz.prog 4 (⟨[], []⟩) I 84 [V.agg [Cell.str s0, Cell.int IntKind.i64 n1, Cell.int IntKind.i64 n2, Cell.slice 1 l3], V.one (Cell.ptr (some (i4, i5)))] Q = vc84 I s0 n1 n2 l3 i4 i5 Q := by kernel_rfl
/-- handbill/offer.matches$1 -/
def vc85 (I : FuncId → List V → Post → T) (s0 : ByteArray) (i1 : Nat) (i2 : Nat) (Q : Post) : T :=
 fun h3 =>
 ∃ l4 : Sl, (h3.read i1 (i2 + 3) 1 = some [.slice 1 l4]) ∧
 I 86 [.one (.slice 1 l4), .one (.str s0)]
 (fun cs5 h6 =>
 ∃ b7 : Bool, (cs5 = [.one (.bool b7)]) ∧
 Q [.one (.bool b7)] h6) h3
theorem den85 (I : FuncId → List V → Post → T) (s0 : ByteArray) (i1 : Nat) (i2 : Nat) (Q : Post) : denF Go.Proofs.Tryz.prog 0 (⟨[], []⟩) I 85 [V.one (Cell.str s0), V.one (Cell.ptr (some (i1, i2)))] Q = vc85 I s0 i1 i2 Q := by kernel_rfl
/-- slices.Contains[[]string,string] -/
def vc86 (I : FuncId → List V → Post → T) (l0 : Sl) (s1 : ByteArray) (Q : Post) : T :=
 fun h2 =>
 I 101 [.one (.slice 1 l0), .one (.str s1)]
 (fun cs3 h4 =>
 ∃ n5 : Int, (cs3 = [.one (.int .i64 n5)]) ∧
 Q [.one (.bool (decide (n5 ≥ 0)))] h4) h2
theorem den86 (I : FuncId → List V → Post → T) (l0 : Sl) (s1 : ByteArray) (Q : Post) : denF Go.Proofs.Tryz.prog 0 (⟨[], []⟩) I 86 [V.one (Cell.slice 1 l0), V.one (Cell.str s1)] Q = vc86 I l0 s1 Q := by kernel_rfl
/-- slices.Clone[[]handbill/api.Offer,handbill/api.Offer] -/
def vc87 (I : FuncId → List V → Post → T) (l0 : Sl) (Q : Post) : T :=
 ifT l0.a.isNone
 (Q [.one (.slice 12 { a := none, len := 0 })])
 (fun h1 =>
 ∃ cs2 : List Cell, (h1.sl 12 l0 = some cs2) ∧
 (l0.len * 128 ≤ 140737488355328) ∧
 (newK (.cells false cs2) (fun i3 h4 =>
 Q [.one (.slice 12 { a := some (i3, 0), len := l0.len })] h4)) h1)
theorem den87 (I : FuncId → List V → Post → T) (l0 : Sl) (Q : Post) : denF Go.Proofs.Tryz.prog 0 (⟨[], []⟩) I 87 [V.one (Cell.slice 12 l0)] Q = vc87 I l0 Q := by kernel_rfl
/-- slices.SortFunc[[]handbill/api.Offer,handbill/api.Offer] -/
def vc88 (I : FuncId → List V → Post → T) (l0 : Sl) (p1 : Option (Nat × List (Nat × Nat))) (Q : Post) : T :=
 fun h2 =>
 I 103 [.one (.int .u64 (IntKind.u64.wrap (↑l0.len : Int)))]
 (fun cs3 h4 =>
 ∃ n5 : Int, (cs3 = [.one (.int .i64 n5)]) ∧
 I 102 [.one (.slice 12 l0), .one (.int .i64 0), .one (.int .i64 (↑l0.len : Int)), .one (.int .i64 n5), .one (.func p1)]
 (fun cs6 h7 =>
 (cs6 = []) ∧
 Q [] h7) h4) h2
theorem den88 (I : FuncId → List V → Post → T) (l0 : Sl) (p1 : Option (Nat × List (Nat × Nat))) (Q : Post) : denF Go.Proofs.Tryz.prog 0 (⟨[], []⟩) I 88 [V.one (Cell.slice 12 l0), V.one (Cell.func p1)] Q = vc88 I l0 p1 Q := by kernel_rfl
/-- handbill/offer.ordered$1 -/
def vc89 (I : FuncId → List V → Post → T) (s0 : ByteArray) (n1 : Int) (n2 : Int) (n3 : Int) (l4 : Sl) (n5 : Int) (n6 : Int) (s7 : ByteArray) (b8 : Bool) (n9 : Int) (n10 : Int) (n11 : Int) (s12 : ByteArray) (n13 : Int) (n14 : Int) (n15 : Int) (l16 : Sl) (n17 : Int) (n18 : Int) (s19 : ByteArray) (b20 : Bool) (n21 : Int) (n22 : Int) (n23 : Int) (Q : Post) : T :=
 fun h24 =>
 I 91 [.one (.int .i64 n9), .one (.int .i64 n21)]
 (fun cs25 h26 =>
 ∃ n27 : Int, (cs25 = [.one (.int .i64 n27)]) ∧
 I 54 [.one (.str s0), .one (.str s12)]
 (fun cs28 h29 =>
 ∃ n30 : Int, (cs28 = [.one (.int .i64 n30)]) ∧
 (newK (.cells false [.int .i64 n27, .int .i64 n30]) (fun i31 h32 =>
 I 90 [.one (.slice 1 { a := some (i31, 0), len := 2 })]
 (fun cs33 h34 =>
 ∃ n35 : Int, (cs33 = [.one (.int .i64 n35)]) ∧
 Q [.one (.int .i64 n35)] h34) h32)) h29) h26) h24
theorem den89 (I : FuncId → List V → Post → T) (s0 : ByteArray) (n1 : Int) (n2 : Int) (n3 : Int) (l4 : Sl) (n5 : Int) (n6 : Int) (s7 : ByteArray) (b8 : Bool) (n9 : Int) (n10 : Int) (n11 : Int) (s12 : ByteArray) (n13 : Int) (n14 : Int) (n15 : Int) (l16 : Sl) (n17 : Int) (n18 : Int) (s19 : ByteArray) (b20 : Bool) (n21 : Int) (n22 : Int) (n23 : Int) (Q : Post) : denF Go.Proofs.Tryz.prog 12 (⟨[], []⟩) I 89 [V.agg [Cell.str s0, Cell.int IntKind.i64 n1, Cell.int IntKind.i64 n2, Cell.int IntKind.i64 n3, Cell.slice 1 l4, Cell.int IntKind.i64 n5, Cell.int IntKind.i64 n6, Cell.str s7, Cell.bool b8, Cell.int IntKind.i64 n9, Cell.int IntKind.i64 n10, Cell.int IntKind.i64 n11], V.agg [Cell.str s12, Cell.int IntKind.i64 n13, Cell.int IntKind.i64 n14, Cell.int IntKind.i64 n15, Cell.slice 1 l16, Cell.int IntKind.i64 n17, Cell.int IntKind.i64 n18, Cell.str s19, Cell.bool b20, Cell.int IntKind.i64 n21, Cell.int IntKind.i64 n22, Cell.int IntKind.i64 n23]] Q = vc89 I s0 n1 n2 n3 l4 n5 n6 s7 b8 n9 n10 n11 s12 n13 n14 n15 l16 n17 n18 s19 b20 n21 n22 n23 Q := by kernel_rfl
/-- cmp.Or[int] -/
def vc90 (I : FuncId → List V → Post → T) (l0 : Sl) (Q : Post) : T :=
 loopK (A := Int) 0
 (fun x1 n2 => ifT (decide (n2 < (↑l0.len : Int)))
 (fun h3 =>
 ((0 ≤ n2) ∧
 n2 < (↑l0.len : Int)) ∧
 (derefK l0.a (fun i4 => fun i5 h6 =>
 ∃ n7 : Int, (h6.read i4 (i5 + n2.toNat * 1) 1 = some [.int .i64 n7]) ∧
 (ifT (!decide (n7 = 0))
 (Q [.one (.int .i64 n7)])
 (x1 (IntKind.i64.wrap (n2 + 1)))) h6)) h3)
 (Q [.one (.int .i64 0)]))
theorem den90 (I : FuncId → List V → Post → T) (l0 : Sl) (Q : Post) : denF Go.Proofs.Tryz.prog 0 (⟨[], [(58, 130852, [(8, tk Go.Proofs.Tryz.prog 3)])]⟩) I 90 [V.one (Cell.slice 1 l0)] Q = vc90 I l0 Q := by kernel_rfl
/-- cmp.Compare[int] -/
def vc91 (I : FuncId → List V → Post → T) (n0 : Int) (n1 : Int) (Q : Post) : T :=
 fun h2 =>
 I 104 [.one (.int .i64 n0)]
 (fun cs3 h4 =>
 ∃ b5 : Bool, (cs3 = [.one (.bool b5)]) ∧
 I 104 [.one (.int .i64 n1)]
 (fun cs6 h7 =>
 ∃ b8 : Bool, (cs6 = [.one (.bool b8)]) ∧
 (ifT b5
 (ifT b8
 (Q [.one (.int .i64 0)])
 (Q [.one (.int .i64 (-1))]))
 (ifT b8
 (Q [.one (.int .i64 1)])
 (ifT (decide (n0 < n1))
 (Q [.one (.int .i64 (-1))])
 (ifT (decide (n0 > n1))
 (Q [.one (.int .i64 1)])
 (Q [.one (.int .i64 0)]))))) h7) h4) h2
theorem den91 (I : FuncId → List V → Post → T) (n0 : Int) (n1 : Int) (Q : Post) : denF Go.Proofs.Tryz.prog 0 (⟨[], []⟩) I 91 [V.one (Cell.int IntKind.i64 n0), V.one (Cell.int IntKind.i64 n1)] Q = vc91 I n0 n1 Q := by kernel_rfl
/-- (*handbill/offer.pricer).percents -/
def vc92 (I : FuncId → List V → Post → T) (p0 : Option (Nat × Nat)) (s1 : ByteArray) (n2 : Int) (n3 : Int) (n4 : Int) (l5 : Sl) (n6 : Int) (n7 : Int) (s8 : ByteArray) (b9 : Bool) (n10 : Int) (n11 : Int) (n12 : Int) (Q : Post) : T :=
 derefK p0 (fun i13 => fun i14 h15 =>
 ∃ l16 : Sl, (h15.read i13 (i14 + 2) 1 = some [.slice 1 l16]) ∧
 (true = true) ∧
 (0 ≤ (↑l16.len : Int)) ∧
 ((↑l16.len : Int) ≤ (↑l16.len : Int)) ∧
 ((↑l16.len : Int) * (↑8 : Int) ≤ 140737488355328) ∧
 (newK (.cells false (slCells (VK.one (Kd.int IntKind.i64)) (↑l16.len : Int).toNat)) (fun i17 => derefK p0 (fun i18 => fun i19 h20 =>
 ∃ l21 : Sl, (h20.read i18 (i19 + 2) 1 = some [.slice 1 l21]) ∧
 (loopK (A := Int) 0
 (fun x22 n23 => ifT (decide (n23 < (↑l21.len : Int)))
 (fun h24 =>
 ((0 ≤ n23) ∧
 n23 < (↑l21.len : Int)) ∧
 (derefK l21.a (fun i25 => fun i26 h27 =>
 ∃ n28 : Int, (h27.read i25 (i26 + n23.toNat * 1) 1 = some [.int .i64 n28]) ∧
 (derefK p0 (fun i29 => fun i30 h31 =>
 ∃ l32 : Sl, (h31.read i29 (i30 + 0 + 0) 1 = some [.slice 4 l32]) ∧
 ((0 ≤ n23) ∧
 n23 < (↑l32.len : Int)) ∧
 (derefK l32.a (fun i33 => fun i34 h35 =>
 ∃ s36 : ByteArray, ∃ n37 : Int, ∃ n38 : Int, ∃ l39 : Sl, (h35.read i33 (i34 + n23.toNat * 4) 4 = some [.str s36, .int .i64 n37, .int .i64 n38, .slice 1 l39]) ∧
 I 59 [.agg [.str s1, .int .i64 n2, .int .i64 n3, .int .i64 n4, .slice 1 l5, .int .i64 n6, .int .i64 n7, .str s8, .bool b9, .int .i64 n10, .int .i64 n11, .int .i64 n12], .agg [.str s36, .int .i64 n37, .int .i64 n38, .slice 1 l39]]
 (fun cs40 h41 =>
 ∃ b42 : Bool, (cs40 = [.one (.bool b42)]) ∧
 (ifT b42
 (fun h43 =>
 ((0 ≤ n23) ∧
 n23 < (↑(↑l16.len : Int).toNat : Int)) ∧
 (storeK [] i17 (0 + n23.toNat * 1) [.int .i64 (IntKind.i64.wrap ((IntKind.i64.wrap (n28 * n3)).tdiv 100))] (x22 (IntKind.i64.wrap (n23 + 1)))) h43)
 (x22 (IntKind.i64.wrap (n23 + 1)))) h41) h35)) h31)) h27)) h24)
 (fun h44 =>
 I 105 [.one (.slice 1 { a := some (i17, 0), len := (↑l16.len : Int).toNat }), .one (.int .i64 n7)]
 (fun cs45 h46 =>
 ∃ l47 : Sl, (cs45 = [.one (.slice 1 l47)]) ∧
 Q [.one (.slice 1 l47)] h46) h44))) h20))) h15)
theorem den92 (I : FuncId → List V → Post → T) (p0 : Option (Nat × Nat)) (s1 : ByteArray) (n2 : Int) (n3 : Int) (n4 : Int) (l5 : Sl) (n6 : Int) (n7 : Int) (s8 : ByteArray) (b9 : Bool) (n10 : Int) (n11 : Int) (n12 : Int) (Q : Post) : denF Go.Proofs.Tryz.prog 8 (⟨[], [(58, 8796092498112, [(19, tk Go.Proofs.Tryz.prog 3)])]⟩) I 92 [V.one (Cell.ptr p0), V.agg [Cell.str s1, Cell.int IntKind.i64 n2, Cell.int IntKind.i64 n3, Cell.int IntKind.i64 n4, Cell.slice 1 l5, Cell.int IntKind.i64 n6, Cell.int IntKind.i64 n7, Cell.str s8, Cell.bool b9, Cell.int IntKind.i64 n10, Cell.int IntKind.i64 n11, Cell.int IntKind.i64 n12]] Q = vc92 I p0 s1 n2 n3 n4 l5 n6 n7 s8 b9 n10 n11 n12 Q := by kernel_rfl
/-- (*handbill/offer.pricer).amount -/
def vc93 (I : FuncId → List V → Post → T) (p0 : Option (Nat × Nat)) (s1 : ByteArray) (n2 : Int) (n3 : Int) (n4 : Int) (l5 : Sl) (n6 : Int) (n7 : Int) (s8 : ByteArray) (b9 : Bool) (n10 : Int) (n11 : Int) (n12 : Int) (Q : Post) : T :=
 derefK p0 (fun i13 => fun i14 h15 =>
 ∃ l16 : Sl, (h15.read i13 (i14 + 2) 1 = some [.slice 1 l16]) ∧
 (true = true) ∧
 (0 ≤ (↑l16.len : Int)) ∧
 ((↑l16.len : Int) ≤ (↑l16.len : Int)) ∧
 ((↑l16.len : Int) * (↑8 : Int) ≤ 140737488355328) ∧
 (newK (.cells false (slCells (VK.one (Kd.int IntKind.i64)) (↑l16.len : Int).toNat)) (fun i17 => derefK p0 (fun i18 => fun i19 h20 =>
 ∃ l21 : Sl, (h20.read i18 (i19 + 2) 1 = some [.slice 1 l21]) ∧
 (loopK (A := Int × Int) ((0, 0))
 (fun x22 => uncur fun n23 n24 => ifT (decide (n24 < (↑l21.len : Int)))
 (fun h25 =>
 ((0 ≤ n24) ∧
 n24 < (↑l21.len : Int)) ∧
 (derefK l21.a (fun i26 => fun i27 h28 =>
 ∃ n29 : Int, (h28.read i26 (i27 + n24.toNat * 1) 1 = some [.int .i64 n29]) ∧
 (derefK p0 (fun i30 => fun i31 h32 =>
 ∃ l33 : Sl, (h32.read i30 (i31 + 0 + 0) 1 = some [.slice 4 l33]) ∧
 ((0 ≤ n24) ∧
 n24 < (↑l33.len : Int)) ∧
 (derefK l33.a (fun i34 => fun i35 h36 =>
 ∃ s37 : ByteArray, ∃ n38 : Int, ∃ n39 : Int, ∃ l40 : Sl, (h36.read i34 (i35 + n24.toNat * 4) 4 = some [.str s37, .int .i64 n38, .int .i64 n39, .slice 1 l40]) ∧
 I 59 [.agg [.str s1, .int .i64 n2, .int .i64 n3, .int .i64 n4, .slice 1 l5, .int .i64 n6, .int .i64 n7, .str s8, .bool b9, .int .i64 n10, .int .i64 n11, .int .i64 n12], .agg [.str s37, .int .i64 n38, .int .i64 n39, .slice 1 l40]]
 (fun cs41 h42 =>
 ∃ b43 : Bool, (cs41 = [.one (.bool b43)]) ∧
 (ifT b43
 (fun h44 =>
 ((0 ≤ n24) ∧
 n24 < (↑(↑l16.len : Int).toNat : Int)) ∧
 (storeK [] i17 (0 + n24.toNat * 1) [.int .i64 n29] (x22 ((IntKind.i64.wrap (n23 + n29), IntKind.i64.wrap (n24 + 1))))) h44)
 (x22 ((n23, IntKind.i64.wrap (n24 + 1))))) h42) h36)) h32)) h28)) h25)
 (ifT (!decide (n7 = 0))
 (ifT (decide (n23 = 0))
 (Q [.one (.slice 1 { a := some (i17, 0), len := (↑l16.len : Int).toNat })])
 (fun h45 =>
 I 106 [.one (.int .i64 (min (min n3 n23) n7)), .one (.slice 1 { a := some (i17, 0), len := (↑l16.len : Int).toNat })]
 (fun cs46 h47 =>
 ∃ l48 : Sl, (cs46 = [.one (.slice 1 l48)]) ∧
 Q [.one (.slice 1 l48)] h47) h45))
 (ifT (decide (n23 = 0))
 (Q [.one (.slice 1 { a := some (i17, 0), len := (↑l16.len : Int).toNat })])
 (fun h49 =>
 I 106 [.one (.int .i64 (min n3 n23)), .one (.slice 1 { a := some (i17, 0), len := (↑l16.len : Int).toNat })]
 (fun cs50 h51 =>
 ∃ l52 : Sl, (cs50 = [.one (.slice 1 l52)]) ∧
 Q [.one (.slice 1 l52)] h51) h49))))) h20))) h15)
theorem den93 (I : FuncId → List V → Post → T) (p0 : Option (Nat × Nat)) (s1 : ByteArray) (n2 : Int) (n3 : Int) (n4 : Int) (l5 : Sl) (n6 : Int) (n7 : Int) (s8 : ByteArray) (b9 : Bool) (n10 : Int) (n11 : Int) (n12 : Int) (Q : Post) : denF Go.Proofs.Tryz.prog 8 (⟨[], [(58, 17592183947712, [(6, tk Go.Proofs.Tryz.prog 3), (21, tk Go.Proofs.Tryz.prog 3)])]⟩) I 93 [V.one (Cell.ptr p0), V.agg [Cell.str s1, Cell.int IntKind.i64 n2, Cell.int IntKind.i64 n3, Cell.int IntKind.i64 n4, Cell.slice 1 l5, Cell.int IntKind.i64 n6, Cell.int IntKind.i64 n7, Cell.str s8, Cell.bool b9, Cell.int IntKind.i64 n10, Cell.int IntKind.i64 n11, Cell.int IntKind.i64 n12]] Q = vc93 I p0 s1 n2 n3 n4 l5 n6 n7 s8 b9 n10 n11 n12 Q := by kernel_rfl
/-- (*handbill/offer.pricer).free -/
def vc94 (I : FuncId → List V → Post → T) (p0 : Option (Nat × Nat)) (s1 : ByteArray) (n2 : Int) (n3 : Int) (n4 : Int) (l5 : Sl) (n6 : Int) (n7 : Int) (s8 : ByteArray) (b9 : Bool) (n10 : Int) (n11 : Int) (n12 : Int) (Q : Post) : T :=
 derefK p0 (fun i13 => fun i14 h15 =>
 ∃ l16 : Sl, (h15.read i13 (i14 + 0 + 0) 1 = some [.slice 4 l16]) ∧
 (loopK (A := Sl × Int) (({ a := none, len := 0 }, 0))
 (fun x17 => uncur fun l18 n19 => ifT (decide (n19 < (↑l16.len : Int)))
 (fun h20 =>
 ((0 ≤ n19) ∧
 n19 < (↑l16.len : Int)) ∧
 (derefK l16.a (fun i21 => fun i22 h23 =>
 ∃ s24 : ByteArray, ∃ n25 : Int, ∃ n26 : Int, ∃ l27 : Sl, (h23.read i21 (i22 + n19.toNat * 4) 4 = some [.str s24, .int .i64 n25, .int .i64 n26, .slice 1 l27]) ∧
 I 59 [.agg [.str s1, .int .i64 n2, .int .i64 n3, .int .i64 n4, .slice 1 l5, .int .i64 n6, .int .i64 n7, .str s8, .bool b9, .int .i64 n10, .int .i64 n11, .int .i64 n12], .agg [.str s24, .int .i64 n25, .int .i64 n26, .slice 1 l27]]
 (fun cs28 h29 =>
 ∃ b30 : Bool, (cs28 = [.one (.bool b30)]) ∧
 (ifT b30
 (derefK p0 (fun i31 => fun i32 h33 =>
 ∃ l34 : Sl, (h33.read i31 (i32 + 2) 1 = some [.slice 1 l34]) ∧
 ((0 ≤ n19) ∧
 n19 < (↑l34.len : Int)) ∧
 (derefK l34.a (fun i35 => fun i36 h37 =>
 ∃ n38 : Int, (h37.read i35 (i36 + n19.toNat * 1) 1 = some [.int .i64 n38]) ∧
 (n26 ≠ 0) ∧
 (newK (.cells false [.int .i64 n19, .int .i64 (IntKind.i64.wrap (n38.tdiv n26))]) (fun i39 h40 =>
 I 107 [.one (.slice 2 { a := some (i39, 0), len := 1 }), .one (.int .i64 n26)]
 (fun cs41 h42 =>
 ∃ l43 : Sl, (cs41 = [.one (.slice 2 l43)]) ∧
 ∃ cs44 : List Cell, (h42.sl 2 l43 = some cs44) ∧
 (appendTo [] 2 16 l18 l43.len cs44 (fun l45 h46 =>
 x17 ((l45, IntKind.i64.wrap (n19 + 1))) h46)) h42) h40)) h37)) h33))
 (x17 ((l18, IntKind.i64.wrap (n19 + 1))))) h29) h23)) h20)
 (fun h47 =>
 I 108 [.one (.slice 2 l18), .one (.func (some (109, [])))]
 (fun cs48 h49 =>
 (cs48 = []) ∧
 (derefK p0 (fun i50 => fun i51 h52 =>
 ∃ l53 : Sl, (h52.read i50 (i51 + 2) 1 = some [.slice 1 l53]) ∧
 (true = true) ∧
 (0 ≤ (↑l53.len : Int)) ∧
 ((↑l53.len : Int) ≤ (↑l53.len : Int)) ∧
 ((↑l53.len : Int) * (↑8 : Int) ≤ 140737488355328) ∧
 (newK (.cells false (slCells (VK.one (Kd.int IntKind.i64)) (↑l53.len : Int).toNat)) (fun i54 => loopK (A := Sl) l18
 (fun x55 l56 => ifT (decide ((↑l56.len : Int) ≥ IntKind.i64.wrap (n3 + n4)))
 (fun h57 =>
 ((0 ≤ n3) ∧
 (n3 ≤ IntKind.i64.wrap (n3 + n4)) ∧
 IntKind.i64.wrap (n3 + n4) ≤ (↑l56.len : Int)) ∧
 (loopK (A := Int) 0
 (fun x58 n59 => ifT (decide (n59 < (↑(l56.sub 2 n3.toNat (IntKind.i64.wrap (n3 + n4)).toNat).len : Int)))
 (fun h60 =>
 ((0 ≤ n59) ∧
 n59 < (↑(l56.sub 2 n3.toNat (IntKind.i64.wrap (n3 + n4)).toNat).len : Int)) ∧
 (derefK ((l56.sub 2 n3.toNat (IntKind.i64.wrap (n3 + n4)).toNat).a) (fun i61 => fun i62 h63 =>
 ∃ n64 : Int, ∃ n65 : Int, (h63.read i61 (i62 + n59.toNat * 2) 2 = some [.int .i64 n64, .int .i64 n65]) ∧
 ((0 ≤ n64) ∧
 n64 < (↑(↑l53.len : Int).toNat : Int)) ∧
 ∃ n66 : Int, (h63.read i54 (0 + n64.toNat * 1) 1 = some [.int .i64 n66]) ∧
 ((0 ≤ n64) ∧
 n64 < (↑(↑l53.len : Int).toNat : Int)) ∧
 (storeK [] i54 (0 + n64.toNat * 1) [.int .i64 (IntKind.i64.wrap (n66 + n65))] (x58 (IntKind.i64.wrap (n59 + 1)))) h63)) h60)
 (fun h67 =>
 ((0 ≤ IntKind.i64.wrap (n3 + n4)) ∧
 (IntKind.i64.wrap (n3 + n4) ≤ (↑l56.len : Int)) ∧
 (↑l56.len : Int) ≤ (↑l56.len : Int)) ∧
 x55 (l56.sub 2 (IntKind.i64.wrap (n3 + n4)).toNat (↑l56.len : Int).toNat) h67))) h57)
 (fun h68 =>
 I 105 [.one (.slice 1 { a := some (i54, 0), len := (↑l53.len : Int).toNat }), .one (.int .i64 n7)]
 (fun cs69 h70 =>
 ∃ l71 : Sl, (cs69 = [.one (.slice 1 l71)]) ∧
 Q [.one (.slice 1 l71)] h70) h68)))) h52)) h49) h47))) h15)
theorem den94 (I : FuncId → List V → Post → T) (p0 : Option (Nat × Nat)) (s1 : ByteArray) (n2 : Int) (n3 : Int) (n4 : Int) (l5 : Sl) (n6 : Int) (n7 : Int) (s8 : ByteArray) (b9 : Bool) (n10 : Int) (n11 : Int) (n12 : Int) (Q : Post) : denF Go.Proofs.Tryz.prog 1160 (⟨[], [(58, 17592185913568, [(5, tk Go.Proofs.Tryz.prog 155), (17, tk Go.Proofs.Tryz.prog 3)]), (252, 2475880078566256950170879008, [(5, tk Go.Proofs.Tryz.prog 155)]), (16146, 2475728962843308721151411200, [(77, tk Go.Proofs.Tryz.prog 3)])]⟩) I 94 [V.one (Cell.ptr p0), V.agg [Cell.str s1, Cell.int IntKind.i64 n2, Cell.int IntKind.i64 n3, Cell.int IntKind.i64 n4, Cell.slice 1 l5, Cell.int IntKind.i64 n6, Cell.int IntKind.i64 n7, Cell.str s8, Cell.bool b9, Cell.int IntKind.i64 n10, Cell.int IntKind.i64 n11, Cell.int IntKind.i64 n12]] Q = vc94 I p0 s1 n2 n3 n4 l5 n6 n7 s8 b9 n10 n11 n12 Q := by kernel_rfl
/-- strings.IndexByte -/
def vc95 (I : FuncId → List V → Post → T) (s0 : ByteArray) (n1 : Int) (Q : Post) : T :=
 fun h2 =>
 I 110 [.one (.str s0), .one (.int .u8 n1)]
 (fun cs3 h4 =>
 ∃ n5 : Int, (cs3 = [.one (.int .i64 n5)]) ∧
 Q [.one (.int .i64 n5)] h4) h2
theorem den95 (I : FuncId → List V → Post → T) (s0 : ByteArray) (n1 : Int) (Q : Post) : denF Go.Proofs.Tryz.prog 0 (⟨[], []⟩) I 95 [V.one (Cell.str s0), V.one (Cell.int IntKind.u8 n1)] Q = vc95 I s0 n1 Q := by kernel_rfl
/-- handbill/offer.sum -/
def vc96 (I : FuncId → List V → Post → T) (s0 : ByteArray) (Q : Post) : T :=
 loopK (A := Int × Int) ((0, 0))
 (fun x1 => uncur fun n2 n3 => ifT (decide (n3 < (↑s0.size : Int)))
 (fun h4 =>
 ((0 ≤ n3) ∧
 n3 < (↑s0.size : Int)) ∧
 I 95 [.one (.str signS), .one (.int .u8 (byteAt s0 n3))]
 (fun cs5 h6 =>
 ∃ n7 : Int, (cs5 = [.one (.int .i64 n7)]) ∧
 x1 ((IntKind.i64.wrap (n2 + IntKind.i64.wrap (IntKind.i64.wrap (n3 + 1) * n7)), IntKind.i64.wrap (n3 + 1))) h6) h4)
 (Q [.one (.int .i64 (n2.tmod 31))]))
theorem den96 (I : FuncId → List V → Post → T) (s0 : ByteArray) (Q : Post) : denF Go.Proofs.Tryz.prog 0 (⟨[], [(58, 1048472, [(3, tk Go.Proofs.Tryz.prog 3), (7, tk Go.Proofs.Tryz.prog 3)])]⟩) I 96 [V.one (Cell.str s0)] Q = vc96 I s0 Q := by kernel_rfl
/-- handbill/measure.divisor -/
def vc97 (I : FuncId → List V → Post → T) (n0 : Int) (n1 : Int) (Q : Post) : T :=
 loopK (A := Int × Int) ((n0, n1))
 (fun x2 => uncur fun n3 n4 => ifT (!decide (n4 = 0))
 (fun h5 =>
 (n4 ≠ 0) ∧
 x2 ((n4, n3.tmod n4)) h5)
 (Q [.one (.int .u64 n3)]))
theorem den97 (I : FuncId → List V → Post → T) (n0 : Int) (n1 : Int) (Q : Post) : denF Go.Proofs.Tryz.prog 0 (⟨[], [(12, 2019, [(0, tk Go.Proofs.Tryz.prog 145), (1, tk Go.Proofs.Tryz.prog 145)])]⟩) I 97 [V.one (Cell.int IntKind.u64 n0), V.one (Cell.int IntKind.u64 n1)] Q = vc97 I n0 n1 Q := by kernel_rfl
/-- handbill/measure.size -/
def vc98 (I : FuncId → List V → Post → T) (n0 : Int) (Q : Post) : T :=
 ifT (decide (n0 < 0))
 (Q [.one (.int .u64 (IntKind.u64.wrap (0 - IntKind.u64.wrap n0)))])
 (Q [.one (.int .u64 (IntKind.u64.wrap n0))])
theorem den98 (I : FuncId → List V → Post → T) (n0 : Int) (Q : Post) : denF Go.Proofs.Tryz.prog 0 (⟨[], []⟩) I 98 [V.one (Cell.int IntKind.i64 n0)] Q = vc98 I n0 Q := by kernel_rfl
/-- slices.IndexFunc[[]handbill/api.Item,handbill/api.Item] -/
def vc100 (I : FuncId → List V → Post → T) (l0 : Sl) (p1 : Option (Nat × List (Nat × Nat))) (Q : Post) : T :=
 loopK (A := Int) 0
 (fun x2 n3 => ifT (decide (n3 < (↑l0.len : Int)))
 (fun h4 =>
 ((0 ≤ n3) ∧
 n3 < (↑l0.len : Int)) ∧
 (derefK l0.a (fun i5 => fun i6 h7 =>
 ∃ s8 : ByteArray, ∃ n9 : Int, ∃ n10 : Int, ∃ l11 : Sl, (h7.read i5 (i6 + n3.toNat * 4) 4 = some [.str s8, .int .i64 n9, .int .i64 n10, .slice 1 l11]) ∧
 (funK p1 (fun i12 => fun cs13 h14 =>
 I i12 (.agg [.str s8, .int .i64 n9, .int .i64 n10, .slice 1 l11] :: cs13)
 (fun cs15 h16 =>
 ∃ b17 : Bool, (cs15 = [.one (.bool b17)]) ∧
 (ifT b17
 (Q [.one (.int .i64 n3)])
 (x2 (IntKind.i64.wrap (n3 + 1)))) h16) h14)) h7)) h4)
 (Q [.one (.int .i64 (-1))]))
theorem den100 (I : FuncId → List V → Post → T) (l0 : Sl) (p1 : Option (Nat × List (Nat × Nat))) (Q : Post) : denF Go.Proofs.Tryz.prog 0 (⟨[], [(26, 524080, [(8, tk Go.Proofs.Tryz.prog 3)])]⟩) I 100 [V.one (Cell.slice 4 l0), V.one (Cell.func p1)] Q = vc100 I l0 p1 Q := by kernel_rfl
/-- slices.Index[[]string,string] -/
def vc101 (I : FuncId → List V → Post → T) (l0 : Sl) (s1 : ByteArray) (Q : Post) : T :=
 loopK (A := Int) 0
 (fun x2 n3 => ifT (decide (n3 < (↑l0.len : Int)))
 (fun h4 =>
 ((0 ≤ n3) ∧
 n3 < (↑l0.len : Int)) ∧
 (derefK l0.a (fun i5 => fun i6 h7 =>
 ∃ s8 : ByteArray, (h7.read i5 (i6 + n3.toNat * 1) 1 = some [.str s8]) ∧
 (ifT (decide (s1 = s8))
 (Q [.one (.int .i64 n3)])
 (x2 (IntKind.i64.wrap (n3 + 1)))) h7)) h4)
 (Q [.one (.int .i64 (-1))]))
theorem den101 (I : FuncId → List V → Post → T) (l0 : Sl) (s1 : ByteArray) (Q : Post) : denF Go.Proofs.Tryz.prog 0 (⟨[], [(26, 524080, [(8, tk Go.Proofs.Tryz.prog 3)])]⟩) I 101 [V.one (Cell.slice 1 l0), V.one (Cell.str s1)] Q = vc101 I l0 s1 Q := by kernel_rfl
/-- slices.pdqsortCmpFunc[handbill/api.Offer] -/
def vc102 (I : FuncId → List V → Post → T) (l0 : Sl) (n1 : Int) (n2 : Int) (n3 : Int) (p4 : Option (Nat × List (Nat × Nat))) (Q : Post) : T :=
 loopK (A := Int × Int × Int × Bool × Bool) ((n1, n2, n3, true, true))
 (fun x5 => uncur fun n6 => uncur fun n7 => uncur fun n8 => uncur fun b9 b10 => ifT (decide (IntKind.i64.wrap (n7 - n6) ≤ 12))
 (fun h11 =>
 I 112 [.one (.slice 12 l0), .one (.int .i64 n6), .one (.int .i64 n7), .one (.func p4)]
 (fun cs12 h13 =>
 (cs12 = []) ∧
 Q [] h13) h11)
 (ifT (decide (n8 = 0))
 (fun h14 =>
 I 113 [.one (.slice 12 l0), .one (.int .i64 n6), .one (.int .i64 n7), .one (.func p4)]
 (fun cs15 h16 =>
 (cs15 = []) ∧
 Q [] h16) h14)
 (joinK (A := Int)
 (fun n17 h18 =>
 I 115 [.one (.slice 12 l0), .one (.int .i64 n6), .one (.int .i64 n7), .one (.func p4)]
 (fun cs19 h20 =>
 ∃ n21 : Int, ∃ n22 : Int, (cs19 = [.one (.int .i64 n21), .one (.int .i64 n22)]) ∧
 (joinK (A := Int × Int)
 (uncur fun n23 n24 => joinK (A := Bool)
 (fun b25 => joinK (A := PUnit)
 (fun x26 => joinK (A := Bool)
 (fun b27 => ifT b27
 (fun h28 =>
 I 118 [.one (.slice 12 l0), .one (.int .i64 n6), .one (.int .i64 n7), .one (.int .i64 n23), .one (.func p4)]
 (fun cs29 h30 =>
 ∃ n31 : Int, (cs29 = [.one (.int .i64 n31)]) ∧
 x5 ((n31, n7, n17, b9, b10)) h30) h28)
 (fun h32 =>
 I 119 [.one (.slice 12 l0), .one (.int .i64 n6), .one (.int .i64 n7), .one (.int .i64 n23), .one (.func p4)]
 (fun cs33 h34 =>
 ∃ n35 : Int, ∃ b36 : Bool, (cs33 = [.one (.int .i64 n35), .one (.bool b36)]) ∧
 (ifT (decide (IntKind.i64.wrap (n35 - n6) < IntKind.i64.wrap (n7 - n35)))
 (fun h37 =>
 I 102 [.one (.slice 12 l0), .one (.int .i64 n6), .one (.int .i64 n35), .one (.int .i64 n17), .one (.func p4)]
 (fun cs38 h39 =>
 (cs38 = []) ∧
 x5 ((IntKind.i64.wrap (n35 + 1), n7, n17, decide (IntKind.i64.wrap (n35 - n6) ≥ IntKind.i64.wrap ((IntKind.i64.wrap (n7 - n6)).tdiv 8)), b36)) h39) h37)
 (fun h40 =>
 I 102 [.one (.slice 12 l0), .one (.int .i64 (IntKind.i64.wrap (n35 + 1))), .one (.int .i64 n7), .one (.int .i64 n17), .one (.func p4)]
 (fun cs41 h42 =>
 (cs41 = []) ∧
 x5 ((n6, n35, n17, decide (IntKind.i64.wrap (n7 - n35) ≥ IntKind.i64.wrap ((IntKind.i64.wrap (n7 - n6)).tdiv 8)), b36)) h42) h40)) h34) h32))
 (fun x43 => ifT (decide (n6 > 0))
 (fun h44 =>
 ((0 ≤ IntKind.i64.wrap (n6 - 1)) ∧
 IntKind.i64.wrap (n6 - 1) < (↑l0.len : Int)) ∧
 (derefK l0.a (fun i45 => fun i46 h47 =>
 ∃ s48 : ByteArray, ∃ n49 : Int, ∃ n50 : Int, ∃ n51 : Int, ∃ l52 : Sl, ∃ n53 : Int, ∃ n54 : Int, ∃ s55 : ByteArray, ∃ b56 : Bool, ∃ n57 : Int, ∃ n58 : Int, ∃ n59 : Int, (h47.read i45 (i46 + (IntKind.i64.wrap (n6 - 1)).toNat * 12) 12 = some [.str s48, .int .i64 n49, .int .i64 n50, .int .i64 n51, .slice 1 l52, .int .i64 n53, .int .i64 n54, .str s55, .bool b56, .int .i64 n57, .int .i64 n58, .int .i64 n59]) ∧
 ((0 ≤ n23) ∧
 n23 < (↑l0.len : Int)) ∧
 (derefK l0.a (fun i60 => fun i61 h62 =>
 ∃ s63 : ByteArray, ∃ n64 : Int, ∃ n65 : Int, ∃ n66 : Int, ∃ l67 : Sl, ∃ n68 : Int, ∃ n69 : Int, ∃ s70 : ByteArray, ∃ b71 : Bool, ∃ n72 : Int, ∃ n73 : Int, ∃ n74 : Int, (h62.read i60 (i61 + n23.toNat * 12) 12 = some [.str s63, .int .i64 n64, .int .i64 n65, .int .i64 n66, .slice 1 l67, .int .i64 n68, .int .i64 n69, .str s70, .bool b71, .int .i64 n72, .int .i64 n73, .int .i64 n74]) ∧
 (funK p4 (fun i75 => fun cs76 h77 =>
 I i75 (.agg [.str s48, .int .i64 n49, .int .i64 n50, .int .i64 n51, .slice 1 l52, .int .i64 n53, .int .i64 n54, .str s55, .bool b56, .int .i64 n57, .int .i64 n58, .int .i64 n59] :: .agg [.str s63, .int .i64 n64, .int .i64 n65, .int .i64 n66, .slice 1 l67, .int .i64 n68, .int .i64 n69, .str s70, .bool b71, .int .i64 n72, .int .i64 n73, .int .i64 n74] :: cs76)
 (fun cs78 h79 =>
 ∃ n80 : Int, (cs78 = [.one (.int .i64 n80)]) ∧
 x43 (!decide (n80 < 0)) h79) h77)) h62)) h47)) h44)
 (x43 false)))
 (fun x81 => ifT b25
 (fun h82 =>
 I 117 [.one (.slice 12 l0), .one (.int .i64 n6), .one (.int .i64 n7), .one (.func p4)]
 (fun cs83 h84 =>
 ∃ b85 : Bool, (cs83 = [.one (.bool b85)]) ∧
 (ifT b85
 (Q [])
 (x81 ())) h84) h82)
 (x81 ())))
 (fun x86 => ifT b9
 (ifT b10
 (x86 (decide (n24 = 1)))
 (x86 false))
 (x86 false)))
 (fun x87 => ifT (decide (n22 = 2))
 (fun h88 =>
 I 116 [.one (.slice 12 l0), .one (.int .i64 n6), .one (.int .i64 n7), .one (.func p4)]
 (fun cs89 h90 =>
 (cs89 = []) ∧
 x87 ((IntKind.i64.wrap (IntKind.i64.wrap (n7 - 1) - IntKind.i64.wrap (n21 - n6)), 1)) h90) h88)
 (x87 ((n21, n22))))) h20) h18)
 (fun x91 => ifT (!b9)
 (fun h92 =>
 I 114 [.one (.slice 12 l0), .one (.int .i64 n6), .one (.int .i64 n7), .one (.func p4)]
 (fun cs93 h94 =>
 (cs93 = []) ∧
 x91 (IntKind.i64.wrap (n8 - 1)) h94) h92)
 (x91 n8)))))
theorem den102 (I : FuncId → List V → Post → T) (l0 : Sl) (n1 : Int) (n2 : Int) (n3 : Int) (p4 : Option (Nat × List (Nat × Nat))) (Q : Post) : denF Go.Proofs.Tryz.prog 0 (⟨[(1821, 139637976727560, [(3, tk Go.Proofs.Tryz.prog 3)]), (7293, 295003789991276994560, [(13, tk Go.Proofs.Tryz.prog 3), (14, tk Go.Proofs.Tryz.prog 162)]), (14588, 75262715820734970593280, [(75, tk Go.Proofs.Tryz.prog 4)]), (14589, 2342293775503344025993216, []), (29180, 316910232205418121115826388992, [(97, tk Go.Proofs.Tryz.prog 4)])], [(14, 356811923176489970264571492362373784095685646, [(1, tk Go.Proofs.Tryz.prog 3), (2, tk Go.Proofs.Tryz.prog 3), (3, tk Go.Proofs.Tryz.prog 3), (10, tk Go.Proofs.Tryz.prog 4), (11, tk Go.Proofs.Tryz.prog 4)])]⟩) I 102 [V.one (Cell.slice 12 l0), V.one (Cell.int IntKind.i64 n1), V.one (Cell.int IntKind.i64 n2), V.one (Cell.int IntKind.i64 n3), V.one (Cell.func p4)] Q = vc102 I l0 n1 n2 n3 p4 Q := by kernel_rfl
/-- math/bits.Len -/
def vc103 (I : FuncId → List V → Post → T) (n0 : Int) (Q : Post) : T :=
 fun h1 =>
 I 121 [.one (.int .u64 n0)]
 (fun cs2 h3 =>
 ∃ n4 : Int, (cs2 = [.one (.int .i64 n4)]) ∧
 Q [.one (.int .i64 n4)] h3) h1
theorem den103 (I : FuncId → List V → Post → T) (n0 : Int) (Q : Post) : denF Go.Proofs.Tryz.prog 0 (⟨[], []⟩) I 103 [V.one (Cell.int IntKind.u64 n0)] Q = vc103 I n0 Q := by kernel_rfl
/-- cmp.isNaN[int] -/
def vc104 (I : FuncId → List V → Post → T) (n0 : Int) (Q : Post) : T :=
 Q [.one (.bool (!decide (n0 = n0)))]
theorem den104 (I : FuncId → List V → Post → T) (n0 : Int) (Q : Post) : denF Go.Proofs.Tryz.prog 0 (⟨[], []⟩) I 104 [V.one (Cell.int IntKind.i64 n0)] Q = vc104 I n0 Q := by kernel_rfl
/-- handbill/offer.most -/
def vc105 (I : FuncId → List V → Post → T) (l0 : Sl) (n1 : Int) (Q : Post) : T :=
 loopK (A := Int × Int) ((0, 0))
 (fun x2 => uncur fun n3 n4 => ifT (decide (n4 < (↑l0.len : Int)))
 (fun h5 =>
 ((0 ≤ n4) ∧
 n4 < (↑l0.len : Int)) ∧
 (derefK l0.a (fun i6 => fun i7 h8 =>
 ∃ n9 : Int, (h8.read i6 (i7 + n4.toNat * 1) 1 = some [.int .i64 n9]) ∧
 x2 ((IntKind.i64.wrap (n3 + n9), IntKind.i64.wrap (n4 + 1))) h8)) h5)
 (ifT (decide (n1 = 0))
 (Q [.one (.slice 1 l0)])
 (ifT (decide (n3 ≤ n1))
 (Q [.one (.slice 1 l0)])
 (fun h10 =>
 I 106 [.one (.int .i64 n1), .one (.slice 1 l0)]
 (fun cs11 h12 =>
 ∃ l13 : Sl, (cs11 = [.one (.slice 1 l13)]) ∧
 Q [.one (.slice 1 l13)] h12) h10))))
theorem den105 (I : FuncId → List V → Post → T) (l0 : Sl) (n1 : Int) (Q : Post) : denF Go.Proofs.Tryz.prog 0 (⟨[], [(58, 261280, [(5, tk Go.Proofs.Tryz.prog 3), (10, tk Go.Proofs.Tryz.prog 3)])]⟩) I 105 [V.one (Cell.slice 1 l0), V.one (Cell.int IntKind.i64 n1)] Q = vc105 I l0 n1 Q := by kernel_rfl
/-- handbill/offer.share -/
def vc106 (I : FuncId → List V → Post → T) (n0 : Int) (l1 : Sl) (Q : Post) : T :=
 loopK (A := Int × Int) ((0, 0))
 (fun x2 => uncur fun n3 n4 => ifT (decide (n4 < (↑l1.len : Int)))
 (fun h5 =>
 ((0 ≤ n4) ∧
 n4 < (↑l1.len : Int)) ∧
 (derefK l1.a (fun i6 => fun i7 h8 =>
 ∃ n9 : Int, (h8.read i6 (i7 + n4.toNat * 1) 1 = some [.int .i64 n9]) ∧
 x2 ((IntKind.i64.wrap (n3 + n9), IntKind.i64.wrap (n4 + 1))) h8)) h5)
 (fun h10 =>
 (newK (.cells false [.slice 1 { a := none, len := 0 }]) (fun i11 => loopK (A := Int × Sl × Sl × Int) ((n0, { a := none, len := 0 }, { a := none, len := 0 }, 0))
 (fun x12 => uncur fun n13 => uncur fun l14 => uncur fun l15 n16 => ifT (decide (n16 < (↑l1.len : Int)))
 (fun h17 =>
 ((0 ≤ n16) ∧
 n16 < (↑l1.len : Int)) ∧
 (derefK l1.a (fun i18 => fun i19 h20 =>
 ∃ n21 : Int, (h20.read i18 (i19 + n16.toNat * 1) 1 = some [.int .i64 n21]) ∧
 I 122 [.one (.int .u64 (IntKind.u64.wrap n0)), .one (.int .u64 (IntKind.u64.wrap n21))]
 (fun cs22 h23 =>
 ∃ n24 : Int, ∃ n25 : Int, (cs22 = [.one (.int .u64 n24), .one (.int .u64 n25)]) ∧
 I 123 [.one (.int .u64 n24), .one (.int .u64 n25), .one (.int .u64 (IntKind.u64.wrap n3))]
 (fun cs26 h27 =>
 ∃ n28 : Int, ∃ n29 : Int, (cs26 = [.one (.int .u64 n28), .one (.int .u64 n29)]) ∧
 ∃ l30 : Sl, (h27.read i11 0 1 = some [.slice 1 l30]) ∧
 (appendTo [i11] 1 8 l14 1 [.int .i64 (IntKind.i64.wrap n28)] (fun l31 h32 =>
 (appendTo [i11] 1 8 l15 1 [.int .i64 n16] (fun l33 h34 =>
 (appendTo [] 1 8 l30 1 [.int .u64 n29] (fun l35 h36 =>
 (storeK [] i11 0 [.slice 1 l35] (x12 ((IntKind.i64.wrap (n13 - IntKind.i64.wrap n28), l31, l33, IntKind.i64.wrap (n16 + 1))))) h36)) h34)) h32)) h27) h23) h20)) h17)
 (fun h37 =>
 I 124 [.one (.slice 1 l15), .one (.func (some (125, [(i11, 0)])))]
 (fun cs38 h39 =>
 (cs38 = []) ∧
 (((0 : Int) ≤ (0 : Int)) ∧
 (0 ≤ n13) ∧
 n13 ≤ (↑l15.len : Int)) ∧
 (loopK (A := Int) 0
 (fun x40 n41 => ifT (decide (n41 < (↑(l15.sub 1 0 n13.toNat).len : Int)))
 (fun h42 =>
 ((0 ≤ n41) ∧
 n41 < (↑(l15.sub 1 0 n13.toNat).len : Int)) ∧
 (derefK ((l15.sub 1 0 n13.toNat).a) (fun i43 => fun i44 h45 =>
 ∃ n46 : Int, (h45.read i43 (i44 + n41.toNat * 1) 1 = some [.int .i64 n46]) ∧
 ((0 ≤ n46) ∧
 n46 < (↑l14.len : Int)) ∧
 (derefK l14.a (fun i47 => fun i48 h49 =>
 ∃ n50 : Int, (h49.read i47 (i48 + n46.toNat * 1) 1 = some [.int .i64 n50]) ∧
 ((0 ≤ n46) ∧
 n46 < (↑l14.len : Int)) ∧
 (derefK l14.a (fun i51 => fun i52 h53 =>
 (storeK [] i51 (i52 + n46.toNat * 1) [.int .i64 (IntKind.i64.wrap (n50 + 1))] (x40 (IntKind.i64.wrap (n41 + 1)))) h53)) h49)) h45)) h42)
 (Q [.one (.slice 1 l14)]))) h39) h37)))) h10))
theorem den106 (I : FuncId → List V → Post → T) (n0 : Int) (l1 : Sl) (Q : Post) : denF Go.Proofs.Tryz.prog 0 (⟨[], [(58, 2139095328, [(5, tk Go.Proofs.Tryz.prog 3), (23, tk Go.Proofs.Tryz.prog 3)]), (506, 4722366482861055538752, [(6, tk Go.Proofs.Tryz.prog 3), (9, tk Go.Proofs.Tryz.prog 22), (10, tk Go.Proofs.Tryz.prog 22), (33, tk Go.Proofs.Tryz.prog 3)]), (2042, 1237335576375572960312295424, [(79, tk Go.Proofs.Tryz.prog 3)])]⟩) I 106 [V.one (Cell.int IntKind.i64 n0), V.one (Cell.slice 1 l1)] Q = vc106 I n0 l1 Q := by kernel_rfl
/-- slices.Repeat[[]handbill/offer.piece,handbill/offer.piece] -/
def vc107 (I : FuncId → List V → Post → T) (l0 : Sl) (n1 : Int) (Q : Post) : T :=
 joinK (A := PUnit)
 (fun x2 h3 =>
 I 127 [.one (.int .u64 (IntKind.u64.wrap (↑l0.len : Int))), .one (.int .u64 (IntKind.u64.wrap n1))]
 (fun cs4 h5 =>
 ∃ n6 : Int, ∃ n7 : Int, (cs4 = [.one (.int .u64 n6), .one (.int .u64 n7)]) ∧
 (joinK (A := Bool)
 (fun b8 => joinK (A := PUnit)
 (fun x9 h10 =>
 (true = true) ∧
 (0 ≤ IntKind.i64.wrap n7) ∧
 (IntKind.i64.wrap n7 ≤ IntKind.i64.wrap n7) ∧
 (IntKind.i64.wrap n7 * (↑16 : Int) ≤ 140737488355328) ∧
 (newK (.cells false (slCells (VK.agg [Kd.int IntKind.i64, Kd.int IntKind.i64]) (IntKind.i64.wrap n7).toNat)) (fun i11 h12 =>
 ∃ cs13 : List Cell, (h12.sl 2 l0 = some cs13) ∧
 (storeK [] i11 0 (List.take (min l0.len (IntKind.i64.wrap n7).toNat * 2) cs13) (loopK (A := Int) ((↑(min l0.len (IntKind.i64.wrap n7).toNat) : Int))
 (fun x14 n15 => ifT (decide (n15 < (↑(IntKind.i64.wrap n7).toNat : Int)))
 (fun h16 =>
 ((0 ≤ n15) ∧
 (n15 ≤ (↑(IntKind.i64.wrap n7).toNat : Int)) ∧
 (↑(IntKind.i64.wrap n7).toNat : Int) ≤ (↑(IntKind.i64.wrap n7).toNat : Int)) ∧
 (((0 : Int) ≤ (0 : Int)) ∧
 (0 ≤ n15) ∧
 n15 ≤ (↑(IntKind.i64.wrap n7).toNat : Int)) ∧
 ∃ cs17 : List Cell, (h16.sl 2 (Sl.sub ⟨some (i11, 0), (IntKind.i64.wrap n7).toNat⟩ 2 0 n15.toNat) = some cs17) ∧
 (storeK [] i11 (0 + n15.toNat * 2) (List.take (min (n15.toNat - 0) ((IntKind.i64.wrap n7).toNat - n15.toNat) * 2) cs17) (x14 (IntKind.i64.wrap (n15 + (↑(min (n15.toNat - 0) ((IntKind.i64.wrap n7).toNat - n15.toNat)) : Int)))) h16))
 (Q [.one (.slice 2 { a := some (i11, 0), len := (IntKind.i64.wrap n7).toNat })])))) h12)) h10)
 (fun x18 => ifT b8
 (no)
 (x18 ())))
 (fun x19 => ifT (decide (n6 > 0))
 (x19 true)
 (x19 (decide (n7 > 9223372036854775807))))) h5) h3)
 (fun x20 => ifT (decide (n1 < 0))
 (no)
 (x20 ()))
theorem den107 (I : FuncId → List V → Post → T) (l0 : Sl) (n1 : Int) (Q : Post) : denF Go.Proofs.Tryz.prog 0 (⟨[(13, 2048, []), (60, 132120576, [(26, tk Go.Proofs.Tryz.prog 4)]), (61, 134217728, [])], [(508, 140720308486400, [(8, tk Go.Proofs.Tryz.prog 3)])]⟩) I 107 [V.one (Cell.slice 2 l0), V.one (Cell.int IntKind.i64 n1)] Q = vc107 I l0 n1 Q := by kernel_rfl
/-- slices.SortStableFunc[[]handbill/offer.piece,handbill/offer.piece] -/
def vc108 (I : FuncId → List V → Post → T) (l0 : Sl) (p1 : Option (Nat × List (Nat × Nat))) (Q : Post) : T :=
 fun h2 =>
 I 128 [.one (.slice 2 l0), .one (.int .i64 (↑l0.len : Int)), .one (.func p1)]
 (fun cs3 h4 =>
 (cs3 = []) ∧
 Q [] h4) h2
theorem den108 (I : FuncId → List V → Post → T) (l0 : Sl) (p1 : Option (Nat × List (Nat × Nat))) (Q : Post) : denF Go.Proofs.Tryz.prog 0 (⟨[], []⟩) I 108 [V.one (Cell.slice 2 l0), V.one (Cell.func p1)] Q = vc108 I l0 p1 Q := by kernel_rfl
/-- (*handbill/offer.pricer).free$1 -/
def vc109 (I : FuncId → List V → Post → T) (n0 : Int) (n1 : Int) (n2 : Int) (n3 : Int) (Q : Post) : T :=
 fun h4 =>
 I 91 [.one (.int .i64 n3), .one (.int .i64 n1)]
 (fun cs5 h6 =>
 ∃ n7 : Int, (cs5 = [.one (.int .i64 n7)]) ∧
 Q [.one (.int .i64 n7)] h6) h4
theorem den109 (I : FuncId → List V → Post → T) (n0 : Int) (n1 : Int) (n2 : Int) (n3 : Int) (Q : Post) : denF Go.Proofs.Tryz.prog 12 (⟨[], []⟩) I 109 [V.agg [Cell.int IntKind.i64 n0, Cell.int IntKind.i64 n1], V.agg [Cell.int IntKind.i64 n2, Cell.int IntKind.i64 n3]] Q = vc109 I n0 n1 n2 n3 Q := by kernel_rfl
/-- internal/stringslite.IndexByte -/
def vc110 (I : FuncId → List V → Post → T) (s0 : ByteArray) (n1 : Int) (Q : Post) : T :=
 fun h2 =>
 I 129 [.one (.str s0), .one (.int .u8 n1)]
 (fun cs3 h4 =>
 ∃ n5 : Int, (cs3 = [.one (.int .i64 n5)]) ∧
 Q [.one (.int .i64 n5)] h4) h2
theorem den110 (I : FuncId → List V → Post → T) (s0 : ByteArray) (n1 : Int) (Q : Post) : denF Go.Proofs.Tryz.prog 0 (⟨[], []⟩) I 110 [V.one (Cell.str s0), V.one (Cell.int IntKind.u8 n1)] Q = vc110 I s0 n1 Q := by kernel_rfl
/-- slices.swapRangeCmpFunc[handbill/api.Cell] -/
def vc111 (I : FuncId → List V → Post → T) (l0 : Sl) (n1 : Int) (n2 : Int) (n3 : Int) (p4 : Option (Nat × List (Nat × Nat))) (Q : Post) : T :=
 loopK (A := Int) 0
 (fun x5 n6 => ifT (decide (n6 < n3))
 (fun h7 =>
 ((0 ≤ IntKind.i64.wrap (n2 + n6)) ∧
 IntKind.i64.wrap (n2 + n6) < (↑l0.len : Int)) ∧
 (derefK l0.a (fun i8 => fun i9 h10 =>
 ∃ l11 : Sl, ∃ n12 : Int, ∃ n13 : Int, (h10.read i8 (i9 + (IntKind.i64.wrap (n2 + n6)).toNat * 3) 3 = some [.slice 1 l11, .int .i64 n12, .int .i64 n13]) ∧
 ((0 ≤ IntKind.i64.wrap (n1 + n6)) ∧
 IntKind.i64.wrap (n1 + n6) < (↑l0.len : Int)) ∧
 (derefK l0.a (fun i14 => fun i15 h16 =>
 ∃ l17 : Sl, ∃ n18 : Int, ∃ n19 : Int, (h16.read i14 (i15 + (IntKind.i64.wrap (n1 + n6)).toNat * 3) 3 = some [.slice 1 l17, .int .i64 n18, .int .i64 n19]) ∧
 ((0 ≤ IntKind.i64.wrap (n1 + n6)) ∧
 IntKind.i64.wrap (n1 + n6) < (↑l0.len : Int)) ∧
 (derefK l0.a (fun i20 => fun i21 h22 =>
 (storeK [] i20 (i21 + (IntKind.i64.wrap (n1 + n6)).toNat * 3) [.slice 1 l11, .int .i64 n12, .int .i64 n13] (fun h23 =>
 ((0 ≤ IntKind.i64.wrap (n2 + n6)) ∧
 IntKind.i64.wrap (n2 + n6) < (↑l0.len : Int)) ∧
 (derefK l0.a (fun i24 => fun i25 h26 =>
 (storeK [] i24 (i25 + (IntKind.i64.wrap (n2 + n6)).toNat * 3) [.slice 1 l17, .int .i64 n18, .int .i64 n19] (x5 (IntKind.i64.wrap (n6 + 1)))) h26)) h23)) h22)) h16)) h10)) h7)
 (Q []))
theorem den111 (I : FuncId → List V → Post → T) (l0 : Sl) (n1 : Int) (n2 : Int) (n3 : Int) (p4 : Option (Nat × List (Nat × Nat))) (Q : Post) : denF Go.Proofs.Tryz.prog 0 (⟨[], [(6, 274877905920, [(10, tk Go.Proofs.Tryz.prog 3)])]⟩) I 111 [V.one (Cell.slice 3 l0), V.one (Cell.int IntKind.i64 n1), V.one (Cell.int IntKind.i64 n2), V.one (Cell.int IntKind.i64 n3), V.one (Cell.func p4)] Q = vc111 I l0 n1 n2 n3 p4 Q := by kernel_rfl
/-- slices.insertionSortCmpFunc[handbill/api.Offer] -/
def vc112 (I : FuncId → List V → Post → T) (l0 : Sl) (n1 : Int) (n2 : Int) (p3 : Option (Nat × List (Nat × Nat))) (Q : Post) : T :=
 loopK (A := Int) (IntKind.i64.wrap (n1 + 1))
 (fun x4 n5 => ifT (decide (n5 < n2))
 (loopK (A := Int) n5
 (fun x6 n7 => joinK (A := Bool)
 (fun b8 => ifT b8
 (fun h9 =>
 ((0 ≤ IntKind.i64.wrap (n7 - 1)) ∧
 IntKind.i64.wrap (n7 - 1) < (↑l0.len : Int)) ∧
 (derefK l0.a (fun i10 => fun i11 h12 =>
 ∃ s13 : ByteArray, ∃ n14 : Int, ∃ n15 : Int, ∃ n16 : Int, ∃ l17 : Sl, ∃ n18 : Int, ∃ n19 : Int, ∃ s20 : ByteArray, ∃ b21 : Bool, ∃ n22 : Int, ∃ n23 : Int, ∃ n24 : Int, (h12.read i10 (i11 + (IntKind.i64.wrap (n7 - 1)).toNat * 12) 12 = some [.str s13, .int .i64 n14, .int .i64 n15, .int .i64 n16, .slice 1 l17, .int .i64 n18, .int .i64 n19, .str s20, .bool b21, .int .i64 n22, .int .i64 n23, .int .i64 n24]) ∧
 ((0 ≤ n7) ∧
 n7 < (↑l0.len : Int)) ∧
 (derefK l0.a (fun i25 => fun i26 h27 =>
 ∃ s28 : ByteArray, ∃ n29 : Int, ∃ n30 : Int, ∃ n31 : Int, ∃ l32 : Sl, ∃ n33 : Int, ∃ n34 : Int, ∃ s35 : ByteArray, ∃ b36 : Bool, ∃ n37 : Int, ∃ n38 : Int, ∃ n39 : Int, (h27.read i25 (i26 + n7.toNat * 12) 12 = some [.str s28, .int .i64 n29, .int .i64 n30, .int .i64 n31, .slice 1 l32, .int .i64 n33, .int .i64 n34, .str s35, .bool b36, .int .i64 n37, .int .i64 n38, .int .i64 n39]) ∧
 ((0 ≤ n7) ∧
 n7 < (↑l0.len : Int)) ∧
 (derefK l0.a (fun i40 => fun i41 h42 =>
 (storeK [] i40 (i41 + n7.toNat * 12) [.str s13, .int .i64 n14, .int .i64 n15, .int .i64 n16, .slice 1 l17, .int .i64 n18, .int .i64 n19, .str s20, .bool b21, .int .i64 n22, .int .i64 n23, .int .i64 n24] (fun h43 =>
 ((0 ≤ IntKind.i64.wrap (n7 - 1)) ∧
 IntKind.i64.wrap (n7 - 1) < (↑l0.len : Int)) ∧
 (derefK l0.a (fun i44 => fun i45 h46 =>
 (storeK [] i44 (i45 + (IntKind.i64.wrap (n7 - 1)).toNat * 12) [.str s28, .int .i64 n29, .int .i64 n30, .int .i64 n31, .slice 1 l32, .int .i64 n33, .int .i64 n34, .str s35, .bool b36, .int .i64 n37, .int .i64 n38, .int .i64 n39] (x6 (IntKind.i64.wrap (n7 - 1)))) h46)) h43)) h42)) h27)) h12)) h9)
 (x4 (IntKind.i64.wrap (n5 + 1))))
 (fun x47 => ifT (decide (n7 > n1))
 (fun h48 =>
 ((0 ≤ n7) ∧
 n7 < (↑l0.len : Int)) ∧
 (derefK l0.a (fun i49 => fun i50 h51 =>
 ∃ s52 : ByteArray, ∃ n53 : Int, ∃ n54 : Int, ∃ n55 : Int, ∃ l56 : Sl, ∃ n57 : Int, ∃ n58 : Int, ∃ s59 : ByteArray, ∃ b60 : Bool, ∃ n61 : Int, ∃ n62 : Int, ∃ n63 : Int, (h51.read i49 (i50 + n7.toNat * 12) 12 = some [.str s52, .int .i64 n53, .int .i64 n54, .int .i64 n55, .slice 1 l56, .int .i64 n57, .int .i64 n58, .str s59, .bool b60, .int .i64 n61, .int .i64 n62, .int .i64 n63]) ∧
 ((0 ≤ IntKind.i64.wrap (n7 - 1)) ∧
 IntKind.i64.wrap (n7 - 1) < (↑l0.len : Int)) ∧
 (derefK l0.a (fun i64 => fun i65 h66 =>
 ∃ s67 : ByteArray, ∃ n68 : Int, ∃ n69 : Int, ∃ n70 : Int, ∃ l71 : Sl, ∃ n72 : Int, ∃ n73 : Int, ∃ s74 : ByteArray, ∃ b75 : Bool, ∃ n76 : Int, ∃ n77 : Int, ∃ n78 : Int, (h66.read i64 (i65 + (IntKind.i64.wrap (n7 - 1)).toNat * 12) 12 = some [.str s67, .int .i64 n68, .int .i64 n69, .int .i64 n70, .slice 1 l71, .int .i64 n72, .int .i64 n73, .str s74, .bool b75, .int .i64 n76, .int .i64 n77, .int .i64 n78]) ∧
 (funK p3 (fun i79 => fun cs80 h81 =>
 I i79 (.agg [.str s52, .int .i64 n53, .int .i64 n54, .int .i64 n55, .slice 1 l56, .int .i64 n57, .int .i64 n58, .str s59, .bool b60, .int .i64 n61, .int .i64 n62, .int .i64 n63] :: .agg [.str s67, .int .i64 n68, .int .i64 n69, .int .i64 n70, .slice 1 l71, .int .i64 n72, .int .i64 n73, .str s74, .bool b75, .int .i64 n76, .int .i64 n77, .int .i64 n78] :: cs80)
 (fun cs82 h83 =>
 ∃ n84 : Int, (cs82 = [.one (.int .i64 n84)]) ∧
 x47 (decide (n84 < 0)) h83) h81)) h66)) h51)) h48)
 (x47 false))))
 (Q []))
theorem den112 (I : FuncId → List V → Post → T) (l0 : Sl) (n1 : Int) (n2 : Int) (p3 : Option (Nat × List (Nat × Nat))) (Q : Post) : denF Go.Proofs.Tryz.prog 0 (⟨[(3216, 34359476224, [(34, tk Go.Proofs.Tryz.prog 4)])], [(6, 9007199254737664, [(8, tk Go.Proofs.Tryz.prog 3)]), (402, 9007199254479360, [(9, tk Go.Proofs.Tryz.prog 3)])]⟩) I 112 [V.one (Cell.slice 12 l0), V.one (Cell.int IntKind.i64 n1), V.one (Cell.int IntKind.i64 n2), V.one (Cell.func p3)] Q = vc112 I l0 n1 n2 p3 Q := by kernel_rfl
/-- math/bits.Len32 -/
def vc120 (I : FuncId → List V → Post → T) (n0 : Int) (Q : Post) : T :=
 ifT (decide (n0 ≥ 65536))
 (ifT (decide (shr IntKind.u32 n0 16 ≥ 256))
 (fun h1 =>
 ((0 ≤ IntKind.u8.wrap (shr IntKind.u32 (shr IntKind.u32 n0 16) 8)) ∧
 IntKind.u8.wrap (shr IntKind.u32 (shr IntKind.u32 n0 16) 8) < (↑256 : Int)) ∧
 Q [.one (.int .i64 (IntKind.i64.wrap (IntKind.i64.wrap (16 + 8) + IntKind.i64.wrap (byteAt len8S (IntKind.u8.wrap (shr IntKind.u32 (shr IntKind.u32 n0 16) 8))))))] h1)
 (fun h2 =>
 ((0 ≤ IntKind.u8.wrap (shr IntKind.u32 n0 16)) ∧
 IntKind.u8.wrap (shr IntKind.u32 n0 16) < (↑256 : Int)) ∧
 Q [.one (.int .i64 (IntKind.i64.wrap (16 + IntKind.i64.wrap (byteAt len8S (IntKind.u8.wrap (shr IntKind.u32 n0 16))))))] h2))
 (ifT (decide (n0 ≥ 256))
 (fun h3 =>
 ((0 ≤ IntKind.u8.wrap (shr IntKind.u32 n0 8)) ∧
 IntKind.u8.wrap (shr IntKind.u32 n0 8) < (↑256 : Int)) ∧
 Q [.one (.int .i64 (IntKind.i64.wrap (IntKind.i64.wrap (0 + 8) + IntKind.i64.wrap (byteAt len8S (IntKind.u8.wrap (shr IntKind.u32 n0 8))))))] h3)
 (fun h4 =>
 ((0 ≤ IntKind.u8.wrap n0) ∧
 IntKind.u8.wrap n0 < (↑256 : Int)) ∧
 Q [.one (.int .i64 (IntKind.i64.wrap (0 + IntKind.i64.wrap (byteAt len8S (IntKind.u8.wrap n0)))))] h4))
theorem den120 (I : FuncId → List V → Post → T) (n0 : Int) (Q : Post) : denF Go.Proofs.Tryz.prog 0 (⟨[], []⟩) I 120 [V.one (Cell.int IntKind.u32 n0)] Q = vc120 I n0 Q := by kernel_rfl
/-- math/bits.Len64 -/
def vc121 (I : FuncId → List V → Post → T) (n0 : Int) (Q : Post) : T :=
 joinK (A := Int × Int)
 (uncur fun n1 n2 => ifT (decide (n1 ≥ 65536))
 (ifT (decide (shr IntKind.u64 n1 16 ≥ 256))
 (fun h3 =>
 ((0 ≤ IntKind.u8.wrap (shr IntKind.u64 (shr IntKind.u64 n1 16) 8)) ∧
 IntKind.u8.wrap (shr IntKind.u64 (shr IntKind.u64 n1 16) 8) < (↑256 : Int)) ∧
 Q [.one (.int .i64 (IntKind.i64.wrap (IntKind.i64.wrap (IntKind.i64.wrap (n2 + 16) + 8) + IntKind.i64.wrap (byteAt len8S (IntKind.u8.wrap (shr IntKind.u64 (shr IntKind.u64 n1 16) 8))))))] h3)
 (fun h4 =>
 ((0 ≤ IntKind.u8.wrap (shr IntKind.u64 n1 16)) ∧
 IntKind.u8.wrap (shr IntKind.u64 n1 16) < (↑256 : Int)) ∧
 Q [.one (.int .i64 (IntKind.i64.wrap (IntKind.i64.wrap (n2 + 16) + IntKind.i64.wrap (byteAt len8S (IntKind.u8.wrap (shr IntKind.u64 n1 16))))))] h4))
 (ifT (decide (n1 ≥ 256))
 (fun h5 =>
 ((0 ≤ IntKind.u8.wrap (shr IntKind.u64 n1 8)) ∧
 IntKind.u8.wrap (shr IntKind.u64 n1 8) < (↑256 : Int)) ∧
 Q [.one (.int .i64 (IntKind.i64.wrap (IntKind.i64.wrap (n2 + 8) + IntKind.i64.wrap (byteAt len8S (IntKind.u8.wrap (shr IntKind.u64 n1 8))))))] h5)
 (fun h6 =>
 ((0 ≤ IntKind.u8.wrap n1) ∧
 IntKind.u8.wrap n1 < (↑256 : Int)) ∧
 Q [.one (.int .i64 (IntKind.i64.wrap (n2 + IntKind.i64.wrap (byteAt len8S (IntKind.u8.wrap n1)))))] h6)))
 (fun x7 => ifT (decide (n0 ≥ 4294967296))
 (x7 ((shr IntKind.u64 n0 32, 32)))
 (x7 ((n0, 0))))
theorem den121 (I : FuncId → List V → Post → T) (n0 : Int) (Q : Post) : denF Go.Proofs.Tryz.prog 0 (⟨[(13, 101, [(0, tk Go.Proofs.Tryz.prog 145), (2, tk Go.Proofs.Tryz.prog 3)])], []⟩) I 121 [V.one (Cell.int IntKind.u64 n0)] Q = vc121 I n0 Q := by kernel_rfl
/-- math/bits.Mul64 -/
def vc122 (I : FuncId → List V → Post → T) (n0 : Int) (n1 : Int) (Q : Post) : T :=
 Q [.one (.int .u64 (IntKind.u64.wrap (IntKind.u64.wrap (IntKind.u64.wrap (shr IntKind.u64 n0 32 * shr IntKind.u64 n1 32) + shr IntKind.u64 (IntKind.u64.wrap (IntKind.u64.wrap (shr IntKind.u64 n0 32 * IntKind.u64.wrap (↑(BitVec.ofInt 64 n1 &&& BitVec.ofInt 64 4294967295).toNat : Int)) + shr IntKind.u64 (IntKind.u64.wrap (IntKind.u64.wrap (↑(BitVec.ofInt 64 n0 &&& BitVec.ofInt 64 4294967295).toNat : Int) * IntKind.u64.wrap (↑(BitVec.ofInt 64 n1 &&& BitVec.ofInt 64 4294967295).toNat : Int))) 32)) 32) + shr IntKind.u64 (IntKind.u64.wrap (IntKind.u64.wrap (↑(BitVec.ofInt 64 (IntKind.u64.wrap (IntKind.u64.wrap (shr IntKind.u64 n0 32 * IntKind.u64.wrap (↑(BitVec.ofInt 64 n1 &&& BitVec.ofInt 64 4294967295).toNat : Int)) + shr IntKind.u64 (IntKind.u64.wrap (IntKind.u64.wrap (↑(BitVec.ofInt 64 n0 &&& BitVec.ofInt 64 4294967295).toNat : Int) * IntKind.u64.wrap (↑(BitVec.ofInt 64 n1 &&& BitVec.ofInt 64 4294967295).toNat : Int))) 32)) &&& BitVec.ofInt 64 4294967295).toNat : Int) + IntKind.u64.wrap (IntKind.u64.wrap (↑(BitVec.ofInt 64 n0 &&& BitVec.ofInt 64 4294967295).toNat : Int) * shr IntKind.u64 n1 32))) 32))), .one (.int .u64 (IntKind.u64.wrap (n0 * n1)))]
theorem den122 (I : FuncId → List V → Post → T) (n0 : Int) (n1 : Int) (Q : Post) : denF Go.Proofs.Tryz.prog 0 (⟨[], []⟩) I 122 [V.one (Cell.int IntKind.u64 n0), V.one (Cell.int IntKind.u64 n1)] Q = vc122 I n0 n1 Q := by kernel_rfl
/-- slices.SortStableFunc[[]int,int] -/
def vc124 (I : FuncId → List V → Post → T) (l0 : Sl) (p1 : Option (Nat × List (Nat × Nat))) (Q : Post) : T :=
 fun h2 =>
 I 136 [.one (.slice 1 l0), .one (.int .i64 (↑l0.len : Int)), .one (.func p1)]
 (fun cs3 h4 =>
 (cs3 = []) ∧
 Q [] h4) h2
theorem den124 (I : FuncId → List V → Post → T) (l0 : Sl) (p1 : Option (Nat × List (Nat × Nat))) (Q : Post) : denF Go.Proofs.Tryz.prog 0 (⟨[], []⟩) I 124 [V.one (Cell.slice 1 l0), V.one (Cell.func p1)] Q = vc124 I l0 p1 Q := by kernel_rfl
/-- handbill/offer.share$1 -/
def vc125 (I : FuncId → List V → Post → T) (n0 : Int) (n1 : Int) (i2 : Nat) (i3 : Nat) (Q : Post) : T :=
 fun h4 =>
 ∃ l5 : Sl, (h4.read i2 i3 1 = some [.slice 1 l5]) ∧
 ((0 ≤ n1) ∧
 n1 < (↑l5.len : Int)) ∧
 (derefK l5.a (fun i6 => fun i7 h8 =>
 ∃ n9 : Int, (h8.read i6 (i7 + n1.toNat * 1) 1 = some [.int .u64 n9]) ∧
 ∃ l10 : Sl, (h8.read i2 i3 1 = some [.slice 1 l10]) ∧
 ((0 ≤ n0) ∧
 n0 < (↑l10.len : Int)) ∧
 (derefK l10.a (fun i11 => fun i12 h13 =>
 ∃ n14 : Int, (h13.read i11 (i12 + n0.toNat * 1) 1 = some [.int .u64 n14]) ∧
 I 126 [.one (.int .u64 n9), .one (.int .u64 n14)]
 (fun cs15 h16 =>
 ∃ n17 : Int, (cs15 = [.one (.int .i64 n17)]) ∧
 Q [.one (.int .i64 n17)] h16) h13)) h8)) h4
theorem den125 (I : FuncId → List V → Post → T) (n0 : Int) (n1 : Int) (i2 : Nat) (i3 : Nat) (Q : Post) : denF Go.Proofs.Tryz.prog 0 (⟨[], []⟩) I 125 [V.one (Cell.int IntKind.i64 n0), V.one (Cell.int IntKind.i64 n1), V.one (Cell.ptr (some (i2, i3)))] Q = vc125 I n0 n1 i2 i3 Q := by kernel_rfl
/-- cmp.Compare[uint64] -/
def vc126 (I : FuncId → List V → Post → T) (n0 : Int) (n1 : Int) (Q : Post) : T :=
 fun h2 =>
 I 137 [.one (.int .u64 n0)]
 (fun cs3 h4 =>
 ∃ b5 : Bool, (cs3 = [.one (.bool b5)]) ∧
 I 137 [.one (.int .u64 n1)]
 (fun cs6 h7 =>
 ∃ b8 : Bool, (cs6 = [.one (.bool b8)]) ∧
 (ifT b5
 (ifT b8
 (Q [.one (.int .i64 0)])
 (Q [.one (.int .i64 (-1))]))
 (ifT b8
 (Q [.one (.int .i64 1)])
 (ifT (decide (n0 < n1))
 (Q [.one (.int .i64 (-1))])
 (ifT (decide (n0 > n1))
 (Q [.one (.int .i64 1)])
 (Q [.one (.int .i64 0)]))))) h7) h4) h2
theorem den126 (I : FuncId → List V → Post → T) (n0 : Int) (n1 : Int) (Q : Post) : denF Go.Proofs.Tryz.prog 0 (⟨[], []⟩) I 126 [V.one (Cell.int IntKind.u64 n0), V.one (Cell.int IntKind.u64 n1)] Q = vc126 I n0 n1 Q := by kernel_rfl
/-- math/bits.Mul -/
def vc127 (I : FuncId → List V → Post → T) (n0 : Int) (n1 : Int) (Q : Post) : T :=
 fun h2 =>
 I 122 [.one (.int .u64 n0), .one (.int .u64 n1)]
 (fun cs3 h4 =>
 ∃ n5 : Int, ∃ n6 : Int, (cs3 = [.one (.int .u64 n5), .one (.int .u64 n6)]) ∧
 Q [.one (.int .u64 n5), .one (.int .u64 n6)] h4) h2
theorem den127 (I : FuncId → List V → Post → T) (n0 : Int) (n1 : Int) (Q : Post) : denF Go.Proofs.Tryz.prog 0 (⟨[], []⟩) I 127 [V.one (Cell.int IntKind.u64 n0), V.one (Cell.int IntKind.u64 n1)] Q = vc127 I n0 n1 Q := by kernel_rfl
/-- slices.stableCmpFunc[handbill/offer.piece] -/
def vc128 (I : FuncId → List V → Post → T) (l0 : Sl) (n1 : Int) (p2 : Option (Nat × List (Nat × Nat))) (Q : Post) : T :=
 loopK (A := Int × Int) ((0, 20))
 (fun x3 => uncur fun n4 n5 => ifT (decide (n5 ≤ n1))
 (fun h6 =>
 I 139 [.one (.slice 2 l0), .one (.int .i64 n4), .one (.int .i64 n5), .one (.func p2)]
 (fun cs7 h8 =>
 (cs7 = []) ∧
 x3 ((n5, IntKind.i64.wrap (n5 + 20))) h8) h6)
 (fun h9 =>
 I 139 [.one (.slice 2 l0), .one (.int .i64 n4), .one (.int .i64 n1), .one (.func p2)]
 (fun cs10 h11 =>
 (cs10 = []) ∧
 (loopK (A := Int) 20
 (fun x12 n13 => ifT (decide (n13 < n1))
 (loopK (A := Int × Int) ((0, IntKind.i64.wrap (2 * n13)))
 (fun x14 => uncur fun n15 n16 => ifT (decide (n16 ≤ n1))
 (fun h17 =>
 I 140 [.one (.slice 2 l0), .one (.int .i64 n15), .one (.int .i64 (IntKind.i64.wrap (n15 + n13))), .one (.int .i64 n16), .one (.func p2)]
 (fun cs18 h19 =>
 (cs18 = []) ∧
 x14 ((n16, IntKind.i64.wrap (n16 + IntKind.i64.wrap (2 * n13)))) h19) h17)
 (ifT (decide (IntKind.i64.wrap (n15 + n13) < n1))
 (fun h20 =>
 I 140 [.one (.slice 2 l0), .one (.int .i64 n15), .one (.int .i64 (IntKind.i64.wrap (n15 + n13))), .one (.int .i64 n1), .one (.func p2)]
 (fun cs21 h22 =>
 (cs21 = []) ∧
 x12 (IntKind.i64.wrap (n13 * 2)) h22) h20)
 (x12 (IntKind.i64.wrap (n13 * 2))))))
 (Q []))) h11) h9))
theorem den128 (I : FuncId → List V → Post → T) (l0 : Sl) (n1 : Int) (p2 : Option (Nat × List (Nat × Nat))) (Q : Post) : denF Go.Proofs.Tryz.prog 0 (⟨[], [(28, 8386944, [(7, tk Go.Proofs.Tryz.prog 3), (8, tk Go.Proofs.Tryz.prog 3)]), (62, 9223372036586341312, [(6, tk Go.Proofs.Tryz.prog 3)]), (3988, 562941363487104, [(7, tk Go.Proofs.Tryz.prog 3), (8, tk Go.Proofs.Tryz.prog 3)])]⟩) I 128 [V.one (Cell.slice 2 l0), V.one (Cell.int IntKind.i64 n1), V.one (Cell.func p2)] Q = vc128 I l0 n1 p2 Q := by kernel_rfl
/-- math/bits.LeadingZeros64 -/
def vc135 (I : FuncId → List V → Post → T) (n0 : Int) (Q : Post) : T :=
 fun h1 =>
 I 121 [.one (.int .u64 n0)]
 (fun cs2 h3 =>
 ∃ n4 : Int, (cs2 = [.one (.int .i64 n4)]) ∧
 Q [.one (.int .i64 (IntKind.i64.wrap (64 - n4)))] h3) h1
theorem den135 (I : FuncId → List V → Post → T) (n0 : Int) (Q : Post) : denF Go.Proofs.Tryz.prog 0 (⟨[], []⟩) I 135 [V.one (Cell.int IntKind.u64 n0)] Q = vc135 I n0 Q := by kernel_rfl
/-- slices.stableCmpFunc[int] -/
def vc136 (I : FuncId → List V → Post → T) (l0 : Sl) (n1 : Int) (p2 : Option (Nat × List (Nat × Nat))) (Q : Post) : T :=
 loopK (A := Int × Int) ((0, 20))
 (fun x3 => uncur fun n4 n5 => ifT (decide (n5 ≤ n1))
 (fun h6 =>
 I 142 [.one (.slice 1 l0), .one (.int .i64 n4), .one (.int .i64 n5), .one (.func p2)]
 (fun cs7 h8 =>
 (cs7 = []) ∧
 x3 ((n5, IntKind.i64.wrap (n5 + 20))) h8) h6)
 (fun h9 =>
 I 142 [.one (.slice 1 l0), .one (.int .i64 n4), .one (.int .i64 n1), .one (.func p2)]
 (fun cs10 h11 =>
 (cs10 = []) ∧
 (loopK (A := Int) 20
 (fun x12 n13 => ifT (decide (n13 < n1))
 (loopK (A := Int × Int) ((0, IntKind.i64.wrap (2 * n13)))
 (fun x14 => uncur fun n15 n16 => ifT (decide (n16 ≤ n1))
 (fun h17 =>
 I 143 [.one (.slice 1 l0), .one (.int .i64 n15), .one (.int .i64 (IntKind.i64.wrap (n15 + n13))), .one (.int .i64 n16), .one (.func p2)]
 (fun cs18 h19 =>
 (cs18 = []) ∧
 x14 ((n16, IntKind.i64.wrap (n16 + IntKind.i64.wrap (2 * n13)))) h19) h17)
 (ifT (decide (IntKind.i64.wrap (n15 + n13) < n1))
 (fun h20 =>
 I 143 [.one (.slice 1 l0), .one (.int .i64 n15), .one (.int .i64 (IntKind.i64.wrap (n15 + n13))), .one (.int .i64 n1), .one (.func p2)]
 (fun cs21 h22 =>
 (cs21 = []) ∧
 x12 (IntKind.i64.wrap (n13 * 2)) h22) h20)
 (x12 (IntKind.i64.wrap (n13 * 2))))))
 (Q []))) h11) h9))
theorem den136 (I : FuncId → List V → Post → T) (l0 : Sl) (n1 : Int) (p2 : Option (Nat × List (Nat × Nat))) (Q : Post) : denF Go.Proofs.Tryz.prog 0 (⟨[], [(28, 8386944, [(7, tk Go.Proofs.Tryz.prog 3), (8, tk Go.Proofs.Tryz.prog 3)]), (62, 9223372036586341312, [(6, tk Go.Proofs.Tryz.prog 3)]), (3988, 562941363487104, [(7, tk Go.Proofs.Tryz.prog 3), (8, tk Go.Proofs.Tryz.prog 3)])]⟩) I 136 [V.one (Cell.slice 1 l0), V.one (Cell.int IntKind.i64 n1), V.one (Cell.func p2)] Q = vc136 I l0 n1 p2 Q := by kernel_rfl
/-- cmp.isNaN[uint64] -/
def vc137 (I : FuncId → List V → Post → T) (n0 : Int) (Q : Post) : T :=
 Q [.one (.bool (!decide (n0 = n0)))]
theorem den137 (I : FuncId → List V → Post → T) (n0 : Int) (Q : Post) : denF Go.Proofs.Tryz.prog 0 (⟨[], []⟩) I 137 [V.one (Cell.int IntKind.u64 n0)] Q = vc137 I n0 Q := by kernel_rfl
/-- math/bits.Mul32 -/
def vc138 (I : FuncId → List V → Post → T) (n0 : Int) (n1 : Int) (Q : Post) : T :=
 Q [.one (.int .u32 (IntKind.u32.wrap (shr IntKind.u64 (IntKind.u64.wrap (IntKind.u64.wrap n0 * IntKind.u64.wrap n1)) 32))), .one (.int .u32 (IntKind.u32.wrap (IntKind.u64.wrap (IntKind.u64.wrap n0 * IntKind.u64.wrap n1))))]
theorem den138 (I : FuncId → List V → Post → T) (n0 : Int) (n1 : Int) (Q : Post) : denF Go.Proofs.Tryz.prog 0 (⟨[], []⟩) I 138 [V.one (Cell.int IntKind.u32 n0), V.one (Cell.int IntKind.u32 n1)] Q = vc138 I n0 n1 Q := by kernel_rfl
/-- slices.insertionSortCmpFunc[handbill/offer.piece] -/
def vc139 (I : FuncId → List V → Post → T) (l0 : Sl) (n1 : Int) (n2 : Int) (p3 : Option (Nat × List (Nat × Nat))) (Q : Post) : T :=
 loopK (A := Int) (IntKind.i64.wrap (n1 + 1))
 (fun x4 n5 => ifT (decide (n5 < n2))
 (loopK (A := Int) n5
 (fun x6 n7 => joinK (A := Bool)
 (fun b8 => ifT b8
 (fun h9 =>
 ((0 ≤ IntKind.i64.wrap (n7 - 1)) ∧
 IntKind.i64.wrap (n7 - 1) < (↑l0.len : Int)) ∧
 (derefK l0.a (fun i10 => fun i11 h12 =>
 ∃ n13 : Int, ∃ n14 : Int, (h12.read i10 (i11 + (IntKind.i64.wrap (n7 - 1)).toNat * 2) 2 = some [.int .i64 n13, .int .i64 n14]) ∧
 ((0 ≤ n7) ∧
 n7 < (↑l0.len : Int)) ∧
 (derefK l0.a (fun i15 => fun i16 h17 =>
 ∃ n18 : Int, ∃ n19 : Int, (h17.read i15 (i16 + n7.toNat * 2) 2 = some [.int .i64 n18, .int .i64 n19]) ∧
 ((0 ≤ n7) ∧
 n7 < (↑l0.len : Int)) ∧
 (derefK l0.a (fun i20 => fun i21 h22 =>
 (storeK [] i20 (i21 + n7.toNat * 2) [.int .i64 n13, .int .i64 n14] (fun h23 =>
 ((0 ≤ IntKind.i64.wrap (n7 - 1)) ∧
 IntKind.i64.wrap (n7 - 1) < (↑l0.len : Int)) ∧
 (derefK l0.a (fun i24 => fun i25 h26 =>
 (storeK [] i24 (i25 + (IntKind.i64.wrap (n7 - 1)).toNat * 2) [.int .i64 n18, .int .i64 n19] (x6 (IntKind.i64.wrap (n7 - 1)))) h26)) h23)) h22)) h17)) h12)) h9)
 (x4 (IntKind.i64.wrap (n5 + 1))))
 (fun x27 => ifT (decide (n7 > n1))
 (fun h28 =>
 ((0 ≤ n7) ∧
 n7 < (↑l0.len : Int)) ∧
 (derefK l0.a (fun i29 => fun i30 h31 =>
 ∃ n32 : Int, ∃ n33 : Int, (h31.read i29 (i30 + n7.toNat * 2) 2 = some [.int .i64 n32, .int .i64 n33]) ∧
 ((0 ≤ IntKind.i64.wrap (n7 - 1)) ∧
 IntKind.i64.wrap (n7 - 1) < (↑l0.len : Int)) ∧
 (derefK l0.a (fun i34 => fun i35 h36 =>
 ∃ n37 : Int, ∃ n38 : Int, (h36.read i34 (i35 + (IntKind.i64.wrap (n7 - 1)).toNat * 2) 2 = some [.int .i64 n37, .int .i64 n38]) ∧
 (funK p3 (fun i39 => fun cs40 h41 =>
 I i39 (.agg [.int .i64 n32, .int .i64 n33] :: .agg [.int .i64 n37, .int .i64 n38] :: cs40)
 (fun cs42 h43 =>
 ∃ n44 : Int, (cs42 = [.one (.int .i64 n44)]) ∧
 x27 (decide (n44 < 0)) h43) h41)) h36)) h31)) h28)
 (x27 false))))
 (Q []))
theorem den139 (I : FuncId → List V → Post → T) (l0 : Sl) (n1 : Int) (n2 : Int) (p3 : Option (Nat × List (Nat × Nat))) (Q : Post) : denF Go.Proofs.Tryz.prog 0 (⟨[(3216, 34359476224, [(34, tk Go.Proofs.Tryz.prog 4)])], [(6, 9007199254737664, [(8, tk Go.Proofs.Tryz.prog 3)]), (402, 9007199254479360, [(9, tk Go.Proofs.Tryz.prog 3)])]⟩) I 139 [V.one (Cell.slice 2 l0), V.one (Cell.int IntKind.i64 n1), V.one (Cell.int IntKind.i64 n2), V.one (Cell.func p3)] Q = vc139 I l0 n1 n2 p3 Q := by kernel_rfl
/-- slices.symMergeCmpFunc[handbill/offer.piece] -/
def vc140 (I : FuncId → List V → Post → T) (l0 : Sl) (n1 : Int) (n2 : Int) (n3 : Int) (p4 : Option (Nat × List (Nat × Nat))) (Q : Post) : T :=
 ifT (decide (IntKind.i64.wrap (n2 - n1) = 1))
 (loopK (A := Int × Int) ((n2, n3))
 (fun x5 => uncur fun n6 n7 => ifT (decide (n6 < n7))
 (fun h8 =>
 ((0 ≤ IntKind.i64.wrap (shr IntKind.u64 (IntKind.u64.wrap (IntKind.i64.wrap (n6 + n7))) 1)) ∧
 IntKind.i64.wrap (shr IntKind.u64 (IntKind.u64.wrap (IntKind.i64.wrap (n6 + n7))) 1) < (↑l0.len : Int)) ∧
 (derefK l0.a (fun i9 => fun i10 h11 =>
 ∃ n12 : Int, ∃ n13 : Int, (h11.read i9 (i10 + (IntKind.i64.wrap (shr IntKind.u64 (IntKind.u64.wrap (IntKind.i64.wrap (n6 + n7))) 1)).toNat * 2) 2 = some [.int .i64 n12, .int .i64 n13]) ∧
 ((0 ≤ n1) ∧
 n1 < (↑l0.len : Int)) ∧
 (derefK l0.a (fun i14 => fun i15 h16 =>
 ∃ n17 : Int, ∃ n18 : Int, (h16.read i14 (i15 + n1.toNat * 2) 2 = some [.int .i64 n17, .int .i64 n18]) ∧
 (funK p4 (fun i19 => fun cs20 h21 =>
 I i19 (.agg [.int .i64 n12, .int .i64 n13] :: .agg [.int .i64 n17, .int .i64 n18] :: cs20)
 (fun cs22 h23 =>
 ∃ n24 : Int, (cs22 = [.one (.int .i64 n24)]) ∧
 (ifT (decide (n24 < 0))
 (x5 ((IntKind.i64.wrap (IntKind.i64.wrap (shr IntKind.u64 (IntKind.u64.wrap (IntKind.i64.wrap (n6 + n7))) 1) + 1), n7)))
 (x5 ((n6, IntKind.i64.wrap (shr IntKind.u64 (IntKind.u64.wrap (IntKind.i64.wrap (n6 + n7))) 1))))) h23) h21)) h16)) h11)) h8)
 (loopK (A := Int) n1
 (fun x25 n26 => ifT (decide (n26 < IntKind.i64.wrap (n6 - 1)))
 (fun h27 =>
 ((0 ≤ IntKind.i64.wrap (n26 + 1)) ∧
 IntKind.i64.wrap (n26 + 1) < (↑l0.len : Int)) ∧
 (derefK l0.a (fun i28 => fun i29 h30 =>
 ∃ n31 : Int, ∃ n32 : Int, (h30.read i28 (i29 + (IntKind.i64.wrap (n26 + 1)).toNat * 2) 2 = some [.int .i64 n31, .int .i64 n32]) ∧
 ((0 ≤ n26) ∧
 n26 < (↑l0.len : Int)) ∧
 (derefK l0.a (fun i33 => fun i34 h35 =>
 ∃ n36 : Int, ∃ n37 : Int, (h35.read i33 (i34 + n26.toNat * 2) 2 = some [.int .i64 n36, .int .i64 n37]) ∧
 ((0 ≤ n26) ∧
 n26 < (↑l0.len : Int)) ∧
 (derefK l0.a (fun i38 => fun i39 h40 =>
 (storeK [] i38 (i39 + n26.toNat * 2) [.int .i64 n31, .int .i64 n32] (fun h41 =>
 ((0 ≤ IntKind.i64.wrap (n26 + 1)) ∧
 IntKind.i64.wrap (n26 + 1) < (↑l0.len : Int)) ∧
 (derefK l0.a (fun i42 => fun i43 h44 =>
 (storeK [] i42 (i43 + (IntKind.i64.wrap (n26 + 1)).toNat * 2) [.int .i64 n36, .int .i64 n37] (x25 (IntKind.i64.wrap (n26 + 1)))) h44)) h41)) h40)) h35)) h30)) h27)
 (Q [])))))
 (ifT (decide (IntKind.i64.wrap (n3 - n2) = 1))
 (loopK (A := Int × Int) ((n1, n2))
 (fun x45 => uncur fun n46 n47 => ifT (decide (n46 < n47))
 (fun h48 =>
 ((0 ≤ n2) ∧
 n2 < (↑l0.len : Int)) ∧
 (derefK l0.a (fun i49 => fun i50 h51 =>
 ∃ n52 : Int, ∃ n53 : Int, (h51.read i49 (i50 + n2.toNat * 2) 2 = some [.int .i64 n52, .int .i64 n53]) ∧
 ((0 ≤ IntKind.i64.wrap (shr IntKind.u64 (IntKind.u64.wrap (IntKind.i64.wrap (n46 + n47))) 1)) ∧
 IntKind.i64.wrap (shr IntKind.u64 (IntKind.u64.wrap (IntKind.i64.wrap (n46 + n47))) 1) < (↑l0.len : Int)) ∧
 (derefK l0.a (fun i54 => fun i55 h56 =>
 ∃ n57 : Int, ∃ n58 : Int, (h56.read i54 (i55 + (IntKind.i64.wrap (shr IntKind.u64 (IntKind.u64.wrap (IntKind.i64.wrap (n46 + n47))) 1)).toNat * 2) 2 = some [.int .i64 n57, .int .i64 n58]) ∧
 (funK p4 (fun i59 => fun cs60 h61 =>
 I i59 (.agg [.int .i64 n52, .int .i64 n53] :: .agg [.int .i64 n57, .int .i64 n58] :: cs60)
 (fun cs62 h63 =>
 ∃ n64 : Int, (cs62 = [.one (.int .i64 n64)]) ∧
 (ifT (!decide (n64 < 0))
 (x45 ((IntKind.i64.wrap (IntKind.i64.wrap (shr IntKind.u64 (IntKind.u64.wrap (IntKind.i64.wrap (n46 + n47))) 1) + 1), n47)))
 (x45 ((n46, IntKind.i64.wrap (shr IntKind.u64 (IntKind.u64.wrap (IntKind.i64.wrap (n46 + n47))) 1))))) h63) h61)) h56)) h51)) h48)
 (loopK (A := Int) n2
 (fun x65 n66 => ifT (decide (n66 > n46))
 (fun h67 =>
 ((0 ≤ IntKind.i64.wrap (n66 - 1)) ∧
 IntKind.i64.wrap (n66 - 1) < (↑l0.len : Int)) ∧
 (derefK l0.a (fun i68 => fun i69 h70 =>
 ∃ n71 : Int, ∃ n72 : Int, (h70.read i68 (i69 + (IntKind.i64.wrap (n66 - 1)).toNat * 2) 2 = some [.int .i64 n71, .int .i64 n72]) ∧
 ((0 ≤ n66) ∧
 n66 < (↑l0.len : Int)) ∧
 (derefK l0.a (fun i73 => fun i74 h75 =>
 ∃ n76 : Int, ∃ n77 : Int, (h75.read i73 (i74 + n66.toNat * 2) 2 = some [.int .i64 n76, .int .i64 n77]) ∧
 ((0 ≤ n66) ∧
 n66 < (↑l0.len : Int)) ∧
 (derefK l0.a (fun i78 => fun i79 h80 =>
 (storeK [] i78 (i79 + n66.toNat * 2) [.int .i64 n71, .int .i64 n72] (fun h81 =>
 ((0 ≤ IntKind.i64.wrap (n66 - 1)) ∧
 IntKind.i64.wrap (n66 - 1) < (↑l0.len : Int)) ∧
 (derefK l0.a (fun i82 => fun i83 h84 =>
 (storeK [] i82 (i83 + (IntKind.i64.wrap (n66 - 1)).toNat * 2) [.int .i64 n76, .int .i64 n77] (x65 (IntKind.i64.wrap (n66 - 1)))) h84)) h81)) h80)) h75)) h70)) h67)
 (Q [])))))
 (joinK (A := Int × Int)
 (uncur fun n85 n86 => loopK (A := Int × Int) ((n85, n86))
 (fun x87 => uncur fun n88 n89 => ifT (decide (n88 < n89))
 (fun h90 =>
 ((0 ≤ IntKind.i64.wrap (IntKind.i64.wrap (IntKind.i64.wrap (IntKind.i64.wrap (shr IntKind.u64 (IntKind.u64.wrap (IntKind.i64.wrap (n1 + n3))) 1) + n2) - 1) - IntKind.i64.wrap (shr IntKind.u64 (IntKind.u64.wrap (IntKind.i64.wrap (n88 + n89))) 1))) ∧
 IntKind.i64.wrap (IntKind.i64.wrap (IntKind.i64.wrap (IntKind.i64.wrap (shr IntKind.u64 (IntKind.u64.wrap (IntKind.i64.wrap (n1 + n3))) 1) + n2) - 1) - IntKind.i64.wrap (shr IntKind.u64 (IntKind.u64.wrap (IntKind.i64.wrap (n88 + n89))) 1)) < (↑l0.len : Int)) ∧
 (derefK l0.a (fun i91 => fun i92 h93 =>
 ∃ n94 : Int, ∃ n95 : Int, (h93.read i91 (i92 + (IntKind.i64.wrap (IntKind.i64.wrap (IntKind.i64.wrap (IntKind.i64.wrap (shr IntKind.u64 (IntKind.u64.wrap (IntKind.i64.wrap (n1 + n3))) 1) + n2) - 1) - IntKind.i64.wrap (shr IntKind.u64 (IntKind.u64.wrap (IntKind.i64.wrap (n88 + n89))) 1))).toNat * 2) 2 = some [.int .i64 n94, .int .i64 n95]) ∧
 ((0 ≤ IntKind.i64.wrap (shr IntKind.u64 (IntKind.u64.wrap (IntKind.i64.wrap (n88 + n89))) 1)) ∧
 IntKind.i64.wrap (shr IntKind.u64 (IntKind.u64.wrap (IntKind.i64.wrap (n88 + n89))) 1) < (↑l0.len : Int)) ∧
 (derefK l0.a (fun i96 => fun i97 h98 =>
 ∃ n99 : Int, ∃ n100 : Int, (h98.read i96 (i97 + (IntKind.i64.wrap (shr IntKind.u64 (IntKind.u64.wrap (IntKind.i64.wrap (n88 + n89))) 1)).toNat * 2) 2 = some [.int .i64 n99, .int .i64 n100]) ∧
 (funK p4 (fun i101 => fun cs102 h103 =>
 I i101 (.agg [.int .i64 n94, .int .i64 n95] :: .agg [.int .i64 n99, .int .i64 n100] :: cs102)
 (fun cs104 h105 =>
 ∃ n106 : Int, (cs104 = [.one (.int .i64 n106)]) ∧
 (ifT (!decide (n106 < 0))
 (x87 ((IntKind.i64.wrap (IntKind.i64.wrap (shr IntKind.u64 (IntKind.u64.wrap (IntKind.i64.wrap (n88 + n89))) 1) + 1), n89)))
 (x87 ((n88, IntKind.i64.wrap (shr IntKind.u64 (IntKind.u64.wrap (IntKind.i64.wrap (n88 + n89))) 1))))) h105) h103)) h98)) h93)) h90)
 (joinK (A := Bool)
 (fun b107 => joinK (A := PUnit)
 (fun x108 => joinK (A := Bool)
 (fun b109 => joinK (A := PUnit)
 (fun x110 => ifT (decide (IntKind.i64.wrap (shr IntKind.u64 (IntKind.u64.wrap (IntKind.i64.wrap (n1 + n3))) 1) < IntKind.i64.wrap (IntKind.i64.wrap (IntKind.i64.wrap (shr IntKind.u64 (IntKind.u64.wrap (IntKind.i64.wrap (n1 + n3))) 1) + n2) - n88)))
 (ifT (decide (IntKind.i64.wrap (IntKind.i64.wrap (IntKind.i64.wrap (shr IntKind.u64 (IntKind.u64.wrap (IntKind.i64.wrap (n1 + n3))) 1) + n2) - n88) < n3))
 (fun h111 =>
 I 140 [.one (.slice 2 l0), .one (.int .i64 (IntKind.i64.wrap (shr IntKind.u64 (IntKind.u64.wrap (IntKind.i64.wrap (n1 + n3))) 1))), .one (.int .i64 (IntKind.i64.wrap (IntKind.i64.wrap (IntKind.i64.wrap (shr IntKind.u64 (IntKind.u64.wrap (IntKind.i64.wrap (n1 + n3))) 1) + n2) - n88))), .one (.int .i64 n3), .one (.func p4)]
 (fun cs112 h113 =>
 (cs112 = []) ∧
 Q [] h113) h111)
 (Q []))
 (Q []))
 (fun x114 => ifT b109
 (fun h115 =>
 I 140 [.one (.slice 2 l0), .one (.int .i64 n1), .one (.int .i64 n88), .one (.int .i64 (IntKind.i64.wrap (shr IntKind.u64 (IntKind.u64.wrap (IntKind.i64.wrap (n1 + n3))) 1))), .one (.func p4)]
 (fun cs116 h117 =>
 (cs116 = []) ∧
 x114 () h117) h115)
 (x114 ())))
 (fun x118 => ifT (decide (n1 < n88))
 (x118 (decide (n88 < IntKind.i64.wrap (shr IntKind.u64 (IntKind.u64.wrap (IntKind.i64.wrap (n1 + n3))) 1))))
 (x118 false)))
 (fun x119 => ifT b107
 (fun h120 =>
 I 144 [.one (.slice 2 l0), .one (.int .i64 n88), .one (.int .i64 n2), .one (.int .i64 (IntKind.i64.wrap (IntKind.i64.wrap (IntKind.i64.wrap (shr IntKind.u64 (IntKind.u64.wrap (IntKind.i64.wrap (n1 + n3))) 1) + n2) - n88))), .one (.func p4)]
 (fun cs121 h122 =>
 (cs121 = []) ∧
 x119 () h122) h120)
 (x119 ())))
 (fun x123 => ifT (decide (n88 < n2))
 (x123 (decide (n2 < IntKind.i64.wrap (IntKind.i64.wrap (IntKind.i64.wrap (shr IntKind.u64 (IntKind.u64.wrap (IntKind.i64.wrap (n1 + n3))) 1) + n2) - n88))))
 (x123 false)))))
 (fun x124 => ifT (decide (n2 > IntKind.i64.wrap (shr IntKind.u64 (IntKind.u64.wrap (IntKind.i64.wrap (n1 + n3))) 1)))
 (x124 ((IntKind.i64.wrap (IntKind.i64.wrap (IntKind.i64.wrap (shr IntKind.u64 (IntKind.u64.wrap (IntKind.i64.wrap (n1 + n3))) 1) + n2) - n3), IntKind.i64.wrap (shr IntKind.u64 (IntKind.u64.wrap (IntKind.i64.wrap (n1 + n3))) 1))))
 (x124 ((n1, n2))))))
theorem den140 (I : FuncId → List V → Post → T) (l0 : Sl) (n1 : Int) (n2 : Int) (n3 : Int) (p4 : Option (Nat × List (Nat × Nat))) (Q : Post) : denF Go.Proofs.Tryz.prog 0 (⟨[(253, 175618368438428657239593781397105846862741504, [(20, tk Go.Proofs.Tryz.prog 3), (21, tk Go.Proofs.Tryz.prog 3)]), (4092, 97696590730200414720344622980832210455694619039204638720, [(185, tk Go.Proofs.Tryz.prog 4)]), (4093, 6179022020771263876900855213470046628350756140644283973632, []), (8188, 1600660942523603594778126302917954936106100638338328800788480, [(199, tk Go.Proofs.Tryz.prog 4)]), (8189, 101237096788316387359143611817493243958898788608315948623986688, [])], [(172, 18014396362005504, [(10, tk Go.Proofs.Tryz.prog 3), (11, tk Go.Proofs.Tryz.prog 3)]), (428, 162259267157806806474544612753408, [(14, tk Go.Proofs.Tryz.prog 3), (15, tk Go.Proofs.Tryz.prog 3)]), (698, 151115691423031627882496, [(13, tk Go.Proofs.Tryz.prog 3)]), (1020, 47890484938435180470718404069304177263338029388398592, [(20, tk Go.Proofs.Tryz.prog 3), (21, tk Go.Proofs.Tryz.prog 3)]), (1722, 680564409323323268500022431707515977728, [(17, tk Go.Proofs.Tryz.prog 3)])]⟩) I 140 [V.one (Cell.slice 2 l0), V.one (Cell.int IntKind.i64 n1), V.one (Cell.int IntKind.i64 n2), V.one (Cell.int IntKind.i64 n3), V.one (Cell.func p4)] Q = vc140 I l0 n1 n2 n3 p4 Q := by kernel_rfl
/-- slices.insertionSortCmpFunc[int] -/
def vc142 (I : FuncId → List V → Post → T) (l0 : Sl) (n1 : Int) (n2 : Int) (p3 : Option (Nat × List (Nat × Nat))) (Q : Post) : T :=
 loopK (A := Int) (IntKind.i64.wrap (n1 + 1))
 (fun x4 n5 => ifT (decide (n5 < n2))
 (loopK (A := Int) n5
 (fun x6 n7 => joinK (A := Bool)
 (fun b8 => ifT b8
 (fun h9 =>
 ((0 ≤ IntKind.i64.wrap (n7 - 1)) ∧
 IntKind.i64.wrap (n7 - 1) < (↑l0.len : Int)) ∧
 (derefK l0.a (fun i10 => fun i11 h12 =>
 ∃ n13 : Int, (h12.read i10 (i11 + (IntKind.i64.wrap (n7 - 1)).toNat * 1) 1 = some [.int .i64 n13]) ∧
 ((0 ≤ n7) ∧
 n7 < (↑l0.len : Int)) ∧
 (derefK l0.a (fun i14 => fun i15 h16 =>
 ∃ n17 : Int, (h16.read i14 (i15 + n7.toNat * 1) 1 = some [.int .i64 n17]) ∧
 ((0 ≤ n7) ∧
 n7 < (↑l0.len : Int)) ∧
 (derefK l0.a (fun i18 => fun i19 h20 =>
 (storeK [] i18 (i19 + n7.toNat * 1) [.int .i64 n13] (fun h21 =>
 ((0 ≤ IntKind.i64.wrap (n7 - 1)) ∧
 IntKind.i64.wrap (n7 - 1) < (↑l0.len : Int)) ∧
 (derefK l0.a (fun i22 => fun i23 h24 =>
 (storeK [] i22 (i23 + (IntKind.i64.wrap (n7 - 1)).toNat * 1) [.int .i64 n17] (x6 (IntKind.i64.wrap (n7 - 1)))) h24)) h21)) h20)) h16)) h12)) h9)
 (x4 (IntKind.i64.wrap (n5 + 1))))
 (fun x25 => ifT (decide (n7 > n1))
 (fun h26 =>
 ((0 ≤ n7) ∧
 n7 < (↑l0.len : Int)) ∧
 (derefK l0.a (fun i27 => fun i28 h29 =>
 ∃ n30 : Int, (h29.read i27 (i28 + n7.toNat * 1) 1 = some [.int .i64 n30]) ∧
 ((0 ≤ IntKind.i64.wrap (n7 - 1)) ∧
 IntKind.i64.wrap (n7 - 1) < (↑l0.len : Int)) ∧
 (derefK l0.a (fun i31 => fun i32 h33 =>
 ∃ n34 : Int, (h33.read i31 (i32 + (IntKind.i64.wrap (n7 - 1)).toNat * 1) 1 = some [.int .i64 n34]) ∧
 (funK p3 (fun i35 => fun cs36 h37 =>
 I i35 (.one (.int .i64 n30) :: .one (.int .i64 n34) :: cs36)
 (fun cs38 h39 =>
 ∃ n40 : Int, (cs38 = [.one (.int .i64 n40)]) ∧
 x25 (decide (n40 < 0)) h39) h37)) h33)) h29)) h26)
 (x25 false))))
 (Q []))
theorem den142 (I : FuncId → List V → Post → T) (l0 : Sl) (n1 : Int) (n2 : Int) (p3 : Option (Nat × List (Nat × Nat))) (Q : Post) : denF Go.Proofs.Tryz.prog 0 (⟨[(3216, 34359476224, [(34, tk Go.Proofs.Tryz.prog 4)])], [(6, 9007199254737664, [(8, tk Go.Proofs.Tryz.prog 3)]), (402, 9007199254479360, [(9, tk Go.Proofs.Tryz.prog 3)])]⟩) I 142 [V.one (Cell.slice 1 l0), V.one (Cell.int IntKind.i64 n1), V.one (Cell.int IntKind.i64 n2), V.one (Cell.func p3)] Q = vc142 I l0 n1 n2 p3 Q := by kernel_rfl
/-- slices.symMergeCmpFunc[int] -/
def vc143 (I : FuncId → List V → Post → T) (l0 : Sl) (n1 : Int) (n2 : Int) (n3 : Int) (p4 : Option (Nat × List (Nat × Nat))) (Q : Post) : T :=
 ifT (decide (IntKind.i64.wrap (n2 - n1) = 1))
 (loopK (A := Int × Int) ((n2, n3))
 (fun x5 => uncur fun n6 n7 => ifT (decide (n6 < n7))
 (fun h8 =>
 ((0 ≤ IntKind.i64.wrap (shr IntKind.u64 (IntKind.u64.wrap (IntKind.i64.wrap (n6 + n7))) 1)) ∧
 IntKind.i64.wrap (shr IntKind.u64 (IntKind.u64.wrap (IntKind.i64.wrap (n6 + n7))) 1) < (↑l0.len : Int)) ∧
 (derefK l0.a (fun i9 => fun i10 h11 =>
 ∃ n12 : Int, (h11.read i9 (i10 + (IntKind.i64.wrap (shr IntKind.u64 (IntKind.u64.wrap (IntKind.i64.wrap (n6 + n7))) 1)).toNat * 1) 1 = some [.int .i64 n12]) ∧
 ((0 ≤ n1) ∧
 n1 < (↑l0.len : Int)) ∧
 (derefK l0.a (fun i13 => fun i14 h15 =>
 ∃ n16 : Int, (h15.read i13 (i14 + n1.toNat * 1) 1 = some [.int .i64 n16]) ∧
 (funK p4 (fun i17 => fun cs18 h19 =>
 I i17 (.one (.int .i64 n12) :: .one (.int .i64 n16) :: cs18)
 (fun cs20 h21 =>
 ∃ n22 : Int, (cs20 = [.one (.int .i64 n22)]) ∧
 (ifT (decide (n22 < 0))
 (x5 ((IntKind.i64.wrap (IntKind.i64.wrap (shr IntKind.u64 (IntKind.u64.wrap (IntKind.i64.wrap (n6 + n7))) 1) + 1), n7)))
 (x5 ((n6, IntKind.i64.wrap (shr IntKind.u64 (IntKind.u64.wrap (IntKind.i64.wrap (n6 + n7))) 1))))) h21) h19)) h15)) h11)) h8)
 (loopK (A := Int) n1
 (fun x23 n24 => ifT (decide (n24 < IntKind.i64.wrap (n6 - 1)))
 (fun h25 =>
 ((0 ≤ IntKind.i64.wrap (n24 + 1)) ∧
 IntKind.i64.wrap (n24 + 1) < (↑l0.len : Int)) ∧
 (derefK l0.a (fun i26 => fun i27 h28 =>
 ∃ n29 : Int, (h28.read i26 (i27 + (IntKind.i64.wrap (n24 + 1)).toNat * 1) 1 = some [.int .i64 n29]) ∧
 ((0 ≤ n24) ∧
 n24 < (↑l0.len : Int)) ∧
 (derefK l0.a (fun i30 => fun i31 h32 =>
 ∃ n33 : Int, (h32.read i30 (i31 + n24.toNat * 1) 1 = some [.int .i64 n33]) ∧
 ((0 ≤ n24) ∧
 n24 < (↑l0.len : Int)) ∧
 (derefK l0.a (fun i34 => fun i35 h36 =>
 (storeK [] i34 (i35 + n24.toNat * 1) [.int .i64 n29] (fun h37 =>
 ((0 ≤ IntKind.i64.wrap (n24 + 1)) ∧
 IntKind.i64.wrap (n24 + 1) < (↑l0.len : Int)) ∧
 (derefK l0.a (fun i38 => fun i39 h40 =>
 (storeK [] i38 (i39 + (IntKind.i64.wrap (n24 + 1)).toNat * 1) [.int .i64 n33] (x23 (IntKind.i64.wrap (n24 + 1)))) h40)) h37)) h36)) h32)) h28)) h25)
 (Q [])))))
 (ifT (decide (IntKind.i64.wrap (n3 - n2) = 1))
 (loopK (A := Int × Int) ((n1, n2))
 (fun x41 => uncur fun n42 n43 => ifT (decide (n42 < n43))
 (fun h44 =>
 ((0 ≤ n2) ∧
 n2 < (↑l0.len : Int)) ∧
 (derefK l0.a (fun i45 => fun i46 h47 =>
 ∃ n48 : Int, (h47.read i45 (i46 + n2.toNat * 1) 1 = some [.int .i64 n48]) ∧
 ((0 ≤ IntKind.i64.wrap (shr IntKind.u64 (IntKind.u64.wrap (IntKind.i64.wrap (n42 + n43))) 1)) ∧
 IntKind.i64.wrap (shr IntKind.u64 (IntKind.u64.wrap (IntKind.i64.wrap (n42 + n43))) 1) < (↑l0.len : Int)) ∧
 (derefK l0.a (fun i49 => fun i50 h51 =>
 ∃ n52 : Int, (h51.read i49 (i50 + (IntKind.i64.wrap (shr IntKind.u64 (IntKind.u64.wrap (IntKind.i64.wrap (n42 + n43))) 1)).toNat * 1) 1 = some [.int .i64 n52]) ∧
 (funK p4 (fun i53 => fun cs54 h55 =>
 I i53 (.one (.int .i64 n48) :: .one (.int .i64 n52) :: cs54)
 (fun cs56 h57 =>
 ∃ n58 : Int, (cs56 = [.one (.int .i64 n58)]) ∧
 (ifT (!decide (n58 < 0))
 (x41 ((IntKind.i64.wrap (IntKind.i64.wrap (shr IntKind.u64 (IntKind.u64.wrap (IntKind.i64.wrap (n42 + n43))) 1) + 1), n43)))
 (x41 ((n42, IntKind.i64.wrap (shr IntKind.u64 (IntKind.u64.wrap (IntKind.i64.wrap (n42 + n43))) 1))))) h57) h55)) h51)) h47)) h44)
 (loopK (A := Int) n2
 (fun x59 n60 => ifT (decide (n60 > n42))
 (fun h61 =>
 ((0 ≤ IntKind.i64.wrap (n60 - 1)) ∧
 IntKind.i64.wrap (n60 - 1) < (↑l0.len : Int)) ∧
 (derefK l0.a (fun i62 => fun i63 h64 =>
 ∃ n65 : Int, (h64.read i62 (i63 + (IntKind.i64.wrap (n60 - 1)).toNat * 1) 1 = some [.int .i64 n65]) ∧
 ((0 ≤ n60) ∧
 n60 < (↑l0.len : Int)) ∧
 (derefK l0.a (fun i66 => fun i67 h68 =>
 ∃ n69 : Int, (h68.read i66 (i67 + n60.toNat * 1) 1 = some [.int .i64 n69]) ∧
 ((0 ≤ n60) ∧
 n60 < (↑l0.len : Int)) ∧
 (derefK l0.a (fun i70 => fun i71 h72 =>
 (storeK [] i70 (i71 + n60.toNat * 1) [.int .i64 n65] (fun h73 =>
 ((0 ≤ IntKind.i64.wrap (n60 - 1)) ∧
 IntKind.i64.wrap (n60 - 1) < (↑l0.len : Int)) ∧
 (derefK l0.a (fun i74 => fun i75 h76 =>
 (storeK [] i74 (i75 + (IntKind.i64.wrap (n60 - 1)).toNat * 1) [.int .i64 n69] (x59 (IntKind.i64.wrap (n60 - 1)))) h76)) h73)) h72)) h68)) h64)) h61)
 (Q [])))))
 (joinK (A := Int × Int)
 (uncur fun n77 n78 => loopK (A := Int × Int) ((n77, n78))
 (fun x79 => uncur fun n80 n81 => ifT (decide (n80 < n81))
 (fun h82 =>
 ((0 ≤ IntKind.i64.wrap (IntKind.i64.wrap (IntKind.i64.wrap (IntKind.i64.wrap (shr IntKind.u64 (IntKind.u64.wrap (IntKind.i64.wrap (n1 + n3))) 1) + n2) - 1) - IntKind.i64.wrap (shr IntKind.u64 (IntKind.u64.wrap (IntKind.i64.wrap (n80 + n81))) 1))) ∧
 IntKind.i64.wrap (IntKind.i64.wrap (IntKind.i64.wrap (IntKind.i64.wrap (shr IntKind.u64 (IntKind.u64.wrap (IntKind.i64.wrap (n1 + n3))) 1) + n2) - 1) - IntKind.i64.wrap (shr IntKind.u64 (IntKind.u64.wrap (IntKind.i64.wrap (n80 + n81))) 1)) < (↑l0.len : Int)) ∧
 (derefK l0.a (fun i83 => fun i84 h85 =>
 ∃ n86 : Int, (h85.read i83 (i84 + (IntKind.i64.wrap (IntKind.i64.wrap (IntKind.i64.wrap (IntKind.i64.wrap (shr IntKind.u64 (IntKind.u64.wrap (IntKind.i64.wrap (n1 + n3))) 1) + n2) - 1) - IntKind.i64.wrap (shr IntKind.u64 (IntKind.u64.wrap (IntKind.i64.wrap (n80 + n81))) 1))).toNat * 1) 1 = some [.int .i64 n86]) ∧
 ((0 ≤ IntKind.i64.wrap (shr IntKind.u64 (IntKind.u64.wrap (IntKind.i64.wrap (n80 + n81))) 1)) ∧
 IntKind.i64.wrap (shr IntKind.u64 (IntKind.u64.wrap (IntKind.i64.wrap (n80 + n81))) 1) < (↑l0.len : Int)) ∧
 (derefK l0.a (fun i87 => fun i88 h89 =>
 ∃ n90 : Int, (h89.read i87 (i88 + (IntKind.i64.wrap (shr IntKind.u64 (IntKind.u64.wrap (IntKind.i64.wrap (n80 + n81))) 1)).toNat * 1) 1 = some [.int .i64 n90]) ∧
 (funK p4 (fun i91 => fun cs92 h93 =>
 I i91 (.one (.int .i64 n86) :: .one (.int .i64 n90) :: cs92)
 (fun cs94 h95 =>
 ∃ n96 : Int, (cs94 = [.one (.int .i64 n96)]) ∧
 (ifT (!decide (n96 < 0))
 (x79 ((IntKind.i64.wrap (IntKind.i64.wrap (shr IntKind.u64 (IntKind.u64.wrap (IntKind.i64.wrap (n80 + n81))) 1) + 1), n81)))
 (x79 ((n80, IntKind.i64.wrap (shr IntKind.u64 (IntKind.u64.wrap (IntKind.i64.wrap (n80 + n81))) 1))))) h95) h93)) h89)) h85)) h82)
 (joinK (A := Bool)
 (fun b97 => joinK (A := PUnit)
 (fun x98 => joinK (A := Bool)
 (fun b99 => joinK (A := PUnit)
 (fun x100 => ifT (decide (IntKind.i64.wrap (shr IntKind.u64 (IntKind.u64.wrap (IntKind.i64.wrap (n1 + n3))) 1) < IntKind.i64.wrap (IntKind.i64.wrap (IntKind.i64.wrap (shr IntKind.u64 (IntKind.u64.wrap (IntKind.i64.wrap (n1 + n3))) 1) + n2) - n80)))
 (ifT (decide (IntKind.i64.wrap (IntKind.i64.wrap (IntKind.i64.wrap (shr IntKind.u64 (IntKind.u64.wrap (IntKind.i64.wrap (n1 + n3))) 1) + n2) - n80) < n3))
 (fun h101 =>
 I 143 [.one (.slice 1 l0), .one (.int .i64 (IntKind.i64.wrap (shr IntKind.u64 (IntKind.u64.wrap (IntKind.i64.wrap (n1 + n3))) 1))), .one (.int .i64 (IntKind.i64.wrap (IntKind.i64.wrap (IntKind.i64.wrap (shr IntKind.u64 (IntKind.u64.wrap (IntKind.i64.wrap (n1 + n3))) 1) + n2) - n80))), .one (.int .i64 n3), .one (.func p4)]
 (fun cs102 h103 =>
 (cs102 = []) ∧
 Q [] h103) h101)
 (Q []))
 (Q []))
 (fun x104 => ifT b99
 (fun h105 =>
 I 143 [.one (.slice 1 l0), .one (.int .i64 n1), .one (.int .i64 n80), .one (.int .i64 (IntKind.i64.wrap (shr IntKind.u64 (IntKind.u64.wrap (IntKind.i64.wrap (n1 + n3))) 1))), .one (.func p4)]
 (fun cs106 h107 =>
 (cs106 = []) ∧
 x104 () h107) h105)
 (x104 ())))
 (fun x108 => ifT (decide (n1 < n80))
 (x108 (decide (n80 < IntKind.i64.wrap (shr IntKind.u64 (IntKind.u64.wrap (IntKind.i64.wrap (n1 + n3))) 1))))
 (x108 false)))
 (fun x109 => ifT b97
 (fun h110 =>
 I 145 [.one (.slice 1 l0), .one (.int .i64 n80), .one (.int .i64 n2), .one (.int .i64 (IntKind.i64.wrap (IntKind.i64.wrap (IntKind.i64.wrap (shr IntKind.u64 (IntKind.u64.wrap (IntKind.i64.wrap (n1 + n3))) 1) + n2) - n80))), .one (.func p4)]
 (fun cs111 h112 =>
 (cs111 = []) ∧
 x109 () h112) h110)
 (x109 ())))
 (fun x113 => ifT (decide (n80 < n2))
 (x113 (decide (n2 < IntKind.i64.wrap (IntKind.i64.wrap (IntKind.i64.wrap (shr IntKind.u64 (IntKind.u64.wrap (IntKind.i64.wrap (n1 + n3))) 1) + n2) - n80))))
 (x113 false)))))
 (fun x114 => ifT (decide (n2 > IntKind.i64.wrap (shr IntKind.u64 (IntKind.u64.wrap (IntKind.i64.wrap (n1 + n3))) 1)))
 (x114 ((IntKind.i64.wrap (IntKind.i64.wrap (IntKind.i64.wrap (shr IntKind.u64 (IntKind.u64.wrap (IntKind.i64.wrap (n1 + n3))) 1) + n2) - n3), IntKind.i64.wrap (shr IntKind.u64 (IntKind.u64.wrap (IntKind.i64.wrap (n1 + n3))) 1))))
 (x114 ((n1, n2))))))
theorem den143 (I : FuncId → List V → Post → T) (l0 : Sl) (n1 : Int) (n2 : Int) (n3 : Int) (p4 : Option (Nat × List (Nat × Nat))) (Q : Post) : denF Go.Proofs.Tryz.prog 0 (⟨[(253, 175618368438428657239593781397105846862741504, [(20, tk Go.Proofs.Tryz.prog 3), (21, tk Go.Proofs.Tryz.prog 3)]), (4092, 97696590730200414720344622980832210455694619039204638720, [(185, tk Go.Proofs.Tryz.prog 4)]), (4093, 6179022020771263876900855213470046628350756140644283973632, []), (8188, 1600660942523603594778126302917954936106100638338328800788480, [(199, tk Go.Proofs.Tryz.prog 4)]), (8189, 101237096788316387359143611817493243958898788608315948623986688, [])], [(172, 18014396362005504, [(10, tk Go.Proofs.Tryz.prog 3), (11, tk Go.Proofs.Tryz.prog 3)]), (428, 162259267157806806474544612753408, [(14, tk Go.Proofs.Tryz.prog 3), (15, tk Go.Proofs.Tryz.prog 3)]), (698, 151115691423031627882496, [(13, tk Go.Proofs.Tryz.prog 3)]), (1020, 47890484938435180470718404069304177263338029388398592, [(20, tk Go.Proofs.Tryz.prog 3), (21, tk Go.Proofs.Tryz.prog 3)]), (1722, 680564409323323268500022431707515977728, [(17, tk Go.Proofs.Tryz.prog 3)])]⟩) I 143 [V.one (Cell.slice 1 l0), V.one (Cell.int IntKind.i64 n1), V.one (Cell.int IntKind.i64 n2), V.one (Cell.int IntKind.i64 n3), V.one (Cell.func p4)] Q = vc143 I l0 n1 n2 n3 p4 Q := by kernel_rfl
/-- slices.rotateCmpFunc[handbill/offer.piece] -/
def vc144 (I : FuncId → List V → Post → T) (l0 : Sl) (n1 : Int) (n2 : Int) (n3 : Int) (p4 : Option (Nat × List (Nat × Nat))) (Q : Post) : T :=
 loopK (A := Int × Int) ((IntKind.i64.wrap (n2 - n1), IntKind.i64.wrap (n3 - n2)))
 (fun x5 => uncur fun n6 n7 => ifT (!decide (n6 = n7))
 (ifT (decide (n6 > n7))
 (fun h8 =>
 I 146 [.one (.slice 2 l0), .one (.int .i64 (IntKind.i64.wrap (n2 - n6))), .one (.int .i64 n2), .one (.int .i64 n7), .one (.func p4)]
 (fun cs9 h10 =>
 (cs9 = []) ∧
 x5 ((IntKind.i64.wrap (n6 - n7), n7)) h10) h8)
 (fun h11 =>
 I 146 [.one (.slice 2 l0), .one (.int .i64 (IntKind.i64.wrap (n2 - n6))), .one (.int .i64 (IntKind.i64.wrap (IntKind.i64.wrap (n2 + n7) - n6))), .one (.int .i64 n6), .one (.func p4)]
 (fun cs12 h13 =>
 (cs12 = []) ∧
 x5 ((n6, IntKind.i64.wrap (n7 - n6))) h13) h11))
 (fun h14 =>
 I 146 [.one (.slice 2 l0), .one (.int .i64 (IntKind.i64.wrap (n2 - n6))), .one (.int .i64 n2), .one (.int .i64 n6), .one (.func p4)]
 (fun cs15 h16 =>
 (cs15 = []) ∧
 Q [] h16) h14))
theorem den144 (I : FuncId → List V → Post → T) (l0 : Sl) (n1 : Int) (n2 : Int) (n3 : Int) (p4 : Option (Nat × List (Nat × Nat))) (Q : Post) : denF Go.Proofs.Tryz.prog 0 (⟨[], [(28, 1125899906583552, [(10, tk Go.Proofs.Tryz.prog 3), (11, tk Go.Proofs.Tryz.prog 3)])]⟩) I 144 [V.one (Cell.slice 2 l0), V.one (Cell.int IntKind.i64 n1), V.one (Cell.int IntKind.i64 n2), V.one (Cell.int IntKind.i64 n3), V.one (Cell.func p4)] Q = vc144 I l0 n1 n2 n3 p4 Q := by kernel_rfl
/-- slices.rotateCmpFunc[int] -/
def vc145 (I : FuncId → List V → Post → T) (l0 : Sl) (n1 : Int) (n2 : Int) (n3 : Int) (p4 : Option (Nat × List (Nat × Nat))) (Q : Post) : T :=
 loopK (A := Int × Int) ((IntKind.i64.wrap (n2 - n1), IntKind.i64.wrap (n3 - n2)))
 (fun x5 => uncur fun n6 n7 => ifT (!decide (n6 = n7))
 (ifT (decide (n6 > n7))
 (fun h8 =>
 I 147 [.one (.slice 1 l0), .one (.int .i64 (IntKind.i64.wrap (n2 - n6))), .one (.int .i64 n2), .one (.int .i64 n7), .one (.func p4)]
 (fun cs9 h10 =>
 (cs9 = []) ∧
 x5 ((IntKind.i64.wrap (n6 - n7), n7)) h10) h8)
 (fun h11 =>
 I 147 [.one (.slice 1 l0), .one (.int .i64 (IntKind.i64.wrap (n2 - n6))), .one (.int .i64 (IntKind.i64.wrap (IntKind.i64.wrap (n2 + n7) - n6))), .one (.int .i64 n6), .one (.func p4)]
 (fun cs12 h13 =>
 (cs12 = []) ∧
 x5 ((n6, IntKind.i64.wrap (n7 - n6))) h13) h11))
 (fun h14 =>
 I 147 [.one (.slice 1 l0), .one (.int .i64 (IntKind.i64.wrap (n2 - n6))), .one (.int .i64 n2), .one (.int .i64 n6), .one (.func p4)]
 (fun cs15 h16 =>
 (cs15 = []) ∧
 Q [] h16) h14))
theorem den145 (I : FuncId → List V → Post → T) (l0 : Sl) (n1 : Int) (n2 : Int) (n3 : Int) (p4 : Option (Nat × List (Nat × Nat))) (Q : Post) : denF Go.Proofs.Tryz.prog 0 (⟨[], [(28, 1125899906583552, [(10, tk Go.Proofs.Tryz.prog 3), (11, tk Go.Proofs.Tryz.prog 3)])]⟩) I 145 [V.one (Cell.slice 1 l0), V.one (Cell.int IntKind.i64 n1), V.one (Cell.int IntKind.i64 n2), V.one (Cell.int IntKind.i64 n3), V.one (Cell.func p4)] Q = vc145 I l0 n1 n2 n3 p4 Q := by kernel_rfl
/-- slices.swapRangeCmpFunc[handbill/offer.piece] -/
def vc146 (I : FuncId → List V → Post → T) (l0 : Sl) (n1 : Int) (n2 : Int) (n3 : Int) (p4 : Option (Nat × List (Nat × Nat))) (Q : Post) : T :=
 loopK (A := Int) 0
 (fun x5 n6 => ifT (decide (n6 < n3))
 (fun h7 =>
 ((0 ≤ IntKind.i64.wrap (n2 + n6)) ∧
 IntKind.i64.wrap (n2 + n6) < (↑l0.len : Int)) ∧
 (derefK l0.a (fun i8 => fun i9 h10 =>
 ∃ n11 : Int, ∃ n12 : Int, (h10.read i8 (i9 + (IntKind.i64.wrap (n2 + n6)).toNat * 2) 2 = some [.int .i64 n11, .int .i64 n12]) ∧
 ((0 ≤ IntKind.i64.wrap (n1 + n6)) ∧
 IntKind.i64.wrap (n1 + n6) < (↑l0.len : Int)) ∧
 (derefK l0.a (fun i13 => fun i14 h15 =>
 ∃ n16 : Int, ∃ n17 : Int, (h15.read i13 (i14 + (IntKind.i64.wrap (n1 + n6)).toNat * 2) 2 = some [.int .i64 n16, .int .i64 n17]) ∧
 ((0 ≤ IntKind.i64.wrap (n1 + n6)) ∧
 IntKind.i64.wrap (n1 + n6) < (↑l0.len : Int)) ∧
 (derefK l0.a (fun i18 => fun i19 h20 =>
 (storeK [] i18 (i19 + (IntKind.i64.wrap (n1 + n6)).toNat * 2) [.int .i64 n11, .int .i64 n12] (fun h21 =>
 ((0 ≤ IntKind.i64.wrap (n2 + n6)) ∧
 IntKind.i64.wrap (n2 + n6) < (↑l0.len : Int)) ∧
 (derefK l0.a (fun i22 => fun i23 h24 =>
 (storeK [] i22 (i23 + (IntKind.i64.wrap (n2 + n6)).toNat * 2) [.int .i64 n16, .int .i64 n17] (x5 (IntKind.i64.wrap (n6 + 1)))) h24)) h21)) h20)) h15)) h10)) h7)
 (Q []))
theorem den146 (I : FuncId → List V → Post → T) (l0 : Sl) (n1 : Int) (n2 : Int) (n3 : Int) (p4 : Option (Nat × List (Nat × Nat))) (Q : Post) : denF Go.Proofs.Tryz.prog 0 (⟨[], [(6, 274877905920, [(10, tk Go.Proofs.Tryz.prog 3)])]⟩) I 146 [V.one (Cell.slice 2 l0), V.one (Cell.int IntKind.i64 n1), V.one (Cell.int IntKind.i64 n2), V.one (Cell.int IntKind.i64 n3), V.one (Cell.func p4)] Q = vc146 I l0 n1 n2 n3 p4 Q := by kernel_rfl
/-- slices.swapRangeCmpFunc[int] -/
def vc147 (I : FuncId → List V → Post → T) (l0 : Sl) (n1 : Int) (n2 : Int) (n3 : Int) (p4 : Option (Nat × List (Nat × Nat))) (Q : Post) : T :=
 loopK (A := Int) 0
 (fun x5 n6 => ifT (decide (n6 < n3))
 (fun h7 =>
 ((0 ≤ IntKind.i64.wrap (n2 + n6)) ∧
 IntKind.i64.wrap (n2 + n6) < (↑l0.len : Int)) ∧
 (derefK l0.a (fun i8 => fun i9 h10 =>
 ∃ n11 : Int, (h10.read i8 (i9 + (IntKind.i64.wrap (n2 + n6)).toNat * 1) 1 = some [.int .i64 n11]) ∧
 ((0 ≤ IntKind.i64.wrap (n1 + n6)) ∧
 IntKind.i64.wrap (n1 + n6) < (↑l0.len : Int)) ∧
 (derefK l0.a (fun i12 => fun i13 h14 =>
 ∃ n15 : Int, (h14.read i12 (i13 + (IntKind.i64.wrap (n1 + n6)).toNat * 1) 1 = some [.int .i64 n15]) ∧
 ((0 ≤ IntKind.i64.wrap (n1 + n6)) ∧
 IntKind.i64.wrap (n1 + n6) < (↑l0.len : Int)) ∧
 (derefK l0.a (fun i16 => fun i17 h18 =>
 (storeK [] i16 (i17 + (IntKind.i64.wrap (n1 + n6)).toNat * 1) [.int .i64 n11] (fun h19 =>
 ((0 ≤ IntKind.i64.wrap (n2 + n6)) ∧
 IntKind.i64.wrap (n2 + n6) < (↑l0.len : Int)) ∧
 (derefK l0.a (fun i20 => fun i21 h22 =>
 (storeK [] i20 (i21 + (IntKind.i64.wrap (n2 + n6)).toNat * 1) [.int .i64 n15] (x5 (IntKind.i64.wrap (n6 + 1)))) h22)) h19)) h18)) h14)) h10)) h7)
 (Q []))
theorem den147 (I : FuncId → List V → Post → T) (l0 : Sl) (n1 : Int) (n2 : Int) (n3 : Int) (p4 : Option (Nat × List (Nat × Nat))) (Q : Post) : denF Go.Proofs.Tryz.prog 0 (⟨[], [(6, 274877905920, [(10, tk Go.Proofs.Tryz.prog 3)])]⟩) I 147 [V.one (Cell.slice 1 l0), V.one (Cell.int IntKind.i64 n1), V.one (Cell.int IntKind.i64 n2), V.one (Cell.int IntKind.i64 n3), V.one (Cell.func p4)] Q = vc147 I l0 n1 n2 n3 p4 Q := by kernel_rfl
/-- math/bits.Div64 -/
def vc123 (I : FuncId → List V → Post → T) (n0 : Int) (n1 : Int) (n2 : Int) (Q : Post) : T :=
 joinK (A := PUnit)
 (fun x3 => joinK (A := PUnit)
 (fun x4 => ifT (decide (n0 = 0))
 (fun h5 =>
 (n2 ≠ 0) ∧
 (n2 ≠ 0) ∧
 Q [.one (.int .u64 (IntKind.u64.wrap (n1.tdiv n2))), .one (.int .u64 (n1.tmod n2))] h5)
 (fun h6 =>
 I 135 [.one (.int .u64 n2)]
 (fun cs7 h8 =>
 ∃ n9 : Int, (cs7 = [.one (.int .i64 n9)]) ∧
 (0 ≤ IntKind.u64.wrap n9) ∧
 (0 ≤ IntKind.u64.wrap n9) ∧
 (0 ≤ IntKind.u64.wrap (64 - IntKind.u64.wrap n9)) ∧
 (0 ≤ IntKind.u64.wrap n9) ∧
 (shr IntKind.u64 (shl IntKind.u64 n2 (IntKind.u64.wrap n9)) 32 ≠ 0) ∧
 (joinK (A := Int)
 (fun n10 h11 =>
 (shr IntKind.u64 (shl IntKind.u64 n2 (IntKind.u64.wrap n9)) 32 ≠ 0) ∧
 (loopK (A := Int × Int) ((IntKind.u64.wrap (IntKind.u64.wrap (IntKind.u64.wrap (IntKind.u64.wrap (IntKind.u64.wrap (↑(BitVec.ofInt 64 (shl IntKind.u64 n0 (IntKind.u64.wrap n9)) ||| BitVec.ofInt 64 (shr IntKind.u64 n1 (IntKind.u64.wrap (64 - IntKind.u64.wrap n9)))).toNat : Int) * 4294967296) + shr IntKind.u64 (shl IntKind.u64 n1 (IntKind.u64.wrap n9)) 32) - IntKind.u64.wrap (n10 * shl IntKind.u64 n2 (IntKind.u64.wrap n9))) - IntKind.u64.wrap (IntKind.u64.wrap ((IntKind.u64.wrap (IntKind.u64.wrap (IntKind.u64.wrap (IntKind.u64.wrap (↑(BitVec.ofInt 64 (shl IntKind.u64 n0 (IntKind.u64.wrap n9)) ||| BitVec.ofInt 64 (shr IntKind.u64 n1 (IntKind.u64.wrap (64 - IntKind.u64.wrap n9)))).toNat : Int) * 4294967296) + shr IntKind.u64 (shl IntKind.u64 n1 (IntKind.u64.wrap n9)) 32) - IntKind.u64.wrap (n10 * shl IntKind.u64 n2 (IntKind.u64.wrap n9)))).tdiv (shr IntKind.u64 (shl IntKind.u64 n2 (IntKind.u64.wrap n9)) 32)) * shr IntKind.u64 (shl IntKind.u64 n2 (IntKind.u64.wrap n9)) 32)), IntKind.u64.wrap ((IntKind.u64.wrap (IntKind.u64.wrap (IntKind.u64.wrap (IntKind.u64.wrap (↑(BitVec.ofInt 64 (shl IntKind.u64 n0 (IntKind.u64.wrap n9)) ||| BitVec.ofInt 64 (shr IntKind.u64 n1 (IntKind.u64.wrap (64 - IntKind.u64.wrap n9)))).toNat : Int) * 4294967296) + shr IntKind.u64 (shl IntKind.u64 n1 (IntKind.u64.wrap n9)) 32) - IntKind.u64.wrap (n10 * shl IntKind.u64 n2 (IntKind.u64.wrap n9)))).tdiv (shr IntKind.u64 (shl IntKind.u64 n2 (IntKind.u64.wrap n9)) 32))))
 (fun x12 => uncur fun n13 n14 => ifT (decide (n14 ≥ 4294967296))
 (ifT (decide (IntKind.u64.wrap (n13 + shr IntKind.u64 (shl IntKind.u64 n2 (IntKind.u64.wrap n9)) 32) ≥ 4294967296))
 (fun h15 =>
 (0 ≤ IntKind.u64.wrap n9) ∧
 Q [.one (.int .u64 (IntKind.u64.wrap (IntKind.u64.wrap (n10 * 4294967296) + IntKind.u64.wrap (n14 - 1)))), .one (.int .u64 (shr IntKind.u64 (IntKind.u64.wrap (IntKind.u64.wrap (IntKind.u64.wrap (IntKind.u64.wrap (IntKind.u64.wrap (IntKind.u64.wrap (IntKind.u64.wrap (↑(BitVec.ofInt 64 (shl IntKind.u64 n0 (IntKind.u64.wrap n9)) ||| BitVec.ofInt 64 (shr IntKind.u64 n1 (IntKind.u64.wrap (64 - IntKind.u64.wrap n9)))).toNat : Int) * 4294967296) + shr IntKind.u64 (shl IntKind.u64 n1 (IntKind.u64.wrap n9)) 32) - IntKind.u64.wrap (n10 * shl IntKind.u64 n2 (IntKind.u64.wrap n9))) * 4294967296) + IntKind.u64.wrap (↑(BitVec.ofInt 64 (shl IntKind.u64 n1 (IntKind.u64.wrap n9)) &&& BitVec.ofInt 64 4294967295).toNat : Int)) - IntKind.u64.wrap (IntKind.u64.wrap (n14 - 1) * shl IntKind.u64 n2 (IntKind.u64.wrap n9)))) (IntKind.u64.wrap n9)))] h15)
 (x12 ((IntKind.u64.wrap (n13 + shr IntKind.u64 (shl IntKind.u64 n2 (IntKind.u64.wrap n9)) 32), IntKind.u64.wrap (n14 - 1)))))
 (ifT (decide (IntKind.u64.wrap (n14 * IntKind.u64.wrap (↑(BitVec.ofInt 64 (shl IntKind.u64 n2 (IntKind.u64.wrap n9)) &&& BitVec.ofInt 64 4294967295).toNat : Int)) > IntKind.u64.wrap (IntKind.u64.wrap (4294967296 * n13) + IntKind.u64.wrap (↑(BitVec.ofInt 64 (shl IntKind.u64 n1 (IntKind.u64.wrap n9)) &&& BitVec.ofInt 64 4294967295).toNat : Int))))
 (ifT (decide (IntKind.u64.wrap (n13 + shr IntKind.u64 (shl IntKind.u64 n2 (IntKind.u64.wrap n9)) 32) ≥ 4294967296))
 (fun h16 =>
 (0 ≤ IntKind.u64.wrap n9) ∧
 Q [.one (.int .u64 (IntKind.u64.wrap (IntKind.u64.wrap (n10 * 4294967296) + IntKind.u64.wrap (n14 - 1)))), .one (.int .u64 (shr IntKind.u64 (IntKind.u64.wrap (IntKind.u64.wrap (IntKind.u64.wrap (IntKind.u64.wrap (IntKind.u64.wrap (IntKind.u64.wrap (IntKind.u64.wrap (↑(BitVec.ofInt 64 (shl IntKind.u64 n0 (IntKind.u64.wrap n9)) ||| BitVec.ofInt 64 (shr IntKind.u64 n1 (IntKind.u64.wrap (64 - IntKind.u64.wrap n9)))).toNat : Int) * 4294967296) + shr IntKind.u64 (shl IntKind.u64 n1 (IntKind.u64.wrap n9)) 32) - IntKind.u64.wrap (n10 * shl IntKind.u64 n2 (IntKind.u64.wrap n9))) * 4294967296) + IntKind.u64.wrap (↑(BitVec.ofInt 64 (shl IntKind.u64 n1 (IntKind.u64.wrap n9)) &&& BitVec.ofInt 64 4294967295).toNat : Int)) - IntKind.u64.wrap (IntKind.u64.wrap (n14 - 1) * shl IntKind.u64 n2 (IntKind.u64.wrap n9)))) (IntKind.u64.wrap n9)))] h16)
 (x12 ((IntKind.u64.wrap (n13 + shr IntKind.u64 (shl IntKind.u64 n2 (IntKind.u64.wrap n9)) 32), IntKind.u64.wrap (n14 - 1)))))
 (fun h17 =>
 (0 ≤ IntKind.u64.wrap n9) ∧
 Q [.one (.int .u64 (IntKind.u64.wrap (IntKind.u64.wrap (n10 * 4294967296) + n14))), .one (.int .u64 (shr IntKind.u64 (IntKind.u64.wrap (IntKind.u64.wrap (IntKind.u64.wrap (IntKind.u64.wrap (IntKind.u64.wrap (IntKind.u64.wrap (IntKind.u64.wrap (↑(BitVec.ofInt 64 (shl IntKind.u64 n0 (IntKind.u64.wrap n9)) ||| BitVec.ofInt 64 (shr IntKind.u64 n1 (IntKind.u64.wrap (64 - IntKind.u64.wrap n9)))).toNat : Int) * 4294967296) + shr IntKind.u64 (shl IntKind.u64 n1 (IntKind.u64.wrap n9)) 32) - IntKind.u64.wrap (n10 * shl IntKind.u64 n2 (IntKind.u64.wrap n9))) * 4294967296) + IntKind.u64.wrap (↑(BitVec.ofInt 64 (shl IntKind.u64 n1 (IntKind.u64.wrap n9)) &&& BitVec.ofInt 64 4294967295).toNat : Int)) - IntKind.u64.wrap (n14 * shl IntKind.u64 n2 (IntKind.u64.wrap n9)))) (IntKind.u64.wrap n9)))] h17)))) h11)
 (fun x18 => loopK (A := Int × Int) ((IntKind.u64.wrap ((IntKind.u64.wrap (↑(BitVec.ofInt 64 (shl IntKind.u64 n0 (IntKind.u64.wrap n9)) ||| BitVec.ofInt 64 (shr IntKind.u64 n1 (IntKind.u64.wrap (64 - IntKind.u64.wrap n9)))).toNat : Int)).tdiv (shr IntKind.u64 (shl IntKind.u64 n2 (IntKind.u64.wrap n9)) 32)), IntKind.u64.wrap (IntKind.u64.wrap (↑(BitVec.ofInt 64 (shl IntKind.u64 n0 (IntKind.u64.wrap n9)) ||| BitVec.ofInt 64 (shr IntKind.u64 n1 (IntKind.u64.wrap (64 - IntKind.u64.wrap n9)))).toNat : Int) - IntKind.u64.wrap (IntKind.u64.wrap ((IntKind.u64.wrap (↑(BitVec.ofInt 64 (shl IntKind.u64 n0 (IntKind.u64.wrap n9)) ||| BitVec.ofInt 64 (shr IntKind.u64 n1 (IntKind.u64.wrap (64 - IntKind.u64.wrap n9)))).toNat : Int)).tdiv (shr IntKind.u64 (shl IntKind.u64 n2 (IntKind.u64.wrap n9)) 32)) * shr IntKind.u64 (shl IntKind.u64 n2 (IntKind.u64.wrap n9)) 32))))
 (fun x19 => uncur fun n20 n21 => ifT (decide (n20 ≥ 4294967296))
 (ifT (decide (IntKind.u64.wrap (n21 + shr IntKind.u64 (shl IntKind.u64 n2 (IntKind.u64.wrap n9)) 32) ≥ 4294967296))
 (x18 (IntKind.u64.wrap (n20 - 1)))
 (x19 ((IntKind.u64.wrap (n20 - 1), IntKind.u64.wrap (n21 + shr IntKind.u64 (shl IntKind.u64 n2 (IntKind.u64.wrap n9)) 32)))))
 (ifT (decide (IntKind.u64.wrap (n20 * IntKind.u64.wrap (↑(BitVec.ofInt 64 (shl IntKind.u64 n2 (IntKind.u64.wrap n9)) &&& BitVec.ofInt 64 4294967295).toNat : Int)) > IntKind.u64.wrap (IntKind.u64.wrap (4294967296 * n21) + shr IntKind.u64 (shl IntKind.u64 n1 (IntKind.u64.wrap n9)) 32)))
 (ifT (decide (IntKind.u64.wrap (n21 + shr IntKind.u64 (shl IntKind.u64 n2 (IntKind.u64.wrap n9)) 32) ≥ 4294967296))
 (x18 (IntKind.u64.wrap (n20 - 1)))
 (x19 ((IntKind.u64.wrap (n20 - 1), IntKind.u64.wrap (n21 + shr IntKind.u64 (shl IntKind.u64 n2 (IntKind.u64.wrap n9)) 32)))))
 (x18 n20))))) h8) h6))
 (fun x22 => ifT (decide (n2 ≤ n0))
 (globK 1 (fun i23 => fun i24 h25 =>
 (h25.read i24 0 1 = some [Cell.any]) ∧
 (no) h25))
 (x22 ())))
 (fun x26 => ifT (decide (n2 = 0))
 (globK 0 (fun i27 => fun i28 h29 =>
 (h29.read i28 0 1 = some [Cell.any]) ∧
 (no) h29))
 (x26 ()))
theorem den123 (I : FuncId → List V → Post → T) (n0 : Int) (n1 : Int) (n2 : Int) (Q : Post) : denF Go.Proofs.Tryz.prog 0 (⟨[(13, 2097152, []), (29, 33554432, []), (65534, 77371104881383677504880640, [(15, tk Go.Proofs.Tryz.prog 145)])], [(131068, 77371104881383677504880640, [(15, tk Go.Proofs.Tryz.prog 145), (16, tk Go.Proofs.Tryz.prog 145)]), (2097148, 2658450920967430832890008133748195328, [(16, tk Go.Proofs.Tryz.prog 145), (18, tk Go.Proofs.Tryz.prog 145)])]⟩) I 123 [V.one (Cell.int IntKind.u64 n0), V.one (Cell.int IntKind.u64 n1), V.one (Cell.int IntKind.u64 n2)] Q = vc123 I n0 n1 n2 Q := by kernel_rfl
end Go.Proofs.YtdjancoknephnaaGreatVc
