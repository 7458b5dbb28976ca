/- GainsShared: the functions that GainsAddUp does not reach -/
import Derived.Test.YtfemminjhecocaaGreatDoorVcGaVc
set_option linter.unusedVariables false
set_option maxRecDepth 100000
namespace Go.Proofs.YtfemminjhecocaaGreatDoorVc
/-- handbill/handlaw1.GainsShared -/
def vc7 (I : FuncId → List V → Post → T) (l0 : Sl) (Q : Post) : T :=
  fun h1 =>
  (newK (.cells false [Cell.slice 1 l0, Cell.int IntKind.i64 0]) (fun i2 => fun h3 => 
  I 24 [V.one (Cell.ptr (some (i2, 0))), V.one (Cell.int IntKind.i64 20)]
    (fun cs4 => fun h5 => 
    ∃ l6 : Sl, (cs4 = [V.one (Cell.slice 4 l6)]) ∧
    I 25 [V.one (Cell.ptr (some (i2, 0)))]
      (fun cs7 => fun h8 => 
      ∃ l9 : Sl, (cs7 = [V.one (Cell.slice 4 l9)]) ∧
      I 26 [V.one (Cell.ptr (some (i2, 0))), V.one (Cell.int IntKind.i64 1), V.one (Cell.int IntKind.i64 6)]
        (fun cs10 => fun h11 => 
        ∃ n12 : Int, (cs10 = [V.one (Cell.int IntKind.i64 n12)]) ∧
        (newK (.cells false [Cell.int IntKind.i64 1, Cell.int IntKind.i64 50, Cell.int IntKind.i64 300, Cell.int IntKind.i64 1000]) (fun i13 => fun h14 =>
        I 20 [V.one (Cell.ptr (some (i2, 0))), V.one (Cell.slice 1 { a := some (i13, 0), len := 4 })]
          (fun cs15 => fun h16 => 
          ∃ n17 : Int, (cs15 = [V.one (Cell.int IntKind.i64 n17)]) ∧
          I 11 [V.one (Cell.ptr (some (i2, 0))), V.one (Cell.int IntKind.i64 12)]
            (fun cs18 => fun h19 => 
            ∃ b20 : Bool, (cs18 = [V.one (Cell.bool b20)]) ∧
            (joinK (A := Int × Int)
              (uncur fun n21 n22 => fun h23 => 
              I 27 [V.one (Cell.slice 4 l6), V.one (Cell.slice 4 l9), V.one (Cell.int IntKind.i64 n21), V.one (Cell.int IntKind.i64 n22)]
                (fun cs24 => fun h25 => 
                ∃ l26 : Sl, ∃ n27 : Int, ∃ n28 : Int, (cs24 = [V.one (Cell.slice 3 l26), V.one (Cell.int IntKind.i64 n27), V.one (Cell.int IntKind.i64 n28)]) ∧
                I 41 [V.one (Cell.slice 4 l6), V.one (Cell.slice 4 l9), V.one (Cell.int IntKind.i64 n21), V.one (Cell.int IntKind.i64 n22)]
                  (fun cs29 => fun h30 => 
                  ∃ l31 : Sl, ∃ n32 : Int, ∃ n33 : Int, (cs29 = [V.one (Cell.slice 3 l31), V.one (Cell.int IntKind.i64 n32), V.one (Cell.int IntKind.i64 n33)]) ∧
                  I 40 []
                    (fun cs34 => fun h35 => 
                    ∃ b36 : Bool, (cs34 = [V.one (Cell.bool b36)]) ∧
                    (ifT b36
                      (ifT (decide (n28 = n33))
                        (ifT (decide (n27 = n32))
                          (fun h37 =>
                          I 42 [V.one (Cell.slice 3 l26), V.one (Cell.slice 3 l31)]
                            (fun cs38 => fun h39 => 
                            ∃ b40 : Bool, (cs38 = [V.one (Cell.bool b40)]) ∧
                            Q [V.one (Cell.bool b40)] h39) h37)
                          (Q [V.one (Cell.bool false)]))
                        (Q [V.one (Cell.bool false)]))
                      (Q [V.one (Cell.bool false)])) h35) h30) h25) h23)
              (fun x41 => ifT b20
                (fun h42 =>
                I 26 [V.one (Cell.ptr (some (i2, 0))), V.one (Cell.int IntKind.i64 0), V.one (Cell.int IntKind.i64 7)]
                  (fun cs43 => fun h44 => 
                  ∃ n45 : Int, (cs43 = [V.one (Cell.int IntKind.i64 n45)]) ∧
                  (newK (.cells false [Cell.int IntKind.i64 0, Cell.int IntKind.i64 5, Cell.int IntKind.i64 4321441]) (fun i46 => fun h47 =>
                  I 20 [V.one (Cell.ptr (some (i2, 0))), V.one (Cell.slice 1 { a := some (i46, 0), len := 3 })]
                    (fun cs48 => fun h49 => 
                    ∃ n50 : Int, (cs48 = [V.one (Cell.int IntKind.i64 n50)]) ∧
                    x41 ((n45, n50)) h49) h47)) h44) h42)
                (x41 ((n12, n17))))) h19) h16) h14)) h11) h8) h5) h3)) h1
theorem den7 (I : FuncId → List V → Post → T) (l0 : Sl) (Q : Post) : denF Go.Proofs.Tryz.prog 0 (⟨[(125, 8321499328, [(6, tk Go.Proofs.Tryz.prog 3), (7, tk Go.Proofs.Tryz.prog 3)])], []⟩) I 7 [V.one (Cell.slice 1 l0)] Q = vc7 I l0 Q := by kernel_rfl
/-- handbill/handlaw1.measures -/
def vc40 (I : FuncId → List V → Post → T) (Q : Post) : T :=
  fun h0 =>
  I 77 [V.one (Cell.int IntKind.i64 2), V.one (Cell.int IntKind.i64 4)]
    (fun cs1 => fun h2 => 
    ∃ n3 : Int, ∃ n4 : Int, ∃ n5 : Int, (cs1 = [V.agg [Cell.int IntKind.i64 n3, Cell.int IntKind.i64 n4], V.one (Cell.int IntKind.i64 n5)]) ∧
    (ifT (decide (n5 = 0))
      (Q [V.one (Cell.bool (decide (n3 = 1) && decide (n4 = 2)))])
      (Q [V.one (Cell.bool false)])) h2) h0
theorem den40 (I : FuncId → List V → Post → T) (Q : Post) : denF Go.Proofs.Tryz.prog 2 (⟨[], []⟩) I 40 [] Q = vc40 I Q := by kernel_rfl
/-- handbill/handref1.AttributeOf -/
def vc41 (I : FuncId → List V → Post → T) (l0 : Sl) (l1 : Sl) (n2 : Int) (n3 : Int) (Q : Post) : T :=
  fun h4 =>
  I 29 [V.one (Cell.slice 4 l0)]
    (fun cs5 => fun h6 => 
    ∃ n7 : Int, (cs5 = [V.one (Cell.int IntKind.i64 n7)]) ∧
    I 30 [V.one (Cell.slice 4 l1)]
      (fun cs8 => fun h9 => 
      ∃ n10 : Int, (cs8 = [V.one (Cell.int IntKind.i64 n10)]) ∧
      (newK (.cells false [Cell.int IntKind.i64 n7, Cell.int IntKind.i64 n10]) (fun i11 => fun h12 =>
      I 54 [V.one (Cell.slice 1 { a := some (i11, 0), len := 2 })]
        (fun cs13 => fun h14 => 
        ∃ n15 : Int, (cs13 = [V.one (Cell.int IntKind.i64 n15)]) ∧
        (ifT (!decide (n15 = 0))
          (Q [V.one (Cell.slice 3 { a := none, len := 0 }), V.one (Cell.int IntKind.i64 0), V.one (Cell.int IntKind.i64 n15)])
          (fun h16 =>
          I 98 [V.one (Cell.int IntKind.i64 n2), V.one (Cell.int IntKind.i64 n3), V.one (Cell.slice 1 { a := none, len := 0 })]
            (fun cs17 => fun h18 => 
            ∃ l19 : Sl, ∃ n20 : Int, (cs17 = [V.one (Cell.slice 1 l19), V.one (Cell.int IntKind.i64 n20)]) ∧
            (ifT (!decide (n20 = 0))
              (Q [V.one (Cell.slice 3 { a := none, len := 0 }), V.one (Cell.int IntKind.i64 0), V.one (Cell.int IntKind.i64 n20)])
              (fun h21 =>
              (newK (.map []) (fun i22 => loopK (A := Int × Int) ((0, 0))
                (fun x23 => uncur fun n24 n25 => ifT (decide (n25 < (↑l1.len : Int)))
                  (fun h26 =>
                  ((0 ≤ n25) ∧
                  n25 < (↑l1.len : Int)) ∧
                  (derefK l1.a (fun i27 => fun i28 => fun h29 =>
                  ∃ s30 : ByteArray, ∃ s31 : ByteArray, ∃ n32 : Int, ∃ n33 : Int, (h29.read i27 (i28 + n25.toNat * 4) 4 = some [Cell.str s30, Cell.str s31, Cell.int IntKind.i64 n32, Cell.int IntKind.i64 n33]) ∧
                  I 99 [V.one (Cell.slice 4 l0), V.agg [Cell.str s30, Cell.str s31, Cell.int IntKind.i64 n32, Cell.int IntKind.i64 n33], V.one (Cell.int IntKind.i64 n3)]
                    (fun cs34 => fun h35 => 
                    ∃ l36 : Sl, (cs34 = [V.one (Cell.slice 1 l36)]) ∧
                    (ifT (decide ((↑l36.len : Int) = 0))
                      (x23 ((IntKind.i64.wrap (n24 + n33), IntKind.i64.wrap (n25 + 1))))
                      (loopK (A := Sl × Int) (({ a := none, len := 0 }, 0))
                        (fun x37 => uncur fun l38 n39 => ifT (decide (n39 < (↑l36.len : Int)))
                          (fun h40 =>
                          ((0 ≤ n39) ∧
                          n39 < (↑l36.len : Int)) ∧
                          (derefK l36.a (fun i41 => fun i42 => fun h43 =>
                          ∃ n44 : Int, (h43.read i41 (i42 + n39.toNat * 1) 1 = some [Cell.int IntKind.i64 n44]) ∧
                          ((0 ≤ n44) ∧
                          n44 < (↑l0.len : Int)) ∧
                          (derefK l0.a (fun i45 => fun i46 => fun h47 =>
                          ∃ n48 : Int, (h47.read i45 (i46 + n44.toNat * 4 + 3) 1 = some [Cell.int IntKind.i64 n48]) ∧
                          (appendTo [] 1 8 l38 1 [Cell.int IntKind.i64 (IntKind.i64.wrap (n32 - n48))] (fun l49 => fun h50 => 
                          x37 ((l49, IntKind.i64.wrap (n39 + 1))) h50)) h47)) h43)) h40)
                          (fun h51 =>
                          I 98 [V.one (Cell.int IntKind.i64 n2), V.one (Cell.int IntKind.i64 n3), V.one (Cell.slice 1 l38)]
                            (fun cs52 => fun h53 => 
                            ∃ l54 : Sl, ∃ n55 : Int, (cs52 = [V.one (Cell.slice 1 l54), V.one (Cell.int IntKind.i64 n55)]) ∧
                            (newK (.map []) (fun i56 => fun h57 => 
                            I 100 [V.one (Cell.int IntKind.i64 n33), V.one (Cell.slice 1 l54), V.one (Cell.bool true)]
                              (fun cs58 => fun h59 => 
                              ∃ l60 : Sl, (cs58 = [V.one (Cell.slice 1 l60)]) ∧
                              (loopK (A := Int) 0
                                (fun x61 => fun n62 => ifT (decide (n62 < (↑l60.len : Int)))
                                  (fun h63 =>
                                  ((0 ≤ n62) ∧
                                  n62 < (↑l60.len : Int)) ∧
                                  (derefK l60.a (fun i64 => fun i65 => fun h66 =>
                                  ∃ n67 : Int, (h66.read i64 (i65 + n62.toNat * 1) 1 = some [Cell.int IntKind.i64 n67]) ∧
                                  ((0 ≤ n62) ∧
                                  n62 < (↑l36.len : Int)) ∧
                                  (derefK l36.a (fun i68 => fun i69 => fun h70 =>
                                  ∃ n71 : Int, (h70.read i68 (i69 + n62.toNat * 1) 1 = some [Cell.int IntKind.i64 n71]) ∧
                                  ((0 ≤ n71) ∧
                                  n71 < (↑l0.len : Int)) ∧
                                  (derefK l0.a (fun i72 => fun i73 => fun h74 =>
                                  ∃ s75 : ByteArray, (h74.read i72 (i73 + n71.toNat * 4 + 2) 1 = some [Cell.str s75]) ∧
                                  ∃ s76 : ByteArray, ∃ n77 : Int, ∃ n78 : Int, ∃ b79 : Bool, (∃ cs80 : List (V × V), (mapOf h74 (some i22) = some cs80) ∧
                                  mapGet (V.one (Cell.str s75)) (V.agg [Cell.str ByteArray.empty, Cell.int IntKind.i64 0, Cell.int IntKind.i64 0]) cs80 = some (V.agg [Cell.str s76, Cell.int IntKind.i64 n77, Cell.int IntKind.i64 n78], b79)) ∧
                                  (joinK (A := Bool)
                                    (fun b81 => ifT b81
                                      (fun h82 =>
                                      (mapK [] (some i56) (V.one (Cell.str s75)) (V.one (Cell.bool true)) (fun h83 =>
                                      (mapK [] (some i22) (V.one (Cell.str s75)) (V.agg [Cell.str s75, Cell.int IntKind.i64 (IntKind.i64.wrap (n77 + 1)), Cell.int IntKind.i64 (IntKind.i64.wrap (n78 + n67))]) (x61 (IntKind.i64.wrap (n62 + 1)))) h83)) h82)
                                      (fun h84 =>
                                      (mapK [] (some i22) (V.one (Cell.str s75)) (V.agg [Cell.str s75, Cell.int IntKind.i64 n77, Cell.int IntKind.i64 (IntKind.i64.wrap (n78 + n67))]) (x61 (IntKind.i64.wrap (n62 + 1)))) h84))
                                    (fun x85 => fun h86 => 
                                    ((0 ≤ n62) ∧
                                    n62 < (↑l54.len : Int)) ∧
                                    (derefK l54.a (fun i87 => fun i88 => fun h89 =>
                                    ∃ n90 : Int, (h89.read i87 (i88 + n62.toNat * 1) 1 = some [Cell.int IntKind.i64 n90]) ∧
                                    (ifT (decide (n90 > 0))
                                      (fun h91 =>
                                      ∃ b92 : Bool, ∃ b93 : Bool, (∃ cs94 : List (V × V), (mapOf h91 (some i56) = some cs94) ∧
                                      mapGet (V.one (Cell.str s75)) (V.one (Cell.bool false)) cs94 = some (V.one (Cell.bool b92), b93)) ∧
                                      x85 (!b92) h91)
                                      (x85 false)) h89)) h86)) h74)) h70)) h66)) h63)
                                  (x23 ((n24, IntKind.i64.wrap (n25 + 1)))))) h59) h57)) h53) h51)))) h35) h29)) h26)
                  (fun h95 =>
                  (rangeK i22 (fun i96 => loopK (A := Sl) ({ a := none, len := 0 })
                    (fun x97 => fun l98 => fun h99 => 
                    (nextK i96
                      (fun h100 =>
                      I 101 [V.one (Cell.slice 3 l98), V.one (Cell.func (some (102, [])))]
                        (fun cs101 => fun h102 => 
                        (cs101 = []) ∧
                        Q [V.one (Cell.slice 3 l98), V.one (Cell.int IntKind.i64 n24), V.one (Cell.int IntKind.i64 0)] h102) h100)
                      (fun x103 => fun x104 => fun h105 => 
                      ∃ s106 : ByteArray, ∃ s107 : ByteArray, ∃ n108 : Int, ∃ n109 : Int, (x103 = V.one (Cell.str s106)) ∧
                      (x104 = V.agg [Cell.str s107, Cell.int IntKind.i64 n108, Cell.int IntKind.i64 n109]) ∧
                      (entryK i96 (fun x110 => fun x111 => fun h112 => 
                      ∃ s113 : ByteArray, ∃ s114 : ByteArray, ∃ n115 : Int, ∃ n116 : Int, (x110 = V.one (Cell.str s113)) ∧
                      (x111 = V.agg [Cell.str s114, Cell.int IntKind.i64 n115, Cell.int IntKind.i64 n116]) ∧
                      (ifT (decide (n115 > 0))
                        (fun h117 =>
                        (appendTo [] 3 32 l98 1 [Cell.str s114, Cell.int IntKind.i64 n115, Cell.int IntKind.i64 n116] (fun l118 => fun h119 => 
                        x97 l118 h119)) h117)
                        (x97 l98)) h112)) h105)) h99))) h95)))) h21)) h18) h16)) h14) h12)) h9) h6) h4
theorem den41 (I : FuncId → List V → Post → T) (l0 : Sl) (l1 : Sl) (n2 : Int) (n3 : Int) (Q : Post) : denF Go.Proofs.Tryz.prog 2416050176 (⟨[(16992170812, 10883718829486891167336372209575461388288, [(132, tk Go.Proofs.Tryz.prog 4)])], [(506, 22300745198530623141535718263641162786963456, [(15, tk Go.Proofs.Tryz.prog 3), (53, tk Go.Proofs.Tryz.prog 3)]), (2042, 182598501685568742282894461216444784013652000768, [(29, tk Go.Proofs.Tryz.prog 58)]), (2074234, 77370071863715549772513280, [(19, tk Go.Proofs.Tryz.prog 22), (70, tk Go.Proofs.Tryz.prog 3)]), (8296958, 11150372599264677745467745021623432904704000, [(99, tk Go.Proofs.Tryz.prog 3)])]⟩) I 41 [V.one (Cell.slice 4 l0), V.one (Cell.slice 4 l1), V.one (Cell.int IntKind.i64 n2), V.one (Cell.int IntKind.i64 n3)] Q = vc41 I l0 l1 n2 n3 Q := by kernel_rfl
/-- slices.Equal[[]handbill/api.Credit,handbill/api.Credit] -/
def vc42 (I : FuncId → List V → Post → T) (l0 : Sl) (l1 : Sl) (Q : Post) : T :=
  ifT (!decide ((↑l0.len : Int) = (↑l1.len : Int)))
    (Q [V.one (Cell.bool false)])
    (loopK (A := Int) 0
      (fun x2 => fun n3 => ifT (decide (n3 < (↑l0.len : Int)))
        (fun h4 =>
        ((0 ≤ n3) ∧
        n3 < (↑l0.len : Int)) ∧
        (derefK l0.a (fun i5 => fun i6 => fun h7 =>
        ∃ s8 : ByteArray, ∃ n9 : Int, ∃ n10 : Int, (h7.read i5 (i6 + n3.toNat * 3) 3 = some [Cell.str s8, Cell.int IntKind.i64 n9, Cell.int IntKind.i64 n10]) ∧
        ((0 ≤ n3) ∧
        n3 < (↑l1.len : Int)) ∧
        (derefK l1.a (fun i11 => fun i12 => fun h13 =>
        ∃ s14 : ByteArray, ∃ n15 : Int, ∃ n16 : Int, (h13.read i11 (i12 + n3.toNat * 3) 3 = some [Cell.str s14, Cell.int IntKind.i64 n15, Cell.int IntKind.i64 n16]) ∧
        (ifT (!(decide (s8 = s14) && (decide (n9 = n15) && decide (n10 = n16))))
          (Q [V.one (Cell.bool false)])
          (x2 (IntKind.i64.wrap (n3 + 1)))) h13)) h7)) h4)
        (Q [V.one (Cell.bool true)])))
theorem den42 (I : FuncId → List V → Post → T) (l0 : Sl) (l1 : Sl) (Q : Post) : denF Go.Proofs.Tryz.prog 0 (⟨[], [(58, 67100720, [(13, tk Go.Proofs.Tryz.prog 3)])]⟩) I 42 [V.one (Cell.slice 3 l0), V.one (Cell.slice 3 l1)] Q = vc42 I l0 l1 Q := by kernel_rfl
/-- cmp.Or[handbill/api.Errno] -/
def vc54 (I : FuncId → List V → Post → T) (l0 : Sl) (Q : Post) : T :=
  loopK (A := Int) 0
    (fun x1 => fun n2 => ifT (decide (n2 < (↑l0.len : Int)))
      (fun h3 =>
      ((0 ≤ n2) ∧
      n2 < (↑l0.len : Int)) ∧
      (derefK l0.a (fun i4 => fun i5 => fun h6 =>
      ∃ n7 : Int, (h6.read i4 (i5 + n2.toNat * 1) 1 = some [Cell.int IntKind.i64 n7]) ∧
      (ifT (!decide (n7 = 0))
        (Q [V.one (Cell.int IntKind.i64 n7)])
        (x1 (IntKind.i64.wrap (n2 + 1)))) h6)) h3)
      (Q [V.one (Cell.int IntKind.i64 0)]))
theorem den54 (I : FuncId → List V → Post → T) (l0 : Sl) (Q : Post) : denF Go.Proofs.Tryz.prog 0 (⟨[], [(58, 130852, [(8, tk Go.Proofs.Tryz.prog 3)])]⟩) I 54 [V.one (Cell.slice 1 l0)] Q = vc54 I l0 Q := by kernel_rfl
/-- strings.Compare -/
def vc63 (I : FuncId → List V → Post → T) (s0 : ByteArray) (s1 : ByteArray) (Q : Post) : T :=
  fun h2 =>
  I 120 [V.one (Cell.str s0), V.one (Cell.str s1)]
    (fun cs3 => fun h4 => 
    ∃ n5 : Int, (cs3 = [V.one (Cell.int IntKind.i64 n5)]) ∧
    Q [V.one (Cell.int IntKind.i64 n5)] h4) h2
theorem den63 (I : FuncId → List V → Post → T) (s0 : ByteArray) (s1 : ByteArray) (Q : Post) : denF Go.Proofs.Tryz.prog 0 (⟨[], []⟩) I 63 [V.one (Cell.str s0), V.one (Cell.str s1)] Q = vc63 I s0 s1 Q := by kernel_rfl
/-- handbill/handref1.total -/
def vc65 (I : FuncId → List V → Post → T) (l0 : Sl) (Q : Post) : T :=
  loopK (A := Int × Int) ((0, 0))
    (fun x1 => uncur fun n2 n3 => ifT (decide (n3 < (↑l0.len : Int)))
      (fun h4 =>
      ((0 ≤ n3) ∧
      n3 < (↑l0.len : Int)) ∧
      (derefK l0.a (fun i5 => fun i6 => fun h7 =>
      ∃ n8 : Int, (h7.read i5 (i6 + n3.toNat * 1) 1 = some [Cell.int IntKind.i64 n8]) ∧
      x1 ((IntKind.i64.wrap (n2 + n8), IntKind.i64.wrap (n3 + 1))) h7)) h4)
      (Q [V.one (Cell.int IntKind.i64 n2)]))
theorem den65 (I : FuncId → List V → Post → T) (l0 : Sl) (Q : Post) : denF Go.Proofs.Tryz.prog 0 (⟨[], [(58, 65320, [(3, tk Go.Proofs.Tryz.prog 3), (8, tk Go.Proofs.Tryz.prog 3)])]⟩) I 65 [V.one (Cell.slice 1 l0)] Q = vc65 I l0 Q := by kernel_rfl
/-- handbill/handref1.WeightsOf -/
def vc98 (I : FuncId → List V → Post → T) (n0 : Int) (n1 : Int) (l2 : Sl) (Q : Post) : T :=
  joinK (A := Bool)
    (fun b3 => ifT b3
      (Q [V.one (Cell.slice 1 { a := none, len := 0 }), V.one (Cell.int IntKind.i64 4)])
      (joinK (A := Bool)
        (fun b4 => ifT b4
          (Q [V.one (Cell.slice 1 { a := none, len := 0 }), V.one (Cell.int IntKind.i64 1)])
          (ifT (decide ((↑l2.len : Int) > 12))
            (Q [V.one (Cell.slice 1 { a := none, len := 0 }), V.one (Cell.int IntKind.i64 2)])
            (loopK (A := Sl × Int) (({ a := none, len := 0 }, 0))
              (fun x5 => uncur fun l6 n7 => ifT (decide (n7 < (↑l2.len : Int)))
                (fun h8 =>
                ((0 ≤ n7) ∧
                n7 < (↑l2.len : Int)) ∧
                (derefK l2.a (fun i9 => fun i10 => fun h11 =>
                ∃ n12 : Int, (h11.read i9 (i10 + n7.toNat * 1) 1 = some [Cell.int IntKind.i64 n12]) ∧
                (joinK (A := Bool)
                  (fun b13 => ifT b13
                    (Q [V.one (Cell.slice 1 { a := none, len := 0 }), V.one (Cell.int IntKind.i64 1)])
                    (joinK (A := Bool)
                      (fun b14 => ifT b14
                        (Q [V.one (Cell.slice 1 { a := none, len := 0 }), V.one (Cell.int IntKind.i64 7)])
                        (fun h15 =>
                        I 140 [V.one (Cell.int IntKind.i64 n0), V.one (Cell.int IntKind.i64 n1), V.one (Cell.int IntKind.i64 n7), V.one (Cell.int IntKind.i64 (↑l2.len : Int)), V.one (Cell.int IntKind.i64 n12)]
                          (fun cs16 => fun h17 => 
                          ∃ n18 : Int, (cs16 = [V.one (Cell.int IntKind.i64 n18)]) ∧
                          (appendTo [] 1 8 l6 1 [Cell.int IntKind.i64 n18] (fun l19 => fun h20 => 
                          x5 ((l19, IntKind.i64.wrap (n7 + 1))) h20)) h17) h15))
                      (fun x21 => ifT (decide (n7 > 0))
                        (fun h22 =>
                        ((0 ≤ IntKind.i64.wrap (n7 - 1)) ∧
                        IntKind.i64.wrap (n7 - 1) < (↑l2.len : Int)) ∧
                        (derefK l2.a (fun i23 => fun i24 => fun h25 =>
                        ∃ n26 : Int, (h25.read i23 (i24 + (IntKind.i64.wrap (n7 - 1)).toNat * 1) 1 = some [Cell.int IntKind.i64 n26]) ∧
                        x21 (decide (n12 > n26)) h25)) h22)
                        (x21 false))))
                  (fun x27 => ifT (decide (n12 < 1))
                    (x27 true)
                    (x27 (decide (n12 > n1))))) h11)) h8)
                (Q [V.one (Cell.slice 1 l6), V.one (Cell.int IntKind.i64 0)])))))
        (fun x28 => ifT (decide (n1 < 1))
          (x28 true)
          (x28 (decide (n1 > 4321440))))))
    (fun x29 => ifT (decide (n0 < 1))
      (x29 true)
      (x29 (decide (n0 > 6))))
theorem den98 (I : FuncId → List V → Post → T) (n0 : Int) (n1 : Int) (l2 : Sl) (Q : Post) : denF Go.Proofs.Tryz.prog 0 (⟨[(24, 260096, [(11, tk Go.Proofs.Tryz.prog 4)]), (102, 33292288, [(18, tk Go.Proofs.Tryz.prog 4)]), (31332, 8727373545472, [(42, tk Go.Proofs.Tryz.prog 4)]), (62668, 18005602416459776, [(53, tk Go.Proofs.Tryz.prog 4)])], [(122, 36893488145271621568, [(8, tk Go.Proofs.Tryz.prog 22), (31, tk Go.Proofs.Tryz.prog 3)])]⟩) I 98 [V.one (Cell.int IntKind.i64 n0), V.one (Cell.int IntKind.i64 n1), V.one (Cell.slice 1 l2)] Q = vc98 I n0 n1 l2 Q := by kernel_rfl
/-- handbill/handref1.PathOf -/
def vc99 (I : FuncId → List V → Post → T) (l0 : Sl) (s1 : ByteArray) (s2 : ByteArray) (n3 : Int) (n4 : Int) (n5 : Int) (Q : Post) : T :=
  loopK (A := Sl × Int) (({ a := none, len := 0 }, IntKind.i64.wrap ((↑l0.len : Int) - 1)))
    (fun x6 => uncur fun l7 n8 => joinK (A := Bool)
      (fun b9 => ifT b9
        (fun h10 =>
        ((0 ≤ n8) ∧
        n8 < (↑l0.len : Int)) ∧
        (derefK l0.a (fun i11 => fun i12 => fun h13 =>
        ∃ n14 : Int, (h13.read i11 (i12 + n8.toNat * 4 + 3) 1 = some [Cell.int IntKind.i64 n14]) ∧
        ((0 ≤ n8) ∧
        n8 < (↑l0.len : Int)) ∧
        (derefK l0.a (fun i15 => fun i16 => fun h17 =>
        ∃ s18 : ByteArray, (h17.read i15 (i16 + n8.toNat * 4 + 1) 1 = some [Cell.str s18]) ∧
        (ifT (decide (s18 = s2))
          (ifT (decide (IntKind.i64.wrap (n3 - n14) > 0))
            (ifT (decide (IntKind.i64.wrap (n3 - n14) ≤ n5))
              (fun h19 =>
              (appendTo [] 1 8 l7 1 [Cell.int IntKind.i64 n8] (fun l20 => fun h21 => 
              x6 ((l20, IntKind.i64.wrap (n8 - 1))) h21)) h19)
              (x6 ((l7, IntKind.i64.wrap (n8 - 1)))))
            (x6 ((l7, IntKind.i64.wrap (n8 - 1)))))
          (x6 ((l7, IntKind.i64.wrap (n8 - 1))))) h17)) h13)) h10)
        (fun h22 =>
        I 141 [V.one (Cell.slice 1 l7)]
          (fun cs23 => fun h24 => 
          (cs23 = []) ∧
          Q [V.one (Cell.slice 1 l7)] h24) h22))
      (fun x25 => ifT (decide (n8 ≥ 0))
        (x25 (decide ((↑l7.len : Int) < 12)))
        (x25 false)))
theorem den99 (I : FuncId → List V → Post → T) (l0 : Sl) (s1 : ByteArray) (s2 : ByteArray) (n3 : Int) (n4 : Int) (n5 : Int) (Q : Post) : denF Go.Proofs.Tryz.prog 16 (⟨[(464, 1040384, [(19, tk Go.Proofs.Tryz.prog 4)])], [(58, 2251799813677952, [(7, tk Go.Proofs.Tryz.prog 22), (8, tk Go.Proofs.Tryz.prog 3)])]⟩) I 99 [V.one (Cell.slice 4 l0), V.agg [Cell.str s1, Cell.str s2, Cell.int IntKind.i64 n3, Cell.int IntKind.i64 n4], V.one (Cell.int IntKind.i64 n5)] Q = vc99 I l0 s1 s2 n3 n4 n5 Q := by kernel_rfl
/-- handbill/handref1.dealt -/
def vc100 (I : FuncId → List V → Post → T) (n0 : Int) (l1 : Sl) (b2 : Bool) (Q : Post) : T :=
  fun h3 =>
  I 65 [V.one (Cell.slice 1 l1)]
    (fun cs4 => fun h5 => 
    ∃ n6 : Int, (cs4 = [V.one (Cell.int IntKind.i64 n6)]) ∧
    (true = true) ∧
    (0 ≤ (↑l1.len : Int)) ∧
    ((↑l1.len : Int) ≤ (↑l1.len : Int)) ∧
    ((↑l1.len : Int) * (↑8 : Int) ≤ 140737488355328) ∧
    (newK (.cells false (slCells (VK.one (Kd.int IntKind.i64)) (↑l1.len : Int).toNat)) (fun i7 => fun h8 => 
    (true = true) ∧
    (0 ≤ (↑l1.len : Int)) ∧
    ((↑l1.len : Int) ≤ (↑l1.len : Int)) ∧
    ((↑l1.len : Int) * (↑8 : Int) ≤ 140737488355328) ∧
    (newK (.cells false (slCells (VK.one (Kd.int IntKind.u64)) (↑l1.len : Int).toNat)) (fun i9 => loopK (A := Int) 0
      (fun x10 => fun n11 => ifT (decide (n11 < (↑l1.len : Int)))
        (fun h12 =>
        ((0 ≤ n11) ∧
        n11 < (↑l1.len : Int)) ∧
        (derefK l1.a (fun i13 => fun i14 => fun h15 =>
        ∃ n16 : Int, (h15.read i13 (i14 + n11.toNat * 1) 1 = some [Cell.int IntKind.i64 n16]) ∧
        I 142 [V.one (Cell.int IntKind.u64 (IntKind.u64.wrap n0)), V.one (Cell.int IntKind.u64 (IntKind.u64.wrap n16))]
          (fun cs17 => fun h18 => 
          ∃ n19 : Int, ∃ n20 : Int, (cs17 = [V.one (Cell.int IntKind.u64 n19), V.one (Cell.int IntKind.u64 n20)]) ∧
          I 143 [V.one (Cell.int IntKind.u64 n19), V.one (Cell.int IntKind.u64 n20), V.one (Cell.int IntKind.u64 (IntKind.u64.wrap n6))]
            (fun cs21 => fun h22 => 
            ∃ n23 : Int, ∃ n24 : Int, (cs21 = [V.one (Cell.int IntKind.u64 n23), V.one (Cell.int IntKind.u64 n24)]) ∧
            ((0 ≤ n11) ∧
            n11 < (↑(↑l1.len : Int).toNat : Int)) ∧
            (storeK [] i7 (0 + n11.toNat * 1) [Cell.int IntKind.i64 (IntKind.i64.wrap n23)] (fun h25 =>
            ((0 ≤ n11) ∧
            n11 < (↑(↑l1.len : Int).toNat : Int)) ∧
            (storeK [] i9 (0 + n11.toNat * 1) [Cell.int IntKind.u64 n24] (x10 (IntKind.i64.wrap (n11 + 1)))) h25)) h22) h18) h15)) h12)
        (fun h26 =>
        (true = true) ∧
        (0 ≤ (↑l1.len : Int)) ∧
        ((↑l1.len : Int) ≤ (↑l1.len : Int)) ∧
        ((↑l1.len : Int) * (↑1 : Int) ≤ 140737488355328) ∧
        (newK (.cells false (slCells (VK.one Kd.bool) (↑l1.len : Int).toNat)) (fun i27 => fun h28 => 
        I 65 [V.one (Cell.slice 1 { a := some (i7, 0), len := (↑l1.len : Int).toNat })]
          (fun cs29 => fun h30 => 
          ∃ n31 : Int, (cs29 = [V.one (Cell.int IntKind.i64 n31)]) ∧
          (loopK (A := Int) (IntKind.i64.wrap (n0 - n31))
            (fun x32 => fun n33 => ifT (decide (n33 > 0))
              (loopK (A := Int × Int) ((-1, 0))
                (fun x34 => uncur fun n35 n36 => ifT (decide (n36 < (↑(↑l1.len : Int).toNat : Int)))
                  (fun h37 =>
                  ((0 ≤ n36) ∧
                  n36 < (↑(↑l1.len : Int).toNat : Int)) ∧
                  ∃ n38 : Int, (h37.read i9 (0 + n36.toNat * 1) 1 = some [Cell.int IntKind.u64 n38]) ∧
                  ((0 ≤ n36) ∧
                  n36 < (↑(↑l1.len : Int).toNat : Int)) ∧
                  ∃ b39 : Bool, (h37.read i27 (0 + n36.toNat * 1) 1 = some [Cell.bool b39]) ∧
                  (ifT (!b39)
                    (ifT (decide (n35 < 0))
                      (x34 ((n36, IntKind.i64.wrap (n36 + 1))))
                      (fun h40 =>
                      ((0 ≤ n35) ∧
                      n35 < (↑(↑l1.len : Int).toNat : Int)) ∧
                      ∃ n41 : Int, (h40.read i9 (0 + n35.toNat * 1) 1 = some [Cell.int IntKind.u64 n41]) ∧
                      (ifT (decide (n38 > n41))
                        (x34 ((n36, IntKind.i64.wrap (n36 + 1))))
                        (ifT b2
                          (fun h42 =>
                          ((0 ≤ n35) ∧
                          n35 < (↑(↑l1.len : Int).toNat : Int)) ∧
                          ∃ n43 : Int, (h42.read i9 (0 + n35.toNat * 1) 1 = some [Cell.int IntKind.u64 n43]) ∧
                          (ifT (decide (n38 = n43))
                            (x34 ((n36, IntKind.i64.wrap (n36 + 1))))
                            (x34 ((n35, IntKind.i64.wrap (n36 + 1))))) h42)
                          (x34 ((n35, IntKind.i64.wrap (n36 + 1)))))) h40))
                    (x34 ((n35, IntKind.i64.wrap (n36 + 1))))) h37)
                  (fun h44 =>
                  ((0 ≤ n35) ∧
                  n35 < (↑(↑l1.len : Int).toNat : Int)) ∧
                  ∃ n45 : Int, (h44.read i7 (0 + n35.toNat * 1) 1 = some [Cell.int IntKind.i64 n45]) ∧
                  ((0 ≤ n35) ∧
                  n35 < (↑(↑l1.len : Int).toNat : Int)) ∧
                  (storeK [] i7 (0 + n35.toNat * 1) [Cell.int IntKind.i64 (IntKind.i64.wrap (n45 + 1))] (fun h46 =>
                  ((0 ≤ n35) ∧
                  n35 < (↑(↑l1.len : Int).toNat : Int)) ∧
                  (storeK [] i27 (0 + n35.toNat * 1) [Cell.bool true] (x32 (IntKind.i64.wrap (n33 - 1)))) h46)) h44)))
              (Q [V.one (Cell.slice 1 { a := some (i7, 0), len := (↑l1.len : Int).toNat })]))) h30) h28)) h26)))) h8)) h5) h3
theorem den100 (I : FuncId → List V → Post → T) (n0 : Int) (l1 : Sl) (b2 : Bool) (Q : Post) : denF Go.Proofs.Tryz.prog 0 (⟨[], [(250, 4611686014132485120, [(32, tk Go.Proofs.Tryz.prog 3)]), (1018, 664613997892457346156093171436486656, [(17, tk Go.Proofs.Tryz.prog 3)]), (260682, 1298074214595927975269666922430464, [(18, tk Go.Proofs.Tryz.prog 3), (75, tk Go.Proofs.Tryz.prog 3)])]⟩) I 100 [V.one (Cell.int IntKind.i64 n0), V.one (Cell.slice 1 l1), V.one (Cell.bool b2)] Q = vc100 I n0 l1 b2 Q := by kernel_rfl
/-- slices.SortFunc[[]handbill/api.Credit,handbill/api.Credit] -/
def vc101 (I : FuncId → List V → Post → T) (l0 : Sl) (p1 : Option (Nat × List (Nat × Nat))) (Q : Post) : T :=
  fun h2 =>
  I 118 [V.one (Cell.int IntKind.u64 (IntKind.u64.wrap (↑l0.len : Int)))]
    (fun cs3 => fun h4 => 
    ∃ n5 : Int, (cs3 = [V.one (Cell.int IntKind.i64 n5)]) ∧
    I 144 [V.one (Cell.slice 3 l0), V.one (Cell.int IntKind.i64 0), V.one (Cell.int IntKind.i64 (↑l0.len : Int)), V.one (Cell.int IntKind.i64 n5), V.one (Cell.func p1)]
      (fun cs6 => fun h7 => 
      (cs6 = []) ∧
      Q [] h7) h4) h2
theorem den101 (I : FuncId → List V → Post → T) (l0 : Sl) (p1 : Option (Nat × List (Nat × Nat))) (Q : Post) : denF Go.Proofs.Tryz.prog 0 (⟨[], []⟩) I 101 [V.one (Cell.slice 3 l0), V.one (Cell.func p1)] Q = vc101 I l0 p1 Q := by kernel_rfl
/-- handbill/handref1.AttributeOf$1 -/
def vc102 (I : FuncId → List V → Post → T) (s0 : ByteArray) (n1 : Int) (n2 : Int) (s3 : ByteArray) (n4 : Int) (n5 : Int) (Q : Post) : T :=
  fun h6 =>
  I 63 [V.one (Cell.str s0), V.one (Cell.str s3)]
    (fun cs7 => fun h8 => 
    ∃ n9 : Int, (cs7 = [V.one (Cell.int IntKind.i64 n9)]) ∧
    Q [V.one (Cell.int IntKind.i64 n9)] h8) h6
theorem den102 (I : FuncId → List V → Post → T) (s0 : ByteArray) (n1 : Int) (n2 : Int) (s3 : ByteArray) (n4 : Int) (n5 : Int) (Q : Post) : denF Go.Proofs.Tryz.prog 12 (⟨[], []⟩) I 102 [V.agg [Cell.str s0, Cell.int IntKind.i64 n1, Cell.int IntKind.i64 n2], V.agg [Cell.str s3, Cell.int IntKind.i64 n4, Cell.int IntKind.i64 n5]] Q = vc102 I s0 n1 n2 s3 n4 n5 Q := by kernel_rfl
/-- internal/bytealg.CompareString -/
def vc120 (I : FuncId → List V → Post → T) (s0 : ByteArray) (s1 : ByteArray) (Q : Post) : T :=
  fun h2 =>
  I 168 [V.one (Cell.str s0), V.one (Cell.str s1)]
    (fun cs3 => fun h4 => 
    ∃ n5 : Int, (cs3 = [V.one (Cell.int IntKind.i64 n5)]) ∧
    Q [V.one (Cell.int IntKind.i64 n5)] h4) h2
theorem den120 (I : FuncId → List V → Post → T) (s0 : ByteArray) (s1 : ByteArray) (Q : Post) : denF Go.Proofs.Tryz.prog 0 (⟨[], []⟩) I 120 [V.one (Cell.str s0), V.one (Cell.str s1)] Q = vc120 I s0 s1 Q := by kernel_rfl
/-- handbill/handref1.weightOf -/
def vc140 (I : FuncId → List V → Post → T) (n0 : Int) (n1 : Int) (n2 : Int) (n3 : Int) (n4 : Int) (Q : Post) : T :=
  joinK (A := Bool)
    (fun b5 => ifT b5
      (Q [V.one (Cell.int IntKind.i64 0)])
      (joinK (A := Bool)
        (fun b6 => ifT b6
          (Q [V.one (Cell.int IntKind.i64 2)])
          (ifT (decide (n0 = 5))
            (Q [V.one (Cell.int IntKind.i64 (IntKind.i64.wrap (n2 + 1)))])
            (ifT (decide (n0 = 6))
              (fun h7 =>
              (n1 ≠ 0) ∧
              (loopK (A := Int × Int) ((262144, 0))
                (fun x8 => uncur fun n9 n10 => ifT (decide (n10 < IntKind.i64.wrap ((IntKind.i64.wrap (18 * n4)).tdiv n1)))
                  (x8 ((IntKind.i64.wrap (n9.tdiv 2), IntKind.i64.wrap (n10 + 1))))
                  (Q [V.one (Cell.int IntKind.i64 n9)]))) h7)
              (Q [V.one (Cell.int IntKind.i64 1)]))))
        (fun x11 => ifT (decide (n0 = 4))
          (ifT (decide (n3 > 2))
            (ifT (decide (n2 = 0))
              (x11 true)
              (x11 (decide (n2 = IntKind.i64.wrap (n3 - 1)))))
            (x11 false))
          (x11 false))))
    (fun x12 => ifT (decide (n0 = 1))
      (ifT (decide (n2 > 0))
        (x12 true)
        (ifT (decide (n0 = 2))
          (x12 (decide (n2 < IntKind.i64.wrap (n3 - 1))))
          (x12 false)))
      (ifT (decide (n0 = 2))
        (x12 (decide (n2 < IntKind.i64.wrap (n3 - 1))))
        (x12 false)))
theorem den140 (I : FuncId → List V → Post → T) (n0 : Int) (n1 : Int) (n2 : Int) (n3 : Int) (n4 : Int) (Q : Post) : denF Go.Proofs.Tryz.prog 0 (⟨[(24, 536866816, [(12, tk Go.Proofs.Tryz.prog 4)]), (102, 70368207306752, [(29, tk Go.Proofs.Tryz.prog 4)])], [(53226, 8935141660703066112, [(11, tk Go.Proofs.Tryz.prog 3), (58, tk Go.Proofs.Tryz.prog 3)])]⟩) I 140 [V.one (Cell.int IntKind.i64 n0), V.one (Cell.int IntKind.i64 n1), V.one (Cell.int IntKind.i64 n2), V.one (Cell.int IntKind.i64 n3), V.one (Cell.int IntKind.i64 n4)] Q = vc140 I n0 n1 n2 n3 n4 Q := by kernel_rfl
/-- slices.Reverse[[]int,int] -/
def vc141 (I : FuncId → List V → Post → T) (l0 : Sl) (Q : Post) : T :=
  loopK (A := Int × Int) ((0, IntKind.i64.wrap ((↑l0.len : Int) - 1)))
    (fun x1 => uncur fun n2 n3 => ifT (decide (n2 < n3))
      (fun h4 =>
      ((0 ≤ n3) ∧
      n3 < (↑l0.len : Int)) ∧
      (derefK l0.a (fun i5 => fun i6 => fun h7 =>
      ∃ n8 : Int, (h7.read i5 (i6 + n3.toNat * 1) 1 = some [Cell.int IntKind.i64 n8]) ∧
      ((0 ≤ n2) ∧
      n2 < (↑l0.len : Int)) ∧
      (derefK l0.a (fun i9 => fun i10 => fun h11 =>
      ∃ n12 : Int, (h11.read i9 (i10 + n2.toNat * 1) 1 = some [Cell.int IntKind.i64 n12]) ∧
      ((0 ≤ n2) ∧
      n2 < (↑l0.len : Int)) ∧
      (derefK l0.a (fun i13 => fun i14 => fun h15 => 
      (storeK [] i13 (i14 + n2.toNat * 1) [Cell.int IntKind.i64 n8] (fun h16 =>
      ((0 ≤ n3) ∧
      n3 < (↑l0.len : Int)) ∧
      (derefK l0.a (fun i17 => fun i18 => fun h19 => 
      (storeK [] i17 (i18 + n3.toNat * 1) [Cell.int IntKind.i64 n12] (x1 ((IntKind.i64.wrap (n2 + 1), IntKind.i64.wrap (n3 - 1))))) h19)) h16)) h15)) h11)) h7)) h4)
      (Q []))
theorem den141 (I : FuncId → List V → Post → T) (l0 : Sl) (Q : Post) : denF Go.Proofs.Tryz.prog 0 (⟨[], [(6, 268435340, [(2, tk Go.Proofs.Tryz.prog 3), (3, tk Go.Proofs.Tryz.prog 3)])]⟩) I 141 [V.one (Cell.slice 1 l0)] Q = vc141 I l0 Q := by kernel_rfl
/-- math/bits.Mul64 -/
def vc142 (I : FuncId → List V → Post → T) (n0 : Int) (n1 : Int) (Q : Post) : T :=
  Q [V.one (Cell.int IntKind.u64 (IntKind.u64.wrap (IntKind.u64.wrap (IntKind.u64.wrap (shr IntKind.u64 n0 32 * shr IntKind.u64 n1 32) + shr IntKind.u64 (IntKind.u64.wrap (IntKind.u64.wrap (shr IntKind.u64 n0 32 * IntKind.u64.wrap (↑(BitVec.ofInt 64 n1 &&& BitVec.ofInt 64 4294967295).toNat : Int)) + shr IntKind.u64 (IntKind.u64.wrap (IntKind.u64.wrap (↑(BitVec.ofInt 64 n0 &&& BitVec.ofInt 64 4294967295).toNat : Int) * IntKind.u64.wrap (↑(BitVec.ofInt 64 n1 &&& BitVec.ofInt 64 4294967295).toNat : Int))) 32)) 32) + shr IntKind.u64 (IntKind.u64.wrap (IntKind.u64.wrap (↑(BitVec.ofInt 64 (IntKind.u64.wrap (IntKind.u64.wrap (shr IntKind.u64 n0 32 * IntKind.u64.wrap (↑(BitVec.ofInt 64 n1 &&& BitVec.ofInt 64 4294967295).toNat : Int)) + shr IntKind.u64 (IntKind.u64.wrap (IntKind.u64.wrap (↑(BitVec.ofInt 64 n0 &&& BitVec.ofInt 64 4294967295).toNat : Int) * IntKind.u64.wrap (↑(BitVec.ofInt 64 n1 &&& BitVec.ofInt 64 4294967295).toNat : Int))) 32)) &&& BitVec.ofInt 64 4294967295).toNat : Int) + IntKind.u64.wrap (IntKind.u64.wrap (↑(BitVec.ofInt 64 n0 &&& BitVec.ofInt 64 4294967295).toNat : Int) * shr IntKind.u64 n1 32))) 32))), V.one (Cell.int IntKind.u64 (IntKind.u64.wrap (n0 * n1)))]
theorem den142 (I : FuncId → List V → Post → T) (n0 : Int) (n1 : Int) (Q : Post) : denF Go.Proofs.Tryz.prog 0 (⟨[], []⟩) I 142 [V.one (Cell.int IntKind.u64 n0), V.one (Cell.int IntKind.u64 n1)] Q = vc142 I n0 n1 Q := by kernel_rfl
/-- math/bits.Div64 -/
def vc143 (I : FuncId → List V → Post → T) (n0 : Int) (n1 : Int) (n2 : Int) (Q : Post) : T :=
  joinK (A := PUnit)
    (fun x3 => joinK (A := PUnit)
      (fun x4 => ifT (decide (n0 = 0))
        (fun h5 =>
        (n2 ≠ 0) ∧
        (n2 ≠ 0) ∧
        Q [V.one (Cell.int IntKind.u64 (IntKind.u64.wrap (n1.tdiv n2))), V.one (Cell.int IntKind.u64 (n1.tmod n2))] h5)
        (fun h6 =>
        I 196 [V.one (Cell.int IntKind.u64 n2)]
          (fun cs7 => fun h8 => 
          ∃ n9 : Int, (cs7 = [V.one (Cell.int IntKind.i64 n9)]) ∧
          (0 ≤ IntKind.u64.wrap n9) ∧
          (0 ≤ IntKind.u64.wrap n9) ∧
          (0 ≤ IntKind.u64.wrap (64 - IntKind.u64.wrap n9)) ∧
          (0 ≤ IntKind.u64.wrap n9) ∧
          (shr IntKind.u64 (shl IntKind.u64 n2 (IntKind.u64.wrap n9)) 32 ≠ 0) ∧
          (joinK (A := Int)
            (fun n10 => fun h11 => 
            (shr IntKind.u64 (shl IntKind.u64 n2 (IntKind.u64.wrap n9)) 32 ≠ 0) ∧
            (loopK (A := Int × Int) ((IntKind.u64.wrap (IntKind.u64.wrap (IntKind.u64.wrap (IntKind.u64.wrap (IntKind.u64.wrap (↑(BitVec.ofInt 64 (shl IntKind.u64 n0 (IntKind.u64.wrap n9)) ||| BitVec.ofInt 64 (shr IntKind.u64 n1 (IntKind.u64.wrap (64 - IntKind.u64.wrap n9)))).toNat : Int) * 4294967296) + shr IntKind.u64 (shl IntKind.u64 n1 (IntKind.u64.wrap n9)) 32) - IntKind.u64.wrap (n10 * shl IntKind.u64 n2 (IntKind.u64.wrap n9))) - IntKind.u64.wrap (IntKind.u64.wrap ((IntKind.u64.wrap (IntKind.u64.wrap (IntKind.u64.wrap (IntKind.u64.wrap (↑(BitVec.ofInt 64 (shl IntKind.u64 n0 (IntKind.u64.wrap n9)) ||| BitVec.ofInt 64 (shr IntKind.u64 n1 (IntKind.u64.wrap (64 - IntKind.u64.wrap n9)))).toNat : Int) * 4294967296) + shr IntKind.u64 (shl IntKind.u64 n1 (IntKind.u64.wrap n9)) 32) - IntKind.u64.wrap (n10 * shl IntKind.u64 n2 (IntKind.u64.wrap n9)))).tdiv (shr IntKind.u64 (shl IntKind.u64 n2 (IntKind.u64.wrap n9)) 32)) * shr IntKind.u64 (shl IntKind.u64 n2 (IntKind.u64.wrap n9)) 32)), IntKind.u64.wrap ((IntKind.u64.wrap (IntKind.u64.wrap (IntKind.u64.wrap (IntKind.u64.wrap (↑(BitVec.ofInt 64 (shl IntKind.u64 n0 (IntKind.u64.wrap n9)) ||| BitVec.ofInt 64 (shr IntKind.u64 n1 (IntKind.u64.wrap (64 - IntKind.u64.wrap n9)))).toNat : Int) * 4294967296) + shr IntKind.u64 (shl IntKind.u64 n1 (IntKind.u64.wrap n9)) 32) - IntKind.u64.wrap (n10 * shl IntKind.u64 n2 (IntKind.u64.wrap n9)))).tdiv (shr IntKind.u64 (shl IntKind.u64 n2 (IntKind.u64.wrap n9)) 32))))
              (fun x12 => uncur fun n13 n14 => ifT (decide (n14 ≥ 4294967296))
                (ifT (decide (IntKind.u64.wrap (n13 + shr IntKind.u64 (shl IntKind.u64 n2 (IntKind.u64.wrap n9)) 32) ≥ 4294967296))
                  (fun h15 =>
                  (0 ≤ IntKind.u64.wrap n9) ∧
                  Q [V.one (Cell.int IntKind.u64 (IntKind.u64.wrap (IntKind.u64.wrap (n10 * 4294967296) + IntKind.u64.wrap (n14 - 1)))), V.one (Cell.int IntKind.u64 (shr IntKind.u64 (IntKind.u64.wrap (IntKind.u64.wrap (IntKind.u64.wrap (IntKind.u64.wrap (IntKind.u64.wrap (IntKind.u64.wrap (IntKind.u64.wrap (↑(BitVec.ofInt 64 (shl IntKind.u64 n0 (IntKind.u64.wrap n9)) ||| BitVec.ofInt 64 (shr IntKind.u64 n1 (IntKind.u64.wrap (64 - IntKind.u64.wrap n9)))).toNat : Int) * 4294967296) + shr IntKind.u64 (shl IntKind.u64 n1 (IntKind.u64.wrap n9)) 32) - IntKind.u64.wrap (n10 * shl IntKind.u64 n2 (IntKind.u64.wrap n9))) * 4294967296) + IntKind.u64.wrap (↑(BitVec.ofInt 64 (shl IntKind.u64 n1 (IntKind.u64.wrap n9)) &&& BitVec.ofInt 64 4294967295).toNat : Int)) - IntKind.u64.wrap (IntKind.u64.wrap (n14 - 1) * shl IntKind.u64 n2 (IntKind.u64.wrap n9)))) (IntKind.u64.wrap n9)))] h15)
                  (x12 ((IntKind.u64.wrap (n13 + shr IntKind.u64 (shl IntKind.u64 n2 (IntKind.u64.wrap n9)) 32), IntKind.u64.wrap (n14 - 1)))))
                (ifT (decide (IntKind.u64.wrap (n14 * IntKind.u64.wrap (↑(BitVec.ofInt 64 (shl IntKind.u64 n2 (IntKind.u64.wrap n9)) &&& BitVec.ofInt 64 4294967295).toNat : Int)) > IntKind.u64.wrap (IntKind.u64.wrap (4294967296 * n13) + IntKind.u64.wrap (↑(BitVec.ofInt 64 (shl IntKind.u64 n1 (IntKind.u64.wrap n9)) &&& BitVec.ofInt 64 4294967295).toNat : Int))))
                  (ifT (decide (IntKind.u64.wrap (n13 + shr IntKind.u64 (shl IntKind.u64 n2 (IntKind.u64.wrap n9)) 32) ≥ 4294967296))
                    (fun h16 =>
                    (0 ≤ IntKind.u64.wrap n9) ∧
                    Q [V.one (Cell.int IntKind.u64 (IntKind.u64.wrap (IntKind.u64.wrap (n10 * 4294967296) + IntKind.u64.wrap (n14 - 1)))), V.one (Cell.int IntKind.u64 (shr IntKind.u64 (IntKind.u64.wrap (IntKind.u64.wrap (IntKind.u64.wrap (IntKind.u64.wrap (IntKind.u64.wrap (IntKind.u64.wrap (IntKind.u64.wrap (↑(BitVec.ofInt 64 (shl IntKind.u64 n0 (IntKind.u64.wrap n9)) ||| BitVec.ofInt 64 (shr IntKind.u64 n1 (IntKind.u64.wrap (64 - IntKind.u64.wrap n9)))).toNat : Int) * 4294967296) + shr IntKind.u64 (shl IntKind.u64 n1 (IntKind.u64.wrap n9)) 32) - IntKind.u64.wrap (n10 * shl IntKind.u64 n2 (IntKind.u64.wrap n9))) * 4294967296) + IntKind.u64.wrap (↑(BitVec.ofInt 64 (shl IntKind.u64 n1 (IntKind.u64.wrap n9)) &&& BitVec.ofInt 64 4294967295).toNat : Int)) - IntKind.u64.wrap (IntKind.u64.wrap (n14 - 1) * shl IntKind.u64 n2 (IntKind.u64.wrap n9)))) (IntKind.u64.wrap n9)))] h16)
                    (x12 ((IntKind.u64.wrap (n13 + shr IntKind.u64 (shl IntKind.u64 n2 (IntKind.u64.wrap n9)) 32), IntKind.u64.wrap (n14 - 1)))))
                  (fun h17 =>
                  (0 ≤ IntKind.u64.wrap n9) ∧
                  Q [V.one (Cell.int IntKind.u64 (IntKind.u64.wrap (IntKind.u64.wrap (n10 * 4294967296) + n14))), V.one (Cell.int IntKind.u64 (shr IntKind.u64 (IntKind.u64.wrap (IntKind.u64.wrap (IntKind.u64.wrap (IntKind.u64.wrap (IntKind.u64.wrap (IntKind.u64.wrap (IntKind.u64.wrap (↑(BitVec.ofInt 64 (shl IntKind.u64 n0 (IntKind.u64.wrap n9)) ||| BitVec.ofInt 64 (shr IntKind.u64 n1 (IntKind.u64.wrap (64 - IntKind.u64.wrap n9)))).toNat : Int) * 4294967296) + shr IntKind.u64 (shl IntKind.u64 n1 (IntKind.u64.wrap n9)) 32) - IntKind.u64.wrap (n10 * shl IntKind.u64 n2 (IntKind.u64.wrap n9))) * 4294967296) + IntKind.u64.wrap (↑(BitVec.ofInt 64 (shl IntKind.u64 n1 (IntKind.u64.wrap n9)) &&& BitVec.ofInt 64 4294967295).toNat : Int)) - IntKind.u64.wrap (n14 * shl IntKind.u64 n2 (IntKind.u64.wrap n9)))) (IntKind.u64.wrap n9)))] h17)))) h11)
            (fun x18 => loopK (A := Int × Int) ((IntKind.u64.wrap ((IntKind.u64.wrap (↑(BitVec.ofInt 64 (shl IntKind.u64 n0 (IntKind.u64.wrap n9)) ||| BitVec.ofInt 64 (shr IntKind.u64 n1 (IntKind.u64.wrap (64 - IntKind.u64.wrap n9)))).toNat : Int)).tdiv (shr IntKind.u64 (shl IntKind.u64 n2 (IntKind.u64.wrap n9)) 32)), IntKind.u64.wrap (IntKind.u64.wrap (↑(BitVec.ofInt 64 (shl IntKind.u64 n0 (IntKind.u64.wrap n9)) ||| BitVec.ofInt 64 (shr IntKind.u64 n1 (IntKind.u64.wrap (64 - IntKind.u64.wrap n9)))).toNat : Int) - IntKind.u64.wrap (IntKind.u64.wrap ((IntKind.u64.wrap (↑(BitVec.ofInt 64 (shl IntKind.u64 n0 (IntKind.u64.wrap n9)) ||| BitVec.ofInt 64 (shr IntKind.u64 n1 (IntKind.u64.wrap (64 - IntKind.u64.wrap n9)))).toNat : Int)).tdiv (shr IntKind.u64 (shl IntKind.u64 n2 (IntKind.u64.wrap n9)) 32)) * shr IntKind.u64 (shl IntKind.u64 n2 (IntKind.u64.wrap n9)) 32))))
              (fun x19 => uncur fun n20 n21 => ifT (decide (n20 ≥ 4294967296))
                (ifT (decide (IntKind.u64.wrap (n21 + shr IntKind.u64 (shl IntKind.u64 n2 (IntKind.u64.wrap n9)) 32) ≥ 4294967296))
                  (x18 (IntKind.u64.wrap (n20 - 1)))
                  (x19 ((IntKind.u64.wrap (n20 - 1), IntKind.u64.wrap (n21 + shr IntKind.u64 (shl IntKind.u64 n2 (IntKind.u64.wrap n9)) 32)))))
                (ifT (decide (IntKind.u64.wrap (n20 * IntKind.u64.wrap (↑(BitVec.ofInt 64 (shl IntKind.u64 n2 (IntKind.u64.wrap n9)) &&& BitVec.ofInt 64 4294967295).toNat : Int)) > IntKind.u64.wrap (IntKind.u64.wrap (4294967296 * n21) + shr IntKind.u64 (shl IntKind.u64 n1 (IntKind.u64.wrap n9)) 32)))
                  (ifT (decide (IntKind.u64.wrap (n21 + shr IntKind.u64 (shl IntKind.u64 n2 (IntKind.u64.wrap n9)) 32) ≥ 4294967296))
                    (x18 (IntKind.u64.wrap (n20 - 1)))
                    (x19 ((IntKind.u64.wrap (n20 - 1), IntKind.u64.wrap (n21 + shr IntKind.u64 (shl IntKind.u64 n2 (IntKind.u64.wrap n9)) 32)))))
                  (x18 n20))))) h8) h6))
      (fun x22 => ifT (decide (n2 ≤ n0))
        (no)
        (x22 ())))
    (fun x23 => ifT (decide (n2 = 0))
      (no)
      (x23 ()))
theorem den143 (I : FuncId → List V → Post → T) (n0 : Int) (n1 : Int) (n2 : Int) (Q : Post) : denF Go.Proofs.Tryz.prog 0 (⟨[(13, 2097152, []), (29, 33554432, []), (65534, 77371104881383677504880640, [(15, tk Go.Proofs.Tryz.prog 195)])], [(131068, 77371104881383677504880640, [(15, tk Go.Proofs.Tryz.prog 195), (16, tk Go.Proofs.Tryz.prog 195)]), (2097148, 2658450920967430832890008133748195328, [(16, tk Go.Proofs.Tryz.prog 195), (18, tk Go.Proofs.Tryz.prog 195)])]⟩) I 143 [V.one (Cell.int IntKind.u64 n0), V.one (Cell.int IntKind.u64 n1), V.one (Cell.int IntKind.u64 n2)] Q = vc143 I n0 n1 n2 Q := by kernel_rfl
/-- slices.pdqsortCmpFunc[handbill/api.Credit] -/
def vc144 (I : FuncId → List V → Post → T) (l0 : Sl) (n1 : Int) (n2 : Int) (n3 : Int) (p4 : Option (Nat × List (Nat × Nat))) (Q : Post) : T :=
  loopK (A := Int × Int × Int × Bool × Bool) ((n1, n2, n3, true, true))
    (fun x5 => uncur fun n6 => uncur fun n7 => uncur fun n8 => uncur fun b9 b10 => ifT (decide (IntKind.i64.wrap (n7 - n6) ≤ 12))
      (fun h11 =>
      I 197 [V.one (Cell.slice 3 l0), V.one (Cell.int IntKind.i64 n6), V.one (Cell.int IntKind.i64 n7), V.one (Cell.func p4)]
        (fun cs12 => fun h13 => 
        (cs12 = []) ∧
        Q [] h13) h11)
      (ifT (decide (n8 = 0))
        (fun h14 =>
        I 198 [V.one (Cell.slice 3 l0), V.one (Cell.int IntKind.i64 n6), V.one (Cell.int IntKind.i64 n7), V.one (Cell.func p4)]
          (fun cs15 => fun h16 => 
          (cs15 = []) ∧
          Q [] h16) h14)
        (joinK (A := Int)
          (fun n17 => fun h18 => 
          I 200 [V.one (Cell.slice 3 l0), V.one (Cell.int IntKind.i64 n6), V.one (Cell.int IntKind.i64 n7), V.one (Cell.func p4)]
            (fun cs19 => fun h20 => 
            ∃ n21 : Int, ∃ n22 : Int, (cs19 = [V.one (Cell.int IntKind.i64 n21), V.one (Cell.int IntKind.i64 n22)]) ∧
            (joinK (A := Int × Int)
              (uncur fun n23 n24 => joinK (A := Bool)
                (fun b25 => joinK (A := PUnit)
                  (fun x26 => joinK (A := Bool)
                    (fun b27 => ifT b27
                      (fun h28 =>
                      I 203 [V.one (Cell.slice 3 l0), V.one (Cell.int IntKind.i64 n6), V.one (Cell.int IntKind.i64 n7), V.one (Cell.int IntKind.i64 n23), V.one (Cell.func p4)]
                        (fun cs29 => fun h30 => 
                        ∃ n31 : Int, (cs29 = [V.one (Cell.int IntKind.i64 n31)]) ∧
                        x5 ((n31, n7, n17, b9, b10)) h30) h28)
                      (fun h32 =>
                      I 204 [V.one (Cell.slice 3 l0), V.one (Cell.int IntKind.i64 n6), V.one (Cell.int IntKind.i64 n7), V.one (Cell.int IntKind.i64 n23), V.one (Cell.func p4)]
                        (fun cs33 => fun h34 => 
                        ∃ n35 : Int, ∃ b36 : Bool, (cs33 = [V.one (Cell.int IntKind.i64 n35), V.one (Cell.bool b36)]) ∧
                        (ifT (decide (IntKind.i64.wrap (n35 - n6) < IntKind.i64.wrap (n7 - n35)))
                          (fun h37 =>
                          I 144 [V.one (Cell.slice 3 l0), V.one (Cell.int IntKind.i64 n6), V.one (Cell.int IntKind.i64 n35), V.one (Cell.int IntKind.i64 n17), V.one (Cell.func p4)]
                            (fun cs38 => fun h39 => 
                            (cs38 = []) ∧
                            x5 ((IntKind.i64.wrap (n35 + 1), n7, n17, decide (IntKind.i64.wrap (n35 - n6) ≥ IntKind.i64.wrap ((IntKind.i64.wrap (n7 - n6)).tdiv 8)), b36)) h39) h37)
                          (fun h40 =>
                          I 144 [V.one (Cell.slice 3 l0), V.one (Cell.int IntKind.i64 (IntKind.i64.wrap (n35 + 1))), V.one (Cell.int IntKind.i64 n7), V.one (Cell.int IntKind.i64 n17), V.one (Cell.func p4)]
                            (fun cs41 => fun h42 => 
                            (cs41 = []) ∧
                            x5 ((n6, n35, n17, decide (IntKind.i64.wrap (n7 - n35) ≥ IntKind.i64.wrap ((IntKind.i64.wrap (n7 - n6)).tdiv 8)), b36)) h42) h40)) h34) h32))
                    (fun x43 => ifT (decide (n6 > 0))
                      (fun h44 =>
                      ((0 ≤ IntKind.i64.wrap (n6 - 1)) ∧
                      IntKind.i64.wrap (n6 - 1) < (↑l0.len : Int)) ∧
                      (derefK l0.a (fun i45 => fun i46 => fun h47 =>
                      ∃ s48 : ByteArray, ∃ n49 : Int, ∃ n50 : Int, (h47.read i45 (i46 + (IntKind.i64.wrap (n6 - 1)).toNat * 3) 3 = some [Cell.str s48, Cell.int IntKind.i64 n49, Cell.int IntKind.i64 n50]) ∧
                      ((0 ≤ n23) ∧
                      n23 < (↑l0.len : Int)) ∧
                      (derefK l0.a (fun i51 => fun i52 => fun h53 =>
                      ∃ s54 : ByteArray, ∃ n55 : Int, ∃ n56 : Int, (h53.read i51 (i52 + n23.toNat * 3) 3 = some [Cell.str s54, Cell.int IntKind.i64 n55, Cell.int IntKind.i64 n56]) ∧
                      (funK p4 (fun i57 => fun cs58 => fun h59 => 
                      I i57 (V.agg [Cell.str s48, Cell.int IntKind.i64 n49, Cell.int IntKind.i64 n50] :: V.agg [Cell.str s54, Cell.int IntKind.i64 n55, Cell.int IntKind.i64 n56] :: cs58)
                        (fun cs60 => fun h61 => 
                        ∃ n62 : Int, (cs60 = [V.one (Cell.int IntKind.i64 n62)]) ∧
                        x43 (!decide (n62 < 0)) h61) h59)) h53)) h47)) h44)
                      (x43 false)))
                  (fun x63 => ifT b25
                    (fun h64 =>
                    I 202 [V.one (Cell.slice 3 l0), V.one (Cell.int IntKind.i64 n6), V.one (Cell.int IntKind.i64 n7), V.one (Cell.func p4)]
                      (fun cs65 => fun h66 => 
                      ∃ b67 : Bool, (cs65 = [V.one (Cell.bool b67)]) ∧
                      (ifT b67
                        (Q [])
                        (x63 ())) h66) h64)
                    (x63 ())))
                (fun x68 => ifT b9
                  (ifT b10
                    (x68 (decide (n24 = 1)))
                    (x68 false))
                  (x68 false)))
              (fun x69 => ifT (decide (n22 = 2))
                (fun h70 =>
                I 201 [V.one (Cell.slice 3 l0), V.one (Cell.int IntKind.i64 n6), V.one (Cell.int IntKind.i64 n7), V.one (Cell.func p4)]
                  (fun cs71 => fun h72 => 
                  (cs71 = []) ∧
                  x69 ((IntKind.i64.wrap (IntKind.i64.wrap (n7 - 1) - IntKind.i64.wrap (n21 - n6)), 1)) h72) h70)
                (x69 ((n21, n22))))) h20) h18)
          (fun x73 => ifT (!b9)
            (fun h74 =>
            I 199 [V.one (Cell.slice 3 l0), V.one (Cell.int IntKind.i64 n6), V.one (Cell.int IntKind.i64 n7), V.one (Cell.func p4)]
              (fun cs75 => fun h76 => 
              (cs75 = []) ∧
              x73 (IntKind.i64.wrap (n8 - 1)) h76) h74)
            (x73 n8)))))
theorem den144 (I : FuncId → List V → Post → T) (l0 : Sl) (n1 : Int) (n2 : Int) (n3 : Int) (p4 : Option (Nat × List (Nat × Nat))) (Q : Post) : denF Go.Proofs.Tryz.prog 0 (⟨[(1821, 139637976727560, [(3, tk Go.Proofs.Tryz.prog 3)]), (7293, 295003789991276994560, [(13, tk Go.Proofs.Tryz.prog 3), (14, tk Go.Proofs.Tryz.prog 207)]), (14588, 75262715820734970593280, [(75, tk Go.Proofs.Tryz.prog 4)]), (14589, 2342293775503344025993216, []), (29180, 316910232205418121115826388992, [(97, tk Go.Proofs.Tryz.prog 4)])], [(14, 356811923176489970264571492362373784095685646, [(1, tk Go.Proofs.Tryz.prog 3), (2, tk Go.Proofs.Tryz.prog 3), (3, tk Go.Proofs.Tryz.prog 3), (10, tk Go.Proofs.Tryz.prog 4), (11, tk Go.Proofs.Tryz.prog 4)])]⟩) I 144 [V.one (Cell.slice 3 l0), V.one (Cell.int IntKind.i64 n1), V.one (Cell.int IntKind.i64 n2), V.one (Cell.int IntKind.i64 n3), V.one (Cell.func p4)] Q = vc144 I l0 n1 n2 n3 p4 Q := by kernel_rfl
/-- math/bits.LeadingZeros64 -/
def vc196 (I : FuncId → List V → Post → T) (n0 : Int) (Q : Post) : T :=
  fun h1 =>
  I 167 [V.one (Cell.int IntKind.u64 n0)]
    (fun cs2 => fun h3 => 
    ∃ n4 : Int, (cs2 = [V.one (Cell.int IntKind.i64 n4)]) ∧
    Q [V.one (Cell.int IntKind.i64 (IntKind.i64.wrap (64 - n4)))] h3) h1
theorem den196 (I : FuncId → List V → Post → T) (n0 : Int) (Q : Post) : denF Go.Proofs.Tryz.prog 0 (⟨[], []⟩) I 196 [V.one (Cell.int IntKind.u64 n0)] Q = vc196 I n0 Q := by kernel_rfl
/-- slices.insertionSortCmpFunc[handbill/api.Credit] -/
def vc197 (I : FuncId → List V → Post → T) (l0 : Sl) (n1 : Int) (n2 : Int) (p3 : Option (Nat × List (Nat × Nat))) (Q : Post) : T :=
  loopK (A := Int) (IntKind.i64.wrap (n1 + 1))
    (fun x4 => fun n5 => ifT (decide (n5 < n2))
      (loopK (A := Int) n5
        (fun x6 => fun n7 => joinK (A := Bool)
          (fun b8 => ifT b8
            (fun h9 =>
            ((0 ≤ IntKind.i64.wrap (n7 - 1)) ∧
            IntKind.i64.wrap (n7 - 1) < (↑l0.len : Int)) ∧
            (derefK l0.a (fun i10 => fun i11 => fun h12 =>
            ∃ s13 : ByteArray, ∃ n14 : Int, ∃ n15 : Int, (h12.read i10 (i11 + (IntKind.i64.wrap (n7 - 1)).toNat * 3) 3 = some [Cell.str s13, Cell.int IntKind.i64 n14, Cell.int IntKind.i64 n15]) ∧
            ((0 ≤ n7) ∧
            n7 < (↑l0.len : Int)) ∧
            (derefK l0.a (fun i16 => fun i17 => fun h18 =>
            ∃ s19 : ByteArray, ∃ n20 : Int, ∃ n21 : Int, (h18.read i16 (i17 + n7.toNat * 3) 3 = some [Cell.str s19, Cell.int IntKind.i64 n20, Cell.int IntKind.i64 n21]) ∧
            ((0 ≤ n7) ∧
            n7 < (↑l0.len : Int)) ∧
            (derefK l0.a (fun i22 => fun i23 => fun h24 => 
            (storeK [] i22 (i23 + n7.toNat * 3) [Cell.str s13, Cell.int IntKind.i64 n14, Cell.int IntKind.i64 n15] (fun h25 =>
            ((0 ≤ IntKind.i64.wrap (n7 - 1)) ∧
            IntKind.i64.wrap (n7 - 1) < (↑l0.len : Int)) ∧
            (derefK l0.a (fun i26 => fun i27 => fun h28 => 
            (storeK [] i26 (i27 + (IntKind.i64.wrap (n7 - 1)).toNat * 3) [Cell.str s19, Cell.int IntKind.i64 n20, Cell.int IntKind.i64 n21] (x6 (IntKind.i64.wrap (n7 - 1)))) h28)) h25)) h24)) h18)) h12)) h9)
            (x4 (IntKind.i64.wrap (n5 + 1))))
          (fun x29 => ifT (decide (n7 > n1))
            (fun h30 =>
            ((0 ≤ n7) ∧
            n7 < (↑l0.len : Int)) ∧
            (derefK l0.a (fun i31 => fun i32 => fun h33 =>
            ∃ s34 : ByteArray, ∃ n35 : Int, ∃ n36 : Int, (h33.read i31 (i32 + n7.toNat * 3) 3 = some [Cell.str s34, Cell.int IntKind.i64 n35, Cell.int IntKind.i64 n36]) ∧
            ((0 ≤ IntKind.i64.wrap (n7 - 1)) ∧
            IntKind.i64.wrap (n7 - 1) < (↑l0.len : Int)) ∧
            (derefK l0.a (fun i37 => fun i38 => fun h39 =>
            ∃ s40 : ByteArray, ∃ n41 : Int, ∃ n42 : Int, (h39.read i37 (i38 + (IntKind.i64.wrap (n7 - 1)).toNat * 3) 3 = some [Cell.str s40, Cell.int IntKind.i64 n41, Cell.int IntKind.i64 n42]) ∧
            (funK p3 (fun i43 => fun cs44 => fun h45 => 
            I i43 (V.agg [Cell.str s34, Cell.int IntKind.i64 n35, Cell.int IntKind.i64 n36] :: V.agg [Cell.str s40, Cell.int IntKind.i64 n41, Cell.int IntKind.i64 n42] :: cs44)
              (fun cs46 => fun h47 => 
              ∃ n48 : Int, (cs46 = [V.one (Cell.int IntKind.i64 n48)]) ∧
              x29 (decide (n48 < 0)) h47) h45)) h39)) h33)) h30)
            (x29 false))))
      (Q []))
theorem den197 (I : FuncId → List V → Post → T) (l0 : Sl) (n1 : Int) (n2 : Int) (p3 : Option (Nat × List (Nat × Nat))) (Q : Post) : denF Go.Proofs.Tryz.prog 0 (⟨[(3216, 34359476224, [(34, tk Go.Proofs.Tryz.prog 4)])], [(6, 9007199254737664, [(8, tk Go.Proofs.Tryz.prog 3)]), (402, 9007199254479360, [(9, tk Go.Proofs.Tryz.prog 3)])]⟩) I 197 [V.one (Cell.slice 3 l0), V.one (Cell.int IntKind.i64 n1), V.one (Cell.int IntKind.i64 n2), V.one (Cell.func p3)] Q = vc197 I l0 n1 n2 p3 Q := by kernel_rfl
end Go.Proofs.YtfemminjhecocaaGreatDoorVc
