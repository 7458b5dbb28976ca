/- Formulas of the functions that SentChecks reaches. -/
import Derived.Test.YtihnjdhjkpmggaaDoorVcFrame
import Derived.Test.YtihnjdhjkpmggaaDoorVcBits
import Derived.Test.YtihnjdhjkpmggaaDoorProg
set_option linter.unusedVariables false
set_option maxRecDepth 100000
namespace Go.Proofs.YtihnjdhjkpmggaaDoorVc
def vc3 (I : FuncId → List V → Post → T) (l0 : Sl) (Q : Post) : T :=
  fun h1 =>
  (newK (YtihnjdhjkpmggaaDoorVc.Obj.cells false [Cell.slice 1 l0, Cell.int IntKind.i64 0]) (fun i2 => fun h3 => 
  I 6 [V.one (Cell.ptr (some (i2, 0))), V.one (Cell.int IntKind.i64 20)]
    (fun cs4 => fun h5 => 
    ∃ l6 : Sl, (cs4 = [V.one (Cell.slice 4 l6)]) ∧
    I 7 [V.one (Cell.ptr (some (i2, 0)))]
      (fun cs7 => fun h8 => 
      ∃ l9 : Sl, (cs7 = [V.one (Cell.slice 4 l9)]) ∧
      (joinK (A := Bool)
        (fun b10 => ifT b10
          (Q [V.one (Cell.bool false)])
          (fun h11 =>
          I 12 [V.one (Cell.ptr (some (i2, 0))), V.one (Cell.int IntKind.i64 900)]
            (fun cs12 => fun h13 => 
            ∃ n14 : Int, (cs12 = [V.one (Cell.int IntKind.i64 n14)]) ∧
            (joinK (A := ByteArray × ByteArray × Int × Int × PUnit)
              (uncur fun s15 => uncur fun s16 => uncur fun n17 => uncur fun n18 x19 => fun h20 => 
              (newK (YtihnjdhjkpmggaaDoorVc.Obj.cells false [Cell.int IntKind.i64 1, Cell.int IntKind.i64 10, Cell.int IntKind.i64 100, Cell.int IntKind.i64 1000, Cell.int IntKind.i64 0, Cell.int IntKind.i64 4321441]) (fun i21 => fun h22 =>
              I 13 [V.one (Cell.ptr (some (i2, 0))), V.one (Cell.slice 1 { a := some (i21, 0), len := 6 })]
                (fun cs23 => fun h24 => 
                ∃ n25 : Int, (cs23 = [V.one (Cell.int IntKind.i64 n25)]) ∧
                I 14 [V.one (Cell.slice 4 l6), V.agg [Cell.str s15, Cell.str s16, Cell.int IntKind.i64 n17, Cell.int IntKind.i64 n18], V.one (Cell.int IntKind.i64 n25)]
                  (fun cs26 => fun h27 => 
                  ∃ l28 : Sl, ∃ n29 : Int, (cs26 = [V.one (Cell.slice 1 l28), V.one (Cell.int IntKind.i64 n29)]) ∧
                  I 9 [V.one (Cell.slice 4 l6)]
                    (fun cs30 => fun h31 => 
                    ∃ n32 : Int, (cs30 = [V.one (Cell.int IntKind.i64 n32)]) ∧
                    (newK (YtihnjdhjkpmggaaDoorVc.Obj.cells false [Cell.str s15, Cell.str s16, Cell.int IntKind.i64 n17, Cell.int IntKind.i64 n18]) (fun i33 => fun h34 =>
                    I 11 [V.one (Cell.slice 4 { a := some (i33, 0), len := 1 })]
                      (fun cs35 => fun h36 => 
                      ∃ n37 : Int, (cs35 = [V.one (Cell.int IntKind.i64 n37)]) ∧
                      (newK (YtihnjdhjkpmggaaDoorVc.Obj.cells false [Cell.int IntKind.i64 n32, Cell.int IntKind.i64 n37]) (fun i38 => fun h39 =>
                      I 15 [V.one (Cell.slice 1 { a := some (i38, 0), len := 2 })]
                        (fun cs40 => fun h41 => 
                        ∃ n42 : Int, (cs40 = [V.one (Cell.int IntKind.i64 n42)]) ∧
                        (joinK (A := Bool)
                          (fun b43 => joinK (A := Int)
                            (fun n44 => ifT (!decide (n44 = 0))
                              (joinK (A := Bool)
                                (fun b45 => fun h46 => 
                                Q [V.one (Cell.bool b45)] h46)
                                (fun x47 => fun h48 => 
                                I 16 []
                                  (fun cs49 => fun h50 => 
                                  ∃ b51 : Bool, (cs49 = [V.one (Cell.bool b51)]) ∧
                                  (ifT b51
                                    (x47 (decide (n29 = n44)))
                                    (x47 false)) h50) h48))
                              (fun h52 =>
                              I 16 []
                                (fun cs53 => fun h54 => 
                                ∃ b55 : Bool, (cs53 = [V.one (Cell.bool b55)]) ∧
                                (ifT b55
                                  (ifT (decide (n29 = 0))
                                    (fun h56 =>
                                    I 18 [V.one (Cell.slice 4 l6), V.agg [Cell.str s15, Cell.str s16, Cell.int IntKind.i64 n17, Cell.int IntKind.i64 n18], V.one (Cell.int IntKind.i64 n25)]
                                      (fun cs57 => fun h58 => 
                                      ∃ l59 : Sl, (cs57 = [V.one (Cell.slice 1 l59)]) ∧
                                      I 17 [V.one (Cell.slice 1 l28), V.one (Cell.slice 1 l59)]
                                        (fun cs60 => fun h61 => 
                                        ∃ b62 : Bool, (cs60 = [V.one (Cell.bool b62)]) ∧
                                        Q [V.one (Cell.bool b62)] h61) h58) h56)
                                    (Q [V.one (Cell.bool false)]))
                                  (Q [V.one (Cell.bool false)])) h54) h52))
                            (fun x63 => ifT b43
                              (x63 1)
                              (x63 n42)))
                          (fun x64 => ifT (decide (n42 = 0))
                            (ifT (decide (n25 < 1))
                              (x64 true)
                              (x64 (decide (n25 > 4321440))))
                            (x64 false))) h41) h39)) h36) h34)) h31) h27) h24) h22)) h20)
              (fun x65 => ifT (decide ((↑l9.len : Int) > 0))
                (fun h66 =>
                (((0 : Int) ≤ (0 : Int)) ∧
                0 < (↑l9.len : Int)) ∧
                (derefK l9.a (fun i67 => fun i68 => fun h69 =>
                ∃ s70 : ByteArray, ∃ s71 : ByteArray, ∃ n72 : Int, ∃ n73 : Int, (h69.read i67 (i68 + 0) 4 = some [Cell.str s70, Cell.str s71, Cell.int IntKind.i64 n72, Cell.int IntKind.i64 n73]) ∧
                x65 ((s70, s71, n72, n73, ())) h69)) h66)
                (x65 (({ data := #[103] }, { data := #[97, 110, 110] }, n14, 5, ()))))) h13) h11))
        (fun x74 => fun h75 => 
        I 8 [V.one (Cell.slice 4 l6)]
          (fun cs76 => fun h77 => 
          ∃ n78 : Int, (cs76 = [V.one (Cell.int IntKind.i64 n78)]) ∧
          I 9 [V.one (Cell.slice 4 l6)]
            (fun cs79 => fun h80 => 
            ∃ n81 : Int, (cs79 = [V.one (Cell.int IntKind.i64 n81)]) ∧
            (ifT (!decide (n78 = n81))
              (x74 true)
              (fun h82 =>
              I 10 [V.one (Cell.slice 4 l9)]
                (fun cs83 => fun h84 => 
                ∃ n85 : Int, (cs83 = [V.one (Cell.int IntKind.i64 n85)]) ∧
                I 11 [V.one (Cell.slice 4 l9)]
                  (fun cs86 => fun h87 => 
                  ∃ n88 : Int, (cs86 = [V.one (Cell.int IntKind.i64 n88)]) ∧
                  x74 (!decide (n85 = n88)) h87) h84) h82)) h80) h77) h75)) h8) h5) h3)) h1
theorem den3 (I : FuncId → List V → Post → T) (l0 : Sl) (Q : Post) : denF Go.Proofs.Tryd.prog 64 (⟨[(60, 1073479680, [(29, tk Go.Proofs.Tryd.prog 4)]), (253, 481036337216, [(6, tvar Go.Proofs.Tryd.prog 35)]), (4092, 73714918700800278528, [(65, tk Go.Proofs.Tryd.prog 4)]), (4093, 1024, [(10, tk Go.Proofs.Tryd.prog 30)]), (32756, 18594318026299228028932, [(2, tk Go.Proofs.Tryd.prog 4)])], []⟩) I 3 [V.one (Cell.slice 1 l0)] Q = vc3 I l0 Q := by kernel_rfl
def vc6 (I : FuncId → List V → Post → T) (p0 : Option (Nat × Nat)) (n1 : Int) (Q : Post) : T :=
  fun h2 =>
  I 12 [V.one (Cell.ptr p0), V.one (Cell.int IntKind.i64 (IntKind.i64.wrap (n1 + 1)))]
    (fun cs3 => fun h4 => 
    ∃ n5 : Int, (cs3 = [V.one (Cell.int IntKind.i64 n5)]) ∧
    (loopK (A := Sl × Int × Int) (({ a := none, len := 0 }, 0, 0))
      (fun x6 => uncur fun l7 => uncur fun n8 n9 => ifT (decide (n9 < n5))
        (fun h10 =>
        (newK (YtihnjdhjkpmggaaDoorVc.Obj.cells false [Cell.int IntKind.i64 0, Cell.int IntKind.i64 1, Cell.int IntKind.i64 10, Cell.int IntKind.i64 100]) (fun i11 => fun h12 =>
        I 13 [V.one (Cell.ptr p0), V.one (Cell.slice 1 { a := some (i11, 0), len := 4 })]
          (fun cs13 => fun h14 => 
          ∃ n15 : Int, (cs13 = [V.one (Cell.int IntKind.i64 n15)]) ∧
          (1 + (Utf8.encode (IntKind.i32.wrap (IntKind.i64.wrap (97 + n9)))).size ≤ 9223372036854775807) ∧
          (newK (YtihnjdhjkpmggaaDoorVc.Obj.cells false [Cell.str { data := #[97, 110, 110] }, Cell.str { data := #[98, 111] }]) (fun i16 => fun h17 =>
          I 40 [V.one (Cell.ptr p0), V.one (Cell.slice 1 { a := some (i16, 0), len := 2 })]
            (fun cs18 => fun h19 => 
            ∃ s20 : ByteArray, (cs18 = [V.one (Cell.str s20)]) ∧
            (newK (YtihnjdhjkpmggaaDoorVc.Obj.cells false [Cell.str { data := #[104, 101, 108, 108, 111] }, Cell.str { data := #[110, 101, 119, 115] }, Cell.str { data := #[111, 102, 102, 101, 114] }]) (fun i21 => fun h22 =>
            I 40 [V.one (Cell.ptr p0), V.one (Cell.slice 1 { a := some (i21, 0), len := 3 })]
              (fun cs23 => fun h24 => 
              ∃ s25 : ByteArray, (cs23 = [V.one (Cell.str s25)]) ∧
              (appendTo [] 4 56 l7 1 [Cell.str ({ data := #[115] } ++ Utf8.encode (IntKind.i32.wrap (IntKind.i64.wrap (97 + n9)))), Cell.str s20, Cell.str s25, Cell.int IntKind.i64 (IntKind.i64.wrap (n8 + n15))] (fun l26 => fun h27 => 
              x6 ((l26, IntKind.i64.wrap (n8 + n15), IntKind.i64.wrap (n9 + 1))) h27)) h24) h22)) h19) h17)) h14) h12)) h10)
        (joinK (A := Bool)
          (fun b28 => ifT b28
            (fun h29 =>
            I 12 [V.one (Cell.ptr p0), V.one (Cell.int IntKind.i64 (↑l7.len : Int))]
              (fun cs30 => fun h31 => 
              ∃ n32 : Int, (cs30 = [V.one (Cell.int IntKind.i64 n32)]) ∧
              ((0 ≤ n32) ∧
              n32 < (↑l7.len : Int)) ∧
              (derefK l7.a (fun i33 => fun i34 => fun h35 => 
              I 12 [V.one (Cell.ptr p0), V.one (Cell.int IntKind.i64 3)]
                (fun cs36 => fun h37 => 
                ∃ n38 : Int, (cs36 = [V.one (Cell.int IntKind.i64 n38)]) ∧
                (ifT (decide (n38 = 0))
                  (fun h39 =>
                  (newK (YtihnjdhjkpmggaaDoorVc.Obj.cells false [Cell.str { data := #[] }, Cell.str { data := #[115, 97] }, Cell.str { data := #[83] }]) (fun i40 => fun h41 =>
                  I 42 [V.one (Cell.ptr p0), V.one (Cell.slice 1 { a := some (i40, 0), len := 3 })]
                    (fun cs42 => fun h43 => 
                    ∃ s44 : ByteArray, (cs42 = [V.one (Cell.str s44)]) ∧
                    (storeK [] i33 (i34 + n32.toNat * 4 + 0) [Cell.str s44] (Q [V.one (Cell.slice 4 l7)])) h43) h41)) h39)
                  (ifT (decide (n38 = 1))
                    (fun h45 =>
                    (newK (YtihnjdhjkpmggaaDoorVc.Obj.cells false [Cell.int IntKind.i64 (-1), Cell.int IntKind.i64 4321440, Cell.int IntKind.i64 0]) (fun i46 => fun h47 =>
                    I 13 [V.one (Cell.ptr p0), V.one (Cell.slice 1 { a := some (i46, 0), len := 3 })]
                      (fun cs48 => fun h49 => 
                      ∃ n50 : Int, (cs48 = [V.one (Cell.int IntKind.i64 n50)]) ∧
                      (storeK [] i33 (i34 + n32.toNat * 4 + 3) [Cell.int IntKind.i64 n50] (Q [V.one (Cell.slice 4 l7)])) h49) h47)) h45)
                    (fun h51 =>
                    (newK (YtihnjdhjkpmggaaDoorVc.Obj.cells false [Cell.str { data := #[] }, Cell.str { data := #[88] }]) (fun i52 => fun h53 =>
                    I 42 [V.one (Cell.ptr p0), V.one (Cell.slice 1 { a := some (i52, 0), len := 2 })]
                      (fun cs54 => fun h55 => 
                      ∃ s56 : ByteArray, (cs54 = [V.one (Cell.str s56)]) ∧
                      (storeK [] i33 (i34 + n32.toNat * 4 + 2) [Cell.str s56] (Q [V.one (Cell.slice 4 l7)])) h55) h53)) h51))) h37) h35)) h31) h29)
            (Q [V.one (Cell.slice 4 l7)]))
          (fun x57 => fun h58 => 
          I 41 [V.one (Cell.ptr p0), V.one (Cell.int IntKind.i64 12)]
            (fun cs59 => fun h60 => 
            ∃ b61 : Bool, (cs59 = [V.one (Cell.bool b61)]) ∧
            (ifT b61
              (x57 (decide ((↑l7.len : Int) > 0)))
              (x57 false)) h60) h58)))) h4) h2
theorem den6 (I : FuncId → List V → Post → T) (p0 : Option (Nat × Nat)) (n1 : Int) (Q : Post) : denF Go.Proofs.Tryd.prog 0 (⟨[(124, 34909494181888, [(44, tk Go.Proofs.Tryd.prog 4)])], [(122, 274877898976, [(5, tk Go.Proofs.Tryd.prog 26), (6, tk Go.Proofs.Tryd.prog 3), (13, tk Go.Proofs.Tryd.prog 3)])]⟩) I 6 [V.one (Cell.ptr p0), V.one (Cell.int IntKind.i64 n1)] Q = vc6 I p0 n1 Q := by kernel_rfl
def vc7 (I : FuncId → List V → Post → T) (p0 : Option (Nat × Nat)) (Q : Post) : T :=
  fun h1 =>
  I 12 [V.one (Cell.ptr p0), V.one (Cell.int IntKind.i64 5)]
    (fun cs2 => fun h3 => 
    ∃ n4 : Int, (cs2 = [V.one (Cell.int IntKind.i64 n4)]) ∧
    (loopK (A := Sl × Int) (({ a := none, len := 0 }, 0))
      (fun x5 => uncur fun l6 n7 => ifT (decide (n7 < n4))
        (fun h8 =>
        (1 + (Utf8.encode (IntKind.i32.wrap (IntKind.i64.wrap (97 + n7)))).size ≤ 9223372036854775807) ∧
        (newK (YtihnjdhjkpmggaaDoorVc.Obj.cells false [Cell.str { data := #[97, 110, 110] }, Cell.str { data := #[97, 110, 110] }, Cell.str { data := #[98, 111] }, Cell.str { data := #[99, 121] }]) (fun i9 => fun h10 =>
        I 40 [V.one (Cell.ptr p0), V.one (Cell.slice 1 { a := some (i9, 0), len := 4 })]
          (fun cs11 => fun h12 => 
          ∃ s13 : ByteArray, (cs11 = [V.one (Cell.str s13)]) ∧
          I 12 [V.one (Cell.ptr p0), V.one (Cell.int IntKind.i64 500)]
            (fun cs14 => fun h15 => 
            ∃ n16 : Int, (cs14 = [V.one (Cell.int IntKind.i64 n16)]) ∧
            (newK (YtihnjdhjkpmggaaDoorVc.Obj.cells false [Cell.int IntKind.i64 0, Cell.int IntKind.i64 1, Cell.int IntKind.i64 99, Cell.int IntKind.i64 100, Cell.int IntKind.i64 1000, Cell.int IntKind.i64 1000000000000]) (fun i17 => fun h18 =>
            I 13 [V.one (Cell.ptr p0), V.one (Cell.slice 1 { a := some (i17, 0), len := 6 })]
              (fun cs19 => fun h20 => 
              ∃ n21 : Int, (cs19 = [V.one (Cell.int IntKind.i64 n21)]) ∧
              (appendTo [] 4 48 l6 1 [Cell.str ({ data := #[103] } ++ Utf8.encode (IntKind.i32.wrap (IntKind.i64.wrap (97 + n7)))), Cell.str s13, Cell.int IntKind.i64 n16, Cell.int IntKind.i64 n21] (fun l22 => fun h23 => 
              x5 ((l22, IntKind.i64.wrap (n7 + 1))) h23)) h20) h18)) h15) h12) h10)) h8)
        (joinK (A := Bool)
          (fun b24 => ifT b24
            (fun h25 =>
            I 12 [V.one (Cell.ptr p0), V.one (Cell.int IntKind.i64 (↑l6.len : Int))]
              (fun cs26 => fun h27 => 
              ∃ n28 : Int, (cs26 = [V.one (Cell.int IntKind.i64 n28)]) ∧
              ((0 ≤ n28) ∧
              n28 < (↑l6.len : Int)) ∧
              (derefK l6.a (fun i29 => fun i30 => fun h31 =>
              ∃ s32 : ByteArray, (h31.read i29 (i30 + n28.toNat * 4 + 0) 1 = some [Cell.str s32]) ∧
              ∃ n33 : Int, (h31.read i29 (i30 + n28.toNat * 4 + 2) 1 = some [Cell.int IntKind.i64 n33]) ∧
              (newK (YtihnjdhjkpmggaaDoorVc.Obj.cells false [Cell.str { data := #[] }, Cell.str { data := #[103, 97] }, Cell.str s32]) (fun i34 => fun h35 =>
              I 42 [V.one (Cell.ptr p0), V.one (Cell.slice 1 { a := some (i34, 0), len := 3 })]
                (fun cs36 => fun h37 => 
                (h37 i29 = h35 i29) ∧
                ∃ s38 : ByteArray, (cs36 = [V.one (Cell.str s38)]) ∧
                (newK (YtihnjdhjkpmggaaDoorVc.Obj.cells false [Cell.int IntKind.i64 (-1), Cell.int IntKind.i64 1000000000001, Cell.int IntKind.i64 5]) (fun i39 => fun h40 =>
                I 13 [V.one (Cell.ptr p0), V.one (Cell.slice 1 { a := some (i39, 0), len := 3 })]
                  (fun cs41 => fun h42 => 
                  (h42 i29 = h40 i29) ∧
                  ∃ n43 : Int, (cs41 = [V.one (Cell.int IntKind.i64 n43)]) ∧
                  (newK (YtihnjdhjkpmggaaDoorVc.Obj.cells false [Cell.int IntKind.i64 (-1), Cell.int IntKind.i64 n33, Cell.int IntKind.i64 4321440]) (fun i44 => fun h45 =>
                  I 13 [V.one (Cell.ptr p0), V.one (Cell.slice 1 { a := some (i44, 0), len := 3 })]
                    (fun cs46 => fun h47 => 
                    ∃ n48 : Int, (cs46 = [V.one (Cell.int IntKind.i64 n48)]) ∧
                    (storeK [] i29 (i30 + n28.toNat * 4 + 0) [Cell.str s38] (fun h49 =>
                    (storeK [] i29 (i30 + n28.toNat * 4 + 3) [Cell.int IntKind.i64 n43] (fun h50 =>
                    (storeK [] i29 (i30 + n28.toNat * 4 + 2) [Cell.int IntKind.i64 n48] (Q [V.one (Cell.slice 4 l6)])) h50)) h49)) h47) h45)) h42) h40)) h37) h35)) h31)) h27) h25)
            (Q [V.one (Cell.slice 4 l6)]))
          (fun x51 => fun h52 => 
          I 41 [V.one (Cell.ptr p0), V.one (Cell.int IntKind.i64 12)]
            (fun cs53 => fun h54 => 
            ∃ b55 : Bool, (cs53 = [V.one (Cell.bool b55)]) ∧
            (ifT b55
              (x51 (decide ((↑l6.len : Int) > 0)))
              (x51 false)) h54) h52)))) h3) h1
theorem den7 (I : FuncId → List V → Post → T) (p0 : Option (Nat × Nat)) (Q : Post) : denF Go.Proofs.Tryd.prog 0 (⟨[(60, 68182605824, [(35, tk Go.Proofs.Tryd.prog 4)])], [(58, 536870680, [(3, tk Go.Proofs.Tryd.prog 28), (8, tk Go.Proofs.Tryd.prog 3)])]⟩) I 7 [V.one (Cell.ptr p0)] Q = vc7 I p0 Q := by kernel_rfl
def vc8 (I : FuncId → List V → Post → T) (l0 : Sl) (Q : Post) : T :=
  ifT (decide ((↑l0.len : Int) > 5000))
    (Q [V.one (Cell.int IntKind.i64 2)])
    (fun h1 =>
    (newK (YtihnjdhjkpmggaaDoorVc.Obj.map []) (fun i2 => loopK (A := Int) 0
      (fun x3 => fun n4 => ifT (decide (n4 < (↑l0.len : Int)))
        (fun h5 =>
        ((0 ≤ n4) ∧
        n4 < (↑l0.len : Int)) ∧
        (derefK l0.a (fun i6 => fun i7 => fun h8 =>
        ∃ s9 : ByteArray, ∃ s10 : ByteArray, ∃ s11 : ByteArray, ∃ n12 : Int, (h8.read i6 (i7 + n4.toNat * 4) 4 = some [Cell.str s9, Cell.str s10, Cell.str s11, Cell.int IntKind.i64 n12]) ∧
        I 43 [V.one (Cell.str s9)]
          (fun cs13 => fun h14 => 
          ∃ b15 : Bool, (cs13 = [V.one (Cell.bool b15)]) ∧
          (ifT (!b15)
            (Q [V.one (Cell.int IntKind.i64 5)])
            (fun h16 =>
            ∃ b17 : Bool, ∃ b18 : Bool, (∃ cs19 : List (V × V), (mapOf h16 (some i2) = some cs19) ∧
            mapGet (V.one (Cell.str s9)) (V.one (Cell.bool false)) cs19 = some (V.one (Cell.bool b17), b18)) ∧
            (ifT b17
              (Q [V.one (Cell.int IntKind.i64 6)])
              (joinK (A := Bool)
                (fun b20 => ifT b20
                  (Q [V.one (Cell.int IntKind.i64 5)])
                  (fun h21 =>
                  I 44 [V.one (Cell.int IntKind.i64 n12)]
                    (fun cs22 => fun h23 => 
                    ∃ b24 : Bool, (cs22 = [V.one (Cell.bool b24)]) ∧
                    (ifT (!b24)
                      (Q [V.one (Cell.int IntKind.i64 1)])
                      (ifT (decide (n4 > 0))
                        (fun h25 =>
                        ((0 ≤ IntKind.i64.wrap (n4 - 1)) ∧
                        IntKind.i64.wrap (n4 - 1) < (↑l0.len : Int)) ∧
                        (derefK l0.a (fun i26 => fun i27 => fun h28 =>
                        ∃ n29 : Int, (h28.read i26 (i27 + (IntKind.i64.wrap (n4 - 1)).toNat * 4 + 3) 1 = some [Cell.int IntKind.i64 n29]) ∧
                        (ifT (decide (n12 < n29))
                          (Q [V.one (Cell.int IntKind.i64 7)])
                          (fun h30 =>
                          (mapK [] (some i2) (V.one (Cell.str s9)) (V.one (Cell.bool true)) (x3 (IntKind.i64.wrap (n4 + 1)))) h30)) h28)) h25)
                        (fun h31 =>
                        (mapK [] (some i2) (V.one (Cell.str s9)) (V.one (Cell.bool true)) (x3 (IntKind.i64.wrap (n4 + 1)))) h31))) h23) h21))
                (fun x32 => fun h33 => 
                I 43 [V.one (Cell.str s10)]
                  (fun cs34 => fun h35 => 
                  ∃ b36 : Bool, (cs34 = [V.one (Cell.bool b36)]) ∧
                  (ifT (!b36)
                    (x32 true)
                    (fun h37 =>
                    I 43 [V.one (Cell.str s11)]
                      (fun cs38 => fun h39 => 
                      ∃ b40 : Bool, (cs38 = [V.one (Cell.bool b40)]) ∧
                      x32 (!b40) h39) h37)) h35) h33))) h16)) h14) h8)) h5)
        (Q [V.one (Cell.int IntKind.i64 0)])))) h1)
theorem den8 (I : FuncId → List V → Post → T) (l0 : Sl) (Q : Post) : denF Go.Proofs.Tryd.prog 32 (⟨[(1002654, 274743689216, [(27, tk Go.Proofs.Tryd.prog 4)])], [(122, 2305843009213689908, [(12, tk Go.Proofs.Tryd.prog 3)])]⟩) I 8 [V.one (Cell.slice 4 l0)] Q = vc8 I l0 Q := by kernel_rfl
def vc9 (I : FuncId → List V → Post → T) (l0 : Sl) (Q : Post) : T :=
  ifT (decide ((↑l0.len : Int) > 5000))
    (Q [V.one (Cell.int IntKind.i64 2)])
    (loopK (A := Int) 0
      (fun x1 => fun n2 => ifT (decide (n2 < (↑l0.len : Int)))
        (fun h3 =>
        ((0 ≤ n2) ∧
        n2 < (↑l0.len : Int)) ∧
        (derefK l0.a (fun i4 => fun i5 => fun h6 =>
        ∃ s7 : ByteArray, ∃ s8 : ByteArray, ∃ s9 : ByteArray, ∃ n10 : Int, (h6.read i4 (i5 + n2.toNat * 4) 4 = some [Cell.str s7, Cell.str s8, Cell.str s9, Cell.int IntKind.i64 n10]) ∧
        (newK (YtihnjdhjkpmggaaDoorVc.Obj.cells false [Cell.str ByteArray.empty, Cell.str ByteArray.empty, Cell.str ByteArray.empty, Cell.int IntKind.i64 0]) (fun i11 => fun h12 => 
        (storeK [] i11 0 [Cell.str s7, Cell.str s8, Cell.str s9, Cell.int IntKind.i64 n10] (fun h13 =>
        ∃ s14 : ByteArray, (h13.read i11 0 1 = some [Cell.str s14]) ∧
        I 45 [V.one (Cell.str s14)]
          (fun cs15 => fun h16 => 
          ∃ b17 : Bool, (cs15 = [V.one (Cell.bool b17)]) ∧
          (ifT (!b17)
            (Q [V.one (Cell.int IntKind.i64 5)])
            (fun h18 =>
            (((0 : Int) ≤ (0 : Int)) ∧
            (0 ≤ n2) ∧
            n2 ≤ (↑l0.len : Int)) ∧
            I 46 [V.one (Cell.slice 4 (l0.sub 4 0 n2.toNat)), V.one (Cell.func (some (47, [(i11, 0)])))]
              (fun cs19 => fun h20 => 
              ∃ b21 : Bool, (cs19 = [V.one (Cell.bool b21)]) ∧
              (ifT b21
                (Q [V.one (Cell.int IntKind.i64 6)])
                (joinK (A := Bool)
                  (fun b22 => ifT b22
                    (Q [V.one (Cell.int IntKind.i64 5)])
                    (fun h23 =>
                    ∃ n24 : Int, (h23.read i11 3 1 = some [Cell.int IntKind.i64 n24]) ∧
                    I 48 [V.one (Cell.int IntKind.i64 n24)]
                      (fun cs25 => fun h26 => 
                      ∃ b27 : Bool, (cs25 = [V.one (Cell.bool b27)]) ∧
                      (ifT (!b27)
                        (Q [V.one (Cell.int IntKind.i64 1)])
                        (ifT (decide (n2 > 0))
                          (fun h28 =>
                          ∃ n29 : Int, (h28.read i11 3 1 = some [Cell.int IntKind.i64 n29]) ∧
                          ((0 ≤ IntKind.i64.wrap (n2 - 1)) ∧
                          IntKind.i64.wrap (n2 - 1) < (↑l0.len : Int)) ∧
                          (derefK l0.a (fun i30 => fun i31 => fun h32 =>
                          ∃ n33 : Int, (h32.read i30 (i31 + (IntKind.i64.wrap (n2 - 1)).toNat * 4 + 3) 1 = some [Cell.int IntKind.i64 n33]) ∧
                          (ifT (decide (n29 < n33))
                            (Q [V.one (Cell.int IntKind.i64 7)])
                            (x1 (IntKind.i64.wrap (n2 + 1)))) h32)) h28)
                          (x1 (IntKind.i64.wrap (n2 + 1))))) h26) h23))
                  (fun x34 => fun h35 =>
                  ∃ s36 : ByteArray, (h35.read i11 1 1 = some [Cell.str s36]) ∧
                  I 45 [V.one (Cell.str s36)]
                    (fun cs37 => fun h38 => 
                    ∃ b39 : Bool, (cs37 = [V.one (Cell.bool b39)]) ∧
                    (ifT (!b39)
                      (x34 true)
                      (fun h40 =>
                      ∃ s41 : ByteArray, (h40.read i11 2 1 = some [Cell.str s41]) ∧
                      I 45 [V.one (Cell.str s41)]
                        (fun cs42 => fun h43 => 
                        ∃ b44 : Bool, (cs42 = [V.one (Cell.bool b44)]) ∧
                        x34 (!b44) h43) h40)) h38) h35))) h20) h18)) h16) h13)) h12)) h6)) h3)
        (Q [V.one (Cell.int IntKind.i64 0)])))
theorem den9 (I : FuncId → List V → Post → T) (l0 : Sl) (Q : Post) : denF Go.Proofs.Tryd.prog 0 (⟨[(239198, 137371844608, [(26, tk Go.Proofs.Tryd.prog 4)])], [(58, 144115188075854876, [(10, tk Go.Proofs.Tryd.prog 3)])]⟩) I 9 [V.one (Cell.slice 4 l0)] Q = vc9 I l0 Q := by kernel_rfl
def vc10 (I : FuncId → List V → Post → T) (l0 : Sl) (Q : Post) : T :=
  ifT (decide ((↑l0.len : Int) > 1000))
    (Q [V.one (Cell.int IntKind.i64 2)])
    (fun h1 =>
    (newK (YtihnjdhjkpmggaaDoorVc.Obj.map []) (fun i2 => loopK (A := Int) 0
      (fun x3 => fun n4 => ifT (decide (n4 < (↑l0.len : Int)))
        (fun h5 =>
        ((0 ≤ n4) ∧
        n4 < (↑l0.len : Int)) ∧
        (derefK l0.a (fun i6 => fun i7 => fun h8 =>
        ∃ s9 : ByteArray, ∃ s10 : ByteArray, ∃ n11 : Int, ∃ n12 : Int, (h8.read i6 (i7 + n4.toNat * 4) 4 = some [Cell.str s9, Cell.str s10, Cell.int IntKind.i64 n11, Cell.int IntKind.i64 n12]) ∧
        I 43 [V.one (Cell.str s9)]
          (fun cs13 => fun h14 => 
          ∃ b15 : Bool, (cs13 = [V.one (Cell.bool b15)]) ∧
          (ifT (!b15)
            (Q [V.one (Cell.int IntKind.i64 5)])
            (fun h16 =>
            ∃ b17 : Bool, ∃ b18 : Bool, (∃ cs19 : List (V × V), (mapOf h16 (some i2) = some cs19) ∧
            mapGet (V.one (Cell.str s9)) (V.one (Cell.bool false)) cs19 = some (V.one (Cell.bool b17), b18)) ∧
            (ifT b17
              (Q [V.one (Cell.int IntKind.i64 6)])
              (fun h20 =>
              I 43 [V.one (Cell.str s10)]
                (fun cs21 => fun h22 => 
                ∃ b23 : Bool, (cs21 = [V.one (Cell.bool b23)]) ∧
                (ifT (!b23)
                  (Q [V.one (Cell.int IntKind.i64 5)])
                  (fun h24 =>
                  I 44 [V.one (Cell.int IntKind.i64 n11)]
                    (fun cs25 => fun h26 => 
                    ∃ b27 : Bool, (cs25 = [V.one (Cell.bool b27)]) ∧
                    (ifT (!b27)
                      (Q [V.one (Cell.int IntKind.i64 1)])
                      (fun h28 =>
                      I 49 [V.one (Cell.int IntKind.i64 n12), V.one (Cell.int IntKind.i64 0), V.one (Cell.int IntKind.i64 1000000000000)]
                        (fun cs29 => fun h30 => 
                        ∃ b31 : Bool, (cs29 = [V.one (Cell.bool b31)]) ∧
                        (ifT (!b31)
                          (Q [V.one (Cell.int IntKind.i64 1)])
                          (fun h32 =>
                          (mapK [] (some i2) (V.one (Cell.str s9)) (V.one (Cell.bool true)) (x3 (IntKind.i64.wrap (n4 + 1)))) h32)) h30) h28)) h26) h24)) h22) h20)) h16)) h14) h8)) h5)
        (Q [V.one (Cell.int IntKind.i64 0)])))) h1)
theorem den10 (I : FuncId → List V → Post → T) (l0 : Sl) (Q : Post) : denF Go.Proofs.Tryd.prog 32 (⟨[], [(122, 70368744173604, [(12, tk Go.Proofs.Tryd.prog 3)])]⟩) I 10 [V.one (Cell.slice 4 l0)] Q = vc10 I l0 Q := by kernel_rfl
def vc11 (I : FuncId → List V → Post → T) (l0 : Sl) (Q : Post) : T :=
  ifT (decide ((↑l0.len : Int) > 1000))
    (Q [V.one (Cell.int IntKind.i64 2)])
    (loopK (A := Int) 0
      (fun x1 => fun n2 => ifT (decide (n2 < (↑l0.len : Int)))
        (fun h3 =>
        ((0 ≤ n2) ∧
        n2 < (↑l0.len : Int)) ∧
        (derefK l0.a (fun i4 => fun i5 => fun h6 =>
        ∃ s7 : ByteArray, ∃ s8 : ByteArray, ∃ n9 : Int, ∃ n10 : Int, (h6.read i4 (i5 + n2.toNat * 4) 4 = some [Cell.str s7, Cell.str s8, Cell.int IntKind.i64 n9, Cell.int IntKind.i64 n10]) ∧
        (newK (YtihnjdhjkpmggaaDoorVc.Obj.cells false [Cell.str ByteArray.empty, Cell.str ByteArray.empty, Cell.int IntKind.i64 0, Cell.int IntKind.i64 0]) (fun i11 => fun h12 => 
        (storeK [] i11 0 [Cell.str s7, Cell.str s8, Cell.int IntKind.i64 n9, Cell.int IntKind.i64 n10] (fun h13 =>
        ∃ s14 : ByteArray, (h13.read i11 0 1 = some [Cell.str s14]) ∧
        I 45 [V.one (Cell.str s14)]
          (fun cs15 => fun h16 => 
          ∃ b17 : Bool, (cs15 = [V.one (Cell.bool b17)]) ∧
          (ifT (!b17)
            (Q [V.one (Cell.int IntKind.i64 5)])
            (fun h18 =>
            (((0 : Int) ≤ (0 : Int)) ∧
            (0 ≤ n2) ∧
            n2 ≤ (↑l0.len : Int)) ∧
            I 50 [V.one (Cell.slice 4 (l0.sub 4 0 n2.toNat)), V.one (Cell.func (some (51, [(i11, 0)])))]
              (fun cs19 => fun h20 => 
              ∃ b21 : Bool, (cs19 = [V.one (Cell.bool b21)]) ∧
              (ifT b21
                (Q [V.one (Cell.int IntKind.i64 6)])
                (fun h22 =>
                ∃ s23 : ByteArray, (h22.read i11 1 1 = some [Cell.str s23]) ∧
                I 45 [V.one (Cell.str s23)]
                  (fun cs24 => fun h25 => 
                  ∃ b26 : Bool, (cs24 = [V.one (Cell.bool b26)]) ∧
                  (ifT (!b26)
                    (Q [V.one (Cell.int IntKind.i64 5)])
                    (fun h27 =>
                    ∃ n28 : Int, (h27.read i11 2 1 = some [Cell.int IntKind.i64 n28]) ∧
                    I 48 [V.one (Cell.int IntKind.i64 n28)]
                      (fun cs29 => fun h30 => 
                      ∃ b31 : Bool, (cs29 = [V.one (Cell.bool b31)]) ∧
                      (ifT (!b31)
                        (Q [V.one (Cell.int IntKind.i64 1)])
                        (fun h32 =>
                        ∃ n33 : Int, (h32.read i11 3 1 = some [Cell.int IntKind.i64 n33]) ∧
                        (ifT (decide (n33 < 0))
                          (Q [V.one (Cell.int IntKind.i64 1)])
                          (fun h34 =>
                          ∃ n35 : Int, (h34.read i11 3 1 = some [Cell.int IntKind.i64 n35]) ∧
                          (ifT (decide (n35 > 1000000000000))
                            (Q [V.one (Cell.int IntKind.i64 1)])
                            (x1 (IntKind.i64.wrap (n2 + 1)))) h34)) h32)) h30) h27)) h25) h22)) h20) h18)) h16) h13)) h12)) h6)) h3)
        (Q [V.one (Cell.int IntKind.i64 0)])))
theorem den11 (I : FuncId → List V → Post → T) (l0 : Sl) (Q : Post) : denF Go.Proofs.Tryd.prog 0 (⟨[], [(58, 140737488354332, [(10, tk Go.Proofs.Tryd.prog 3)])]⟩) I 11 [V.one (Cell.slice 4 l0)] Q = vc11 I l0 Q := by kernel_rfl
def vc12 (I : FuncId → List V → Post → T) (p0 : Option (Nat × Nat)) (n1 : Int) (Q : Post) : T :=
  derefK p0 (fun i2 => fun i3 => fun h4 =>
  ∃ n5 : Int, (h4.read i2 (i3 + 1) 1 = some [Cell.int IntKind.i64 n5]) ∧
  (derefK p0 (fun i6 => fun i7 => fun h8 =>
  (storeK [] i6 (i7 + 1) [Cell.int IntKind.i64 (IntKind.i64.wrap (n5 + 1))] (derefK p0 (fun i9 => fun i10 => fun h11 =>
  ∃ l12 : Sl, (h11.read i9 (i10 + 0) 1 = some [Cell.slice 1 l12]) ∧
  (ifT (decide ((↑l12.len : Int) = 0))
    (derefK p0 (fun i13 => fun i14 => fun h15 =>
    ∃ n16 : Int, (h15.read i13 (i14 + 1) 1 = some [Cell.int IntKind.i64 n16]) ∧
    I 52 [V.one (Cell.int IntKind.i64 (IntKind.i64.wrap (n16 * 7919))), V.one (Cell.int IntKind.i64 n1)]
      (fun cs17 => fun h18 => 
      ∃ n19 : Int, (cs17 = [V.one (Cell.int IntKind.i64 n19)]) ∧
      Q [V.one (Cell.int IntKind.i64 n19)] h18) h15))
    (derefK p0 (fun i20 => fun i21 => fun h22 =>
    ∃ n23 : Int, (h22.read i20 (i21 + 1) 1 = some [Cell.int IntKind.i64 n23]) ∧
    (derefK p0 (fun i24 => fun i25 => fun h26 =>
    ∃ l27 : Sl, (h26.read i24 (i25 + 0) 1 = some [Cell.slice 1 l27]) ∧
    ((↑l27.len : Int) ≠ 0) ∧
    (derefK p0 (fun i28 => fun i29 => fun h30 =>
    ∃ n31 : Int, (h30.read i28 (i29 + 1) 1 = some [Cell.int IntKind.i64 n31]) ∧
    (derefK p0 (fun i32 => fun i33 => fun h34 =>
    ∃ l35 : Sl, (h34.read i32 (i33 + 0) 1 = some [Cell.slice 1 l35]) ∧
    ((↑l35.len : Int) ≠ 0) ∧
    (derefK p0 (fun i36 => fun i37 => fun h38 =>
    ∃ l39 : Sl, (h38.read i36 (i37 + 0) 1 = some [Cell.slice 1 l39]) ∧
    ((0 ≤ (IntKind.i64.wrap (n23 - 1)).tmod (↑l27.len : Int)) ∧
    (IntKind.i64.wrap (n23 - 1)).tmod (↑l27.len : Int) < (↑l39.len : Int)) ∧
    (derefK l39.a (fun i40 => fun i41 => fun h42 =>
    ∃ n43 : Int, (h42.read i40 (i41 + ((IntKind.i64.wrap (n23 - 1)).tmod (↑l27.len : Int)).toNat * 1) 1 = some [Cell.int IntKind.i64 n43]) ∧
    I 52 [V.one (Cell.int IntKind.i64 n43), V.one (Cell.int IntKind.i64 1073741824)]
      (fun cs44 => fun h45 => 
      ∃ n46 : Int, (cs44 = [V.one (Cell.int IntKind.i64 n46)]) ∧
      I 52 [V.one (Cell.int IntKind.i64 (IntKind.i64.wrap (n46 + IntKind.i64.wrap (IntKind.i64.wrap ((IntKind.i64.wrap (n31 - 1)).tdiv (↑l35.len : Int)) * IntKind.i64.wrap (7919 + (IntKind.i64.wrap (n23 - 1)).tmod (↑l27.len : Int)))))), V.one (Cell.int IntKind.i64 n1)]
        (fun cs47 => fun h48 => 
        ∃ n49 : Int, (cs47 = [V.one (Cell.int IntKind.i64 n49)]) ∧
        Q [V.one (Cell.int IntKind.i64 n49)] h48) h45) h42)) h38)) h34)) h30)) h26)) h22))) h11))) h8)) h4)
theorem den12 (I : FuncId → List V → Post → T) (p0 : Option (Nat × Nat)) (n1 : Int) (Q : Post) : denF Go.Proofs.Tryd.prog 0 (⟨[], []⟩) I 12 [V.one (Cell.ptr p0), V.one (Cell.int IntKind.i64 n1)] Q = vc12 I p0 n1 Q := by kernel_rfl
def vc13 (I : FuncId → List V → Post → T) (p0 : Option (Nat × Nat)) (l1 : Sl) (Q : Post) : T :=
  fun h2 =>
  I 12 [V.one (Cell.ptr p0), V.one (Cell.int IntKind.i64 (↑l1.len : Int))]
    (fun cs3 => fun h4 => 
    ∃ n5 : Int, (cs3 = [V.one (Cell.int IntKind.i64 n5)]) ∧
    ((0 ≤ n5) ∧
    n5 < (↑l1.len : Int)) ∧
    (derefK l1.a (fun i6 => fun i7 => fun h8 =>
    ∃ n9 : Int, (h8.read i6 (i7 + n5.toNat * 1) 1 = some [Cell.int IntKind.i64 n9]) ∧
    Q [V.one (Cell.int IntKind.i64 n9)] h8)) h4) h2
theorem den13 (I : FuncId → List V → Post → T) (p0 : Option (Nat × Nat)) (l1 : Sl) (Q : Post) : denF Go.Proofs.Tryd.prog 0 (⟨[], []⟩) I 13 [V.one (Cell.ptr p0), V.one (Cell.slice 1 l1)] Q = vc13 I p0 l1 Q := by kernel_rfl
def vc14 (I : FuncId → List V → Post → T) (l0 : Sl) (s1 : ByteArray) (s2 : ByteArray) (n3 : Int) (n4 : Int) (n5 : Int) (Q : Post) : T :=
  fun h6 =>
  I 8 [V.one (Cell.slice 4 l0)]
    (fun cs7 => fun h8 => 
    ∃ n9 : Int, (cs7 = [V.one (Cell.int IntKind.i64 n9)]) ∧
    (ifT (!decide (n9 = 0))
      (Q [V.one (Cell.slice 1 { a := none, len := 0 }), V.one (Cell.int IntKind.i64 n9)])
      (fun h10 =>
      (newK (YtihnjdhjkpmggaaDoorVc.Obj.cells false [Cell.str s1, Cell.str s2, Cell.int IntKind.i64 n3, Cell.int IntKind.i64 n4]) (fun i11 => fun h12 =>
      I 10 [V.one (Cell.slice 4 { a := some (i11, 0), len := 1 })]
        (fun cs13 => fun h14 => 
        ∃ n15 : Int, (cs13 = [V.one (Cell.int IntKind.i64 n15)]) ∧
        (ifT (!decide (n15 = 0))
          (Q [V.one (Cell.slice 1 { a := none, len := 0 }), V.one (Cell.int IntKind.i64 n15)])
          (fun h16 =>
          I 49 [V.one (Cell.int IntKind.i64 n5), V.one (Cell.int IntKind.i64 1), V.one (Cell.int IntKind.i64 4321440)]
            (fun cs17 => fun h18 => 
            ∃ b19 : Bool, (cs17 = [V.one (Cell.bool b19)]) ∧
            (ifT (!b19)
              (Q [V.one (Cell.slice 1 { a := none, len := 0 }), V.one (Cell.int IntKind.i64 1)])
              (fun h20 =>
              I 53 [V.one (Cell.slice 4 l0), V.agg [Cell.str s1, Cell.str s2, Cell.int IntKind.i64 n3, Cell.int IntKind.i64 n4], V.one (Cell.int IntKind.i64 n5)]
                (fun cs21 => fun h22 => 
                ∃ l23 : Sl, (cs21 = [V.one (Cell.slice 1 l23)]) ∧
                Q [V.one (Cell.slice 1 l23), V.one (Cell.int IntKind.i64 0)] h22) h20)) h18) h16)) h14) h12)) h10)) h8) h6
theorem den14 (I : FuncId → List V → Post → T) (l0 : Sl) (s1 : ByteArray) (s2 : ByteArray) (n3 : Int) (n4 : Int) (n5 : Int) (Q : Post) : denF Go.Proofs.Tryd.prog 16 (⟨[], []⟩) I 14 [V.one (Cell.slice 4 l0), V.agg [Cell.str s1, Cell.str s2, Cell.int IntKind.i64 n3, Cell.int IntKind.i64 n4], V.one (Cell.int IntKind.i64 n5)] Q = vc14 I l0 s1 s2 n3 n4 n5 Q := by kernel_rfl
def vc15 (I : FuncId → List V → Post → T) (l0 : Sl) (Q : Post) : T :=
  loopK (A := Int) 0
    (fun x1 => fun n2 => ifT (decide (n2 < (↑l0.len : Int)))
      (fun h3 =>
      ((0 ≤ n2) ∧
      n2 < (↑l0.len : Int)) ∧
      (derefK l0.a (fun i4 => fun i5 => fun h6 =>
      ∃ n7 : Int, (h6.read i4 (i5 + n2.toNat * 1) 1 = some [Cell.int IntKind.i64 n7]) ∧
      (ifT (!decide (n7 = 0))
        (Q [V.one (Cell.int IntKind.i64 n7)])
        (x1 (IntKind.i64.wrap (n2 + 1)))) h6)) h3)
      (Q [V.one (Cell.int IntKind.i64 0)]))
theorem den15 (I : FuncId → List V → Post → T) (l0 : Sl) (Q : Post) : denF Go.Proofs.Tryd.prog 0 (⟨[], [(58, 130852, [(8, tk Go.Proofs.Tryd.prog 3)])]⟩) I 15 [V.one (Cell.slice 1 l0)] Q = vc15 I l0 Q := by kernel_rfl
def vc16 (I : FuncId → List V → Post → T) (Q : Post) : T :=
  fun h0 =>
  I 54 [V.one (Cell.int IntKind.i64 2), V.one (Cell.int IntKind.i64 4)]
    (fun cs1 => fun h2 => 
    ∃ n3 : Int, ∃ n4 : Int, ∃ n5 : Int, (cs1 = [V.agg [Cell.int IntKind.i64 n3, Cell.int IntKind.i64 n4], V.one (Cell.int IntKind.i64 n5)]) ∧
    (ifT (decide (n5 = 0))
      (Q [V.one (Cell.bool (decide (n3 = 1) && decide (n4 = 2)))])
      (Q [V.one (Cell.bool false)])) h2) h0
theorem den16 (I : FuncId → List V → Post → T) (Q : Post) : denF Go.Proofs.Tryd.prog 2 (⟨[], []⟩) I 16 [] Q = vc16 I Q := by kernel_rfl
def vc17 (I : FuncId → List V → Post → T) (l0 : Sl) (l1 : Sl) (Q : Post) : T :=
  ifT (!decide ((↑l0.len : Int) = (↑l1.len : Int)))
    (Q [V.one (Cell.bool false)])
    (loopK (A := Int) 0
      (fun x2 => fun n3 => ifT (decide (n3 < (↑l0.len : Int)))
        (fun h4 =>
        ((0 ≤ n3) ∧
        n3 < (↑l0.len : Int)) ∧
        (derefK l0.a (fun i5 => fun i6 => fun h7 =>
        ∃ n8 : Int, (h7.read i5 (i6 + n3.toNat * 1) 1 = some [Cell.int IntKind.i64 n8]) ∧
        ((0 ≤ n3) ∧
        n3 < (↑l1.len : Int)) ∧
        (derefK l1.a (fun i9 => fun i10 => fun h11 =>
        ∃ n12 : Int, (h11.read i9 (i10 + n3.toNat * 1) 1 = some [Cell.int IntKind.i64 n12]) ∧
        (ifT (!decide (n8 = n12))
          (Q [V.one (Cell.bool false)])
          (x2 (IntKind.i64.wrap (n3 + 1)))) h11)) h7)) h4)
        (Q [V.one (Cell.bool true)])))
theorem den17 (I : FuncId → List V → Post → T) (l0 : Sl) (l1 : Sl) (Q : Post) : denF Go.Proofs.Tryd.prog 0 (⟨[], [(58, 67100720, [(13, tk Go.Proofs.Tryd.prog 3)])]⟩) I 17 [V.one (Cell.slice 1 l0), V.one (Cell.slice 1 l1)] Q = vc17 I l0 l1 Q := by kernel_rfl
def vc18 (I : FuncId → List V → Post → T) (l0 : Sl) (s1 : ByteArray) (s2 : ByteArray) (n3 : Int) (n4 : Int) (n5 : Int) (Q : Post) : T :=
  loopK (A := Sl × Int) (({ a := none, len := 0 }, IntKind.i64.wrap ((↑l0.len : Int) - 1)))
    (fun x6 => uncur fun l7 n8 => joinK (A := Bool)
      (fun b9 => ifT b9
        (fun h10 =>
        ((0 ≤ n8) ∧
        n8 < (↑l0.len : Int)) ∧
        (derefK l0.a (fun i11 => fun i12 => fun h13 =>
        ∃ n14 : Int, (h13.read i11 (i12 + n8.toNat * 4 + 3) 1 = some [Cell.int IntKind.i64 n14]) ∧
        ((0 ≤ n8) ∧
        n8 < (↑l0.len : Int)) ∧
        (derefK l0.a (fun i15 => fun i16 => fun h17 =>
        ∃ s18 : ByteArray, (h17.read i15 (i16 + n8.toNat * 4 + 1) 1 = some [Cell.str s18]) ∧
        (ifT (decide (s18 = s2))
          (ifT (decide (IntKind.i64.wrap (n3 - n14) > 0))
            (ifT (decide (IntKind.i64.wrap (n3 - n14) ≤ n5))
              (fun h19 =>
              (appendTo [] 1 8 l7 1 [Cell.int IntKind.i64 n8] (fun l20 => fun h21 => 
              x6 ((l20, IntKind.i64.wrap (n8 - 1))) h21)) h19)
              (x6 ((l7, IntKind.i64.wrap (n8 - 1)))))
            (x6 ((l7, IntKind.i64.wrap (n8 - 1)))))
          (x6 ((l7, IntKind.i64.wrap (n8 - 1))))) h17)) h13)) h10)
        (fun h22 =>
        I 55 [V.one (Cell.slice 1 l7)]
          (fun cs23 => fun h24 => 
          (cs23 = []) ∧
          Q [V.one (Cell.slice 1 l7)] h24) h22))
      (fun x25 => ifT (decide (n8 ≥ 0))
        (x25 (decide ((↑l7.len : Int) < 12)))
        (x25 false)))
theorem den18 (I : FuncId → List V → Post → T) (l0 : Sl) (s1 : ByteArray) (s2 : ByteArray) (n3 : Int) (n4 : Int) (n5 : Int) (Q : Post) : denF Go.Proofs.Tryd.prog 16 (⟨[(464, 1040384, [(19, tk Go.Proofs.Tryd.prog 4)])], [(58, 2251799813677952, [(7, tk Go.Proofs.Tryd.prog 22), (8, tk Go.Proofs.Tryd.prog 3)])]⟩) I 18 [V.one (Cell.slice 4 l0), V.agg [Cell.str s1, Cell.str s2, Cell.int IntKind.i64 n3, Cell.int IntKind.i64 n4], V.one (Cell.int IntKind.i64 n5)] Q = vc18 I l0 s1 s2 n3 n4 n5 Q := by kernel_rfl
def vc40 (I : FuncId → List V → Post → T) (p0 : Option (Nat × Nat)) (l1 : Sl) (Q : Post) : T :=
  fun h2 =>
  I 41 [V.one (Cell.ptr p0), V.one (Cell.int IntKind.i64 40)]
    (fun cs3 => fun h4 => 
    ∃ b5 : Bool, (cs3 = [V.one (Cell.bool b5)]) ∧
    (ifT b5
      (fun h6 =>
      (newK (YtihnjdhjkpmggaaDoorVc.Obj.cells false [Cell.str { data := #[] }, Cell.str { data := #[75, 101, 121] }, Cell.str { data := #[49, 97] }]) (fun i7 => fun h8 =>
      I 42 [V.one (Cell.ptr p0), V.one (Cell.slice 1 { a := some (i7, 0), len := 3 })]
        (fun cs9 => fun h10 => 
        ∃ s11 : ByteArray, (cs9 = [V.one (Cell.str s11)]) ∧
        Q [V.one (Cell.str s11)] h10) h8)) h6)
      (fun h12 =>
      I 42 [V.one (Cell.ptr p0), V.one (Cell.slice 1 l1)]
        (fun cs13 => fun h14 => 
        ∃ s15 : ByteArray, (cs13 = [V.one (Cell.str s15)]) ∧
        Q [V.one (Cell.str s15)] h14) h12)) h4) h2
theorem den40 (I : FuncId → List V → Post → T) (p0 : Option (Nat × Nat)) (l1 : Sl) (Q : Post) : denF Go.Proofs.Tryd.prog 0 (⟨[], []⟩) I 40 [V.one (Cell.ptr p0), V.one (Cell.slice 1 l1)] Q = vc40 I p0 l1 Q := by kernel_rfl
def vc41 (I : FuncId → List V → Post → T) (p0 : Option (Nat × Nat)) (n1 : Int) (Q : Post) : T :=
  fun h2 =>
  I 12 [V.one (Cell.ptr p0), V.one (Cell.int IntKind.i64 n1)]
    (fun cs3 => fun h4 => 
    ∃ n5 : Int, (cs3 = [V.one (Cell.int IntKind.i64 n5)]) ∧
    Q [V.one (Cell.bool (decide (n5 = 0)))] h4) h2
theorem den41 (I : FuncId → List V → Post → T) (p0 : Option (Nat × Nat)) (n1 : Int) (Q : Post) : denF Go.Proofs.Tryd.prog 0 (⟨[], []⟩) I 41 [V.one (Cell.ptr p0), V.one (Cell.int IntKind.i64 n1)] Q = vc41 I p0 n1 Q := by kernel_rfl
def vc42 (I : FuncId → List V → Post → T) (p0 : Option (Nat × Nat)) (l1 : Sl) (Q : Post) : T :=
  fun h2 =>
  I 12 [V.one (Cell.ptr p0), V.one (Cell.int IntKind.i64 (↑l1.len : Int))]
    (fun cs3 => fun h4 => 
    ∃ n5 : Int, (cs3 = [V.one (Cell.int IntKind.i64 n5)]) ∧
    ((0 ≤ n5) ∧
    n5 < (↑l1.len : Int)) ∧
    (derefK l1.a (fun i6 => fun i7 => fun h8 =>
    ∃ s9 : ByteArray, (h8.read i6 (i7 + n5.toNat * 1) 1 = some [Cell.str s9]) ∧
    Q [V.one (Cell.str s9)] h8)) h4) h2
theorem den42 (I : FuncId → List V → Post → T) (p0 : Option (Nat × Nat)) (l1 : Sl) (Q : Post) : denF Go.Proofs.Tryd.prog 0 (⟨[], []⟩) I 42 [V.one (Cell.ptr p0), V.one (Cell.slice 1 l1)] Q = vc42 I p0 l1 Q := by kernel_rfl
def vc43 (I : FuncId → List V → Post → T) (s0 : ByteArray) (Q : Post) : T :=
  fun h1 =>
  I 79 [V.one (Cell.int IntKind.i64 (↑s0.size : Int)), V.one (Cell.int IntKind.i64 1), V.one (Cell.int IntKind.i64 40)]
    (fun cs2 => fun h3 => 
    ∃ b4 : Bool, (cs2 = [V.one (Cell.bool b4)]) ∧
    (ifT b4
      (fun h5 =>
      (((0 : Int) ≤ (0 : Int)) ∧
      0 < (↑s0.size : Int)) ∧
      I 80 [V.one (Cell.int IntKind.u8 (byteAt s0 0))]
        (fun cs6 => fun h7 => 
        ∃ b8 : Bool, (cs6 = [V.one (Cell.bool b8)]) ∧
        (ifT b8
          (fun h9 =>
          I 81 [V.one (Cell.str s0), V.one (Cell.func (some (82, [])))]
            (fun cs10 => fun h11 => 
            ∃ b12 : Bool, (cs10 = [V.one (Cell.bool b12)]) ∧
            Q [V.one (Cell.bool b12)] h11) h9)
          (Q [V.one (Cell.bool false)])) h7) h5)
      (Q [V.one (Cell.bool false)])) h3) h1
theorem den43 (I : FuncId → List V → Post → T) (s0 : ByteArray) (Q : Post) : denF Go.Proofs.Tryd.prog 0 (⟨[], []⟩) I 43 [V.one (Cell.str s0)] Q = vc43 I s0 Q := by kernel_rfl
def vc44 (I : FuncId → List V → Post → T) (n0 : Int) (Q : Post) : T :=
  fun h1 =>
  I 49 [V.one (Cell.int IntKind.i64 n0), V.one (Cell.int IntKind.i64 0), V.one (Cell.int IntKind.i64 4321439)]
    (fun cs2 => fun h3 => 
    ∃ b4 : Bool, (cs2 = [V.one (Cell.bool b4)]) ∧
    Q [V.one (Cell.bool b4)] h3) h1
theorem den44 (I : FuncId → List V → Post → T) (n0 : Int) (Q : Post) : denF Go.Proofs.Tryd.prog 0 (⟨[], []⟩) I 44 [V.one (Cell.int IntKind.i64 n0)] Q = vc44 I n0 Q := by kernel_rfl
def vc45 (I : FuncId → List V → Post → T) (s0 : ByteArray) (Q : Post) : T :=
  fun h1 =>
  I 84 [V.one (Cell.str s0)]
    (fun cs2 => fun h3 => 
    ∃ b4 : Bool, (cs2 = [V.one (Cell.bool b4)]) ∧
    Q [V.one (Cell.bool b4)] h3) h1
theorem den45 (I : FuncId → List V → Post → T) (s0 : ByteArray) (Q : Post) : denF Go.Proofs.Tryd.prog 0 (⟨[], []⟩) I 45 [V.one (Cell.str s0)] Q = vc45 I s0 Q := by kernel_rfl
def vc46 (I : FuncId → List V → Post → T) (l0 : Sl) (p1 : Option (Nat × List (Nat × Nat))) (Q : Post) : T :=
  fun h2 =>
  I 85 [V.one (Cell.slice 4 l0), V.one (Cell.func p1)]
    (fun cs3 => fun h4 => 
    ∃ n5 : Int, (cs3 = [V.one (Cell.int IntKind.i64 n5)]) ∧
    Q [V.one (Cell.bool (decide (n5 ≥ 0)))] h4) h2
theorem den46 (I : FuncId → List V → Post → T) (l0 : Sl) (p1 : Option (Nat × List (Nat × Nat))) (Q : Post) : denF Go.Proofs.Tryd.prog 0 (⟨[], []⟩) I 46 [V.one (Cell.slice 4 l0), V.one (Cell.func p1)] Q = vc46 I l0 p1 Q := by kernel_rfl
def vc47 (I : FuncId → List V → Post → T) (s0 : ByteArray) (s1 : ByteArray) (s2 : ByteArray) (n3 : Int) (i4 : Nat) (i5 : Nat) (Q : Post) : T :=
  fun h6 =>
  ∃ s7 : ByteArray, (h6.read i4 (i5 + 0) 1 = some [Cell.str s7]) ∧
  Q [V.one (Cell.bool (decide (s0 = s7)))] h6
theorem den47 (I : FuncId → List V → Post → T) (s0 : ByteArray) (s1 : ByteArray) (s2 : ByteArray) (n3 : Int) (i4 : Nat) (i5 : Nat) (Q : Post) : denF Go.Proofs.Tryd.prog 4 (⟨[], []⟩) I 47 [V.agg [Cell.str s0, Cell.str s1, Cell.str s2, Cell.int IntKind.i64 n3], V.one (Cell.ptr (some (i4, i5)))] Q = vc47 I s0 s1 s2 n3 i4 i5 Q := by kernel_rfl
def vc48 (I : FuncId → List V → Post → T) (n0 : Int) (Q : Post) : T :=
  ifT (decide (n0 ≥ 0))
    (Q [V.one (Cell.bool (decide (n0 < 4321440)))])
    (Q [V.one (Cell.bool false)])
theorem den48 (I : FuncId → List V → Post → T) (n0 : Int) (Q : Post) : denF Go.Proofs.Tryd.prog 0 (⟨[], []⟩) I 48 [V.one (Cell.int IntKind.i64 n0)] Q = vc48 I n0 Q := by kernel_rfl
def vc49 (I : FuncId → List V → Post → T) (n0 : Int) (n1 : Int) (n2 : Int) (Q : Post) : T :=
  ifT (decide (n1 ≤ n0))
    (Q [V.one (Cell.bool (decide (n0 ≤ n2)))])
    (Q [V.one (Cell.bool false)])
theorem den49 (I : FuncId → List V → Post → T) (n0 : Int) (n1 : Int) (n2 : Int) (Q : Post) : denF Go.Proofs.Tryd.prog 0 (⟨[], []⟩) I 49 [V.one (Cell.int IntKind.i64 n0), V.one (Cell.int IntKind.i64 n1), V.one (Cell.int IntKind.i64 n2)] Q = vc49 I n0 n1 n2 Q := by kernel_rfl
def vc50 (I : FuncId → List V → Post → T) (l0 : Sl) (p1 : Option (Nat × List (Nat × Nat))) (Q : Post) : T :=
  fun h2 =>
  I 86 [V.one (Cell.slice 4 l0), V.one (Cell.func p1)]
    (fun cs3 => fun h4 => 
    ∃ n5 : Int, (cs3 = [V.one (Cell.int IntKind.i64 n5)]) ∧
    Q [V.one (Cell.bool (decide (n5 ≥ 0)))] h4) h2
theorem den50 (I : FuncId → List V → Post → T) (l0 : Sl) (p1 : Option (Nat × List (Nat × Nat))) (Q : Post) : denF Go.Proofs.Tryd.prog 0 (⟨[], []⟩) I 50 [V.one (Cell.slice 4 l0), V.one (Cell.func p1)] Q = vc50 I l0 p1 Q := by kernel_rfl
def vc51 (I : FuncId → List V → Post → T) (s0 : ByteArray) (s1 : ByteArray) (n2 : Int) (n3 : Int) (i4 : Nat) (i5 : Nat) (Q : Post) : T :=
  fun h6 =>
  ∃ s7 : ByteArray, (h6.read i4 (i5 + 0) 1 = some [Cell.str s7]) ∧
  Q [V.one (Cell.bool (decide (s0 = s7)))] h6
theorem den51 (I : FuncId → List V → Post → T) (s0 : ByteArray) (s1 : ByteArray) (n2 : Int) (n3 : Int) (i4 : Nat) (i5 : Nat) (Q : Post) : denF Go.Proofs.Tryd.prog 4 (⟨[], []⟩) I 51 [V.agg [Cell.str s0, Cell.str s1, Cell.int IntKind.i64 n2, Cell.int IntKind.i64 n3], V.one (Cell.ptr (some (i4, i5)))] Q = vc51 I s0 s1 n2 n3 i4 i5 Q := by kernel_rfl
def vc52 (I : FuncId → List V → Post → T) (n0 : Int) (n1 : Int) (Q : Post) : T :=
  ifT (decide (n1 < 1))
    (Q [V.one (Cell.int IntKind.i64 0)])
    (fun h2 =>
    (n1 ≠ 0) ∧
    (ifT (decide (n0.tmod n1 < 0))
      (Q [V.one (Cell.int IntKind.i64 (IntKind.i64.wrap (n0.tmod n1 + n1)))])
      (Q [V.one (Cell.int IntKind.i64 (n0.tmod n1))])) h2)
theorem den52 (I : FuncId → List V → Post → T) (n0 : Int) (n1 : Int) (Q : Post) : denF Go.Proofs.Tryd.prog 0 (⟨[], []⟩) I 52 [V.one (Cell.int IntKind.i64 n0), V.one (Cell.int IntKind.i64 n1)] Q = vc52 I n0 n1 Q := by kernel_rfl
def vc53 (I : FuncId → List V → Post → T) (l0 : Sl) (s1 : ByteArray) (s2 : ByteArray) (n3 : Int) (n4 : Int) (n5 : Int) (Q : Post) : T :=
  loopK (A := Sl × Int) (({ a := none, len := 0 }, 0))
    (fun x6 => uncur fun l7 n8 => ifT (decide (n8 < (↑l0.len : Int)))
      (fun h9 =>
      ((0 ≤ n8) ∧
      n8 < (↑l0.len : Int)) ∧
      (derefK l0.a (fun i10 => fun i11 => fun h12 =>
      ∃ s13 : ByteArray, ∃ s14 : ByteArray, ∃ s15 : ByteArray, ∃ n16 : Int, (h12.read i10 (i11 + n8.toNat * 4) 4 = some [Cell.str s13, Cell.str s14, Cell.str s15, Cell.int IntKind.i64 n16]) ∧
      (ifT (decide (s14 = s2))
        (ifT (decide (n16 < n3))
          (ifT (decide (IntKind.i64.wrap (n3 - n16) ≤ n5))
            (fun h17 =>
            (appendTo [] 1 8 l7 1 [Cell.int IntKind.i64 n8] (fun l18 => fun h19 => 
            x6 ((l18, IntKind.i64.wrap (n8 + 1))) h19)) h17)
            (x6 ((l7, IntKind.i64.wrap (n8 + 1)))))
          (x6 ((l7, IntKind.i64.wrap (n8 + 1)))))
        (x6 ((l7, IntKind.i64.wrap (n8 + 1))))) h12)) h9)
      (fun h20 =>
      ((0 ≤ max (IntKind.i64.wrap ((↑l7.len : Int) - 12)) 0) ∧
      (max (IntKind.i64.wrap ((↑l7.len : Int) - 12)) 0 ≤ (↑l7.len : Int)) ∧
      (↑l7.len : Int) ≤ (↑l7.len : Int)) ∧
      Q [V.one (Cell.slice 1 (l7.sub 1 (max (IntKind.i64.wrap ((↑l7.len : Int) - 12)) 0).toNat (↑l7.len : Int).toNat))] h20))
theorem den53 (I : FuncId → List V → Post → T) (l0 : Sl) (s1 : ByteArray) (s2 : ByteArray) (n3 : Int) (n4 : Int) (n5 : Int) (Q : Post) : denF Go.Proofs.Tryd.prog 528 (⟨[], [(58, 8796093019008, [(7, tk Go.Proofs.Tryd.prog 22), (12, tk Go.Proofs.Tryd.prog 3)])]⟩) I 53 [V.one (Cell.slice 4 l0), V.agg [Cell.str s1, Cell.str s2, Cell.int IntKind.i64 n3, Cell.int IntKind.i64 n4], V.one (Cell.int IntKind.i64 n5)] Q = vc53 I l0 s1 s2 n3 n4 n5 Q := by kernel_rfl
def vc54 (I : FuncId → List V → Post → T) (n0 : Int) (n1 : Int) (Q : Post) : T :=
  joinK (A := Bool)
    (fun b2 => ifT b2
      (fun h3 =>
      Q [V.agg [Cell.int IntKind.i64 0, Cell.int IntKind.i64 0], V.one (Cell.int IntKind.i64 1)] h3)
      (ifT (decide (n1 = 0))
        (fun h4 =>
        Q [V.agg [Cell.int IntKind.i64 0, Cell.int IntKind.i64 0], V.one (Cell.int IntKind.i64 8)] h4)
        (fun h5 =>
        I 87 [V.one (Cell.int IntKind.i64 n0), V.one (Cell.int IntKind.i64 n1)]
          (fun cs6 => fun h7 => 
          ∃ n8 : Int, ∃ n9 : Int, (cs6 = [V.agg [Cell.int IntKind.i64 n8, Cell.int IntKind.i64 n9]]) ∧
          Q [V.agg [Cell.int IntKind.i64 n8, Cell.int IntKind.i64 n9], V.one (Cell.int IntKind.i64 0)] h7) h5)))
    (fun x10 => fun h11 => 
    I 49 [V.one (Cell.int IntKind.i64 n0), V.one (Cell.int IntKind.i64 (-4611686018427387904)), V.one (Cell.int IntKind.i64 4611686018427387904)]
      (fun cs12 => fun h13 => 
      ∃ b14 : Bool, (cs12 = [V.one (Cell.bool b14)]) ∧
      (ifT (!b14)
        (x10 true)
        (fun h15 =>
        I 49 [V.one (Cell.int IntKind.i64 n1), V.one (Cell.int IntKind.i64 (-4611686018427387904)), V.one (Cell.int IntKind.i64 4611686018427387904)]
          (fun cs16 => fun h17 => 
          ∃ b18 : Bool, (cs16 = [V.one (Cell.bool b18)]) ∧
          x10 (!b18) h17) h15)) h13) h11)
theorem den54 (I : FuncId → List V → Post → T) (n0 : Int) (n1 : Int) (Q : Post) : denF Go.Proofs.Tryd.prog 16 (⟨[(24, 32704, [(6, tk Go.Proofs.Tryd.prog 4)])], []⟩) I 54 [V.one (Cell.int IntKind.i64 n0), V.one (Cell.int IntKind.i64 n1)] Q = vc54 I n0 n1 Q := by kernel_rfl
def vc55 (I : FuncId → List V → Post → T) (l0 : Sl) (Q : Post) : T :=
  loopK (A := Int × Int) ((0, IntKind.i64.wrap ((↑l0.len : Int) - 1)))
    (fun x1 => uncur fun n2 n3 => ifT (decide (n2 < n3))
      (fun h4 =>
      ((0 ≤ n3) ∧
      n3 < (↑l0.len : Int)) ∧
      (derefK l0.a (fun i5 => fun i6 => fun h7 =>
      ∃ n8 : Int, (h7.read i5 (i6 + n3.toNat * 1) 1 = some [Cell.int IntKind.i64 n8]) ∧
      ((0 ≤ n2) ∧
      n2 < (↑l0.len : Int)) ∧
      (derefK l0.a (fun i9 => fun i10 => fun h11 =>
      ∃ n12 : Int, (h11.read i9 (i10 + n2.toNat * 1) 1 = some [Cell.int IntKind.i64 n12]) ∧
      ((0 ≤ n2) ∧
      n2 < (↑l0.len : Int)) ∧
      (derefK l0.a (fun i13 => fun i14 => fun h15 => 
      (storeK [] i13 (i14 + n2.toNat * 1) [Cell.int IntKind.i64 n8] (fun h16 =>
      ((0 ≤ n3) ∧
      n3 < (↑l0.len : Int)) ∧
      (derefK l0.a (fun i17 => fun i18 => fun h19 => 
      (storeK [] i17 (i18 + n3.toNat * 1) [Cell.int IntKind.i64 n12] (x1 ((IntKind.i64.wrap (n2 + 1), IntKind.i64.wrap (n3 - 1))))) h19)) h16)) h15)) h11)) h7)) h4)
      (Q []))
theorem den55 (I : FuncId → List V → Post → T) (l0 : Sl) (Q : Post) : denF Go.Proofs.Tryd.prog 0 (⟨[], [(6, 268435340, [(2, tk Go.Proofs.Tryd.prog 3), (3, tk Go.Proofs.Tryd.prog 3)])]⟩) I 55 [V.one (Cell.slice 1 l0)] Q = vc55 I l0 Q := by kernel_rfl
def vc79 (I : FuncId → List V → Post → T) (n0 : Int) (n1 : Int) (n2 : Int) (Q : Post) : T :=
  ifT (decide (n1 ≤ n0))
    (Q [V.one (Cell.bool (decide (n0 ≤ n2)))])
    (Q [V.one (Cell.bool false)])
theorem den79 (I : FuncId → List V → Post → T) (n0 : Int) (n1 : Int) (n2 : Int) (Q : Post) : denF Go.Proofs.Tryd.prog 0 (⟨[], []⟩) I 79 [V.one (Cell.int IntKind.i64 n0), V.one (Cell.int IntKind.i64 n1), V.one (Cell.int IntKind.i64 n2)] Q = vc79 I n0 n1 n2 Q := by kernel_rfl
def vc80 (I : FuncId → List V → Post → T) (n0 : Int) (Q : Post) : T :=
  ifT (decide (97 ≤ n0))
    (Q [V.one (Cell.bool (decide (n0 ≤ 122)))])
    (Q [V.one (Cell.bool false)])
theorem den80 (I : FuncId → List V → Post → T) (n0 : Int) (Q : Post) : denF Go.Proofs.Tryd.prog 0 (⟨[], []⟩) I 80 [V.one (Cell.int IntKind.u8 n0)] Q = vc80 I n0 Q := by kernel_rfl
def vc81 (I : FuncId → List V → Post → T) (s0 : ByteArray) (p1 : Option (Nat × List (Nat × Nat))) (Q : Post) : T :=
  loopK (A := Int) 0
    (fun x2 => fun n3 => ifT (decide (n3 < (↑s0.size : Int)))
      (fun h4 =>
      ((0 ≤ n3) ∧
      n3 < (↑s0.size : Int)) ∧
      (funK p1 (fun i5 => fun cs6 => fun h7 => 
      I i5 (V.one (Cell.int IntKind.u8 (byteAt s0 n3)) :: cs6)
        (fun cs8 => fun h9 => 
        ∃ b10 : Bool, (cs8 = [V.one (Cell.bool b10)]) ∧
        (ifT (!b10)
          (Q [V.one (Cell.bool false)])
          (x2 (IntKind.i64.wrap (n3 + 1)))) h9) h7)) h4)
      (Q [V.one (Cell.bool true)]))
theorem den81 (I : FuncId → List V → Post → T) (s0 : ByteArray) (p1 : Option (Nat × List (Nat × Nat))) (Q : Post) : denF Go.Proofs.Tryd.prog 0 (⟨[], [(26, 261936, [(8, tk Go.Proofs.Tryd.prog 3)])]⟩) I 81 [V.one (Cell.str s0), V.one (Cell.func p1)] Q = vc81 I s0 p1 Q := by kernel_rfl
def vc82 (I : FuncId → List V → Post → T) (n0 : Int) (Q : Post) : T :=
  fun h1 =>
  I 80 [V.one (Cell.int IntKind.u8 n0)]
    (fun cs2 => fun h3 => 
    ∃ b4 : Bool, (cs2 = [V.one (Cell.bool b4)]) ∧
    (ifT b4
      (Q [V.one (Cell.bool true)])
      (fun h5 =>
      I 83 [V.one (Cell.int IntKind.u8 n0)]
        (fun cs6 => fun h7 => 
        ∃ b8 : Bool, (cs6 = [V.one (Cell.bool b8)]) ∧
        (ifT b8
          (Q [V.one (Cell.bool true)])
          (ifT (decide (n0 = 45))
            (Q [V.one (Cell.bool true)])
            (Q [V.one (Cell.bool (decide (n0 = 95)))]))) h7) h5)) h3) h1
theorem den82 (I : FuncId → List V → Post → T) (n0 : Int) (Q : Post) : denF Go.Proofs.Tryd.prog 0 (⟨[], []⟩) I 82 [V.one (Cell.int IntKind.u8 n0)] Q = vc82 I n0 Q := by kernel_rfl
def vc83 (I : FuncId → List V → Post → T) (n0 : Int) (Q : Post) : T :=
  ifT (decide (48 ≤ n0))
    (Q [V.one (Cell.bool (decide (n0 ≤ 57)))])
    (Q [V.one (Cell.bool false)])
theorem den83 (I : FuncId → List V → Post → T) (n0 : Int) (Q : Post) : denF Go.Proofs.Tryd.prog 0 (⟨[], []⟩) I 83 [V.one (Cell.int IntKind.u8 n0)] Q = vc83 I n0 Q := by kernel_rfl
def vc84 (I : FuncId → List V → Post → T) (s0 : ByteArray) (Q : Post) : T :=
  fun h1 =>
  I 95 [V.one (Cell.int IntKind.i64 (↑s0.size : Int)), V.one (Cell.int IntKind.i64 1), V.one (Cell.int IntKind.i64 40)]
    (fun cs2 => fun h3 => 
    ∃ b4 : Bool, (cs2 = [V.one (Cell.bool b4)]) ∧
    (ifT b4
      (fun h5 =>
      (((0 : Int) ≤ (0 : Int)) ∧
      ((0 : Int) ≤ (1 : Int)) ∧
      1 ≤ (↑s0.size : Int)) ∧
      I 96 [V.one (Cell.str (s0.extract 0 1)), V.one (Cell.str { data := #[97, 98, 99, 100, 101, 102, 103, 104, 105, 106, 107, 108, 109, 110, 111, 112, 113, 114, 115, 116, 117, 118, 119, 120, 121, 122] })]
        (fun cs6 => fun h7 => 
        ∃ b8 : Bool, (cs6 = [V.one (Cell.bool b8)]) ∧
        (ifT b8
          (fun h9 =>
          I 96 [V.one (Cell.str s0), V.one (Cell.str { data := #[97, 98, 99, 100, 101, 102, 103, 104, 105, 106, 107, 108, 109, 110, 111, 112, 113, 114, 115, 116, 117, 118, 119, 120, 121, 122, 48, 49, 50, 51, 52, 53, 54, 55, 56, 57, 45, 95] })]
            (fun cs10 => fun h11 => 
            ∃ b12 : Bool, (cs10 = [V.one (Cell.bool b12)]) ∧
            Q [V.one (Cell.bool b12)] h11) h9)
          (Q [V.one (Cell.bool false)])) h7) h5)
      (Q [V.one (Cell.bool false)])) h3) h1
theorem den84 (I : FuncId → List V → Post → T) (s0 : ByteArray) (Q : Post) : denF Go.Proofs.Tryd.prog 0 (⟨[], []⟩) I 84 [V.one (Cell.str s0)] Q = vc84 I s0 Q := by kernel_rfl
def vc85 (I : FuncId → List V → Post → T) (l0 : Sl) (p1 : Option (Nat × List (Nat × Nat))) (Q : Post) : T :=
  loopK (A := Int) 0
    (fun x2 => fun n3 => ifT (decide (n3 < (↑l0.len : Int)))
      (fun h4 =>
      ((0 ≤ n3) ∧
      n3 < (↑l0.len : Int)) ∧
      (derefK l0.a (fun i5 => fun i6 => fun h7 =>
      ∃ s8 : ByteArray, ∃ s9 : ByteArray, ∃ s10 : ByteArray, ∃ n11 : Int, (h7.read i5 (i6 + n3.toNat * 4) 4 = some [Cell.str s8, Cell.str s9, Cell.str s10, Cell.int IntKind.i64 n11]) ∧
      (funK p1 (fun i12 => fun cs13 => fun h14 => 
      I i12 (V.agg [Cell.str s8, Cell.str s9, Cell.str s10, Cell.int IntKind.i64 n11] :: cs13)
        (fun cs15 => fun h16 => 
        ∃ b17 : Bool, (cs15 = [V.one (Cell.bool b17)]) ∧
        (ifT b17
          (Q [V.one (Cell.int IntKind.i64 n3)])
          (x2 (IntKind.i64.wrap (n3 + 1)))) h16) h14)) h7)) h4)
      (Q [V.one (Cell.int IntKind.i64 (-1))]))
theorem den85 (I : FuncId → List V → Post → T) (l0 : Sl) (p1 : Option (Nat × List (Nat × Nat))) (Q : Post) : denF Go.Proofs.Tryd.prog 0 (⟨[], [(26, 524080, [(8, tk Go.Proofs.Tryd.prog 3)])]⟩) I 85 [V.one (Cell.slice 4 l0), V.one (Cell.func p1)] Q = vc85 I l0 p1 Q := by kernel_rfl
def vc86 (I : FuncId → List V → Post → T) (l0 : Sl) (p1 : Option (Nat × List (Nat × Nat))) (Q : Post) : T :=
  loopK (A := Int) 0
    (fun x2 => fun n3 => ifT (decide (n3 < (↑l0.len : Int)))
      (fun h4 =>
      ((0 ≤ n3) ∧
      n3 < (↑l0.len : Int)) ∧
      (derefK l0.a (fun i5 => fun i6 => fun h7 =>
      ∃ s8 : ByteArray, ∃ s9 : ByteArray, ∃ n10 : Int, ∃ n11 : Int, (h7.read i5 (i6 + n3.toNat * 4) 4 = some [Cell.str s8, Cell.str s9, Cell.int IntKind.i64 n10, Cell.int IntKind.i64 n11]) ∧
      (funK p1 (fun i12 => fun cs13 => fun h14 => 
      I i12 (V.agg [Cell.str s8, Cell.str s9, Cell.int IntKind.i64 n10, Cell.int IntKind.i64 n11] :: cs13)
        (fun cs15 => fun h16 => 
        ∃ b17 : Bool, (cs15 = [V.one (Cell.bool b17)]) ∧
        (ifT b17
          (Q [V.one (Cell.int IntKind.i64 n3)])
          (x2 (IntKind.i64.wrap (n3 + 1)))) h16) h14)) h7)) h4)
      (Q [V.one (Cell.int IntKind.i64 (-1))]))
theorem den86 (I : FuncId → List V → Post → T) (l0 : Sl) (p1 : Option (Nat × List (Nat × Nat))) (Q : Post) : denF Go.Proofs.Tryd.prog 0 (⟨[], [(26, 524080, [(8, tk Go.Proofs.Tryd.prog 3)])]⟩) I 86 [V.one (Cell.slice 4 l0), V.one (Cell.func p1)] Q = vc86 I l0 p1 Q := by kernel_rfl
def vc87 (I : FuncId → List V → Post → T) (n0 : Int) (n1 : Int) (Q : Post) : T :=
  joinK (A := Int × Int)
    (uncur fun n2 n3 => fun h4 => 
    I 98 [V.one (Cell.int IntKind.i64 n2)]
      (fun cs5 => fun h6 => 
      ∃ n7 : Int, (cs5 = [V.one (Cell.int IntKind.u64 n7)]) ∧
      I 98 [V.one (Cell.int IntKind.i64 n3)]
        (fun cs8 => fun h9 => 
        ∃ n10 : Int, (cs8 = [V.one (Cell.int IntKind.u64 n10)]) ∧
        I 97 [V.one (Cell.int IntKind.u64 n7), V.one (Cell.int IntKind.u64 n10)]
          (fun cs11 => fun h12 => 
          ∃ n13 : Int, (cs11 = [V.one (Cell.int IntKind.u64 n13)]) ∧
          (IntKind.i64.wrap n13 ≠ 0) ∧
          (IntKind.i64.wrap n13 ≠ 0) ∧
          Q [V.agg [Cell.int IntKind.i64 (IntKind.i64.wrap (n2.tdiv (IntKind.i64.wrap n13))), Cell.int IntKind.i64 (IntKind.i64.wrap (n3.tdiv (IntKind.i64.wrap n13)))]] h12) h9) h6) h4)
    (fun x14 => ifT (decide (n1 < 0))
      (x14 ((IntKind.i64.wrap (0 - n0), IntKind.i64.wrap (0 - n1))))
      (x14 ((n0, n1))))
theorem den87 (I : FuncId → List V → Post → T) (n0 : Int) (n1 : Int) (Q : Post) : denF Go.Proofs.Tryd.prog 16 (⟨[(13, 3843, [(0, tk Go.Proofs.Tryd.prog 3), (1, tk Go.Proofs.Tryd.prog 3)])], []⟩) I 87 [V.one (Cell.int IntKind.i64 n0), V.one (Cell.int IntKind.i64 n1)] Q = vc87 I n0 n1 Q := by kernel_rfl
def vc95 (I : FuncId → List V → Post → T) (n0 : Int) (n1 : Int) (n2 : Int) (Q : Post) : T :=
  ifT (decide (n1 ≤ n0))
    (Q [V.one (Cell.bool (decide (n0 ≤ n2)))])
    (Q [V.one (Cell.bool false)])
theorem den95 (I : FuncId → List V → Post → T) (n0 : Int) (n1 : Int) (n2 : Int) (Q : Post) : denF Go.Proofs.Tryd.prog 0 (⟨[], []⟩) I 95 [V.one (Cell.int IntKind.i64 n0), V.one (Cell.int IntKind.i64 n1), V.one (Cell.int IntKind.i64 n2)] Q = vc95 I n0 n1 n2 Q := by kernel_rfl
def vc96 (I : FuncId → List V → Post → T) (s0 : ByteArray) (s1 : ByteArray) (Q : Post) : T :=
  fun h2 =>
  I 101 [V.one (Cell.str s0), V.one (Cell.str s1)]
    (fun cs3 => fun h4 => 
    ∃ s5 : ByteArray, (cs3 = [V.one (Cell.str s5)]) ∧
    Q [V.one (Cell.bool (decide (s5 = { data := #[] })))] h4) h2
theorem den96 (I : FuncId → List V → Post → T) (s0 : ByteArray) (s1 : ByteArray) (Q : Post) : denF Go.Proofs.Tryd.prog 0 (⟨[], []⟩) I 96 [V.one (Cell.str s0), V.one (Cell.str s1)] Q = vc96 I s0 s1 Q := by kernel_rfl
def vc97 (I : FuncId → List V → Post → T) (n0 : Int) (n1 : Int) (Q : Post) : T :=
  loopK (A := Int × Int) ((n0, n1))
    (fun x2 => uncur fun n3 n4 => ifT (!decide (n4 = 0))
      (fun h5 =>
      (n4 ≠ 0) ∧
      x2 ((n4, n3.tmod n4)) h5)
      (Q [V.one (Cell.int IntKind.u64 n3)]))
theorem den97 (I : FuncId → List V → Post → T) (n0 : Int) (n1 : Int) (Q : Post) : denF Go.Proofs.Tryd.prog 0 (⟨[], [(12, 2019, [(0, tk Go.Proofs.Tryd.prog 96), (1, tk Go.Proofs.Tryd.prog 96)])]⟩) I 97 [V.one (Cell.int IntKind.u64 n0), V.one (Cell.int IntKind.u64 n1)] Q = vc97 I n0 n1 Q := by kernel_rfl
def vc98 (I : FuncId → List V → Post → T) (n0 : Int) (Q : Post) : T :=
  ifT (decide (n0 < 0))
    (Q [V.one (Cell.int IntKind.u64 (IntKind.u64.wrap (0 - IntKind.u64.wrap n0)))])
    (Q [V.one (Cell.int IntKind.u64 (IntKind.u64.wrap n0))])
theorem den98 (I : FuncId → List V → Post → T) (n0 : Int) (Q : Post) : denF Go.Proofs.Tryd.prog 0 (⟨[], []⟩) I 98 [V.one (Cell.int IntKind.i64 n0)] Q = vc98 I n0 Q := by kernel_rfl
def vc101 (I : FuncId → List V → Post → T) (s0 : ByteArray) (s1 : ByteArray) (Q : Post) : T :=
  joinK (A := Bool)
    (fun b2 => ifT b2
      (Q [V.one (Cell.str s0)])
      (joinK (A := Bool)
        (fun b3 => ifT b3
          (fun h4 =>
          (((0 : Int) ≤ (0 : Int)) ∧
          0 < (↑s1.size : Int)) ∧
          (((0 : Int) ≤ (0 : Int)) ∧
          0 < (↑s1.size : Int)) ∧
          I 104 [V.one (Cell.str s0), V.one (Cell.int IntKind.u8 (byteAt s1 0))]
            (fun cs5 => fun h6 => 
            ∃ s7 : ByteArray, (cs5 = [V.one (Cell.str s7)]) ∧
            I 103 [V.one (Cell.str s7), V.one (Cell.int IntKind.u8 (byteAt s1 0))]
              (fun cs8 => fun h9 => 
              ∃ s10 : ByteArray, (cs8 = [V.one (Cell.str s10)]) ∧
              Q [V.one (Cell.str s10)] h9) h6) h4)
          (fun h11 =>
          I 105 [V.one (Cell.str s1)]
            (fun cs12 => fun h13 => 
            exCells (List.replicate 256 Kd.bool) fun ds14 => ∃ b270 : Bool, (cs12 = [V.agg ds14, V.one (Cell.bool b270)]) ∧
            (newK (YtihnjdhjkpmggaaDoorVc.Obj.cells false (List.replicate 256 (Cell.bool false))) (fun i271 => fun h272 => 
            (storeK [] i271 0 ds14 (ifT b270
              (fun h273 =>
              I 107 [V.one (Cell.str s0), V.one (Cell.ptr (some (i271, 0)))]
                (fun cs274 => fun h275 => 
                ∃ s276 : ByteArray, (cs274 = [V.one (Cell.str s276)]) ∧
                I 106 [V.one (Cell.str s276), V.one (Cell.ptr (some (i271, 0)))]
                  (fun cs277 => fun h278 => 
                  ∃ s279 : ByteArray, (cs277 = [V.one (Cell.str s279)]) ∧
                  Q [V.one (Cell.str s279)] h278) h275) h273)
              (fun h280 =>
              I 109 [V.one (Cell.str s0), V.one (Cell.str s1)]
                (fun cs281 => fun h282 => 
                ∃ s283 : ByteArray, (cs281 = [V.one (Cell.str s283)]) ∧
                I 108 [V.one (Cell.str s283), V.one (Cell.str s1)]
                  (fun cs284 => fun h285 => 
                  ∃ s286 : ByteArray, (cs284 = [V.one (Cell.str s286)]) ∧
                  Q [V.one (Cell.str s286)] h285) h282) h280))) h272)) h13) h11))
        (fun x287 => ifT (decide ((↑s1.size : Int) = 1))
          (fun h288 =>
          (((0 : Int) ≤ (0 : Int)) ∧
          0 < (↑s1.size : Int)) ∧
          x287 (decide (byteAt s1 0 < 128)) h288)
          (x287 false))))
    (fun x289 => ifT (decide (s0 = { data := #[] }))
      (x289 true)
      (x289 (decide (s1 = { data := #[] }))))
theorem den101 (I : FuncId → List V → Post → T) (s0 : ByteArray) (s1 : ByteArray) (Q : Post) : denF Go.Proofs.Tryd.prog 0 (⟨[(12, 8064, [(12, tk Go.Proofs.Tryd.prog 4)]), (28, 4177920, [(21, tk Go.Proofs.Tryd.prog 4)])], []⟩) I 101 [V.one (Cell.str s0), V.one (Cell.str s1)] Q = vc101 I s0 s1 Q := by kernel_rfl
def vc105 (I : FuncId → List V → Post → T) (s0 : ByteArray) (Q : Post) : T :=
  fun h1 =>
  (newK (YtihnjdhjkpmggaaDoorVc.Obj.cells false (List.replicate 256 (Cell.bool false))) (fun i2 => loopK (A := Int) 0
    (fun x3 => fun n4 => ifT (decide (n4 < (↑s0.size : Int)))
      (fun h5 =>
      ((0 ≤ n4) ∧
      n4 < (↑s0.size : Int)) ∧
      (ifT (decide (byteAt s0 n4 ≥ 128))
        (fun h6 =>
        exCells (List.replicate 256 Kd.bool) fun ds7 => (h6.read i2 0 256 = some ds7) ∧
        (storeK [] i2 0 ds7 (fun h263 =>
        exCells (List.replicate 256 Kd.bool) fun ds264 => (h263.read i2 0 256 = some ds264) ∧
        Q [V.agg ds264, V.one (Cell.bool false)] h263)) h6)
        (fun h520 =>
        ((0 ≤ byteAt s0 n4) ∧
        byteAt s0 n4 < (↑256 : Int)) ∧
        (storeK [] i2 (0 + (byteAt s0 n4).toNat * 1) [Cell.bool true] (x3 (IntKind.i64.wrap (n4 + 1)))) h520)) h5)
      (fun h521 =>
      exCells (List.replicate 256 Kd.bool) fun ds522 => (h521.read i2 0 256 = some ds522) ∧
      (storeK [] i2 0 ds522 (fun h778 =>
      exCells (List.replicate 256 Kd.bool) fun ds779 => (h778.read i2 0 256 = some ds779) ∧
      Q [V.agg ds779, V.one (Cell.bool true)] h778)) h521)))) h1
theorem den105 (I : FuncId → List V → Post → T) (s0 : ByteArray) (Q : Post) : denF Go.Proofs.Tryd.prog 0 (⟨[], [(26, 1048568, [(4, tk Go.Proofs.Tryd.prog 3)])]⟩) I 105 [V.one (Cell.str s0)] Q = vc105 I s0 Q := by kernel_rfl
def vc106 (I : FuncId → List V → Post → T) (s0 : ByteArray) (p1 : Option (Nat × Nat)) (Q : Post) : T :=
  loopK (A := ByteArray) s0
    (fun x2 => fun s3 => ifT (decide ((↑s3.size : Int) > 0))
      (fun h4 =>
      (((0 : Int) ≤ (0 : Int)) ∧
      0 < (↑s3.size : Int)) ∧
      I 111 [V.one (Cell.ptr p1), V.one (Cell.int IntKind.u8 (byteAt s3 0))]
        (fun cs5 => fun h6 => 
        ∃ b7 : Bool, (cs5 = [V.one (Cell.bool b7)]) ∧
        (ifT (!b7)
          (Q [V.one (Cell.str s3)])
          (fun h8 =>
          (((0 : Int) ≤ (1 : Int)) ∧
          (1 ≤ (↑s3.size : Int)) ∧
          (↑s3.size : Int) ≤ (↑s3.size : Int)) ∧
          x2 (s3.extract 1 (↑s3.size : Int).toNat) h8)) h6) h4)
      (Q [V.one (Cell.str s3)]))
theorem den106 (I : FuncId → List V → Post → T) (s0 : ByteArray) (p1 : Option (Nat × Nat)) (Q : Post) : denF Go.Proofs.Tryd.prog 0 (⟨[], [(12, 32737, [(0, tk Go.Proofs.Tryd.prog 9)])]⟩) I 106 [V.one (Cell.str s0), V.one (Cell.ptr p1)] Q = vc106 I s0 p1 Q := by kernel_rfl
def vc107 (I : FuncId → List V → Post → T) (s0 : ByteArray) (p1 : Option (Nat × Nat)) (Q : Post) : T :=
  loopK (A := ByteArray) s0
    (fun x2 => fun s3 => ifT (decide ((↑s3.size : Int) > 0))
      (fun h4 =>
      ((0 ≤ IntKind.i64.wrap ((↑s3.size : Int) - 1)) ∧
      IntKind.i64.wrap ((↑s3.size : Int) - 1) < (↑s3.size : Int)) ∧
      I 111 [V.one (Cell.ptr p1), V.one (Cell.int IntKind.u8 (byteAt s3 (IntKind.i64.wrap ((↑s3.size : Int) - 1))))]
        (fun cs5 => fun h6 => 
        ∃ b7 : Bool, (cs5 = [V.one (Cell.bool b7)]) ∧
        (ifT (!b7)
          (Q [V.one (Cell.str s3)])
          (fun h8 =>
          (((0 : Int) ≤ (0 : Int)) ∧
          (0 ≤ IntKind.i64.wrap ((↑s3.size : Int) - 1)) ∧
          IntKind.i64.wrap ((↑s3.size : Int) - 1) ≤ (↑s3.size : Int)) ∧
          x2 (s3.extract 0 (IntKind.i64.wrap ((↑s3.size : Int) - 1)).toNat) h8)) h6) h4)
      (Q [V.one (Cell.str s3)]))
theorem den107 (I : FuncId → List V → Post → T) (s0 : ByteArray) (p1 : Option (Nat × Nat)) (Q : Post) : denF Go.Proofs.Tryd.prog 0 (⟨[], [(12, 2097121, [(0, tk Go.Proofs.Tryd.prog 9)])]⟩) I 107 [V.one (Cell.str s0), V.one (Cell.ptr p1)] Q = vc107 I s0 p1 Q := by kernel_rfl
def vc111 (I : FuncId → List V → Post → T) (p0 : Option (Nat × Nat)) (n1 : Int) (Q : Post) : T :=
  derefK p0 (fun i2 => fun i3 => fun h4 => 
  ((0 ≤ n1) ∧
  n1 < (↑256 : Int)) ∧
  ∃ b5 : Bool, (h4.read i2 (i3 + n1.toNat * 1) 1 = some [Cell.bool b5]) ∧
  Q [V.one (Cell.bool b5)] h4)
theorem den111 (I : FuncId → List V → Post → T) (p0 : Option (Nat × Nat)) (n1 : Int) (Q : Post) : denF Go.Proofs.Tryd.prog 0 (⟨[], []⟩) I 111 [V.one (Cell.ptr p0), V.one (Cell.int IntKind.u8 n1)] Q = vc111 I p0 n1 Q := by kernel_rfl
end Go.Proofs.YtihnjdhjkpmggaaDoorVc
