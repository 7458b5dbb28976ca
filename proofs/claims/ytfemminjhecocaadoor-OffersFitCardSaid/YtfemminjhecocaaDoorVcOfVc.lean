/- Formulas of the functions that OffersFit reaches beyond those of PursesKept. -/
import Derived.Test.YtfemminjhecocaaDoorVcPkOld
set_option linter.unusedVariables false
set_option maxRecDepth 100000
namespace Go.Proofs.YtfemminjhecocaaDoorVc
/-- handbill/handlaw1.OffersFit -/
def vc4 (I : FuncId → List V → Post → T) (l0 : Sl) (Q : Post) : T :=
  fun h1 =>
  (newK (YtfemminjhecocaaDoorVc.Obj.cells false [Cell.slice 1 l0, Cell.int IntKind.i64 0]) (fun i2 => fun h3 => 
  I 31 [V.one (Cell.ptr (some (i2, 0))), V.one (Cell.int IntKind.i64 5)]
    (fun cs4 => fun h5 => 
    ∃ l6 : Sl, (cs4 = [V.one (Cell.slice 12 l6)]) ∧
    I 32 [V.one (Cell.ptr (some (i2, 0)))]
      (fun cs7 => fun h8 => 
      ∃ l9 : Sl, ∃ n10 : Int, (cs7 = [V.agg [Cell.slice 4 l9, Cell.int IntKind.i64 n10]]) ∧
      I 33 [V.one (Cell.ptr (some (i2, 0)))]
        (fun cs11 => fun h12 => 
        ∃ n13 : Int, (cs11 = [V.one (Cell.int IntKind.i64 n13)]) ∧
        I 34 [V.one (Cell.slice 12 l6)]
          (fun cs14 => fun h15 => 
          ∃ n16 : Int, (cs14 = [V.one (Cell.int IntKind.i64 n16)]) ∧
          (joinK (A := Bool)
            (fun b17 => ifT b17
              (Q [V.one (Cell.bool false)])
              (fun h18 =>
              I 38 [V.one (Cell.slice 12 l6)]
                (fun cs19 => fun h20 => 
                ∃ b21 : Bool, ∃ n22 : Int, (cs19 = [V.one (Cell.bool b21), V.one (Cell.int IntKind.i64 n22)]) ∧
                (joinK (A := Bool)
                  (fun b23 => ifT b23
                    (Q [V.one (Cell.bool false)])
                    (fun h24 =>
                    I 40 [V.one (Cell.ptr (some (i2, 0))), V.one (Cell.str { data := #[120] })]
                      (fun cs25 => fun h26 => 
                      ∃ s27 : ByteArray, ∃ n28 : Int, ∃ n29 : Int, ∃ n30 : Int, ∃ l31 : Sl, ∃ n32 : Int, ∃ n33 : Int, ∃ s34 : ByteArray, ∃ b35 : Bool, ∃ n36 : Int, ∃ n37 : Int, ∃ n38 : Int, (cs25 = [V.agg [Cell.str s27, Cell.int IntKind.i64 n28, Cell.int IntKind.i64 n29, Cell.int IntKind.i64 n30, Cell.slice 1 l31, Cell.int IntKind.i64 n32, Cell.int IntKind.i64 n33, Cell.str s34, Cell.bool b35, Cell.int IntKind.i64 n36, Cell.int IntKind.i64 n37, Cell.int IntKind.i64 n38]]) ∧
                      (joinK (A := ByteArray × Int × Int × Int × Sl × Int × Int × ByteArray × Bool × Int × Int × Int × PUnit)
                        (uncur fun s39 => uncur fun n40 => uncur fun n41 => uncur fun n42 => uncur fun l43 => uncur fun n44 => uncur fun n45 => uncur fun s46 => uncur fun b47 => uncur fun n48 => uncur fun n49 => uncur fun n50 x51 => fun h52 => 
                        I 41 [V.agg [Cell.str s39, Cell.int IntKind.i64 n40, Cell.int IntKind.i64 n41, Cell.int IntKind.i64 n42, Cell.slice 1 l43, Cell.int IntKind.i64 n44, Cell.int IntKind.i64 n45, Cell.str s46, Cell.bool b47, Cell.int IntKind.i64 n48, Cell.int IntKind.i64 n49, Cell.int IntKind.i64 n50], V.agg [Cell.slice 4 l9, Cell.int IntKind.i64 n10], V.one (Cell.int IntKind.i64 n13)]
                          (fun cs53 => fun h54 => 
                          ∃ n55 : Int, ∃ n56 : Int, (cs53 = [V.one (Cell.int IntKind.i64 n55), V.one (Cell.int IntKind.i64 n56)]) ∧
                          (newK (YtfemminjhecocaaDoorVc.Obj.cells false [Cell.str s39, Cell.int IntKind.i64 n40, Cell.int IntKind.i64 n41, Cell.int IntKind.i64 n42, Cell.slice 1 l43, Cell.int IntKind.i64 n44, Cell.int IntKind.i64 n45, Cell.str s46, Cell.bool b47, Cell.int IntKind.i64 n48, Cell.int IntKind.i64 n49, Cell.int IntKind.i64 n50]) (fun i57 => fun h58 =>
                          I 34 [V.one (Cell.slice 12 { a := some (i57, 0), len := 1 })]
                            (fun cs59 => fun h60 => 
                            ∃ n61 : Int, (cs59 = [V.one (Cell.int IntKind.i64 n61)]) ∧
                            I 37 [V.agg [Cell.slice 4 l9, Cell.int IntKind.i64 n10]]
                              (fun cs62 => fun h63 => 
                              ∃ n64 : Int, (cs62 = [V.one (Cell.int IntKind.i64 n64)]) ∧
                              (newK (YtfemminjhecocaaDoorVc.Obj.cells false [Cell.int IntKind.i64 n61, Cell.int IntKind.i64 n64]) (fun i65 => fun h66 =>
                              I 42 [V.one (Cell.slice 1 { a := some (i65, 0), len := 2 })]
                                (fun cs67 => fun h68 => 
                                ∃ n69 : Int, (cs67 = [V.one (Cell.int IntKind.i64 n69)]) ∧
                                (joinK (A := Bool)
                                  (fun b70 => joinK (A := Int)
                                    (fun n71 => fun h72 => 
                                    I 14 []
                                      (fun cs73 => fun h74 => 
                                      ∃ b75 : Bool, (cs73 = [V.one (Cell.bool b75)]) ∧
                                      (ifT b75
                                        (ifT (decide (n56 = n71))
                                          (ifT (!decide (n71 = 0))
                                            (Q [V.one (Cell.bool true)])
                                            (fun h76 =>
                                            I 43 [V.agg [Cell.str s39, Cell.int IntKind.i64 n40, Cell.int IntKind.i64 n41, Cell.int IntKind.i64 n42, Cell.slice 1 l43, Cell.int IntKind.i64 n44, Cell.int IntKind.i64 n45, Cell.str s46, Cell.bool b47, Cell.int IntKind.i64 n48, Cell.int IntKind.i64 n49, Cell.int IntKind.i64 n50], V.agg [Cell.slice 4 l9, Cell.int IntKind.i64 n10], V.one (Cell.int IntKind.i64 n13)]
                                              (fun cs77 => fun h78 => 
                                              ∃ n79 : Int, (cs77 = [V.one (Cell.int IntKind.i64 n79)]) ∧
                                              Q [V.one (Cell.bool (decide (n55 = n79)))] h78) h76))
                                          (Q [V.one (Cell.bool false)]))
                                        (Q [V.one (Cell.bool false)])) h74) h72)
                                    (fun x80 => ifT b70
                                      (x80 1)
                                      (x80 n69)))
                                  (fun x81 => ifT (decide (n69 = 0))
                                    (fun h82 =>
                                    I 11 [V.one (Cell.int IntKind.i64 n13)]
                                      (fun cs83 => fun h84 => 
                                      ∃ b85 : Bool, (cs83 = [V.one (Cell.bool b85)]) ∧
                                      x81 (!b85) h84) h82)
                                    (x81 false))) h68) h66)) h63) h60) h58)) h54) h52)
                        (fun x86 => ifT (decide ((↑l6.len : Int) > 0))
                          (fun h87 =>
                          (((0 : Int) ≤ (0 : Int)) ∧
                          0 < (↑l6.len : Int)) ∧
                          (derefK l6.a (fun i88 => fun i89 => fun h90 =>
                          ∃ s91 : ByteArray, ∃ n92 : Int, ∃ n93 : Int, ∃ n94 : Int, ∃ l95 : Sl, ∃ n96 : Int, ∃ n97 : Int, ∃ s98 : ByteArray, ∃ b99 : Bool, ∃ n100 : Int, ∃ n101 : Int, ∃ n102 : Int, (h90.read i88 (i89 + 0) 12 = some [Cell.str s91, Cell.int IntKind.i64 n92, Cell.int IntKind.i64 n93, Cell.int IntKind.i64 n94, Cell.slice 1 l95, Cell.int IntKind.i64 n96, Cell.int IntKind.i64 n97, Cell.str s98, Cell.bool b99, Cell.int IntKind.i64 n100, Cell.int IntKind.i64 n101, Cell.int IntKind.i64 n102]) ∧
                          x86 ((s91, n92, n93, n94, l95, n96, n97, s98, b99, n100, n101, n102, ())) h90)) h87)
                          (x86 ((s27, n28, n29, n30, l31, n32, n33, s34, b35, n36, n37, n38, ()))))) h26) h24))
                  (fun x103 => ifT (!decide (n22 = n16))
                    (x103 true)
                    (ifT (decide (n16 = 0))
                      (fun h104 =>
                      I 39 [V.one (Cell.slice 12 l6)]
                        (fun cs105 => fun h106 => 
                        ∃ b107 : Bool, (cs105 = [V.one (Cell.bool b107)]) ∧
                        x103 (!decide (b21 = b107)) h106) h104)
                      (x103 false)))) h20) h18))
            (fun x108 => fun h109 => 
            I 35 [V.one (Cell.slice 12 l6)]
              (fun cs110 => fun h111 => 
              ∃ n112 : Int, (cs110 = [V.one (Cell.int IntKind.i64 n112)]) ∧
              (ifT (!decide (n112 = n16))
                (x108 true)
                (fun h113 =>
                I 36 [V.agg [Cell.slice 4 l9, Cell.int IntKind.i64 n10]]
                  (fun cs114 => fun h115 => 
                  ∃ n116 : Int, (cs114 = [V.one (Cell.int IntKind.i64 n116)]) ∧
                  I 37 [V.agg [Cell.slice 4 l9, Cell.int IntKind.i64 n10]]
                    (fun cs117 => fun h118 => 
                    ∃ n119 : Int, (cs117 = [V.one (Cell.int IntKind.i64 n119)]) ∧
                    x108 (!decide (n116 = n119)) h118) h115) h113)) h111) h109)) h15) h12) h8) h5) h3)) h1
theorem den4 (I : FuncId → List V → Post → T) (l0 : Sl) (Q : Post) : denF Go.Proofs.Tryd.prog 1056 (⟨[(124, 34342961152, [(34, tk Go.Proofs.Tryd.prog 4)]), (508, 9006099743113216, [(52, tk Go.Proofs.Tryd.prog 4)]), (2045, 2017612633061983232, [(10, tvar Go.Proofs.Tryd.prog 69)]), (16380, 4797924346595559537115136, [(81, tk Go.Proofs.Tryd.prog 4)]), (16381, 128, [(7, tk Go.Proofs.Tryd.prog 28)])], []⟩) I 4 [V.one (Cell.slice 1 l0)] Q = vc4 I l0 Q := by kernel_rfl
/-- (*handbill/handmake.Stream).Offers -/
def vc31 (I : FuncId → List V → Post → T) (p0 : Option (Nat × Nat)) (n1 : Int) (Q : Post) : T :=
  fun h2 =>
  I 16 [V.one (Cell.ptr p0), V.one (Cell.int IntKind.i64 (IntKind.i64.wrap (n1 + 1)))]
    (fun cs3 => fun h4 => 
    ∃ n5 : Int, (cs3 = [V.one (Cell.int IntKind.i64 n5)]) ∧
    (loopK (A := Sl × Int) (({ a := none, len := 0 }, 0))
      (fun x6 => uncur fun l7 n8 => ifT (decide (n8 < n5))
        (fun h9 =>
        (1 + (Utf8.encode (IntKind.i32.wrap (IntKind.i64.wrap (97 + n8)))).size ≤ 9223372036854775807) ∧
        I 40 [V.one (Cell.ptr p0), V.one (Cell.str ({ data := #[111] } ++ Utf8.encode (IntKind.i32.wrap (IntKind.i64.wrap (97 + n8)))))]
          (fun cs10 => fun h11 => 
          ∃ s12 : ByteArray, ∃ n13 : Int, ∃ n14 : Int, ∃ n15 : Int, ∃ l16 : Sl, ∃ n17 : Int, ∃ n18 : Int, ∃ s19 : ByteArray, ∃ b20 : Bool, ∃ n21 : Int, ∃ n22 : Int, ∃ n23 : Int, (cs10 = [V.agg [Cell.str s12, Cell.int IntKind.i64 n13, Cell.int IntKind.i64 n14, Cell.int IntKind.i64 n15, Cell.slice 1 l16, Cell.int IntKind.i64 n17, Cell.int IntKind.i64 n18, Cell.str s19, Cell.bool b20, Cell.int IntKind.i64 n21, Cell.int IntKind.i64 n22, Cell.int IntKind.i64 n23]]) ∧
          (appendTo [] 12 128 l7 1 [Cell.str s12, Cell.int IntKind.i64 n13, Cell.int IntKind.i64 n14, Cell.int IntKind.i64 n15, Cell.slice 1 l16, Cell.int IntKind.i64 n17, Cell.int IntKind.i64 n18, Cell.str s19, Cell.bool b20, Cell.int IntKind.i64 n21, Cell.int IntKind.i64 n22, Cell.int IntKind.i64 n23] (fun l24 => fun h25 => 
          x6 ((l24, IntKind.i64.wrap (n8 + 1))) h25)) h11) h9)
        (joinK (A := Bool)
          (fun b26 => ifT b26
            (fun h27 =>
            I 16 [V.one (Cell.ptr p0), V.one (Cell.int IntKind.i64 (↑l7.len : Int))]
              (fun cs28 => fun h29 => 
              ∃ n30 : Int, (cs28 = [V.one (Cell.int IntKind.i64 n30)]) ∧
              ((0 ≤ n30) ∧
              n30 < (↑l7.len : Int)) ∧
              (derefK l7.a (fun i31 => fun i32 => fun h33 => 
              I 16 [V.one (Cell.ptr p0), V.one (Cell.int IntKind.i64 9)]
                (fun cs34 => fun h35 => 
                ∃ n36 : Int, (cs34 = [V.one (Cell.int IntKind.i64 n36)]) ∧
                (ifT (decide (n36 = 0))
                  (fun h37 =>
                  (newK (YtfemminjhecocaaDoorVc.Obj.cells false [Cell.str { data := #[] }, Cell.str { data := #[111, 97] }, Cell.str { data := #[79] }]) (fun i38 => fun h39 =>
                  I 53 [V.one (Cell.ptr p0), V.one (Cell.slice 1 { a := some (i38, 0), len := 3 })]
                    (fun cs40 => fun h41 => 
                    ∃ s42 : ByteArray, (cs40 = [V.one (Cell.str s42)]) ∧
                    (storeK [] i31 (i32 + n30.toNat * 12 + 0) [Cell.str s42] (Q [V.one (Cell.slice 12 l7)])) h41) h39)) h37)
                  (ifT (decide (n36 = 1))
                    (fun h43 =>
                    I 19 [V.one (Cell.ptr p0), V.one (Cell.int IntKind.i64 0), V.one (Cell.int IntKind.i64 5)]
                      (fun cs44 => fun h45 => 
                      ∃ n46 : Int, (cs44 = [V.one (Cell.int IntKind.i64 n46)]) ∧
                      (storeK [] i31 (i32 + n30.toNat * 12 + 1) [Cell.int IntKind.i64 n46] (Q [V.one (Cell.slice 12 l7)])) h45) h43)
                    (ifT (decide (n36 = 2))
                      (fun h47 =>
                      (newK (YtfemminjhecocaaDoorVc.Obj.cells false [Cell.int IntKind.i64 0, Cell.int IntKind.i64 101, Cell.int IntKind.i64 21, Cell.int IntKind.i64 1000000000001, Cell.int IntKind.i64 (-1)]) (fun i48 => fun h49 =>
                      I 9 [V.one (Cell.ptr p0), V.one (Cell.slice 1 { a := some (i48, 0), len := 5 })]
                        (fun cs50 => fun h51 => 
                        ∃ n52 : Int, (cs50 = [V.one (Cell.int IntKind.i64 n52)]) ∧
                        (storeK [] i31 (i32 + n30.toNat * 12 + 2) [Cell.int IntKind.i64 n52] (Q [V.one (Cell.slice 12 l7)])) h51) h49)) h47)
                      (ifT (decide (n36 = 3))
                        (fun h53 =>
                        (newK (YtfemminjhecocaaDoorVc.Obj.cells false [Cell.int IntKind.i64 0, Cell.int IntKind.i64 1, Cell.int IntKind.i64 21, Cell.int IntKind.i64 (-1)]) (fun i54 => fun h55 =>
                        I 9 [V.one (Cell.ptr p0), V.one (Cell.slice 1 { a := some (i54, 0), len := 4 })]
                          (fun cs56 => fun h57 => 
                          ∃ n58 : Int, (cs56 = [V.one (Cell.int IntKind.i64 n58)]) ∧
                          (storeK [] i31 (i32 + n30.toNat * 12 + 3) [Cell.int IntKind.i64 n58] (Q [V.one (Cell.slice 12 l7)])) h57) h55)) h53)
                        (ifT (decide (n36 = 4))
                          (fun h59 =>
                          (newK (YtfemminjhecocaaDoorVc.Obj.cells false [Cell.int IntKind.i64 (-1), Cell.int IntKind.i64 0, Cell.int IntKind.i64 1000000000001]) (fun i60 => fun h61 =>
                          I 9 [V.one (Cell.ptr p0), V.one (Cell.slice 1 { a := some (i60, 0), len := 3 })]
                            (fun cs62 => fun h63 => 
                            ∃ n64 : Int, (cs62 = [V.one (Cell.int IntKind.i64 n64)]) ∧
                            (newK (YtfemminjhecocaaDoorVc.Obj.cells false [Cell.int IntKind.i64 (-1), Cell.int IntKind.i64 0]) (fun i65 => fun h66 =>
                            I 9 [V.one (Cell.ptr p0), V.one (Cell.slice 1 { a := some (i65, 0), len := 2 })]
                              (fun cs67 => fun h68 => 
                              ∃ n69 : Int, (cs67 = [V.one (Cell.int IntKind.i64 n69)]) ∧
                              (storeK [] i31 (i32 + n30.toNat * 12 + 5) [Cell.int IntKind.i64 n64] (fun h70 =>
                              (storeK [] i31 (i32 + n30.toNat * 12 + 6) [Cell.int IntKind.i64 n69] (Q [V.one (Cell.slice 12 l7)])) h70)) h68) h66)) h63) h61)) h59)
                          (ifT (decide (n36 = 5))
                            (fun h71 =>
                            (newK (YtfemminjhecocaaDoorVc.Obj.cells false [Cell.int IntKind.i64 (-1), Cell.int IntKind.i64 4321440, Cell.int IntKind.i64 5]) (fun i72 => fun h73 =>
                            I 9 [V.one (Cell.ptr p0), V.one (Cell.slice 1 { a := some (i72, 0), len := 3 })]
                              (fun cs74 => fun h75 => 
                              ∃ n76 : Int, (cs74 = [V.one (Cell.int IntKind.i64 n76)]) ∧
                              (newK (YtfemminjhecocaaDoorVc.Obj.cells false [Cell.int IntKind.i64 5, Cell.int IntKind.i64 6, Cell.int IntKind.i64 4321441]) (fun i77 => fun h78 =>
                              I 9 [V.one (Cell.ptr p0), V.one (Cell.slice 1 { a := some (i77, 0), len := 3 })]
                                (fun cs79 => fun h80 => 
                                ∃ n81 : Int, (cs79 = [V.one (Cell.int IntKind.i64 n81)]) ∧
                                (storeK [] i31 (i32 + n30.toNat * 12 + 10) [Cell.int IntKind.i64 n76] (fun h82 =>
                                (storeK [] i31 (i32 + n30.toNat * 12 + 11) [Cell.int IntKind.i64 n81] (Q [V.one (Cell.slice 12 l7)])) h82)) h80) h78)) h75) h73)) h71)
                            (ifT (decide (n36 = 6))
                              (fun h83 =>
                              (newK (YtfemminjhecocaaDoorVc.Obj.cells false [Cell.str { data := #[71] }, Cell.str { data := #[103, 49] }]) (fun i84 => fun h85 =>
                              I 53 [V.one (Cell.ptr p0), V.one (Cell.slice 1 { a := some (i84, 0), len := 2 })]
                                (fun cs86 => fun h87 => 
                                ∃ s88 : ByteArray, (cs86 = [V.one (Cell.str s88)]) ∧
                                (storeK [] i31 (i32 + n30.toNat * 12 + 7) [Cell.str s88] (Q [V.one (Cell.slice 12 l7)])) h87) h85)) h83)
                              (ifT (decide (n36 = 7))
                                (fun h89 =>
                                (newK (YtfemminjhecocaaDoorVc.Obj.cells false [Cell.str { data := #[72, 97, 116] }]) (fun i90 => fun h91 => 
                                (newK (YtfemminjhecocaaDoorVc.Obj.cells false [Cell.str { data := #[104, 97, 116] }, Cell.str { data := #[99, 97, 112] }]) (fun i92 => fun h93 => 
                                (newK (YtfemminjhecocaaDoorVc.Obj.cells false [Cell.str { data := #[97] }, Cell.str { data := #[98] }, Cell.str { data := #[99] }, Cell.str { data := #[100] }, Cell.str { data := #[101] }, Cell.str { data := #[102] }, Cell.str { data := #[103] }, Cell.str { data := #[104] }, Cell.str { data := #[105] }, Cell.str { data := #[106] }, Cell.str { data := #[107] }]) (fun i94 => fun h95 => 
                                (newK (YtfemminjhecocaaDoorVc.Obj.cells false [Cell.slice 1 { a := some (i90, 0), len := 1 }, Cell.slice 1 { a := some (i92, 0), len := 2 }, Cell.slice 1 { a := some (i94, 0), len := 11 }]) (fun i96 => fun h97 => 
                                I 16 [V.one (Cell.ptr p0), V.one (Cell.int IntKind.i64 3)]
                                  (fun cs98 => fun h99 => 
                                  ∃ n100 : Int, (cs98 = [V.one (Cell.int IntKind.i64 n100)]) ∧
                                  ((0 ≤ n100) ∧
                                  n100 < (↑3 : Int)) ∧
                                  ∃ l101 : Sl, (h99.read i96 (0 + n100.toNat * 1) 1 = some [Cell.slice 1 l101]) ∧
                                  (storeK [] i31 (i32 + n30.toNat * 12 + 4) [Cell.slice 1 l101] (Q [V.one (Cell.slice 12 l7)])) h99) h97)) h95)) h93)) h91)) h89)
                                (fun h102 =>
                                (newK (YtfemminjhecocaaDoorVc.Obj.cells false [Cell.int IntKind.i64 (-1), Cell.int IntKind.i64 1001]) (fun i103 => fun h104 =>
                                I 9 [V.one (Cell.ptr p0), V.one (Cell.slice 1 { a := some (i103, 0), len := 2 })]
                                  (fun cs105 => fun h106 => 
                                  ∃ n107 : Int, (cs105 = [V.one (Cell.int IntKind.i64 n107)]) ∧
                                  (storeK [] i31 (i32 + n30.toNat * 12 + 9) [Cell.int IntKind.i64 n107] (Q [V.one (Cell.slice 12 l7)])) h106) h104)) h102))))))))) h35) h33)) h29) h27)
            (Q [V.one (Cell.slice 12 l7)]))
          (fun x108 => fun h109 => 
          I 17 [V.one (Cell.ptr p0), V.one (Cell.int IntKind.i64 10)]
            (fun cs110 => fun h111 => 
            ∃ b112 : Bool, (cs110 = [V.one (Cell.bool b112)]) ∧
            (ifT b112
              (x108 (decide ((↑l7.len : Int) > 0)))
              (x108 false)) h111) h109)))) h4) h2
theorem den31 (I : FuncId → List V → Post → T) (p0 : Option (Nat × Nat)) (n1 : Int) (Q : Post) : denF Go.Proofs.Tryd.prog 0 (⟨[(60, 8522825728, [(32, tk Go.Proofs.Tryd.prog 4)])], [(58, 67104864, [(5, tk Go.Proofs.Tryd.prog 55), (12, tk Go.Proofs.Tryd.prog 3)])]⟩) I 31 [V.one (Cell.ptr p0), V.one (Cell.int IntKind.i64 n1)] Q = vc31 I p0 n1 Q := by kernel_rfl
/-- (*handbill/handmake.Stream).Offer -/
def vc40 (I : FuncId → List V → Post → T) (p0 : Option (Nat × Nat)) (s1 : ByteArray) (Q : Post) : T :=
  fun h2 =>
  I 19 [V.one (Cell.ptr p0), V.one (Cell.int IntKind.i64 1), V.one (Cell.int IntKind.i64 4)]
    (fun cs3 => fun h4 => 
    ∃ n5 : Int, (cs3 = [V.one (Cell.int IntKind.i64 n5)]) ∧
    (newK (YtfemminjhecocaaDoorVc.Obj.cells false [Cell.int IntKind.i64 0, Cell.int IntKind.i64 0, Cell.int IntKind.i64 1, Cell.int IntKind.i64 2]) (fun i6 => fun h7 =>
    I 9 [V.one (Cell.ptr p0), V.one (Cell.slice 1 { a := some (i6, 0), len := 4 })]
      (fun cs8 => fun h9 => 
      ∃ n10 : Int, (cs8 = [V.one (Cell.int IntKind.i64 n10)]) ∧
      (newK (YtfemminjhecocaaDoorVc.Obj.cells false [Cell.int IntKind.i64 0, Cell.int IntKind.i64 0, Cell.int IntKind.i64 0, Cell.int IntKind.i64 60]) (fun i11 => fun h12 =>
      I 9 [V.one (Cell.ptr p0), V.one (Cell.slice 1 { a := some (i11, 0), len := 4 })]
        (fun cs13 => fun h14 => 
        ∃ n15 : Int, (cs13 = [V.one (Cell.int IntKind.i64 n15)]) ∧
        (newK (YtfemminjhecocaaDoorVc.Obj.cells false [Cell.int IntKind.i64 50, Cell.int IntKind.i64 100, Cell.int IntKind.i64 4321440, Cell.int IntKind.i64 4321440]) (fun i16 => fun h17 =>
        I 9 [V.one (Cell.ptr p0), V.one (Cell.slice 1 { a := some (i16, 0), len := 4 })]
          (fun cs18 => fun h19 => 
          ∃ n20 : Int, (cs18 = [V.one (Cell.int IntKind.i64 n20)]) ∧
          (joinK (A := ByteArray × Int × Int × Int × Sl × Int × Int × ByteArray × Bool × Int × Int × Int × PUnit)
            (uncur fun s21 => uncur fun n22 => uncur fun n23 => uncur fun n24 => uncur fun l25 => uncur fun n26 => uncur fun n27 => uncur fun s28 => uncur fun b29 => uncur fun n30 => uncur fun n31 => uncur fun n32 x33 => joinK (A := Bool)
              (fun b34 => joinK (A := ByteArray × Int × Int × Int × Sl × Int × Int × ByteArray × Bool × Int × Int × Int × PUnit)
                (uncur fun s35 => uncur fun n36 => uncur fun n37 => uncur fun n38 => uncur fun l39 => uncur fun n40 => uncur fun n41 => uncur fun s42 => uncur fun b43 => uncur fun n44 => uncur fun n45 => uncur fun n46 x47 => fun h48 => 
                (newK (YtfemminjhecocaaDoorVc.Obj.cells false [Cell.int IntKind.i64 0, Cell.int IntKind.i64 0, Cell.int IntKind.i64 0, Cell.int IntKind.i64 500, Cell.int IntKind.i64 3000]) (fun i49 => fun h50 =>
                I 9 [V.one (Cell.ptr p0), V.one (Cell.slice 1 { a := some (i49, 0), len := 5 })]
                  (fun cs51 => fun h52 => 
                  ∃ n53 : Int, (cs51 = [V.one (Cell.int IntKind.i64 n53)]) ∧
                  (newK (YtfemminjhecocaaDoorVc.Obj.cells false [Cell.int IntKind.i64 0, Cell.int IntKind.i64 0, Cell.int IntKind.i64 0, Cell.int IntKind.i64 100, Cell.int IntKind.i64 333]) (fun i54 => fun h55 =>
                  I 9 [V.one (Cell.ptr p0), V.one (Cell.slice 1 { a := some (i54, 0), len := 5 })]
                    (fun cs56 => fun h57 => 
                    ∃ n58 : Int, (cs56 = [V.one (Cell.int IntKind.i64 n58)]) ∧
                    I 17 [V.one (Cell.ptr p0), V.one (Cell.int IntKind.i64 4)]
                      (fun cs59 => fun h60 => 
                      ∃ b61 : Bool, (cs59 = [V.one (Cell.bool b61)]) ∧
                      (joinK (A := ByteArray × Int × Int × Int × Sl × Int × Int × ByteArray × Bool × Int × Int × Int × PUnit)
                        (uncur fun s62 => uncur fun n63 => uncur fun n64 => uncur fun n65 => uncur fun l66 => uncur fun n67 => uncur fun n68 => uncur fun s69 => uncur fun b70 => uncur fun n71 => uncur fun n72 => uncur fun n73 x74 => fun h75 => 
                        I 17 [V.one (Cell.ptr p0), V.one (Cell.int IntKind.i64 8)]
                          (fun cs76 => fun h77 => 
                          ∃ b78 : Bool, (cs76 = [V.one (Cell.bool b78)]) ∧
                          Q [V.agg [Cell.str s62, Cell.int IntKind.i64 n63, Cell.int IntKind.i64 n64, Cell.int IntKind.i64 n65, Cell.slice 1 l66, Cell.int IntKind.i64 n67, Cell.int IntKind.i64 n68, Cell.str s69, Cell.bool b78, Cell.int IntKind.i64 n71, Cell.int IntKind.i64 n72, Cell.int IntKind.i64 n73]] h77) h75)
                        (fun x79 => ifT b61
                          (fun h80 =>
                          (newK (YtfemminjhecocaaDoorVc.Obj.cells false [Cell.str { data := #[103, 49] }, Cell.str { data := #[103, 50] }]) (fun i81 => fun h82 =>
                          I 53 [V.one (Cell.ptr p0), V.one (Cell.slice 1 { a := some (i81, 0), len := 2 })]
                            (fun cs83 => fun h84 => 
                            ∃ s85 : ByteArray, (cs83 = [V.one (Cell.str s85)]) ∧
                            x79 ((s35, n36, n37, n38, l39, n53, n58, s85, b43, n44, n45, n46, ())) h84) h82)) h80)
                          (x79 ((s35, n36, n37, n38, l39, n53, n58, s42, b43, n44, n45, n46, ()))))) h60) h57) h55)) h52) h50)) h48)
                (fun x86 => ifT b34
                  (fun h87 =>
                  (newK (YtfemminjhecocaaDoorVc.Obj.cells false [Cell.str { data := #[104, 97, 116] }]) (fun i88 => fun h89 => 
                  (newK (YtfemminjhecocaaDoorVc.Obj.cells false [Cell.str { data := #[99, 97, 112] }, Cell.str { data := #[104, 97, 116] }]) (fun i90 => fun h91 => 
                  (newK (YtfemminjhecocaaDoorVc.Obj.cells false [Cell.str { data := #[115, 104, 111, 101] }]) (fun i92 => fun h93 => 
                  (newK (YtfemminjhecocaaDoorVc.Obj.cells false [Cell.slice 1 { a := some (i88, 0), len := 1 }, Cell.slice 1 { a := some (i90, 0), len := 2 }, Cell.slice 1 { a := some (i92, 0), len := 1 }]) (fun i94 => fun h95 => 
                  I 16 [V.one (Cell.ptr p0), V.one (Cell.int IntKind.i64 3)]
                    (fun cs96 => fun h97 => 
                    ∃ n98 : Int, (cs96 = [V.one (Cell.int IntKind.i64 n98)]) ∧
                    ((0 ≤ n98) ∧
                    n98 < (↑3 : Int)) ∧
                    ∃ l99 : Sl, (h97.read i94 (0 + n98.toNat * 1) 1 = some [Cell.slice 1 l99]) ∧
                    x86 ((s21, n22, n23, n24, l99, n26, n27, s28, b29, n30, n31, n32, ())) h97) h95)) h93)) h91)) h89)) h87)
                  (x86 ((s21, n22, n23, n24, l25, n26, n27, s28, b29, n30, n31, n32, ())))))
              (fun x100 => ifT (!decide (n22 = 4))
                (fun h101 =>
                I 17 [V.one (Cell.ptr p0), V.one (Cell.int IntKind.i64 2)]
                  (fun cs102 => fun h103 => 
                  ∃ b104 : Bool, (cs102 = [V.one (Cell.bool b104)]) ∧
                  x100 b104 h103) h101)
                (x100 false)))
            (fun x105 => ifT (decide (n5 = 1))
              (fun h106 =>
              (newK (YtfemminjhecocaaDoorVc.Obj.cells false [Cell.int IntKind.i64 1, Cell.int IntKind.i64 10, Cell.int IntKind.i64 33, Cell.int IntKind.i64 50, Cell.int IntKind.i64 100]) (fun i107 => fun h108 =>
              I 9 [V.one (Cell.ptr p0), V.one (Cell.slice 1 { a := some (i107, 0), len := 5 })]
                (fun cs109 => fun h110 => 
                ∃ n111 : Int, (cs109 = [V.one (Cell.int IntKind.i64 n111)]) ∧
                x105 ((s1, n5, n111, 0, { a := none, len := 0 }, 0, 0, ByteArray.empty, false, n10, n15, max n20 (IntKind.i64.wrap (n15 + 1)), ())) h110) h108)) h106)
              (joinK (A := ByteArray × Int × Int × Int × Sl × Int × Int × ByteArray × Bool × Int × Int × Int × PUnit)
                (uncur fun s112 => uncur fun n113 => uncur fun n114 => uncur fun n115 => uncur fun l116 => uncur fun n117 => uncur fun n118 => uncur fun s119 => uncur fun b120 => uncur fun n121 => uncur fun n122 => uncur fun n123 x124 => fun h125 => 
                x105 ((s112, n113, n114, n115, l116, n117, n118, s119, b120, n121, n122, n123, ())) h125)
                (fun x126 => ifT (decide (n5 = 3))
                  (fun h127 =>
                  I 19 [V.one (Cell.ptr p0), V.one (Cell.int IntKind.i64 1), V.one (Cell.int IntKind.i64 3)]
                    (fun cs128 => fun h129 => 
                    ∃ n130 : Int, (cs128 = [V.one (Cell.int IntKind.i64 n130)]) ∧
                    I 19 [V.one (Cell.ptr p0), V.one (Cell.int IntKind.i64 1), V.one (Cell.int IntKind.i64 2)]
                      (fun cs131 => fun h132 => 
                      ∃ n133 : Int, (cs131 = [V.one (Cell.int IntKind.i64 n133)]) ∧
                      x126 ((s1, n5, n130, n133, { a := none, len := 0 }, 0, 0, ByteArray.empty, false, n10, n15, max n20 (IntKind.i64.wrap (n15 + 1)), ())) h132) h129) h127)
                  (fun h134 =>
                  (newK (YtfemminjhecocaaDoorVc.Obj.cells false [Cell.int IntKind.i64 1, Cell.int IntKind.i64 100, Cell.int IntKind.i64 500, Cell.int IntKind.i64 5000, Cell.int IntKind.i64 1000000000000]) (fun i135 => fun h136 =>
                  I 9 [V.one (Cell.ptr p0), V.one (Cell.slice 1 { a := some (i135, 0), len := 5 })]
                    (fun cs137 => fun h138 => 
                    ∃ n139 : Int, (cs137 = [V.one (Cell.int IntKind.i64 n139)]) ∧
                    x126 ((s1, n5, n139, 0, { a := none, len := 0 }, 0, 0, ByteArray.empty, false, n10, n15, max n20 (IntKind.i64.wrap (n15 + 1)), ())) h138) h136)) h134))))) h19) h17)) h14) h12)) h9) h7)) h4) h2
theorem den40 (I : FuncId → List V → Post → T) (p0 : Option (Nat × Nat)) (s1 : ByteArray) (Q : Post) : denF Go.Proofs.Tryd.prog 48 (⟨[(124, 8936830510563328, [(52, tk Go.Proofs.Tryd.prog 4)]), (125, 4602678819172646944, [(5, tvar Go.Proofs.Tryd.prog 69)]), (245, 70355590840352, [(5, tvar Go.Proofs.Tryd.prog 69)]), (983, 69273259081760, [(5, tvar Go.Proofs.Tryd.prog 69)]), (1021, 70835497243044678205472, [(5, tvar Go.Proofs.Tryd.prog 69)])], []⟩) I 40 [V.one (Cell.ptr p0), V.one (Cell.str s1)] Q = vc40 I p0 s1 Q := by kernel_rfl
/-- (*handbill/handmake.Stream).Basket -/
def vc32 (I : FuncId → List V → Post → T) (p0 : Option (Nat × Nat)) (Q : Post) : T :=
  fun h1 =>
  (newK (YtfemminjhecocaaDoorVc.Obj.cells false [Cell.int IntKind.i64 0, Cell.int IntKind.i64 0, Cell.int IntKind.i64 495, Cell.int IntKind.i64 1000, Cell.int IntKind.i64 1000000000000]) (fun i2 => fun h3 =>
  I 9 [V.one (Cell.ptr p0), V.one (Cell.slice 1 { a := some (i2, 0), len := 5 })]
    (fun cs4 => fun h5 => 
    ∃ n6 : Int, (cs4 = [V.one (Cell.int IntKind.i64 n6)]) ∧
    I 16 [V.one (Cell.ptr p0), V.one (Cell.int IntKind.i64 5)]
      (fun cs7 => fun h8 => 
      ∃ n9 : Int, (cs7 = [V.one (Cell.int IntKind.i64 n9)]) ∧
      (loopK (A := (Sl × Int × PUnit) × Int) ((({ a := none, len := 0 }, n6, ()), 0))
        (fun x10 => uncur (uncur fun l11 => uncur fun n12 x13 => fun n14 => ifT (decide (n14 < n9))
          (fun h15 =>
          (1 + (Utf8.encode (IntKind.i32.wrap (IntKind.i64.wrap (97 + n14)))).size ≤ 9223372036854775807) ∧
          (newK (YtfemminjhecocaaDoorVc.Obj.cells false [Cell.int IntKind.i64 0, Cell.int IntKind.i64 1, Cell.int IntKind.i64 99, Cell.int IntKind.i64 300, Cell.int IntKind.i64 1000, Cell.int IntKind.i64 2001, Cell.int IntKind.i64 10000000]) (fun i16 => fun h17 =>
          I 9 [V.one (Cell.ptr p0), V.one (Cell.slice 1 { a := some (i16, 0), len := 7 })]
            (fun cs18 => fun h19 => 
            ∃ n20 : Int, (cs18 = [V.one (Cell.int IntKind.i64 n20)]) ∧
            (newK (YtfemminjhecocaaDoorVc.Obj.cells false [Cell.int IntKind.i64 1, Cell.int IntKind.i64 1, Cell.int IntKind.i64 2, Cell.int IntKind.i64 3, Cell.int IntKind.i64 7, Cell.int IntKind.i64 100]) (fun i21 => fun h22 =>
            I 9 [V.one (Cell.ptr p0), V.one (Cell.slice 1 { a := some (i21, 0), len := 6 })]
              (fun cs23 => fun h24 => 
              ∃ n25 : Int, (cs23 = [V.one (Cell.int IntKind.i64 n25)]) ∧
              (newK (YtfemminjhecocaaDoorVc.Obj.cells false [Cell.str { data := #[104, 97, 116] }]) (fun i26 => fun h27 => 
              (newK (YtfemminjhecocaaDoorVc.Obj.cells false [Cell.str { data := #[99, 97, 112] }]) (fun i28 => fun h29 => 
              (newK (YtfemminjhecocaaDoorVc.Obj.cells false [Cell.str { data := #[99, 97, 112] }, Cell.str { data := #[104, 97, 116] }]) (fun i30 => fun h31 => 
              (newK (YtfemminjhecocaaDoorVc.Obj.cells false [Cell.str { data := #[115, 104, 111, 101] }]) (fun i32 => fun h33 => 
              (newK (YtfemminjhecocaaDoorVc.Obj.cells false [Cell.slice 1 { a := none, len := 0 }, Cell.slice 1 { a := some (i26, 0), len := 1 }, Cell.slice 1 { a := some (i28, 0), len := 1 }, Cell.slice 1 { a := some (i30, 0), len := 2 }, Cell.slice 1 { a := some (i32, 0), len := 1 }]) (fun i34 => fun h35 => 
              I 16 [V.one (Cell.ptr p0), V.one (Cell.int IntKind.i64 5)]
                (fun cs36 => fun h37 => 
                ∃ n38 : Int, (cs36 = [V.one (Cell.int IntKind.i64 n38)]) ∧
                ((0 ≤ n38) ∧
                n38 < (↑5 : Int)) ∧
                ∃ l39 : Sl, (h37.read i34 (0 + n38.toNat * 1) 1 = some [Cell.slice 1 l39]) ∧
                (appendTo [] 4 56 l11 1 [Cell.str ({ data := #[105] } ++ Utf8.encode (IntKind.i32.wrap (IntKind.i64.wrap (97 + n14)))), Cell.int IntKind.i64 n20, Cell.int IntKind.i64 n25, Cell.slice 1 l39] (fun l40 => fun h41 => 
                x10 (((l40, n12, ()), IntKind.i64.wrap (n14 + 1))) h41)) h37) h35)) h33)) h31)) h29)) h27)) h24) h22)) h19) h17)) h15)
          (fun h42 =>
          I 17 [V.one (Cell.ptr p0), V.one (Cell.int IntKind.i64 12)]
            (fun cs43 => fun h44 => 
            ∃ b45 : Bool, (cs43 = [V.one (Cell.bool b45)]) ∧
            (joinK (A := Sl × Int × PUnit)
              (uncur fun l46 => uncur fun n47 x48 => joinK (A := Bool)
                (fun b49 => ifT b49
                  (fun h50 =>
                  I 16 [V.one (Cell.ptr p0), V.one (Cell.int IntKind.i64 (↑l46.len : Int))]
                    (fun cs51 => fun h52 => 
                    ∃ n53 : Int, (cs51 = [V.one (Cell.int IntKind.i64 n53)]) ∧
                    ((0 ≤ n53) ∧
                    n53 < (↑l46.len : Int)) ∧
                    (derefK l46.a (fun i54 => fun i55 => fun h56 => 
                    I 16 [V.one (Cell.ptr p0), V.one (Cell.int IntKind.i64 4)]
                      (fun cs57 => fun h58 => 
                      ∃ n59 : Int, (cs57 = [V.one (Cell.int IntKind.i64 n59)]) ∧
                      (ifT (decide (n59 = 0))
                        (fun h60 =>
                        (newK (YtfemminjhecocaaDoorVc.Obj.cells false [Cell.str { data := #[] }, Cell.str { data := #[105, 97] }, Cell.str { data := #[73] }]) (fun i61 => fun h62 =>
                        I 53 [V.one (Cell.ptr p0), V.one (Cell.slice 1 { a := some (i61, 0), len := 3 })]
                          (fun cs63 => fun h64 => 
                          ∃ s65 : ByteArray, (cs63 = [V.one (Cell.str s65)]) ∧
                          (storeK [] i54 (i55 + n53.toNat * 4 + 0) [Cell.str s65] (fun h66 =>
                          Q [V.agg [Cell.slice 4 l46, Cell.int IntKind.i64 n47]] h66)) h64) h62)) h60)
                        (ifT (decide (n59 = 1))
                          (fun h67 =>
                          (newK (YtfemminjhecocaaDoorVc.Obj.cells false [Cell.int IntKind.i64 (-1), Cell.int IntKind.i64 10000001]) (fun i68 => fun h69 =>
                          I 9 [V.one (Cell.ptr p0), V.one (Cell.slice 1 { a := some (i68, 0), len := 2 })]
                            (fun cs70 => fun h71 => 
                            ∃ n72 : Int, (cs70 = [V.one (Cell.int IntKind.i64 n72)]) ∧
                            (storeK [] i54 (i55 + n53.toNat * 4 + 1) [Cell.int IntKind.i64 n72] (fun h73 =>
                            Q [V.agg [Cell.slice 4 l46, Cell.int IntKind.i64 n47]] h73)) h71) h69)) h67)
                          (ifT (decide (n59 = 2))
                            (fun h74 =>
                            (newK (YtfemminjhecocaaDoorVc.Obj.cells false [Cell.int IntKind.i64 0, Cell.int IntKind.i64 101]) (fun i75 => fun h76 =>
                            I 9 [V.one (Cell.ptr p0), V.one (Cell.slice 1 { a := some (i75, 0), len := 2 })]
                              (fun cs77 => fun h78 => 
                              ∃ n79 : Int, (cs77 = [V.one (Cell.int IntKind.i64 n79)]) ∧
                              (storeK [] i54 (i55 + n53.toNat * 4 + 2) [Cell.int IntKind.i64 n79] (fun h80 =>
                              Q [V.agg [Cell.slice 4 l46, Cell.int IntKind.i64 n47]] h80)) h78) h76)) h74)
                            (fun h81 =>
                            (newK (YtfemminjhecocaaDoorVc.Obj.cells false [Cell.str { data := #[98] }, Cell.str { data := #[97] }]) (fun i82 => fun h83 => 
                            (newK (YtfemminjhecocaaDoorVc.Obj.cells false [Cell.str { data := #[] }]) (fun i84 => fun h85 => 
                            (newK (YtfemminjhecocaaDoorVc.Obj.cells false [Cell.str { data := #[120] }, Cell.str { data := #[120] }]) (fun i86 => fun h87 => 
                            (newK (YtfemminjhecocaaDoorVc.Obj.cells false [Cell.slice 1 { a := some (i82, 0), len := 2 }, Cell.slice 1 { a := some (i84, 0), len := 1 }, Cell.slice 1 { a := some (i86, 0), len := 2 }]) (fun i88 => fun h89 => 
                            I 16 [V.one (Cell.ptr p0), V.one (Cell.int IntKind.i64 3)]
                              (fun cs90 => fun h91 => 
                              ∃ n92 : Int, (cs90 = [V.one (Cell.int IntKind.i64 n92)]) ∧
                              ((0 ≤ n92) ∧
                              n92 < (↑3 : Int)) ∧
                              ∃ l93 : Sl, (h91.read i88 (0 + n92.toNat * 1) 1 = some [Cell.slice 1 l93]) ∧
                              (storeK [] i54 (i55 + n53.toNat * 4 + 3) [Cell.slice 1 l93] (fun h94 =>
                              Q [V.agg [Cell.slice 4 l46, Cell.int IntKind.i64 n47]] h94)) h91) h89)) h87)) h85)) h83)) h81)))) h58) h56)) h52) h50)
                  (fun h95 =>
                  Q [V.agg [Cell.slice 4 l46, Cell.int IntKind.i64 n47]] h95))
                (fun x96 => fun h97 => 
                I 17 [V.one (Cell.ptr p0), V.one (Cell.int IntKind.i64 12)]
                  (fun cs98 => fun h99 => 
                  ∃ b100 : Bool, (cs98 = [V.one (Cell.bool b100)]) ∧
                  (ifT b100
                    (x96 (decide ((↑l46.len : Int) > 0)))
                    (x96 false)) h99) h97))
              (fun x101 => ifT b45
                (fun h102 =>
                (newK (YtfemminjhecocaaDoorVc.Obj.cells false [Cell.int IntKind.i64 (-1), Cell.int IntKind.i64 1000000000001, Cell.int IntKind.i64 0]) (fun i103 => fun h104 =>
                I 9 [V.one (Cell.ptr p0), V.one (Cell.slice 1 { a := some (i103, 0), len := 3 })]
                  (fun cs105 => fun h106 => 
                  ∃ n107 : Int, (cs105 = [V.one (Cell.int IntKind.i64 n107)]) ∧
                  x101 ((l11, n107, ())) h106) h104)) h102)
                (x101 ((l11, n12, ()))))) h44) h42)))) h8) h5) h3)) h1
theorem den32 (I : FuncId → List V → Post → T) (p0 : Option (Nat × Nat)) (Q : Post) : denF Go.Proofs.Tryd.prog 44 (⟨[(61, 2111062325329928, [(3, tvar Go.Proofs.Tryd.prog 59)]), (124, 574208952489738240, [(58, tk Go.Proofs.Tryd.prog 4)])], [(58, 35184372080696, [(3, tvar Go.Proofs.Tryd.prog 59), (13, tk Go.Proofs.Tryd.prog 3)])]⟩) I 32 [V.one (Cell.ptr p0)] Q = vc32 I p0 Q := by kernel_rfl
/-- (*handbill/handmake.Stream).At -/
def vc33 (I : FuncId → List V → Post → T) (p0 : Option (Nat × Nat)) (Q : Post) : T :=
  fun h1 =>
  (newK (YtfemminjhecocaaDoorVc.Obj.cells false [Cell.int IntKind.i64 0, Cell.int IntKind.i64 0, Cell.int IntKind.i64 49, Cell.int IntKind.i64 50, Cell.int IntKind.i64 59, Cell.int IntKind.i64 60, Cell.int IntKind.i64 99, Cell.int IntKind.i64 100, Cell.int IntKind.i64 5000, Cell.int IntKind.i64 (-1), Cell.int IntKind.i64 4321440]) (fun i2 => fun h3 =>
  I 9 [V.one (Cell.ptr p0), V.one (Cell.slice 1 { a := some (i2, 0), len := 11 })]
    (fun cs4 => fun h5 => 
    ∃ n6 : Int, (cs4 = [V.one (Cell.int IntKind.i64 n6)]) ∧
    Q [V.one (Cell.int IntKind.i64 n6)] h5) h3)) h1
theorem den33 (I : FuncId → List V → Post → T) (p0 : Option (Nat × Nat)) (Q : Post) : denF Go.Proofs.Tryd.prog 0 (⟨[], []⟩) I 33 [V.one (Cell.ptr p0)] Q = vc33 I p0 Q := by kernel_rfl
/-- handbill/handref1.OffersFault -/
def vc34 (I : FuncId → List V → Post → T) (l0 : Sl) (Q : Post) : T :=
  ifT (decide ((↑l0.len : Int) > 40))
    (Q [V.one (Cell.int IntKind.i64 2)])
    (loopK (A := Int) 0
      (fun x1 => fun n2 => ifT (decide (n2 < (↑l0.len : Int)))
        (fun h3 =>
        ((0 ≤ n2) ∧
        n2 < (↑l0.len : Int)) ∧
        (derefK l0.a (fun i4 => fun i5 => fun h6 =>
        ∃ s7 : ByteArray, ∃ n8 : Int, ∃ n9 : Int, ∃ n10 : Int, ∃ l11 : Sl, ∃ n12 : Int, ∃ n13 : Int, ∃ s14 : ByteArray, ∃ b15 : Bool, ∃ n16 : Int, ∃ n17 : Int, ∃ n18 : Int, (h6.read i4 (i5 + n2.toNat * 12) 12 = some [Cell.str s7, Cell.int IntKind.i64 n8, Cell.int IntKind.i64 n9, Cell.int IntKind.i64 n10, Cell.slice 1 l11, Cell.int IntKind.i64 n12, Cell.int IntKind.i64 n13, Cell.str s14, Cell.bool b15, Cell.int IntKind.i64 n16, Cell.int IntKind.i64 n17, Cell.int IntKind.i64 n18]) ∧
        (newK (YtfemminjhecocaaDoorVc.Obj.cells false [Cell.str ByteArray.empty, Cell.int IntKind.i64 0, Cell.int IntKind.i64 0, Cell.int IntKind.i64 0, Cell.slice 1 { a := none, len := 0 }, Cell.int IntKind.i64 0, Cell.int IntKind.i64 0, Cell.str ByteArray.empty, Cell.bool false, Cell.int IntKind.i64 0, Cell.int IntKind.i64 0, Cell.int IntKind.i64 0]) (fun i19 => fun h20 => 
        (storeK [] i19 0 [Cell.str s7, Cell.int IntKind.i64 n8, Cell.int IntKind.i64 n9, Cell.int IntKind.i64 n10, Cell.slice 1 l11, Cell.int IntKind.i64 n12, Cell.int IntKind.i64 n13, Cell.str s14, Cell.bool b15, Cell.int IntKind.i64 n16, Cell.int IntKind.i64 n17, Cell.int IntKind.i64 n18] (fun h21 =>
        (newK (YtfemminjhecocaaDoorVc.Obj.map []) (fun i22 => fun h23 => 
        (mapK [] (some i22) (V.one (Cell.int IntKind.i64 1)) (V.one (Cell.int IntKind.i64 100)) (fun h24 =>
        (mapK [] (some i22) (V.one (Cell.int IntKind.i64 2)) (V.one (Cell.int IntKind.i64 1000000000000)) (fun h25 =>
        (mapK [] (some i22) (V.one (Cell.int IntKind.i64 4)) (V.one (Cell.int IntKind.i64 1000000000000)) (fun h26 =>
        (mapK [] (some i22) (V.one (Cell.int IntKind.i64 3)) (V.one (Cell.int IntKind.i64 20)) (fun h27 =>
        ∃ n28 : Int, (h27.read i19 1 1 = some [Cell.int IntKind.i64 n28]) ∧
        ∃ n29 : Int, ∃ b30 : Bool, (∃ cs31 : List (V × V), (mapOf h27 (some i22) = some cs31) ∧
        mapGet (V.one (Cell.int IntKind.i64 n28)) (V.one (Cell.int IntKind.i64 0)) cs31 = some (V.one (Cell.int IntKind.i64 n29), b30)) ∧
        ∃ n32 : Int, (h27.read i19 1 1 = some [Cell.int IntKind.i64 n32]) ∧
        (joinK (A := Int × Int)
          (uncur fun n33 n34 => fun h35 =>
          ∃ s36 : ByteArray, (h35.read i19 0 1 = some [Cell.str s36]) ∧
          I 54 [V.one (Cell.str s36)]
            (fun cs37 => fun h38 => 
            ∃ b39 : Bool, (cs37 = [V.one (Cell.bool b39)]) ∧
            (ifT (!b39)
              (Q [V.one (Cell.int IntKind.i64 5)])
              (fun h40 =>
              (((0 : Int) ≤ (0 : Int)) ∧
              (0 ≤ n2) ∧
              n2 ≤ (↑l0.len : Int)) ∧
              I 76 [V.one (Cell.slice 12 (l0.sub 12 0 n2.toNat)), V.one (Cell.func (some (77, [(i19, 0)])))]
                (fun cs41 => fun h42 => 
                ∃ b43 : Bool, (cs41 = [V.one (Cell.bool b43)]) ∧
                (ifT b43
                  (Q [V.one (Cell.int IntKind.i64 6)])
                  (ifT (decide (n29 = 0))
                    (Q [V.one (Cell.int IntKind.i64 4)])
                    (joinK (A := Bool)
                      (fun b44 => ifT b44
                        (Q [V.one (Cell.int IntKind.i64 1)])
                        (joinK (A := Bool)
                          (fun b45 => ifT b45
                            (Q [V.one (Cell.int IntKind.i64 1)])
                            (joinK (A := Bool)
                              (fun b46 => ifT b46
                                (Q [V.one (Cell.int IntKind.i64 5)])
                                (fun h47 =>
                                ∃ l48 : Sl, (h47.read i19 4 1 = some [Cell.slice 1 l48]) ∧
                                I 78 [V.one (Cell.slice 1 l48)]
                                  (fun cs49 => fun h50 => 
                                  ∃ n51 : Int, (cs49 = [V.one (Cell.int IntKind.i64 n51)]) ∧
                                  (ifT (!decide (n51 = 0))
                                    (Q [V.one (Cell.int IntKind.i64 n51)])
                                    (fun h52 =>
                                    ∃ l53 : Sl, (h52.read i19 4 1 = some [Cell.slice 1 l53]) ∧
                                    (ifT (decide ((↑l53.len : Int) > 0))
                                      (fun h54 =>
                                      ∃ n55 : Int, (h54.read i19 1 1 = some [Cell.int IntKind.i64 n55]) ∧
                                      (ifT (decide (n55 = 4))
                                        (Q [V.one (Cell.int IntKind.i64 3)])
                                        (x1 (IntKind.i64.wrap (n2 + 1)))) h54)
                                      (x1 (IntKind.i64.wrap (n2 + 1)))) h52)) h50) h47))
                              (fun x56 => fun h57 =>
                              ∃ s58 : ByteArray, (h57.read i19 7 1 = some [Cell.str s58]) ∧
                              (ifT (!decide (s58 = { data := #[] }))
                                (fun h59 =>
                                ∃ s60 : ByteArray, (h59.read i19 7 1 = some [Cell.str s60]) ∧
                                I 54 [V.one (Cell.str s60)]
                                  (fun cs61 => fun h62 => 
                                  ∃ b63 : Bool, (cs61 = [V.one (Cell.bool b63)]) ∧
                                  x56 (!b63) h62) h59)
                                (x56 false)) h57)))
                          (fun x64 => fun h65 =>
                          ∃ n66 : Int, (h65.read i19 10 1 = some [Cell.int IntKind.i64 n66]) ∧
                          I 11 [V.one (Cell.int IntKind.i64 n66)]
                            (fun cs67 => fun h68 => 
                            ∃ b69 : Bool, (cs67 = [V.one (Cell.bool b69)]) ∧
                            (ifT (!b69)
                              (x64 true)
                              (fun h70 =>
                              ∃ n71 : Int, (h70.read i19 11 1 = some [Cell.int IntKind.i64 n71]) ∧
                              ∃ n72 : Int, (h70.read i19 10 1 = some [Cell.int IntKind.i64 n72]) ∧
                              (ifT (decide (n71 ≤ n72))
                                (x64 true)
                                (fun h73 =>
                                ∃ n74 : Int, (h73.read i19 11 1 = some [Cell.int IntKind.i64 n74]) ∧
                                x64 (decide (n74 > 4321440)) h73)) h70)) h68) h65)))
                      (fun x75 => fun h76 =>
                      ∃ n77 : Int, (h76.read i19 2 1 = some [Cell.int IntKind.i64 n77]) ∧
                      (ifT (decide (n77 < 1))
                        (x75 true)
                        (fun h78 =>
                        ∃ n79 : Int, (h78.read i19 2 1 = some [Cell.int IntKind.i64 n79]) ∧
                        (ifT (decide (n79 > n29))
                          (x75 true)
                          (fun h80 =>
                          ∃ n81 : Int, (h80.read i19 3 1 = some [Cell.int IntKind.i64 n81]) ∧
                          (ifT (decide (n81 < n33))
                            (x75 true)
                            (fun h82 =>
                            ∃ n83 : Int, (h82.read i19 3 1 = some [Cell.int IntKind.i64 n83]) ∧
                            (ifT (decide (n83 > n34))
                              (x75 true)
                              (fun h84 =>
                              ∃ n85 : Int, (h84.read i19 5 1 = some [Cell.int IntKind.i64 n85]) ∧
                              (ifT (decide (n85 < 0))
                                (x75 true)
                                (fun h86 =>
                                ∃ n87 : Int, (h86.read i19 5 1 = some [Cell.int IntKind.i64 n87]) ∧
                                (ifT (decide (n87 > 1000000000000))
                                  (x75 true)
                                  (fun h88 =>
                                  ∃ n89 : Int, (h88.read i19 6 1 = some [Cell.int IntKind.i64 n89]) ∧
                                  (ifT (decide (n89 < 0))
                                    (x75 true)
                                    (fun h90 =>
                                    ∃ n91 : Int, (h90.read i19 6 1 = some [Cell.int IntKind.i64 n91]) ∧
                                    (ifT (decide (n91 > 1000000000000))
                                      (x75 true)
                                      (fun h92 =>
                                      ∃ n93 : Int, (h92.read i19 9 1 = some [Cell.int IntKind.i64 n93]) ∧
                                      (ifT (decide (n93 < 0))
                                        (x75 true)
                                        (fun h94 =>
                                        ∃ n95 : Int, (h94.read i19 9 1 = some [Cell.int IntKind.i64 n95]) ∧
                                        x75 (decide (n95 > 1000)) h94)) h92)) h90)) h88)) h86)) h84)) h82)) h80)) h78)) h76)))) h42) h40)) h38) h35)
          (fun x96 => ifT (decide (n32 = 3))
            (x96 ((1, 20)))
            (x96 ((0, 0))))) h27)) h26)) h25)) h24)) h23)) h21)) h20)) h6)) h3)
        (Q [V.one (Cell.int IntKind.i64 0)])))
theorem den34 (I : FuncId → List V → Post → T) (l0 : Sl) (Q : Post) : denF Go.Proofs.Tryd.prog 0 (⟨[(59805, 192, [(6, tk Go.Proofs.Tryd.prog 3), (7, tk Go.Proofs.Tryd.prog 3)]), (15310462, 9903520314283040000169738240, [(41, tk Go.Proofs.Tryd.prog 4)]), (61241854, 1298064311113392624090424889311232, [(93, tk Go.Proofs.Tryd.prog 4)]), (244967422, 1327929921570282165996674436198039552, [(110, tk Go.Proofs.Tryd.prog 4)])], [(58, 87112285931760246646623899502532662116860, [(14, tk Go.Proofs.Tryd.prog 3)])]⟩) I 34 [V.one (Cell.slice 12 l0)] Q = vc34 I l0 Q := by kernel_rfl
/-- slices.ContainsFunc[[]handbill/api.Offer,handbill/api.Offer] -/
def vc76 (I : FuncId → List V → Post → T) (l0 : Sl) (p1 : Option (Nat × List (Nat × Nat))) (Q : Post) : T :=
  fun h2 =>
  I 119 [V.one (Cell.slice 12 l0), V.one (Cell.func p1)]
    (fun cs3 => fun h4 => 
    ∃ n5 : Int, (cs3 = [V.one (Cell.int IntKind.i64 n5)]) ∧
    Q [V.one (Cell.bool (decide (n5 ≥ 0)))] h4) h2
theorem den76 (I : FuncId → List V → Post → T) (l0 : Sl) (p1 : Option (Nat × List (Nat × Nat))) (Q : Post) : denF Go.Proofs.Tryd.prog 0 (⟨[], []⟩) I 76 [V.one (Cell.slice 12 l0), V.one (Cell.func p1)] Q = vc76 I l0 p1 Q := by kernel_rfl
/-- slices.IndexFunc[[]handbill/api.Offer,handbill/api.Offer] -/
def vc119 (I : FuncId → List V → Post → T) (l0 : Sl) (p1 : Option (Nat × List (Nat × Nat))) (Q : Post) : T :=
  loopK (A := Int) 0
    (fun x2 => fun n3 => ifT (decide (n3 < (↑l0.len : Int)))
      (fun h4 =>
      ((0 ≤ n3) ∧
      n3 < (↑l0.len : Int)) ∧
      (derefK l0.a (fun i5 => fun i6 => fun h7 =>
      ∃ s8 : ByteArray, ∃ n9 : Int, ∃ n10 : Int, ∃ n11 : Int, ∃ l12 : Sl, ∃ n13 : Int, ∃ n14 : Int, ∃ s15 : ByteArray, ∃ b16 : Bool, ∃ n17 : Int, ∃ n18 : Int, ∃ n19 : Int, (h7.read i5 (i6 + n3.toNat * 12) 12 = some [Cell.str s8, Cell.int IntKind.i64 n9, Cell.int IntKind.i64 n10, Cell.int IntKind.i64 n11, Cell.slice 1 l12, Cell.int IntKind.i64 n13, Cell.int IntKind.i64 n14, Cell.str s15, Cell.bool b16, Cell.int IntKind.i64 n17, Cell.int IntKind.i64 n18, Cell.int IntKind.i64 n19]) ∧
      (funK p1 (fun i20 => fun cs21 => fun h22 => 
      I i20 (V.agg [Cell.str s8, Cell.int IntKind.i64 n9, Cell.int IntKind.i64 n10, Cell.int IntKind.i64 n11, Cell.slice 1 l12, Cell.int IntKind.i64 n13, Cell.int IntKind.i64 n14, Cell.str s15, Cell.bool b16, Cell.int IntKind.i64 n17, Cell.int IntKind.i64 n18, Cell.int IntKind.i64 n19] :: cs21)
        (fun cs23 => fun h24 => 
        ∃ b25 : Bool, (cs23 = [V.one (Cell.bool b25)]) ∧
        (ifT b25
          (Q [V.one (Cell.int IntKind.i64 n3)])
          (x2 (IntKind.i64.wrap (n3 + 1)))) h24) h22)) h7)) h4)
      (Q [V.one (Cell.int IntKind.i64 (-1))]))
theorem den119 (I : FuncId → List V → Post → T) (l0 : Sl) (p1 : Option (Nat × List (Nat × Nat))) (Q : Post) : denF Go.Proofs.Tryd.prog 0 (⟨[], [(26, 524080, [(8, tk Go.Proofs.Tryd.prog 3)])]⟩) I 119 [V.one (Cell.slice 12 l0), V.one (Cell.func p1)] Q = vc119 I l0 p1 Q := by kernel_rfl
/-- handbill/handref1.OffersFault$1 -/
def vc77 (I : FuncId → List V → Post → T) (s0 : ByteArray) (n1 : Int) (n2 : Int) (n3 : Int) (l4 : Sl) (n5 : Int) (n6 : Int) (s7 : ByteArray) (b8 : Bool) (n9 : Int) (n10 : Int) (n11 : Int) (i12 : Nat) (i13 : Nat) (Q : Post) : T :=
  fun h14 =>
  ∃ s15 : ByteArray, (h14.read i12 (i13 + 0) 1 = some [Cell.str s15]) ∧
  Q [V.one (Cell.bool (decide (s0 = s15)))] h14
theorem den77 (I : FuncId → List V → Post → T) (s0 : ByteArray) (n1 : Int) (n2 : Int) (n3 : Int) (l4 : Sl) (n5 : Int) (n6 : Int) (s7 : ByteArray) (b8 : Bool) (n9 : Int) (n10 : Int) (n11 : Int) (i12 : Nat) (i13 : Nat) (Q : Post) : denF Go.Proofs.Tryd.prog 4 (⟨[], []⟩) I 77 [V.agg [Cell.str s0, Cell.int IntKind.i64 n1, Cell.int IntKind.i64 n2, Cell.int IntKind.i64 n3, Cell.slice 1 l4, Cell.int IntKind.i64 n5, Cell.int IntKind.i64 n6, Cell.str s7, Cell.bool b8, Cell.int IntKind.i64 n9, Cell.int IntKind.i64 n10, Cell.int IntKind.i64 n11], V.one (Cell.ptr (some (i12, i13)))] Q = vc77 I s0 n1 n2 n3 l4 n5 n6 s7 b8 n9 n10 n11 i12 i13 Q := by kernel_rfl
/-- handbill/handref1.tagsFault -/
def vc78 (I : FuncId → List V → Post → T) (l0 : Sl) (Q : Post) : T :=
  ifT (decide ((↑l0.len : Int) > 10))
    (Q [V.one (Cell.int IntKind.i64 2)])
    (loopK (A := Int) 0
      (fun x1 => fun n2 => ifT (decide (n2 < (↑l0.len : Int)))
        (fun h3 =>
        ((0 ≤ n2) ∧
        n2 < (↑l0.len : Int)) ∧
        (derefK l0.a (fun i4 => fun i5 => fun h6 =>
        ∃ s7 : ByteArray, (h6.read i4 (i5 + n2.toNat * 1) 1 = some [Cell.str s7]) ∧
        I 54 [V.one (Cell.str s7)]
          (fun cs8 => fun h9 => 
          ∃ b10 : Bool, (cs8 = [V.one (Cell.bool b10)]) ∧
          (ifT (!b10)
            (Q [V.one (Cell.int IntKind.i64 5)])
            (ifT (decide (n2 > 0))
              (fun h11 =>
              ((0 ≤ IntKind.i64.wrap (n2 - 1)) ∧
              IntKind.i64.wrap (n2 - 1) < (↑l0.len : Int)) ∧
              (derefK l0.a (fun i12 => fun i13 => fun h14 =>
              ∃ s15 : ByteArray, (h14.read i12 (i13 + (IntKind.i64.wrap (n2 - 1)).toNat * 1) 1 = some [Cell.str s15]) ∧
              (ifT (Op.bytesLess s7.toList s15.toList || decide (s7 = s15))
                (Q [V.one (Cell.int IntKind.i64 7)])
                (x1 (IntKind.i64.wrap (n2 + 1)))) h14)) h11)
              (x1 (IntKind.i64.wrap (n2 + 1))))) h9) h6)) h3)
        (Q [V.one (Cell.int IntKind.i64 0)])))
theorem den78 (I : FuncId → List V → Post → T) (l0 : Sl) (Q : Post) : denF Go.Proofs.Tryd.prog 0 (⟨[], [(58, 1073740828, [(10, tk Go.Proofs.Tryd.prog 3)])]⟩) I 78 [V.one (Cell.slice 1 l0)] Q = vc78 I l0 Q := by kernel_rfl
/-- handbill/offer.CheckOffers -/
def vc35 (I : FuncId → List V → Post → T) (l0 : Sl) (Q : Post) : T :=
  ifT (decide ((↑l0.len : Int) > 40))
    (Q [V.one (Cell.int IntKind.i64 2)])
    (loopK (A := Int) 0
      (fun x1 => fun n2 => ifT (decide (n2 < (↑l0.len : Int)))
        (fun h3 =>
        ((0 ≤ n2) ∧
        n2 < (↑l0.len : Int)) ∧
        (derefK l0.a (fun i4 => fun i5 => fun h6 =>
        ∃ s7 : ByteArray, ∃ n8 : Int, ∃ n9 : Int, ∃ n10 : Int, ∃ l11 : Sl, ∃ n12 : Int, ∃ n13 : Int, ∃ s14 : ByteArray, ∃ b15 : Bool, ∃ n16 : Int, ∃ n17 : Int, ∃ n18 : Int, (h6.read i4 (i5 + n2.toNat * 12) 12 = some [Cell.str s7, Cell.int IntKind.i64 n8, Cell.int IntKind.i64 n9, Cell.int IntKind.i64 n10, Cell.slice 1 l11, Cell.int IntKind.i64 n12, Cell.int IntKind.i64 n13, Cell.str s14, Cell.bool b15, Cell.int IntKind.i64 n16, Cell.int IntKind.i64 n17, Cell.int IntKind.i64 n18]) ∧
        (newK (YtfemminjhecocaaDoorVc.Obj.cells false [Cell.str ByteArray.empty, Cell.int IntKind.i64 0, Cell.int IntKind.i64 0, Cell.int IntKind.i64 0, Cell.slice 1 { a := none, len := 0 }, Cell.int IntKind.i64 0, Cell.int IntKind.i64 0, Cell.str ByteArray.empty, Cell.bool false, Cell.int IntKind.i64 0, Cell.int IntKind.i64 0, Cell.int IntKind.i64 0]) (fun i19 => fun h20 => 
        (storeK [] i19 0 [Cell.str s7, Cell.int IntKind.i64 n8, Cell.int IntKind.i64 n9, Cell.int IntKind.i64 n10, Cell.slice 1 l11, Cell.int IntKind.i64 n12, Cell.int IntKind.i64 n13, Cell.str s14, Cell.bool b15, Cell.int IntKind.i64 n16, Cell.int IntKind.i64 n17, Cell.int IntKind.i64 n18] (fun h21 =>
        ∃ s22 : ByteArray, (h21.read i19 0 1 = some [Cell.str s22]) ∧
        I 57 [V.one (Cell.str s22)]
          (fun cs23 => fun h24 => 
          ∃ b25 : Bool, (cs23 = [V.one (Cell.bool b25)]) ∧
          (ifT (!b25)
            (Q [V.one (Cell.int IntKind.i64 5)])
            (fun h26 =>
            (((0 : Int) ≤ (0 : Int)) ∧
            (0 ≤ n2) ∧
            n2 ≤ (↑l0.len : Int)) ∧
            I 76 [V.one (Cell.slice 12 (l0.sub 12 0 n2.toNat)), V.one (Cell.func (some (79, [(i19, 0)])))]
              (fun cs27 => fun h28 => 
              ∃ b29 : Bool, (cs27 = [V.one (Cell.bool b29)]) ∧
              (ifT b29
                (Q [V.one (Cell.int IntKind.i64 6)])
                (fun h30 =>
                ∃ n31 : Int, (h30.read i19 1 1 = some [Cell.int IntKind.i64 n31]) ∧
                I 59 [V.one (Cell.int IntKind.i64 n31), V.one (Cell.int IntKind.i64 1), V.one (Cell.int IntKind.i64 4)]
                  (fun cs32 => fun h33 => 
                  ∃ b34 : Bool, (cs32 = [V.one (Cell.bool b34)]) ∧
                  (ifT (!b34)
                    (Q [V.one (Cell.int IntKind.i64 4)])
                    (joinK (A := Bool)
                      (fun b35 => ifT b35
                        (Q [V.one (Cell.int IntKind.i64 1)])
                        (joinK (A := Bool)
                          (fun b36 => ifT b36
                            (Q [V.one (Cell.int IntKind.i64 1)])
                            (joinK (A := Bool)
                              (fun b37 => ifT b37
                                (Q [V.one (Cell.int IntKind.i64 5)])
                                (fun h38 =>
                                ∃ l39 : Sl, (h38.read i19 4 1 = some [Cell.slice 1 l39]) ∧
                                I 81 [V.one (Cell.slice 1 l39)]
                                  (fun cs40 => fun h41 => 
                                  ∃ n42 : Int, (cs40 = [V.one (Cell.int IntKind.i64 n42)]) ∧
                                  (ifT (!decide (n42 = 0))
                                    (Q [V.one (Cell.int IntKind.i64 n42)])
                                    (fun h43 =>
                                    ∃ l44 : Sl, (h43.read i19 4 1 = some [Cell.slice 1 l44]) ∧
                                    (ifT (decide ((↑l44.len : Int) > 0))
                                      (fun h45 =>
                                      ∃ n46 : Int, (h45.read i19 1 1 = some [Cell.int IntKind.i64 n46]) ∧
                                      (ifT (decide (n46 = 4))
                                        (Q [V.one (Cell.int IntKind.i64 3)])
                                        (x1 (IntKind.i64.wrap (n2 + 1)))) h45)
                                      (x1 (IntKind.i64.wrap (n2 + 1)))) h43)) h41) h38))
                              (fun x47 => fun h48 =>
                              ∃ s49 : ByteArray, (h48.read i19 7 1 = some [Cell.str s49]) ∧
                              (ifT (!decide (s49 = { data := #[] }))
                                (fun h50 =>
                                ∃ s51 : ByteArray, (h50.read i19 7 1 = some [Cell.str s51]) ∧
                                I 57 [V.one (Cell.str s51)]
                                  (fun cs52 => fun h53 => 
                                  ∃ b54 : Bool, (cs52 = [V.one (Cell.bool b54)]) ∧
                                  x47 (!b54) h53) h50)
                                (x47 false)) h48)))
                          (fun x55 => fun h56 =>
                          ∃ n57 : Int, (h56.read i19 10 1 = some [Cell.int IntKind.i64 n57]) ∧
                          I 60 [V.one (Cell.int IntKind.i64 n57)]
                            (fun cs58 => fun h59 => 
                            ∃ b60 : Bool, (cs58 = [V.one (Cell.bool b60)]) ∧
                            (ifT (!b60)
                              (x55 true)
                              (fun h61 =>
                              ∃ n62 : Int, (h61.read i19 11 1 = some [Cell.int IntKind.i64 n62]) ∧
                              ∃ n63 : Int, (h61.read i19 10 1 = some [Cell.int IntKind.i64 n63]) ∧
                              I 59 [V.one (Cell.int IntKind.i64 n62), V.one (Cell.int IntKind.i64 (IntKind.i64.wrap (n63 + 1))), V.one (Cell.int IntKind.i64 4321440)]
                                (fun cs64 => fun h65 => 
                                ∃ b66 : Bool, (cs64 = [V.one (Cell.bool b66)]) ∧
                                x55 (!b66) h65) h61)) h59) h56)))
                      (fun x67 => fun h68 =>
                      ∃ s69 : ByteArray, ∃ n70 : Int, ∃ n71 : Int, ∃ n72 : Int, ∃ l73 : Sl, ∃ n74 : Int, ∃ n75 : Int, ∃ s76 : ByteArray, ∃ b77 : Bool, ∃ n78 : Int, ∃ n79 : Int, ∃ n80 : Int, (h68.read i19 0 12 = some [Cell.str s69, Cell.int IntKind.i64 n70, Cell.int IntKind.i64 n71, Cell.int IntKind.i64 n72, Cell.slice 1 l73, Cell.int IntKind.i64 n74, Cell.int IntKind.i64 n75, Cell.str s76, Cell.bool b77, Cell.int IntKind.i64 n78, Cell.int IntKind.i64 n79, Cell.int IntKind.i64 n80]) ∧
                      I 80 [V.agg [Cell.str s69, Cell.int IntKind.i64 n70, Cell.int IntKind.i64 n71, Cell.int IntKind.i64 n72, Cell.slice 1 l73, Cell.int IntKind.i64 n74, Cell.int IntKind.i64 n75, Cell.str s76, Cell.bool b77, Cell.int IntKind.i64 n78, Cell.int IntKind.i64 n79, Cell.int IntKind.i64 n80]]
                        (fun cs81 => fun h82 => 
                        ∃ b83 : Bool, (cs81 = [V.one (Cell.bool b83)]) ∧
                        (ifT (!b83)
                          (x67 true)
                          (fun h84 =>
                          ∃ n85 : Int, (h84.read i19 5 1 = some [Cell.int IntKind.i64 n85]) ∧
                          I 59 [V.one (Cell.int IntKind.i64 n85), V.one (Cell.int IntKind.i64 0), V.one (Cell.int IntKind.i64 1000000000000)]
                            (fun cs86 => fun h87 => 
                            ∃ b88 : Bool, (cs86 = [V.one (Cell.bool b88)]) ∧
                            (ifT (!b88)
                              (x67 true)
                              (fun h89 =>
                              ∃ n90 : Int, (h89.read i19 6 1 = some [Cell.int IntKind.i64 n90]) ∧
                              I 59 [V.one (Cell.int IntKind.i64 n90), V.one (Cell.int IntKind.i64 0), V.one (Cell.int IntKind.i64 1000000000000)]
                                (fun cs91 => fun h92 => 
                                ∃ b93 : Bool, (cs91 = [V.one (Cell.bool b93)]) ∧
                                (ifT (!b93)
                                  (x67 true)
                                  (fun h94 =>
                                  ∃ n95 : Int, (h94.read i19 9 1 = some [Cell.int IntKind.i64 n95]) ∧
                                  I 59 [V.one (Cell.int IntKind.i64 n95), V.one (Cell.int IntKind.i64 0), V.one (Cell.int IntKind.i64 1000)]
                                    (fun cs96 => fun h97 => 
                                    ∃ b98 : Bool, (cs96 = [V.one (Cell.bool b98)]) ∧
                                    x67 (!b98) h97) h94)) h92) h89)) h87) h84)) h82) h68))) h33) h30)) h28) h26)) h24) h21)) h20)) h6)) h3)
        (Q [V.one (Cell.int IntKind.i64 0)])))
theorem den35 (I : FuncId → List V → Post → T) (l0 : Sl) (Q : Post) : denF Go.Proofs.Tryd.prog 0 (⟨[(1913470, 18014394214514688, [(32, tk Go.Proofs.Tryd.prog 4)]), (7653886, 295129890780843343872, [(54, tk Go.Proofs.Tryd.prog 4)]), (30615550, 301936306998477940850688, [(68, tk Go.Proofs.Tryd.prog 4)])], [(58, 19807040628566084398385985596, [(11, tk Go.Proofs.Tryd.prog 3)])]⟩) I 35 [V.one (Cell.slice 12 l0)] Q = vc35 I l0 Q := by kernel_rfl
/-- handbill/offer.CheckOffers$1 -/
def vc79 (I : FuncId → List V → Post → T) (s0 : ByteArray) (n1 : Int) (n2 : Int) (n3 : Int) (l4 : Sl) (n5 : Int) (n6 : Int) (s7 : ByteArray) (b8 : Bool) (n9 : Int) (n10 : Int) (n11 : Int) (i12 : Nat) (i13 : Nat) (Q : Post) : T :=
  fun h14 =>
  ∃ s15 : ByteArray, (h14.read i12 (i13 + 0) 1 = some [Cell.str s15]) ∧
  Q [V.one (Cell.bool (decide (s0 = s15)))] h14
theorem den79 (I : FuncId → List V → Post → T) (s0 : ByteArray) (n1 : Int) (n2 : Int) (n3 : Int) (l4 : Sl) (n5 : Int) (n6 : Int) (s7 : ByteArray) (b8 : Bool) (n9 : Int) (n10 : Int) (n11 : Int) (i12 : Nat) (i13 : Nat) (Q : Post) : denF Go.Proofs.Tryd.prog 4 (⟨[], []⟩) I 79 [V.agg [Cell.str s0, Cell.int IntKind.i64 n1, Cell.int IntKind.i64 n2, Cell.int IntKind.i64 n3, Cell.slice 1 l4, Cell.int IntKind.i64 n5, Cell.int IntKind.i64 n6, Cell.str s7, Cell.bool b8, Cell.int IntKind.i64 n9, Cell.int IntKind.i64 n10, Cell.int IntKind.i64 n11], V.one (Cell.ptr (some (i12, i13)))] Q = vc79 I s0 n1 n2 n3 l4 n5 n6 s7 b8 n9 n10 n11 i12 i13 Q := by kernel_rfl
/-- handbill/offer.amounts -/
def vc80 (I : FuncId → List V → Post → T) (s0 : ByteArray) (n1 : Int) (n2 : Int) (n3 : Int) (l4 : Sl) (n5 : Int) (n6 : Int) (s7 : ByteArray) (b8 : Bool) (n9 : Int) (n10 : Int) (n11 : Int) (Q : Post) : T :=
  ifT (decide (n1 = 1))
    (joinK (A := Bool)
      (fun b12 => fun h13 => 
      Q [V.one (Cell.bool b12)] h13)
      (fun x14 => fun h15 => 
      I 59 [V.one (Cell.int IntKind.i64 n2), V.one (Cell.int IntKind.i64 1), V.one (Cell.int IntKind.i64 100)]
        (fun cs16 => fun h17 => 
        ∃ b18 : Bool, (cs16 = [V.one (Cell.bool b18)]) ∧
        (ifT b18
          (x14 (decide (n3 = 0)))
          (x14 false)) h17) h15))
    (ifT (decide (n1 = 3))
      (joinK (A := Bool)
        (fun b19 => fun h20 => 
        Q [V.one (Cell.bool b19)] h20)
        (fun x21 => fun h22 => 
        I 59 [V.one (Cell.int IntKind.i64 n2), V.one (Cell.int IntKind.i64 1), V.one (Cell.int IntKind.i64 20)]
          (fun cs23 => fun h24 => 
          ∃ b25 : Bool, (cs23 = [V.one (Cell.bool b25)]) ∧
          (ifT b25
            (fun h26 =>
            I 59 [V.one (Cell.int IntKind.i64 n3), V.one (Cell.int IntKind.i64 1), V.one (Cell.int IntKind.i64 20)]
              (fun cs27 => fun h28 => 
              ∃ b29 : Bool, (cs27 = [V.one (Cell.bool b29)]) ∧
              x21 b29 h28) h26)
            (x21 false)) h24) h22))
      (fun h30 =>
      I 59 [V.one (Cell.int IntKind.i64 n2), V.one (Cell.int IntKind.i64 1), V.one (Cell.int IntKind.i64 1000000000000)]
        (fun cs31 => fun h32 => 
        ∃ b33 : Bool, (cs31 = [V.one (Cell.bool b33)]) ∧
        (ifT b33
          (Q [V.one (Cell.bool (decide (n3 = 0)))])
          (Q [V.one (Cell.bool false)])) h32) h30))
theorem den80 (I : FuncId → List V → Post → T) (s0 : ByteArray) (n1 : Int) (n2 : Int) (n3 : Int) (l4 : Sl) (n5 : Int) (n6 : Int) (s7 : ByteArray) (b8 : Bool) (n9 : Int) (n10 : Int) (n11 : Int) (Q : Post) : denF Go.Proofs.Tryd.prog 2 (⟨[(212, 32644, [(2, tk Go.Proofs.Tryd.prog 4)]), (860, 33423364, [(2, tk Go.Proofs.Tryd.prog 4)])], []⟩) I 80 [V.agg [Cell.str s0, Cell.int IntKind.i64 n1, Cell.int IntKind.i64 n2, Cell.int IntKind.i64 n3, Cell.slice 1 l4, Cell.int IntKind.i64 n5, Cell.int IntKind.i64 n6, Cell.str s7, Cell.bool b8, Cell.int IntKind.i64 n9, Cell.int IntKind.i64 n10, Cell.int IntKind.i64 n11]] Q = vc80 I s0 n1 n2 n3 l4 n5 n6 s7 b8 n9 n10 n11 Q := by kernel_rfl
/-- handbill/offer.checkTags -/
def vc81 (I : FuncId → List V → Post → T) (l0 : Sl) (Q : Post) : T :=
  ifT (decide ((↑l0.len : Int) > 10))
    (Q [V.one (Cell.int IntKind.i64 2)])
    (loopK (A := Int) 0
      (fun x1 => fun n2 => ifT (decide (n2 < (↑l0.len : Int)))
        (fun h3 =>
        ((0 ≤ n2) ∧
        n2 < (↑l0.len : Int)) ∧
        (derefK l0.a (fun i4 => fun i5 => fun h6 =>
        ∃ s7 : ByteArray, (h6.read i4 (i5 + n2.toNat * 1) 1 = some [Cell.str s7]) ∧
        I 57 [V.one (Cell.str s7)]
          (fun cs8 => fun h9 => 
          ∃ b10 : Bool, (cs8 = [V.one (Cell.bool b10)]) ∧
          (ifT (!b10)
            (Q [V.one (Cell.int IntKind.i64 5)])
            (ifT (decide (n2 > 0))
              (fun h11 =>
              ((0 ≤ IntKind.i64.wrap (n2 - 1)) ∧
              IntKind.i64.wrap (n2 - 1) < (↑l0.len : Int)) ∧
              (derefK l0.a (fun i12 => fun i13 => fun h14 =>
              ∃ s15 : ByteArray, (h14.read i12 (i13 + (IntKind.i64.wrap (n2 - 1)).toNat * 1) 1 = some [Cell.str s15]) ∧
              (ifT (Op.bytesLess s7.toList s15.toList || decide (s7 = s15))
                (Q [V.one (Cell.int IntKind.i64 7)])
                (x1 (IntKind.i64.wrap (n2 + 1)))) h14)) h11)
              (x1 (IntKind.i64.wrap (n2 + 1))))) h9) h6)) h3)
        (Q [V.one (Cell.int IntKind.i64 0)])))
theorem den81 (I : FuncId → List V → Post → T) (l0 : Sl) (Q : Post) : denF Go.Proofs.Tryd.prog 0 (⟨[], [(58, 4294966300, [(10, tk Go.Proofs.Tryd.prog 3)])]⟩) I 81 [V.one (Cell.slice 1 l0)] Q = vc81 I l0 Q := by kernel_rfl
/-- handbill/offer.CheckBasket -/
def vc36 (I : FuncId → List V → Post → T) (l0 : Sl) (n1 : Int) (Q : Post) : T :=
  ifT (decide ((↑l0.len : Int) > 50))
    (Q [V.one (Cell.int IntKind.i64 2)])
    (loopK (A := Int) 0
      (fun x2 => fun n3 => ifT (decide (n3 < (↑l0.len : Int)))
        (fun h4 =>
        ((0 ≤ n3) ∧
        n3 < (↑l0.len : Int)) ∧
        (derefK l0.a (fun i5 => fun i6 => fun h7 =>
        ∃ s8 : ByteArray, ∃ n9 : Int, ∃ n10 : Int, ∃ l11 : Sl, (h7.read i5 (i6 + n3.toNat * 4) 4 = some [Cell.str s8, Cell.int IntKind.i64 n9, Cell.int IntKind.i64 n10, Cell.slice 1 l11]) ∧
        (newK (YtfemminjhecocaaDoorVc.Obj.cells false [Cell.str ByteArray.empty, Cell.int IntKind.i64 0, Cell.int IntKind.i64 0, Cell.slice 1 { a := none, len := 0 }]) (fun i12 => fun h13 => 
        (storeK [] i12 0 [Cell.str s8, Cell.int IntKind.i64 n9, Cell.int IntKind.i64 n10, Cell.slice 1 l11] (fun h14 =>
        ∃ s15 : ByteArray, (h14.read i12 0 1 = some [Cell.str s15]) ∧
        I 57 [V.one (Cell.str s15)]
          (fun cs16 => fun h17 => 
          ∃ b18 : Bool, (cs16 = [V.one (Cell.bool b18)]) ∧
          (ifT (!b18)
            (Q [V.one (Cell.int IntKind.i64 5)])
            (fun h19 =>
            (((0 : Int) ≤ (0 : Int)) ∧
            (0 ≤ n3) ∧
            n3 ≤ (↑l0.len : Int)) ∧
            I 82 [V.one (Cell.slice 4 (l0.sub 4 0 n3.toNat)), V.one (Cell.func (some (83, [(i12, 0)])))]
              (fun cs20 => fun h21 => 
              ∃ b22 : Bool, (cs20 = [V.one (Cell.bool b22)]) ∧
              (ifT b22
                (Q [V.one (Cell.int IntKind.i64 6)])
                (joinK (A := Bool)
                  (fun b23 => ifT b23
                    (Q [V.one (Cell.int IntKind.i64 1)])
                    (fun h24 =>
                    ∃ l25 : Sl, (h24.read i12 3 1 = some [Cell.slice 1 l25]) ∧
                    I 81 [V.one (Cell.slice 1 l25)]
                      (fun cs26 => fun h27 => 
                      ∃ n28 : Int, (cs26 = [V.one (Cell.int IntKind.i64 n28)]) ∧
                      (ifT (!decide (n28 = 0))
                        (Q [V.one (Cell.int IntKind.i64 n28)])
                        (x2 (IntKind.i64.wrap (n3 + 1)))) h27) h24))
                  (fun x29 => fun h30 =>
                  ∃ n31 : Int, (h30.read i12 1 1 = some [Cell.int IntKind.i64 n31]) ∧
                  I 59 [V.one (Cell.int IntKind.i64 n31), V.one (Cell.int IntKind.i64 0), V.one (Cell.int IntKind.i64 10000000)]
                    (fun cs32 => fun h33 => 
                    ∃ b34 : Bool, (cs32 = [V.one (Cell.bool b34)]) ∧
                    (ifT (!b34)
                      (x29 true)
                      (fun h35 =>
                      ∃ n36 : Int, (h35.read i12 2 1 = some [Cell.int IntKind.i64 n36]) ∧
                      I 59 [V.one (Cell.int IntKind.i64 n36), V.one (Cell.int IntKind.i64 1), V.one (Cell.int IntKind.i64 100)]
                        (fun cs37 => fun h38 => 
                        ∃ b39 : Bool, (cs37 = [V.one (Cell.bool b39)]) ∧
                        x29 (!b39) h38) h35)) h33) h30))) h21) h19)) h17) h14)) h13)) h7)) h4)
        (fun h40 =>
        I 59 [V.one (Cell.int IntKind.i64 n1), V.one (Cell.int IntKind.i64 0), V.one (Cell.int IntKind.i64 1000000000000)]
          (fun cs41 => fun h42 => 
          ∃ b43 : Bool, (cs41 = [V.one (Cell.bool b43)]) ∧
          (ifT (!b43)
            (Q [V.one (Cell.int IntKind.i64 1)])
            (Q [V.one (Cell.int IntKind.i64 0)])) h42) h40)))
theorem den36 (I : FuncId → List V → Post → T) (l0 : Sl) (n1 : Int) (Q : Post) : denF Go.Proofs.Tryd.prog 2 (⟨[(478366, 2197949513728, [(30, tk Go.Proofs.Tryd.prog 4)])], [(58, 281474976702524, [(13, tk Go.Proofs.Tryd.prog 3)])]⟩) I 36 [V.agg [Cell.slice 4 l0, Cell.int IntKind.i64 n1]] Q = vc36 I l0 n1 Q := by kernel_rfl
/-- slices.ContainsFunc[[]handbill/api.Item,handbill/api.Item] -/
def vc82 (I : FuncId → List V → Post → T) (l0 : Sl) (p1 : Option (Nat × List (Nat × Nat))) (Q : Post) : T :=
  fun h2 =>
  I 120 [V.one (Cell.slice 4 l0), V.one (Cell.func p1)]
    (fun cs3 => fun h4 => 
    ∃ n5 : Int, (cs3 = [V.one (Cell.int IntKind.i64 n5)]) ∧
    Q [V.one (Cell.bool (decide (n5 ≥ 0)))] h4) h2
theorem den82 (I : FuncId → List V → Post → T) (l0 : Sl) (p1 : Option (Nat × List (Nat × Nat))) (Q : Post) : denF Go.Proofs.Tryd.prog 0 (⟨[], []⟩) I 82 [V.one (Cell.slice 4 l0), V.one (Cell.func p1)] Q = vc82 I l0 p1 Q := by kernel_rfl
/-- slices.IndexFunc[[]handbill/api.Item,handbill/api.Item] -/
def vc120 (I : FuncId → List V → Post → T) (l0 : Sl) (p1 : Option (Nat × List (Nat × Nat))) (Q : Post) : T :=
  loopK (A := Int) 0
    (fun x2 => fun n3 => ifT (decide (n3 < (↑l0.len : Int)))
      (fun h4 =>
      ((0 ≤ n3) ∧
      n3 < (↑l0.len : Int)) ∧
      (derefK l0.a (fun i5 => fun i6 => fun h7 =>
      ∃ s8 : ByteArray, ∃ n9 : Int, ∃ n10 : Int, ∃ l11 : Sl, (h7.read i5 (i6 + n3.toNat * 4) 4 = some [Cell.str s8, Cell.int IntKind.i64 n9, Cell.int IntKind.i64 n10, Cell.slice 1 l11]) ∧
      (funK p1 (fun i12 => fun cs13 => fun h14 => 
      I i12 (V.agg [Cell.str s8, Cell.int IntKind.i64 n9, Cell.int IntKind.i64 n10, Cell.slice 1 l11] :: cs13)
        (fun cs15 => fun h16 => 
        ∃ b17 : Bool, (cs15 = [V.one (Cell.bool b17)]) ∧
        (ifT b17
          (Q [V.one (Cell.int IntKind.i64 n3)])
          (x2 (IntKind.i64.wrap (n3 + 1)))) h16) h14)) h7)) h4)
      (Q [V.one (Cell.int IntKind.i64 (-1))]))
theorem den120 (I : FuncId → List V → Post → T) (l0 : Sl) (p1 : Option (Nat × List (Nat × Nat))) (Q : Post) : denF Go.Proofs.Tryd.prog 0 (⟨[], [(26, 524080, [(8, tk Go.Proofs.Tryd.prog 3)])]⟩) I 120 [V.one (Cell.slice 4 l0), V.one (Cell.func p1)] Q = vc120 I l0 p1 Q := by kernel_rfl
/-- handbill/offer.CheckBasket$1 -/
def vc83 (I : FuncId → List V → Post → T) (s0 : ByteArray) (n1 : Int) (n2 : Int) (l3 : Sl) (i4 : Nat) (i5 : Nat) (Q : Post) : T :=
  fun h6 =>
  ∃ s7 : ByteArray, (h6.read i4 (i5 + 0) 1 = some [Cell.str s7]) ∧
  Q [V.one (Cell.bool (decide (s0 = s7)))] h6
theorem den83 (I : FuncId → List V → Post → T) (s0 : ByteArray) (n1 : Int) (n2 : Int) (l3 : Sl) (i4 : Nat) (i5 : Nat) (Q : Post) : denF Go.Proofs.Tryd.prog 4 (⟨[], []⟩) I 83 [V.agg [Cell.str s0, Cell.int IntKind.i64 n1, Cell.int IntKind.i64 n2, Cell.slice 1 l3], V.one (Cell.ptr (some (i4, i5)))] Q = vc83 I s0 n1 n2 l3 i4 i5 Q := by kernel_rfl
/-- handbill/handref1.BasketFault -/
def vc37 (I : FuncId → List V → Post → T) (l0 : Sl) (n1 : Int) (Q : Post) : T :=
  ifT (decide ((↑l0.len : Int) > 50))
    (Q [V.one (Cell.int IntKind.i64 2)])
    (loopK (A := Int) 0
      (fun x2 => fun n3 => ifT (decide (n3 < (↑l0.len : Int)))
        (fun h4 =>
        ((0 ≤ n3) ∧
        n3 < (↑l0.len : Int)) ∧
        (derefK l0.a (fun i5 => fun i6 => fun h7 =>
        ∃ s8 : ByteArray, ∃ n9 : Int, ∃ n10 : Int, ∃ l11 : Sl, (h7.read i5 (i6 + n3.toNat * 4) 4 = some [Cell.str s8, Cell.int IntKind.i64 n9, Cell.int IntKind.i64 n10, Cell.slice 1 l11]) ∧
        (newK (YtfemminjhecocaaDoorVc.Obj.cells false [Cell.str ByteArray.empty, Cell.int IntKind.i64 0, Cell.int IntKind.i64 0, Cell.slice 1 { a := none, len := 0 }]) (fun i12 => fun h13 => 
        (storeK [] i12 0 [Cell.str s8, Cell.int IntKind.i64 n9, Cell.int IntKind.i64 n10, Cell.slice 1 l11] (fun h14 =>
        ∃ s15 : ByteArray, (h14.read i12 0 1 = some [Cell.str s15]) ∧
        I 54 [V.one (Cell.str s15)]
          (fun cs16 => fun h17 => 
          ∃ b18 : Bool, (cs16 = [V.one (Cell.bool b18)]) ∧
          (ifT (!b18)
            (Q [V.one (Cell.int IntKind.i64 5)])
            (fun h19 =>
            (((0 : Int) ≤ (0 : Int)) ∧
            (0 ≤ n3) ∧
            n3 ≤ (↑l0.len : Int)) ∧
            I 82 [V.one (Cell.slice 4 (l0.sub 4 0 n3.toNat)), V.one (Cell.func (some (84, [(i12, 0)])))]
              (fun cs20 => fun h21 => 
              ∃ b22 : Bool, (cs20 = [V.one (Cell.bool b22)]) ∧
              (ifT b22
                (Q [V.one (Cell.int IntKind.i64 6)])
                (joinK (A := Bool)
                  (fun b23 => ifT b23
                    (Q [V.one (Cell.int IntKind.i64 1)])
                    (fun h24 =>
                    ∃ l25 : Sl, (h24.read i12 3 1 = some [Cell.slice 1 l25]) ∧
                    I 78 [V.one (Cell.slice 1 l25)]
                      (fun cs26 => fun h27 => 
                      ∃ n28 : Int, (cs26 = [V.one (Cell.int IntKind.i64 n28)]) ∧
                      (ifT (!decide (n28 = 0))
                        (Q [V.one (Cell.int IntKind.i64 n28)])
                        (x2 (IntKind.i64.wrap (n3 + 1)))) h27) h24))
                  (fun x29 => fun h30 =>
                  ∃ n31 : Int, (h30.read i12 1 1 = some [Cell.int IntKind.i64 n31]) ∧
                  (ifT (decide (n31 < 0))
                    (x29 true)
                    (fun h32 =>
                    ∃ n33 : Int, (h32.read i12 1 1 = some [Cell.int IntKind.i64 n33]) ∧
                    (ifT (decide (n33 > 10000000))
                      (x29 true)
                      (fun h34 =>
                      ∃ n35 : Int, (h34.read i12 2 1 = some [Cell.int IntKind.i64 n35]) ∧
                      (ifT (decide (n35 < 1))
                        (x29 true)
                        (fun h36 =>
                        ∃ n37 : Int, (h36.read i12 2 1 = some [Cell.int IntKind.i64 n37]) ∧
                        x29 (decide (n37 > 100)) h36)) h34)) h32)) h30))) h21) h19)) h17) h14)) h13)) h7)) h4)
        (ifT (decide (n1 < 0))
          (Q [V.one (Cell.int IntKind.i64 1)])
          (ifT (decide (n1 > 1000000000000))
            (Q [V.one (Cell.int IntKind.i64 1)])
            (Q [V.one (Cell.int IntKind.i64 0)])))))
theorem den37 (I : FuncId → List V → Post → T) (l0 : Sl) (n1 : Int) (Q : Post) : denF Go.Proofs.Tryd.prog 2 (⟨[(478366, 562948879679488, [(30, tk Go.Proofs.Tryd.prog 4)])], [(58, 72057594037919804, [(13, tk Go.Proofs.Tryd.prog 3)])]⟩) I 37 [V.agg [Cell.slice 4 l0, Cell.int IntKind.i64 n1]] Q = vc37 I l0 n1 Q := by kernel_rfl
/-- handbill/handref1.BasketFault$1 -/
def vc84 (I : FuncId → List V → Post → T) (s0 : ByteArray) (n1 : Int) (n2 : Int) (l3 : Sl) (i4 : Nat) (i5 : Nat) (Q : Post) : T :=
  fun h6 =>
  ∃ s7 : ByteArray, (h6.read i4 (i5 + 0) 1 = some [Cell.str s7]) ∧
  Q [V.one (Cell.bool (decide (s0 = s7)))] h6
theorem den84 (I : FuncId → List V → Post → T) (s0 : ByteArray) (n1 : Int) (n2 : Int) (l3 : Sl) (i4 : Nat) (i5 : Nat) (Q : Post) : denF Go.Proofs.Tryd.prog 4 (⟨[], []⟩) I 84 [V.agg [Cell.str s0, Cell.int IntKind.i64 n1, Cell.int IntKind.i64 n2, Cell.slice 1 l3], V.one (Cell.ptr (some (i4, i5)))] Q = vc84 I s0 n1 n2 l3 i4 i5 Q := by kernel_rfl
/-- handbill/offer.Together -/
def vc38 (I : FuncId → List V → Post → T) (l0 : Sl) (Q : Post) : T :=
  fun h1 =>
  I 35 [V.one (Cell.slice 12 l0)]
    (fun cs2 => fun h3 => 
    ∃ n4 : Int, (cs2 = [V.one (Cell.int IntKind.i64 n4)]) ∧
    (ifT (!decide (n4 = 0))
      (Q [V.one (Cell.bool false), V.one (Cell.int IntKind.i64 n4)])
      (fun h5 =>
      I 85 [V.one (Cell.slice 12 l0)]
        (fun cs6 => fun h7 => 
        ∃ b8 : Bool, (cs6 = [V.one (Cell.bool b8)]) ∧
        Q [V.one (Cell.bool b8), V.one (Cell.int IntKind.i64 0)] h7) h5)) h3) h1
theorem den38 (I : FuncId → List V → Post → T) (l0 : Sl) (Q : Post) : denF Go.Proofs.Tryd.prog 0 (⟨[], []⟩) I 38 [V.one (Cell.slice 12 l0)] Q = vc38 I l0 Q := by kernel_rfl
/-- handbill/offer.together -/
def vc85 (I : FuncId → List V → Post → T) (l0 : Sl) (Q : Post) : T :=
  fun h1 =>
  (newK (YtfemminjhecocaaDoorVc.Obj.map []) (fun i2 => loopK (A := Int) 0
    (fun x3 => fun n4 => ifT (decide (n4 < (↑l0.len : Int)))
      (fun h5 =>
      ((0 ≤ n4) ∧
      n4 < (↑l0.len : Int)) ∧
      (derefK l0.a (fun i6 => fun i7 => fun h8 =>
      ∃ s9 : ByteArray, ∃ n10 : Int, ∃ n11 : Int, ∃ n12 : Int, ∃ l13 : Sl, ∃ n14 : Int, ∃ n15 : Int, ∃ s16 : ByteArray, ∃ b17 : Bool, ∃ n18 : Int, ∃ n19 : Int, ∃ n20 : Int, (h8.read i6 (i7 + n4.toNat * 12) 12 = some [Cell.str s9, Cell.int IntKind.i64 n10, Cell.int IntKind.i64 n11, Cell.int IntKind.i64 n12, Cell.slice 1 l13, Cell.int IntKind.i64 n14, Cell.int IntKind.i64 n15, Cell.str s16, Cell.bool b17, Cell.int IntKind.i64 n18, Cell.int IntKind.i64 n19, Cell.int IntKind.i64 n20]) ∧
      (ifT b17
        (ifT (decide ((↑l0.len : Int) > 1))
          (Q [V.one (Cell.bool false)])
          (ifT (!decide (s16 = { data := #[] }))
            (fun h21 =>
            ∃ b22 : Bool, ∃ b23 : Bool, (∃ cs24 : List (V × V), (mapOf h21 (some i2) = some cs24) ∧
            mapGet (V.one (Cell.str s16)) (V.one (Cell.bool false)) cs24 = some (V.one (Cell.bool b22), b23)) ∧
            (ifT b22
              (Q [V.one (Cell.bool false)])
              (fun h25 =>
              (mapK [] (some i2) (V.one (Cell.str s16)) (V.one (Cell.bool true)) (x3 (IntKind.i64.wrap (n4 + 1)))) h25)) h21)
            (fun h26 =>
            (mapK [] (some i2) (V.one (Cell.str s16)) (V.one (Cell.bool true)) (x3 (IntKind.i64.wrap (n4 + 1)))) h26)))
        (ifT (!decide (s16 = { data := #[] }))
          (fun h27 =>
          ∃ b28 : Bool, ∃ b29 : Bool, (∃ cs30 : List (V × V), (mapOf h27 (some i2) = some cs30) ∧
          mapGet (V.one (Cell.str s16)) (V.one (Cell.bool false)) cs30 = some (V.one (Cell.bool b28), b29)) ∧
          (ifT b28
            (Q [V.one (Cell.bool false)])
            (fun h31 =>
            (mapK [] (some i2) (V.one (Cell.str s16)) (V.one (Cell.bool true)) (x3 (IntKind.i64.wrap (n4 + 1)))) h31)) h27)
          (fun h32 =>
          (mapK [] (some i2) (V.one (Cell.str s16)) (V.one (Cell.bool true)) (x3 (IntKind.i64.wrap (n4 + 1)))) h32))) h8)) h5)
      (Q [V.one (Cell.bool true)])))) h1
theorem den85 (I : FuncId → List V → Post → T) (l0 : Sl) (Q : Post) : denF Go.Proofs.Tryd.prog 32 (⟨[], [(58, 34359737892, [(9, tk Go.Proofs.Tryd.prog 3)])]⟩) I 85 [V.one (Cell.slice 12 l0)] Q = vc85 I l0 Q := by kernel_rfl
/-- handbill/handref1.TogetherOf -/
def vc39 (I : FuncId → List V → Post → T) (l0 : Sl) (Q : Post) : T :=
  loopK (A := Int) 0
    (fun x1 => fun n2 => ifT (decide (n2 < (↑l0.len : Int)))
      (fun h3 =>
      ((0 ≤ n2) ∧
      n2 < (↑l0.len : Int)) ∧
      (derefK l0.a (fun i4 => fun i5 => fun h6 =>
      ∃ s7 : ByteArray, ∃ n8 : Int, ∃ n9 : Int, ∃ n10 : Int, ∃ l11 : Sl, ∃ n12 : Int, ∃ n13 : Int, ∃ s14 : ByteArray, ∃ b15 : Bool, ∃ n16 : Int, ∃ n17 : Int, ∃ n18 : Int, (h6.read i4 (i5 + n2.toNat * 12) 12 = some [Cell.str s7, Cell.int IntKind.i64 n8, Cell.int IntKind.i64 n9, Cell.int IntKind.i64 n10, Cell.slice 1 l11, Cell.int IntKind.i64 n12, Cell.int IntKind.i64 n13, Cell.str s14, Cell.bool b15, Cell.int IntKind.i64 n16, Cell.int IntKind.i64 n17, Cell.int IntKind.i64 n18]) ∧
      (((0 : Int) ≤ (0 : Int)) ∧
      (0 ≤ n2) ∧
      n2 ≤ (↑l0.len : Int)) ∧
      (loopK (A := Int) 0
        (fun x19 => fun n20 => ifT (decide (n20 < (↑(l0.sub 12 0 n2.toNat).len : Int)))
          (fun h21 =>
          ((0 ≤ n20) ∧
          n20 < (↑(l0.sub 12 0 n2.toNat).len : Int)) ∧
          (derefK ((l0.sub 12 0 n2.toNat).a) (fun i22 => fun i23 => fun h24 =>
          ∃ s25 : ByteArray, ∃ n26 : Int, ∃ n27 : Int, ∃ n28 : Int, ∃ l29 : Sl, ∃ n30 : Int, ∃ n31 : Int, ∃ s32 : ByteArray, ∃ b33 : Bool, ∃ n34 : Int, ∃ n35 : Int, ∃ n36 : Int, (h24.read i22 (i23 + n20.toNat * 12) 12 = some [Cell.str s25, Cell.int IntKind.i64 n26, Cell.int IntKind.i64 n27, Cell.int IntKind.i64 n28, Cell.slice 1 l29, Cell.int IntKind.i64 n30, Cell.int IntKind.i64 n31, Cell.str s32, Cell.bool b33, Cell.int IntKind.i64 n34, Cell.int IntKind.i64 n35, Cell.int IntKind.i64 n36]) ∧
          (ifT b15
            (Q [V.one (Cell.bool false)])
            (ifT b33
              (Q [V.one (Cell.bool false)])
              (ifT (!decide (s14 = { data := #[] }))
                (ifT (decide (s14 = s32))
                  (Q [V.one (Cell.bool false)])
                  (x19 (IntKind.i64.wrap (n20 + 1))))
                (x19 (IntKind.i64.wrap (n20 + 1)))))) h24)) h21)
          (x1 (IntKind.i64.wrap (n2 + 1))))) h6)) h3)
      (Q [V.one (Cell.bool true)]))
theorem den39 (I : FuncId → List V → Post → T) (l0 : Sl) (Q : Post) : denF Go.Proofs.Tryd.prog 80 (⟨[], [(26, 4398046510684, [(9, tk Go.Proofs.Tryd.prog 3)]), (6758, 2199022993476, [(18, tk Go.Proofs.Tryd.prog 3)])]⟩) I 39 [V.one (Cell.slice 12 l0)] Q = vc39 I l0 Q := by kernel_rfl
/-- handbill/offer.Fits -/
def vc41 (I : FuncId → List V → Post → T) (s0 : ByteArray) (n1 : Int) (n2 : Int) (n3 : Int) (l4 : Sl) (n5 : Int) (n6 : Int) (s7 : ByteArray) (b8 : Bool) (n9 : Int) (n10 : Int) (n11 : Int) (l12 : Sl) (n13 : Int) (n14 : Int) (Q : Post) : T :=
  fun h15 =>
  (newK (YtfemminjhecocaaDoorVc.Obj.cells false [Cell.str s0, Cell.int IntKind.i64 n1, Cell.int IntKind.i64 n2, Cell.int IntKind.i64 n3, Cell.slice 1 l4, Cell.int IntKind.i64 n5, Cell.int IntKind.i64 n6, Cell.str s7, Cell.bool b8, Cell.int IntKind.i64 n9, Cell.int IntKind.i64 n10, Cell.int IntKind.i64 n11]) (fun i16 => fun h17 =>
  I 86 [V.one (Cell.slice 12 { a := some (i16, 0), len := 1 }), V.agg [Cell.slice 4 l12, Cell.int IntKind.i64 n13], V.one (Cell.int IntKind.i64 n14)]
    (fun cs18 => fun h19 => 
    ∃ n20 : Int, (cs18 = [V.one (Cell.int IntKind.i64 n20)]) ∧
    (ifT (!decide (n20 = 0))
      (Q [V.one (Cell.int IntKind.i64 0), V.one (Cell.int IntKind.i64 n20)])
      (fun h21 =>
      I 87 [V.agg [Cell.str s0, Cell.int IntKind.i64 n1, Cell.int IntKind.i64 n2, Cell.int IntKind.i64 n3, Cell.slice 1 l4, Cell.int IntKind.i64 n5, Cell.int IntKind.i64 n6, Cell.str s7, Cell.bool b8, Cell.int IntKind.i64 n9, Cell.int IntKind.i64 n10, Cell.int IntKind.i64 n11], V.agg [Cell.slice 4 l12, Cell.int IntKind.i64 n13], V.one (Cell.int IntKind.i64 n14)]
        (fun cs22 => fun h23 => 
        ∃ n24 : Int, (cs22 = [V.one (Cell.int IntKind.i64 n24)]) ∧
        Q [V.one (Cell.int IntKind.i64 n24), V.one (Cell.int IntKind.i64 0)] h23) h21)) h19) h17)) h15
theorem den41 (I : FuncId → List V → Post → T) (s0 : ByteArray) (n1 : Int) (n2 : Int) (n3 : Int) (l4 : Sl) (n5 : Int) (n6 : Int) (s7 : ByteArray) (b8 : Bool) (n9 : Int) (n10 : Int) (n11 : Int) (l12 : Sl) (n13 : Int) (n14 : Int) (Q : Post) : denF Go.Proofs.Tryd.prog 24 (⟨[], []⟩) I 41 [V.agg [Cell.str s0, Cell.int IntKind.i64 n1, Cell.int IntKind.i64 n2, Cell.int IntKind.i64 n3, Cell.slice 1 l4, Cell.int IntKind.i64 n5, Cell.int IntKind.i64 n6, Cell.str s7, Cell.bool b8, Cell.int IntKind.i64 n9, Cell.int IntKind.i64 n10, Cell.int IntKind.i64 n11], V.agg [Cell.slice 4 l12, Cell.int IntKind.i64 n13], V.one (Cell.int IntKind.i64 n14)] Q = vc41 I s0 n1 n2 n3 l4 n5 n6 s7 b8 n9 n10 n11 l12 n13 n14 Q := by kernel_rfl
/-- handbill/offer.checkAll -/
def vc86 (I : FuncId → List V → Post → T) (l0 : Sl) (l1 : Sl) (n2 : Int) (n3 : Int) (Q : Post) : T :=
  fun h4 =>
  I 35 [V.one (Cell.slice 12 l0)]
    (fun cs5 => fun h6 => 
    ∃ n7 : Int, (cs5 = [V.one (Cell.int IntKind.i64 n7)]) ∧
    (ifT (!decide (n7 = 0))
      (Q [V.one (Cell.int IntKind.i64 n7)])
      (fun h8 =>
      I 36 [V.agg [Cell.slice 4 l1, Cell.int IntKind.i64 n2]]
        (fun cs9 => fun h10 => 
        ∃ n11 : Int, (cs9 = [V.one (Cell.int IntKind.i64 n11)]) ∧
        (ifT (!decide (n11 = 0))
          (Q [V.one (Cell.int IntKind.i64 n11)])
          (fun h12 =>
          I 60 [V.one (Cell.int IntKind.i64 n3)]
            (fun cs13 => fun h14 => 
            ∃ b15 : Bool, (cs13 = [V.one (Cell.bool b15)]) ∧
            (ifT (!b15)
              (Q [V.one (Cell.int IntKind.i64 1)])
              (Q [V.one (Cell.int IntKind.i64 0)])) h14) h12)) h10) h8)) h6) h4
theorem den86 (I : FuncId → List V → Post → T) (l0 : Sl) (l1 : Sl) (n2 : Int) (n3 : Int) (Q : Post) : denF Go.Proofs.Tryd.prog 16 (⟨[], []⟩) I 86 [V.one (Cell.slice 12 l0), V.agg [Cell.slice 4 l1, Cell.int IntKind.i64 n2], V.one (Cell.int IntKind.i64 n3)] Q = vc86 I l0 l1 n2 n3 Q := by kernel_rfl
/-- handbill/offer.fits -/
def vc87 (I : FuncId → List V → Post → T) (s0 : ByteArray) (n1 : Int) (n2 : Int) (n3 : Int) (l4 : Sl) (n5 : Int) (n6 : Int) (s7 : ByteArray) (b8 : Bool) (n9 : Int) (n10 : Int) (n11 : Int) (l12 : Sl) (n13 : Int) (n14 : Int) (Q : Post) : T :=
  loopK (A := Int × Int) ((0, 0))
    (fun x15 => uncur fun n16 n17 => ifT (decide (n17 < (↑l12.len : Int)))
      (fun h18 =>
      ((0 ≤ n17) ∧
      n17 < (↑l12.len : Int)) ∧
      (derefK l12.a (fun i19 => fun i20 => fun h21 =>
      ∃ s22 : ByteArray, ∃ n23 : Int, ∃ n24 : Int, ∃ l25 : Sl, (h21.read i19 (i20 + n17.toNat * 4) 4 = some [Cell.str s22, Cell.int IntKind.i64 n23, Cell.int IntKind.i64 n24, Cell.slice 1 l25]) ∧
      (ifT (decide (n1 = 4))
        (x15 ((IntKind.i64.wrap (n16 + IntKind.i64.wrap (n23 * n24)), IntKind.i64.wrap (n17 + 1))))
        (fun h26 =>
        I 121 [V.agg [Cell.str s0, Cell.int IntKind.i64 n1, Cell.int IntKind.i64 n2, Cell.int IntKind.i64 n3, Cell.slice 1 l4, Cell.int IntKind.i64 n5, Cell.int IntKind.i64 n6, Cell.str s7, Cell.bool b8, Cell.int IntKind.i64 n9, Cell.int IntKind.i64 n10, Cell.int IntKind.i64 n11], V.agg [Cell.str s22, Cell.int IntKind.i64 n23, Cell.int IntKind.i64 n24, Cell.slice 1 l25]]
          (fun cs27 => fun h28 => 
          ∃ b29 : Bool, (cs27 = [V.one (Cell.bool b29)]) ∧
          (ifT b29
            (x15 ((IntKind.i64.wrap (n16 + IntKind.i64.wrap (n23 * n24)), IntKind.i64.wrap (n17 + 1))))
            (x15 ((n16, IntKind.i64.wrap (n17 + 1))))) h28) h26)) h21)) h18)
      (joinK (A := Bool)
        (fun b30 => ifT (decide (n14 < n10))
          (Q [V.one (Cell.int IntKind.i64 1)])
          (ifT (decide (n14 ≥ n11))
            (Q [V.one (Cell.int IntKind.i64 2)])
            (ifT b30
              (Q [V.one (Cell.int IntKind.i64 3)])
              (ifT (decide (n16 < n5))
                (Q [V.one (Cell.int IntKind.i64 4)])
                (Q [V.one (Cell.int IntKind.i64 0)])))))
        (fun x31 => ifT (decide (n1 = 4))
          (x31 (decide (n13 = 0)))
          (x31 (decide (n16 = 0))))))
theorem den87 (I : FuncId → List V → Post → T) (s0 : ByteArray) (n1 : Int) (n2 : Int) (n3 : Int) (l4 : Sl) (n5 : Int) (n6 : Int) (s7 : ByteArray) (b8 : Bool) (n9 : Int) (n10 : Int) (n11 : Int) (l12 : Sl) (n13 : Int) (n14 : Int) (Q : Post) : denF Go.Proofs.Tryd.prog 536 (⟨[(125, 3848290698240, [(10, tk Go.Proofs.Tryd.prog 4)])], [(58, 17179853440, [(7, tk Go.Proofs.Tryd.prog 3), (14, tk Go.Proofs.Tryd.prog 3)])]⟩) I 87 [V.agg [Cell.str s0, Cell.int IntKind.i64 n1, Cell.int IntKind.i64 n2, Cell.int IntKind.i64 n3, Cell.slice 1 l4, Cell.int IntKind.i64 n5, Cell.int IntKind.i64 n6, Cell.str s7, Cell.bool b8, Cell.int IntKind.i64 n9, Cell.int IntKind.i64 n10, Cell.int IntKind.i64 n11], V.agg [Cell.slice 4 l12, Cell.int IntKind.i64 n13], V.one (Cell.int IntKind.i64 n14)] Q = vc87 I s0 n1 n2 n3 l4 n5 n6 s7 b8 n9 n10 n11 l12 n13 n14 Q := by kernel_rfl
/-- handbill/offer.matches -/
def vc121 (I : FuncId → List V → Post → T) (s0 : ByteArray) (n1 : Int) (n2 : Int) (n3 : Int) (l4 : Sl) (n5 : Int) (n6 : Int) (s7 : ByteArray) (b8 : Bool) (n9 : Int) (n10 : Int) (n11 : Int) (s12 : ByteArray) (n13 : Int) (n14 : Int) (l15 : Sl) (Q : Post) : T :=
  fun h16 =>
  (newK (YtfemminjhecocaaDoorVc.Obj.cells false [Cell.str s12, Cell.int IntKind.i64 n13, Cell.int IntKind.i64 n14, Cell.slice 1 l15]) (fun i17 => ifT (decide ((↑l4.len : Int) = 0))
    (Q [V.one (Cell.bool true)])
    (fun h18 =>
    I 89 [V.one (Cell.slice 1 l4), V.one (Cell.func (some (136, [(i17, 0)])))]
      (fun cs19 => fun h20 => 
      ∃ b21 : Bool, (cs19 = [V.one (Cell.bool b21)]) ∧
      Q [V.one (Cell.bool b21)] h20) h18))) h16
theorem den121 (I : FuncId → List V → Post → T) (s0 : ByteArray) (n1 : Int) (n2 : Int) (n3 : Int) (l4 : Sl) (n5 : Int) (n6 : Int) (s7 : ByteArray) (b8 : Bool) (n9 : Int) (n10 : Int) (n11 : Int) (s12 : ByteArray) (n13 : Int) (n14 : Int) (l15 : Sl) (Q : Post) : denF Go.Proofs.Tryd.prog 4 (⟨[], []⟩) I 121 [V.agg [Cell.str s0, Cell.int IntKind.i64 n1, Cell.int IntKind.i64 n2, Cell.int IntKind.i64 n3, Cell.slice 1 l4, Cell.int IntKind.i64 n5, Cell.int IntKind.i64 n6, Cell.str s7, Cell.bool b8, Cell.int IntKind.i64 n9, Cell.int IntKind.i64 n10, Cell.int IntKind.i64 n11], V.agg [Cell.str s12, Cell.int IntKind.i64 n13, Cell.int IntKind.i64 n14, Cell.slice 1 l15]] Q = vc121 I s0 n1 n2 n3 l4 n5 n6 s7 b8 n9 n10 n11 s12 n13 n14 l15 Q := by kernel_rfl
/-- slices.ContainsFunc[[]string,string] -/
def vc89 (I : FuncId → List V → Post → T) (l0 : Sl) (p1 : Option (Nat × List (Nat × Nat))) (Q : Post) : T :=
  fun h2 =>
  I 124 [V.one (Cell.slice 1 l0), V.one (Cell.func p1)]
    (fun cs3 => fun h4 => 
    ∃ n5 : Int, (cs3 = [V.one (Cell.int IntKind.i64 n5)]) ∧
    Q [V.one (Cell.bool (decide (n5 ≥ 0)))] h4) h2
theorem den89 (I : FuncId → List V → Post → T) (l0 : Sl) (p1 : Option (Nat × List (Nat × Nat))) (Q : Post) : denF Go.Proofs.Tryd.prog 0 (⟨[], []⟩) I 89 [V.one (Cell.slice 1 l0), V.one (Cell.func p1)] Q = vc89 I l0 p1 Q := by kernel_rfl
/-- slices.IndexFunc[[]string,string] -/
def vc124 (I : FuncId → List V → Post → T) (l0 : Sl) (p1 : Option (Nat × List (Nat × Nat))) (Q : Post) : T :=
  loopK (A := Int) 0
    (fun x2 => fun n3 => ifT (decide (n3 < (↑l0.len : Int)))
      (fun h4 =>
      ((0 ≤ n3) ∧
      n3 < (↑l0.len : Int)) ∧
      (derefK l0.a (fun i5 => fun i6 => fun h7 =>
      ∃ s8 : ByteArray, (h7.read i5 (i6 + n3.toNat * 1) 1 = some [Cell.str s8]) ∧
      (funK p1 (fun i9 => fun cs10 => fun h11 => 
      I i9 (V.one (Cell.str s8) :: cs10)
        (fun cs12 => fun h13 => 
        ∃ b14 : Bool, (cs12 = [V.one (Cell.bool b14)]) ∧
        (ifT b14
          (Q [V.one (Cell.int IntKind.i64 n3)])
          (x2 (IntKind.i64.wrap (n3 + 1)))) h13) h11)) h7)) h4)
      (Q [V.one (Cell.int IntKind.i64 (-1))]))
theorem den124 (I : FuncId → List V → Post → T) (l0 : Sl) (p1 : Option (Nat × List (Nat × Nat))) (Q : Post) : denF Go.Proofs.Tryd.prog 0 (⟨[], [(26, 524080, [(8, tk Go.Proofs.Tryd.prog 3)])]⟩) I 124 [V.one (Cell.slice 1 l0), V.one (Cell.func p1)] Q = vc124 I l0 p1 Q := by kernel_rfl
/-- handbill/offer.matches$1 -/
def vc136 (I : FuncId → List V → Post → T) (s0 : ByteArray) (i1 : Nat) (i2 : Nat) (Q : Post) : T :=
  fun h3 =>
  ∃ l4 : Sl, (h3.read i1 (i2 + 3) 1 = some [Cell.slice 1 l4]) ∧
  I 123 [V.one (Cell.slice 1 l4), V.one (Cell.str s0)]
    (fun cs5 => fun h6 => 
    ∃ b7 : Bool, (cs5 = [V.one (Cell.bool b7)]) ∧
    Q [V.one (Cell.bool b7)] h6) h3
theorem den136 (I : FuncId → List V → Post → T) (s0 : ByteArray) (i1 : Nat) (i2 : Nat) (Q : Post) : denF Go.Proofs.Tryd.prog 0 (⟨[], []⟩) I 136 [V.one (Cell.str s0), V.one (Cell.ptr (some (i1, i2)))] Q = vc136 I s0 i1 i2 Q := by kernel_rfl
/-- slices.Contains[[]string,string] -/
def vc123 (I : FuncId → List V → Post → T) (l0 : Sl) (s1 : ByteArray) (Q : Post) : T :=
  fun h2 =>
  I 137 [V.one (Cell.slice 1 l0), V.one (Cell.str s1)]
    (fun cs3 => fun h4 => 
    ∃ n5 : Int, (cs3 = [V.one (Cell.int IntKind.i64 n5)]) ∧
    Q [V.one (Cell.bool (decide (n5 ≥ 0)))] h4) h2
theorem den123 (I : FuncId → List V → Post → T) (l0 : Sl) (s1 : ByteArray) (Q : Post) : denF Go.Proofs.Tryd.prog 0 (⟨[], []⟩) I 123 [V.one (Cell.slice 1 l0), V.one (Cell.str s1)] Q = vc123 I l0 s1 Q := by kernel_rfl
/-- slices.Index[[]string,string] -/
def vc137 (I : FuncId → List V → Post → T) (l0 : Sl) (s1 : ByteArray) (Q : Post) : T :=
  loopK (A := Int) 0
    (fun x2 => fun n3 => ifT (decide (n3 < (↑l0.len : Int)))
      (fun h4 =>
      ((0 ≤ n3) ∧
      n3 < (↑l0.len : Int)) ∧
      (derefK l0.a (fun i5 => fun i6 => fun h7 =>
      ∃ s8 : ByteArray, (h7.read i5 (i6 + n3.toNat * 1) 1 = some [Cell.str s8]) ∧
      (ifT (decide (s1 = s8))
        (Q [V.one (Cell.int IntKind.i64 n3)])
        (x2 (IntKind.i64.wrap (n3 + 1)))) h7)) h4)
      (Q [V.one (Cell.int IntKind.i64 (-1))]))
theorem den137 (I : FuncId → List V → Post → T) (l0 : Sl) (s1 : ByteArray) (Q : Post) : denF Go.Proofs.Tryd.prog 0 (⟨[], [(26, 524080, [(8, tk Go.Proofs.Tryd.prog 3)])]⟩) I 137 [V.one (Cell.slice 1 l0), V.one (Cell.str s1)] Q = vc137 I l0 s1 Q := by kernel_rfl
/-- cmp.Or[handbill/api.Errno] -/
def vc42 (I : FuncId → List V → Post → T) (l0 : Sl) (Q : Post) : T :=
  loopK (A := Int) 0
    (fun x1 => fun n2 => ifT (decide (n2 < (↑l0.len : Int)))
      (fun h3 =>
      ((0 ≤ n2) ∧
      n2 < (↑l0.len : Int)) ∧
      (derefK l0.a (fun i4 => fun i5 => fun h6 =>
      ∃ n7 : Int, (h6.read i4 (i5 + n2.toNat * 1) 1 = some [Cell.int IntKind.i64 n7]) ∧
      (ifT (!decide (n7 = 0))
        (Q [V.one (Cell.int IntKind.i64 n7)])
        (x1 (IntKind.i64.wrap (n2 + 1)))) h6)) h3)
      (Q [V.one (Cell.int IntKind.i64 0)]))
theorem den42 (I : FuncId → List V → Post → T) (l0 : Sl) (Q : Post) : denF Go.Proofs.Tryd.prog 0 (⟨[], [(58, 130852, [(8, tk Go.Proofs.Tryd.prog 3)])]⟩) I 42 [V.one (Cell.slice 1 l0)] Q = vc42 I l0 Q := by kernel_rfl
/-- handbill/handref1.FitsOf -/
def vc43 (I : FuncId → List V → Post → T) (s0 : ByteArray) (n1 : Int) (n2 : Int) (n3 : Int) (l4 : Sl) (n5 : Int) (n6 : Int) (s7 : ByteArray) (b8 : Bool) (n9 : Int) (n10 : Int) (n11 : Int) (l12 : Sl) (n13 : Int) (n14 : Int) (Q : Post) : T :=
  loopK (A := Int × Int) ((0, 0))
    (fun x15 => uncur fun n16 n17 => ifT (decide (n17 < (↑l12.len : Int)))
      (fun h18 =>
      ((0 ≤ n17) ∧
      n17 < (↑l12.len : Int)) ∧
      (derefK l12.a (fun i19 => fun i20 => fun h21 =>
      ∃ s22 : ByteArray, ∃ n23 : Int, ∃ n24 : Int, ∃ l25 : Sl, (h21.read i19 (i20 + n17.toNat * 4) 4 = some [Cell.str s22, Cell.int IntKind.i64 n23, Cell.int IntKind.i64 n24, Cell.slice 1 l25]) ∧
      I 88 [V.agg [Cell.str s0, Cell.int IntKind.i64 n1, Cell.int IntKind.i64 n2, Cell.int IntKind.i64 n3, Cell.slice 1 l4, Cell.int IntKind.i64 n5, Cell.int IntKind.i64 n6, Cell.str s7, Cell.bool b8, Cell.int IntKind.i64 n9, Cell.int IntKind.i64 n10, Cell.int IntKind.i64 n11], V.agg [Cell.str s22, Cell.int IntKind.i64 n23, Cell.int IntKind.i64 n24, Cell.slice 1 l25]]
        (fun cs26 => fun h27 => 
        ∃ b28 : Bool, (cs26 = [V.one (Cell.bool b28)]) ∧
        (ifT b28
          (x15 ((IntKind.i64.wrap (n16 + IntKind.i64.wrap (n23 * n24)), IntKind.i64.wrap (n17 + 1))))
          (x15 ((n16, IntKind.i64.wrap (n17 + 1))))) h27) h21)) h18)
      (joinK (A := Bool)
        (fun b29 => ifT (decide (n14 < n10))
          (Q [V.one (Cell.int IntKind.i64 1)])
          (ifT (decide (n14 ≥ n11))
            (Q [V.one (Cell.int IntKind.i64 2)])
            (ifT b29
              (Q [V.one (Cell.int IntKind.i64 3)])
              (ifT (decide (n16 < n5))
                (Q [V.one (Cell.int IntKind.i64 4)])
                (Q [V.one (Cell.int IntKind.i64 0)])))))
        (fun x30 => ifT (decide (n1 = 4))
          (x30 (decide (n13 = 0)))
          (x30 (decide (n16 = 0))))))
theorem den43 (I : FuncId → List V → Post → T) (s0 : ByteArray) (n1 : Int) (n2 : Int) (n3 : Int) (l4 : Sl) (n5 : Int) (n6 : Int) (s7 : ByteArray) (b8 : Bool) (n9 : Int) (n10 : Int) (n11 : Int) (l12 : Sl) (n13 : Int) (n14 : Int) (Q : Post) : denF Go.Proofs.Tryd.prog 536 (⟨[(125, 120259085312, [(10, tk Go.Proofs.Tryd.prog 4)])], [(58, 536855168, [(7, tk Go.Proofs.Tryd.prog 3), (14, tk Go.Proofs.Tryd.prog 3)])]⟩) I 43 [V.agg [Cell.str s0, Cell.int IntKind.i64 n1, Cell.int IntKind.i64 n2, Cell.int IntKind.i64 n3, Cell.slice 1 l4, Cell.int IntKind.i64 n5, Cell.int IntKind.i64 n6, Cell.str s7, Cell.bool b8, Cell.int IntKind.i64 n9, Cell.int IntKind.i64 n10, Cell.int IntKind.i64 n11], V.agg [Cell.slice 4 l12, Cell.int IntKind.i64 n13], V.one (Cell.int IntKind.i64 n14)] Q = vc43 I s0 n1 n2 n3 l4 n5 n6 s7 b8 n9 n10 n11 l12 n13 n14 Q := by kernel_rfl
/-- handbill/handref1.matches -/
def vc88 (I : FuncId → List V → Post → T) (s0 : ByteArray) (n1 : Int) (n2 : Int) (n3 : Int) (l4 : Sl) (n5 : Int) (n6 : Int) (s7 : ByteArray) (b8 : Bool) (n9 : Int) (n10 : Int) (n11 : Int) (s12 : ByteArray) (n13 : Int) (n14 : Int) (l15 : Sl) (Q : Post) : T :=
  fun h16 =>
  (newK (YtfemminjhecocaaDoorVc.Obj.cells false [Cell.str s12, Cell.int IntKind.i64 n13, Cell.int IntKind.i64 n14, Cell.slice 1 l15]) (fun i17 => ifT (decide ((↑l4.len : Int) = 0))
    (Q [V.one (Cell.bool true)])
    (fun h18 =>
    I 89 [V.one (Cell.slice 1 l4), V.one (Cell.func (some (122, [(i17, 0)])))]
      (fun cs19 => fun h20 => 
      ∃ b21 : Bool, (cs19 = [V.one (Cell.bool b21)]) ∧
      Q [V.one (Cell.bool b21)] h20) h18))) h16
theorem den88 (I : FuncId → List V → Post → T) (s0 : ByteArray) (n1 : Int) (n2 : Int) (n3 : Int) (l4 : Sl) (n5 : Int) (n6 : Int) (s7 : ByteArray) (b8 : Bool) (n9 : Int) (n10 : Int) (n11 : Int) (s12 : ByteArray) (n13 : Int) (n14 : Int) (l15 : Sl) (Q : Post) : denF Go.Proofs.Tryd.prog 4 (⟨[], []⟩) I 88 [V.agg [Cell.str s0, Cell.int IntKind.i64 n1, Cell.int IntKind.i64 n2, Cell.int IntKind.i64 n3, Cell.slice 1 l4, Cell.int IntKind.i64 n5, Cell.int IntKind.i64 n6, Cell.str s7, Cell.bool b8, Cell.int IntKind.i64 n9, Cell.int IntKind.i64 n10, Cell.int IntKind.i64 n11], V.agg [Cell.str s12, Cell.int IntKind.i64 n13, Cell.int IntKind.i64 n14, Cell.slice 1 l15]] Q = vc88 I s0 n1 n2 n3 l4 n5 n6 s7 b8 n9 n10 n11 s12 n13 n14 l15 Q := by kernel_rfl
/-- handbill/handref1.matches$1 -/
def vc122 (I : FuncId → List V → Post → T) (s0 : ByteArray) (i1 : Nat) (i2 : Nat) (Q : Post) : T :=
  fun h3 =>
  ∃ l4 : Sl, (h3.read i1 (i2 + 3) 1 = some [Cell.slice 1 l4]) ∧
  I 123 [V.one (Cell.slice 1 l4), V.one (Cell.str s0)]
    (fun cs5 => fun h6 => 
    ∃ b7 : Bool, (cs5 = [V.one (Cell.bool b7)]) ∧
    Q [V.one (Cell.bool b7)] h6) h3
theorem den122 (I : FuncId → List V → Post → T) (s0 : ByteArray) (i1 : Nat) (i2 : Nat) (Q : Post) : denF Go.Proofs.Tryd.prog 0 (⟨[], []⟩) I 122 [V.one (Cell.str s0), V.one (Cell.ptr (some (i1, i2)))] Q = vc122 I s0 i1 i2 Q := by kernel_rfl
end Go.Proofs.YtfemminjhecocaaDoorVc
