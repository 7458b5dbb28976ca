/- Formulas of the functions that BasketsPriced reaches. -/
import Derived.Test.YtfemminjhecocaaGreatDoorVcOwns
import Derived.Test.YtfemminjhecocaaGreatDoorVcBits
import Derived.Test.YtfemminjhecocaaGreatDoorVcCodeStr
import Derived.Test.YtfemminjhecocaaGreatDoorVcLen8
import Derived.Test.YtfemminjhecocaaGreatDoorProg
set_option linter.unusedVariables false
set_option maxRecDepth 100000
namespace Go.Proofs.YtfemminjhecocaaGreatDoorVc
open Go.Proofs.YtfemminjhecocaaGreatDoorCodes
/-- handbill/handlaw1.BasketsPriced -/
def vc3 (I : FuncId → List V → Post → T) (l0 : Sl) (Q : Post) : T :=
  fun h1 =>
  (newK (.cells false [Cell.slice 1 l0, Cell.int IntKind.i64 0]) (fun i2 => fun h3 => 
  I 8 [V.one (Cell.ptr (some (i2, 0))), V.one (Cell.int IntKind.i64 4)]
    (fun cs4 => fun h5 => 
    ∃ l6 : Sl, (cs4 = [V.one (Cell.slice 12 l6)]) ∧
    I 9 [V.one (Cell.ptr (some (i2, 0)))]
      (fun cs7 => fun h8 => 
      ∃ l9 : Sl, ∃ n10 : Int, (cs7 = [V.agg [Cell.slice 4 l9, Cell.int IntKind.i64 n10]]) ∧
      I 10 [V.one (Cell.ptr (some (i2, 0)))]
        (fun cs11 => fun h12 => 
        ∃ n13 : Int, (cs11 = [V.one (Cell.int IntKind.i64 n13)]) ∧
        (newK (.cells false [Cell.slice 4 { a := none, len := 0 }, Cell.int IntKind.i64 0]) (fun i14 => fun h15 => 
        (newK (.cells false [Cell.int IntKind.i64 0]) (fun i16 => fun h17 => 
        (storeK [] i14 0 [Cell.slice 4 l9, Cell.int IntKind.i64 n10] (fun h18 =>
        (storeK [] i16 0 [Cell.int IntKind.i64 n13] (fun h19 =>
        I 11 [V.one (Cell.ptr (some (i2, 0))), V.one (Cell.int IntKind.i64 2)]
          (fun cs20 => fun h21 => 
          ∃ b22 : Bool, (cs20 = [V.one (Cell.bool b22)]) ∧
          (joinK (A := Sl)
            (fun l23 => fun h24 =>
            ∃ l25 : Sl, ∃ n26 : Int, (h24.read i14 0 2 = some [Cell.slice 4 l25, Cell.int IntKind.i64 n26]) ∧
            ∃ n27 : Int, (h24.read i16 0 1 = some [Cell.int IntKind.i64 n27]) ∧
            I 16 [V.one (Cell.slice 12 l23), V.agg [Cell.slice 4 l25, Cell.int IntKind.i64 n26], V.one (Cell.int IntKind.i64 n27)]
              (fun cs28 => fun h29 => 
              ∃ l30 : Sl, ∃ n31 : Int, ∃ l32 : Sl, ∃ n33 : Int, ∃ n34 : Int, (cs28 = [V.agg [Cell.slice 1 l30, Cell.int IntKind.i64 n31, Cell.slice 2 l32, Cell.int IntKind.i64 n33], V.one (Cell.int IntKind.i64 n34)]) ∧
              ∃ l35 : Sl, ∃ n36 : Int, (h29.read i14 0 2 = some [Cell.slice 4 l35, Cell.int IntKind.i64 n36]) ∧
              ∃ n37 : Int, (h29.read i16 0 1 = some [Cell.int IntKind.i64 n37]) ∧
              I 17 [V.one (Cell.slice 12 l23), V.agg [Cell.slice 4 l35, Cell.int IntKind.i64 n36], V.one (Cell.int IntKind.i64 n37)]
                (fun cs38 => fun h39 => 
                ∃ l40 : Sl, ∃ n41 : Int, ∃ l42 : Sl, ∃ n43 : Int, ∃ n44 : Int, (cs38 = [V.agg [Cell.slice 1 l40, Cell.int IntKind.i64 n41, Cell.slice 2 l42, Cell.int IntKind.i64 n43], V.one (Cell.int IntKind.i64 n44)]) ∧
                I 18 []
                  (fun cs45 => fun h46 => 
                  ∃ b47 : Bool, (cs45 = [V.one (Cell.bool b47)]) ∧
                  (ifT b47
                    (ifT (decide (n34 = n44))
                      (fun h48 =>
                      I 19 [V.agg [Cell.slice 1 l30, Cell.int IntKind.i64 n31, Cell.slice 2 l32, Cell.int IntKind.i64 n33], V.agg [Cell.slice 1 l40, Cell.int IntKind.i64 n41, Cell.slice 2 l42, Cell.int IntKind.i64 n43]]
                        (fun cs49 => fun h50 => 
                        ∃ b51 : Bool, (cs49 = [V.one (Cell.bool b51)]) ∧
                        Q [V.one (Cell.bool b51)] h50) h48)
                      (Q [V.one (Cell.bool false)]))
                    (Q [V.one (Cell.bool false)])) h46) h39) h29) h24)
            (fun x52 => ifT b22
              (fun h53 =>
              I 12 [V.one (Cell.slice 12 l6), V.one (Cell.func (some (13, [(i16, 0), (i14, 0)])))]
                (fun cs54 => fun h55 => 
                ∃ l56 : Sl, (cs54 = [V.one (Cell.slice 12 l56)]) ∧
                (loopK (A := Int) 0
                  (fun x57 => fun n58 => ifT (decide (n58 < (↑l56.len : Int)))
                    (fun h59 =>
                    ((0 ≤ n58) ∧
                    n58 < (↑l56.len : Int)) ∧
                    (derefK l56.a (fun i60 => fun i61 => fun h62 =>
                    (storeK [] i60 (i61 + n58.toNat * 12 + 7) [Cell.str { data := #[] }] (fun h63 =>
                    ((0 ≤ n58) ∧
                    n58 < (↑l56.len : Int)) ∧
                    (derefK l56.a (fun i64 => fun i65 => fun h66 =>
                    (storeK [] i64 (i65 + n58.toNat * 12 + 8) [Cell.bool false] (x57 (IntKind.i64.wrap (n58 + 1)))) h66)) h63)) h62)) h59)
                    (x52 l56))) h55) h53)
              (x52 l6))) h21) h19)) h18)) h17)) h15)) h12) h8) h5) h3)) h1
theorem den3 (I : FuncId → List V → Post → T) (l0 : Sl) (Q : Post) : denF Go.Proofs.Tryz.prog 1280 (⟨[(61, 1099503239312, [(4, tk Go.Proofs.Tryz.prog 26)])], [(982, 1099243192448, [(28, tk Go.Proofs.Tryz.prog 3)])]⟩) I 3 [V.one (Cell.slice 1 l0)] Q = vc3 I l0 Q := by kernel_rfl
/-- (*handbill/handmake.Stream).Offers -/
def vc8 (I : FuncId → List V → Post → T) (p0 : Option (Nat × Nat)) (n1 : Int) (Q : Post) : T :=
  fun h2 =>
  I 43 [V.one (Cell.ptr p0), V.one (Cell.int IntKind.i64 (IntKind.i64.wrap (n1 + 1)))]
    (fun cs3 => fun h4 => 
    ∃ n5 : Int, (cs3 = [V.one (Cell.int IntKind.i64 n5)]) ∧
    (loopK (A := Sl × Int) (({ a := none, len := 0 }, 0))
      (fun x6 => uncur fun l7 n8 => ifT (decide (n8 < n5))
        (fun h9 =>
        (1 + (Utf8.encode (IntKind.i32.wrap (IntKind.i64.wrap (97 + n8)))).size ≤ 9223372036854775807) ∧
        I 44 [V.one (Cell.ptr p0), V.one (Cell.str ({ data := #[111] } ++ Utf8.encode (IntKind.i32.wrap (IntKind.i64.wrap (97 + n8)))))]
          (fun cs10 => fun h11 => 
          ∃ s12 : ByteArray, ∃ n13 : Int, ∃ n14 : Int, ∃ n15 : Int, ∃ l16 : Sl, ∃ n17 : Int, ∃ n18 : Int, ∃ s19 : ByteArray, ∃ b20 : Bool, ∃ n21 : Int, ∃ n22 : Int, ∃ n23 : Int, (cs10 = [V.agg [Cell.str s12, Cell.int IntKind.i64 n13, Cell.int IntKind.i64 n14, Cell.int IntKind.i64 n15, Cell.slice 1 l16, Cell.int IntKind.i64 n17, Cell.int IntKind.i64 n18, Cell.str s19, Cell.bool b20, Cell.int IntKind.i64 n21, Cell.int IntKind.i64 n22, Cell.int IntKind.i64 n23]]) ∧
          (appendTo [] 12 128 l7 1 [Cell.str s12, Cell.int IntKind.i64 n13, Cell.int IntKind.i64 n14, Cell.int IntKind.i64 n15, Cell.slice 1 l16, Cell.int IntKind.i64 n17, Cell.int IntKind.i64 n18, Cell.str s19, Cell.bool b20, Cell.int IntKind.i64 n21, Cell.int IntKind.i64 n22, Cell.int IntKind.i64 n23] (fun l24 => fun h25 => 
          x6 ((l24, IntKind.i64.wrap (n8 + 1))) h25)) h11) h9)
        (joinK (A := Bool)
          (fun b26 => ifT b26
            (fun h27 =>
            I 43 [V.one (Cell.ptr p0), V.one (Cell.int IntKind.i64 (↑l7.len : Int))]
              (fun cs28 => fun h29 => 
              ∃ n30 : Int, (cs28 = [V.one (Cell.int IntKind.i64 n30)]) ∧
              ((0 ≤ n30) ∧
              n30 < (↑l7.len : Int)) ∧
              (derefK l7.a (fun i31 => fun i32 => fun h33 => 
              I 43 [V.one (Cell.ptr p0), V.one (Cell.int IntKind.i64 9)]
                (fun cs34 => fun h35 => 
                ∃ n36 : Int, (cs34 = [V.one (Cell.int IntKind.i64 n36)]) ∧
                (ifT (decide (n36 = 0))
                  (fun h37 =>
                  (newK (.cells false [Cell.str { data := #[] }, Cell.str { data := #[111, 97] }, Cell.str { data := #[79] }]) (fun i38 => fun h39 =>
                  I 45 [V.one (Cell.ptr p0), V.one (Cell.slice 1 { a := some (i38, 0), len := 3 })]
                    (fun cs40 => fun h41 => 
                    ∃ s42 : ByteArray, (cs40 = [V.one (Cell.str s42)]) ∧
                    (storeK [] i31 (i32 + n30.toNat * 12 + 0) [Cell.str s42] (Q [V.one (Cell.slice 12 l7)])) h41) h39)) h37)
                  (ifT (decide (n36 = 1))
                    (fun h43 =>
                    I 26 [V.one (Cell.ptr p0), V.one (Cell.int IntKind.i64 0), V.one (Cell.int IntKind.i64 5)]
                      (fun cs44 => fun h45 => 
                      ∃ n46 : Int, (cs44 = [V.one (Cell.int IntKind.i64 n46)]) ∧
                      (storeK [] i31 (i32 + n30.toNat * 12 + 1) [Cell.int IntKind.i64 n46] (Q [V.one (Cell.slice 12 l7)])) h45) h43)
                    (ifT (decide (n36 = 2))
                      (fun h47 =>
                      (newK (.cells false [Cell.int IntKind.i64 0, Cell.int IntKind.i64 101, Cell.int IntKind.i64 21, Cell.int IntKind.i64 1000000000001, Cell.int IntKind.i64 (-1)]) (fun i48 => fun h49 =>
                      I 20 [V.one (Cell.ptr p0), V.one (Cell.slice 1 { a := some (i48, 0), len := 5 })]
                        (fun cs50 => fun h51 => 
                        ∃ n52 : Int, (cs50 = [V.one (Cell.int IntKind.i64 n52)]) ∧
                        (storeK [] i31 (i32 + n30.toNat * 12 + 2) [Cell.int IntKind.i64 n52] (Q [V.one (Cell.slice 12 l7)])) h51) h49)) h47)
                      (ifT (decide (n36 = 3))
                        (fun h53 =>
                        (newK (.cells false [Cell.int IntKind.i64 0, Cell.int IntKind.i64 1, Cell.int IntKind.i64 21, Cell.int IntKind.i64 (-1)]) (fun i54 => fun h55 =>
                        I 20 [V.one (Cell.ptr p0), V.one (Cell.slice 1 { a := some (i54, 0), len := 4 })]
                          (fun cs56 => fun h57 => 
                          ∃ n58 : Int, (cs56 = [V.one (Cell.int IntKind.i64 n58)]) ∧
                          (storeK [] i31 (i32 + n30.toNat * 12 + 3) [Cell.int IntKind.i64 n58] (Q [V.one (Cell.slice 12 l7)])) h57) h55)) h53)
                        (ifT (decide (n36 = 4))
                          (fun h59 =>
                          (newK (.cells false [Cell.int IntKind.i64 (-1), Cell.int IntKind.i64 0, Cell.int IntKind.i64 1000000000001]) (fun i60 => fun h61 =>
                          I 20 [V.one (Cell.ptr p0), V.one (Cell.slice 1 { a := some (i60, 0), len := 3 })]
                            (fun cs62 => fun h63 => 
                            ∃ n64 : Int, (cs62 = [V.one (Cell.int IntKind.i64 n64)]) ∧
                            (newK (.cells false [Cell.int IntKind.i64 (-1), Cell.int IntKind.i64 0]) (fun i65 => fun h66 =>
                            I 20 [V.one (Cell.ptr p0), V.one (Cell.slice 1 { a := some (i65, 0), len := 2 })]
                              (fun cs67 => fun h68 => 
                              ∃ n69 : Int, (cs67 = [V.one (Cell.int IntKind.i64 n69)]) ∧
                              (storeK [] i31 (i32 + n30.toNat * 12 + 5) [Cell.int IntKind.i64 n64] (fun h70 =>
                              (storeK [] i31 (i32 + n30.toNat * 12 + 6) [Cell.int IntKind.i64 n69] (Q [V.one (Cell.slice 12 l7)])) h70)) h68) h66)) h63) h61)) h59)
                          (ifT (decide (n36 = 5))
                            (fun h71 =>
                            (newK (.cells false [Cell.int IntKind.i64 (-1), Cell.int IntKind.i64 4321440, Cell.int IntKind.i64 5]) (fun i72 => fun h73 =>
                            I 20 [V.one (Cell.ptr p0), V.one (Cell.slice 1 { a := some (i72, 0), len := 3 })]
                              (fun cs74 => fun h75 => 
                              ∃ n76 : Int, (cs74 = [V.one (Cell.int IntKind.i64 n76)]) ∧
                              (newK (.cells false [Cell.int IntKind.i64 5, Cell.int IntKind.i64 6, Cell.int IntKind.i64 4321441]) (fun i77 => fun h78 =>
                              I 20 [V.one (Cell.ptr p0), V.one (Cell.slice 1 { a := some (i77, 0), len := 3 })]
                                (fun cs79 => fun h80 => 
                                ∃ n81 : Int, (cs79 = [V.one (Cell.int IntKind.i64 n81)]) ∧
                                (storeK [] i31 (i32 + n30.toNat * 12 + 10) [Cell.int IntKind.i64 n76] (fun h82 =>
                                (storeK [] i31 (i32 + n30.toNat * 12 + 11) [Cell.int IntKind.i64 n81] (Q [V.one (Cell.slice 12 l7)])) h82)) h80) h78)) h75) h73)) h71)
                            (ifT (decide (n36 = 6))
                              (fun h83 =>
                              (newK (.cells false [Cell.str { data := #[71] }, Cell.str { data := #[103, 49] }]) (fun i84 => fun h85 =>
                              I 45 [V.one (Cell.ptr p0), V.one (Cell.slice 1 { a := some (i84, 0), len := 2 })]
                                (fun cs86 => fun h87 => 
                                ∃ s88 : ByteArray, (cs86 = [V.one (Cell.str s88)]) ∧
                                (storeK [] i31 (i32 + n30.toNat * 12 + 7) [Cell.str s88] (Q [V.one (Cell.slice 12 l7)])) h87) h85)) h83)
                              (ifT (decide (n36 = 7))
                                (fun h89 =>
                                (newK (.cells false [Cell.str { data := #[72, 97, 116] }]) (fun i90 => fun h91 => 
                                (newK (.cells false [Cell.str { data := #[104, 97, 116] }, Cell.str { data := #[99, 97, 112] }]) (fun i92 => fun h93 => 
                                (newK (.cells false [Cell.str { data := #[97] }, Cell.str { data := #[98] }, Cell.str { data := #[99] }, Cell.str { data := #[100] }, Cell.str { data := #[101] }, Cell.str { data := #[102] }, Cell.str { data := #[103] }, Cell.str { data := #[104] }, Cell.str { data := #[105] }, Cell.str { data := #[106] }, Cell.str { data := #[107] }]) (fun i94 => fun h95 => 
                                (newK (.cells false [Cell.slice 1 { a := some (i90, 0), len := 1 }, Cell.slice 1 { a := some (i92, 0), len := 2 }, Cell.slice 1 { a := some (i94, 0), len := 11 }]) (fun i96 => fun h97 => 
                                I 43 [V.one (Cell.ptr p0), V.one (Cell.int IntKind.i64 3)]
                                  (fun cs98 => fun h99 => 
                                  ∃ n100 : Int, (cs98 = [V.one (Cell.int IntKind.i64 n100)]) ∧
                                  ((0 ≤ n100) ∧
                                  n100 < (↑3 : Int)) ∧
                                  ∃ l101 : Sl, (h99.read i96 (0 + n100.toNat * 1) 1 = some [Cell.slice 1 l101]) ∧
                                  (storeK [] i31 (i32 + n30.toNat * 12 + 4) [Cell.slice 1 l101] (Q [V.one (Cell.slice 12 l7)])) h99) h97)) h95)) h93)) h91)) h89)
                                (fun h102 =>
                                (newK (.cells false [Cell.int IntKind.i64 (-1), Cell.int IntKind.i64 1001]) (fun i103 => fun h104 =>
                                I 20 [V.one (Cell.ptr p0), V.one (Cell.slice 1 { a := some (i103, 0), len := 2 })]
                                  (fun cs105 => fun h106 => 
                                  ∃ n107 : Int, (cs105 = [V.one (Cell.int IntKind.i64 n107)]) ∧
                                  (storeK [] i31 (i32 + n30.toNat * 12 + 9) [Cell.int IntKind.i64 n107] (Q [V.one (Cell.slice 12 l7)])) h106) h104)) h102))))))))) h35) h33)) h29) h27)
            (Q [V.one (Cell.slice 12 l7)]))
          (fun x108 => fun h109 => 
          I 11 [V.one (Cell.ptr p0), V.one (Cell.int IntKind.i64 10)]
            (fun cs110 => fun h111 => 
            ∃ b112 : Bool, (cs110 = [V.one (Cell.bool b112)]) ∧
            (ifT b112
              (x108 (decide ((↑l7.len : Int) > 0)))
              (x108 false)) h111) h109)))) h4) h2
theorem den8 (I : FuncId → List V → Post → T) (p0 : Option (Nat × Nat)) (n1 : Int) (Q : Post) : denF Go.Proofs.Tryz.prog 0 (⟨[(60, 8522825728, [(32, tk Go.Proofs.Tryz.prog 4)])], [(58, 67104864, [(5, tk Go.Proofs.Tryz.prog 26), (12, tk Go.Proofs.Tryz.prog 3)])]⟩) I 8 [V.one (Cell.ptr p0), V.one (Cell.int IntKind.i64 n1)] Q = vc8 I p0 n1 Q := by kernel_rfl
/-- (*handbill/handmake.Stream).Flip -/
def vc11 (I : FuncId → List V → Post → T) (p0 : Option (Nat × Nat)) (n1 : Int) (Q : Post) : T :=
  fun h2 =>
  I 43 [V.one (Cell.ptr p0), V.one (Cell.int IntKind.i64 n1)]
    (fun cs3 => fun h4 => 
    ∃ n5 : Int, (cs3 = [V.one (Cell.int IntKind.i64 n5)]) ∧
    Q [V.one (Cell.bool (decide (n5 = 0)))] h4) h2
theorem den11 (I : FuncId → List V → Post → T) (p0 : Option (Nat × Nat)) (n1 : Int) (Q : Post) : denF Go.Proofs.Tryz.prog 0 (⟨[], []⟩) I 11 [V.one (Cell.ptr p0), V.one (Cell.int IntKind.i64 n1)] Q = vc11 I p0 n1 Q := by kernel_rfl
/-- (*handbill/handmake.Stream).Next -/
def vc43 (I : FuncId → List V → Post → T) (p0 : Option (Nat × Nat)) (n1 : Int) (Q : Post) : T :=
  derefK p0 (fun i2 => fun i3 => fun h4 =>
  ∃ n5 : Int, (h4.read i2 (i3 + 1) 1 = some [Cell.int IntKind.i64 n5]) ∧
  (derefK p0 (fun i6 => fun i7 => fun h8 =>
  (storeK [] i6 (i7 + 1) [Cell.int IntKind.i64 (IntKind.i64.wrap (n5 + 1))] (derefK p0 (fun i9 => fun i10 => fun h11 =>
  ∃ l12 : Sl, (h11.read i9 (i10 + 0) 1 = some [Cell.slice 1 l12]) ∧
  (ifT (decide ((↑l12.len : Int) = 0))
    (derefK p0 (fun i13 => fun i14 => fun h15 =>
    ∃ n16 : Int, (h15.read i13 (i14 + 1) 1 = some [Cell.int IntKind.i64 n16]) ∧
    I 103 [V.one (Cell.int IntKind.i64 (IntKind.i64.wrap (n16 * 7919))), V.one (Cell.int IntKind.i64 n1)]
      (fun cs17 => fun h18 => 
      ∃ n19 : Int, (cs17 = [V.one (Cell.int IntKind.i64 n19)]) ∧
      Q [V.one (Cell.int IntKind.i64 n19)] h18) h15))
    (derefK p0 (fun i20 => fun i21 => fun h22 =>
    ∃ n23 : Int, (h22.read i20 (i21 + 1) 1 = some [Cell.int IntKind.i64 n23]) ∧
    (derefK p0 (fun i24 => fun i25 => fun h26 =>
    ∃ l27 : Sl, (h26.read i24 (i25 + 0) 1 = some [Cell.slice 1 l27]) ∧
    ((↑l27.len : Int) ≠ 0) ∧
    (derefK p0 (fun i28 => fun i29 => fun h30 =>
    ∃ n31 : Int, (h30.read i28 (i29 + 1) 1 = some [Cell.int IntKind.i64 n31]) ∧
    (derefK p0 (fun i32 => fun i33 => fun h34 =>
    ∃ l35 : Sl, (h34.read i32 (i33 + 0) 1 = some [Cell.slice 1 l35]) ∧
    ((↑l35.len : Int) ≠ 0) ∧
    (derefK p0 (fun i36 => fun i37 => fun h38 =>
    ∃ l39 : Sl, (h38.read i36 (i37 + 0) 1 = some [Cell.slice 1 l39]) ∧
    ((0 ≤ (IntKind.i64.wrap (n23 - 1)).tmod (↑l27.len : Int)) ∧
    (IntKind.i64.wrap (n23 - 1)).tmod (↑l27.len : Int) < (↑l39.len : Int)) ∧
    (derefK l39.a (fun i40 => fun i41 => fun h42 =>
    ∃ n43 : Int, (h42.read i40 (i41 + ((IntKind.i64.wrap (n23 - 1)).tmod (↑l27.len : Int)).toNat * 1) 1 = some [Cell.int IntKind.i64 n43]) ∧
    I 103 [V.one (Cell.int IntKind.i64 n43), V.one (Cell.int IntKind.i64 1073741824)]
      (fun cs44 => fun h45 => 
      ∃ n46 : Int, (cs44 = [V.one (Cell.int IntKind.i64 n46)]) ∧
      I 103 [V.one (Cell.int IntKind.i64 (IntKind.i64.wrap (n46 + IntKind.i64.wrap (IntKind.i64.wrap ((IntKind.i64.wrap (n31 - 1)).tdiv (↑l35.len : Int)) * IntKind.i64.wrap (7919 + (IntKind.i64.wrap (n23 - 1)).tmod (↑l27.len : Int)))))), V.one (Cell.int IntKind.i64 n1)]
        (fun cs47 => fun h48 => 
        ∃ n49 : Int, (cs47 = [V.one (Cell.int IntKind.i64 n49)]) ∧
        Q [V.one (Cell.int IntKind.i64 n49)] h48) h45) h42)) h38)) h34)) h30)) h26)) h22))) h11))) h8)) h4)
theorem den43 (I : FuncId → List V → Post → T) (p0 : Option (Nat × Nat)) (n1 : Int) (Q : Post) : denF Go.Proofs.Tryz.prog 0 (⟨[], []⟩) I 43 [V.one (Cell.ptr p0), V.one (Cell.int IntKind.i64 n1)] Q = vc43 I p0 n1 Q := by kernel_rfl
/-- handbill/handmake.Below -/
def vc103 (I : FuncId → List V → Post → T) (n0 : Int) (n1 : Int) (Q : Post) : T :=
  ifT (decide (n1 < 1))
    (Q [V.one (Cell.int IntKind.i64 0)])
    (fun h2 =>
    (n1 ≠ 0) ∧
    (ifT (decide (n0.tmod n1 < 0))
      (Q [V.one (Cell.int IntKind.i64 (IntKind.i64.wrap (n0.tmod n1 + n1)))])
      (Q [V.one (Cell.int IntKind.i64 (n0.tmod n1))])) h2)
theorem den103 (I : FuncId → List V → Post → T) (n0 : Int) (n1 : Int) (Q : Post) : denF Go.Proofs.Tryz.prog 0 (⟨[], []⟩) I 103 [V.one (Cell.int IntKind.i64 n0), V.one (Cell.int IntKind.i64 n1)] Q = vc103 I n0 n1 Q := by kernel_rfl
/-- (*handbill/handmake.Stream).Pick -/
def vc20 (I : FuncId → List V → Post → T) (p0 : Option (Nat × Nat)) (l1 : Sl) (Q : Post) : T :=
  fun h2 =>
  I 43 [V.one (Cell.ptr p0), V.one (Cell.int IntKind.i64 (↑l1.len : Int))]
    (fun cs3 => fun h4 => 
    ∃ n5 : Int, (cs3 = [V.one (Cell.int IntKind.i64 n5)]) ∧
    ((0 ≤ n5) ∧
    n5 < (↑l1.len : Int)) ∧
    (derefK l1.a (fun i6 => fun i7 => fun h8 =>
    ∃ n9 : Int, (h8.read i6 (i7 + n5.toNat * 1) 1 = some [Cell.int IntKind.i64 n9]) ∧
    Q [V.one (Cell.int IntKind.i64 n9)] h8)) h4) h2
theorem den20 (I : FuncId → List V → Post → T) (p0 : Option (Nat × Nat)) (l1 : Sl) (Q : Post) : denF Go.Proofs.Tryz.prog 0 (⟨[], []⟩) I 20 [V.one (Cell.ptr p0), V.one (Cell.slice 1 l1)] Q = vc20 I p0 l1 Q := by kernel_rfl
/-- (*handbill/handmake.Stream).Range -/
def vc26 (I : FuncId → List V → Post → T) (p0 : Option (Nat × Nat)) (n1 : Int) (n2 : Int) (Q : Post) : T :=
  ifT (decide (n2 < n1))
    (Q [V.one (Cell.int IntKind.i64 n1)])
    (fun h3 =>
    I 43 [V.one (Cell.ptr p0), V.one (Cell.int IntKind.i64 (IntKind.i64.wrap (IntKind.i64.wrap (n2 - n1) + 1)))]
      (fun cs4 => fun h5 => 
      ∃ n6 : Int, (cs4 = [V.one (Cell.int IntKind.i64 n6)]) ∧
      Q [V.one (Cell.int IntKind.i64 (IntKind.i64.wrap (n1 + n6)))] h5) h3)
theorem den26 (I : FuncId → List V → Post → T) (p0 : Option (Nat × Nat)) (n1 : Int) (n2 : Int) (Q : Post) : denF Go.Proofs.Tryz.prog 0 (⟨[], []⟩) I 26 [V.one (Cell.ptr p0), V.one (Cell.int IntKind.i64 n1), V.one (Cell.int IntKind.i64 n2)] Q = vc26 I p0 n1 n2 Q := by kernel_rfl
/-- (*handbill/handmake.Stream).Offer -/
def vc44 (I : FuncId → List V → Post → T) (p0 : Option (Nat × Nat)) (s1 : ByteArray) (Q : Post) : T :=
  fun h2 =>
  I 26 [V.one (Cell.ptr p0), V.one (Cell.int IntKind.i64 1), V.one (Cell.int IntKind.i64 4)]
    (fun cs3 => fun h4 => 
    ∃ n5 : Int, (cs3 = [V.one (Cell.int IntKind.i64 n5)]) ∧
    (newK (.cells false [Cell.int IntKind.i64 0, Cell.int IntKind.i64 0, Cell.int IntKind.i64 1, Cell.int IntKind.i64 2]) (fun i6 => fun h7 =>
    I 20 [V.one (Cell.ptr p0), V.one (Cell.slice 1 { a := some (i6, 0), len := 4 })]
      (fun cs8 => fun h9 => 
      ∃ n10 : Int, (cs8 = [V.one (Cell.int IntKind.i64 n10)]) ∧
      (newK (.cells false [Cell.int IntKind.i64 0, Cell.int IntKind.i64 0, Cell.int IntKind.i64 0, Cell.int IntKind.i64 60]) (fun i11 => fun h12 =>
      I 20 [V.one (Cell.ptr p0), V.one (Cell.slice 1 { a := some (i11, 0), len := 4 })]
        (fun cs13 => fun h14 => 
        ∃ n15 : Int, (cs13 = [V.one (Cell.int IntKind.i64 n15)]) ∧
        (newK (.cells false [Cell.int IntKind.i64 50, Cell.int IntKind.i64 100, Cell.int IntKind.i64 4321440, Cell.int IntKind.i64 4321440]) (fun i16 => fun h17 =>
        I 20 [V.one (Cell.ptr p0), V.one (Cell.slice 1 { a := some (i16, 0), len := 4 })]
          (fun cs18 => fun h19 => 
          ∃ n20 : Int, (cs18 = [V.one (Cell.int IntKind.i64 n20)]) ∧
          (joinK (A := ByteArray × Int × Int × Int × Sl × Int × Int × ByteArray × Bool × Int × Int × Int × PUnit)
            (uncur fun s21 => uncur fun n22 => uncur fun n23 => uncur fun n24 => uncur fun l25 => uncur fun n26 => uncur fun n27 => uncur fun s28 => uncur fun b29 => uncur fun n30 => uncur fun n31 => uncur fun n32 x33 => joinK (A := Bool)
              (fun b34 => joinK (A := ByteArray × Int × Int × Int × Sl × Int × Int × ByteArray × Bool × Int × Int × Int × PUnit)
                (uncur fun s35 => uncur fun n36 => uncur fun n37 => uncur fun n38 => uncur fun l39 => uncur fun n40 => uncur fun n41 => uncur fun s42 => uncur fun b43 => uncur fun n44 => uncur fun n45 => uncur fun n46 x47 => fun h48 => 
                (newK (.cells false [Cell.int IntKind.i64 0, Cell.int IntKind.i64 0, Cell.int IntKind.i64 0, Cell.int IntKind.i64 500, Cell.int IntKind.i64 3000]) (fun i49 => fun h50 =>
                I 20 [V.one (Cell.ptr p0), V.one (Cell.slice 1 { a := some (i49, 0), len := 5 })]
                  (fun cs51 => fun h52 => 
                  ∃ n53 : Int, (cs51 = [V.one (Cell.int IntKind.i64 n53)]) ∧
                  (newK (.cells false [Cell.int IntKind.i64 0, Cell.int IntKind.i64 0, Cell.int IntKind.i64 0, Cell.int IntKind.i64 100, Cell.int IntKind.i64 333]) (fun i54 => fun h55 =>
                  I 20 [V.one (Cell.ptr p0), V.one (Cell.slice 1 { a := some (i54, 0), len := 5 })]
                    (fun cs56 => fun h57 => 
                    ∃ n58 : Int, (cs56 = [V.one (Cell.int IntKind.i64 n58)]) ∧
                    I 11 [V.one (Cell.ptr p0), V.one (Cell.int IntKind.i64 4)]
                      (fun cs59 => fun h60 => 
                      ∃ b61 : Bool, (cs59 = [V.one (Cell.bool b61)]) ∧
                      (joinK (A := ByteArray × Int × Int × Int × Sl × Int × Int × ByteArray × Bool × Int × Int × Int × PUnit)
                        (uncur fun s62 => uncur fun n63 => uncur fun n64 => uncur fun n65 => uncur fun l66 => uncur fun n67 => uncur fun n68 => uncur fun s69 => uncur fun b70 => uncur fun n71 => uncur fun n72 => uncur fun n73 x74 => fun h75 => 
                        I 11 [V.one (Cell.ptr p0), V.one (Cell.int IntKind.i64 8)]
                          (fun cs76 => fun h77 => 
                          ∃ b78 : Bool, (cs76 = [V.one (Cell.bool b78)]) ∧
                          Q [V.agg [Cell.str s62, Cell.int IntKind.i64 n63, Cell.int IntKind.i64 n64, Cell.int IntKind.i64 n65, Cell.slice 1 l66, Cell.int IntKind.i64 n67, Cell.int IntKind.i64 n68, Cell.str s69, Cell.bool b78, Cell.int IntKind.i64 n71, Cell.int IntKind.i64 n72, Cell.int IntKind.i64 n73]] h77) h75)
                        (fun x79 => ifT b61
                          (fun h80 =>
                          (newK (.cells false [Cell.str { data := #[103, 49] }, Cell.str { data := #[103, 50] }]) (fun i81 => fun h82 =>
                          I 45 [V.one (Cell.ptr p0), V.one (Cell.slice 1 { a := some (i81, 0), len := 2 })]
                            (fun cs83 => fun h84 => 
                            ∃ s85 : ByteArray, (cs83 = [V.one (Cell.str s85)]) ∧
                            x79 ((s35, n36, n37, n38, l39, n53, n58, s85, b43, n44, n45, n46, ())) h84) h82)) h80)
                          (x79 ((s35, n36, n37, n38, l39, n53, n58, s42, b43, n44, n45, n46, ()))))) h60) h57) h55)) h52) h50)) h48)
                (fun x86 => ifT b34
                  (fun h87 =>
                  (newK (.cells false [Cell.str { data := #[104, 97, 116] }]) (fun i88 => fun h89 => 
                  (newK (.cells false [Cell.str { data := #[99, 97, 112] }, Cell.str { data := #[104, 97, 116] }]) (fun i90 => fun h91 => 
                  (newK (.cells false [Cell.str { data := #[115, 104, 111, 101] }]) (fun i92 => fun h93 => 
                  (newK (.cells false [Cell.slice 1 { a := some (i88, 0), len := 1 }, Cell.slice 1 { a := some (i90, 0), len := 2 }, Cell.slice 1 { a := some (i92, 0), len := 1 }]) (fun i94 => fun h95 => 
                  I 43 [V.one (Cell.ptr p0), V.one (Cell.int IntKind.i64 3)]
                    (fun cs96 => fun h97 => 
                    ∃ n98 : Int, (cs96 = [V.one (Cell.int IntKind.i64 n98)]) ∧
                    ((0 ≤ n98) ∧
                    n98 < (↑3 : Int)) ∧
                    ∃ l99 : Sl, (h97.read i94 (0 + n98.toNat * 1) 1 = some [Cell.slice 1 l99]) ∧
                    x86 ((s21, n22, n23, n24, l99, n26, n27, s28, b29, n30, n31, n32, ())) h97) h95)) h93)) h91)) h89)) h87)
                  (x86 ((s21, n22, n23, n24, l25, n26, n27, s28, b29, n30, n31, n32, ())))))
              (fun x100 => ifT (!decide (n22 = 4))
                (fun h101 =>
                I 11 [V.one (Cell.ptr p0), V.one (Cell.int IntKind.i64 2)]
                  (fun cs102 => fun h103 => 
                  ∃ b104 : Bool, (cs102 = [V.one (Cell.bool b104)]) ∧
                  x100 b104 h103) h101)
                (x100 false)))
            (fun x105 => ifT (decide (n5 = 1))
              (fun h106 =>
              (newK (.cells false [Cell.int IntKind.i64 1, Cell.int IntKind.i64 10, Cell.int IntKind.i64 33, Cell.int IntKind.i64 50, Cell.int IntKind.i64 100]) (fun i107 => fun h108 =>
              I 20 [V.one (Cell.ptr p0), V.one (Cell.slice 1 { a := some (i107, 0), len := 5 })]
                (fun cs109 => fun h110 => 
                ∃ n111 : Int, (cs109 = [V.one (Cell.int IntKind.i64 n111)]) ∧
                x105 ((s1, n5, n111, 0, { a := none, len := 0 }, 0, 0, ByteArray.empty, false, n10, n15, max n20 (IntKind.i64.wrap (n15 + 1)), ())) h110) h108)) h106)
              (joinK (A := ByteArray × Int × Int × Int × Sl × Int × Int × ByteArray × Bool × Int × Int × Int × PUnit)
                (uncur fun s112 => uncur fun n113 => uncur fun n114 => uncur fun n115 => uncur fun l116 => uncur fun n117 => uncur fun n118 => uncur fun s119 => uncur fun b120 => uncur fun n121 => uncur fun n122 => uncur fun n123 x124 => fun h125 => 
                x105 ((s112, n113, n114, n115, l116, n117, n118, s119, b120, n121, n122, n123, ())) h125)
                (fun x126 => ifT (decide (n5 = 3))
                  (fun h127 =>
                  I 26 [V.one (Cell.ptr p0), V.one (Cell.int IntKind.i64 1), V.one (Cell.int IntKind.i64 3)]
                    (fun cs128 => fun h129 => 
                    ∃ n130 : Int, (cs128 = [V.one (Cell.int IntKind.i64 n130)]) ∧
                    I 26 [V.one (Cell.ptr p0), V.one (Cell.int IntKind.i64 1), V.one (Cell.int IntKind.i64 2)]
                      (fun cs131 => fun h132 => 
                      ∃ n133 : Int, (cs131 = [V.one (Cell.int IntKind.i64 n133)]) ∧
                      x126 ((s1, n5, n130, n133, { a := none, len := 0 }, 0, 0, ByteArray.empty, false, n10, n15, max n20 (IntKind.i64.wrap (n15 + 1)), ())) h132) h129) h127)
                  (fun h134 =>
                  (newK (.cells false [Cell.int IntKind.i64 1, Cell.int IntKind.i64 100, Cell.int IntKind.i64 500, Cell.int IntKind.i64 5000, Cell.int IntKind.i64 1000000000000]) (fun i135 => fun h136 =>
                  I 20 [V.one (Cell.ptr p0), V.one (Cell.slice 1 { a := some (i135, 0), len := 5 })]
                    (fun cs137 => fun h138 => 
                    ∃ n139 : Int, (cs137 = [V.one (Cell.int IntKind.i64 n139)]) ∧
                    x126 ((s1, n5, n139, 0, { a := none, len := 0 }, 0, 0, ByteArray.empty, false, n10, n15, max n20 (IntKind.i64.wrap (n15 + 1)), ())) h138) h136)) h134))))) h19) h17)) h14) h12)) h9) h7)) h4) h2
theorem den44 (I : FuncId → List V → Post → T) (p0 : Option (Nat × Nat)) (s1 : ByteArray) (Q : Post) : denF Go.Proofs.Tryz.prog 48 (⟨[(124, 8936830510563328, [(52, tk Go.Proofs.Tryz.prog 4)]), (125, 4602678819172646944, [(5, tvar Go.Proofs.Tryz.prog 37)]), (245, 70355590840352, [(5, tvar Go.Proofs.Tryz.prog 37)]), (983, 69273259081760, [(5, tvar Go.Proofs.Tryz.prog 37)]), (1021, 70835497243044678205472, [(5, tvar Go.Proofs.Tryz.prog 37)])], []⟩) I 44 [V.one (Cell.ptr p0), V.one (Cell.str s1)] Q = vc44 I p0 s1 Q := by kernel_rfl
/-- (*handbill/handmake.Stream).one -/
def vc45 (I : FuncId → List V → Post → T) (p0 : Option (Nat × Nat)) (l1 : Sl) (Q : Post) : T :=
  fun h2 =>
  I 43 [V.one (Cell.ptr p0), V.one (Cell.int IntKind.i64 (↑l1.len : Int))]
    (fun cs3 => fun h4 => 
    ∃ n5 : Int, (cs3 = [V.one (Cell.int IntKind.i64 n5)]) ∧
    ((0 ≤ n5) ∧
    n5 < (↑l1.len : Int)) ∧
    (derefK l1.a (fun i6 => fun i7 => fun h8 =>
    ∃ s9 : ByteArray, (h8.read i6 (i7 + n5.toNat * 1) 1 = some [Cell.str s9]) ∧
    Q [V.one (Cell.str s9)] h8)) h4) h2
theorem den45 (I : FuncId → List V → Post → T) (p0 : Option (Nat × Nat)) (l1 : Sl) (Q : Post) : denF Go.Proofs.Tryz.prog 0 (⟨[], []⟩) I 45 [V.one (Cell.ptr p0), V.one (Cell.slice 1 l1)] Q = vc45 I p0 l1 Q := by kernel_rfl
/-- (*handbill/handmake.Stream).Basket -/
def vc9 (I : FuncId → List V → Post → T) (p0 : Option (Nat × Nat)) (Q : Post) : T :=
  fun h1 =>
  (newK (.cells false [Cell.int IntKind.i64 0, Cell.int IntKind.i64 0, Cell.int IntKind.i64 495, Cell.int IntKind.i64 1000, Cell.int IntKind.i64 1000000000000]) (fun i2 => fun h3 =>
  I 20 [V.one (Cell.ptr p0), V.one (Cell.slice 1 { a := some (i2, 0), len := 5 })]
    (fun cs4 => fun h5 => 
    ∃ n6 : Int, (cs4 = [V.one (Cell.int IntKind.i64 n6)]) ∧
    I 43 [V.one (Cell.ptr p0), V.one (Cell.int IntKind.i64 5)]
      (fun cs7 => fun h8 => 
      ∃ n9 : Int, (cs7 = [V.one (Cell.int IntKind.i64 n9)]) ∧
      (loopK (A := (Sl × Int × PUnit) × Int) ((({ a := none, len := 0 }, n6, ()), 0))
        (fun x10 => uncur (uncur fun l11 => uncur fun n12 x13 => fun n14 => ifT (decide (n14 < n9))
          (fun h15 =>
          (1 + (Utf8.encode (IntKind.i32.wrap (IntKind.i64.wrap (97 + n14)))).size ≤ 9223372036854775807) ∧
          (newK (.cells false [Cell.int IntKind.i64 0, Cell.int IntKind.i64 1, Cell.int IntKind.i64 99, Cell.int IntKind.i64 300, Cell.int IntKind.i64 1000, Cell.int IntKind.i64 2001, Cell.int IntKind.i64 10000000]) (fun i16 => fun h17 =>
          I 20 [V.one (Cell.ptr p0), V.one (Cell.slice 1 { a := some (i16, 0), len := 7 })]
            (fun cs18 => fun h19 => 
            ∃ n20 : Int, (cs18 = [V.one (Cell.int IntKind.i64 n20)]) ∧
            (newK (.cells false [Cell.int IntKind.i64 1, Cell.int IntKind.i64 1, Cell.int IntKind.i64 2, Cell.int IntKind.i64 3, Cell.int IntKind.i64 7, Cell.int IntKind.i64 100]) (fun i21 => fun h22 =>
            I 20 [V.one (Cell.ptr p0), V.one (Cell.slice 1 { a := some (i21, 0), len := 6 })]
              (fun cs23 => fun h24 => 
              ∃ n25 : Int, (cs23 = [V.one (Cell.int IntKind.i64 n25)]) ∧
              (newK (.cells false [Cell.str { data := #[104, 97, 116] }]) (fun i26 => fun h27 => 
              (newK (.cells false [Cell.str { data := #[99, 97, 112] }]) (fun i28 => fun h29 => 
              (newK (.cells false [Cell.str { data := #[99, 97, 112] }, Cell.str { data := #[104, 97, 116] }]) (fun i30 => fun h31 => 
              (newK (.cells false [Cell.str { data := #[115, 104, 111, 101] }]) (fun i32 => fun h33 => 
              (newK (.cells false [Cell.slice 1 { a := none, len := 0 }, Cell.slice 1 { a := some (i26, 0), len := 1 }, Cell.slice 1 { a := some (i28, 0), len := 1 }, Cell.slice 1 { a := some (i30, 0), len := 2 }, Cell.slice 1 { a := some (i32, 0), len := 1 }]) (fun i34 => fun h35 => 
              I 43 [V.one (Cell.ptr p0), V.one (Cell.int IntKind.i64 5)]
                (fun cs36 => fun h37 => 
                ∃ n38 : Int, (cs36 = [V.one (Cell.int IntKind.i64 n38)]) ∧
                ((0 ≤ n38) ∧
                n38 < (↑5 : Int)) ∧
                ∃ l39 : Sl, (h37.read i34 (0 + n38.toNat * 1) 1 = some [Cell.slice 1 l39]) ∧
                (appendTo [] 4 56 l11 1 [Cell.str ({ data := #[105] } ++ Utf8.encode (IntKind.i32.wrap (IntKind.i64.wrap (97 + n14)))), Cell.int IntKind.i64 n20, Cell.int IntKind.i64 n25, Cell.slice 1 l39] (fun l40 => fun h41 => 
                x10 (((l40, n12, ()), IntKind.i64.wrap (n14 + 1))) h41)) h37) h35)) h33)) h31)) h29)) h27)) h24) h22)) h19) h17)) h15)
          (fun h42 =>
          I 11 [V.one (Cell.ptr p0), V.one (Cell.int IntKind.i64 12)]
            (fun cs43 => fun h44 => 
            ∃ b45 : Bool, (cs43 = [V.one (Cell.bool b45)]) ∧
            (joinK (A := Sl × Int × PUnit)
              (uncur fun l46 => uncur fun n47 x48 => joinK (A := Bool)
                (fun b49 => ifT b49
                  (fun h50 =>
                  I 43 [V.one (Cell.ptr p0), V.one (Cell.int IntKind.i64 (↑l46.len : Int))]
                    (fun cs51 => fun h52 => 
                    ∃ n53 : Int, (cs51 = [V.one (Cell.int IntKind.i64 n53)]) ∧
                    ((0 ≤ n53) ∧
                    n53 < (↑l46.len : Int)) ∧
                    (derefK l46.a (fun i54 => fun i55 => fun h56 => 
                    I 43 [V.one (Cell.ptr p0), V.one (Cell.int IntKind.i64 4)]
                      (fun cs57 => fun h58 => 
                      ∃ n59 : Int, (cs57 = [V.one (Cell.int IntKind.i64 n59)]) ∧
                      (ifT (decide (n59 = 0))
                        (fun h60 =>
                        (newK (.cells false [Cell.str { data := #[] }, Cell.str { data := #[105, 97] }, Cell.str { data := #[73] }]) (fun i61 => fun h62 =>
                        I 45 [V.one (Cell.ptr p0), V.one (Cell.slice 1 { a := some (i61, 0), len := 3 })]
                          (fun cs63 => fun h64 => 
                          ∃ s65 : ByteArray, (cs63 = [V.one (Cell.str s65)]) ∧
                          (storeK [] i54 (i55 + n53.toNat * 4 + 0) [Cell.str s65] (fun h66 =>
                          Q [V.agg [Cell.slice 4 l46, Cell.int IntKind.i64 n47]] h66)) h64) h62)) h60)
                        (ifT (decide (n59 = 1))
                          (fun h67 =>
                          (newK (.cells false [Cell.int IntKind.i64 (-1), Cell.int IntKind.i64 10000001]) (fun i68 => fun h69 =>
                          I 20 [V.one (Cell.ptr p0), V.one (Cell.slice 1 { a := some (i68, 0), len := 2 })]
                            (fun cs70 => fun h71 => 
                            ∃ n72 : Int, (cs70 = [V.one (Cell.int IntKind.i64 n72)]) ∧
                            (storeK [] i54 (i55 + n53.toNat * 4 + 1) [Cell.int IntKind.i64 n72] (fun h73 =>
                            Q [V.agg [Cell.slice 4 l46, Cell.int IntKind.i64 n47]] h73)) h71) h69)) h67)
                          (ifT (decide (n59 = 2))
                            (fun h74 =>
                            (newK (.cells false [Cell.int IntKind.i64 0, Cell.int IntKind.i64 101]) (fun i75 => fun h76 =>
                            I 20 [V.one (Cell.ptr p0), V.one (Cell.slice 1 { a := some (i75, 0), len := 2 })]
                              (fun cs77 => fun h78 => 
                              ∃ n79 : Int, (cs77 = [V.one (Cell.int IntKind.i64 n79)]) ∧
                              (storeK [] i54 (i55 + n53.toNat * 4 + 2) [Cell.int IntKind.i64 n79] (fun h80 =>
                              Q [V.agg [Cell.slice 4 l46, Cell.int IntKind.i64 n47]] h80)) h78) h76)) h74)
                            (fun h81 =>
                            (newK (.cells false [Cell.str { data := #[98] }, Cell.str { data := #[97] }]) (fun i82 => fun h83 => 
                            (newK (.cells false [Cell.str { data := #[] }]) (fun i84 => fun h85 => 
                            (newK (.cells false [Cell.str { data := #[120] }, Cell.str { data := #[120] }]) (fun i86 => fun h87 => 
                            (newK (.cells false [Cell.slice 1 { a := some (i82, 0), len := 2 }, Cell.slice 1 { a := some (i84, 0), len := 1 }, Cell.slice 1 { a := some (i86, 0), len := 2 }]) (fun i88 => fun h89 => 
                            I 43 [V.one (Cell.ptr p0), V.one (Cell.int IntKind.i64 3)]
                              (fun cs90 => fun h91 => 
                              ∃ n92 : Int, (cs90 = [V.one (Cell.int IntKind.i64 n92)]) ∧
                              ((0 ≤ n92) ∧
                              n92 < (↑3 : Int)) ∧
                              ∃ l93 : Sl, (h91.read i88 (0 + n92.toNat * 1) 1 = some [Cell.slice 1 l93]) ∧
                              (storeK [] i54 (i55 + n53.toNat * 4 + 3) [Cell.slice 1 l93] (fun h94 =>
                              Q [V.agg [Cell.slice 4 l46, Cell.int IntKind.i64 n47]] h94)) h91) h89)) h87)) h85)) h83)) h81)))) h58) h56)) h52) h50)
                  (fun h95 =>
                  Q [V.agg [Cell.slice 4 l46, Cell.int IntKind.i64 n47]] h95))
                (fun x96 => fun h97 => 
                I 11 [V.one (Cell.ptr p0), V.one (Cell.int IntKind.i64 12)]
                  (fun cs98 => fun h99 => 
                  ∃ b100 : Bool, (cs98 = [V.one (Cell.bool b100)]) ∧
                  (ifT b100
                    (x96 (decide ((↑l46.len : Int) > 0)))
                    (x96 false)) h99) h97))
              (fun x101 => ifT b45
                (fun h102 =>
                (newK (.cells false [Cell.int IntKind.i64 (-1), Cell.int IntKind.i64 1000000000001, Cell.int IntKind.i64 0]) (fun i103 => fun h104 =>
                I 20 [V.one (Cell.ptr p0), V.one (Cell.slice 1 { a := some (i103, 0), len := 3 })]
                  (fun cs105 => fun h106 => 
                  ∃ n107 : Int, (cs105 = [V.one (Cell.int IntKind.i64 n107)]) ∧
                  x101 ((l11, n107, ())) h106) h104)) h102)
                (x101 ((l11, n12, ()))))) h44) h42)))) h8) h5) h3)) h1
theorem den9 (I : FuncId → List V → Post → T) (p0 : Option (Nat × Nat)) (Q : Post) : denF Go.Proofs.Tryz.prog 44 (⟨[(61, 2111062325329928, [(3, tvar Go.Proofs.Tryz.prog 30)]), (124, 574208952489738240, [(58, tk Go.Proofs.Tryz.prog 4)])], [(58, 35184372080696, [(3, tvar Go.Proofs.Tryz.prog 30), (13, tk Go.Proofs.Tryz.prog 3)])]⟩) I 9 [V.one (Cell.ptr p0)] Q = vc9 I p0 Q := by kernel_rfl
/-- (*handbill/handmake.Stream).At -/
def vc10 (I : FuncId → List V → Post → T) (p0 : Option (Nat × Nat)) (Q : Post) : T :=
  fun h1 =>
  (newK (.cells false [Cell.int IntKind.i64 0, Cell.int IntKind.i64 0, Cell.int IntKind.i64 49, Cell.int IntKind.i64 50, Cell.int IntKind.i64 59, Cell.int IntKind.i64 60, Cell.int IntKind.i64 99, Cell.int IntKind.i64 100, Cell.int IntKind.i64 5000, Cell.int IntKind.i64 (-1), Cell.int IntKind.i64 4321440]) (fun i2 => fun h3 =>
  I 20 [V.one (Cell.ptr p0), V.one (Cell.slice 1 { a := some (i2, 0), len := 11 })]
    (fun cs4 => fun h5 => 
    ∃ n6 : Int, (cs4 = [V.one (Cell.int IntKind.i64 n6)]) ∧
    Q [V.one (Cell.int IntKind.i64 n6)] h5) h3)) h1
theorem den10 (I : FuncId → List V → Post → T) (p0 : Option (Nat × Nat)) (Q : Post) : denF Go.Proofs.Tryz.prog 0 (⟨[], []⟩) I 10 [V.one (Cell.ptr p0)] Q = vc10 I p0 Q := by kernel_rfl
/-- slices.DeleteFunc[[]handbill/api.Offer,handbill/api.Offer] -/
def vc12 (I : FuncId → List V → Post → T) (l0 : Sl) (p1 : Option (Nat × List (Nat × Nat))) (Q : Post) : T :=
  fun h2 =>
  I 46 [V.one (Cell.slice 12 l0), V.one (Cell.func p1)]
    (fun cs3 => fun h4 => 
    ∃ n5 : Int, (cs3 = [V.one (Cell.int IntKind.i64 n5)]) ∧
    (ifT (decide (n5 = -1))
      (Q [V.one (Cell.slice 12 l0)])
      (loopK (A := Int × Int) ((n5, IntKind.i64.wrap (n5 + 1)))
        (fun x6 => uncur fun n7 n8 => ifT (decide (n8 < (↑l0.len : Int)))
          (fun h9 =>
          ((0 ≤ n8) ∧
          n8 < (↑l0.len : Int)) ∧
          (derefK l0.a (fun i10 => fun i11 => fun h12 =>
          ∃ s13 : ByteArray, ∃ n14 : Int, ∃ n15 : Int, ∃ n16 : Int, ∃ l17 : Sl, ∃ n18 : Int, ∃ n19 : Int, ∃ s20 : ByteArray, ∃ b21 : Bool, ∃ n22 : Int, ∃ n23 : Int, ∃ n24 : Int, (h12.read i10 (i11 + n8.toNat * 12) 12 = some [Cell.str s13, Cell.int IntKind.i64 n14, Cell.int IntKind.i64 n15, Cell.int IntKind.i64 n16, Cell.slice 1 l17, Cell.int IntKind.i64 n18, Cell.int IntKind.i64 n19, Cell.str s20, Cell.bool b21, Cell.int IntKind.i64 n22, Cell.int IntKind.i64 n23, Cell.int IntKind.i64 n24]) ∧
          (funK p1 (fun i25 => fun cs26 => fun h27 => 
          I i25 (V.agg [Cell.str s13, Cell.int IntKind.i64 n14, Cell.int IntKind.i64 n15, Cell.int IntKind.i64 n16, Cell.slice 1 l17, Cell.int IntKind.i64 n18, Cell.int IntKind.i64 n19, Cell.str s20, Cell.bool b21, Cell.int IntKind.i64 n22, Cell.int IntKind.i64 n23, Cell.int IntKind.i64 n24] :: cs26)
            (fun cs28 => fun h29 => 
            ∃ b30 : Bool, (cs28 = [V.one (Cell.bool b30)]) ∧
            (ifT (!b30)
              (fun h31 =>
              ((0 ≤ n7) ∧
              n7 < (↑l0.len : Int)) ∧
              (derefK l0.a (fun i32 => fun i33 => fun h34 => 
              (storeK [] i32 (i33 + n7.toNat * 12) [Cell.str s13, Cell.int IntKind.i64 n14, Cell.int IntKind.i64 n15, Cell.int IntKind.i64 n16, Cell.slice 1 l17, Cell.int IntKind.i64 n18, Cell.int IntKind.i64 n19, Cell.str s20, Cell.bool b21, Cell.int IntKind.i64 n22, Cell.int IntKind.i64 n23, Cell.int IntKind.i64 n24] (x6 ((IntKind.i64.wrap (n7 + 1), IntKind.i64.wrap (n8 + 1))))) h34)) h31)
              (x6 ((n7, IntKind.i64.wrap (n8 + 1))))) h29) h27)) h12)) h9)
          (fun h35 =>
          ((0 ≤ n7) ∧
          (n7 ≤ (↑l0.len : Int)) ∧
          (↑l0.len : Int) ≤ (↑l0.len : Int)) ∧
          (clearK [] ((l0.sub 12 n7.toNat (↑l0.len : Int).toNat).a) (slCells (VK.agg [Kd.str, Kd.int IntKind.i64, Kd.int IntKind.i64, Kd.int IntKind.i64, Kd.slice 1, Kd.int IntKind.i64, Kd.int IntKind.i64, Kd.str, Kd.bool, Kd.int IntKind.i64, Kd.int IntKind.i64, Kd.int IntKind.i64]) (l0.sub 12 n7.toNat (↑l0.len : Int).toNat).len) (fun h36 =>
          (((0 : Int) ≤ (0 : Int)) ∧
          (0 ≤ n7) ∧
          n7 ≤ (↑l0.len : Int)) ∧
          Q [V.one (Cell.slice 12 (l0.sub 12 0 n7.toNat))] h36)) h35)))) h4) h2
theorem den12 (I : FuncId → List V → Post → T) (l0 : Sl) (p1 : Option (Nat × List (Nat × Nat))) (Q : Post) : denF Go.Proofs.Tryz.prog 128 (⟨[], [(122, 68719411424, [(5, tk Go.Proofs.Tryz.prog 3), (6, tk Go.Proofs.Tryz.prog 3)])]⟩) I 12 [V.one (Cell.slice 12 l0), V.one (Cell.func p1)] Q = vc12 I l0 p1 Q := by kernel_rfl
/-- slices.IndexFunc[[]handbill/api.Offer,handbill/api.Offer] -/
def vc46 (I : FuncId → List V → Post → T) (l0 : Sl) (p1 : Option (Nat × List (Nat × Nat))) (Q : Post) : T :=
  loopK (A := Int) 0
    (fun x2 => fun n3 => ifT (decide (n3 < (↑l0.len : Int)))
      (fun h4 =>
      ((0 ≤ n3) ∧
      n3 < (↑l0.len : Int)) ∧
      (derefK l0.a (fun i5 => fun i6 => fun h7 =>
      ∃ s8 : ByteArray, ∃ n9 : Int, ∃ n10 : Int, ∃ n11 : Int, ∃ l12 : Sl, ∃ n13 : Int, ∃ n14 : Int, ∃ s15 : ByteArray, ∃ b16 : Bool, ∃ n17 : Int, ∃ n18 : Int, ∃ n19 : Int, (h7.read i5 (i6 + n3.toNat * 12) 12 = some [Cell.str s8, Cell.int IntKind.i64 n9, Cell.int IntKind.i64 n10, Cell.int IntKind.i64 n11, Cell.slice 1 l12, Cell.int IntKind.i64 n13, Cell.int IntKind.i64 n14, Cell.str s15, Cell.bool b16, Cell.int IntKind.i64 n17, Cell.int IntKind.i64 n18, Cell.int IntKind.i64 n19]) ∧
      (funK p1 (fun i20 => fun cs21 => fun h22 => 
      I i20 (V.agg [Cell.str s8, Cell.int IntKind.i64 n9, Cell.int IntKind.i64 n10, Cell.int IntKind.i64 n11, Cell.slice 1 l12, Cell.int IntKind.i64 n13, Cell.int IntKind.i64 n14, Cell.str s15, Cell.bool b16, Cell.int IntKind.i64 n17, Cell.int IntKind.i64 n18, Cell.int IntKind.i64 n19] :: cs21)
        (fun cs23 => fun h24 => 
        ∃ b25 : Bool, (cs23 = [V.one (Cell.bool b25)]) ∧
        (ifT b25
          (Q [V.one (Cell.int IntKind.i64 n3)])
          (x2 (IntKind.i64.wrap (n3 + 1)))) h24) h22)) h7)) h4)
      (Q [V.one (Cell.int IntKind.i64 (-1))]))
theorem den46 (I : FuncId → List V → Post → T) (l0 : Sl) (p1 : Option (Nat × List (Nat × Nat))) (Q : Post) : denF Go.Proofs.Tryz.prog 0 (⟨[], [(26, 524080, [(8, tk Go.Proofs.Tryz.prog 3)])]⟩) I 46 [V.one (Cell.slice 12 l0), V.one (Cell.func p1)] Q = vc46 I l0 p1 Q := by kernel_rfl
/-- handbill/handlaw1.BasketsPriced$1 -/
def vc13 (I : FuncId → List V → Post → T) (s0 : ByteArray) (n1 : Int) (n2 : Int) (n3 : Int) (l4 : Sl) (n5 : Int) (n6 : Int) (s7 : ByteArray) (b8 : Bool) (n9 : Int) (n10 : Int) (n11 : Int) (i12 : Nat) (i13 : Nat) (i14 : Nat) (i15 : Nat) (Q : Post) : T :=
  fun h16 =>
  ∃ n17 : Int, (h16.read i12 i13 1 = some [Cell.int IntKind.i64 n17]) ∧
  I 14 [V.one (Cell.int IntKind.i64 n17)]
    (fun cs18 => fun h19 => 
    ∃ b20 : Bool, (cs18 = [V.one (Cell.bool b20)]) ∧
    (ifT b20
      (fun h21 =>
      ∃ l22 : Sl, ∃ n23 : Int, (h21.read i14 i15 2 = some [Cell.slice 4 l22, Cell.int IntKind.i64 n23]) ∧
      ∃ n24 : Int, (h21.read i12 i13 1 = some [Cell.int IntKind.i64 n24]) ∧
      I 15 [V.agg [Cell.str s0, Cell.int IntKind.i64 n1, Cell.int IntKind.i64 n2, Cell.int IntKind.i64 n3, Cell.slice 1 l4, Cell.int IntKind.i64 n5, Cell.int IntKind.i64 n6, Cell.str s7, Cell.bool b8, Cell.int IntKind.i64 n9, Cell.int IntKind.i64 n10, Cell.int IntKind.i64 n11], V.agg [Cell.slice 4 l22, Cell.int IntKind.i64 n23], V.one (Cell.int IntKind.i64 n24)]
        (fun cs25 => fun h26 => 
        ∃ n27 : Int, (cs25 = [V.one (Cell.int IntKind.i64 n27)]) ∧
        Q [V.one (Cell.bool (!decide (n27 = 0)))] h26) h21)
      (Q [V.one (Cell.bool false)])) h19) h16
theorem den13 (I : FuncId → List V → Post → T) (s0 : ByteArray) (n1 : Int) (n2 : Int) (n3 : Int) (l4 : Sl) (n5 : Int) (n6 : Int) (s7 : ByteArray) (b8 : Bool) (n9 : Int) (n10 : Int) (n11 : Int) (i12 : Nat) (i13 : Nat) (i14 : Nat) (i15 : Nat) (Q : Post) : denF Go.Proofs.Tryz.prog 8 (⟨[], []⟩) I 13 [V.agg [Cell.str s0, Cell.int IntKind.i64 n1, Cell.int IntKind.i64 n2, Cell.int IntKind.i64 n3, Cell.slice 1 l4, Cell.int IntKind.i64 n5, Cell.int IntKind.i64 n6, Cell.str s7, Cell.bool b8, Cell.int IntKind.i64 n9, Cell.int IntKind.i64 n10, Cell.int IntKind.i64 n11], V.one (Cell.ptr (some (i12, i13))), V.one (Cell.ptr (some (i14, i15)))] Q = vc13 I s0 n1 n2 n3 l4 n5 n6 s7 b8 n9 n10 n11 i12 i13 i14 i15 Q := by kernel_rfl
/-- handbill/handref1.Moment -/
def vc14 (I : FuncId → List V → Post → T) (n0 : Int) (Q : Post) : T :=
  ifT (decide (n0 ≥ 0))
    (Q [V.one (Cell.bool (decide (n0 < 4321440)))])
    (Q [V.one (Cell.bool false)])
theorem den14 (I : FuncId → List V → Post → T) (n0 : Int) (Q : Post) : denF Go.Proofs.Tryz.prog 0 (⟨[], []⟩) I 14 [V.one (Cell.int IntKind.i64 n0)] Q = vc14 I n0 Q := by kernel_rfl
/-- handbill/handref1.FitsOf -/
def vc15 (I : FuncId → List V → Post → T) (s0 : ByteArray) (n1 : Int) (n2 : Int) (n3 : Int) (l4 : Sl) (n5 : Int) (n6 : Int) (s7 : ByteArray) (b8 : Bool) (n9 : Int) (n10 : Int) (n11 : Int) (l12 : Sl) (n13 : Int) (n14 : Int) (Q : Post) : T :=
  loopK (A := Int × Int) ((0, 0))
    (fun x15 => uncur fun n16 n17 => ifT (decide (n17 < (↑l12.len : Int)))
      (fun h18 =>
      ((0 ≤ n17) ∧
      n17 < (↑l12.len : Int)) ∧
      (derefK l12.a (fun i19 => fun i20 => fun h21 =>
      ∃ s22 : ByteArray, ∃ n23 : Int, ∃ n24 : Int, ∃ l25 : Sl, (h21.read i19 (i20 + n17.toNat * 4) 4 = some [Cell.str s22, Cell.int IntKind.i64 n23, Cell.int IntKind.i64 n24, Cell.slice 1 l25]) ∧
      I 47 [V.agg [Cell.str s0, Cell.int IntKind.i64 n1, Cell.int IntKind.i64 n2, Cell.int IntKind.i64 n3, Cell.slice 1 l4, Cell.int IntKind.i64 n5, Cell.int IntKind.i64 n6, Cell.str s7, Cell.bool b8, Cell.int IntKind.i64 n9, Cell.int IntKind.i64 n10, Cell.int IntKind.i64 n11], V.agg [Cell.str s22, Cell.int IntKind.i64 n23, Cell.int IntKind.i64 n24, Cell.slice 1 l25]]
        (fun cs26 => fun h27 => 
        ∃ b28 : Bool, (cs26 = [V.one (Cell.bool b28)]) ∧
        (ifT b28
          (x15 ((IntKind.i64.wrap (n16 + IntKind.i64.wrap (n23 * n24)), IntKind.i64.wrap (n17 + 1))))
          (x15 ((n16, IntKind.i64.wrap (n17 + 1))))) h27) h21)) h18)
      (joinK (A := Bool)
        (fun b29 => ifT (decide (n14 < n10))
          (Q [V.one (Cell.int IntKind.i64 1)])
          (ifT (decide (n14 ≥ n11))
            (Q [V.one (Cell.int IntKind.i64 2)])
            (ifT b29
              (Q [V.one (Cell.int IntKind.i64 3)])
              (ifT (decide (n16 < n5))
                (Q [V.one (Cell.int IntKind.i64 4)])
                (Q [V.one (Cell.int IntKind.i64 0)])))))
        (fun x30 => ifT (decide (n1 = 4))
          (x30 (decide (n13 = 0)))
          (x30 (decide (n16 = 0))))))
theorem den15 (I : FuncId → List V → Post → T) (s0 : ByteArray) (n1 : Int) (n2 : Int) (n3 : Int) (l4 : Sl) (n5 : Int) (n6 : Int) (s7 : ByteArray) (b8 : Bool) (n9 : Int) (n10 : Int) (n11 : Int) (l12 : Sl) (n13 : Int) (n14 : Int) (Q : Post) : denF Go.Proofs.Tryz.prog 536 (⟨[(125, 120259085312, [(10, tk Go.Proofs.Tryz.prog 4)])], [(58, 536855168, [(7, tk Go.Proofs.Tryz.prog 3), (14, tk Go.Proofs.Tryz.prog 3)])]⟩) I 15 [V.agg [Cell.str s0, Cell.int IntKind.i64 n1, Cell.int IntKind.i64 n2, Cell.int IntKind.i64 n3, Cell.slice 1 l4, Cell.int IntKind.i64 n5, Cell.int IntKind.i64 n6, Cell.str s7, Cell.bool b8, Cell.int IntKind.i64 n9, Cell.int IntKind.i64 n10, Cell.int IntKind.i64 n11], V.agg [Cell.slice 4 l12, Cell.int IntKind.i64 n13], V.one (Cell.int IntKind.i64 n14)] Q = vc15 I s0 n1 n2 n3 l4 n5 n6 s7 b8 n9 n10 n11 l12 n13 n14 Q := by kernel_rfl
/-- handbill/handref1.matches -/
def vc47 (I : FuncId → List V → Post → T) (s0 : ByteArray) (n1 : Int) (n2 : Int) (n3 : Int) (l4 : Sl) (n5 : Int) (n6 : Int) (s7 : ByteArray) (b8 : Bool) (n9 : Int) (n10 : Int) (n11 : Int) (s12 : ByteArray) (n13 : Int) (n14 : Int) (l15 : Sl) (Q : Post) : T :=
  fun h16 =>
  (newK (.cells false [Cell.str s12, Cell.int IntKind.i64 n13, Cell.int IntKind.i64 n14, Cell.slice 1 l15]) (fun i17 => ifT (decide ((↑l4.len : Int) = 0))
    (Q [V.one (Cell.bool true)])
    (fun h18 =>
    I 104 [V.one (Cell.slice 1 l4), V.one (Cell.func (some (105, [(i17, 0)])))]
      (fun cs19 => fun h20 => 
      ∃ b21 : Bool, (cs19 = [V.one (Cell.bool b21)]) ∧
      Q [V.one (Cell.bool b21)] h20) h18))) h16
theorem den47 (I : FuncId → List V → Post → T) (s0 : ByteArray) (n1 : Int) (n2 : Int) (n3 : Int) (l4 : Sl) (n5 : Int) (n6 : Int) (s7 : ByteArray) (b8 : Bool) (n9 : Int) (n10 : Int) (n11 : Int) (s12 : ByteArray) (n13 : Int) (n14 : Int) (l15 : Sl) (Q : Post) : denF Go.Proofs.Tryz.prog 4 (⟨[], []⟩) I 47 [V.agg [Cell.str s0, Cell.int IntKind.i64 n1, Cell.int IntKind.i64 n2, Cell.int IntKind.i64 n3, Cell.slice 1 l4, Cell.int IntKind.i64 n5, Cell.int IntKind.i64 n6, Cell.str s7, Cell.bool b8, Cell.int IntKind.i64 n9, Cell.int IntKind.i64 n10, Cell.int IntKind.i64 n11], V.agg [Cell.str s12, Cell.int IntKind.i64 n13, Cell.int IntKind.i64 n14, Cell.slice 1 l15]] Q = vc47 I s0 n1 n2 n3 l4 n5 n6 s7 b8 n9 n10 n11 s12 n13 n14 l15 Q := by kernel_rfl
/-- slices.ContainsFunc[[]string,string] -/
def vc104 (I : FuncId → List V → Post → T) (l0 : Sl) (p1 : Option (Nat × List (Nat × Nat))) (Q : Post) : T :=
  fun h2 =>
  I 145 [V.one (Cell.slice 1 l0), V.one (Cell.func p1)]
    (fun cs3 => fun h4 => 
    ∃ n5 : Int, (cs3 = [V.one (Cell.int IntKind.i64 n5)]) ∧
    Q [V.one (Cell.bool (decide (n5 ≥ 0)))] h4) h2
theorem den104 (I : FuncId → List V → Post → T) (l0 : Sl) (p1 : Option (Nat × List (Nat × Nat))) (Q : Post) : denF Go.Proofs.Tryz.prog 0 (⟨[], []⟩) I 104 [V.one (Cell.slice 1 l0), V.one (Cell.func p1)] Q = vc104 I l0 p1 Q := by kernel_rfl
/-- slices.IndexFunc[[]string,string] -/
def vc145 (I : FuncId → List V → Post → T) (l0 : Sl) (p1 : Option (Nat × List (Nat × Nat))) (Q : Post) : T :=
  loopK (A := Int) 0
    (fun x2 => fun n3 => ifT (decide (n3 < (↑l0.len : Int)))
      (fun h4 =>
      ((0 ≤ n3) ∧
      n3 < (↑l0.len : Int)) ∧
      (derefK l0.a (fun i5 => fun i6 => fun h7 =>
      ∃ s8 : ByteArray, (h7.read i5 (i6 + n3.toNat * 1) 1 = some [Cell.str s8]) ∧
      (funK p1 (fun i9 => fun cs10 => fun h11 => 
      I i9 (V.one (Cell.str s8) :: cs10)
        (fun cs12 => fun h13 => 
        ∃ b14 : Bool, (cs12 = [V.one (Cell.bool b14)]) ∧
        (ifT b14
          (Q [V.one (Cell.int IntKind.i64 n3)])
          (x2 (IntKind.i64.wrap (n3 + 1)))) h13) h11)) h7)) h4)
      (Q [V.one (Cell.int IntKind.i64 (-1))]))
theorem den145 (I : FuncId → List V → Post → T) (l0 : Sl) (p1 : Option (Nat × List (Nat × Nat))) (Q : Post) : denF Go.Proofs.Tryz.prog 0 (⟨[], [(26, 524080, [(8, tk Go.Proofs.Tryz.prog 3)])]⟩) I 145 [V.one (Cell.slice 1 l0), V.one (Cell.func p1)] Q = vc145 I l0 p1 Q := by kernel_rfl
/-- handbill/handref1.matches$1 -/
def vc105 (I : FuncId → List V → Post → T) (s0 : ByteArray) (i1 : Nat) (i2 : Nat) (Q : Post) : T :=
  fun h3 =>
  ∃ l4 : Sl, (h3.read i1 (i2 + 3) 1 = some [Cell.slice 1 l4]) ∧
  I 106 [V.one (Cell.slice 1 l4), V.one (Cell.str s0)]
    (fun cs5 => fun h6 => 
    ∃ b7 : Bool, (cs5 = [V.one (Cell.bool b7)]) ∧
    Q [V.one (Cell.bool b7)] h6) h3
theorem den105 (I : FuncId → List V → Post → T) (s0 : ByteArray) (i1 : Nat) (i2 : Nat) (Q : Post) : denF Go.Proofs.Tryz.prog 0 (⟨[], []⟩) I 105 [V.one (Cell.str s0), V.one (Cell.ptr (some (i1, i2)))] Q = vc105 I s0 i1 i2 Q := by kernel_rfl
/-- slices.Contains[[]string,string] -/
def vc106 (I : FuncId → List V → Post → T) (l0 : Sl) (s1 : ByteArray) (Q : Post) : T :=
  fun h2 =>
  I 146 [V.one (Cell.slice 1 l0), V.one (Cell.str s1)]
    (fun cs3 => fun h4 => 
    ∃ n5 : Int, (cs3 = [V.one (Cell.int IntKind.i64 n5)]) ∧
    Q [V.one (Cell.bool (decide (n5 ≥ 0)))] h4) h2
theorem den106 (I : FuncId → List V → Post → T) (l0 : Sl) (s1 : ByteArray) (Q : Post) : denF Go.Proofs.Tryz.prog 0 (⟨[], []⟩) I 106 [V.one (Cell.slice 1 l0), V.one (Cell.str s1)] Q = vc106 I l0 s1 Q := by kernel_rfl
/-- slices.Index[[]string,string] -/
def vc146 (I : FuncId → List V → Post → T) (l0 : Sl) (s1 : ByteArray) (Q : Post) : T :=
  loopK (A := Int) 0
    (fun x2 => fun n3 => ifT (decide (n3 < (↑l0.len : Int)))
      (fun h4 =>
      ((0 ≤ n3) ∧
      n3 < (↑l0.len : Int)) ∧
      (derefK l0.a (fun i5 => fun i6 => fun h7 =>
      ∃ s8 : ByteArray, (h7.read i5 (i6 + n3.toNat * 1) 1 = some [Cell.str s8]) ∧
      (ifT (decide (s1 = s8))
        (Q [V.one (Cell.int IntKind.i64 n3)])
        (x2 (IntKind.i64.wrap (n3 + 1)))) h7)) h4)
      (Q [V.one (Cell.int IntKind.i64 (-1))]))
theorem den146 (I : FuncId → List V → Post → T) (l0 : Sl) (s1 : ByteArray) (Q : Post) : denF Go.Proofs.Tryz.prog 0 (⟨[], [(26, 524080, [(8, tk Go.Proofs.Tryz.prog 3)])]⟩) I 146 [V.one (Cell.slice 1 l0), V.one (Cell.str s1)] Q = vc146 I l0 s1 Q := by kernel_rfl
/-- handbill/offer.Price -/
def vc16 (I : FuncId → List V → Post → T) (l0 : Sl) (l1 : Sl) (n2 : Int) (n3 : Int) (Q : Post) : T :=
  fun h4 =>
  (newK (.cells false [Cell.slice 4 l1, Cell.int IntKind.i64 n2]) (fun i5 => fun h6 => 
  (newK (.cells false [Cell.int IntKind.i64 n3]) (fun i7 => fun h8 =>
  ∃ l9 : Sl, ∃ n10 : Int, (h8.read i5 0 2 = some [Cell.slice 4 l9, Cell.int IntKind.i64 n10]) ∧
  ∃ n11 : Int, (h8.read i7 0 1 = some [Cell.int IntKind.i64 n11]) ∧
  I 48 [V.one (Cell.slice 12 l0), V.agg [Cell.slice 4 l9, Cell.int IntKind.i64 n10], V.one (Cell.int IntKind.i64 n11)]
    (fun cs12 => fun h13 => 
    ∃ n14 : Int, (cs12 = [V.one (Cell.int IntKind.i64 n14)]) ∧
    (ifT (!decide (n14 = 0))
      (fun h15 =>
      Q [V.agg [Cell.slice 1 { a := none, len := 0 }, Cell.int IntKind.i64 0, Cell.slice 2 { a := none, len := 0 }, Cell.int IntKind.i64 0], V.one (Cell.int IntKind.i64 n14)] h15)
      (fun h16 =>
      I 49 [V.one (Cell.slice 12 l0)]
        (fun cs17 => fun h18 => 
        ∃ b19 : Bool, (cs17 = [V.one (Cell.bool b19)]) ∧
        (ifT (!b19)
          (fun h20 =>
          Q [V.agg [Cell.slice 1 { a := none, len := 0 }, Cell.int IntKind.i64 0, Cell.slice 2 { a := none, len := 0 }, Cell.int IntKind.i64 0], V.one (Cell.int IntKind.i64 16)] h20)
          (fun h21 =>
          I 50 [V.one (Cell.slice 12 l0), V.one (Cell.func (some (51, [(i5, 0), (i7, 0)])))]
            (fun cs22 => fun h23 => 
            ∃ b24 : Bool, (cs22 = [V.one (Cell.bool b24)]) ∧
            (ifT b24
              (fun h25 =>
              Q [V.agg [Cell.slice 1 { a := none, len := 0 }, Cell.int IntKind.i64 0, Cell.slice 2 { a := none, len := 0 }, Cell.int IntKind.i64 0], V.one (Cell.int IntKind.i64 11)] h25)
              (fun h26 =>
              ∃ l27 : Sl, ∃ n28 : Int, (h26.read i5 0 2 = some [Cell.slice 4 l27, Cell.int IntKind.i64 n28]) ∧
              I 53 [V.one (Cell.slice 12 l0), V.agg [Cell.slice 4 l27, Cell.int IntKind.i64 n28]]
                (fun cs29 => fun h30 => 
                ∃ l31 : Sl, ∃ n32 : Int, ∃ l33 : Sl, ∃ n34 : Int, (cs29 = [V.agg [Cell.slice 1 l31, Cell.int IntKind.i64 n32, Cell.slice 2 l33, Cell.int IntKind.i64 n34]]) ∧
                Q [V.agg [Cell.slice 1 l31, Cell.int IntKind.i64 n32, Cell.slice 2 l33, Cell.int IntKind.i64 n34], V.one (Cell.int IntKind.i64 0)] h30) h26)) h23) h21)) h18) h16)) h13) h8)) h6)) h4
theorem den16 (I : FuncId → List V → Post → T) (l0 : Sl) (l1 : Sl) (n2 : Int) (n3 : Int) (Q : Post) : denF Go.Proofs.Tryz.prog 64 (⟨[], []⟩) I 16 [V.one (Cell.slice 12 l0), V.agg [Cell.slice 4 l1, Cell.int IntKind.i64 n2], V.one (Cell.int IntKind.i64 n3)] Q = vc16 I l0 l1 n2 n3 Q := by kernel_rfl
/-- handbill/offer.checkAll -/
def vc48 (I : FuncId → List V → Post → T) (l0 : Sl) (l1 : Sl) (n2 : Int) (n3 : Int) (Q : Post) : T :=
  fun h4 =>
  I 107 [V.one (Cell.slice 12 l0)]
    (fun cs5 => fun h6 => 
    ∃ n7 : Int, (cs5 = [V.one (Cell.int IntKind.i64 n7)]) ∧
    (ifT (!decide (n7 = 0))
      (Q [V.one (Cell.int IntKind.i64 n7)])
      (fun h8 =>
      I 108 [V.agg [Cell.slice 4 l1, Cell.int IntKind.i64 n2]]
        (fun cs9 => fun h10 => 
        ∃ n11 : Int, (cs9 = [V.one (Cell.int IntKind.i64 n11)]) ∧
        (ifT (!decide (n11 = 0))
          (Q [V.one (Cell.int IntKind.i64 n11)])
          (fun h12 =>
          I 109 [V.one (Cell.int IntKind.i64 n3)]
            (fun cs13 => fun h14 => 
            ∃ b15 : Bool, (cs13 = [V.one (Cell.bool b15)]) ∧
            (ifT (!b15)
              (Q [V.one (Cell.int IntKind.i64 1)])
              (Q [V.one (Cell.int IntKind.i64 0)])) h14) h12)) h10) h8)) h6) h4
theorem den48 (I : FuncId → List V → Post → T) (l0 : Sl) (l1 : Sl) (n2 : Int) (n3 : Int) (Q : Post) : denF Go.Proofs.Tryz.prog 16 (⟨[], []⟩) I 48 [V.one (Cell.slice 12 l0), V.agg [Cell.slice 4 l1, Cell.int IntKind.i64 n2], V.one (Cell.int IntKind.i64 n3)] Q = vc48 I l0 l1 n2 n3 Q := by kernel_rfl
/-- handbill/offer.CheckOffers -/
def vc107 (I : FuncId → List V → Post → T) (l0 : Sl) (Q : Post) : T :=
  ifT (decide ((↑l0.len : Int) > 40))
    (Q [V.one (Cell.int IntKind.i64 2)])
    (loopK (A := Int) 0
      (fun x1 => fun n2 => ifT (decide (n2 < (↑l0.len : Int)))
        (fun h3 =>
        ((0 ≤ n2) ∧
        n2 < (↑l0.len : Int)) ∧
        (derefK l0.a (fun i4 => fun i5 => fun h6 =>
        ∃ s7 : ByteArray, ∃ n8 : Int, ∃ n9 : Int, ∃ n10 : Int, ∃ l11 : Sl, ∃ n12 : Int, ∃ n13 : Int, ∃ s14 : ByteArray, ∃ b15 : Bool, ∃ n16 : Int, ∃ n17 : Int, ∃ n18 : Int, (h6.read i4 (i5 + n2.toNat * 12) 12 = some [Cell.str s7, Cell.int IntKind.i64 n8, Cell.int IntKind.i64 n9, Cell.int IntKind.i64 n10, Cell.slice 1 l11, Cell.int IntKind.i64 n12, Cell.int IntKind.i64 n13, Cell.str s14, Cell.bool b15, Cell.int IntKind.i64 n16, Cell.int IntKind.i64 n17, Cell.int IntKind.i64 n18]) ∧
        (newK (.cells false [Cell.str ByteArray.empty, Cell.int IntKind.i64 0, Cell.int IntKind.i64 0, Cell.int IntKind.i64 0, Cell.slice 1 { a := none, len := 0 }, Cell.int IntKind.i64 0, Cell.int IntKind.i64 0, Cell.str ByteArray.empty, Cell.bool false, Cell.int IntKind.i64 0, Cell.int IntKind.i64 0, Cell.int IntKind.i64 0]) (fun i19 => fun h20 => 
        (storeK [] i19 0 [Cell.str s7, Cell.int IntKind.i64 n8, Cell.int IntKind.i64 n9, Cell.int IntKind.i64 n10, Cell.slice 1 l11, Cell.int IntKind.i64 n12, Cell.int IntKind.i64 n13, Cell.str s14, Cell.bool b15, Cell.int IntKind.i64 n16, Cell.int IntKind.i64 n17, Cell.int IntKind.i64 n18] (fun h21 =>
        ∃ s22 : ByteArray, (h21.read i19 0 1 = some [Cell.str s22]) ∧
        I 126 [V.one (Cell.str s22)]
          (fun cs23 => fun h24 => 
          ∃ b25 : Bool, (cs23 = [V.one (Cell.bool b25)]) ∧
          (ifT (!b25)
            (Q [V.one (Cell.int IntKind.i64 5)])
            (fun h26 =>
            (((0 : Int) ≤ (0 : Int)) ∧
            (0 ≤ n2) ∧
            n2 ≤ (↑l0.len : Int)) ∧
            I 50 [V.one (Cell.slice 12 (l0.sub 12 0 n2.toNat)), V.one (Cell.func (some (147, [(i19, 0)])))]
              (fun cs27 => fun h28 => 
              ∃ b29 : Bool, (cs27 = [V.one (Cell.bool b29)]) ∧
              (ifT b29
                (Q [V.one (Cell.int IntKind.i64 6)])
                (fun h30 =>
                ∃ n31 : Int, (h30.read i19 1 1 = some [Cell.int IntKind.i64 n31]) ∧
                I 123 [V.one (Cell.int IntKind.i64 n31), V.one (Cell.int IntKind.i64 1), V.one (Cell.int IntKind.i64 4)]
                  (fun cs32 => fun h33 => 
                  ∃ b34 : Bool, (cs32 = [V.one (Cell.bool b34)]) ∧
                  (ifT (!b34)
                    (Q [V.one (Cell.int IntKind.i64 4)])
                    (joinK (A := Bool)
                      (fun b35 => ifT b35
                        (Q [V.one (Cell.int IntKind.i64 1)])
                        (joinK (A := Bool)
                          (fun b36 => ifT b36
                            (Q [V.one (Cell.int IntKind.i64 1)])
                            (joinK (A := Bool)
                              (fun b37 => ifT b37
                                (Q [V.one (Cell.int IntKind.i64 5)])
                                (fun h38 =>
                                ∃ l39 : Sl, (h38.read i19 4 1 = some [Cell.slice 1 l39]) ∧
                                I 149 [V.one (Cell.slice 1 l39)]
                                  (fun cs40 => fun h41 => 
                                  ∃ n42 : Int, (cs40 = [V.one (Cell.int IntKind.i64 n42)]) ∧
                                  (ifT (!decide (n42 = 0))
                                    (Q [V.one (Cell.int IntKind.i64 n42)])
                                    (fun h43 =>
                                    ∃ l44 : Sl, (h43.read i19 4 1 = some [Cell.slice 1 l44]) ∧
                                    (ifT (decide ((↑l44.len : Int) > 0))
                                      (fun h45 =>
                                      ∃ n46 : Int, (h45.read i19 1 1 = some [Cell.int IntKind.i64 n46]) ∧
                                      (ifT (decide (n46 = 4))
                                        (Q [V.one (Cell.int IntKind.i64 3)])
                                        (x1 (IntKind.i64.wrap (n2 + 1)))) h45)
                                      (x1 (IntKind.i64.wrap (n2 + 1)))) h43)) h41) h38))
                              (fun x47 => fun h48 =>
                              ∃ s49 : ByteArray, (h48.read i19 7 1 = some [Cell.str s49]) ∧
                              (ifT (!decide (s49 = { data := #[] }))
                                (fun h50 =>
                                ∃ s51 : ByteArray, (h50.read i19 7 1 = some [Cell.str s51]) ∧
                                I 126 [V.one (Cell.str s51)]
                                  (fun cs52 => fun h53 => 
                                  ∃ b54 : Bool, (cs52 = [V.one (Cell.bool b54)]) ∧
                                  x47 (!b54) h53) h50)
                                (x47 false)) h48)))
                          (fun x55 => fun h56 =>
                          ∃ n57 : Int, (h56.read i19 10 1 = some [Cell.int IntKind.i64 n57]) ∧
                          I 109 [V.one (Cell.int IntKind.i64 n57)]
                            (fun cs58 => fun h59 => 
                            ∃ b60 : Bool, (cs58 = [V.one (Cell.bool b60)]) ∧
                            (ifT (!b60)
                              (x55 true)
                              (fun h61 =>
                              ∃ n62 : Int, (h61.read i19 11 1 = some [Cell.int IntKind.i64 n62]) ∧
                              ∃ n63 : Int, (h61.read i19 10 1 = some [Cell.int IntKind.i64 n63]) ∧
                              I 123 [V.one (Cell.int IntKind.i64 n62), V.one (Cell.int IntKind.i64 (IntKind.i64.wrap (n63 + 1))), V.one (Cell.int IntKind.i64 4321440)]
                                (fun cs64 => fun h65 => 
                                ∃ b66 : Bool, (cs64 = [V.one (Cell.bool b66)]) ∧
                                x55 (!b66) h65) h61)) h59) h56)))
                      (fun x67 => fun h68 =>
                      ∃ s69 : ByteArray, ∃ n70 : Int, ∃ n71 : Int, ∃ n72 : Int, ∃ l73 : Sl, ∃ n74 : Int, ∃ n75 : Int, ∃ s76 : ByteArray, ∃ b77 : Bool, ∃ n78 : Int, ∃ n79 : Int, ∃ n80 : Int, (h68.read i19 0 12 = some [Cell.str s69, Cell.int IntKind.i64 n70, Cell.int IntKind.i64 n71, Cell.int IntKind.i64 n72, Cell.slice 1 l73, Cell.int IntKind.i64 n74, Cell.int IntKind.i64 n75, Cell.str s76, Cell.bool b77, Cell.int IntKind.i64 n78, Cell.int IntKind.i64 n79, Cell.int IntKind.i64 n80]) ∧
                      I 148 [V.agg [Cell.str s69, Cell.int IntKind.i64 n70, Cell.int IntKind.i64 n71, Cell.int IntKind.i64 n72, Cell.slice 1 l73, Cell.int IntKind.i64 n74, Cell.int IntKind.i64 n75, Cell.str s76, Cell.bool b77, Cell.int IntKind.i64 n78, Cell.int IntKind.i64 n79, Cell.int IntKind.i64 n80]]
                        (fun cs81 => fun h82 => 
                        ∃ b83 : Bool, (cs81 = [V.one (Cell.bool b83)]) ∧
                        (ifT (!b83)
                          (x67 true)
                          (fun h84 =>
                          ∃ n85 : Int, (h84.read i19 5 1 = some [Cell.int IntKind.i64 n85]) ∧
                          I 123 [V.one (Cell.int IntKind.i64 n85), V.one (Cell.int IntKind.i64 0), V.one (Cell.int IntKind.i64 1000000000000)]
                            (fun cs86 => fun h87 => 
                            ∃ b88 : Bool, (cs86 = [V.one (Cell.bool b88)]) ∧
                            (ifT (!b88)
                              (x67 true)
                              (fun h89 =>
                              ∃ n90 : Int, (h89.read i19 6 1 = some [Cell.int IntKind.i64 n90]) ∧
                              I 123 [V.one (Cell.int IntKind.i64 n90), V.one (Cell.int IntKind.i64 0), V.one (Cell.int IntKind.i64 1000000000000)]
                                (fun cs91 => fun h92 => 
                                ∃ b93 : Bool, (cs91 = [V.one (Cell.bool b93)]) ∧
                                (ifT (!b93)
                                  (x67 true)
                                  (fun h94 =>
                                  ∃ n95 : Int, (h94.read i19 9 1 = some [Cell.int IntKind.i64 n95]) ∧
                                  I 123 [V.one (Cell.int IntKind.i64 n95), V.one (Cell.int IntKind.i64 0), V.one (Cell.int IntKind.i64 1000)]
                                    (fun cs96 => fun h97 => 
                                    ∃ b98 : Bool, (cs96 = [V.one (Cell.bool b98)]) ∧
                                    x67 (!b98) h97) h94)) h92) h89)) h87) h84)) h82) h68))) h33) h30)) h28) h26)) h24) h21)) h20)) h6)) h3)
        (Q [V.one (Cell.int IntKind.i64 0)])))
theorem den107 (I : FuncId → List V → Post → T) (l0 : Sl) (Q : Post) : denF Go.Proofs.Tryz.prog 0 (⟨[(1913470, 18014394214514688, [(32, tk Go.Proofs.Tryz.prog 4)]), (7653886, 295129890780843343872, [(54, tk Go.Proofs.Tryz.prog 4)]), (30615550, 301936306998477940850688, [(68, tk Go.Proofs.Tryz.prog 4)])], [(58, 19807040628566084398385985596, [(11, tk Go.Proofs.Tryz.prog 3)])]⟩) I 107 [V.one (Cell.slice 12 l0)] Q = vc107 I l0 Q := by kernel_rfl
/-- slices.ContainsFunc[[]handbill/api.Offer,handbill/api.Offer] -/
def vc50 (I : FuncId → List V → Post → T) (l0 : Sl) (p1 : Option (Nat × List (Nat × Nat))) (Q : Post) : T :=
  fun h2 =>
  I 46 [V.one (Cell.slice 12 l0), V.one (Cell.func p1)]
    (fun cs3 => fun h4 => 
    ∃ n5 : Int, (cs3 = [V.one (Cell.int IntKind.i64 n5)]) ∧
    Q [V.one (Cell.bool (decide (n5 ≥ 0)))] h4) h2
theorem den50 (I : FuncId → List V → Post → T) (l0 : Sl) (p1 : Option (Nat × List (Nat × Nat))) (Q : Post) : denF Go.Proofs.Tryz.prog 0 (⟨[], []⟩) I 50 [V.one (Cell.slice 12 l0), V.one (Cell.func p1)] Q = vc50 I l0 p1 Q := by kernel_rfl
/-- handbill/offer.isMoment -/
def vc109 (I : FuncId → List V → Post → T) (n0 : Int) (Q : Post) : T :=
  fun h1 =>
  I 123 [V.one (Cell.int IntKind.i64 n0), V.one (Cell.int IntKind.i64 0), V.one (Cell.int IntKind.i64 4321439)]
    (fun cs2 => fun h3 => 
    ∃ b4 : Bool, (cs2 = [V.one (Cell.bool b4)]) ∧
    Q [V.one (Cell.bool b4)] h3) h1
theorem den109 (I : FuncId → List V → Post → T) (n0 : Int) (Q : Post) : denF Go.Proofs.Tryz.prog 0 (⟨[], []⟩) I 109 [V.one (Cell.int IntKind.i64 n0)] Q = vc109 I n0 Q := by kernel_rfl
/-- handbill/offer.within -/
def vc123 (I : FuncId → List V → Post → T) (n0 : Int) (n1 : Int) (n2 : Int) (Q : Post) : T :=
  ifT (decide (n1 ≤ n0))
    (Q [V.one (Cell.bool (decide (n0 ≤ n2)))])
    (Q [V.one (Cell.bool false)])
theorem den123 (I : FuncId → List V → Post → T) (n0 : Int) (n1 : Int) (n2 : Int) (Q : Post) : denF Go.Proofs.Tryz.prog 0 (⟨[], []⟩) I 123 [V.one (Cell.int IntKind.i64 n0), V.one (Cell.int IntKind.i64 n1), V.one (Cell.int IntKind.i64 n2)] Q = vc123 I n0 n1 n2 Q := by kernel_rfl
/-- handbill/person.IsKey -/
def vc126 (I : FuncId → List V → Post → T) (s0 : ByteArray) (Q : Post) : T :=
  fun h1 =>
  I 173 [V.one (Cell.int IntKind.i64 (↑s0.size : Int)), V.one (Cell.int IntKind.i64 1), V.one (Cell.int IntKind.i64 40)]
    (fun cs2 => fun h3 => 
    ∃ b4 : Bool, (cs2 = [V.one (Cell.bool b4)]) ∧
    (ifT b4
      (fun h5 =>
      (((0 : Int) ≤ (0 : Int)) ∧
      0 < (↑s0.size : Int)) ∧
      I 174 [V.one (Cell.int IntKind.u8 (byteAt s0 0))]
        (fun cs6 => fun h7 => 
        ∃ b8 : Bool, (cs6 = [V.one (Cell.bool b8)]) ∧
        (ifT b8
          (fun h9 =>
          I 175 [V.one (Cell.str s0), V.one (Cell.func (some (176, [])))]
            (fun cs10 => fun h11 => 
            ∃ b12 : Bool, (cs10 = [V.one (Cell.bool b12)]) ∧
            Q [V.one (Cell.bool b12)] h11) h9)
          (Q [V.one (Cell.bool false)])) h7) h5)
      (Q [V.one (Cell.bool false)])) h3) h1
theorem den126 (I : FuncId → List V → Post → T) (s0 : ByteArray) (Q : Post) : denF Go.Proofs.Tryz.prog 0 (⟨[], []⟩) I 126 [V.one (Cell.str s0)] Q = vc126 I s0 Q := by kernel_rfl
/-- handbill/person.within -/
def vc173 (I : FuncId → List V → Post → T) (n0 : Int) (n1 : Int) (n2 : Int) (Q : Post) : T :=
  ifT (decide (n1 ≤ n0))
    (Q [V.one (Cell.bool (decide (n0 ≤ n2)))])
    (Q [V.one (Cell.bool false)])
theorem den173 (I : FuncId → List V → Post → T) (n0 : Int) (n1 : Int) (n2 : Int) (Q : Post) : denF Go.Proofs.Tryz.prog 0 (⟨[], []⟩) I 173 [V.one (Cell.int IntKind.i64 n0), V.one (Cell.int IntKind.i64 n1), V.one (Cell.int IntKind.i64 n2)] Q = vc173 I n0 n1 n2 Q := by kernel_rfl
/-- handbill/person.small -/
def vc174 (I : FuncId → List V → Post → T) (n0 : Int) (Q : Post) : T :=
  ifT (decide (97 ≤ n0))
    (Q [V.one (Cell.bool (decide (n0 ≤ 122)))])
    (Q [V.one (Cell.bool false)])
theorem den174 (I : FuncId → List V → Post → T) (n0 : Int) (Q : Post) : denF Go.Proofs.Tryz.prog 0 (⟨[], []⟩) I 174 [V.one (Cell.int IntKind.u8 n0)] Q = vc174 I n0 Q := by kernel_rfl
/-- handbill/person.all -/
def vc175 (I : FuncId → List V → Post → T) (s0 : ByteArray) (p1 : Option (Nat × List (Nat × Nat))) (Q : Post) : T :=
  loopK (A := Int) 0
    (fun x2 => fun n3 => ifT (decide (n3 < (↑s0.size : Int)))
      (fun h4 =>
      ((0 ≤ n3) ∧
      n3 < (↑s0.size : Int)) ∧
      (funK p1 (fun i5 => fun cs6 => fun h7 => 
      I i5 (V.one (Cell.int IntKind.u8 (byteAt s0 n3)) :: cs6)
        (fun cs8 => fun h9 => 
        ∃ b10 : Bool, (cs8 = [V.one (Cell.bool b10)]) ∧
        (ifT (!b10)
          (Q [V.one (Cell.bool false)])
          (x2 (IntKind.i64.wrap (n3 + 1)))) h9) h7)) h4)
      (Q [V.one (Cell.bool true)]))
theorem den175 (I : FuncId → List V → Post → T) (s0 : ByteArray) (p1 : Option (Nat × List (Nat × Nat))) (Q : Post) : denF Go.Proofs.Tryz.prog 0 (⟨[], [(26, 261936, [(8, tk Go.Proofs.Tryz.prog 3)])]⟩) I 175 [V.one (Cell.str s0), V.one (Cell.func p1)] Q = vc175 I s0 p1 Q := by kernel_rfl
/-- handbill/person.IsKey$1 -/
def vc176 (I : FuncId → List V → Post → T) (n0 : Int) (Q : Post) : T :=
  fun h1 =>
  I 174 [V.one (Cell.int IntKind.u8 n0)]
    (fun cs2 => fun h3 => 
    ∃ b4 : Bool, (cs2 = [V.one (Cell.bool b4)]) ∧
    (ifT b4
      (Q [V.one (Cell.bool true)])
      (fun h5 =>
      I 177 [V.one (Cell.int IntKind.u8 n0)]
        (fun cs6 => fun h7 => 
        ∃ b8 : Bool, (cs6 = [V.one (Cell.bool b8)]) ∧
        (ifT b8
          (Q [V.one (Cell.bool true)])
          (ifT (decide (n0 = 45))
            (Q [V.one (Cell.bool true)])
            (Q [V.one (Cell.bool (decide (n0 = 95)))]))) h7) h5)) h3) h1
theorem den176 (I : FuncId → List V → Post → T) (n0 : Int) (Q : Post) : denF Go.Proofs.Tryz.prog 0 (⟨[], []⟩) I 176 [V.one (Cell.int IntKind.u8 n0)] Q = vc176 I n0 Q := by kernel_rfl
/-- handbill/person.digit -/
def vc177 (I : FuncId → List V → Post → T) (n0 : Int) (Q : Post) : T :=
  ifT (decide (48 ≤ n0))
    (Q [V.one (Cell.bool (decide (n0 ≤ 57)))])
    (Q [V.one (Cell.bool false)])
theorem den177 (I : FuncId → List V → Post → T) (n0 : Int) (Q : Post) : denF Go.Proofs.Tryz.prog 0 (⟨[], []⟩) I 177 [V.one (Cell.int IntKind.u8 n0)] Q = vc177 I n0 Q := by kernel_rfl
/-- handbill/offer.CheckOffers$1 -/
def vc147 (I : FuncId → List V → Post → T) (s0 : ByteArray) (n1 : Int) (n2 : Int) (n3 : Int) (l4 : Sl) (n5 : Int) (n6 : Int) (s7 : ByteArray) (b8 : Bool) (n9 : Int) (n10 : Int) (n11 : Int) (i12 : Nat) (i13 : Nat) (Q : Post) : T :=
  fun h14 =>
  ∃ s15 : ByteArray, (h14.read i12 (i13 + 0) 1 = some [Cell.str s15]) ∧
  Q [V.one (Cell.bool (decide (s0 = s15)))] h14
theorem den147 (I : FuncId → List V → Post → T) (s0 : ByteArray) (n1 : Int) (n2 : Int) (n3 : Int) (l4 : Sl) (n5 : Int) (n6 : Int) (s7 : ByteArray) (b8 : Bool) (n9 : Int) (n10 : Int) (n11 : Int) (i12 : Nat) (i13 : Nat) (Q : Post) : denF Go.Proofs.Tryz.prog 4 (⟨[], []⟩) I 147 [V.agg [Cell.str s0, Cell.int IntKind.i64 n1, Cell.int IntKind.i64 n2, Cell.int IntKind.i64 n3, Cell.slice 1 l4, Cell.int IntKind.i64 n5, Cell.int IntKind.i64 n6, Cell.str s7, Cell.bool b8, Cell.int IntKind.i64 n9, Cell.int IntKind.i64 n10, Cell.int IntKind.i64 n11], V.one (Cell.ptr (some (i12, i13)))] Q = vc147 I s0 n1 n2 n3 l4 n5 n6 s7 b8 n9 n10 n11 i12 i13 Q := by kernel_rfl
/-- handbill/offer.amounts -/
def vc148 (I : FuncId → List V → Post → T) (s0 : ByteArray) (n1 : Int) (n2 : Int) (n3 : Int) (l4 : Sl) (n5 : Int) (n6 : Int) (s7 : ByteArray) (b8 : Bool) (n9 : Int) (n10 : Int) (n11 : Int) (Q : Post) : T :=
  ifT (decide (n1 = 1))
    (joinK (A := Bool)
      (fun b12 => fun h13 => 
      Q [V.one (Cell.bool b12)] h13)
      (fun x14 => fun h15 => 
      I 123 [V.one (Cell.int IntKind.i64 n2), V.one (Cell.int IntKind.i64 1), V.one (Cell.int IntKind.i64 100)]
        (fun cs16 => fun h17 => 
        ∃ b18 : Bool, (cs16 = [V.one (Cell.bool b18)]) ∧
        (ifT b18
          (x14 (decide (n3 = 0)))
          (x14 false)) h17) h15))
    (ifT (decide (n1 = 3))
      (joinK (A := Bool)
        (fun b19 => fun h20 => 
        Q [V.one (Cell.bool b19)] h20)
        (fun x21 => fun h22 => 
        I 123 [V.one (Cell.int IntKind.i64 n2), V.one (Cell.int IntKind.i64 1), V.one (Cell.int IntKind.i64 20)]
          (fun cs23 => fun h24 => 
          ∃ b25 : Bool, (cs23 = [V.one (Cell.bool b25)]) ∧
          (ifT b25
            (fun h26 =>
            I 123 [V.one (Cell.int IntKind.i64 n3), V.one (Cell.int IntKind.i64 1), V.one (Cell.int IntKind.i64 20)]
              (fun cs27 => fun h28 => 
              ∃ b29 : Bool, (cs27 = [V.one (Cell.bool b29)]) ∧
              x21 b29 h28) h26)
            (x21 false)) h24) h22))
      (fun h30 =>
      I 123 [V.one (Cell.int IntKind.i64 n2), V.one (Cell.int IntKind.i64 1), V.one (Cell.int IntKind.i64 1000000000000)]
        (fun cs31 => fun h32 => 
        ∃ b33 : Bool, (cs31 = [V.one (Cell.bool b33)]) ∧
        (ifT b33
          (Q [V.one (Cell.bool (decide (n3 = 0)))])
          (Q [V.one (Cell.bool false)])) h32) h30))
theorem den148 (I : FuncId → List V → Post → T) (s0 : ByteArray) (n1 : Int) (n2 : Int) (n3 : Int) (l4 : Sl) (n5 : Int) (n6 : Int) (s7 : ByteArray) (b8 : Bool) (n9 : Int) (n10 : Int) (n11 : Int) (Q : Post) : denF Go.Proofs.Tryz.prog 2 (⟨[(212, 32644, [(2, tk Go.Proofs.Tryz.prog 4)]), (860, 33423364, [(2, tk Go.Proofs.Tryz.prog 4)])], []⟩) I 148 [V.agg [Cell.str s0, Cell.int IntKind.i64 n1, Cell.int IntKind.i64 n2, Cell.int IntKind.i64 n3, Cell.slice 1 l4, Cell.int IntKind.i64 n5, Cell.int IntKind.i64 n6, Cell.str s7, Cell.bool b8, Cell.int IntKind.i64 n9, Cell.int IntKind.i64 n10, Cell.int IntKind.i64 n11]] Q = vc148 I s0 n1 n2 n3 l4 n5 n6 s7 b8 n9 n10 n11 Q := by kernel_rfl
/-- handbill/offer.checkTags -/
def vc149 (I : FuncId → List V → Post → T) (l0 : Sl) (Q : Post) : T :=
  ifT (decide ((↑l0.len : Int) > 10))
    (Q [V.one (Cell.int IntKind.i64 2)])
    (loopK (A := Int) 0
      (fun x1 => fun n2 => ifT (decide (n2 < (↑l0.len : Int)))
        (fun h3 =>
        ((0 ≤ n2) ∧
        n2 < (↑l0.len : Int)) ∧
        (derefK l0.a (fun i4 => fun i5 => fun h6 =>
        ∃ s7 : ByteArray, (h6.read i4 (i5 + n2.toNat * 1) 1 = some [Cell.str s7]) ∧
        I 126 [V.one (Cell.str s7)]
          (fun cs8 => fun h9 => 
          ∃ b10 : Bool, (cs8 = [V.one (Cell.bool b10)]) ∧
          (ifT (!b10)
            (Q [V.one (Cell.int IntKind.i64 5)])
            (ifT (decide (n2 > 0))
              (fun h11 =>
              ((0 ≤ IntKind.i64.wrap (n2 - 1)) ∧
              IntKind.i64.wrap (n2 - 1) < (↑l0.len : Int)) ∧
              (derefK l0.a (fun i12 => fun i13 => fun h14 =>
              ∃ s15 : ByteArray, (h14.read i12 (i13 + (IntKind.i64.wrap (n2 - 1)).toNat * 1) 1 = some [Cell.str s15]) ∧
              (ifT (Op.bytesLess s7.toList s15.toList || decide (s7 = s15))
                (Q [V.one (Cell.int IntKind.i64 7)])
                (x1 (IntKind.i64.wrap (n2 + 1)))) h14)) h11)
              (x1 (IntKind.i64.wrap (n2 + 1))))) h9) h6)) h3)
        (Q [V.one (Cell.int IntKind.i64 0)])))
theorem den149 (I : FuncId → List V → Post → T) (l0 : Sl) (Q : Post) : denF Go.Proofs.Tryz.prog 0 (⟨[], [(58, 4294966300, [(10, tk Go.Proofs.Tryz.prog 3)])]⟩) I 149 [V.one (Cell.slice 1 l0)] Q = vc149 I l0 Q := by kernel_rfl
/-- handbill/offer.CheckBasket -/
def vc108 (I : FuncId → List V → Post → T) (l0 : Sl) (n1 : Int) (Q : Post) : T :=
  ifT (decide ((↑l0.len : Int) > 50))
    (Q [V.one (Cell.int IntKind.i64 2)])
    (loopK (A := Int) 0
      (fun x2 => fun n3 => ifT (decide (n3 < (↑l0.len : Int)))
        (fun h4 =>
        ((0 ≤ n3) ∧
        n3 < (↑l0.len : Int)) ∧
        (derefK l0.a (fun i5 => fun i6 => fun h7 =>
        ∃ s8 : ByteArray, ∃ n9 : Int, ∃ n10 : Int, ∃ l11 : Sl, (h7.read i5 (i6 + n3.toNat * 4) 4 = some [Cell.str s8, Cell.int IntKind.i64 n9, Cell.int IntKind.i64 n10, Cell.slice 1 l11]) ∧
        (newK (.cells false [Cell.str ByteArray.empty, Cell.int IntKind.i64 0, Cell.int IntKind.i64 0, Cell.slice 1 { a := none, len := 0 }]) (fun i12 => fun h13 => 
        (storeK [] i12 0 [Cell.str s8, Cell.int IntKind.i64 n9, Cell.int IntKind.i64 n10, Cell.slice 1 l11] (fun h14 =>
        ∃ s15 : ByteArray, (h14.read i12 0 1 = some [Cell.str s15]) ∧
        I 126 [V.one (Cell.str s15)]
          (fun cs16 => fun h17 => 
          ∃ b18 : Bool, (cs16 = [V.one (Cell.bool b18)]) ∧
          (ifT (!b18)
            (Q [V.one (Cell.int IntKind.i64 5)])
            (fun h19 =>
            (((0 : Int) ≤ (0 : Int)) ∧
            (0 ≤ n3) ∧
            n3 ≤ (↑l0.len : Int)) ∧
            I 115 [V.one (Cell.slice 4 (l0.sub 4 0 n3.toNat)), V.one (Cell.func (some (150, [(i12, 0)])))]
              (fun cs20 => fun h21 => 
              ∃ b22 : Bool, (cs20 = [V.one (Cell.bool b22)]) ∧
              (ifT b22
                (Q [V.one (Cell.int IntKind.i64 6)])
                (joinK (A := Bool)
                  (fun b23 => ifT b23
                    (Q [V.one (Cell.int IntKind.i64 1)])
                    (fun h24 =>
                    ∃ l25 : Sl, (h24.read i12 3 1 = some [Cell.slice 1 l25]) ∧
                    I 149 [V.one (Cell.slice 1 l25)]
                      (fun cs26 => fun h27 => 
                      ∃ n28 : Int, (cs26 = [V.one (Cell.int IntKind.i64 n28)]) ∧
                      (ifT (!decide (n28 = 0))
                        (Q [V.one (Cell.int IntKind.i64 n28)])
                        (x2 (IntKind.i64.wrap (n3 + 1)))) h27) h24))
                  (fun x29 => fun h30 =>
                  ∃ n31 : Int, (h30.read i12 1 1 = some [Cell.int IntKind.i64 n31]) ∧
                  I 123 [V.one (Cell.int IntKind.i64 n31), V.one (Cell.int IntKind.i64 0), V.one (Cell.int IntKind.i64 10000000)]
                    (fun cs32 => fun h33 => 
                    ∃ b34 : Bool, (cs32 = [V.one (Cell.bool b34)]) ∧
                    (ifT (!b34)
                      (x29 true)
                      (fun h35 =>
                      ∃ n36 : Int, (h35.read i12 2 1 = some [Cell.int IntKind.i64 n36]) ∧
                      I 123 [V.one (Cell.int IntKind.i64 n36), V.one (Cell.int IntKind.i64 1), V.one (Cell.int IntKind.i64 100)]
                        (fun cs37 => fun h38 => 
                        ∃ b39 : Bool, (cs37 = [V.one (Cell.bool b39)]) ∧
                        x29 (!b39) h38) h35)) h33) h30))) h21) h19)) h17) h14)) h13)) h7)) h4)
        (fun h40 =>
        I 123 [V.one (Cell.int IntKind.i64 n1), V.one (Cell.int IntKind.i64 0), V.one (Cell.int IntKind.i64 1000000000000)]
          (fun cs41 => fun h42 => 
          ∃ b43 : Bool, (cs41 = [V.one (Cell.bool b43)]) ∧
          (ifT (!b43)
            (Q [V.one (Cell.int IntKind.i64 1)])
            (Q [V.one (Cell.int IntKind.i64 0)])) h42) h40)))
theorem den108 (I : FuncId → List V → Post → T) (l0 : Sl) (n1 : Int) (Q : Post) : denF Go.Proofs.Tryz.prog 2 (⟨[(478366, 2197949513728, [(30, tk Go.Proofs.Tryz.prog 4)])], [(58, 281474976702524, [(13, tk Go.Proofs.Tryz.prog 3)])]⟩) I 108 [V.agg [Cell.slice 4 l0, Cell.int IntKind.i64 n1]] Q = vc108 I l0 n1 Q := by kernel_rfl
/-- slices.ContainsFunc[[]handbill/api.Item,handbill/api.Item] -/
def vc115 (I : FuncId → List V → Post → T) (l0 : Sl) (p1 : Option (Nat × List (Nat × Nat))) (Q : Post) : T :=
  fun h2 =>
  I 157 [V.one (Cell.slice 4 l0), V.one (Cell.func p1)]
    (fun cs3 => fun h4 => 
    ∃ n5 : Int, (cs3 = [V.one (Cell.int IntKind.i64 n5)]) ∧
    Q [V.one (Cell.bool (decide (n5 ≥ 0)))] h4) h2
theorem den115 (I : FuncId → List V → Post → T) (l0 : Sl) (p1 : Option (Nat × List (Nat × Nat))) (Q : Post) : denF Go.Proofs.Tryz.prog 0 (⟨[], []⟩) I 115 [V.one (Cell.slice 4 l0), V.one (Cell.func p1)] Q = vc115 I l0 p1 Q := by kernel_rfl
/-- slices.IndexFunc[[]handbill/api.Item,handbill/api.Item] -/
def vc157 (I : FuncId → List V → Post → T) (l0 : Sl) (p1 : Option (Nat × List (Nat × Nat))) (Q : Post) : T :=
  loopK (A := Int) 0
    (fun x2 => fun n3 => ifT (decide (n3 < (↑l0.len : Int)))
      (fun h4 =>
      ((0 ≤ n3) ∧
      n3 < (↑l0.len : Int)) ∧
      (derefK l0.a (fun i5 => fun i6 => fun h7 =>
      ∃ s8 : ByteArray, ∃ n9 : Int, ∃ n10 : Int, ∃ l11 : Sl, (h7.read i5 (i6 + n3.toNat * 4) 4 = some [Cell.str s8, Cell.int IntKind.i64 n9, Cell.int IntKind.i64 n10, Cell.slice 1 l11]) ∧
      (funK p1 (fun i12 => fun cs13 => fun h14 => 
      I i12 (V.agg [Cell.str s8, Cell.int IntKind.i64 n9, Cell.int IntKind.i64 n10, Cell.slice 1 l11] :: cs13)
        (fun cs15 => fun h16 => 
        ∃ b17 : Bool, (cs15 = [V.one (Cell.bool b17)]) ∧
        (ifT b17
          (Q [V.one (Cell.int IntKind.i64 n3)])
          (x2 (IntKind.i64.wrap (n3 + 1)))) h16) h14)) h7)) h4)
      (Q [V.one (Cell.int IntKind.i64 (-1))]))
theorem den157 (I : FuncId → List V → Post → T) (l0 : Sl) (p1 : Option (Nat × List (Nat × Nat))) (Q : Post) : denF Go.Proofs.Tryz.prog 0 (⟨[], [(26, 524080, [(8, tk Go.Proofs.Tryz.prog 3)])]⟩) I 157 [V.one (Cell.slice 4 l0), V.one (Cell.func p1)] Q = vc157 I l0 p1 Q := by kernel_rfl
/-- handbill/offer.CheckBasket$1 -/
def vc150 (I : FuncId → List V → Post → T) (s0 : ByteArray) (n1 : Int) (n2 : Int) (l3 : Sl) (i4 : Nat) (i5 : Nat) (Q : Post) : T :=
  fun h6 =>
  ∃ s7 : ByteArray, (h6.read i4 (i5 + 0) 1 = some [Cell.str s7]) ∧
  Q [V.one (Cell.bool (decide (s0 = s7)))] h6
theorem den150 (I : FuncId → List V → Post → T) (s0 : ByteArray) (n1 : Int) (n2 : Int) (l3 : Sl) (i4 : Nat) (i5 : Nat) (Q : Post) : denF Go.Proofs.Tryz.prog 4 (⟨[], []⟩) I 150 [V.agg [Cell.str s0, Cell.int IntKind.i64 n1, Cell.int IntKind.i64 n2, Cell.slice 1 l3], V.one (Cell.ptr (some (i4, i5)))] Q = vc150 I s0 n1 n2 l3 i4 i5 Q := by kernel_rfl
/-- handbill/offer.together -/
def vc49 (I : FuncId → List V → Post → T) (l0 : Sl) (Q : Post) : T :=
  fun h1 =>
  (newK (YtfemminjhecocaaGreatDoorVc.Obj.map []) (fun i2 => loopK (A := Int) 0
    (fun x3 => fun n4 => ifT (decide (n4 < (↑l0.len : Int)))
      (fun h5 =>
      ((0 ≤ n4) ∧
      n4 < (↑l0.len : Int)) ∧
      (derefK l0.a (fun i6 => fun i7 => fun h8 =>
      ∃ s9 : ByteArray, ∃ n10 : Int, ∃ n11 : Int, ∃ n12 : Int, ∃ l13 : Sl, ∃ n14 : Int, ∃ n15 : Int, ∃ s16 : ByteArray, ∃ b17 : Bool, ∃ n18 : Int, ∃ n19 : Int, ∃ n20 : Int, (h8.read i6 (i7 + n4.toNat * 12) 12 = some [Cell.str s9, Cell.int IntKind.i64 n10, Cell.int IntKind.i64 n11, Cell.int IntKind.i64 n12, Cell.slice 1 l13, Cell.int IntKind.i64 n14, Cell.int IntKind.i64 n15, Cell.str s16, Cell.bool b17, Cell.int IntKind.i64 n18, Cell.int IntKind.i64 n19, Cell.int IntKind.i64 n20]) ∧
      (ifT b17
        (ifT (decide ((↑l0.len : Int) > 1))
          (Q [V.one (Cell.bool false)])
          (ifT (!decide (s16 = { data := #[] }))
            (fun h21 =>
            ∃ b22 : Bool, ∃ b23 : Bool, (∃ cs24 : List (V × V), (mapOf h21 (some i2) = some cs24) ∧
            mapGet (V.one (Cell.str s16)) (V.one (Cell.bool false)) cs24 = some (V.one (Cell.bool b22), b23)) ∧
            (ifT b22
              (Q [V.one (Cell.bool false)])
              (fun h25 =>
              (mapK [] (some i2) (V.one (Cell.str s16)) (V.one (Cell.bool true)) (x3 (IntKind.i64.wrap (n4 + 1)))) h25)) h21)
            (fun h26 =>
            (mapK [] (some i2) (V.one (Cell.str s16)) (V.one (Cell.bool true)) (x3 (IntKind.i64.wrap (n4 + 1)))) h26)))
        (ifT (!decide (s16 = { data := #[] }))
          (fun h27 =>
          ∃ b28 : Bool, ∃ b29 : Bool, (∃ cs30 : List (V × V), (mapOf h27 (some i2) = some cs30) ∧
          mapGet (V.one (Cell.str s16)) (V.one (Cell.bool false)) cs30 = some (V.one (Cell.bool b28), b29)) ∧
          (ifT b28
            (Q [V.one (Cell.bool false)])
            (fun h31 =>
            (mapK [] (some i2) (V.one (Cell.str s16)) (V.one (Cell.bool true)) (x3 (IntKind.i64.wrap (n4 + 1)))) h31)) h27)
          (fun h32 =>
          (mapK [] (some i2) (V.one (Cell.str s16)) (V.one (Cell.bool true)) (x3 (IntKind.i64.wrap (n4 + 1)))) h32))) h8)) h5)
      (Q [V.one (Cell.bool true)])))) h1
theorem den49 (I : FuncId → List V → Post → T) (l0 : Sl) (Q : Post) : denF Go.Proofs.Tryz.prog 32 (⟨[], [(58, 34359737892, [(9, tk Go.Proofs.Tryz.prog 3)])]⟩) I 49 [V.one (Cell.slice 12 l0)] Q = vc49 I l0 Q := by kernel_rfl
/-- handbill/offer.Price$1 -/
def vc51 (I : FuncId → List V → Post → T) (s0 : ByteArray) (n1 : Int) (n2 : Int) (n3 : Int) (l4 : Sl) (n5 : Int) (n6 : Int) (s7 : ByteArray) (b8 : Bool) (n9 : Int) (n10 : Int) (n11 : Int) (i12 : Nat) (i13 : Nat) (i14 : Nat) (i15 : Nat) (Q : Post) : T :=
  fun h16 =>
  ∃ l17 : Sl, ∃ n18 : Int, (h16.read i12 i13 2 = some [Cell.slice 4 l17, Cell.int IntKind.i64 n18]) ∧
  ∃ n19 : Int, (h16.read i14 i15 1 = some [Cell.int IntKind.i64 n19]) ∧
  I 52 [V.agg [Cell.str s0, Cell.int IntKind.i64 n1, Cell.int IntKind.i64 n2, Cell.int IntKind.i64 n3, Cell.slice 1 l4, Cell.int IntKind.i64 n5, Cell.int IntKind.i64 n6, Cell.str s7, Cell.bool b8, Cell.int IntKind.i64 n9, Cell.int IntKind.i64 n10, Cell.int IntKind.i64 n11], V.agg [Cell.slice 4 l17, Cell.int IntKind.i64 n18], V.one (Cell.int IntKind.i64 n19)]
    (fun cs20 => fun h21 => 
    ∃ n22 : Int, (cs20 = [V.one (Cell.int IntKind.i64 n22)]) ∧
    Q [V.one (Cell.bool (!decide (n22 = 0)))] h21) h16
theorem den51 (I : FuncId → List V → Post → T) (s0 : ByteArray) (n1 : Int) (n2 : Int) (n3 : Int) (l4 : Sl) (n5 : Int) (n6 : Int) (s7 : ByteArray) (b8 : Bool) (n9 : Int) (n10 : Int) (n11 : Int) (i12 : Nat) (i13 : Nat) (i14 : Nat) (i15 : Nat) (Q : Post) : denF Go.Proofs.Tryz.prog 8 (⟨[], []⟩) I 51 [V.agg [Cell.str s0, Cell.int IntKind.i64 n1, Cell.int IntKind.i64 n2, Cell.int IntKind.i64 n3, Cell.slice 1 l4, Cell.int IntKind.i64 n5, Cell.int IntKind.i64 n6, Cell.str s7, Cell.bool b8, Cell.int IntKind.i64 n9, Cell.int IntKind.i64 n10, Cell.int IntKind.i64 n11], V.one (Cell.ptr (some (i12, i13))), V.one (Cell.ptr (some (i14, i15)))] Q = vc51 I s0 n1 n2 n3 l4 n5 n6 s7 b8 n9 n10 n11 i12 i13 i14 i15 Q := by kernel_rfl
/-- handbill/offer.fits -/
def vc52 (I : FuncId → List V → Post → T) (s0 : ByteArray) (n1 : Int) (n2 : Int) (n3 : Int) (l4 : Sl) (n5 : Int) (n6 : Int) (s7 : ByteArray) (b8 : Bool) (n9 : Int) (n10 : Int) (n11 : Int) (l12 : Sl) (n13 : Int) (n14 : Int) (Q : Post) : T :=
  loopK (A := Int × Int) ((0, 0))
    (fun x15 => uncur fun n16 n17 => ifT (decide (n17 < (↑l12.len : Int)))
      (fun h18 =>
      ((0 ≤ n17) ∧
      n17 < (↑l12.len : Int)) ∧
      (derefK l12.a (fun i19 => fun i20 => fun h21 =>
      ∃ s22 : ByteArray, ∃ n23 : Int, ∃ n24 : Int, ∃ l25 : Sl, (h21.read i19 (i20 + n17.toNat * 4) 4 = some [Cell.str s22, Cell.int IntKind.i64 n23, Cell.int IntKind.i64 n24, Cell.slice 1 l25]) ∧
      (ifT (decide (n1 = 4))
        (x15 ((IntKind.i64.wrap (n16 + IntKind.i64.wrap (n23 * n24)), IntKind.i64.wrap (n17 + 1))))
        (fun h26 =>
        I 110 [V.agg [Cell.str s0, Cell.int IntKind.i64 n1, Cell.int IntKind.i64 n2, Cell.int IntKind.i64 n3, Cell.slice 1 l4, Cell.int IntKind.i64 n5, Cell.int IntKind.i64 n6, Cell.str s7, Cell.bool b8, Cell.int IntKind.i64 n9, Cell.int IntKind.i64 n10, Cell.int IntKind.i64 n11], V.agg [Cell.str s22, Cell.int IntKind.i64 n23, Cell.int IntKind.i64 n24, Cell.slice 1 l25]]
          (fun cs27 => fun h28 => 
          ∃ b29 : Bool, (cs27 = [V.one (Cell.bool b29)]) ∧
          (ifT b29
            (x15 ((IntKind.i64.wrap (n16 + IntKind.i64.wrap (n23 * n24)), IntKind.i64.wrap (n17 + 1))))
            (x15 ((n16, IntKind.i64.wrap (n17 + 1))))) h28) h26)) h21)) h18)
      (joinK (A := Bool)
        (fun b30 => ifT (decide (n14 < n10))
          (Q [V.one (Cell.int IntKind.i64 1)])
          (ifT (decide (n14 ≥ n11))
            (Q [V.one (Cell.int IntKind.i64 2)])
            (ifT b30
              (Q [V.one (Cell.int IntKind.i64 3)])
              (ifT (decide (n16 < n5))
                (Q [V.one (Cell.int IntKind.i64 4)])
                (Q [V.one (Cell.int IntKind.i64 0)])))))
        (fun x31 => ifT (decide (n1 = 4))
          (x31 (decide (n13 = 0)))
          (x31 (decide (n16 = 0))))))
theorem den52 (I : FuncId → List V → Post → T) (s0 : ByteArray) (n1 : Int) (n2 : Int) (n3 : Int) (l4 : Sl) (n5 : Int) (n6 : Int) (s7 : ByteArray) (b8 : Bool) (n9 : Int) (n10 : Int) (n11 : Int) (l12 : Sl) (n13 : Int) (n14 : Int) (Q : Post) : denF Go.Proofs.Tryz.prog 536 (⟨[(125, 3848290698240, [(10, tk Go.Proofs.Tryz.prog 4)])], [(58, 17179853440, [(7, tk Go.Proofs.Tryz.prog 3), (14, tk Go.Proofs.Tryz.prog 3)])]⟩) I 52 [V.agg [Cell.str s0, Cell.int IntKind.i64 n1, Cell.int IntKind.i64 n2, Cell.int IntKind.i64 n3, Cell.slice 1 l4, Cell.int IntKind.i64 n5, Cell.int IntKind.i64 n6, Cell.str s7, Cell.bool b8, Cell.int IntKind.i64 n9, Cell.int IntKind.i64 n10, Cell.int IntKind.i64 n11], V.agg [Cell.slice 4 l12, Cell.int IntKind.i64 n13], V.one (Cell.int IntKind.i64 n14)] Q = vc52 I s0 n1 n2 n3 l4 n5 n6 s7 b8 n9 n10 n11 l12 n13 n14 Q := by kernel_rfl
/-- handbill/offer.matches -/
def vc110 (I : FuncId → List V → Post → T) (s0 : ByteArray) (n1 : Int) (n2 : Int) (n3 : Int) (l4 : Sl) (n5 : Int) (n6 : Int) (s7 : ByteArray) (b8 : Bool) (n9 : Int) (n10 : Int) (n11 : Int) (s12 : ByteArray) (n13 : Int) (n14 : Int) (l15 : Sl) (Q : Post) : T :=
  fun h16 =>
  (newK (.cells false [Cell.str s12, Cell.int IntKind.i64 n13, Cell.int IntKind.i64 n14, Cell.slice 1 l15]) (fun i17 => ifT (decide ((↑l4.len : Int) = 0))
    (Q [V.one (Cell.bool true)])
    (fun h18 =>
    I 104 [V.one (Cell.slice 1 l4), V.one (Cell.func (some (151, [(i17, 0)])))]
      (fun cs19 => fun h20 => 
      ∃ b21 : Bool, (cs19 = [V.one (Cell.bool b21)]) ∧
      Q [V.one (Cell.bool b21)] h20) h18))) h16
theorem den110 (I : FuncId → List V → Post → T) (s0 : ByteArray) (n1 : Int) (n2 : Int) (n3 : Int) (l4 : Sl) (n5 : Int) (n6 : Int) (s7 : ByteArray) (b8 : Bool) (n9 : Int) (n10 : Int) (n11 : Int) (s12 : ByteArray) (n13 : Int) (n14 : Int) (l15 : Sl) (Q : Post) : denF Go.Proofs.Tryz.prog 4 (⟨[], []⟩) I 110 [V.agg [Cell.str s0, Cell.int IntKind.i64 n1, Cell.int IntKind.i64 n2, Cell.int IntKind.i64 n3, Cell.slice 1 l4, Cell.int IntKind.i64 n5, Cell.int IntKind.i64 n6, Cell.str s7, Cell.bool b8, Cell.int IntKind.i64 n9, Cell.int IntKind.i64 n10, Cell.int IntKind.i64 n11], V.agg [Cell.str s12, Cell.int IntKind.i64 n13, Cell.int IntKind.i64 n14, Cell.slice 1 l15]] Q = vc110 I s0 n1 n2 n3 l4 n5 n6 s7 b8 n9 n10 n11 s12 n13 n14 l15 Q := by kernel_rfl
/-- handbill/offer.matches$1 -/
def vc151 (I : FuncId → List V → Post → T) (s0 : ByteArray) (i1 : Nat) (i2 : Nat) (Q : Post) : T :=
  fun h3 =>
  ∃ l4 : Sl, (h3.read i1 (i2 + 3) 1 = some [Cell.slice 1 l4]) ∧
  I 106 [V.one (Cell.slice 1 l4), V.one (Cell.str s0)]
    (fun cs5 => fun h6 => 
    ∃ b7 : Bool, (cs5 = [V.one (Cell.bool b7)]) ∧
    Q [V.one (Cell.bool b7)] h6) h3
theorem den151 (I : FuncId → List V → Post → T) (s0 : ByteArray) (i1 : Nat) (i2 : Nat) (Q : Post) : denF Go.Proofs.Tryz.prog 0 (⟨[], []⟩) I 151 [V.one (Cell.str s0), V.one (Cell.ptr (some (i1, i2)))] Q = vc151 I s0 i1 i2 Q := by kernel_rfl
/-- handbill/offer.price -/
def vc53 (I : FuncId → List V → Post → T) (l0 : Sl) (l1 : Sl) (n2 : Int) (Q : Post) : T :=
  fun h3 =>
  (newK (.cells false [Cell.slice 4 l1, Cell.int IntKind.i64 n2, Cell.slice 1 { a := none, len := 0 }, Cell.int IntKind.i64 n2]) (fun i4 => loopK (A := Int) 0
    (fun x5 => fun n6 => ifT (decide (n6 < (↑l1.len : Int)))
      (fun h7 =>
      ((0 ≤ n6) ∧
      n6 < (↑l1.len : Int)) ∧
      (derefK l1.a (fun i8 => fun i9 => fun h10 =>
      ∃ s11 : ByteArray, ∃ n12 : Int, ∃ n13 : Int, ∃ l14 : Sl, (h10.read i8 (i9 + n6.toNat * 4) 4 = some [Cell.str s11, Cell.int IntKind.i64 n12, Cell.int IntKind.i64 n13, Cell.slice 1 l14]) ∧
      ∃ l15 : Sl, (h10.read i4 2 1 = some [Cell.slice 1 l15]) ∧
      (appendTo [] 1 8 l15 1 [Cell.int IntKind.i64 (IntKind.i64.wrap (n12 * n13))] (fun l16 => fun h17 =>
      (storeK [] i4 2 [Cell.slice 1 l16] (x5 (IntKind.i64.wrap (n6 + 1)))) h17)) h10)) h7)
      (fun h18 =>
      I 111 [V.one (Cell.slice 12 l0)]
        (fun cs19 => fun h20 => 
        ∃ l21 : Sl, (cs19 = [V.one (Cell.slice 12 l21)]) ∧
        (loopK (A := (Sl × Int × Sl × Int × PUnit) × Int) ((({ a := none, len := 0 }, 0, { a := none, len := 0 }, 0, ()), 0))
          (fun x22 => uncur (uncur fun l23 => uncur fun n24 => uncur fun l25 => uncur fun n26 x27 => fun n28 => ifT (decide (n28 < (↑l21.len : Int)))
            (fun h29 =>
            ((0 ≤ n28) ∧
            n28 < (↑l21.len : Int)) ∧
            (derefK l21.a (fun i30 => fun i31 => fun h32 =>
            ∃ s33 : ByteArray, ∃ n34 : Int, ∃ n35 : Int, ∃ n36 : Int, ∃ l37 : Sl, ∃ n38 : Int, ∃ n39 : Int, ∃ s40 : ByteArray, ∃ b41 : Bool, ∃ n42 : Int, ∃ n43 : Int, ∃ n44 : Int, (h32.read i30 (i31 + n28.toNat * 12) 12 = some [Cell.str s33, Cell.int IntKind.i64 n34, Cell.int IntKind.i64 n35, Cell.int IntKind.i64 n36, Cell.slice 1 l37, Cell.int IntKind.i64 n38, Cell.int IntKind.i64 n39, Cell.str s40, Cell.bool b41, Cell.int IntKind.i64 n42, Cell.int IntKind.i64 n43, Cell.int IntKind.i64 n44]) ∧
            I 112 [V.one (Cell.ptr (some (i4, 0))), V.agg [Cell.str s33, Cell.int IntKind.i64 n34, Cell.int IntKind.i64 n35, Cell.int IntKind.i64 n36, Cell.slice 1 l37, Cell.int IntKind.i64 n38, Cell.int IntKind.i64 n39, Cell.str s40, Cell.bool b41, Cell.int IntKind.i64 n42, Cell.int IntKind.i64 n43, Cell.int IntKind.i64 n44]]
              (fun cs45 => fun h46 => 
              ∃ n47 : Int, (cs45 = [V.one (Cell.int IntKind.i64 n47)]) ∧
              (appendTo [] 2 24 l25 1 [Cell.str s33, Cell.int IntKind.i64 n47] (fun l48 => fun h49 => 
              x22 (((l23, n24, l48, n26, ()), IntKind.i64.wrap (n28 + 1))) h49)) h46) h32)) h29)
            (fun h50 =>
            ∃ l51 : Sl, (h50.read i4 2 1 = some [Cell.slice 1 l51]) ∧
            ∃ n52 : Int, (h50.read i4 3 1 = some [Cell.int IntKind.i64 n52]) ∧
            ∃ n53 : Int, (h50.read i4 3 1 = some [Cell.int IntKind.i64 n53]) ∧
            ∃ l54 : Sl, (h50.read i4 2 1 = some [Cell.slice 1 l54]) ∧
            (loopK (A := (Sl × Int × Sl × Int × PUnit) × Int) (((l51, n52, l25, n53, ()), 0))
              (fun x55 => uncur (uncur fun l56 => uncur fun n57 => uncur fun l58 => uncur fun n59 x60 => fun n61 => ifT (decide (n61 < (↑l54.len : Int)))
                (fun h62 =>
                ((0 ≤ n61) ∧
                n61 < (↑l54.len : Int)) ∧
                (derefK l54.a (fun i63 => fun i64 => fun h65 =>
                ∃ n66 : Int, (h65.read i63 (i64 + n61.toNat * 1) 1 = some [Cell.int IntKind.i64 n66]) ∧
                x55 (((l56, n57, l58, IntKind.i64.wrap (n59 + n66), ()), IntKind.i64.wrap (n61 + 1))) h65)) h62)
                (fun h67 =>
                Q [V.agg [Cell.slice 1 l56, Cell.int IntKind.i64 n57, Cell.slice 2 l58, Cell.int IntKind.i64 n59]] h67)))) h50)))) h20) h18)))) h3
theorem den53 (I : FuncId → List V → Post → T) (l0 : Sl) (l1 : Sl) (n2 : Int) (Q : Post) : denF Go.Proofs.Tryz.prog 1432 (⟨[], [(58, 1099509530752, [(21, tk Go.Proofs.Tryz.prog 3)]), (250, 576451956210402560, [(8, tvar Go.Proofs.Tryz.prog 42), (43, tk Go.Proofs.Tryz.prog 3)]), (1018, 618365556732882822862213376, [(8, tvar Go.Proofs.Tryz.prog 42), (79, tk Go.Proofs.Tryz.prog 3)])]⟩) I 53 [V.one (Cell.slice 12 l0), V.agg [Cell.slice 4 l1, Cell.int IntKind.i64 n2]] Q = vc53 I l0 l1 n2 Q := by kernel_rfl
/-- handbill/offer.ordered -/
def vc111 (I : FuncId → List V → Post → T) (l0 : Sl) (Q : Post) : T :=
  fun h1 =>
  I 58 [V.one (Cell.slice 12 l0)]
    (fun cs2 => fun h3 => 
    ∃ l4 : Sl, (cs2 = [V.one (Cell.slice 12 l4)]) ∧
    I 59 [V.one (Cell.slice 12 l4), V.one (Cell.func (some (152, [])))]
      (fun cs5 => fun h6 => 
      (cs5 = []) ∧
      Q [V.one (Cell.slice 12 l4)] h6) h3) h1
theorem den111 (I : FuncId → List V → Post → T) (l0 : Sl) (Q : Post) : denF Go.Proofs.Tryz.prog 0 (⟨[], []⟩) I 111 [V.one (Cell.slice 12 l0)] Q = vc111 I l0 Q := by kernel_rfl
/-- slices.Clone[[]handbill/api.Offer,handbill/api.Offer] -/
def vc58 (I : FuncId → List V → Post → T) (l0 : Sl) (Q : Post) : T :=
  ifT l0.a.isNone
    (Q [V.one (Cell.slice 12 { a := none, len := 0 })])
    (fun h1 =>
    ∃ cs2 : List Cell, (h1.sl 12 l0 = some cs2) ∧
    (l0.len * 128 ≤ 140737488355328) ∧
    (newK (.cells false cs2) (fun i3 => fun h4 => 
    Q [V.one (Cell.slice 12 { a := some (i3, 0), len := l0.len })] h4)) h1)
theorem den58 (I : FuncId → List V → Post → T) (l0 : Sl) (Q : Post) : denF Go.Proofs.Tryz.prog 0 (⟨[], []⟩) I 58 [V.one (Cell.slice 12 l0)] Q = vc58 I l0 Q := by kernel_rfl
/-- slices.SortFunc[[]handbill/api.Offer,handbill/api.Offer] -/
def vc59 (I : FuncId → List V → Post → T) (l0 : Sl) (p1 : Option (Nat × List (Nat × Nat))) (Q : Post) : T :=
  fun h2 =>
  I 118 [V.one (Cell.int IntKind.u64 (IntKind.u64.wrap (↑l0.len : Int)))]
    (fun cs3 => fun h4 => 
    ∃ n5 : Int, (cs3 = [V.one (Cell.int IntKind.i64 n5)]) ∧
    I 117 [V.one (Cell.slice 12 l0), V.one (Cell.int IntKind.i64 0), V.one (Cell.int IntKind.i64 (↑l0.len : Int)), V.one (Cell.int IntKind.i64 n5), V.one (Cell.func p1)]
      (fun cs6 => fun h7 => 
      (cs6 = []) ∧
      Q [] h7) h4) h2
theorem den59 (I : FuncId → List V → Post → T) (l0 : Sl) (p1 : Option (Nat × List (Nat × Nat))) (Q : Post) : denF Go.Proofs.Tryz.prog 0 (⟨[], []⟩) I 59 [V.one (Cell.slice 12 l0), V.one (Cell.func p1)] Q = vc59 I l0 p1 Q := by kernel_rfl
/-- slices.pdqsortCmpFunc[handbill/api.Offer] -/
def vc117 (I : FuncId → List V → Post → T) (l0 : Sl) (n1 : Int) (n2 : Int) (n3 : Int) (p4 : Option (Nat × List (Nat × Nat))) (Q : Post) : T :=
  loopK (A := Int × Int × Int × Bool × Bool) ((n1, n2, n3, true, true))
    (fun x5 => uncur fun n6 => uncur fun n7 => uncur fun n8 => uncur fun b9 b10 => ifT (decide (IntKind.i64.wrap (n7 - n6) ≤ 12))
      (fun h11 =>
      I 158 [V.one (Cell.slice 12 l0), V.one (Cell.int IntKind.i64 n6), V.one (Cell.int IntKind.i64 n7), V.one (Cell.func p4)]
        (fun cs12 => fun h13 => 
        (cs12 = []) ∧
        Q [] h13) h11)
      (ifT (decide (n8 = 0))
        (fun h14 =>
        I 159 [V.one (Cell.slice 12 l0), V.one (Cell.int IntKind.i64 n6), V.one (Cell.int IntKind.i64 n7), V.one (Cell.func p4)]
          (fun cs15 => fun h16 => 
          (cs15 = []) ∧
          Q [] h16) h14)
        (joinK (A := Int)
          (fun n17 => fun h18 => 
          I 161 [V.one (Cell.slice 12 l0), V.one (Cell.int IntKind.i64 n6), V.one (Cell.int IntKind.i64 n7), V.one (Cell.func p4)]
            (fun cs19 => fun h20 => 
            ∃ n21 : Int, ∃ n22 : Int, (cs19 = [V.one (Cell.int IntKind.i64 n21), V.one (Cell.int IntKind.i64 n22)]) ∧
            (joinK (A := Int × Int)
              (uncur fun n23 n24 => joinK (A := Bool)
                (fun b25 => joinK (A := PUnit)
                  (fun x26 => joinK (A := Bool)
                    (fun b27 => ifT b27
                      (fun h28 =>
                      I 164 [V.one (Cell.slice 12 l0), V.one (Cell.int IntKind.i64 n6), V.one (Cell.int IntKind.i64 n7), V.one (Cell.int IntKind.i64 n23), V.one (Cell.func p4)]
                        (fun cs29 => fun h30 => 
                        ∃ n31 : Int, (cs29 = [V.one (Cell.int IntKind.i64 n31)]) ∧
                        x5 ((n31, n7, n17, b9, b10)) h30) h28)
                      (fun h32 =>
                      I 165 [V.one (Cell.slice 12 l0), V.one (Cell.int IntKind.i64 n6), V.one (Cell.int IntKind.i64 n7), V.one (Cell.int IntKind.i64 n23), V.one (Cell.func p4)]
                        (fun cs33 => fun h34 => 
                        ∃ n35 : Int, ∃ b36 : Bool, (cs33 = [V.one (Cell.int IntKind.i64 n35), V.one (Cell.bool b36)]) ∧
                        (ifT (decide (IntKind.i64.wrap (n35 - n6) < IntKind.i64.wrap (n7 - n35)))
                          (fun h37 =>
                          I 117 [V.one (Cell.slice 12 l0), V.one (Cell.int IntKind.i64 n6), V.one (Cell.int IntKind.i64 n35), V.one (Cell.int IntKind.i64 n17), V.one (Cell.func p4)]
                            (fun cs38 => fun h39 => 
                            (cs38 = []) ∧
                            x5 ((IntKind.i64.wrap (n35 + 1), n7, n17, decide (IntKind.i64.wrap (n35 - n6) ≥ IntKind.i64.wrap ((IntKind.i64.wrap (n7 - n6)).tdiv 8)), b36)) h39) h37)
                          (fun h40 =>
                          I 117 [V.one (Cell.slice 12 l0), V.one (Cell.int IntKind.i64 (IntKind.i64.wrap (n35 + 1))), V.one (Cell.int IntKind.i64 n7), V.one (Cell.int IntKind.i64 n17), V.one (Cell.func p4)]
                            (fun cs41 => fun h42 => 
                            (cs41 = []) ∧
                            x5 ((n6, n35, n17, decide (IntKind.i64.wrap (n7 - n35) ≥ IntKind.i64.wrap ((IntKind.i64.wrap (n7 - n6)).tdiv 8)), b36)) h42) h40)) h34) h32))
                    (fun x43 => ifT (decide (n6 > 0))
                      (fun h44 =>
                      ((0 ≤ IntKind.i64.wrap (n6 - 1)) ∧
                      IntKind.i64.wrap (n6 - 1) < (↑l0.len : Int)) ∧
                      (derefK l0.a (fun i45 => fun i46 => fun h47 =>
                      ∃ s48 : ByteArray, ∃ n49 : Int, ∃ n50 : Int, ∃ n51 : Int, ∃ l52 : Sl, ∃ n53 : Int, ∃ n54 : Int, ∃ s55 : ByteArray, ∃ b56 : Bool, ∃ n57 : Int, ∃ n58 : Int, ∃ n59 : Int, (h47.read i45 (i46 + (IntKind.i64.wrap (n6 - 1)).toNat * 12) 12 = some [Cell.str s48, Cell.int IntKind.i64 n49, Cell.int IntKind.i64 n50, Cell.int IntKind.i64 n51, Cell.slice 1 l52, Cell.int IntKind.i64 n53, Cell.int IntKind.i64 n54, Cell.str s55, Cell.bool b56, Cell.int IntKind.i64 n57, Cell.int IntKind.i64 n58, Cell.int IntKind.i64 n59]) ∧
                      ((0 ≤ n23) ∧
                      n23 < (↑l0.len : Int)) ∧
                      (derefK l0.a (fun i60 => fun i61 => fun h62 =>
                      ∃ s63 : ByteArray, ∃ n64 : Int, ∃ n65 : Int, ∃ n66 : Int, ∃ l67 : Sl, ∃ n68 : Int, ∃ n69 : Int, ∃ s70 : ByteArray, ∃ b71 : Bool, ∃ n72 : Int, ∃ n73 : Int, ∃ n74 : Int, (h62.read i60 (i61 + n23.toNat * 12) 12 = some [Cell.str s63, Cell.int IntKind.i64 n64, Cell.int IntKind.i64 n65, Cell.int IntKind.i64 n66, Cell.slice 1 l67, Cell.int IntKind.i64 n68, Cell.int IntKind.i64 n69, Cell.str s70, Cell.bool b71, Cell.int IntKind.i64 n72, Cell.int IntKind.i64 n73, Cell.int IntKind.i64 n74]) ∧
                      (funK p4 (fun i75 => fun cs76 => fun h77 => 
                      I i75 (V.agg [Cell.str s48, Cell.int IntKind.i64 n49, Cell.int IntKind.i64 n50, Cell.int IntKind.i64 n51, Cell.slice 1 l52, Cell.int IntKind.i64 n53, Cell.int IntKind.i64 n54, Cell.str s55, Cell.bool b56, Cell.int IntKind.i64 n57, Cell.int IntKind.i64 n58, Cell.int IntKind.i64 n59] :: V.agg [Cell.str s63, Cell.int IntKind.i64 n64, Cell.int IntKind.i64 n65, Cell.int IntKind.i64 n66, Cell.slice 1 l67, Cell.int IntKind.i64 n68, Cell.int IntKind.i64 n69, Cell.str s70, Cell.bool b71, Cell.int IntKind.i64 n72, Cell.int IntKind.i64 n73, Cell.int IntKind.i64 n74] :: cs76)
                        (fun cs78 => fun h79 => 
                        ∃ n80 : Int, (cs78 = [V.one (Cell.int IntKind.i64 n80)]) ∧
                        x43 (!decide (n80 < 0)) h79) h77)) h62)) h47)) h44)
                      (x43 false)))
                  (fun x81 => ifT b25
                    (fun h82 =>
                    I 163 [V.one (Cell.slice 12 l0), V.one (Cell.int IntKind.i64 n6), V.one (Cell.int IntKind.i64 n7), V.one (Cell.func p4)]
                      (fun cs83 => fun h84 => 
                      ∃ b85 : Bool, (cs83 = [V.one (Cell.bool b85)]) ∧
                      (ifT b85
                        (Q [])
                        (x81 ())) h84) h82)
                    (x81 ())))
                (fun x86 => ifT b9
                  (ifT b10
                    (x86 (decide (n24 = 1)))
                    (x86 false))
                  (x86 false)))
              (fun x87 => ifT (decide (n22 = 2))
                (fun h88 =>
                I 162 [V.one (Cell.slice 12 l0), V.one (Cell.int IntKind.i64 n6), V.one (Cell.int IntKind.i64 n7), V.one (Cell.func p4)]
                  (fun cs89 => fun h90 => 
                  (cs89 = []) ∧
                  x87 ((IntKind.i64.wrap (IntKind.i64.wrap (n7 - 1) - IntKind.i64.wrap (n21 - n6)), 1)) h90) h88)
                (x87 ((n21, n22))))) h20) h18)
          (fun x91 => ifT (!b9)
            (fun h92 =>
            I 160 [V.one (Cell.slice 12 l0), V.one (Cell.int IntKind.i64 n6), V.one (Cell.int IntKind.i64 n7), V.one (Cell.func p4)]
              (fun cs93 => fun h94 => 
              (cs93 = []) ∧
              x91 (IntKind.i64.wrap (n8 - 1)) h94) h92)
            (x91 n8)))))
theorem den117 (I : FuncId → List V → Post → T) (l0 : Sl) (n1 : Int) (n2 : Int) (n3 : Int) (p4 : Option (Nat × List (Nat × Nat))) (Q : Post) : denF Go.Proofs.Tryz.prog 0 (⟨[(1821, 139637976727560, [(3, tk Go.Proofs.Tryz.prog 3)]), (7293, 295003789991276994560, [(13, tk Go.Proofs.Tryz.prog 3), (14, tk Go.Proofs.Tryz.prog 207)]), (14588, 75262715820734970593280, [(75, tk Go.Proofs.Tryz.prog 4)]), (14589, 2342293775503344025993216, []), (29180, 316910232205418121115826388992, [(97, tk Go.Proofs.Tryz.prog 4)])], [(14, 356811923176489970264571492362373784095685646, [(1, tk Go.Proofs.Tryz.prog 3), (2, tk Go.Proofs.Tryz.prog 3), (3, tk Go.Proofs.Tryz.prog 3), (10, tk Go.Proofs.Tryz.prog 4), (11, tk Go.Proofs.Tryz.prog 4)])]⟩) I 117 [V.one (Cell.slice 12 l0), V.one (Cell.int IntKind.i64 n1), V.one (Cell.int IntKind.i64 n2), V.one (Cell.int IntKind.i64 n3), V.one (Cell.func p4)] Q = vc117 I l0 n1 n2 n3 p4 Q := by kernel_rfl
/-- slices.insertionSortCmpFunc[handbill/api.Offer] -/
def vc158 (I : FuncId → List V → Post → T) (l0 : Sl) (n1 : Int) (n2 : Int) (p3 : Option (Nat × List (Nat × Nat))) (Q : Post) : T :=
  loopK (A := Int) (IntKind.i64.wrap (n1 + 1))
    (fun x4 => fun n5 => ifT (decide (n5 < n2))
      (loopK (A := Int) n5
        (fun x6 => fun n7 => joinK (A := Bool)
          (fun b8 => ifT b8
            (fun h9 =>
            ((0 ≤ IntKind.i64.wrap (n7 - 1)) ∧
            IntKind.i64.wrap (n7 - 1) < (↑l0.len : Int)) ∧
            (derefK l0.a (fun i10 => fun i11 => fun h12 =>
            ∃ s13 : ByteArray, ∃ n14 : Int, ∃ n15 : Int, ∃ n16 : Int, ∃ l17 : Sl, ∃ n18 : Int, ∃ n19 : Int, ∃ s20 : ByteArray, ∃ b21 : Bool, ∃ n22 : Int, ∃ n23 : Int, ∃ n24 : Int, (h12.read i10 (i11 + (IntKind.i64.wrap (n7 - 1)).toNat * 12) 12 = some [Cell.str s13, Cell.int IntKind.i64 n14, Cell.int IntKind.i64 n15, Cell.int IntKind.i64 n16, Cell.slice 1 l17, Cell.int IntKind.i64 n18, Cell.int IntKind.i64 n19, Cell.str s20, Cell.bool b21, Cell.int IntKind.i64 n22, Cell.int IntKind.i64 n23, Cell.int IntKind.i64 n24]) ∧
            ((0 ≤ n7) ∧
            n7 < (↑l0.len : Int)) ∧
            (derefK l0.a (fun i25 => fun i26 => fun h27 =>
            ∃ s28 : ByteArray, ∃ n29 : Int, ∃ n30 : Int, ∃ n31 : Int, ∃ l32 : Sl, ∃ n33 : Int, ∃ n34 : Int, ∃ s35 : ByteArray, ∃ b36 : Bool, ∃ n37 : Int, ∃ n38 : Int, ∃ n39 : Int, (h27.read i25 (i26 + n7.toNat * 12) 12 = some [Cell.str s28, Cell.int IntKind.i64 n29, Cell.int IntKind.i64 n30, Cell.int IntKind.i64 n31, Cell.slice 1 l32, Cell.int IntKind.i64 n33, Cell.int IntKind.i64 n34, Cell.str s35, Cell.bool b36, Cell.int IntKind.i64 n37, Cell.int IntKind.i64 n38, Cell.int IntKind.i64 n39]) ∧
            ((0 ≤ n7) ∧
            n7 < (↑l0.len : Int)) ∧
            (derefK l0.a (fun i40 => fun i41 => fun h42 => 
            (storeK [] i40 (i41 + n7.toNat * 12) [Cell.str s13, Cell.int IntKind.i64 n14, Cell.int IntKind.i64 n15, Cell.int IntKind.i64 n16, Cell.slice 1 l17, Cell.int IntKind.i64 n18, Cell.int IntKind.i64 n19, Cell.str s20, Cell.bool b21, Cell.int IntKind.i64 n22, Cell.int IntKind.i64 n23, Cell.int IntKind.i64 n24] (fun h43 =>
            ((0 ≤ IntKind.i64.wrap (n7 - 1)) ∧
            IntKind.i64.wrap (n7 - 1) < (↑l0.len : Int)) ∧
            (derefK l0.a (fun i44 => fun i45 => fun h46 => 
            (storeK [] i44 (i45 + (IntKind.i64.wrap (n7 - 1)).toNat * 12) [Cell.str s28, Cell.int IntKind.i64 n29, Cell.int IntKind.i64 n30, Cell.int IntKind.i64 n31, Cell.slice 1 l32, Cell.int IntKind.i64 n33, Cell.int IntKind.i64 n34, Cell.str s35, Cell.bool b36, Cell.int IntKind.i64 n37, Cell.int IntKind.i64 n38, Cell.int IntKind.i64 n39] (x6 (IntKind.i64.wrap (n7 - 1)))) h46)) h43)) h42)) h27)) h12)) h9)
            (x4 (IntKind.i64.wrap (n5 + 1))))
          (fun x47 => ifT (decide (n7 > n1))
            (fun h48 =>
            ((0 ≤ n7) ∧
            n7 < (↑l0.len : Int)) ∧
            (derefK l0.a (fun i49 => fun i50 => fun h51 =>
            ∃ s52 : ByteArray, ∃ n53 : Int, ∃ n54 : Int, ∃ n55 : Int, ∃ l56 : Sl, ∃ n57 : Int, ∃ n58 : Int, ∃ s59 : ByteArray, ∃ b60 : Bool, ∃ n61 : Int, ∃ n62 : Int, ∃ n63 : Int, (h51.read i49 (i50 + n7.toNat * 12) 12 = some [Cell.str s52, Cell.int IntKind.i64 n53, Cell.int IntKind.i64 n54, Cell.int IntKind.i64 n55, Cell.slice 1 l56, Cell.int IntKind.i64 n57, Cell.int IntKind.i64 n58, Cell.str s59, Cell.bool b60, Cell.int IntKind.i64 n61, Cell.int IntKind.i64 n62, Cell.int IntKind.i64 n63]) ∧
            ((0 ≤ IntKind.i64.wrap (n7 - 1)) ∧
            IntKind.i64.wrap (n7 - 1) < (↑l0.len : Int)) ∧
            (derefK l0.a (fun i64 => fun i65 => fun h66 =>
            ∃ s67 : ByteArray, ∃ n68 : Int, ∃ n69 : Int, ∃ n70 : Int, ∃ l71 : Sl, ∃ n72 : Int, ∃ n73 : Int, ∃ s74 : ByteArray, ∃ b75 : Bool, ∃ n76 : Int, ∃ n77 : Int, ∃ n78 : Int, (h66.read i64 (i65 + (IntKind.i64.wrap (n7 - 1)).toNat * 12) 12 = some [Cell.str s67, Cell.int IntKind.i64 n68, Cell.int IntKind.i64 n69, Cell.int IntKind.i64 n70, Cell.slice 1 l71, Cell.int IntKind.i64 n72, Cell.int IntKind.i64 n73, Cell.str s74, Cell.bool b75, Cell.int IntKind.i64 n76, Cell.int IntKind.i64 n77, Cell.int IntKind.i64 n78]) ∧
            (funK p3 (fun i79 => fun cs80 => fun h81 => 
            I i79 (V.agg [Cell.str s52, Cell.int IntKind.i64 n53, Cell.int IntKind.i64 n54, Cell.int IntKind.i64 n55, Cell.slice 1 l56, Cell.int IntKind.i64 n57, Cell.int IntKind.i64 n58, Cell.str s59, Cell.bool b60, Cell.int IntKind.i64 n61, Cell.int IntKind.i64 n62, Cell.int IntKind.i64 n63] :: V.agg [Cell.str s67, Cell.int IntKind.i64 n68, Cell.int IntKind.i64 n69, Cell.int IntKind.i64 n70, Cell.slice 1 l71, Cell.int IntKind.i64 n72, Cell.int IntKind.i64 n73, Cell.str s74, Cell.bool b75, Cell.int IntKind.i64 n76, Cell.int IntKind.i64 n77, Cell.int IntKind.i64 n78] :: cs80)
              (fun cs82 => fun h83 => 
              ∃ n84 : Int, (cs82 = [V.one (Cell.int IntKind.i64 n84)]) ∧
              x47 (decide (n84 < 0)) h83) h81)) h66)) h51)) h48)
            (x47 false))))
      (Q []))
theorem den158 (I : FuncId → List V → Post → T) (l0 : Sl) (n1 : Int) (n2 : Int) (p3 : Option (Nat × List (Nat × Nat))) (Q : Post) : denF Go.Proofs.Tryz.prog 0 (⟨[(3216, 34359476224, [(34, tk Go.Proofs.Tryz.prog 4)])], [(6, 9007199254737664, [(8, tk Go.Proofs.Tryz.prog 3)]), (402, 9007199254479360, [(9, tk Go.Proofs.Tryz.prog 3)])]⟩) I 158 [V.one (Cell.slice 12 l0), V.one (Cell.int IntKind.i64 n1), V.one (Cell.int IntKind.i64 n2), V.one (Cell.func p3)] Q = vc158 I l0 n1 n2 p3 Q := by kernel_rfl
/-- math/bits.Len -/
def vc118 (I : FuncId → List V → Post → T) (n0 : Int) (Q : Post) : T :=
  fun h1 =>
  I 167 [V.one (Cell.int IntKind.u64 n0)]
    (fun cs2 => fun h3 => 
    ∃ n4 : Int, (cs2 = [V.one (Cell.int IntKind.i64 n4)]) ∧
    Q [V.one (Cell.int IntKind.i64 n4)] h3) h1
theorem den118 (I : FuncId → List V → Post → T) (n0 : Int) (Q : Post) : denF Go.Proofs.Tryz.prog 0 (⟨[], []⟩) I 118 [V.one (Cell.int IntKind.u64 n0)] Q = vc118 I n0 Q := by kernel_rfl
/-- math/bits.Len64 (by hand) -/
def vc167 (I : FuncId → List V → Post → T) (n0 : Int) (Q : Post) : T :=
  joinK (A := Int × Int)
    (uncur fun n1 n2 => ifT (decide (n1 ≥ 65536))
      (ifT (decide (shr IntKind.u64 n1 16 ≥ 256))
        (fun h3 =>
        ((0 ≤ IntKind.u8.wrap (shr IntKind.u64 (shr IntKind.u64 n1 16) 8)) ∧
        IntKind.u8.wrap (shr IntKind.u64 (shr IntKind.u64 n1 16) 8) < (↑256 : Int)) ∧
        Q [V.one (Cell.int IntKind.i64 (IntKind.i64.wrap (IntKind.i64.wrap (IntKind.i64.wrap (n2 + 16) + 8) + IntKind.i64.wrap (byteAt len8S (IntKind.u8.wrap (shr IntKind.u64 (shr IntKind.u64 n1 16) 8))))))] h3)
        (fun h4 =>
        ((0 ≤ IntKind.u8.wrap (shr IntKind.u64 n1 16)) ∧
        IntKind.u8.wrap (shr IntKind.u64 n1 16) < (↑256 : Int)) ∧
        Q [V.one (Cell.int IntKind.i64 (IntKind.i64.wrap (IntKind.i64.wrap (n2 + 16) + IntKind.i64.wrap (byteAt len8S (IntKind.u8.wrap (shr IntKind.u64 n1 16))))))] h4))
      (ifT (decide (n1 ≥ 256))
        (fun h5 =>
        ((0 ≤ IntKind.u8.wrap (shr IntKind.u64 n1 8)) ∧
        IntKind.u8.wrap (shr IntKind.u64 n1 8) < (↑256 : Int)) ∧
        Q [V.one (Cell.int IntKind.i64 (IntKind.i64.wrap (IntKind.i64.wrap (n2 + 8) + IntKind.i64.wrap (byteAt len8S (IntKind.u8.wrap (shr IntKind.u64 n1 8))))))] h5)
        (fun h6 =>
        ((0 ≤ IntKind.u8.wrap n1) ∧
        IntKind.u8.wrap n1 < (↑256 : Int)) ∧
        Q [V.one (Cell.int IntKind.i64 (IntKind.i64.wrap (n2 + IntKind.i64.wrap (byteAt len8S (IntKind.u8.wrap n1)))))] h6)))
    (fun x7 => ifT (decide (n0 ≥ 4294967296))
      (x7 ((shr IntKind.u64 n0 32, 32)))
      (x7 ((n0, 0))))
theorem den167 (I : FuncId → List V → Post → T) (n0 : Int) (Q : Post) : denF Go.Proofs.Tryz.prog 0 (⟨[(13, 101, [(0, tk Go.Proofs.Tryz.prog 195), (2, tk Go.Proofs.Tryz.prog 3)])], []⟩) I 167 [V.one (Cell.int IntKind.u64 n0)] Q = vc167 I n0 Q := by kernel_rfl
/-- handbill/offer.ordered$1 -/
def vc152 (I : FuncId → List V → Post → T) (s0 : ByteArray) (n1 : Int) (n2 : Int) (n3 : Int) (l4 : Sl) (n5 : Int) (n6 : Int) (s7 : ByteArray) (b8 : Bool) (n9 : Int) (n10 : Int) (n11 : Int) (s12 : ByteArray) (n13 : Int) (n14 : Int) (n15 : Int) (l16 : Sl) (n17 : Int) (n18 : Int) (s19 : ByteArray) (b20 : Bool) (n21 : Int) (n22 : Int) (n23 : Int) (Q : Post) : T :=
  fun h24 =>
  I 62 [V.one (Cell.int IntKind.i64 n9), V.one (Cell.int IntKind.i64 n21)]
    (fun cs25 => fun h26 => 
    ∃ n27 : Int, (cs25 = [V.one (Cell.int IntKind.i64 n27)]) ∧
    I 153 [V.one (Cell.str s0), V.one (Cell.str s12)]
      (fun cs28 => fun h29 => 
      ∃ n30 : Int, (cs28 = [V.one (Cell.int IntKind.i64 n30)]) ∧
      (newK (.cells false [Cell.int IntKind.i64 n27, Cell.int IntKind.i64 n30]) (fun i31 => fun h32 =>
      I 61 [V.one (Cell.slice 1 { a := some (i31, 0), len := 2 })]
        (fun cs33 => fun h34 => 
        ∃ n35 : Int, (cs33 = [V.one (Cell.int IntKind.i64 n35)]) ∧
        Q [V.one (Cell.int IntKind.i64 n35)] h34) h32)) h29) h26) h24
theorem den152 (I : FuncId → List V → Post → T) (s0 : ByteArray) (n1 : Int) (n2 : Int) (n3 : Int) (l4 : Sl) (n5 : Int) (n6 : Int) (s7 : ByteArray) (b8 : Bool) (n9 : Int) (n10 : Int) (n11 : Int) (s12 : ByteArray) (n13 : Int) (n14 : Int) (n15 : Int) (l16 : Sl) (n17 : Int) (n18 : Int) (s19 : ByteArray) (b20 : Bool) (n21 : Int) (n22 : Int) (n23 : Int) (Q : Post) : denF Go.Proofs.Tryz.prog 12 (⟨[], []⟩) I 152 [V.agg [Cell.str s0, Cell.int IntKind.i64 n1, Cell.int IntKind.i64 n2, Cell.int IntKind.i64 n3, Cell.slice 1 l4, Cell.int IntKind.i64 n5, Cell.int IntKind.i64 n6, Cell.str s7, Cell.bool b8, Cell.int IntKind.i64 n9, Cell.int IntKind.i64 n10, Cell.int IntKind.i64 n11], V.agg [Cell.str s12, Cell.int IntKind.i64 n13, Cell.int IntKind.i64 n14, Cell.int IntKind.i64 n15, Cell.slice 1 l16, Cell.int IntKind.i64 n17, Cell.int IntKind.i64 n18, Cell.str s19, Cell.bool b20, Cell.int IntKind.i64 n21, Cell.int IntKind.i64 n22, Cell.int IntKind.i64 n23]] Q = vc152 I s0 n1 n2 n3 l4 n5 n6 s7 b8 n9 n10 n11 s12 n13 n14 n15 l16 n17 n18 s19 b20 n21 n22 n23 Q := by kernel_rfl
/-- cmp.Or[int] -/
def vc61 (I : FuncId → List V → Post → T) (l0 : Sl) (Q : Post) : T :=
  loopK (A := Int) 0
    (fun x1 => fun n2 => ifT (decide (n2 < (↑l0.len : Int)))
      (fun h3 =>
      ((0 ≤ n2) ∧
      n2 < (↑l0.len : Int)) ∧
      (derefK l0.a (fun i4 => fun i5 => fun h6 =>
      ∃ n7 : Int, (h6.read i4 (i5 + n2.toNat * 1) 1 = some [Cell.int IntKind.i64 n7]) ∧
      (ifT (!decide (n7 = 0))
        (Q [V.one (Cell.int IntKind.i64 n7)])
        (x1 (IntKind.i64.wrap (n2 + 1)))) h6)) h3)
      (Q [V.one (Cell.int IntKind.i64 0)]))
theorem den61 (I : FuncId → List V → Post → T) (l0 : Sl) (Q : Post) : denF Go.Proofs.Tryz.prog 0 (⟨[], [(58, 130852, [(8, tk Go.Proofs.Tryz.prog 3)])]⟩) I 61 [V.one (Cell.slice 1 l0)] Q = vc61 I l0 Q := by kernel_rfl
/-- cmp.Compare[int] -/
def vc62 (I : FuncId → List V → Post → T) (n0 : Int) (n1 : Int) (Q : Post) : T :=
  fun h2 =>
  I 119 [V.one (Cell.int IntKind.i64 n0)]
    (fun cs3 => fun h4 => 
    ∃ b5 : Bool, (cs3 = [V.one (Cell.bool b5)]) ∧
    I 119 [V.one (Cell.int IntKind.i64 n1)]
      (fun cs6 => fun h7 => 
      ∃ b8 : Bool, (cs6 = [V.one (Cell.bool b8)]) ∧
      (ifT b5
        (ifT b8
          (Q [V.one (Cell.int IntKind.i64 0)])
          (Q [V.one (Cell.int IntKind.i64 (-1))]))
        (ifT b8
          (Q [V.one (Cell.int IntKind.i64 1)])
          (ifT (decide (n0 < n1))
            (Q [V.one (Cell.int IntKind.i64 (-1))])
            (ifT (decide (n0 > n1))
              (Q [V.one (Cell.int IntKind.i64 1)])
              (Q [V.one (Cell.int IntKind.i64 0)]))))) h7) h4) h2
theorem den62 (I : FuncId → List V → Post → T) (n0 : Int) (n1 : Int) (Q : Post) : denF Go.Proofs.Tryz.prog 0 (⟨[], []⟩) I 62 [V.one (Cell.int IntKind.i64 n0), V.one (Cell.int IntKind.i64 n1)] Q = vc62 I n0 n1 Q := by kernel_rfl
/-- cmp.isNaN[int] -/
def vc119 (I : FuncId → List V → Post → T) (n0 : Int) (Q : Post) : T :=
  Q [V.one (Cell.bool (!decide (n0 = n0)))]
theorem den119 (I : FuncId → List V → Post → T) (n0 : Int) (Q : Post) : denF Go.Proofs.Tryz.prog 0 (⟨[], []⟩) I 119 [V.one (Cell.int IntKind.i64 n0)] Q = vc119 I n0 Q := by kernel_rfl
/-- cmp.Compare[string] -/
def vc153 (I : FuncId → List V → Post → T) (s0 : ByteArray) (s1 : ByteArray) (Q : Post) : T :=
  fun h2 =>
  I 205 [V.one (Cell.str s0)]
    (fun cs3 => fun h4 => 
    ∃ b5 : Bool, (cs3 = [V.one (Cell.bool b5)]) ∧
    I 205 [V.one (Cell.str s1)]
      (fun cs6 => fun h7 => 
      ∃ b8 : Bool, (cs6 = [V.one (Cell.bool b8)]) ∧
      (ifT b5
        (ifT b8
          (Q [V.one (Cell.int IntKind.i64 0)])
          (Q [V.one (Cell.int IntKind.i64 (-1))]))
        (ifT b8
          (Q [V.one (Cell.int IntKind.i64 1)])
          (ifT (Op.bytesLess s0.toList s1.toList)
            (Q [V.one (Cell.int IntKind.i64 (-1))])
            (ifT (!(Op.bytesLess s0.toList s1.toList || decide (s0 = s1)))
              (Q [V.one (Cell.int IntKind.i64 1)])
              (Q [V.one (Cell.int IntKind.i64 0)]))))) h7) h4) h2
theorem den153 (I : FuncId → List V → Post → T) (s0 : ByteArray) (s1 : ByteArray) (Q : Post) : denF Go.Proofs.Tryz.prog 0 (⟨[], []⟩) I 153 [V.one (Cell.str s0), V.one (Cell.str s1)] Q = vc153 I s0 s1 Q := by kernel_rfl
/-- cmp.isNaN[string] -/
def vc205 (I : FuncId → List V → Post → T) (s0 : ByteArray) (Q : Post) : T :=
  Q [V.one (Cell.bool (!decide (s0 = s0)))]
theorem den205 (I : FuncId → List V → Post → T) (s0 : ByteArray) (Q : Post) : denF Go.Proofs.Tryz.prog 0 (⟨[], []⟩) I 205 [V.one (Cell.str s0)] Q = vc205 I s0 Q := by kernel_rfl
/-- (*handbill/offer.pricer).apply -/
def vc112 (I : FuncId → List V → Post → T) (p0 : Option (Nat × Nat)) (s1 : ByteArray) (n2 : Int) (n3 : Int) (n4 : Int) (l5 : Sl) (n6 : Int) (n7 : Int) (s8 : ByteArray) (b9 : Bool) (n10 : Int) (n11 : Int) (n12 : Int) (Q : Post) : T :=
  joinK (A := Sl)
    (fun l13 => loopK (A := Int × Int) ((0, 0))
      (fun x14 => uncur fun n15 n16 => ifT (decide (n16 < (↑l13.len : Int)))
        (fun h17 =>
        ((0 ≤ n16) ∧
        n16 < (↑l13.len : Int)) ∧
        (derefK l13.a (fun i18 => fun i19 => fun h20 =>
        ∃ n21 : Int, (h20.read i18 (i19 + n16.toNat * 1) 1 = some [Cell.int IntKind.i64 n21]) ∧
        (derefK p0 (fun i22 => fun i23 => fun h24 =>
        ∃ l25 : Sl, (h24.read i22 (i23 + 2) 1 = some [Cell.slice 1 l25]) ∧
        ((0 ≤ n16) ∧
        n16 < (↑l25.len : Int)) ∧
        (derefK l25.a (fun i26 => fun i27 => fun h28 =>
        ∃ n29 : Int, (h28.read i26 (i27 + n16.toNat * 1) 1 = some [Cell.int IntKind.i64 n29]) ∧
        ((0 ≤ n16) ∧
        n16 < (↑l25.len : Int)) ∧
        (derefK l25.a (fun i30 => fun i31 => fun h32 => 
        (storeK [] i30 (i31 + n16.toNat * 1) [Cell.int IntKind.i64 (IntKind.i64.wrap (n29 - n21))] (x14 ((IntKind.i64.wrap (n15 + n21), IntKind.i64.wrap (n16 + 1))))) h32)) h28)) h24)) h20)) h17)
        (Q [V.one (Cell.int IntKind.i64 n15)])))
    (fun x33 => ifT (decide (n2 = 1))
      (fun h34 =>
      I 154 [V.one (Cell.ptr p0), V.agg [Cell.str s1, Cell.int IntKind.i64 n2, Cell.int IntKind.i64 n3, Cell.int IntKind.i64 n4, Cell.slice 1 l5, Cell.int IntKind.i64 n6, Cell.int IntKind.i64 n7, Cell.str s8, Cell.bool b9, Cell.int IntKind.i64 n10, Cell.int IntKind.i64 n11, Cell.int IntKind.i64 n12]]
        (fun cs35 => fun h36 => 
        ∃ l37 : Sl, (cs35 = [V.one (Cell.slice 1 l37)]) ∧
        x33 l37 h36) h34)
      (joinK (A := Sl)
        (fun l38 => fun h39 => 
        x33 l38 h39)
        (fun x40 => ifT (decide (n2 = 2))
          (fun h41 =>
          I 155 [V.one (Cell.ptr p0), V.agg [Cell.str s1, Cell.int IntKind.i64 n2, Cell.int IntKind.i64 n3, Cell.int IntKind.i64 n4, Cell.slice 1 l5, Cell.int IntKind.i64 n6, Cell.int IntKind.i64 n7, Cell.str s8, Cell.bool b9, Cell.int IntKind.i64 n10, Cell.int IntKind.i64 n11, Cell.int IntKind.i64 n12]]
            (fun cs42 => fun h43 => 
            ∃ l44 : Sl, (cs42 = [V.one (Cell.slice 1 l44)]) ∧
            x40 l44 h43) h41)
          (ifT (decide (n2 = 3))
            (fun h45 =>
            I 156 [V.one (Cell.ptr p0), V.agg [Cell.str s1, Cell.int IntKind.i64 n2, Cell.int IntKind.i64 n3, Cell.int IntKind.i64 n4, Cell.slice 1 l5, Cell.int IntKind.i64 n6, Cell.int IntKind.i64 n7, Cell.str s8, Cell.bool b9, Cell.int IntKind.i64 n10, Cell.int IntKind.i64 n11, Cell.int IntKind.i64 n12]]
              (fun cs46 => fun h47 => 
              ∃ l48 : Sl, (cs46 = [V.one (Cell.slice 1 l48)]) ∧
              x40 l48 h47) h45)
            (derefK p0 (fun i49 => fun i50 => fun h51 =>
            ∃ n52 : Int, (h51.read i49 (i50 + 3) 1 = some [Cell.int IntKind.i64 n52]) ∧
            (joinK (A := Int)
              (fun n53 => derefK p0 (fun i54 => fun i55 => fun h56 =>
              ∃ n57 : Int, (h56.read i54 (i55 + 3) 1 = some [Cell.int IntKind.i64 n57]) ∧
              (derefK p0 (fun i58 => fun i59 => fun h60 =>
              (storeK [] i58 (i59 + 3) [Cell.int IntKind.i64 (IntKind.i64.wrap (n57 - n53))] (Q [V.one (Cell.int IntKind.i64 n53)])) h60)) h56))
              (fun x61 => ifT (!decide (n7 = 0))
                (x61 (min (min n3 n52) n7))
                (x61 (min n3 n52)))) h51))))))
theorem den112 (I : FuncId → List V → Post → T) (p0 : Option (Nat × Nat)) (s1 : ByteArray) (n2 : Int) (n3 : Int) (n4 : Int) (l5 : Sl) (n6 : Int) (n7 : Int) (s8 : ByteArray) (b9 : Bool) (n10 : Int) (n11 : Int) (n12 : Int) (Q : Post) : denF Go.Proofs.Tryz.prog 8 (⟨[(117, 1125796827623536, [(5, tk Go.Proofs.Tryz.prog 22)]), (471, 1121536220065904, [(5, tk Go.Proofs.Tryz.prog 22)]), (30205, 62914624, [(6, tk Go.Proofs.Tryz.prog 3)])], [(250, 2361178737835195237248, [(7, tk Go.Proofs.Tryz.prog 3), (52, tk Go.Proofs.Tryz.prog 3)])]⟩) I 112 [V.one (Cell.ptr p0), V.agg [Cell.str s1, Cell.int IntKind.i64 n2, Cell.int IntKind.i64 n3, Cell.int IntKind.i64 n4, Cell.slice 1 l5, Cell.int IntKind.i64 n6, Cell.int IntKind.i64 n7, Cell.str s8, Cell.bool b9, Cell.int IntKind.i64 n10, Cell.int IntKind.i64 n11, Cell.int IntKind.i64 n12]] Q = vc112 I p0 s1 n2 n3 n4 l5 n6 n7 s8 b9 n10 n11 n12 Q := by kernel_rfl
/-- (*handbill/offer.pricer).percents -/
def vc154 (I : FuncId → List V → Post → T) (p0 : Option (Nat × Nat)) (s1 : ByteArray) (n2 : Int) (n3 : Int) (n4 : Int) (l5 : Sl) (n6 : Int) (n7 : Int) (s8 : ByteArray) (b9 : Bool) (n10 : Int) (n11 : Int) (n12 : Int) (Q : Post) : T :=
  derefK p0 (fun i13 => fun i14 => fun h15 =>
  ∃ l16 : Sl, (h15.read i13 (i14 + 2) 1 = some [Cell.slice 1 l16]) ∧
  (true = true) ∧
  (0 ≤ (↑l16.len : Int)) ∧
  ((↑l16.len : Int) ≤ (↑l16.len : Int)) ∧
  ((↑l16.len : Int) * (↑8 : Int) ≤ 140737488355328) ∧
  (newK (.cells false (slCells (VK.one (Kd.int IntKind.i64)) (↑l16.len : Int).toNat)) (fun i17 => derefK p0 (fun i18 => fun i19 => fun h20 =>
  ∃ l21 : Sl, (h20.read i18 (i19 + 2) 1 = some [Cell.slice 1 l21]) ∧
  (loopK (A := Int) 0
    (fun x22 => fun n23 => ifT (decide (n23 < (↑l21.len : Int)))
      (fun h24 =>
      ((0 ≤ n23) ∧
      n23 < (↑l21.len : Int)) ∧
      (derefK l21.a (fun i25 => fun i26 => fun h27 =>
      ∃ n28 : Int, (h27.read i25 (i26 + n23.toNat * 1) 1 = some [Cell.int IntKind.i64 n28]) ∧
      (derefK p0 (fun i29 => fun i30 => fun h31 =>
      ∃ l32 : Sl, (h31.read i29 (i30 + 0 + 0) 1 = some [Cell.slice 4 l32]) ∧
      ((0 ≤ n23) ∧
      n23 < (↑l32.len : Int)) ∧
      (derefK l32.a (fun i33 => fun i34 => fun h35 =>
      ∃ s36 : ByteArray, ∃ n37 : Int, ∃ n38 : Int, ∃ l39 : Sl, (h35.read i33 (i34 + n23.toNat * 4) 4 = some [Cell.str s36, Cell.int IntKind.i64 n37, Cell.int IntKind.i64 n38, Cell.slice 1 l39]) ∧
      I 110 [V.agg [Cell.str s1, Cell.int IntKind.i64 n2, Cell.int IntKind.i64 n3, Cell.int IntKind.i64 n4, Cell.slice 1 l5, Cell.int IntKind.i64 n6, Cell.int IntKind.i64 n7, Cell.str s8, Cell.bool b9, Cell.int IntKind.i64 n10, Cell.int IntKind.i64 n11, Cell.int IntKind.i64 n12], V.agg [Cell.str s36, Cell.int IntKind.i64 n37, Cell.int IntKind.i64 n38, Cell.slice 1 l39]]
        (fun cs40 => fun h41 => 
        ∃ b42 : Bool, (cs40 = [V.one (Cell.bool b42)]) ∧
        (ifT b42
          (fun h43 =>
          ((0 ≤ n23) ∧
          n23 < (↑(↑l16.len : Int).toNat : Int)) ∧
          (storeK [] i17 (0 + n23.toNat * 1) [Cell.int IntKind.i64 (IntKind.i64.wrap ((IntKind.i64.wrap (n28 * n3)).tdiv 100))] (x22 (IntKind.i64.wrap (n23 + 1)))) h43)
          (x22 (IntKind.i64.wrap (n23 + 1)))) h41) h35)) h31)) h27)) h24)
      (fun h44 =>
      I 206 [V.one (Cell.slice 1 { a := some (i17, 0), len := (↑l16.len : Int).toNat }), V.one (Cell.int IntKind.i64 n7)]
        (fun cs45 => fun h46 => 
        ∃ l47 : Sl, (cs45 = [V.one (Cell.slice 1 l47)]) ∧
        Q [V.one (Cell.slice 1 l47)] h46) h44))) h20))) h15)
theorem den154 (I : FuncId → List V → Post → T) (p0 : Option (Nat × Nat)) (s1 : ByteArray) (n2 : Int) (n3 : Int) (n4 : Int) (l5 : Sl) (n6 : Int) (n7 : Int) (s8 : ByteArray) (b9 : Bool) (n10 : Int) (n11 : Int) (n12 : Int) (Q : Post) : denF Go.Proofs.Tryz.prog 8 (⟨[], [(58, 8796092498112, [(19, tk Go.Proofs.Tryz.prog 3)])]⟩) I 154 [V.one (Cell.ptr p0), V.agg [Cell.str s1, Cell.int IntKind.i64 n2, Cell.int IntKind.i64 n3, Cell.int IntKind.i64 n4, Cell.slice 1 l5, Cell.int IntKind.i64 n6, Cell.int IntKind.i64 n7, Cell.str s8, Cell.bool b9, Cell.int IntKind.i64 n10, Cell.int IntKind.i64 n11, Cell.int IntKind.i64 n12]] Q = vc154 I p0 s1 n2 n3 n4 l5 n6 n7 s8 b9 n10 n11 n12 Q := by kernel_rfl
/-- handbill/offer.most -/
def vc206 (I : FuncId → List V → Post → T) (l0 : Sl) (n1 : Int) (Q : Post) : T :=
  loopK (A := Int × Int) ((0, 0))
    (fun x2 => uncur fun n3 n4 => ifT (decide (n4 < (↑l0.len : Int)))
      (fun h5 =>
      ((0 ≤ n4) ∧
      n4 < (↑l0.len : Int)) ∧
      (derefK l0.a (fun i6 => fun i7 => fun h8 =>
      ∃ n9 : Int, (h8.read i6 (i7 + n4.toNat * 1) 1 = some [Cell.int IntKind.i64 n9]) ∧
      x2 ((IntKind.i64.wrap (n3 + n9), IntKind.i64.wrap (n4 + 1))) h8)) h5)
      (ifT (decide (n1 = 0))
        (Q [V.one (Cell.slice 1 l0)])
        (ifT (decide (n3 ≤ n1))
          (Q [V.one (Cell.slice 1 l0)])
          (fun h10 =>
          I 207 [V.one (Cell.int IntKind.i64 n1), V.one (Cell.slice 1 l0)]
            (fun cs11 => fun h12 => 
            ∃ l13 : Sl, (cs11 = [V.one (Cell.slice 1 l13)]) ∧
            Q [V.one (Cell.slice 1 l13)] h12) h10))))
theorem den206 (I : FuncId → List V → Post → T) (l0 : Sl) (n1 : Int) (Q : Post) : denF Go.Proofs.Tryz.prog 0 (⟨[], [(58, 261280, [(5, tk Go.Proofs.Tryz.prog 3), (10, tk Go.Proofs.Tryz.prog 3)])]⟩) I 206 [V.one (Cell.slice 1 l0), V.one (Cell.int IntKind.i64 n1)] Q = vc206 I l0 n1 Q := by kernel_rfl
/-- handbill/offer.share -/
def vc207 (I : FuncId → List V → Post → T) (n0 : Int) (l1 : Sl) (Q : Post) : T :=
  loopK (A := Int × Int) ((0, 0))
    (fun x2 => uncur fun n3 n4 => ifT (decide (n4 < (↑l1.len : Int)))
      (fun h5 =>
      ((0 ≤ n4) ∧
      n4 < (↑l1.len : Int)) ∧
      (derefK l1.a (fun i6 => fun i7 => fun h8 =>
      ∃ n9 : Int, (h8.read i6 (i7 + n4.toNat * 1) 1 = some [Cell.int IntKind.i64 n9]) ∧
      x2 ((IntKind.i64.wrap (n3 + n9), IntKind.i64.wrap (n4 + 1))) h8)) h5)
      (fun h10 =>
      (newK (.cells false [Cell.slice 1 { a := none, len := 0 }]) (fun i11 => loopK (A := Int × Sl × Sl × Int) ((n0, { a := none, len := 0 }, { a := none, len := 0 }, 0))
        (fun x12 => uncur fun n13 => uncur fun l14 => uncur fun l15 n16 => ifT (decide (n16 < (↑l1.len : Int)))
          (fun h17 =>
          ((0 ≤ n16) ∧
          n16 < (↑l1.len : Int)) ∧
          (derefK l1.a (fun i18 => fun i19 => fun h20 =>
          ∃ n21 : Int, (h20.read i18 (i19 + n16.toNat * 1) 1 = some [Cell.int IntKind.i64 n21]) ∧
          I 142 [V.one (Cell.int IntKind.u64 (IntKind.u64.wrap n0)), V.one (Cell.int IntKind.u64 (IntKind.u64.wrap n21))]
            (fun cs22 => fun h23 => 
            ∃ n24 : Int, ∃ n25 : Int, (cs22 = [V.one (Cell.int IntKind.u64 n24), V.one (Cell.int IntKind.u64 n25)]) ∧
            I 143 [V.one (Cell.int IntKind.u64 n24), V.one (Cell.int IntKind.u64 n25), V.one (Cell.int IntKind.u64 (IntKind.u64.wrap n3))]
              (fun cs26 => fun h27 => 
              ∃ n28 : Int, ∃ n29 : Int, (cs26 = [V.one (Cell.int IntKind.u64 n28), V.one (Cell.int IntKind.u64 n29)]) ∧
              ∃ l30 : Sl, (h27.read i11 0 1 = some [Cell.slice 1 l30]) ∧
              (appendTo [i11] 1 8 l14 1 [Cell.int IntKind.i64 (IntKind.i64.wrap n28)] (fun l31 => fun h32 => 
              (appendTo [i11] 1 8 l15 1 [Cell.int IntKind.i64 n16] (fun l33 => fun h34 => 
              (appendTo [] 1 8 l30 1 [Cell.int IntKind.u64 n29] (fun l35 => fun h36 => 
              (storeK [] i11 0 [Cell.slice 1 l35] (x12 ((IntKind.i64.wrap (n13 - IntKind.i64.wrap n28), l31, l33, IntKind.i64.wrap (n16 + 1))))) h36)) h34)) h32)) h27) h23) h20)) h17)
          (fun h37 =>
          I 235 [V.one (Cell.slice 1 l15), V.one (Cell.func (some (236, [(i11, 0)])))]
            (fun cs38 => fun h39 => 
            (cs38 = []) ∧
            (((0 : Int) ≤ (0 : Int)) ∧
            (0 ≤ n13) ∧
            n13 ≤ (↑l15.len : Int)) ∧
            (loopK (A := Int) 0
              (fun x40 => fun n41 => ifT (decide (n41 < (↑(l15.sub 1 0 n13.toNat).len : Int)))
                (fun h42 =>
                ((0 ≤ n41) ∧
                n41 < (↑(l15.sub 1 0 n13.toNat).len : Int)) ∧
                (derefK ((l15.sub 1 0 n13.toNat).a) (fun i43 => fun i44 => fun h45 =>
                ∃ n46 : Int, (h45.read i43 (i44 + n41.toNat * 1) 1 = some [Cell.int IntKind.i64 n46]) ∧
                ((0 ≤ n46) ∧
                n46 < (↑l14.len : Int)) ∧
                (derefK l14.a (fun i47 => fun i48 => fun h49 =>
                ∃ n50 : Int, (h49.read i47 (i48 + n46.toNat * 1) 1 = some [Cell.int IntKind.i64 n50]) ∧
                ((0 ≤ n46) ∧
                n46 < (↑l14.len : Int)) ∧
                (derefK l14.a (fun i51 => fun i52 => fun h53 => 
                (storeK [] i51 (i52 + n46.toNat * 1) [Cell.int IntKind.i64 (IntKind.i64.wrap (n50 + 1))] (x40 (IntKind.i64.wrap (n41 + 1)))) h53)) h49)) h45)) h42)
                (Q [V.one (Cell.slice 1 l14)]))) h39) h37)))) h10))
theorem den207 (I : FuncId → List V → Post → T) (n0 : Int) (l1 : Sl) (Q : Post) : denF Go.Proofs.Tryz.prog 0 (⟨[], [(58, 2139095328, [(5, tk Go.Proofs.Tryz.prog 3), (23, tk Go.Proofs.Tryz.prog 3)]), (506, 4722366482861055538752, [(6, tk Go.Proofs.Tryz.prog 3), (9, tk Go.Proofs.Tryz.prog 22), (10, tk Go.Proofs.Tryz.prog 22), (33, tk Go.Proofs.Tryz.prog 3)]), (2042, 1237335576375572960312295424, [(79, tk Go.Proofs.Tryz.prog 3)])]⟩) I 207 [V.one (Cell.int IntKind.i64 n0), V.one (Cell.slice 1 l1)] Q = vc207 I n0 l1 Q := by kernel_rfl
/-- math/bits.Mul64 -/
def vc142 (I : FuncId → List V → Post → T) (n0 : Int) (n1 : Int) (Q : Post) : T :=
  Q [V.one (Cell.int IntKind.u64 (IntKind.u64.wrap (IntKind.u64.wrap (IntKind.u64.wrap (shr IntKind.u64 n0 32 * shr IntKind.u64 n1 32) + shr IntKind.u64 (IntKind.u64.wrap (IntKind.u64.wrap (shr IntKind.u64 n0 32 * IntKind.u64.wrap (↑(BitVec.ofInt 64 n1 &&& BitVec.ofInt 64 4294967295).toNat : Int)) + shr IntKind.u64 (IntKind.u64.wrap (IntKind.u64.wrap (↑(BitVec.ofInt 64 n0 &&& BitVec.ofInt 64 4294967295).toNat : Int) * IntKind.u64.wrap (↑(BitVec.ofInt 64 n1 &&& BitVec.ofInt 64 4294967295).toNat : Int))) 32)) 32) + shr IntKind.u64 (IntKind.u64.wrap (IntKind.u64.wrap (↑(BitVec.ofInt 64 (IntKind.u64.wrap (IntKind.u64.wrap (shr IntKind.u64 n0 32 * IntKind.u64.wrap (↑(BitVec.ofInt 64 n1 &&& BitVec.ofInt 64 4294967295).toNat : Int)) + shr IntKind.u64 (IntKind.u64.wrap (IntKind.u64.wrap (↑(BitVec.ofInt 64 n0 &&& BitVec.ofInt 64 4294967295).toNat : Int) * IntKind.u64.wrap (↑(BitVec.ofInt 64 n1 &&& BitVec.ofInt 64 4294967295).toNat : Int))) 32)) &&& BitVec.ofInt 64 4294967295).toNat : Int) + IntKind.u64.wrap (IntKind.u64.wrap (↑(BitVec.ofInt 64 n0 &&& BitVec.ofInt 64 4294967295).toNat : Int) * shr IntKind.u64 n1 32))) 32))), V.one (Cell.int IntKind.u64 (IntKind.u64.wrap (n0 * n1)))]
theorem den142 (I : FuncId → List V → Post → T) (n0 : Int) (n1 : Int) (Q : Post) : denF Go.Proofs.Tryz.prog 0 (⟨[], []⟩) I 142 [V.one (Cell.int IntKind.u64 n0), V.one (Cell.int IntKind.u64 n1)] Q = vc142 I n0 n1 Q := by kernel_rfl
/-- math/bits.Div64 -/
def vc143 (I : FuncId → List V → Post → T) (n0 : Int) (n1 : Int) (n2 : Int) (Q : Post) : T :=
  joinK (A := PUnit)
    (fun x3 => joinK (A := PUnit)
      (fun x4 => ifT (decide (n0 = 0))
        (fun h5 =>
        (n2 ≠ 0) ∧
        (n2 ≠ 0) ∧
        Q [V.one (Cell.int IntKind.u64 (IntKind.u64.wrap (n1.tdiv n2))), V.one (Cell.int IntKind.u64 (n1.tmod n2))] h5)
        (fun h6 =>
        I 196 [V.one (Cell.int IntKind.u64 n2)]
          (fun cs7 => fun h8 => 
          ∃ n9 : Int, (cs7 = [V.one (Cell.int IntKind.i64 n9)]) ∧
          (0 ≤ IntKind.u64.wrap n9) ∧
          (0 ≤ IntKind.u64.wrap n9) ∧
          (0 ≤ IntKind.u64.wrap (64 - IntKind.u64.wrap n9)) ∧
          (0 ≤ IntKind.u64.wrap n9) ∧
          (shr IntKind.u64 (shl IntKind.u64 n2 (IntKind.u64.wrap n9)) 32 ≠ 0) ∧
          (joinK (A := Int)
            (fun n10 => fun h11 => 
            (shr IntKind.u64 (shl IntKind.u64 n2 (IntKind.u64.wrap n9)) 32 ≠ 0) ∧
            (loopK (A := Int × Int) ((IntKind.u64.wrap (IntKind.u64.wrap (IntKind.u64.wrap (IntKind.u64.wrap (IntKind.u64.wrap (↑(BitVec.ofInt 64 (shl IntKind.u64 n0 (IntKind.u64.wrap n9)) ||| BitVec.ofInt 64 (shr IntKind.u64 n1 (IntKind.u64.wrap (64 - IntKind.u64.wrap n9)))).toNat : Int) * 4294967296) + shr IntKind.u64 (shl IntKind.u64 n1 (IntKind.u64.wrap n9)) 32) - IntKind.u64.wrap (n10 * shl IntKind.u64 n2 (IntKind.u64.wrap n9))) - IntKind.u64.wrap (IntKind.u64.wrap ((IntKind.u64.wrap (IntKind.u64.wrap (IntKind.u64.wrap (IntKind.u64.wrap (↑(BitVec.ofInt 64 (shl IntKind.u64 n0 (IntKind.u64.wrap n9)) ||| BitVec.ofInt 64 (shr IntKind.u64 n1 (IntKind.u64.wrap (64 - IntKind.u64.wrap n9)))).toNat : Int) * 4294967296) + shr IntKind.u64 (shl IntKind.u64 n1 (IntKind.u64.wrap n9)) 32) - IntKind.u64.wrap (n10 * shl IntKind.u64 n2 (IntKind.u64.wrap n9)))).tdiv (shr IntKind.u64 (shl IntKind.u64 n2 (IntKind.u64.wrap n9)) 32)) * shr IntKind.u64 (shl IntKind.u64 n2 (IntKind.u64.wrap n9)) 32)), IntKind.u64.wrap ((IntKind.u64.wrap (IntKind.u64.wrap (IntKind.u64.wrap (IntKind.u64.wrap (↑(BitVec.ofInt 64 (shl IntKind.u64 n0 (IntKind.u64.wrap n9)) ||| BitVec.ofInt 64 (shr IntKind.u64 n1 (IntKind.u64.wrap (64 - IntKind.u64.wrap n9)))).toNat : Int) * 4294967296) + shr IntKind.u64 (shl IntKind.u64 n1 (IntKind.u64.wrap n9)) 32) - IntKind.u64.wrap (n10 * shl IntKind.u64 n2 (IntKind.u64.wrap n9)))).tdiv (shr IntKind.u64 (shl IntKind.u64 n2 (IntKind.u64.wrap n9)) 32))))
              (fun x12 => uncur fun n13 n14 => ifT (decide (n14 ≥ 4294967296))
                (ifT (decide (IntKind.u64.wrap (n13 + shr IntKind.u64 (shl IntKind.u64 n2 (IntKind.u64.wrap n9)) 32) ≥ 4294967296))
                  (fun h15 =>
                  (0 ≤ IntKind.u64.wrap n9) ∧
                  Q [V.one (Cell.int IntKind.u64 (IntKind.u64.wrap (IntKind.u64.wrap (n10 * 4294967296) + IntKind.u64.wrap (n14 - 1)))), V.one (Cell.int IntKind.u64 (shr IntKind.u64 (IntKind.u64.wrap (IntKind.u64.wrap (IntKind.u64.wrap (IntKind.u64.wrap (IntKind.u64.wrap (IntKind.u64.wrap (IntKind.u64.wrap (↑(BitVec.ofInt 64 (shl IntKind.u64 n0 (IntKind.u64.wrap n9)) ||| BitVec.ofInt 64 (shr IntKind.u64 n1 (IntKind.u64.wrap (64 - IntKind.u64.wrap n9)))).toNat : Int) * 4294967296) + shr IntKind.u64 (shl IntKind.u64 n1 (IntKind.u64.wrap n9)) 32) - IntKind.u64.wrap (n10 * shl IntKind.u64 n2 (IntKind.u64.wrap n9))) * 4294967296) + IntKind.u64.wrap (↑(BitVec.ofInt 64 (shl IntKind.u64 n1 (IntKind.u64.wrap n9)) &&& BitVec.ofInt 64 4294967295).toNat : Int)) - IntKind.u64.wrap (IntKind.u64.wrap (n14 - 1) * shl IntKind.u64 n2 (IntKind.u64.wrap n9)))) (IntKind.u64.wrap n9)))] h15)
                  (x12 ((IntKind.u64.wrap (n13 + shr IntKind.u64 (shl IntKind.u64 n2 (IntKind.u64.wrap n9)) 32), IntKind.u64.wrap (n14 - 1)))))
                (ifT (decide (IntKind.u64.wrap (n14 * IntKind.u64.wrap (↑(BitVec.ofInt 64 (shl IntKind.u64 n2 (IntKind.u64.wrap n9)) &&& BitVec.ofInt 64 4294967295).toNat : Int)) > IntKind.u64.wrap (IntKind.u64.wrap (4294967296 * n13) + IntKind.u64.wrap (↑(BitVec.ofInt 64 (shl IntKind.u64 n1 (IntKind.u64.wrap n9)) &&& BitVec.ofInt 64 4294967295).toNat : Int))))
                  (ifT (decide (IntKind.u64.wrap (n13 + shr IntKind.u64 (shl IntKind.u64 n2 (IntKind.u64.wrap n9)) 32) ≥ 4294967296))
                    (fun h16 =>
                    (0 ≤ IntKind.u64.wrap n9) ∧
                    Q [V.one (Cell.int IntKind.u64 (IntKind.u64.wrap (IntKind.u64.wrap (n10 * 4294967296) + IntKind.u64.wrap (n14 - 1)))), V.one (Cell.int IntKind.u64 (shr IntKind.u64 (IntKind.u64.wrap (IntKind.u64.wrap (IntKind.u64.wrap (IntKind.u64.wrap (IntKind.u64.wrap (IntKind.u64.wrap (IntKind.u64.wrap (↑(BitVec.ofInt 64 (shl IntKind.u64 n0 (IntKind.u64.wrap n9)) ||| BitVec.ofInt 64 (shr IntKind.u64 n1 (IntKind.u64.wrap (64 - IntKind.u64.wrap n9)))).toNat : Int) * 4294967296) + shr IntKind.u64 (shl IntKind.u64 n1 (IntKind.u64.wrap n9)) 32) - IntKind.u64.wrap (n10 * shl IntKind.u64 n2 (IntKind.u64.wrap n9))) * 4294967296) + IntKind.u64.wrap (↑(BitVec.ofInt 64 (shl IntKind.u64 n1 (IntKind.u64.wrap n9)) &&& BitVec.ofInt 64 4294967295).toNat : Int)) - IntKind.u64.wrap (IntKind.u64.wrap (n14 - 1) * shl IntKind.u64 n2 (IntKind.u64.wrap n9)))) (IntKind.u64.wrap n9)))] h16)
                    (x12 ((IntKind.u64.wrap (n13 + shr IntKind.u64 (shl IntKind.u64 n2 (IntKind.u64.wrap n9)) 32), IntKind.u64.wrap (n14 - 1)))))
                  (fun h17 =>
                  (0 ≤ IntKind.u64.wrap n9) ∧
                  Q [V.one (Cell.int IntKind.u64 (IntKind.u64.wrap (IntKind.u64.wrap (n10 * 4294967296) + n14))), V.one (Cell.int IntKind.u64 (shr IntKind.u64 (IntKind.u64.wrap (IntKind.u64.wrap (IntKind.u64.wrap (IntKind.u64.wrap (IntKind.u64.wrap (IntKind.u64.wrap (IntKind.u64.wrap (↑(BitVec.ofInt 64 (shl IntKind.u64 n0 (IntKind.u64.wrap n9)) ||| BitVec.ofInt 64 (shr IntKind.u64 n1 (IntKind.u64.wrap (64 - IntKind.u64.wrap n9)))).toNat : Int) * 4294967296) + shr IntKind.u64 (shl IntKind.u64 n1 (IntKind.u64.wrap n9)) 32) - IntKind.u64.wrap (n10 * shl IntKind.u64 n2 (IntKind.u64.wrap n9))) * 4294967296) + IntKind.u64.wrap (↑(BitVec.ofInt 64 (shl IntKind.u64 n1 (IntKind.u64.wrap n9)) &&& BitVec.ofInt 64 4294967295).toNat : Int)) - IntKind.u64.wrap (n14 * shl IntKind.u64 n2 (IntKind.u64.wrap n9)))) (IntKind.u64.wrap n9)))] h17)))) h11)
            (fun x18 => loopK (A := Int × Int) ((IntKind.u64.wrap ((IntKind.u64.wrap (↑(BitVec.ofInt 64 (shl IntKind.u64 n0 (IntKind.u64.wrap n9)) ||| BitVec.ofInt 64 (shr IntKind.u64 n1 (IntKind.u64.wrap (64 - IntKind.u64.wrap n9)))).toNat : Int)).tdiv (shr IntKind.u64 (shl IntKind.u64 n2 (IntKind.u64.wrap n9)) 32)), IntKind.u64.wrap (IntKind.u64.wrap (↑(BitVec.ofInt 64 (shl IntKind.u64 n0 (IntKind.u64.wrap n9)) ||| BitVec.ofInt 64 (shr IntKind.u64 n1 (IntKind.u64.wrap (64 - IntKind.u64.wrap n9)))).toNat : Int) - IntKind.u64.wrap (IntKind.u64.wrap ((IntKind.u64.wrap (↑(BitVec.ofInt 64 (shl IntKind.u64 n0 (IntKind.u64.wrap n9)) ||| BitVec.ofInt 64 (shr IntKind.u64 n1 (IntKind.u64.wrap (64 - IntKind.u64.wrap n9)))).toNat : Int)).tdiv (shr IntKind.u64 (shl IntKind.u64 n2 (IntKind.u64.wrap n9)) 32)) * shr IntKind.u64 (shl IntKind.u64 n2 (IntKind.u64.wrap n9)) 32))))
              (fun x19 => uncur fun n20 n21 => ifT (decide (n20 ≥ 4294967296))
                (ifT (decide (IntKind.u64.wrap (n21 + shr IntKind.u64 (shl IntKind.u64 n2 (IntKind.u64.wrap n9)) 32) ≥ 4294967296))
                  (x18 (IntKind.u64.wrap (n20 - 1)))
                  (x19 ((IntKind.u64.wrap (n20 - 1), IntKind.u64.wrap (n21 + shr IntKind.u64 (shl IntKind.u64 n2 (IntKind.u64.wrap n9)) 32)))))
                (ifT (decide (IntKind.u64.wrap (n20 * IntKind.u64.wrap (↑(BitVec.ofInt 64 (shl IntKind.u64 n2 (IntKind.u64.wrap n9)) &&& BitVec.ofInt 64 4294967295).toNat : Int)) > IntKind.u64.wrap (IntKind.u64.wrap (4294967296 * n21) + shr IntKind.u64 (shl IntKind.u64 n1 (IntKind.u64.wrap n9)) 32)))
                  (ifT (decide (IntKind.u64.wrap (n21 + shr IntKind.u64 (shl IntKind.u64 n2 (IntKind.u64.wrap n9)) 32) ≥ 4294967296))
                    (x18 (IntKind.u64.wrap (n20 - 1)))
                    (x19 ((IntKind.u64.wrap (n20 - 1), IntKind.u64.wrap (n21 + shr IntKind.u64 (shl IntKind.u64 n2 (IntKind.u64.wrap n9)) 32)))))
                  (x18 n20))))) h8) h6))
      (fun x22 => ifT (decide (n2 ≤ n0))
        (no)
        (x22 ())))
    (fun x23 => ifT (decide (n2 = 0))
      (no)
      (x23 ()))
theorem den143 (I : FuncId → List V → Post → T) (n0 : Int) (n1 : Int) (n2 : Int) (Q : Post) : denF Go.Proofs.Tryz.prog 0 (⟨[(13, 2097152, []), (29, 33554432, []), (65534, 77371104881383677504880640, [(15, tk Go.Proofs.Tryz.prog 195)])], [(131068, 77371104881383677504880640, [(15, tk Go.Proofs.Tryz.prog 195), (16, tk Go.Proofs.Tryz.prog 195)]), (2097148, 2658450920967430832890008133748195328, [(16, tk Go.Proofs.Tryz.prog 195), (18, tk Go.Proofs.Tryz.prog 195)])]⟩) I 143 [V.one (Cell.int IntKind.u64 n0), V.one (Cell.int IntKind.u64 n1), V.one (Cell.int IntKind.u64 n2)] Q = vc143 I n0 n1 n2 Q := by kernel_rfl
/-- math/bits.LeadingZeros64 -/
def vc196 (I : FuncId → List V → Post → T) (n0 : Int) (Q : Post) : T :=
  fun h1 =>
  I 167 [V.one (Cell.int IntKind.u64 n0)]
    (fun cs2 => fun h3 => 
    ∃ n4 : Int, (cs2 = [V.one (Cell.int IntKind.i64 n4)]) ∧
    Q [V.one (Cell.int IntKind.i64 (IntKind.i64.wrap (64 - n4)))] h3) h1
theorem den196 (I : FuncId → List V → Post → T) (n0 : Int) (Q : Post) : denF Go.Proofs.Tryz.prog 0 (⟨[], []⟩) I 196 [V.one (Cell.int IntKind.u64 n0)] Q = vc196 I n0 Q := by kernel_rfl
/-- slices.SortStableFunc[[]int,int] -/
def vc235 (I : FuncId → List V → Post → T) (l0 : Sl) (p1 : Option (Nat × List (Nat × Nat))) (Q : Post) : T :=
  fun h2 =>
  I 264 [V.one (Cell.slice 1 l0), V.one (Cell.int IntKind.i64 (↑l0.len : Int)), V.one (Cell.func p1)]
    (fun cs3 => fun h4 => 
    (cs3 = []) ∧
    Q [] h4) h2
theorem den235 (I : FuncId → List V → Post → T) (l0 : Sl) (p1 : Option (Nat × List (Nat × Nat))) (Q : Post) : denF Go.Proofs.Tryz.prog 0 (⟨[], []⟩) I 235 [V.one (Cell.slice 1 l0), V.one (Cell.func p1)] Q = vc235 I l0 p1 Q := by kernel_rfl
/-- slices.stableCmpFunc[int] -/
def vc264 (I : FuncId → List V → Post → T) (l0 : Sl) (n1 : Int) (p2 : Option (Nat × List (Nat × Nat))) (Q : Post) : T :=
  loopK (A := Int × Int) ((0, 20))
    (fun x3 => uncur fun n4 n5 => ifT (decide (n5 ≤ n1))
      (fun h6 =>
      I 244 [V.one (Cell.slice 1 l0), V.one (Cell.int IntKind.i64 n4), V.one (Cell.int IntKind.i64 n5), V.one (Cell.func p2)]
        (fun cs7 => fun h8 => 
        (cs7 = []) ∧
        x3 ((n5, IntKind.i64.wrap (n5 + 20))) h8) h6)
      (fun h9 =>
      I 244 [V.one (Cell.slice 1 l0), V.one (Cell.int IntKind.i64 n4), V.one (Cell.int IntKind.i64 n1), V.one (Cell.func p2)]
        (fun cs10 => fun h11 => 
        (cs10 = []) ∧
        (loopK (A := Int) 20
          (fun x12 => fun n13 => ifT (decide (n13 < n1))
            (loopK (A := Int × Int) ((0, IntKind.i64.wrap (2 * n13)))
              (fun x14 => uncur fun n15 n16 => ifT (decide (n16 ≤ n1))
                (fun h17 =>
                I 278 [V.one (Cell.slice 1 l0), V.one (Cell.int IntKind.i64 n15), V.one (Cell.int IntKind.i64 (IntKind.i64.wrap (n15 + n13))), V.one (Cell.int IntKind.i64 n16), V.one (Cell.func p2)]
                  (fun cs18 => fun h19 => 
                  (cs18 = []) ∧
                  x14 ((n16, IntKind.i64.wrap (n16 + IntKind.i64.wrap (2 * n13)))) h19) h17)
                (ifT (decide (IntKind.i64.wrap (n15 + n13) < n1))
                  (fun h20 =>
                  I 278 [V.one (Cell.slice 1 l0), V.one (Cell.int IntKind.i64 n15), V.one (Cell.int IntKind.i64 (IntKind.i64.wrap (n15 + n13))), V.one (Cell.int IntKind.i64 n1), V.one (Cell.func p2)]
                    (fun cs21 => fun h22 => 
                    (cs21 = []) ∧
                    x12 (IntKind.i64.wrap (n13 * 2)) h22) h20)
                  (x12 (IntKind.i64.wrap (n13 * 2))))))
            (Q []))) h11) h9))
theorem den264 (I : FuncId → List V → Post → T) (l0 : Sl) (n1 : Int) (p2 : Option (Nat × List (Nat × Nat))) (Q : Post) : denF Go.Proofs.Tryz.prog 0 (⟨[], [(28, 8386944, [(7, tk Go.Proofs.Tryz.prog 3), (8, tk Go.Proofs.Tryz.prog 3)]), (62, 9223372036586341312, [(6, tk Go.Proofs.Tryz.prog 3)]), (3988, 562941363487104, [(7, tk Go.Proofs.Tryz.prog 3), (8, tk Go.Proofs.Tryz.prog 3)])]⟩) I 264 [V.one (Cell.slice 1 l0), V.one (Cell.int IntKind.i64 n1), V.one (Cell.func p2)] Q = vc264 I l0 n1 p2 Q := by kernel_rfl
/-- slices.insertionSortCmpFunc[int] -/
def vc244 (I : FuncId → List V → Post → T) (l0 : Sl) (n1 : Int) (n2 : Int) (p3 : Option (Nat × List (Nat × Nat))) (Q : Post) : T :=
  loopK (A := Int) (IntKind.i64.wrap (n1 + 1))
    (fun x4 => fun n5 => ifT (decide (n5 < n2))
      (loopK (A := Int) n5
        (fun x6 => fun n7 => joinK (A := Bool)
          (fun b8 => ifT b8
            (fun h9 =>
            ((0 ≤ IntKind.i64.wrap (n7 - 1)) ∧
            IntKind.i64.wrap (n7 - 1) < (↑l0.len : Int)) ∧
            (derefK l0.a (fun i10 => fun i11 => fun h12 =>
            ∃ n13 : Int, (h12.read i10 (i11 + (IntKind.i64.wrap (n7 - 1)).toNat * 1) 1 = some [Cell.int IntKind.i64 n13]) ∧
            ((0 ≤ n7) ∧
            n7 < (↑l0.len : Int)) ∧
            (derefK l0.a (fun i14 => fun i15 => fun h16 =>
            ∃ n17 : Int, (h16.read i14 (i15 + n7.toNat * 1) 1 = some [Cell.int IntKind.i64 n17]) ∧
            ((0 ≤ n7) ∧
            n7 < (↑l0.len : Int)) ∧
            (derefK l0.a (fun i18 => fun i19 => fun h20 => 
            (storeK [] i18 (i19 + n7.toNat * 1) [Cell.int IntKind.i64 n13] (fun h21 =>
            ((0 ≤ IntKind.i64.wrap (n7 - 1)) ∧
            IntKind.i64.wrap (n7 - 1) < (↑l0.len : Int)) ∧
            (derefK l0.a (fun i22 => fun i23 => fun h24 => 
            (storeK [] i22 (i23 + (IntKind.i64.wrap (n7 - 1)).toNat * 1) [Cell.int IntKind.i64 n17] (x6 (IntKind.i64.wrap (n7 - 1)))) h24)) h21)) h20)) h16)) h12)) h9)
            (x4 (IntKind.i64.wrap (n5 + 1))))
          (fun x25 => ifT (decide (n7 > n1))
            (fun h26 =>
            ((0 ≤ n7) ∧
            n7 < (↑l0.len : Int)) ∧
            (derefK l0.a (fun i27 => fun i28 => fun h29 =>
            ∃ n30 : Int, (h29.read i27 (i28 + n7.toNat * 1) 1 = some [Cell.int IntKind.i64 n30]) ∧
            ((0 ≤ IntKind.i64.wrap (n7 - 1)) ∧
            IntKind.i64.wrap (n7 - 1) < (↑l0.len : Int)) ∧
            (derefK l0.a (fun i31 => fun i32 => fun h33 =>
            ∃ n34 : Int, (h33.read i31 (i32 + (IntKind.i64.wrap (n7 - 1)).toNat * 1) 1 = some [Cell.int IntKind.i64 n34]) ∧
            (funK p3 (fun i35 => fun cs36 => fun h37 => 
            I i35 (V.one (Cell.int IntKind.i64 n30) :: V.one (Cell.int IntKind.i64 n34) :: cs36)
              (fun cs38 => fun h39 => 
              ∃ n40 : Int, (cs38 = [V.one (Cell.int IntKind.i64 n40)]) ∧
              x25 (decide (n40 < 0)) h39) h37)) h33)) h29)) h26)
            (x25 false))))
      (Q []))
theorem den244 (I : FuncId → List V → Post → T) (l0 : Sl) (n1 : Int) (n2 : Int) (p3 : Option (Nat × List (Nat × Nat))) (Q : Post) : denF Go.Proofs.Tryz.prog 0 (⟨[(3216, 34359476224, [(34, tk Go.Proofs.Tryz.prog 4)])], [(6, 9007199254737664, [(8, tk Go.Proofs.Tryz.prog 3)]), (402, 9007199254479360, [(9, tk Go.Proofs.Tryz.prog 3)])]⟩) I 244 [V.one (Cell.slice 1 l0), V.one (Cell.int IntKind.i64 n1), V.one (Cell.int IntKind.i64 n2), V.one (Cell.func p3)] Q = vc244 I l0 n1 n2 p3 Q := by kernel_rfl
/-- handbill/offer.share$1 -/
def vc236 (I : FuncId → List V → Post → T) (n0 : Int) (n1 : Int) (i2 : Nat) (i3 : Nat) (Q : Post) : T :=
  fun h4 =>
  ∃ l5 : Sl, (h4.read i2 i3 1 = some [Cell.slice 1 l5]) ∧
  ((0 ≤ n1) ∧
  n1 < (↑l5.len : Int)) ∧
  (derefK l5.a (fun i6 => fun i7 => fun h8 =>
  ∃ n9 : Int, (h8.read i6 (i7 + n1.toNat * 1) 1 = some [Cell.int IntKind.u64 n9]) ∧
  ∃ l10 : Sl, (h8.read i2 i3 1 = some [Cell.slice 1 l10]) ∧
  ((0 ≤ n0) ∧
  n0 < (↑l10.len : Int)) ∧
  (derefK l10.a (fun i11 => fun i12 => fun h13 =>
  ∃ n14 : Int, (h13.read i11 (i12 + n0.toNat * 1) 1 = some [Cell.int IntKind.u64 n14]) ∧
  I 237 [V.one (Cell.int IntKind.u64 n9), V.one (Cell.int IntKind.u64 n14)]
    (fun cs15 => fun h16 => 
    ∃ n17 : Int, (cs15 = [V.one (Cell.int IntKind.i64 n17)]) ∧
    Q [V.one (Cell.int IntKind.i64 n17)] h16) h13)) h8)) h4
theorem den236 (I : FuncId → List V → Post → T) (n0 : Int) (n1 : Int) (i2 : Nat) (i3 : Nat) (Q : Post) : denF Go.Proofs.Tryz.prog 0 (⟨[], []⟩) I 236 [V.one (Cell.int IntKind.i64 n0), V.one (Cell.int IntKind.i64 n1), V.one (Cell.ptr (some (i2, i3)))] Q = vc236 I n0 n1 i2 i3 Q := by kernel_rfl
/-- cmp.Compare[uint64] -/
def vc237 (I : FuncId → List V → Post → T) (n0 : Int) (n1 : Int) (Q : Post) : T :=
  fun h2 =>
  I 265 [V.one (Cell.int IntKind.u64 n0)]
    (fun cs3 => fun h4 => 
    ∃ b5 : Bool, (cs3 = [V.one (Cell.bool b5)]) ∧
    I 265 [V.one (Cell.int IntKind.u64 n1)]
      (fun cs6 => fun h7 => 
      ∃ b8 : Bool, (cs6 = [V.one (Cell.bool b8)]) ∧
      (ifT b5
        (ifT b8
          (Q [V.one (Cell.int IntKind.i64 0)])
          (Q [V.one (Cell.int IntKind.i64 (-1))]))
        (ifT b8
          (Q [V.one (Cell.int IntKind.i64 1)])
          (ifT (decide (n0 < n1))
            (Q [V.one (Cell.int IntKind.i64 (-1))])
            (ifT (decide (n0 > n1))
              (Q [V.one (Cell.int IntKind.i64 1)])
              (Q [V.one (Cell.int IntKind.i64 0)]))))) h7) h4) h2
theorem den237 (I : FuncId → List V → Post → T) (n0 : Int) (n1 : Int) (Q : Post) : denF Go.Proofs.Tryz.prog 0 (⟨[], []⟩) I 237 [V.one (Cell.int IntKind.u64 n0), V.one (Cell.int IntKind.u64 n1)] Q = vc237 I n0 n1 Q := by kernel_rfl
/-- cmp.isNaN[uint64] -/
def vc265 (I : FuncId → List V → Post → T) (n0 : Int) (Q : Post) : T :=
  Q [V.one (Cell.bool (!decide (n0 = n0)))]
theorem den265 (I : FuncId → List V → Post → T) (n0 : Int) (Q : Post) : denF Go.Proofs.Tryz.prog 0 (⟨[], []⟩) I 265 [V.one (Cell.int IntKind.u64 n0)] Q = vc265 I n0 Q := by kernel_rfl
/-- (*handbill/offer.pricer).amount -/
def vc155 (I : FuncId → List V → Post → T) (p0 : Option (Nat × Nat)) (s1 : ByteArray) (n2 : Int) (n3 : Int) (n4 : Int) (l5 : Sl) (n6 : Int) (n7 : Int) (s8 : ByteArray) (b9 : Bool) (n10 : Int) (n11 : Int) (n12 : Int) (Q : Post) : T :=
  derefK p0 (fun i13 => fun i14 => fun h15 =>
  ∃ l16 : Sl, (h15.read i13 (i14 + 2) 1 = some [Cell.slice 1 l16]) ∧
  (true = true) ∧
  (0 ≤ (↑l16.len : Int)) ∧
  ((↑l16.len : Int) ≤ (↑l16.len : Int)) ∧
  ((↑l16.len : Int) * (↑8 : Int) ≤ 140737488355328) ∧
  (newK (.cells false (slCells (VK.one (Kd.int IntKind.i64)) (↑l16.len : Int).toNat)) (fun i17 => derefK p0 (fun i18 => fun i19 => fun h20 =>
  ∃ l21 : Sl, (h20.read i18 (i19 + 2) 1 = some [Cell.slice 1 l21]) ∧
  (loopK (A := Int × Int) ((0, 0))
    (fun x22 => uncur fun n23 n24 => ifT (decide (n24 < (↑l21.len : Int)))
      (fun h25 =>
      ((0 ≤ n24) ∧
      n24 < (↑l21.len : Int)) ∧
      (derefK l21.a (fun i26 => fun i27 => fun h28 =>
      ∃ n29 : Int, (h28.read i26 (i27 + n24.toNat * 1) 1 = some [Cell.int IntKind.i64 n29]) ∧
      (derefK p0 (fun i30 => fun i31 => fun h32 =>
      ∃ l33 : Sl, (h32.read i30 (i31 + 0 + 0) 1 = some [Cell.slice 4 l33]) ∧
      ((0 ≤ n24) ∧
      n24 < (↑l33.len : Int)) ∧
      (derefK l33.a (fun i34 => fun i35 => fun h36 =>
      ∃ s37 : ByteArray, ∃ n38 : Int, ∃ n39 : Int, ∃ l40 : Sl, (h36.read i34 (i35 + n24.toNat * 4) 4 = some [Cell.str s37, Cell.int IntKind.i64 n38, Cell.int IntKind.i64 n39, Cell.slice 1 l40]) ∧
      I 110 [V.agg [Cell.str s1, Cell.int IntKind.i64 n2, Cell.int IntKind.i64 n3, Cell.int IntKind.i64 n4, Cell.slice 1 l5, Cell.int IntKind.i64 n6, Cell.int IntKind.i64 n7, Cell.str s8, Cell.bool b9, Cell.int IntKind.i64 n10, Cell.int IntKind.i64 n11, Cell.int IntKind.i64 n12], V.agg [Cell.str s37, Cell.int IntKind.i64 n38, Cell.int IntKind.i64 n39, Cell.slice 1 l40]]
        (fun cs41 => fun h42 => 
        ∃ b43 : Bool, (cs41 = [V.one (Cell.bool b43)]) ∧
        (ifT b43
          (fun h44 =>
          ((0 ≤ n24) ∧
          n24 < (↑(↑l16.len : Int).toNat : Int)) ∧
          (storeK [] i17 (0 + n24.toNat * 1) [Cell.int IntKind.i64 n29] (x22 ((IntKind.i64.wrap (n23 + n29), IntKind.i64.wrap (n24 + 1))))) h44)
          (x22 ((n23, IntKind.i64.wrap (n24 + 1))))) h42) h36)) h32)) h28)) h25)
      (ifT (!decide (n7 = 0))
        (ifT (decide (n23 = 0))
          (Q [V.one (Cell.slice 1 { a := some (i17, 0), len := (↑l16.len : Int).toNat })])
          (fun h45 =>
          I 207 [V.one (Cell.int IntKind.i64 (min (min n3 n23) n7)), V.one (Cell.slice 1 { a := some (i17, 0), len := (↑l16.len : Int).toNat })]
            (fun cs46 => fun h47 => 
            ∃ l48 : Sl, (cs46 = [V.one (Cell.slice 1 l48)]) ∧
            Q [V.one (Cell.slice 1 l48)] h47) h45))
        (ifT (decide (n23 = 0))
          (Q [V.one (Cell.slice 1 { a := some (i17, 0), len := (↑l16.len : Int).toNat })])
          (fun h49 =>
          I 207 [V.one (Cell.int IntKind.i64 (min n3 n23)), V.one (Cell.slice 1 { a := some (i17, 0), len := (↑l16.len : Int).toNat })]
            (fun cs50 => fun h51 => 
            ∃ l52 : Sl, (cs50 = [V.one (Cell.slice 1 l52)]) ∧
            Q [V.one (Cell.slice 1 l52)] h51) h49))))) h20))) h15)
theorem den155 (I : FuncId → List V → Post → T) (p0 : Option (Nat × Nat)) (s1 : ByteArray) (n2 : Int) (n3 : Int) (n4 : Int) (l5 : Sl) (n6 : Int) (n7 : Int) (s8 : ByteArray) (b9 : Bool) (n10 : Int) (n11 : Int) (n12 : Int) (Q : Post) : denF Go.Proofs.Tryz.prog 8 (⟨[], [(58, 17592183947712, [(6, tk Go.Proofs.Tryz.prog 3), (21, tk Go.Proofs.Tryz.prog 3)])]⟩) I 155 [V.one (Cell.ptr p0), V.agg [Cell.str s1, Cell.int IntKind.i64 n2, Cell.int IntKind.i64 n3, Cell.int IntKind.i64 n4, Cell.slice 1 l5, Cell.int IntKind.i64 n6, Cell.int IntKind.i64 n7, Cell.str s8, Cell.bool b9, Cell.int IntKind.i64 n10, Cell.int IntKind.i64 n11, Cell.int IntKind.i64 n12]] Q = vc155 I p0 s1 n2 n3 n4 l5 n6 n7 s8 b9 n10 n11 n12 Q := by kernel_rfl
/-- (*handbill/offer.pricer).free -/
def vc156 (I : FuncId → List V → Post → T) (p0 : Option (Nat × Nat)) (s1 : ByteArray) (n2 : Int) (n3 : Int) (n4 : Int) (l5 : Sl) (n6 : Int) (n7 : Int) (s8 : ByteArray) (b9 : Bool) (n10 : Int) (n11 : Int) (n12 : Int) (Q : Post) : T :=
  derefK p0 (fun i13 => fun i14 => fun h15 =>
  ∃ l16 : Sl, (h15.read i13 (i14 + 0 + 0) 1 = some [Cell.slice 4 l16]) ∧
  (loopK (A := Sl × Int) (({ a := none, len := 0 }, 0))
    (fun x17 => uncur fun l18 n19 => ifT (decide (n19 < (↑l16.len : Int)))
      (fun h20 =>
      ((0 ≤ n19) ∧
      n19 < (↑l16.len : Int)) ∧
      (derefK l16.a (fun i21 => fun i22 => fun h23 =>
      ∃ s24 : ByteArray, ∃ n25 : Int, ∃ n26 : Int, ∃ l27 : Sl, (h23.read i21 (i22 + n19.toNat * 4) 4 = some [Cell.str s24, Cell.int IntKind.i64 n25, Cell.int IntKind.i64 n26, Cell.slice 1 l27]) ∧
      I 110 [V.agg [Cell.str s1, Cell.int IntKind.i64 n2, Cell.int IntKind.i64 n3, Cell.int IntKind.i64 n4, Cell.slice 1 l5, Cell.int IntKind.i64 n6, Cell.int IntKind.i64 n7, Cell.str s8, Cell.bool b9, Cell.int IntKind.i64 n10, Cell.int IntKind.i64 n11, Cell.int IntKind.i64 n12], V.agg [Cell.str s24, Cell.int IntKind.i64 n25, Cell.int IntKind.i64 n26, Cell.slice 1 l27]]
        (fun cs28 => fun h29 => 
        ∃ b30 : Bool, (cs28 = [V.one (Cell.bool b30)]) ∧
        (ifT b30
          (derefK p0 (fun i31 => fun i32 => fun h33 =>
          ∃ l34 : Sl, (h33.read i31 (i32 + 2) 1 = some [Cell.slice 1 l34]) ∧
          ((0 ≤ n19) ∧
          n19 < (↑l34.len : Int)) ∧
          (derefK l34.a (fun i35 => fun i36 => fun h37 =>
          ∃ n38 : Int, (h37.read i35 (i36 + n19.toNat * 1) 1 = some [Cell.int IntKind.i64 n38]) ∧
          (n26 ≠ 0) ∧
          (newK (.cells false [Cell.int IntKind.i64 n19, Cell.int IntKind.i64 (IntKind.i64.wrap (n38.tdiv n26))]) (fun i39 => fun h40 =>
          I 208 [V.one (Cell.slice 2 { a := some (i39, 0), len := 1 }), V.one (Cell.int IntKind.i64 n26)]
            (fun cs41 => fun h42 => 
            ∃ l43 : Sl, (cs41 = [V.one (Cell.slice 2 l43)]) ∧
            ∃ cs44 : List Cell, (h42.sl 2 l43 = some cs44) ∧
            (appendTo [] 2 16 l18 l43.len cs44 (fun l45 => fun h46 => 
            x17 ((l45, IntKind.i64.wrap (n19 + 1))) h46)) h42) h40)) h37)) h33))
          (x17 ((l18, IntKind.i64.wrap (n19 + 1))))) h29) h23)) h20)
      (fun h47 =>
      I 209 [V.one (Cell.slice 2 l18), V.one (Cell.func (some (210, [])))]
        (fun cs48 => fun h49 => 
        (cs48 = []) ∧
        (derefK p0 (fun i50 => fun i51 => fun h52 =>
        ∃ l53 : Sl, (h52.read i50 (i51 + 2) 1 = some [Cell.slice 1 l53]) ∧
        (true = true) ∧
        (0 ≤ (↑l53.len : Int)) ∧
        ((↑l53.len : Int) ≤ (↑l53.len : Int)) ∧
        ((↑l53.len : Int) * (↑8 : Int) ≤ 140737488355328) ∧
        (newK (.cells false (slCells (VK.one (Kd.int IntKind.i64)) (↑l53.len : Int).toNat)) (fun i54 => loopK (A := Sl) l18
          (fun x55 => fun l56 => ifT (decide ((↑l56.len : Int) ≥ IntKind.i64.wrap (n3 + n4)))
            (fun h57 =>
            ((0 ≤ n3) ∧
            (n3 ≤ IntKind.i64.wrap (n3 + n4)) ∧
            IntKind.i64.wrap (n3 + n4) ≤ (↑l56.len : Int)) ∧
            (loopK (A := Int) 0
              (fun x58 => fun n59 => ifT (decide (n59 < (↑(l56.sub 2 n3.toNat (IntKind.i64.wrap (n3 + n4)).toNat).len : Int)))
                (fun h60 =>
                ((0 ≤ n59) ∧
                n59 < (↑(l56.sub 2 n3.toNat (IntKind.i64.wrap (n3 + n4)).toNat).len : Int)) ∧
                (derefK ((l56.sub 2 n3.toNat (IntKind.i64.wrap (n3 + n4)).toNat).a) (fun i61 => fun i62 => fun h63 =>
                ∃ n64 : Int, ∃ n65 : Int, (h63.read i61 (i62 + n59.toNat * 2) 2 = some [Cell.int IntKind.i64 n64, Cell.int IntKind.i64 n65]) ∧
                ((0 ≤ n64) ∧
                n64 < (↑(↑l53.len : Int).toNat : Int)) ∧
                ∃ n66 : Int, (h63.read i54 (0 + n64.toNat * 1) 1 = some [Cell.int IntKind.i64 n66]) ∧
                ((0 ≤ n64) ∧
                n64 < (↑(↑l53.len : Int).toNat : Int)) ∧
                (storeK [] i54 (0 + n64.toNat * 1) [Cell.int IntKind.i64 (IntKind.i64.wrap (n66 + n65))] (x58 (IntKind.i64.wrap (n59 + 1)))) h63)) h60)
                (fun h67 =>
                ((0 ≤ IntKind.i64.wrap (n3 + n4)) ∧
                (IntKind.i64.wrap (n3 + n4) ≤ (↑l56.len : Int)) ∧
                (↑l56.len : Int) ≤ (↑l56.len : Int)) ∧
                x55 (l56.sub 2 (IntKind.i64.wrap (n3 + n4)).toNat (↑l56.len : Int).toNat) h67))) h57)
            (fun h68 =>
            I 206 [V.one (Cell.slice 1 { a := some (i54, 0), len := (↑l53.len : Int).toNat }), V.one (Cell.int IntKind.i64 n7)]
              (fun cs69 => fun h70 => 
              ∃ l71 : Sl, (cs69 = [V.one (Cell.slice 1 l71)]) ∧
              Q [V.one (Cell.slice 1 l71)] h70) h68)))) h52)) h49) h47))) h15)
theorem den156 (I : FuncId → List V → Post → T) (p0 : Option (Nat × Nat)) (s1 : ByteArray) (n2 : Int) (n3 : Int) (n4 : Int) (l5 : Sl) (n6 : Int) (n7 : Int) (s8 : ByteArray) (b9 : Bool) (n10 : Int) (n11 : Int) (n12 : Int) (Q : Post) : denF Go.Proofs.Tryz.prog 1160 (⟨[], [(58, 17592185913568, [(5, tk Go.Proofs.Tryz.prog 244), (17, tk Go.Proofs.Tryz.prog 3)]), (252, 2475880078566256950170879008, [(5, tk Go.Proofs.Tryz.prog 244)]), (16146, 2475728962843308721151411200, [(77, tk Go.Proofs.Tryz.prog 3)])]⟩) I 156 [V.one (Cell.ptr p0), V.agg [Cell.str s1, Cell.int IntKind.i64 n2, Cell.int IntKind.i64 n3, Cell.int IntKind.i64 n4, Cell.slice 1 l5, Cell.int IntKind.i64 n6, Cell.int IntKind.i64 n7, Cell.str s8, Cell.bool b9, Cell.int IntKind.i64 n10, Cell.int IntKind.i64 n11, Cell.int IntKind.i64 n12]] Q = vc156 I p0 s1 n2 n3 n4 l5 n6 n7 s8 b9 n10 n11 n12 Q := by kernel_rfl
/-- slices.Repeat[[]handbill/offer.piece,handbill/offer.piece] (by hand) -/
def vc208 (I : FuncId → List V → Post → T) (l0 : Sl) (n1 : Int) (Q : Post) : T :=
  joinK (A := PUnit)
    (fun x2 => fun h3 => 
    I 238 [V.one (Cell.int IntKind.u64 (IntKind.u64.wrap (↑l0.len : Int))), V.one (Cell.int IntKind.u64 (IntKind.u64.wrap n1))]
      (fun cs4 => fun h5 => 
      ∃ n6 : Int, ∃ n7 : Int, (cs4 = [V.one (Cell.int IntKind.u64 n6), V.one (Cell.int IntKind.u64 n7)]) ∧
      (joinK (A := Bool)
        (fun b8 => joinK (A := PUnit)
          (fun x9 => fun h10 => 
          (true = true) ∧
          (0 ≤ IntKind.i64.wrap n7) ∧
          (IntKind.i64.wrap n7 ≤ IntKind.i64.wrap n7) ∧
          (IntKind.i64.wrap n7 * (↑16 : Int) ≤ 140737488355328) ∧
          (newK (.cells false (slCells (VK.agg [Kd.int IntKind.i64, Kd.int IntKind.i64]) (IntKind.i64.wrap n7).toNat)) (fun i11 => fun h12 => 
          ∃ cs13 : List Cell, (h12.sl 2 l0 = some cs13) ∧
          (storeK [] i11 0 (List.take (min l0.len (IntKind.i64.wrap n7).toNat * 2) cs13) (loopK (A := Int) ((↑(min l0.len (IntKind.i64.wrap n7).toNat) : Int))
            (fun x14 => fun n15 => ifT (decide (n15 < (↑(IntKind.i64.wrap n7).toNat : Int)))
              (fun h16 =>
              ((0 ≤ n15) ∧
              (n15 ≤ (↑(IntKind.i64.wrap n7).toNat : Int)) ∧
              (↑(IntKind.i64.wrap n7).toNat : Int) ≤ (↑(IntKind.i64.wrap n7).toNat : Int)) ∧
              (((0 : Int) ≤ (0 : Int)) ∧
              (0 ≤ n15) ∧
              n15 ≤ (↑(IntKind.i64.wrap n7).toNat : Int)) ∧
              ∃ cs17 : List Cell, (h16.sl 2 (Sl.sub ⟨some (i11, 0), (IntKind.i64.wrap n7).toNat⟩ 2 0 n15.toNat) = some cs17) ∧
              (storeK [] i11 (0 + n15.toNat * 2) (List.take (min (n15.toNat - 0) ((IntKind.i64.wrap n7).toNat - n15.toNat) * 2) cs17) (x14 (IntKind.i64.wrap (n15 + (↑(min (n15.toNat - 0) ((IntKind.i64.wrap n7).toNat - n15.toNat)) : Int)))) h16))
              (Q [V.one (Cell.slice 2 { a := some (i11, 0), len := (IntKind.i64.wrap n7).toNat })])))) h12)) h10)
          (fun x18 => ifT b8
            (no)
            (x18 ())))
        (fun x19 => ifT (decide (n6 > 0))
          (x19 true)
          (x19 (decide (n7 > 9223372036854775807))))) h5) h3)
    (fun x20 => ifT (decide (n1 < 0))
      (no)
      (x20 ()))
theorem den208 (I : FuncId → List V → Post → T) (l0 : Sl) (n1 : Int) (Q : Post) : denF Go.Proofs.Tryz.prog 0 (⟨[(13, 2048, []), (60, 132120576, [(26, tk Go.Proofs.Tryz.prog 4)]), (61, 134217728, [])], [(508, 140720308486400, [(8, tk Go.Proofs.Tryz.prog 3)])]⟩) I 208 [V.one (Cell.slice 2 l0), V.one (Cell.int IntKind.i64 n1)] Q = vc208 I l0 n1 Q := by kernel_rfl
/-- math/bits.Mul -/
def vc238 (I : FuncId → List V → Post → T) (n0 : Int) (n1 : Int) (Q : Post) : T :=
  fun h2 =>
  I 142 [V.one (Cell.int IntKind.u64 n0), V.one (Cell.int IntKind.u64 n1)]
    (fun cs3 => fun h4 => 
    ∃ n5 : Int, ∃ n6 : Int, (cs3 = [V.one (Cell.int IntKind.u64 n5), V.one (Cell.int IntKind.u64 n6)]) ∧
    Q [V.one (Cell.int IntKind.u64 n5), V.one (Cell.int IntKind.u64 n6)] h4) h2
theorem den238 (I : FuncId → List V → Post → T) (n0 : Int) (n1 : Int) (Q : Post) : denF Go.Proofs.Tryz.prog 0 (⟨[], []⟩) I 238 [V.one (Cell.int IntKind.u64 n0), V.one (Cell.int IntKind.u64 n1)] Q = vc238 I n0 n1 Q := by kernel_rfl
/-- slices.SortStableFunc[[]handbill/offer.piece,handbill/offer.piece] -/
def vc209 (I : FuncId → List V → Post → T) (l0 : Sl) (p1 : Option (Nat × List (Nat × Nat))) (Q : Post) : T :=
  fun h2 =>
  I 239 [V.one (Cell.slice 2 l0), V.one (Cell.int IntKind.i64 (↑l0.len : Int)), V.one (Cell.func p1)]
    (fun cs3 => fun h4 => 
    (cs3 = []) ∧
    Q [] h4) h2
theorem den209 (I : FuncId → List V → Post → T) (l0 : Sl) (p1 : Option (Nat × List (Nat × Nat))) (Q : Post) : denF Go.Proofs.Tryz.prog 0 (⟨[], []⟩) I 209 [V.one (Cell.slice 2 l0), V.one (Cell.func p1)] Q = vc209 I l0 p1 Q := by kernel_rfl
/-- slices.stableCmpFunc[handbill/offer.piece] -/
def vc239 (I : FuncId → List V → Post → T) (l0 : Sl) (n1 : Int) (p2 : Option (Nat × List (Nat × Nat))) (Q : Post) : T :=
  loopK (A := Int × Int) ((0, 20))
    (fun x3 => uncur fun n4 n5 => ifT (decide (n5 ≤ n1))
      (fun h6 =>
      I 267 [V.one (Cell.slice 2 l0), V.one (Cell.int IntKind.i64 n4), V.one (Cell.int IntKind.i64 n5), V.one (Cell.func p2)]
        (fun cs7 => fun h8 => 
        (cs7 = []) ∧
        x3 ((n5, IntKind.i64.wrap (n5 + 20))) h8) h6)
      (fun h9 =>
      I 267 [V.one (Cell.slice 2 l0), V.one (Cell.int IntKind.i64 n4), V.one (Cell.int IntKind.i64 n1), V.one (Cell.func p2)]
        (fun cs10 => fun h11 => 
        (cs10 = []) ∧
        (loopK (A := Int) 20
          (fun x12 => fun n13 => ifT (decide (n13 < n1))
            (loopK (A := Int × Int) ((0, IntKind.i64.wrap (2 * n13)))
              (fun x14 => uncur fun n15 n16 => ifT (decide (n16 ≤ n1))
                (fun h17 =>
                I 268 [V.one (Cell.slice 2 l0), V.one (Cell.int IntKind.i64 n15), V.one (Cell.int IntKind.i64 (IntKind.i64.wrap (n15 + n13))), V.one (Cell.int IntKind.i64 n16), V.one (Cell.func p2)]
                  (fun cs18 => fun h19 => 
                  (cs18 = []) ∧
                  x14 ((n16, IntKind.i64.wrap (n16 + IntKind.i64.wrap (2 * n13)))) h19) h17)
                (ifT (decide (IntKind.i64.wrap (n15 + n13) < n1))
                  (fun h20 =>
                  I 268 [V.one (Cell.slice 2 l0), V.one (Cell.int IntKind.i64 n15), V.one (Cell.int IntKind.i64 (IntKind.i64.wrap (n15 + n13))), V.one (Cell.int IntKind.i64 n1), V.one (Cell.func p2)]
                    (fun cs21 => fun h22 => 
                    (cs21 = []) ∧
                    x12 (IntKind.i64.wrap (n13 * 2)) h22) h20)
                  (x12 (IntKind.i64.wrap (n13 * 2))))))
            (Q []))) h11) h9))
theorem den239 (I : FuncId → List V → Post → T) (l0 : Sl) (n1 : Int) (p2 : Option (Nat × List (Nat × Nat))) (Q : Post) : denF Go.Proofs.Tryz.prog 0 (⟨[], [(28, 8386944, [(7, tk Go.Proofs.Tryz.prog 3), (8, tk Go.Proofs.Tryz.prog 3)]), (62, 9223372036586341312, [(6, tk Go.Proofs.Tryz.prog 3)]), (3988, 562941363487104, [(7, tk Go.Proofs.Tryz.prog 3), (8, tk Go.Proofs.Tryz.prog 3)])]⟩) I 239 [V.one (Cell.slice 2 l0), V.one (Cell.int IntKind.i64 n1), V.one (Cell.func p2)] Q = vc239 I l0 n1 p2 Q := by kernel_rfl
/-- slices.insertionSortCmpFunc[handbill/offer.piece] -/
def vc267 (I : FuncId → List V → Post → T) (l0 : Sl) (n1 : Int) (n2 : Int) (p3 : Option (Nat × List (Nat × Nat))) (Q : Post) : T :=
  loopK (A := Int) (IntKind.i64.wrap (n1 + 1))
    (fun x4 => fun n5 => ifT (decide (n5 < n2))
      (loopK (A := Int) n5
        (fun x6 => fun n7 => joinK (A := Bool)
          (fun b8 => ifT b8
            (fun h9 =>
            ((0 ≤ IntKind.i64.wrap (n7 - 1)) ∧
            IntKind.i64.wrap (n7 - 1) < (↑l0.len : Int)) ∧
            (derefK l0.a (fun i10 => fun i11 => fun h12 =>
            ∃ n13 : Int, ∃ n14 : Int, (h12.read i10 (i11 + (IntKind.i64.wrap (n7 - 1)).toNat * 2) 2 = some [Cell.int IntKind.i64 n13, Cell.int IntKind.i64 n14]) ∧
            ((0 ≤ n7) ∧
            n7 < (↑l0.len : Int)) ∧
            (derefK l0.a (fun i15 => fun i16 => fun h17 =>
            ∃ n18 : Int, ∃ n19 : Int, (h17.read i15 (i16 + n7.toNat * 2) 2 = some [Cell.int IntKind.i64 n18, Cell.int IntKind.i64 n19]) ∧
            ((0 ≤ n7) ∧
            n7 < (↑l0.len : Int)) ∧
            (derefK l0.a (fun i20 => fun i21 => fun h22 => 
            (storeK [] i20 (i21 + n7.toNat * 2) [Cell.int IntKind.i64 n13, Cell.int IntKind.i64 n14] (fun h23 =>
            ((0 ≤ IntKind.i64.wrap (n7 - 1)) ∧
            IntKind.i64.wrap (n7 - 1) < (↑l0.len : Int)) ∧
            (derefK l0.a (fun i24 => fun i25 => fun h26 => 
            (storeK [] i24 (i25 + (IntKind.i64.wrap (n7 - 1)).toNat * 2) [Cell.int IntKind.i64 n18, Cell.int IntKind.i64 n19] (x6 (IntKind.i64.wrap (n7 - 1)))) h26)) h23)) h22)) h17)) h12)) h9)
            (x4 (IntKind.i64.wrap (n5 + 1))))
          (fun x27 => ifT (decide (n7 > n1))
            (fun h28 =>
            ((0 ≤ n7) ∧
            n7 < (↑l0.len : Int)) ∧
            (derefK l0.a (fun i29 => fun i30 => fun h31 =>
            ∃ n32 : Int, ∃ n33 : Int, (h31.read i29 (i30 + n7.toNat * 2) 2 = some [Cell.int IntKind.i64 n32, Cell.int IntKind.i64 n33]) ∧
            ((0 ≤ IntKind.i64.wrap (n7 - 1)) ∧
            IntKind.i64.wrap (n7 - 1) < (↑l0.len : Int)) ∧
            (derefK l0.a (fun i34 => fun i35 => fun h36 =>
            ∃ n37 : Int, ∃ n38 : Int, (h36.read i34 (i35 + (IntKind.i64.wrap (n7 - 1)).toNat * 2) 2 = some [Cell.int IntKind.i64 n37, Cell.int IntKind.i64 n38]) ∧
            (funK p3 (fun i39 => fun cs40 => fun h41 => 
            I i39 (V.agg [Cell.int IntKind.i64 n32, Cell.int IntKind.i64 n33] :: V.agg [Cell.int IntKind.i64 n37, Cell.int IntKind.i64 n38] :: cs40)
              (fun cs42 => fun h43 => 
              ∃ n44 : Int, (cs42 = [V.one (Cell.int IntKind.i64 n44)]) ∧
              x27 (decide (n44 < 0)) h43) h41)) h36)) h31)) h28)
            (x27 false))))
      (Q []))
theorem den267 (I : FuncId → List V → Post → T) (l0 : Sl) (n1 : Int) (n2 : Int) (p3 : Option (Nat × List (Nat × Nat))) (Q : Post) : denF Go.Proofs.Tryz.prog 0 (⟨[(3216, 34359476224, [(34, tk Go.Proofs.Tryz.prog 4)])], [(6, 9007199254737664, [(8, tk Go.Proofs.Tryz.prog 3)]), (402, 9007199254479360, [(9, tk Go.Proofs.Tryz.prog 3)])]⟩) I 267 [V.one (Cell.slice 2 l0), V.one (Cell.int IntKind.i64 n1), V.one (Cell.int IntKind.i64 n2), V.one (Cell.func p3)] Q = vc267 I l0 n1 n2 p3 Q := by kernel_rfl
/-- slices.symMergeCmpFunc[handbill/offer.piece] -/
def vc268 (I : FuncId → List V → Post → T) (l0 : Sl) (n1 : Int) (n2 : Int) (n3 : Int) (p4 : Option (Nat × List (Nat × Nat))) (Q : Post) : T :=
  ifT (decide (IntKind.i64.wrap (n2 - n1) = 1))
    (loopK (A := Int × Int) ((n2, n3))
      (fun x5 => uncur fun n6 n7 => ifT (decide (n6 < n7))
        (fun h8 =>
        ((0 ≤ IntKind.i64.wrap (shr IntKind.u64 (IntKind.u64.wrap (IntKind.i64.wrap (n6 + n7))) 1)) ∧
        IntKind.i64.wrap (shr IntKind.u64 (IntKind.u64.wrap (IntKind.i64.wrap (n6 + n7))) 1) < (↑l0.len : Int)) ∧
        (derefK l0.a (fun i9 => fun i10 => fun h11 =>
        ∃ n12 : Int, ∃ n13 : Int, (h11.read i9 (i10 + (IntKind.i64.wrap (shr IntKind.u64 (IntKind.u64.wrap (IntKind.i64.wrap (n6 + n7))) 1)).toNat * 2) 2 = some [Cell.int IntKind.i64 n12, Cell.int IntKind.i64 n13]) ∧
        ((0 ≤ n1) ∧
        n1 < (↑l0.len : Int)) ∧
        (derefK l0.a (fun i14 => fun i15 => fun h16 =>
        ∃ n17 : Int, ∃ n18 : Int, (h16.read i14 (i15 + n1.toNat * 2) 2 = some [Cell.int IntKind.i64 n17, Cell.int IntKind.i64 n18]) ∧
        (funK p4 (fun i19 => fun cs20 => fun h21 => 
        I i19 (V.agg [Cell.int IntKind.i64 n12, Cell.int IntKind.i64 n13] :: V.agg [Cell.int IntKind.i64 n17, Cell.int IntKind.i64 n18] :: cs20)
          (fun cs22 => fun h23 => 
          ∃ n24 : Int, (cs22 = [V.one (Cell.int IntKind.i64 n24)]) ∧
          (ifT (decide (n24 < 0))
            (x5 ((IntKind.i64.wrap (IntKind.i64.wrap (shr IntKind.u64 (IntKind.u64.wrap (IntKind.i64.wrap (n6 + n7))) 1) + 1), n7)))
            (x5 ((n6, IntKind.i64.wrap (shr IntKind.u64 (IntKind.u64.wrap (IntKind.i64.wrap (n6 + n7))) 1))))) h23) h21)) h16)) h11)) h8)
        (loopK (A := Int) n1
          (fun x25 => fun n26 => ifT (decide (n26 < IntKind.i64.wrap (n6 - 1)))
            (fun h27 =>
            ((0 ≤ IntKind.i64.wrap (n26 + 1)) ∧
            IntKind.i64.wrap (n26 + 1) < (↑l0.len : Int)) ∧
            (derefK l0.a (fun i28 => fun i29 => fun h30 =>
            ∃ n31 : Int, ∃ n32 : Int, (h30.read i28 (i29 + (IntKind.i64.wrap (n26 + 1)).toNat * 2) 2 = some [Cell.int IntKind.i64 n31, Cell.int IntKind.i64 n32]) ∧
            ((0 ≤ n26) ∧
            n26 < (↑l0.len : Int)) ∧
            (derefK l0.a (fun i33 => fun i34 => fun h35 =>
            ∃ n36 : Int, ∃ n37 : Int, (h35.read i33 (i34 + n26.toNat * 2) 2 = some [Cell.int IntKind.i64 n36, Cell.int IntKind.i64 n37]) ∧
            ((0 ≤ n26) ∧
            n26 < (↑l0.len : Int)) ∧
            (derefK l0.a (fun i38 => fun i39 => fun h40 => 
            (storeK [] i38 (i39 + n26.toNat * 2) [Cell.int IntKind.i64 n31, Cell.int IntKind.i64 n32] (fun h41 =>
            ((0 ≤ IntKind.i64.wrap (n26 + 1)) ∧
            IntKind.i64.wrap (n26 + 1) < (↑l0.len : Int)) ∧
            (derefK l0.a (fun i42 => fun i43 => fun h44 => 
            (storeK [] i42 (i43 + (IntKind.i64.wrap (n26 + 1)).toNat * 2) [Cell.int IntKind.i64 n36, Cell.int IntKind.i64 n37] (x25 (IntKind.i64.wrap (n26 + 1)))) h44)) h41)) h40)) h35)) h30)) h27)
            (Q [])))))
    (ifT (decide (IntKind.i64.wrap (n3 - n2) = 1))
      (loopK (A := Int × Int) ((n1, n2))
        (fun x45 => uncur fun n46 n47 => ifT (decide (n46 < n47))
          (fun h48 =>
          ((0 ≤ n2) ∧
          n2 < (↑l0.len : Int)) ∧
          (derefK l0.a (fun i49 => fun i50 => fun h51 =>
          ∃ n52 : Int, ∃ n53 : Int, (h51.read i49 (i50 + n2.toNat * 2) 2 = some [Cell.int IntKind.i64 n52, Cell.int IntKind.i64 n53]) ∧
          ((0 ≤ IntKind.i64.wrap (shr IntKind.u64 (IntKind.u64.wrap (IntKind.i64.wrap (n46 + n47))) 1)) ∧
          IntKind.i64.wrap (shr IntKind.u64 (IntKind.u64.wrap (IntKind.i64.wrap (n46 + n47))) 1) < (↑l0.len : Int)) ∧
          (derefK l0.a (fun i54 => fun i55 => fun h56 =>
          ∃ n57 : Int, ∃ n58 : Int, (h56.read i54 (i55 + (IntKind.i64.wrap (shr IntKind.u64 (IntKind.u64.wrap (IntKind.i64.wrap (n46 + n47))) 1)).toNat * 2) 2 = some [Cell.int IntKind.i64 n57, Cell.int IntKind.i64 n58]) ∧
          (funK p4 (fun i59 => fun cs60 => fun h61 => 
          I i59 (V.agg [Cell.int IntKind.i64 n52, Cell.int IntKind.i64 n53] :: V.agg [Cell.int IntKind.i64 n57, Cell.int IntKind.i64 n58] :: cs60)
            (fun cs62 => fun h63 => 
            ∃ n64 : Int, (cs62 = [V.one (Cell.int IntKind.i64 n64)]) ∧
            (ifT (!decide (n64 < 0))
              (x45 ((IntKind.i64.wrap (IntKind.i64.wrap (shr IntKind.u64 (IntKind.u64.wrap (IntKind.i64.wrap (n46 + n47))) 1) + 1), n47)))
              (x45 ((n46, IntKind.i64.wrap (shr IntKind.u64 (IntKind.u64.wrap (IntKind.i64.wrap (n46 + n47))) 1))))) h63) h61)) h56)) h51)) h48)
          (loopK (A := Int) n2
            (fun x65 => fun n66 => ifT (decide (n66 > n46))
              (fun h67 =>
              ((0 ≤ IntKind.i64.wrap (n66 - 1)) ∧
              IntKind.i64.wrap (n66 - 1) < (↑l0.len : Int)) ∧
              (derefK l0.a (fun i68 => fun i69 => fun h70 =>
              ∃ n71 : Int, ∃ n72 : Int, (h70.read i68 (i69 + (IntKind.i64.wrap (n66 - 1)).toNat * 2) 2 = some [Cell.int IntKind.i64 n71, Cell.int IntKind.i64 n72]) ∧
              ((0 ≤ n66) ∧
              n66 < (↑l0.len : Int)) ∧
              (derefK l0.a (fun i73 => fun i74 => fun h75 =>
              ∃ n76 : Int, ∃ n77 : Int, (h75.read i73 (i74 + n66.toNat * 2) 2 = some [Cell.int IntKind.i64 n76, Cell.int IntKind.i64 n77]) ∧
              ((0 ≤ n66) ∧
              n66 < (↑l0.len : Int)) ∧
              (derefK l0.a (fun i78 => fun i79 => fun h80 => 
              (storeK [] i78 (i79 + n66.toNat * 2) [Cell.int IntKind.i64 n71, Cell.int IntKind.i64 n72] (fun h81 =>
              ((0 ≤ IntKind.i64.wrap (n66 - 1)) ∧
              IntKind.i64.wrap (n66 - 1) < (↑l0.len : Int)) ∧
              (derefK l0.a (fun i82 => fun i83 => fun h84 => 
              (storeK [] i82 (i83 + (IntKind.i64.wrap (n66 - 1)).toNat * 2) [Cell.int IntKind.i64 n76, Cell.int IntKind.i64 n77] (x65 (IntKind.i64.wrap (n66 - 1)))) h84)) h81)) h80)) h75)) h70)) h67)
              (Q [])))))
      (joinK (A := Int × Int)
        (uncur fun n85 n86 => loopK (A := Int × Int) ((n85, n86))
          (fun x87 => uncur fun n88 n89 => ifT (decide (n88 < n89))
            (fun h90 =>
            ((0 ≤ IntKind.i64.wrap (IntKind.i64.wrap (IntKind.i64.wrap (IntKind.i64.wrap (shr IntKind.u64 (IntKind.u64.wrap (IntKind.i64.wrap (n1 + n3))) 1) + n2) - 1) - IntKind.i64.wrap (shr IntKind.u64 (IntKind.u64.wrap (IntKind.i64.wrap (n88 + n89))) 1))) ∧
            IntKind.i64.wrap (IntKind.i64.wrap (IntKind.i64.wrap (IntKind.i64.wrap (shr IntKind.u64 (IntKind.u64.wrap (IntKind.i64.wrap (n1 + n3))) 1) + n2) - 1) - IntKind.i64.wrap (shr IntKind.u64 (IntKind.u64.wrap (IntKind.i64.wrap (n88 + n89))) 1)) < (↑l0.len : Int)) ∧
            (derefK l0.a (fun i91 => fun i92 => fun h93 =>
            ∃ n94 : Int, ∃ n95 : Int, (h93.read i91 (i92 + (IntKind.i64.wrap (IntKind.i64.wrap (IntKind.i64.wrap (IntKind.i64.wrap (shr IntKind.u64 (IntKind.u64.wrap (IntKind.i64.wrap (n1 + n3))) 1) + n2) - 1) - IntKind.i64.wrap (shr IntKind.u64 (IntKind.u64.wrap (IntKind.i64.wrap (n88 + n89))) 1))).toNat * 2) 2 = some [Cell.int IntKind.i64 n94, Cell.int IntKind.i64 n95]) ∧
            ((0 ≤ IntKind.i64.wrap (shr IntKind.u64 (IntKind.u64.wrap (IntKind.i64.wrap (n88 + n89))) 1)) ∧
            IntKind.i64.wrap (shr IntKind.u64 (IntKind.u64.wrap (IntKind.i64.wrap (n88 + n89))) 1) < (↑l0.len : Int)) ∧
            (derefK l0.a (fun i96 => fun i97 => fun h98 =>
            ∃ n99 : Int, ∃ n100 : Int, (h98.read i96 (i97 + (IntKind.i64.wrap (shr IntKind.u64 (IntKind.u64.wrap (IntKind.i64.wrap (n88 + n89))) 1)).toNat * 2) 2 = some [Cell.int IntKind.i64 n99, Cell.int IntKind.i64 n100]) ∧
            (funK p4 (fun i101 => fun cs102 => fun h103 => 
            I i101 (V.agg [Cell.int IntKind.i64 n94, Cell.int IntKind.i64 n95] :: V.agg [Cell.int IntKind.i64 n99, Cell.int IntKind.i64 n100] :: cs102)
              (fun cs104 => fun h105 => 
              ∃ n106 : Int, (cs104 = [V.one (Cell.int IntKind.i64 n106)]) ∧
              (ifT (!decide (n106 < 0))
                (x87 ((IntKind.i64.wrap (IntKind.i64.wrap (shr IntKind.u64 (IntKind.u64.wrap (IntKind.i64.wrap (n88 + n89))) 1) + 1), n89)))
                (x87 ((n88, IntKind.i64.wrap (shr IntKind.u64 (IntKind.u64.wrap (IntKind.i64.wrap (n88 + n89))) 1))))) h105) h103)) h98)) h93)) h90)
            (joinK (A := Bool)
              (fun b107 => joinK (A := PUnit)
                (fun x108 => joinK (A := Bool)
                  (fun b109 => joinK (A := PUnit)
                    (fun x110 => ifT (decide (IntKind.i64.wrap (shr IntKind.u64 (IntKind.u64.wrap (IntKind.i64.wrap (n1 + n3))) 1) < IntKind.i64.wrap (IntKind.i64.wrap (IntKind.i64.wrap (shr IntKind.u64 (IntKind.u64.wrap (IntKind.i64.wrap (n1 + n3))) 1) + n2) - n88)))
                      (ifT (decide (IntKind.i64.wrap (IntKind.i64.wrap (IntKind.i64.wrap (shr IntKind.u64 (IntKind.u64.wrap (IntKind.i64.wrap (n1 + n3))) 1) + n2) - n88) < n3))
                        (fun h111 =>
                        I 268 [V.one (Cell.slice 2 l0), V.one (Cell.int IntKind.i64 (IntKind.i64.wrap (shr IntKind.u64 (IntKind.u64.wrap (IntKind.i64.wrap (n1 + n3))) 1))), V.one (Cell.int IntKind.i64 (IntKind.i64.wrap (IntKind.i64.wrap (IntKind.i64.wrap (shr IntKind.u64 (IntKind.u64.wrap (IntKind.i64.wrap (n1 + n3))) 1) + n2) - n88))), V.one (Cell.int IntKind.i64 n3), V.one (Cell.func p4)]
                          (fun cs112 => fun h113 => 
                          (cs112 = []) ∧
                          Q [] h113) h111)
                        (Q []))
                      (Q []))
                    (fun x114 => ifT b109
                      (fun h115 =>
                      I 268 [V.one (Cell.slice 2 l0), V.one (Cell.int IntKind.i64 n1), V.one (Cell.int IntKind.i64 n88), V.one (Cell.int IntKind.i64 (IntKind.i64.wrap (shr IntKind.u64 (IntKind.u64.wrap (IntKind.i64.wrap (n1 + n3))) 1))), V.one (Cell.func p4)]
                        (fun cs116 => fun h117 => 
                        (cs116 = []) ∧
                        x114 () h117) h115)
                      (x114 ())))
                  (fun x118 => ifT (decide (n1 < n88))
                    (x118 (decide (n88 < IntKind.i64.wrap (shr IntKind.u64 (IntKind.u64.wrap (IntKind.i64.wrap (n1 + n3))) 1))))
                    (x118 false)))
                (fun x119 => ifT b107
                  (fun h120 =>
                  I 279 [V.one (Cell.slice 2 l0), V.one (Cell.int IntKind.i64 n88), V.one (Cell.int IntKind.i64 n2), V.one (Cell.int IntKind.i64 (IntKind.i64.wrap (IntKind.i64.wrap (IntKind.i64.wrap (shr IntKind.u64 (IntKind.u64.wrap (IntKind.i64.wrap (n1 + n3))) 1) + n2) - n88))), V.one (Cell.func p4)]
                    (fun cs121 => fun h122 => 
                    (cs121 = []) ∧
                    x119 () h122) h120)
                  (x119 ())))
              (fun x123 => ifT (decide (n88 < n2))
                (x123 (decide (n2 < IntKind.i64.wrap (IntKind.i64.wrap (IntKind.i64.wrap (shr IntKind.u64 (IntKind.u64.wrap (IntKind.i64.wrap (n1 + n3))) 1) + n2) - n88))))
                (x123 false)))))
        (fun x124 => ifT (decide (n2 > IntKind.i64.wrap (shr IntKind.u64 (IntKind.u64.wrap (IntKind.i64.wrap (n1 + n3))) 1)))
          (x124 ((IntKind.i64.wrap (IntKind.i64.wrap (IntKind.i64.wrap (shr IntKind.u64 (IntKind.u64.wrap (IntKind.i64.wrap (n1 + n3))) 1) + n2) - n3), IntKind.i64.wrap (shr IntKind.u64 (IntKind.u64.wrap (IntKind.i64.wrap (n1 + n3))) 1))))
          (x124 ((n1, n2))))))
theorem den268 (I : FuncId → List V → Post → T) (l0 : Sl) (n1 : Int) (n2 : Int) (n3 : Int) (p4 : Option (Nat × List (Nat × Nat))) (Q : Post) : denF Go.Proofs.Tryz.prog 0 (⟨[(253, 175618368438428657239593781397105846862741504, [(20, tk Go.Proofs.Tryz.prog 3), (21, tk Go.Proofs.Tryz.prog 3)]), (4092, 97696590730200414720344622980832210455694619039204638720, [(185, tk Go.Proofs.Tryz.prog 4)]), (4093, 6179022020771263876900855213470046628350756140644283973632, []), (8188, 1600660942523603594778126302917954936106100638338328800788480, [(199, tk Go.Proofs.Tryz.prog 4)]), (8189, 101237096788316387359143611817493243958898788608315948623986688, [])], [(172, 18014396362005504, [(10, tk Go.Proofs.Tryz.prog 3), (11, tk Go.Proofs.Tryz.prog 3)]), (428, 162259267157806806474544612753408, [(14, tk Go.Proofs.Tryz.prog 3), (15, tk Go.Proofs.Tryz.prog 3)]), (698, 151115691423031627882496, [(13, tk Go.Proofs.Tryz.prog 3)]), (1020, 47890484938435180470718404069304177263338029388398592, [(20, tk Go.Proofs.Tryz.prog 3), (21, tk Go.Proofs.Tryz.prog 3)]), (1722, 680564409323323268500022431707515977728, [(17, tk Go.Proofs.Tryz.prog 3)])]⟩) I 268 [V.one (Cell.slice 2 l0), V.one (Cell.int IntKind.i64 n1), V.one (Cell.int IntKind.i64 n2), V.one (Cell.int IntKind.i64 n3), V.one (Cell.func p4)] Q = vc268 I l0 n1 n2 n3 p4 Q := by kernel_rfl
/-- slices.rotateCmpFunc[handbill/offer.piece] -/
def vc279 (I : FuncId → List V → Post → T) (l0 : Sl) (n1 : Int) (n2 : Int) (n3 : Int) (p4 : Option (Nat × List (Nat × Nat))) (Q : Post) : T :=
  loopK (A := Int × Int) ((IntKind.i64.wrap (n2 - n1), IntKind.i64.wrap (n3 - n2)))
    (fun x5 => uncur fun n6 n7 => ifT (!decide (n6 = n7))
      (ifT (decide (n6 > n7))
        (fun h8 =>
        I 286 [V.one (Cell.slice 2 l0), V.one (Cell.int IntKind.i64 (IntKind.i64.wrap (n2 - n6))), V.one (Cell.int IntKind.i64 n2), V.one (Cell.int IntKind.i64 n7), V.one (Cell.func p4)]
          (fun cs9 => fun h10 => 
          (cs9 = []) ∧
          x5 ((IntKind.i64.wrap (n6 - n7), n7)) h10) h8)
        (fun h11 =>
        I 286 [V.one (Cell.slice 2 l0), V.one (Cell.int IntKind.i64 (IntKind.i64.wrap (n2 - n6))), V.one (Cell.int IntKind.i64 (IntKind.i64.wrap (IntKind.i64.wrap (n2 + n7) - n6))), V.one (Cell.int IntKind.i64 n6), V.one (Cell.func p4)]
          (fun cs12 => fun h13 => 
          (cs12 = []) ∧
          x5 ((n6, IntKind.i64.wrap (n7 - n6))) h13) h11))
      (fun h14 =>
      I 286 [V.one (Cell.slice 2 l0), V.one (Cell.int IntKind.i64 (IntKind.i64.wrap (n2 - n6))), V.one (Cell.int IntKind.i64 n2), V.one (Cell.int IntKind.i64 n6), V.one (Cell.func p4)]
        (fun cs15 => fun h16 => 
        (cs15 = []) ∧
        Q [] h16) h14))
theorem den279 (I : FuncId → List V → Post → T) (l0 : Sl) (n1 : Int) (n2 : Int) (n3 : Int) (p4 : Option (Nat × List (Nat × Nat))) (Q : Post) : denF Go.Proofs.Tryz.prog 0 (⟨[], [(28, 1125899906583552, [(10, tk Go.Proofs.Tryz.prog 3), (11, tk Go.Proofs.Tryz.prog 3)])]⟩) I 279 [V.one (Cell.slice 2 l0), V.one (Cell.int IntKind.i64 n1), V.one (Cell.int IntKind.i64 n2), V.one (Cell.int IntKind.i64 n3), V.one (Cell.func p4)] Q = vc279 I l0 n1 n2 n3 p4 Q := by kernel_rfl
/-- slices.swapRangeCmpFunc[handbill/offer.piece] -/
def vc286 (I : FuncId → List V → Post → T) (l0 : Sl) (n1 : Int) (n2 : Int) (n3 : Int) (p4 : Option (Nat × List (Nat × Nat))) (Q : Post) : T :=
  loopK (A := Int) 0
    (fun x5 => fun n6 => ifT (decide (n6 < n3))
      (fun h7 =>
      ((0 ≤ IntKind.i64.wrap (n2 + n6)) ∧
      IntKind.i64.wrap (n2 + n6) < (↑l0.len : Int)) ∧
      (derefK l0.a (fun i8 => fun i9 => fun h10 =>
      ∃ n11 : Int, ∃ n12 : Int, (h10.read i8 (i9 + (IntKind.i64.wrap (n2 + n6)).toNat * 2) 2 = some [Cell.int IntKind.i64 n11, Cell.int IntKind.i64 n12]) ∧
      ((0 ≤ IntKind.i64.wrap (n1 + n6)) ∧
      IntKind.i64.wrap (n1 + n6) < (↑l0.len : Int)) ∧
      (derefK l0.a (fun i13 => fun i14 => fun h15 =>
      ∃ n16 : Int, ∃ n17 : Int, (h15.read i13 (i14 + (IntKind.i64.wrap (n1 + n6)).toNat * 2) 2 = some [Cell.int IntKind.i64 n16, Cell.int IntKind.i64 n17]) ∧
      ((0 ≤ IntKind.i64.wrap (n1 + n6)) ∧
      IntKind.i64.wrap (n1 + n6) < (↑l0.len : Int)) ∧
      (derefK l0.a (fun i18 => fun i19 => fun h20 => 
      (storeK [] i18 (i19 + (IntKind.i64.wrap (n1 + n6)).toNat * 2) [Cell.int IntKind.i64 n11, Cell.int IntKind.i64 n12] (fun h21 =>
      ((0 ≤ IntKind.i64.wrap (n2 + n6)) ∧
      IntKind.i64.wrap (n2 + n6) < (↑l0.len : Int)) ∧
      (derefK l0.a (fun i22 => fun i23 => fun h24 => 
      (storeK [] i22 (i23 + (IntKind.i64.wrap (n2 + n6)).toNat * 2) [Cell.int IntKind.i64 n16, Cell.int IntKind.i64 n17] (x5 (IntKind.i64.wrap (n6 + 1)))) h24)) h21)) h20)) h15)) h10)) h7)
      (Q []))
theorem den286 (I : FuncId → List V → Post → T) (l0 : Sl) (n1 : Int) (n2 : Int) (n3 : Int) (p4 : Option (Nat × List (Nat × Nat))) (Q : Post) : denF Go.Proofs.Tryz.prog 0 (⟨[], [(6, 274877905920, [(10, tk Go.Proofs.Tryz.prog 3)])]⟩) I 286 [V.one (Cell.slice 2 l0), V.one (Cell.int IntKind.i64 n1), V.one (Cell.int IntKind.i64 n2), V.one (Cell.int IntKind.i64 n3), V.one (Cell.func p4)] Q = vc286 I l0 n1 n2 n3 p4 Q := by kernel_rfl
/-- (*handbill/offer.pricer).free$1 -/
def vc210 (I : FuncId → List V → Post → T) (n0 : Int) (n1 : Int) (n2 : Int) (n3 : Int) (Q : Post) : T :=
  fun h4 =>
  I 62 [V.one (Cell.int IntKind.i64 n3), V.one (Cell.int IntKind.i64 n1)]
    (fun cs5 => fun h6 => 
    ∃ n7 : Int, (cs5 = [V.one (Cell.int IntKind.i64 n7)]) ∧
    Q [V.one (Cell.int IntKind.i64 n7)] h6) h4
theorem den210 (I : FuncId → List V → Post → T) (n0 : Int) (n1 : Int) (n2 : Int) (n3 : Int) (Q : Post) : denF Go.Proofs.Tryz.prog 12 (⟨[], []⟩) I 210 [V.agg [Cell.int IntKind.i64 n0, Cell.int IntKind.i64 n1], V.agg [Cell.int IntKind.i64 n2, Cell.int IntKind.i64 n3]] Q = vc210 I n0 n1 n2 n3 Q := by kernel_rfl
/-- handbill/handref1.PriceOf -/
def vc17 (I : FuncId → List V → Post → T) (l0 : Sl) (l1 : Sl) (n2 : Int) (n3 : Int) (Q : Post) : T :=
  fun h4 =>
  I 55 [V.one (Cell.slice 12 l0)]
    (fun cs5 => fun h6 => 
    ∃ n7 : Int, (cs5 = [V.one (Cell.int IntKind.i64 n7)]) ∧
    I 56 [V.agg [Cell.slice 4 l1, Cell.int IntKind.i64 n2]]
      (fun cs8 => fun h9 => 
      ∃ n10 : Int, (cs8 = [V.one (Cell.int IntKind.i64 n10)]) ∧
      (newK (.cells false [Cell.int IntKind.i64 n7, Cell.int IntKind.i64 n10]) (fun i11 => fun h12 =>
      I 54 [V.one (Cell.slice 1 { a := some (i11, 0), len := 2 })]
        (fun cs13 => fun h14 => 
        ∃ n15 : Int, (cs13 = [V.one (Cell.int IntKind.i64 n15)]) ∧
        (ifT (!decide (n15 = 0))
          (fun h16 =>
          Q [V.agg [Cell.slice 1 { a := none, len := 0 }, Cell.int IntKind.i64 0, Cell.slice 2 { a := none, len := 0 }, Cell.int IntKind.i64 0], V.one (Cell.int IntKind.i64 n15)] h16)
          (fun h17 =>
          I 14 [V.one (Cell.int IntKind.i64 n3)]
            (fun cs18 => fun h19 => 
            ∃ b20 : Bool, (cs18 = [V.one (Cell.bool b20)]) ∧
            (ifT (!b20)
              (fun h21 =>
              Q [V.agg [Cell.slice 1 { a := none, len := 0 }, Cell.int IntKind.i64 0, Cell.slice 2 { a := none, len := 0 }, Cell.int IntKind.i64 0], V.one (Cell.int IntKind.i64 1)] h21)
              (fun h22 =>
              I 57 [V.one (Cell.slice 12 l0)]
                (fun cs23 => fun h24 => 
                ∃ b25 : Bool, (cs23 = [V.one (Cell.bool b25)]) ∧
                (ifT (!b25)
                  (fun h26 =>
                  Q [V.agg [Cell.slice 1 { a := none, len := 0 }, Cell.int IntKind.i64 0, Cell.slice 2 { a := none, len := 0 }, Cell.int IntKind.i64 0], V.one (Cell.int IntKind.i64 16)] h26)
                  (fun h27 =>
                  I 58 [V.one (Cell.slice 12 l0)]
                    (fun cs28 => fun h29 => 
                    ∃ l30 : Sl, (cs28 = [V.one (Cell.slice 12 l30)]) ∧
                    I 59 [V.one (Cell.slice 12 l30), V.one (Cell.func (some (60, [])))]
                      (fun cs31 => fun h32 => 
                      (cs31 = []) ∧
                      (loopK (A := (Sl × Int × Sl × Int × PUnit) × Int) ((({ a := none, len := 0 }, n2, { a := none, len := 0 }, 0, ()), 0))
                        (fun x33 => uncur (uncur fun l34 => uncur fun n35 => uncur fun l36 => uncur fun n37 x38 => fun n39 => ifT (decide (n39 < (↑l1.len : Int)))
                          (fun h40 =>
                          ((0 ≤ n39) ∧
                          n39 < (↑l1.len : Int)) ∧
                          (derefK l1.a (fun i41 => fun i42 => fun h43 =>
                          ∃ s44 : ByteArray, ∃ n45 : Int, ∃ n46 : Int, ∃ l47 : Sl, (h43.read i41 (i42 + n39.toNat * 4) 4 = some [Cell.str s44, Cell.int IntKind.i64 n45, Cell.int IntKind.i64 n46, Cell.slice 1 l47]) ∧
                          (appendTo [] 1 8 l34 1 [Cell.int IntKind.i64 (IntKind.i64.wrap (n45 * n46))] (fun l48 => fun h49 => 
                          x33 (((l48, n35, l36, n37, ()), IntKind.i64.wrap (n39 + 1))) h49)) h43)) h40)
                          (loopK (A := (Sl × Int × Sl × Int × PUnit) × (Sl × Int × Sl × Int × PUnit) × Int) ((({ a := none, len := 0 }, 0, { a := none, len := 0 }, 0, ()), (l34, n35, l36, n37, ()), 0))
                            (fun x50 => uncur (uncur fun l51 => uncur fun n52 => uncur fun l53 => uncur fun n54 x55 => uncur (uncur fun l56 => uncur fun n57 => uncur fun l58 => uncur fun n59 x60 => fun n61 => ifT (decide (n61 < (↑l30.len : Int)))
                              (fun h62 =>
                              ((0 ≤ n61) ∧
                              n61 < (↑l30.len : Int)) ∧
                              (derefK l30.a (fun i63 => fun i64 => fun h65 =>
                              ∃ s66 : ByteArray, ∃ n67 : Int, ∃ n68 : Int, ∃ n69 : Int, ∃ l70 : Sl, ∃ n71 : Int, ∃ n72 : Int, ∃ s73 : ByteArray, ∃ b74 : Bool, ∃ n75 : Int, ∃ n76 : Int, ∃ n77 : Int, (h65.read i63 (i64 + n61.toNat * 12) 12 = some [Cell.str s66, Cell.int IntKind.i64 n67, Cell.int IntKind.i64 n68, Cell.int IntKind.i64 n69, Cell.slice 1 l70, Cell.int IntKind.i64 n71, Cell.int IntKind.i64 n72, Cell.str s73, Cell.bool b74, Cell.int IntKind.i64 n75, Cell.int IntKind.i64 n76, Cell.int IntKind.i64 n77]) ∧
                              I 15 [V.agg [Cell.str s66, Cell.int IntKind.i64 n67, Cell.int IntKind.i64 n68, Cell.int IntKind.i64 n69, Cell.slice 1 l70, Cell.int IntKind.i64 n71, Cell.int IntKind.i64 n72, Cell.str s73, Cell.bool b74, Cell.int IntKind.i64 n75, Cell.int IntKind.i64 n76, Cell.int IntKind.i64 n77], V.agg [Cell.slice 4 l1, Cell.int IntKind.i64 n2], V.one (Cell.int IntKind.i64 n3)]
                                (fun cs78 => fun h79 => 
                                ∃ n80 : Int, (cs78 = [V.one (Cell.int IntKind.i64 n80)]) ∧
                                (ifT (!decide (n80 = 0))
                                  (fun h81 =>
                                  Q [V.agg [Cell.slice 1 { a := none, len := 0 }, Cell.int IntKind.i64 0, Cell.slice 2 { a := none, len := 0 }, Cell.int IntKind.i64 0], V.one (Cell.int IntKind.i64 11)] h81)
                                  (fun h82 =>
                                  I 64 [V.agg [Cell.str s66, Cell.int IntKind.i64 n67, Cell.int IntKind.i64 n68, Cell.int IntKind.i64 n69, Cell.slice 1 l70, Cell.int IntKind.i64 n71, Cell.int IntKind.i64 n72, Cell.str s73, Cell.bool b74, Cell.int IntKind.i64 n75, Cell.int IntKind.i64 n76, Cell.int IntKind.i64 n77], V.agg [Cell.slice 4 l1, Cell.int IntKind.i64 n2], V.one (Cell.slice 1 l56), V.one (Cell.int IntKind.i64 n57)]
                                    (fun cs83 => fun h84 => 
                                    ∃ l85 : Sl, ∃ n86 : Int, (cs83 = [V.one (Cell.slice 1 l85), V.one (Cell.int IntKind.i64 n86)]) ∧
                                    (loopK (A := Int) 0
                                      (fun x87 => fun n88 => ifT (decide (n88 < (↑l85.len : Int)))
                                        (fun h89 =>
                                        ((0 ≤ n88) ∧
                                        n88 < (↑l85.len : Int)) ∧
                                        (derefK l85.a (fun i90 => fun i91 => fun h92 =>
                                        ∃ n93 : Int, (h92.read i90 (i91 + n88.toNat * 1) 1 = some [Cell.int IntKind.i64 n93]) ∧
                                        ((0 ≤ n88) ∧
                                        n88 < (↑l56.len : Int)) ∧
                                        (derefK l56.a (fun i94 => fun i95 => fun h96 =>
                                        ∃ n97 : Int, (h96.read i94 (i95 + n88.toNat * 1) 1 = some [Cell.int IntKind.i64 n97]) ∧
                                        ((0 ≤ n88) ∧
                                        n88 < (↑l56.len : Int)) ∧
                                        (derefK l56.a (fun i98 => fun i99 => fun h100 => 
                                        (storeK [] i98 (i99 + n88.toNat * 1) [Cell.int IntKind.i64 (IntKind.i64.wrap (n97 - n93))] (x87 (IntKind.i64.wrap (n88 + 1)))) h100)) h96)) h92)) h89)
                                        (fun h101 =>
                                        I 65 [V.one (Cell.slice 1 l85)]
                                          (fun cs102 => fun h103 => 
                                          ∃ n104 : Int, (cs102 = [V.one (Cell.int IntKind.i64 n104)]) ∧
                                          (appendTo [] 2 24 l58 1 [Cell.str s66, Cell.int IntKind.i64 (IntKind.i64.wrap (n104 + n86))] (fun l105 => fun h106 => 
                                          x50 (((l51, n52, l53, n54, ()), (l56, IntKind.i64.wrap (n57 - n86), l105, n59, ()), IntKind.i64.wrap (n61 + 1))) h106)) h103) h101))) h84) h82)) h79) h65)) h62)
                              (fun h107 =>
                              I 65 [V.one (Cell.slice 1 l56)]
                                (fun cs108 => fun h109 => 
                                ∃ n110 : Int, (cs108 = [V.one (Cell.int IntKind.i64 n110)]) ∧
                                Q [V.agg [Cell.slice 1 l56, Cell.int IntKind.i64 n57, Cell.slice 2 l58, Cell.int IntKind.i64 (IntKind.i64.wrap (n110 + n57))], V.one (Cell.int IntKind.i64 0)] h109) h107)))))))) h32) h29) h27)) h24) h22)) h19) h17)) h14) h12)) h9) h6) h4
theorem den17 (I : FuncId → List V → Post → T) (l0 : Sl) (l1 : Sl) (n2 : Int) (n3 : Int) (Q : Post) : denF Go.Proofs.Tryz.prog 10832 (⟨[], [(2042, 2305772640469518848, [(9, tvar Go.Proofs.Tryz.prog 42), (46, tk Go.Proofs.Tryz.prog 3)]), (4090, 166153499473114474889603845680521920, [(6, tvar Go.Proofs.Tryz.prog 42), (9, tvar Go.Proofs.Tryz.prog 42), (63, tk Go.Proofs.Tryz.prog 3)]), (8377146, 633786614487887032614761201664, [(85, tk Go.Proofs.Tryz.prog 3)])]⟩) I 17 [V.one (Cell.slice 12 l0), V.agg [Cell.slice 4 l1, Cell.int IntKind.i64 n2], V.one (Cell.int IntKind.i64 n3)] Q = vc17 I l0 l1 n2 n3 Q := by kernel_rfl
/-- cmp.Or[handbill/api.Errno] -/
def vc54 (I : FuncId → List V → Post → T) (l0 : Sl) (Q : Post) : T :=
  loopK (A := Int) 0
    (fun x1 => fun n2 => ifT (decide (n2 < (↑l0.len : Int)))
      (fun h3 =>
      ((0 ≤ n2) ∧
      n2 < (↑l0.len : Int)) ∧
      (derefK l0.a (fun i4 => fun i5 => fun h6 =>
      ∃ n7 : Int, (h6.read i4 (i5 + n2.toNat * 1) 1 = some [Cell.int IntKind.i64 n7]) ∧
      (ifT (!decide (n7 = 0))
        (Q [V.one (Cell.int IntKind.i64 n7)])
        (x1 (IntKind.i64.wrap (n2 + 1)))) h6)) h3)
      (Q [V.one (Cell.int IntKind.i64 0)]))
theorem den54 (I : FuncId → List V → Post → T) (l0 : Sl) (Q : Post) : denF Go.Proofs.Tryz.prog 0 (⟨[], [(58, 130852, [(8, tk Go.Proofs.Tryz.prog 3)])]⟩) I 54 [V.one (Cell.slice 1 l0)] Q = vc54 I l0 Q := by kernel_rfl
/-- handbill/handref1.OffersFault -/
def vc55 (I : FuncId → List V → Post → T) (l0 : Sl) (Q : Post) : T :=
  ifT (decide ((↑l0.len : Int) > 40))
    (Q [V.one (Cell.int IntKind.i64 2)])
    (loopK (A := Int) 0
      (fun x1 => fun n2 => ifT (decide (n2 < (↑l0.len : Int)))
        (fun h3 =>
        ((0 ≤ n2) ∧
        n2 < (↑l0.len : Int)) ∧
        (derefK l0.a (fun i4 => fun i5 => fun h6 =>
        ∃ s7 : ByteArray, ∃ n8 : Int, ∃ n9 : Int, ∃ n10 : Int, ∃ l11 : Sl, ∃ n12 : Int, ∃ n13 : Int, ∃ s14 : ByteArray, ∃ b15 : Bool, ∃ n16 : Int, ∃ n17 : Int, ∃ n18 : Int, (h6.read i4 (i5 + n2.toNat * 12) 12 = some [Cell.str s7, Cell.int IntKind.i64 n8, Cell.int IntKind.i64 n9, Cell.int IntKind.i64 n10, Cell.slice 1 l11, Cell.int IntKind.i64 n12, Cell.int IntKind.i64 n13, Cell.str s14, Cell.bool b15, Cell.int IntKind.i64 n16, Cell.int IntKind.i64 n17, Cell.int IntKind.i64 n18]) ∧
        (newK (.cells false [Cell.str ByteArray.empty, Cell.int IntKind.i64 0, Cell.int IntKind.i64 0, Cell.int IntKind.i64 0, Cell.slice 1 { a := none, len := 0 }, Cell.int IntKind.i64 0, Cell.int IntKind.i64 0, Cell.str ByteArray.empty, Cell.bool false, Cell.int IntKind.i64 0, Cell.int IntKind.i64 0, Cell.int IntKind.i64 0]) (fun i19 => fun h20 => 
        (storeK [] i19 0 [Cell.str s7, Cell.int IntKind.i64 n8, Cell.int IntKind.i64 n9, Cell.int IntKind.i64 n10, Cell.slice 1 l11, Cell.int IntKind.i64 n12, Cell.int IntKind.i64 n13, Cell.str s14, Cell.bool b15, Cell.int IntKind.i64 n16, Cell.int IntKind.i64 n17, Cell.int IntKind.i64 n18] (fun h21 =>
        (newK (YtfemminjhecocaaGreatDoorVc.Obj.map []) (fun i22 => fun h23 => 
        (mapK [] (some i22) (V.one (Cell.int IntKind.i64 1)) (V.one (Cell.int IntKind.i64 100)) (fun h24 =>
        (mapK [] (some i22) (V.one (Cell.int IntKind.i64 2)) (V.one (Cell.int IntKind.i64 1000000000000)) (fun h25 =>
        (mapK [] (some i22) (V.one (Cell.int IntKind.i64 4)) (V.one (Cell.int IntKind.i64 1000000000000)) (fun h26 =>
        (mapK [] (some i22) (V.one (Cell.int IntKind.i64 3)) (V.one (Cell.int IntKind.i64 20)) (fun h27 =>
        ∃ n28 : Int, (h27.read i19 1 1 = some [Cell.int IntKind.i64 n28]) ∧
        ∃ n29 : Int, ∃ b30 : Bool, (∃ cs31 : List (V × V), (mapOf h27 (some i22) = some cs31) ∧
        mapGet (V.one (Cell.int IntKind.i64 n28)) (V.one (Cell.int IntKind.i64 0)) cs31 = some (V.one (Cell.int IntKind.i64 n29), b30)) ∧
        ∃ n32 : Int, (h27.read i19 1 1 = some [Cell.int IntKind.i64 n32]) ∧
        (joinK (A := Int × Int)
          (uncur fun n33 n34 => fun h35 =>
          ∃ s36 : ByteArray, (h35.read i19 0 1 = some [Cell.str s36]) ∧
          I 78 [V.one (Cell.str s36)]
            (fun cs37 => fun h38 => 
            ∃ b39 : Bool, (cs37 = [V.one (Cell.bool b39)]) ∧
            (ifT (!b39)
              (Q [V.one (Cell.int IntKind.i64 5)])
              (fun h40 =>
              (((0 : Int) ≤ (0 : Int)) ∧
              (0 ≤ n2) ∧
              n2 ≤ (↑l0.len : Int)) ∧
              I 50 [V.one (Cell.slice 12 (l0.sub 12 0 n2.toNat)), V.one (Cell.func (some (113, [(i19, 0)])))]
                (fun cs41 => fun h42 => 
                ∃ b43 : Bool, (cs41 = [V.one (Cell.bool b43)]) ∧
                (ifT b43
                  (Q [V.one (Cell.int IntKind.i64 6)])
                  (ifT (decide (n29 = 0))
                    (Q [V.one (Cell.int IntKind.i64 4)])
                    (joinK (A := Bool)
                      (fun b44 => ifT b44
                        (Q [V.one (Cell.int IntKind.i64 1)])
                        (joinK (A := Bool)
                          (fun b45 => ifT b45
                            (Q [V.one (Cell.int IntKind.i64 1)])
                            (joinK (A := Bool)
                              (fun b46 => ifT b46
                                (Q [V.one (Cell.int IntKind.i64 5)])
                                (fun h47 =>
                                ∃ l48 : Sl, (h47.read i19 4 1 = some [Cell.slice 1 l48]) ∧
                                I 114 [V.one (Cell.slice 1 l48)]
                                  (fun cs49 => fun h50 => 
                                  ∃ n51 : Int, (cs49 = [V.one (Cell.int IntKind.i64 n51)]) ∧
                                  (ifT (!decide (n51 = 0))
                                    (Q [V.one (Cell.int IntKind.i64 n51)])
                                    (fun h52 =>
                                    ∃ l53 : Sl, (h52.read i19 4 1 = some [Cell.slice 1 l53]) ∧
                                    (ifT (decide ((↑l53.len : Int) > 0))
                                      (fun h54 =>
                                      ∃ n55 : Int, (h54.read i19 1 1 = some [Cell.int IntKind.i64 n55]) ∧
                                      (ifT (decide (n55 = 4))
                                        (Q [V.one (Cell.int IntKind.i64 3)])
                                        (x1 (IntKind.i64.wrap (n2 + 1)))) h54)
                                      (x1 (IntKind.i64.wrap (n2 + 1)))) h52)) h50) h47))
                              (fun x56 => fun h57 =>
                              ∃ s58 : ByteArray, (h57.read i19 7 1 = some [Cell.str s58]) ∧
                              (ifT (!decide (s58 = { data := #[] }))
                                (fun h59 =>
                                ∃ s60 : ByteArray, (h59.read i19 7 1 = some [Cell.str s60]) ∧
                                I 78 [V.one (Cell.str s60)]
                                  (fun cs61 => fun h62 => 
                                  ∃ b63 : Bool, (cs61 = [V.one (Cell.bool b63)]) ∧
                                  x56 (!b63) h62) h59)
                                (x56 false)) h57)))
                          (fun x64 => fun h65 =>
                          ∃ n66 : Int, (h65.read i19 10 1 = some [Cell.int IntKind.i64 n66]) ∧
                          I 14 [V.one (Cell.int IntKind.i64 n66)]
                            (fun cs67 => fun h68 => 
                            ∃ b69 : Bool, (cs67 = [V.one (Cell.bool b69)]) ∧
                            (ifT (!b69)
                              (x64 true)
                              (fun h70 =>
                              ∃ n71 : Int, (h70.read i19 11 1 = some [Cell.int IntKind.i64 n71]) ∧
                              ∃ n72 : Int, (h70.read i19 10 1 = some [Cell.int IntKind.i64 n72]) ∧
                              (ifT (decide (n71 ≤ n72))
                                (x64 true)
                                (fun h73 =>
                                ∃ n74 : Int, (h73.read i19 11 1 = some [Cell.int IntKind.i64 n74]) ∧
                                x64 (decide (n74 > 4321440)) h73)) h70)) h68) h65)))
                      (fun x75 => fun h76 =>
                      ∃ n77 : Int, (h76.read i19 2 1 = some [Cell.int IntKind.i64 n77]) ∧
                      (ifT (decide (n77 < 1))
                        (x75 true)
                        (fun h78 =>
                        ∃ n79 : Int, (h78.read i19 2 1 = some [Cell.int IntKind.i64 n79]) ∧
                        (ifT (decide (n79 > n29))
                          (x75 true)
                          (fun h80 =>
                          ∃ n81 : Int, (h80.read i19 3 1 = some [Cell.int IntKind.i64 n81]) ∧
                          (ifT (decide (n81 < n33))
                            (x75 true)
                            (fun h82 =>
                            ∃ n83 : Int, (h82.read i19 3 1 = some [Cell.int IntKind.i64 n83]) ∧
                            (ifT (decide (n83 > n34))
                              (x75 true)
                              (fun h84 =>
                              ∃ n85 : Int, (h84.read i19 5 1 = some [Cell.int IntKind.i64 n85]) ∧
                              (ifT (decide (n85 < 0))
                                (x75 true)
                                (fun h86 =>
                                ∃ n87 : Int, (h86.read i19 5 1 = some [Cell.int IntKind.i64 n87]) ∧
                                (ifT (decide (n87 > 1000000000000))
                                  (x75 true)
                                  (fun h88 =>
                                  ∃ n89 : Int, (h88.read i19 6 1 = some [Cell.int IntKind.i64 n89]) ∧
                                  (ifT (decide (n89 < 0))
                                    (x75 true)
                                    (fun h90 =>
                                    ∃ n91 : Int, (h90.read i19 6 1 = some [Cell.int IntKind.i64 n91]) ∧
                                    (ifT (decide (n91 > 1000000000000))
                                      (x75 true)
                                      (fun h92 =>
                                      ∃ n93 : Int, (h92.read i19 9 1 = some [Cell.int IntKind.i64 n93]) ∧
                                      (ifT (decide (n93 < 0))
                                        (x75 true)
                                        (fun h94 =>
                                        ∃ n95 : Int, (h94.read i19 9 1 = some [Cell.int IntKind.i64 n95]) ∧
                                        x75 (decide (n95 > 1000)) h94)) h92)) h90)) h88)) h86)) h84)) h82)) h80)) h78)) h76)))) h42) h40)) h38) h35)
          (fun x96 => ifT (decide (n32 = 3))
            (x96 ((1, 20)))
            (x96 ((0, 0))))) h27)) h26)) h25)) h24)) h23)) h21)) h20)) h6)) h3)
        (Q [V.one (Cell.int IntKind.i64 0)])))
theorem den55 (I : FuncId → List V → Post → T) (l0 : Sl) (Q : Post) : denF Go.Proofs.Tryz.prog 0 (⟨[(59805, 192, [(6, tk Go.Proofs.Tryz.prog 3), (7, tk Go.Proofs.Tryz.prog 3)]), (15310462, 9903520314283040000169738240, [(41, tk Go.Proofs.Tryz.prog 4)]), (61241854, 1298064311113392624090424889311232, [(93, tk Go.Proofs.Tryz.prog 4)]), (244967422, 1327929921570282165996674436198039552, [(110, tk Go.Proofs.Tryz.prog 4)])], [(58, 87112285931760246646623899502532662116860, [(14, tk Go.Proofs.Tryz.prog 3)])]⟩) I 55 [V.one (Cell.slice 12 l0)] Q = vc55 I l0 Q := by kernel_rfl
/-- handbill/handref1.keyOf -/
def vc78 (I : FuncId → List V → Post → T) (s0 : ByteArray) (Q : Post) : T :=
  fun h1 =>
  I 133 [V.one (Cell.str s0)]
    (fun cs2 => fun h3 => 
    ∃ b4 : Bool, (cs2 = [V.one (Cell.bool b4)]) ∧
    Q [V.one (Cell.bool b4)] h3) h1
theorem den78 (I : FuncId → List V → Post → T) (s0 : ByteArray) (Q : Post) : denF Go.Proofs.Tryz.prog 0 (⟨[], []⟩) I 78 [V.one (Cell.str s0)] Q = vc78 I s0 Q := by kernel_rfl
/-- handbill/handref2.Key -/
def vc133 (I : FuncId → List V → Post → T) (s0 : ByteArray) (Q : Post) : T :=
  fun h1 =>
  I 186 [V.one (Cell.int IntKind.i64 (↑s0.size : Int)), V.one (Cell.int IntKind.i64 1), V.one (Cell.int IntKind.i64 40)]
    (fun cs2 => fun h3 => 
    ∃ b4 : Bool, (cs2 = [V.one (Cell.bool b4)]) ∧
    (ifT b4
      (fun h5 =>
      (((0 : Int) ≤ (0 : Int)) ∧
      ((0 : Int) ≤ (1 : Int)) ∧
      1 ≤ (↑s0.size : Int)) ∧
      I 187 [V.one (Cell.str (s0.extract 0 1)), V.one (Cell.str { data := #[97, 98, 99, 100, 101, 102, 103, 104, 105, 106, 107, 108, 109, 110, 111, 112, 113, 114, 115, 116, 117, 118, 119, 120, 121, 122] })]
        (fun cs6 => fun h7 => 
        ∃ b8 : Bool, (cs6 = [V.one (Cell.bool b8)]) ∧
        (ifT b8
          (fun h9 =>
          I 187 [V.one (Cell.str s0), V.one (Cell.str { data := #[97, 98, 99, 100, 101, 102, 103, 104, 105, 106, 107, 108, 109, 110, 111, 112, 113, 114, 115, 116, 117, 118, 119, 120, 121, 122, 48, 49, 50, 51, 52, 53, 54, 55, 56, 57, 45, 95] })]
            (fun cs10 => fun h11 => 
            ∃ b12 : Bool, (cs10 = [V.one (Cell.bool b12)]) ∧
            Q [V.one (Cell.bool b12)] h11) h9)
          (Q [V.one (Cell.bool false)])) h7) h5)
      (Q [V.one (Cell.bool false)])) h3) h1
theorem den133 (I : FuncId → List V → Post → T) (s0 : ByteArray) (Q : Post) : denF Go.Proofs.Tryz.prog 0 (⟨[], []⟩) I 133 [V.one (Cell.str s0)] Q = vc133 I s0 Q := by kernel_rfl
/-- handbill/handref2.in -/
def vc186 (I : FuncId → List V → Post → T) (n0 : Int) (n1 : Int) (n2 : Int) (Q : Post) : T :=
  ifT (decide (n1 ≤ n0))
    (Q [V.one (Cell.bool (decide (n0 ≤ n2)))])
    (Q [V.one (Cell.bool false)])
theorem den186 (I : FuncId → List V → Post → T) (n0 : Int) (n1 : Int) (n2 : Int) (Q : Post) : denF Go.Proofs.Tryz.prog 0 (⟨[], []⟩) I 186 [V.one (Cell.int IntKind.i64 n0), V.one (Cell.int IntKind.i64 n1), V.one (Cell.int IntKind.i64 n2)] Q = vc186 I n0 n1 n2 Q := by kernel_rfl
/-- handbill/handref2.only -/
def vc187 (I : FuncId → List V → Post → T) (s0 : ByteArray) (s1 : ByteArray) (Q : Post) : T :=
  fun h2 =>
  I 228 [V.one (Cell.str s0), V.one (Cell.str s1)]
    (fun cs3 => fun h4 => 
    ∃ s5 : ByteArray, (cs3 = [V.one (Cell.str s5)]) ∧
    Q [V.one (Cell.bool (decide (s5 = { data := #[] })))] h4) h2
theorem den187 (I : FuncId → List V → Post → T) (s0 : ByteArray) (s1 : ByteArray) (Q : Post) : denF Go.Proofs.Tryz.prog 0 (⟨[], []⟩) I 187 [V.one (Cell.str s0), V.one (Cell.str s1)] Q = vc187 I s0 s1 Q := by kernel_rfl
/-- strings.Trim (by hand) -/
def vc228 (I : FuncId → List V → Post → T) (s0 : ByteArray) (s1 : ByteArray) (Q : Post) : T :=
  joinK (A := Bool)
    (fun b2 => ifT b2
      (Q [V.one (Cell.str s0)])
      (joinK (A := Bool)
        (fun b3 => ifT b3
          (fun h4 =>
          (((0 : Int) ≤ (0 : Int)) ∧
          0 < (↑s1.size : Int)) ∧
          (((0 : Int) ≤ (0 : Int)) ∧
          0 < (↑s1.size : Int)) ∧
          I 256 [V.one (Cell.str s0), V.one (Cell.int IntKind.u8 (byteAt s1 0))]
            (fun cs5 => fun h6 => 
            ∃ s7 : ByteArray, (cs5 = [V.one (Cell.str s7)]) ∧
            I 255 [V.one (Cell.str s7), V.one (Cell.int IntKind.u8 (byteAt s1 0))]
              (fun cs8 => fun h9 => 
              ∃ s10 : ByteArray, (cs8 = [V.one (Cell.str s10)]) ∧
              Q [V.one (Cell.str s10)] h9) h6) h4)
          (fun h11 =>
          I 257 [V.one (Cell.str s1)]
            (fun cs12 => fun h13 => 
            exCells (List.replicate 256 Kd.bool) fun ds14 => ∃ b270 : Bool, (cs12 = [V.agg ds14, V.one (Cell.bool b270)]) ∧
            (newK (.cells false (List.replicate 256 (Cell.bool false))) (fun i271 => fun h272 => 
            (storeK [] i271 0 ds14 (ifT b270
              (fun h273 =>
              I 259 [V.one (Cell.str s0), V.one (Cell.ptr (some (i271, 0)))]
                (fun cs274 => fun h275 => 
                ∃ s276 : ByteArray, (cs274 = [V.one (Cell.str s276)]) ∧
                I 258 [V.one (Cell.str s276), V.one (Cell.ptr (some (i271, 0)))]
                  (fun cs277 => fun h278 => 
                  ∃ s279 : ByteArray, (cs277 = [V.one (Cell.str s279)]) ∧
                  Q [V.one (Cell.str s279)] h278) h275) h273)
              (fun h280 =>
              I 261 [V.one (Cell.str s0), V.one (Cell.str s1)]
                (fun cs281 => fun h282 => 
                ∃ s283 : ByteArray, (cs281 = [V.one (Cell.str s283)]) ∧
                I 260 [V.one (Cell.str s283), V.one (Cell.str s1)]
                  (fun cs284 => fun h285 => 
                  ∃ s286 : ByteArray, (cs284 = [V.one (Cell.str s286)]) ∧
                  Q [V.one (Cell.str s286)] h285) h282) h280))) h272)) h13) h11))
        (fun x287 => ifT (decide ((↑s1.size : Int) = 1))
          (fun h288 =>
          (((0 : Int) ≤ (0 : Int)) ∧
          0 < (↑s1.size : Int)) ∧
          x287 (decide (byteAt s1 0 < 128)) h288)
          (x287 false))))
    (fun x289 => ifT (decide (s0 = { data := #[] }))
      (x289 true)
      (x289 (decide (s1 = { data := #[] }))))
theorem den228 (I : FuncId → List V → Post → T) (s0 : ByteArray) (s1 : ByteArray) (Q : Post) : denF Go.Proofs.Tryz.prog 0 (⟨[(12, 8064, [(12, tk Go.Proofs.Tryz.prog 4)]), (28, 4177920, [(21, tk Go.Proofs.Tryz.prog 4)])], []⟩) I 228 [V.one (Cell.str s0), V.one (Cell.str s1)] Q = vc228 I s0 s1 Q := by kernel_rfl
/-- strings.makeASCIISet (by hand) -/
def vc257 (I : FuncId → List V → Post → T) (s0 : ByteArray) (Q : Post) : T :=
  fun h1 =>
  (newK (.cells false (List.replicate 256 (Cell.bool false))) (fun i2 => loopK (A := Int) 0
    (fun x3 => fun n4 => ifT (decide (n4 < (↑s0.size : Int)))
      (fun h5 =>
      ((0 ≤ n4) ∧
      n4 < (↑s0.size : Int)) ∧
      (ifT (decide (byteAt s0 n4 ≥ 128))
        (fun h6 =>
        exCells (List.replicate 256 Kd.bool) fun ds7 => (h6.read i2 0 256 = some ds7) ∧
        (storeK [] i2 0 ds7 (fun h263 =>
        exCells (List.replicate 256 Kd.bool) fun ds264 => (h263.read i2 0 256 = some ds264) ∧
        Q [V.agg ds264, V.one (Cell.bool false)] h263)) h6)
        (fun h520 =>
        ((0 ≤ byteAt s0 n4) ∧
        byteAt s0 n4 < (↑256 : Int)) ∧
        (storeK [] i2 (0 + (byteAt s0 n4).toNat * 1) [Cell.bool true] (x3 (IntKind.i64.wrap (n4 + 1)))) h520)) h5)
      (fun h521 =>
      exCells (List.replicate 256 Kd.bool) fun ds522 => (h521.read i2 0 256 = some ds522) ∧
      (storeK [] i2 0 ds522 (fun h778 =>
      exCells (List.replicate 256 Kd.bool) fun ds779 => (h778.read i2 0 256 = some ds779) ∧
      Q [V.agg ds779, V.one (Cell.bool true)] h778)) h521)))) h1
theorem den257 (I : FuncId → List V → Post → T) (s0 : ByteArray) (Q : Post) : denF Go.Proofs.Tryz.prog 0 (⟨[], [(26, 1048568, [(4, tk Go.Proofs.Tryz.prog 3)])]⟩) I 257 [V.one (Cell.str s0)] Q = vc257 I s0 Q := by kernel_rfl
/-- strings.trimLeftASCII -/
def vc258 (I : FuncId → List V → Post → T) (s0 : ByteArray) (p1 : Option (Nat × Nat)) (Q : Post) : T :=
  loopK (A := ByteArray) s0
    (fun x2 => fun s3 => ifT (decide ((↑s3.size : Int) > 0))
      (fun h4 =>
      (((0 : Int) ≤ (0 : Int)) ∧
      0 < (↑s3.size : Int)) ∧
      I 274 [V.one (Cell.ptr p1), V.one (Cell.int IntKind.u8 (byteAt s3 0))]
        (fun cs5 => fun h6 => 
        ∃ b7 : Bool, (cs5 = [V.one (Cell.bool b7)]) ∧
        (ifT (!b7)
          (Q [V.one (Cell.str s3)])
          (fun h8 =>
          (((0 : Int) ≤ (1 : Int)) ∧
          (1 ≤ (↑s3.size : Int)) ∧
          (↑s3.size : Int) ≤ (↑s3.size : Int)) ∧
          x2 (s3.extract 1 (↑s3.size : Int).toNat) h8)) h6) h4)
      (Q [V.one (Cell.str s3)]))
theorem den258 (I : FuncId → List V → Post → T) (s0 : ByteArray) (p1 : Option (Nat × Nat)) (Q : Post) : denF Go.Proofs.Tryz.prog 0 (⟨[], [(12, 32737, [(0, tk Go.Proofs.Tryz.prog 9)])]⟩) I 258 [V.one (Cell.str s0), V.one (Cell.ptr p1)] Q = vc258 I s0 p1 Q := by kernel_rfl
/-- (*strings.asciiSet).contains -/
def vc274 (I : FuncId → List V → Post → T) (p0 : Option (Nat × Nat)) (n1 : Int) (Q : Post) : T :=
  derefK p0 (fun i2 => fun i3 => fun h4 => 
  ((0 ≤ n1) ∧
  n1 < (↑256 : Int)) ∧
  ∃ b5 : Bool, (h4.read i2 (i3 + n1.toNat * 1) 1 = some [Cell.bool b5]) ∧
  Q [V.one (Cell.bool b5)] h4)
theorem den274 (I : FuncId → List V → Post → T) (p0 : Option (Nat × Nat)) (n1 : Int) (Q : Post) : denF Go.Proofs.Tryz.prog 0 (⟨[], []⟩) I 274 [V.one (Cell.ptr p0), V.one (Cell.int IntKind.u8 n1)] Q = vc274 I p0 n1 Q := by kernel_rfl
/-- strings.trimRightASCII -/
def vc259 (I : FuncId → List V → Post → T) (s0 : ByteArray) (p1 : Option (Nat × Nat)) (Q : Post) : T :=
  loopK (A := ByteArray) s0
    (fun x2 => fun s3 => ifT (decide ((↑s3.size : Int) > 0))
      (fun h4 =>
      ((0 ≤ IntKind.i64.wrap ((↑s3.size : Int) - 1)) ∧
      IntKind.i64.wrap ((↑s3.size : Int) - 1) < (↑s3.size : Int)) ∧
      I 274 [V.one (Cell.ptr p1), V.one (Cell.int IntKind.u8 (byteAt s3 (IntKind.i64.wrap ((↑s3.size : Int) - 1))))]
        (fun cs5 => fun h6 => 
        ∃ b7 : Bool, (cs5 = [V.one (Cell.bool b7)]) ∧
        (ifT (!b7)
          (Q [V.one (Cell.str s3)])
          (fun h8 =>
          (((0 : Int) ≤ (0 : Int)) ∧
          (0 ≤ IntKind.i64.wrap ((↑s3.size : Int) - 1)) ∧
          IntKind.i64.wrap ((↑s3.size : Int) - 1) ≤ (↑s3.size : Int)) ∧
          x2 (s3.extract 0 (IntKind.i64.wrap ((↑s3.size : Int) - 1)).toNat) h8)) h6) h4)
      (Q [V.one (Cell.str s3)]))
theorem den259 (I : FuncId → List V → Post → T) (s0 : ByteArray) (p1 : Option (Nat × Nat)) (Q : Post) : denF Go.Proofs.Tryz.prog 0 (⟨[], [(12, 2097121, [(0, tk Go.Proofs.Tryz.prog 9)])]⟩) I 259 [V.one (Cell.str s0), V.one (Cell.ptr p1)] Q = vc259 I s0 p1 Q := by kernel_rfl
/-- strings.IndexByte -/
def vc171 (I : FuncId → List V → Post → T) (s0 : ByteArray) (n1 : Int) (Q : Post) : T :=
  fun h2 =>
  I 217 [V.one (Cell.str s0), V.one (Cell.int IntKind.u8 n1)]
    (fun cs3 => fun h4 => 
    ∃ n5 : Int, (cs3 = [V.one (Cell.int IntKind.i64 n5)]) ∧
    Q [V.one (Cell.int IntKind.i64 n5)] h4) h2
theorem den171 (I : FuncId → List V → Post → T) (s0 : ByteArray) (n1 : Int) (Q : Post) : denF Go.Proofs.Tryz.prog 0 (⟨[], []⟩) I 171 [V.one (Cell.str s0), V.one (Cell.int IntKind.u8 n1)] Q = vc171 I s0 n1 Q := by kernel_rfl
/-- internal/stringslite.IndexByte -/
def vc217 (I : FuncId → List V → Post → T) (s0 : ByteArray) (n1 : Int) (Q : Post) : T :=
  fun h2 =>
  I 243 [V.one (Cell.str s0), V.one (Cell.int IntKind.u8 n1)]
    (fun cs3 => fun h4 => 
    ∃ n5 : Int, (cs3 = [V.one (Cell.int IntKind.i64 n5)]) ∧
    Q [V.one (Cell.int IntKind.i64 n5)] h4) h2
theorem den217 (I : FuncId → List V → Post → T) (s0 : ByteArray) (n1 : Int) (Q : Post) : denF Go.Proofs.Tryz.prog 0 (⟨[], []⟩) I 217 [V.one (Cell.str s0), V.one (Cell.int IntKind.u8 n1)] Q = vc217 I s0 n1 Q := by kernel_rfl
/-- handbill/handref1.OffersFault$1 -/
def vc113 (I : FuncId → List V → Post → T) (s0 : ByteArray) (n1 : Int) (n2 : Int) (n3 : Int) (l4 : Sl) (n5 : Int) (n6 : Int) (s7 : ByteArray) (b8 : Bool) (n9 : Int) (n10 : Int) (n11 : Int) (i12 : Nat) (i13 : Nat) (Q : Post) : T :=
  fun h14 =>
  ∃ s15 : ByteArray, (h14.read i12 (i13 + 0) 1 = some [Cell.str s15]) ∧
  Q [V.one (Cell.bool (decide (s0 = s15)))] h14
theorem den113 (I : FuncId → List V → Post → T) (s0 : ByteArray) (n1 : Int) (n2 : Int) (n3 : Int) (l4 : Sl) (n5 : Int) (n6 : Int) (s7 : ByteArray) (b8 : Bool) (n9 : Int) (n10 : Int) (n11 : Int) (i12 : Nat) (i13 : Nat) (Q : Post) : denF Go.Proofs.Tryz.prog 4 (⟨[], []⟩) I 113 [V.agg [Cell.str s0, Cell.int IntKind.i64 n1, Cell.int IntKind.i64 n2, Cell.int IntKind.i64 n3, Cell.slice 1 l4, Cell.int IntKind.i64 n5, Cell.int IntKind.i64 n6, Cell.str s7, Cell.bool b8, Cell.int IntKind.i64 n9, Cell.int IntKind.i64 n10, Cell.int IntKind.i64 n11], V.one (Cell.ptr (some (i12, i13)))] Q = vc113 I s0 n1 n2 n3 l4 n5 n6 s7 b8 n9 n10 n11 i12 i13 Q := by kernel_rfl
/-- handbill/handref1.tagsFault -/
def vc114 (I : FuncId → List V → Post → T) (l0 : Sl) (Q : Post) : T :=
  ifT (decide ((↑l0.len : Int) > 10))
    (Q [V.one (Cell.int IntKind.i64 2)])
    (loopK (A := Int) 0
      (fun x1 => fun n2 => ifT (decide (n2 < (↑l0.len : Int)))
        (fun h3 =>
        ((0 ≤ n2) ∧
        n2 < (↑l0.len : Int)) ∧
        (derefK l0.a (fun i4 => fun i5 => fun h6 =>
        ∃ s7 : ByteArray, (h6.read i4 (i5 + n2.toNat * 1) 1 = some [Cell.str s7]) ∧
        I 78 [V.one (Cell.str s7)]
          (fun cs8 => fun h9 => 
          ∃ b10 : Bool, (cs8 = [V.one (Cell.bool b10)]) ∧
          (ifT (!b10)
            (Q [V.one (Cell.int IntKind.i64 5)])
            (ifT (decide (n2 > 0))
              (fun h11 =>
              ((0 ≤ IntKind.i64.wrap (n2 - 1)) ∧
              IntKind.i64.wrap (n2 - 1) < (↑l0.len : Int)) ∧
              (derefK l0.a (fun i12 => fun i13 => fun h14 =>
              ∃ s15 : ByteArray, (h14.read i12 (i13 + (IntKind.i64.wrap (n2 - 1)).toNat * 1) 1 = some [Cell.str s15]) ∧
              (ifT (Op.bytesLess s7.toList s15.toList || decide (s7 = s15))
                (Q [V.one (Cell.int IntKind.i64 7)])
                (x1 (IntKind.i64.wrap (n2 + 1)))) h14)) h11)
              (x1 (IntKind.i64.wrap (n2 + 1))))) h9) h6)) h3)
        (Q [V.one (Cell.int IntKind.i64 0)])))
theorem den114 (I : FuncId → List V → Post → T) (l0 : Sl) (Q : Post) : denF Go.Proofs.Tryz.prog 0 (⟨[], [(58, 1073740828, [(10, tk Go.Proofs.Tryz.prog 3)])]⟩) I 114 [V.one (Cell.slice 1 l0)] Q = vc114 I l0 Q := by kernel_rfl
/-- handbill/handref1.BasketFault -/
def vc56 (I : FuncId → List V → Post → T) (l0 : Sl) (n1 : Int) (Q : Post) : T :=
  ifT (decide ((↑l0.len : Int) > 50))
    (Q [V.one (Cell.int IntKind.i64 2)])
    (loopK (A := Int) 0
      (fun x2 => fun n3 => ifT (decide (n3 < (↑l0.len : Int)))
        (fun h4 =>
        ((0 ≤ n3) ∧
        n3 < (↑l0.len : Int)) ∧
        (derefK l0.a (fun i5 => fun i6 => fun h7 =>
        ∃ s8 : ByteArray, ∃ n9 : Int, ∃ n10 : Int, ∃ l11 : Sl, (h7.read i5 (i6 + n3.toNat * 4) 4 = some [Cell.str s8, Cell.int IntKind.i64 n9, Cell.int IntKind.i64 n10, Cell.slice 1 l11]) ∧
        (newK (.cells false [Cell.str ByteArray.empty, Cell.int IntKind.i64 0, Cell.int IntKind.i64 0, Cell.slice 1 { a := none, len := 0 }]) (fun i12 => fun h13 => 
        (storeK [] i12 0 [Cell.str s8, Cell.int IntKind.i64 n9, Cell.int IntKind.i64 n10, Cell.slice 1 l11] (fun h14 =>
        ∃ s15 : ByteArray, (h14.read i12 0 1 = some [Cell.str s15]) ∧
        I 78 [V.one (Cell.str s15)]
          (fun cs16 => fun h17 => 
          ∃ b18 : Bool, (cs16 = [V.one (Cell.bool b18)]) ∧
          (ifT (!b18)
            (Q [V.one (Cell.int IntKind.i64 5)])
            (fun h19 =>
            (((0 : Int) ≤ (0 : Int)) ∧
            (0 ≤ n3) ∧
            n3 ≤ (↑l0.len : Int)) ∧
            I 115 [V.one (Cell.slice 4 (l0.sub 4 0 n3.toNat)), V.one (Cell.func (some (116, [(i12, 0)])))]
              (fun cs20 => fun h21 => 
              ∃ b22 : Bool, (cs20 = [V.one (Cell.bool b22)]) ∧
              (ifT b22
                (Q [V.one (Cell.int IntKind.i64 6)])
                (joinK (A := Bool)
                  (fun b23 => ifT b23
                    (Q [V.one (Cell.int IntKind.i64 1)])
                    (fun h24 =>
                    ∃ l25 : Sl, (h24.read i12 3 1 = some [Cell.slice 1 l25]) ∧
                    I 114 [V.one (Cell.slice 1 l25)]
                      (fun cs26 => fun h27 => 
                      ∃ n28 : Int, (cs26 = [V.one (Cell.int IntKind.i64 n28)]) ∧
                      (ifT (!decide (n28 = 0))
                        (Q [V.one (Cell.int IntKind.i64 n28)])
                        (x2 (IntKind.i64.wrap (n3 + 1)))) h27) h24))
                  (fun x29 => fun h30 =>
                  ∃ n31 : Int, (h30.read i12 1 1 = some [Cell.int IntKind.i64 n31]) ∧
                  (ifT (decide (n31 < 0))
                    (x29 true)
                    (fun h32 =>
                    ∃ n33 : Int, (h32.read i12 1 1 = some [Cell.int IntKind.i64 n33]) ∧
                    (ifT (decide (n33 > 10000000))
                      (x29 true)
                      (fun h34 =>
                      ∃ n35 : Int, (h34.read i12 2 1 = some [Cell.int IntKind.i64 n35]) ∧
                      (ifT (decide (n35 < 1))
                        (x29 true)
                        (fun h36 =>
                        ∃ n37 : Int, (h36.read i12 2 1 = some [Cell.int IntKind.i64 n37]) ∧
                        x29 (decide (n37 > 100)) h36)) h34)) h32)) h30))) h21) h19)) h17) h14)) h13)) h7)) h4)
        (ifT (decide (n1 < 0))
          (Q [V.one (Cell.int IntKind.i64 1)])
          (ifT (decide (n1 > 1000000000000))
            (Q [V.one (Cell.int IntKind.i64 1)])
            (Q [V.one (Cell.int IntKind.i64 0)])))))
theorem den56 (I : FuncId → List V → Post → T) (l0 : Sl) (n1 : Int) (Q : Post) : denF Go.Proofs.Tryz.prog 2 (⟨[(478366, 562948879679488, [(30, tk Go.Proofs.Tryz.prog 4)])], [(58, 72057594037919804, [(13, tk Go.Proofs.Tryz.prog 3)])]⟩) I 56 [V.agg [Cell.slice 4 l0, Cell.int IntKind.i64 n1]] Q = vc56 I l0 n1 Q := by kernel_rfl
/-- handbill/handref1.BasketFault$1 -/
def vc116 (I : FuncId → List V → Post → T) (s0 : ByteArray) (n1 : Int) (n2 : Int) (l3 : Sl) (i4 : Nat) (i5 : Nat) (Q : Post) : T :=
  fun h6 =>
  ∃ s7 : ByteArray, (h6.read i4 (i5 + 0) 1 = some [Cell.str s7]) ∧
  Q [V.one (Cell.bool (decide (s0 = s7)))] h6
theorem den116 (I : FuncId → List V → Post → T) (s0 : ByteArray) (n1 : Int) (n2 : Int) (l3 : Sl) (i4 : Nat) (i5 : Nat) (Q : Post) : denF Go.Proofs.Tryz.prog 4 (⟨[], []⟩) I 116 [V.agg [Cell.str s0, Cell.int IntKind.i64 n1, Cell.int IntKind.i64 n2, Cell.slice 1 l3], V.one (Cell.ptr (some (i4, i5)))] Q = vc116 I s0 n1 n2 l3 i4 i5 Q := by kernel_rfl
/-- handbill/handref1.TogetherOf -/
def vc57 (I : FuncId → List V → Post → T) (l0 : Sl) (Q : Post) : T :=
  loopK (A := Int) 0
    (fun x1 => fun n2 => ifT (decide (n2 < (↑l0.len : Int)))
      (fun h3 =>
      ((0 ≤ n2) ∧
      n2 < (↑l0.len : Int)) ∧
      (derefK l0.a (fun i4 => fun i5 => fun h6 =>
      ∃ s7 : ByteArray, ∃ n8 : Int, ∃ n9 : Int, ∃ n10 : Int, ∃ l11 : Sl, ∃ n12 : Int, ∃ n13 : Int, ∃ s14 : ByteArray, ∃ b15 : Bool, ∃ n16 : Int, ∃ n17 : Int, ∃ n18 : Int, (h6.read i4 (i5 + n2.toNat * 12) 12 = some [Cell.str s7, Cell.int IntKind.i64 n8, Cell.int IntKind.i64 n9, Cell.int IntKind.i64 n10, Cell.slice 1 l11, Cell.int IntKind.i64 n12, Cell.int IntKind.i64 n13, Cell.str s14, Cell.bool b15, Cell.int IntKind.i64 n16, Cell.int IntKind.i64 n17, Cell.int IntKind.i64 n18]) ∧
      (((0 : Int) ≤ (0 : Int)) ∧
      (0 ≤ n2) ∧
      n2 ≤ (↑l0.len : Int)) ∧
      (loopK (A := Int) 0
        (fun x19 => fun n20 => ifT (decide (n20 < (↑(l0.sub 12 0 n2.toNat).len : Int)))
          (fun h21 =>
          ((0 ≤ n20) ∧
          n20 < (↑(l0.sub 12 0 n2.toNat).len : Int)) ∧
          (derefK ((l0.sub 12 0 n2.toNat).a) (fun i22 => fun i23 => fun h24 =>
          ∃ s25 : ByteArray, ∃ n26 : Int, ∃ n27 : Int, ∃ n28 : Int, ∃ l29 : Sl, ∃ n30 : Int, ∃ n31 : Int, ∃ s32 : ByteArray, ∃ b33 : Bool, ∃ n34 : Int, ∃ n35 : Int, ∃ n36 : Int, (h24.read i22 (i23 + n20.toNat * 12) 12 = some [Cell.str s25, Cell.int IntKind.i64 n26, Cell.int IntKind.i64 n27, Cell.int IntKind.i64 n28, Cell.slice 1 l29, Cell.int IntKind.i64 n30, Cell.int IntKind.i64 n31, Cell.str s32, Cell.bool b33, Cell.int IntKind.i64 n34, Cell.int IntKind.i64 n35, Cell.int IntKind.i64 n36]) ∧
          (ifT b15
            (Q [V.one (Cell.bool false)])
            (ifT b33
              (Q [V.one (Cell.bool false)])
              (ifT (!decide (s14 = { data := #[] }))
                (ifT (decide (s14 = s32))
                  (Q [V.one (Cell.bool false)])
                  (x19 (IntKind.i64.wrap (n20 + 1))))
                (x19 (IntKind.i64.wrap (n20 + 1)))))) h24)) h21)
          (x1 (IntKind.i64.wrap (n2 + 1))))) h6)) h3)
      (Q [V.one (Cell.bool true)]))
theorem den57 (I : FuncId → List V → Post → T) (l0 : Sl) (Q : Post) : denF Go.Proofs.Tryz.prog 80 (⟨[], [(26, 4398046510684, [(9, tk Go.Proofs.Tryz.prog 3)]), (6758, 2199022993476, [(18, tk Go.Proofs.Tryz.prog 3)])]⟩) I 57 [V.one (Cell.slice 12 l0)] Q = vc57 I l0 Q := by kernel_rfl
/-- handbill/handref1.PriceOf$1 -/
def vc60 (I : FuncId → List V → Post → T) (s0 : ByteArray) (n1 : Int) (n2 : Int) (n3 : Int) (l4 : Sl) (n5 : Int) (n6 : Int) (s7 : ByteArray) (b8 : Bool) (n9 : Int) (n10 : Int) (n11 : Int) (s12 : ByteArray) (n13 : Int) (n14 : Int) (n15 : Int) (l16 : Sl) (n17 : Int) (n18 : Int) (s19 : ByteArray) (b20 : Bool) (n21 : Int) (n22 : Int) (n23 : Int) (Q : Post) : T :=
  fun h24 =>
  I 62 [V.one (Cell.int IntKind.i64 n9), V.one (Cell.int IntKind.i64 n21)]
    (fun cs25 => fun h26 => 
    ∃ n27 : Int, (cs25 = [V.one (Cell.int IntKind.i64 n27)]) ∧
    I 63 [V.one (Cell.str s0), V.one (Cell.str s12)]
      (fun cs28 => fun h29 => 
      ∃ n30 : Int, (cs28 = [V.one (Cell.int IntKind.i64 n30)]) ∧
      (newK (.cells false [Cell.int IntKind.i64 n27, Cell.int IntKind.i64 n30]) (fun i31 => fun h32 =>
      I 61 [V.one (Cell.slice 1 { a := some (i31, 0), len := 2 })]
        (fun cs33 => fun h34 => 
        ∃ n35 : Int, (cs33 = [V.one (Cell.int IntKind.i64 n35)]) ∧
        Q [V.one (Cell.int IntKind.i64 n35)] h34) h32)) h29) h26) h24
theorem den60 (I : FuncId → List V → Post → T) (s0 : ByteArray) (n1 : Int) (n2 : Int) (n3 : Int) (l4 : Sl) (n5 : Int) (n6 : Int) (s7 : ByteArray) (b8 : Bool) (n9 : Int) (n10 : Int) (n11 : Int) (s12 : ByteArray) (n13 : Int) (n14 : Int) (n15 : Int) (l16 : Sl) (n17 : Int) (n18 : Int) (s19 : ByteArray) (b20 : Bool) (n21 : Int) (n22 : Int) (n23 : Int) (Q : Post) : denF Go.Proofs.Tryz.prog 12 (⟨[], []⟩) I 60 [V.agg [Cell.str s0, Cell.int IntKind.i64 n1, Cell.int IntKind.i64 n2, Cell.int IntKind.i64 n3, Cell.slice 1 l4, Cell.int IntKind.i64 n5, Cell.int IntKind.i64 n6, Cell.str s7, Cell.bool b8, Cell.int IntKind.i64 n9, Cell.int IntKind.i64 n10, Cell.int IntKind.i64 n11], V.agg [Cell.str s12, Cell.int IntKind.i64 n13, Cell.int IntKind.i64 n14, Cell.int IntKind.i64 n15, Cell.slice 1 l16, Cell.int IntKind.i64 n17, Cell.int IntKind.i64 n18, Cell.str s19, Cell.bool b20, Cell.int IntKind.i64 n21, Cell.int IntKind.i64 n22, Cell.int IntKind.i64 n23]] Q = vc60 I s0 n1 n2 n3 l4 n5 n6 s7 b8 n9 n10 n11 s12 n13 n14 n15 l16 n17 n18 s19 b20 n21 n22 n23 Q := by kernel_rfl
/-- strings.Compare -/
def vc63 (I : FuncId → List V → Post → T) (s0 : ByteArray) (s1 : ByteArray) (Q : Post) : T :=
  fun h2 =>
  I 120 [V.one (Cell.str s0), V.one (Cell.str s1)]
    (fun cs3 => fun h4 => 
    ∃ n5 : Int, (cs3 = [V.one (Cell.int IntKind.i64 n5)]) ∧
    Q [V.one (Cell.int IntKind.i64 n5)] h4) h2
theorem den63 (I : FuncId → List V → Post → T) (s0 : ByteArray) (s1 : ByteArray) (Q : Post) : denF Go.Proofs.Tryz.prog 0 (⟨[], []⟩) I 63 [V.one (Cell.str s0), V.one (Cell.str s1)] Q = vc63 I s0 s1 Q := by kernel_rfl
/-- internal/bytealg.CompareString -/
def vc120 (I : FuncId → List V → Post → T) (s0 : ByteArray) (s1 : ByteArray) (Q : Post) : T :=
  fun h2 =>
  I 168 [V.one (Cell.str s0), V.one (Cell.str s1)]
    (fun cs3 => fun h4 => 
    ∃ n5 : Int, (cs3 = [V.one (Cell.int IntKind.i64 n5)]) ∧
    Q [V.one (Cell.int IntKind.i64 n5)] h4) h2
theorem den120 (I : FuncId → List V → Post → T) (s0 : ByteArray) (s1 : ByteArray) (Q : Post) : denF Go.Proofs.Tryz.prog 0 (⟨[], []⟩) I 120 [V.one (Cell.str s0), V.one (Cell.str s1)] Q = vc120 I s0 s1 Q := by kernel_rfl
/-- handbill/handref1.applied -/
def vc64 (I : FuncId → List V → Post → T) (s0 : ByteArray) (n1 : Int) (n2 : Int) (n3 : Int) (l4 : Sl) (n5 : Int) (n6 : Int) (s7 : ByteArray) (b8 : Bool) (n9 : Int) (n10 : Int) (n11 : Int) (l12 : Sl) (n13 : Int) (l14 : Sl) (n15 : Int) (Q : Post) : T :=
  fun h16 =>
  (newK (.cells false [Cell.str s0, Cell.int IntKind.i64 n1, Cell.int IntKind.i64 n2, Cell.int IntKind.i64 n3, Cell.slice 1 l4, Cell.int IntKind.i64 n5, Cell.int IntKind.i64 n6, Cell.str s7, Cell.bool b8, Cell.int IntKind.i64 n9, Cell.int IntKind.i64 n10, Cell.int IntKind.i64 n11]) (fun i17 => fun h18 =>
  (true = true) ∧
  (0 ≤ (↑l14.len : Int)) ∧
  ((↑l14.len : Int) ≤ (↑l14.len : Int)) ∧
  ((↑l14.len : Int) * (↑8 : Int) ≤ 140737488355328) ∧
  (newK (.cells false (slCells (VK.one (Kd.int IntKind.i64)) (↑l14.len : Int).toNat)) (fun i19 => fun h20 =>
  ∃ n21 : Int, (h20.read i17 1 1 = some [Cell.int IntKind.i64 n21]) ∧
  (ifT (decide (n21 = 4))
    (fun h22 =>
    ∃ n23 : Int, (h22.read i17 2 1 = some [Cell.int IntKind.i64 n23]) ∧
    I 121 [V.one (Cell.int IntKind.i64 (min n23 n15)), V.one (Cell.ptr (some (i17, 0)))]
      (fun cs24 => fun h25 => 
      ∃ n26 : Int, (cs24 = [V.one (Cell.int IntKind.i64 n26)]) ∧
      Q [V.one (Cell.slice 1 { a := some (i19, 0), len := (↑l14.len : Int).toNat }), V.one (Cell.int IntKind.i64 n26)] h25) h22)
    (ifT (decide (n21 = 2))
      (fun h27 =>
      (true = true) ∧
      (0 ≤ (↑l14.len : Int)) ∧
      ((↑l14.len : Int) ≤ (↑l14.len : Int)) ∧
      ((↑l14.len : Int) * (↑8 : Int) ≤ 140737488355328) ∧
      (newK (.cells false (slCells (VK.one (Kd.int IntKind.i64)) (↑l14.len : Int).toNat)) (fun i28 => loopK (A := Int) 0
        (fun x29 => fun n30 => ifT (decide (n30 < (↑l12.len : Int)))
          (fun h31 =>
          ((0 ≤ n30) ∧
          n30 < (↑l12.len : Int)) ∧
          (derefK l12.a (fun i32 => fun i33 => fun h34 =>
          ∃ s35 : ByteArray, ∃ n36 : Int, ∃ n37 : Int, ∃ l38 : Sl, (h34.read i32 (i33 + n30.toNat * 4) 4 = some [Cell.str s35, Cell.int IntKind.i64 n36, Cell.int IntKind.i64 n37, Cell.slice 1 l38]) ∧
          ∃ s39 : ByteArray, ∃ n40 : Int, ∃ n41 : Int, ∃ n42 : Int, ∃ l43 : Sl, ∃ n44 : Int, ∃ n45 : Int, ∃ s46 : ByteArray, ∃ b47 : Bool, ∃ n48 : Int, ∃ n49 : Int, ∃ n50 : Int, (h34.read i17 0 12 = some [Cell.str s39, Cell.int IntKind.i64 n40, Cell.int IntKind.i64 n41, Cell.int IntKind.i64 n42, Cell.slice 1 l43, Cell.int IntKind.i64 n44, Cell.int IntKind.i64 n45, Cell.str s46, Cell.bool b47, Cell.int IntKind.i64 n48, Cell.int IntKind.i64 n49, Cell.int IntKind.i64 n50]) ∧
          I 47 [V.agg [Cell.str s39, Cell.int IntKind.i64 n40, Cell.int IntKind.i64 n41, Cell.int IntKind.i64 n42, Cell.slice 1 l43, Cell.int IntKind.i64 n44, Cell.int IntKind.i64 n45, Cell.str s46, Cell.bool b47, Cell.int IntKind.i64 n48, Cell.int IntKind.i64 n49, Cell.int IntKind.i64 n50], V.agg [Cell.str s35, Cell.int IntKind.i64 n36, Cell.int IntKind.i64 n37, Cell.slice 1 l38]]
            (fun cs51 => fun h52 => 
            ∃ b53 : Bool, (cs51 = [V.one (Cell.bool b53)]) ∧
            (ifT b53
              (fun h54 =>
              ((0 ≤ n30) ∧
              n30 < (↑l14.len : Int)) ∧
              (derefK l14.a (fun i55 => fun i56 => fun h57 =>
              ∃ n58 : Int, (h57.read i55 (i56 + n30.toNat * 1) 1 = some [Cell.int IntKind.i64 n58]) ∧
              ((0 ≤ n30) ∧
              n30 < (↑(↑l14.len : Int).toNat : Int)) ∧
              (storeK [] i28 (0 + n30.toNat * 1) [Cell.int IntKind.i64 n58] (x29 (IntKind.i64.wrap (n30 + 1)))) h57)) h54)
              (x29 (IntKind.i64.wrap (n30 + 1)))) h52) h34)) h31)
          (fun h59 =>
          ∃ n60 : Int, (h59.read i17 2 1 = some [Cell.int IntKind.i64 n60]) ∧
          I 65 [V.one (Cell.slice 1 { a := some (i28, 0), len := (↑l14.len : Int).toNat })]
            (fun cs61 => fun h62 => 
            (h62 i17 = h59 i17) ∧
            ∃ n63 : Int, (cs61 = [V.one (Cell.int IntKind.i64 n63)]) ∧
            I 121 [V.one (Cell.int IntKind.i64 (min n60 n63)), V.one (Cell.ptr (some (i17, 0)))]
              (fun cs64 => fun h65 => 
              ∃ n66 : Int, (cs64 = [V.one (Cell.int IntKind.i64 n66)]) ∧
              (joinK (A := Sl)
                (fun l67 => fun h68 => 
                Q [V.one (Cell.slice 1 l67), V.one (Cell.int IntKind.i64 0)] h68)
                (fun x69 => ifT (decide (n66 > 0))
                  (fun h70 =>
                  I 100 [V.one (Cell.int IntKind.i64 n66), V.one (Cell.slice 1 { a := some (i28, 0), len := (↑l14.len : Int).toNat }), V.one (Cell.bool false)]
                    (fun cs71 => fun h72 => 
                    ∃ l73 : Sl, (cs71 = [V.one (Cell.slice 1 l73)]) ∧
                    x69 l73 h72) h70)
                  (x69 ({ a := some (i19, 0), len := (↑l14.len : Int).toNat })))) h65) h62) h59)))) h27)
      (joinK (A := Sl)
        (fun l74 => fun h75 => 
        I 65 [V.one (Cell.slice 1 l74)]
          (fun cs76 => fun h77 => 
          ∃ n78 : Int, (cs76 = [V.one (Cell.int IntKind.i64 n78)]) ∧
          I 121 [V.one (Cell.int IntKind.i64 n78), V.one (Cell.ptr (some (i17, 0)))]
            (fun cs79 => fun h80 => 
            ∃ n81 : Int, (cs79 = [V.one (Cell.int IntKind.i64 n81)]) ∧
            I 65 [V.one (Cell.slice 1 l74)]
              (fun cs82 => fun h83 => 
              ∃ n84 : Int, (cs82 = [V.one (Cell.int IntKind.i64 n84)]) ∧
              (ifT (decide (n81 < n84))
                (fun h85 =>
                I 100 [V.one (Cell.int IntKind.i64 n81), V.one (Cell.slice 1 l74), V.one (Cell.bool false)]
                  (fun cs86 => fun h87 => 
                  ∃ l88 : Sl, (cs86 = [V.one (Cell.slice 1 l88)]) ∧
                  Q [V.one (Cell.slice 1 l88), V.one (Cell.int IntKind.i64 0)] h87) h85)
                (Q [V.one (Cell.slice 1 l74), V.one (Cell.int IntKind.i64 0)])) h83) h80) h77) h75)
        (fun x89 => ifT (decide (n21 = 1))
          (loopK (A := Int) 0
            (fun x90 => fun n91 => ifT (decide (n91 < (↑l12.len : Int)))
              (fun h92 =>
              ((0 ≤ n91) ∧
              n91 < (↑l12.len : Int)) ∧
              (derefK l12.a (fun i93 => fun i94 => fun h95 =>
              ∃ s96 : ByteArray, ∃ n97 : Int, ∃ n98 : Int, ∃ l99 : Sl, (h95.read i93 (i94 + n91.toNat * 4) 4 = some [Cell.str s96, Cell.int IntKind.i64 n97, Cell.int IntKind.i64 n98, Cell.slice 1 l99]) ∧
              ∃ s100 : ByteArray, ∃ n101 : Int, ∃ n102 : Int, ∃ n103 : Int, ∃ l104 : Sl, ∃ n105 : Int, ∃ n106 : Int, ∃ s107 : ByteArray, ∃ b108 : Bool, ∃ n109 : Int, ∃ n110 : Int, ∃ n111 : Int, (h95.read i17 0 12 = some [Cell.str s100, Cell.int IntKind.i64 n101, Cell.int IntKind.i64 n102, Cell.int IntKind.i64 n103, Cell.slice 1 l104, Cell.int IntKind.i64 n105, Cell.int IntKind.i64 n106, Cell.str s107, Cell.bool b108, Cell.int IntKind.i64 n109, Cell.int IntKind.i64 n110, Cell.int IntKind.i64 n111]) ∧
              I 47 [V.agg [Cell.str s100, Cell.int IntKind.i64 n101, Cell.int IntKind.i64 n102, Cell.int IntKind.i64 n103, Cell.slice 1 l104, Cell.int IntKind.i64 n105, Cell.int IntKind.i64 n106, Cell.str s107, Cell.bool b108, Cell.int IntKind.i64 n109, Cell.int IntKind.i64 n110, Cell.int IntKind.i64 n111], V.agg [Cell.str s96, Cell.int IntKind.i64 n97, Cell.int IntKind.i64 n98, Cell.slice 1 l99]]
                (fun cs112 => fun h113 => 
                ∃ b114 : Bool, (cs112 = [V.one (Cell.bool b114)]) ∧
                (ifT b114
                  (fun h115 =>
                  ((0 ≤ n91) ∧
                  n91 < (↑l14.len : Int)) ∧
                  (derefK l14.a (fun i116 => fun i117 => fun h118 =>
                  ∃ n119 : Int, (h118.read i116 (i117 + n91.toNat * 1) 1 = some [Cell.int IntKind.i64 n119]) ∧
                  ∃ n120 : Int, (h118.read i17 2 1 = some [Cell.int IntKind.i64 n120]) ∧
                  ((0 ≤ n91) ∧
                  n91 < (↑(↑l14.len : Int).toNat : Int)) ∧
                  (storeK [] i19 (0 + n91.toNat * 1) [Cell.int IntKind.i64 (IntKind.i64.wrap ((IntKind.i64.wrap (n119 * n120)).tdiv 100))] (x90 (IntKind.i64.wrap (n91 + 1)))) h118)) h115)
                  (x90 (IntKind.i64.wrap (n91 + 1)))) h113) h95)) h92)
              (x89 ({ a := some (i19, 0), len := (↑l14.len : Int).toNat }))))
          (joinK (A := Sl)
            (fun l121 => fun h122 => 
            x89 l121 h122)
            (fun x123 => ifT (decide (n21 = 3))
              (fun h124 =>
              ∃ s125 : ByteArray, ∃ n126 : Int, ∃ n127 : Int, ∃ n128 : Int, ∃ l129 : Sl, ∃ n130 : Int, ∃ n131 : Int, ∃ s132 : ByteArray, ∃ b133 : Bool, ∃ n134 : Int, ∃ n135 : Int, ∃ n136 : Int, (h124.read i17 0 12 = some [Cell.str s125, Cell.int IntKind.i64 n126, Cell.int IntKind.i64 n127, Cell.int IntKind.i64 n128, Cell.slice 1 l129, Cell.int IntKind.i64 n130, Cell.int IntKind.i64 n131, Cell.str s132, Cell.bool b133, Cell.int IntKind.i64 n134, Cell.int IntKind.i64 n135, Cell.int IntKind.i64 n136]) ∧
              I 122 [V.agg [Cell.str s125, Cell.int IntKind.i64 n126, Cell.int IntKind.i64 n127, Cell.int IntKind.i64 n128, Cell.slice 1 l129, Cell.int IntKind.i64 n130, Cell.int IntKind.i64 n131, Cell.str s132, Cell.bool b133, Cell.int IntKind.i64 n134, Cell.int IntKind.i64 n135, Cell.int IntKind.i64 n136], V.agg [Cell.slice 4 l12, Cell.int IntKind.i64 n13], V.one (Cell.slice 1 l14)]
                (fun cs137 => fun h138 => 
                ∃ l139 : Sl, (cs137 = [V.one (Cell.slice 1 l139)]) ∧
                x123 l139 h138) h124)
              (x123 ({ a := some (i19, 0), len := (↑l14.len : Int).toNat })))))))) h20)) h18)) h16
theorem den64 (I : FuncId → List V → Post → T) (s0 : ByteArray) (n1 : Int) (n2 : Int) (n3 : Int) (l4 : Sl) (n5 : Int) (n6 : Int) (s7 : ByteArray) (b8 : Bool) (n9 : Int) (n10 : Int) (n11 : Int) (l12 : Sl) (n13 : Int) (l14 : Sl) (n15 : Int) (Q : Post) : denF Go.Proofs.Tryz.prog 147488 (⟨[(3935, 5070602391468184640247522592768, [(11, tk Go.Proofs.Tryz.prog 22)]), (15743, 4753689750855860255612637022208, [(11, tk Go.Proofs.Tryz.prog 22)]), (62939, 1033017668127734892544, [(11, tk Go.Proofs.Tryz.prog 22)])], [(31466, 288225978105225216, [(42, tk Go.Proofs.Tryz.prog 3)]), (31482, 79228086956400611679220727808, [(76, tk Go.Proofs.Tryz.prog 3)])]⟩) I 64 [V.agg [Cell.str s0, Cell.int IntKind.i64 n1, Cell.int IntKind.i64 n2, Cell.int IntKind.i64 n3, Cell.slice 1 l4, Cell.int IntKind.i64 n5, Cell.int IntKind.i64 n6, Cell.str s7, Cell.bool b8, Cell.int IntKind.i64 n9, Cell.int IntKind.i64 n10, Cell.int IntKind.i64 n11], V.agg [Cell.slice 4 l12, Cell.int IntKind.i64 n13], V.one (Cell.slice 1 l14), V.one (Cell.int IntKind.i64 n15)] Q = vc64 I s0 n1 n2 n3 l4 n5 n6 s7 b8 n9 n10 n11 l12 n13 l14 n15 Q := by kernel_rfl
/-- handbill/handref1.total -/
def vc65 (I : FuncId → List V → Post → T) (l0 : Sl) (Q : Post) : T :=
  loopK (A := Int × Int) ((0, 0))
    (fun x1 => uncur fun n2 n3 => ifT (decide (n3 < (↑l0.len : Int)))
      (fun h4 =>
      ((0 ≤ n3) ∧
      n3 < (↑l0.len : Int)) ∧
      (derefK l0.a (fun i5 => fun i6 => fun h7 =>
      ∃ n8 : Int, (h7.read i5 (i6 + n3.toNat * 1) 1 = some [Cell.int IntKind.i64 n8]) ∧
      x1 ((IntKind.i64.wrap (n2 + n8), IntKind.i64.wrap (n3 + 1))) h7)) h4)
      (Q [V.one (Cell.int IntKind.i64 n2)]))
theorem den65 (I : FuncId → List V → Post → T) (l0 : Sl) (Q : Post) : denF Go.Proofs.Tryz.prog 0 (⟨[], [(58, 65320, [(3, tk Go.Proofs.Tryz.prog 3), (8, tk Go.Proofs.Tryz.prog 3)])]⟩) I 65 [V.one (Cell.slice 1 l0)] Q = vc65 I l0 Q := by kernel_rfl
/-- handbill/handref1.dealt -/
def vc100 (I : FuncId → List V → Post → T) (n0 : Int) (l1 : Sl) (b2 : Bool) (Q : Post) : T :=
  fun h3 =>
  I 65 [V.one (Cell.slice 1 l1)]
    (fun cs4 => fun h5 => 
    ∃ n6 : Int, (cs4 = [V.one (Cell.int IntKind.i64 n6)]) ∧
    (true = true) ∧
    (0 ≤ (↑l1.len : Int)) ∧
    ((↑l1.len : Int) ≤ (↑l1.len : Int)) ∧
    ((↑l1.len : Int) * (↑8 : Int) ≤ 140737488355328) ∧
    (newK (.cells false (slCells (VK.one (Kd.int IntKind.i64)) (↑l1.len : Int).toNat)) (fun i7 => fun h8 => 
    (true = true) ∧
    (0 ≤ (↑l1.len : Int)) ∧
    ((↑l1.len : Int) ≤ (↑l1.len : Int)) ∧
    ((↑l1.len : Int) * (↑8 : Int) ≤ 140737488355328) ∧
    (newK (.cells false (slCells (VK.one (Kd.int IntKind.u64)) (↑l1.len : Int).toNat)) (fun i9 => loopK (A := Int) 0
      (fun x10 => fun n11 => ifT (decide (n11 < (↑l1.len : Int)))
        (fun h12 =>
        ((0 ≤ n11) ∧
        n11 < (↑l1.len : Int)) ∧
        (derefK l1.a (fun i13 => fun i14 => fun h15 =>
        ∃ n16 : Int, (h15.read i13 (i14 + n11.toNat * 1) 1 = some [Cell.int IntKind.i64 n16]) ∧
        I 142 [V.one (Cell.int IntKind.u64 (IntKind.u64.wrap n0)), V.one (Cell.int IntKind.u64 (IntKind.u64.wrap n16))]
          (fun cs17 => fun h18 => 
          ∃ n19 : Int, ∃ n20 : Int, (cs17 = [V.one (Cell.int IntKind.u64 n19), V.one (Cell.int IntKind.u64 n20)]) ∧
          I 143 [V.one (Cell.int IntKind.u64 n19), V.one (Cell.int IntKind.u64 n20), V.one (Cell.int IntKind.u64 (IntKind.u64.wrap n6))]
            (fun cs21 => fun h22 => 
            ∃ n23 : Int, ∃ n24 : Int, (cs21 = [V.one (Cell.int IntKind.u64 n23), V.one (Cell.int IntKind.u64 n24)]) ∧
            ((0 ≤ n11) ∧
            n11 < (↑(↑l1.len : Int).toNat : Int)) ∧
            (storeK [] i7 (0 + n11.toNat * 1) [Cell.int IntKind.i64 (IntKind.i64.wrap n23)] (fun h25 =>
            ((0 ≤ n11) ∧
            n11 < (↑(↑l1.len : Int).toNat : Int)) ∧
            (storeK [] i9 (0 + n11.toNat * 1) [Cell.int IntKind.u64 n24] (x10 (IntKind.i64.wrap (n11 + 1)))) h25)) h22) h18) h15)) h12)
        (fun h26 =>
        (true = true) ∧
        (0 ≤ (↑l1.len : Int)) ∧
        ((↑l1.len : Int) ≤ (↑l1.len : Int)) ∧
        ((↑l1.len : Int) * (↑1 : Int) ≤ 140737488355328) ∧
        (newK (.cells false (slCells (VK.one Kd.bool) (↑l1.len : Int).toNat)) (fun i27 => fun h28 => 
        I 65 [V.one (Cell.slice 1 { a := some (i7, 0), len := (↑l1.len : Int).toNat })]
          (fun cs29 => fun h30 => 
          ∃ n31 : Int, (cs29 = [V.one (Cell.int IntKind.i64 n31)]) ∧
          (loopK (A := Int) (IntKind.i64.wrap (n0 - n31))
            (fun x32 => fun n33 => ifT (decide (n33 > 0))
              (loopK (A := Int × Int) ((-1, 0))
                (fun x34 => uncur fun n35 n36 => ifT (decide (n36 < (↑(↑l1.len : Int).toNat : Int)))
                  (fun h37 =>
                  ((0 ≤ n36) ∧
                  n36 < (↑(↑l1.len : Int).toNat : Int)) ∧
                  ∃ n38 : Int, (h37.read i9 (0 + n36.toNat * 1) 1 = some [Cell.int IntKind.u64 n38]) ∧
                  ((0 ≤ n36) ∧
                  n36 < (↑(↑l1.len : Int).toNat : Int)) ∧
                  ∃ b39 : Bool, (h37.read i27 (0 + n36.toNat * 1) 1 = some [Cell.bool b39]) ∧
                  (ifT (!b39)
                    (ifT (decide (n35 < 0))
                      (x34 ((n36, IntKind.i64.wrap (n36 + 1))))
                      (fun h40 =>
                      ((0 ≤ n35) ∧
                      n35 < (↑(↑l1.len : Int).toNat : Int)) ∧
                      ∃ n41 : Int, (h40.read i9 (0 + n35.toNat * 1) 1 = some [Cell.int IntKind.u64 n41]) ∧
                      (ifT (decide (n38 > n41))
                        (x34 ((n36, IntKind.i64.wrap (n36 + 1))))
                        (ifT b2
                          (fun h42 =>
                          ((0 ≤ n35) ∧
                          n35 < (↑(↑l1.len : Int).toNat : Int)) ∧
                          ∃ n43 : Int, (h42.read i9 (0 + n35.toNat * 1) 1 = some [Cell.int IntKind.u64 n43]) ∧
                          (ifT (decide (n38 = n43))
                            (x34 ((n36, IntKind.i64.wrap (n36 + 1))))
                            (x34 ((n35, IntKind.i64.wrap (n36 + 1))))) h42)
                          (x34 ((n35, IntKind.i64.wrap (n36 + 1)))))) h40))
                    (x34 ((n35, IntKind.i64.wrap (n36 + 1))))) h37)
                  (fun h44 =>
                  ((0 ≤ n35) ∧
                  n35 < (↑(↑l1.len : Int).toNat : Int)) ∧
                  ∃ n45 : Int, (h44.read i7 (0 + n35.toNat * 1) 1 = some [Cell.int IntKind.i64 n45]) ∧
                  ((0 ≤ n35) ∧
                  n35 < (↑(↑l1.len : Int).toNat : Int)) ∧
                  (storeK [] i7 (0 + n35.toNat * 1) [Cell.int IntKind.i64 (IntKind.i64.wrap (n45 + 1))] (fun h46 =>
                  ((0 ≤ n35) ∧
                  n35 < (↑(↑l1.len : Int).toNat : Int)) ∧
                  (storeK [] i27 (0 + n35.toNat * 1) [Cell.bool true] (x32 (IntKind.i64.wrap (n33 - 1)))) h46)) h44)))
              (Q [V.one (Cell.slice 1 { a := some (i7, 0), len := (↑l1.len : Int).toNat })]))) h30) h28)) h26)))) h8)) h5) h3
theorem den100 (I : FuncId → List V → Post → T) (n0 : Int) (l1 : Sl) (b2 : Bool) (Q : Post) : denF Go.Proofs.Tryz.prog 0 (⟨[], [(250, 4611686014132485120, [(32, tk Go.Proofs.Tryz.prog 3)]), (1018, 664613997892457346156093171436486656, [(17, tk Go.Proofs.Tryz.prog 3)]), (260682, 1298074214595927975269666922430464, [(18, tk Go.Proofs.Tryz.prog 3), (75, tk Go.Proofs.Tryz.prog 3)])]⟩) I 100 [V.one (Cell.int IntKind.i64 n0), V.one (Cell.slice 1 l1), V.one (Cell.bool b2)] Q = vc100 I n0 l1 b2 Q := by kernel_rfl
/-- handbill/handref1.applied$1 -/
def vc121 (I : FuncId → List V → Post → T) (n0 : Int) (i1 : Nat) (i2 : Nat) (Q : Post) : T :=
  fun h3 =>
  ∃ n4 : Int, (h3.read i1 (i2 + 6) 1 = some [Cell.int IntKind.i64 n4]) ∧
  (ifT (decide (n4 > 0))
    (fun h5 =>
    ∃ n6 : Int, (h5.read i1 (i2 + 6) 1 = some [Cell.int IntKind.i64 n6]) ∧
    Q [V.one (Cell.int IntKind.i64 (min n0 n6))] h5)
    (Q [V.one (Cell.int IntKind.i64 n0)])) h3
theorem den121 (I : FuncId → List V → Post → T) (n0 : Int) (i1 : Nat) (i2 : Nat) (Q : Post) : denF Go.Proofs.Tryz.prog 0 (⟨[], []⟩) I 121 [V.one (Cell.int IntKind.i64 n0), V.one (Cell.ptr (some (i1, i2)))] Q = vc121 I n0 i1 i2 Q := by kernel_rfl
/-- handbill/handref1.freed -/
def vc122 (I : FuncId → List V → Post → T) (s0 : ByteArray) (n1 : Int) (n2 : Int) (n3 : Int) (l4 : Sl) (n5 : Int) (n6 : Int) (s7 : ByteArray) (b8 : Bool) (n9 : Int) (n10 : Int) (n11 : Int) (l12 : Sl) (n13 : Int) (l14 : Sl) (Q : Post) : T :=
  loopK (A := Sl × Int) (({ a := none, len := 0 }, 0))
    (fun x15 => uncur fun l16 n17 => ifT (decide (n17 < (↑l12.len : Int)))
      (fun h18 =>
      ((0 ≤ n17) ∧
      n17 < (↑l12.len : Int)) ∧
      (derefK l12.a (fun i19 => fun i20 => fun h21 =>
      ∃ s22 : ByteArray, ∃ n23 : Int, ∃ n24 : Int, ∃ l25 : Sl, (h21.read i19 (i20 + n17.toNat * 4) 4 = some [Cell.str s22, Cell.int IntKind.i64 n23, Cell.int IntKind.i64 n24, Cell.slice 1 l25]) ∧
      (loopK (A := Sl × Int) ((l16, 0))
        (fun x26 => uncur fun l27 n28 => ifT (decide (n28 < n24))
          (fun h29 =>
          I 47 [V.agg [Cell.str s0, Cell.int IntKind.i64 n1, Cell.int IntKind.i64 n2, Cell.int IntKind.i64 n3, Cell.slice 1 l4, Cell.int IntKind.i64 n5, Cell.int IntKind.i64 n6, Cell.str s7, Cell.bool b8, Cell.int IntKind.i64 n9, Cell.int IntKind.i64 n10, Cell.int IntKind.i64 n11], V.agg [Cell.str s22, Cell.int IntKind.i64 n23, Cell.int IntKind.i64 n24, Cell.slice 1 l25]]
            (fun cs30 => fun h31 => 
            ∃ b32 : Bool, (cs30 = [V.one (Cell.bool b32)]) ∧
            (ifT b32
              (fun h33 =>
              ((0 ≤ n17) ∧
              n17 < (↑l14.len : Int)) ∧
              (derefK l14.a (fun i34 => fun i35 => fun h36 =>
              ∃ n37 : Int, (h36.read i34 (i35 + n17.toNat * 1) 1 = some [Cell.int IntKind.i64 n37]) ∧
              (n24 ≠ 0) ∧
              (appendTo [] 2 16 l27 1 [Cell.int IntKind.i64 n17, Cell.int IntKind.i64 (IntKind.i64.wrap (n37.tdiv n24))] (fun l38 => fun h39 => 
              x26 ((l38, IntKind.i64.wrap (n28 + 1))) h39)) h36)) h33)
              (x26 ((l27, IntKind.i64.wrap (n28 + 1))))) h31) h29)
          (x15 ((l27, IntKind.i64.wrap (n17 + 1)))))) h21)) h18)
      (fun h40 =>
      I 169 [V.one (Cell.slice 2 l16), V.one (Cell.func (some (170, [])))]
        (fun cs41 => fun h42 => 
        (cs41 = []) ∧
        (true = true) ∧
        (0 ≤ (↑l14.len : Int)) ∧
        ((↑l14.len : Int) ≤ (↑l14.len : Int)) ∧
        ((↑l14.len : Int) * (↑8 : Int) ≤ 140737488355328) ∧
        (newK (.cells false (slCells (VK.one (Kd.int IntKind.i64)) (↑l14.len : Int).toNat)) (fun i43 => loopK (A := Int) 0
          (fun x44 => fun n45 => ifT (decide (n45 < (↑l16.len : Int)))
            (fun h46 =>
            ((0 ≤ n45) ∧
            n45 < (↑l16.len : Int)) ∧
            (derefK l16.a (fun i47 => fun i48 => fun h49 =>
            ∃ n50 : Int, ∃ n51 : Int, (h49.read i47 (i48 + n45.toNat * 2) 2 = some [Cell.int IntKind.i64 n50, Cell.int IntKind.i64 n51]) ∧
            (IntKind.i64.wrap (n2 + n3) ≠ 0) ∧
            (joinK (A := Bool)
              (fun b52 => ifT b52
                (fun h53 =>
                ((0 ≤ n50) ∧
                n50 < (↑(↑l14.len : Int).toNat : Int)) ∧
                ∃ n54 : Int, (h53.read i43 (0 + n50.toNat * 1) 1 = some [Cell.int IntKind.i64 n54]) ∧
                ((0 ≤ n50) ∧
                n50 < (↑(↑l14.len : Int).toNat : Int)) ∧
                (storeK [] i43 (0 + n50.toNat * 1) [Cell.int IntKind.i64 (IntKind.i64.wrap (n54 + n51))] (x44 (IntKind.i64.wrap (n45 + 1)))) h53)
                (x44 (IntKind.i64.wrap (n45 + 1))))
              (fun x55 => fun h56 => 
              (IntKind.i64.wrap (n2 + n3) ≠ 0) ∧
              (ifT (decide (n45.tmod (IntKind.i64.wrap (n2 + n3)) ≥ n2))
                (x55 (decide (IntKind.i64.wrap (IntKind.i64.wrap (IntKind.i64.wrap (n45.tdiv (IntKind.i64.wrap (n2 + n3))) + 1) * IntKind.i64.wrap (n2 + n3)) ≤ (↑l16.len : Int))))
                (x55 false)) h56)) h49)) h46)
            (Q [V.one (Cell.slice 1 { a := some (i43, 0), len := (↑l14.len : Int).toNat })])))) h42) h40))
theorem den122 (I : FuncId → List V → Post → T) (s0 : ByteArray) (n1 : Int) (n2 : Int) (n3 : Int) (l4 : Sl) (n5 : Int) (n6 : Int) (s7 : ByteArray) (b8 : Bool) (n9 : Int) (n10 : Int) (n11 : Int) (l12 : Sl) (n13 : Int) (l14 : Sl) (Q : Post) : denF Go.Proofs.Tryz.prog 4632 (⟨[(129638, 38685621615982115163209728, [(84, tk Go.Proofs.Tryz.prog 4)])], [(58, 8796092892032, [(7, tk Go.Proofs.Tryz.prog 216), (17, tk Go.Proofs.Tryz.prog 3)]), (506, 39614081257131042896865146880, [(50, tk Go.Proofs.Tryz.prog 3)]), (14950, 4398029734016, [(7, tk Go.Proofs.Tryz.prog 216), (24, tk Go.Proofs.Tryz.prog 3)])]⟩) I 122 [V.agg [Cell.str s0, Cell.int IntKind.i64 n1, Cell.int IntKind.i64 n2, Cell.int IntKind.i64 n3, Cell.slice 1 l4, Cell.int IntKind.i64 n5, Cell.int IntKind.i64 n6, Cell.str s7, Cell.bool b8, Cell.int IntKind.i64 n9, Cell.int IntKind.i64 n10, Cell.int IntKind.i64 n11], V.agg [Cell.slice 4 l12, Cell.int IntKind.i64 n13], V.one (Cell.slice 1 l14)] Q = vc122 I s0 n1 n2 n3 l4 n5 n6 s7 b8 n9 n10 n11 l12 n13 l14 Q := by kernel_rfl
/-- slices.SortStableFunc[[]handbill/handref1.piece,handbill/handref1.piece] -/
def vc169 (I : FuncId → List V → Post → T) (l0 : Sl) (p1 : Option (Nat × List (Nat × Nat))) (Q : Post) : T :=
  fun h2 =>
  I 216 [V.one (Cell.slice 2 l0), V.one (Cell.int IntKind.i64 (↑l0.len : Int)), V.one (Cell.func p1)]
    (fun cs3 => fun h4 => 
    (cs3 = []) ∧
    Q [] h4) h2
theorem den169 (I : FuncId → List V → Post → T) (l0 : Sl) (p1 : Option (Nat × List (Nat × Nat))) (Q : Post) : denF Go.Proofs.Tryz.prog 0 (⟨[], []⟩) I 169 [V.one (Cell.slice 2 l0), V.one (Cell.func p1)] Q = vc169 I l0 p1 Q := by kernel_rfl
/-- slices.stableCmpFunc[handbill/handref1.piece] -/
def vc216 (I : FuncId → List V → Post → T) (l0 : Sl) (n1 : Int) (p2 : Option (Nat × List (Nat × Nat))) (Q : Post) : T :=
  loopK (A := Int × Int) ((0, 20))
    (fun x3 => uncur fun n4 n5 => ifT (decide (n5 ≤ n1))
      (fun h6 =>
      I 241 [V.one (Cell.slice 2 l0), V.one (Cell.int IntKind.i64 n4), V.one (Cell.int IntKind.i64 n5), V.one (Cell.func p2)]
        (fun cs7 => fun h8 => 
        (cs7 = []) ∧
        x3 ((n5, IntKind.i64.wrap (n5 + 20))) h8) h6)
      (fun h9 =>
      I 241 [V.one (Cell.slice 2 l0), V.one (Cell.int IntKind.i64 n4), V.one (Cell.int IntKind.i64 n1), V.one (Cell.func p2)]
        (fun cs10 => fun h11 => 
        (cs10 = []) ∧
        (loopK (A := Int) 20
          (fun x12 => fun n13 => ifT (decide (n13 < n1))
            (loopK (A := Int × Int) ((0, IntKind.i64.wrap (2 * n13)))
              (fun x14 => uncur fun n15 n16 => ifT (decide (n16 ≤ n1))
                (fun h17 =>
                I 242 [V.one (Cell.slice 2 l0), V.one (Cell.int IntKind.i64 n15), V.one (Cell.int IntKind.i64 (IntKind.i64.wrap (n15 + n13))), V.one (Cell.int IntKind.i64 n16), V.one (Cell.func p2)]
                  (fun cs18 => fun h19 => 
                  (cs18 = []) ∧
                  x14 ((n16, IntKind.i64.wrap (n16 + IntKind.i64.wrap (2 * n13)))) h19) h17)
                (ifT (decide (IntKind.i64.wrap (n15 + n13) < n1))
                  (fun h20 =>
                  I 242 [V.one (Cell.slice 2 l0), V.one (Cell.int IntKind.i64 n15), V.one (Cell.int IntKind.i64 (IntKind.i64.wrap (n15 + n13))), V.one (Cell.int IntKind.i64 n1), V.one (Cell.func p2)]
                    (fun cs21 => fun h22 => 
                    (cs21 = []) ∧
                    x12 (IntKind.i64.wrap (n13 * 2)) h22) h20)
                  (x12 (IntKind.i64.wrap (n13 * 2))))))
            (Q []))) h11) h9))
theorem den216 (I : FuncId → List V → Post → T) (l0 : Sl) (n1 : Int) (p2 : Option (Nat × List (Nat × Nat))) (Q : Post) : denF Go.Proofs.Tryz.prog 0 (⟨[], [(28, 8386944, [(7, tk Go.Proofs.Tryz.prog 3), (8, tk Go.Proofs.Tryz.prog 3)]), (62, 9223372036586341312, [(6, tk Go.Proofs.Tryz.prog 3)]), (3988, 562941363487104, [(7, tk Go.Proofs.Tryz.prog 3), (8, tk Go.Proofs.Tryz.prog 3)])]⟩) I 216 [V.one (Cell.slice 2 l0), V.one (Cell.int IntKind.i64 n1), V.one (Cell.func p2)] Q = vc216 I l0 n1 p2 Q := by kernel_rfl
/-- slices.insertionSortCmpFunc[handbill/handref1.piece] -/
def vc241 (I : FuncId → List V → Post → T) (l0 : Sl) (n1 : Int) (n2 : Int) (p3 : Option (Nat × List (Nat × Nat))) (Q : Post) : T :=
  loopK (A := Int) (IntKind.i64.wrap (n1 + 1))
    (fun x4 => fun n5 => ifT (decide (n5 < n2))
      (loopK (A := Int) n5
        (fun x6 => fun n7 => joinK (A := Bool)
          (fun b8 => ifT b8
            (fun h9 =>
            ((0 ≤ IntKind.i64.wrap (n7 - 1)) ∧
            IntKind.i64.wrap (n7 - 1) < (↑l0.len : Int)) ∧
            (derefK l0.a (fun i10 => fun i11 => fun h12 =>
            ∃ n13 : Int, ∃ n14 : Int, (h12.read i10 (i11 + (IntKind.i64.wrap (n7 - 1)).toNat * 2) 2 = some [Cell.int IntKind.i64 n13, Cell.int IntKind.i64 n14]) ∧
            ((0 ≤ n7) ∧
            n7 < (↑l0.len : Int)) ∧
            (derefK l0.a (fun i15 => fun i16 => fun h17 =>
            ∃ n18 : Int, ∃ n19 : Int, (h17.read i15 (i16 + n7.toNat * 2) 2 = some [Cell.int IntKind.i64 n18, Cell.int IntKind.i64 n19]) ∧
            ((0 ≤ n7) ∧
            n7 < (↑l0.len : Int)) ∧
            (derefK l0.a (fun i20 => fun i21 => fun h22 => 
            (storeK [] i20 (i21 + n7.toNat * 2) [Cell.int IntKind.i64 n13, Cell.int IntKind.i64 n14] (fun h23 =>
            ((0 ≤ IntKind.i64.wrap (n7 - 1)) ∧
            IntKind.i64.wrap (n7 - 1) < (↑l0.len : Int)) ∧
            (derefK l0.a (fun i24 => fun i25 => fun h26 => 
            (storeK [] i24 (i25 + (IntKind.i64.wrap (n7 - 1)).toNat * 2) [Cell.int IntKind.i64 n18, Cell.int IntKind.i64 n19] (x6 (IntKind.i64.wrap (n7 - 1)))) h26)) h23)) h22)) h17)) h12)) h9)
            (x4 (IntKind.i64.wrap (n5 + 1))))
          (fun x27 => ifT (decide (n7 > n1))
            (fun h28 =>
            ((0 ≤ n7) ∧
            n7 < (↑l0.len : Int)) ∧
            (derefK l0.a (fun i29 => fun i30 => fun h31 =>
            ∃ n32 : Int, ∃ n33 : Int, (h31.read i29 (i30 + n7.toNat * 2) 2 = some [Cell.int IntKind.i64 n32, Cell.int IntKind.i64 n33]) ∧
            ((0 ≤ IntKind.i64.wrap (n7 - 1)) ∧
            IntKind.i64.wrap (n7 - 1) < (↑l0.len : Int)) ∧
            (derefK l0.a (fun i34 => fun i35 => fun h36 =>
            ∃ n37 : Int, ∃ n38 : Int, (h36.read i34 (i35 + (IntKind.i64.wrap (n7 - 1)).toNat * 2) 2 = some [Cell.int IntKind.i64 n37, Cell.int IntKind.i64 n38]) ∧
            (funK p3 (fun i39 => fun cs40 => fun h41 => 
            I i39 (V.agg [Cell.int IntKind.i64 n32, Cell.int IntKind.i64 n33] :: V.agg [Cell.int IntKind.i64 n37, Cell.int IntKind.i64 n38] :: cs40)
              (fun cs42 => fun h43 => 
              ∃ n44 : Int, (cs42 = [V.one (Cell.int IntKind.i64 n44)]) ∧
              x27 (decide (n44 < 0)) h43) h41)) h36)) h31)) h28)
            (x27 false))))
      (Q []))
theorem den241 (I : FuncId → List V → Post → T) (l0 : Sl) (n1 : Int) (n2 : Int) (p3 : Option (Nat × List (Nat × Nat))) (Q : Post) : denF Go.Proofs.Tryz.prog 0 (⟨[(3216, 34359476224, [(34, tk Go.Proofs.Tryz.prog 4)])], [(6, 9007199254737664, [(8, tk Go.Proofs.Tryz.prog 3)]), (402, 9007199254479360, [(9, tk Go.Proofs.Tryz.prog 3)])]⟩) I 241 [V.one (Cell.slice 2 l0), V.one (Cell.int IntKind.i64 n1), V.one (Cell.int IntKind.i64 n2), V.one (Cell.func p3)] Q = vc241 I l0 n1 n2 p3 Q := by kernel_rfl
/-- slices.symMergeCmpFunc[handbill/handref1.piece] -/
def vc242 (I : FuncId → List V → Post → T) (l0 : Sl) (n1 : Int) (n2 : Int) (n3 : Int) (p4 : Option (Nat × List (Nat × Nat))) (Q : Post) : T :=
  ifT (decide (IntKind.i64.wrap (n2 - n1) = 1))
    (loopK (A := Int × Int) ((n2, n3))
      (fun x5 => uncur fun n6 n7 => ifT (decide (n6 < n7))
        (fun h8 =>
        ((0 ≤ IntKind.i64.wrap (shr IntKind.u64 (IntKind.u64.wrap (IntKind.i64.wrap (n6 + n7))) 1)) ∧
        IntKind.i64.wrap (shr IntKind.u64 (IntKind.u64.wrap (IntKind.i64.wrap (n6 + n7))) 1) < (↑l0.len : Int)) ∧
        (derefK l0.a (fun i9 => fun i10 => fun h11 =>
        ∃ n12 : Int, ∃ n13 : Int, (h11.read i9 (i10 + (IntKind.i64.wrap (shr IntKind.u64 (IntKind.u64.wrap (IntKind.i64.wrap (n6 + n7))) 1)).toNat * 2) 2 = some [Cell.int IntKind.i64 n12, Cell.int IntKind.i64 n13]) ∧
        ((0 ≤ n1) ∧
        n1 < (↑l0.len : Int)) ∧
        (derefK l0.a (fun i14 => fun i15 => fun h16 =>
        ∃ n17 : Int, ∃ n18 : Int, (h16.read i14 (i15 + n1.toNat * 2) 2 = some [Cell.int IntKind.i64 n17, Cell.int IntKind.i64 n18]) ∧
        (funK p4 (fun i19 => fun cs20 => fun h21 => 
        I i19 (V.agg [Cell.int IntKind.i64 n12, Cell.int IntKind.i64 n13] :: V.agg [Cell.int IntKind.i64 n17, Cell.int IntKind.i64 n18] :: cs20)
          (fun cs22 => fun h23 => 
          ∃ n24 : Int, (cs22 = [V.one (Cell.int IntKind.i64 n24)]) ∧
          (ifT (decide (n24 < 0))
            (x5 ((IntKind.i64.wrap (IntKind.i64.wrap (shr IntKind.u64 (IntKind.u64.wrap (IntKind.i64.wrap (n6 + n7))) 1) + 1), n7)))
            (x5 ((n6, IntKind.i64.wrap (shr IntKind.u64 (IntKind.u64.wrap (IntKind.i64.wrap (n6 + n7))) 1))))) h23) h21)) h16)) h11)) h8)
        (loopK (A := Int) n1
          (fun x25 => fun n26 => ifT (decide (n26 < IntKind.i64.wrap (n6 - 1)))
            (fun h27 =>
            ((0 ≤ IntKind.i64.wrap (n26 + 1)) ∧
            IntKind.i64.wrap (n26 + 1) < (↑l0.len : Int)) ∧
            (derefK l0.a (fun i28 => fun i29 => fun h30 =>
            ∃ n31 : Int, ∃ n32 : Int, (h30.read i28 (i29 + (IntKind.i64.wrap (n26 + 1)).toNat * 2) 2 = some [Cell.int IntKind.i64 n31, Cell.int IntKind.i64 n32]) ∧
            ((0 ≤ n26) ∧
            n26 < (↑l0.len : Int)) ∧
            (derefK l0.a (fun i33 => fun i34 => fun h35 =>
            ∃ n36 : Int, ∃ n37 : Int, (h35.read i33 (i34 + n26.toNat * 2) 2 = some [Cell.int IntKind.i64 n36, Cell.int IntKind.i64 n37]) ∧
            ((0 ≤ n26) ∧
            n26 < (↑l0.len : Int)) ∧
            (derefK l0.a (fun i38 => fun i39 => fun h40 => 
            (storeK [] i38 (i39 + n26.toNat * 2) [Cell.int IntKind.i64 n31, Cell.int IntKind.i64 n32] (fun h41 =>
            ((0 ≤ IntKind.i64.wrap (n26 + 1)) ∧
            IntKind.i64.wrap (n26 + 1) < (↑l0.len : Int)) ∧
            (derefK l0.a (fun i42 => fun i43 => fun h44 => 
            (storeK [] i42 (i43 + (IntKind.i64.wrap (n26 + 1)).toNat * 2) [Cell.int IntKind.i64 n36, Cell.int IntKind.i64 n37] (x25 (IntKind.i64.wrap (n26 + 1)))) h44)) h41)) h40)) h35)) h30)) h27)
            (Q [])))))
    (ifT (decide (IntKind.i64.wrap (n3 - n2) = 1))
      (loopK (A := Int × Int) ((n1, n2))
        (fun x45 => uncur fun n46 n47 => ifT (decide (n46 < n47))
          (fun h48 =>
          ((0 ≤ n2) ∧
          n2 < (↑l0.len : Int)) ∧
          (derefK l0.a (fun i49 => fun i50 => fun h51 =>
          ∃ n52 : Int, ∃ n53 : Int, (h51.read i49 (i50 + n2.toNat * 2) 2 = some [Cell.int IntKind.i64 n52, Cell.int IntKind.i64 n53]) ∧
          ((0 ≤ IntKind.i64.wrap (shr IntKind.u64 (IntKind.u64.wrap (IntKind.i64.wrap (n46 + n47))) 1)) ∧
          IntKind.i64.wrap (shr IntKind.u64 (IntKind.u64.wrap (IntKind.i64.wrap (n46 + n47))) 1) < (↑l0.len : Int)) ∧
          (derefK l0.a (fun i54 => fun i55 => fun h56 =>
          ∃ n57 : Int, ∃ n58 : Int, (h56.read i54 (i55 + (IntKind.i64.wrap (shr IntKind.u64 (IntKind.u64.wrap (IntKind.i64.wrap (n46 + n47))) 1)).toNat * 2) 2 = some [Cell.int IntKind.i64 n57, Cell.int IntKind.i64 n58]) ∧
          (funK p4 (fun i59 => fun cs60 => fun h61 => 
          I i59 (V.agg [Cell.int IntKind.i64 n52, Cell.int IntKind.i64 n53] :: V.agg [Cell.int IntKind.i64 n57, Cell.int IntKind.i64 n58] :: cs60)
            (fun cs62 => fun h63 => 
            ∃ n64 : Int, (cs62 = [V.one (Cell.int IntKind.i64 n64)]) ∧
            (ifT (!decide (n64 < 0))
              (x45 ((IntKind.i64.wrap (IntKind.i64.wrap (shr IntKind.u64 (IntKind.u64.wrap (IntKind.i64.wrap (n46 + n47))) 1) + 1), n47)))
              (x45 ((n46, IntKind.i64.wrap (shr IntKind.u64 (IntKind.u64.wrap (IntKind.i64.wrap (n46 + n47))) 1))))) h63) h61)) h56)) h51)) h48)
          (loopK (A := Int) n2
            (fun x65 => fun n66 => ifT (decide (n66 > n46))
              (fun h67 =>
              ((0 ≤ IntKind.i64.wrap (n66 - 1)) ∧
              IntKind.i64.wrap (n66 - 1) < (↑l0.len : Int)) ∧
              (derefK l0.a (fun i68 => fun i69 => fun h70 =>
              ∃ n71 : Int, ∃ n72 : Int, (h70.read i68 (i69 + (IntKind.i64.wrap (n66 - 1)).toNat * 2) 2 = some [Cell.int IntKind.i64 n71, Cell.int IntKind.i64 n72]) ∧
              ((0 ≤ n66) ∧
              n66 < (↑l0.len : Int)) ∧
              (derefK l0.a (fun i73 => fun i74 => fun h75 =>
              ∃ n76 : Int, ∃ n77 : Int, (h75.read i73 (i74 + n66.toNat * 2) 2 = some [Cell.int IntKind.i64 n76, Cell.int IntKind.i64 n77]) ∧
              ((0 ≤ n66) ∧
              n66 < (↑l0.len : Int)) ∧
              (derefK l0.a (fun i78 => fun i79 => fun h80 => 
              (storeK [] i78 (i79 + n66.toNat * 2) [Cell.int IntKind.i64 n71, Cell.int IntKind.i64 n72] (fun h81 =>
              ((0 ≤ IntKind.i64.wrap (n66 - 1)) ∧
              IntKind.i64.wrap (n66 - 1) < (↑l0.len : Int)) ∧
              (derefK l0.a (fun i82 => fun i83 => fun h84 => 
              (storeK [] i82 (i83 + (IntKind.i64.wrap (n66 - 1)).toNat * 2) [Cell.int IntKind.i64 n76, Cell.int IntKind.i64 n77] (x65 (IntKind.i64.wrap (n66 - 1)))) h84)) h81)) h80)) h75)) h70)) h67)
              (Q [])))))
      (joinK (A := Int × Int)
        (uncur fun n85 n86 => loopK (A := Int × Int) ((n85, n86))
          (fun x87 => uncur fun n88 n89 => ifT (decide (n88 < n89))
            (fun h90 =>
            ((0 ≤ IntKind.i64.wrap (IntKind.i64.wrap (IntKind.i64.wrap (IntKind.i64.wrap (shr IntKind.u64 (IntKind.u64.wrap (IntKind.i64.wrap (n1 + n3))) 1) + n2) - 1) - IntKind.i64.wrap (shr IntKind.u64 (IntKind.u64.wrap (IntKind.i64.wrap (n88 + n89))) 1))) ∧
            IntKind.i64.wrap (IntKind.i64.wrap (IntKind.i64.wrap (IntKind.i64.wrap (shr IntKind.u64 (IntKind.u64.wrap (IntKind.i64.wrap (n1 + n3))) 1) + n2) - 1) - IntKind.i64.wrap (shr IntKind.u64 (IntKind.u64.wrap (IntKind.i64.wrap (n88 + n89))) 1)) < (↑l0.len : Int)) ∧
            (derefK l0.a (fun i91 => fun i92 => fun h93 =>
            ∃ n94 : Int, ∃ n95 : Int, (h93.read i91 (i92 + (IntKind.i64.wrap (IntKind.i64.wrap (IntKind.i64.wrap (IntKind.i64.wrap (shr IntKind.u64 (IntKind.u64.wrap (IntKind.i64.wrap (n1 + n3))) 1) + n2) - 1) - IntKind.i64.wrap (shr IntKind.u64 (IntKind.u64.wrap (IntKind.i64.wrap (n88 + n89))) 1))).toNat * 2) 2 = some [Cell.int IntKind.i64 n94, Cell.int IntKind.i64 n95]) ∧
            ((0 ≤ IntKind.i64.wrap (shr IntKind.u64 (IntKind.u64.wrap (IntKind.i64.wrap (n88 + n89))) 1)) ∧
            IntKind.i64.wrap (shr IntKind.u64 (IntKind.u64.wrap (IntKind.i64.wrap (n88 + n89))) 1) < (↑l0.len : Int)) ∧
            (derefK l0.a (fun i96 => fun i97 => fun h98 =>
            ∃ n99 : Int, ∃ n100 : Int, (h98.read i96 (i97 + (IntKind.i64.wrap (shr IntKind.u64 (IntKind.u64.wrap (IntKind.i64.wrap (n88 + n89))) 1)).toNat * 2) 2 = some [Cell.int IntKind.i64 n99, Cell.int IntKind.i64 n100]) ∧
            (funK p4 (fun i101 => fun cs102 => fun h103 => 
            I i101 (V.agg [Cell.int IntKind.i64 n94, Cell.int IntKind.i64 n95] :: V.agg [Cell.int IntKind.i64 n99, Cell.int IntKind.i64 n100] :: cs102)
              (fun cs104 => fun h105 => 
              ∃ n106 : Int, (cs104 = [V.one (Cell.int IntKind.i64 n106)]) ∧
              (ifT (!decide (n106 < 0))
                (x87 ((IntKind.i64.wrap (IntKind.i64.wrap (shr IntKind.u64 (IntKind.u64.wrap (IntKind.i64.wrap (n88 + n89))) 1) + 1), n89)))
                (x87 ((n88, IntKind.i64.wrap (shr IntKind.u64 (IntKind.u64.wrap (IntKind.i64.wrap (n88 + n89))) 1))))) h105) h103)) h98)) h93)) h90)
            (joinK (A := Bool)
              (fun b107 => joinK (A := PUnit)
                (fun x108 => joinK (A := Bool)
                  (fun b109 => joinK (A := PUnit)
                    (fun x110 => ifT (decide (IntKind.i64.wrap (shr IntKind.u64 (IntKind.u64.wrap (IntKind.i64.wrap (n1 + n3))) 1) < IntKind.i64.wrap (IntKind.i64.wrap (IntKind.i64.wrap (shr IntKind.u64 (IntKind.u64.wrap (IntKind.i64.wrap (n1 + n3))) 1) + n2) - n88)))
                      (ifT (decide (IntKind.i64.wrap (IntKind.i64.wrap (IntKind.i64.wrap (shr IntKind.u64 (IntKind.u64.wrap (IntKind.i64.wrap (n1 + n3))) 1) + n2) - n88) < n3))
                        (fun h111 =>
                        I 242 [V.one (Cell.slice 2 l0), V.one (Cell.int IntKind.i64 (IntKind.i64.wrap (shr IntKind.u64 (IntKind.u64.wrap (IntKind.i64.wrap (n1 + n3))) 1))), V.one (Cell.int IntKind.i64 (IntKind.i64.wrap (IntKind.i64.wrap (IntKind.i64.wrap (shr IntKind.u64 (IntKind.u64.wrap (IntKind.i64.wrap (n1 + n3))) 1) + n2) - n88))), V.one (Cell.int IntKind.i64 n3), V.one (Cell.func p4)]
                          (fun cs112 => fun h113 => 
                          (cs112 = []) ∧
                          Q [] h113) h111)
                        (Q []))
                      (Q []))
                    (fun x114 => ifT b109
                      (fun h115 =>
                      I 242 [V.one (Cell.slice 2 l0), V.one (Cell.int IntKind.i64 n1), V.one (Cell.int IntKind.i64 n88), V.one (Cell.int IntKind.i64 (IntKind.i64.wrap (shr IntKind.u64 (IntKind.u64.wrap (IntKind.i64.wrap (n1 + n3))) 1))), V.one (Cell.func p4)]
                        (fun cs116 => fun h117 => 
                        (cs116 = []) ∧
                        x114 () h117) h115)
                      (x114 ())))
                  (fun x118 => ifT (decide (n1 < n88))
                    (x118 (decide (n88 < IntKind.i64.wrap (shr IntKind.u64 (IntKind.u64.wrap (IntKind.i64.wrap (n1 + n3))) 1))))
                    (x118 false)))
                (fun x119 => ifT b107
                  (fun h120 =>
                  I 269 [V.one (Cell.slice 2 l0), V.one (Cell.int IntKind.i64 n88), V.one (Cell.int IntKind.i64 n2), V.one (Cell.int IntKind.i64 (IntKind.i64.wrap (IntKind.i64.wrap (IntKind.i64.wrap (shr IntKind.u64 (IntKind.u64.wrap (IntKind.i64.wrap (n1 + n3))) 1) + n2) - n88))), V.one (Cell.func p4)]
                    (fun cs121 => fun h122 => 
                    (cs121 = []) ∧
                    x119 () h122) h120)
                  (x119 ())))
              (fun x123 => ifT (decide (n88 < n2))
                (x123 (decide (n2 < IntKind.i64.wrap (IntKind.i64.wrap (IntKind.i64.wrap (shr IntKind.u64 (IntKind.u64.wrap (IntKind.i64.wrap (n1 + n3))) 1) + n2) - n88))))
                (x123 false)))))
        (fun x124 => ifT (decide (n2 > IntKind.i64.wrap (shr IntKind.u64 (IntKind.u64.wrap (IntKind.i64.wrap (n1 + n3))) 1)))
          (x124 ((IntKind.i64.wrap (IntKind.i64.wrap (IntKind.i64.wrap (shr IntKind.u64 (IntKind.u64.wrap (IntKind.i64.wrap (n1 + n3))) 1) + n2) - n3), IntKind.i64.wrap (shr IntKind.u64 (IntKind.u64.wrap (IntKind.i64.wrap (n1 + n3))) 1))))
          (x124 ((n1, n2))))))
theorem den242 (I : FuncId → List V → Post → T) (l0 : Sl) (n1 : Int) (n2 : Int) (n3 : Int) (p4 : Option (Nat × List (Nat × Nat))) (Q : Post) : denF Go.Proofs.Tryz.prog 0 (⟨[(253, 175618368438428657239593781397105846862741504, [(20, tk Go.Proofs.Tryz.prog 3), (21, tk Go.Proofs.Tryz.prog 3)]), (4092, 97696590730200414720344622980832210455694619039204638720, [(185, tk Go.Proofs.Tryz.prog 4)]), (4093, 6179022020771263876900855213470046628350756140644283973632, []), (8188, 1600660942523603594778126302917954936106100638338328800788480, [(199, tk Go.Proofs.Tryz.prog 4)]), (8189, 101237096788316387359143611817493243958898788608315948623986688, [])], [(172, 18014396362005504, [(10, tk Go.Proofs.Tryz.prog 3), (11, tk Go.Proofs.Tryz.prog 3)]), (428, 162259267157806806474544612753408, [(14, tk Go.Proofs.Tryz.prog 3), (15, tk Go.Proofs.Tryz.prog 3)]), (698, 151115691423031627882496, [(13, tk Go.Proofs.Tryz.prog 3)]), (1020, 47890484938435180470718404069304177263338029388398592, [(20, tk Go.Proofs.Tryz.prog 3), (21, tk Go.Proofs.Tryz.prog 3)]), (1722, 680564409323323268500022431707515977728, [(17, tk Go.Proofs.Tryz.prog 3)])]⟩) I 242 [V.one (Cell.slice 2 l0), V.one (Cell.int IntKind.i64 n1), V.one (Cell.int IntKind.i64 n2), V.one (Cell.int IntKind.i64 n3), V.one (Cell.func p4)] Q = vc242 I l0 n1 n2 n3 p4 Q := by kernel_rfl
/-- slices.rotateCmpFunc[handbill/handref1.piece] -/
def vc269 (I : FuncId → List V → Post → T) (l0 : Sl) (n1 : Int) (n2 : Int) (n3 : Int) (p4 : Option (Nat × List (Nat × Nat))) (Q : Post) : T :=
  loopK (A := Int × Int) ((IntKind.i64.wrap (n2 - n1), IntKind.i64.wrap (n3 - n2)))
    (fun x5 => uncur fun n6 n7 => ifT (!decide (n6 = n7))
      (ifT (decide (n6 > n7))
        (fun h8 =>
        I 280 [V.one (Cell.slice 2 l0), V.one (Cell.int IntKind.i64 (IntKind.i64.wrap (n2 - n6))), V.one (Cell.int IntKind.i64 n2), V.one (Cell.int IntKind.i64 n7), V.one (Cell.func p4)]
          (fun cs9 => fun h10 => 
          (cs9 = []) ∧
          x5 ((IntKind.i64.wrap (n6 - n7), n7)) h10) h8)
        (fun h11 =>
        I 280 [V.one (Cell.slice 2 l0), V.one (Cell.int IntKind.i64 (IntKind.i64.wrap (n2 - n6))), V.one (Cell.int IntKind.i64 (IntKind.i64.wrap (IntKind.i64.wrap (n2 + n7) - n6))), V.one (Cell.int IntKind.i64 n6), V.one (Cell.func p4)]
          (fun cs12 => fun h13 => 
          (cs12 = []) ∧
          x5 ((n6, IntKind.i64.wrap (n7 - n6))) h13) h11))
      (fun h14 =>
      I 280 [V.one (Cell.slice 2 l0), V.one (Cell.int IntKind.i64 (IntKind.i64.wrap (n2 - n6))), V.one (Cell.int IntKind.i64 n2), V.one (Cell.int IntKind.i64 n6), V.one (Cell.func p4)]
        (fun cs15 => fun h16 => 
        (cs15 = []) ∧
        Q [] h16) h14))
theorem den269 (I : FuncId → List V → Post → T) (l0 : Sl) (n1 : Int) (n2 : Int) (n3 : Int) (p4 : Option (Nat × List (Nat × Nat))) (Q : Post) : denF Go.Proofs.Tryz.prog 0 (⟨[], [(28, 1125899906583552, [(10, tk Go.Proofs.Tryz.prog 3), (11, tk Go.Proofs.Tryz.prog 3)])]⟩) I 269 [V.one (Cell.slice 2 l0), V.one (Cell.int IntKind.i64 n1), V.one (Cell.int IntKind.i64 n2), V.one (Cell.int IntKind.i64 n3), V.one (Cell.func p4)] Q = vc269 I l0 n1 n2 n3 p4 Q := by kernel_rfl
/-- slices.swapRangeCmpFunc[handbill/handref1.piece] -/
def vc280 (I : FuncId → List V → Post → T) (l0 : Sl) (n1 : Int) (n2 : Int) (n3 : Int) (p4 : Option (Nat × List (Nat × Nat))) (Q : Post) : T :=
  loopK (A := Int) 0
    (fun x5 => fun n6 => ifT (decide (n6 < n3))
      (fun h7 =>
      ((0 ≤ IntKind.i64.wrap (n2 + n6)) ∧
      IntKind.i64.wrap (n2 + n6) < (↑l0.len : Int)) ∧
      (derefK l0.a (fun i8 => fun i9 => fun h10 =>
      ∃ n11 : Int, ∃ n12 : Int, (h10.read i8 (i9 + (IntKind.i64.wrap (n2 + n6)).toNat * 2) 2 = some [Cell.int IntKind.i64 n11, Cell.int IntKind.i64 n12]) ∧
      ((0 ≤ IntKind.i64.wrap (n1 + n6)) ∧
      IntKind.i64.wrap (n1 + n6) < (↑l0.len : Int)) ∧
      (derefK l0.a (fun i13 => fun i14 => fun h15 =>
      ∃ n16 : Int, ∃ n17 : Int, (h15.read i13 (i14 + (IntKind.i64.wrap (n1 + n6)).toNat * 2) 2 = some [Cell.int IntKind.i64 n16, Cell.int IntKind.i64 n17]) ∧
      ((0 ≤ IntKind.i64.wrap (n1 + n6)) ∧
      IntKind.i64.wrap (n1 + n6) < (↑l0.len : Int)) ∧
      (derefK l0.a (fun i18 => fun i19 => fun h20 => 
      (storeK [] i18 (i19 + (IntKind.i64.wrap (n1 + n6)).toNat * 2) [Cell.int IntKind.i64 n11, Cell.int IntKind.i64 n12] (fun h21 =>
      ((0 ≤ IntKind.i64.wrap (n2 + n6)) ∧
      IntKind.i64.wrap (n2 + n6) < (↑l0.len : Int)) ∧
      (derefK l0.a (fun i22 => fun i23 => fun h24 => 
      (storeK [] i22 (i23 + (IntKind.i64.wrap (n2 + n6)).toNat * 2) [Cell.int IntKind.i64 n16, Cell.int IntKind.i64 n17] (x5 (IntKind.i64.wrap (n6 + 1)))) h24)) h21)) h20)) h15)) h10)) h7)
      (Q []))
theorem den280 (I : FuncId → List V → Post → T) (l0 : Sl) (n1 : Int) (n2 : Int) (n3 : Int) (p4 : Option (Nat × List (Nat × Nat))) (Q : Post) : denF Go.Proofs.Tryz.prog 0 (⟨[], [(6, 274877905920, [(10, tk Go.Proofs.Tryz.prog 3)])]⟩) I 280 [V.one (Cell.slice 2 l0), V.one (Cell.int IntKind.i64 n1), V.one (Cell.int IntKind.i64 n2), V.one (Cell.int IntKind.i64 n3), V.one (Cell.func p4)] Q = vc280 I l0 n1 n2 n3 p4 Q := by kernel_rfl
/-- handbill/handref1.freed$1 -/
def vc170 (I : FuncId → List V → Post → T) (n0 : Int) (n1 : Int) (n2 : Int) (n3 : Int) (Q : Post) : T :=
  fun h4 =>
  I 62 [V.one (Cell.int IntKind.i64 n3), V.one (Cell.int IntKind.i64 n1)]
    (fun cs5 => fun h6 => 
    ∃ n7 : Int, (cs5 = [V.one (Cell.int IntKind.i64 n7)]) ∧
    Q [V.one (Cell.int IntKind.i64 n7)] h6) h4
theorem den170 (I : FuncId → List V → Post → T) (n0 : Int) (n1 : Int) (n2 : Int) (n3 : Int) (Q : Post) : denF Go.Proofs.Tryz.prog 12 (⟨[], []⟩) I 170 [V.agg [Cell.int IntKind.i64 n0, Cell.int IntKind.i64 n1], V.agg [Cell.int IntKind.i64 n2, Cell.int IntKind.i64 n3]] Q = vc170 I n0 n1 n2 n3 Q := by kernel_rfl
/-- handbill/handlaw1.offers -/
def vc18 (I : FuncId → List V → Post → T) (Q : Post) : T :=
  fun h0 =>
  I 66 [V.one (Cell.str { data := #[49, 50, 51] })]
    (fun cs1 => fun h2 => 
    ∃ s3 : ByteArray, ∃ n4 : Int, (cs1 = [V.one (Cell.str s3), V.one (Cell.int IntKind.i64 n4)]) ∧
    (ifT (decide (n4 = 0))
      (Q [V.one (Cell.bool (decide (s3 = { data := #[49, 50, 51, 67] })))])
      (Q [V.one (Cell.bool false)])) h2) h0
theorem den18 (I : FuncId → List V → Post → T) (Q : Post) : denF Go.Proofs.Tryz.prog 0 (⟨[], []⟩) I 18 [] Q = vc18 I Q := by kernel_rfl
/-- handbill/offer.Seal -/
def vc66 (I : FuncId → List V → Post → T) (s0 : ByteArray) (Q : Post) : T :=
  fun h1 =>
  I 123 [V.one (Cell.int IntKind.i64 (↑s0.size : Int)), V.one (Cell.int IntKind.i64 3), V.one (Cell.int IntKind.i64 23)]
    (fun cs2 => fun h3 => 
    ∃ b4 : Bool, (cs2 = [V.one (Cell.bool b4)]) ∧
    (ifT (!b4)
      (Q [V.one (Cell.str { data := #[] }), V.one (Cell.int IntKind.i64 2)])
      (fun h5 =>
      I 124 [V.one (Cell.str s0)]
        (fun cs6 => fun h7 => 
        ∃ b8 : Bool, (cs6 = [V.one (Cell.bool b8)]) ∧
        (ifT (!b8)
          (Q [V.one (Cell.str { data := #[] }), V.one (Cell.int IntKind.i64 3)])
          (fun h9 =>
          I 125 [V.one (Cell.str s0)]
            (fun cs10 => fun h11 => 
            ∃ s12 : ByteArray, (cs10 = [V.one (Cell.str s12)]) ∧
            Q [V.one (Cell.str s12), V.one (Cell.int IntKind.i64 0)] h11) h9)) h7) h5)) h3) h1
theorem den66 (I : FuncId → List V → Post → T) (s0 : ByteArray) (Q : Post) : denF Go.Proofs.Tryz.prog 0 (⟨[], []⟩) I 66 [V.one (Cell.str s0)] Q = vc66 I s0 Q := by kernel_rfl
/-- handbill/offer.areSigns (by hand) -/
def vc124 (I : FuncId → List V → Post → T) (s0 : ByteArray) (Q : Post) : T :=
  loopK (A := Int) 0
    (fun x1 => fun n2 => ifT (decide (n2 < (↑s0.size : Int)))
      (fun h3 =>
      ((0 ≤ n2) ∧
      n2 < (↑s0.size : Int)) ∧
      I 171 [V.one (Cell.str signS), V.one (Cell.int IntKind.u8 (byteAt s0 n2))]
        (fun cs4 => fun h5 => 
        ∃ n6 : Int, (cs4 = [V.one (Cell.int IntKind.i64 n6)]) ∧
        (ifT (decide (n6 < 0))
          (Q [V.one (Cell.bool false)])
          (x1 (IntKind.i64.wrap (n2 + 1)))) h5) h3)
      (Q [V.one (Cell.bool true)]))
theorem den124 (I : FuncId → List V → Post → T) (s0 : ByteArray) (Q : Post) : denF Go.Proofs.Tryz.prog 0 (⟨[], [(26, 32716, [(6, tk Go.Proofs.Tryz.prog 3)])]⟩) I 124 [V.one (Cell.str s0)] Q = vc124 I s0 Q := by kernel_rfl
/-- handbill/offer.seal (by hand) -/
def vc125 (I : FuncId → List V → Post → T) (s0 : ByteArray) (Q : Post) : T :=
  loopK (A := Int) 0
    (fun x1 => fun n2 => ifT (decide (n2 < 31))
      (fun h3 =>
      ((0 ≤ n2) ∧
      (n2 ≤ IntKind.i64.wrap (n2 + 1)) ∧
      IntKind.i64.wrap (n2 + 1) ≤ (↑31 : Int)) ∧
      (s0.size + (signS.extract n2.toNat (IntKind.i64.wrap (n2 + 1)).toNat).size ≤ 9223372036854775807) ∧
      I 172 [V.one (Cell.str (s0 ++ signS.extract n2.toNat (IntKind.i64.wrap (n2 + 1)).toNat))]
        (fun cs4 => fun h5 => 
        ∃ n6 : Int, (cs4 = [V.one (Cell.int IntKind.i64 n6)]) ∧
        (ifT (decide (n6 = 0))
          (Q [V.one (Cell.str (s0 ++ signS.extract n2.toNat (IntKind.i64.wrap (n2 + 1)).toNat))])
          (x1 (IntKind.i64.wrap (n2 + 1)))) h5) h3)
      (Q [V.one (Cell.str s0)]))
theorem den125 (I : FuncId → List V → Post → T) (s0 : ByteArray) (Q : Post) : denF Go.Proofs.Tryz.prog 0 (⟨[], [(26, 524284, [(5, tk Go.Proofs.Tryz.prog 3)])]⟩) I 125 [V.one (Cell.str s0)] Q = vc125 I s0 Q := by kernel_rfl
/-- handbill/offer.sum (by hand) -/
def vc172 (I : FuncId → List V → Post → T) (s0 : ByteArray) (Q : Post) : T :=
  loopK (A := Int × Int) ((0, 0))
    (fun x1 => uncur fun n2 n3 => ifT (decide (n3 < (↑s0.size : Int)))
      (fun h4 =>
      ((0 ≤ n3) ∧
      n3 < (↑s0.size : Int)) ∧
      I 171 [V.one (Cell.str signS), V.one (Cell.int IntKind.u8 (byteAt s0 n3))]
        (fun cs5 => fun h6 => 
        ∃ n7 : Int, (cs5 = [V.one (Cell.int IntKind.i64 n7)]) ∧
        x1 ((IntKind.i64.wrap (n2 + IntKind.i64.wrap (IntKind.i64.wrap (n3 + 1) * n7)), IntKind.i64.wrap (n3 + 1))) h6) h4)
      (Q [V.one (Cell.int IntKind.i64 (n2.tmod 31))]))
theorem den172 (I : FuncId → List V → Post → T) (s0 : ByteArray) (Q : Post) : denF Go.Proofs.Tryz.prog 0 (⟨[], [(58, 1048472, [(3, tk Go.Proofs.Tryz.prog 3), (7, tk Go.Proofs.Tryz.prog 3)])]⟩) I 172 [V.one (Cell.str s0)] Q = vc172 I s0 Q := by kernel_rfl
/-- handbill/handref1.SamePriced -/
def vc19 (I : FuncId → List V → Post → T) (l0 : Sl) (n1 : Int) (l2 : Sl) (n3 : Int) (l4 : Sl) (n5 : Int) (l6 : Sl) (n7 : Int) (Q : Post) : T :=
  fun h8 =>
  I 23 [V.one (Cell.slice 1 l0), V.one (Cell.slice 1 l4)]
    (fun cs9 => fun h10 => 
    ∃ b11 : Bool, (cs9 = [V.one (Cell.bool b11)]) ∧
    (ifT b11
      (ifT (decide (n1 = n5))
        (fun h12 =>
        I 67 [V.one (Cell.slice 2 l2), V.one (Cell.slice 2 l6)]
          (fun cs13 => fun h14 => 
          ∃ b15 : Bool, (cs13 = [V.one (Cell.bool b15)]) ∧
          (ifT b15
            (Q [V.one (Cell.bool (decide (n3 = n7)))])
            (Q [V.one (Cell.bool false)])) h14) h12)
        (Q [V.one (Cell.bool false)]))
      (Q [V.one (Cell.bool false)])) h10) h8
theorem den19 (I : FuncId → List V → Post → T) (l0 : Sl) (n1 : Int) (l2 : Sl) (n3 : Int) (l4 : Sl) (n5 : Int) (l6 : Sl) (n7 : Int) (Q : Post) : denF Go.Proofs.Tryz.prog 12 (⟨[], []⟩) I 19 [V.agg [Cell.slice 1 l0, Cell.int IntKind.i64 n1, Cell.slice 2 l2, Cell.int IntKind.i64 n3], V.agg [Cell.slice 1 l4, Cell.int IntKind.i64 n5, Cell.slice 2 l6, Cell.int IntKind.i64 n7]] Q = vc19 I l0 n1 l2 n3 l4 n5 l6 n7 Q := by kernel_rfl
/-- slices.Equal[[]int,int] -/
def vc23 (I : FuncId → List V → Post → T) (l0 : Sl) (l1 : Sl) (Q : Post) : T :=
  ifT (!decide ((↑l0.len : Int) = (↑l1.len : Int)))
    (Q [V.one (Cell.bool false)])
    (loopK (A := Int) 0
      (fun x2 => fun n3 => ifT (decide (n3 < (↑l0.len : Int)))
        (fun h4 =>
        ((0 ≤ n3) ∧
        n3 < (↑l0.len : Int)) ∧
        (derefK l0.a (fun i5 => fun i6 => fun h7 =>
        ∃ n8 : Int, (h7.read i5 (i6 + n3.toNat * 1) 1 = some [Cell.int IntKind.i64 n8]) ∧
        ((0 ≤ n3) ∧
        n3 < (↑l1.len : Int)) ∧
        (derefK l1.a (fun i9 => fun i10 => fun h11 =>
        ∃ n12 : Int, (h11.read i9 (i10 + n3.toNat * 1) 1 = some [Cell.int IntKind.i64 n12]) ∧
        (ifT (!decide (n8 = n12))
          (Q [V.one (Cell.bool false)])
          (x2 (IntKind.i64.wrap (n3 + 1)))) h11)) h7)) h4)
        (Q [V.one (Cell.bool true)])))
theorem den23 (I : FuncId → List V → Post → T) (l0 : Sl) (l1 : Sl) (Q : Post) : denF Go.Proofs.Tryz.prog 0 (⟨[], [(58, 67100720, [(13, tk Go.Proofs.Tryz.prog 3)])]⟩) I 23 [V.one (Cell.slice 1 l0), V.one (Cell.slice 1 l1)] Q = vc23 I l0 l1 Q := by kernel_rfl
/-- slices.Equal[[]handbill/api.Taken,handbill/api.Taken] -/
def vc67 (I : FuncId → List V → Post → T) (l0 : Sl) (l1 : Sl) (Q : Post) : T :=
  ifT (!decide ((↑l0.len : Int) = (↑l1.len : Int)))
    (Q [V.one (Cell.bool false)])
    (loopK (A := Int) 0
      (fun x2 => fun n3 => ifT (decide (n3 < (↑l0.len : Int)))
        (fun h4 =>
        ((0 ≤ n3) ∧
        n3 < (↑l0.len : Int)) ∧
        (derefK l0.a (fun i5 => fun i6 => fun h7 =>
        ∃ s8 : ByteArray, ∃ n9 : Int, (h7.read i5 (i6 + n3.toNat * 2) 2 = some [Cell.str s8, Cell.int IntKind.i64 n9]) ∧
        ((0 ≤ n3) ∧
        n3 < (↑l1.len : Int)) ∧
        (derefK l1.a (fun i10 => fun i11 => fun h12 =>
        ∃ s13 : ByteArray, ∃ n14 : Int, (h12.read i10 (i11 + n3.toNat * 2) 2 = some [Cell.str s13, Cell.int IntKind.i64 n14]) ∧
        (ifT (!(decide (s8 = s13) && decide (n9 = n14)))
          (Q [V.one (Cell.bool false)])
          (x2 (IntKind.i64.wrap (n3 + 1)))) h12)) h7)) h4)
        (Q [V.one (Cell.bool true)])))
theorem den67 (I : FuncId → List V → Post → T) (l0 : Sl) (l1 : Sl) (Q : Post) : denF Go.Proofs.Tryz.prog 0 (⟨[], [(58, 67100720, [(13, tk Go.Proofs.Tryz.prog 3)])]⟩) I 67 [V.one (Cell.slice 2 l0), V.one (Cell.slice 2 l1)] Q = vc67 I l0 l1 Q := by kernel_rfl
end Go.Proofs.YtfemminjhecocaaGreatDoorVc
