/- ActsCounted -/
import Derived.Test.YtmjfeabnioclgaaGreatDoorVcOwns
import Derived.Test.YtmjfeabnioclgaaGreatDoorVcBits
import Derived.Test.YtmjfeabnioclgaaGreatDoorVcRows4
import Derived.Test.YtmjfeabnioclgaaGreatDoorVcStrB
import Derived.Test.YtmjfeabnioclgaaGreatDoorProg
set_option linter.unusedVariables false
set_option maxRecDepth 100000
namespace Go.Proofs.YtmjfeabnioclgaaGreatDoorVc
/-- handbill/handlaw1.ActsCounted -/
def vc3 (I : FuncId → List V → Post → T) (l0 : Sl) (Q : Post) : T :=
  fun h1 =>
  (newK (.cells false [Cell.slice 1 l0, Cell.int IntKind.i64 0]) (fun i2 => fun h3 => 
  I 4 [V.one (Cell.ptr (some (i2, 0))), V.one (Cell.int IntKind.i64 8)]
    (fun cs4 => fun h5 => 
    ∃ l6 : Sl, (cs4 = [V.one (Cell.slice 4 l6)]) ∧
    I 5 [V.one (Cell.ptr (some (i2, 0))), V.one (Cell.slice 4 l6)]
      (fun cs7 => fun h8 => 
      ∃ l9 : Sl, (cs7 = [V.one (Cell.slice 3 l9)]) ∧
      (newK (.cells false [Cell.int IntKind.i64 0, Cell.int IntKind.i64 1, Cell.int IntKind.i64 60, Cell.int IntKind.i64 1000, Cell.int IntKind.i64 (-1), Cell.int IntKind.i64 4321441]) (fun i10 => fun h11 =>
      I 6 [V.one (Cell.ptr (some (i2, 0))), V.one (Cell.slice 1 { a := some (i10, 0), len := 6 })]
        (fun cs12 => fun h13 => 
        ∃ n14 : Int, (cs12 = [V.one (Cell.int IntKind.i64 n14)]) ∧
        I 7 [V.one (Cell.slice 4 l6), V.one (Cell.slice 3 l9), V.one (Cell.int IntKind.i64 n14)]
          (fun cs15 => fun h16 => 
          ∃ l17 : Sl, ∃ n18 : Int, (cs15 = [V.one (Cell.slice 6 l17), V.one (Cell.int IntKind.i64 n18)]) ∧
          I 8 [V.one (Cell.slice 4 l6), V.one (Cell.slice 3 l9), V.one (Cell.int IntKind.i64 n14)]
            (fun cs19 => fun h20 => 
            ∃ l21 : Sl, ∃ n22 : Int, (cs19 = [V.one (Cell.slice 6 l21), V.one (Cell.int IntKind.i64 n22)]) ∧
            (joinK (A := Bool)
              (fun b23 => ifT b23
                (Q [V.one (Cell.bool false)])
                (fun h24 =>
                (newK (.cells false [Cell.int IntKind.i64 1, Cell.int IntKind.i64 10, Cell.int IntKind.i64 100, Cell.int IntKind.i64 1000, Cell.int IntKind.i64 0]) (fun i25 => fun h26 =>
                I 6 [V.one (Cell.ptr (some (i2, 0))), V.one (Cell.slice 1 { a := some (i25, 0), len := 5 })]
                  (fun cs27 => fun h28 => 
                  ∃ n29 : Int, (cs27 = [V.one (Cell.int IntKind.i64 n29)]) ∧
                  (newK (.cells false [Cell.int IntKind.i64 1, Cell.int IntKind.i64 3, Cell.int IntKind.i64 10, Cell.int IntKind.i64 60, Cell.int IntKind.i64 0, Cell.int IntKind.i64 61]) (fun i30 => fun h31 =>
                  I 6 [V.one (Cell.ptr (some (i2, 0))), V.one (Cell.slice 1 { a := some (i30, 0), len := 6 })]
                    (fun cs32 => fun h33 => 
                    ∃ n34 : Int, (cs32 = [V.one (Cell.int IntKind.i64 n34)]) ∧
                    I 10 [V.one (Cell.slice 3 l9), V.one (Cell.int IntKind.i64 n29), V.one (Cell.int IntKind.i64 n34)]
                      (fun cs35 => fun h36 => 
                      ∃ l37 : Sl, ∃ n38 : Int, (cs35 = [V.one (Cell.slice 1 l37), V.one (Cell.int IntKind.i64 n38)]) ∧
                      I 11 [V.one (Cell.slice 3 l9), V.one (Cell.int IntKind.i64 n29), V.one (Cell.int IntKind.i64 n34)]
                        (fun cs39 => fun h40 => 
                        ∃ l41 : Sl, ∃ n42 : Int, (cs39 = [V.one (Cell.slice 1 l41), V.one (Cell.int IntKind.i64 n42)]) ∧
                        (joinK (A := Bool)
                          (fun b43 => ifT b43
                            (Q [V.one (Cell.bool false)])
                            (fun h44 =>
                            I 14 [V.one (Cell.ptr (some (i2, 0))), V.one (Cell.int IntKind.i64 0), V.one (Cell.int IntKind.i64 5)]
                              (fun cs45 => fun h46 => 
                              ∃ n47 : Int, (cs45 = [V.one (Cell.int IntKind.i64 n47)]) ∧
                              (newK (.cells false [Cell.int IntKind.i64 0, Cell.int IntKind.i64 10, Cell.int IntKind.i64 300, Cell.int IntKind.i64 (-1)]) (fun i48 => fun h49 =>
                              I 6 [V.one (Cell.ptr (some (i2, 0))), V.one (Cell.slice 1 { a := some (i48, 0), len := 4 })]
                                (fun cs50 => fun h51 => 
                                ∃ n52 : Int, (cs50 = [V.one (Cell.int IntKind.i64 n52)]) ∧
                                (newK (.cells false [Cell.int IntKind.i64 5, Cell.int IntKind.i64 300, Cell.int IntKind.i64 900, Cell.int IntKind.i64 4321440, Cell.int IntKind.i64 4321441]) (fun i53 => fun h54 =>
                                I 6 [V.one (Cell.ptr (some (i2, 0))), V.one (Cell.slice 1 { a := some (i53, 0), len := 5 })]
                                  (fun cs55 => fun h56 => 
                                  ∃ n57 : Int, (cs55 = [V.one (Cell.int IntKind.i64 n57)]) ∧
                                  I 15 [V.one (Cell.slice 3 l9), V.one (Cell.int IntKind.i64 n47), V.agg [Cell.int IntKind.i64 n52, Cell.int IntKind.i64 n57]]
                                    (fun cs58 => fun h59 => 
                                    ∃ n60 : Int, ∃ n61 : Int, (cs58 = [V.one (Cell.int IntKind.i64 n60), V.one (Cell.int IntKind.i64 n61)]) ∧
                                    I 16 [V.one (Cell.slice 3 l9), V.one (Cell.int IntKind.i64 n47), V.agg [Cell.int IntKind.i64 n52, Cell.int IntKind.i64 n57]]
                                      (fun cs62 => fun h63 => 
                                      ∃ n64 : Int, ∃ n65 : Int, (cs62 = [V.one (Cell.int IntKind.i64 n64), V.one (Cell.int IntKind.i64 n65)]) ∧
                                      I 17 []
                                        (fun cs66 => fun h67 => 
                                        ∃ b68 : Bool, (cs66 = [V.one (Cell.bool b68)]) ∧
                                        (ifT b68
                                          (ifT (decide (n61 = n65))
                                            (Q [V.one (Cell.bool (decide (n60 = n64)))])
                                            (Q [V.one (Cell.bool false)]))
                                          (Q [V.one (Cell.bool false)])) h67) h63) h59) h56) h54)) h51) h49)) h46) h44))
                          (fun x69 => ifT (!decide (n38 = n42))
                            (x69 true)
                            (fun h70 =>
                            I 12 [V.one (Cell.slice 1 l37), V.one (Cell.slice 1 l41), V.one (Cell.func (some (13, [])))]
                              (fun cs71 => fun h72 => 
                              ∃ b73 : Bool, (cs71 = [V.one (Cell.bool b73)]) ∧
                              x69 (!b73) h72) h70))) h40) h36) h33) h31)) h28) h26)) h24))
              (fun x74 => ifT (!decide (n18 = n22))
                (x74 true)
                (fun h75 =>
                I 9 [V.one (Cell.slice 6 l17), V.one (Cell.slice 6 l21)]
                  (fun cs76 => fun h77 => 
                  ∃ b78 : Bool, (cs76 = [V.one (Cell.bool b78)]) ∧
                  x74 (!b78) h77) h75))) h20) h16) h13) h11)) h8) h5) h3)) h1
theorem den3 (I : FuncId → List V → Post → T) (l0 : Sl) (Q : Post) : denF Go.Proofs.Tryz.prog 262144 (⟨[(1020, 143833713099145216, [(56, tk Go.Proofs.Tryz.prog 4)]), (16380, 77220136727884438534356992, [(85, tk Go.Proofs.Tryz.prog 4)])], []⟩) I 3 [V.one (Cell.slice 1 l0)] Q = vc3 I l0 Q := by kernel_rfl
/-- (*handbill/handmake.Stream).SentList -/
def vc4 (I : FuncId → List V → Post → T) (p0 : Option (Nat × Nat)) (n1 : Int) (Q : Post) : T :=
  fun h2 =>
  I 18 [V.one (Cell.ptr p0), V.one (Cell.int IntKind.i64 (IntKind.i64.wrap (n1 + 1)))]
    (fun cs3 => fun h4 => 
    ∃ n5 : Int, (cs3 = [V.one (Cell.int IntKind.i64 n5)]) ∧
    (loopK (A := Sl × Int × Int) (({ a := none, len := 0 }, 0, 0))
      (fun x6 => uncur fun l7 => uncur fun n8 n9 => ifT (decide (n9 < n5))
        (fun h10 =>
        (newK (.cells false [Cell.int IntKind.i64 0, Cell.int IntKind.i64 1, Cell.int IntKind.i64 10, Cell.int IntKind.i64 100]) (fun i11 => fun h12 =>
        I 6 [V.one (Cell.ptr p0), V.one (Cell.slice 1 { a := some (i11, 0), len := 4 })]
          (fun cs13 => fun h14 => 
          ∃ n15 : Int, (cs13 = [V.one (Cell.int IntKind.i64 n15)]) ∧
          (1 + (Utf8.encode (IntKind.i32.wrap (IntKind.i64.wrap (97 + n9)))).size ≤ 9223372036854775807) ∧
          (newK (.cells false [Cell.str { data := #[97, 110, 110] }, Cell.str { data := #[98, 111] }]) (fun i16 => fun h17 =>
          I 19 [V.one (Cell.ptr p0), V.one (Cell.slice 1 { a := some (i16, 0), len := 2 })]
            (fun cs18 => fun h19 => 
            ∃ s20 : ByteArray, (cs18 = [V.one (Cell.str s20)]) ∧
            (newK (.cells false [Cell.str { data := #[104, 101, 108, 108, 111] }, Cell.str { data := #[110, 101, 119, 115] }, Cell.str { data := #[111, 102, 102, 101, 114] }]) (fun i21 => fun h22 =>
            I 19 [V.one (Cell.ptr p0), V.one (Cell.slice 1 { a := some (i21, 0), len := 3 })]
              (fun cs23 => fun h24 => 
              ∃ s25 : ByteArray, (cs23 = [V.one (Cell.str s25)]) ∧
              (appendTo [] 4 56 l7 1 [Cell.str ({ data := #[115] } ++ Utf8.encode (IntKind.i32.wrap (IntKind.i64.wrap (97 + n9)))), Cell.str s20, Cell.str s25, Cell.int IntKind.i64 (IntKind.i64.wrap (n8 + n15))] (fun l26 => fun h27 => 
              x6 ((l26, IntKind.i64.wrap (n8 + n15), IntKind.i64.wrap (n9 + 1))) h27)) h24) h22)) h19) h17)) h14) h12)) h10)
        (joinK (A := Bool)
          (fun b28 => ifT b28
            (fun h29 =>
            I 18 [V.one (Cell.ptr p0), V.one (Cell.int IntKind.i64 (↑l7.len : Int))]
              (fun cs30 => fun h31 => 
              ∃ n32 : Int, (cs30 = [V.one (Cell.int IntKind.i64 n32)]) ∧
              ((0 ≤ n32) ∧
              n32 < (↑l7.len : Int)) ∧
              (derefK l7.a (fun i33 => fun i34 => fun h35 => 
              I 18 [V.one (Cell.ptr p0), V.one (Cell.int IntKind.i64 3)]
                (fun cs36 => fun h37 => 
                ∃ n38 : Int, (cs36 = [V.one (Cell.int IntKind.i64 n38)]) ∧
                (ifT (decide (n38 = 0))
                  (fun h39 =>
                  (newK (.cells false [Cell.str { data := #[] }, Cell.str { data := #[115, 97] }, Cell.str { data := #[83] }]) (fun i40 => fun h41 =>
                  I 21 [V.one (Cell.ptr p0), V.one (Cell.slice 1 { a := some (i40, 0), len := 3 })]
                    (fun cs42 => fun h43 => 
                    ∃ s44 : ByteArray, (cs42 = [V.one (Cell.str s44)]) ∧
                    (storeK [] i33 (i34 + n32.toNat * 4 + 0) [Cell.str s44] (Q [V.one (Cell.slice 4 l7)])) h43) h41)) h39)
                  (ifT (decide (n38 = 1))
                    (fun h45 =>
                    (newK (.cells false [Cell.int IntKind.i64 (-1), Cell.int IntKind.i64 4321440, Cell.int IntKind.i64 0]) (fun i46 => fun h47 =>
                    I 6 [V.one (Cell.ptr p0), V.one (Cell.slice 1 { a := some (i46, 0), len := 3 })]
                      (fun cs48 => fun h49 => 
                      ∃ n50 : Int, (cs48 = [V.one (Cell.int IntKind.i64 n50)]) ∧
                      (storeK [] i33 (i34 + n32.toNat * 4 + 3) [Cell.int IntKind.i64 n50] (Q [V.one (Cell.slice 4 l7)])) h49) h47)) h45)
                    (fun h51 =>
                    (newK (.cells false [Cell.str { data := #[] }, Cell.str { data := #[88] }]) (fun i52 => fun h53 =>
                    I 21 [V.one (Cell.ptr p0), V.one (Cell.slice 1 { a := some (i52, 0), len := 2 })]
                      (fun cs54 => fun h55 => 
                      ∃ s56 : ByteArray, (cs54 = [V.one (Cell.str s56)]) ∧
                      (storeK [] i33 (i34 + n32.toNat * 4 + 2) [Cell.str s56] (Q [V.one (Cell.slice 4 l7)])) h55) h53)) h51))) h37) h35)) h31) h29)
            (Q [V.one (Cell.slice 4 l7)]))
          (fun x57 => fun h58 => 
          I 20 [V.one (Cell.ptr p0), V.one (Cell.int IntKind.i64 12)]
            (fun cs59 => fun h60 => 
            ∃ b61 : Bool, (cs59 = [V.one (Cell.bool b61)]) ∧
            (ifT b61
              (x57 (decide ((↑l7.len : Int) > 0)))
              (x57 false)) h60) h58)))) h4) h2
theorem den4 (I : FuncId → List V → Post → T) (p0 : Option (Nat × Nat)) (n1 : Int) (Q : Post) : denF Go.Proofs.Tryz.prog 0 (⟨[(124, 34909494181888, [(44, tk Go.Proofs.Tryz.prog 4)])], [(122, 274877898976, [(5, tk Go.Proofs.Tryz.prog 26), (6, tk Go.Proofs.Tryz.prog 3), (13, tk Go.Proofs.Tryz.prog 3)])]⟩) I 4 [V.one (Cell.ptr p0), V.one (Cell.int IntKind.i64 n1)] Q = vc4 I p0 n1 Q := by kernel_rfl
/-- (*handbill/handmake.Stream).Pick -/
def vc6 (I : FuncId → List V → Post → T) (p0 : Option (Nat × Nat)) (l1 : Sl) (Q : Post) : T :=
  fun h2 =>
  I 18 [V.one (Cell.ptr p0), V.one (Cell.int IntKind.i64 (↑l1.len : Int))]
    (fun cs3 => fun h4 => 
    ∃ n5 : Int, (cs3 = [V.one (Cell.int IntKind.i64 n5)]) ∧
    ((0 ≤ n5) ∧
    n5 < (↑l1.len : Int)) ∧
    (derefK l1.a (fun i6 => fun i7 => fun h8 =>
    ∃ n9 : Int, (h8.read i6 (i7 + n5.toNat * 1) 1 = some [Cell.int IntKind.i64 n9]) ∧
    Q [V.one (Cell.int IntKind.i64 n9)] h8)) h4) h2
theorem den6 (I : FuncId → List V → Post → T) (p0 : Option (Nat × Nat)) (l1 : Sl) (Q : Post) : denF Go.Proofs.Tryz.prog 0 (⟨[], []⟩) I 6 [V.one (Cell.ptr p0), V.one (Cell.slice 1 l1)] Q = vc6 I p0 l1 Q := by kernel_rfl
/-- (*handbill/handmake.Stream).Next -/
def vc18 (I : FuncId → List V → Post → T) (p0 : Option (Nat × Nat)) (n1 : Int) (Q : Post) : T :=
  derefK p0 (fun i2 => fun i3 => fun h4 =>
  ∃ n5 : Int, (h4.read i2 (i3 + 1) 1 = some [Cell.int IntKind.i64 n5]) ∧
  (derefK p0 (fun i6 => fun i7 => fun h8 =>
  (storeK [] i6 (i7 + 1) [Cell.int IntKind.i64 (IntKind.i64.wrap (n5 + 1))] (derefK p0 (fun i9 => fun i10 => fun h11 =>
  ∃ l12 : Sl, (h11.read i9 (i10 + 0) 1 = some [Cell.slice 1 l12]) ∧
  (ifT (decide ((↑l12.len : Int) = 0))
    (derefK p0 (fun i13 => fun i14 => fun h15 =>
    ∃ n16 : Int, (h15.read i13 (i14 + 1) 1 = some [Cell.int IntKind.i64 n16]) ∧
    I 43 [V.one (Cell.int IntKind.i64 (IntKind.i64.wrap (n16 * 7919))), V.one (Cell.int IntKind.i64 n1)]
      (fun cs17 => fun h18 => 
      ∃ n19 : Int, (cs17 = [V.one (Cell.int IntKind.i64 n19)]) ∧
      Q [V.one (Cell.int IntKind.i64 n19)] h18) h15))
    (derefK p0 (fun i20 => fun i21 => fun h22 =>
    ∃ n23 : Int, (h22.read i20 (i21 + 1) 1 = some [Cell.int IntKind.i64 n23]) ∧
    (derefK p0 (fun i24 => fun i25 => fun h26 =>
    ∃ l27 : Sl, (h26.read i24 (i25 + 0) 1 = some [Cell.slice 1 l27]) ∧
    ((↑l27.len : Int) ≠ 0) ∧
    (derefK p0 (fun i28 => fun i29 => fun h30 =>
    ∃ n31 : Int, (h30.read i28 (i29 + 1) 1 = some [Cell.int IntKind.i64 n31]) ∧
    (derefK p0 (fun i32 => fun i33 => fun h34 =>
    ∃ l35 : Sl, (h34.read i32 (i33 + 0) 1 = some [Cell.slice 1 l35]) ∧
    ((↑l35.len : Int) ≠ 0) ∧
    (derefK p0 (fun i36 => fun i37 => fun h38 =>
    ∃ l39 : Sl, (h38.read i36 (i37 + 0) 1 = some [Cell.slice 1 l39]) ∧
    ((0 ≤ (IntKind.i64.wrap (n23 - 1)).tmod (↑l27.len : Int)) ∧
    (IntKind.i64.wrap (n23 - 1)).tmod (↑l27.len : Int) < (↑l39.len : Int)) ∧
    (derefK l39.a (fun i40 => fun i41 => fun h42 =>
    ∃ n43 : Int, (h42.read i40 (i41 + ((IntKind.i64.wrap (n23 - 1)).tmod (↑l27.len : Int)).toNat * 1) 1 = some [Cell.int IntKind.i64 n43]) ∧
    I 43 [V.one (Cell.int IntKind.i64 n43), V.one (Cell.int IntKind.i64 1073741824)]
      (fun cs44 => fun h45 => 
      ∃ n46 : Int, (cs44 = [V.one (Cell.int IntKind.i64 n46)]) ∧
      I 43 [V.one (Cell.int IntKind.i64 (IntKind.i64.wrap (n46 + IntKind.i64.wrap (IntKind.i64.wrap ((IntKind.i64.wrap (n31 - 1)).tdiv (↑l35.len : Int)) * IntKind.i64.wrap (7919 + (IntKind.i64.wrap (n23 - 1)).tmod (↑l27.len : Int)))))), V.one (Cell.int IntKind.i64 n1)]
        (fun cs47 => fun h48 => 
        ∃ n49 : Int, (cs47 = [V.one (Cell.int IntKind.i64 n49)]) ∧
        Q [V.one (Cell.int IntKind.i64 n49)] h48) h45) h42)) h38)) h34)) h30)) h26)) h22))) h11))) h8)) h4)
theorem den18 (I : FuncId → List V → Post → T) (p0 : Option (Nat × Nat)) (n1 : Int) (Q : Post) : denF Go.Proofs.Tryz.prog 0 (⟨[], []⟩) I 18 [V.one (Cell.ptr p0), V.one (Cell.int IntKind.i64 n1)] Q = vc18 I p0 n1 Q := by kernel_rfl
/-- handbill/handmake.Below -/
def vc43 (I : FuncId → List V → Post → T) (n0 : Int) (n1 : Int) (Q : Post) : T :=
  ifT (decide (n1 < 1))
    (Q [V.one (Cell.int IntKind.i64 0)])
    (fun h2 =>
    (n1 ≠ 0) ∧
    (ifT (decide (n0.tmod n1 < 0))
      (Q [V.one (Cell.int IntKind.i64 (IntKind.i64.wrap (n0.tmod n1 + n1)))])
      (Q [V.one (Cell.int IntKind.i64 (n0.tmod n1))])) h2)
theorem den43 (I : FuncId → List V → Post → T) (n0 : Int) (n1 : Int) (Q : Post) : denF Go.Proofs.Tryz.prog 0 (⟨[], []⟩) I 43 [V.one (Cell.int IntKind.i64 n0), V.one (Cell.int IntKind.i64 n1)] Q = vc43 I n0 n1 Q := by kernel_rfl
/-- (*handbill/handmake.Stream).key -/
def vc19 (I : FuncId → List V → Post → T) (p0 : Option (Nat × Nat)) (l1 : Sl) (Q : Post) : T :=
  fun h2 =>
  I 20 [V.one (Cell.ptr p0), V.one (Cell.int IntKind.i64 40)]
    (fun cs3 => fun h4 => 
    ∃ b5 : Bool, (cs3 = [V.one (Cell.bool b5)]) ∧
    (ifT b5
      (fun h6 =>
      (newK (.cells false [Cell.str { data := #[] }, Cell.str { data := #[75, 101, 121] }, Cell.str { data := #[49, 97] }]) (fun i7 => fun h8 =>
      I 21 [V.one (Cell.ptr p0), V.one (Cell.slice 1 { a := some (i7, 0), len := 3 })]
        (fun cs9 => fun h10 => 
        ∃ s11 : ByteArray, (cs9 = [V.one (Cell.str s11)]) ∧
        Q [V.one (Cell.str s11)] h10) h8)) h6)
      (fun h12 =>
      I 21 [V.one (Cell.ptr p0), V.one (Cell.slice 1 l1)]
        (fun cs13 => fun h14 => 
        ∃ s15 : ByteArray, (cs13 = [V.one (Cell.str s15)]) ∧
        Q [V.one (Cell.str s15)] h14) h12)) h4) h2
theorem den19 (I : FuncId → List V → Post → T) (p0 : Option (Nat × Nat)) (l1 : Sl) (Q : Post) : denF Go.Proofs.Tryz.prog 0 (⟨[], []⟩) I 19 [V.one (Cell.ptr p0), V.one (Cell.slice 1 l1)] Q = vc19 I p0 l1 Q := by kernel_rfl
/-- (*handbill/handmake.Stream).Flip -/
def vc20 (I : FuncId → List V → Post → T) (p0 : Option (Nat × Nat)) (n1 : Int) (Q : Post) : T :=
  fun h2 =>
  I 18 [V.one (Cell.ptr p0), V.one (Cell.int IntKind.i64 n1)]
    (fun cs3 => fun h4 => 
    ∃ n5 : Int, (cs3 = [V.one (Cell.int IntKind.i64 n5)]) ∧
    Q [V.one (Cell.bool (decide (n5 = 0)))] h4) h2
theorem den20 (I : FuncId → List V → Post → T) (p0 : Option (Nat × Nat)) (n1 : Int) (Q : Post) : denF Go.Proofs.Tryz.prog 0 (⟨[], []⟩) I 20 [V.one (Cell.ptr p0), V.one (Cell.int IntKind.i64 n1)] Q = vc20 I p0 n1 Q := by kernel_rfl
/-- (*handbill/handmake.Stream).one -/
def vc21 (I : FuncId → List V → Post → T) (p0 : Option (Nat × Nat)) (l1 : Sl) (Q : Post) : T :=
  fun h2 =>
  I 18 [V.one (Cell.ptr p0), V.one (Cell.int IntKind.i64 (↑l1.len : Int))]
    (fun cs3 => fun h4 => 
    ∃ n5 : Int, (cs3 = [V.one (Cell.int IntKind.i64 n5)]) ∧
    ((0 ≤ n5) ∧
    n5 < (↑l1.len : Int)) ∧
    (derefK l1.a (fun i6 => fun i7 => fun h8 =>
    ∃ s9 : ByteArray, (h8.read i6 (i7 + n5.toNat * 1) 1 = some [Cell.str s9]) ∧
    Q [V.one (Cell.str s9)] h8)) h4) h2
theorem den21 (I : FuncId → List V → Post → T) (p0 : Option (Nat × Nat)) (l1 : Sl) (Q : Post) : denF Go.Proofs.Tryz.prog 0 (⟨[], []⟩) I 21 [V.one (Cell.ptr p0), V.one (Cell.slice 1 l1)] Q = vc21 I p0 l1 Q := by kernel_rfl
/-- (*handbill/handmake.Stream).Acts -/
def vc5 (I : FuncId → List V → Post → T) (p0 : Option (Nat × Nat)) (l1 : Sl) (Q : Post) : T :=
  fun h2 =>
  I 18 [V.one (Cell.ptr p0), V.one (Cell.int IntKind.i64 10)]
    (fun cs3 => fun h4 => 
    ∃ n5 : Int, (cs3 = [V.one (Cell.int IntKind.i64 n5)]) ∧
    (loopK (A := Sl × Int) (({ a := none, len := 0 }, 0))
      (fun x6 => uncur fun l7 n8 => ifT (decide (n8 < n5))
        (fun h9 =>
        (newK (.cells false [Cell.str { data := #[115, 97] }, Cell.str { data := #[115, 98] }]) (fun i10 => fun h11 =>
        I 19 [V.one (Cell.ptr p0), V.one (Cell.slice 1 { a := some (i10, 0), len := 2 })]
          (fun cs12 => fun h13 => 
          ∃ s14 : ByteArray, (cs12 = [V.one (Cell.str s14)]) ∧
          I 14 [V.one (Cell.ptr p0), V.one (Cell.int IntKind.i64 1), V.one (Cell.int IntKind.i64 4)]
            (fun cs15 => fun h16 => 
            ∃ n17 : Int, (cs15 = [V.one (Cell.int IntKind.i64 n17)]) ∧
            I 18 [V.one (Cell.ptr p0), V.one (Cell.int IntKind.i64 600)]
              (fun cs18 => fun h19 => 
              ∃ n20 : Int, (cs18 = [V.one (Cell.int IntKind.i64 n20)]) ∧
              (joinK (A := Bool)
                (fun b21 => joinK (A := ByteArray × Int × Int × PUnit)
                  (uncur fun s22 => uncur fun n23 => uncur fun n24 x25 => fun h26 => 
                  I 20 [V.one (Cell.ptr p0), V.one (Cell.int IntKind.i64 30)]
                    (fun cs27 => fun h28 => 
                    ∃ b29 : Bool, (cs27 = [V.one (Cell.bool b29)]) ∧
                    (joinK (A := ByteArray × Int × Int × PUnit)
                      (uncur fun s30 => uncur fun n31 => uncur fun n32 x33 => fun h34 => 
                      I 20 [V.one (Cell.ptr p0), V.one (Cell.int IntKind.i64 30)]
                        (fun cs35 => fun h36 => 
                        ∃ b37 : Bool, (cs35 = [V.one (Cell.bool b37)]) ∧
                        (ifT b37
                          (fun h38 =>
                          (newK (.cells false [Cell.int IntKind.i64 (-1), Cell.int IntKind.i64 4321440]) (fun i39 => fun h40 =>
                          I 6 [V.one (Cell.ptr p0), V.one (Cell.slice 1 { a := some (i39, 0), len := 2 })]
                            (fun cs41 => fun h42 => 
                            ∃ n43 : Int, (cs41 = [V.one (Cell.int IntKind.i64 n43)]) ∧
                            (appendTo [] 3 32 l7 1 [Cell.str s30, Cell.int IntKind.i64 n31, Cell.int IntKind.i64 n43] (fun l44 => fun h45 => 
                            x6 ((l44, IntKind.i64.wrap (n8 + 1))) h45)) h42) h40)) h38)
                          (fun h46 =>
                          (appendTo [] 3 32 l7 1 [Cell.str s30, Cell.int IntKind.i64 n31, Cell.int IntKind.i64 n32] (fun l47 => fun h48 => 
                          x6 ((l47, IntKind.i64.wrap (n8 + 1))) h48)) h46)) h36) h34)
                      (fun x49 => ifT b29
                        (fun h50 =>
                        (newK (.cells false [Cell.int IntKind.i64 0, Cell.int IntKind.i64 5]) (fun i51 => fun h52 =>
                        I 6 [V.one (Cell.ptr p0), V.one (Cell.slice 1 { a := some (i51, 0), len := 2 })]
                          (fun cs53 => fun h54 => 
                          ∃ n55 : Int, (cs53 = [V.one (Cell.int IntKind.i64 n55)]) ∧
                          x49 ((s22, n55, n24, ())) h54) h52)) h50)
                        (x49 ((s22, n23, n24, ()))))) h28) h26)
                  (fun x56 => ifT b21
                    (fun h57 =>
                    I 18 [V.one (Cell.ptr p0), V.one (Cell.int IntKind.i64 (↑l1.len : Int))]
                      (fun cs58 => fun h59 => 
                      ∃ n60 : Int, (cs58 = [V.one (Cell.int IntKind.i64 n60)]) ∧
                      ((0 ≤ n60) ∧
                      n60 < (↑l1.len : Int)) ∧
                      (derefK l1.a (fun i61 => fun i62 => fun h63 =>
                      ∃ s64 : ByteArray, ∃ s65 : ByteArray, ∃ s66 : ByteArray, ∃ n67 : Int, (h63.read i61 (i62 + n60.toNat * 4) 4 = some [Cell.str s64, Cell.str s65, Cell.str s66, Cell.int IntKind.i64 n67]) ∧
                      (newK (.cells false [Cell.int IntKind.i64 0, Cell.int IntKind.i64 1, Cell.int IntKind.i64 50, Cell.int IntKind.i64 200]) (fun i68 => fun h69 =>
                      I 6 [V.one (Cell.ptr p0), V.one (Cell.slice 1 { a := some (i68, 0), len := 4 })]
                        (fun cs70 => fun h71 => 
                        ∃ n72 : Int, (cs70 = [V.one (Cell.int IntKind.i64 n72)]) ∧
                        x56 ((s64, n17, IntKind.i64.wrap (n67 + n72), ())) h71) h69)) h63)) h59) h57)
                    (x56 ((s14, n17, n20, ())))))
                (fun x73 => ifT (decide ((↑l1.len : Int) > 0))
                  (fun h74 =>
                  I 20 [V.one (Cell.ptr p0), V.one (Cell.int IntKind.i64 15)]
                    (fun cs75 => fun h76 => 
                    ∃ b77 : Bool, (cs75 = [V.one (Cell.bool b77)]) ∧
                    x73 (!b77) h76) h74)
                  (x73 false))) h19) h16) h13) h11)) h9)
        (Q [V.one (Cell.slice 3 l7)]))) h4) h2
theorem den5 (I : FuncId → List V → Post → T) (p0 : Option (Nat × Nat)) (l1 : Sl) (Q : Post) : denF Go.Proofs.Tryz.prog 192 (⟨[(14948, 267386880, [(27, tk Go.Proofs.Tryz.prog 4)]), (14949, 35184103653568, [(6, tvar Go.Proofs.Tryz.prog 57)]), (29901, 2111062325329984, [(6, tvar Go.Proofs.Tryz.prog 57)])], [(58, 4611686018427387104, [(5, tk Go.Proofs.Tryz.prog 28), (10, tk Go.Proofs.Tryz.prog 3)])]⟩) I 5 [V.one (Cell.ptr p0), V.one (Cell.slice 4 l1)] Q = vc5 I p0 l1 Q := by kernel_rfl
/-- (*handbill/handmake.Stream).Range -/
def vc14 (I : FuncId → List V → Post → T) (p0 : Option (Nat × Nat)) (n1 : Int) (n2 : Int) (Q : Post) : T :=
  ifT (decide (n2 < n1))
    (Q [V.one (Cell.int IntKind.i64 n1)])
    (fun h3 =>
    I 18 [V.one (Cell.ptr p0), V.one (Cell.int IntKind.i64 (IntKind.i64.wrap (IntKind.i64.wrap (n2 - n1) + 1)))]
      (fun cs4 => fun h5 => 
      ∃ n6 : Int, (cs4 = [V.one (Cell.int IntKind.i64 n6)]) ∧
      Q [V.one (Cell.int IntKind.i64 (IntKind.i64.wrap (n1 + n6)))] h5) h3)
theorem den14 (I : FuncId → List V → Post → T) (p0 : Option (Nat × Nat)) (n1 : Int) (n2 : Int) (Q : Post) : denF Go.Proofs.Tryz.prog 0 (⟨[], []⟩) I 14 [V.one (Cell.ptr p0), V.one (Cell.int IntKind.i64 n1), V.one (Cell.int IntKind.i64 n2)] Q = vc14 I p0 n1 n2 Q := by kernel_rfl
/-- handbill/measure.Steps -/
def vc7 (I : FuncId → List V → Post → T) (l0 : Sl) (l1 : Sl) (n2 : Int) (Q : Post) : T :=
  fun h3 =>
  I 22 [V.one (Cell.slice 4 l0)]
    (fun cs4 => fun h5 => 
    ∃ n6 : Int, (cs4 = [V.one (Cell.int IntKind.i64 n6)]) ∧
    (ifT (!decide (n6 = 0))
      (Q [V.one (Cell.slice 6 { a := none, len := 0 }), V.one (Cell.int IntKind.i64 n6)])
      (ifT (decide ((↑l1.len : Int) > 5000))
        (Q [V.one (Cell.slice 6 { a := none, len := 0 }), V.one (Cell.int IntKind.i64 2)])
        (fun h7 =>
        (newK (.map []) (fun i8 => loopK (A := Int) 0
          (fun x9 => fun n10 => ifT (decide (n10 < (↑l0.len : Int)))
            (fun h11 =>
            ((0 ≤ n10) ∧
            n10 < (↑l0.len : Int)) ∧
            (derefK l0.a (fun i12 => fun i13 => fun h14 =>
            ∃ s15 : ByteArray, ∃ s16 : ByteArray, ∃ s17 : ByteArray, ∃ n18 : Int, (h14.read i12 (i13 + n10.toNat * 4) 4 = some [Cell.str s15, Cell.str s16, Cell.str s17, Cell.int IntKind.i64 n18]) ∧
            (mapK [] (some i8) (V.one (Cell.str s15)) (V.one (Cell.int IntKind.i64 n10)) (x9 (IntKind.i64.wrap (n10 + 1)))) h14)) h11)
            (loopK (A := Int) 0
              (fun x19 => fun n20 => ifT (decide (n20 < (↑l1.len : Int)))
                (fun h21 =>
                ((0 ≤ n20) ∧
                n20 < (↑l1.len : Int)) ∧
                (derefK l1.a (fun i22 => fun i23 => fun h24 =>
                ∃ s25 : ByteArray, ∃ n26 : Int, ∃ n27 : Int, (h24.read i22 (i23 + n20.toNat * 3) 3 = some [Cell.str s25, Cell.int IntKind.i64 n26, Cell.int IntKind.i64 n27]) ∧
                ∃ n28 : Int, ∃ b29 : Bool, (∃ cs30 : List (V × V), (mapOf h24 (some i8) = some cs30) ∧
                mapGet (V.one (Cell.str s25)) (V.one (Cell.int IntKind.i64 0)) cs30 = some (V.one (Cell.int IntKind.i64 n28), b29)) ∧
                (ifT (!b29)
                  (Q [V.one (Cell.slice 6 { a := none, len := 0 }), V.one (Cell.int IntKind.i64 8)])
                  (fun h31 =>
                  I 23 [V.one (Cell.int IntKind.i64 n26)]
                    (fun cs32 => fun h33 => 
                    ∃ b34 : Bool, (cs32 = [V.one (Cell.bool b34)]) ∧
                    (ifT (!b34)
                      (Q [V.one (Cell.slice 6 { a := none, len := 0 }), V.one (Cell.int IntKind.i64 4)])
                      (fun h35 =>
                      I 24 [V.one (Cell.int IntKind.i64 n27)]
                        (fun cs36 => fun h37 => 
                        ∃ b38 : Bool, (cs36 = [V.one (Cell.bool b38)]) ∧
                        (ifT (!b38)
                          (Q [V.one (Cell.slice 6 { a := none, len := 0 }), V.one (Cell.int IntKind.i64 1)])
                          (fun h39 =>
                          ((0 ≤ n28) ∧
                          n28 < (↑l0.len : Int)) ∧
                          (derefK l0.a (fun i40 => fun i41 => fun h42 =>
                          ∃ n43 : Int, (h42.read i40 (i41 + n28.toNat * 4 + 3) 1 = some [Cell.int IntKind.i64 n43]) ∧
                          (ifT (decide (n27 < n43))
                            (Q [V.one (Cell.slice 6 { a := none, len := 0 }), V.one (Cell.int IntKind.i64 7)])
                            (x19 (IntKind.i64.wrap (n20 + 1)))) h42)) h39)) h37) h35)) h33) h31)) h24)) h21)
                (fun h44 =>
                I 25 [V.one (Cell.int IntKind.i64 n2), V.one (Cell.int IntKind.i64 0), V.one (Cell.int IntKind.i64 4321440)]
                  (fun cs45 => fun h46 => 
                  ∃ b47 : Bool, (cs45 = [V.one (Cell.bool b47)]) ∧
                  (ifT (!b47)
                    (Q [V.one (Cell.slice 6 { a := none, len := 0 }), V.one (Cell.int IntKind.i64 1)])
                    (fun h48 =>
                    (true = true) ∧
                    (0 ≤ (↑l0.len : Int)) ∧
                    ((↑l0.len : Int) ≤ (↑l0.len : Int)) ∧
                    ((↑l0.len : Int) * (↑5 : Int) ≤ 140737488355328) ∧
                    (newK (.cells false (slCells (VK.agg [Kd.bool, Kd.bool, Kd.bool, Kd.bool, Kd.bool]) (↑l0.len : Int).toNat)) (fun i49 => loopK (A := Int) 0
                      (fun x50 => fun n51 => ifT (decide (n51 < (↑l1.len : Int)))
                        (fun h52 =>
                        ((0 ≤ n51) ∧
                        n51 < (↑l1.len : Int)) ∧
                        (derefK l1.a (fun i53 => fun i54 => fun h55 =>
                        ∃ s56 : ByteArray, ∃ n57 : Int, ∃ n58 : Int, (h55.read i53 (i54 + n51.toNat * 3) 3 = some [Cell.str s56, Cell.int IntKind.i64 n57, Cell.int IntKind.i64 n58]) ∧
                        ∃ n59 : Int, ∃ b60 : Bool, (∃ cs61 : List (V × V), (mapOf h55 (some i8) = some cs61) ∧
                        mapGet (V.one (Cell.str s56)) (V.one (Cell.int IntKind.i64 0)) cs61 = some (V.one (Cell.int IntKind.i64 n59), b60)) ∧
                        ((0 ≤ n59) ∧
                        n59 < (↑l0.len : Int)) ∧
                        (derefK l0.a (fun i62 => fun i63 => fun h64 =>
                        ∃ n65 : Int, (h64.read i62 (i63 + n59.toNat * 4 + 3) 1 = some [Cell.int IntKind.i64 n65]) ∧
                        (ifT (decide (IntKind.i64.wrap (n58 - n65) ≤ n2))
                          (fun h66 =>
                          ((0 ≤ n59) ∧
                          n59 < (↑(↑l0.len : Int).toNat : Int)) ∧
                          ((0 ≤ n57) ∧
                          n57 < (↑5 : Int)) ∧
                          (storeK [] i49 (0 + n59.toNat * 5 + n57.toNat * 1) [Cell.bool true] (x50 (IntKind.i64.wrap (n51 + 1)))) h66)
                          (x50 (IntKind.i64.wrap (n51 + 1)))) h64)) h55)) h52)
                        (fun h67 =>
                        (newK (.map []) (fun i68 => loopK (A := Int) 0
                          (fun x69 => fun n70 => ifT (decide (n70 < (↑l0.len : Int)))
                            (fun h71 =>
                            ((0 ≤ n70) ∧
                            n70 < (↑l0.len : Int)) ∧
                            (derefK l0.a (fun i72 => fun i73 => fun h74 =>
                            ∃ s75 : ByteArray, ∃ s76 : ByteArray, ∃ s77 : ByteArray, ∃ n78 : Int, (h74.read i72 (i73 + n70.toNat * 4) 4 = some [Cell.str s75, Cell.str s76, Cell.str s77, Cell.int IntKind.i64 n78]) ∧
                            ∃ p79 : Option (Nat × Nat), ∃ b80 : Bool, (∃ cs81 : List (V × V), (mapOf h74 (some i68) = some cs81) ∧
                            mapGet (V.one (Cell.str s77)) (V.one (Cell.ptr none)) cs81 = some (V.one (Cell.ptr p79), b80)) ∧
                            (joinK (A := Option (Nat × Nat))
                              (fun p82 => fun h83 => 
                              ((0 ≤ n70) ∧
                              n70 < (↑(↑l0.len : Int).toNat : Int)) ∧
                              ∃ b84 : Bool, ∃ b85 : Bool, ∃ b86 : Bool, ∃ b87 : Bool, ∃ b88 : Bool, (h83.read i49 (0 + n70.toNat * 5) 5 = some [Cell.bool b84, Cell.bool b85, Cell.bool b86, Cell.bool b87, Cell.bool b88]) ∧
                              I 26 [V.one (Cell.ptr p82), V.agg [Cell.bool b84, Cell.bool b85, Cell.bool b86, Cell.bool b87, Cell.bool b88]]
                                (fun cs89 => fun h90 => 
                                (cs89 = []) ∧
                                x69 (IntKind.i64.wrap (n70 + 1)) h90) h83)
                              (fun x91 => ifT p79.isNone
                                (fun h92 =>
                                (newK (.cells false [Cell.str s77, Cell.int IntKind.i64 0, Cell.int IntKind.i64 0, Cell.int IntKind.i64 0, Cell.int IntKind.i64 0, Cell.int IntKind.i64 0]) (fun i93 => fun h94 => 
                                (mapK [] (some i68) (V.one (Cell.str s77)) (V.one (Cell.ptr (some (i93, 0)))) (x91 (some (i93, 0)))) h94)) h92)
                                (x91 p79))) h74)) h71)
                            (fun h95 =>
                            I 28 [V.one (Cell.map (some i68))]
                              (fun cs96 => fun h97 => 
                              ∃ p98 : Option (Nat × List (Nat × Nat)), (cs96 = [V.one (Cell.func p98)]) ∧
                              I 27 [V.one (Cell.func p98)]
                                (fun cs99 => fun h100 => 
                                ∃ l101 : Sl, (cs99 = [V.one (Cell.slice 1 l101)]) ∧
                                (loopK (A := Sl × Int) (({ a := none, len := 0 }, 0))
                                  (fun x102 => uncur fun l103 n104 => ifT (decide (n104 < (↑l101.len : Int)))
                                    (fun h105 =>
                                    ((0 ≤ n104) ∧
                                    n104 < (↑l101.len : Int)) ∧
                                    (derefK l101.a (fun i106 => fun i107 => fun h108 =>
                                    ∃ s109 : ByteArray, (h108.read i106 (i107 + n104.toNat * 1) 1 = some [Cell.str s109]) ∧
                                    ∃ p110 : Option (Nat × Nat), ∃ b111 : Bool, (∃ cs112 : List (V × V), (mapOf h108 (some i68) = some cs112) ∧
                                    mapGet (V.one (Cell.str s109)) (V.one (Cell.ptr none)) cs112 = some (V.one (Cell.ptr p110), b111)) ∧
                                    (derefK p110 (fun i113 => fun i114 => fun h115 =>
                                    ∃ s116 : ByteArray, ∃ n117 : Int, ∃ n118 : Int, ∃ n119 : Int, ∃ n120 : Int, ∃ n121 : Int, (h115.read i113 i114 6 = some [Cell.str s116, Cell.int IntKind.i64 n117, Cell.int IntKind.i64 n118, Cell.int IntKind.i64 n119, Cell.int IntKind.i64 n120, Cell.int IntKind.i64 n121]) ∧
                                    (appendTo [] 6 56 l103 1 [Cell.str s116, Cell.int IntKind.i64 n117, Cell.int IntKind.i64 n118, Cell.int IntKind.i64 n119, Cell.int IntKind.i64 n120, Cell.int IntKind.i64 n121] (fun l122 => fun h123 => 
                                    x102 ((l122, IntKind.i64.wrap (n104 + 1))) h123)) h115)) h108)) h105)
                                    (Q [V.one (Cell.slice 6 l103), V.one (Cell.int IntKind.i64 0)]))) h100) h97) h95)))) h67)))) h48)) h46) h44)))))) h7))) h5) h3
theorem den7 (I : FuncId → List V → Post → T) (l0 : Sl) (l1 : Sl) (n2 : Int) (Q : Post) : denF Go.Proofs.Tryz.prog 4466688 (⟨[(8385741, 694176028518714465465284199160807159758848, [(23, tk Go.Proofs.Tryz.prog 65)])], [(250, 281200098806784, [(38, tk Go.Proofs.Tryz.prog 3)]), (506, 19342813112708166888513728, [(50, tk Go.Proofs.Tryz.prog 3)]), (4090, 166153494521354326971454782939332608, [(92, tk Go.Proofs.Tryz.prog 3)]), (16378, 89202979464894496781227000186786385758257152, [(120, tk Go.Proofs.Tryz.prog 3)]), (65530, 11690585850954517385748420375760814662111161483264, [(24, tk Go.Proofs.Tryz.prog 31), (150, tk Go.Proofs.Tryz.prog 3)])]⟩) I 7 [V.one (Cell.slice 4 l0), V.one (Cell.slice 3 l1), V.one (Cell.int IntKind.i64 n2)] Q = vc7 I l0 l1 n2 Q := by kernel_rfl
/-- handbill/measure.CheckSent -/
def vc22 (I : FuncId → List V → Post → T) (l0 : Sl) (Q : Post) : T :=
  ifT (decide ((↑l0.len : Int) > 5000))
    (Q [V.one (Cell.int IntKind.i64 2)])
    (fun h1 =>
    (newK (.map []) (fun i2 => loopK (A := Int) 0
      (fun x3 => fun n4 => ifT (decide (n4 < (↑l0.len : Int)))
        (fun h5 =>
        ((0 ≤ n4) ∧
        n4 < (↑l0.len : Int)) ∧
        (derefK l0.a (fun i6 => fun i7 => fun h8 =>
        ∃ s9 : ByteArray, ∃ s10 : ByteArray, ∃ s11 : ByteArray, ∃ n12 : Int, (h8.read i6 (i7 + n4.toNat * 4) 4 = some [Cell.str s9, Cell.str s10, Cell.str s11, Cell.int IntKind.i64 n12]) ∧
        I 44 [V.one (Cell.str s9)]
          (fun cs13 => fun h14 => 
          ∃ b15 : Bool, (cs13 = [V.one (Cell.bool b15)]) ∧
          (ifT (!b15)
            (Q [V.one (Cell.int IntKind.i64 5)])
            (fun h16 =>
            ∃ b17 : Bool, ∃ b18 : Bool, (∃ cs19 : List (V × V), (mapOf h16 (some i2) = some cs19) ∧
            mapGet (V.one (Cell.str s9)) (V.one (Cell.bool false)) cs19 = some (V.one (Cell.bool b17), b18)) ∧
            (ifT b17
              (Q [V.one (Cell.int IntKind.i64 6)])
              (joinK (A := Bool)
                (fun b20 => ifT b20
                  (Q [V.one (Cell.int IntKind.i64 5)])
                  (fun h21 =>
                  I 24 [V.one (Cell.int IntKind.i64 n12)]
                    (fun cs22 => fun h23 => 
                    ∃ b24 : Bool, (cs22 = [V.one (Cell.bool b24)]) ∧
                    (ifT (!b24)
                      (Q [V.one (Cell.int IntKind.i64 1)])
                      (ifT (decide (n4 > 0))
                        (fun h25 =>
                        ((0 ≤ IntKind.i64.wrap (n4 - 1)) ∧
                        IntKind.i64.wrap (n4 - 1) < (↑l0.len : Int)) ∧
                        (derefK l0.a (fun i26 => fun i27 => fun h28 =>
                        ∃ n29 : Int, (h28.read i26 (i27 + (IntKind.i64.wrap (n4 - 1)).toNat * 4 + 3) 1 = some [Cell.int IntKind.i64 n29]) ∧
                        (ifT (decide (n12 < n29))
                          (Q [V.one (Cell.int IntKind.i64 7)])
                          (fun h30 =>
                          (mapK [] (some i2) (V.one (Cell.str s9)) (V.one (Cell.bool true)) (x3 (IntKind.i64.wrap (n4 + 1)))) h30)) h28)) h25)
                        (fun h31 =>
                        (mapK [] (some i2) (V.one (Cell.str s9)) (V.one (Cell.bool true)) (x3 (IntKind.i64.wrap (n4 + 1)))) h31))) h23) h21))
                (fun x32 => fun h33 => 
                I 44 [V.one (Cell.str s10)]
                  (fun cs34 => fun h35 => 
                  ∃ b36 : Bool, (cs34 = [V.one (Cell.bool b36)]) ∧
                  (ifT (!b36)
                    (x32 true)
                    (fun h37 =>
                    I 44 [V.one (Cell.str s11)]
                      (fun cs38 => fun h39 => 
                      ∃ b40 : Bool, (cs38 = [V.one (Cell.bool b40)]) ∧
                      x32 (!b40) h39) h37)) h35) h33))) h16)) h14) h8)) h5)
        (Q [V.one (Cell.int IntKind.i64 0)])))) h1)
theorem den22 (I : FuncId → List V → Post → T) (l0 : Sl) (Q : Post) : denF Go.Proofs.Tryz.prog 32 (⟨[(1002654, 274743689216, [(27, tk Go.Proofs.Tryz.prog 4)])], [(122, 2305843009213689908, [(12, tk Go.Proofs.Tryz.prog 3)])]⟩) I 22 [V.one (Cell.slice 4 l0)] Q = vc22 I l0 Q := by kernel_rfl
/-- handbill/measure.isMoment -/
def vc24 (I : FuncId → List V → Post → T) (n0 : Int) (Q : Post) : T :=
  fun h1 =>
  I 25 [V.one (Cell.int IntKind.i64 n0), V.one (Cell.int IntKind.i64 0), V.one (Cell.int IntKind.i64 4321439)]
    (fun cs2 => fun h3 => 
    ∃ b4 : Bool, (cs2 = [V.one (Cell.bool b4)]) ∧
    Q [V.one (Cell.bool b4)] h3) h1
theorem den24 (I : FuncId → List V → Post → T) (n0 : Int) (Q : Post) : denF Go.Proofs.Tryz.prog 0 (⟨[], []⟩) I 24 [V.one (Cell.int IntKind.i64 n0)] Q = vc24 I n0 Q := by kernel_rfl
/-- handbill/measure.within -/
def vc25 (I : FuncId → List V → Post → T) (n0 : Int) (n1 : Int) (n2 : Int) (Q : Post) : T :=
  ifT (decide (n1 ≤ n0))
    (Q [V.one (Cell.bool (decide (n0 ≤ n2)))])
    (Q [V.one (Cell.bool false)])
theorem den25 (I : FuncId → List V → Post → T) (n0 : Int) (n1 : Int) (n2 : Int) (Q : Post) : denF Go.Proofs.Tryz.prog 0 (⟨[], []⟩) I 25 [V.one (Cell.int IntKind.i64 n0), V.one (Cell.int IntKind.i64 n1), V.one (Cell.int IntKind.i64 n2)] Q = vc25 I n0 n1 n2 Q := by kernel_rfl
/-- handbill/person.IsKey -/
def vc44 (I : FuncId → List V → Post → T) (s0 : ByteArray) (Q : Post) : T :=
  fun h1 =>
  I 58 [V.one (Cell.int IntKind.i64 (↑s0.size : Int)), V.one (Cell.int IntKind.i64 1), V.one (Cell.int IntKind.i64 40)]
    (fun cs2 => fun h3 => 
    ∃ b4 : Bool, (cs2 = [V.one (Cell.bool b4)]) ∧
    (ifT b4
      (fun h5 =>
      (((0 : Int) ≤ (0 : Int)) ∧
      0 < (↑s0.size : Int)) ∧
      I 59 [V.one (Cell.int IntKind.u8 (byteAt s0 0))]
        (fun cs6 => fun h7 => 
        ∃ b8 : Bool, (cs6 = [V.one (Cell.bool b8)]) ∧
        (ifT b8
          (fun h9 =>
          I 60 [V.one (Cell.str s0), V.one (Cell.func (some (61, [])))]
            (fun cs10 => fun h11 => 
            ∃ b12 : Bool, (cs10 = [V.one (Cell.bool b12)]) ∧
            Q [V.one (Cell.bool b12)] h11) h9)
          (Q [V.one (Cell.bool false)])) h7) h5)
      (Q [V.one (Cell.bool false)])) h3) h1
theorem den44 (I : FuncId → List V → Post → T) (s0 : ByteArray) (Q : Post) : denF Go.Proofs.Tryz.prog 0 (⟨[], []⟩) I 44 [V.one (Cell.str s0)] Q = vc44 I s0 Q := by kernel_rfl
/-- handbill/person.within -/
def vc58 (I : FuncId → List V → Post → T) (n0 : Int) (n1 : Int) (n2 : Int) (Q : Post) : T :=
  ifT (decide (n1 ≤ n0))
    (Q [V.one (Cell.bool (decide (n0 ≤ n2)))])
    (Q [V.one (Cell.bool false)])
theorem den58 (I : FuncId → List V → Post → T) (n0 : Int) (n1 : Int) (n2 : Int) (Q : Post) : denF Go.Proofs.Tryz.prog 0 (⟨[], []⟩) I 58 [V.one (Cell.int IntKind.i64 n0), V.one (Cell.int IntKind.i64 n1), V.one (Cell.int IntKind.i64 n2)] Q = vc58 I n0 n1 n2 Q := by kernel_rfl
/-- handbill/person.small -/
def vc59 (I : FuncId → List V → Post → T) (n0 : Int) (Q : Post) : T :=
  ifT (decide (97 ≤ n0))
    (Q [V.one (Cell.bool (decide (n0 ≤ 122)))])
    (Q [V.one (Cell.bool false)])
theorem den59 (I : FuncId → List V → Post → T) (n0 : Int) (Q : Post) : denF Go.Proofs.Tryz.prog 0 (⟨[], []⟩) I 59 [V.one (Cell.int IntKind.u8 n0)] Q = vc59 I n0 Q := by kernel_rfl
/-- handbill/person.all -/
def vc60 (I : FuncId → List V → Post → T) (s0 : ByteArray) (p1 : Option (Nat × List (Nat × Nat))) (Q : Post) : T :=
  loopK (A := Int) 0
    (fun x2 => fun n3 => ifT (decide (n3 < (↑s0.size : Int)))
      (fun h4 =>
      ((0 ≤ n3) ∧
      n3 < (↑s0.size : Int)) ∧
      (funK p1 (fun i5 => fun cs6 => fun h7 => 
      I i5 (V.one (Cell.int IntKind.u8 (byteAt s0 n3)) :: cs6)
        (fun cs8 => fun h9 => 
        ∃ b10 : Bool, (cs8 = [V.one (Cell.bool b10)]) ∧
        (ifT (!b10)
          (Q [V.one (Cell.bool false)])
          (x2 (IntKind.i64.wrap (n3 + 1)))) h9) h7)) h4)
      (Q [V.one (Cell.bool true)]))
theorem den60 (I : FuncId → List V → Post → T) (s0 : ByteArray) (p1 : Option (Nat × List (Nat × Nat))) (Q : Post) : denF Go.Proofs.Tryz.prog 0 (⟨[], [(26, 261936, [(8, tk Go.Proofs.Tryz.prog 3)])]⟩) I 60 [V.one (Cell.str s0), V.one (Cell.func p1)] Q = vc60 I s0 p1 Q := by kernel_rfl
/-- handbill/person.IsKey$1 -/
def vc61 (I : FuncId → List V → Post → T) (n0 : Int) (Q : Post) : T :=
  fun h1 =>
  I 59 [V.one (Cell.int IntKind.u8 n0)]
    (fun cs2 => fun h3 => 
    ∃ b4 : Bool, (cs2 = [V.one (Cell.bool b4)]) ∧
    (ifT b4
      (Q [V.one (Cell.bool true)])
      (fun h5 =>
      I 62 [V.one (Cell.int IntKind.u8 n0)]
        (fun cs6 => fun h7 => 
        ∃ b8 : Bool, (cs6 = [V.one (Cell.bool b8)]) ∧
        (ifT b8
          (Q [V.one (Cell.bool true)])
          (ifT (decide (n0 = 45))
            (Q [V.one (Cell.bool true)])
            (Q [V.one (Cell.bool (decide (n0 = 95)))]))) h7) h5)) h3) h1
theorem den61 (I : FuncId → List V → Post → T) (n0 : Int) (Q : Post) : denF Go.Proofs.Tryz.prog 0 (⟨[], []⟩) I 61 [V.one (Cell.int IntKind.u8 n0)] Q = vc61 I n0 Q := by kernel_rfl
/-- handbill/person.digit -/
def vc62 (I : FuncId → List V → Post → T) (n0 : Int) (Q : Post) : T :=
  ifT (decide (48 ≤ n0))
    (Q [V.one (Cell.bool (decide (n0 ≤ 57)))])
    (Q [V.one (Cell.bool false)])
theorem den62 (I : FuncId → List V → Post → T) (n0 : Int) (Q : Post) : denF Go.Proofs.Tryz.prog 0 (⟨[], []⟩) I 62 [V.one (Cell.int IntKind.u8 n0)] Q = vc62 I n0 Q := by kernel_rfl
/-- handbill/measure.isAct -/
def vc23 (I : FuncId → List V → Post → T) (n0 : Int) (Q : Post) : T :=
  fun h1 =>
  I 25 [V.one (Cell.int IntKind.i64 n0), V.one (Cell.int IntKind.i64 1), V.one (Cell.int IntKind.i64 4)]
    (fun cs2 => fun h3 => 
    ∃ b4 : Bool, (cs2 = [V.one (Cell.bool b4)]) ∧
    Q [V.one (Cell.bool b4)] h3) h1
theorem den23 (I : FuncId → List V → Post → T) (n0 : Int) (Q : Post) : denF Go.Proofs.Tryz.prog 0 (⟨[], []⟩) I 23 [V.one (Cell.int IntKind.i64 n0)] Q = vc23 I n0 Q := by kernel_rfl
/-- handbill/measure.count -/
def vc26 (I : FuncId → List V → Post → T) (p0 : Option (Nat × Nat)) (b1 : Bool) (b2 : Bool) (b3 : Bool) (b4 : Bool) (b5 : Bool) (Q : Post) : T :=
  joinK (A := Bool)
    (fun b6 => derefK p0 (fun i7 => fun i8 => fun h9 =>
    ∃ n10 : Int, (h9.read i7 (i8 + 1) 1 = some [Cell.int IntKind.i64 n10]) ∧
    (derefK p0 (fun i11 => fun i12 => fun h13 =>
    (storeK [] i11 (i12 + 1) [Cell.int IntKind.i64 (IntKind.i64.wrap (n10 + 1))] (joinK (A := Sl × Int × Int)
      (uncur fun l14 => uncur fun n15 n16 => loopK (A := Int) n16
        (fun x17 => fun n18 => ifT (decide (n18 < n15))
          (fun h19 =>
          ((0 ≤ n18) ∧
          n18 < (↑l14.len : Int)) ∧
          (derefK l14.a (fun i20 => fun i21 => fun h22 =>
          ∃ b23 : Bool, ∃ p24 : Option (Nat × Nat), (h22.read i20 (i21 + n18.toNat * 2) 2 = some [Cell.bool b23, Cell.ptr p24]) ∧
          (ifT b23
            (derefK p24 (fun i25 => fun i26 => fun h27 =>
            ∃ n28 : Int, (h27.read i25 i26 1 = some [Cell.int IntKind.i64 n28]) ∧
            (derefK p24 (fun i29 => fun i30 => fun h31 => 
            (storeK [] i29 i30 [Cell.int IntKind.i64 (IntKind.i64.wrap (n28 + 1))] (x17 (IntKind.i64.wrap (n18 + 1)))) h31)) h27))
            (x17 (IntKind.i64.wrap (n18 + 1)))) h22)) h19)
          (Q [])))
      (fun x32 => ifT b2
        (derefK p0 (fun i33 => fun i34 => derefK p0 (fun i35 => fun i36 => derefK p0 (fun i37 => fun i38 => derefK p0 (fun i39 => fun i40 => fun h41 =>
        (newK (.cells false [Cell.bool true, Cell.ptr (some (i33, i34 + 2)), Cell.bool b6, Cell.ptr (some (i35, i36 + 3)), Cell.bool b4, Cell.ptr (some (i37, i38 + 4)), Cell.bool b5, Cell.ptr (some (i39, i40 + 5))]) (fun i42 => fun h43 => 
        x32 (({ a := some (i42, 0), len := 4 }, (↑4 : Int), 0)) h43)) h41)))))
        (derefK p0 (fun i44 => fun i45 => derefK p0 (fun i46 => fun i47 => derefK p0 (fun i48 => fun i49 => derefK p0 (fun i50 => fun i51 => fun h52 =>
        (newK (.cells false [Cell.bool b6, Cell.ptr (some (i44, i45 + 2)), Cell.bool b6, Cell.ptr (some (i46, i47 + 3)), Cell.bool b4, Cell.ptr (some (i48, i49 + 4)), Cell.bool b5, Cell.ptr (some (i50, i51 + 5))]) (fun i53 => fun h54 => 
        x32 (({ a := some (i53, 0), len := 4 }, (↑4 : Int), 0)) h54)) h52)))))))) h13)) h9))
    (fun x55 => ifT b3
      (x55 true)
      (x55 b4))
theorem den26 (I : FuncId → List V → Post → T) (p0 : Option (Nat × Nat)) (b1 : Bool) (b2 : Bool) (b3 : Bool) (b4 : Bool) (b5 : Bool) (Q : Post) : denF Go.Proofs.Tryz.prog 72 (⟨[(6, 8080, [(4, tk Go.Proofs.Tryz.prog 4)]), (30, 562949952372736, [(46, tk Go.Proofs.Tryz.prog 95), (47, tk Go.Proofs.Tryz.prog 3), (48, tk Go.Proofs.Tryz.prog 3)])], [(62, 2305561534236983360, [(48, tk Go.Proofs.Tryz.prog 3)])]⟩) I 26 [V.one (Cell.ptr p0), V.agg [Cell.bool b1, Cell.bool b2, Cell.bool b3, Cell.bool b4, Cell.bool b5]] Q = vc26 I p0 b1 b2 b3 b4 b5 Q := by kernel_rfl
/-- slices.Sorted[string] -/
def vc27 (I : FuncId → List V → Post → T) (p0 : Option (Nat × List (Nat × Nat))) (Q : Post) : T :=
  fun h1 =>
  I 45 [V.one (Cell.func p0)]
    (fun cs2 => fun h3 => 
    ∃ l4 : Sl, (cs2 = [V.one (Cell.slice 1 l4)]) ∧
    I 46 [V.one (Cell.slice 1 l4)]
      (fun cs5 => fun h6 => 
      (cs5 = []) ∧
      Q [V.one (Cell.slice 1 l4)] h6) h3) h1
theorem den27 (I : FuncId → List V → Post → T) (p0 : Option (Nat × List (Nat × Nat))) (Q : Post) : denF Go.Proofs.Tryz.prog 0 (⟨[], []⟩) I 27 [V.one (Cell.func p0)] Q = vc27 I p0 Q := by kernel_rfl
/-- slices.Collect[string] -/
def vc45 (I : FuncId → List V → Post → T) (p0 : Option (Nat × List (Nat × Nat))) (Q : Post) : T :=
  fun h1 =>
  I 63 [V.one (Cell.slice 1 { a := none, len := 0 }), V.one (Cell.func p0)]
    (fun cs2 => fun h3 => 
    ∃ l4 : Sl, (cs2 = [V.one (Cell.slice 1 l4)]) ∧
    Q [V.one (Cell.slice 1 l4)] h3) h1
theorem den45 (I : FuncId → List V → Post → T) (p0 : Option (Nat × List (Nat × Nat))) (Q : Post) : denF Go.Proofs.Tryz.prog 0 (⟨[], []⟩) I 45 [V.one (Cell.func p0)] Q = vc45 I p0 Q := by kernel_rfl
/-- slices.Sort[[]string,string] -/
def vc46 (I : FuncId → List V → Post → T) (l0 : Sl) (Q : Post) : T :=
  fun h1 =>
  I 53 [V.one (Cell.int IntKind.u64 (IntKind.u64.wrap (↑l0.len : Int)))]
    (fun cs2 => fun h3 => 
    ∃ n4 : Int, (cs2 = [V.one (Cell.int IntKind.i64 n4)]) ∧
    I 64 [V.one (Cell.slice 1 l0), V.one (Cell.int IntKind.i64 0), V.one (Cell.int IntKind.i64 (↑l0.len : Int)), V.one (Cell.int IntKind.i64 n4)]
      (fun cs5 => fun h6 => 
      (cs5 = []) ∧
      Q [] h6) h3) h1
theorem den46 (I : FuncId → List V → Post → T) (l0 : Sl) (Q : Post) : denF Go.Proofs.Tryz.prog 0 (⟨[], []⟩) I 46 [V.one (Cell.slice 1 l0)] Q = vc46 I l0 Q := by kernel_rfl
/-- math/bits.Len -/
def vc53 (I : FuncId → List V → Post → T) (n0 : Int) (Q : Post) : T :=
  fun h1 =>
  I 75 [V.one (Cell.int IntKind.u64 n0)]
    (fun cs2 => fun h3 => 
    ∃ n4 : Int, (cs2 = [V.one (Cell.int IntKind.i64 n4)]) ∧
    Q [V.one (Cell.int IntKind.i64 n4)] h3) h1
theorem den53 (I : FuncId → List V → Post → T) (n0 : Int) (Q : Post) : denF Go.Proofs.Tryz.prog 0 (⟨[], []⟩) I 53 [V.one (Cell.int IntKind.u64 n0)] Q = vc53 I n0 Q := by kernel_rfl
/-- math/bits.Len32 -/
def vc74 (I : FuncId → List V → Post → T) (n0 : Int) (Q : Post) : T :=
  ifT (decide (n0 ≥ 65536))
    (no)
    (ifT (decide (n0 ≥ 256))
      (no)
      (fun h1 =>
      ((0 ≤ IntKind.u8.wrap n0) ∧
      IntKind.u8.wrap n0 < (↑256 : Int)) ∧
      Q [V.one (Cell.int IntKind.i64 (IntKind.i64.wrap (0 + IntKind.i64.wrap (byteAt { data := #[0, 1, 2, 2, 3, 3, 3, 3, 4, 4, 4, 4, 4, 4, 4, 4, 5, 5, 5, 5, 5, 5, 5, 5, 5, 5, 5, 5, 5, 5, 5, 5, 6, 6, 6, 6, 6, 6, 6, 6, 6, 6, 6, 6, 6, 6, 6, 6, 6, 6, 6, 6, 6, 6, 6, 6, 6, 6, 6, 6, 6, 6, 6, 6, 7, 7, 7, 7, 7, 7, 7, 7, 7, 7, 7, 7, 7, 7, 7, 7, 7, 7, 7, 7, 7, 7, 7, 7, 7, 7, 7, 7, 7, 7, 7, 7, 7, 7, 7, 7, 7, 7, 7, 7, 7, 7, 7, 7, 7, 7, 7, 7, 7, 7, 7, 7, 7, 7, 7, 7, 7, 7, 7, 7, 7, 7, 7, 7, 8, 8, 8, 8, 8, 8, 8, 8, 8, 8, 8, 8, 8, 8, 8, 8, 8, 8, 8, 8, 8, 8, 8, 8, 8, 8, 8, 8, 8, 8, 8, 8, 8, 8, 8, 8, 8, 8, 8, 8, 8, 8, 8, 8, 8, 8, 8, 8, 8, 8, 8, 8, 8, 8, 8, 8, 8, 8, 8, 8, 8, 8, 8, 8, 8, 8, 8, 8, 8, 8, 8, 8, 8, 8, 8, 8, 8, 8, 8, 8, 8, 8, 8, 8, 8, 8, 8, 8, 8, 8, 8, 8, 8, 8, 8, 8, 8, 8, 8, 8, 8, 8, 8, 8, 8, 8, 8, 8, 8, 8, 8, 8, 8, 8, 8, 8, 8, 8, 8, 8, 8, 8, 8, 8, 8, 8, 8, 8] } (IntKind.u8.wrap n0)))))] h1))
theorem den74 (I : FuncId → List V → Post → T) (n0 : Int) (Q : Post) : denF Go.Proofs.Tryz.prog 0 (⟨[], []⟩) I 74 [V.one (Cell.int IntKind.u32 n0)] Q = vc74 I n0 Q := by kernel_rfl
/-- math/bits.Len64 -/
def vc75 (I : FuncId → List V → Post → T) (n0 : Int) (Q : Post) : T :=
  joinK (A := Int × Int)
    (uncur fun n1 n2 => ifT (decide (n1 ≥ 65536))
      (ifT (decide (shr IntKind.u64 n1 16 ≥ 256))
        (fun h3 =>
        ((0 ≤ IntKind.u8.wrap (shr IntKind.u64 (shr IntKind.u64 n1 16) 8)) ∧
        IntKind.u8.wrap (shr IntKind.u64 (shr IntKind.u64 n1 16) 8) < (↑256 : Int)) ∧
        Q [V.one (Cell.int IntKind.i64 (IntKind.i64.wrap (IntKind.i64.wrap (IntKind.i64.wrap (n2 + 16) + 8) + IntKind.i64.wrap (byteAt { data := #[0, 1, 2, 2, 3, 3, 3, 3, 4, 4, 4, 4, 4, 4, 4, 4, 5, 5, 5, 5, 5, 5, 5, 5, 5, 5, 5, 5, 5, 5, 5, 5, 6, 6, 6, 6, 6, 6, 6, 6, 6, 6, 6, 6, 6, 6, 6, 6, 6, 6, 6, 6, 6, 6, 6, 6, 6, 6, 6, 6, 6, 6, 6, 6, 7, 7, 7, 7, 7, 7, 7, 7, 7, 7, 7, 7, 7, 7, 7, 7, 7, 7, 7, 7, 7, 7, 7, 7, 7, 7, 7, 7, 7, 7, 7, 7, 7, 7, 7, 7, 7, 7, 7, 7, 7, 7, 7, 7, 7, 7, 7, 7, 7, 7, 7, 7, 7, 7, 7, 7, 7, 7, 7, 7, 7, 7, 7, 7, 8, 8, 8, 8, 8, 8, 8, 8, 8, 8, 8, 8, 8, 8, 8, 8, 8, 8, 8, 8, 8, 8, 8, 8, 8, 8, 8, 8, 8, 8, 8, 8, 8, 8, 8, 8, 8, 8, 8, 8, 8, 8, 8, 8, 8, 8, 8, 8, 8, 8, 8, 8, 8, 8, 8, 8, 8, 8, 8, 8, 8, 8, 8, 8, 8, 8, 8, 8, 8, 8, 8, 8, 8, 8, 8, 8, 8, 8, 8, 8, 8, 8, 8, 8, 8, 8, 8, 8, 8, 8, 8, 8, 8, 8, 8, 8, 8, 8, 8, 8, 8, 8, 8, 8, 8, 8, 8, 8, 8, 8, 8, 8, 8, 8, 8, 8, 8, 8, 8, 8, 8, 8, 8, 8, 8, 8, 8, 8] } (IntKind.u8.wrap (shr IntKind.u64 (shr IntKind.u64 n1 16) 8))))))] h3)
        (fun h4 =>
        ((0 ≤ IntKind.u8.wrap (shr IntKind.u64 n1 16)) ∧
        IntKind.u8.wrap (shr IntKind.u64 n1 16) < (↑256 : Int)) ∧
        Q [V.one (Cell.int IntKind.i64 (IntKind.i64.wrap (IntKind.i64.wrap (n2 + 16) + IntKind.i64.wrap (byteAt { data := #[0, 1, 2, 2, 3, 3, 3, 3, 4, 4, 4, 4, 4, 4, 4, 4, 5, 5, 5, 5, 5, 5, 5, 5, 5, 5, 5, 5, 5, 5, 5, 5, 6, 6, 6, 6, 6, 6, 6, 6, 6, 6, 6, 6, 6, 6, 6, 6, 6, 6, 6, 6, 6, 6, 6, 6, 6, 6, 6, 6, 6, 6, 6, 6, 7, 7, 7, 7, 7, 7, 7, 7, 7, 7, 7, 7, 7, 7, 7, 7, 7, 7, 7, 7, 7, 7, 7, 7, 7, 7, 7, 7, 7, 7, 7, 7, 7, 7, 7, 7, 7, 7, 7, 7, 7, 7, 7, 7, 7, 7, 7, 7, 7, 7, 7, 7, 7, 7, 7, 7, 7, 7, 7, 7, 7, 7, 7, 7, 8, 8, 8, 8, 8, 8, 8, 8, 8, 8, 8, 8, 8, 8, 8, 8, 8, 8, 8, 8, 8, 8, 8, 8, 8, 8, 8, 8, 8, 8, 8, 8, 8, 8, 8, 8, 8, 8, 8, 8, 8, 8, 8, 8, 8, 8, 8, 8, 8, 8, 8, 8, 8, 8, 8, 8, 8, 8, 8, 8, 8, 8, 8, 8, 8, 8, 8, 8, 8, 8, 8, 8, 8, 8, 8, 8, 8, 8, 8, 8, 8, 8, 8, 8, 8, 8, 8, 8, 8, 8, 8, 8, 8, 8, 8, 8, 8, 8, 8, 8, 8, 8, 8, 8, 8, 8, 8, 8, 8, 8, 8, 8, 8, 8, 8, 8, 8, 8, 8, 8, 8, 8, 8, 8, 8, 8, 8, 8] } (IntKind.u8.wrap (shr IntKind.u64 n1 16))))))] h4))
      (ifT (decide (n1 ≥ 256))
        (fun h5 =>
        ((0 ≤ IntKind.u8.wrap (shr IntKind.u64 n1 8)) ∧
        IntKind.u8.wrap (shr IntKind.u64 n1 8) < (↑256 : Int)) ∧
        Q [V.one (Cell.int IntKind.i64 (IntKind.i64.wrap (IntKind.i64.wrap (n2 + 8) + IntKind.i64.wrap (byteAt { data := #[0, 1, 2, 2, 3, 3, 3, 3, 4, 4, 4, 4, 4, 4, 4, 4, 5, 5, 5, 5, 5, 5, 5, 5, 5, 5, 5, 5, 5, 5, 5, 5, 6, 6, 6, 6, 6, 6, 6, 6, 6, 6, 6, 6, 6, 6, 6, 6, 6, 6, 6, 6, 6, 6, 6, 6, 6, 6, 6, 6, 6, 6, 6, 6, 7, 7, 7, 7, 7, 7, 7, 7, 7, 7, 7, 7, 7, 7, 7, 7, 7, 7, 7, 7, 7, 7, 7, 7, 7, 7, 7, 7, 7, 7, 7, 7, 7, 7, 7, 7, 7, 7, 7, 7, 7, 7, 7, 7, 7, 7, 7, 7, 7, 7, 7, 7, 7, 7, 7, 7, 7, 7, 7, 7, 7, 7, 7, 7, 8, 8, 8, 8, 8, 8, 8, 8, 8, 8, 8, 8, 8, 8, 8, 8, 8, 8, 8, 8, 8, 8, 8, 8, 8, 8, 8, 8, 8, 8, 8, 8, 8, 8, 8, 8, 8, 8, 8, 8, 8, 8, 8, 8, 8, 8, 8, 8, 8, 8, 8, 8, 8, 8, 8, 8, 8, 8, 8, 8, 8, 8, 8, 8, 8, 8, 8, 8, 8, 8, 8, 8, 8, 8, 8, 8, 8, 8, 8, 8, 8, 8, 8, 8, 8, 8, 8, 8, 8, 8, 8, 8, 8, 8, 8, 8, 8, 8, 8, 8, 8, 8, 8, 8, 8, 8, 8, 8, 8, 8, 8, 8, 8, 8, 8, 8, 8, 8, 8, 8, 8, 8, 8, 8, 8, 8, 8, 8] } (IntKind.u8.wrap (shr IntKind.u64 n1 8))))))] h5)
        (fun h6 =>
        ((0 ≤ IntKind.u8.wrap n1) ∧
        IntKind.u8.wrap n1 < (↑256 : Int)) ∧
        Q [V.one (Cell.int IntKind.i64 (IntKind.i64.wrap (n2 + IntKind.i64.wrap (byteAt { data := #[0, 1, 2, 2, 3, 3, 3, 3, 4, 4, 4, 4, 4, 4, 4, 4, 5, 5, 5, 5, 5, 5, 5, 5, 5, 5, 5, 5, 5, 5, 5, 5, 6, 6, 6, 6, 6, 6, 6, 6, 6, 6, 6, 6, 6, 6, 6, 6, 6, 6, 6, 6, 6, 6, 6, 6, 6, 6, 6, 6, 6, 6, 6, 6, 7, 7, 7, 7, 7, 7, 7, 7, 7, 7, 7, 7, 7, 7, 7, 7, 7, 7, 7, 7, 7, 7, 7, 7, 7, 7, 7, 7, 7, 7, 7, 7, 7, 7, 7, 7, 7, 7, 7, 7, 7, 7, 7, 7, 7, 7, 7, 7, 7, 7, 7, 7, 7, 7, 7, 7, 7, 7, 7, 7, 7, 7, 7, 7, 8, 8, 8, 8, 8, 8, 8, 8, 8, 8, 8, 8, 8, 8, 8, 8, 8, 8, 8, 8, 8, 8, 8, 8, 8, 8, 8, 8, 8, 8, 8, 8, 8, 8, 8, 8, 8, 8, 8, 8, 8, 8, 8, 8, 8, 8, 8, 8, 8, 8, 8, 8, 8, 8, 8, 8, 8, 8, 8, 8, 8, 8, 8, 8, 8, 8, 8, 8, 8, 8, 8, 8, 8, 8, 8, 8, 8, 8, 8, 8, 8, 8, 8, 8, 8, 8, 8, 8, 8, 8, 8, 8, 8, 8, 8, 8, 8, 8, 8, 8, 8, 8, 8, 8, 8, 8, 8, 8, 8, 8, 8, 8, 8, 8, 8, 8, 8, 8, 8, 8, 8, 8, 8, 8, 8, 8, 8, 8] } (IntKind.u8.wrap n1)))))] h6)))
    (fun x7 => ifT (decide (n0 ≥ 4294967296))
      (x7 ((shr IntKind.u64 n0 32, 32)))
      (x7 ((n0, 0))))
theorem den75 (I : FuncId → List V → Post → T) (n0 : Int) (Q : Post) : denF Go.Proofs.Tryz.prog 0 (⟨[(13, 101, [(0, tk Go.Proofs.Tryz.prog 117), (2, tk Go.Proofs.Tryz.prog 3)])], []⟩) I 75 [V.one (Cell.int IntKind.u64 n0)] Q = vc75 I n0 Q := by kernel_rfl
/-- slices.pdqsortOrdered[string] -/
def vc64 (I : FuncId → List V → Post → T) (l0 : Sl) (n1 : Int) (n2 : Int) (n3 : Int) (Q : Post) : T :=
  loopK (A := Int × Int × Int × Bool × Bool) ((n1, n2, n3, true, true))
    (fun x4 => uncur fun n5 => uncur fun n6 => uncur fun n7 => uncur fun b8 b9 => ifT (decide (IntKind.i64.wrap (n6 - n5) ≤ 12))
      (fun h10 =>
      I 79 [V.one (Cell.slice 1 l0), V.one (Cell.int IntKind.i64 n5), V.one (Cell.int IntKind.i64 n6)]
        (fun cs11 => fun h12 => 
        (cs11 = []) ∧
        Q [] h12) h10)
      (ifT (decide (n7 = 0))
        (fun h13 =>
        I 80 [V.one (Cell.slice 1 l0), V.one (Cell.int IntKind.i64 n5), V.one (Cell.int IntKind.i64 n6)]
          (fun cs14 => fun h15 => 
          (cs14 = []) ∧
          Q [] h15) h13)
        (joinK (A := Int)
          (fun n16 => fun h17 => 
          I 82 [V.one (Cell.slice 1 l0), V.one (Cell.int IntKind.i64 n5), V.one (Cell.int IntKind.i64 n6)]
            (fun cs18 => fun h19 => 
            ∃ n20 : Int, ∃ n21 : Int, (cs18 = [V.one (Cell.int IntKind.i64 n20), V.one (Cell.int IntKind.i64 n21)]) ∧
            (joinK (A := Int × Int)
              (uncur fun n22 n23 => joinK (A := Bool)
                (fun b24 => joinK (A := PUnit)
                  (fun x25 => joinK (A := Bool)
                    (fun b26 => ifT b26
                      (fun h27 =>
                      I 86 [V.one (Cell.slice 1 l0), V.one (Cell.int IntKind.i64 n5), V.one (Cell.int IntKind.i64 n6), V.one (Cell.int IntKind.i64 n22)]
                        (fun cs28 => fun h29 => 
                        ∃ n30 : Int, (cs28 = [V.one (Cell.int IntKind.i64 n30)]) ∧
                        x4 ((n30, n6, n16, b8, b9)) h29) h27)
                      (fun h31 =>
                      I 87 [V.one (Cell.slice 1 l0), V.one (Cell.int IntKind.i64 n5), V.one (Cell.int IntKind.i64 n6), V.one (Cell.int IntKind.i64 n22)]
                        (fun cs32 => fun h33 => 
                        ∃ n34 : Int, ∃ b35 : Bool, (cs32 = [V.one (Cell.int IntKind.i64 n34), V.one (Cell.bool b35)]) ∧
                        (ifT (decide (IntKind.i64.wrap (n34 - n5) < IntKind.i64.wrap (n6 - n34)))
                          (fun h36 =>
                          I 64 [V.one (Cell.slice 1 l0), V.one (Cell.int IntKind.i64 n5), V.one (Cell.int IntKind.i64 n34), V.one (Cell.int IntKind.i64 n16)]
                            (fun cs37 => fun h38 => 
                            (cs37 = []) ∧
                            x4 ((IntKind.i64.wrap (n34 + 1), n6, n16, decide (IntKind.i64.wrap (n34 - n5) ≥ IntKind.i64.wrap ((IntKind.i64.wrap (n6 - n5)).tdiv 8)), b35)) h38) h36)
                          (fun h39 =>
                          I 64 [V.one (Cell.slice 1 l0), V.one (Cell.int IntKind.i64 (IntKind.i64.wrap (n34 + 1))), V.one (Cell.int IntKind.i64 n6), V.one (Cell.int IntKind.i64 n16)]
                            (fun cs40 => fun h41 => 
                            (cs40 = []) ∧
                            x4 ((n5, n34, n16, decide (IntKind.i64.wrap (n6 - n34) ≥ IntKind.i64.wrap ((IntKind.i64.wrap (n6 - n5)).tdiv 8)), b35)) h41) h39)) h33) h31))
                    (fun x42 => ifT (decide (n5 > 0))
                      (fun h43 =>
                      ((0 ≤ IntKind.i64.wrap (n5 - 1)) ∧
                      IntKind.i64.wrap (n5 - 1) < (↑l0.len : Int)) ∧
                      (derefK l0.a (fun i44 => fun i45 => fun h46 =>
                      ∃ s47 : ByteArray, (h46.read i44 (i45 + (IntKind.i64.wrap (n5 - 1)).toNat * 1) 1 = some [Cell.str s47]) ∧
                      ((0 ≤ n22) ∧
                      n22 < (↑l0.len : Int)) ∧
                      (derefK l0.a (fun i48 => fun i49 => fun h50 =>
                      ∃ s51 : ByteArray, (h50.read i48 (i49 + n22.toNat * 1) 1 = some [Cell.str s51]) ∧
                      I 85 [V.one (Cell.str s47), V.one (Cell.str s51)]
                        (fun cs52 => fun h53 => 
                        ∃ b54 : Bool, (cs52 = [V.one (Cell.bool b54)]) ∧
                        x42 (!b54) h53) h50)) h46)) h43)
                      (x42 false)))
                  (fun x55 => ifT b24
                    (fun h56 =>
                    I 84 [V.one (Cell.slice 1 l0), V.one (Cell.int IntKind.i64 n5), V.one (Cell.int IntKind.i64 n6)]
                      (fun cs57 => fun h58 => 
                      ∃ b59 : Bool, (cs57 = [V.one (Cell.bool b59)]) ∧
                      (ifT b59
                        (Q [])
                        (x55 ())) h58) h56)
                    (x55 ())))
                (fun x60 => ifT b8
                  (ifT b9
                    (x60 (decide (n23 = 1)))
                    (x60 false))
                  (x60 false)))
              (fun x61 => ifT (decide (n21 = 2))
                (fun h62 =>
                I 83 [V.one (Cell.slice 1 l0), V.one (Cell.int IntKind.i64 n5), V.one (Cell.int IntKind.i64 n6)]
                  (fun cs63 => fun h64 => 
                  (cs63 = []) ∧
                  x61 ((IntKind.i64.wrap (IntKind.i64.wrap (n6 - 1) - IntKind.i64.wrap (n20 - n5)), 1)) h64) h62)
                (x61 ((n20, n21))))) h19) h17)
          (fun x65 => ifT (!b8)
            (fun h66 =>
            I 81 [V.one (Cell.slice 1 l0), V.one (Cell.int IntKind.i64 n5), V.one (Cell.int IntKind.i64 n6)]
              (fun cs67 => fun h68 => 
              (cs67 = []) ∧
              x65 (IntKind.i64.wrap (n7 - 1)) h68) h66)
            (x65 n7)))))
theorem den64 (I : FuncId → List V → Post → T) (l0 : Sl) (n1 : Int) (n2 : Int) (n3 : Int) (Q : Post) : denF Go.Proofs.Tryz.prog 0 (⟨[(1821, 4329327034376, [(3, tk Go.Proofs.Tryz.prog 3)]), (7293, 2303591209400014848, [(11, tk Go.Proofs.Tryz.prog 3), (12, tk Go.Proofs.Tryz.prog 108)]), (14588, 587989967349491957760, [(68, tk Go.Proofs.Tryz.prog 4)]), (14589, 8854437155380584775680, []), (29180, 309475565088379329434353664, [(87, tk Go.Proofs.Tryz.prog 4)])], [(14, 21778071482940061661655974875633165532942, [(1, tk Go.Proofs.Tryz.prog 3), (2, tk Go.Proofs.Tryz.prog 3), (3, tk Go.Proofs.Tryz.prog 3), (8, tk Go.Proofs.Tryz.prog 4), (9, tk Go.Proofs.Tryz.prog 4)])]⟩) I 64 [V.one (Cell.slice 1 l0), V.one (Cell.int IntKind.i64 n1), V.one (Cell.int IntKind.i64 n2), V.one (Cell.int IntKind.i64 n3)] Q = vc64 I l0 n1 n2 n3 Q := by kernel_rfl
/-- slices.insertionSortOrdered[string] -/
def vc79 (I : FuncId → List V → Post → T) (l0 : Sl) (n1 : Int) (n2 : Int) (Q : Post) : T :=
  loopK (A := Int) (IntKind.i64.wrap (n1 + 1))
    (fun x3 => fun n4 => ifT (decide (n4 < n2))
      (loopK (A := Int) n4
        (fun x5 => fun n6 => joinK (A := Bool)
          (fun b7 => ifT b7
            (fun h8 =>
            ((0 ≤ IntKind.i64.wrap (n6 - 1)) ∧
            IntKind.i64.wrap (n6 - 1) < (↑l0.len : Int)) ∧
            (derefK l0.a (fun i9 => fun i10 => fun h11 =>
            ∃ s12 : ByteArray, (h11.read i9 (i10 + (IntKind.i64.wrap (n6 - 1)).toNat * 1) 1 = some [Cell.str s12]) ∧
            ((0 ≤ n6) ∧
            n6 < (↑l0.len : Int)) ∧
            (derefK l0.a (fun i13 => fun i14 => fun h15 =>
            ∃ s16 : ByteArray, (h15.read i13 (i14 + n6.toNat * 1) 1 = some [Cell.str s16]) ∧
            ((0 ≤ n6) ∧
            n6 < (↑l0.len : Int)) ∧
            (derefK l0.a (fun i17 => fun i18 => fun h19 => 
            (storeK [] i17 (i18 + n6.toNat * 1) [Cell.str s12] (fun h20 =>
            ((0 ≤ IntKind.i64.wrap (n6 - 1)) ∧
            IntKind.i64.wrap (n6 - 1) < (↑l0.len : Int)) ∧
            (derefK l0.a (fun i21 => fun i22 => fun h23 => 
            (storeK [] i21 (i22 + (IntKind.i64.wrap (n6 - 1)).toNat * 1) [Cell.str s16] (x5 (IntKind.i64.wrap (n6 - 1)))) h23)) h20)) h19)) h15)) h11)) h8)
            (x3 (IntKind.i64.wrap (n4 + 1))))
          (fun x24 => ifT (decide (n6 > n1))
            (fun h25 =>
            ((0 ≤ n6) ∧
            n6 < (↑l0.len : Int)) ∧
            (derefK l0.a (fun i26 => fun i27 => fun h28 =>
            ∃ s29 : ByteArray, (h28.read i26 (i27 + n6.toNat * 1) 1 = some [Cell.str s29]) ∧
            ((0 ≤ IntKind.i64.wrap (n6 - 1)) ∧
            IntKind.i64.wrap (n6 - 1) < (↑l0.len : Int)) ∧
            (derefK l0.a (fun i30 => fun i31 => fun h32 =>
            ∃ s33 : ByteArray, (h32.read i30 (i31 + (IntKind.i64.wrap (n6 - 1)).toNat * 1) 1 = some [Cell.str s33]) ∧
            I 85 [V.one (Cell.str s29), V.one (Cell.str s33)]
              (fun cs34 => fun h35 => 
              ∃ b36 : Bool, (cs34 = [V.one (Cell.bool b36)]) ∧
              x24 b36 h35) h32)) h28)) h25)
            (x24 false))))
      (Q []))
theorem den79 (I : FuncId → List V → Post → T) (l0 : Sl) (n1 : Int) (n2 : Int) (Q : Post) : denF Go.Proofs.Tryz.prog 0 (⟨[(3216, 2147418112, [(30, tk Go.Proofs.Tryz.prog 4)])], [(6, 562949953420480, [(6, tk Go.Proofs.Tryz.prog 3)]), (402, 562949953355904, [(7, tk Go.Proofs.Tryz.prog 3)])]⟩) I 79 [V.one (Cell.slice 1 l0), V.one (Cell.int IntKind.i64 n1), V.one (Cell.int IntKind.i64 n2)] Q = vc79 I l0 n1 n2 Q := by kernel_rfl
/-- cmp.Less[string] -/
def vc85 (I : FuncId → List V → Post → T) (s0 : ByteArray) (s1 : ByteArray) (Q : Post) : T :=
  fun h2 =>
  I 98 [V.one (Cell.str s0)]
    (fun cs3 => fun h4 => 
    ∃ b5 : Bool, (cs3 = [V.one (Cell.bool b5)]) ∧
    (ifT b5
      (fun h6 =>
      I 98 [V.one (Cell.str s1)]
        (fun cs7 => fun h8 => 
        ∃ b9 : Bool, (cs7 = [V.one (Cell.bool b9)]) ∧
        (ifT (!b9)
          (Q [V.one (Cell.bool true)])
          (Q [V.one (Cell.bool (Op.bytesLess s0.toList s1.toList))])) h8) h6)
      (Q [V.one (Cell.bool (Op.bytesLess s0.toList s1.toList))])) h4) h2
theorem den85 (I : FuncId → List V → Post → T) (s0 : ByteArray) (s1 : ByteArray) (Q : Post) : denF Go.Proofs.Tryz.prog 0 (⟨[], []⟩) I 85 [V.one (Cell.str s0), V.one (Cell.str s1)] Q = vc85 I s0 s1 Q := by kernel_rfl
/-- cmp.isNaN[string] -/
def vc98 (I : FuncId → List V → Post → T) (s0 : ByteArray) (Q : Post) : T :=
  Q [V.one (Cell.bool (!decide (s0 = s0)))]
theorem den98 (I : FuncId → List V → Post → T) (s0 : ByteArray) (Q : Post) : denF Go.Proofs.Tryz.prog 0 (⟨[], []⟩) I 98 [V.one (Cell.str s0)] Q = vc98 I s0 Q := by kernel_rfl
/-- slices.heapSortOrdered[string] -/
def vc80 (I : FuncId → List V → Post → T) (l0 : Sl) (n1 : Int) (n2 : Int) (Q : Post) : T :=
  loopK (A := Int) (IntKind.i64.wrap ((IntKind.i64.wrap (IntKind.i64.wrap (n2 - n1) - 1)).tdiv 2))
    (fun x3 => fun n4 => ifT (decide (n4 ≥ 0))
      (fun h5 =>
      I 95 [V.one (Cell.slice 1 l0), V.one (Cell.int IntKind.i64 n4), V.one (Cell.int IntKind.i64 (IntKind.i64.wrap (n2 - n1))), V.one (Cell.int IntKind.i64 n1)]
        (fun cs6 => fun h7 => 
        (cs6 = []) ∧
        x3 (IntKind.i64.wrap (n4 - 1)) h7) h5)
      (loopK (A := Int) (IntKind.i64.wrap (IntKind.i64.wrap (n2 - n1) - 1))
        (fun x8 => fun n9 => ifT (decide (n9 ≥ 0))
          (fun h10 =>
          ((0 ≤ IntKind.i64.wrap (n1 + n9)) ∧
          IntKind.i64.wrap (n1 + n9) < (↑l0.len : Int)) ∧
          (derefK l0.a (fun i11 => fun i12 => fun h13 =>
          ∃ s14 : ByteArray, (h13.read i11 (i12 + (IntKind.i64.wrap (n1 + n9)).toNat * 1) 1 = some [Cell.str s14]) ∧
          ((0 ≤ n1) ∧
          n1 < (↑l0.len : Int)) ∧
          (derefK l0.a (fun i15 => fun i16 => fun h17 =>
          ∃ s18 : ByteArray, (h17.read i15 (i16 + n1.toNat * 1) 1 = some [Cell.str s18]) ∧
          ((0 ≤ n1) ∧
          n1 < (↑l0.len : Int)) ∧
          (derefK l0.a (fun i19 => fun i20 => fun h21 => 
          (storeK [] i19 (i20 + n1.toNat * 1) [Cell.str s14] (fun h22 =>
          ((0 ≤ IntKind.i64.wrap (n1 + n9)) ∧
          IntKind.i64.wrap (n1 + n9) < (↑l0.len : Int)) ∧
          (derefK l0.a (fun i23 => fun i24 => fun h25 => 
          (storeK [] i23 (i24 + (IntKind.i64.wrap (n1 + n9)).toNat * 1) [Cell.str s18] (fun h26 =>
          I 95 [V.one (Cell.slice 1 l0), V.one (Cell.int IntKind.i64 0), V.one (Cell.int IntKind.i64 n9), V.one (Cell.int IntKind.i64 n1)]
            (fun cs27 => fun h28 => 
            (cs27 = []) ∧
            x8 (IntKind.i64.wrap (n9 - 1)) h28) h26)) h25)) h22)) h21)) h17)) h13)) h10)
          (Q []))))
theorem den80 (I : FuncId → List V → Post → T) (l0 : Sl) (n1 : Int) (n2 : Int) (Q : Post) : denF Go.Proofs.Tryz.prog 0 (⟨[], [(122, 133956096, [(9, tk Go.Proofs.Tryz.prog 3)]), (126, 72057593501058048, [(10, tk Go.Proofs.Tryz.prog 3)])]⟩) I 80 [V.one (Cell.slice 1 l0), V.one (Cell.int IntKind.i64 n1), V.one (Cell.int IntKind.i64 n2)] Q = vc80 I l0 n1 n2 Q := by kernel_rfl
/-- slices.siftDownOrdered[string] -/
def vc95 (I : FuncId → List V → Post → T) (l0 : Sl) (n1 : Int) (n2 : Int) (n3 : Int) (Q : Post) : T :=
  loopK (A := Int) n1
    (fun x4 => fun n5 => ifT (decide (IntKind.i64.wrap (IntKind.i64.wrap (2 * n5) + 1) ≥ n2))
      (Q [])
      (joinK (A := Bool)
        (fun b6 => joinK (A := Int)
          (fun n7 => fun h8 => 
          ((0 ≤ IntKind.i64.wrap (n3 + n5)) ∧
          IntKind.i64.wrap (n3 + n5) < (↑l0.len : Int)) ∧
          (derefK l0.a (fun i9 => fun i10 => fun h11 =>
          ∃ s12 : ByteArray, (h11.read i9 (i10 + (IntKind.i64.wrap (n3 + n5)).toNat * 1) 1 = some [Cell.str s12]) ∧
          ((0 ≤ IntKind.i64.wrap (n3 + n7)) ∧
          IntKind.i64.wrap (n3 + n7) < (↑l0.len : Int)) ∧
          (derefK l0.a (fun i13 => fun i14 => fun h15 =>
          ∃ s16 : ByteArray, (h15.read i13 (i14 + (IntKind.i64.wrap (n3 + n7)).toNat * 1) 1 = some [Cell.str s16]) ∧
          I 85 [V.one (Cell.str s12), V.one (Cell.str s16)]
            (fun cs17 => fun h18 => 
            ∃ b19 : Bool, (cs17 = [V.one (Cell.bool b19)]) ∧
            (ifT (!b19)
              (Q [])
              (fun h20 =>
              ((0 ≤ IntKind.i64.wrap (n3 + n7)) ∧
              IntKind.i64.wrap (n3 + n7) < (↑l0.len : Int)) ∧
              (derefK l0.a (fun i21 => fun i22 => fun h23 =>
              ∃ s24 : ByteArray, (h23.read i21 (i22 + (IntKind.i64.wrap (n3 + n7)).toNat * 1) 1 = some [Cell.str s24]) ∧
              ((0 ≤ IntKind.i64.wrap (n3 + n5)) ∧
              IntKind.i64.wrap (n3 + n5) < (↑l0.len : Int)) ∧
              (derefK l0.a (fun i25 => fun i26 => fun h27 =>
              ∃ s28 : ByteArray, (h27.read i25 (i26 + (IntKind.i64.wrap (n3 + n5)).toNat * 1) 1 = some [Cell.str s28]) ∧
              ((0 ≤ IntKind.i64.wrap (n3 + n5)) ∧
              IntKind.i64.wrap (n3 + n5) < (↑l0.len : Int)) ∧
              (derefK l0.a (fun i29 => fun i30 => fun h31 => 
              (storeK [] i29 (i30 + (IntKind.i64.wrap (n3 + n5)).toNat * 1) [Cell.str s24] (fun h32 =>
              ((0 ≤ IntKind.i64.wrap (n3 + n7)) ∧
              IntKind.i64.wrap (n3 + n7) < (↑l0.len : Int)) ∧
              (derefK l0.a (fun i33 => fun i34 => fun h35 => 
              (storeK [] i33 (i34 + (IntKind.i64.wrap (n3 + n7)).toNat * 1) [Cell.str s28] (x4 n7)) h35)) h32)) h31)) h27)) h23)) h20)) h18) h15)) h11)) h8)
          (fun x36 => ifT b6
            (x36 (IntKind.i64.wrap (IntKind.i64.wrap (IntKind.i64.wrap (2 * n5) + 1) + 1)))
            (x36 (IntKind.i64.wrap (IntKind.i64.wrap (2 * n5) + 1)))))
        (fun x37 => ifT (decide (IntKind.i64.wrap (IntKind.i64.wrap (IntKind.i64.wrap (2 * n5) + 1) + 1) < n2))
          (fun h38 =>
          ((0 ≤ IntKind.i64.wrap (n3 + IntKind.i64.wrap (IntKind.i64.wrap (2 * n5) + 1))) ∧
          IntKind.i64.wrap (n3 + IntKind.i64.wrap (IntKind.i64.wrap (2 * n5) + 1)) < (↑l0.len : Int)) ∧
          (derefK l0.a (fun i39 => fun i40 => fun h41 =>
          ∃ s42 : ByteArray, (h41.read i39 (i40 + (IntKind.i64.wrap (n3 + IntKind.i64.wrap (IntKind.i64.wrap (2 * n5) + 1))).toNat * 1) 1 = some [Cell.str s42]) ∧
          ((0 ≤ IntKind.i64.wrap (IntKind.i64.wrap (n3 + IntKind.i64.wrap (IntKind.i64.wrap (2 * n5) + 1)) + 1)) ∧
          IntKind.i64.wrap (IntKind.i64.wrap (n3 + IntKind.i64.wrap (IntKind.i64.wrap (2 * n5) + 1)) + 1) < (↑l0.len : Int)) ∧
          (derefK l0.a (fun i43 => fun i44 => fun h45 =>
          ∃ s46 : ByteArray, (h45.read i43 (i44 + (IntKind.i64.wrap (IntKind.i64.wrap (n3 + IntKind.i64.wrap (IntKind.i64.wrap (2 * n5) + 1)) + 1)).toNat * 1) 1 = some [Cell.str s46]) ∧
          I 85 [V.one (Cell.str s42), V.one (Cell.str s46)]
            (fun cs47 => fun h48 => 
            ∃ b49 : Bool, (cs47 = [V.one (Cell.bool b49)]) ∧
            x37 b49 h48) h45)) h41)) h38)
          (x37 false))))
theorem den95 (I : FuncId → List V → Post → T) (l0 : Sl) (n1 : Int) (n2 : Int) (n3 : Int) (Q : Post) : denF Go.Proofs.Tryz.prog 0 (⟨[(396, 137438822400, [(36, tk Go.Proofs.Tryz.prog 4)]), (397, 412316860928, [(9, tk Go.Proofs.Tryz.prog 3)])], [(6, 75557863725914323417856, [(8, tk Go.Proofs.Tryz.prog 3)])]⟩) I 95 [V.one (Cell.slice 1 l0), V.one (Cell.int IntKind.i64 n1), V.one (Cell.int IntKind.i64 n2), V.one (Cell.int IntKind.i64 n3)] Q = vc95 I l0 n1 n2 n3 Q := by kernel_rfl
/-- slices.breakPatternsOrdered[string] -/
def vc81 (I : FuncId → List V → Post → T) (l0 : Sl) (n1 : Int) (n2 : Int) (Q : Post) : T :=
  ifT (decide (IntKind.i64.wrap (n2 - n1) ≥ 8))
    (fun h3 =>
    (newK (.cells false [Cell.int IntKind.u64 0]) (fun i4 => fun h5 => 
    (storeK [] i4 0 [Cell.int IntKind.u64 (IntKind.u64.wrap (IntKind.i64.wrap (n2 - n1)))] (fun h6 =>
    I 91 [V.one (Cell.int IntKind.i64 (IntKind.i64.wrap (n2 - n1)))]
      (fun cs7 => fun h8 => 
      ∃ n9 : Int, (cs7 = [V.one (Cell.int IntKind.u64 n9)]) ∧
      (loopK (A := Int) (IntKind.i64.wrap (IntKind.i64.wrap (n1 + IntKind.i64.wrap (IntKind.i64.wrap ((IntKind.i64.wrap (n2 - n1)).tdiv 4) * 2)) - 1))
        (fun x10 => fun n11 => ifT (decide (n11 ≤ IntKind.i64.wrap (IntKind.i64.wrap (n1 + IntKind.i64.wrap (IntKind.i64.wrap ((IntKind.i64.wrap (n2 - n1)).tdiv 4) * 2)) + 1)))
          (fun h12 =>
          I 92 [V.one (Cell.ptr (some (i4, 0)))]
            (fun cs13 => fun h14 => 
            ∃ n15 : Int, (cs13 = [V.one (Cell.int IntKind.u64 n15)]) ∧
            (joinK (A := Int)
              (fun n16 => fun h17 => 
              ((0 ≤ IntKind.i64.wrap (n1 + n16)) ∧
              IntKind.i64.wrap (n1 + n16) < (↑l0.len : Int)) ∧
              (derefK l0.a (fun i18 => fun i19 => fun h20 =>
              ∃ s21 : ByteArray, (h20.read i18 (i19 + (IntKind.i64.wrap (n1 + n16)).toNat * 1) 1 = some [Cell.str s21]) ∧
              ((0 ≤ n11) ∧
              n11 < (↑l0.len : Int)) ∧
              (derefK l0.a (fun i22 => fun i23 => fun h24 =>
              ∃ s25 : ByteArray, (h24.read i22 (i23 + n11.toNat * 1) 1 = some [Cell.str s25]) ∧
              ((0 ≤ n11) ∧
              n11 < (↑l0.len : Int)) ∧
              (derefK l0.a (fun i26 => fun i27 => fun h28 => 
              (storeK [] i26 (i27 + n11.toNat * 1) [Cell.str s21] (fun h29 =>
              ((0 ≤ IntKind.i64.wrap (n1 + n16)) ∧
              IntKind.i64.wrap (n1 + n16) < (↑l0.len : Int)) ∧
              (derefK l0.a (fun i30 => fun i31 => fun h32 => 
              (storeK [] i30 (i31 + (IntKind.i64.wrap (n1 + n16)).toNat * 1) [Cell.str s25] (x10 (IntKind.i64.wrap (n11 + 1)))) h32)) h29)) h28)) h24)) h20)) h17)
              (fun x33 => ifT (decide (IntKind.i64.wrap (IntKind.u64.wrap (↑(BitVec.ofInt 64 n15 &&& BitVec.ofInt 64 (IntKind.u64.wrap (n9 - 1))).toNat : Int)) ≥ IntKind.i64.wrap (n2 - n1)))
                (x33 (IntKind.i64.wrap (IntKind.i64.wrap (IntKind.u64.wrap (↑(BitVec.ofInt 64 n15 &&& BitVec.ofInt 64 (IntKind.u64.wrap (n9 - 1))).toNat : Int)) - IntKind.i64.wrap (n2 - n1))))
                (x33 (IntKind.i64.wrap (IntKind.u64.wrap (↑(BitVec.ofInt 64 n15 &&& BitVec.ofInt 64 (IntKind.u64.wrap (n9 - 1))).toNat : Int)))))) h14) h12)
          (Q []))) h8) h6)) h5)) h3)
    (Q [])
theorem den81 (I : FuncId → List V → Post → T) (l0 : Sl) (n1 : Int) (n2 : Int) (Q : Post) : denF Go.Proofs.Tryz.prog 0 (⟨[(30501, 123145302311936, [(10, tk Go.Proofs.Tryz.prog 3)])], [(238, 36893488147351995904, [(9, tk Go.Proofs.Tryz.prog 3)])]⟩) I 81 [V.one (Cell.slice 1 l0), V.one (Cell.int IntKind.i64 n1), V.one (Cell.int IntKind.i64 n2)] Q = vc81 I l0 n1 n2 Q := by kernel_rfl
/-- slices.nextPowerOfTwo -/
def vc91 (I : FuncId → List V → Post → T) (n0 : Int) (Q : Post) : T :=
  fun h1 =>
  I 53 [V.one (Cell.int IntKind.u64 (IntKind.u64.wrap n0))]
    (fun cs2 => fun h3 => 
    ∃ n4 : Int, (cs2 = [V.one (Cell.int IntKind.i64 n4)]) ∧
    (0 ≤ n4) ∧
    Q [V.one (Cell.int IntKind.u64 (shl IntKind.u64 1 n4))] h3) h1
theorem den91 (I : FuncId → List V → Post → T) (n0 : Int) (Q : Post) : denF Go.Proofs.Tryz.prog 0 (⟨[], []⟩) I 91 [V.one (Cell.int IntKind.i64 n0)] Q = vc91 I n0 Q := by kernel_rfl
/-- (*slices.xorshift).Next -/
def vc92 (I : FuncId → List V → Post → T) (p0 : Option (Nat × Nat)) (Q : Post) : T :=
  derefK p0 (fun i1 => fun i2 => fun h3 =>
  ∃ n4 : Int, (h3.read i1 i2 1 = some [Cell.int IntKind.u64 n4]) ∧
  (derefK p0 (fun i5 => fun i6 => fun h7 =>
  ∃ n8 : Int, (h7.read i5 i6 1 = some [Cell.int IntKind.u64 n8]) ∧
  (derefK p0 (fun i9 => fun i10 => fun h11 => 
  (storeK [] i9 i10 [Cell.int IntKind.u64 (IntKind.u64.wrap (↑(BitVec.ofInt 64 n4 ^^^ BitVec.ofInt 64 (shl IntKind.u64 n8 13)).toNat : Int))] (derefK p0 (fun i12 => fun i13 => fun h14 =>
  ∃ n15 : Int, (h14.read i12 i13 1 = some [Cell.int IntKind.u64 n15]) ∧
  (derefK p0 (fun i16 => fun i17 => fun h18 =>
  ∃ n19 : Int, (h18.read i16 i17 1 = some [Cell.int IntKind.u64 n19]) ∧
  (derefK p0 (fun i20 => fun i21 => fun h22 => 
  (storeK [] i20 i21 [Cell.int IntKind.u64 (IntKind.u64.wrap (↑(BitVec.ofInt 64 n15 ^^^ BitVec.ofInt 64 (shr IntKind.u64 n19 7)).toNat : Int))] (derefK p0 (fun i23 => fun i24 => fun h25 =>
  ∃ n26 : Int, (h25.read i23 i24 1 = some [Cell.int IntKind.u64 n26]) ∧
  (derefK p0 (fun i27 => fun i28 => fun h29 =>
  ∃ n30 : Int, (h29.read i27 i28 1 = some [Cell.int IntKind.u64 n30]) ∧
  (derefK p0 (fun i31 => fun i32 => fun h33 => 
  (storeK [] i31 i32 [Cell.int IntKind.u64 (IntKind.u64.wrap (↑(BitVec.ofInt 64 n26 ^^^ BitVec.ofInt 64 (shl IntKind.u64 n30 17)).toNat : Int))] (derefK p0 (fun i34 => fun i35 => fun h36 =>
  ∃ n37 : Int, (h36.read i34 i35 1 = some [Cell.int IntKind.u64 n37]) ∧
  Q [V.one (Cell.int IntKind.u64 n37)] h36))) h33)) h29)) h25))) h22)) h18)) h14))) h11)) h7)) h3)
theorem den92 (I : FuncId → List V → Post → T) (p0 : Option (Nat × Nat)) (Q : Post) : denF Go.Proofs.Tryz.prog 0 (⟨[], []⟩) I 92 [V.one (Cell.ptr p0)] Q = vc92 I p0 Q := by kernel_rfl
/-- slices.choosePivotOrdered[string] -/
def vc82 (I : FuncId → List V → Post → T) (l0 : Sl) (n1 : Int) (n2 : Int) (Q : Post) : T :=
  fun h3 =>
  (newK (.cells false [Cell.int IntKind.i64 0]) (fun i4 => ifT (decide (IntKind.i64.wrap (n2 - n1) ≥ 8))
    (joinK (A := Int × Int × Int)
      (uncur fun n5 => uncur fun n6 n7 => fun h8 => 
      I 97 [V.one (Cell.slice 1 l0), V.one (Cell.int IntKind.i64 n5), V.one (Cell.int IntKind.i64 n6), V.one (Cell.int IntKind.i64 n7), V.one (Cell.ptr (some (i4, 0)))]
        (fun cs9 => fun h10 => 
        ∃ n11 : Int, (cs9 = [V.one (Cell.int IntKind.i64 n11)]) ∧
        ∃ n12 : Int, (h10.read i4 0 1 = some [Cell.int IntKind.i64 n12]) ∧
        (ifT (decide (n12 = 0))
          (Q [V.one (Cell.int IntKind.i64 n11), V.one (Cell.int IntKind.i64 1)])
          (ifT (decide (n12 = 12))
            (Q [V.one (Cell.int IntKind.i64 n11), V.one (Cell.int IntKind.i64 2)])
            (Q [V.one (Cell.int IntKind.i64 n11), V.one (Cell.int IntKind.i64 0)]))) h10) h8)
      (fun x13 => ifT (decide (IntKind.i64.wrap (n2 - n1) ≥ 50))
        (fun h14 =>
        I 96 [V.one (Cell.slice 1 l0), V.one (Cell.int IntKind.i64 (IntKind.i64.wrap (n1 + IntKind.i64.wrap (IntKind.i64.wrap ((IntKind.i64.wrap (n2 - n1)).tdiv 4) * 1)))), V.one (Cell.ptr (some (i4, 0)))]
          (fun cs15 => fun h16 => 
          ∃ n17 : Int, (cs15 = [V.one (Cell.int IntKind.i64 n17)]) ∧
          I 96 [V.one (Cell.slice 1 l0), V.one (Cell.int IntKind.i64 (IntKind.i64.wrap (n1 + IntKind.i64.wrap (IntKind.i64.wrap ((IntKind.i64.wrap (n2 - n1)).tdiv 4) * 2)))), V.one (Cell.ptr (some (i4, 0)))]
            (fun cs18 => fun h19 => 
            ∃ n20 : Int, (cs18 = [V.one (Cell.int IntKind.i64 n20)]) ∧
            I 96 [V.one (Cell.slice 1 l0), V.one (Cell.int IntKind.i64 (IntKind.i64.wrap (n1 + IntKind.i64.wrap (IntKind.i64.wrap ((IntKind.i64.wrap (n2 - n1)).tdiv 4) * 3)))), V.one (Cell.ptr (some (i4, 0)))]
              (fun cs21 => fun h22 => 
              ∃ n23 : Int, (cs21 = [V.one (Cell.int IntKind.i64 n23)]) ∧
              x13 ((n17, n20, n23)) h22) h19) h16) h14)
        (x13 ((IntKind.i64.wrap (n1 + IntKind.i64.wrap (IntKind.i64.wrap ((IntKind.i64.wrap (n2 - n1)).tdiv 4) * 1)), IntKind.i64.wrap (n1 + IntKind.i64.wrap (IntKind.i64.wrap ((IntKind.i64.wrap (n2 - n1)).tdiv 4) * 2)), IntKind.i64.wrap (n1 + IntKind.i64.wrap (IntKind.i64.wrap ((IntKind.i64.wrap (n2 - n1)).tdiv 4) * 3)))))))
    (fun h24 =>
    ∃ n25 : Int, (h24.read i4 0 1 = some [Cell.int IntKind.i64 n25]) ∧
    (ifT (decide (n25 = 0))
      (Q [V.one (Cell.int IntKind.i64 (IntKind.i64.wrap (n1 + IntKind.i64.wrap (IntKind.i64.wrap ((IntKind.i64.wrap (n2 - n1)).tdiv 4) * 2)))), V.one (Cell.int IntKind.i64 1)])
      (ifT (decide (n25 = 12))
        (Q [V.one (Cell.int IntKind.i64 (IntKind.i64.wrap (n1 + IntKind.i64.wrap (IntKind.i64.wrap ((IntKind.i64.wrap (n2 - n1)).tdiv 4) * 2)))), V.one (Cell.int IntKind.i64 2)])
        (Q [V.one (Cell.int IntKind.i64 (IntKind.i64.wrap (n1 + IntKind.i64.wrap (IntKind.i64.wrap ((IntKind.i64.wrap (n2 - n1)).tdiv 4) * 2)))), V.one (Cell.int IntKind.i64 0)]))) h24))) h3
theorem den82 (I : FuncId → List V → Post → T) (l0 : Sl) (n1 : Int) (n2 : Int) (Q : Post) : denF Go.Proofs.Tryz.prog 0 (⟨[(4073, 17557826313216, [(10, tk Go.Proofs.Tryz.prog 3), (11, tk Go.Proofs.Tryz.prog 3), (12, tk Go.Proofs.Tryz.prog 3)])], []⟩) I 82 [V.one (Cell.slice 1 l0), V.one (Cell.int IntKind.i64 n1), V.one (Cell.int IntKind.i64 n2)] Q = vc82 I l0 n1 n2 Q := by kernel_rfl
/-- slices.medianAdjacentOrdered[string] -/
def vc96 (I : FuncId → List V → Post → T) (l0 : Sl) (n1 : Int) (p2 : Option (Nat × Nat)) (Q : Post) : T :=
  fun h3 =>
  I 97 [V.one (Cell.slice 1 l0), V.one (Cell.int IntKind.i64 (IntKind.i64.wrap (n1 - 1))), V.one (Cell.int IntKind.i64 n1), V.one (Cell.int IntKind.i64 (IntKind.i64.wrap (n1 + 1))), V.one (Cell.ptr p2)]
    (fun cs4 => fun h5 => 
    ∃ n6 : Int, (cs4 = [V.one (Cell.int IntKind.i64 n6)]) ∧
    Q [V.one (Cell.int IntKind.i64 n6)] h5) h3
theorem den96 (I : FuncId → List V → Post → T) (l0 : Sl) (n1 : Int) (p2 : Option (Nat × Nat)) (Q : Post) : denF Go.Proofs.Tryz.prog 0 (⟨[], []⟩) I 96 [V.one (Cell.slice 1 l0), V.one (Cell.int IntKind.i64 n1), V.one (Cell.ptr p2)] Q = vc96 I l0 n1 p2 Q := by kernel_rfl
/-- slices.medianOrdered[string] -/
def vc97 (I : FuncId → List V → Post → T) (l0 : Sl) (n1 : Int) (n2 : Int) (n3 : Int) (p4 : Option (Nat × Nat)) (Q : Post) : T :=
  fun h5 =>
  I 101 [V.one (Cell.slice 1 l0), V.one (Cell.int IntKind.i64 n1), V.one (Cell.int IntKind.i64 n2), V.one (Cell.ptr p4)]
    (fun cs6 => fun h7 => 
    ∃ n8 : Int, ∃ n9 : Int, (cs6 = [V.one (Cell.int IntKind.i64 n8), V.one (Cell.int IntKind.i64 n9)]) ∧
    I 101 [V.one (Cell.slice 1 l0), V.one (Cell.int IntKind.i64 n9), V.one (Cell.int IntKind.i64 n3), V.one (Cell.ptr p4)]
      (fun cs10 => fun h11 => 
      ∃ n12 : Int, ∃ n13 : Int, (cs10 = [V.one (Cell.int IntKind.i64 n12), V.one (Cell.int IntKind.i64 n13)]) ∧
      I 101 [V.one (Cell.slice 1 l0), V.one (Cell.int IntKind.i64 n8), V.one (Cell.int IntKind.i64 n12), V.one (Cell.ptr p4)]
        (fun cs14 => fun h15 => 
        ∃ n16 : Int, ∃ n17 : Int, (cs14 = [V.one (Cell.int IntKind.i64 n16), V.one (Cell.int IntKind.i64 n17)]) ∧
        Q [V.one (Cell.int IntKind.i64 n17)] h15) h11) h7) h5
theorem den97 (I : FuncId → List V → Post → T) (l0 : Sl) (n1 : Int) (n2 : Int) (n3 : Int) (p4 : Option (Nat × Nat)) (Q : Post) : denF Go.Proofs.Tryz.prog 0 (⟨[], []⟩) I 97 [V.one (Cell.slice 1 l0), V.one (Cell.int IntKind.i64 n1), V.one (Cell.int IntKind.i64 n2), V.one (Cell.int IntKind.i64 n3), V.one (Cell.ptr p4)] Q = vc97 I l0 n1 n2 n3 p4 Q := by kernel_rfl
/-- slices.order2Ordered[string] -/
def vc101 (I : FuncId → List V → Post → T) (l0 : Sl) (n1 : Int) (n2 : Int) (p3 : Option (Nat × Nat)) (Q : Post) : T :=
  fun h4 =>
  ((0 ≤ n2) ∧
  n2 < (↑l0.len : Int)) ∧
  (derefK l0.a (fun i5 => fun i6 => fun h7 =>
  ∃ s8 : ByteArray, (h7.read i5 (i6 + n2.toNat * 1) 1 = some [Cell.str s8]) ∧
  ((0 ≤ n1) ∧
  n1 < (↑l0.len : Int)) ∧
  (derefK l0.a (fun i9 => fun i10 => fun h11 =>
  ∃ s12 : ByteArray, (h11.read i9 (i10 + n1.toNat * 1) 1 = some [Cell.str s12]) ∧
  I 85 [V.one (Cell.str s8), V.one (Cell.str s12)]
    (fun cs13 => fun h14 => 
    ∃ b15 : Bool, (cs13 = [V.one (Cell.bool b15)]) ∧
    (ifT b15
      (derefK p3 (fun i16 => fun i17 => fun h18 =>
      ∃ n19 : Int, (h18.read i16 i17 1 = some [Cell.int IntKind.i64 n19]) ∧
      (derefK p3 (fun i20 => fun i21 => fun h22 => 
      (storeK [] i20 i21 [Cell.int IntKind.i64 (IntKind.i64.wrap (n19 + 1))] (Q [V.one (Cell.int IntKind.i64 n2), V.one (Cell.int IntKind.i64 n1)])) h22)) h18))
      (Q [V.one (Cell.int IntKind.i64 n1), V.one (Cell.int IntKind.i64 n2)])) h14) h11)) h7)) h4
theorem den101 (I : FuncId → List V → Post → T) (l0 : Sl) (n1 : Int) (n2 : Int) (p3 : Option (Nat × Nat)) (Q : Post) : denF Go.Proofs.Tryz.prog 0 (⟨[], []⟩) I 101 [V.one (Cell.slice 1 l0), V.one (Cell.int IntKind.i64 n1), V.one (Cell.int IntKind.i64 n2), V.one (Cell.ptr p3)] Q = vc101 I l0 n1 n2 p3 Q := by kernel_rfl
/-- slices.reverseRangeOrdered[string] -/
def vc83 (I : FuncId → List V → Post → T) (l0 : Sl) (n1 : Int) (n2 : Int) (Q : Post) : T :=
  loopK (A := Int × Int) ((n1, IntKind.i64.wrap (n2 - 1)))
    (fun x3 => uncur fun n4 n5 => ifT (decide (n4 < n5))
      (fun h6 =>
      ((0 ≤ n5) ∧
      n5 < (↑l0.len : Int)) ∧
      (derefK l0.a (fun i7 => fun i8 => fun h9 =>
      ∃ s10 : ByteArray, (h9.read i7 (i8 + n5.toNat * 1) 1 = some [Cell.str s10]) ∧
      ((0 ≤ n4) ∧
      n4 < (↑l0.len : Int)) ∧
      (derefK l0.a (fun i11 => fun i12 => fun h13 =>
      ∃ s14 : ByteArray, (h13.read i11 (i12 + n4.toNat * 1) 1 = some [Cell.str s14]) ∧
      ((0 ≤ n4) ∧
      n4 < (↑l0.len : Int)) ∧
      (derefK l0.a (fun i15 => fun i16 => fun h17 => 
      (storeK [] i15 (i16 + n4.toNat * 1) [Cell.str s10] (fun h18 =>
      ((0 ≤ n5) ∧
      n5 < (↑l0.len : Int)) ∧
      (derefK l0.a (fun i19 => fun i20 => fun h21 => 
      (storeK [] i19 (i20 + n5.toNat * 1) [Cell.str s14] (x3 ((IntKind.i64.wrap (n4 + 1), IntKind.i64.wrap (n5 - 1))))) h21)) h18)) h17)) h13)) h9)) h6)
      (Q []))
theorem den83 (I : FuncId → List V → Post → T) (l0 : Sl) (n1 : Int) (n2 : Int) (Q : Post) : denF Go.Proofs.Tryz.prog 0 (⟨[], [(14, 4294965440, [(6, tk Go.Proofs.Tryz.prog 3), (7, tk Go.Proofs.Tryz.prog 3)])]⟩) I 83 [V.one (Cell.slice 1 l0), V.one (Cell.int IntKind.i64 n1), V.one (Cell.int IntKind.i64 n2)] Q = vc83 I l0 n1 n2 Q := by kernel_rfl
/-- slices.partialInsertionSortOrdered[string] -/
def vc84 (I : FuncId → List V → Post → T) (l0 : Sl) (n1 : Int) (n2 : Int) (Q : Post) : T :=
  loopK (A := Int × Int) ((IntKind.i64.wrap (n1 + 1), 0))
    (fun x3 => uncur fun n4 n5 => ifT (decide (n5 < 5))
      (loopK (A := Int) n4
        (fun x6 => fun n7 => joinK (A := Bool)
          (fun b8 => ifT b8
            (x6 (IntKind.i64.wrap (n7 + 1)))
            (ifT (decide (n7 = n2))
              (Q [V.one (Cell.bool true)])
              (ifT (decide (IntKind.i64.wrap (n2 - n1) < 50))
                (Q [V.one (Cell.bool false)])
                (fun h9 =>
                ((0 ≤ IntKind.i64.wrap (n7 - 1)) ∧
                IntKind.i64.wrap (n7 - 1) < (↑l0.len : Int)) ∧
                (derefK l0.a (fun i10 => fun i11 => fun h12 =>
                ∃ s13 : ByteArray, (h12.read i10 (i11 + (IntKind.i64.wrap (n7 - 1)).toNat * 1) 1 = some [Cell.str s13]) ∧
                ((0 ≤ n7) ∧
                n7 < (↑l0.len : Int)) ∧
                (derefK l0.a (fun i14 => fun i15 => fun h16 =>
                ∃ s17 : ByteArray, (h16.read i14 (i15 + n7.toNat * 1) 1 = some [Cell.str s17]) ∧
                ((0 ≤ n7) ∧
                n7 < (↑l0.len : Int)) ∧
                (derefK l0.a (fun i18 => fun i19 => fun h20 => 
                (storeK [] i18 (i19 + n7.toNat * 1) [Cell.str s13] (fun h21 =>
                ((0 ≤ IntKind.i64.wrap (n7 - 1)) ∧
                IntKind.i64.wrap (n7 - 1) < (↑l0.len : Int)) ∧
                (derefK l0.a (fun i22 => fun i23 => fun h24 => 
                (storeK [] i22 (i23 + (IntKind.i64.wrap (n7 - 1)).toNat * 1) [Cell.str s17] (joinK (A := PUnit)
                  (fun x25 => ifT (decide (IntKind.i64.wrap (n2 - n7) ≥ 2))
                    (loopK (A := Int) (IntKind.i64.wrap (n7 + 1))
                      (fun x26 => fun n27 => ifT (decide (n27 < n2))
                        (fun h28 =>
                        ((0 ≤ n27) ∧
                        n27 < (↑l0.len : Int)) ∧
                        (derefK l0.a (fun i29 => fun i30 => fun h31 =>
                        ∃ s32 : ByteArray, (h31.read i29 (i30 + n27.toNat * 1) 1 = some [Cell.str s32]) ∧
                        ((0 ≤ IntKind.i64.wrap (n27 - 1)) ∧
                        IntKind.i64.wrap (n27 - 1) < (↑l0.len : Int)) ∧
                        (derefK l0.a (fun i33 => fun i34 => fun h35 =>
                        ∃ s36 : ByteArray, (h35.read i33 (i34 + (IntKind.i64.wrap (n27 - 1)).toNat * 1) 1 = some [Cell.str s36]) ∧
                        I 85 [V.one (Cell.str s32), V.one (Cell.str s36)]
                          (fun cs37 => fun h38 => 
                          ∃ b39 : Bool, (cs37 = [V.one (Cell.bool b39)]) ∧
                          (ifT (!b39)
                            (x3 ((n7, IntKind.i64.wrap (n5 + 1))))
                            (fun h40 =>
                            ((0 ≤ IntKind.i64.wrap (n27 - 1)) ∧
                            IntKind.i64.wrap (n27 - 1) < (↑l0.len : Int)) ∧
                            (derefK l0.a (fun i41 => fun i42 => fun h43 =>
                            ∃ s44 : ByteArray, (h43.read i41 (i42 + (IntKind.i64.wrap (n27 - 1)).toNat * 1) 1 = some [Cell.str s44]) ∧
                            ((0 ≤ n27) ∧
                            n27 < (↑l0.len : Int)) ∧
                            (derefK l0.a (fun i45 => fun i46 => fun h47 =>
                            ∃ s48 : ByteArray, (h47.read i45 (i46 + n27.toNat * 1) 1 = some [Cell.str s48]) ∧
                            ((0 ≤ n27) ∧
                            n27 < (↑l0.len : Int)) ∧
                            (derefK l0.a (fun i49 => fun i50 => fun h51 => 
                            (storeK [] i49 (i50 + n27.toNat * 1) [Cell.str s44] (fun h52 =>
                            ((0 ≤ IntKind.i64.wrap (n27 - 1)) ∧
                            IntKind.i64.wrap (n27 - 1) < (↑l0.len : Int)) ∧
                            (derefK l0.a (fun i53 => fun i54 => fun h55 => 
                            (storeK [] i53 (i54 + (IntKind.i64.wrap (n27 - 1)).toNat * 1) [Cell.str s48] (x26 (IntKind.i64.wrap (n27 + 1)))) h55)) h52)) h51)) h47)) h43)) h40)) h38) h35)) h31)) h28)
                        (x3 ((n7, IntKind.i64.wrap (n5 + 1))))))
                    (x3 ((n7, IntKind.i64.wrap (n5 + 1)))))
                  (fun x56 => ifT (decide (IntKind.i64.wrap (n7 - n1) ≥ 2))
                    (joinK (A := PUnit)
                      (fun x57 => fun h58 => 
                      x56 () h58)
                      (fun x59 => loopK (A := Int) (IntKind.i64.wrap (n7 - 1))
                        (fun x60 => fun n61 => ifT (decide (n61 ≥ 1))
                          (fun h62 =>
                          ((0 ≤ n61) ∧
                          n61 < (↑l0.len : Int)) ∧
                          (derefK l0.a (fun i63 => fun i64 => fun h65 =>
                          ∃ s66 : ByteArray, (h65.read i63 (i64 + n61.toNat * 1) 1 = some [Cell.str s66]) ∧
                          ((0 ≤ IntKind.i64.wrap (n61 - 1)) ∧
                          IntKind.i64.wrap (n61 - 1) < (↑l0.len : Int)) ∧
                          (derefK l0.a (fun i67 => fun i68 => fun h69 =>
                          ∃ s70 : ByteArray, (h69.read i67 (i68 + (IntKind.i64.wrap (n61 - 1)).toNat * 1) 1 = some [Cell.str s70]) ∧
                          I 85 [V.one (Cell.str s66), V.one (Cell.str s70)]
                            (fun cs71 => fun h72 => 
                            ∃ b73 : Bool, (cs71 = [V.one (Cell.bool b73)]) ∧
                            (ifT (!b73)
                              (x59 ())
                              (fun h74 =>
                              ((0 ≤ IntKind.i64.wrap (n61 - 1)) ∧
                              IntKind.i64.wrap (n61 - 1) < (↑l0.len : Int)) ∧
                              (derefK l0.a (fun i75 => fun i76 => fun h77 =>
                              ∃ s78 : ByteArray, (h77.read i75 (i76 + (IntKind.i64.wrap (n61 - 1)).toNat * 1) 1 = some [Cell.str s78]) ∧
                              ((0 ≤ n61) ∧
                              n61 < (↑l0.len : Int)) ∧
                              (derefK l0.a (fun i79 => fun i80 => fun h81 =>
                              ∃ s82 : ByteArray, (h81.read i79 (i80 + n61.toNat * 1) 1 = some [Cell.str s82]) ∧
                              ((0 ≤ n61) ∧
                              n61 < (↑l0.len : Int)) ∧
                              (derefK l0.a (fun i83 => fun i84 => fun h85 => 
                              (storeK [] i83 (i84 + n61.toNat * 1) [Cell.str s78] (fun h86 =>
                              ((0 ≤ IntKind.i64.wrap (n61 - 1)) ∧
                              IntKind.i64.wrap (n61 - 1) < (↑l0.len : Int)) ∧
                              (derefK l0.a (fun i87 => fun i88 => fun h89 => 
                              (storeK [] i87 (i88 + (IntKind.i64.wrap (n61 - 1)).toNat * 1) [Cell.str s82] (x60 (IntKind.i64.wrap (n61 - 1)))) h89)) h86)) h85)) h81)) h77)) h74)) h72) h69)) h65)) h62)
                          (x59 ()))))
                    (x56 ())))) h24)) h21)) h20)) h16)) h12)) h9))))
          (fun x90 => ifT (decide (n7 < n2))
            (fun h91 =>
            ((0 ≤ n7) ∧
            n7 < (↑l0.len : Int)) ∧
            (derefK l0.a (fun i92 => fun i93 => fun h94 =>
            ∃ s95 : ByteArray, (h94.read i92 (i93 + n7.toNat * 1) 1 = some [Cell.str s95]) ∧
            ((0 ≤ IntKind.i64.wrap (n7 - 1)) ∧
            IntKind.i64.wrap (n7 - 1) < (↑l0.len : Int)) ∧
            (derefK l0.a (fun i96 => fun i97 => fun h98 =>
            ∃ s99 : ByteArray, (h98.read i96 (i97 + (IntKind.i64.wrap (n7 - 1)).toNat * 1) 1 = some [Cell.str s99]) ∧
            I 85 [V.one (Cell.str s95), V.one (Cell.str s99)]
              (fun cs100 => fun h101 => 
              ∃ b102 : Bool, (cs100 = [V.one (Cell.bool b102)]) ∧
              x90 (!b102) h101) h98)) h94)) h91)
            (x90 false))))
      (Q [V.one (Cell.bool false)]))
theorem den84 (I : FuncId → List V → Post → T) (l0 : Sl) (n1 : Int) (n2 : Int) (Q : Post) : denF Go.Proofs.Tryz.prog 0 (⟨[(29824, 8589803520, [(32, tk Go.Proofs.Tryz.prog 4)]), (59709, 39614081252520482778344587776, []), (238837, 39614081238685424723062424064, [])], [(58, 10889035741470030830827987437816582760384, [(7, tk Go.Proofs.Tryz.prog 3), (8, tk Go.Proofs.Tryz.prog 3)]), (3728, 34359607424, [(7, tk Go.Proofs.Tryz.prog 3)]), (477674, 39614081238685424723062424064, [(9, tk Go.Proofs.Tryz.prog 3)]), (477690, 10889035738934729630371528634823176356864, [(10, tk Go.Proofs.Tryz.prog 3)])]⟩) I 84 [V.one (Cell.slice 1 l0), V.one (Cell.int IntKind.i64 n1), V.one (Cell.int IntKind.i64 n2)] Q = vc84 I l0 n1 n2 Q := by kernel_rfl
/-- slices.partitionEqualOrdered[string] -/
def vc86 (I : FuncId → List V → Post → T) (l0 : Sl) (n1 : Int) (n2 : Int) (n3 : Int) (Q : Post) : T :=
  fun h4 =>
  ((0 ≤ n3) ∧
  n3 < (↑l0.len : Int)) ∧
  (derefK l0.a (fun i5 => fun i6 => fun h7 =>
  ∃ s8 : ByteArray, (h7.read i5 (i6 + n3.toNat * 1) 1 = some [Cell.str s8]) ∧
  ((0 ≤ n1) ∧
  n1 < (↑l0.len : Int)) ∧
  (derefK l0.a (fun i9 => fun i10 => fun h11 =>
  ∃ s12 : ByteArray, (h11.read i9 (i10 + n1.toNat * 1) 1 = some [Cell.str s12]) ∧
  ((0 ≤ n1) ∧
  n1 < (↑l0.len : Int)) ∧
  (derefK l0.a (fun i13 => fun i14 => fun h15 => 
  (storeK [] i13 (i14 + n1.toNat * 1) [Cell.str s8] (fun h16 =>
  ((0 ≤ n3) ∧
  n3 < (↑l0.len : Int)) ∧
  (derefK l0.a (fun i17 => fun i18 => fun h19 => 
  (storeK [] i17 (i18 + n3.toNat * 1) [Cell.str s12] (loopK (A := Int × Int) ((IntKind.i64.wrap (n1 + 1), IntKind.i64.wrap (n2 - 1)))
    (fun x20 => uncur fun n21 n22 => loopK (A := Int) n21
      (fun x23 => fun n24 => joinK (A := Bool)
        (fun b25 => ifT b25
          (x23 (IntKind.i64.wrap (n24 + 1)))
          (loopK (A := Int) n22
            (fun x26 => fun n27 => joinK (A := Bool)
              (fun b28 => ifT b28
                (x26 (IntKind.i64.wrap (n27 - 1)))
                (ifT (decide (n24 > n27))
                  (Q [V.one (Cell.int IntKind.i64 n24)])
                  (fun h29 =>
                  ((0 ≤ n27) ∧
                  n27 < (↑l0.len : Int)) ∧
                  (derefK l0.a (fun i30 => fun i31 => fun h32 =>
                  ∃ s33 : ByteArray, (h32.read i30 (i31 + n27.toNat * 1) 1 = some [Cell.str s33]) ∧
                  ((0 ≤ n24) ∧
                  n24 < (↑l0.len : Int)) ∧
                  (derefK l0.a (fun i34 => fun i35 => fun h36 =>
                  ∃ s37 : ByteArray, (h36.read i34 (i35 + n24.toNat * 1) 1 = some [Cell.str s37]) ∧
                  ((0 ≤ n24) ∧
                  n24 < (↑l0.len : Int)) ∧
                  (derefK l0.a (fun i38 => fun i39 => fun h40 => 
                  (storeK [] i38 (i39 + n24.toNat * 1) [Cell.str s33] (fun h41 =>
                  ((0 ≤ n27) ∧
                  n27 < (↑l0.len : Int)) ∧
                  (derefK l0.a (fun i42 => fun i43 => fun h44 => 
                  (storeK [] i42 (i43 + n27.toNat * 1) [Cell.str s37] (x20 ((IntKind.i64.wrap (n24 + 1), IntKind.i64.wrap (n27 - 1))))) h44)) h41)) h40)) h36)) h32)) h29)))
              (fun x45 => ifT (decide (n24 ≤ n27))
                (fun h46 =>
                ((0 ≤ n1) ∧
                n1 < (↑l0.len : Int)) ∧
                (derefK l0.a (fun i47 => fun i48 => fun h49 =>
                ∃ s50 : ByteArray, (h49.read i47 (i48 + n1.toNat * 1) 1 = some [Cell.str s50]) ∧
                ((0 ≤ n27) ∧
                n27 < (↑l0.len : Int)) ∧
                (derefK l0.a (fun i51 => fun i52 => fun h53 =>
                ∃ s54 : ByteArray, (h53.read i51 (i52 + n27.toNat * 1) 1 = some [Cell.str s54]) ∧
                I 85 [V.one (Cell.str s50), V.one (Cell.str s54)]
                  (fun cs55 => fun h56 => 
                  ∃ b57 : Bool, (cs55 = [V.one (Cell.bool b57)]) ∧
                  x45 b57 h56) h53)) h49)) h46)
                (x45 false)))))
        (fun x58 => ifT (decide (n24 ≤ n22))
          (fun h59 =>
          ((0 ≤ n1) ∧
          n1 < (↑l0.len : Int)) ∧
          (derefK l0.a (fun i60 => fun i61 => fun h62 =>
          ∃ s63 : ByteArray, (h62.read i60 (i61 + n1.toNat * 1) 1 = some [Cell.str s63]) ∧
          ((0 ≤ n24) ∧
          n24 < (↑l0.len : Int)) ∧
          (derefK l0.a (fun i64 => fun i65 => fun h66 =>
          ∃ s67 : ByteArray, (h66.read i64 (i65 + n24.toNat * 1) 1 = some [Cell.str s67]) ∧
          I 85 [V.one (Cell.str s63), V.one (Cell.str s67)]
            (fun cs68 => fun h69 => 
            ∃ b70 : Bool, (cs68 = [V.one (Cell.bool b70)]) ∧
            x58 (!b70) h69) h66)) h62)) h59)
          (x58 false)))))) h19)) h16)) h15)) h11)) h7)) h4
theorem den86 (I : FuncId → List V → Post → T) (l0 : Sl) (n1 : Int) (n2 : Int) (n3 : Int) (Q : Post) : denF Go.Proofs.Tryz.prog 0 (⟨[(7680, 17591649173504, [(43, tk Go.Proofs.Tryz.prog 4)]), (15392, 1152851135862669312, [(59, tk Go.Proofs.Tryz.prog 4)])], [(60, 9671406556917032860780032, [(9, tk Go.Proofs.Tryz.prog 3), (10, tk Go.Proofs.Tryz.prog 3)]), (960, 70368207307264, [(9, tk Go.Proofs.Tryz.prog 3)]), (1924, 4611615649683211264, [(10, tk Go.Proofs.Tryz.prog 3)])]⟩) I 86 [V.one (Cell.slice 1 l0), V.one (Cell.int IntKind.i64 n1), V.one (Cell.int IntKind.i64 n2), V.one (Cell.int IntKind.i64 n3)] Q = vc86 I l0 n1 n2 n3 Q := by kernel_rfl
/-- slices.partitionOrdered[string] -/
def vc87 (I : FuncId → List V → Post → T) (l0 : Sl) (n1 : Int) (n2 : Int) (n3 : Int) (Q : Post) : T :=
  fun h4 =>
  ((0 ≤ n3) ∧
  n3 < (↑l0.len : Int)) ∧
  (derefK l0.a (fun i5 => fun i6 => fun h7 =>
  ∃ s8 : ByteArray, (h7.read i5 (i6 + n3.toNat * 1) 1 = some [Cell.str s8]) ∧
  ((0 ≤ n1) ∧
  n1 < (↑l0.len : Int)) ∧
  (derefK l0.a (fun i9 => fun i10 => fun h11 =>
  ∃ s12 : ByteArray, (h11.read i9 (i10 + n1.toNat * 1) 1 = some [Cell.str s12]) ∧
  ((0 ≤ n1) ∧
  n1 < (↑l0.len : Int)) ∧
  (derefK l0.a (fun i13 => fun i14 => fun h15 => 
  (storeK [] i13 (i14 + n1.toNat * 1) [Cell.str s8] (fun h16 =>
  ((0 ≤ n3) ∧
  n3 < (↑l0.len : Int)) ∧
  (derefK l0.a (fun i17 => fun i18 => fun h19 => 
  (storeK [] i17 (i18 + n3.toNat * 1) [Cell.str s12] (loopK (A := Int) (IntKind.i64.wrap (n1 + 1))
    (fun x20 => fun n21 => joinK (A := Bool)
      (fun b22 => ifT b22
        (x20 (IntKind.i64.wrap (n21 + 1)))
        (loopK (A := Int) (IntKind.i64.wrap (n2 - 1))
          (fun x23 => fun n24 => joinK (A := Bool)
            (fun b25 => ifT b25
              (x23 (IntKind.i64.wrap (n24 - 1)))
              (ifT (decide (n21 > n24))
                (fun h26 =>
                ((0 ≤ n1) ∧
                n1 < (↑l0.len : Int)) ∧
                (derefK l0.a (fun i27 => fun i28 => fun h29 =>
                ∃ s30 : ByteArray, (h29.read i27 (i28 + n1.toNat * 1) 1 = some [Cell.str s30]) ∧
                ((0 ≤ n24) ∧
                n24 < (↑l0.len : Int)) ∧
                (derefK l0.a (fun i31 => fun i32 => fun h33 =>
                ∃ s34 : ByteArray, (h33.read i31 (i32 + n24.toNat * 1) 1 = some [Cell.str s34]) ∧
                ((0 ≤ n24) ∧
                n24 < (↑l0.len : Int)) ∧
                (derefK l0.a (fun i35 => fun i36 => fun h37 => 
                (storeK [] i35 (i36 + n24.toNat * 1) [Cell.str s30] (fun h38 =>
                ((0 ≤ n1) ∧
                n1 < (↑l0.len : Int)) ∧
                (derefK l0.a (fun i39 => fun i40 => fun h41 => 
                (storeK [] i39 (i40 + n1.toNat * 1) [Cell.str s34] (Q [V.one (Cell.int IntKind.i64 n24), V.one (Cell.bool true)])) h41)) h38)) h37)) h33)) h29)) h26)
                (fun h42 =>
                ((0 ≤ n24) ∧
                n24 < (↑l0.len : Int)) ∧
                (derefK l0.a (fun i43 => fun i44 => fun h45 =>
                ∃ s46 : ByteArray, (h45.read i43 (i44 + n24.toNat * 1) 1 = some [Cell.str s46]) ∧
                ((0 ≤ n21) ∧
                n21 < (↑l0.len : Int)) ∧
                (derefK l0.a (fun i47 => fun i48 => fun h49 =>
                ∃ s50 : ByteArray, (h49.read i47 (i48 + n21.toNat * 1) 1 = some [Cell.str s50]) ∧
                ((0 ≤ n21) ∧
                n21 < (↑l0.len : Int)) ∧
                (derefK l0.a (fun i51 => fun i52 => fun h53 => 
                (storeK [] i51 (i52 + n21.toNat * 1) [Cell.str s46] (fun h54 =>
                ((0 ≤ n24) ∧
                n24 < (↑l0.len : Int)) ∧
                (derefK l0.a (fun i55 => fun i56 => fun h57 => 
                (storeK [] i55 (i56 + n24.toNat * 1) [Cell.str s50] (loopK (A := Int × Int) ((IntKind.i64.wrap (n21 + 1), IntKind.i64.wrap (n24 - 1)))
                  (fun x58 => uncur fun n59 n60 => loopK (A := Int) n59
                    (fun x61 => fun n62 => joinK (A := Bool)
                      (fun b63 => ifT b63
                        (x61 (IntKind.i64.wrap (n62 + 1)))
                        (loopK (A := Int) n60
                          (fun x64 => fun n65 => joinK (A := Bool)
                            (fun b66 => ifT b66
                              (x64 (IntKind.i64.wrap (n65 - 1)))
                              (ifT (decide (n62 > n65))
                                (fun h67 =>
                                ((0 ≤ n1) ∧
                                n1 < (↑l0.len : Int)) ∧
                                (derefK l0.a (fun i68 => fun i69 => fun h70 =>
                                ∃ s71 : ByteArray, (h70.read i68 (i69 + n1.toNat * 1) 1 = some [Cell.str s71]) ∧
                                ((0 ≤ n65) ∧
                                n65 < (↑l0.len : Int)) ∧
                                (derefK l0.a (fun i72 => fun i73 => fun h74 =>
                                ∃ s75 : ByteArray, (h74.read i72 (i73 + n65.toNat * 1) 1 = some [Cell.str s75]) ∧
                                ((0 ≤ n65) ∧
                                n65 < (↑l0.len : Int)) ∧
                                (derefK l0.a (fun i76 => fun i77 => fun h78 => 
                                (storeK [] i76 (i77 + n65.toNat * 1) [Cell.str s71] (fun h79 =>
                                ((0 ≤ n1) ∧
                                n1 < (↑l0.len : Int)) ∧
                                (derefK l0.a (fun i80 => fun i81 => fun h82 => 
                                (storeK [] i80 (i81 + n1.toNat * 1) [Cell.str s75] (Q [V.one (Cell.int IntKind.i64 n65), V.one (Cell.bool false)])) h82)) h79)) h78)) h74)) h70)) h67)
                                (fun h83 =>
                                ((0 ≤ n65) ∧
                                n65 < (↑l0.len : Int)) ∧
                                (derefK l0.a (fun i84 => fun i85 => fun h86 =>
                                ∃ s87 : ByteArray, (h86.read i84 (i85 + n65.toNat * 1) 1 = some [Cell.str s87]) ∧
                                ((0 ≤ n62) ∧
                                n62 < (↑l0.len : Int)) ∧
                                (derefK l0.a (fun i88 => fun i89 => fun h90 =>
                                ∃ s91 : ByteArray, (h90.read i88 (i89 + n62.toNat * 1) 1 = some [Cell.str s91]) ∧
                                ((0 ≤ n62) ∧
                                n62 < (↑l0.len : Int)) ∧
                                (derefK l0.a (fun i92 => fun i93 => fun h94 => 
                                (storeK [] i92 (i93 + n62.toNat * 1) [Cell.str s87] (fun h95 =>
                                ((0 ≤ n65) ∧
                                n65 < (↑l0.len : Int)) ∧
                                (derefK l0.a (fun i96 => fun i97 => fun h98 => 
                                (storeK [] i96 (i97 + n65.toNat * 1) [Cell.str s91] (x58 ((IntKind.i64.wrap (n62 + 1), IntKind.i64.wrap (n65 - 1))))) h98)) h95)) h94)) h90)) h86)) h83)))
                            (fun x99 => ifT (decide (n62 ≤ n65))
                              (fun h100 =>
                              ((0 ≤ n65) ∧
                              n65 < (↑l0.len : Int)) ∧
                              (derefK l0.a (fun i101 => fun i102 => fun h103 =>
                              ∃ s104 : ByteArray, (h103.read i101 (i102 + n65.toNat * 1) 1 = some [Cell.str s104]) ∧
                              ((0 ≤ n1) ∧
                              n1 < (↑l0.len : Int)) ∧
                              (derefK l0.a (fun i105 => fun i106 => fun h107 =>
                              ∃ s108 : ByteArray, (h107.read i105 (i106 + n1.toNat * 1) 1 = some [Cell.str s108]) ∧
                              I 85 [V.one (Cell.str s104), V.one (Cell.str s108)]
                                (fun cs109 => fun h110 => 
                                ∃ b111 : Bool, (cs109 = [V.one (Cell.bool b111)]) ∧
                                x99 (!b111) h110) h107)) h103)) h100)
                              (x99 false)))))
                      (fun x112 => ifT (decide (n62 ≤ n60))
                        (fun h113 =>
                        ((0 ≤ n62) ∧
                        n62 < (↑l0.len : Int)) ∧
                        (derefK l0.a (fun i114 => fun i115 => fun h116 =>
                        ∃ s117 : ByteArray, (h116.read i114 (i115 + n62.toNat * 1) 1 = some [Cell.str s117]) ∧
                        ((0 ≤ n1) ∧
                        n1 < (↑l0.len : Int)) ∧
                        (derefK l0.a (fun i118 => fun i119 => fun h120 =>
                        ∃ s121 : ByteArray, (h120.read i118 (i119 + n1.toNat * 1) 1 = some [Cell.str s121]) ∧
                        I 85 [V.one (Cell.str s117), V.one (Cell.str s121)]
                          (fun cs122 => fun h123 => 
                          ∃ b124 : Bool, (cs122 = [V.one (Cell.bool b124)]) ∧
                          x112 b124 h123) h120)) h116)) h113)
                        (x112 false)))))) h57)) h54)) h53)) h49)) h45)) h42)))
            (fun x125 => ifT (decide (n21 ≤ n24))
              (fun h126 =>
              ((0 ≤ n24) ∧
              n24 < (↑l0.len : Int)) ∧
              (derefK l0.a (fun i127 => fun i128 => fun h129 =>
              ∃ s130 : ByteArray, (h129.read i127 (i128 + n24.toNat * 1) 1 = some [Cell.str s130]) ∧
              ((0 ≤ n1) ∧
              n1 < (↑l0.len : Int)) ∧
              (derefK l0.a (fun i131 => fun i132 => fun h133 =>
              ∃ s134 : ByteArray, (h133.read i131 (i132 + n1.toNat * 1) 1 = some [Cell.str s134]) ∧
              I 85 [V.one (Cell.str s130), V.one (Cell.str s134)]
                (fun cs135 => fun h136 => 
                ∃ b137 : Bool, (cs135 = [V.one (Cell.bool b137)]) ∧
                x125 (!b137) h136) h133)) h129)) h126)
              (x125 false)))))
      (fun x138 => ifT (decide (n21 ≤ IntKind.i64.wrap (n2 - 1)))
        (fun h139 =>
        ((0 ≤ n21) ∧
        n21 < (↑l0.len : Int)) ∧
        (derefK l0.a (fun i140 => fun i141 => fun h142 =>
        ∃ s143 : ByteArray, (h142.read i140 (i141 + n21.toNat * 1) 1 = some [Cell.str s143]) ∧
        ((0 ≤ n1) ∧
        n1 < (↑l0.len : Int)) ∧
        (derefK l0.a (fun i144 => fun i145 => fun h146 =>
        ∃ s147 : ByteArray, (h146.read i144 (i145 + n1.toNat * 1) 1 = some [Cell.str s147]) ∧
        I 85 [V.one (Cell.str s143), V.one (Cell.str s147)]
          (fun cs148 => fun h149 => 
          ∃ b150 : Bool, (cs148 = [V.one (Cell.bool b150)]) ∧
          x138 b150 h149) h146)) h142)) h139)
        (x138 false))))) h19)) h16)) h15)) h11)) h7)) h4
theorem den87 (I : FuncId → List V → Post → T) (l0 : Sl) (n1 : Int) (n2 : Int) (n3 : Int) (Q : Post) : denF Go.Proofs.Tryz.prog 0 (⟨[(480, 17591112302592, [(43, tk Go.Proofs.Tryz.prog 4)]), (992, 2305772640469516288, [(60, tk Go.Proofs.Tryz.prog 4)]), (523776, 10383959891769541142360244306837504, [(112, tk Go.Proofs.Tryz.prog 4)]), (1047584, 1361087929308885575232470185756439085056, [(129, tk Go.Proofs.Tryz.prog 4)])], [(60, 70367670436864, [(10, tk Go.Proofs.Tryz.prog 3)]), (124, 9223301668110600192, [(11, tk Go.Proofs.Tryz.prog 3)]), (4092, 11417981541647678414640987641481260342710373376, [(10, tk Go.Proofs.Tryz.prog 3), (11, tk Go.Proofs.Tryz.prog 3)]), (65472, 41537741042978506913543222282159104, [(10, tk Go.Proofs.Tryz.prog 3)]), (130948, 5444476332360147136792965474937657624576, [(11, tk Go.Proofs.Tryz.prog 3)])]⟩) I 87 [V.one (Cell.slice 1 l0), V.one (Cell.int IntKind.i64 n1), V.one (Cell.int IntKind.i64 n2), V.one (Cell.int IntKind.i64 n3)] Q = vc87 I l0 n1 n2 n3 Q := by kernel_rfl
/-- maps.Keys[map[string]*handbill/api.Row,string,*handbill/api.Row] -/
def vc28 (I : FuncId → List V → Post → T) (p0 : Option Nat) (Q : Post) : T :=
  fun h1 =>
  (newK (.cells false [Cell.map p0]) (fun i2 => Q [V.one (Cell.func (some (47, [(i2, 0)])))])) h1
theorem den28 (I : FuncId → List V → Post → T) (p0 : Option Nat) (Q : Post) : denF Go.Proofs.Tryz.prog 0 (⟨[], []⟩) I 28 [V.one (Cell.map p0)] Q = vc28 I p0 Q := by kernel_rfl
/-- maps.Keys[map[string]*handbill/api.Row,string,*handbill/api.Row]$1 -/
def vc47 (I : FuncId → List V → Post → T) (p0 : Option (Nat × List (Nat × Nat))) (i1 : Nat) (i2 : Nat) (Q : Post) : T :=
  fun h3 =>
  ∃ p4 : Option Nat, (h3.read i1 i2 1 = some [Cell.map p4]) ∧
  (rangeO p4 (fun i5 => loopK (A := PUnit) ()
    (fun x6 => fun x7 => fun h8 => 
    (nextK i5
      (Q [])
      (fun x9 => fun x10 => fun h11 => 
      ∃ s12 : ByteArray, ∃ p13 : Option (Nat × Nat), (x9 = V.one (Cell.str s12)) ∧
      (x10 = V.one (Cell.ptr p13)) ∧
      (entryK i5 (fun x14 => fun x15 => fun h16 => 
      ∃ s17 : ByteArray, ∃ p18 : Option (Nat × Nat), (x14 = V.one (Cell.str s17)) ∧
      (x15 = V.one (Cell.ptr p18)) ∧
      (funK p0 (fun i19 => fun cs20 => fun h21 => 
      I i19 (V.one (Cell.str s17) :: cs20)
        (fun cs22 => fun h23 => 
        ∃ b24 : Bool, (cs22 = [V.one (Cell.bool b24)]) ∧
        (ifT (!b24)
          (Q [])
          (x6 ())) h23) h21)) h16)) h11)) h8))) h3
theorem den47 (I : FuncId → List V → Post → T) (p0 : Option (Nat × List (Nat × Nat))) (i1 : Nat) (i2 : Nat) (Q : Post) : denF Go.Proofs.Tryz.prog 0 (⟨[], [(6, 16328, [])]⟩) I 47 [V.one (Cell.func p0), V.one (Cell.ptr (some (i1, i2)))] Q = vc47 I p0 i1 i2 Q := by kernel_rfl
/-- handbill/handref1.StepsOf -/
def vc8 (I : FuncId → List V → Post → T) (l0 : Sl) (l1 : Sl) (n2 : Int) (Q : Post) : T :=
  fun h3 =>
  I 29 [V.one (Cell.slice 4 l0)]
    (fun cs4 => fun h5 => 
    ∃ n6 : Int, (cs4 = [V.one (Cell.int IntKind.i64 n6)]) ∧
    (ifT (!decide (n6 = 0))
      (Q [V.one (Cell.slice 6 { a := none, len := 0 }), V.one (Cell.int IntKind.i64 n6)])
      (ifT (decide ((↑l1.len : Int) > 5000))
        (Q [V.one (Cell.slice 6 { a := none, len := 0 }), V.one (Cell.int IntKind.i64 2)])
        (loopK (A := Int) 0
          (fun x7 => fun n8 => ifT (decide (n8 < (↑l1.len : Int)))
            (fun h9 =>
            ((0 ≤ n8) ∧
            n8 < (↑l1.len : Int)) ∧
            (derefK l1.a (fun i10 => fun i11 => fun h12 =>
            ∃ s13 : ByteArray, ∃ n14 : Int, ∃ n15 : Int, (h12.read i10 (i11 + n8.toNat * 3) 3 = some [Cell.str s13, Cell.int IntKind.i64 n14, Cell.int IntKind.i64 n15]) ∧
            (newK (.cells false [Cell.str ByteArray.empty, Cell.int IntKind.i64 0, Cell.int IntKind.i64 0]) (fun i16 => fun h17 => 
            (storeK [] i16 0 [Cell.str s13, Cell.int IntKind.i64 n14, Cell.int IntKind.i64 n15] (fun h18 =>
            I 30 [V.one (Cell.slice 4 l0), V.one (Cell.func (some (31, [(i16, 0)])))]
              (fun cs19 => fun h20 => 
              ∃ n21 : Int, (cs19 = [V.one (Cell.int IntKind.i64 n21)]) ∧
              (ifT (decide (n21 < 0))
                (Q [V.one (Cell.slice 6 { a := none, len := 0 }), V.one (Cell.int IntKind.i64 8)])
                (joinK (A := Bool)
                  (fun b22 => ifT b22
                    (Q [V.one (Cell.slice 6 { a := none, len := 0 }), V.one (Cell.int IntKind.i64 4)])
                    (fun h23 =>
                    ∃ n24 : Int, (h23.read i16 2 1 = some [Cell.int IntKind.i64 n24]) ∧
                    I 32 [V.one (Cell.int IntKind.i64 n24)]
                      (fun cs25 => fun h26 => 
                      ∃ b27 : Bool, (cs25 = [V.one (Cell.bool b27)]) ∧
                      (ifT (!b27)
                        (Q [V.one (Cell.slice 6 { a := none, len := 0 }), V.one (Cell.int IntKind.i64 1)])
                        (fun h28 =>
                        ∃ n29 : Int, (h28.read i16 2 1 = some [Cell.int IntKind.i64 n29]) ∧
                        ((0 ≤ n21) ∧
                        n21 < (↑l0.len : Int)) ∧
                        (derefK l0.a (fun i30 => fun i31 => fun h32 =>
                        ∃ n33 : Int, (h32.read i30 (i31 + n21.toNat * 4 + 3) 1 = some [Cell.int IntKind.i64 n33]) ∧
                        (ifT (decide (n29 < n33))
                          (Q [V.one (Cell.slice 6 { a := none, len := 0 }), V.one (Cell.int IntKind.i64 7)])
                          (x7 (IntKind.i64.wrap (n8 + 1)))) h32)) h28)) h26) h23))
                  (fun x34 => fun h35 =>
                  ∃ n36 : Int, (h35.read i16 1 1 = some [Cell.int IntKind.i64 n36]) ∧
                  (ifT (decide (n36 < 1))
                    (x34 true)
                    (fun h37 =>
                    ∃ n38 : Int, (h37.read i16 1 1 = some [Cell.int IntKind.i64 n38]) ∧
                    x34 (decide (n38 > 4)) h37)) h35))) h20) h18)) h17)) h12)) h9)
            (joinK (A := Bool)
              (fun b39 => ifT b39
                (Q [V.one (Cell.slice 6 { a := none, len := 0 }), V.one (Cell.int IntKind.i64 1)])
                (fun h40 =>
                (newK (.map []) (fun i41 => loopK (A := Int) 0
                  (fun x42 => fun n43 => ifT (decide (n43 < (↑l0.len : Int)))
                    (fun h44 =>
                    ((0 ≤ n43) ∧
                    n43 < (↑l0.len : Int)) ∧
                    (derefK l0.a (fun i45 => fun i46 => fun h47 =>
                    ∃ s48 : ByteArray, ∃ s49 : ByteArray, ∃ s50 : ByteArray, ∃ n51 : Int, (h47.read i45 (i46 + n43.toNat * 4) 4 = some [Cell.str s48, Cell.str s49, Cell.str s50, Cell.int IntKind.i64 n51]) ∧
                    ∃ s52 : ByteArray, ∃ n53 : Int, ∃ n54 : Int, ∃ n55 : Int, ∃ n56 : Int, ∃ n57 : Int, ∃ b58 : Bool, (∃ cs59 : List (V × V), (mapOf h47 (some i41) = some cs59) ∧
                    mapGet (V.one (Cell.str s50)) (V.agg [Cell.str ByteArray.empty, Cell.int IntKind.i64 0, Cell.int IntKind.i64 0, Cell.int IntKind.i64 0, Cell.int IntKind.i64 0, Cell.int IntKind.i64 0]) cs59 = some (V.agg [Cell.str s52, Cell.int IntKind.i64 n53, Cell.int IntKind.i64 n54, Cell.int IntKind.i64 n55, Cell.int IntKind.i64 n56, Cell.int IntKind.i64 n57], b58)) ∧
                    (newK (.cells false [Cell.str ByteArray.empty, Cell.int IntKind.i64 0, Cell.int IntKind.i64 0, Cell.int IntKind.i64 0, Cell.int IntKind.i64 0, Cell.int IntKind.i64 0]) (fun i60 => fun h61 => 
                    (storeK [] i60 0 [Cell.str s52, Cell.int IntKind.i64 n53, Cell.int IntKind.i64 n54, Cell.int IntKind.i64 n55, Cell.int IntKind.i64 n56, Cell.int IntKind.i64 n57] (fun h62 =>
                    ∃ n63 : Int, (h62.read i60 1 1 = some [Cell.int IntKind.i64 n63]) ∧
                    (storeK [] i60 0 [Cell.str s50] (fun h64 =>
                    (storeK [] i60 1 [Cell.int IntKind.i64 (IntKind.i64.wrap (n63 + 1))] (fun h65 =>
                    (newK (.map []) (fun i66 => fun h67 => 
                    (newK (.cells false [Cell.map none]) (fun i68 => fun h69 => 
                    (storeK [] i68 0 [Cell.map (some i66)] (loopK (A := Int) 0
                      (fun x70 => fun n71 => ifT (decide (n71 < (↑l1.len : Int)))
                        (fun h72 =>
                        ((0 ≤ n71) ∧
                        n71 < (↑l1.len : Int)) ∧
                        (derefK l1.a (fun i73 => fun i74 => fun h75 =>
                        ∃ s76 : ByteArray, ∃ n77 : Int, ∃ n78 : Int, (h75.read i73 (i74 + n71.toNat * 3) 3 = some [Cell.str s76, Cell.int IntKind.i64 n77, Cell.int IntKind.i64 n78]) ∧
                        ∃ p79 : Option Nat, (h75.read i68 0 1 = some [Cell.map p79]) ∧
                        ∃ p80 : Option Nat, (h75.read i68 0 1 = some [Cell.map p80]) ∧
                        ∃ b81 : Bool, ∃ b82 : Bool, (∃ cs83 : List (V × V), (mapOf h75 p80 = some cs83) ∧
                        mapGet (V.one (Cell.int IntKind.i64 n77)) (V.one (Cell.bool false)) cs83 = some (V.one (Cell.bool b81), b82)) ∧
                        (ifT b81
                          (fun h84 =>
                          (mapK [] p79 (V.one (Cell.int IntKind.i64 n77)) (V.one (Cell.bool true)) (x70 (IntKind.i64.wrap (n71 + 1)))) h84)
                          (ifT (decide (s76 = s48))
                            (fun h85 =>
                            (mapK [] p79 (V.one (Cell.int IntKind.i64 n77)) (V.one (Cell.bool (decide (n78 ≤ IntKind.i64.wrap (n51 + n2))))) (x70 (IntKind.i64.wrap (n71 + 1)))) h85)
                            (fun h86 =>
                            (mapK [] p79 (V.one (Cell.int IntKind.i64 n77)) (V.one (Cell.bool false)) (x70 (IntKind.i64.wrap (n71 + 1)))) h86))) h75)) h72)
                        (fun h87 =>
                        (newK (.cells false [Cell.int IntKind.i64 1, Cell.int IntKind.i64 2, Cell.int IntKind.i64 3]) (fun i88 => fun h89 =>
                        I 33 [V.one (Cell.ptr (some (i60, 2))), V.one (Cell.slice 1 { a := some (i88, 0), len := 3 }), V.one (Cell.ptr (some (i68, 0)))]
                          (fun cs90 => fun h91 => 
                          (cs90 = []) ∧
                          (newK (.cells false [Cell.int IntKind.i64 2, Cell.int IntKind.i64 3]) (fun i92 => fun h93 =>
                          I 33 [V.one (Cell.ptr (some (i60, 3))), V.one (Cell.slice 1 { a := some (i92, 0), len := 2 }), V.one (Cell.ptr (some (i68, 0)))]
                            (fun cs94 => fun h95 => 
                            (cs94 = []) ∧
                            (newK (.cells false [Cell.int IntKind.i64 3]) (fun i96 => fun h97 =>
                            I 33 [V.one (Cell.ptr (some (i60, 4))), V.one (Cell.slice 1 { a := some (i96, 0), len := 1 }), V.one (Cell.ptr (some (i68, 0)))]
                              (fun cs98 => fun h99 => 
                              (cs98 = []) ∧
                              (newK (.cells false [Cell.int IntKind.i64 4]) (fun i100 => fun h101 =>
                              I 33 [V.one (Cell.ptr (some (i60, 5))), V.one (Cell.slice 1 { a := some (i100, 0), len := 1 }), V.one (Cell.ptr (some (i68, 0)))]
                                (fun cs102 => fun h103 => 
                                (cs102 = []) ∧
                                ∃ s104 : ByteArray, ∃ n105 : Int, ∃ n106 : Int, ∃ n107 : Int, ∃ n108 : Int, ∃ n109 : Int, (h103.read i60 0 6 = some [Cell.str s104, Cell.int IntKind.i64 n105, Cell.int IntKind.i64 n106, Cell.int IntKind.i64 n107, Cell.int IntKind.i64 n108, Cell.int IntKind.i64 n109]) ∧
                                (mapK [] (some i41) (V.one (Cell.str s50)) (V.agg [Cell.str s104, Cell.int IntKind.i64 n105, Cell.int IntKind.i64 n106, Cell.int IntKind.i64 n107, Cell.int IntKind.i64 n108, Cell.int IntKind.i64 n109]) (x42 (IntKind.i64.wrap (n43 + 1)))) h103) h101)) h99) h97)) h95) h93)) h91) h89)) h87)))) h69)) h67)) h65)) h64)) h62)) h61)) h47)) h44)
                    (fun h110 =>
                    (rangeK i41 (fun i111 => loopK (A := Sl) ({ a := none, len := 0 })
                      (fun x112 => fun l113 => fun h114 => 
                      (nextK i111
                        (fun h115 =>
                        I 36 [V.one (Cell.slice 6 l113), V.one (Cell.func (some (37, [])))]
                          (fun cs116 => fun h117 => 
                          (cs116 = []) ∧
                          Q [V.one (Cell.slice 6 l113), V.one (Cell.int IntKind.i64 0)] h117) h115)
                        (fun x118 => fun x119 => fun h120 => 
                        ∃ s121 : ByteArray, ∃ s122 : ByteArray, ∃ n123 : Int, ∃ n124 : Int, ∃ n125 : Int, ∃ n126 : Int, ∃ n127 : Int, (x118 = V.one (Cell.str s121)) ∧
                        (x119 = V.agg [Cell.str s122, Cell.int IntKind.i64 n123, Cell.int IntKind.i64 n124, Cell.int IntKind.i64 n125, Cell.int IntKind.i64 n126, Cell.int IntKind.i64 n127]) ∧
                        (entryK i111 (fun x128 => fun x129 => fun h130 => 
                        ∃ s131 : ByteArray, ∃ s132 : ByteArray, ∃ n133 : Int, ∃ n134 : Int, ∃ n135 : Int, ∃ n136 : Int, ∃ n137 : Int, (x128 = V.one (Cell.str s131)) ∧
                        (x129 = V.agg [Cell.str s132, Cell.int IntKind.i64 n133, Cell.int IntKind.i64 n134, Cell.int IntKind.i64 n135, Cell.int IntKind.i64 n136, Cell.int IntKind.i64 n137]) ∧
                        (appendTo [] 6 56 l113 1 [Cell.str s132, Cell.int IntKind.i64 n133, Cell.int IntKind.i64 n134, Cell.int IntKind.i64 n135, Cell.int IntKind.i64 n136, Cell.int IntKind.i64 n137] (fun l138 => fun h139 => 
                        x112 l138 h139)) h130)) h120)) h114))) h110)))) h40))
              (fun x140 => ifT (decide (n2 < 0))
                (x140 true)
                (x140 (decide (n2 > 4321440))))))))) h5) h3
theorem den8 (I : FuncId → List V → Post → T) (l0 : Sl) (l1 : Sl) (n2 : Int) (Q : Post) : denF Go.Proofs.Tryz.prog 4472832 (⟨[(124, 9297159013149614014464, [(72, tk Go.Proofs.Tryz.prog 4)]), (250678, 4494803534348288, [(43, tk Go.Proofs.Tryz.prog 4)])], [(122, 147573952581086481600, [(33, tk Go.Proofs.Tryz.prog 3)]), (1018, 22300745198530623141460160408922447183462400, [(76, tk Go.Proofs.Tryz.prog 3)]), (4090, 22746760102501235604366432638101328736105267200, [(20, tk Go.Proofs.Tryz.prog 31)]), (4171386, 5316911963332622863049143842735652864, [(94, tk Go.Proofs.Tryz.prog 3)])]⟩) I 8 [V.one (Cell.slice 4 l0), V.one (Cell.slice 3 l1), V.one (Cell.int IntKind.i64 n2)] Q = vc8 I l0 l1 n2 Q := by kernel_rfl
/-- handbill/handref1.SentFault -/
def vc29 (I : FuncId → List V → Post → T) (l0 : Sl) (Q : Post) : T :=
  ifT (decide ((↑l0.len : Int) > 5000))
    (Q [V.one (Cell.int IntKind.i64 2)])
    (loopK (A := Int) 0
      (fun x1 => fun n2 => ifT (decide (n2 < (↑l0.len : Int)))
        (fun h3 =>
        ((0 ≤ n2) ∧
        n2 < (↑l0.len : Int)) ∧
        (derefK l0.a (fun i4 => fun i5 => fun h6 =>
        ∃ s7 : ByteArray, ∃ s8 : ByteArray, ∃ s9 : ByteArray, ∃ n10 : Int, (h6.read i4 (i5 + n2.toNat * 4) 4 = some [Cell.str s7, Cell.str s8, Cell.str s9, Cell.int IntKind.i64 n10]) ∧
        (newK (.cells false [Cell.str ByteArray.empty, Cell.str ByteArray.empty, Cell.str ByteArray.empty, Cell.int IntKind.i64 0]) (fun i11 => fun h12 => 
        (storeK [] i11 0 [Cell.str s7, Cell.str s8, Cell.str s9, Cell.int IntKind.i64 n10] (fun h13 =>
        ∃ s14 : ByteArray, (h13.read i11 0 1 = some [Cell.str s14]) ∧
        I 48 [V.one (Cell.str s14)]
          (fun cs15 => fun h16 => 
          ∃ b17 : Bool, (cs15 = [V.one (Cell.bool b17)]) ∧
          (ifT (!b17)
            (Q [V.one (Cell.int IntKind.i64 5)])
            (fun h18 =>
            (((0 : Int) ≤ (0 : Int)) ∧
            (0 ≤ n2) ∧
            n2 ≤ (↑l0.len : Int)) ∧
            I 49 [V.one (Cell.slice 4 (l0.sub 4 0 n2.toNat)), V.one (Cell.func (some (50, [(i11, 0)])))]
              (fun cs19 => fun h20 => 
              ∃ b21 : Bool, (cs19 = [V.one (Cell.bool b21)]) ∧
              (ifT b21
                (Q [V.one (Cell.int IntKind.i64 6)])
                (joinK (A := Bool)
                  (fun b22 => ifT b22
                    (Q [V.one (Cell.int IntKind.i64 5)])
                    (fun h23 =>
                    ∃ n24 : Int, (h23.read i11 3 1 = some [Cell.int IntKind.i64 n24]) ∧
                    I 32 [V.one (Cell.int IntKind.i64 n24)]
                      (fun cs25 => fun h26 => 
                      ∃ b27 : Bool, (cs25 = [V.one (Cell.bool b27)]) ∧
                      (ifT (!b27)
                        (Q [V.one (Cell.int IntKind.i64 1)])
                        (ifT (decide (n2 > 0))
                          (fun h28 =>
                          ∃ n29 : Int, (h28.read i11 3 1 = some [Cell.int IntKind.i64 n29]) ∧
                          ((0 ≤ IntKind.i64.wrap (n2 - 1)) ∧
                          IntKind.i64.wrap (n2 - 1) < (↑l0.len : Int)) ∧
                          (derefK l0.a (fun i30 => fun i31 => fun h32 =>
                          ∃ n33 : Int, (h32.read i30 (i31 + (IntKind.i64.wrap (n2 - 1)).toNat * 4 + 3) 1 = some [Cell.int IntKind.i64 n33]) ∧
                          (ifT (decide (n29 < n33))
                            (Q [V.one (Cell.int IntKind.i64 7)])
                            (x1 (IntKind.i64.wrap (n2 + 1)))) h32)) h28)
                          (x1 (IntKind.i64.wrap (n2 + 1))))) h26) h23))
                  (fun x34 => fun h35 =>
                  ∃ s36 : ByteArray, (h35.read i11 1 1 = some [Cell.str s36]) ∧
                  I 48 [V.one (Cell.str s36)]
                    (fun cs37 => fun h38 => 
                    ∃ b39 : Bool, (cs37 = [V.one (Cell.bool b39)]) ∧
                    (ifT (!b39)
                      (x34 true)
                      (fun h40 =>
                      ∃ s41 : ByteArray, (h40.read i11 2 1 = some [Cell.str s41]) ∧
                      I 48 [V.one (Cell.str s41)]
                        (fun cs42 => fun h43 => 
                        ∃ b44 : Bool, (cs42 = [V.one (Cell.bool b44)]) ∧
                        x34 (!b44) h43) h40)) h38) h35))) h20) h18)) h16) h13)) h12)) h6)) h3)
        (Q [V.one (Cell.int IntKind.i64 0)])))
theorem den29 (I : FuncId → List V → Post → T) (l0 : Sl) (Q : Post) : denF Go.Proofs.Tryz.prog 0 (⟨[(239198, 137371844608, [(26, tk Go.Proofs.Tryz.prog 4)])], [(58, 144115188075854876, [(10, tk Go.Proofs.Tryz.prog 3)])]⟩) I 29 [V.one (Cell.slice 4 l0)] Q = vc29 I l0 Q := by kernel_rfl
/-- handbill/handref1.Moment -/
def vc32 (I : FuncId → List V → Post → T) (n0 : Int) (Q : Post) : T :=
  ifT (decide (n0 ≥ 0))
    (Q [V.one (Cell.bool (decide (n0 < 4321440)))])
    (Q [V.one (Cell.bool false)])
theorem den32 (I : FuncId → List V → Post → T) (n0 : Int) (Q : Post) : denF Go.Proofs.Tryz.prog 0 (⟨[], []⟩) I 32 [V.one (Cell.int IntKind.i64 n0)] Q = vc32 I n0 Q := by kernel_rfl
/-- handbill/handref1.keyOf -/
def vc48 (I : FuncId → List V → Post → T) (s0 : ByteArray) (Q : Post) : T :=
  fun h1 =>
  I 65 [V.one (Cell.str s0)]
    (fun cs2 => fun h3 => 
    ∃ b4 : Bool, (cs2 = [V.one (Cell.bool b4)]) ∧
    Q [V.one (Cell.bool b4)] h3) h1
theorem den48 (I : FuncId → List V → Post → T) (s0 : ByteArray) (Q : Post) : denF Go.Proofs.Tryz.prog 0 (⟨[], []⟩) I 48 [V.one (Cell.str s0)] Q = vc48 I s0 Q := by kernel_rfl
/-- handbill/handref2.Key -/
def vc65 (I : FuncId → List V → Post → T) (s0 : ByteArray) (Q : Post) : T :=
  fun h1 =>
  I 88 [V.one (Cell.int IntKind.i64 (↑s0.size : Int)), V.one (Cell.int IntKind.i64 1), V.one (Cell.int IntKind.i64 40)]
    (fun cs2 => fun h3 => 
    ∃ b4 : Bool, (cs2 = [V.one (Cell.bool b4)]) ∧
    (ifT b4
      (fun h5 =>
      (((0 : Int) ≤ (0 : Int)) ∧
      ((0 : Int) ≤ (1 : Int)) ∧
      1 ≤ (↑s0.size : Int)) ∧
      I 89 [V.one (Cell.str (s0.extract 0 1)), V.one (Cell.str { data := #[97, 98, 99, 100, 101, 102, 103, 104, 105, 106, 107, 108, 109, 110, 111, 112, 113, 114, 115, 116, 117, 118, 119, 120, 121, 122] })]
        (fun cs6 => fun h7 => 
        ∃ b8 : Bool, (cs6 = [V.one (Cell.bool b8)]) ∧
        (ifT b8
          (fun h9 =>
          I 89 [V.one (Cell.str s0), V.one (Cell.str { data := #[97, 98, 99, 100, 101, 102, 103, 104, 105, 106, 107, 108, 109, 110, 111, 112, 113, 114, 115, 116, 117, 118, 119, 120, 121, 122, 48, 49, 50, 51, 52, 53, 54, 55, 56, 57, 45, 95] })]
            (fun cs10 => fun h11 => 
            ∃ b12 : Bool, (cs10 = [V.one (Cell.bool b12)]) ∧
            Q [V.one (Cell.bool b12)] h11) h9)
          (Q [V.one (Cell.bool false)])) h7) h5)
      (Q [V.one (Cell.bool false)])) h3) h1
theorem den65 (I : FuncId → List V → Post → T) (s0 : ByteArray) (Q : Post) : denF Go.Proofs.Tryz.prog 0 (⟨[], []⟩) I 65 [V.one (Cell.str s0)] Q = vc65 I s0 Q := by kernel_rfl
/-- handbill/handref2.in -/
def vc88 (I : FuncId → List V → Post → T) (n0 : Int) (n1 : Int) (n2 : Int) (Q : Post) : T :=
  ifT (decide (n1 ≤ n0))
    (Q [V.one (Cell.bool (decide (n0 ≤ n2)))])
    (Q [V.one (Cell.bool false)])
theorem den88 (I : FuncId → List V → Post → T) (n0 : Int) (n1 : Int) (n2 : Int) (Q : Post) : denF Go.Proofs.Tryz.prog 0 (⟨[], []⟩) I 88 [V.one (Cell.int IntKind.i64 n0), V.one (Cell.int IntKind.i64 n1), V.one (Cell.int IntKind.i64 n2)] Q = vc88 I n0 n1 n2 Q := by kernel_rfl
/-- handbill/handref2.only -/
def vc89 (I : FuncId → List V → Post → T) (s0 : ByteArray) (s1 : ByteArray) (Q : Post) : T :=
  fun h2 =>
  I 99 [V.one (Cell.str s0), V.one (Cell.str s1)]
    (fun cs3 => fun h4 => 
    ∃ s5 : ByteArray, (cs3 = [V.one (Cell.str s5)]) ∧
    Q [V.one (Cell.bool (decide (s5 = { data := #[] })))] h4) h2
theorem den89 (I : FuncId → List V → Post → T) (s0 : ByteArray) (s1 : ByteArray) (Q : Post) : denF Go.Proofs.Tryz.prog 0 (⟨[], []⟩) I 89 [V.one (Cell.str s0), V.one (Cell.str s1)] Q = vc89 I s0 s1 Q := by kernel_rfl
/-- strings.Trim (by hand) -/
def vc99 (I : FuncId → List V → Post → T) (s0 : ByteArray) (s1 : ByteArray) (Q : Post) : T :=
  joinK (A := Bool)
    (fun b2 => ifT b2
      (Q [V.one (Cell.str s0)])
      (joinK (A := Bool)
        (fun b3 => ifT b3
          (fun h4 =>
          (((0 : Int) ≤ (0 : Int)) ∧
          0 < (↑s1.size : Int)) ∧
          (((0 : Int) ≤ (0 : Int)) ∧
          0 < (↑s1.size : Int)) ∧
          I 103 [V.one (Cell.str s0), V.one (Cell.int IntKind.u8 (byteAt s1 0))]
            (fun cs5 => fun h6 => 
            ∃ s7 : ByteArray, (cs5 = [V.one (Cell.str s7)]) ∧
            I 102 [V.one (Cell.str s7), V.one (Cell.int IntKind.u8 (byteAt s1 0))]
              (fun cs8 => fun h9 => 
              ∃ s10 : ByteArray, (cs8 = [V.one (Cell.str s10)]) ∧
              Q [V.one (Cell.str s10)] h9) h6) h4)
          (fun h11 =>
          I 104 [V.one (Cell.str s1)]
            (fun cs12 => fun h13 => 
            exCells (List.replicate 256 Kd.bool) fun ds14 => ∃ b270 : Bool, (cs12 = [V.agg ds14, V.one (Cell.bool b270)]) ∧
            (newK (.cells false (List.replicate 256 (Cell.bool false))) (fun i271 => fun h272 => 
            (storeK [] i271 0 ds14 (ifT b270
              (fun h273 =>
              I 106 [V.one (Cell.str s0), V.one (Cell.ptr (some (i271, 0)))]
                (fun cs274 => fun h275 => 
                ∃ s276 : ByteArray, (cs274 = [V.one (Cell.str s276)]) ∧
                I 105 [V.one (Cell.str s276), V.one (Cell.ptr (some (i271, 0)))]
                  (fun cs277 => fun h278 => 
                  ∃ s279 : ByteArray, (cs277 = [V.one (Cell.str s279)]) ∧
                  Q [V.one (Cell.str s279)] h278) h275) h273)
              (fun h280 =>
              I 108 [V.one (Cell.str s0), V.one (Cell.str s1)]
                (fun cs281 => fun h282 => 
                ∃ s283 : ByteArray, (cs281 = [V.one (Cell.str s283)]) ∧
                I 107 [V.one (Cell.str s283), V.one (Cell.str s1)]
                  (fun cs284 => fun h285 => 
                  ∃ s286 : ByteArray, (cs284 = [V.one (Cell.str s286)]) ∧
                  Q [V.one (Cell.str s286)] h285) h282) h280))) h272)) h13) h11))
        (fun x287 => ifT (decide ((↑s1.size : Int) = 1))
          (fun h288 =>
          (((0 : Int) ≤ (0 : Int)) ∧
          0 < (↑s1.size : Int)) ∧
          x287 (decide (byteAt s1 0 < 128)) h288)
          (x287 false))))
    (fun x289 => ifT (decide (s0 = { data := #[] }))
      (x289 true)
      (x289 (decide (s1 = { data := #[] }))))
theorem den99 (I : FuncId → List V → Post → T) (s0 : ByteArray) (s1 : ByteArray) (Q : Post) : denF Go.Proofs.Tryz.prog 0 (⟨[(12, 8064, [(12, tk Go.Proofs.Tryz.prog 4)]), (28, 4177920, [(21, tk Go.Proofs.Tryz.prog 4)])], []⟩) I 99 [V.one (Cell.str s0), V.one (Cell.str s1)] Q = vc99 I s0 s1 Q := by kernel_rfl
/-- strings.trimLeftByte -/
def vc102 (I : FuncId → List V → Post → T) (s0 : ByteArray) (n1 : Int) (Q : Post) : T :=
  loopK (A := ByteArray) s0
    (fun x2 => fun s3 => ifT (decide ((↑s3.size : Int) > 0))
      (fun h4 =>
      (((0 : Int) ≤ (0 : Int)) ∧
      0 < (↑s3.size : Int)) ∧
      (ifT (decide (byteAt s3 0 = n1))
        (fun h5 =>
        (((0 : Int) ≤ (1 : Int)) ∧
        (1 ≤ (↑s3.size : Int)) ∧
        (↑s3.size : Int) ≤ (↑s3.size : Int)) ∧
        x2 (s3.extract 1 (↑s3.size : Int).toNat) h5)
        (Q [V.one (Cell.str s3)])) h4)
      (Q [V.one (Cell.str s3)]))
theorem den102 (I : FuncId → List V → Post → T) (s0 : ByteArray) (n1 : Int) (Q : Post) : denF Go.Proofs.Tryz.prog 0 (⟨[], [(12, 65505, [(0, tk Go.Proofs.Tryz.prog 9)])]⟩) I 102 [V.one (Cell.str s0), V.one (Cell.int IntKind.u8 n1)] Q = vc102 I s0 n1 Q := by kernel_rfl
/-- strings.trimRightByte -/
def vc103 (I : FuncId → List V → Post → T) (s0 : ByteArray) (n1 : Int) (Q : Post) : T :=
  loopK (A := ByteArray) s0
    (fun x2 => fun s3 => ifT (decide ((↑s3.size : Int) > 0))
      (fun h4 =>
      ((0 ≤ IntKind.i64.wrap ((↑s3.size : Int) - 1)) ∧
      IntKind.i64.wrap ((↑s3.size : Int) - 1) < (↑s3.size : Int)) ∧
      (ifT (decide (byteAt s3 (IntKind.i64.wrap ((↑s3.size : Int) - 1)) = n1))
        (fun h5 =>
        (((0 : Int) ≤ (0 : Int)) ∧
        (0 ≤ IntKind.i64.wrap ((↑s3.size : Int) - 1)) ∧
        IntKind.i64.wrap ((↑s3.size : Int) - 1) ≤ (↑s3.size : Int)) ∧
        x2 (s3.extract 0 (IntKind.i64.wrap ((↑s3.size : Int) - 1)).toNat) h5)
        (Q [V.one (Cell.str s3)])) h4)
      (Q [V.one (Cell.str s3)]))
theorem den103 (I : FuncId → List V → Post → T) (s0 : ByteArray) (n1 : Int) (Q : Post) : denF Go.Proofs.Tryz.prog 0 (⟨[], [(12, 4194273, [(0, tk Go.Proofs.Tryz.prog 9)])]⟩) I 103 [V.one (Cell.str s0), V.one (Cell.int IntKind.u8 n1)] Q = vc103 I s0 n1 Q := by kernel_rfl
/-- strings.makeASCIISet (by hand) -/
def vc104 (I : FuncId → List V → Post → T) (s0 : ByteArray) (Q : Post) : T :=
  fun h1 =>
  (newK (.cells false (List.replicate 256 (Cell.bool false))) (fun i2 => loopK (A := Int) 0
    (fun x3 => fun n4 => ifT (decide (n4 < (↑s0.size : Int)))
      (fun h5 =>
      ((0 ≤ n4) ∧
      n4 < (↑s0.size : Int)) ∧
      (ifT (decide (byteAt s0 n4 ≥ 128))
        (fun h6 =>
        exCells (List.replicate 256 Kd.bool) fun ds7 => (h6.read i2 0 256 = some ds7) ∧
        (storeK [] i2 0 ds7 (fun h263 =>
        exCells (List.replicate 256 Kd.bool) fun ds264 => (h263.read i2 0 256 = some ds264) ∧
        Q [V.agg ds264, V.one (Cell.bool false)] h263)) h6)
        (fun h520 =>
        ((0 ≤ byteAt s0 n4) ∧
        byteAt s0 n4 < (↑256 : Int)) ∧
        (storeK [] i2 (0 + (byteAt s0 n4).toNat * 1) [Cell.bool true] (x3 (IntKind.i64.wrap (n4 + 1)))) h520)) h5)
      (fun h521 =>
      exCells (List.replicate 256 Kd.bool) fun ds522 => (h521.read i2 0 256 = some ds522) ∧
      (storeK [] i2 0 ds522 (fun h778 =>
      exCells (List.replicate 256 Kd.bool) fun ds779 => (h778.read i2 0 256 = some ds779) ∧
      Q [V.agg ds779, V.one (Cell.bool true)] h778)) h521)))) h1
theorem den104 (I : FuncId → List V → Post → T) (s0 : ByteArray) (Q : Post) : denF Go.Proofs.Tryz.prog 0 (⟨[], [(26, 1048568, [(4, tk Go.Proofs.Tryz.prog 3)])]⟩) I 104 [V.one (Cell.str s0)] Q = vc104 I s0 Q := by kernel_rfl
/-- strings.trimLeftASCII -/
def vc105 (I : FuncId → List V → Post → T) (s0 : ByteArray) (p1 : Option (Nat × Nat)) (Q : Post) : T :=
  loopK (A := ByteArray) s0
    (fun x2 => fun s3 => ifT (decide ((↑s3.size : Int) > 0))
      (fun h4 =>
      (((0 : Int) ≤ (0 : Int)) ∧
      0 < (↑s3.size : Int)) ∧
      I 109 [V.one (Cell.ptr p1), V.one (Cell.int IntKind.u8 (byteAt s3 0))]
        (fun cs5 => fun h6 => 
        ∃ b7 : Bool, (cs5 = [V.one (Cell.bool b7)]) ∧
        (ifT (!b7)
          (Q [V.one (Cell.str s3)])
          (fun h8 =>
          (((0 : Int) ≤ (1 : Int)) ∧
          (1 ≤ (↑s3.size : Int)) ∧
          (↑s3.size : Int) ≤ (↑s3.size : Int)) ∧
          x2 (s3.extract 1 (↑s3.size : Int).toNat) h8)) h6) h4)
      (Q [V.one (Cell.str s3)]))
theorem den105 (I : FuncId → List V → Post → T) (s0 : ByteArray) (p1 : Option (Nat × Nat)) (Q : Post) : denF Go.Proofs.Tryz.prog 0 (⟨[], [(12, 32737, [(0, tk Go.Proofs.Tryz.prog 9)])]⟩) I 105 [V.one (Cell.str s0), V.one (Cell.ptr p1)] Q = vc105 I s0 p1 Q := by kernel_rfl
/-- (*strings.asciiSet).contains -/
def vc109 (I : FuncId → List V → Post → T) (p0 : Option (Nat × Nat)) (n1 : Int) (Q : Post) : T :=
  derefK p0 (fun i2 => fun i3 => fun h4 => 
  ((0 ≤ n1) ∧
  n1 < (↑256 : Int)) ∧
  ∃ b5 : Bool, (h4.read i2 (i3 + n1.toNat * 1) 1 = some [Cell.bool b5]) ∧
  Q [V.one (Cell.bool b5)] h4)
theorem den109 (I : FuncId → List V → Post → T) (p0 : Option (Nat × Nat)) (n1 : Int) (Q : Post) : denF Go.Proofs.Tryz.prog 0 (⟨[], []⟩) I 109 [V.one (Cell.ptr p0), V.one (Cell.int IntKind.u8 n1)] Q = vc109 I p0 n1 Q := by kernel_rfl
/-- strings.trimRightASCII -/
def vc106 (I : FuncId → List V → Post → T) (s0 : ByteArray) (p1 : Option (Nat × Nat)) (Q : Post) : T :=
  loopK (A := ByteArray) s0
    (fun x2 => fun s3 => ifT (decide ((↑s3.size : Int) > 0))
      (fun h4 =>
      ((0 ≤ IntKind.i64.wrap ((↑s3.size : Int) - 1)) ∧
      IntKind.i64.wrap ((↑s3.size : Int) - 1) < (↑s3.size : Int)) ∧
      I 109 [V.one (Cell.ptr p1), V.one (Cell.int IntKind.u8 (byteAt s3 (IntKind.i64.wrap ((↑s3.size : Int) - 1))))]
        (fun cs5 => fun h6 => 
        ∃ b7 : Bool, (cs5 = [V.one (Cell.bool b7)]) ∧
        (ifT (!b7)
          (Q [V.one (Cell.str s3)])
          (fun h8 =>
          (((0 : Int) ≤ (0 : Int)) ∧
          (0 ≤ IntKind.i64.wrap ((↑s3.size : Int) - 1)) ∧
          IntKind.i64.wrap ((↑s3.size : Int) - 1) ≤ (↑s3.size : Int)) ∧
          x2 (s3.extract 0 (IntKind.i64.wrap ((↑s3.size : Int) - 1)).toNat) h8)) h6) h4)
      (Q [V.one (Cell.str s3)]))
theorem den106 (I : FuncId → List V → Post → T) (s0 : ByteArray) (p1 : Option (Nat × Nat)) (Q : Post) : denF Go.Proofs.Tryz.prog 0 (⟨[], [(12, 2097121, [(0, tk Go.Proofs.Tryz.prog 9)])]⟩) I 106 [V.one (Cell.str s0), V.one (Cell.ptr p1)] Q = vc106 I s0 p1 Q := by kernel_rfl
/-- strings.trimLeftUnicode -/
def vc107 (I : FuncId → List V → Post → T) (s0 : ByteArray) (s1 : ByteArray) (Q : Post) : T :=
  loopK (A := ByteArray) s0
    (fun x2 => fun s3 => ifT (decide ((↑s3.size : Int) > 0))
      (fun h4 =>
      I 110 [V.one (Cell.str s3)]
        (fun cs5 => fun h6 => 
        ∃ n7 : Int, ∃ n8 : Int, (cs5 = [V.one (Cell.int IntKind.i32 n7), V.one (Cell.int IntKind.i64 n8)]) ∧
        I 111 [V.one (Cell.str s1), V.one (Cell.int IntKind.i32 n7)]
          (fun cs9 => fun h10 => 
          ∃ b11 : Bool, (cs9 = [V.one (Cell.bool b11)]) ∧
          (ifT (!b11)
            (Q [V.one (Cell.str s3)])
            (fun h12 =>
            ((0 ≤ n8) ∧
            (n8 ≤ (↑s3.size : Int)) ∧
            (↑s3.size : Int) ≤ (↑s3.size : Int)) ∧
            x2 (s3.extract n8.toNat (↑s3.size : Int).toNat) h12)) h10) h6) h4)
      (Q [V.one (Cell.str s3)]))
theorem den107 (I : FuncId → List V → Post → T) (s0 : ByteArray) (s1 : ByteArray) (Q : Post) : denF Go.Proofs.Tryz.prog 0 (⟨[], [(12, 4194273, [(0, tk Go.Proofs.Tryz.prog 9)])]⟩) I 107 [V.one (Cell.str s0), V.one (Cell.str s1)] Q = vc107 I s0 s1 Q := by kernel_rfl
/-- unicode/utf8.DecodeRuneInString -/
def vc110 (I : FuncId → List V → Post → T) (s0 : ByteArray) (Q : Post) : T :=
  joinK (A := Bool)
    (fun b1 => ifT b1
      (fun h2 =>
      (((0 : Int) ≤ (0 : Int)) ∧
      0 < (↑s0.size : Int)) ∧
      Q [V.one (Cell.int IntKind.i32 (IntKind.i32.wrap (byteAt s0 0))), V.one (Cell.int IntKind.i64 1)] h2)
      (fun h3 =>
      I 113 [V.one (Cell.str s0)]
        (fun cs4 => fun h5 => 
        ∃ n6 : Int, ∃ n7 : Int, (cs4 = [V.one (Cell.int IntKind.i32 n6), V.one (Cell.int IntKind.i64 n7)]) ∧
        Q [V.one (Cell.int IntKind.i32 n6), V.one (Cell.int IntKind.i64 n7)] h5) h3))
    (fun x8 => ifT (!decide (s0 = { data := #[] }))
      (fun h9 =>
      (((0 : Int) ≤ (0 : Int)) ∧
      0 < (↑s0.size : Int)) ∧
      x8 (decide (byteAt s0 0 < 128)) h9)
      (x8 false))
theorem den110 (I : FuncId → List V → Post → T) (s0 : ByteArray) (Q : Post) : denF Go.Proofs.Tryz.prog 0 (⟨[(12, 2032, [(10, tk Go.Proofs.Tryz.prog 4)])], []⟩) I 110 [V.one (Cell.str s0)] Q = vc110 I s0 Q := by kernel_rfl
/-- unicode/utf8.decodeRuneInStringSlow -/
def vc113 (I : FuncId → List V → Post → T) (s0 : ByteArray) (Q : Post) : T :=
  ifT (decide ((↑s0.size : Int) < 1))
    (Q [V.one (Cell.int IntKind.i32 65533), V.one (Cell.int IntKind.i64 0)])
    (fun h1 =>
    (((0 : Int) ≤ (0 : Int)) ∧
    0 < (↑s0.size : Int)) ∧
    (no) h1)
theorem den113 (I : FuncId → List V → Post → T) (s0 : ByteArray) (Q : Post) : denF Go.Proofs.Tryz.prog 512 (⟨[(8188, 287948901175001088, [(57, tk Go.Proofs.Tryz.prog 4)]), (65532, 74377272105196912115712, [(75, tk Go.Proofs.Tryz.prog 4)]), (524284, 623921779799831658549158608896, [(98, tk Go.Proofs.Tryz.prog 4)])], []⟩) I 113 [V.one (Cell.str s0)] Q = vc113 I s0 Q := by kernel_rfl
/-- strings.ContainsRune -/
def vc111 (I : FuncId → List V → Post → T) (s0 : ByteArray) (n1 : Int) (Q : Post) : T :=
  fun h2 =>
  I 114 [V.one (Cell.str s0), V.one (Cell.int IntKind.i32 n1)]
    (fun cs3 => fun h4 => 
    ∃ n5 : Int, (cs3 = [V.one (Cell.int IntKind.i64 n5)]) ∧
    Q [V.one (Cell.bool (decide (n5 ≥ 0)))] h4) h2
theorem den111 (I : FuncId → List V → Post → T) (s0 : ByteArray) (n1 : Int) (Q : Post) : denF Go.Proofs.Tryz.prog 0 (⟨[], []⟩) I 111 [V.one (Cell.str s0), V.one (Cell.int IntKind.i32 n1)] Q = vc111 I s0 n1 Q := by kernel_rfl
/-- strings.IndexByte -/
def vc116 (I : FuncId → List V → Post → T) (s0 : ByteArray) (n1 : Int) (Q : Post) : T :=
  fun h2 =>
  I 120 [V.one (Cell.str s0), V.one (Cell.int IntKind.u8 n1)]
    (fun cs3 => fun h4 => 
    ∃ n5 : Int, (cs3 = [V.one (Cell.int IntKind.i64 n5)]) ∧
    Q [V.one (Cell.int IntKind.i64 n5)] h4) h2
theorem den116 (I : FuncId → List V → Post → T) (s0 : ByteArray) (n1 : Int) (Q : Post) : denF Go.Proofs.Tryz.prog 0 (⟨[], []⟩) I 116 [V.one (Cell.str s0), V.one (Cell.int IntKind.u8 n1)] Q = vc116 I s0 n1 Q := by kernel_rfl
/-- internal/stringslite.IndexByte -/
def vc120 (I : FuncId → List V → Post → T) (s0 : ByteArray) (n1 : Int) (Q : Post) : T :=
  fun h2 =>
  I 121 [V.one (Cell.str s0), V.one (Cell.int IntKind.u8 n1)]
    (fun cs3 => fun h4 => 
    ∃ n5 : Int, (cs3 = [V.one (Cell.int IntKind.i64 n5)]) ∧
    Q [V.one (Cell.int IntKind.i64 n5)] h4) h2
theorem den120 (I : FuncId → List V → Post → T) (s0 : ByteArray) (n1 : Int) (Q : Post) : denF Go.Proofs.Tryz.prog 0 (⟨[], []⟩) I 120 [V.one (Cell.str s0), V.one (Cell.int IntKind.u8 n1)] Q = vc120 I s0 n1 Q := by kernel_rfl
/-- unicode/utf8.ValidRune -/
def vc117 (I : FuncId → List V → Post → T) (n0 : Int) (Q : Post) : T :=
  ifT (decide (0 ≤ n0))
    (ifT (decide (n0 < 55296))
      (Q [V.one (Cell.bool true)])
      (ifT (decide (57343 < n0))
        (ifT (decide (n0 ≤ 1114111))
          (Q [V.one (Cell.bool true)])
          (Q [V.one (Cell.bool false)]))
        (Q [V.one (Cell.bool false)])))
    (ifT (decide (57343 < n0))
      (ifT (decide (n0 ≤ 1114111))
        (Q [V.one (Cell.bool true)])
        (Q [V.one (Cell.bool false)]))
      (Q [V.one (Cell.bool false)]))
theorem den117 (I : FuncId → List V → Post → T) (n0 : Int) (Q : Post) : denF Go.Proofs.Tryz.prog 0 (⟨[], []⟩) I 117 [V.one (Cell.int IntKind.i32 n0)] Q = vc117 I n0 Q := by kernel_rfl
/-- internal/bytealg.Cutover -/
def vc118 (I : FuncId → List V → Post → T) (n0 : Int) (Q : Post) : T :=
  Q [V.one (Cell.int IntKind.i64 (IntKind.i64.wrap ((IntKind.i64.wrap (n0 + 16)).tdiv 8)))]
theorem den118 (I : FuncId → List V → Post → T) (n0 : Int) (Q : Post) : denF Go.Proofs.Tryz.prog 0 (⟨[], []⟩) I 118 [V.one (Cell.int IntKind.i64 n0)] Q = vc118 I n0 Q := by kernel_rfl
/-- strings.trimRightUnicode -/
def vc108 (I : FuncId → List V → Post → T) (s0 : ByteArray) (s1 : ByteArray) (Q : Post) : T :=
  loopK (A := ByteArray) s0
    (fun x2 => fun s3 => ifT (decide ((↑s3.size : Int) > 0))
      (fun h4 =>
      ((0 ≤ IntKind.i64.wrap ((↑s3.size : Int) - 1)) ∧
      IntKind.i64.wrap ((↑s3.size : Int) - 1) < (↑s3.size : Int)) ∧
      (joinK (A := Int × Int)
        (uncur fun n5 n6 => fun h7 => 
        I 111 [V.one (Cell.str s1), V.one (Cell.int IntKind.i32 n5)]
          (fun cs8 => fun h9 => 
          ∃ b10 : Bool, (cs8 = [V.one (Cell.bool b10)]) ∧
          (ifT (!b10)
            (Q [V.one (Cell.str s3)])
            (fun h11 =>
            (((0 : Int) ≤ (0 : Int)) ∧
            (0 ≤ IntKind.i64.wrap ((↑s3.size : Int) - n6)) ∧
            IntKind.i64.wrap ((↑s3.size : Int) - n6) ≤ (↑s3.size : Int)) ∧
            x2 (s3.extract 0 (IntKind.i64.wrap ((↑s3.size : Int) - n6)).toNat) h11)) h9) h7)
        (fun x12 => ifT (decide (IntKind.i32.wrap (byteAt s3 (IntKind.i64.wrap ((↑s3.size : Int) - 1))) ≥ 128))
          (fun h13 =>
          I 112 [V.one (Cell.str s3)]
            (fun cs14 => fun h15 => 
            ∃ n16 : Int, ∃ n17 : Int, (cs14 = [V.one (Cell.int IntKind.i32 n16), V.one (Cell.int IntKind.i64 n17)]) ∧
            x12 ((n16, n17)) h15) h13)
          (x12 ((IntKind.i32.wrap (byteAt s3 (IntKind.i64.wrap ((↑s3.size : Int) - 1))), 1))))) h4)
      (Q [V.one (Cell.str s3)]))
theorem den108 (I : FuncId → List V → Post → T) (s0 : ByteArray) (s1 : ByteArray) (Q : Post) : denF Go.Proofs.Tryz.prog 0 (⟨[(789, 8126560, [(5, tk Go.Proofs.Tryz.prog 21), (6, tk Go.Proofs.Tryz.prog 3)])], [(12, 8589934561, [(0, tk Go.Proofs.Tryz.prog 9)])]⟩) I 108 [V.one (Cell.str s0), V.one (Cell.str s1)] Q = vc108 I s0 s1 Q := by kernel_rfl
/-- unicode/utf8.DecodeLastRuneInString -/
def vc112 (I : FuncId → List V → Post → T) (s0 : ByteArray) (Q : Post) : T :=
  ifT (decide ((↑s0.size : Int) = 0))
    (Q [V.one (Cell.int IntKind.i32 65533), V.one (Cell.int IntKind.i64 0)])
    (fun h1 =>
    ((0 ≤ IntKind.i64.wrap ((↑s0.size : Int) - 1)) ∧
    IntKind.i64.wrap ((↑s0.size : Int) - 1) < (↑s0.size : Int)) ∧
    (ifT (decide (IntKind.i32.wrap (byteAt s0 (IntKind.i64.wrap ((↑s0.size : Int) - 1))) < 128))
      (Q [V.one (Cell.int IntKind.i32 (IntKind.i32.wrap (byteAt s0 (IntKind.i64.wrap ((↑s0.size : Int) - 1))))), V.one (Cell.int IntKind.i64 1)])
      (joinK (A := Int)
        (fun n2 => joinK (A := Int)
          (fun n3 => fun h4 => 
          ((0 ≤ n3) ∧
          (n3 ≤ (↑s0.size : Int)) ∧
          (↑s0.size : Int) ≤ (↑s0.size : Int)) ∧
          I 110 [V.one (Cell.str (s0.extract n3.toNat (↑s0.size : Int).toNat))]
            (fun cs5 => fun h6 => 
            ∃ n7 : Int, ∃ n8 : Int, (cs5 = [V.one (Cell.int IntKind.i32 n7), V.one (Cell.int IntKind.i64 n8)]) ∧
            (ifT (!decide (IntKind.i64.wrap (n3 + n8) = (↑s0.size : Int)))
              (Q [V.one (Cell.int IntKind.i32 65533), V.one (Cell.int IntKind.i64 1)])
              (Q [V.one (Cell.int IntKind.i32 n7), V.one (Cell.int IntKind.i64 n8)])) h6) h4)
          (fun x9 => ifT (decide (n2 < 0))
            (x9 0)
            (x9 n2)))
        (fun x10 => loopK (A := Int) (IntKind.i64.wrap (IntKind.i64.wrap ((↑s0.size : Int) - 1) - 1))
          (fun x11 => fun n12 => ifT (decide (n12 ≥ max (IntKind.i64.wrap ((↑s0.size : Int) - 4)) 0))
            (fun h13 =>
            ((0 ≤ n12) ∧
            n12 < (↑s0.size : Int)) ∧
            I 115 [V.one (Cell.int IntKind.u8 (byteAt s0 n12))]
              (fun cs14 => fun h15 => 
              ∃ b16 : Bool, (cs14 = [V.one (Cell.bool b16)]) ∧
              (ifT b16
                (x10 n12)
                (x11 (IntKind.i64.wrap (n12 - 1)))) h15) h13)
            (x10 n12))))) h1)
theorem den112 (I : FuncId → List V → Post → T) (s0 : ByteArray) (Q : Post) : denF Go.Proofs.Tryz.prog 0 (⟨[(1021, 17146314784, [(5, tk Go.Proofs.Tryz.prog 3)]), (2045, 32, [(5, tk Go.Proofs.Tryz.prog 3)])], [(2042, 17146314784, [(5, tk Go.Proofs.Tryz.prog 3)])]⟩) I 112 [V.one (Cell.str s0)] Q = vc112 I s0 Q := by kernel_rfl
/-- unicode/utf8.RuneStart -/
def vc115 (I : FuncId → List V → Post → T) (n0 : Int) (Q : Post) : T :=
  Q [V.one (Cell.bool !decide (IntKind.u8.wrap (↑(BitVec.ofInt 8 n0 &&& BitVec.ofInt 8 192).toNat : Int) = 128))]
theorem den115 (I : FuncId → List V → Post → T) (n0 : Int) (Q : Post) : denF Go.Proofs.Tryz.prog 0 (⟨[], []⟩) I 115 [V.one (Cell.int IntKind.u8 n0)] Q = vc115 I n0 Q := by kernel_rfl
/-- slices.ContainsFunc[[]handbill/api.Sent,handbill/api.Sent] -/
def vc49 (I : FuncId → List V → Post → T) (l0 : Sl) (p1 : Option (Nat × List (Nat × Nat))) (Q : Post) : T :=
  fun h2 =>
  I 30 [V.one (Cell.slice 4 l0), V.one (Cell.func p1)]
    (fun cs3 => fun h4 => 
    ∃ n5 : Int, (cs3 = [V.one (Cell.int IntKind.i64 n5)]) ∧
    Q [V.one (Cell.bool (decide (n5 ≥ 0)))] h4) h2
theorem den49 (I : FuncId → List V → Post → T) (l0 : Sl) (p1 : Option (Nat × List (Nat × Nat))) (Q : Post) : denF Go.Proofs.Tryz.prog 0 (⟨[], []⟩) I 49 [V.one (Cell.slice 4 l0), V.one (Cell.func p1)] Q = vc49 I l0 p1 Q := by kernel_rfl
/-- slices.IndexFunc[[]handbill/api.Sent,handbill/api.Sent] -/
def vc30 (I : FuncId → List V → Post → T) (l0 : Sl) (p1 : Option (Nat × List (Nat × Nat))) (Q : Post) : T :=
  loopK (A := Int) 0
    (fun x2 => fun n3 => ifT (decide (n3 < (↑l0.len : Int)))
      (fun h4 =>
      ((0 ≤ n3) ∧
      n3 < (↑l0.len : Int)) ∧
      (derefK l0.a (fun i5 => fun i6 => fun h7 =>
      ∃ s8 : ByteArray, ∃ s9 : ByteArray, ∃ s10 : ByteArray, ∃ n11 : Int, (h7.read i5 (i6 + n3.toNat * 4) 4 = some [Cell.str s8, Cell.str s9, Cell.str s10, Cell.int IntKind.i64 n11]) ∧
      (funK p1 (fun i12 => fun cs13 => fun h14 => 
      I i12 (V.agg [Cell.str s8, Cell.str s9, Cell.str s10, Cell.int IntKind.i64 n11] :: cs13)
        (fun cs15 => fun h16 => 
        ∃ b17 : Bool, (cs15 = [V.one (Cell.bool b17)]) ∧
        (ifT b17
          (Q [V.one (Cell.int IntKind.i64 n3)])
          (x2 (IntKind.i64.wrap (n3 + 1)))) h16) h14)) h7)) h4)
      (Q [V.one (Cell.int IntKind.i64 (-1))]))
theorem den30 (I : FuncId → List V → Post → T) (l0 : Sl) (p1 : Option (Nat × List (Nat × Nat))) (Q : Post) : denF Go.Proofs.Tryz.prog 0 (⟨[], [(26, 524080, [(8, tk Go.Proofs.Tryz.prog 3)])]⟩) I 30 [V.one (Cell.slice 4 l0), V.one (Cell.func p1)] Q = vc30 I l0 p1 Q := by kernel_rfl
/-- handbill/handref1.SentFault$1 -/
def vc50 (I : FuncId → List V → Post → T) (s0 : ByteArray) (s1 : ByteArray) (s2 : ByteArray) (n3 : Int) (i4 : Nat) (i5 : Nat) (Q : Post) : T :=
  fun h6 =>
  ∃ s7 : ByteArray, (h6.read i4 (i5 + 0) 1 = some [Cell.str s7]) ∧
  Q [V.one (Cell.bool (decide (s0 = s7)))] h6
theorem den50 (I : FuncId → List V → Post → T) (s0 : ByteArray) (s1 : ByteArray) (s2 : ByteArray) (n3 : Int) (i4 : Nat) (i5 : Nat) (Q : Post) : denF Go.Proofs.Tryz.prog 4 (⟨[], []⟩) I 50 [V.agg [Cell.str s0, Cell.str s1, Cell.str s2, Cell.int IntKind.i64 n3], V.one (Cell.ptr (some (i4, i5)))] Q = vc50 I s0 s1 s2 n3 i4 i5 Q := by kernel_rfl
/-- handbill/handref1.StepsOf$1 -/
def vc31 (I : FuncId → List V → Post → T) (s0 : ByteArray) (s1 : ByteArray) (s2 : ByteArray) (n3 : Int) (i4 : Nat) (i5 : Nat) (Q : Post) : T :=
  fun h6 =>
  ∃ s7 : ByteArray, (h6.read i4 (i5 + 0) 1 = some [Cell.str s7]) ∧
  Q [V.one (Cell.bool (decide (s0 = s7)))] h6
theorem den31 (I : FuncId → List V → Post → T) (s0 : ByteArray) (s1 : ByteArray) (s2 : ByteArray) (n3 : Int) (i4 : Nat) (i5 : Nat) (Q : Post) : denF Go.Proofs.Tryz.prog 4 (⟨[], []⟩) I 31 [V.agg [Cell.str s0, Cell.str s1, Cell.str s2, Cell.int IntKind.i64 n3], V.one (Cell.ptr (some (i4, i5)))] Q = vc31 I s0 s1 s2 n3 i4 i5 Q := by kernel_rfl
/-- handbill/handref1.StepsOf$2 -/
def vc33 (I : FuncId → List V → Post → T) (p0 : Option (Nat × Nat)) (l1 : Sl) (i2 : Nat) (i3 : Nat) (Q : Post) : T :=
  fun h4 =>
  I 34 [V.one (Cell.slice 1 l1), V.one (Cell.func (some (35, [(i2, i3)])))]
    (fun cs5 => fun h6 => 
    ∃ b7 : Bool, (cs5 = [V.one (Cell.bool b7)]) ∧
    (ifT b7
      (derefK p0 (fun i8 => fun i9 => fun h10 =>
      ∃ n11 : Int, (h10.read i8 i9 1 = some [Cell.int IntKind.i64 n11]) ∧
      (derefK p0 (fun i12 => fun i13 => fun h14 => 
      (storeK [] i12 i13 [Cell.int IntKind.i64 (IntKind.i64.wrap (n11 + 1))] (Q [])) h14)) h10))
      (Q [])) h6) h4
theorem den33 (I : FuncId → List V → Post → T) (p0 : Option (Nat × Nat)) (l1 : Sl) (i2 : Nat) (i3 : Nat) (Q : Post) : denF Go.Proofs.Tryz.prog 0 (⟨[], []⟩) I 33 [V.one (Cell.ptr p0), V.one (Cell.slice 1 l1), V.one (Cell.ptr (some (i2, i3)))] Q = vc33 I p0 l1 i2 i3 Q := by kernel_rfl
/-- slices.ContainsFunc[[]int,int] -/
def vc34 (I : FuncId → List V → Post → T) (l0 : Sl) (p1 : Option (Nat × List (Nat × Nat))) (Q : Post) : T :=
  fun h2 =>
  I 51 [V.one (Cell.slice 1 l0), V.one (Cell.func p1)]
    (fun cs3 => fun h4 => 
    ∃ n5 : Int, (cs3 = [V.one (Cell.int IntKind.i64 n5)]) ∧
    Q [V.one (Cell.bool (decide (n5 ≥ 0)))] h4) h2
theorem den34 (I : FuncId → List V → Post → T) (l0 : Sl) (p1 : Option (Nat × List (Nat × Nat))) (Q : Post) : denF Go.Proofs.Tryz.prog 0 (⟨[], []⟩) I 34 [V.one (Cell.slice 1 l0), V.one (Cell.func p1)] Q = vc34 I l0 p1 Q := by kernel_rfl
/-- slices.IndexFunc[[]int,int] -/
def vc51 (I : FuncId → List V → Post → T) (l0 : Sl) (p1 : Option (Nat × List (Nat × Nat))) (Q : Post) : T :=
  loopK (A := Int) 0
    (fun x2 => fun n3 => ifT (decide (n3 < (↑l0.len : Int)))
      (fun h4 =>
      ((0 ≤ n3) ∧
      n3 < (↑l0.len : Int)) ∧
      (derefK l0.a (fun i5 => fun i6 => fun h7 =>
      ∃ n8 : Int, (h7.read i5 (i6 + n3.toNat * 1) 1 = some [Cell.int IntKind.i64 n8]) ∧
      (funK p1 (fun i9 => fun cs10 => fun h11 => 
      I i9 (V.one (Cell.int IntKind.i64 n8) :: cs10)
        (fun cs12 => fun h13 => 
        ∃ b14 : Bool, (cs12 = [V.one (Cell.bool b14)]) ∧
        (ifT b14
          (Q [V.one (Cell.int IntKind.i64 n3)])
          (x2 (IntKind.i64.wrap (n3 + 1)))) h13) h11)) h7)) h4)
      (Q [V.one (Cell.int IntKind.i64 (-1))]))
theorem den51 (I : FuncId → List V → Post → T) (l0 : Sl) (p1 : Option (Nat × List (Nat × Nat))) (Q : Post) : denF Go.Proofs.Tryz.prog 0 (⟨[], [(26, 524080, [(8, tk Go.Proofs.Tryz.prog 3)])]⟩) I 51 [V.one (Cell.slice 1 l0), V.one (Cell.func p1)] Q = vc51 I l0 p1 Q := by kernel_rfl
/-- handbill/handref1.StepsOf$2$1 -/
def vc35 (I : FuncId → List V → Post → T) (n0 : Int) (i1 : Nat) (i2 : Nat) (Q : Post) : T :=
  fun h3 =>
  ∃ p4 : Option Nat, (h3.read i1 i2 1 = some [Cell.map p4]) ∧
  ∃ b5 : Bool, ∃ b6 : Bool, (∃ cs7 : List (V × V), (mapOf h3 p4 = some cs7) ∧
  mapGet (V.one (Cell.int IntKind.i64 n0)) (V.one (Cell.bool false)) cs7 = some (V.one (Cell.bool b5), b6)) ∧
  Q [V.one (Cell.bool b5)] h3
theorem den35 (I : FuncId → List V → Post → T) (n0 : Int) (i1 : Nat) (i2 : Nat) (Q : Post) : denF Go.Proofs.Tryz.prog 0 (⟨[], []⟩) I 35 [V.one (Cell.int IntKind.i64 n0), V.one (Cell.ptr (some (i1, i2)))] Q = vc35 I n0 i1 i2 Q := by kernel_rfl
/-- slices.SortFunc[[]handbill/api.Row,handbill/api.Row] -/
def vc36 (I : FuncId → List V → Post → T) (l0 : Sl) (p1 : Option (Nat × List (Nat × Nat))) (Q : Post) : T :=
  fun h2 =>
  I 53 [V.one (Cell.int IntKind.u64 (IntKind.u64.wrap (↑l0.len : Int)))]
    (fun cs3 => fun h4 => 
    ∃ n5 : Int, (cs3 = [V.one (Cell.int IntKind.i64 n5)]) ∧
    I 52 [V.one (Cell.slice 6 l0), V.one (Cell.int IntKind.i64 0), V.one (Cell.int IntKind.i64 (↑l0.len : Int)), V.one (Cell.int IntKind.i64 n5), V.one (Cell.func p1)]
      (fun cs6 => fun h7 => 
      (cs6 = []) ∧
      Q [] h7) h4) h2
theorem den36 (I : FuncId → List V → Post → T) (l0 : Sl) (p1 : Option (Nat × List (Nat × Nat))) (Q : Post) : denF Go.Proofs.Tryz.prog 0 (⟨[], []⟩) I 36 [V.one (Cell.slice 6 l0), V.one (Cell.func p1)] Q = vc36 I l0 p1 Q := by kernel_rfl
/-- slices.pdqsortCmpFunc[handbill/api.Row] -/
def vc52 (I : FuncId → List V → Post → T) (l0 : Sl) (n1 : Int) (n2 : Int) (n3 : Int) (p4 : Option (Nat × List (Nat × Nat))) (Q : Post) : T :=
  loopK (A := Int × Int × Int × Bool × Bool) ((n1, n2, n3, true, true))
    (fun x5 => uncur fun n6 => uncur fun n7 => uncur fun n8 => uncur fun b9 b10 => ifT (decide (IntKind.i64.wrap (n7 - n6) ≤ 12))
      (fun h11 =>
      I 66 [V.one (Cell.slice 6 l0), V.one (Cell.int IntKind.i64 n6), V.one (Cell.int IntKind.i64 n7), V.one (Cell.func p4)]
        (fun cs12 => fun h13 => 
        (cs12 = []) ∧
        Q [] h13) h11)
      (ifT (decide (n8 = 0))
        (fun h14 =>
        I 67 [V.one (Cell.slice 6 l0), V.one (Cell.int IntKind.i64 n6), V.one (Cell.int IntKind.i64 n7), V.one (Cell.func p4)]
          (fun cs15 => fun h16 => 
          (cs15 = []) ∧
          Q [] h16) h14)
        (joinK (A := Int)
          (fun n17 => fun h18 => 
          I 69 [V.one (Cell.slice 6 l0), V.one (Cell.int IntKind.i64 n6), V.one (Cell.int IntKind.i64 n7), V.one (Cell.func p4)]
            (fun cs19 => fun h20 => 
            ∃ n21 : Int, ∃ n22 : Int, (cs19 = [V.one (Cell.int IntKind.i64 n21), V.one (Cell.int IntKind.i64 n22)]) ∧
            (joinK (A := Int × Int)
              (uncur fun n23 n24 => joinK (A := Bool)
                (fun b25 => joinK (A := PUnit)
                  (fun x26 => joinK (A := Bool)
                    (fun b27 => ifT b27
                      (fun h28 =>
                      I 72 [V.one (Cell.slice 6 l0), V.one (Cell.int IntKind.i64 n6), V.one (Cell.int IntKind.i64 n7), V.one (Cell.int IntKind.i64 n23), V.one (Cell.func p4)]
                        (fun cs29 => fun h30 => 
                        ∃ n31 : Int, (cs29 = [V.one (Cell.int IntKind.i64 n31)]) ∧
                        x5 ((n31, n7, n17, b9, b10)) h30) h28)
                      (fun h32 =>
                      I 73 [V.one (Cell.slice 6 l0), V.one (Cell.int IntKind.i64 n6), V.one (Cell.int IntKind.i64 n7), V.one (Cell.int IntKind.i64 n23), V.one (Cell.func p4)]
                        (fun cs33 => fun h34 => 
                        ∃ n35 : Int, ∃ b36 : Bool, (cs33 = [V.one (Cell.int IntKind.i64 n35), V.one (Cell.bool b36)]) ∧
                        (ifT (decide (IntKind.i64.wrap (n35 - n6) < IntKind.i64.wrap (n7 - n35)))
                          (fun h37 =>
                          I 52 [V.one (Cell.slice 6 l0), V.one (Cell.int IntKind.i64 n6), V.one (Cell.int IntKind.i64 n35), V.one (Cell.int IntKind.i64 n17), V.one (Cell.func p4)]
                            (fun cs38 => fun h39 => 
                            (cs38 = []) ∧
                            x5 ((IntKind.i64.wrap (n35 + 1), n7, n17, decide (IntKind.i64.wrap (n35 - n6) ≥ IntKind.i64.wrap ((IntKind.i64.wrap (n7 - n6)).tdiv 8)), b36)) h39) h37)
                          (fun h40 =>
                          I 52 [V.one (Cell.slice 6 l0), V.one (Cell.int IntKind.i64 (IntKind.i64.wrap (n35 + 1))), V.one (Cell.int IntKind.i64 n7), V.one (Cell.int IntKind.i64 n17), V.one (Cell.func p4)]
                            (fun cs41 => fun h42 => 
                            (cs41 = []) ∧
                            x5 ((n6, n35, n17, decide (IntKind.i64.wrap (n7 - n35) ≥ IntKind.i64.wrap ((IntKind.i64.wrap (n7 - n6)).tdiv 8)), b36)) h42) h40)) h34) h32))
                    (fun x43 => ifT (decide (n6 > 0))
                      (fun h44 =>
                      ((0 ≤ IntKind.i64.wrap (n6 - 1)) ∧
                      IntKind.i64.wrap (n6 - 1) < (↑l0.len : Int)) ∧
                      (derefK l0.a (fun i45 => fun i46 => fun h47 =>
                      ∃ s48 : ByteArray, ∃ n49 : Int, ∃ n50 : Int, ∃ n51 : Int, ∃ n52 : Int, ∃ n53 : Int, (h47.read i45 (i46 + (IntKind.i64.wrap (n6 - 1)).toNat * 6) 6 = some [Cell.str s48, Cell.int IntKind.i64 n49, Cell.int IntKind.i64 n50, Cell.int IntKind.i64 n51, Cell.int IntKind.i64 n52, Cell.int IntKind.i64 n53]) ∧
                      ((0 ≤ n23) ∧
                      n23 < (↑l0.len : Int)) ∧
                      (derefK l0.a (fun i54 => fun i55 => fun h56 =>
                      ∃ s57 : ByteArray, ∃ n58 : Int, ∃ n59 : Int, ∃ n60 : Int, ∃ n61 : Int, ∃ n62 : Int, (h56.read i54 (i55 + n23.toNat * 6) 6 = some [Cell.str s57, Cell.int IntKind.i64 n58, Cell.int IntKind.i64 n59, Cell.int IntKind.i64 n60, Cell.int IntKind.i64 n61, Cell.int IntKind.i64 n62]) ∧
                      (funK p4 (fun i63 => fun cs64 => fun h65 => 
                      I i63 (V.agg [Cell.str s48, Cell.int IntKind.i64 n49, Cell.int IntKind.i64 n50, Cell.int IntKind.i64 n51, Cell.int IntKind.i64 n52, Cell.int IntKind.i64 n53] :: V.agg [Cell.str s57, Cell.int IntKind.i64 n58, Cell.int IntKind.i64 n59, Cell.int IntKind.i64 n60, Cell.int IntKind.i64 n61, Cell.int IntKind.i64 n62] :: cs64)
                        (fun cs66 => fun h67 => 
                        ∃ n68 : Int, (cs66 = [V.one (Cell.int IntKind.i64 n68)]) ∧
                        x43 (!decide (n68 < 0)) h67) h65)) h56)) h47)) h44)
                      (x43 false)))
                  (fun x69 => ifT b25
                    (fun h70 =>
                    I 71 [V.one (Cell.slice 6 l0), V.one (Cell.int IntKind.i64 n6), V.one (Cell.int IntKind.i64 n7), V.one (Cell.func p4)]
                      (fun cs71 => fun h72 => 
                      ∃ b73 : Bool, (cs71 = [V.one (Cell.bool b73)]) ∧
                      (ifT b73
                        (Q [])
                        (x69 ())) h72) h70)
                    (x69 ())))
                (fun x74 => ifT b9
                  (ifT b10
                    (x74 (decide (n24 = 1)))
                    (x74 false))
                  (x74 false)))
              (fun x75 => ifT (decide (n22 = 2))
                (fun h76 =>
                I 70 [V.one (Cell.slice 6 l0), V.one (Cell.int IntKind.i64 n6), V.one (Cell.int IntKind.i64 n7), V.one (Cell.func p4)]
                  (fun cs77 => fun h78 => 
                  (cs77 = []) ∧
                  x75 ((IntKind.i64.wrap (IntKind.i64.wrap (n7 - 1) - IntKind.i64.wrap (n21 - n6)), 1)) h78) h76)
                (x75 ((n21, n22))))) h20) h18)
          (fun x79 => ifT (!b9)
            (fun h80 =>
            I 68 [V.one (Cell.slice 6 l0), V.one (Cell.int IntKind.i64 n6), V.one (Cell.int IntKind.i64 n7), V.one (Cell.func p4)]
              (fun cs81 => fun h82 => 
              (cs81 = []) ∧
              x79 (IntKind.i64.wrap (n8 - 1)) h82) h80)
            (x79 n8)))))
theorem den52 (I : FuncId → List V → Post → T) (l0 : Sl) (n1 : Int) (n2 : Int) (n3 : Int) (p4 : Option (Nat × List (Nat × Nat))) (Q : Post) : denF Go.Proofs.Tryz.prog 0 (⟨[(1821, 139637976727560, [(3, tk Go.Proofs.Tryz.prog 3)]), (7293, 295003789991276994560, [(13, tk Go.Proofs.Tryz.prog 3), (14, tk Go.Proofs.Tryz.prog 108)]), (14588, 75262715820734970593280, [(75, tk Go.Proofs.Tryz.prog 4)]), (14589, 2342293775503344025993216, []), (29180, 316910232205418121115826388992, [(97, tk Go.Proofs.Tryz.prog 4)])], [(14, 356811923176489970264571492362373784095685646, [(1, tk Go.Proofs.Tryz.prog 3), (2, tk Go.Proofs.Tryz.prog 3), (3, tk Go.Proofs.Tryz.prog 3), (10, tk Go.Proofs.Tryz.prog 4), (11, tk Go.Proofs.Tryz.prog 4)])]⟩) I 52 [V.one (Cell.slice 6 l0), V.one (Cell.int IntKind.i64 n1), V.one (Cell.int IntKind.i64 n2), V.one (Cell.int IntKind.i64 n3), V.one (Cell.func p4)] Q = vc52 I l0 n1 n2 n3 p4 Q := by kernel_rfl
/-- slices.insertionSortCmpFunc[handbill/api.Row] -/
def vc66 (I : FuncId → List V → Post → T) (l0 : Sl) (n1 : Int) (n2 : Int) (p3 : Option (Nat × List (Nat × Nat))) (Q : Post) : T :=
  loopK (A := Int) (IntKind.i64.wrap (n1 + 1))
    (fun x4 => fun n5 => ifT (decide (n5 < n2))
      (loopK (A := Int) n5
        (fun x6 => fun n7 => joinK (A := Bool)
          (fun b8 => ifT b8
            (fun h9 =>
            ((0 ≤ IntKind.i64.wrap (n7 - 1)) ∧
            IntKind.i64.wrap (n7 - 1) < (↑l0.len : Int)) ∧
            (derefK l0.a (fun i10 => fun i11 => fun h12 =>
            ∃ s13 : ByteArray, ∃ n14 : Int, ∃ n15 : Int, ∃ n16 : Int, ∃ n17 : Int, ∃ n18 : Int, (h12.read i10 (i11 + (IntKind.i64.wrap (n7 - 1)).toNat * 6) 6 = some [Cell.str s13, Cell.int IntKind.i64 n14, Cell.int IntKind.i64 n15, Cell.int IntKind.i64 n16, Cell.int IntKind.i64 n17, Cell.int IntKind.i64 n18]) ∧
            ((0 ≤ n7) ∧
            n7 < (↑l0.len : Int)) ∧
            (derefK l0.a (fun i19 => fun i20 => fun h21 =>
            ∃ s22 : ByteArray, ∃ n23 : Int, ∃ n24 : Int, ∃ n25 : Int, ∃ n26 : Int, ∃ n27 : Int, (h21.read i19 (i20 + n7.toNat * 6) 6 = some [Cell.str s22, Cell.int IntKind.i64 n23, Cell.int IntKind.i64 n24, Cell.int IntKind.i64 n25, Cell.int IntKind.i64 n26, Cell.int IntKind.i64 n27]) ∧
            ((0 ≤ n7) ∧
            n7 < (↑l0.len : Int)) ∧
            (derefK l0.a (fun i28 => fun i29 => fun h30 => 
            (storeK [] i28 (i29 + n7.toNat * 6) [Cell.str s13, Cell.int IntKind.i64 n14, Cell.int IntKind.i64 n15, Cell.int IntKind.i64 n16, Cell.int IntKind.i64 n17, Cell.int IntKind.i64 n18] (fun h31 =>
            ((0 ≤ IntKind.i64.wrap (n7 - 1)) ∧
            IntKind.i64.wrap (n7 - 1) < (↑l0.len : Int)) ∧
            (derefK l0.a (fun i32 => fun i33 => fun h34 => 
            (storeK [] i32 (i33 + (IntKind.i64.wrap (n7 - 1)).toNat * 6) [Cell.str s22, Cell.int IntKind.i64 n23, Cell.int IntKind.i64 n24, Cell.int IntKind.i64 n25, Cell.int IntKind.i64 n26, Cell.int IntKind.i64 n27] (x6 (IntKind.i64.wrap (n7 - 1)))) h34)) h31)) h30)) h21)) h12)) h9)
            (x4 (IntKind.i64.wrap (n5 + 1))))
          (fun x35 => ifT (decide (n7 > n1))
            (fun h36 =>
            ((0 ≤ n7) ∧
            n7 < (↑l0.len : Int)) ∧
            (derefK l0.a (fun i37 => fun i38 => fun h39 =>
            ∃ s40 : ByteArray, ∃ n41 : Int, ∃ n42 : Int, ∃ n43 : Int, ∃ n44 : Int, ∃ n45 : Int, (h39.read i37 (i38 + n7.toNat * 6) 6 = some [Cell.str s40, Cell.int IntKind.i64 n41, Cell.int IntKind.i64 n42, Cell.int IntKind.i64 n43, Cell.int IntKind.i64 n44, Cell.int IntKind.i64 n45]) ∧
            ((0 ≤ IntKind.i64.wrap (n7 - 1)) ∧
            IntKind.i64.wrap (n7 - 1) < (↑l0.len : Int)) ∧
            (derefK l0.a (fun i46 => fun i47 => fun h48 =>
            ∃ s49 : ByteArray, ∃ n50 : Int, ∃ n51 : Int, ∃ n52 : Int, ∃ n53 : Int, ∃ n54 : Int, (h48.read i46 (i47 + (IntKind.i64.wrap (n7 - 1)).toNat * 6) 6 = some [Cell.str s49, Cell.int IntKind.i64 n50, Cell.int IntKind.i64 n51, Cell.int IntKind.i64 n52, Cell.int IntKind.i64 n53, Cell.int IntKind.i64 n54]) ∧
            (funK p3 (fun i55 => fun cs56 => fun h57 => 
            I i55 (V.agg [Cell.str s40, Cell.int IntKind.i64 n41, Cell.int IntKind.i64 n42, Cell.int IntKind.i64 n43, Cell.int IntKind.i64 n44, Cell.int IntKind.i64 n45] :: V.agg [Cell.str s49, Cell.int IntKind.i64 n50, Cell.int IntKind.i64 n51, Cell.int IntKind.i64 n52, Cell.int IntKind.i64 n53, Cell.int IntKind.i64 n54] :: cs56)
              (fun cs58 => fun h59 => 
              ∃ n60 : Int, (cs58 = [V.one (Cell.int IntKind.i64 n60)]) ∧
              x35 (decide (n60 < 0)) h59) h57)) h48)) h39)) h36)
            (x35 false))))
      (Q []))
theorem den66 (I : FuncId → List V → Post → T) (l0 : Sl) (n1 : Int) (n2 : Int) (p3 : Option (Nat × List (Nat × Nat))) (Q : Post) : denF Go.Proofs.Tryz.prog 0 (⟨[(3216, 34359476224, [(34, tk Go.Proofs.Tryz.prog 4)])], [(6, 9007199254737664, [(8, tk Go.Proofs.Tryz.prog 3)]), (402, 9007199254479360, [(9, tk Go.Proofs.Tryz.prog 3)])]⟩) I 66 [V.one (Cell.slice 6 l0), V.one (Cell.int IntKind.i64 n1), V.one (Cell.int IntKind.i64 n2), V.one (Cell.func p3)] Q = vc66 I l0 n1 n2 p3 Q := by kernel_rfl
/-- slices.heapSortCmpFunc[handbill/api.Row] -/
def vc67 (I : FuncId → List V → Post → T) (l0 : Sl) (n1 : Int) (n2 : Int) (p3 : Option (Nat × List (Nat × Nat))) (Q : Post) : T :=
  loopK (A := Int) (IntKind.i64.wrap ((IntKind.i64.wrap (IntKind.i64.wrap (n2 - n1) - 1)).tdiv 2))
    (fun x4 => fun n5 => ifT (decide (n5 ≥ 0))
      (fun h6 =>
      I 90 [V.one (Cell.slice 6 l0), V.one (Cell.int IntKind.i64 n5), V.one (Cell.int IntKind.i64 (IntKind.i64.wrap (n2 - n1))), V.one (Cell.int IntKind.i64 n1), V.one (Cell.func p3)]
        (fun cs7 => fun h8 => 
        (cs7 = []) ∧
        x4 (IntKind.i64.wrap (n5 - 1)) h8) h6)
      (loopK (A := Int) (IntKind.i64.wrap (IntKind.i64.wrap (n2 - n1) - 1))
        (fun x9 => fun n10 => ifT (decide (n10 ≥ 0))
          (fun h11 =>
          ((0 ≤ IntKind.i64.wrap (n1 + n10)) ∧
          IntKind.i64.wrap (n1 + n10) < (↑l0.len : Int)) ∧
          (derefK l0.a (fun i12 => fun i13 => fun h14 =>
          ∃ s15 : ByteArray, ∃ n16 : Int, ∃ n17 : Int, ∃ n18 : Int, ∃ n19 : Int, ∃ n20 : Int, (h14.read i12 (i13 + (IntKind.i64.wrap (n1 + n10)).toNat * 6) 6 = some [Cell.str s15, Cell.int IntKind.i64 n16, Cell.int IntKind.i64 n17, Cell.int IntKind.i64 n18, Cell.int IntKind.i64 n19, Cell.int IntKind.i64 n20]) ∧
          ((0 ≤ n1) ∧
          n1 < (↑l0.len : Int)) ∧
          (derefK l0.a (fun i21 => fun i22 => fun h23 =>
          ∃ s24 : ByteArray, ∃ n25 : Int, ∃ n26 : Int, ∃ n27 : Int, ∃ n28 : Int, ∃ n29 : Int, (h23.read i21 (i22 + n1.toNat * 6) 6 = some [Cell.str s24, Cell.int IntKind.i64 n25, Cell.int IntKind.i64 n26, Cell.int IntKind.i64 n27, Cell.int IntKind.i64 n28, Cell.int IntKind.i64 n29]) ∧
          ((0 ≤ n1) ∧
          n1 < (↑l0.len : Int)) ∧
          (derefK l0.a (fun i30 => fun i31 => fun h32 => 
          (storeK [] i30 (i31 + n1.toNat * 6) [Cell.str s15, Cell.int IntKind.i64 n16, Cell.int IntKind.i64 n17, Cell.int IntKind.i64 n18, Cell.int IntKind.i64 n19, Cell.int IntKind.i64 n20] (fun h33 =>
          ((0 ≤ IntKind.i64.wrap (n1 + n10)) ∧
          IntKind.i64.wrap (n1 + n10) < (↑l0.len : Int)) ∧
          (derefK l0.a (fun i34 => fun i35 => fun h36 => 
          (storeK [] i34 (i35 + (IntKind.i64.wrap (n1 + n10)).toNat * 6) [Cell.str s24, Cell.int IntKind.i64 n25, Cell.int IntKind.i64 n26, Cell.int IntKind.i64 n27, Cell.int IntKind.i64 n28, Cell.int IntKind.i64 n29] (fun h37 =>
          I 90 [V.one (Cell.slice 6 l0), V.one (Cell.int IntKind.i64 0), V.one (Cell.int IntKind.i64 n10), V.one (Cell.int IntKind.i64 n1), V.one (Cell.func p3)]
            (fun cs38 => fun h39 => 
            (cs38 = []) ∧
            x9 (IntKind.i64.wrap (n10 - 1)) h39) h37)) h36)) h33)) h32)) h23)) h14)) h11)
          (Q []))))
theorem den67 (I : FuncId → List V → Post → T) (l0 : Sl) (n1 : Int) (n2 : Int) (p3 : Option (Nat × List (Nat × Nat))) (Q : Post) : denF Go.Proofs.Tryz.prog 0 (⟨[], [(122, 1072695296, [(11, tk Go.Proofs.Tryz.prog 3)]), (126, 1152921500311883776, [(12, tk Go.Proofs.Tryz.prog 3)])]⟩) I 67 [V.one (Cell.slice 6 l0), V.one (Cell.int IntKind.i64 n1), V.one (Cell.int IntKind.i64 n2), V.one (Cell.func p3)] Q = vc67 I l0 n1 n2 p3 Q := by kernel_rfl
/-- slices.siftDownCmpFunc[handbill/api.Row] -/
def vc90 (I : FuncId → List V → Post → T) (l0 : Sl) (n1 : Int) (n2 : Int) (n3 : Int) (p4 : Option (Nat × List (Nat × Nat))) (Q : Post) : T :=
  loopK (A := Int) n1
    (fun x5 => fun n6 => ifT (decide (IntKind.i64.wrap (IntKind.i64.wrap (2 * n6) + 1) ≥ n2))
      (Q [])
      (joinK (A := Bool)
        (fun b7 => joinK (A := Int)
          (fun n8 => fun h9 => 
          ((0 ≤ IntKind.i64.wrap (n3 + n6)) ∧
          IntKind.i64.wrap (n3 + n6) < (↑l0.len : Int)) ∧
          (derefK l0.a (fun i10 => fun i11 => fun h12 =>
          ∃ s13 : ByteArray, ∃ n14 : Int, ∃ n15 : Int, ∃ n16 : Int, ∃ n17 : Int, ∃ n18 : Int, (h12.read i10 (i11 + (IntKind.i64.wrap (n3 + n6)).toNat * 6) 6 = some [Cell.str s13, Cell.int IntKind.i64 n14, Cell.int IntKind.i64 n15, Cell.int IntKind.i64 n16, Cell.int IntKind.i64 n17, Cell.int IntKind.i64 n18]) ∧
          ((0 ≤ IntKind.i64.wrap (n3 + n8)) ∧
          IntKind.i64.wrap (n3 + n8) < (↑l0.len : Int)) ∧
          (derefK l0.a (fun i19 => fun i20 => fun h21 =>
          ∃ s22 : ByteArray, ∃ n23 : Int, ∃ n24 : Int, ∃ n25 : Int, ∃ n26 : Int, ∃ n27 : Int, (h21.read i19 (i20 + (IntKind.i64.wrap (n3 + n8)).toNat * 6) 6 = some [Cell.str s22, Cell.int IntKind.i64 n23, Cell.int IntKind.i64 n24, Cell.int IntKind.i64 n25, Cell.int IntKind.i64 n26, Cell.int IntKind.i64 n27]) ∧
          (funK p4 (fun i28 => fun cs29 => fun h30 => 
          I i28 (V.agg [Cell.str s13, Cell.int IntKind.i64 n14, Cell.int IntKind.i64 n15, Cell.int IntKind.i64 n16, Cell.int IntKind.i64 n17, Cell.int IntKind.i64 n18] :: V.agg [Cell.str s22, Cell.int IntKind.i64 n23, Cell.int IntKind.i64 n24, Cell.int IntKind.i64 n25, Cell.int IntKind.i64 n26, Cell.int IntKind.i64 n27] :: cs29)
            (fun cs31 => fun h32 => 
            ∃ n33 : Int, (cs31 = [V.one (Cell.int IntKind.i64 n33)]) ∧
            (ifT (!decide (n33 < 0))
              (Q [])
              (fun h34 =>
              ((0 ≤ IntKind.i64.wrap (n3 + n8)) ∧
              IntKind.i64.wrap (n3 + n8) < (↑l0.len : Int)) ∧
              (derefK l0.a (fun i35 => fun i36 => fun h37 =>
              ∃ s38 : ByteArray, ∃ n39 : Int, ∃ n40 : Int, ∃ n41 : Int, ∃ n42 : Int, ∃ n43 : Int, (h37.read i35 (i36 + (IntKind.i64.wrap (n3 + n8)).toNat * 6) 6 = some [Cell.str s38, Cell.int IntKind.i64 n39, Cell.int IntKind.i64 n40, Cell.int IntKind.i64 n41, Cell.int IntKind.i64 n42, Cell.int IntKind.i64 n43]) ∧
              ((0 ≤ IntKind.i64.wrap (n3 + n6)) ∧
              IntKind.i64.wrap (n3 + n6) < (↑l0.len : Int)) ∧
              (derefK l0.a (fun i44 => fun i45 => fun h46 =>
              ∃ s47 : ByteArray, ∃ n48 : Int, ∃ n49 : Int, ∃ n50 : Int, ∃ n51 : Int, ∃ n52 : Int, (h46.read i44 (i45 + (IntKind.i64.wrap (n3 + n6)).toNat * 6) 6 = some [Cell.str s47, Cell.int IntKind.i64 n48, Cell.int IntKind.i64 n49, Cell.int IntKind.i64 n50, Cell.int IntKind.i64 n51, Cell.int IntKind.i64 n52]) ∧
              ((0 ≤ IntKind.i64.wrap (n3 + n6)) ∧
              IntKind.i64.wrap (n3 + n6) < (↑l0.len : Int)) ∧
              (derefK l0.a (fun i53 => fun i54 => fun h55 => 
              (storeK [] i53 (i54 + (IntKind.i64.wrap (n3 + n6)).toNat * 6) [Cell.str s38, Cell.int IntKind.i64 n39, Cell.int IntKind.i64 n40, Cell.int IntKind.i64 n41, Cell.int IntKind.i64 n42, Cell.int IntKind.i64 n43] (fun h56 =>
              ((0 ≤ IntKind.i64.wrap (n3 + n8)) ∧
              IntKind.i64.wrap (n3 + n8) < (↑l0.len : Int)) ∧
              (derefK l0.a (fun i57 => fun i58 => fun h59 => 
              (storeK [] i57 (i58 + (IntKind.i64.wrap (n3 + n8)).toNat * 6) [Cell.str s47, Cell.int IntKind.i64 n48, Cell.int IntKind.i64 n49, Cell.int IntKind.i64 n50, Cell.int IntKind.i64 n51, Cell.int IntKind.i64 n52] (x5 n8)) h59)) h56)) h55)) h46)) h37)) h34)) h32) h30)) h21)) h12)) h9)
          (fun x60 => ifT b7
            (x60 (IntKind.i64.wrap (IntKind.i64.wrap (IntKind.i64.wrap (2 * n6) + 1) + 1)))
            (x60 (IntKind.i64.wrap (IntKind.i64.wrap (2 * n6) + 1)))))
        (fun x61 => ifT (decide (IntKind.i64.wrap (IntKind.i64.wrap (IntKind.i64.wrap (2 * n6) + 1) + 1) < n2))
          (fun h62 =>
          ((0 ≤ IntKind.i64.wrap (n3 + IntKind.i64.wrap (IntKind.i64.wrap (2 * n6) + 1))) ∧
          IntKind.i64.wrap (n3 + IntKind.i64.wrap (IntKind.i64.wrap (2 * n6) + 1)) < (↑l0.len : Int)) ∧
          (derefK l0.a (fun i63 => fun i64 => fun h65 =>
          ∃ s66 : ByteArray, ∃ n67 : Int, ∃ n68 : Int, ∃ n69 : Int, ∃ n70 : Int, ∃ n71 : Int, (h65.read i63 (i64 + (IntKind.i64.wrap (n3 + IntKind.i64.wrap (IntKind.i64.wrap (2 * n6) + 1))).toNat * 6) 6 = some [Cell.str s66, Cell.int IntKind.i64 n67, Cell.int IntKind.i64 n68, Cell.int IntKind.i64 n69, Cell.int IntKind.i64 n70, Cell.int IntKind.i64 n71]) ∧
          ((0 ≤ IntKind.i64.wrap (IntKind.i64.wrap (n3 + IntKind.i64.wrap (IntKind.i64.wrap (2 * n6) + 1)) + 1)) ∧
          IntKind.i64.wrap (IntKind.i64.wrap (n3 + IntKind.i64.wrap (IntKind.i64.wrap (2 * n6) + 1)) + 1) < (↑l0.len : Int)) ∧
          (derefK l0.a (fun i72 => fun i73 => fun h74 =>
          ∃ s75 : ByteArray, ∃ n76 : Int, ∃ n77 : Int, ∃ n78 : Int, ∃ n79 : Int, ∃ n80 : Int, (h74.read i72 (i73 + (IntKind.i64.wrap (IntKind.i64.wrap (n3 + IntKind.i64.wrap (IntKind.i64.wrap (2 * n6) + 1)) + 1)).toNat * 6) 6 = some [Cell.str s75, Cell.int IntKind.i64 n76, Cell.int IntKind.i64 n77, Cell.int IntKind.i64 n78, Cell.int IntKind.i64 n79, Cell.int IntKind.i64 n80]) ∧
          (funK p4 (fun i81 => fun cs82 => fun h83 => 
          I i81 (V.agg [Cell.str s66, Cell.int IntKind.i64 n67, Cell.int IntKind.i64 n68, Cell.int IntKind.i64 n69, Cell.int IntKind.i64 n70, Cell.int IntKind.i64 n71] :: V.agg [Cell.str s75, Cell.int IntKind.i64 n76, Cell.int IntKind.i64 n77, Cell.int IntKind.i64 n78, Cell.int IntKind.i64 n79, Cell.int IntKind.i64 n80] :: cs82)
            (fun cs84 => fun h85 => 
            ∃ n86 : Int, (cs84 = [V.one (Cell.int IntKind.i64 n86)]) ∧
            x61 (decide (n86 < 0)) h85) h83)) h74)) h65)) h62)
          (x61 false))))
theorem den90 (I : FuncId → List V → Post → T) (l0 : Sl) (n1 : Int) (n2 : Int) (n3 : Int) (p4 : Option (Nat × List (Nat × Nat))) (Q : Post) : denF Go.Proofs.Tryz.prog 0 (⟨[(396, 2199022731264, [(40, tk Go.Proofs.Tryz.prog 4)]), (397, 6597069768704, [(11, tk Go.Proofs.Tryz.prog 3)])], [(6, 4835703278458516698819584, [(10, tk Go.Proofs.Tryz.prog 3)])]⟩) I 90 [V.one (Cell.slice 6 l0), V.one (Cell.int IntKind.i64 n1), V.one (Cell.int IntKind.i64 n2), V.one (Cell.int IntKind.i64 n3), V.one (Cell.func p4)] Q = vc90 I l0 n1 n2 n3 p4 Q := by kernel_rfl
/-- slices.breakPatternsCmpFunc[handbill/api.Row] -/
def vc68 (I : FuncId → List V → Post → T) (l0 : Sl) (n1 : Int) (n2 : Int) (p3 : Option (Nat × List (Nat × Nat))) (Q : Post) : T :=
  ifT (decide (IntKind.i64.wrap (n2 - n1) ≥ 8))
    (fun h4 =>
    (newK (.cells false [Cell.int IntKind.u64 0]) (fun i5 => fun h6 => 
    (storeK [] i5 0 [Cell.int IntKind.u64 (IntKind.u64.wrap (IntKind.i64.wrap (n2 - n1)))] (fun h7 =>
    I 91 [V.one (Cell.int IntKind.i64 (IntKind.i64.wrap (n2 - n1)))]
      (fun cs8 => fun h9 => 
      ∃ n10 : Int, (cs8 = [V.one (Cell.int IntKind.u64 n10)]) ∧
      (loopK (A := Int) (IntKind.i64.wrap (IntKind.i64.wrap (n1 + IntKind.i64.wrap (IntKind.i64.wrap ((IntKind.i64.wrap (n2 - n1)).tdiv 4) * 2)) - 1))
        (fun x11 => fun n12 => ifT (decide (n12 ≤ IntKind.i64.wrap (IntKind.i64.wrap (n1 + IntKind.i64.wrap (IntKind.i64.wrap ((IntKind.i64.wrap (n2 - n1)).tdiv 4) * 2)) + 1)))
          (fun h13 =>
          I 92 [V.one (Cell.ptr (some (i5, 0)))]
            (fun cs14 => fun h15 => 
            ∃ n16 : Int, (cs14 = [V.one (Cell.int IntKind.u64 n16)]) ∧
            (joinK (A := Int)
              (fun n17 => fun h18 => 
              ((0 ≤ IntKind.i64.wrap (n1 + n17)) ∧
              IntKind.i64.wrap (n1 + n17) < (↑l0.len : Int)) ∧
              (derefK l0.a (fun i19 => fun i20 => fun h21 =>
              ∃ s22 : ByteArray, ∃ n23 : Int, ∃ n24 : Int, ∃ n25 : Int, ∃ n26 : Int, ∃ n27 : Int, (h21.read i19 (i20 + (IntKind.i64.wrap (n1 + n17)).toNat * 6) 6 = some [Cell.str s22, Cell.int IntKind.i64 n23, Cell.int IntKind.i64 n24, Cell.int IntKind.i64 n25, Cell.int IntKind.i64 n26, Cell.int IntKind.i64 n27]) ∧
              ((0 ≤ n12) ∧
              n12 < (↑l0.len : Int)) ∧
              (derefK l0.a (fun i28 => fun i29 => fun h30 =>
              ∃ s31 : ByteArray, ∃ n32 : Int, ∃ n33 : Int, ∃ n34 : Int, ∃ n35 : Int, ∃ n36 : Int, (h30.read i28 (i29 + n12.toNat * 6) 6 = some [Cell.str s31, Cell.int IntKind.i64 n32, Cell.int IntKind.i64 n33, Cell.int IntKind.i64 n34, Cell.int IntKind.i64 n35, Cell.int IntKind.i64 n36]) ∧
              ((0 ≤ n12) ∧
              n12 < (↑l0.len : Int)) ∧
              (derefK l0.a (fun i37 => fun i38 => fun h39 => 
              (storeK [] i37 (i38 + n12.toNat * 6) [Cell.str s22, Cell.int IntKind.i64 n23, Cell.int IntKind.i64 n24, Cell.int IntKind.i64 n25, Cell.int IntKind.i64 n26, Cell.int IntKind.i64 n27] (fun h40 =>
              ((0 ≤ IntKind.i64.wrap (n1 + n17)) ∧
              IntKind.i64.wrap (n1 + n17) < (↑l0.len : Int)) ∧
              (derefK l0.a (fun i41 => fun i42 => fun h43 => 
              (storeK [] i41 (i42 + (IntKind.i64.wrap (n1 + n17)).toNat * 6) [Cell.str s31, Cell.int IntKind.i64 n32, Cell.int IntKind.i64 n33, Cell.int IntKind.i64 n34, Cell.int IntKind.i64 n35, Cell.int IntKind.i64 n36] (x11 (IntKind.i64.wrap (n12 + 1)))) h43)) h40)) h39)) h30)) h21)) h18)
              (fun x44 => ifT (decide (IntKind.i64.wrap (IntKind.u64.wrap (↑(BitVec.ofInt 64 n16 &&& BitVec.ofInt 64 (IntKind.u64.wrap (n10 - 1))).toNat : Int)) ≥ IntKind.i64.wrap (n2 - n1)))
                (x44 (IntKind.i64.wrap (IntKind.i64.wrap (IntKind.u64.wrap (↑(BitVec.ofInt 64 n16 &&& BitVec.ofInt 64 (IntKind.u64.wrap (n10 - 1))).toNat : Int)) - IntKind.i64.wrap (n2 - n1))))
                (x44 (IntKind.i64.wrap (IntKind.u64.wrap (↑(BitVec.ofInt 64 n16 &&& BitVec.ofInt 64 (IntKind.u64.wrap (n10 - 1))).toNat : Int)))))) h15) h13)
          (Q []))) h9) h7)) h6)) h4)
    (Q [])
theorem den68 (I : FuncId → List V → Post → T) (l0 : Sl) (n1 : Int) (n2 : Int) (p3 : Option (Nat × List (Nat × Nat))) (Q : Post) : denF Go.Proofs.Tryz.prog 0 (⟨[(30501, 492581209247744, [(12, tk Go.Proofs.Tryz.prog 3)])], [(238, 147573952589407983616, [(11, tk Go.Proofs.Tryz.prog 3)])]⟩) I 68 [V.one (Cell.slice 6 l0), V.one (Cell.int IntKind.i64 n1), V.one (Cell.int IntKind.i64 n2), V.one (Cell.func p3)] Q = vc68 I l0 n1 n2 p3 Q := by kernel_rfl
/-- slices.choosePivotCmpFunc[handbill/api.Row] -/
def vc69 (I : FuncId → List V → Post → T) (l0 : Sl) (n1 : Int) (n2 : Int) (p3 : Option (Nat × List (Nat × Nat))) (Q : Post) : T :=
  fun h4 =>
  (newK (.cells false [Cell.int IntKind.i64 0]) (fun i5 => ifT (decide (IntKind.i64.wrap (n2 - n1) ≥ 8))
    (joinK (A := Int × Int × Int)
      (uncur fun n6 => uncur fun n7 n8 => fun h9 => 
      I 94 [V.one (Cell.slice 6 l0), V.one (Cell.int IntKind.i64 n6), V.one (Cell.int IntKind.i64 n7), V.one (Cell.int IntKind.i64 n8), V.one (Cell.ptr (some (i5, 0))), V.one (Cell.func p3)]
        (fun cs10 => fun h11 => 
        ∃ n12 : Int, (cs10 = [V.one (Cell.int IntKind.i64 n12)]) ∧
        ∃ n13 : Int, (h11.read i5 0 1 = some [Cell.int IntKind.i64 n13]) ∧
        (ifT (decide (n13 = 0))
          (Q [V.one (Cell.int IntKind.i64 n12), V.one (Cell.int IntKind.i64 1)])
          (ifT (decide (n13 = 12))
            (Q [V.one (Cell.int IntKind.i64 n12), V.one (Cell.int IntKind.i64 2)])
            (Q [V.one (Cell.int IntKind.i64 n12), V.one (Cell.int IntKind.i64 0)]))) h11) h9)
      (fun x14 => ifT (decide (IntKind.i64.wrap (n2 - n1) ≥ 50))
        (fun h15 =>
        I 93 [V.one (Cell.slice 6 l0), V.one (Cell.int IntKind.i64 (IntKind.i64.wrap (n1 + IntKind.i64.wrap (IntKind.i64.wrap ((IntKind.i64.wrap (n2 - n1)).tdiv 4) * 1)))), V.one (Cell.ptr (some (i5, 0))), V.one (Cell.func p3)]
          (fun cs16 => fun h17 => 
          ∃ n18 : Int, (cs16 = [V.one (Cell.int IntKind.i64 n18)]) ∧
          I 93 [V.one (Cell.slice 6 l0), V.one (Cell.int IntKind.i64 (IntKind.i64.wrap (n1 + IntKind.i64.wrap (IntKind.i64.wrap ((IntKind.i64.wrap (n2 - n1)).tdiv 4) * 2)))), V.one (Cell.ptr (some (i5, 0))), V.one (Cell.func p3)]
            (fun cs19 => fun h20 => 
            ∃ n21 : Int, (cs19 = [V.one (Cell.int IntKind.i64 n21)]) ∧
            I 93 [V.one (Cell.slice 6 l0), V.one (Cell.int IntKind.i64 (IntKind.i64.wrap (n1 + IntKind.i64.wrap (IntKind.i64.wrap ((IntKind.i64.wrap (n2 - n1)).tdiv 4) * 3)))), V.one (Cell.ptr (some (i5, 0))), V.one (Cell.func p3)]
              (fun cs22 => fun h23 => 
              ∃ n24 : Int, (cs22 = [V.one (Cell.int IntKind.i64 n24)]) ∧
              x14 ((n18, n21, n24)) h23) h20) h17) h15)
        (x14 ((IntKind.i64.wrap (n1 + IntKind.i64.wrap (IntKind.i64.wrap ((IntKind.i64.wrap (n2 - n1)).tdiv 4) * 1)), IntKind.i64.wrap (n1 + IntKind.i64.wrap (IntKind.i64.wrap ((IntKind.i64.wrap (n2 - n1)).tdiv 4) * 2)), IntKind.i64.wrap (n1 + IntKind.i64.wrap (IntKind.i64.wrap ((IntKind.i64.wrap (n2 - n1)).tdiv 4) * 3)))))))
    (fun h25 =>
    ∃ n26 : Int, (h25.read i5 0 1 = some [Cell.int IntKind.i64 n26]) ∧
    (ifT (decide (n26 = 0))
      (Q [V.one (Cell.int IntKind.i64 (IntKind.i64.wrap (n1 + IntKind.i64.wrap (IntKind.i64.wrap ((IntKind.i64.wrap (n2 - n1)).tdiv 4) * 2)))), V.one (Cell.int IntKind.i64 1)])
      (ifT (decide (n26 = 12))
        (Q [V.one (Cell.int IntKind.i64 (IntKind.i64.wrap (n1 + IntKind.i64.wrap (IntKind.i64.wrap ((IntKind.i64.wrap (n2 - n1)).tdiv 4) * 2)))), V.one (Cell.int IntKind.i64 2)])
        (Q [V.one (Cell.int IntKind.i64 (IntKind.i64.wrap (n1 + IntKind.i64.wrap (IntKind.i64.wrap ((IntKind.i64.wrap (n2 - n1)).tdiv 4) * 2)))), V.one (Cell.int IntKind.i64 0)]))) h25))) h4
theorem den69 (I : FuncId → List V → Post → T) (l0 : Sl) (n1 : Int) (n2 : Int) (p3 : Option (Nat × List (Nat × Nat))) (Q : Post) : denF Go.Proofs.Tryz.prog 0 (⟨[(4073, 562812514496512, [(12, tk Go.Proofs.Tryz.prog 3), (13, tk Go.Proofs.Tryz.prog 3), (14, tk Go.Proofs.Tryz.prog 3)])], []⟩) I 69 [V.one (Cell.slice 6 l0), V.one (Cell.int IntKind.i64 n1), V.one (Cell.int IntKind.i64 n2), V.one (Cell.func p3)] Q = vc69 I l0 n1 n2 p3 Q := by kernel_rfl
/-- slices.medianAdjacentCmpFunc[handbill/api.Row] -/
def vc93 (I : FuncId → List V → Post → T) (l0 : Sl) (n1 : Int) (p2 : Option (Nat × Nat)) (p3 : Option (Nat × List (Nat × Nat))) (Q : Post) : T :=
  fun h4 =>
  I 94 [V.one (Cell.slice 6 l0), V.one (Cell.int IntKind.i64 (IntKind.i64.wrap (n1 - 1))), V.one (Cell.int IntKind.i64 n1), V.one (Cell.int IntKind.i64 (IntKind.i64.wrap (n1 + 1))), V.one (Cell.ptr p2), V.one (Cell.func p3)]
    (fun cs5 => fun h6 => 
    ∃ n7 : Int, (cs5 = [V.one (Cell.int IntKind.i64 n7)]) ∧
    Q [V.one (Cell.int IntKind.i64 n7)] h6) h4
theorem den93 (I : FuncId → List V → Post → T) (l0 : Sl) (n1 : Int) (p2 : Option (Nat × Nat)) (p3 : Option (Nat × List (Nat × Nat))) (Q : Post) : denF Go.Proofs.Tryz.prog 0 (⟨[], []⟩) I 93 [V.one (Cell.slice 6 l0), V.one (Cell.int IntKind.i64 n1), V.one (Cell.ptr p2), V.one (Cell.func p3)] Q = vc93 I l0 n1 p2 p3 Q := by kernel_rfl
/-- slices.medianCmpFunc[handbill/api.Row] -/
def vc94 (I : FuncId → List V → Post → T) (l0 : Sl) (n1 : Int) (n2 : Int) (n3 : Int) (p4 : Option (Nat × Nat)) (p5 : Option (Nat × List (Nat × Nat))) (Q : Post) : T :=
  fun h6 =>
  I 100 [V.one (Cell.slice 6 l0), V.one (Cell.int IntKind.i64 n1), V.one (Cell.int IntKind.i64 n2), V.one (Cell.ptr p4), V.one (Cell.func p5)]
    (fun cs7 => fun h8 => 
    ∃ n9 : Int, ∃ n10 : Int, (cs7 = [V.one (Cell.int IntKind.i64 n9), V.one (Cell.int IntKind.i64 n10)]) ∧
    I 100 [V.one (Cell.slice 6 l0), V.one (Cell.int IntKind.i64 n10), V.one (Cell.int IntKind.i64 n3), V.one (Cell.ptr p4), V.one (Cell.func p5)]
      (fun cs11 => fun h12 => 
      ∃ n13 : Int, ∃ n14 : Int, (cs11 = [V.one (Cell.int IntKind.i64 n13), V.one (Cell.int IntKind.i64 n14)]) ∧
      I 100 [V.one (Cell.slice 6 l0), V.one (Cell.int IntKind.i64 n9), V.one (Cell.int IntKind.i64 n13), V.one (Cell.ptr p4), V.one (Cell.func p5)]
        (fun cs15 => fun h16 => 
        ∃ n17 : Int, ∃ n18 : Int, (cs15 = [V.one (Cell.int IntKind.i64 n17), V.one (Cell.int IntKind.i64 n18)]) ∧
        Q [V.one (Cell.int IntKind.i64 n18)] h16) h12) h8) h6
theorem den94 (I : FuncId → List V → Post → T) (l0 : Sl) (n1 : Int) (n2 : Int) (n3 : Int) (p4 : Option (Nat × Nat)) (p5 : Option (Nat × List (Nat × Nat))) (Q : Post) : denF Go.Proofs.Tryz.prog 0 (⟨[], []⟩) I 94 [V.one (Cell.slice 6 l0), V.one (Cell.int IntKind.i64 n1), V.one (Cell.int IntKind.i64 n2), V.one (Cell.int IntKind.i64 n3), V.one (Cell.ptr p4), V.one (Cell.func p5)] Q = vc94 I l0 n1 n2 n3 p4 p5 Q := by kernel_rfl
/-- slices.order2CmpFunc[handbill/api.Row] -/
def vc100 (I : FuncId → List V → Post → T) (l0 : Sl) (n1 : Int) (n2 : Int) (p3 : Option (Nat × Nat)) (p4 : Option (Nat × List (Nat × Nat))) (Q : Post) : T :=
  fun h5 =>
  ((0 ≤ n2) ∧
  n2 < (↑l0.len : Int)) ∧
  (derefK l0.a (fun i6 => fun i7 => fun h8 =>
  ∃ s9 : ByteArray, ∃ n10 : Int, ∃ n11 : Int, ∃ n12 : Int, ∃ n13 : Int, ∃ n14 : Int, (h8.read i6 (i7 + n2.toNat * 6) 6 = some [Cell.str s9, Cell.int IntKind.i64 n10, Cell.int IntKind.i64 n11, Cell.int IntKind.i64 n12, Cell.int IntKind.i64 n13, Cell.int IntKind.i64 n14]) ∧
  ((0 ≤ n1) ∧
  n1 < (↑l0.len : Int)) ∧
  (derefK l0.a (fun i15 => fun i16 => fun h17 =>
  ∃ s18 : ByteArray, ∃ n19 : Int, ∃ n20 : Int, ∃ n21 : Int, ∃ n22 : Int, ∃ n23 : Int, (h17.read i15 (i16 + n1.toNat * 6) 6 = some [Cell.str s18, Cell.int IntKind.i64 n19, Cell.int IntKind.i64 n20, Cell.int IntKind.i64 n21, Cell.int IntKind.i64 n22, Cell.int IntKind.i64 n23]) ∧
  (funK p4 (fun i24 => fun cs25 => fun h26 => 
  I i24 (V.agg [Cell.str s9, Cell.int IntKind.i64 n10, Cell.int IntKind.i64 n11, Cell.int IntKind.i64 n12, Cell.int IntKind.i64 n13, Cell.int IntKind.i64 n14] :: V.agg [Cell.str s18, Cell.int IntKind.i64 n19, Cell.int IntKind.i64 n20, Cell.int IntKind.i64 n21, Cell.int IntKind.i64 n22, Cell.int IntKind.i64 n23] :: cs25)
    (fun cs27 => fun h28 => 
    ∃ n29 : Int, (cs27 = [V.one (Cell.int IntKind.i64 n29)]) ∧
    (ifT (decide (n29 < 0))
      (derefK p3 (fun i30 => fun i31 => fun h32 =>
      ∃ n33 : Int, (h32.read i30 i31 1 = some [Cell.int IntKind.i64 n33]) ∧
      (derefK p3 (fun i34 => fun i35 => fun h36 => 
      (storeK [] i34 i35 [Cell.int IntKind.i64 (IntKind.i64.wrap (n33 + 1))] (Q [V.one (Cell.int IntKind.i64 n2), V.one (Cell.int IntKind.i64 n1)])) h36)) h32))
      (Q [V.one (Cell.int IntKind.i64 n1), V.one (Cell.int IntKind.i64 n2)])) h28) h26)) h17)) h8)) h5
theorem den100 (I : FuncId → List V → Post → T) (l0 : Sl) (n1 : Int) (n2 : Int) (p3 : Option (Nat × Nat)) (p4 : Option (Nat × List (Nat × Nat))) (Q : Post) : denF Go.Proofs.Tryz.prog 0 (⟨[], []⟩) I 100 [V.one (Cell.slice 6 l0), V.one (Cell.int IntKind.i64 n1), V.one (Cell.int IntKind.i64 n2), V.one (Cell.ptr p3), V.one (Cell.func p4)] Q = vc100 I l0 n1 n2 p3 p4 Q := by kernel_rfl
/-- slices.reverseRangeCmpFunc[handbill/api.Row] -/
def vc70 (I : FuncId → List V → Post → T) (l0 : Sl) (n1 : Int) (n2 : Int) (p3 : Option (Nat × List (Nat × Nat))) (Q : Post) : T :=
  loopK (A := Int × Int) ((n1, IntKind.i64.wrap (n2 - 1)))
    (fun x4 => uncur fun n5 n6 => ifT (decide (n5 < n6))
      (fun h7 =>
      ((0 ≤ n6) ∧
      n6 < (↑l0.len : Int)) ∧
      (derefK l0.a (fun i8 => fun i9 => fun h10 =>
      ∃ s11 : ByteArray, ∃ n12 : Int, ∃ n13 : Int, ∃ n14 : Int, ∃ n15 : Int, ∃ n16 : Int, (h10.read i8 (i9 + n6.toNat * 6) 6 = some [Cell.str s11, Cell.int IntKind.i64 n12, Cell.int IntKind.i64 n13, Cell.int IntKind.i64 n14, Cell.int IntKind.i64 n15, Cell.int IntKind.i64 n16]) ∧
      ((0 ≤ n5) ∧
      n5 < (↑l0.len : Int)) ∧
      (derefK l0.a (fun i17 => fun i18 => fun h19 =>
      ∃ s20 : ByteArray, ∃ n21 : Int, ∃ n22 : Int, ∃ n23 : Int, ∃ n24 : Int, ∃ n25 : Int, (h19.read i17 (i18 + n5.toNat * 6) 6 = some [Cell.str s20, Cell.int IntKind.i64 n21, Cell.int IntKind.i64 n22, Cell.int IntKind.i64 n23, Cell.int IntKind.i64 n24, Cell.int IntKind.i64 n25]) ∧
      ((0 ≤ n5) ∧
      n5 < (↑l0.len : Int)) ∧
      (derefK l0.a (fun i26 => fun i27 => fun h28 => 
      (storeK [] i26 (i27 + n5.toNat * 6) [Cell.str s11, Cell.int IntKind.i64 n12, Cell.int IntKind.i64 n13, Cell.int IntKind.i64 n14, Cell.int IntKind.i64 n15, Cell.int IntKind.i64 n16] (fun h29 =>
      ((0 ≤ n6) ∧
      n6 < (↑l0.len : Int)) ∧
      (derefK l0.a (fun i30 => fun i31 => fun h32 => 
      (storeK [] i30 (i31 + n6.toNat * 6) [Cell.str s20, Cell.int IntKind.i64 n21, Cell.int IntKind.i64 n22, Cell.int IntKind.i64 n23, Cell.int IntKind.i64 n24, Cell.int IntKind.i64 n25] (x4 ((IntKind.i64.wrap (n5 + 1), IntKind.i64.wrap (n6 - 1))))) h32)) h29)) h28)) h19)) h10)) h7)
      (Q []))
theorem den70 (I : FuncId → List V → Post → T) (l0 : Sl) (n1 : Int) (n2 : Int) (p3 : Option (Nat × List (Nat × Nat))) (Q : Post) : denF Go.Proofs.Tryz.prog 0 (⟨[], [(14, 17179861760, [(8, tk Go.Proofs.Tryz.prog 3), (9, tk Go.Proofs.Tryz.prog 3)])]⟩) I 70 [V.one (Cell.slice 6 l0), V.one (Cell.int IntKind.i64 n1), V.one (Cell.int IntKind.i64 n2), V.one (Cell.func p3)] Q = vc70 I l0 n1 n2 p3 Q := by kernel_rfl
/-- slices.partialInsertionSortCmpFunc[handbill/api.Row] -/
def vc71 (I : FuncId → List V → Post → T) (l0 : Sl) (n1 : Int) (n2 : Int) (p3 : Option (Nat × List (Nat × Nat))) (Q : Post) : T :=
  loopK (A := Int × Int) ((IntKind.i64.wrap (n1 + 1), 0))
    (fun x4 => uncur fun n5 n6 => ifT (decide (n6 < 5))
      (loopK (A := Int) n5
        (fun x7 => fun n8 => joinK (A := Bool)
          (fun b9 => ifT b9
            (x7 (IntKind.i64.wrap (n8 + 1)))
            (ifT (decide (n8 = n2))
              (Q [V.one (Cell.bool true)])
              (ifT (decide (IntKind.i64.wrap (n2 - n1) < 50))
                (Q [V.one (Cell.bool false)])
                (fun h10 =>
                ((0 ≤ IntKind.i64.wrap (n8 - 1)) ∧
                IntKind.i64.wrap (n8 - 1) < (↑l0.len : Int)) ∧
                (derefK l0.a (fun i11 => fun i12 => fun h13 =>
                ∃ s14 : ByteArray, ∃ n15 : Int, ∃ n16 : Int, ∃ n17 : Int, ∃ n18 : Int, ∃ n19 : Int, (h13.read i11 (i12 + (IntKind.i64.wrap (n8 - 1)).toNat * 6) 6 = some [Cell.str s14, Cell.int IntKind.i64 n15, Cell.int IntKind.i64 n16, Cell.int IntKind.i64 n17, Cell.int IntKind.i64 n18, Cell.int IntKind.i64 n19]) ∧
                ((0 ≤ n8) ∧
                n8 < (↑l0.len : Int)) ∧
                (derefK l0.a (fun i20 => fun i21 => fun h22 =>
                ∃ s23 : ByteArray, ∃ n24 : Int, ∃ n25 : Int, ∃ n26 : Int, ∃ n27 : Int, ∃ n28 : Int, (h22.read i20 (i21 + n8.toNat * 6) 6 = some [Cell.str s23, Cell.int IntKind.i64 n24, Cell.int IntKind.i64 n25, Cell.int IntKind.i64 n26, Cell.int IntKind.i64 n27, Cell.int IntKind.i64 n28]) ∧
                ((0 ≤ n8) ∧
                n8 < (↑l0.len : Int)) ∧
                (derefK l0.a (fun i29 => fun i30 => fun h31 => 
                (storeK [] i29 (i30 + n8.toNat * 6) [Cell.str s14, Cell.int IntKind.i64 n15, Cell.int IntKind.i64 n16, Cell.int IntKind.i64 n17, Cell.int IntKind.i64 n18, Cell.int IntKind.i64 n19] (fun h32 =>
                ((0 ≤ IntKind.i64.wrap (n8 - 1)) ∧
                IntKind.i64.wrap (n8 - 1) < (↑l0.len : Int)) ∧
                (derefK l0.a (fun i33 => fun i34 => fun h35 => 
                (storeK [] i33 (i34 + (IntKind.i64.wrap (n8 - 1)).toNat * 6) [Cell.str s23, Cell.int IntKind.i64 n24, Cell.int IntKind.i64 n25, Cell.int IntKind.i64 n26, Cell.int IntKind.i64 n27, Cell.int IntKind.i64 n28] (joinK (A := PUnit)
                  (fun x36 => ifT (decide (IntKind.i64.wrap (n2 - n8) ≥ 2))
                    (loopK (A := Int) (IntKind.i64.wrap (n8 + 1))
                      (fun x37 => fun n38 => ifT (decide (n38 < n2))
                        (fun h39 =>
                        ((0 ≤ n38) ∧
                        n38 < (↑l0.len : Int)) ∧
                        (derefK l0.a (fun i40 => fun i41 => fun h42 =>
                        ∃ s43 : ByteArray, ∃ n44 : Int, ∃ n45 : Int, ∃ n46 : Int, ∃ n47 : Int, ∃ n48 : Int, (h42.read i40 (i41 + n38.toNat * 6) 6 = some [Cell.str s43, Cell.int IntKind.i64 n44, Cell.int IntKind.i64 n45, Cell.int IntKind.i64 n46, Cell.int IntKind.i64 n47, Cell.int IntKind.i64 n48]) ∧
                        ((0 ≤ IntKind.i64.wrap (n38 - 1)) ∧
                        IntKind.i64.wrap (n38 - 1) < (↑l0.len : Int)) ∧
                        (derefK l0.a (fun i49 => fun i50 => fun h51 =>
                        ∃ s52 : ByteArray, ∃ n53 : Int, ∃ n54 : Int, ∃ n55 : Int, ∃ n56 : Int, ∃ n57 : Int, (h51.read i49 (i50 + (IntKind.i64.wrap (n38 - 1)).toNat * 6) 6 = some [Cell.str s52, Cell.int IntKind.i64 n53, Cell.int IntKind.i64 n54, Cell.int IntKind.i64 n55, Cell.int IntKind.i64 n56, Cell.int IntKind.i64 n57]) ∧
                        (funK p3 (fun i58 => fun cs59 => fun h60 => 
                        I i58 (V.agg [Cell.str s43, Cell.int IntKind.i64 n44, Cell.int IntKind.i64 n45, Cell.int IntKind.i64 n46, Cell.int IntKind.i64 n47, Cell.int IntKind.i64 n48] :: V.agg [Cell.str s52, Cell.int IntKind.i64 n53, Cell.int IntKind.i64 n54, Cell.int IntKind.i64 n55, Cell.int IntKind.i64 n56, Cell.int IntKind.i64 n57] :: cs59)
                          (fun cs61 => fun h62 => 
                          ∃ n63 : Int, (cs61 = [V.one (Cell.int IntKind.i64 n63)]) ∧
                          (ifT (!decide (n63 < 0))
                            (x4 ((n8, IntKind.i64.wrap (n6 + 1))))
                            (fun h64 =>
                            ((0 ≤ IntKind.i64.wrap (n38 - 1)) ∧
                            IntKind.i64.wrap (n38 - 1) < (↑l0.len : Int)) ∧
                            (derefK l0.a (fun i65 => fun i66 => fun h67 =>
                            ∃ s68 : ByteArray, ∃ n69 : Int, ∃ n70 : Int, ∃ n71 : Int, ∃ n72 : Int, ∃ n73 : Int, (h67.read i65 (i66 + (IntKind.i64.wrap (n38 - 1)).toNat * 6) 6 = some [Cell.str s68, Cell.int IntKind.i64 n69, Cell.int IntKind.i64 n70, Cell.int IntKind.i64 n71, Cell.int IntKind.i64 n72, Cell.int IntKind.i64 n73]) ∧
                            ((0 ≤ n38) ∧
                            n38 < (↑l0.len : Int)) ∧
                            (derefK l0.a (fun i74 => fun i75 => fun h76 =>
                            ∃ s77 : ByteArray, ∃ n78 : Int, ∃ n79 : Int, ∃ n80 : Int, ∃ n81 : Int, ∃ n82 : Int, (h76.read i74 (i75 + n38.toNat * 6) 6 = some [Cell.str s77, Cell.int IntKind.i64 n78, Cell.int IntKind.i64 n79, Cell.int IntKind.i64 n80, Cell.int IntKind.i64 n81, Cell.int IntKind.i64 n82]) ∧
                            ((0 ≤ n38) ∧
                            n38 < (↑l0.len : Int)) ∧
                            (derefK l0.a (fun i83 => fun i84 => fun h85 => 
                            (storeK [] i83 (i84 + n38.toNat * 6) [Cell.str s68, Cell.int IntKind.i64 n69, Cell.int IntKind.i64 n70, Cell.int IntKind.i64 n71, Cell.int IntKind.i64 n72, Cell.int IntKind.i64 n73] (fun h86 =>
                            ((0 ≤ IntKind.i64.wrap (n38 - 1)) ∧
                            IntKind.i64.wrap (n38 - 1) < (↑l0.len : Int)) ∧
                            (derefK l0.a (fun i87 => fun i88 => fun h89 => 
                            (storeK [] i87 (i88 + (IntKind.i64.wrap (n38 - 1)).toNat * 6) [Cell.str s77, Cell.int IntKind.i64 n78, Cell.int IntKind.i64 n79, Cell.int IntKind.i64 n80, Cell.int IntKind.i64 n81, Cell.int IntKind.i64 n82] (x37 (IntKind.i64.wrap (n38 + 1)))) h89)) h86)) h85)) h76)) h67)) h64)) h62) h60)) h51)) h42)) h39)
                        (x4 ((n8, IntKind.i64.wrap (n6 + 1))))))
                    (x4 ((n8, IntKind.i64.wrap (n6 + 1)))))
                  (fun x90 => ifT (decide (IntKind.i64.wrap (n8 - n1) ≥ 2))
                    (joinK (A := PUnit)
                      (fun x91 => fun h92 => 
                      x90 () h92)
                      (fun x93 => loopK (A := Int) (IntKind.i64.wrap (n8 - 1))
                        (fun x94 => fun n95 => ifT (decide (n95 ≥ 1))
                          (fun h96 =>
                          ((0 ≤ n95) ∧
                          n95 < (↑l0.len : Int)) ∧
                          (derefK l0.a (fun i97 => fun i98 => fun h99 =>
                          ∃ s100 : ByteArray, ∃ n101 : Int, ∃ n102 : Int, ∃ n103 : Int, ∃ n104 : Int, ∃ n105 : Int, (h99.read i97 (i98 + n95.toNat * 6) 6 = some [Cell.str s100, Cell.int IntKind.i64 n101, Cell.int IntKind.i64 n102, Cell.int IntKind.i64 n103, Cell.int IntKind.i64 n104, Cell.int IntKind.i64 n105]) ∧
                          ((0 ≤ IntKind.i64.wrap (n95 - 1)) ∧
                          IntKind.i64.wrap (n95 - 1) < (↑l0.len : Int)) ∧
                          (derefK l0.a (fun i106 => fun i107 => fun h108 =>
                          ∃ s109 : ByteArray, ∃ n110 : Int, ∃ n111 : Int, ∃ n112 : Int, ∃ n113 : Int, ∃ n114 : Int, (h108.read i106 (i107 + (IntKind.i64.wrap (n95 - 1)).toNat * 6) 6 = some [Cell.str s109, Cell.int IntKind.i64 n110, Cell.int IntKind.i64 n111, Cell.int IntKind.i64 n112, Cell.int IntKind.i64 n113, Cell.int IntKind.i64 n114]) ∧
                          (funK p3 (fun i115 => fun cs116 => fun h117 => 
                          I i115 (V.agg [Cell.str s100, Cell.int IntKind.i64 n101, Cell.int IntKind.i64 n102, Cell.int IntKind.i64 n103, Cell.int IntKind.i64 n104, Cell.int IntKind.i64 n105] :: V.agg [Cell.str s109, Cell.int IntKind.i64 n110, Cell.int IntKind.i64 n111, Cell.int IntKind.i64 n112, Cell.int IntKind.i64 n113, Cell.int IntKind.i64 n114] :: cs116)
                            (fun cs118 => fun h119 => 
                            ∃ n120 : Int, (cs118 = [V.one (Cell.int IntKind.i64 n120)]) ∧
                            (ifT (!decide (n120 < 0))
                              (x93 ())
                              (fun h121 =>
                              ((0 ≤ IntKind.i64.wrap (n95 - 1)) ∧
                              IntKind.i64.wrap (n95 - 1) < (↑l0.len : Int)) ∧
                              (derefK l0.a (fun i122 => fun i123 => fun h124 =>
                              ∃ s125 : ByteArray, ∃ n126 : Int, ∃ n127 : Int, ∃ n128 : Int, ∃ n129 : Int, ∃ n130 : Int, (h124.read i122 (i123 + (IntKind.i64.wrap (n95 - 1)).toNat * 6) 6 = some [Cell.str s125, Cell.int IntKind.i64 n126, Cell.int IntKind.i64 n127, Cell.int IntKind.i64 n128, Cell.int IntKind.i64 n129, Cell.int IntKind.i64 n130]) ∧
                              ((0 ≤ n95) ∧
                              n95 < (↑l0.len : Int)) ∧
                              (derefK l0.a (fun i131 => fun i132 => fun h133 =>
                              ∃ s134 : ByteArray, ∃ n135 : Int, ∃ n136 : Int, ∃ n137 : Int, ∃ n138 : Int, ∃ n139 : Int, (h133.read i131 (i132 + n95.toNat * 6) 6 = some [Cell.str s134, Cell.int IntKind.i64 n135, Cell.int IntKind.i64 n136, Cell.int IntKind.i64 n137, Cell.int IntKind.i64 n138, Cell.int IntKind.i64 n139]) ∧
                              ((0 ≤ n95) ∧
                              n95 < (↑l0.len : Int)) ∧
                              (derefK l0.a (fun i140 => fun i141 => fun h142 => 
                              (storeK [] i140 (i141 + n95.toNat * 6) [Cell.str s125, Cell.int IntKind.i64 n126, Cell.int IntKind.i64 n127, Cell.int IntKind.i64 n128, Cell.int IntKind.i64 n129, Cell.int IntKind.i64 n130] (fun h143 =>
                              ((0 ≤ IntKind.i64.wrap (n95 - 1)) ∧
                              IntKind.i64.wrap (n95 - 1) < (↑l0.len : Int)) ∧
                              (derefK l0.a (fun i144 => fun i145 => fun h146 => 
                              (storeK [] i144 (i145 + (IntKind.i64.wrap (n95 - 1)).toNat * 6) [Cell.str s134, Cell.int IntKind.i64 n135, Cell.int IntKind.i64 n136, Cell.int IntKind.i64 n137, Cell.int IntKind.i64 n138, Cell.int IntKind.i64 n139] (x94 (IntKind.i64.wrap (n95 - 1)))) h146)) h143)) h142)) h133)) h124)) h121)) h119) h117)) h108)) h99)) h96)
                          (x93 ()))))
                    (x90 ())))) h35)) h32)) h31)) h22)) h13)) h10))))
          (fun x147 => ifT (decide (n8 < n2))
            (fun h148 =>
            ((0 ≤ n8) ∧
            n8 < (↑l0.len : Int)) ∧
            (derefK l0.a (fun i149 => fun i150 => fun h151 =>
            ∃ s152 : ByteArray, ∃ n153 : Int, ∃ n154 : Int, ∃ n155 : Int, ∃ n156 : Int, ∃ n157 : Int, (h151.read i149 (i150 + n8.toNat * 6) 6 = some [Cell.str s152, Cell.int IntKind.i64 n153, Cell.int IntKind.i64 n154, Cell.int IntKind.i64 n155, Cell.int IntKind.i64 n156, Cell.int IntKind.i64 n157]) ∧
            ((0 ≤ IntKind.i64.wrap (n8 - 1)) ∧
            IntKind.i64.wrap (n8 - 1) < (↑l0.len : Int)) ∧
            (derefK l0.a (fun i158 => fun i159 => fun h160 =>
            ∃ s161 : ByteArray, ∃ n162 : Int, ∃ n163 : Int, ∃ n164 : Int, ∃ n165 : Int, ∃ n166 : Int, (h160.read i158 (i159 + (IntKind.i64.wrap (n8 - 1)).toNat * 6) 6 = some [Cell.str s161, Cell.int IntKind.i64 n162, Cell.int IntKind.i64 n163, Cell.int IntKind.i64 n164, Cell.int IntKind.i64 n165, Cell.int IntKind.i64 n166]) ∧
            (funK p3 (fun i167 => fun cs168 => fun h169 => 
            I i167 (V.agg [Cell.str s152, Cell.int IntKind.i64 n153, Cell.int IntKind.i64 n154, Cell.int IntKind.i64 n155, Cell.int IntKind.i64 n156, Cell.int IntKind.i64 n157] :: V.agg [Cell.str s161, Cell.int IntKind.i64 n162, Cell.int IntKind.i64 n163, Cell.int IntKind.i64 n164, Cell.int IntKind.i64 n165, Cell.int IntKind.i64 n166] :: cs168)
              (fun cs170 => fun h171 => 
              ∃ n172 : Int, (cs170 = [V.one (Cell.int IntKind.i64 n172)]) ∧
              x147 (!decide (n172 < 0)) h171) h169)) h160)) h151)) h148)
            (x147 false))))
      (Q [V.one (Cell.bool false)]))
theorem den71 (I : FuncId → List V → Post → T) (l0 : Sl) (n1 : Int) (n2 : Int) (p3 : Option (Nat × List (Nat × Nat))) (Q : Post) : denF Go.Proofs.Tryz.prog 0 (⟨[(29824, 137438429184, [(36, tk Go.Proofs.Tryz.prog 4)]), (59709, 2535301200382671826698568206336, []), (238837, 2535301200161310897814053586944, [])], [(58, 2787593149816327892691964784081045188222720, [(9, tk Go.Proofs.Tryz.prog 3), (10, tk Go.Proofs.Tryz.prog 3)]), (3728, 549755290112, [(9, tk Go.Proofs.Tryz.prog 3)]), (477674, 2535301200161310897814053586944, [(11, tk Go.Proofs.Tryz.prog 3)]), (477690, 2787593149654068615862751420689467177963520, [(12, tk Go.Proofs.Tryz.prog 3)])]⟩) I 71 [V.one (Cell.slice 6 l0), V.one (Cell.int IntKind.i64 n1), V.one (Cell.int IntKind.i64 n2), V.one (Cell.func p3)] Q = vc71 I l0 n1 n2 p3 Q := by kernel_rfl
/-- slices.partitionEqualCmpFunc[handbill/api.Row] -/
def vc72 (I : FuncId → List V → Post → T) (l0 : Sl) (n1 : Int) (n2 : Int) (n3 : Int) (p4 : Option (Nat × List (Nat × Nat))) (Q : Post) : T :=
  fun h5 =>
  ((0 ≤ n3) ∧
  n3 < (↑l0.len : Int)) ∧
  (derefK l0.a (fun i6 => fun i7 => fun h8 =>
  ∃ s9 : ByteArray, ∃ n10 : Int, ∃ n11 : Int, ∃ n12 : Int, ∃ n13 : Int, ∃ n14 : Int, (h8.read i6 (i7 + n3.toNat * 6) 6 = some [Cell.str s9, Cell.int IntKind.i64 n10, Cell.int IntKind.i64 n11, Cell.int IntKind.i64 n12, Cell.int IntKind.i64 n13, Cell.int IntKind.i64 n14]) ∧
  ((0 ≤ n1) ∧
  n1 < (↑l0.len : Int)) ∧
  (derefK l0.a (fun i15 => fun i16 => fun h17 =>
  ∃ s18 : ByteArray, ∃ n19 : Int, ∃ n20 : Int, ∃ n21 : Int, ∃ n22 : Int, ∃ n23 : Int, (h17.read i15 (i16 + n1.toNat * 6) 6 = some [Cell.str s18, Cell.int IntKind.i64 n19, Cell.int IntKind.i64 n20, Cell.int IntKind.i64 n21, Cell.int IntKind.i64 n22, Cell.int IntKind.i64 n23]) ∧
  ((0 ≤ n1) ∧
  n1 < (↑l0.len : Int)) ∧
  (derefK l0.a (fun i24 => fun i25 => fun h26 => 
  (storeK [] i24 (i25 + n1.toNat * 6) [Cell.str s9, Cell.int IntKind.i64 n10, Cell.int IntKind.i64 n11, Cell.int IntKind.i64 n12, Cell.int IntKind.i64 n13, Cell.int IntKind.i64 n14] (fun h27 =>
  ((0 ≤ n3) ∧
  n3 < (↑l0.len : Int)) ∧
  (derefK l0.a (fun i28 => fun i29 => fun h30 => 
  (storeK [] i28 (i29 + n3.toNat * 6) [Cell.str s18, Cell.int IntKind.i64 n19, Cell.int IntKind.i64 n20, Cell.int IntKind.i64 n21, Cell.int IntKind.i64 n22, Cell.int IntKind.i64 n23] (loopK (A := Int × Int) ((IntKind.i64.wrap (n1 + 1), IntKind.i64.wrap (n2 - 1)))
    (fun x31 => uncur fun n32 n33 => loopK (A := Int) n32
      (fun x34 => fun n35 => joinK (A := Bool)
        (fun b36 => ifT b36
          (x34 (IntKind.i64.wrap (n35 + 1)))
          (loopK (A := Int) n33
            (fun x37 => fun n38 => joinK (A := Bool)
              (fun b39 => ifT b39
                (x37 (IntKind.i64.wrap (n38 - 1)))
                (ifT (decide (n35 > n38))
                  (Q [V.one (Cell.int IntKind.i64 n35)])
                  (fun h40 =>
                  ((0 ≤ n38) ∧
                  n38 < (↑l0.len : Int)) ∧
                  (derefK l0.a (fun i41 => fun i42 => fun h43 =>
                  ∃ s44 : ByteArray, ∃ n45 : Int, ∃ n46 : Int, ∃ n47 : Int, ∃ n48 : Int, ∃ n49 : Int, (h43.read i41 (i42 + n38.toNat * 6) 6 = some [Cell.str s44, Cell.int IntKind.i64 n45, Cell.int IntKind.i64 n46, Cell.int IntKind.i64 n47, Cell.int IntKind.i64 n48, Cell.int IntKind.i64 n49]) ∧
                  ((0 ≤ n35) ∧
                  n35 < (↑l0.len : Int)) ∧
                  (derefK l0.a (fun i50 => fun i51 => fun h52 =>
                  ∃ s53 : ByteArray, ∃ n54 : Int, ∃ n55 : Int, ∃ n56 : Int, ∃ n57 : Int, ∃ n58 : Int, (h52.read i50 (i51 + n35.toNat * 6) 6 = some [Cell.str s53, Cell.int IntKind.i64 n54, Cell.int IntKind.i64 n55, Cell.int IntKind.i64 n56, Cell.int IntKind.i64 n57, Cell.int IntKind.i64 n58]) ∧
                  ((0 ≤ n35) ∧
                  n35 < (↑l0.len : Int)) ∧
                  (derefK l0.a (fun i59 => fun i60 => fun h61 => 
                  (storeK [] i59 (i60 + n35.toNat * 6) [Cell.str s44, Cell.int IntKind.i64 n45, Cell.int IntKind.i64 n46, Cell.int IntKind.i64 n47, Cell.int IntKind.i64 n48, Cell.int IntKind.i64 n49] (fun h62 =>
                  ((0 ≤ n38) ∧
                  n38 < (↑l0.len : Int)) ∧
                  (derefK l0.a (fun i63 => fun i64 => fun h65 => 
                  (storeK [] i63 (i64 + n38.toNat * 6) [Cell.str s53, Cell.int IntKind.i64 n54, Cell.int IntKind.i64 n55, Cell.int IntKind.i64 n56, Cell.int IntKind.i64 n57, Cell.int IntKind.i64 n58] (x31 ((IntKind.i64.wrap (n35 + 1), IntKind.i64.wrap (n38 - 1))))) h65)) h62)) h61)) h52)) h43)) h40)))
              (fun x66 => ifT (decide (n35 ≤ n38))
                (fun h67 =>
                ((0 ≤ n1) ∧
                n1 < (↑l0.len : Int)) ∧
                (derefK l0.a (fun i68 => fun i69 => fun h70 =>
                ∃ s71 : ByteArray, ∃ n72 : Int, ∃ n73 : Int, ∃ n74 : Int, ∃ n75 : Int, ∃ n76 : Int, (h70.read i68 (i69 + n1.toNat * 6) 6 = some [Cell.str s71, Cell.int IntKind.i64 n72, Cell.int IntKind.i64 n73, Cell.int IntKind.i64 n74, Cell.int IntKind.i64 n75, Cell.int IntKind.i64 n76]) ∧
                ((0 ≤ n38) ∧
                n38 < (↑l0.len : Int)) ∧
                (derefK l0.a (fun i77 => fun i78 => fun h79 =>
                ∃ s80 : ByteArray, ∃ n81 : Int, ∃ n82 : Int, ∃ n83 : Int, ∃ n84 : Int, ∃ n85 : Int, (h79.read i77 (i78 + n38.toNat * 6) 6 = some [Cell.str s80, Cell.int IntKind.i64 n81, Cell.int IntKind.i64 n82, Cell.int IntKind.i64 n83, Cell.int IntKind.i64 n84, Cell.int IntKind.i64 n85]) ∧
                (funK p4 (fun i86 => fun cs87 => fun h88 => 
                I i86 (V.agg [Cell.str s71, Cell.int IntKind.i64 n72, Cell.int IntKind.i64 n73, Cell.int IntKind.i64 n74, Cell.int IntKind.i64 n75, Cell.int IntKind.i64 n76] :: V.agg [Cell.str s80, Cell.int IntKind.i64 n81, Cell.int IntKind.i64 n82, Cell.int IntKind.i64 n83, Cell.int IntKind.i64 n84, Cell.int IntKind.i64 n85] :: cs87)
                  (fun cs89 => fun h90 => 
                  ∃ n91 : Int, (cs89 = [V.one (Cell.int IntKind.i64 n91)]) ∧
                  x66 (decide (n91 < 0)) h90) h88)) h79)) h70)) h67)
                (x66 false)))))
        (fun x92 => ifT (decide (n35 ≤ n33))
          (fun h93 =>
          ((0 ≤ n1) ∧
          n1 < (↑l0.len : Int)) ∧
          (derefK l0.a (fun i94 => fun i95 => fun h96 =>
          ∃ s97 : ByteArray, ∃ n98 : Int, ∃ n99 : Int, ∃ n100 : Int, ∃ n101 : Int, ∃ n102 : Int, (h96.read i94 (i95 + n1.toNat * 6) 6 = some [Cell.str s97, Cell.int IntKind.i64 n98, Cell.int IntKind.i64 n99, Cell.int IntKind.i64 n100, Cell.int IntKind.i64 n101, Cell.int IntKind.i64 n102]) ∧
          ((0 ≤ n35) ∧
          n35 < (↑l0.len : Int)) ∧
          (derefK l0.a (fun i103 => fun i104 => fun h105 =>
          ∃ s106 : ByteArray, ∃ n107 : Int, ∃ n108 : Int, ∃ n109 : Int, ∃ n110 : Int, ∃ n111 : Int, (h105.read i103 (i104 + n35.toNat * 6) 6 = some [Cell.str s106, Cell.int IntKind.i64 n107, Cell.int IntKind.i64 n108, Cell.int IntKind.i64 n109, Cell.int IntKind.i64 n110, Cell.int IntKind.i64 n111]) ∧
          (funK p4 (fun i112 => fun cs113 => fun h114 => 
          I i112 (V.agg [Cell.str s97, Cell.int IntKind.i64 n98, Cell.int IntKind.i64 n99, Cell.int IntKind.i64 n100, Cell.int IntKind.i64 n101, Cell.int IntKind.i64 n102] :: V.agg [Cell.str s106, Cell.int IntKind.i64 n107, Cell.int IntKind.i64 n108, Cell.int IntKind.i64 n109, Cell.int IntKind.i64 n110, Cell.int IntKind.i64 n111] :: cs113)
            (fun cs115 => fun h116 => 
            ∃ n117 : Int, (cs115 = [V.one (Cell.int IntKind.i64 n117)]) ∧
            x92 (!decide (n117 < 0)) h116) h114)) h105)) h96)) h93)
          (x92 false)))))) h30)) h27)) h26)) h17)) h8)) h5
theorem den72 (I : FuncId → List V → Post → T) (l0 : Sl) (n1 : Int) (n2 : Int) (n3 : Int) (p4 : Option (Nat × List (Nat × Nat))) (Q : Post) : denF Go.Proofs.Tryz.prog 0 (⟨[(7680, 281472829227008, [(47, tk Go.Proofs.Tryz.prog 4)]), (15392, 73785850394931363840, [(65, tk Go.Proofs.Tryz.prog 4)])], [(60, 618970019642690135302084608, [(11, tk Go.Proofs.Tryz.prog 3), (12, tk Go.Proofs.Tryz.prog 3)]), (960, 1125897759361024, [(11, tk Go.Proofs.Tryz.prog 3)]), (1924, 295146779279445987328, [(12, tk Go.Proofs.Tryz.prog 3)])]⟩) I 72 [V.one (Cell.slice 6 l0), V.one (Cell.int IntKind.i64 n1), V.one (Cell.int IntKind.i64 n2), V.one (Cell.int IntKind.i64 n3), V.one (Cell.func p4)] Q = vc72 I l0 n1 n2 n3 p4 Q := by kernel_rfl
/-- slices.partitionCmpFunc[handbill/api.Row] -/
def vc73 (I : FuncId → List V → Post → T) (l0 : Sl) (n1 : Int) (n2 : Int) (n3 : Int) (p4 : Option (Nat × List (Nat × Nat))) (Q : Post) : T :=
  fun h5 =>
  ((0 ≤ n3) ∧
  n3 < (↑l0.len : Int)) ∧
  (derefK l0.a (fun i6 => fun i7 => fun h8 =>
  ∃ s9 : ByteArray, ∃ n10 : Int, ∃ n11 : Int, ∃ n12 : Int, ∃ n13 : Int, ∃ n14 : Int, (h8.read i6 (i7 + n3.toNat * 6) 6 = some [Cell.str s9, Cell.int IntKind.i64 n10, Cell.int IntKind.i64 n11, Cell.int IntKind.i64 n12, Cell.int IntKind.i64 n13, Cell.int IntKind.i64 n14]) ∧
  ((0 ≤ n1) ∧
  n1 < (↑l0.len : Int)) ∧
  (derefK l0.a (fun i15 => fun i16 => fun h17 =>
  ∃ s18 : ByteArray, ∃ n19 : Int, ∃ n20 : Int, ∃ n21 : Int, ∃ n22 : Int, ∃ n23 : Int, (h17.read i15 (i16 + n1.toNat * 6) 6 = some [Cell.str s18, Cell.int IntKind.i64 n19, Cell.int IntKind.i64 n20, Cell.int IntKind.i64 n21, Cell.int IntKind.i64 n22, Cell.int IntKind.i64 n23]) ∧
  ((0 ≤ n1) ∧
  n1 < (↑l0.len : Int)) ∧
  (derefK l0.a (fun i24 => fun i25 => fun h26 => 
  (storeK [] i24 (i25 + n1.toNat * 6) [Cell.str s9, Cell.int IntKind.i64 n10, Cell.int IntKind.i64 n11, Cell.int IntKind.i64 n12, Cell.int IntKind.i64 n13, Cell.int IntKind.i64 n14] (fun h27 =>
  ((0 ≤ n3) ∧
  n3 < (↑l0.len : Int)) ∧
  (derefK l0.a (fun i28 => fun i29 => fun h30 => 
  (storeK [] i28 (i29 + n3.toNat * 6) [Cell.str s18, Cell.int IntKind.i64 n19, Cell.int IntKind.i64 n20, Cell.int IntKind.i64 n21, Cell.int IntKind.i64 n22, Cell.int IntKind.i64 n23] (loopK (A := Int) (IntKind.i64.wrap (n1 + 1))
    (fun x31 => fun n32 => joinK (A := Bool)
      (fun b33 => ifT b33
        (x31 (IntKind.i64.wrap (n32 + 1)))
        (loopK (A := Int) (IntKind.i64.wrap (n2 - 1))
          (fun x34 => fun n35 => joinK (A := Bool)
            (fun b36 => ifT b36
              (x34 (IntKind.i64.wrap (n35 - 1)))
              (ifT (decide (n32 > n35))
                (fun h37 =>
                ((0 ≤ n1) ∧
                n1 < (↑l0.len : Int)) ∧
                (derefK l0.a (fun i38 => fun i39 => fun h40 =>
                ∃ s41 : ByteArray, ∃ n42 : Int, ∃ n43 : Int, ∃ n44 : Int, ∃ n45 : Int, ∃ n46 : Int, (h40.read i38 (i39 + n1.toNat * 6) 6 = some [Cell.str s41, Cell.int IntKind.i64 n42, Cell.int IntKind.i64 n43, Cell.int IntKind.i64 n44, Cell.int IntKind.i64 n45, Cell.int IntKind.i64 n46]) ∧
                ((0 ≤ n35) ∧
                n35 < (↑l0.len : Int)) ∧
                (derefK l0.a (fun i47 => fun i48 => fun h49 =>
                ∃ s50 : ByteArray, ∃ n51 : Int, ∃ n52 : Int, ∃ n53 : Int, ∃ n54 : Int, ∃ n55 : Int, (h49.read i47 (i48 + n35.toNat * 6) 6 = some [Cell.str s50, Cell.int IntKind.i64 n51, Cell.int IntKind.i64 n52, Cell.int IntKind.i64 n53, Cell.int IntKind.i64 n54, Cell.int IntKind.i64 n55]) ∧
                ((0 ≤ n35) ∧
                n35 < (↑l0.len : Int)) ∧
                (derefK l0.a (fun i56 => fun i57 => fun h58 => 
                (storeK [] i56 (i57 + n35.toNat * 6) [Cell.str s41, Cell.int IntKind.i64 n42, Cell.int IntKind.i64 n43, Cell.int IntKind.i64 n44, Cell.int IntKind.i64 n45, Cell.int IntKind.i64 n46] (fun h59 =>
                ((0 ≤ n1) ∧
                n1 < (↑l0.len : Int)) ∧
                (derefK l0.a (fun i60 => fun i61 => fun h62 => 
                (storeK [] i60 (i61 + n1.toNat * 6) [Cell.str s50, Cell.int IntKind.i64 n51, Cell.int IntKind.i64 n52, Cell.int IntKind.i64 n53, Cell.int IntKind.i64 n54, Cell.int IntKind.i64 n55] (Q [V.one (Cell.int IntKind.i64 n35), V.one (Cell.bool true)])) h62)) h59)) h58)) h49)) h40)) h37)
                (fun h63 =>
                ((0 ≤ n35) ∧
                n35 < (↑l0.len : Int)) ∧
                (derefK l0.a (fun i64 => fun i65 => fun h66 =>
                ∃ s67 : ByteArray, ∃ n68 : Int, ∃ n69 : Int, ∃ n70 : Int, ∃ n71 : Int, ∃ n72 : Int, (h66.read i64 (i65 + n35.toNat * 6) 6 = some [Cell.str s67, Cell.int IntKind.i64 n68, Cell.int IntKind.i64 n69, Cell.int IntKind.i64 n70, Cell.int IntKind.i64 n71, Cell.int IntKind.i64 n72]) ∧
                ((0 ≤ n32) ∧
                n32 < (↑l0.len : Int)) ∧
                (derefK l0.a (fun i73 => fun i74 => fun h75 =>
                ∃ s76 : ByteArray, ∃ n77 : Int, ∃ n78 : Int, ∃ n79 : Int, ∃ n80 : Int, ∃ n81 : Int, (h75.read i73 (i74 + n32.toNat * 6) 6 = some [Cell.str s76, Cell.int IntKind.i64 n77, Cell.int IntKind.i64 n78, Cell.int IntKind.i64 n79, Cell.int IntKind.i64 n80, Cell.int IntKind.i64 n81]) ∧
                ((0 ≤ n32) ∧
                n32 < (↑l0.len : Int)) ∧
                (derefK l0.a (fun i82 => fun i83 => fun h84 => 
                (storeK [] i82 (i83 + n32.toNat * 6) [Cell.str s67, Cell.int IntKind.i64 n68, Cell.int IntKind.i64 n69, Cell.int IntKind.i64 n70, Cell.int IntKind.i64 n71, Cell.int IntKind.i64 n72] (fun h85 =>
                ((0 ≤ n35) ∧
                n35 < (↑l0.len : Int)) ∧
                (derefK l0.a (fun i86 => fun i87 => fun h88 => 
                (storeK [] i86 (i87 + n35.toNat * 6) [Cell.str s76, Cell.int IntKind.i64 n77, Cell.int IntKind.i64 n78, Cell.int IntKind.i64 n79, Cell.int IntKind.i64 n80, Cell.int IntKind.i64 n81] (loopK (A := Int × Int) ((IntKind.i64.wrap (n32 + 1), IntKind.i64.wrap (n35 - 1)))
                  (fun x89 => uncur fun n90 n91 => loopK (A := Int) n90
                    (fun x92 => fun n93 => joinK (A := Bool)
                      (fun b94 => ifT b94
                        (x92 (IntKind.i64.wrap (n93 + 1)))
                        (loopK (A := Int) n91
                          (fun x95 => fun n96 => joinK (A := Bool)
                            (fun b97 => ifT b97
                              (x95 (IntKind.i64.wrap (n96 - 1)))
                              (ifT (decide (n93 > n96))
                                (fun h98 =>
                                ((0 ≤ n1) ∧
                                n1 < (↑l0.len : Int)) ∧
                                (derefK l0.a (fun i99 => fun i100 => fun h101 =>
                                ∃ s102 : ByteArray, ∃ n103 : Int, ∃ n104 : Int, ∃ n105 : Int, ∃ n106 : Int, ∃ n107 : Int, (h101.read i99 (i100 + n1.toNat * 6) 6 = some [Cell.str s102, Cell.int IntKind.i64 n103, Cell.int IntKind.i64 n104, Cell.int IntKind.i64 n105, Cell.int IntKind.i64 n106, Cell.int IntKind.i64 n107]) ∧
                                ((0 ≤ n96) ∧
                                n96 < (↑l0.len : Int)) ∧
                                (derefK l0.a (fun i108 => fun i109 => fun h110 =>
                                ∃ s111 : ByteArray, ∃ n112 : Int, ∃ n113 : Int, ∃ n114 : Int, ∃ n115 : Int, ∃ n116 : Int, (h110.read i108 (i109 + n96.toNat * 6) 6 = some [Cell.str s111, Cell.int IntKind.i64 n112, Cell.int IntKind.i64 n113, Cell.int IntKind.i64 n114, Cell.int IntKind.i64 n115, Cell.int IntKind.i64 n116]) ∧
                                ((0 ≤ n96) ∧
                                n96 < (↑l0.len : Int)) ∧
                                (derefK l0.a (fun i117 => fun i118 => fun h119 => 
                                (storeK [] i117 (i118 + n96.toNat * 6) [Cell.str s102, Cell.int IntKind.i64 n103, Cell.int IntKind.i64 n104, Cell.int IntKind.i64 n105, Cell.int IntKind.i64 n106, Cell.int IntKind.i64 n107] (fun h120 =>
                                ((0 ≤ n1) ∧
                                n1 < (↑l0.len : Int)) ∧
                                (derefK l0.a (fun i121 => fun i122 => fun h123 => 
                                (storeK [] i121 (i122 + n1.toNat * 6) [Cell.str s111, Cell.int IntKind.i64 n112, Cell.int IntKind.i64 n113, Cell.int IntKind.i64 n114, Cell.int IntKind.i64 n115, Cell.int IntKind.i64 n116] (Q [V.one (Cell.int IntKind.i64 n96), V.one (Cell.bool false)])) h123)) h120)) h119)) h110)) h101)) h98)
                                (fun h124 =>
                                ((0 ≤ n96) ∧
                                n96 < (↑l0.len : Int)) ∧
                                (derefK l0.a (fun i125 => fun i126 => fun h127 =>
                                ∃ s128 : ByteArray, ∃ n129 : Int, ∃ n130 : Int, ∃ n131 : Int, ∃ n132 : Int, ∃ n133 : Int, (h127.read i125 (i126 + n96.toNat * 6) 6 = some [Cell.str s128, Cell.int IntKind.i64 n129, Cell.int IntKind.i64 n130, Cell.int IntKind.i64 n131, Cell.int IntKind.i64 n132, Cell.int IntKind.i64 n133]) ∧
                                ((0 ≤ n93) ∧
                                n93 < (↑l0.len : Int)) ∧
                                (derefK l0.a (fun i134 => fun i135 => fun h136 =>
                                ∃ s137 : ByteArray, ∃ n138 : Int, ∃ n139 : Int, ∃ n140 : Int, ∃ n141 : Int, ∃ n142 : Int, (h136.read i134 (i135 + n93.toNat * 6) 6 = some [Cell.str s137, Cell.int IntKind.i64 n138, Cell.int IntKind.i64 n139, Cell.int IntKind.i64 n140, Cell.int IntKind.i64 n141, Cell.int IntKind.i64 n142]) ∧
                                ((0 ≤ n93) ∧
                                n93 < (↑l0.len : Int)) ∧
                                (derefK l0.a (fun i143 => fun i144 => fun h145 => 
                                (storeK [] i143 (i144 + n93.toNat * 6) [Cell.str s128, Cell.int IntKind.i64 n129, Cell.int IntKind.i64 n130, Cell.int IntKind.i64 n131, Cell.int IntKind.i64 n132, Cell.int IntKind.i64 n133] (fun h146 =>
                                ((0 ≤ n96) ∧
                                n96 < (↑l0.len : Int)) ∧
                                (derefK l0.a (fun i147 => fun i148 => fun h149 => 
                                (storeK [] i147 (i148 + n96.toNat * 6) [Cell.str s137, Cell.int IntKind.i64 n138, Cell.int IntKind.i64 n139, Cell.int IntKind.i64 n140, Cell.int IntKind.i64 n141, Cell.int IntKind.i64 n142] (x89 ((IntKind.i64.wrap (n93 + 1), IntKind.i64.wrap (n96 - 1))))) h149)) h146)) h145)) h136)) h127)) h124)))
                            (fun x150 => ifT (decide (n93 ≤ n96))
                              (fun h151 =>
                              ((0 ≤ n96) ∧
                              n96 < (↑l0.len : Int)) ∧
                              (derefK l0.a (fun i152 => fun i153 => fun h154 =>
                              ∃ s155 : ByteArray, ∃ n156 : Int, ∃ n157 : Int, ∃ n158 : Int, ∃ n159 : Int, ∃ n160 : Int, (h154.read i152 (i153 + n96.toNat * 6) 6 = some [Cell.str s155, Cell.int IntKind.i64 n156, Cell.int IntKind.i64 n157, Cell.int IntKind.i64 n158, Cell.int IntKind.i64 n159, Cell.int IntKind.i64 n160]) ∧
                              ((0 ≤ n1) ∧
                              n1 < (↑l0.len : Int)) ∧
                              (derefK l0.a (fun i161 => fun i162 => fun h163 =>
                              ∃ s164 : ByteArray, ∃ n165 : Int, ∃ n166 : Int, ∃ n167 : Int, ∃ n168 : Int, ∃ n169 : Int, (h163.read i161 (i162 + n1.toNat * 6) 6 = some [Cell.str s164, Cell.int IntKind.i64 n165, Cell.int IntKind.i64 n166, Cell.int IntKind.i64 n167, Cell.int IntKind.i64 n168, Cell.int IntKind.i64 n169]) ∧
                              (funK p4 (fun i170 => fun cs171 => fun h172 => 
                              I i170 (V.agg [Cell.str s155, Cell.int IntKind.i64 n156, Cell.int IntKind.i64 n157, Cell.int IntKind.i64 n158, Cell.int IntKind.i64 n159, Cell.int IntKind.i64 n160] :: V.agg [Cell.str s164, Cell.int IntKind.i64 n165, Cell.int IntKind.i64 n166, Cell.int IntKind.i64 n167, Cell.int IntKind.i64 n168, Cell.int IntKind.i64 n169] :: cs171)
                                (fun cs173 => fun h174 => 
                                ∃ n175 : Int, (cs173 = [V.one (Cell.int IntKind.i64 n175)]) ∧
                                x150 (!decide (n175 < 0)) h174) h172)) h163)) h154)) h151)
                              (x150 false)))))
                      (fun x176 => ifT (decide (n93 ≤ n91))
                        (fun h177 =>
                        ((0 ≤ n93) ∧
                        n93 < (↑l0.len : Int)) ∧
                        (derefK l0.a (fun i178 => fun i179 => fun h180 =>
                        ∃ s181 : ByteArray, ∃ n182 : Int, ∃ n183 : Int, ∃ n184 : Int, ∃ n185 : Int, ∃ n186 : Int, (h180.read i178 (i179 + n93.toNat * 6) 6 = some [Cell.str s181, Cell.int IntKind.i64 n182, Cell.int IntKind.i64 n183, Cell.int IntKind.i64 n184, Cell.int IntKind.i64 n185, Cell.int IntKind.i64 n186]) ∧
                        ((0 ≤ n1) ∧
                        n1 < (↑l0.len : Int)) ∧
                        (derefK l0.a (fun i187 => fun i188 => fun h189 =>
                        ∃ s190 : ByteArray, ∃ n191 : Int, ∃ n192 : Int, ∃ n193 : Int, ∃ n194 : Int, ∃ n195 : Int, (h189.read i187 (i188 + n1.toNat * 6) 6 = some [Cell.str s190, Cell.int IntKind.i64 n191, Cell.int IntKind.i64 n192, Cell.int IntKind.i64 n193, Cell.int IntKind.i64 n194, Cell.int IntKind.i64 n195]) ∧
                        (funK p4 (fun i196 => fun cs197 => fun h198 => 
                        I i196 (V.agg [Cell.str s181, Cell.int IntKind.i64 n182, Cell.int IntKind.i64 n183, Cell.int IntKind.i64 n184, Cell.int IntKind.i64 n185, Cell.int IntKind.i64 n186] :: V.agg [Cell.str s190, Cell.int IntKind.i64 n191, Cell.int IntKind.i64 n192, Cell.int IntKind.i64 n193, Cell.int IntKind.i64 n194, Cell.int IntKind.i64 n195] :: cs197)
                          (fun cs199 => fun h200 => 
                          ∃ n201 : Int, (cs199 = [V.one (Cell.int IntKind.i64 n201)]) ∧
                          x176 (decide (n201 < 0)) h200) h198)) h189)) h180)) h177)
                        (x176 false)))))) h88)) h85)) h84)) h75)) h66)) h63)))
            (fun x202 => ifT (decide (n32 ≤ n35))
              (fun h203 =>
              ((0 ≤ n35) ∧
              n35 < (↑l0.len : Int)) ∧
              (derefK l0.a (fun i204 => fun i205 => fun h206 =>
              ∃ s207 : ByteArray, ∃ n208 : Int, ∃ n209 : Int, ∃ n210 : Int, ∃ n211 : Int, ∃ n212 : Int, (h206.read i204 (i205 + n35.toNat * 6) 6 = some [Cell.str s207, Cell.int IntKind.i64 n208, Cell.int IntKind.i64 n209, Cell.int IntKind.i64 n210, Cell.int IntKind.i64 n211, Cell.int IntKind.i64 n212]) ∧
              ((0 ≤ n1) ∧
              n1 < (↑l0.len : Int)) ∧
              (derefK l0.a (fun i213 => fun i214 => fun h215 =>
              ∃ s216 : ByteArray, ∃ n217 : Int, ∃ n218 : Int, ∃ n219 : Int, ∃ n220 : Int, ∃ n221 : Int, (h215.read i213 (i214 + n1.toNat * 6) 6 = some [Cell.str s216, Cell.int IntKind.i64 n217, Cell.int IntKind.i64 n218, Cell.int IntKind.i64 n219, Cell.int IntKind.i64 n220, Cell.int IntKind.i64 n221]) ∧
              (funK p4 (fun i222 => fun cs223 => fun h224 => 
              I i222 (V.agg [Cell.str s207, Cell.int IntKind.i64 n208, Cell.int IntKind.i64 n209, Cell.int IntKind.i64 n210, Cell.int IntKind.i64 n211, Cell.int IntKind.i64 n212] :: V.agg [Cell.str s216, Cell.int IntKind.i64 n217, Cell.int IntKind.i64 n218, Cell.int IntKind.i64 n219, Cell.int IntKind.i64 n220, Cell.int IntKind.i64 n221] :: cs223)
                (fun cs225 => fun h226 => 
                ∃ n227 : Int, (cs225 = [V.one (Cell.int IntKind.i64 n227)]) ∧
                x202 (!decide (n227 < 0)) h226) h224)) h215)) h206)) h203)
              (x202 false)))))
      (fun x228 => ifT (decide (n32 ≤ IntKind.i64.wrap (n2 - 1)))
        (fun h229 =>
        ((0 ≤ n32) ∧
        n32 < (↑l0.len : Int)) ∧
        (derefK l0.a (fun i230 => fun i231 => fun h232 =>
        ∃ s233 : ByteArray, ∃ n234 : Int, ∃ n235 : Int, ∃ n236 : Int, ∃ n237 : Int, ∃ n238 : Int, (h232.read i230 (i231 + n32.toNat * 6) 6 = some [Cell.str s233, Cell.int IntKind.i64 n234, Cell.int IntKind.i64 n235, Cell.int IntKind.i64 n236, Cell.int IntKind.i64 n237, Cell.int IntKind.i64 n238]) ∧
        ((0 ≤ n1) ∧
        n1 < (↑l0.len : Int)) ∧
        (derefK l0.a (fun i239 => fun i240 => fun h241 =>
        ∃ s242 : ByteArray, ∃ n243 : Int, ∃ n244 : Int, ∃ n245 : Int, ∃ n246 : Int, ∃ n247 : Int, (h241.read i239 (i240 + n1.toNat * 6) 6 = some [Cell.str s242, Cell.int IntKind.i64 n243, Cell.int IntKind.i64 n244, Cell.int IntKind.i64 n245, Cell.int IntKind.i64 n246, Cell.int IntKind.i64 n247]) ∧
        (funK p4 (fun i248 => fun cs249 => fun h250 => 
        I i248 (V.agg [Cell.str s233, Cell.int IntKind.i64 n234, Cell.int IntKind.i64 n235, Cell.int IntKind.i64 n236, Cell.int IntKind.i64 n237, Cell.int IntKind.i64 n238] :: V.agg [Cell.str s242, Cell.int IntKind.i64 n243, Cell.int IntKind.i64 n244, Cell.int IntKind.i64 n245, Cell.int IntKind.i64 n246, Cell.int IntKind.i64 n247] :: cs249)
          (fun cs251 => fun h252 => 
          ∃ n253 : Int, (cs251 = [V.one (Cell.int IntKind.i64 n253)]) ∧
          x228 (decide (n253 < 0)) h252) h250)) h241)) h232)) h229)
        (x228 false))))) h30)) h27)) h26)) h17)) h8)) h5
theorem den73 (I : FuncId → List V → Post → T) (l0 : Sl) (n1 : Int) (n2 : Int) (n3 : Int) (p4 : Option (Nat × List (Nat × Nat))) (Q : Post) : denF Go.Proofs.Tryz.prog 0 (⟨[(480, 281470681743360, [(47, tk Go.Proofs.Tryz.prog 4)]), (992, 147572826689769570304, [(66, tk Go.Proofs.Tryz.prog 4)]), (523776, 2658415426750624442466766226058117120, [(120, tk Go.Proofs.Tryz.prog 4)]), (1047584, 1393785941084197667018999161584040351367168, [(139, tk Go.Proofs.Tryz.prog 4)])], [(60, 1125895611879424, [(12, tk Go.Proofs.Tryz.prog 3)]), (124, 590294684458798817280, [(13, tk Go.Proofs.Tryz.prog 3)]), (4092, 11692013098647223305064659454426923309352957784064, [(12, tk Go.Proofs.Tryz.prog 3), (13, tk Go.Proofs.Tryz.prog 3)]), (65472, 10633783401460119679889608587740188672, [(12, tk Go.Proofs.Tryz.prog 3)]), (130948, 5575175665808689506056946337705608133746688, [(13, tk Go.Proofs.Tryz.prog 3)])]⟩) I 73 [V.one (Cell.slice 6 l0), V.one (Cell.int IntKind.i64 n1), V.one (Cell.int IntKind.i64 n2), V.one (Cell.int IntKind.i64 n3), V.one (Cell.func p4)] Q = vc73 I l0 n1 n2 n3 p4 Q := by kernel_rfl
/-- handbill/handref1.StepsOf$3 -/
def vc37 (I : FuncId → List V → Post → T) (s0 : ByteArray) (n1 : Int) (n2 : Int) (n3 : Int) (n4 : Int) (n5 : Int) (s6 : ByteArray) (n7 : Int) (n8 : Int) (n9 : Int) (n10 : Int) (n11 : Int) (Q : Post) : T :=
  fun h12 =>
  I 38 [V.one (Cell.str s0), V.one (Cell.str s6)]
    (fun cs13 => fun h14 => 
    ∃ n15 : Int, (cs13 = [V.one (Cell.int IntKind.i64 n15)]) ∧
    Q [V.one (Cell.int IntKind.i64 n15)] h14) h12
theorem den37 (I : FuncId → List V → Post → T) (s0 : ByteArray) (n1 : Int) (n2 : Int) (n3 : Int) (n4 : Int) (n5 : Int) (s6 : ByteArray) (n7 : Int) (n8 : Int) (n9 : Int) (n10 : Int) (n11 : Int) (Q : Post) : denF Go.Proofs.Tryz.prog 12 (⟨[], []⟩) I 37 [V.agg [Cell.str s0, Cell.int IntKind.i64 n1, Cell.int IntKind.i64 n2, Cell.int IntKind.i64 n3, Cell.int IntKind.i64 n4, Cell.int IntKind.i64 n5], V.agg [Cell.str s6, Cell.int IntKind.i64 n7, Cell.int IntKind.i64 n8, Cell.int IntKind.i64 n9, Cell.int IntKind.i64 n10, Cell.int IntKind.i64 n11]] Q = vc37 I s0 n1 n2 n3 n4 n5 s6 n7 n8 n9 n10 n11 Q := by kernel_rfl
/-- strings.Compare -/
def vc38 (I : FuncId → List V → Post → T) (s0 : ByteArray) (s1 : ByteArray) (Q : Post) : T :=
  fun h2 =>
  I 54 [V.one (Cell.str s0), V.one (Cell.str s1)]
    (fun cs3 => fun h4 => 
    ∃ n5 : Int, (cs3 = [V.one (Cell.int IntKind.i64 n5)]) ∧
    Q [V.one (Cell.int IntKind.i64 n5)] h4) h2
theorem den38 (I : FuncId → List V → Post → T) (s0 : ByteArray) (s1 : ByteArray) (Q : Post) : denF Go.Proofs.Tryz.prog 0 (⟨[], []⟩) I 38 [V.one (Cell.str s0), V.one (Cell.str s1)] Q = vc38 I s0 s1 Q := by kernel_rfl
/-- internal/bytealg.CompareString -/
def vc54 (I : FuncId → List V → Post → T) (s0 : ByteArray) (s1 : ByteArray) (Q : Post) : T :=
  fun h2 =>
  I 76 [V.one (Cell.str s0), V.one (Cell.str s1)]
    (fun cs3 => fun h4 => 
    ∃ n5 : Int, (cs3 = [V.one (Cell.int IntKind.i64 n5)]) ∧
    Q [V.one (Cell.int IntKind.i64 n5)] h4) h2
theorem den54 (I : FuncId → List V → Post → T) (s0 : ByteArray) (s1 : ByteArray) (Q : Post) : denF Go.Proofs.Tryz.prog 0 (⟨[], []⟩) I 54 [V.one (Cell.str s0), V.one (Cell.str s1)] Q = vc54 I s0 s1 Q := by kernel_rfl
/-- slices.Equal[[]handbill/api.Row,handbill/api.Row] -/
def vc9 (I : FuncId → List V → Post → T) (l0 : Sl) (l1 : Sl) (Q : Post) : T :=
  ifT (!decide ((↑l0.len : Int) = (↑l1.len : Int)))
    (Q [V.one (Cell.bool false)])
    (loopK (A := Int) 0
      (fun x2 => fun n3 => ifT (decide (n3 < (↑l0.len : Int)))
        (fun h4 =>
        ((0 ≤ n3) ∧
        n3 < (↑l0.len : Int)) ∧
        (derefK l0.a (fun i5 => fun i6 => fun h7 =>
        ∃ s8 : ByteArray, ∃ n9 : Int, ∃ n10 : Int, ∃ n11 : Int, ∃ n12 : Int, ∃ n13 : Int, (h7.read i5 (i6 + n3.toNat * 6) 6 = some [Cell.str s8, Cell.int IntKind.i64 n9, Cell.int IntKind.i64 n10, Cell.int IntKind.i64 n11, Cell.int IntKind.i64 n12, Cell.int IntKind.i64 n13]) ∧
        ((0 ≤ n3) ∧
        n3 < (↑l1.len : Int)) ∧
        (derefK l1.a (fun i14 => fun i15 => fun h16 =>
        ∃ s17 : ByteArray, ∃ n18 : Int, ∃ n19 : Int, ∃ n20 : Int, ∃ n21 : Int, ∃ n22 : Int, (h16.read i14 (i15 + n3.toNat * 6) 6 = some [Cell.str s17, Cell.int IntKind.i64 n18, Cell.int IntKind.i64 n19, Cell.int IntKind.i64 n20, Cell.int IntKind.i64 n21, Cell.int IntKind.i64 n22]) ∧
        (ifT (!(decide (s8 = s17) && (decide (n9 = n18) && (decide (n10 = n19) && (decide (n11 = n20) && (decide (n12 = n21) && decide (n13 = n22)))))))
          (Q [V.one (Cell.bool false)])
          (x2 (IntKind.i64.wrap (n3 + 1)))) h16)) h7)) h4)
        (Q [V.one (Cell.bool true)])))
theorem den9 (I : FuncId → List V → Post → T) (l0 : Sl) (l1 : Sl) (Q : Post) : denF Go.Proofs.Tryz.prog 0 (⟨[], [(58, 67100720, [(13, tk Go.Proofs.Tryz.prog 3)])]⟩) I 9 [V.one (Cell.slice 6 l0), V.one (Cell.slice 6 l1)] Q = vc9 I l0 l1 Q := by kernel_rfl
/-- handbill/measure.Cohorts -/
def vc10 (I : FuncId → List V → Post → T) (l0 : Sl) (n1 : Int) (n2 : Int) (Q : Post) : T :=
  fun h3 =>
  I 39 [V.one (Cell.slice 3 l0)]
    (fun cs4 => fun h5 => 
    ∃ n6 : Int, (cs4 = [V.one (Cell.int IntKind.i64 n6)]) ∧
    (ifT (!decide (n6 = 0))
      (Q [V.one (Cell.slice 1 { a := none, len := 0 }), V.one (Cell.int IntKind.i64 n6)])
      (joinK (A := Bool)
        (fun b7 => ifT b7
          (Q [V.one (Cell.slice 1 { a := none, len := 0 }), V.one (Cell.int IntKind.i64 1)])
          (fun h8 =>
          (newK (.map []) (fun i9 => loopK (A := Int) 0
            (fun x10 => fun n11 => ifT (decide (n11 < (↑l0.len : Int)))
              (fun h12 =>
              ((0 ≤ n11) ∧
              n11 < (↑l0.len : Int)) ∧
              (derefK l0.a (fun i13 => fun i14 => fun h15 =>
              ∃ s16 : ByteArray, ∃ n17 : Int, ∃ n18 : Int, (h15.read i13 (i14 + n11.toNat * 3) 3 = some [Cell.str s16, Cell.int IntKind.i64 n17, Cell.int IntKind.i64 n18]) ∧
              (n1 ≠ 0) ∧
              ∃ n19 : Int, ∃ b20 : Bool, (∃ cs21 : List (V × V), (mapOf h15 (some i9) = some cs21) ∧
              mapGet (V.one (Cell.str s16)) (V.one (Cell.int IntKind.i64 0)) cs21 = some (V.one (Cell.int IntKind.i64 n19), b20)) ∧
              (ifT (!b20)
                (fun h22 =>
                (mapK [] (some i9) (V.one (Cell.str s16)) (V.one (Cell.int IntKind.i64 (IntKind.i64.wrap (n18.tdiv n1)))) (x10 (IntKind.i64.wrap (n11 + 1)))) h22)
                (ifT (decide (IntKind.i64.wrap (n18.tdiv n1) < n19))
                  (fun h23 =>
                  (mapK [] (some i9) (V.one (Cell.str s16)) (V.one (Cell.int IntKind.i64 (IntKind.i64.wrap (n18.tdiv n1)))) (x10 (IntKind.i64.wrap (n11 + 1)))) h23)
                  (x10 (IntKind.i64.wrap (n11 + 1))))) h15)) h12)
              (fun h24 =>
              (true = true) ∧
              (0 ≤ n2) ∧
              (n2 ≤ n2) ∧
              (n2 * (↑24 : Int) ≤ 140737488355328) ∧
              (newK (.cells false (slCells (VK.one (Kd.slice 1)) n2.toNat)) (fun i25 => loopK (A := Int) 0
                (fun x26 => fun n27 => ifT (decide (n27 < (↑n2.toNat : Int)))
                  (fun h28 =>
                  (true = true) ∧
                  (0 ≤ n2) ∧
                  (n2 ≤ n2) ∧
                  (n2 * (↑8 : Int) ≤ 140737488355328) ∧
                  (newK (.cells false (slCells (VK.one (Kd.int IntKind.i64)) n2.toNat)) (fun i29 => fun h30 => 
                  ((0 ≤ n27) ∧
                  n27 < (↑n2.toNat : Int)) ∧
                  (storeK [] i25 (0 + n27.toNat * 1) [Cell.slice 1 { a := some (i29, 0), len := n2.toNat }] (x26 (IntKind.i64.wrap (n27 + 1)))) h30)) h28)
                  (fun h31 =>
                  (newK (.map []) (fun i32 => loopK (A := Int) 0
                    (fun x33 => fun n34 => ifT (decide (n34 < (↑l0.len : Int)))
                      (fun h35 =>
                      ((0 ≤ n34) ∧
                      n34 < (↑l0.len : Int)) ∧
                      (derefK l0.a (fun i36 => fun i37 => fun h38 =>
                      ∃ s39 : ByteArray, ∃ n40 : Int, ∃ n41 : Int, (h38.read i36 (i37 + n34.toNat * 3) 3 = some [Cell.str s39, Cell.int IntKind.i64 n40, Cell.int IntKind.i64 n41]) ∧
                      (n1 ≠ 0) ∧
                      ∃ n42 : Int, ∃ b43 : Bool, (∃ cs44 : List (V × V), (mapOf h38 (some i9) = some cs44) ∧
                      mapGet (V.one (Cell.str s39)) (V.one (Cell.int IntKind.i64 0)) cs44 = some (V.one (Cell.int IntKind.i64 n42), b43)) ∧
                      (joinK (A := Bool)
                        (fun b45 => ifT b45
                          (x33 (IntKind.i64.wrap (n34 + 1)))
                          (fun h46 =>
                          (mapK [] (some i32) (V.agg [Cell.str s39, Cell.int IntKind.i64 (IntKind.i64.wrap (n41.tdiv n1))]) (V.one (Cell.bool true)) (fun h47 =>
                          ((0 ≤ n42) ∧
                          n42 < (↑n2.toNat : Int)) ∧
                          ∃ l48 : Sl, (h47.read i25 (0 + n42.toNat * 1) 1 = some [Cell.slice 1 l48]) ∧
                          ((0 ≤ IntKind.i64.wrap (IntKind.i64.wrap (n41.tdiv n1) - n42)) ∧
                          IntKind.i64.wrap (IntKind.i64.wrap (n41.tdiv n1) - n42) < (↑l48.len : Int)) ∧
                          (derefK l48.a (fun i49 => fun i50 => fun h51 =>
                          ∃ n52 : Int, (h51.read i49 (i50 + (IntKind.i64.wrap (IntKind.i64.wrap (n41.tdiv n1) - n42)).toNat * 1) 1 = some [Cell.int IntKind.i64 n52]) ∧
                          ((0 ≤ IntKind.i64.wrap (IntKind.i64.wrap (n41.tdiv n1) - n42)) ∧
                          IntKind.i64.wrap (IntKind.i64.wrap (n41.tdiv n1) - n42) < (↑l48.len : Int)) ∧
                          (derefK l48.a (fun i53 => fun i54 => fun h55 => 
                          (storeK [] i53 (i54 + (IntKind.i64.wrap (IntKind.i64.wrap (n41.tdiv n1) - n42)).toNat * 1) [Cell.int IntKind.i64 (IntKind.i64.wrap (n52 + 1))] (x33 (IntKind.i64.wrap (n34 + 1)))) h55)) h51)) h47)) h46))
                        (fun x56 => fun h57 => 
                        ∃ b58 : Bool, ∃ b59 : Bool, (∃ cs60 : List (V × V), (mapOf h57 (some i32) = some cs60) ∧
                        mapGet (V.agg [Cell.str s39, Cell.int IntKind.i64 (IntKind.i64.wrap (n41.tdiv n1))]) (V.one (Cell.bool false)) cs60 = some (V.one (Cell.bool b58), b59)) ∧
                        (ifT b58
                          (x56 true)
                          (ifT (decide (n42 ≥ n2))
                            (x56 true)
                            (x56 (decide (IntKind.i64.wrap (IntKind.i64.wrap (n41.tdiv n1) - n42) ≥ n2))))) h57)) h38)) h35)
                      (Q [V.one (Cell.slice 1 { a := some (i25, 0), len := n2.toNat }), V.one (Cell.int IntKind.i64 0)])))) h31)))) h24)))) h8))
        (fun x61 => fun h62 => 
        I 25 [V.one (Cell.int IntKind.i64 n1), V.one (Cell.int IntKind.i64 1), V.one (Cell.int IntKind.i64 4321440)]
          (fun cs63 => fun h64 => 
          ∃ b65 : Bool, (cs63 = [V.one (Cell.bool b65)]) ∧
          (ifT (!b65)
            (x61 true)
            (fun h66 =>
            I 25 [V.one (Cell.int IntKind.i64 n2), V.one (Cell.int IntKind.i64 1), V.one (Cell.int IntKind.i64 60)]
              (fun cs67 => fun h68 => 
              ∃ b69 : Bool, (cs67 = [V.one (Cell.bool b69)]) ∧
              x61 (!b69) h68) h66)) h64) h62))) h5) h3
theorem den10 (I : FuncId → List V → Post → T) (l0 : Sl) (n1 : Int) (n2 : Int) (Q : Post) : denF Go.Proofs.Tryz.prog 1574912 (⟨[(28, 34225520640, [(34, tk Go.Proofs.Tryz.prog 4)]), (4188572, 5192217630372313364192902785269760, [(111, tk Go.Proofs.Tryz.prog 4)])], [(250, 36893487872541227008, [(38, tk Go.Proofs.Tryz.prog 3)]), (1018, 301641159093298588090368, [(69, tk Go.Proofs.Tryz.prog 3)]), (4090, 170141183460466813880048074457538363392, [(81, tk Go.Proofs.Tryz.prog 3)])]⟩) I 10 [V.one (Cell.slice 3 l0), V.one (Cell.int IntKind.i64 n1), V.one (Cell.int IntKind.i64 n2)] Q = vc10 I l0 n1 n2 Q := by kernel_rfl
/-- handbill/measure.checkActs -/
def vc39 (I : FuncId → List V → Post → T) (l0 : Sl) (Q : Post) : T :=
  ifT (decide ((↑l0.len : Int) > 5000))
    (Q [V.one (Cell.int IntKind.i64 2)])
    (loopK (A := Int) 0
      (fun x1 => fun n2 => ifT (decide (n2 < (↑l0.len : Int)))
        (fun h3 =>
        ((0 ≤ n2) ∧
        n2 < (↑l0.len : Int)) ∧
        (derefK l0.a (fun i4 => fun i5 => fun h6 =>
        ∃ s7 : ByteArray, ∃ n8 : Int, ∃ n9 : Int, (h6.read i4 (i5 + n2.toNat * 3) 3 = some [Cell.str s7, Cell.int IntKind.i64 n8, Cell.int IntKind.i64 n9]) ∧
        I 44 [V.one (Cell.str s7)]
          (fun cs10 => fun h11 => 
          ∃ b12 : Bool, (cs10 = [V.one (Cell.bool b12)]) ∧
          (ifT (!b12)
            (Q [V.one (Cell.int IntKind.i64 5)])
            (fun h13 =>
            I 23 [V.one (Cell.int IntKind.i64 n8)]
              (fun cs14 => fun h15 => 
              ∃ b16 : Bool, (cs14 = [V.one (Cell.bool b16)]) ∧
              (ifT (!b16)
                (Q [V.one (Cell.int IntKind.i64 4)])
                (fun h17 =>
                I 24 [V.one (Cell.int IntKind.i64 n9)]
                  (fun cs18 => fun h19 => 
                  ∃ b20 : Bool, (cs18 = [V.one (Cell.bool b20)]) ∧
                  (ifT (!b20)
                    (Q [V.one (Cell.int IntKind.i64 1)])
                    (x1 (IntKind.i64.wrap (n2 + 1)))) h19) h17)) h15) h13)) h11) h6)) h3)
        (Q [V.one (Cell.int IntKind.i64 0)])))
theorem den39 (I : FuncId → List V → Post → T) (l0 : Sl) (Q : Post) : denF Go.Proofs.Tryz.prog 16 (⟨[], [(58, 1073740820, [(10, tk Go.Proofs.Tryz.prog 3)])]⟩) I 39 [V.one (Cell.slice 3 l0)] Q = vc39 I l0 Q := by kernel_rfl
/-- handbill/handref1.CohortsOf -/
def vc11 (I : FuncId → List V → Post → T) (l0 : Sl) (n1 : Int) (n2 : Int) (Q : Post) : T :=
  fun h3 =>
  I 40 [V.one (Cell.slice 3 l0)]
    (fun cs4 => fun h5 => 
    ∃ n6 : Int, (cs4 = [V.one (Cell.int IntKind.i64 n6)]) ∧
    (ifT (!decide (n6 = 0))
      (Q [V.one (Cell.slice 1 { a := none, len := 0 }), V.one (Cell.int IntKind.i64 n6)])
      (joinK (A := Bool)
        (fun b7 => ifT b7
          (Q [V.one (Cell.slice 1 { a := none, len := 0 }), V.one (Cell.int IntKind.i64 1)])
          (fun h8 =>
          (newK (.map []) (fun i9 => loopK (A := Int) 0
            (fun x10 => fun n11 => ifT (decide (n11 < (↑l0.len : Int)))
              (fun h12 =>
              ((0 ≤ n11) ∧
              n11 < (↑l0.len : Int)) ∧
              (derefK l0.a (fun i13 => fun i14 => fun h15 =>
              ∃ s16 : ByteArray, ∃ n17 : Int, ∃ n18 : Int, (h15.read i13 (i14 + n11.toNat * 3) 3 = some [Cell.str s16, Cell.int IntKind.i64 n17, Cell.int IntKind.i64 n18]) ∧
              ∃ p19 : Option Nat, ∃ b20 : Bool, (∃ cs21 : List (V × V), (mapOf h15 (some i9) = some cs21) ∧
              mapGet (V.one (Cell.str s16)) (V.one (Cell.map none)) cs21 = some (V.one (Cell.map p19), b20)) ∧
              (ifT p19.isNone
                (fun h22 =>
                (newK (.map []) (fun i23 => fun h24 => 
                (mapK [] (some i9) (V.one (Cell.str s16)) (V.one (Cell.map (some i23))) (fun h25 =>
                ∃ p26 : Option Nat, ∃ b27 : Bool, (∃ cs28 : List (V × V), (mapOf h25 (some i9) = some cs28) ∧
                mapGet (V.one (Cell.str s16)) (V.one (Cell.map none)) cs28 = some (V.one (Cell.map p26), b27)) ∧
                (n1 ≠ 0) ∧
                (mapK [] p26 (V.one (Cell.int IntKind.i64 (IntKind.i64.wrap (n18.tdiv n1)))) (V.one (Cell.bool true)) (x10 (IntKind.i64.wrap (n11 + 1)))) h25)) h24)) h22)
                (fun h29 =>
                ∃ p30 : Option Nat, ∃ b31 : Bool, (∃ cs32 : List (V × V), (mapOf h29 (some i9) = some cs32) ∧
                mapGet (V.one (Cell.str s16)) (V.one (Cell.map none)) cs32 = some (V.one (Cell.map p30), b31)) ∧
                (n1 ≠ 0) ∧
                (mapK [] p30 (V.one (Cell.int IntKind.i64 (IntKind.i64.wrap (n18.tdiv n1)))) (V.one (Cell.bool true)) (x10 (IntKind.i64.wrap (n11 + 1)))) h29)) h15)) h12)
              (fun h33 =>
              (true = true) ∧
              (0 ≤ n2) ∧
              (n2 ≤ n2) ∧
              (n2 * (↑24 : Int) ≤ 140737488355328) ∧
              (newK (.cells false (slCells (VK.one (Kd.slice 1)) n2.toNat)) (fun i34 => loopK (A := Int) 0
                (fun x35 => fun n36 => ifT (decide (n36 < (↑n2.toNat : Int)))
                  (fun h37 =>
                  (true = true) ∧
                  (0 ≤ n2) ∧
                  (n2 ≤ n2) ∧
                  (n2 * (↑8 : Int) ≤ 140737488355328) ∧
                  (newK (.cells false (slCells (VK.one (Kd.int IntKind.i64)) n2.toNat)) (fun i38 => fun h39 => 
                  ((0 ≤ n36) ∧
                  n36 < (↑n2.toNat : Int)) ∧
                  (storeK [] i34 (0 + n36.toNat * 1) [Cell.slice 1 { a := some (i38, 0), len := n2.toNat }] (fun h40 =>
                  (rangeK i9 (fun i41 => loopK (A := PUnit) ()
                    (fun x42 => fun x43 => fun h44 => 
                    (nextK i41
                      (x35 (IntKind.i64.wrap (n36 + 1)))
                      (fun x45 => fun x46 => fun h47 => 
                      ∃ s48 : ByteArray, ∃ p49 : Option Nat, (x45 = V.one (Cell.str s48)) ∧
                      (x46 = V.one (Cell.map p49)) ∧
                      (entryK i41 (fun x50 => fun x51 => fun h52 => 
                      ∃ s53 : ByteArray, ∃ p54 : Option Nat, (x50 = V.one (Cell.str s53)) ∧
                      (x51 = V.one (Cell.map p54)) ∧
                      (rangeO p54 (fun i55 => loopK (A := Int) 4321440
                        (fun x56 => fun n57 => fun h58 => 
                        (nextK i55
                          (loopK (A := Int) 0
                            (fun x59 => fun n60 => ifT (decide (n60 < n2))
                              (joinK (A := Bool)
                                (fun b61 => ifT b61
                                  (fun h62 =>
                                  ((0 ≤ n36) ∧
                                  n36 < (↑n2.toNat : Int)) ∧
                                  ∃ l63 : Sl, (h62.read i34 (0 + n36.toNat * 1) 1 = some [Cell.slice 1 l63]) ∧
                                  ((0 ≤ n60) ∧
                                  n60 < (↑l63.len : Int)) ∧
                                  (derefK l63.a (fun i64 => fun i65 => fun h66 =>
                                  ∃ n67 : Int, (h66.read i64 (i65 + n60.toNat * 1) 1 = some [Cell.int IntKind.i64 n67]) ∧
                                  ((0 ≤ n60) ∧
                                  n60 < (↑l63.len : Int)) ∧
                                  (derefK l63.a (fun i68 => fun i69 => fun h70 => 
                                  (storeK [] i68 (i69 + n60.toNat * 1) [Cell.int IntKind.i64 (IntKind.i64.wrap (n67 + 1))] (x59 (IntKind.i64.wrap (n60 + 1)))) h70)) h66)) h62)
                                  (x59 (IntKind.i64.wrap (n60 + 1))))
                                (fun x71 => ifT (decide (n57 = n36))
                                  (fun h72 =>
                                  ∃ b73 : Bool, ∃ b74 : Bool, (∃ cs75 : List (V × V), (mapOf h72 p54 = some cs75) ∧
                                  mapGet (V.one (Cell.int IntKind.i64 (IntKind.i64.wrap (n36 + n60)))) (V.one (Cell.bool false)) cs75 = some (V.one (Cell.bool b73), b74)) ∧
                                  x71 b73 h72)
                                  (x71 false)))
                              (x42 ())))
                          (fun x76 => fun x77 => fun h78 => 
                          ∃ n79 : Int, ∃ b80 : Bool, (x76 = V.one (Cell.int IntKind.i64 n79)) ∧
                          (x77 = V.one (Cell.bool b80)) ∧
                          (entryK i55 (fun x81 => fun x82 => fun h83 => 
                          ∃ n84 : Int, ∃ b85 : Bool, (x81 = V.one (Cell.int IntKind.i64 n84)) ∧
                          (x82 = V.one (Cell.bool b85)) ∧
                          x56 (min n57 n84) h83)) h78)) h58))) h52)) h47)) h44))) h40)) h39)) h37)
                  (Q [V.one (Cell.slice 1 { a := some (i34, 0), len := n2.toNat }), V.one (Cell.int IntKind.i64 0)])))) h33)))) h8))
        (fun x86 => ifT (decide (n1 < 1))
          (x86 true)
          (ifT (decide (n1 > 4321440))
            (x86 true)
            (ifT (decide (n2 < 1))
              (x86 true)
              (x86 (decide (n2 > 60)))))))) h5) h3
theorem den11 (I : FuncId → List V → Post → T) (l0 : Sl) (n1 : Int) (n2 : Int) (Q : Post) : denF Go.Proofs.Tryz.prog 2048 (⟨[(28, 274861129728, [(37, tk Go.Proofs.Tryz.prog 4)]), (34171940658, 20262602563023104339548865298432, [(103, tk Go.Proofs.Tryz.prog 4)])], [(250, 9223369837831522304, [(41, tk Go.Proofs.Tryz.prog 3)]), (1018, 41538374868278473454291380957847552, [(67, tk Go.Proofs.Tryz.prog 3)]), (521422, 20769187433988194786670156670533632, []), (266968282, 1228268632728463241501671424, [(16, tk Go.Proofs.Tryz.prog 3)]), (266968286, 20769184958259231943361435518894080, [(91, tk Go.Proofs.Tryz.prog 3)])]⟩) I 11 [V.one (Cell.slice 3 l0), V.one (Cell.int IntKind.i64 n1), V.one (Cell.int IntKind.i64 n2)] Q = vc11 I l0 n1 n2 Q := by kernel_rfl
/-- handbill/handref1.ActsFault -/
def vc40 (I : FuncId → List V → Post → T) (l0 : Sl) (Q : Post) : T :=
  ifT (decide ((↑l0.len : Int) > 5000))
    (Q [V.one (Cell.int IntKind.i64 2)])
    (loopK (A := Int) 0
      (fun x1 => fun n2 => ifT (decide (n2 < (↑l0.len : Int)))
        (fun h3 =>
        ((0 ≤ n2) ∧
        n2 < (↑l0.len : Int)) ∧
        (derefK l0.a (fun i4 => fun i5 => fun h6 =>
        ∃ s7 : ByteArray, ∃ n8 : Int, ∃ n9 : Int, (h6.read i4 (i5 + n2.toNat * 3) 3 = some [Cell.str s7, Cell.int IntKind.i64 n8, Cell.int IntKind.i64 n9]) ∧
        I 48 [V.one (Cell.str s7)]
          (fun cs10 => fun h11 => 
          ∃ b12 : Bool, (cs10 = [V.one (Cell.bool b12)]) ∧
          (ifT (!b12)
            (Q [V.one (Cell.int IntKind.i64 5)])
            (joinK (A := Bool)
              (fun b13 => ifT b13
                (Q [V.one (Cell.int IntKind.i64 4)])
                (fun h14 =>
                I 32 [V.one (Cell.int IntKind.i64 n9)]
                  (fun cs15 => fun h16 => 
                  ∃ b17 : Bool, (cs15 = [V.one (Cell.bool b17)]) ∧
                  (ifT (!b17)
                    (Q [V.one (Cell.int IntKind.i64 1)])
                    (x1 (IntKind.i64.wrap (n2 + 1)))) h16) h14))
              (fun x18 => ifT (decide (n8 < 1))
                (x18 true)
                (x18 (decide (n8 > 4)))))) h11) h6)) h3)
        (Q [V.one (Cell.int IntKind.i64 0)])))
theorem den40 (I : FuncId → List V → Post → T) (l0 : Sl) (Q : Post) : denF Go.Proofs.Tryz.prog 16 (⟨[(59798, 267911168, [(19, tk Go.Proofs.Tryz.prog 4)])], [(58, 17179868180, [(10, tk Go.Proofs.Tryz.prog 3)])]⟩) I 40 [V.one (Cell.slice 3 l0)] Q = vc40 I l0 Q := by kernel_rfl
/-- slices.EqualFunc[[][]int,[][]int,[]int,[]int] -/
def vc12 (I : FuncId → List V → Post → T) (l0 : Sl) (l1 : Sl) (p2 : Option (Nat × List (Nat × Nat))) (Q : Post) : T :=
  ifT (!decide ((↑l0.len : Int) = (↑l1.len : Int)))
    (Q [V.one (Cell.bool false)])
    (loopK (A := Int) 0
      (fun x3 => fun n4 => ifT (decide (n4 < (↑l0.len : Int)))
        (fun h5 =>
        ((0 ≤ n4) ∧
        n4 < (↑l0.len : Int)) ∧
        (derefK l0.a (fun i6 => fun i7 => fun h8 =>
        ∃ l9 : Sl, (h8.read i6 (i7 + n4.toNat * 1) 1 = some [Cell.slice 1 l9]) ∧
        ((0 ≤ n4) ∧
        n4 < (↑l1.len : Int)) ∧
        (derefK l1.a (fun i10 => fun i11 => fun h12 =>
        ∃ l13 : Sl, (h12.read i10 (i11 + n4.toNat * 1) 1 = some [Cell.slice 1 l13]) ∧
        (funK p2 (fun i14 => fun cs15 => fun h16 => 
        I i14 (V.one (Cell.slice 1 l9) :: V.one (Cell.slice 1 l13) :: cs15)
          (fun cs17 => fun h18 => 
          ∃ b19 : Bool, (cs17 = [V.one (Cell.bool b19)]) ∧
          (ifT (!b19)
            (Q [V.one (Cell.bool false)])
            (x3 (IntKind.i64.wrap (n4 + 1)))) h18) h16)) h12)) h8)) h5)
        (Q [V.one (Cell.bool true)])))
theorem den12 (I : FuncId → List V → Post → T) (l0 : Sl) (l1 : Sl) (p2 : Option (Nat × List (Nat × Nat))) (Q : Post) : denF Go.Proofs.Tryz.prog 0 (⟨[], [(58, 4294837184, [(17, tk Go.Proofs.Tryz.prog 3)])]⟩) I 12 [V.one (Cell.slice 1 l0), V.one (Cell.slice 1 l1), V.one (Cell.func p2)] Q = vc12 I l0 l1 p2 Q := by kernel_rfl
/-- slices.Equal[[]int,int] -/
def vc13 (I : FuncId → List V → Post → T) (l0 : Sl) (l1 : Sl) (Q : Post) : T :=
  ifT (!decide ((↑l0.len : Int) = (↑l1.len : Int)))
    (Q [V.one (Cell.bool false)])
    (loopK (A := Int) 0
      (fun x2 => fun n3 => ifT (decide (n3 < (↑l0.len : Int)))
        (fun h4 =>
        ((0 ≤ n3) ∧
        n3 < (↑l0.len : Int)) ∧
        (derefK l0.a (fun i5 => fun i6 => fun h7 =>
        ∃ n8 : Int, (h7.read i5 (i6 + n3.toNat * 1) 1 = some [Cell.int IntKind.i64 n8]) ∧
        ((0 ≤ n3) ∧
        n3 < (↑l1.len : Int)) ∧
        (derefK l1.a (fun i9 => fun i10 => fun h11 =>
        ∃ n12 : Int, (h11.read i9 (i10 + n3.toNat * 1) 1 = some [Cell.int IntKind.i64 n12]) ∧
        (ifT (!decide (n8 = n12))
          (Q [V.one (Cell.bool false)])
          (x2 (IntKind.i64.wrap (n3 + 1)))) h11)) h7)) h4)
        (Q [V.one (Cell.bool true)])))
theorem den13 (I : FuncId → List V → Post → T) (l0 : Sl) (l1 : Sl) (Q : Post) : denF Go.Proofs.Tryz.prog 0 (⟨[], [(58, 67100720, [(13, tk Go.Proofs.Tryz.prog 3)])]⟩) I 13 [V.one (Cell.slice 1 l0), V.one (Cell.slice 1 l1)] Q = vc13 I l0 l1 Q := by kernel_rfl
/-- handbill/measure.Unique -/
def vc15 (I : FuncId → List V → Post → T) (l0 : Sl) (n1 : Int) (n2 : Int) (n3 : Int) (Q : Post) : T :=
  fun h4 =>
  I 39 [V.one (Cell.slice 3 l0)]
    (fun cs5 => fun h6 => 
    ∃ n7 : Int, (cs5 = [V.one (Cell.int IntKind.i64 n7)]) ∧
    (ifT (!decide (n7 = 0))
      (Q [V.one (Cell.int IntKind.i64 0), V.one (Cell.int IntKind.i64 n7)])
      (fun h8 =>
      I 23 [V.one (Cell.int IntKind.i64 n1)]
        (fun cs9 => fun h10 => 
        ∃ b11 : Bool, (cs9 = [V.one (Cell.bool b11)]) ∧
        (ifT (!b11)
          (Q [V.one (Cell.int IntKind.i64 0), V.one (Cell.int IntKind.i64 4)])
          (joinK (A := Bool)
            (fun b12 => ifT b12
              (Q [V.one (Cell.int IntKind.i64 0), V.one (Cell.int IntKind.i64 1)])
              (fun h13 =>
              (newK (.map []) (fun i14 => loopK (A := Int) 0
                (fun x15 => fun n16 => ifT (decide (n16 < (↑l0.len : Int)))
                  (fun h17 =>
                  ((0 ≤ n16) ∧
                  n16 < (↑l0.len : Int)) ∧
                  (derefK l0.a (fun i18 => fun i19 => fun h20 =>
                  ∃ s21 : ByteArray, ∃ n22 : Int, ∃ n23 : Int, (h20.read i18 (i19 + n16.toNat * 3) 3 = some [Cell.str s21, Cell.int IntKind.i64 n22, Cell.int IntKind.i64 n23]) ∧
                  (ifT (decide (n22 = n1))
                    (ifT (decide (n2 ≤ n23))
                      (ifT (decide (n23 < n3))
                        (fun h24 =>
                        (mapK [] (some i14) (V.one (Cell.str s21)) (V.one (Cell.bool true)) (x15 (IntKind.i64.wrap (n16 + 1)))) h24)
                        (x15 (IntKind.i64.wrap (n16 + 1))))
                      (x15 (IntKind.i64.wrap (n16 + 1))))
                    (x15 (IntKind.i64.wrap (n16 + 1)))) h20)) h17)
                  (fun h25 =>
                  ∃ n26 : Int, ∃ b27 : Bool, (∃ cs28 : List (V × V), (mapOf h25 (some i14) = some cs28) ∧
                  some (V.one (Cell.int IntKind.i64 (↑cs28.length : Int)), true) = some (V.one (Cell.int IntKind.i64 n26), b27)) ∧
                  Q [V.one (Cell.int IntKind.i64 n26), V.one (Cell.int IntKind.i64 0)] h25)))) h13))
            (fun x29 => ifT (decide (n2 < 0))
              (x29 true)
              (ifT (decide (n2 > n3))
                (x29 true)
                (x29 (decide (n3 > 4321440))))))) h10) h8)) h6) h4
theorem den15 (I : FuncId → List V → Post → T) (l0 : Sl) (n1 : Int) (n2 : Int) (n3 : Int) (Q : Post) : denF Go.Proofs.Tryz.prog 2080 (⟨[(230, 137436856320, [(21, tk Go.Proofs.Tryz.prog 4)])], [(250, 73786975195326580736, [(40, tk Go.Proofs.Tryz.prog 3)])]⟩) I 15 [V.one (Cell.slice 3 l0), V.one (Cell.int IntKind.i64 n1), V.agg [Cell.int IntKind.i64 n2, Cell.int IntKind.i64 n3]] Q = vc15 I l0 n1 n2 n3 Q := by kernel_rfl
/-- handbill/handref1.UniqueOf -/
def vc16 (I : FuncId → List V → Post → T) (l0 : Sl) (n1 : Int) (n2 : Int) (n3 : Int) (Q : Post) : T :=
  fun h4 =>
  I 40 [V.one (Cell.slice 3 l0)]
    (fun cs5 => fun h6 => 
    ∃ n7 : Int, (cs5 = [V.one (Cell.int IntKind.i64 n7)]) ∧
    (ifT (!decide (n7 = 0))
      (Q [V.one (Cell.int IntKind.i64 0), V.one (Cell.int IntKind.i64 n7)])
      (joinK (A := Bool)
        (fun b8 => ifT b8
          (Q [V.one (Cell.int IntKind.i64 0), V.one (Cell.int IntKind.i64 4)])
          (joinK (A := Bool)
            (fun b9 => ifT b9
              (Q [V.one (Cell.int IntKind.i64 0), V.one (Cell.int IntKind.i64 1)])
              (loopK (A := Sl × Int) (({ a := none, len := 0 }, 0))
                (fun x10 => uncur fun l11 n12 => ifT (decide (n12 < (↑l0.len : Int)))
                  (fun h13 =>
                  ((0 ≤ n12) ∧
                  n12 < (↑l0.len : Int)) ∧
                  (derefK l0.a (fun i14 => fun i15 => fun h16 =>
                  ∃ s17 : ByteArray, ∃ n18 : Int, ∃ n19 : Int, (h16.read i14 (i15 + n12.toNat * 3) 3 = some [Cell.str s17, Cell.int IntKind.i64 n18, Cell.int IntKind.i64 n19]) ∧
                  (ifT (decide (n18 = n1))
                    (ifT (decide (n19 ≥ n2))
                      (ifT (decide (n19 < n3))
                        (fun h20 =>
                        (appendTo [] 1 16 l11 1 [Cell.str s17] (fun l21 => fun h22 => 
                        x10 ((l21, IntKind.i64.wrap (n12 + 1))) h22)) h20)
                        (x10 ((l11, IntKind.i64.wrap (n12 + 1)))))
                      (x10 ((l11, IntKind.i64.wrap (n12 + 1)))))
                    (x10 ((l11, IntKind.i64.wrap (n12 + 1))))) h16)) h13)
                  (fun h23 =>
                  I 41 [V.one (Cell.slice 1 l11)]
                    (fun cs24 => fun h25 => 
                    ∃ l26 : Sl, (cs24 = [V.one (Cell.slice 1 l26)]) ∧
                    Q [V.one (Cell.int IntKind.i64 (↑l26.len : Int)), V.one (Cell.int IntKind.i64 0)] h25) h23))))
            (fun x27 => ifT (decide (n2 < 0))
              (x27 true)
              (ifT (decide (n2 > n3))
                (x27 true)
                (x27 (decide (n3 > 4321440)))))))
        (fun x28 => ifT (decide (n1 < 1))
          (x28 true)
          (x28 (decide (n1 > 4)))))) h6) h4
theorem den16 (I : FuncId → List V → Post → T) (l0 : Sl) (n1 : Int) (n2 : Int) (n3 : Int) (Q : Post) : denF Go.Proofs.Tryz.prog 2080 (⟨[(28, 8257536, [(22, tk Go.Proofs.Tryz.prog 4)]), (60, 274869518336, [(37, tk Go.Proofs.Tryz.prog 4)])], [(506, 295147904079841200640, [(9, tk Go.Proofs.Tryz.prog 67), (40, tk Go.Proofs.Tryz.prog 3)])]⟩) I 16 [V.one (Cell.slice 3 l0), V.one (Cell.int IntKind.i64 n1), V.agg [Cell.int IntKind.i64 n2, Cell.int IntKind.i64 n3]] Q = vc16 I l0 n1 n2 n3 Q := by kernel_rfl
/-- handbill/handref1.sorted -/
def vc41 (I : FuncId → List V → Post → T) (l0 : Sl) (Q : Post) : T :=
  fun h1 =>
  I 55 [V.one (Cell.slice 1 l0)]
    (fun cs2 => fun h3 => 
    ∃ l4 : Sl, (cs2 = [V.one (Cell.slice 1 l4)]) ∧
    I 46 [V.one (Cell.slice 1 l4)]
      (fun cs5 => fun h6 => 
      (cs5 = []) ∧
      I 56 [V.one (Cell.slice 1 l4)]
        (fun cs7 => fun h8 => 
        ∃ l9 : Sl, (cs7 = [V.one (Cell.slice 1 l9)]) ∧
        Q [V.one (Cell.slice 1 l9)] h8) h6) h3) h1
theorem den41 (I : FuncId → List V → Post → T) (l0 : Sl) (Q : Post) : denF Go.Proofs.Tryz.prog 0 (⟨[], []⟩) I 41 [V.one (Cell.slice 1 l0)] Q = vc41 I l0 Q := by kernel_rfl
/-- slices.Clone[[]string,string] -/
def vc55 (I : FuncId → List V → Post → T) (l0 : Sl) (Q : Post) : T :=
  ifT l0.a.isNone
    (Q [V.one (Cell.slice 1 { a := none, len := 0 })])
    (fun h1 =>
    ∃ cs2 : List Cell, (h1.sl 1 l0 = some cs2) ∧
    (l0.len * 16 ≤ 140737488355328) ∧
    (newK (.cells false cs2) (fun i3 => fun h4 => 
    Q [V.one (Cell.slice 1 { a := some (i3, 0), len := l0.len })] h4)) h1)
theorem den55 (I : FuncId → List V → Post → T) (l0 : Sl) (Q : Post) : denF Go.Proofs.Tryz.prog 0 (⟨[], []⟩) I 55 [V.one (Cell.slice 1 l0)] Q = vc55 I l0 Q := by kernel_rfl
/-- slices.Compact[[]string,string] -/
def vc56 (I : FuncId → List V → Post → T) (l0 : Sl) (Q : Post) : T :=
  ifT (decide ((↑l0.len : Int) < 2))
    (Q [V.one (Cell.slice 1 l0)])
    (loopK (A := Int) 1
      (fun x1 => fun n2 => ifT (decide (n2 < (↑l0.len : Int)))
        (fun h3 =>
        ((0 ≤ n2) ∧
        n2 < (↑l0.len : Int)) ∧
        (derefK l0.a (fun i4 => fun i5 => fun h6 =>
        ∃ s7 : ByteArray, (h6.read i4 (i5 + n2.toNat * 1) 1 = some [Cell.str s7]) ∧
        ((0 ≤ IntKind.i64.wrap (n2 - 1)) ∧
        IntKind.i64.wrap (n2 - 1) < (↑l0.len : Int)) ∧
        (derefK l0.a (fun i8 => fun i9 => fun h10 =>
        ∃ s11 : ByteArray, (h10.read i8 (i9 + (IntKind.i64.wrap (n2 - 1)).toNat * 1) 1 = some [Cell.str s11]) ∧
        (ifT (decide (s7 = s11))
          (fun h12 =>
          ((0 ≤ n2) ∧
          (n2 ≤ (↑l0.len : Int)) ∧
          (↑l0.len : Int) ≤ (↑l0.len : Int)) ∧
          (loopK (A := Int × Int) ((n2, 1))
            (fun x13 => uncur fun n14 n15 => ifT (decide (n15 < (↑(l0.sub 1 n2.toNat (↑l0.len : Int).toNat).len : Int)))
              (fun h16 =>
              ((0 ≤ n15) ∧
              n15 < (↑(l0.sub 1 n2.toNat (↑l0.len : Int).toNat).len : Int)) ∧
              (derefK ((l0.sub 1 n2.toNat (↑l0.len : Int).toNat).a) (fun i17 => fun i18 => fun h19 =>
              ∃ s20 : ByteArray, (h19.read i17 (i18 + n15.toNat * 1) 1 = some [Cell.str s20]) ∧
              ((0 ≤ IntKind.i64.wrap (n15 - 1)) ∧
              IntKind.i64.wrap (n15 - 1) < (↑(l0.sub 1 n2.toNat (↑l0.len : Int).toNat).len : Int)) ∧
              (derefK ((l0.sub 1 n2.toNat (↑l0.len : Int).toNat).a) (fun i21 => fun i22 => fun h23 =>
              ∃ s24 : ByteArray, (h23.read i21 (i22 + (IntKind.i64.wrap (n15 - 1)).toNat * 1) 1 = some [Cell.str s24]) ∧
              (ifT (!decide (s20 = s24))
                (fun h25 =>
                ((0 ≤ n15) ∧
                n15 < (↑(l0.sub 1 n2.toNat (↑l0.len : Int).toNat).len : Int)) ∧
                (derefK ((l0.sub 1 n2.toNat (↑l0.len : Int).toNat).a) (fun i26 => fun i27 => fun h28 =>
                ∃ s29 : ByteArray, (h28.read i26 (i27 + n15.toNat * 1) 1 = some [Cell.str s29]) ∧
                ((0 ≤ n14) ∧
                n14 < (↑l0.len : Int)) ∧
                (derefK l0.a (fun i30 => fun i31 => fun h32 => 
                (storeK [] i30 (i31 + n14.toNat * 1) [Cell.str s29] (x13 ((IntKind.i64.wrap (n14 + 1), IntKind.i64.wrap (n15 + 1))))) h32)) h28)) h25)
                (x13 ((n14, IntKind.i64.wrap (n15 + 1))))) h23)) h19)) h16)
              (fun h33 =>
              ((0 ≤ n14) ∧
              (n14 ≤ (↑l0.len : Int)) ∧
              (↑l0.len : Int) ≤ (↑l0.len : Int)) ∧
              (clearK [] ((l0.sub 1 n14.toNat (↑l0.len : Int).toNat).a) (slCells (VK.one Kd.str) (l0.sub 1 n14.toNat (↑l0.len : Int).toNat).len) (fun h34 =>
              (((0 : Int) ≤ (0 : Int)) ∧
              (0 ≤ n14) ∧
              n14 ≤ (↑l0.len : Int)) ∧
              Q [V.one (Cell.slice 1 (l0.sub 1 0 n14.toNat))] h34)) h33))) h12)
          (x1 (IntKind.i64.wrap (n2 + 1)))) h10)) h6)) h3)
        (Q [V.one (Cell.slice 1 l0)])))
theorem den56 (I : FuncId → List V → Post → T) (l0 : Sl) (Q : Post) : denF Go.Proofs.Tryz.prog 0 (⟨[], [(58, 1152921504606846012, [(3, tk Go.Proofs.Tryz.prog 3)]), (59690, 18014397972611112, [(3, tk Go.Proofs.Tryz.prog 3), (5, tk Go.Proofs.Tryz.prog 3)])]⟩) I 56 [V.one (Cell.slice 1 l0)] Q = vc56 I l0 Q := by kernel_rfl
/-- handbill/handlaw1.measures -/
def vc17 (I : FuncId → List V → Post → T) (Q : Post) : T :=
  fun h0 =>
  I 42 [V.one (Cell.int IntKind.i64 2), V.one (Cell.int IntKind.i64 4)]
    (fun cs1 => fun h2 => 
    ∃ n3 : Int, ∃ n4 : Int, ∃ n5 : Int, (cs1 = [V.agg [Cell.int IntKind.i64 n3, Cell.int IntKind.i64 n4], V.one (Cell.int IntKind.i64 n5)]) ∧
    (ifT (decide (n5 = 0))
      (Q [V.one (Cell.bool (decide (n3 = 1) && decide (n4 = 2)))])
      (Q [V.one (Cell.bool false)])) h2) h0
theorem den17 (I : FuncId → List V → Post → T) (Q : Post) : denF Go.Proofs.Tryz.prog 2 (⟨[], []⟩) I 17 [] Q = vc17 I Q := by kernel_rfl
/-- handbill/measure.Reduce -/
def vc42 (I : FuncId → List V → Post → T) (n0 : Int) (n1 : Int) (Q : Post) : T :=
  joinK (A := Bool)
    (fun b2 => ifT b2
      (fun h3 =>
      Q [V.agg [Cell.int IntKind.i64 0, Cell.int IntKind.i64 0], V.one (Cell.int IntKind.i64 1)] h3)
      (ifT (decide (n1 = 0))
        (fun h4 =>
        Q [V.agg [Cell.int IntKind.i64 0, Cell.int IntKind.i64 0], V.one (Cell.int IntKind.i64 8)] h4)
        (fun h5 =>
        I 57 [V.one (Cell.int IntKind.i64 n0), V.one (Cell.int IntKind.i64 n1)]
          (fun cs6 => fun h7 => 
          ∃ n8 : Int, ∃ n9 : Int, (cs6 = [V.agg [Cell.int IntKind.i64 n8, Cell.int IntKind.i64 n9]]) ∧
          Q [V.agg [Cell.int IntKind.i64 n8, Cell.int IntKind.i64 n9], V.one (Cell.int IntKind.i64 0)] h7) h5)))
    (fun x10 => fun h11 => 
    I 25 [V.one (Cell.int IntKind.i64 n0), V.one (Cell.int IntKind.i64 (-4611686018427387904)), V.one (Cell.int IntKind.i64 4611686018427387904)]
      (fun cs12 => fun h13 => 
      ∃ b14 : Bool, (cs12 = [V.one (Cell.bool b14)]) ∧
      (ifT (!b14)
        (x10 true)
        (fun h15 =>
        I 25 [V.one (Cell.int IntKind.i64 n1), V.one (Cell.int IntKind.i64 (-4611686018427387904)), V.one (Cell.int IntKind.i64 4611686018427387904)]
          (fun cs16 => fun h17 => 
          ∃ b18 : Bool, (cs16 = [V.one (Cell.bool b18)]) ∧
          x10 (!b18) h17) h15)) h13) h11)
theorem den42 (I : FuncId → List V → Post → T) (n0 : Int) (n1 : Int) (Q : Post) : denF Go.Proofs.Tryz.prog 16 (⟨[(24, 32704, [(6, tk Go.Proofs.Tryz.prog 4)])], []⟩) I 42 [V.one (Cell.int IntKind.i64 n0), V.one (Cell.int IntKind.i64 n1)] Q = vc42 I n0 n1 Q := by kernel_rfl
/-- handbill/measure.reduce -/
def vc57 (I : FuncId → List V → Post → T) (n0 : Int) (n1 : Int) (Q : Post) : T :=
  joinK (A := Int × Int)
    (uncur fun n2 n3 => fun h4 => 
    I 78 [V.one (Cell.int IntKind.i64 n2)]
      (fun cs5 => fun h6 => 
      ∃ n7 : Int, (cs5 = [V.one (Cell.int IntKind.u64 n7)]) ∧
      I 78 [V.one (Cell.int IntKind.i64 n3)]
        (fun cs8 => fun h9 => 
        ∃ n10 : Int, (cs8 = [V.one (Cell.int IntKind.u64 n10)]) ∧
        I 77 [V.one (Cell.int IntKind.u64 n7), V.one (Cell.int IntKind.u64 n10)]
          (fun cs11 => fun h12 => 
          ∃ n13 : Int, (cs11 = [V.one (Cell.int IntKind.u64 n13)]) ∧
          (IntKind.i64.wrap n13 ≠ 0) ∧
          (IntKind.i64.wrap n13 ≠ 0) ∧
          Q [V.agg [Cell.int IntKind.i64 (IntKind.i64.wrap (n2.tdiv (IntKind.i64.wrap n13))), Cell.int IntKind.i64 (IntKind.i64.wrap (n3.tdiv (IntKind.i64.wrap n13)))]] h12) h9) h6) h4)
    (fun x14 => ifT (decide (n1 < 0))
      (x14 ((IntKind.i64.wrap (0 - n0), IntKind.i64.wrap (0 - n1))))
      (x14 ((n0, n1))))
theorem den57 (I : FuncId → List V → Post → T) (n0 : Int) (n1 : Int) (Q : Post) : denF Go.Proofs.Tryz.prog 16 (⟨[(13, 3843, [(0, tk Go.Proofs.Tryz.prog 3), (1, tk Go.Proofs.Tryz.prog 3)])], []⟩) I 57 [V.one (Cell.int IntKind.i64 n0), V.one (Cell.int IntKind.i64 n1)] Q = vc57 I n0 n1 Q := by kernel_rfl
/-- handbill/measure.divisor -/
def vc77 (I : FuncId → List V → Post → T) (n0 : Int) (n1 : Int) (Q : Post) : T :=
  loopK (A := Int × Int) ((n0, n1))
    (fun x2 => uncur fun n3 n4 => ifT (!decide (n4 = 0))
      (fun h5 =>
      (n4 ≠ 0) ∧
      x2 ((n4, n3.tmod n4)) h5)
      (Q [V.one (Cell.int IntKind.u64 n3)]))
theorem den77 (I : FuncId → List V → Post → T) (n0 : Int) (n1 : Int) (Q : Post) : denF Go.Proofs.Tryz.prog 0 (⟨[], [(12, 2019, [(0, tk Go.Proofs.Tryz.prog 117), (1, tk Go.Proofs.Tryz.prog 117)])]⟩) I 77 [V.one (Cell.int IntKind.u64 n0), V.one (Cell.int IntKind.u64 n1)] Q = vc77 I n0 n1 Q := by kernel_rfl
/-- handbill/measure.size -/
def vc78 (I : FuncId → List V → Post → T) (n0 : Int) (Q : Post) : T :=
  ifT (decide (n0 < 0))
    (Q [V.one (Cell.int IntKind.u64 (IntKind.u64.wrap (0 - IntKind.u64.wrap n0)))])
    (Q [V.one (Cell.int IntKind.u64 (IntKind.u64.wrap n0))])
theorem den78 (I : FuncId → List V → Post → T) (n0 : Int) (Q : Post) : denF Go.Proofs.Tryz.prog 0 (⟨[], []⟩) I 78 [V.one (Cell.int IntKind.i64 n0)] Q = vc78 I n0 Q := by kernel_rfl
end Go.Proofs.YtmjfeabnioclgaaGreatDoorVc
