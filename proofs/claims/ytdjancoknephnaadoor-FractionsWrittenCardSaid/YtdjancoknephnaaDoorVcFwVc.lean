/- Formulas of the functions that FractionsWritten reaches. -/
import Derived.Test.YtdjancoknephnaaDoorVcOwns
import Derived.Test.YtdjancoknephnaaDoorVcBits
import Derived.Test.YtdjancoknephnaaDoorVcLen8
import Derived.Test.YtdjancoknephnaaDoorProg
set_option linter.unusedVariables false
set_option maxRecDepth 100000
namespace Go.Proofs.YtdjancoknephnaaDoorVc
/-- The digits of the numbers below 100. -/
@[reducible] def smalls : ByteArray := { data := #[48, 48, 48, 49, 48, 50, 48, 51, 48, 52, 48, 53, 48, 54, 48, 55, 48, 56, 48, 57, 49, 48, 49, 49, 49, 50, 49, 51, 49, 52, 49, 53, 49, 54, 49, 55, 49, 56, 49, 57, 50, 48, 50, 49, 50, 50, 50, 51, 50, 52, 50, 53, 50, 54, 50, 55, 50, 56, 50, 57, 51, 48, 51, 49, 51, 50, 51, 51, 51, 52, 51, 53, 51, 54, 51, 55, 51, 56, 51, 57, 52, 48, 52, 49, 52, 50, 52, 51, 52, 52, 52, 53, 52, 54, 52, 55, 52, 56, 52, 57, 53, 48, 53, 49, 53, 50, 53, 51, 53, 52, 53, 53, 53, 54, 53, 55, 53, 56, 53, 57, 54, 48, 54, 49, 54, 50, 54, 51, 54, 52, 54, 53, 54, 54, 54, 55, 54, 56, 54, 57, 55, 48, 55, 49, 55, 50, 55, 51, 55, 52, 55, 53, 55, 54, 55, 55, 55, 56, 55, 57, 56, 48, 56, 49, 56, 50, 56, 51, 56, 52, 56, 53, 56, 54, 56, 55, 56, 56, 56, 57, 57, 48, 57, 49, 57, 50, 57, 51, 57, 52, 57, 53, 57, 54, 57, 55, 57, 56, 57, 57] }
/-- handbill/handlaw1.FractionsWritten -/
def vc3 (I : FuncId → List V → Post → T) (l0 : Sl) (Q : Post) : T :=
  fun h1 =>
  (newK (YtdjancoknephnaaDoorVc.Obj.cells false [Cell.slice 1 l0, Cell.int IntKind.i64 0]) (fun i2 => fun h3 => 
  I 5 [V.one (Cell.ptr (some (i2, 0)))]
    (fun cs4 => fun h5 => 
    ∃ n6 : Int, ∃ n7 : Int, (cs4 = [V.agg [Cell.int IntKind.i64 n6, Cell.int IntKind.i64 n7]]) ∧
    I 6 [V.one (Cell.ptr (some (i2, 0))), V.one (Cell.int IntKind.i64 (-1)), V.one (Cell.int IntKind.i64 7)]
      (fun cs8 => fun h9 => 
      ∃ n10 : Int, (cs8 = [V.one (Cell.int IntKind.i64 n10)]) ∧
      I 7 [V.agg [Cell.int IntKind.i64 n6, Cell.int IntKind.i64 n7], V.one (Cell.int IntKind.i64 n10)]
        (fun cs11 => fun h12 => 
        ∃ s13 : ByteArray, ∃ n14 : Int, (cs11 = [V.one (Cell.str s13), V.one (Cell.int IntKind.i64 n14)]) ∧
        I 8 [V.agg [Cell.int IntKind.i64 n6, Cell.int IntKind.i64 n7], V.one (Cell.int IntKind.i64 n10)]
          (fun cs15 => fun h16 => 
          ∃ s17 : ByteArray, ∃ n18 : Int, (cs15 = [V.one (Cell.str s17), V.one (Cell.int IntKind.i64 n18)]) ∧
          I 9 []
            (fun cs19 => fun h20 => 
            ∃ b21 : Bool, (cs19 = [V.one (Cell.bool b21)]) ∧
            (ifT b21
              (ifT (decide (n14 = n18))
                (Q [V.one (Cell.bool (decide (s13 = s17)))])
                (Q [V.one (Cell.bool false)]))
              (Q [V.one (Cell.bool false)])) h20) h16) h12) h9) h5) h3)) h1
theorem den3 (I : FuncId → List V → Post → T) (l0 : Sl) (Q : Post) : denF Go.Proofs.Tryd.prog 16 (⟨[], []⟩) I 3 [V.one (Cell.slice 1 l0)] Q = vc3 I l0 Q := by kernel_rfl
/-- (*handbill/handmake.Stream).Fraction -/
def vc5 (I : FuncId → List V → Post → T) (p0 : Option (Nat × Nat)) (Q : Post) : T :=
  fun h1 =>
  I 20 [V.one (Cell.ptr p0)]
    (fun cs2 => fun h3 => 
    ∃ n4 : Int, (cs2 = [V.one (Cell.int IntKind.i64 n4)]) ∧
    I 20 [V.one (Cell.ptr p0)]
      (fun cs5 => fun h6 => 
      ∃ n7 : Int, (cs5 = [V.one (Cell.int IntKind.i64 n7)]) ∧
      I 17 [V.one (Cell.ptr p0), V.one (Cell.int IntKind.i64 12)]
        (fun cs8 => fun h9 => 
        ∃ b10 : Bool, (cs8 = [V.one (Cell.bool b10)]) ∧
        (ifT b10
          (fun h11 =>
          Q [V.agg [Cell.int IntKind.i64 n4, Cell.int IntKind.i64 n7]] h11)
          (joinK (A := Bool)
            (fun b12 => joinK (A := Int)
              (fun n13 => loopK (A := Int × Int) ((max n13 (IntKind.i64.wrap (0 - n13)), min (max n7 1) 4611686018427387904))
                (fun x14 => uncur fun n15 n16 => ifT (!decide (n16 = 0))
                  (fun h17 =>
                  (n16 ≠ 0) ∧
                  x14 ((n16, n15.tmod n16)) h17)
                  (fun h18 =>
                  (n15 ≠ 0) ∧
                  (n15 ≠ 0) ∧
                  Q [V.agg [Cell.int IntKind.i64 (IntKind.i64.wrap (n13.tdiv n15)), Cell.int IntKind.i64 (IntKind.i64.wrap ((min (max n7 1) 4611686018427387904).tdiv n15))]] h18)))
              (fun x19 => ifT b12
                (x19 4611686018427387904)
                (x19 n4)))
            (fun x20 => ifT (decide (n4 > 4611686018427387904))
              (x20 true)
              (x20 (decide (n4 < -4611686018427387904)))))) h9) h6) h3) h1
theorem den5 (I : FuncId → List V → Post → T) (p0 : Option (Nat × Nat)) (Q : Post) : denF Go.Proofs.Tryd.prog 4 (⟨[(124, 16515072, [(23, tk Go.Proofs.Tryd.prog 4)]), (125, 8, [(3, tk Go.Proofs.Tryd.prog 3)])], [(1020, 135291469920, [(5, tk Go.Proofs.Tryd.prog 3), (6, tk Go.Proofs.Tryd.prog 3)])]⟩) I 5 [V.one (Cell.ptr p0)] Q = vc5 I p0 Q := by kernel_rfl
/-- (*handbill/handmake.Stream).Flip -/
def vc17 (I : FuncId → List V → Post → T) (p0 : Option (Nat × Nat)) (n1 : Int) (Q : Post) : T :=
  fun h2 =>
  I 21 [V.one (Cell.ptr p0), V.one (Cell.int IntKind.i64 n1)]
    (fun cs3 => fun h4 => 
    ∃ n5 : Int, (cs3 = [V.one (Cell.int IntKind.i64 n5)]) ∧
    Q [V.one (Cell.bool (decide (n5 = 0)))] h4) h2
theorem den17 (I : FuncId → List V → Post → T) (p0 : Option (Nat × Nat)) (n1 : Int) (Q : Post) : denF Go.Proofs.Tryd.prog 0 (⟨[], []⟩) I 17 [V.one (Cell.ptr p0), V.one (Cell.int IntKind.i64 n1)] Q = vc17 I p0 n1 Q := by kernel_rfl
/-- (*handbill/handmake.Stream).Next -/
def vc21 (I : FuncId → List V → Post → T) (p0 : Option (Nat × Nat)) (n1 : Int) (Q : Post) : T :=
  derefK p0 (fun i2 => fun i3 => fun h4 =>
  ∃ n5 : Int, (h4.read i2 (i3 + 1) 1 = some [Cell.int IntKind.i64 n5]) ∧
  (derefK p0 (fun i6 => fun i7 => fun h8 =>
  (storeK [] i6 (i7 + 1) [Cell.int IntKind.i64 (IntKind.i64.wrap (n5 + 1))] (derefK p0 (fun i9 => fun i10 => fun h11 =>
  ∃ l12 : Sl, (h11.read i9 (i10 + 0) 1 = some [Cell.slice 1 l12]) ∧
  (ifT (decide ((↑l12.len : Int) = 0))
    (derefK p0 (fun i13 => fun i14 => fun h15 =>
    ∃ n16 : Int, (h15.read i13 (i14 + 1) 1 = some [Cell.int IntKind.i64 n16]) ∧
    I 53 [V.one (Cell.int IntKind.i64 (IntKind.i64.wrap (n16 * 7919))), V.one (Cell.int IntKind.i64 n1)]
      (fun cs17 => fun h18 => 
      ∃ n19 : Int, (cs17 = [V.one (Cell.int IntKind.i64 n19)]) ∧
      Q [V.one (Cell.int IntKind.i64 n19)] h18) h15))
    (derefK p0 (fun i20 => fun i21 => fun h22 =>
    ∃ n23 : Int, (h22.read i20 (i21 + 1) 1 = some [Cell.int IntKind.i64 n23]) ∧
    (derefK p0 (fun i24 => fun i25 => fun h26 =>
    ∃ l27 : Sl, (h26.read i24 (i25 + 0) 1 = some [Cell.slice 1 l27]) ∧
    ((↑l27.len : Int) ≠ 0) ∧
    (derefK p0 (fun i28 => fun i29 => fun h30 =>
    ∃ n31 : Int, (h30.read i28 (i29 + 1) 1 = some [Cell.int IntKind.i64 n31]) ∧
    (derefK p0 (fun i32 => fun i33 => fun h34 =>
    ∃ l35 : Sl, (h34.read i32 (i33 + 0) 1 = some [Cell.slice 1 l35]) ∧
    ((↑l35.len : Int) ≠ 0) ∧
    (derefK p0 (fun i36 => fun i37 => fun h38 =>
    ∃ l39 : Sl, (h38.read i36 (i37 + 0) 1 = some [Cell.slice 1 l39]) ∧
    ((0 ≤ (IntKind.i64.wrap (n23 - 1)).tmod (↑l27.len : Int)) ∧
    (IntKind.i64.wrap (n23 - 1)).tmod (↑l27.len : Int) < (↑l39.len : Int)) ∧
    (derefK l39.a (fun i40 => fun i41 => fun h42 =>
    ∃ n43 : Int, (h42.read i40 (i41 + ((IntKind.i64.wrap (n23 - 1)).tmod (↑l27.len : Int)).toNat * 1) 1 = some [Cell.int IntKind.i64 n43]) ∧
    I 53 [V.one (Cell.int IntKind.i64 n43), V.one (Cell.int IntKind.i64 1073741824)]
      (fun cs44 => fun h45 => 
      ∃ n46 : Int, (cs44 = [V.one (Cell.int IntKind.i64 n46)]) ∧
      I 53 [V.one (Cell.int IntKind.i64 (IntKind.i64.wrap (n46 + IntKind.i64.wrap (IntKind.i64.wrap ((IntKind.i64.wrap (n31 - 1)).tdiv (↑l35.len : Int)) * IntKind.i64.wrap (7919 + (IntKind.i64.wrap (n23 - 1)).tmod (↑l27.len : Int)))))), V.one (Cell.int IntKind.i64 n1)]
        (fun cs47 => fun h48 => 
        ∃ n49 : Int, (cs47 = [V.one (Cell.int IntKind.i64 n49)]) ∧
        Q [V.one (Cell.int IntKind.i64 n49)] h48) h45) h42)) h38)) h34)) h30)) h26)) h22))) h11))) h8)) h4)
theorem den21 (I : FuncId → List V → Post → T) (p0 : Option (Nat × Nat)) (n1 : Int) (Q : Post) : denF Go.Proofs.Tryd.prog 0 (⟨[], []⟩) I 21 [V.one (Cell.ptr p0), V.one (Cell.int IntKind.i64 n1)] Q = vc21 I p0 n1 Q := by kernel_rfl
/-- handbill/handmake.Below -/
def vc53 (I : FuncId → List V → Post → T) (n0 : Int) (n1 : Int) (Q : Post) : T :=
  ifT (decide (n1 < 1))
    (Q [V.one (Cell.int IntKind.i64 0)])
    (fun h2 =>
    (n1 ≠ 0) ∧
    (ifT (decide (n0.tmod n1 < 0))
      (Q [V.one (Cell.int IntKind.i64 (IntKind.i64.wrap (n0.tmod n1 + n1)))])
      (Q [V.one (Cell.int IntKind.i64 (n0.tmod n1))])) h2)
theorem den53 (I : FuncId → List V → Post → T) (n0 : Int) (n1 : Int) (Q : Post) : denF Go.Proofs.Tryd.prog 0 (⟨[], []⟩) I 53 [V.one (Cell.int IntKind.i64 n0), V.one (Cell.int IntKind.i64 n1)] Q = vc53 I n0 n1 Q := by kernel_rfl
/-- (*handbill/handmake.Stream).Part -/
def vc20 (I : FuncId → List V → Post → T) (p0 : Option (Nat × Nat)) (Q : Post) : T :=
  fun h1 =>
  I 21 [V.one (Cell.ptr p0), V.one (Cell.int IntKind.i64 1000)]
    (fun cs2 => fun h3 => 
    ∃ n4 : Int, (cs2 = [V.one (Cell.int IntKind.i64 n4)]) ∧
    (newK (YtdjancoknephnaaDoorVc.Obj.cells false [Cell.int IntKind.i64 0, Cell.int IntKind.i64 1, Cell.int IntKind.i64 (-1), Cell.int IntKind.i64 2, Cell.int IntKind.i64 3, Cell.int IntKind.i64 6, Cell.int IntKind.i64 (-4), Cell.int IntKind.i64 100, Cell.int IntKind.i64 4611686018427387904, Cell.int IntKind.i64 (-4611686018427387904), Cell.int IntKind.i64 4611686018427387905, Cell.int IntKind.i64 (-4611686018427387905), Cell.int IntKind.i64 2305843009213693953, Cell.int IntKind.i64 999999937, Cell.int IntKind.i64 1000000, Cell.int IntKind.i64 9223372036854775807, Cell.int IntKind.i64 (-9223372036854775808), Cell.int IntKind.i64 (IntKind.i64.wrap (n4 - 500))]) (fun i5 => fun h6 =>
    I 33 [V.one (Cell.ptr p0), V.one (Cell.slice 1 { a := some (i5, 0), len := 18 })]
      (fun cs7 => fun h8 => 
      ∃ n9 : Int, (cs7 = [V.one (Cell.int IntKind.i64 n9)]) ∧
      Q [V.one (Cell.int IntKind.i64 n9)] h8) h6)) h3) h1
theorem den20 (I : FuncId → List V → Post → T) (p0 : Option (Nat × Nat)) (Q : Post) : denF Go.Proofs.Tryd.prog 0 (⟨[], []⟩) I 20 [V.one (Cell.ptr p0)] Q = vc20 I p0 Q := by kernel_rfl
/-- (*handbill/handmake.Stream).Pick -/
def vc33 (I : FuncId → List V → Post → T) (p0 : Option (Nat × Nat)) (l1 : Sl) (Q : Post) : T :=
  fun h2 =>
  I 21 [V.one (Cell.ptr p0), V.one (Cell.int IntKind.i64 (↑l1.len : Int))]
    (fun cs3 => fun h4 => 
    ∃ n5 : Int, (cs3 = [V.one (Cell.int IntKind.i64 n5)]) ∧
    ((0 ≤ n5) ∧
    n5 < (↑l1.len : Int)) ∧
    (derefK l1.a (fun i6 => fun i7 => fun h8 =>
    ∃ n9 : Int, (h8.read i6 (i7 + n5.toNat * 1) 1 = some [Cell.int IntKind.i64 n9]) ∧
    Q [V.one (Cell.int IntKind.i64 n9)] h8)) h4) h2
theorem den33 (I : FuncId → List V → Post → T) (p0 : Option (Nat × Nat)) (l1 : Sl) (Q : Post) : denF Go.Proofs.Tryd.prog 0 (⟨[], []⟩) I 33 [V.one (Cell.ptr p0), V.one (Cell.slice 1 l1)] Q = vc33 I p0 l1 Q := by kernel_rfl
/-- (*handbill/handmake.Stream).Range -/
def vc6 (I : FuncId → List V → Post → T) (p0 : Option (Nat × Nat)) (n1 : Int) (n2 : Int) (Q : Post) : T :=
  ifT (decide (n2 < n1))
    (Q [V.one (Cell.int IntKind.i64 n1)])
    (fun h3 =>
    I 21 [V.one (Cell.ptr p0), V.one (Cell.int IntKind.i64 (IntKind.i64.wrap (IntKind.i64.wrap (n2 - n1) + 1)))]
      (fun cs4 => fun h5 => 
      ∃ n6 : Int, (cs4 = [V.one (Cell.int IntKind.i64 n6)]) ∧
      Q [V.one (Cell.int IntKind.i64 (IntKind.i64.wrap (n1 + n6)))] h5) h3)
theorem den6 (I : FuncId → List V → Post → T) (p0 : Option (Nat × Nat)) (n1 : Int) (n2 : Int) (Q : Post) : denF Go.Proofs.Tryd.prog 0 (⟨[], []⟩) I 6 [V.one (Cell.ptr p0), V.one (Cell.int IntKind.i64 n1), V.one (Cell.int IntKind.i64 n2)] Q = vc6 I p0 n1 n2 Q := by kernel_rfl
/-- handbill/measure.Percent -/
def vc7 (I : FuncId → List V → Post → T) (n0 : Int) (n1 : Int) (n2 : Int) (Q : Post) : T :=
  fun h3 =>
  I 22 [V.agg [Cell.int IntKind.i64 n0, Cell.int IntKind.i64 n1]]
    (fun cs4 => fun h5 => 
    ∃ b6 : Bool, (cs4 = [V.one (Cell.bool b6)]) ∧
    (ifT (!b6)
      (Q [V.one (Cell.str { data := #[] }), V.one (Cell.int IntKind.i64 3)])
      (fun h7 =>
      I 24 [V.one (Cell.int IntKind.i64 n0)]
        (fun cs8 => fun h9 => 
        ∃ n10 : Int, (cs8 = [V.one (Cell.int IntKind.u64 n10)]) ∧
        I 24 [V.one (Cell.int IntKind.i64 n1)]
          (fun cs11 => fun h12 => 
          ∃ n13 : Int, (cs11 = [V.one (Cell.int IntKind.u64 n13)]) ∧
          I 23 [V.one (Cell.int IntKind.u64 n10), V.one (Cell.int IntKind.u64 1), V.one (Cell.int IntKind.u64 n13), V.one (Cell.int IntKind.u64 1000000)]
            (fun cs14 => fun h15 => 
            ∃ n16 : Int, (cs14 = [V.one (Cell.int IntKind.i64 n16)]) ∧
            (ifT (decide (n16 > 0))
              (Q [V.one (Cell.str { data := #[] }), V.one (Cell.int IntKind.i64 2)])
              (fun h17 =>
              I 25 [V.one (Cell.int IntKind.i64 n2), V.one (Cell.int IntKind.i64 0), V.one (Cell.int IntKind.i64 6)]
                (fun cs18 => fun h19 => 
                ∃ b20 : Bool, (cs18 = [V.one (Cell.bool b20)]) ∧
                (ifT (!b20)
                  (Q [V.one (Cell.str { data := #[] }), V.one (Cell.int IntKind.i64 1)])
                  (loopK (A := Int × Int) ((100, 0))
                    (fun x21 => uncur fun n22 n23 => ifT (decide (n23 < n2))
                      (x21 ((IntKind.u64.wrap (n22 * 10), IntKind.i64.wrap (n23 + 1))))
                      (fun h24 =>
                      I 24 [V.one (Cell.int IntKind.i64 n0)]
                        (fun cs25 => fun h26 => 
                        ∃ n27 : Int, (cs25 = [V.one (Cell.int IntKind.u64 n27)]) ∧
                        I 26 [V.one (Cell.int IntKind.u64 n27), V.one (Cell.int IntKind.u64 n22)]
                          (fun cs28 => fun h29 => 
                          ∃ n30 : Int, ∃ n31 : Int, (cs28 = [V.one (Cell.int IntKind.u64 n30), V.one (Cell.int IntKind.u64 n31)]) ∧
                          I 24 [V.one (Cell.int IntKind.i64 n1)]
                            (fun cs32 => fun h33 => 
                            ∃ n34 : Int, (cs32 = [V.one (Cell.int IntKind.u64 n34)]) ∧
                            I 27 [V.one (Cell.int IntKind.u64 n30), V.one (Cell.int IntKind.u64 n31), V.one (Cell.int IntKind.u64 n34)]
                              (fun cs35 => fun h36 => 
                              ∃ n37 : Int, ∃ n38 : Int, (cs35 = [V.one (Cell.int IntKind.u64 n37), V.one (Cell.int IntKind.u64 n38)]) ∧
                              I 24 [V.one (Cell.int IntKind.i64 n1)]
                                (fun cs39 => fun h40 => 
                                ∃ n41 : Int, (cs39 = [V.one (Cell.int IntKind.u64 n41)]) ∧
                                (joinK (A := Int)
                                  (fun n42 => fun h43 => 
                                  I 28 [V.one (Cell.int IntKind.u64 n42), V.one (Cell.int IntKind.i64 10)]
                                    (fun cs44 => fun h45 => 
                                    ∃ s46 : ByteArray, (cs44 = [V.one (Cell.str s46)]) ∧
                                    I 29 [V.one (Cell.str { data := #[48] }), V.one (Cell.int IntKind.i64 (max (IntKind.i64.wrap (IntKind.i64.wrap (n2 + 1) - (↑s46.size : Int))) 0))]
                                      (fun cs47 => fun h48 => 
                                      ∃ s49 : ByteArray, (cs47 = [V.one (Cell.str s49)]) ∧
                                      (s49.size + s46.size ≤ 9223372036854775807) ∧
                                      (ifT (decide (n2 > 0))
                                        (fun h50 =>
                                        (((0 : Int) ≤ (0 : Int)) ∧
                                        (0 ≤ IntKind.i64.wrap ((↑(s49 ++ s46).size : Int) - n2)) ∧
                                        IntKind.i64.wrap ((↑(s49 ++ s46).size : Int) - n2) ≤ (↑(s49 ++ s46).size : Int)) ∧
                                        (((s49 ++ s46).extract 0 (IntKind.i64.wrap ((↑(s49 ++ s46).size : Int) - n2)).toNat).size + 1 ≤ 9223372036854775807) ∧
                                        ((0 ≤ IntKind.i64.wrap ((↑(s49 ++ s46).size : Int) - n2)) ∧
                                        (IntKind.i64.wrap ((↑(s49 ++ s46).size : Int) - n2) ≤ (↑(s49 ++ s46).size : Int)) ∧
                                        (↑(s49 ++ s46).size : Int) ≤ (↑(s49 ++ s46).size : Int)) ∧
                                        (((s49 ++ s46).extract 0 (IntKind.i64.wrap ((↑(s49 ++ s46).size : Int) - n2)).toNat ++ { data := #[46] }).size + ((s49 ++ s46).extract (IntKind.i64.wrap ((↑(s49 ++ s46).size : Int) - n2)).toNat (↑(s49 ++ s46).size : Int).toNat).size ≤ 9223372036854775807) ∧
                                        (ifT (decide (n0 < 0))
                                          (ifT (!decide (n42 = 0))
                                            (fun h51 =>
                                            (1 + ((s49 ++ s46).extract 0 (IntKind.i64.wrap ((↑(s49 ++ s46).size : Int) - n2)).toNat ++ { data := #[46] } ++ (s49 ++ s46).extract (IntKind.i64.wrap ((↑(s49 ++ s46).size : Int) - n2)).toNat (↑(s49 ++ s46).size : Int).toNat).size ≤ 9223372036854775807) ∧
                                            Q [V.one (Cell.str ({ data := #[45] } ++ ((s49 ++ s46).extract 0 (IntKind.i64.wrap ((↑(s49 ++ s46).size : Int) - n2)).toNat ++ { data := #[46] } ++ (s49 ++ s46).extract (IntKind.i64.wrap ((↑(s49 ++ s46).size : Int) - n2)).toNat (↑(s49 ++ s46).size : Int).toNat))), V.one (Cell.int IntKind.i64 0)] h51)
                                            (Q [V.one (Cell.str ((s49 ++ s46).extract 0 (IntKind.i64.wrap ((↑(s49 ++ s46).size : Int) - n2)).toNat ++ { data := #[46] } ++ (s49 ++ s46).extract (IntKind.i64.wrap ((↑(s49 ++ s46).size : Int) - n2)).toNat (↑(s49 ++ s46).size : Int).toNat)), V.one (Cell.int IntKind.i64 0)]))
                                          (Q [V.one (Cell.str ((s49 ++ s46).extract 0 (IntKind.i64.wrap ((↑(s49 ++ s46).size : Int) - n2)).toNat ++ { data := #[46] } ++ (s49 ++ s46).extract (IntKind.i64.wrap ((↑(s49 ++ s46).size : Int) - n2)).toNat (↑(s49 ++ s46).size : Int).toNat)), V.one (Cell.int IntKind.i64 0)])) h50)
                                        (ifT (decide (n0 < 0))
                                          (ifT (!decide (n42 = 0))
                                            (fun h52 =>
                                            (1 + (s49 ++ s46).size ≤ 9223372036854775807) ∧
                                            Q [V.one (Cell.str ({ data := #[45] } ++ (s49 ++ s46))), V.one (Cell.int IntKind.i64 0)] h52)
                                            (Q [V.one (Cell.str (s49 ++ s46)), V.one (Cell.int IntKind.i64 0)]))
                                          (Q [V.one (Cell.str (s49 ++ s46)), V.one (Cell.int IntKind.i64 0)]))) h48) h45) h43)
                                  (fun x53 => ifT (decide (IntKind.u64.wrap (2 * n38) ≥ n41))
                                    (x53 (IntKind.u64.wrap (n37 + 1)))
                                    (x53 n37))) h40) h36) h33) h29) h26) h24)))) h19) h17)) h15) h12) h9) h7)) h5) h3
theorem den7 (I : FuncId → List V → Post → T) (n0 : Int) (n1 : Int) (n2 : Int) (Q : Post) : denF Go.Proofs.Tryd.prog 4 (⟨[(509, 864691128455135744, [(9, tk Go.Proofs.Tryd.prog 50)])], [(122, 33285996608, [(6, tk Go.Proofs.Tryd.prog 50), (30, tk Go.Proofs.Tryd.prog 3)])]⟩) I 7 [V.agg [Cell.int IntKind.i64 n0, Cell.int IntKind.i64 n1], V.one (Cell.int IntKind.i64 n2)] Q = vc7 I n0 n1 n2 Q := by kernel_rfl
/-- handbill/measure.isRight -/
def vc22 (I : FuncId → List V → Post → T) (n0 : Int) (n1 : Int) (Q : Post) : T :=
  fun h2 =>
  I 25 [V.one (Cell.int IntKind.i64 n0), V.one (Cell.int IntKind.i64 (-4611686018427387904)), V.one (Cell.int IntKind.i64 4611686018427387904)]
    (fun cs3 => fun h4 => 
    ∃ b5 : Bool, (cs3 = [V.one (Cell.bool b5)]) ∧
    (ifT b5
      (fun h6 =>
      I 25 [V.one (Cell.int IntKind.i64 n1), V.one (Cell.int IntKind.i64 1), V.one (Cell.int IntKind.i64 4611686018427387904)]
        (fun cs7 => fun h8 => 
        ∃ b9 : Bool, (cs7 = [V.one (Cell.bool b9)]) ∧
        (ifT b9
          (fun h10 =>
          I 24 [V.one (Cell.int IntKind.i64 n0)]
            (fun cs11 => fun h12 => 
            ∃ n13 : Int, (cs11 = [V.one (Cell.int IntKind.u64 n13)]) ∧
            I 24 [V.one (Cell.int IntKind.i64 n1)]
              (fun cs14 => fun h15 => 
              ∃ n16 : Int, (cs14 = [V.one (Cell.int IntKind.u64 n16)]) ∧
              I 54 [V.one (Cell.int IntKind.u64 n13), V.one (Cell.int IntKind.u64 n16)]
                (fun cs17 => fun h18 => 
                ∃ n19 : Int, (cs17 = [V.one (Cell.int IntKind.u64 n19)]) ∧
                Q [V.one (Cell.bool (decide (n19 = 1)))] h18) h15) h12) h10)
          (Q [V.one (Cell.bool false)])) h8) h6)
      (Q [V.one (Cell.bool false)])) h4) h2
theorem den22 (I : FuncId → List V → Post → T) (n0 : Int) (n1 : Int) (Q : Post) : denF Go.Proofs.Tryd.prog 2 (⟨[], []⟩) I 22 [V.agg [Cell.int IntKind.i64 n0, Cell.int IntKind.i64 n1]] Q = vc22 I n0 n1 Q := by kernel_rfl
/-- handbill/measure.size -/
def vc24 (I : FuncId → List V → Post → T) (n0 : Int) (Q : Post) : T :=
  ifT (decide (n0 < 0))
    (Q [V.one (Cell.int IntKind.u64 (IntKind.u64.wrap (0 - IntKind.u64.wrap n0)))])
    (Q [V.one (Cell.int IntKind.u64 (IntKind.u64.wrap n0))])
theorem den24 (I : FuncId → List V → Post → T) (n0 : Int) (Q : Post) : denF Go.Proofs.Tryd.prog 0 (⟨[], []⟩) I 24 [V.one (Cell.int IntKind.i64 n0)] Q = vc24 I n0 Q := by kernel_rfl
/-- handbill/measure.within -/
def vc25 (I : FuncId → List V → Post → T) (n0 : Int) (n1 : Int) (n2 : Int) (Q : Post) : T :=
  ifT (decide (n1 ≤ n0))
    (Q [V.one (Cell.bool (decide (n0 ≤ n2)))])
    (Q [V.one (Cell.bool false)])
theorem den25 (I : FuncId → List V → Post → T) (n0 : Int) (n1 : Int) (n2 : Int) (Q : Post) : denF Go.Proofs.Tryd.prog 0 (⟨[], []⟩) I 25 [V.one (Cell.int IntKind.i64 n0), V.one (Cell.int IntKind.i64 n1), V.one (Cell.int IntKind.i64 n2)] Q = vc25 I n0 n1 n2 Q := by kernel_rfl
/-- handbill/measure.divisor -/
def vc54 (I : FuncId → List V → Post → T) (n0 : Int) (n1 : Int) (Q : Post) : T :=
  loopK (A := Int × Int) ((n0, n1))
    (fun x2 => uncur fun n3 n4 => ifT (!decide (n4 = 0))
      (fun h5 =>
      (n4 ≠ 0) ∧
      x2 ((n4, n3.tmod n4)) h5)
      (Q [V.one (Cell.int IntKind.u64 n3)]))
theorem den54 (I : FuncId → List V → Post → T) (n0 : Int) (n1 : Int) (Q : Post) : denF Go.Proofs.Tryd.prog 0 (⟨[], [(12, 2019, [(0, tk Go.Proofs.Tryd.prog 50), (1, tk Go.Proofs.Tryd.prog 50)])]⟩) I 54 [V.one (Cell.int IntKind.u64 n0), V.one (Cell.int IntKind.u64 n1)] Q = vc54 I n0 n1 Q := by kernel_rfl
/-- handbill/measure.products -/
def vc23 (I : FuncId → List V → Post → T) (n0 : Int) (n1 : Int) (n2 : Int) (n3 : Int) (Q : Post) : T :=
  fun h4 =>
  I 26 [V.one (Cell.int IntKind.u64 n0), V.one (Cell.int IntKind.u64 n1)]
    (fun cs5 => fun h6 => 
    ∃ n7 : Int, ∃ n8 : Int, (cs5 = [V.one (Cell.int IntKind.u64 n7), V.one (Cell.int IntKind.u64 n8)]) ∧
    I 26 [V.one (Cell.int IntKind.u64 n2), V.one (Cell.int IntKind.u64 n3)]
      (fun cs9 => fun h10 => 
      ∃ n11 : Int, ∃ n12 : Int, (cs9 = [V.one (Cell.int IntKind.u64 n11), V.one (Cell.int IntKind.u64 n12)]) ∧
      I 56 [V.one (Cell.int IntKind.u64 n7), V.one (Cell.int IntKind.u64 n11)]
        (fun cs13 => fun h14 => 
        ∃ n15 : Int, (cs13 = [V.one (Cell.int IntKind.i64 n15)]) ∧
        I 56 [V.one (Cell.int IntKind.u64 n8), V.one (Cell.int IntKind.u64 n12)]
          (fun cs16 => fun h17 => 
          ∃ n18 : Int, (cs16 = [V.one (Cell.int IntKind.i64 n18)]) ∧
          (newK (YtdjancoknephnaaDoorVc.Obj.cells false [Cell.int IntKind.i64 n15, Cell.int IntKind.i64 n18]) (fun i19 => fun h20 =>
          I 55 [V.one (Cell.slice 1 { a := some (i19, 0), len := 2 })]
            (fun cs21 => fun h22 => 
            ∃ n23 : Int, (cs21 = [V.one (Cell.int IntKind.i64 n23)]) ∧
            Q [V.one (Cell.int IntKind.i64 n23)] h22) h20)) h17) h14) h10) h6) h4
theorem den23 (I : FuncId → List V → Post → T) (n0 : Int) (n1 : Int) (n2 : Int) (n3 : Int) (Q : Post) : denF Go.Proofs.Tryd.prog 0 (⟨[], []⟩) I 23 [V.one (Cell.int IntKind.u64 n0), V.one (Cell.int IntKind.u64 n1), V.one (Cell.int IntKind.u64 n2), V.one (Cell.int IntKind.u64 n3)] Q = vc23 I n0 n1 n2 n3 Q := by kernel_rfl
/-- math/bits.Mul64 -/
def vc26 (I : FuncId → List V → Post → T) (n0 : Int) (n1 : Int) (Q : Post) : T :=
  Q [V.one (Cell.int IntKind.u64 (IntKind.u64.wrap (IntKind.u64.wrap (IntKind.u64.wrap (shr IntKind.u64 n0 32 * shr IntKind.u64 n1 32) + shr IntKind.u64 (IntKind.u64.wrap (IntKind.u64.wrap (shr IntKind.u64 n0 32 * IntKind.u64.wrap (↑(BitVec.ofInt 64 n1 &&& BitVec.ofInt 64 4294967295).toNat : Int)) + shr IntKind.u64 (IntKind.u64.wrap (IntKind.u64.wrap (↑(BitVec.ofInt 64 n0 &&& BitVec.ofInt 64 4294967295).toNat : Int) * IntKind.u64.wrap (↑(BitVec.ofInt 64 n1 &&& BitVec.ofInt 64 4294967295).toNat : Int))) 32)) 32) + shr IntKind.u64 (IntKind.u64.wrap (IntKind.u64.wrap (↑(BitVec.ofInt 64 (IntKind.u64.wrap (IntKind.u64.wrap (shr IntKind.u64 n0 32 * IntKind.u64.wrap (↑(BitVec.ofInt 64 n1 &&& BitVec.ofInt 64 4294967295).toNat : Int)) + shr IntKind.u64 (IntKind.u64.wrap (IntKind.u64.wrap (↑(BitVec.ofInt 64 n0 &&& BitVec.ofInt 64 4294967295).toNat : Int) * IntKind.u64.wrap (↑(BitVec.ofInt 64 n1 &&& BitVec.ofInt 64 4294967295).toNat : Int))) 32)) &&& BitVec.ofInt 64 4294967295).toNat : Int) + IntKind.u64.wrap (IntKind.u64.wrap (↑(BitVec.ofInt 64 n0 &&& BitVec.ofInt 64 4294967295).toNat : Int) * shr IntKind.u64 n1 32))) 32))), V.one (Cell.int IntKind.u64 (IntKind.u64.wrap (n0 * n1)))]
theorem den26 (I : FuncId → List V → Post → T) (n0 : Int) (n1 : Int) (Q : Post) : denF Go.Proofs.Tryd.prog 0 (⟨[], []⟩) I 26 [V.one (Cell.int IntKind.u64 n0), V.one (Cell.int IntKind.u64 n1)] Q = vc26 I n0 n1 Q := by kernel_rfl
/-- cmp.Or[int] -/
def vc55 (I : FuncId → List V → Post → T) (l0 : Sl) (Q : Post) : T :=
  loopK (A := Int) 0
    (fun x1 => fun n2 => ifT (decide (n2 < (↑l0.len : Int)))
      (fun h3 =>
      ((0 ≤ n2) ∧
      n2 < (↑l0.len : Int)) ∧
      (derefK l0.a (fun i4 => fun i5 => fun h6 =>
      ∃ n7 : Int, (h6.read i4 (i5 + n2.toNat * 1) 1 = some [Cell.int IntKind.i64 n7]) ∧
      (ifT (!decide (n7 = 0))
        (Q [V.one (Cell.int IntKind.i64 n7)])
        (x1 (IntKind.i64.wrap (n2 + 1)))) h6)) h3)
      (Q [V.one (Cell.int IntKind.i64 0)]))
theorem den55 (I : FuncId → List V → Post → T) (l0 : Sl) (Q : Post) : denF Go.Proofs.Tryd.prog 0 (⟨[], [(58, 130852, [(8, tk Go.Proofs.Tryd.prog 3)])]⟩) I 55 [V.one (Cell.slice 1 l0)] Q = vc55 I l0 Q := by kernel_rfl
/-- cmp.Compare[uint64] -/
def vc56 (I : FuncId → List V → Post → T) (n0 : Int) (n1 : Int) (Q : Post) : T :=
  fun h2 =>
  I 80 [V.one (Cell.int IntKind.u64 n0)]
    (fun cs3 => fun h4 => 
    ∃ b5 : Bool, (cs3 = [V.one (Cell.bool b5)]) ∧
    I 80 [V.one (Cell.int IntKind.u64 n1)]
      (fun cs6 => fun h7 => 
      ∃ b8 : Bool, (cs6 = [V.one (Cell.bool b8)]) ∧
      (ifT b5
        (ifT b8
          (Q [V.one (Cell.int IntKind.i64 0)])
          (Q [V.one (Cell.int IntKind.i64 (-1))]))
        (ifT b8
          (Q [V.one (Cell.int IntKind.i64 1)])
          (ifT (decide (n0 < n1))
            (Q [V.one (Cell.int IntKind.i64 (-1))])
            (ifT (decide (n0 > n1))
              (Q [V.one (Cell.int IntKind.i64 1)])
              (Q [V.one (Cell.int IntKind.i64 0)]))))) h7) h4) h2
theorem den56 (I : FuncId → List V → Post → T) (n0 : Int) (n1 : Int) (Q : Post) : denF Go.Proofs.Tryd.prog 0 (⟨[], []⟩) I 56 [V.one (Cell.int IntKind.u64 n0), V.one (Cell.int IntKind.u64 n1)] Q = vc56 I n0 n1 Q := by kernel_rfl
/-- cmp.isNaN[uint64] -/
def vc80 (I : FuncId → List V → Post → T) (n0 : Int) (Q : Post) : T :=
  Q [V.one (Cell.bool (!decide (n0 = n0)))]
theorem den80 (I : FuncId → List V → Post → T) (n0 : Int) (Q : Post) : denF Go.Proofs.Tryd.prog 0 (⟨[], []⟩) I 80 [V.one (Cell.int IntKind.u64 n0)] Q = vc80 I n0 Q := by kernel_rfl
/-- math/bits.Div64 -/
def vc27 (I : FuncId → List V → Post → T) (n0 : Int) (n1 : Int) (n2 : Int) (Q : Post) : T :=
  joinK (A := PUnit)
    (fun x3 => joinK (A := PUnit)
      (fun x4 => ifT (decide (n0 = 0))
        (fun h5 =>
        (n2 ≠ 0) ∧
        (n2 ≠ 0) ∧
        Q [V.one (Cell.int IntKind.u64 (IntKind.u64.wrap (n1.tdiv n2))), V.one (Cell.int IntKind.u64 (n1.tmod n2))] h5)
        (fun h6 =>
        I 57 [V.one (Cell.int IntKind.u64 n2)]
          (fun cs7 => fun h8 => 
          ∃ n9 : Int, (cs7 = [V.one (Cell.int IntKind.i64 n9)]) ∧
          (0 ≤ IntKind.u64.wrap n9) ∧
          (0 ≤ IntKind.u64.wrap n9) ∧
          (0 ≤ IntKind.u64.wrap (64 - IntKind.u64.wrap n9)) ∧
          (0 ≤ IntKind.u64.wrap n9) ∧
          (shr IntKind.u64 (shl IntKind.u64 n2 (IntKind.u64.wrap n9)) 32 ≠ 0) ∧
          (joinK (A := Int)
            (fun n10 => fun h11 => 
            (shr IntKind.u64 (shl IntKind.u64 n2 (IntKind.u64.wrap n9)) 32 ≠ 0) ∧
            (loopK (A := Int × Int) ((IntKind.u64.wrap (IntKind.u64.wrap (IntKind.u64.wrap (IntKind.u64.wrap (IntKind.u64.wrap (↑(BitVec.ofInt 64 (shl IntKind.u64 n0 (IntKind.u64.wrap n9)) ||| BitVec.ofInt 64 (shr IntKind.u64 n1 (IntKind.u64.wrap (64 - IntKind.u64.wrap n9)))).toNat : Int) * 4294967296) + shr IntKind.u64 (shl IntKind.u64 n1 (IntKind.u64.wrap n9)) 32) - IntKind.u64.wrap (n10 * shl IntKind.u64 n2 (IntKind.u64.wrap n9))) - IntKind.u64.wrap (IntKind.u64.wrap ((IntKind.u64.wrap (IntKind.u64.wrap (IntKind.u64.wrap (IntKind.u64.wrap (↑(BitVec.ofInt 64 (shl IntKind.u64 n0 (IntKind.u64.wrap n9)) ||| BitVec.ofInt 64 (shr IntKind.u64 n1 (IntKind.u64.wrap (64 - IntKind.u64.wrap n9)))).toNat : Int) * 4294967296) + shr IntKind.u64 (shl IntKind.u64 n1 (IntKind.u64.wrap n9)) 32) - IntKind.u64.wrap (n10 * shl IntKind.u64 n2 (IntKind.u64.wrap n9)))).tdiv (shr IntKind.u64 (shl IntKind.u64 n2 (IntKind.u64.wrap n9)) 32)) * shr IntKind.u64 (shl IntKind.u64 n2 (IntKind.u64.wrap n9)) 32)), IntKind.u64.wrap ((IntKind.u64.wrap (IntKind.u64.wrap (IntKind.u64.wrap (IntKind.u64.wrap (↑(BitVec.ofInt 64 (shl IntKind.u64 n0 (IntKind.u64.wrap n9)) ||| BitVec.ofInt 64 (shr IntKind.u64 n1 (IntKind.u64.wrap (64 - IntKind.u64.wrap n9)))).toNat : Int) * 4294967296) + shr IntKind.u64 (shl IntKind.u64 n1 (IntKind.u64.wrap n9)) 32) - IntKind.u64.wrap (n10 * shl IntKind.u64 n2 (IntKind.u64.wrap n9)))).tdiv (shr IntKind.u64 (shl IntKind.u64 n2 (IntKind.u64.wrap n9)) 32))))
              (fun x12 => uncur fun n13 n14 => ifT (decide (n14 ≥ 4294967296))
                (ifT (decide (IntKind.u64.wrap (n13 + shr IntKind.u64 (shl IntKind.u64 n2 (IntKind.u64.wrap n9)) 32) ≥ 4294967296))
                  (fun h15 =>
                  (0 ≤ IntKind.u64.wrap n9) ∧
                  Q [V.one (Cell.int IntKind.u64 (IntKind.u64.wrap (IntKind.u64.wrap (n10 * 4294967296) + IntKind.u64.wrap (n14 - 1)))), V.one (Cell.int IntKind.u64 (shr IntKind.u64 (IntKind.u64.wrap (IntKind.u64.wrap (IntKind.u64.wrap (IntKind.u64.wrap (IntKind.u64.wrap (IntKind.u64.wrap (IntKind.u64.wrap (↑(BitVec.ofInt 64 (shl IntKind.u64 n0 (IntKind.u64.wrap n9)) ||| BitVec.ofInt 64 (shr IntKind.u64 n1 (IntKind.u64.wrap (64 - IntKind.u64.wrap n9)))).toNat : Int) * 4294967296) + shr IntKind.u64 (shl IntKind.u64 n1 (IntKind.u64.wrap n9)) 32) - IntKind.u64.wrap (n10 * shl IntKind.u64 n2 (IntKind.u64.wrap n9))) * 4294967296) + IntKind.u64.wrap (↑(BitVec.ofInt 64 (shl IntKind.u64 n1 (IntKind.u64.wrap n9)) &&& BitVec.ofInt 64 4294967295).toNat : Int)) - IntKind.u64.wrap (IntKind.u64.wrap (n14 - 1) * shl IntKind.u64 n2 (IntKind.u64.wrap n9)))) (IntKind.u64.wrap n9)))] h15)
                  (x12 ((IntKind.u64.wrap (n13 + shr IntKind.u64 (shl IntKind.u64 n2 (IntKind.u64.wrap n9)) 32), IntKind.u64.wrap (n14 - 1)))))
                (ifT (decide (IntKind.u64.wrap (n14 * IntKind.u64.wrap (↑(BitVec.ofInt 64 (shl IntKind.u64 n2 (IntKind.u64.wrap n9)) &&& BitVec.ofInt 64 4294967295).toNat : Int)) > IntKind.u64.wrap (IntKind.u64.wrap (4294967296 * n13) + IntKind.u64.wrap (↑(BitVec.ofInt 64 (shl IntKind.u64 n1 (IntKind.u64.wrap n9)) &&& BitVec.ofInt 64 4294967295).toNat : Int))))
                  (ifT (decide (IntKind.u64.wrap (n13 + shr IntKind.u64 (shl IntKind.u64 n2 (IntKind.u64.wrap n9)) 32) ≥ 4294967296))
                    (fun h16 =>
                    (0 ≤ IntKind.u64.wrap n9) ∧
                    Q [V.one (Cell.int IntKind.u64 (IntKind.u64.wrap (IntKind.u64.wrap (n10 * 4294967296) + IntKind.u64.wrap (n14 - 1)))), V.one (Cell.int IntKind.u64 (shr IntKind.u64 (IntKind.u64.wrap (IntKind.u64.wrap (IntKind.u64.wrap (IntKind.u64.wrap (IntKind.u64.wrap (IntKind.u64.wrap (IntKind.u64.wrap (↑(BitVec.ofInt 64 (shl IntKind.u64 n0 (IntKind.u64.wrap n9)) ||| BitVec.ofInt 64 (shr IntKind.u64 n1 (IntKind.u64.wrap (64 - IntKind.u64.wrap n9)))).toNat : Int) * 4294967296) + shr IntKind.u64 (shl IntKind.u64 n1 (IntKind.u64.wrap n9)) 32) - IntKind.u64.wrap (n10 * shl IntKind.u64 n2 (IntKind.u64.wrap n9))) * 4294967296) + IntKind.u64.wrap (↑(BitVec.ofInt 64 (shl IntKind.u64 n1 (IntKind.u64.wrap n9)) &&& BitVec.ofInt 64 4294967295).toNat : Int)) - IntKind.u64.wrap (IntKind.u64.wrap (n14 - 1) * shl IntKind.u64 n2 (IntKind.u64.wrap n9)))) (IntKind.u64.wrap n9)))] h16)
                    (x12 ((IntKind.u64.wrap (n13 + shr IntKind.u64 (shl IntKind.u64 n2 (IntKind.u64.wrap n9)) 32), IntKind.u64.wrap (n14 - 1)))))
                  (fun h17 =>
                  (0 ≤ IntKind.u64.wrap n9) ∧
                  Q [V.one (Cell.int IntKind.u64 (IntKind.u64.wrap (IntKind.u64.wrap (n10 * 4294967296) + n14))), V.one (Cell.int IntKind.u64 (shr IntKind.u64 (IntKind.u64.wrap (IntKind.u64.wrap (IntKind.u64.wrap (IntKind.u64.wrap (IntKind.u64.wrap (IntKind.u64.wrap (IntKind.u64.wrap (↑(BitVec.ofInt 64 (shl IntKind.u64 n0 (IntKind.u64.wrap n9)) ||| BitVec.ofInt 64 (shr IntKind.u64 n1 (IntKind.u64.wrap (64 - IntKind.u64.wrap n9)))).toNat : Int) * 4294967296) + shr IntKind.u64 (shl IntKind.u64 n1 (IntKind.u64.wrap n9)) 32) - IntKind.u64.wrap (n10 * shl IntKind.u64 n2 (IntKind.u64.wrap n9))) * 4294967296) + IntKind.u64.wrap (↑(BitVec.ofInt 64 (shl IntKind.u64 n1 (IntKind.u64.wrap n9)) &&& BitVec.ofInt 64 4294967295).toNat : Int)) - IntKind.u64.wrap (n14 * shl IntKind.u64 n2 (IntKind.u64.wrap n9)))) (IntKind.u64.wrap n9)))] h17)))) h11)
            (fun x18 => loopK (A := Int × Int) ((IntKind.u64.wrap ((IntKind.u64.wrap (↑(BitVec.ofInt 64 (shl IntKind.u64 n0 (IntKind.u64.wrap n9)) ||| BitVec.ofInt 64 (shr IntKind.u64 n1 (IntKind.u64.wrap (64 - IntKind.u64.wrap n9)))).toNat : Int)).tdiv (shr IntKind.u64 (shl IntKind.u64 n2 (IntKind.u64.wrap n9)) 32)), IntKind.u64.wrap (IntKind.u64.wrap (↑(BitVec.ofInt 64 (shl IntKind.u64 n0 (IntKind.u64.wrap n9)) ||| BitVec.ofInt 64 (shr IntKind.u64 n1 (IntKind.u64.wrap (64 - IntKind.u64.wrap n9)))).toNat : Int) - IntKind.u64.wrap (IntKind.u64.wrap ((IntKind.u64.wrap (↑(BitVec.ofInt 64 (shl IntKind.u64 n0 (IntKind.u64.wrap n9)) ||| BitVec.ofInt 64 (shr IntKind.u64 n1 (IntKind.u64.wrap (64 - IntKind.u64.wrap n9)))).toNat : Int)).tdiv (shr IntKind.u64 (shl IntKind.u64 n2 (IntKind.u64.wrap n9)) 32)) * shr IntKind.u64 (shl IntKind.u64 n2 (IntKind.u64.wrap n9)) 32))))
              (fun x19 => uncur fun n20 n21 => ifT (decide (n20 ≥ 4294967296))
                (ifT (decide (IntKind.u64.wrap (n21 + shr IntKind.u64 (shl IntKind.u64 n2 (IntKind.u64.wrap n9)) 32) ≥ 4294967296))
                  (x18 (IntKind.u64.wrap (n20 - 1)))
                  (x19 ((IntKind.u64.wrap (n20 - 1), IntKind.u64.wrap (n21 + shr IntKind.u64 (shl IntKind.u64 n2 (IntKind.u64.wrap n9)) 32)))))
                (ifT (decide (IntKind.u64.wrap (n20 * IntKind.u64.wrap (↑(BitVec.ofInt 64 (shl IntKind.u64 n2 (IntKind.u64.wrap n9)) &&& BitVec.ofInt 64 4294967295).toNat : Int)) > IntKind.u64.wrap (IntKind.u64.wrap (4294967296 * n21) + shr IntKind.u64 (shl IntKind.u64 n1 (IntKind.u64.wrap n9)) 32)))
                  (ifT (decide (IntKind.u64.wrap (n21 + shr IntKind.u64 (shl IntKind.u64 n2 (IntKind.u64.wrap n9)) 32) ≥ 4294967296))
                    (x18 (IntKind.u64.wrap (n20 - 1)))
                    (x19 ((IntKind.u64.wrap (n20 - 1), IntKind.u64.wrap (n21 + shr IntKind.u64 (shl IntKind.u64 n2 (IntKind.u64.wrap n9)) 32)))))
                  (x18 n20))))) h8) h6))
      (fun x22 => ifT (decide (n2 ≤ n0))
        (globK 1 (fun i23 => fun i24 => fun h25 => 
        (h25.read i24 0 1 = some [Cell.any]) ∧
        (no) h25))
        (x22 ())))
    (fun x26 => ifT (decide (n2 = 0))
      (globK 0 (fun i27 => fun i28 => fun h29 => 
      (h29.read i28 0 1 = some [Cell.any]) ∧
      (no) h29))
      (x26 ()))
theorem den27 (I : FuncId → List V → Post → T) (n0 : Int) (n1 : Int) (n2 : Int) (Q : Post) : denF Go.Proofs.Tryd.prog 0 (⟨[(13, 2097152, []), (29, 33554432, []), (65534, 77371104881383677504880640, [(15, tk Go.Proofs.Tryd.prog 50)])], [(131068, 77371104881383677504880640, [(15, tk Go.Proofs.Tryd.prog 50), (16, tk Go.Proofs.Tryd.prog 50)]), (2097148, 2658450920967430832890008133748195328, [(16, tk Go.Proofs.Tryd.prog 50), (18, tk Go.Proofs.Tryd.prog 50)])]⟩) I 27 [V.one (Cell.int IntKind.u64 n0), V.one (Cell.int IntKind.u64 n1), V.one (Cell.int IntKind.u64 n2)] Q = vc27 I n0 n1 n2 Q := by kernel_rfl
/-- math/bits.LeadingZeros64 -/
def vc57 (I : FuncId → List V → Post → T) (n0 : Int) (Q : Post) : T :=
  fun h1 =>
  I 81 [V.one (Cell.int IntKind.u64 n0)]
    (fun cs2 => fun h3 => 
    ∃ n4 : Int, (cs2 = [V.one (Cell.int IntKind.i64 n4)]) ∧
    Q [V.one (Cell.int IntKind.i64 (IntKind.i64.wrap (64 - n4)))] h3) h1
theorem den57 (I : FuncId → List V → Post → T) (n0 : Int) (Q : Post) : denF Go.Proofs.Tryd.prog 0 (⟨[], []⟩) I 57 [V.one (Cell.int IntKind.u64 n0)] Q = vc57 I n0 Q := by kernel_rfl
/-- math/bits.Len64 -/
def vc81 (I : FuncId → List V → Post → T) (n0 : Int) (Q : Post) : T :=
  joinK (A := Int × Int)
    (uncur fun n1 n2 => ifT (decide (n1 ≥ 65536))
      (ifT (decide (shr IntKind.u64 n1 16 ≥ 256))
        (fun h3 =>
        ((0 ≤ IntKind.u8.wrap (shr IntKind.u64 (shr IntKind.u64 n1 16) 8)) ∧
        IntKind.u8.wrap (shr IntKind.u64 (shr IntKind.u64 n1 16) 8) < (↑256 : Int)) ∧
        Q [V.one (Cell.int IntKind.i64 (IntKind.i64.wrap (IntKind.i64.wrap (IntKind.i64.wrap (n2 + 16) + 8) + IntKind.i64.wrap (byteAt len8S (IntKind.u8.wrap (shr IntKind.u64 (shr IntKind.u64 n1 16) 8))))))] h3)
        (fun h4 =>
        ((0 ≤ IntKind.u8.wrap (shr IntKind.u64 n1 16)) ∧
        IntKind.u8.wrap (shr IntKind.u64 n1 16) < (↑256 : Int)) ∧
        Q [V.one (Cell.int IntKind.i64 (IntKind.i64.wrap (IntKind.i64.wrap (n2 + 16) + IntKind.i64.wrap (byteAt len8S (IntKind.u8.wrap (shr IntKind.u64 n1 16))))))] h4))
      (ifT (decide (n1 ≥ 256))
        (fun h5 =>
        ((0 ≤ IntKind.u8.wrap (shr IntKind.u64 n1 8)) ∧
        IntKind.u8.wrap (shr IntKind.u64 n1 8) < (↑256 : Int)) ∧
        Q [V.one (Cell.int IntKind.i64 (IntKind.i64.wrap (IntKind.i64.wrap (n2 + 8) + IntKind.i64.wrap (byteAt len8S (IntKind.u8.wrap (shr IntKind.u64 n1 8))))))] h5)
        (fun h6 =>
        ((0 ≤ IntKind.u8.wrap n1) ∧
        IntKind.u8.wrap n1 < (↑256 : Int)) ∧
        Q [V.one (Cell.int IntKind.i64 (IntKind.i64.wrap (n2 + IntKind.i64.wrap (byteAt len8S (IntKind.u8.wrap n1)))))] h6)))
    (fun x7 => ifT (decide (n0 ≥ 4294967296))
      (x7 ((shr IntKind.u64 n0 32, 32)))
      (x7 ((n0, 0))))
theorem den81 (I : FuncId → List V → Post → T) (n0 : Int) (Q : Post) : denF Go.Proofs.Tryd.prog 0 (⟨[(13, 101, [(0, tk Go.Proofs.Tryd.prog 50), (2, tk Go.Proofs.Tryd.prog 3)])], []⟩) I 81 [V.one (Cell.int IntKind.u64 n0)] Q = vc81 I n0 Q := by kernel_rfl
/-- strconv.FormatUint -/
def vc28 (I : FuncId → List V → Post → T) (n0 : Int) (n1 : Int) (Q : Post) : T :=
  fun h2 =>
  I 58 [V.one (Cell.int IntKind.u64 n0), V.one (Cell.int IntKind.i64 n1)]
    (fun cs3 => fun h4 => 
    ∃ s5 : ByteArray, (cs3 = [V.one (Cell.str s5)]) ∧
    Q [V.one (Cell.str s5)] h4) h2
theorem den28 (I : FuncId → List V → Post → T) (n0 : Int) (n1 : Int) (Q : Post) : denF Go.Proofs.Tryd.prog 0 (⟨[], []⟩) I 28 [V.one (Cell.int IntKind.u64 n0), V.one (Cell.int IntKind.i64 n1)] Q = vc28 I n0 n1 Q := by kernel_rfl
/-- internal/strconv.FormatUint -/
def vc58 (I : FuncId → List V → Post → T) (n0 : Int) (n1 : Int) (Q : Post) : T :=
  ifT (decide (n1 = 10))
    (ifT (decide (n0 < 100))
      (fun h2 =>
      I 82 [V.one (Cell.int IntKind.i64 (IntKind.i64.wrap n0))]
        (fun cs3 => fun h4 => 
        ∃ s5 : ByteArray, (cs3 = [V.one (Cell.str s5)]) ∧
        Q [V.one (Cell.str s5)] h4) h2)
      (fun h6 =>
      (newK (YtdjancoknephnaaDoorVc.Obj.cells false [Cell.int IntKind.u8 0, Cell.int IntKind.u8 0, Cell.int IntKind.u8 0, Cell.int IntKind.u8 0, Cell.int IntKind.u8 0, Cell.int IntKind.u8 0, Cell.int IntKind.u8 0, Cell.int IntKind.u8 0, Cell.int IntKind.u8 0, Cell.int IntKind.u8 0, Cell.int IntKind.u8 0, Cell.int IntKind.u8 0, Cell.int IntKind.u8 0, Cell.int IntKind.u8 0, Cell.int IntKind.u8 0, Cell.int IntKind.u8 0, Cell.int IntKind.u8 0, Cell.int IntKind.u8 0, Cell.int IntKind.u8 0, Cell.int IntKind.u8 0, Cell.int IntKind.u8 0, Cell.int IntKind.u8 0, Cell.int IntKind.u8 0, Cell.int IntKind.u8 0]) (fun i7 => fun h8 => 
      I 83 [V.one (Cell.int IntKind.u64 n0)]
        (fun cs9 => fun h10 => 
        ∃ n11 : Int, (cs9 = [V.one (Cell.int IntKind.i64 n11)]) ∧
        (((0 : Int) ≤ (0 : Int)) ∧
        (0 ≤ n11) ∧
        n11 ≤ (↑24 : Int)) ∧
        (roomAt h10 i7 24) ∧
        I 84 [V.one (Cell.slice 1 { a := some (i7, 0), len := n11.toNat - 0 }), V.one (Cell.int IntKind.u64 n0)]
          (fun cs12 => fun h13 => 
          (cs12 = []) ∧
          (((0 : Int) ≤ (0 : Int)) ∧
          (0 ≤ n11) ∧
          n11 ≤ (↑24 : Int)) ∧
          (roomAt h13 i7 24) ∧
          ∃ s14 : ByteArray, (h13.sl 1 { a := some (i7, 0), len := n11.toNat - 0 } = some (byteCells s14)) ∧
          Q [V.one (Cell.str s14)] h13) h10) h8)) h6))
    (fun h15 =>
    I 85 [V.one (Cell.slice 1 { a := none, len := 0 }), V.one (Cell.int IntKind.u64 n0), V.one (Cell.int IntKind.i64 n1), V.one (Cell.bool false), V.one (Cell.bool false)]
      (fun cs16 => fun h17 => 
      ∃ l18 : Sl, ∃ s19 : ByteArray, (cs16 = [V.one (Cell.slice 1 l18), V.one (Cell.str s19)]) ∧
      Q [V.one (Cell.str s19)] h17) h15)
theorem den58 (I : FuncId → List V → Post → T) (n0 : Int) (n1 : Int) (Q : Post) : denF Go.Proofs.Tryd.prog 0 (⟨[], []⟩) I 58 [V.one (Cell.int IntKind.u64 n0), V.one (Cell.int IntKind.i64 n1)] Q = vc58 I n0 n1 Q := by kernel_rfl
/-- internal/strconv.small -/
def vc82 (I : FuncId → List V → Post → T) (n0 : Int) (Q : Post) : T :=
  ifT (decide (n0 < 10))
    (fun h1 =>
    ((0 ≤ n0) ∧
    (n0 ≤ IntKind.i64.wrap (n0 + 1)) ∧
    IntKind.i64.wrap (n0 + 1) ≤ (↑36 : Int)) ∧
    Q [V.one (Cell.str (({ data := #[48, 49, 50, 51, 52, 53, 54, 55, 56, 57, 97, 98, 99, 100, 101, 102, 103, 104, 105, 106, 107, 108, 109, 110, 111, 112, 113, 114, 115, 116, 117, 118, 119, 120, 121, 122] } : ByteArray).extract n0.toNat (IntKind.i64.wrap (n0 + 1)).toNat))] h1)
    (fun h2 =>
    ((0 ≤ IntKind.i64.wrap (n0 * 2)) ∧
    (IntKind.i64.wrap (n0 * 2) ≤ IntKind.i64.wrap (IntKind.i64.wrap (n0 * 2) + 2)) ∧
    IntKind.i64.wrap (IntKind.i64.wrap (n0 * 2) + 2) ≤ (↑200 : Int)) ∧
    Q [V.one (Cell.str (smalls.extract (IntKind.i64.wrap (n0 * 2)).toNat (IntKind.i64.wrap (IntKind.i64.wrap (n0 * 2) + 2)).toNat))] h2)
theorem den82 (I : FuncId → List V → Post → T) (n0 : Int) (Q : Post) : denF Go.Proofs.Tryd.prog 0 (⟨[], []⟩) I 82 [V.one (Cell.int IntKind.i64 n0)] Q = vc82 I n0 Q := by kernel_rfl
/-- internal/strconv.numDigits -/
def vc83 (I : FuncId → List V → Post → T) (n0 : Int) (Q : Post) : T :=
  fun h1 =>
  I 81 [V.one (Cell.int IntKind.u64 n0)]
    (fun cs2 => fun h3 => 
    ∃ n4 : Int, (cs2 = [V.one (Cell.int IntKind.i64 n4)]) ∧
    I 98 [V.one (Cell.int IntKind.i64 n4)]
      (fun cs5 => fun h6 => 
      ∃ n7 : Int, (cs5 = [V.one (Cell.int IntKind.i64 n7)]) ∧
      ((0 ≤ n7) ∧
      n7 < (↑20 : Int)) ∧
      (globK 2 (fun i8 => fun i9 => fun h10 =>
      ∃ n11 : Int, (h10.read i9 (n7.toNat * 1) 1 = some [Cell.int IntKind.u64 n11]) ∧
      I 99 [V.one (Cell.bool (decide (n0 ≥ n11)))]
        (fun cs12 => fun h13 => 
        ∃ n14 : Int, (cs12 = [V.one (Cell.int IntKind.i64 n14)]) ∧
        Q [V.one (Cell.int IntKind.i64 (IntKind.i64.wrap (n7 + n14)))] h13) h10)) h6) h3) h1
theorem den83 (I : FuncId → List V → Post → T) (n0 : Int) (Q : Post) : denF Go.Proofs.Tryd.prog 0 (⟨[], []⟩) I 83 [V.one (Cell.int IntKind.u64 n0)] Q = vc83 I n0 Q := by kernel_rfl
/-- internal/strconv.log10Pow2 -/
def vc98 (I : FuncId → List V → Post → T) (n0 : Int) (Q : Post) : T :=
  Q [V.one (Cell.int IntKind.i64 (shr IntKind.i64 (IntKind.i64.wrap (n0 * 78913)) 18))]
theorem den98 (I : FuncId → List V → Post → T) (n0 : Int) (Q : Post) : denF Go.Proofs.Tryd.prog 0 (⟨[], []⟩) I 98 [V.one (Cell.int IntKind.i64 n0)] Q = vc98 I n0 Q := by kernel_rfl
/-- internal/strconv.bool2[int] -/
def vc99 (I : FuncId → List V → Post → T) (b0 : Bool) (Q : Post) : T :=
  ifT b0
    (Q [V.one (Cell.int IntKind.i64 1)])
    (Q [V.one (Cell.int IntKind.i64 0)])
theorem den99 (I : FuncId → List V → Post → T) (b0 : Bool) (Q : Post) : denF Go.Proofs.Tryd.prog 0 (⟨[], []⟩) I 99 [V.one (Cell.bool b0)] Q = vc99 I b0 Q := by kernel_rfl
/-- internal/strconv.formatBase10 -/
def vc84 (I : FuncId → List V → Post → T) (l0 : Sl) (n1 : Int) (Q : Post) : T :=
  loopK (A := Int × Int) ((n1, (↑l0.len : Int)))
    (fun x2 => uncur fun n3 n4 => ifT (decide (n4 ≥ 8))
      (fun h5 =>
      ((0 ≤ IntKind.u32.wrap (IntKind.u32.wrap (((IntKind.u32.wrap (n3.tmod 100000000)).tmod 10000).tmod 100 * 2) + 1)) ∧
      IntKind.u32.wrap (IntKind.u32.wrap (((IntKind.u32.wrap (n3.tmod 100000000)).tmod 10000).tmod 100 * 2) + 1) < (↑200 : Int)) ∧
      ((0 ≤ IntKind.u32.wrap (((IntKind.u32.wrap (n3.tmod 100000000)).tmod 10000).tmod 100 * 2)) ∧
      IntKind.u32.wrap (((IntKind.u32.wrap (n3.tmod 100000000)).tmod 10000).tmod 100 * 2) < (↑200 : Int)) ∧
      ((0 ≤ IntKind.i64.wrap (n4 - 1)) ∧
      IntKind.i64.wrap (n4 - 1) < (↑l0.len : Int)) ∧
      (derefK l0.a (fun i6 => fun i7 => fun h8 => 
      (storeK [] i6 (i7 + (IntKind.i64.wrap (n4 - 1)).toNat * 1) [Cell.int IntKind.u8 (byteAt smalls (IntKind.u32.wrap (IntKind.u32.wrap (((IntKind.u32.wrap (n3.tmod 100000000)).tmod 10000).tmod 100 * 2) + 1)))] (fun h9 =>
      ((0 ≤ IntKind.i64.wrap (n4 - 2)) ∧
      IntKind.i64.wrap (n4 - 2) < (↑l0.len : Int)) ∧
      (derefK l0.a (fun i10 => fun i11 => fun h12 => 
      (storeK [] i10 (i11 + (IntKind.i64.wrap (n4 - 2)).toNat * 1) [Cell.int IntKind.u8 (byteAt smalls (IntKind.u32.wrap (((IntKind.u32.wrap (n3.tmod 100000000)).tmod 10000).tmod 100 * 2)))] (fun h13 =>
      ((0 ≤ IntKind.u32.wrap (IntKind.u32.wrap (IntKind.u32.wrap (((IntKind.u32.wrap (n3.tmod 100000000)).tmod 10000).tdiv 100) * 2) + 1)) ∧
      IntKind.u32.wrap (IntKind.u32.wrap (IntKind.u32.wrap (((IntKind.u32.wrap (n3.tmod 100000000)).tmod 10000).tdiv 100) * 2) + 1) < (↑200 : Int)) ∧
      ((0 ≤ IntKind.u32.wrap (IntKind.u32.wrap (((IntKind.u32.wrap (n3.tmod 100000000)).tmod 10000).tdiv 100) * 2)) ∧
      IntKind.u32.wrap (IntKind.u32.wrap (((IntKind.u32.wrap (n3.tmod 100000000)).tmod 10000).tdiv 100) * 2) < (↑200 : Int)) ∧
      ((0 ≤ IntKind.i64.wrap (n4 - 3)) ∧
      IntKind.i64.wrap (n4 - 3) < (↑l0.len : Int)) ∧
      (derefK l0.a (fun i14 => fun i15 => fun h16 => 
      (storeK [] i14 (i15 + (IntKind.i64.wrap (n4 - 3)).toNat * 1) [Cell.int IntKind.u8 (byteAt smalls (IntKind.u32.wrap (IntKind.u32.wrap (IntKind.u32.wrap (((IntKind.u32.wrap (n3.tmod 100000000)).tmod 10000).tdiv 100) * 2) + 1)))] (fun h17 =>
      ((0 ≤ IntKind.i64.wrap (n4 - 4)) ∧
      IntKind.i64.wrap (n4 - 4) < (↑l0.len : Int)) ∧
      (derefK l0.a (fun i18 => fun i19 => fun h20 => 
      (storeK [] i18 (i19 + (IntKind.i64.wrap (n4 - 4)).toNat * 1) [Cell.int IntKind.u8 (byteAt smalls (IntKind.u32.wrap (IntKind.u32.wrap (((IntKind.u32.wrap (n3.tmod 100000000)).tmod 10000).tdiv 100) * 2)))] (fun h21 =>
      ((0 ≤ IntKind.u32.wrap (IntKind.u32.wrap ((IntKind.u32.wrap ((IntKind.u32.wrap (n3.tmod 100000000)).tdiv 10000)).tmod 100 * 2) + 1)) ∧
      IntKind.u32.wrap (IntKind.u32.wrap ((IntKind.u32.wrap ((IntKind.u32.wrap (n3.tmod 100000000)).tdiv 10000)).tmod 100 * 2) + 1) < (↑200 : Int)) ∧
      ((0 ≤ IntKind.u32.wrap ((IntKind.u32.wrap ((IntKind.u32.wrap (n3.tmod 100000000)).tdiv 10000)).tmod 100 * 2)) ∧
      IntKind.u32.wrap ((IntKind.u32.wrap ((IntKind.u32.wrap (n3.tmod 100000000)).tdiv 10000)).tmod 100 * 2) < (↑200 : Int)) ∧
      ((0 ≤ IntKind.i64.wrap (n4 - 5)) ∧
      IntKind.i64.wrap (n4 - 5) < (↑l0.len : Int)) ∧
      (derefK l0.a (fun i22 => fun i23 => fun h24 => 
      (storeK [] i22 (i23 + (IntKind.i64.wrap (n4 - 5)).toNat * 1) [Cell.int IntKind.u8 (byteAt smalls (IntKind.u32.wrap (IntKind.u32.wrap ((IntKind.u32.wrap ((IntKind.u32.wrap (n3.tmod 100000000)).tdiv 10000)).tmod 100 * 2) + 1)))] (fun h25 =>
      ((0 ≤ IntKind.i64.wrap (n4 - 6)) ∧
      IntKind.i64.wrap (n4 - 6) < (↑l0.len : Int)) ∧
      (derefK l0.a (fun i26 => fun i27 => fun h28 => 
      (storeK [] i26 (i27 + (IntKind.i64.wrap (n4 - 6)).toNat * 1) [Cell.int IntKind.u8 (byteAt smalls (IntKind.u32.wrap ((IntKind.u32.wrap ((IntKind.u32.wrap (n3.tmod 100000000)).tdiv 10000)).tmod 100 * 2)))] (fun h29 =>
      ((0 ≤ IntKind.u32.wrap (IntKind.u32.wrap (IntKind.u32.wrap ((IntKind.u32.wrap ((IntKind.u32.wrap (n3.tmod 100000000)).tdiv 10000)).tdiv 100) * 2) + 1)) ∧
      IntKind.u32.wrap (IntKind.u32.wrap (IntKind.u32.wrap ((IntKind.u32.wrap ((IntKind.u32.wrap (n3.tmod 100000000)).tdiv 10000)).tdiv 100) * 2) + 1) < (↑200 : Int)) ∧
      ((0 ≤ IntKind.u32.wrap (IntKind.u32.wrap ((IntKind.u32.wrap ((IntKind.u32.wrap (n3.tmod 100000000)).tdiv 10000)).tdiv 100) * 2)) ∧
      IntKind.u32.wrap (IntKind.u32.wrap ((IntKind.u32.wrap ((IntKind.u32.wrap (n3.tmod 100000000)).tdiv 10000)).tdiv 100) * 2) < (↑200 : Int)) ∧
      ((0 ≤ IntKind.i64.wrap (n4 - 7)) ∧
      IntKind.i64.wrap (n4 - 7) < (↑l0.len : Int)) ∧
      (derefK l0.a (fun i30 => fun i31 => fun h32 => 
      (storeK [] i30 (i31 + (IntKind.i64.wrap (n4 - 7)).toNat * 1) [Cell.int IntKind.u8 (byteAt smalls (IntKind.u32.wrap (IntKind.u32.wrap (IntKind.u32.wrap ((IntKind.u32.wrap ((IntKind.u32.wrap (n3.tmod 100000000)).tdiv 10000)).tdiv 100) * 2) + 1)))] (fun h33 =>
      ((0 ≤ IntKind.i64.wrap (n4 - 8)) ∧
      IntKind.i64.wrap (n4 - 8) < (↑l0.len : Int)) ∧
      (derefK l0.a (fun i34 => fun i35 => fun h36 => 
      (storeK [] i34 (i35 + (IntKind.i64.wrap (n4 - 8)).toNat * 1) [Cell.int IntKind.u8 (byteAt smalls (IntKind.u32.wrap (IntKind.u32.wrap ((IntKind.u32.wrap ((IntKind.u32.wrap (n3.tmod 100000000)).tdiv 10000)).tdiv 100) * 2)))] (x2 ((IntKind.u64.wrap (n3.tdiv 100000000), IntKind.i64.wrap (n4 - 8))))) h36)) h33)) h32)) h29)) h28)) h25)) h24)) h21)) h20)) h17)) h16)) h13)) h12)) h9)) h8)) h5)
      (joinK (A := Int × Int)
        (uncur fun n37 n38 => joinK (A := Int × Int)
          (uncur fun n39 n40 => ifT (decide (n39 > 0))
            (fun h41 =>
            (((0 : Int) ≤ (0 : Int)) ∧
            0 < (↑l0.len : Int)) ∧
            (derefK l0.a (fun i42 => fun i43 => fun h44 => 
            (storeK [] i42 (i43 + 0) [Cell.int IntKind.u8 (IntKind.u8.wrap (IntKind.u32.wrap (48 + n40)))] (Q [])) h44)) h41)
            (Q []))
          (fun x45 => ifT (decide (n37 ≥ 2))
            (fun h46 =>
            ((0 ≤ IntKind.u32.wrap (IntKind.u32.wrap (n38.tmod 100 * 2) + 1)) ∧
            IntKind.u32.wrap (IntKind.u32.wrap (n38.tmod 100 * 2) + 1) < (↑200 : Int)) ∧
            ((0 ≤ IntKind.u32.wrap (n38.tmod 100 * 2)) ∧
            IntKind.u32.wrap (n38.tmod 100 * 2) < (↑200 : Int)) ∧
            ((0 ≤ IntKind.i64.wrap (n37 - 1)) ∧
            IntKind.i64.wrap (n37 - 1) < (↑l0.len : Int)) ∧
            (derefK l0.a (fun i47 => fun i48 => fun h49 => 
            (storeK [] i47 (i48 + (IntKind.i64.wrap (n37 - 1)).toNat * 1) [Cell.int IntKind.u8 (byteAt smalls (IntKind.u32.wrap (IntKind.u32.wrap (n38.tmod 100 * 2) + 1)))] (fun h50 =>
            ((0 ≤ IntKind.i64.wrap (n37 - 2)) ∧
            IntKind.i64.wrap (n37 - 2) < (↑l0.len : Int)) ∧
            (derefK l0.a (fun i51 => fun i52 => fun h53 => 
            (storeK [] i51 (i52 + (IntKind.i64.wrap (n37 - 2)).toNat * 1) [Cell.int IntKind.u8 (byteAt smalls (IntKind.u32.wrap (n38.tmod 100 * 2)))] (x45 ((IntKind.i64.wrap (n37 - 2), IntKind.u32.wrap (n38.tdiv 100))))) h53)) h50)) h49)) h46)
            (x45 ((n37, n38)))))
        (fun x54 => ifT (decide (n4 ≥ 4))
          (fun h55 =>
          ((0 ≤ IntKind.u32.wrap (IntKind.u32.wrap (((IntKind.u32.wrap n3).tmod 10000).tmod 100 * 2) + 1)) ∧
          IntKind.u32.wrap (IntKind.u32.wrap (((IntKind.u32.wrap n3).tmod 10000).tmod 100 * 2) + 1) < (↑200 : Int)) ∧
          ((0 ≤ IntKind.u32.wrap (((IntKind.u32.wrap n3).tmod 10000).tmod 100 * 2)) ∧
          IntKind.u32.wrap (((IntKind.u32.wrap n3).tmod 10000).tmod 100 * 2) < (↑200 : Int)) ∧
          ((0 ≤ IntKind.i64.wrap (n4 - 1)) ∧
          IntKind.i64.wrap (n4 - 1) < (↑l0.len : Int)) ∧
          (derefK l0.a (fun i56 => fun i57 => fun h58 => 
          (storeK [] i56 (i57 + (IntKind.i64.wrap (n4 - 1)).toNat * 1) [Cell.int IntKind.u8 (byteAt smalls (IntKind.u32.wrap (IntKind.u32.wrap (((IntKind.u32.wrap n3).tmod 10000).tmod 100 * 2) + 1)))] (fun h59 =>
          ((0 ≤ IntKind.i64.wrap (n4 - 2)) ∧
          IntKind.i64.wrap (n4 - 2) < (↑l0.len : Int)) ∧
          (derefK l0.a (fun i60 => fun i61 => fun h62 => 
          (storeK [] i60 (i61 + (IntKind.i64.wrap (n4 - 2)).toNat * 1) [Cell.int IntKind.u8 (byteAt smalls (IntKind.u32.wrap (((IntKind.u32.wrap n3).tmod 10000).tmod 100 * 2)))] (fun h63 =>
          ((0 ≤ IntKind.u32.wrap (IntKind.u32.wrap (IntKind.u32.wrap (((IntKind.u32.wrap n3).tmod 10000).tdiv 100) * 2) + 1)) ∧
          IntKind.u32.wrap (IntKind.u32.wrap (IntKind.u32.wrap (((IntKind.u32.wrap n3).tmod 10000).tdiv 100) * 2) + 1) < (↑200 : Int)) ∧
          ((0 ≤ IntKind.u32.wrap (IntKind.u32.wrap (((IntKind.u32.wrap n3).tmod 10000).tdiv 100) * 2)) ∧
          IntKind.u32.wrap (IntKind.u32.wrap (((IntKind.u32.wrap n3).tmod 10000).tdiv 100) * 2) < (↑200 : Int)) ∧
          ((0 ≤ IntKind.i64.wrap (n4 - 3)) ∧
          IntKind.i64.wrap (n4 - 3) < (↑l0.len : Int)) ∧
          (derefK l0.a (fun i64 => fun i65 => fun h66 => 
          (storeK [] i64 (i65 + (IntKind.i64.wrap (n4 - 3)).toNat * 1) [Cell.int IntKind.u8 (byteAt smalls (IntKind.u32.wrap (IntKind.u32.wrap (IntKind.u32.wrap (((IntKind.u32.wrap n3).tmod 10000).tdiv 100) * 2) + 1)))] (fun h67 =>
          ((0 ≤ IntKind.i64.wrap (n4 - 4)) ∧
          IntKind.i64.wrap (n4 - 4) < (↑l0.len : Int)) ∧
          (derefK l0.a (fun i68 => fun i69 => fun h70 => 
          (storeK [] i68 (i69 + (IntKind.i64.wrap (n4 - 4)).toNat * 1) [Cell.int IntKind.u8 (byteAt smalls (IntKind.u32.wrap (IntKind.u32.wrap (((IntKind.u32.wrap n3).tmod 10000).tdiv 100) * 2)))] (x54 ((IntKind.i64.wrap (n4 - 4), IntKind.u32.wrap ((IntKind.u32.wrap n3).tdiv 10000))))) h70)) h67)) h66)) h63)) h62)) h59)) h58)) h55)
          (x54 ((n4, IntKind.u32.wrap n3))))))
theorem den84 (I : FuncId → List V → Post → T) (l0 : Sl) (n1 : Int) (Q : Post) : denF Go.Proofs.Tryd.prog 0 (⟨[(61, 348449143725773335986267368608633945387024, [(4, tk Go.Proofs.Tryd.prog 3), (12, tk Go.Proofs.Tryd.prog 112)]), (125, 1461500243534328010039738486733890979133338488848, [(4, tk Go.Proofs.Tryd.prog 3), (12, tk Go.Proofs.Tryd.prog 112)])], [(12, 79228162514264337593543430130, [(1, tk Go.Proofs.Tryd.prog 50), (4, tk Go.Proofs.Tryd.prog 3)])]⟩) I 84 [V.one (Cell.slice 1 l0), V.one (Cell.int IntKind.u64 n1)] Q = vc84 I l0 n1 Q := by kernel_rfl
/-- handbill/handref1.FractionOf -/
def vc30 (I : FuncId → List V → Post → T) (n0 : Int) (n1 : Int) (Q : Post) : T :=
  ifT (decide (n1 ≥ 1))
    (ifT (decide (n1 ≤ 4611686018427387904))
      (ifT (decide (n0 ≥ -4611686018427387904))
        (ifT (decide (n0 ≤ 4611686018427387904))
          (fun h2 =>
          I 65 [V.one (Cell.int IntKind.i64 n0), V.one (Cell.int IntKind.i64 n1)]
            (fun cs3 => fun h4 => 
            ∃ n5 : Int, ∃ n6 : Int, (cs3 = [V.agg [Cell.int IntKind.i64 n5, Cell.int IntKind.i64 n6]]) ∧
            Q [V.one (Cell.bool (decide (n5 = n0) && decide (n6 = n1)))] h4) h2)
          (Q [V.one (Cell.bool false)]))
        (Q [V.one (Cell.bool false)]))
      (Q [V.one (Cell.bool false)]))
    (Q [V.one (Cell.bool false)])
theorem den30 (I : FuncId → List V → Post → T) (n0 : Int) (n1 : Int) (Q : Post) : denF Go.Proofs.Tryd.prog 2 (⟨[], []⟩) I 30 [V.agg [Cell.int IntKind.i64 n0, Cell.int IntKind.i64 n1]] Q = vc30 I n0 n1 Q := by kernel_rfl
/-- handbill/handref1.reduced -/
def vc65 (I : FuncId → List V → Post → T) (n0 : Int) (n1 : Int) (Q : Post) : T :=
  joinK (A := Int × Int)
    (uncur fun n2 n3 => fun h4 => 
    I 90 [V.one (Cell.int IntKind.i64 (max n2 (IntKind.i64.wrap (0 - n2)))), V.one (Cell.int IntKind.i64 n3)]
      (fun cs5 => fun h6 => 
      ∃ n7 : Int, (cs5 = [V.one (Cell.int IntKind.i64 n7)]) ∧
      (n7 ≠ 0) ∧
      (n7 ≠ 0) ∧
      Q [V.agg [Cell.int IntKind.i64 (IntKind.i64.wrap (n2.tdiv n7)), Cell.int IntKind.i64 (IntKind.i64.wrap (n3.tdiv n7))]] h6) h4)
    (fun x8 => ifT (decide (n1 < 0))
      (x8 ((IntKind.i64.wrap (0 - n0), IntKind.i64.wrap (0 - n1))))
      (x8 ((n0, n1))))
theorem den65 (I : FuncId → List V → Post → T) (n0 : Int) (n1 : Int) (Q : Post) : denF Go.Proofs.Tryd.prog 16 (⟨[(13, 3843, [(0, tk Go.Proofs.Tryd.prog 3), (1, tk Go.Proofs.Tryd.prog 3)])], []⟩) I 65 [V.one (Cell.int IntKind.i64 n0), V.one (Cell.int IntKind.i64 n1)] Q = vc65 I n0 n1 Q := by kernel_rfl
/-- handbill/handref1.common -/
def vc90 (I : FuncId → List V → Post → T) (n0 : Int) (n1 : Int) (Q : Post) : T :=
  loopK (A := Int × Int) ((n0, n1))
    (fun x2 => uncur fun n3 n4 => ifT (!decide (n4 = 0))
      (fun h5 =>
      (n4 ≠ 0) ∧
      x2 ((n4, n3.tmod n4)) h5)
      (Q [V.one (Cell.int IntKind.i64 n3)]))
theorem den90 (I : FuncId → List V → Post → T) (n0 : Int) (n1 : Int) (Q : Post) : denF Go.Proofs.Tryd.prog 0 (⟨[], [(12, 2019, [(0, tk Go.Proofs.Tryd.prog 3), (1, tk Go.Proofs.Tryd.prog 3)])]⟩) I 90 [V.one (Cell.int IntKind.i64 n0), V.one (Cell.int IntKind.i64 n1)] Q = vc90 I n0 n1 Q := by kernel_rfl
/-- strconv.Itoa -/
def vc31 (I : FuncId → List V → Post → T) (n0 : Int) (Q : Post) : T :=
  fun h1 =>
  I 66 [V.one (Cell.int IntKind.i64 n0)]
    (fun cs2 => fun h3 => 
    ∃ s4 : ByteArray, (cs2 = [V.one (Cell.str s4)]) ∧
    Q [V.one (Cell.str s4)] h3) h1
theorem den31 (I : FuncId → List V → Post → T) (n0 : Int) (Q : Post) : denF Go.Proofs.Tryd.prog 0 (⟨[], []⟩) I 31 [V.one (Cell.int IntKind.i64 n0)] Q = vc31 I n0 Q := by kernel_rfl
/-- internal/strconv.Itoa -/
def vc66 (I : FuncId → List V → Post → T) (n0 : Int) (Q : Post) : T :=
  fun h1 =>
  I 91 [V.one (Cell.int IntKind.i64 n0), V.one (Cell.int IntKind.i64 10)]
    (fun cs2 => fun h3 => 
    ∃ s4 : ByteArray, (cs2 = [V.one (Cell.str s4)]) ∧
    Q [V.one (Cell.str s4)] h3) h1
theorem den66 (I : FuncId → List V → Post → T) (n0 : Int) (Q : Post) : denF Go.Proofs.Tryd.prog 0 (⟨[], []⟩) I 66 [V.one (Cell.int IntKind.i64 n0)] Q = vc66 I n0 Q := by kernel_rfl
/-- internal/strconv.FormatInt -/
def vc91 (I : FuncId → List V → Post → T) (n0 : Int) (n1 : Int) (Q : Post) : T :=
  ifT (decide (n1 = 10))
    (joinK (A := Bool)
      (fun b2 => ifT b2
        (fun h3 =>
        I 82 [V.one (Cell.int IntKind.i64 n0)]
          (fun cs4 => fun h5 => 
          ∃ s6 : ByteArray, (cs4 = [V.one (Cell.str s6)]) ∧
          Q [V.one (Cell.str s6)] h5) h3)
        (fun h7 =>
        (newK (YtdjancoknephnaaDoorVc.Obj.cells false [Cell.int IntKind.u8 0, Cell.int IntKind.u8 0, Cell.int IntKind.u8 0, Cell.int IntKind.u8 0, Cell.int IntKind.u8 0, Cell.int IntKind.u8 0, Cell.int IntKind.u8 0, Cell.int IntKind.u8 0, Cell.int IntKind.u8 0, Cell.int IntKind.u8 0, Cell.int IntKind.u8 0, Cell.int IntKind.u8 0, Cell.int IntKind.u8 0, Cell.int IntKind.u8 0, Cell.int IntKind.u8 0, Cell.int IntKind.u8 0, Cell.int IntKind.u8 0, Cell.int IntKind.u8 0, Cell.int IntKind.u8 0, Cell.int IntKind.u8 0, Cell.int IntKind.u8 0, Cell.int IntKind.u8 0, Cell.int IntKind.u8 0, Cell.int IntKind.u8 0]) (fun i8 => joinK (A := Int)
          (fun n9 => fun h10 => 
          I 83 [V.one (Cell.int IntKind.u64 n9)]
            (fun cs11 => fun h12 => 
            ∃ n13 : Int, (cs11 = [V.one (Cell.int IntKind.i64 n13)]) ∧
            (((0 : Int) ≤ (1 : Int)) ∧
            (1 ≤ IntKind.i64.wrap (1 + n13)) ∧
            IntKind.i64.wrap (1 + n13) ≤ (↑24 : Int)) ∧
            (roomAt h12 i8 24) ∧
            I 84 [V.one (Cell.slice 1 { a := some (i8, 1), len := (IntKind.i64.wrap (1 + n13)).toNat - 1 }), V.one (Cell.int IntKind.u64 n9)]
              (fun cs14 => fun h15 => 
              (cs14 = []) ∧
              (ifT (decide (n0 < 0))
                (fun h16 =>
                (((0 : Int) ≤ (0 : Int)) ∧
                (0 : Int) < (↑((24 : Nat)) : Int)) ∧
                (storeK [] i8 0 [Cell.int IntKind.u8 45] (fun h17 =>
                (((0 : Int) ≤ (0 : Int)) ∧
                (0 ≤ IntKind.i64.wrap (1 + n13)) ∧
                IntKind.i64.wrap (1 + n13) ≤ (↑24 : Int)) ∧
                (roomAt h17 i8 24) ∧
                ∃ s18 : ByteArray, (h17.sl 1 { a := some (i8, 0), len := (IntKind.i64.wrap (1 + n13)).toNat - 0 } = some (byteCells s18)) ∧
                Q [V.one (Cell.str s18)] h17)) h16)
                (fun h19 =>
                (((0 : Int) ≤ (1 : Int)) ∧
                (1 ≤ IntKind.i64.wrap (1 + n13)) ∧
                IntKind.i64.wrap (1 + n13) ≤ (↑24 : Int)) ∧
                (roomAt h19 i8 24) ∧
                ∃ s20 : ByteArray, (h19.sl 1 { a := some (i8, 1), len := (IntKind.i64.wrap (1 + n13)).toNat - 1 } = some (byteCells s20)) ∧
                Q [V.one (Cell.str s20)] h19)) h15) h12) h10)
          (fun x21 => ifT (decide (n0 < 0))
            (x21 (IntKind.u64.wrap (0 - IntKind.u64.wrap n0)))
            (x21 (IntKind.u64.wrap n0))))) h7))
      (fun x22 => ifT (decide (0 ≤ n0))
        (x22 (decide (n0 < 100)))
        (x22 false)))
    (fun h23 =>
    I 85 [V.one (Cell.slice 1 { a := none, len := 0 }), V.one (Cell.int IntKind.u64 (IntKind.u64.wrap n0)), V.one (Cell.int IntKind.i64 n1), V.one (Cell.bool (decide (n0 < 0))), V.one (Cell.bool false)]
      (fun cs24 => fun h25 => 
      ∃ l26 : Sl, ∃ s27 : ByteArray, (cs24 = [V.one (Cell.slice 1 l26), V.one (Cell.str s27)]) ∧
      Q [V.one (Cell.str s27)] h25) h23)
theorem den91 (I : FuncId → List V → Post → T) (n0 : Int) (n1 : Int) (Q : Post) : denF Go.Proofs.Tryd.prog 0 (⟨[(104, 258048, [(17, tk Go.Proofs.Tryd.prog 4)]), (861, 50331712, [(6, tk Go.Proofs.Tryd.prog 50)])], []⟩) I 91 [V.one (Cell.int IntKind.i64 n0), V.one (Cell.int IntKind.i64 n1)] Q = vc91 I n0 n1 Q := by kernel_rfl
/-- handbill/handlaw1.measures -/
def vc9 (I : FuncId → List V → Post → T) (Q : Post) : T :=
  fun h0 =>
  I 32 [V.one (Cell.int IntKind.i64 2), V.one (Cell.int IntKind.i64 4)]
    (fun cs1 => fun h2 => 
    ∃ n3 : Int, ∃ n4 : Int, ∃ n5 : Int, (cs1 = [V.agg [Cell.int IntKind.i64 n3, Cell.int IntKind.i64 n4], V.one (Cell.int IntKind.i64 n5)]) ∧
    (ifT (decide (n5 = 0))
      (Q [V.one (Cell.bool (decide (n3 = 1) && decide (n4 = 2)))])
      (Q [V.one (Cell.bool false)])) h2) h0
theorem den9 (I : FuncId → List V → Post → T) (Q : Post) : denF Go.Proofs.Tryd.prog 2 (⟨[], []⟩) I 9 [] Q = vc9 I Q := by kernel_rfl
/-- handbill/measure.Reduce -/
def vc32 (I : FuncId → List V → Post → T) (n0 : Int) (n1 : Int) (Q : Post) : T :=
  joinK (A := Bool)
    (fun b2 => ifT b2
      (fun h3 =>
      Q [V.agg [Cell.int IntKind.i64 0, Cell.int IntKind.i64 0], V.one (Cell.int IntKind.i64 1)] h3)
      (ifT (decide (n1 = 0))
        (fun h4 =>
        Q [V.agg [Cell.int IntKind.i64 0, Cell.int IntKind.i64 0], V.one (Cell.int IntKind.i64 8)] h4)
        (fun h5 =>
        I 67 [V.one (Cell.int IntKind.i64 n0), V.one (Cell.int IntKind.i64 n1)]
          (fun cs6 => fun h7 => 
          ∃ n8 : Int, ∃ n9 : Int, (cs6 = [V.agg [Cell.int IntKind.i64 n8, Cell.int IntKind.i64 n9]]) ∧
          Q [V.agg [Cell.int IntKind.i64 n8, Cell.int IntKind.i64 n9], V.one (Cell.int IntKind.i64 0)] h7) h5)))
    (fun x10 => fun h11 => 
    I 25 [V.one (Cell.int IntKind.i64 n0), V.one (Cell.int IntKind.i64 (-4611686018427387904)), V.one (Cell.int IntKind.i64 4611686018427387904)]
      (fun cs12 => fun h13 => 
      ∃ b14 : Bool, (cs12 = [V.one (Cell.bool b14)]) ∧
      (ifT (!b14)
        (x10 true)
        (fun h15 =>
        I 25 [V.one (Cell.int IntKind.i64 n1), V.one (Cell.int IntKind.i64 (-4611686018427387904)), V.one (Cell.int IntKind.i64 4611686018427387904)]
          (fun cs16 => fun h17 => 
          ∃ b18 : Bool, (cs16 = [V.one (Cell.bool b18)]) ∧
          x10 (!b18) h17) h15)) h13) h11)
theorem den32 (I : FuncId → List V → Post → T) (n0 : Int) (n1 : Int) (Q : Post) : denF Go.Proofs.Tryd.prog 16 (⟨[(24, 32704, [(6, tk Go.Proofs.Tryd.prog 4)])], []⟩) I 32 [V.one (Cell.int IntKind.i64 n0), V.one (Cell.int IntKind.i64 n1)] Q = vc32 I n0 n1 Q := by kernel_rfl
/-- handbill/measure.reduce -/
def vc67 (I : FuncId → List V → Post → T) (n0 : Int) (n1 : Int) (Q : Post) : T :=
  joinK (A := Int × Int)
    (uncur fun n2 n3 => fun h4 => 
    I 24 [V.one (Cell.int IntKind.i64 n2)]
      (fun cs5 => fun h6 => 
      ∃ n7 : Int, (cs5 = [V.one (Cell.int IntKind.u64 n7)]) ∧
      I 24 [V.one (Cell.int IntKind.i64 n3)]
        (fun cs8 => fun h9 => 
        ∃ n10 : Int, (cs8 = [V.one (Cell.int IntKind.u64 n10)]) ∧
        I 54 [V.one (Cell.int IntKind.u64 n7), V.one (Cell.int IntKind.u64 n10)]
          (fun cs11 => fun h12 => 
          ∃ n13 : Int, (cs11 = [V.one (Cell.int IntKind.u64 n13)]) ∧
          (IntKind.i64.wrap n13 ≠ 0) ∧
          (IntKind.i64.wrap n13 ≠ 0) ∧
          Q [V.agg [Cell.int IntKind.i64 (IntKind.i64.wrap (n2.tdiv (IntKind.i64.wrap n13))), Cell.int IntKind.i64 (IntKind.i64.wrap (n3.tdiv (IntKind.i64.wrap n13)))]] h12) h9) h6) h4)
    (fun x14 => ifT (decide (n1 < 0))
      (x14 ((IntKind.i64.wrap (0 - n0), IntKind.i64.wrap (0 - n1))))
      (x14 ((n0, n1))))
theorem den67 (I : FuncId → List V → Post → T) (n0 : Int) (n1 : Int) (Q : Post) : denF Go.Proofs.Tryd.prog 16 (⟨[(13, 3843, [(0, tk Go.Proofs.Tryd.prog 3), (1, tk Go.Proofs.Tryd.prog 3)])], []⟩) I 67 [V.one (Cell.int IntKind.i64 n0), V.one (Cell.int IntKind.i64 n1)] Q = vc67 I n0 n1 Q := by kernel_rfl
/-- handbill/handref1.PercentOf -/
def vc8 (I : FuncId → List V → Post → T) (n0 : Int) (n1 : Int) (n2 : Int) (Q : Post) : T :=
  fun h3 =>
  I 30 [V.agg [Cell.int IntKind.i64 n0, Cell.int IntKind.i64 n1]]
    (fun cs4 => fun h5 => 
    ∃ b6 : Bool, (cs4 = [V.one (Cell.bool b6)]) ∧
    (ifT (!b6)
      (Q [V.one (Cell.str { data := #[] }), V.one (Cell.int IntKind.i64 3)])
      (joinK (A := Bool)
        (fun b7 => ifT b7
          (Q [V.one (Cell.str { data := #[] }), V.one (Cell.int IntKind.i64 2)])
          (joinK (A := Bool)
            (fun b8 => ifT b8
              (Q [V.one (Cell.str { data := #[] }), V.one (Cell.int IntKind.i64 1)])
              (fun h9 =>
              (n1 ≠ 0) ∧
              (n1 ≠ 0) ∧
              (loopK (A := Int × Int × Int) ((IntKind.i64.wrap ((max n0 (IntKind.i64.wrap (0 - n0))).tdiv n1), (max n0 (IntKind.i64.wrap (0 - n0))).tmod n1, 0))
                (fun x10 => uncur fun n11 => uncur fun n12 n13 => ifT (decide (n13 < IntKind.i64.wrap (n2 + 2)))
                  (fun h14 =>
                  I 26 [V.one (Cell.int IntKind.u64 (IntKind.u64.wrap n12)), V.one (Cell.int IntKind.u64 10)]
                    (fun cs15 => fun h16 => 
                    ∃ n17 : Int, ∃ n18 : Int, (cs15 = [V.one (Cell.int IntKind.u64 n17), V.one (Cell.int IntKind.u64 n18)]) ∧
                    I 27 [V.one (Cell.int IntKind.u64 n17), V.one (Cell.int IntKind.u64 n18), V.one (Cell.int IntKind.u64 (IntKind.u64.wrap n1))]
                      (fun cs19 => fun h20 => 
                      ∃ n21 : Int, ∃ n22 : Int, (cs19 = [V.one (Cell.int IntKind.u64 n21), V.one (Cell.int IntKind.u64 n22)]) ∧
                      x10 ((IntKind.i64.wrap (IntKind.i64.wrap (n11 * 10) + IntKind.i64.wrap n21), IntKind.i64.wrap n22, IntKind.i64.wrap (n13 + 1))) h20) h16) h14)
                  (joinK (A := Int)
                    (fun n23 => fun h24 => 
                    I 31 [V.one (Cell.int IntKind.i64 n23)]
                      (fun cs25 => fun h26 => 
                      ∃ s27 : ByteArray, (cs25 = [V.one (Cell.str s27)]) ∧
                      (loopK (A := ByteArray) s27
                        (fun x28 => fun s29 => ifT (decide ((↑s29.size : Int) < IntKind.i64.wrap (n2 + 1)))
                          (fun h30 =>
                          (1 + s29.size ≤ 9223372036854775807) ∧
                          x28 ({ data := #[48] } ++ s29) h30)
                          (ifT (decide (n2 > 0))
                            (fun h31 =>
                            (((0 : Int) ≤ (0 : Int)) ∧
                            (0 ≤ IntKind.i64.wrap ((↑s29.size : Int) - n2)) ∧
                            IntKind.i64.wrap ((↑s29.size : Int) - n2) ≤ (↑s29.size : Int)) ∧
                            ((s29.extract 0 (IntKind.i64.wrap ((↑s29.size : Int) - n2)).toNat).size + 1 ≤ 9223372036854775807) ∧
                            ((0 ≤ IntKind.i64.wrap ((↑s29.size : Int) - n2)) ∧
                            (IntKind.i64.wrap ((↑s29.size : Int) - n2) ≤ (↑s29.size : Int)) ∧
                            (↑s29.size : Int) ≤ (↑s29.size : Int)) ∧
                            ((s29.extract 0 (IntKind.i64.wrap ((↑s29.size : Int) - n2)).toNat ++ { data := #[46] }).size + (s29.extract (IntKind.i64.wrap ((↑s29.size : Int) - n2)).toNat (↑s29.size : Int).toNat).size ≤ 9223372036854775807) ∧
                            (ifT (decide (n0 < 0))
                              (ifT (decide (n23 > 0))
                                (fun h32 =>
                                (1 + (s29.extract 0 (IntKind.i64.wrap ((↑s29.size : Int) - n2)).toNat ++ { data := #[46] } ++ s29.extract (IntKind.i64.wrap ((↑s29.size : Int) - n2)).toNat (↑s29.size : Int).toNat).size ≤ 9223372036854775807) ∧
                                Q [V.one (Cell.str ({ data := #[45] } ++ (s29.extract 0 (IntKind.i64.wrap ((↑s29.size : Int) - n2)).toNat ++ { data := #[46] } ++ s29.extract (IntKind.i64.wrap ((↑s29.size : Int) - n2)).toNat (↑s29.size : Int).toNat))), V.one (Cell.int IntKind.i64 0)] h32)
                                (Q [V.one (Cell.str (s29.extract 0 (IntKind.i64.wrap ((↑s29.size : Int) - n2)).toNat ++ { data := #[46] } ++ s29.extract (IntKind.i64.wrap ((↑s29.size : Int) - n2)).toNat (↑s29.size : Int).toNat)), V.one (Cell.int IntKind.i64 0)]))
                              (Q [V.one (Cell.str (s29.extract 0 (IntKind.i64.wrap ((↑s29.size : Int) - n2)).toNat ++ { data := #[46] } ++ s29.extract (IntKind.i64.wrap ((↑s29.size : Int) - n2)).toNat (↑s29.size : Int).toNat)), V.one (Cell.int IntKind.i64 0)])) h31)
                            (ifT (decide (n0 < 0))
                              (ifT (decide (n23 > 0))
                                (fun h33 =>
                                (1 + s29.size ≤ 9223372036854775807) ∧
                                Q [V.one (Cell.str ({ data := #[45] } ++ s29)), V.one (Cell.int IntKind.i64 0)] h33)
                                (Q [V.one (Cell.str s29), V.one (Cell.int IntKind.i64 0)]))
                              (Q [V.one (Cell.str s29), V.one (Cell.int IntKind.i64 0)]))))) h26) h24)
                    (fun x34 => ifT (decide (IntKind.u64.wrap (IntKind.u64.wrap n12 * 2) ≥ IntKind.u64.wrap n1))
                      (x34 (IntKind.i64.wrap (n11 + 1)))
                      (x34 n11))))) h9))
            (fun x35 => ifT (decide (n2 < 0))
              (x35 true)
              (x35 (decide (n2 > 6))))))
        (fun x36 => fun h37 => 
        (n1 ≠ 0) ∧
        (ifT (decide (IntKind.i64.wrap ((max n0 (IntKind.i64.wrap (0 - n0))).tdiv n1) > 1000000))
          (x36 true)
          (fun h38 =>
          (n1 ≠ 0) ∧
          (ifT (decide (IntKind.i64.wrap ((max n0 (IntKind.i64.wrap (0 - n0))).tdiv n1) = 1000000))
            (fun h39 =>
            (n1 ≠ 0) ∧
            x36 (decide ((max n0 (IntKind.i64.wrap (0 - n0))).tmod n1 > 0)) h39)
            (x36 false)) h38)) h37))) h5) h3
theorem den8 (I : FuncId → List V → Post → T) (n0 : Int) (n1 : Int) (n2 : Int) (Q : Post) : denF Go.Proofs.Tryd.prog 4 (⟨[(230, 17592169267200, [(24, tk Go.Proofs.Tryd.prog 4)]), (253, 29710560942849126597578981504, [(7, tk Go.Proofs.Tryd.prog 3)]), (926, 2234207627640832, [(44, tk Go.Proofs.Tryd.prog 4)])], [(250, 77371250149493257967509376, [(7, tk Go.Proofs.Tryd.prog 3), (8, tk Go.Proofs.Tryd.prog 3), (61, tk Go.Proofs.Tryd.prog 3)]), (1020, 20123953278623141748760163393536, [(13, tk Go.Proofs.Tryd.prog 9)])]⟩) I 8 [V.agg [Cell.int IntKind.i64 n0, Cell.int IntKind.i64 n1], V.one (Cell.int IntKind.i64 n2)] Q = vc8 I n0 n1 n2 Q := by kernel_rfl
end Go.Proofs.YtdjancoknephnaaDoorVc
