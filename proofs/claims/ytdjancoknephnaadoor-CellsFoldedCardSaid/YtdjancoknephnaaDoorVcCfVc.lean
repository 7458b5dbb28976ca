/- Formulas of the functions that CellsFolded reaches. -/
import Derived.Test.YtdjancoknephnaaDoorVcOwns
import Derived.Test.YtdjancoknephnaaDoorVcBits
import Derived.Test.YtdjancoknephnaaDoorProg
set_option linter.unusedVariables false
set_option maxRecDepth 100000
namespace Go.Proofs.YtdjancoknephnaaDoorVc
/-- handbill/handlaw1.CellsFolded -/
def vc4 (I : FuncId → List V → Post → T) (l0 : Sl) (Q : Post) : T :=
  fun h1 =>
  (newK (.cells false [Cell.slice 1 l0, Cell.int IntKind.i64 0]) (fun i2 => fun h3 => 
  I 10 [V.one (Cell.ptr (some (i2, 0)))]
    (fun cs4 => fun h5 => 
    ∃ l6 : Sl, (cs4 = [V.one (Cell.slice 3 l6)]) ∧
    I 11 [V.one (Cell.ptr (some (i2, 0)))]
      (fun cs7 => fun h8 => 
      ∃ l9 : Sl, (cs7 = [V.one (Cell.slice 1 l9)]) ∧
      I 12 [V.one (Cell.slice 3 l6)]
        (fun cs10 => fun h11 => 
        ∃ n12 : Int, (cs10 = [V.one (Cell.int IntKind.i64 n12)]) ∧
        I 13 [V.one (Cell.slice 3 l6)]
          (fun cs13 => fun h14 => 
          ∃ n15 : Int, (cs13 = [V.one (Cell.int IntKind.i64 n15)]) ∧
          (ifT (!decide (n12 = n15))
            (Q [V.one (Cell.bool false)])
            (fun h16 =>
            I 14 [V.one (Cell.slice 3 l6), V.one (Cell.slice 1 l9)]
              (fun cs17 => fun h18 => 
              ∃ l19 : Sl, ∃ n20 : Int, (cs17 = [V.one (Cell.slice 3 l19), V.one (Cell.int IntKind.i64 n20)]) ∧
              I 15 [V.one (Cell.slice 3 l6), V.one (Cell.slice 1 l9)]
                (fun cs21 => fun h22 => 
                ∃ l23 : Sl, ∃ n24 : Int, (cs21 = [V.one (Cell.slice 3 l23), V.one (Cell.int IntKind.i64 n24)]) ∧
                (joinK (A := Bool)
                  (fun b25 => ifT b25
                    (Q [V.one (Cell.bool false)])
                    (fun h26 =>
                    I 17 [V.one (Cell.ptr (some (i2, 0))), V.one (Cell.int IntKind.i64 2)]
                      (fun cs27 => fun h28 => 
                      ∃ b29 : Bool, (cs27 = [V.one (Cell.bool b29)]) ∧
                      (joinK (A := Sl)
                        (fun l30 => fun h31 => 
                        I 18 [V.one (Cell.slice 3 l6), V.one (Cell.slice 3 l30), V.one (Cell.slice 1 l9)]
                          (fun cs32 => fun h33 => 
                          ∃ b34 : Bool, ∃ n35 : Int, (cs32 = [V.one (Cell.bool b34), V.one (Cell.int IntKind.i64 n35)]) ∧
                          I 13 [V.one (Cell.slice 3 l30)]
                            (fun cs36 => fun h37 => 
                            ∃ n38 : Int, (cs36 = [V.one (Cell.int IntKind.i64 n38)]) ∧
                            (newK (.cells false [Cell.int IntKind.i64 n24, Cell.int IntKind.i64 n38]) (fun i39 => fun h40 =>
                            I 19 [V.one (Cell.slice 1 { a := some (i39, 0), len := 2 })]
                              (fun cs41 => fun h42 => 
                              ∃ n43 : Int, (cs41 = [V.one (Cell.int IntKind.i64 n43)]) ∧
                              (ifT (!decide (n43 = 0))
                                (joinK (A := Bool)
                                  (fun b44 => fun h45 => 
                                  Q [V.one (Cell.bool b44)] h45)
                                  (fun x46 => fun h47 => 
                                  I 9 []
                                    (fun cs48 => fun h49 => 
                                    ∃ b50 : Bool, (cs48 = [V.one (Cell.bool b50)]) ∧
                                    (ifT b50
                                      (x46 (decide (n35 = n43)))
                                      (x46 false)) h49) h47))
                                (fun h51 =>
                                I 9 []
                                  (fun cs52 => fun h53 => 
                                  ∃ b54 : Bool, (cs52 = [V.one (Cell.bool b54)]) ∧
                                  (ifT b54
                                    (ifT (decide (n35 = 0))
                                      (fun h55 =>
                                      I 16 [V.one (Cell.slice 3 l23), V.one (Cell.slice 3 l30)]
                                        (fun cs56 => fun h57 => 
                                        ∃ b58 : Bool, (cs56 = [V.one (Cell.bool b58)]) ∧
                                        Q [V.one (Cell.bool (decide (b34 = b58)))] h57) h55)
                                      (Q [V.one (Cell.bool false)]))
                                    (Q [V.one (Cell.bool false)])) h53) h51)) h42) h40)) h37) h33) h31)
                        (fun x59 => ifT b29
                          (fun h60 =>
                          I 10 [V.one (Cell.ptr (some (i2, 0)))]
                            (fun cs61 => fun h62 => 
                            ∃ l63 : Sl, (cs61 = [V.one (Cell.slice 3 l63)]) ∧
                            x59 l63 h62) h60)
                          (x59 l23))) h28) h26))
                  (fun x64 => ifT (!decide (n20 = n24))
                    (x64 true)
                    (fun h65 =>
                    I 16 [V.one (Cell.slice 3 l19), V.one (Cell.slice 3 l23)]
                      (fun cs66 => fun h67 => 
                      ∃ b68 : Bool, (cs66 = [V.one (Cell.bool b68)]) ∧
                      x64 (!b68) h67) h65))) h22) h18) h16)) h14) h11) h8) h5) h3)) h1
theorem den4 (I : FuncId → List V → Post → T) (l0 : Sl) (Q : Post) : denF Go.Proofs.Tryd.prog 0 (⟨[(508, 140462610448384, [(46, tk Go.Proofs.Tryd.prog 4)]), (2045, 3377699720528896, [(10, tk Go.Proofs.Tryd.prog 35)]), (65516, 4648579506574807007236, [(2, tk Go.Proofs.Tryd.prog 4)])], []⟩) I 4 [V.one (Cell.slice 1 l0)] Q = vc4 I l0 Q := by kernel_rfl
/-- handbill/handlaw1.measures -/
def vc9 (I : FuncId → List V → Post → T) (Q : Post) : T :=
  fun h0 =>
  I 32 [V.one (Cell.int IntKind.i64 2), V.one (Cell.int IntKind.i64 4)]
    (fun cs1 => fun h2 => 
    ∃ n3 : Int, ∃ n4 : Int, ∃ n5 : Int, (cs1 = [V.agg [Cell.int IntKind.i64 n3, Cell.int IntKind.i64 n4], V.one (Cell.int IntKind.i64 n5)]) ∧
    (ifT (decide (n5 = 0))
      (Q [V.one (Cell.bool (decide (n3 = 1) && decide (n4 = 2)))])
      (Q [V.one (Cell.bool false)])) h2) h0
theorem den9 (I : FuncId → List V → Post → T) (Q : Post) : denF Go.Proofs.Tryd.prog 2 (⟨[], []⟩) I 9 [] Q = vc9 I Q := by kernel_rfl
/-- handbill/measure.Reduce -/
def vc32 (I : FuncId → List V → Post → T) (n0 : Int) (n1 : Int) (Q : Post) : T :=
  joinK (A := Bool)
    (fun b2 => ifT b2
      (fun h3 =>
      Q [V.agg [Cell.int IntKind.i64 0, Cell.int IntKind.i64 0], V.one (Cell.int IntKind.i64 1)] h3)
      (ifT (decide (n1 = 0))
        (fun h4 =>
        Q [V.agg [Cell.int IntKind.i64 0, Cell.int IntKind.i64 0], V.one (Cell.int IntKind.i64 8)] h4)
        (fun h5 =>
        I 67 [V.one (Cell.int IntKind.i64 n0), V.one (Cell.int IntKind.i64 n1)]
          (fun cs6 => fun h7 => 
          ∃ n8 : Int, ∃ n9 : Int, (cs6 = [V.agg [Cell.int IntKind.i64 n8, Cell.int IntKind.i64 n9]]) ∧
          Q [V.agg [Cell.int IntKind.i64 n8, Cell.int IntKind.i64 n9], V.one (Cell.int IntKind.i64 0)] h7) h5)))
    (fun x10 => fun h11 => 
    I 25 [V.one (Cell.int IntKind.i64 n0), V.one (Cell.int IntKind.i64 (-4611686018427387904)), V.one (Cell.int IntKind.i64 4611686018427387904)]
      (fun cs12 => fun h13 => 
      ∃ b14 : Bool, (cs12 = [V.one (Cell.bool b14)]) ∧
      (ifT (!b14)
        (x10 true)
        (fun h15 =>
        I 25 [V.one (Cell.int IntKind.i64 n1), V.one (Cell.int IntKind.i64 (-4611686018427387904)), V.one (Cell.int IntKind.i64 4611686018427387904)]
          (fun cs16 => fun h17 => 
          ∃ b18 : Bool, (cs16 = [V.one (Cell.bool b18)]) ∧
          x10 (!b18) h17) h15)) h13) h11)
theorem den32 (I : FuncId → List V → Post → T) (n0 : Int) (n1 : Int) (Q : Post) : denF Go.Proofs.Tryd.prog 16 (⟨[(24, 32704, [(6, tk Go.Proofs.Tryd.prog 4)])], []⟩) I 32 [V.one (Cell.int IntKind.i64 n0), V.one (Cell.int IntKind.i64 n1)] Q = vc32 I n0 n1 Q := by kernel_rfl
/-- handbill/measure.within -/
def vc25 (I : FuncId → List V → Post → T) (n0 : Int) (n1 : Int) (n2 : Int) (Q : Post) : T :=
  ifT (decide (n1 ≤ n0))
    (Q [V.one (Cell.bool (decide (n0 ≤ n2)))])
    (Q [V.one (Cell.bool false)])
theorem den25 (I : FuncId → List V → Post → T) (n0 : Int) (n1 : Int) (n2 : Int) (Q : Post) : denF Go.Proofs.Tryd.prog 0 (⟨[], []⟩) I 25 [V.one (Cell.int IntKind.i64 n0), V.one (Cell.int IntKind.i64 n1), V.one (Cell.int IntKind.i64 n2)] Q = vc25 I n0 n1 n2 Q := by kernel_rfl
/-- handbill/measure.reduce -/
def vc67 (I : FuncId → List V → Post → T) (n0 : Int) (n1 : Int) (Q : Post) : T :=
  joinK (A := Int × Int)
    (uncur fun n2 n3 => fun h4 => 
    I 24 [V.one (Cell.int IntKind.i64 n2)]
      (fun cs5 => fun h6 => 
      ∃ n7 : Int, (cs5 = [V.one (Cell.int IntKind.u64 n7)]) ∧
      I 24 [V.one (Cell.int IntKind.i64 n3)]
        (fun cs8 => fun h9 => 
        ∃ n10 : Int, (cs8 = [V.one (Cell.int IntKind.u64 n10)]) ∧
        I 54 [V.one (Cell.int IntKind.u64 n7), V.one (Cell.int IntKind.u64 n10)]
          (fun cs11 => fun h12 => 
          ∃ n13 : Int, (cs11 = [V.one (Cell.int IntKind.u64 n13)]) ∧
          (IntKind.i64.wrap n13 ≠ 0) ∧
          (IntKind.i64.wrap n13 ≠ 0) ∧
          Q [V.agg [Cell.int IntKind.i64 (IntKind.i64.wrap (n2.tdiv (IntKind.i64.wrap n13))), Cell.int IntKind.i64 (IntKind.i64.wrap (n3.tdiv (IntKind.i64.wrap n13)))]] h12) h9) h6) h4)
    (fun x14 => ifT (decide (n1 < 0))
      (x14 ((IntKind.i64.wrap (0 - n0), IntKind.i64.wrap (0 - n1))))
      (x14 ((n0, n1))))
theorem den67 (I : FuncId → List V → Post → T) (n0 : Int) (n1 : Int) (Q : Post) : denF Go.Proofs.Tryd.prog 16 (⟨[(13, 3843, [(0, tk Go.Proofs.Tryd.prog 3), (1, tk Go.Proofs.Tryd.prog 3)])], []⟩) I 67 [V.one (Cell.int IntKind.i64 n0), V.one (Cell.int IntKind.i64 n1)] Q = vc67 I n0 n1 Q := by kernel_rfl
/-- handbill/measure.size -/
def vc24 (I : FuncId → List V → Post → T) (n0 : Int) (Q : Post) : T :=
  ifT (decide (n0 < 0))
    (Q [V.one (Cell.int IntKind.u64 (IntKind.u64.wrap (0 - IntKind.u64.wrap n0)))])
    (Q [V.one (Cell.int IntKind.u64 (IntKind.u64.wrap n0))])
theorem den24 (I : FuncId → List V → Post → T) (n0 : Int) (Q : Post) : denF Go.Proofs.Tryd.prog 0 (⟨[], []⟩) I 24 [V.one (Cell.int IntKind.i64 n0)] Q = vc24 I n0 Q := by kernel_rfl
/-- handbill/measure.divisor -/
def vc54 (I : FuncId → List V → Post → T) (n0 : Int) (n1 : Int) (Q : Post) : T :=
  loopK (A := Int × Int) ((n0, n1))
    (fun x2 => uncur fun n3 n4 => ifT (!decide (n4 = 0))
      (fun h5 =>
      (n4 ≠ 0) ∧
      x2 ((n4, n3.tmod n4)) h5)
      (Q [V.one (Cell.int IntKind.u64 n3)]))
theorem den54 (I : FuncId → List V → Post → T) (n0 : Int) (n1 : Int) (Q : Post) : denF Go.Proofs.Tryd.prog 0 (⟨[], [(12, 2019, [(0, tk Go.Proofs.Tryd.prog 50), (1, tk Go.Proofs.Tryd.prog 50)])]⟩) I 54 [V.one (Cell.int IntKind.u64 n0), V.one (Cell.int IntKind.u64 n1)] Q = vc54 I n0 n1 Q := by kernel_rfl
/-- (*handbill/handmake.Stream).Cells -/
def vc10 (I : FuncId → List V → Post → T) (p0 : Option (Nat × Nat)) (Q : Post) : T :=
  fun h1 =>
  I 6 [V.one (Cell.ptr p0), V.one (Cell.int IntKind.i64 0), V.one (Cell.int IntKind.i64 3)]
    (fun cs2 => fun h3 => 
    ∃ n4 : Int, (cs2 = [V.one (Cell.int IntKind.i64 n4)]) ∧
    (newK (.cells false [Cell.str { data := #[97] }, Cell.str { data := #[98] }]) (fun i5 => loopK (A := Sl × Int) (({ a := none, len := 0 }, 0))
      (fun x6 => uncur fun l7 n8 => ifT (decide (n8 < (↑2 : Int)))
        (fun h9 =>
        ((0 ≤ n8) ∧
        n8 < (↑2 : Int)) ∧
        ∃ s10 : ByteArray, (h9.read i5 (0 + n8.toNat * 1) 1 = some [Cell.str s10]) ∧
        (newK (.cells false [Cell.str { data := #[120] }, Cell.str { data := #[121] }]) (fun i11 => loopK (A := Sl × Int) ((l7, 0))
          (fun x12 => uncur fun l13 n14 => ifT (decide (n14 < (↑2 : Int)))
            (fun h15 =>
            ((0 ≤ n14) ∧
            n14 < (↑2 : Int)) ∧
            ∃ s16 : ByteArray, (h15.read i11 (0 + n14.toNat * 1) 1 = some [Cell.str s16]) ∧
            (newK (.cells false [Cell.str { data := #[109] }, Cell.str { data := #[110] }]) (fun i17 => loopK (A := Sl × Int) ((l13, 0))
              (fun x18 => uncur fun l19 n20 => ifT (decide (n20 < (↑2 : Int)))
                (fun h21 =>
                ((0 ≤ n20) ∧
                n20 < (↑2 : Int)) ∧
                ∃ s22 : ByteArray, (h21.read i17 (0 + n20.toNat * 1) 1 = some [Cell.str s22]) ∧
                (joinK (A := Bool)
                  (fun b23 => ifT b23
                    (x18 ((l19, IntKind.i64.wrap (n20 + 1))))
                    (fun h24 =>
                    ((0 ≤ n4) ∧
                    n4 ≤ (↑3 : Int)) ∧
                    (newK (.cells false [Cell.int IntKind.i64 0, Cell.int IntKind.i64 1, Cell.int IntKind.i64 5, Cell.int IntKind.i64 999999, Cell.int IntKind.i64 1000000]) (fun i25 => fun h26 =>
                    I 33 [V.one (Cell.ptr p0), V.one (Cell.slice 1 { a := some (i25, 0), len := 5 })]
                      (fun cs27 => fun h28 => 
                      ∃ n29 : Int, (cs27 = [V.one (Cell.int IntKind.i64 n29)]) ∧
                      (newK (.cells false [Cell.int IntKind.i64 0, Cell.int IntKind.i64 7, Cell.int IntKind.i64 (-7), Cell.int IntKind.i64 1000000000000, Cell.int IntKind.i64 (-1000000000000)]) (fun i30 => fun h31 =>
                      I 33 [V.one (Cell.ptr p0), V.one (Cell.slice 1 { a := some (i30, 0), len := 5 })]
                        (fun cs32 => fun h33 => 
                        ∃ n34 : Int, (cs32 = [V.one (Cell.int IntKind.i64 n34)]) ∧
                        (newK (.cells false [Cell.str s10, Cell.str s16, Cell.str s22]) (fun i35 => fun h36 => 
                        (appendTo [] 3 40 l19 1 [Cell.slice 1 { a := some (i35, 0), len := n4.toNat }, Cell.int IntKind.i64 n29, Cell.int IntKind.i64 n34] (fun l37 => fun h38 => 
                        x18 ((l37, IntKind.i64.wrap (n20 + 1))) h38)) h36)) h33) h31)) h28) h26)) h24))
                  (fun x39 => ifT (decide (n4 < 3))
                    (ifT (decide (s22 = { data := #[110] }))
                      (x39 true)
                      (ifT (decide (n4 < 2))
                        (ifT (decide (s16 = { data := #[121] }))
                          (x39 true)
                          (ifT (decide (n4 < 1))
                            (ifT (decide (s10 = { data := #[98] }))
                              (x39 true)
                              (fun h40 =>
                              I 17 [V.one (Cell.ptr p0), V.one (Cell.int IntKind.i64 3)]
                                (fun cs41 => fun h42 => 
                                ∃ b43 : Bool, (cs41 = [V.one (Cell.bool b43)]) ∧
                                x39 b43 h42) h40))
                            (fun h44 =>
                            I 17 [V.one (Cell.ptr p0), V.one (Cell.int IntKind.i64 3)]
                              (fun cs45 => fun h46 => 
                              ∃ b47 : Bool, (cs45 = [V.one (Cell.bool b47)]) ∧
                              x39 b47 h46) h44)))
                        (ifT (decide (n4 < 1))
                          (ifT (decide (s10 = { data := #[98] }))
                            (x39 true)
                            (fun h48 =>
                            I 17 [V.one (Cell.ptr p0), V.one (Cell.int IntKind.i64 3)]
                              (fun cs49 => fun h50 => 
                              ∃ b51 : Bool, (cs49 = [V.one (Cell.bool b51)]) ∧
                              x39 b51 h50) h48))
                          (fun h52 =>
                          I 17 [V.one (Cell.ptr p0), V.one (Cell.int IntKind.i64 3)]
                            (fun cs53 => fun h54 => 
                            ∃ b55 : Bool, (cs53 = [V.one (Cell.bool b55)]) ∧
                            x39 b55 h54) h52))))
                    (ifT (decide (n4 < 2))
                      (ifT (decide (s16 = { data := #[121] }))
                        (x39 true)
                        (ifT (decide (n4 < 1))
                          (ifT (decide (s10 = { data := #[98] }))
                            (x39 true)
                            (fun h56 =>
                            I 17 [V.one (Cell.ptr p0), V.one (Cell.int IntKind.i64 3)]
                              (fun cs57 => fun h58 => 
                              ∃ b59 : Bool, (cs57 = [V.one (Cell.bool b59)]) ∧
                              x39 b59 h58) h56))
                          (fun h60 =>
                          I 17 [V.one (Cell.ptr p0), V.one (Cell.int IntKind.i64 3)]
                            (fun cs61 => fun h62 => 
                            ∃ b63 : Bool, (cs61 = [V.one (Cell.bool b63)]) ∧
                            x39 b63 h62) h60)))
                      (ifT (decide (n4 < 1))
                        (ifT (decide (s10 = { data := #[98] }))
                          (x39 true)
                          (fun h64 =>
                          I 17 [V.one (Cell.ptr p0), V.one (Cell.int IntKind.i64 3)]
                            (fun cs65 => fun h66 => 
                            ∃ b67 : Bool, (cs65 = [V.one (Cell.bool b67)]) ∧
                            x39 b67 h66) h64))
                        (fun h68 =>
                        I 17 [V.one (Cell.ptr p0), V.one (Cell.int IntKind.i64 3)]
                          (fun cs69 => fun h70 => 
                          ∃ b71 : Bool, (cs69 = [V.one (Cell.bool b71)]) ∧
                          x39 b71 h70) h68))))) h21)
                (x12 ((l19, IntKind.i64.wrap (n14 + 1))))))) h15)
            (x6 ((l13, IntKind.i64.wrap (n8 + 1))))))) h9)
        (joinK (A := Bool)
          (fun b72 => ifT b72
            (fun h73 =>
            I 21 [V.one (Cell.ptr p0), V.one (Cell.int IntKind.i64 (↑l7.len : Int))]
              (fun cs74 => fun h75 => 
              ∃ n76 : Int, (cs74 = [V.one (Cell.int IntKind.i64 n76)]) ∧
              ((0 ≤ n76) ∧
              n76 < (↑l7.len : Int)) ∧
              (derefK l7.a (fun i77 => fun i78 => fun h79 => 
              I 21 [V.one (Cell.ptr p0), V.one (Cell.int IntKind.i64 3)]
                (fun cs80 => fun h81 => 
                ∃ n82 : Int, (cs80 = [V.one (Cell.int IntKind.i64 n82)]) ∧
                (ifT (decide (n82 = 0))
                  (fun h83 =>
                  ∃ l84 : Sl, (h83.read i77 (i78 + n76.toNat * 3 + 0) 1 = some [Cell.slice 1 l84]) ∧
                  (newK (.cells false [Cell.str { data := #[97] }, Cell.str { data := #[] }, Cell.str { data := #[122] }]) (fun i85 => fun h86 =>
                  I 34 [V.one (Cell.ptr p0), V.one (Cell.slice 1 { a := some (i85, 0), len := 3 })]
                    (fun cs87 => fun h88 => 
                    (h88 i77 = h86 i77) ∧
                    ∃ s89 : ByteArray, (cs87 = [V.one (Cell.str s89)]) ∧
                    (newK (.cells false [Cell.str s89]) (fun i90 => fun h91 => 
                    ∃ cs92 : List Cell, (h91.sl 1 l84 = some cs92) ∧
                    (appendTo [] 1 16 ({ a := some (i90, 0), len := 1 }) l84.len cs92 (fun l93 => fun h94 =>
                    (storeK [] i77 (i78 + n76.toNat * 3 + 0) [Cell.slice 1 l93] (Q [V.one (Cell.slice 3 l7)])) h94)) h91)) h88) h86)) h83)
                  (ifT (decide (n82 = 1))
                    (fun h95 =>
                    (newK (.cells false [Cell.int IntKind.i64 (-1), Cell.int IntKind.i64 1000001]) (fun i96 => fun h97 =>
                    I 33 [V.one (Cell.ptr p0), V.one (Cell.slice 1 { a := some (i96, 0), len := 2 })]
                      (fun cs98 => fun h99 => 
                      ∃ n100 : Int, (cs98 = [V.one (Cell.int IntKind.i64 n100)]) ∧
                      (storeK [] i77 (i78 + n76.toNat * 3 + 1) [Cell.int IntKind.i64 n100] (Q [V.one (Cell.slice 3 l7)])) h99) h97)) h95)
                    (fun h101 =>
                    (newK (.cells false [Cell.int IntKind.i64 1000000000001, Cell.int IntKind.i64 (-1000000000001)]) (fun i102 => fun h103 =>
                    I 33 [V.one (Cell.ptr p0), V.one (Cell.slice 1 { a := some (i102, 0), len := 2 })]
                      (fun cs104 => fun h105 => 
                      ∃ n106 : Int, (cs104 = [V.one (Cell.int IntKind.i64 n106)]) ∧
                      (storeK [] i77 (i78 + n76.toNat * 3 + 2) [Cell.int IntKind.i64 n106] (Q [V.one (Cell.slice 3 l7)])) h105) h103)) h101))) h81) h79)) h75) h73)
            (Q [V.one (Cell.slice 3 l7)]))
          (fun x107 => fun h108 => 
          I 17 [V.one (Cell.ptr p0), V.one (Cell.int IntKind.i64 12)]
            (fun cs109 => fun h110 => 
            ∃ b111 : Bool, (cs109 = [V.one (Cell.bool b111)]) ∧
            (ifT b111
              (x107 (decide ((↑l7.len : Int) > 0)))
              (x107 false)) h110) h108))))) h3) h1
theorem den10 (I : FuncId → List V → Post → T) (p0 : Option (Nat × Nat)) (Q : Post) : denF Go.Proofs.Tryd.prog 0 (⟨[(124, 19191697386382238148460544, [(83, tk Go.Proofs.Tryd.prog 4)]), (2053531236, 288230371856744448, [(57, tk Go.Proofs.Tryd.prog 4)])], [(122, 151115727451828646774088, [(3, tk Go.Proofs.Tryd.prog 35), (16, tk Go.Proofs.Tryd.prog 3)]), (31334, 75557863725914319226120, [(3, tk Go.Proofs.Tryd.prog 35), (22, tk Go.Proofs.Tryd.prog 3)]), (8021606, 37778931862956893275144, [(3, tk Go.Proofs.Tryd.prog 35), (28, tk Go.Proofs.Tryd.prog 3)])]⟩) I 10 [V.one (Cell.ptr p0)] Q = vc10 I p0 Q := by kernel_rfl
/-- (*handbill/handmake.Stream).Range -/
def vc6 (I : FuncId → List V → Post → T) (p0 : Option (Nat × Nat)) (n1 : Int) (n2 : Int) (Q : Post) : T :=
  ifT (decide (n2 < n1))
    (Q [V.one (Cell.int IntKind.i64 n1)])
    (fun h3 =>
    I 21 [V.one (Cell.ptr p0), V.one (Cell.int IntKind.i64 (IntKind.i64.wrap (IntKind.i64.wrap (n2 - n1) + 1)))]
      (fun cs4 => fun h5 => 
      ∃ n6 : Int, (cs4 = [V.one (Cell.int IntKind.i64 n6)]) ∧
      Q [V.one (Cell.int IntKind.i64 (IntKind.i64.wrap (n1 + n6)))] h5) h3)
theorem den6 (I : FuncId → List V → Post → T) (p0 : Option (Nat × Nat)) (n1 : Int) (n2 : Int) (Q : Post) : denF Go.Proofs.Tryd.prog 0 (⟨[], []⟩) I 6 [V.one (Cell.ptr p0), V.one (Cell.int IntKind.i64 n1), V.one (Cell.int IntKind.i64 n2)] Q = vc6 I p0 n1 n2 Q := by kernel_rfl
/-- (*handbill/handmake.Stream).Next -/
def vc21 (I : FuncId → List V → Post → T) (p0 : Option (Nat × Nat)) (n1 : Int) (Q : Post) : T :=
  derefK p0 (fun i2 => fun i3 => fun h4 =>
  ∃ n5 : Int, (h4.read i2 (i3 + 1) 1 = some [Cell.int IntKind.i64 n5]) ∧
  (derefK p0 (fun i6 => fun i7 => fun h8 =>
  (storeK [] i6 (i7 + 1) [Cell.int IntKind.i64 (IntKind.i64.wrap (n5 + 1))] (derefK p0 (fun i9 => fun i10 => fun h11 =>
  ∃ l12 : Sl, (h11.read i9 (i10 + 0) 1 = some [Cell.slice 1 l12]) ∧
  (ifT (decide ((↑l12.len : Int) = 0))
    (derefK p0 (fun i13 => fun i14 => fun h15 =>
    ∃ n16 : Int, (h15.read i13 (i14 + 1) 1 = some [Cell.int IntKind.i64 n16]) ∧
    I 53 [V.one (Cell.int IntKind.i64 (IntKind.i64.wrap (n16 * 7919))), V.one (Cell.int IntKind.i64 n1)]
      (fun cs17 => fun h18 => 
      ∃ n19 : Int, (cs17 = [V.one (Cell.int IntKind.i64 n19)]) ∧
      Q [V.one (Cell.int IntKind.i64 n19)] h18) h15))
    (derefK p0 (fun i20 => fun i21 => fun h22 =>
    ∃ n23 : Int, (h22.read i20 (i21 + 1) 1 = some [Cell.int IntKind.i64 n23]) ∧
    (derefK p0 (fun i24 => fun i25 => fun h26 =>
    ∃ l27 : Sl, (h26.read i24 (i25 + 0) 1 = some [Cell.slice 1 l27]) ∧
    ((↑l27.len : Int) ≠ 0) ∧
    (derefK p0 (fun i28 => fun i29 => fun h30 =>
    ∃ n31 : Int, (h30.read i28 (i29 + 1) 1 = some [Cell.int IntKind.i64 n31]) ∧
    (derefK p0 (fun i32 => fun i33 => fun h34 =>
    ∃ l35 : Sl, (h34.read i32 (i33 + 0) 1 = some [Cell.slice 1 l35]) ∧
    ((↑l35.len : Int) ≠ 0) ∧
    (derefK p0 (fun i36 => fun i37 => fun h38 =>
    ∃ l39 : Sl, (h38.read i36 (i37 + 0) 1 = some [Cell.slice 1 l39]) ∧
    ((0 ≤ (IntKind.i64.wrap (n23 - 1)).tmod (↑l27.len : Int)) ∧
    (IntKind.i64.wrap (n23 - 1)).tmod (↑l27.len : Int) < (↑l39.len : Int)) ∧
    (derefK l39.a (fun i40 => fun i41 => fun h42 =>
    ∃ n43 : Int, (h42.read i40 (i41 + ((IntKind.i64.wrap (n23 - 1)).tmod (↑l27.len : Int)).toNat * 1) 1 = some [Cell.int IntKind.i64 n43]) ∧
    I 53 [V.one (Cell.int IntKind.i64 n43), V.one (Cell.int IntKind.i64 1073741824)]
      (fun cs44 => fun h45 => 
      ∃ n46 : Int, (cs44 = [V.one (Cell.int IntKind.i64 n46)]) ∧
      I 53 [V.one (Cell.int IntKind.i64 (IntKind.i64.wrap (n46 + IntKind.i64.wrap (IntKind.i64.wrap ((IntKind.i64.wrap (n31 - 1)).tdiv (↑l35.len : Int)) * IntKind.i64.wrap (7919 + (IntKind.i64.wrap (n23 - 1)).tmod (↑l27.len : Int)))))), V.one (Cell.int IntKind.i64 n1)]
        (fun cs47 => fun h48 => 
        ∃ n49 : Int, (cs47 = [V.one (Cell.int IntKind.i64 n49)]) ∧
        Q [V.one (Cell.int IntKind.i64 n49)] h48) h45) h42)) h38)) h34)) h30)) h26)) h22))) h11))) h8)) h4)
theorem den21 (I : FuncId → List V → Post → T) (p0 : Option (Nat × Nat)) (n1 : Int) (Q : Post) : denF Go.Proofs.Tryd.prog 0 (⟨[], []⟩) I 21 [V.one (Cell.ptr p0), V.one (Cell.int IntKind.i64 n1)] Q = vc21 I p0 n1 Q := by kernel_rfl
/-- handbill/handmake.Below -/
def vc53 (I : FuncId → List V → Post → T) (n0 : Int) (n1 : Int) (Q : Post) : T :=
  ifT (decide (n1 < 1))
    (Q [V.one (Cell.int IntKind.i64 0)])
    (fun h2 =>
    (n1 ≠ 0) ∧
    (ifT (decide (n0.tmod n1 < 0))
      (Q [V.one (Cell.int IntKind.i64 (IntKind.i64.wrap (n0.tmod n1 + n1)))])
      (Q [V.one (Cell.int IntKind.i64 (n0.tmod n1))])) h2)
theorem den53 (I : FuncId → List V → Post → T) (n0 : Int) (n1 : Int) (Q : Post) : denF Go.Proofs.Tryd.prog 0 (⟨[], []⟩) I 53 [V.one (Cell.int IntKind.i64 n0), V.one (Cell.int IntKind.i64 n1)] Q = vc53 I n0 n1 Q := by kernel_rfl
/-- (*handbill/handmake.Stream).Flip -/
def vc17 (I : FuncId → List V → Post → T) (p0 : Option (Nat × Nat)) (n1 : Int) (Q : Post) : T :=
  fun h2 =>
  I 21 [V.one (Cell.ptr p0), V.one (Cell.int IntKind.i64 n1)]
    (fun cs3 => fun h4 => 
    ∃ n5 : Int, (cs3 = [V.one (Cell.int IntKind.i64 n5)]) ∧
    Q [V.one (Cell.bool (decide (n5 = 0)))] h4) h2
theorem den17 (I : FuncId → List V → Post → T) (p0 : Option (Nat × Nat)) (n1 : Int) (Q : Post) : denF Go.Proofs.Tryd.prog 0 (⟨[], []⟩) I 17 [V.one (Cell.ptr p0), V.one (Cell.int IntKind.i64 n1)] Q = vc17 I p0 n1 Q := by kernel_rfl
/-- (*handbill/handmake.Stream).Pick -/
def vc33 (I : FuncId → List V → Post → T) (p0 : Option (Nat × Nat)) (l1 : Sl) (Q : Post) : T :=
  fun h2 =>
  I 21 [V.one (Cell.ptr p0), V.one (Cell.int IntKind.i64 (↑l1.len : Int))]
    (fun cs3 => fun h4 => 
    ∃ n5 : Int, (cs3 = [V.one (Cell.int IntKind.i64 n5)]) ∧
    ((0 ≤ n5) ∧
    n5 < (↑l1.len : Int)) ∧
    (derefK l1.a (fun i6 => fun i7 => fun h8 =>
    ∃ n9 : Int, (h8.read i6 (i7 + n5.toNat * 1) 1 = some [Cell.int IntKind.i64 n9]) ∧
    Q [V.one (Cell.int IntKind.i64 n9)] h8)) h4) h2
theorem den33 (I : FuncId → List V → Post → T) (p0 : Option (Nat × Nat)) (l1 : Sl) (Q : Post) : denF Go.Proofs.Tryd.prog 0 (⟨[], []⟩) I 33 [V.one (Cell.ptr p0), V.one (Cell.slice 1 l1)] Q = vc33 I p0 l1 Q := by kernel_rfl
/-- (*handbill/handmake.Stream).one -/
def vc34 (I : FuncId → List V → Post → T) (p0 : Option (Nat × Nat)) (l1 : Sl) (Q : Post) : T :=
  fun h2 =>
  I 21 [V.one (Cell.ptr p0), V.one (Cell.int IntKind.i64 (↑l1.len : Int))]
    (fun cs3 => fun h4 => 
    ∃ n5 : Int, (cs3 = [V.one (Cell.int IntKind.i64 n5)]) ∧
    ((0 ≤ n5) ∧
    n5 < (↑l1.len : Int)) ∧
    (derefK l1.a (fun i6 => fun i7 => fun h8 =>
    ∃ s9 : ByteArray, (h8.read i6 (i7 + n5.toNat * 1) 1 = some [Cell.str s9]) ∧
    Q [V.one (Cell.str s9)] h8)) h4) h2
theorem den34 (I : FuncId → List V → Post → T) (p0 : Option (Nat × Nat)) (l1 : Sl) (Q : Post) : denF Go.Proofs.Tryd.prog 0 (⟨[], []⟩) I 34 [V.one (Cell.ptr p0), V.one (Cell.slice 1 l1)] Q = vc34 I p0 l1 Q := by kernel_rfl
/-- (*handbill/handmake.Stream).Keep -/
def vc11 (I : FuncId → List V → Post → T) (p0 : Option (Nat × Nat)) (Q : Post) : T :=
  loopK (A := Sl × Int) (({ a := none, len := 0 }, 0))
    (fun x1 => uncur fun l2 n3 => ifT (decide (n3 < 3))
      (fun h4 =>
      I 17 [V.one (Cell.ptr p0), V.one (Cell.int IntKind.i64 2)]
        (fun cs5 => fun h6 => 
        ∃ b7 : Bool, (cs5 = [V.one (Cell.bool b7)]) ∧
        (ifT b7
          (fun h8 =>
          (appendTo [] 1 8 l2 1 [Cell.int IntKind.i64 n3] (fun l9 => fun h10 => 
          x1 ((l9, IntKind.i64.wrap (n3 + 1))) h10)) h8)
          (x1 ((l2, IntKind.i64.wrap (n3 + 1))))) h6) h4)
      (fun h11 =>
      I 17 [V.one (Cell.ptr p0), V.one (Cell.int IntKind.i64 12)]
        (fun cs12 => fun h13 => 
        ∃ b14 : Bool, (cs12 = [V.one (Cell.bool b14)]) ∧
        (ifT b14
          (fun h15 =>
          (newK (.cells false [Cell.int IntKind.i64 (-1), Cell.int IntKind.i64 0, Cell.int IntKind.i64 3, Cell.int IntKind.i64 6]) (fun i16 => fun h17 =>
          I 33 [V.one (Cell.ptr p0), V.one (Cell.slice 1 { a := some (i16, 0), len := 4 })]
            (fun cs18 => fun h19 => 
            ∃ n20 : Int, (cs18 = [V.one (Cell.int IntKind.i64 n20)]) ∧
            (appendTo [] 1 8 l2 1 [Cell.int IntKind.i64 n20] (fun l21 => fun h22 => 
            Q [V.one (Cell.slice 1 l21)] h22)) h19) h17)) h15)
          (Q [V.one (Cell.slice 1 l2)])) h13) h11))
theorem den11 (I : FuncId → List V → Post → T) (p0 : Option (Nat × Nat)) (Q : Post) : denF Go.Proofs.Tryd.prog 0 (⟨[], [(58, 32760, [(3, tk Go.Proofs.Tryd.prog 22), (5, tk Go.Proofs.Tryd.prog 3)])]⟩) I 11 [V.one (Cell.ptr p0)] Q = vc11 I p0 Q := by kernel_rfl
/-- handbill/measure.CheckCells -/
def vc12 (I : FuncId → List V → Post → T) (l0 : Sl) (Q : Post) : T :=
  ifT (decide ((↑l0.len : Int) > 2000))
    (Q [V.one (Cell.int IntKind.i64 2)])
    (loopK (A := Int) 0
      (fun x1 => fun n2 => ifT (decide (n2 < (↑l0.len : Int)))
        (fun h3 =>
        ((0 ≤ n2) ∧
        n2 < (↑l0.len : Int)) ∧
        (derefK l0.a (fun i4 => fun i5 => fun h6 =>
        ∃ l7 : Sl, ∃ n8 : Int, ∃ n9 : Int, (h6.read i4 (i5 + n2.toNat * 3) 3 = some [Cell.slice 1 l7, Cell.int IntKind.i64 n8, Cell.int IntKind.i64 n9]) ∧
        (joinK (A := Bool)
          (fun b10 => ifT b10
            (Q [V.one (Cell.int IntKind.i64 3)])
            (fun h11 =>
            I 35 [V.one (Cell.slice 1 l7), V.one (Cell.func (some (36, [])))]
              (fun cs12 => fun h13 => 
              ∃ b14 : Bool, (cs12 = [V.one (Cell.bool b14)]) ∧
              (ifT b14
                (Q [V.one (Cell.int IntKind.i64 5)])
                (joinK (A := Bool)
                  (fun b15 => ifT b15
                    (Q [V.one (Cell.int IntKind.i64 7)])
                    (fun h16 =>
                    I 39 [V.agg [Cell.slice 1 l7, Cell.int IntKind.i64 n8, Cell.int IntKind.i64 n9]]
                      (fun cs17 => fun h18 => 
                      ∃ b19 : Bool, (cs17 = [V.one (Cell.bool b19)]) ∧
                      (ifT (!b19)
                        (Q [V.one (Cell.int IntKind.i64 1)])
                        (x1 (IntKind.i64.wrap (n2 + 1)))) h18) h16))
                  (fun x20 => ifT (decide (n2 > 0))
                    (fun h21 =>
                    ((0 ≤ IntKind.i64.wrap (n2 - 1)) ∧
                    IntKind.i64.wrap (n2 - 1) < (↑l0.len : Int)) ∧
                    (derefK l0.a (fun i22 => fun i23 => fun h24 =>
                    ∃ l25 : Sl, (h24.read i22 (i23 + (IntKind.i64.wrap (n2 - 1)).toNat * 3 + 0) 1 = some [Cell.slice 1 l25]) ∧
                    I 38 [V.one (Cell.slice 1 l7), V.one (Cell.slice 1 l25)]
                      (fun cs26 => fun h27 => 
                      ∃ n28 : Int, (cs26 = [V.one (Cell.int IntKind.i64 n28)]) ∧
                      x20 (decide (n28 ≤ 0)) h27) h24)) h21)
                    (x20 false)))) h13) h11))
          (fun x29 => fun h30 => 
          (((0 : Int) ≤ (0 : Int)) ∧
          0 < (↑l0.len : Int)) ∧
          (derefK l0.a (fun i31 => fun i32 => fun h33 =>
          ∃ l34 : Sl, (h33.read i31 (i32 + 0 + 0) 1 = some [Cell.slice 1 l34]) ∧
          (ifT (!decide ((↑l7.len : Int) = (↑l34.len : Int)))
            (x29 true)
            (x29 (decide ((↑l7.len : Int) > 6)))) h33)) h30)) h6)) h3)
        (Q [V.one (Cell.int IntKind.i64 0)])))
theorem den12 (I : FuncId → List V → Post → T) (l0 : Sl) (Q : Post) : denF Go.Proofs.Tryd.prog 16 (⟨[(14948, 1073709056, [(29, tk Go.Proofs.Tryd.prog 4)]), (59804, 281466386776064, [(33, tk Go.Proofs.Tryd.prog 4)])], [(58, 9007199254739996, [(10, tk Go.Proofs.Tryd.prog 3)])]⟩) I 12 [V.one (Cell.slice 3 l0)] Q = vc12 I l0 Q := by kernel_rfl
/-- slices.ContainsFunc[[]string,string] -/
def vc35 (I : FuncId → List V → Post → T) (l0 : Sl) (p1 : Option (Nat × List (Nat × Nat))) (Q : Post) : T :=
  fun h2 =>
  I 68 [V.one (Cell.slice 1 l0), V.one (Cell.func p1)]
    (fun cs3 => fun h4 => 
    ∃ n5 : Int, (cs3 = [V.one (Cell.int IntKind.i64 n5)]) ∧
    Q [V.one (Cell.bool (decide (n5 ≥ 0)))] h4) h2
theorem den35 (I : FuncId → List V → Post → T) (l0 : Sl) (p1 : Option (Nat × List (Nat × Nat))) (Q : Post) : denF Go.Proofs.Tryd.prog 0 (⟨[], []⟩) I 35 [V.one (Cell.slice 1 l0), V.one (Cell.func p1)] Q = vc35 I l0 p1 Q := by kernel_rfl
/-- slices.IndexFunc[[]string,string] -/
def vc68 (I : FuncId → List V → Post → T) (l0 : Sl) (p1 : Option (Nat × List (Nat × Nat))) (Q : Post) : T :=
  loopK (A := Int) 0
    (fun x2 => fun n3 => ifT (decide (n3 < (↑l0.len : Int)))
      (fun h4 =>
      ((0 ≤ n3) ∧
      n3 < (↑l0.len : Int)) ∧
      (derefK l0.a (fun i5 => fun i6 => fun h7 =>
      ∃ s8 : ByteArray, (h7.read i5 (i6 + n3.toNat * 1) 1 = some [Cell.str s8]) ∧
      (funK p1 (fun i9 => fun cs10 => fun h11 => 
      I i9 (V.one (Cell.str s8) :: cs10)
        (fun cs12 => fun h13 => 
        ∃ b14 : Bool, (cs12 = [V.one (Cell.bool b14)]) ∧
        (ifT b14
          (Q [V.one (Cell.int IntKind.i64 n3)])
          (x2 (IntKind.i64.wrap (n3 + 1)))) h13) h11)) h7)) h4)
      (Q [V.one (Cell.int IntKind.i64 (-1))]))
theorem den68 (I : FuncId → List V → Post → T) (l0 : Sl) (p1 : Option (Nat × List (Nat × Nat))) (Q : Post) : denF Go.Proofs.Tryd.prog 0 (⟨[], [(26, 524080, [(8, tk Go.Proofs.Tryd.prog 3)])]⟩) I 68 [V.one (Cell.slice 1 l0), V.one (Cell.func p1)] Q = vc68 I l0 p1 Q := by kernel_rfl
/-- handbill/measure.CheckCells$1 -/
def vc36 (I : FuncId → List V → Post → T) (s0 : ByteArray) (Q : Post) : T :=
  fun h1 =>
  I 37 [V.one (Cell.str s0)]
    (fun cs2 => fun h3 => 
    ∃ b4 : Bool, (cs2 = [V.one (Cell.bool b4)]) ∧
    Q [V.one (Cell.bool !b4)] h3) h1
theorem den36 (I : FuncId → List V → Post → T) (s0 : ByteArray) (Q : Post) : denF Go.Proofs.Tryd.prog 0 (⟨[], []⟩) I 36 [V.one (Cell.str s0)] Q = vc36 I s0 Q := by kernel_rfl
/-- handbill/person.IsKey -/
def vc37 (I : FuncId → List V → Post → T) (s0 : ByteArray) (Q : Post) : T :=
  fun h1 =>
  I 69 [V.one (Cell.int IntKind.i64 (↑s0.size : Int)), V.one (Cell.int IntKind.i64 1), V.one (Cell.int IntKind.i64 40)]
    (fun cs2 => fun h3 => 
    ∃ b4 : Bool, (cs2 = [V.one (Cell.bool b4)]) ∧
    (ifT b4
      (fun h5 =>
      (((0 : Int) ≤ (0 : Int)) ∧
      0 < (↑s0.size : Int)) ∧
      I 70 [V.one (Cell.int IntKind.u8 (byteAt s0 0))]
        (fun cs6 => fun h7 => 
        ∃ b8 : Bool, (cs6 = [V.one (Cell.bool b8)]) ∧
        (ifT b8
          (fun h9 =>
          I 71 [V.one (Cell.str s0), V.one (Cell.func (some (72, [])))]
            (fun cs10 => fun h11 => 
            ∃ b12 : Bool, (cs10 = [V.one (Cell.bool b12)]) ∧
            Q [V.one (Cell.bool b12)] h11) h9)
          (Q [V.one (Cell.bool false)])) h7) h5)
      (Q [V.one (Cell.bool false)])) h3) h1
theorem den37 (I : FuncId → List V → Post → T) (s0 : ByteArray) (Q : Post) : denF Go.Proofs.Tryd.prog 0 (⟨[], []⟩) I 37 [V.one (Cell.str s0)] Q = vc37 I s0 Q := by kernel_rfl
/-- handbill/person.within -/
def vc69 (I : FuncId → List V → Post → T) (n0 : Int) (n1 : Int) (n2 : Int) (Q : Post) : T :=
  ifT (decide (n1 ≤ n0))
    (Q [V.one (Cell.bool (decide (n0 ≤ n2)))])
    (Q [V.one (Cell.bool false)])
theorem den69 (I : FuncId → List V → Post → T) (n0 : Int) (n1 : Int) (n2 : Int) (Q : Post) : denF Go.Proofs.Tryd.prog 0 (⟨[], []⟩) I 69 [V.one (Cell.int IntKind.i64 n0), V.one (Cell.int IntKind.i64 n1), V.one (Cell.int IntKind.i64 n2)] Q = vc69 I n0 n1 n2 Q := by kernel_rfl
/-- handbill/person.small -/
def vc70 (I : FuncId → List V → Post → T) (n0 : Int) (Q : Post) : T :=
  ifT (decide (97 ≤ n0))
    (Q [V.one (Cell.bool (decide (n0 ≤ 122)))])
    (Q [V.one (Cell.bool false)])
theorem den70 (I : FuncId → List V → Post → T) (n0 : Int) (Q : Post) : denF Go.Proofs.Tryd.prog 0 (⟨[], []⟩) I 70 [V.one (Cell.int IntKind.u8 n0)] Q = vc70 I n0 Q := by kernel_rfl
/-- handbill/person.all -/
def vc71 (I : FuncId → List V → Post → T) (s0 : ByteArray) (p1 : Option (Nat × List (Nat × Nat))) (Q : Post) : T :=
  loopK (A := Int) 0
    (fun x2 => fun n3 => ifT (decide (n3 < (↑s0.size : Int)))
      (fun h4 =>
      ((0 ≤ n3) ∧
      n3 < (↑s0.size : Int)) ∧
      (funK p1 (fun i5 => fun cs6 => fun h7 => 
      I i5 (V.one (Cell.int IntKind.u8 (byteAt s0 n3)) :: cs6)
        (fun cs8 => fun h9 => 
        ∃ b10 : Bool, (cs8 = [V.one (Cell.bool b10)]) ∧
        (ifT (!b10)
          (Q [V.one (Cell.bool false)])
          (x2 (IntKind.i64.wrap (n3 + 1)))) h9) h7)) h4)
      (Q [V.one (Cell.bool true)]))
theorem den71 (I : FuncId → List V → Post → T) (s0 : ByteArray) (p1 : Option (Nat × List (Nat × Nat))) (Q : Post) : denF Go.Proofs.Tryd.prog 0 (⟨[], [(26, 261936, [(8, tk Go.Proofs.Tryd.prog 3)])]⟩) I 71 [V.one (Cell.str s0), V.one (Cell.func p1)] Q = vc71 I s0 p1 Q := by kernel_rfl
/-- handbill/person.IsKey$1 -/
def vc72 (I : FuncId → List V → Post → T) (n0 : Int) (Q : Post) : T :=
  fun h1 =>
  I 70 [V.one (Cell.int IntKind.u8 n0)]
    (fun cs2 => fun h3 => 
    ∃ b4 : Bool, (cs2 = [V.one (Cell.bool b4)]) ∧
    (ifT b4
      (Q [V.one (Cell.bool true)])
      (fun h5 =>
      I 73 [V.one (Cell.int IntKind.u8 n0)]
        (fun cs6 => fun h7 => 
        ∃ b8 : Bool, (cs6 = [V.one (Cell.bool b8)]) ∧
        (ifT b8
          (Q [V.one (Cell.bool true)])
          (ifT (decide (n0 = 45))
            (Q [V.one (Cell.bool true)])
            (Q [V.one (Cell.bool (decide (n0 = 95)))]))) h7) h5)) h3) h1
theorem den72 (I : FuncId → List V → Post → T) (n0 : Int) (Q : Post) : denF Go.Proofs.Tryd.prog 0 (⟨[], []⟩) I 72 [V.one (Cell.int IntKind.u8 n0)] Q = vc72 I n0 Q := by kernel_rfl
/-- handbill/person.digit -/
def vc73 (I : FuncId → List V → Post → T) (n0 : Int) (Q : Post) : T :=
  ifT (decide (48 ≤ n0))
    (Q [V.one (Cell.bool (decide (n0 ≤ 57)))])
    (Q [V.one (Cell.bool false)])
theorem den73 (I : FuncId → List V → Post → T) (n0 : Int) (Q : Post) : denF Go.Proofs.Tryd.prog 0 (⟨[], []⟩) I 73 [V.one (Cell.int IntKind.u8 n0)] Q = vc73 I n0 Q := by kernel_rfl
/-- slices.Compare[[]string,string] -/
def vc38 (I : FuncId → List V → Post → T) (l0 : Sl) (l1 : Sl) (Q : Post) : T :=
  loopK (A := Int) 0
    (fun x2 => fun n3 => ifT (decide (n3 < (↑l0.len : Int)))
      (fun h4 =>
      ((0 ≤ n3) ∧
      n3 < (↑l0.len : Int)) ∧
      (derefK l0.a (fun i5 => fun i6 => fun h7 =>
      ∃ s8 : ByteArray, (h7.read i5 (i6 + n3.toNat * 1) 1 = some [Cell.str s8]) ∧
      (ifT (decide (n3 ≥ (↑l1.len : Int)))
        (Q [V.one (Cell.int IntKind.i64 1)])
        (fun h9 =>
        ((0 ≤ n3) ∧
        n3 < (↑l1.len : Int)) ∧
        (derefK l1.a (fun i10 => fun i11 => fun h12 =>
        ∃ s13 : ByteArray, (h12.read i10 (i11 + n3.toNat * 1) 1 = some [Cell.str s13]) ∧
        I 74 [V.one (Cell.str s8), V.one (Cell.str s13)]
          (fun cs14 => fun h15 => 
          ∃ n16 : Int, (cs14 = [V.one (Cell.int IntKind.i64 n16)]) ∧
          (ifT (!decide (n16 = 0))
            (Q [V.one (Cell.int IntKind.i64 n16)])
            (x2 (IntKind.i64.wrap (n3 + 1)))) h15) h12)) h9)) h7)) h4)
      (ifT (decide ((↑l0.len : Int) < (↑l1.len : Int)))
        (Q [V.one (Cell.int IntKind.i64 (-1))])
        (Q [V.one (Cell.int IntKind.i64 0)])))
theorem den38 (I : FuncId → List V → Post → T) (l0 : Sl) (l1 : Sl) (Q : Post) : denF Go.Proofs.Tryd.prog 0 (⟨[], [(26, 2147482096, [(11, tk Go.Proofs.Tryd.prog 3)])]⟩) I 38 [V.one (Cell.slice 1 l0), V.one (Cell.slice 1 l1)] Q = vc38 I l0 l1 Q := by kernel_rfl
/-- cmp.Compare[string] -/
def vc74 (I : FuncId → List V → Post → T) (s0 : ByteArray) (s1 : ByteArray) (Q : Post) : T :=
  fun h2 =>
  I 92 [V.one (Cell.str s0)]
    (fun cs3 => fun h4 => 
    ∃ b5 : Bool, (cs3 = [V.one (Cell.bool b5)]) ∧
    I 92 [V.one (Cell.str s1)]
      (fun cs6 => fun h7 => 
      ∃ b8 : Bool, (cs6 = [V.one (Cell.bool b8)]) ∧
      (ifT b5
        (ifT b8
          (Q [V.one (Cell.int IntKind.i64 0)])
          (Q [V.one (Cell.int IntKind.i64 (-1))]))
        (ifT b8
          (Q [V.one (Cell.int IntKind.i64 1)])
          (ifT (Op.bytesLess s0.toList s1.toList)
            (Q [V.one (Cell.int IntKind.i64 (-1))])
            (ifT (!(Op.bytesLess s0.toList s1.toList || decide (s0 = s1)))
              (Q [V.one (Cell.int IntKind.i64 1)])
              (Q [V.one (Cell.int IntKind.i64 0)]))))) h7) h4) h2
theorem den74 (I : FuncId → List V → Post → T) (s0 : ByteArray) (s1 : ByteArray) (Q : Post) : denF Go.Proofs.Tryd.prog 0 (⟨[], []⟩) I 74 [V.one (Cell.str s0), V.one (Cell.str s1)] Q = vc74 I s0 s1 Q := by kernel_rfl
/-- cmp.isNaN[string] -/
def vc92 (I : FuncId → List V → Post → T) (s0 : ByteArray) (Q : Post) : T :=
  Q [V.one (Cell.bool (!decide (s0 = s0)))]
theorem den92 (I : FuncId → List V → Post → T) (s0 : ByteArray) (Q : Post) : denF Go.Proofs.Tryd.prog 0 (⟨[], []⟩) I 92 [V.one (Cell.str s0)] Q = vc92 I s0 Q := by kernel_rfl
/-- handbill/measure.full -/
def vc39 (I : FuncId → List V → Post → T) (l0 : Sl) (n1 : Int) (n2 : Int) (Q : Post) : T :=
  fun h3 =>
  I 25 [V.one (Cell.int IntKind.i64 n1), V.one (Cell.int IntKind.i64 0), V.one (Cell.int IntKind.i64 1000000)]
    (fun cs4 => fun h5 => 
    ∃ b6 : Bool, (cs4 = [V.one (Cell.bool b6)]) ∧
    (ifT b6
      (fun h7 =>
      I 25 [V.one (Cell.int IntKind.i64 n2), V.one (Cell.int IntKind.i64 (-1000000000000)), V.one (Cell.int IntKind.i64 1000000000000)]
        (fun cs8 => fun h9 => 
        ∃ b10 : Bool, (cs8 = [V.one (Cell.bool b10)]) ∧
        Q [V.one (Cell.bool b10)] h9) h7)
      (Q [V.one (Cell.bool false)])) h5) h3
theorem den39 (I : FuncId → List V → Post → T) (l0 : Sl) (n1 : Int) (n2 : Int) (Q : Post) : denF Go.Proofs.Tryd.prog 2 (⟨[], []⟩) I 39 [V.agg [Cell.slice 1 l0, Cell.int IntKind.i64 n1, Cell.int IntKind.i64 n2]] Q = vc39 I l0 n1 n2 Q := by kernel_rfl
/-- handbill/handref1.CellsFault -/
def vc13 (I : FuncId → List V → Post → T) (l0 : Sl) (Q : Post) : T :=
  ifT (decide ((↑l0.len : Int) > 2000))
    (Q [V.one (Cell.int IntKind.i64 2)])
    (loopK (A := Int) 0
      (fun x1 => fun n2 => ifT (decide (n2 < (↑l0.len : Int)))
        (fun h3 =>
        ((0 ≤ n2) ∧
        n2 < (↑l0.len : Int)) ∧
        (derefK l0.a (fun i4 => fun i5 => fun h6 =>
        ∃ l7 : Sl, ∃ n8 : Int, ∃ n9 : Int, (h6.read i4 (i5 + n2.toNat * 3) 3 = some [Cell.slice 1 l7, Cell.int IntKind.i64 n8, Cell.int IntKind.i64 n9]) ∧
        (joinK (A := Bool)
          (fun b10 => ifT b10
            (Q [V.one (Cell.int IntKind.i64 3)])
            (fun h11 =>
            I 35 [V.one (Cell.slice 1 l7), V.one (Cell.func (some (40, [])))]
              (fun cs12 => fun h13 => 
              ∃ b14 : Bool, (cs12 = [V.one (Cell.bool b14)]) ∧
              (ifT b14
                (Q [V.one (Cell.int IntKind.i64 5)])
                (joinK (A := Bool)
                  (fun b15 => ifT b15
                    (Q [V.one (Cell.int IntKind.i64 7)])
                    (ifT (decide (n8 < 0))
                      (Q [V.one (Cell.int IntKind.i64 1)])
                      (ifT (decide (n8 > 1000000))
                        (Q [V.one (Cell.int IntKind.i64 1)])
                        (ifT (decide (n9 < -1000000000000))
                          (Q [V.one (Cell.int IntKind.i64 1)])
                          (ifT (decide (n9 > 1000000000000))
                            (Q [V.one (Cell.int IntKind.i64 1)])
                            (x1 (IntKind.i64.wrap (n2 + 1))))))))
                  (fun x16 => ifT (decide (n2 > 0))
                    (fun h17 =>
                    ((0 ≤ IntKind.i64.wrap (n2 - 1)) ∧
                    IntKind.i64.wrap (n2 - 1) < (↑l0.len : Int)) ∧
                    (derefK l0.a (fun i18 => fun i19 => fun h20 =>
                    ∃ l21 : Sl, (h20.read i18 (i19 + (IntKind.i64.wrap (n2 - 1)).toNat * 3 + 0) 1 = some [Cell.slice 1 l21]) ∧
                    I 38 [V.one (Cell.slice 1 l21), V.one (Cell.slice 1 l7)]
                      (fun cs22 => fun h23 => 
                      ∃ n24 : Int, (cs22 = [V.one (Cell.int IntKind.i64 n24)]) ∧
                      x16 (decide (n24 ≥ 0)) h23) h20)) h17)
                    (x16 false)))) h13) h11))
          (fun x25 => fun h26 => 
          (((0 : Int) ≤ (0 : Int)) ∧
          0 < (↑l0.len : Int)) ∧
          (derefK l0.a (fun i27 => fun i28 => fun h29 =>
          ∃ l30 : Sl, (h29.read i27 (i28 + 0 + 0) 1 = some [Cell.slice 1 l30]) ∧
          (ifT (!decide ((↑l7.len : Int) = (↑l30.len : Int)))
            (x25 true)
            (x25 (decide ((↑l7.len : Int) > 6)))) h29)) h26)) h6)) h3)
        (Q [V.one (Cell.int IntKind.i64 0)])))
theorem den13 (I : FuncId → List V → Post → T) (l0 : Sl) (Q : Post) : denF Go.Proofs.Tryd.prog 16 (⟨[(14948, 1073709056, [(29, tk Go.Proofs.Tryd.prog 4)]), (59804, 281466386776064, [(33, tk Go.Proofs.Tryd.prog 4)])], [(58, 295147905179352824860, [(10, tk Go.Proofs.Tryd.prog 3)])]⟩) I 13 [V.one (Cell.slice 3 l0)] Q = vc13 I l0 Q := by kernel_rfl
/-- handbill/handref1.CellsFault$1 -/
def vc40 (I : FuncId → List V → Post → T) (s0 : ByteArray) (Q : Post) : T :=
  fun h1 =>
  I 41 [V.one (Cell.str s0)]
    (fun cs2 => fun h3 => 
    ∃ b4 : Bool, (cs2 = [V.one (Cell.bool b4)]) ∧
    Q [V.one (Cell.bool !b4)] h3) h1
theorem den40 (I : FuncId → List V → Post → T) (s0 : ByteArray) (Q : Post) : denF Go.Proofs.Tryd.prog 0 (⟨[], []⟩) I 40 [V.one (Cell.str s0)] Q = vc40 I s0 Q := by kernel_rfl
/-- handbill/handref1.keyOf -/
def vc41 (I : FuncId → List V → Post → T) (s0 : ByteArray) (Q : Post) : T :=
  fun h1 =>
  I 75 [V.one (Cell.str s0)]
    (fun cs2 => fun h3 => 
    ∃ b4 : Bool, (cs2 = [V.one (Cell.bool b4)]) ∧
    Q [V.one (Cell.bool b4)] h3) h1
theorem den41 (I : FuncId → List V → Post → T) (s0 : ByteArray) (Q : Post) : denF Go.Proofs.Tryd.prog 0 (⟨[], []⟩) I 41 [V.one (Cell.str s0)] Q = vc41 I s0 Q := by kernel_rfl
/-- handbill/handref2.Key -/
def vc75 (I : FuncId → List V → Post → T) (s0 : ByteArray) (Q : Post) : T :=
  fun h1 =>
  I 93 [V.one (Cell.int IntKind.i64 (↑s0.size : Int)), V.one (Cell.int IntKind.i64 1), V.one (Cell.int IntKind.i64 40)]
    (fun cs2 => fun h3 => 
    ∃ b4 : Bool, (cs2 = [V.one (Cell.bool b4)]) ∧
    (ifT b4
      (fun h5 =>
      (((0 : Int) ≤ (0 : Int)) ∧
      ((0 : Int) ≤ (1 : Int)) ∧
      1 ≤ (↑s0.size : Int)) ∧
      I 94 [V.one (Cell.str (s0.extract 0 1)), V.one (Cell.str { data := #[97, 98, 99, 100, 101, 102, 103, 104, 105, 106, 107, 108, 109, 110, 111, 112, 113, 114, 115, 116, 117, 118, 119, 120, 121, 122] })]
        (fun cs6 => fun h7 => 
        ∃ b8 : Bool, (cs6 = [V.one (Cell.bool b8)]) ∧
        (ifT b8
          (fun h9 =>
          I 94 [V.one (Cell.str s0), V.one (Cell.str { data := #[97, 98, 99, 100, 101, 102, 103, 104, 105, 106, 107, 108, 109, 110, 111, 112, 113, 114, 115, 116, 117, 118, 119, 120, 121, 122, 48, 49, 50, 51, 52, 53, 54, 55, 56, 57, 45, 95] })]
            (fun cs10 => fun h11 => 
            ∃ b12 : Bool, (cs10 = [V.one (Cell.bool b12)]) ∧
            Q [V.one (Cell.bool b12)] h11) h9)
          (Q [V.one (Cell.bool false)])) h7) h5)
      (Q [V.one (Cell.bool false)])) h3) h1
theorem den75 (I : FuncId → List V → Post → T) (s0 : ByteArray) (Q : Post) : denF Go.Proofs.Tryd.prog 0 (⟨[], []⟩) I 75 [V.one (Cell.str s0)] Q = vc75 I s0 Q := by kernel_rfl
/-- handbill/handref2.in -/
def vc93 (I : FuncId → List V → Post → T) (n0 : Int) (n1 : Int) (n2 : Int) (Q : Post) : T :=
  ifT (decide (n1 ≤ n0))
    (Q [V.one (Cell.bool (decide (n0 ≤ n2)))])
    (Q [V.one (Cell.bool false)])
theorem den93 (I : FuncId → List V → Post → T) (n0 : Int) (n1 : Int) (n2 : Int) (Q : Post) : denF Go.Proofs.Tryd.prog 0 (⟨[], []⟩) I 93 [V.one (Cell.int IntKind.i64 n0), V.one (Cell.int IntKind.i64 n1), V.one (Cell.int IntKind.i64 n2)] Q = vc93 I n0 n1 n2 Q := by kernel_rfl
/-- handbill/handref2.only -/
def vc94 (I : FuncId → List V → Post → T) (s0 : ByteArray) (s1 : ByteArray) (Q : Post) : T :=
  fun h2 =>
  I 104 [V.one (Cell.str s0), V.one (Cell.str s1)]
    (fun cs3 => fun h4 => 
    ∃ s5 : ByteArray, (cs3 = [V.one (Cell.str s5)]) ∧
    Q [V.one (Cell.bool (decide (s5 = { data := #[] })))] h4) h2
theorem den94 (I : FuncId → List V → Post → T) (s0 : ByteArray) (s1 : ByteArray) (Q : Post) : denF Go.Proofs.Tryd.prog 0 (⟨[], []⟩) I 94 [V.one (Cell.str s0), V.one (Cell.str s1)] Q = vc94 I s0 s1 Q := by kernel_rfl
/-- strings.Trim -/
def vc104 (I : FuncId → List V → Post → T) (s0 : ByteArray) (s1 : ByteArray) (Q : Post) : T :=
  joinK (A := Bool)
    (fun b2 => ifT b2
      (Q [V.one (Cell.str s0)])
      (joinK (A := Bool)
        (fun b3 => ifT b3
          (fun h4 =>
          (((0 : Int) ≤ (0 : Int)) ∧
          0 < (↑s1.size : Int)) ∧
          (((0 : Int) ≤ (0 : Int)) ∧
          0 < (↑s1.size : Int)) ∧
          I 110 [V.one (Cell.str s0), V.one (Cell.int IntKind.u8 (byteAt s1 0))]
            (fun cs5 => fun h6 => 
            ∃ s7 : ByteArray, (cs5 = [V.one (Cell.str s7)]) ∧
            I 109 [V.one (Cell.str s7), V.one (Cell.int IntKind.u8 (byteAt s1 0))]
              (fun cs8 => fun h9 => 
              ∃ s10 : ByteArray, (cs8 = [V.one (Cell.str s10)]) ∧
              Q [V.one (Cell.str s10)] h9) h6) h4)
          (fun h11 =>
          I 111 [V.one (Cell.str s1)]
            (fun cs12 => fun h13 => 
            exCells (List.replicate 256 Kd.bool) fun ds14 => ∃ b270 : Bool, (cs12 = [V.agg ds14, V.one (Cell.bool b270)]) ∧
            (newK (.cells false (List.replicate 256 (Cell.bool false))) (fun i271 => fun h272 => 
            (storeK [] i271 0 ds14 (ifT b270
              (fun h273 =>
              I 113 [V.one (Cell.str s0), V.one (Cell.ptr (some (i271, 0)))]
                (fun cs274 => fun h275 => 
                ∃ s276 : ByteArray, (cs274 = [V.one (Cell.str s276)]) ∧
                I 112 [V.one (Cell.str s276), V.one (Cell.ptr (some (i271, 0)))]
                  (fun cs277 => fun h278 => 
                  ∃ s279 : ByteArray, (cs277 = [V.one (Cell.str s279)]) ∧
                  Q [V.one (Cell.str s279)] h278) h275) h273)
              (fun h280 =>
              I 115 [V.one (Cell.str s0), V.one (Cell.str s1)]
                (fun cs281 => fun h282 => 
                ∃ s283 : ByteArray, (cs281 = [V.one (Cell.str s283)]) ∧
                I 114 [V.one (Cell.str s283), V.one (Cell.str s1)]
                  (fun cs284 => fun h285 => 
                  ∃ s286 : ByteArray, (cs284 = [V.one (Cell.str s286)]) ∧
                  Q [V.one (Cell.str s286)] h285) h282) h280))) h272)) h13) h11))
        (fun x287 => ifT (decide ((↑s1.size : Int) = 1))
          (fun h288 =>
          (((0 : Int) ≤ (0 : Int)) ∧
          0 < (↑s1.size : Int)) ∧
          x287 (decide (byteAt s1 0 < 128)) h288)
          (x287 false))))
    (fun x289 => ifT (decide (s0 = { data := #[] }))
      (x289 true)
      (x289 (decide (s1 = { data := #[] }))))
theorem den104 (I : FuncId → List V → Post → T) (s0 : ByteArray) (s1 : ByteArray) (Q : Post) : denF Go.Proofs.Tryd.prog 0 (⟨[(12, 8064, [(12, tk Go.Proofs.Tryd.prog 4)]), (28, 4177920, [(21, tk Go.Proofs.Tryd.prog 4)])], []⟩) I 104 [V.one (Cell.str s0), V.one (Cell.str s1)] Q = vc104 I s0 s1 Q := by kernel_rfl
/-- strings.trimLeftByte -/
def vc109 (I : FuncId → List V → Post → T) (s0 : ByteArray) (n1 : Int) (Q : Post) : T :=
  loopK (A := ByteArray) s0
    (fun x2 => fun s3 => ifT (decide ((↑s3.size : Int) > 0))
      (fun h4 =>
      (((0 : Int) ≤ (0 : Int)) ∧
      0 < (↑s3.size : Int)) ∧
      (ifT (decide (byteAt s3 0 = n1))
        (fun h5 =>
        (((0 : Int) ≤ (1 : Int)) ∧
        (1 ≤ (↑s3.size : Int)) ∧
        (↑s3.size : Int) ≤ (↑s3.size : Int)) ∧
        x2 (s3.extract 1 (↑s3.size : Int).toNat) h5)
        (Q [V.one (Cell.str s3)])) h4)
      (Q [V.one (Cell.str s3)]))
theorem den109 (I : FuncId → List V → Post → T) (s0 : ByteArray) (n1 : Int) (Q : Post) : denF Go.Proofs.Tryd.prog 0 (⟨[], [(12, 65505, [(0, tk Go.Proofs.Tryd.prog 9)])]⟩) I 109 [V.one (Cell.str s0), V.one (Cell.int IntKind.u8 n1)] Q = vc109 I s0 n1 Q := by kernel_rfl
/-- strings.trimRightByte -/
def vc110 (I : FuncId → List V → Post → T) (s0 : ByteArray) (n1 : Int) (Q : Post) : T :=
  loopK (A := ByteArray) s0
    (fun x2 => fun s3 => ifT (decide ((↑s3.size : Int) > 0))
      (fun h4 =>
      ((0 ≤ IntKind.i64.wrap ((↑s3.size : Int) - 1)) ∧
      IntKind.i64.wrap ((↑s3.size : Int) - 1) < (↑s3.size : Int)) ∧
      (ifT (decide (byteAt s3 (IntKind.i64.wrap ((↑s3.size : Int) - 1)) = n1))
        (fun h5 =>
        (((0 : Int) ≤ (0 : Int)) ∧
        (0 ≤ IntKind.i64.wrap ((↑s3.size : Int) - 1)) ∧
        IntKind.i64.wrap ((↑s3.size : Int) - 1) ≤ (↑s3.size : Int)) ∧
        x2 (s3.extract 0 (IntKind.i64.wrap ((↑s3.size : Int) - 1)).toNat) h5)
        (Q [V.one (Cell.str s3)])) h4)
      (Q [V.one (Cell.str s3)]))
theorem den110 (I : FuncId → List V → Post → T) (s0 : ByteArray) (n1 : Int) (Q : Post) : denF Go.Proofs.Tryd.prog 0 (⟨[], [(12, 4194273, [(0, tk Go.Proofs.Tryd.prog 9)])]⟩) I 110 [V.one (Cell.str s0), V.one (Cell.int IntKind.u8 n1)] Q = vc110 I s0 n1 Q := by kernel_rfl
/-- strings.makeASCIISet -/
def vc111 (I : FuncId → List V → Post → T) (s0 : ByteArray) (Q : Post) : T :=
  fun h1 =>
  (newK (.cells false (List.replicate 256 (Cell.bool false))) (fun i2 => loopK (A := Int) 0
    (fun x3 => fun n4 => ifT (decide (n4 < (↑s0.size : Int)))
      (fun h5 =>
      ((0 ≤ n4) ∧
      n4 < (↑s0.size : Int)) ∧
      (ifT (decide (byteAt s0 n4 ≥ 128))
        (fun h6 =>
        exCells (List.replicate 256 Kd.bool) fun ds7 => (h6.read i2 0 256 = some ds7) ∧
        (storeK [] i2 0 ds7 (fun h263 =>
        exCells (List.replicate 256 Kd.bool) fun ds264 => (h263.read i2 0 256 = some ds264) ∧
        Q [V.agg ds264, V.one (Cell.bool false)] h263)) h6)
        (fun h520 =>
        ((0 ≤ byteAt s0 n4) ∧
        byteAt s0 n4 < (↑256 : Int)) ∧
        (storeK [] i2 (0 + (byteAt s0 n4).toNat * 1) [Cell.bool true] (x3 (IntKind.i64.wrap (n4 + 1)))) h520)) h5)
      (fun h521 =>
      exCells (List.replicate 256 Kd.bool) fun ds522 => (h521.read i2 0 256 = some ds522) ∧
      (storeK [] i2 0 ds522 (fun h778 =>
      exCells (List.replicate 256 Kd.bool) fun ds779 => (h778.read i2 0 256 = some ds779) ∧
      Q [V.agg ds779, V.one (Cell.bool true)] h778)) h521)))) h1
theorem den111 (I : FuncId → List V → Post → T) (s0 : ByteArray) (Q : Post) : denF Go.Proofs.Tryd.prog 0 (⟨[], [(26, 1048568, [(4, tk Go.Proofs.Tryd.prog 3)])]⟩) I 111 [V.one (Cell.str s0)] Q = vc111 I s0 Q := by kernel_rfl
/-- strings.trimLeftASCII -/
def vc112 (I : FuncId → List V → Post → T) (s0 : ByteArray) (p1 : Option (Nat × Nat)) (Q : Post) : T :=
  loopK (A := ByteArray) s0
    (fun x2 => fun s3 => ifT (decide ((↑s3.size : Int) > 0))
      (fun h4 =>
      (((0 : Int) ≤ (0 : Int)) ∧
      0 < (↑s3.size : Int)) ∧
      I 117 [V.one (Cell.ptr p1), V.one (Cell.int IntKind.u8 (byteAt s3 0))]
        (fun cs5 => fun h6 => 
        ∃ b7 : Bool, (cs5 = [V.one (Cell.bool b7)]) ∧
        (ifT (!b7)
          (Q [V.one (Cell.str s3)])
          (fun h8 =>
          (((0 : Int) ≤ (1 : Int)) ∧
          (1 ≤ (↑s3.size : Int)) ∧
          (↑s3.size : Int) ≤ (↑s3.size : Int)) ∧
          x2 (s3.extract 1 (↑s3.size : Int).toNat) h8)) h6) h4)
      (Q [V.one (Cell.str s3)]))
theorem den112 (I : FuncId → List V → Post → T) (s0 : ByteArray) (p1 : Option (Nat × Nat)) (Q : Post) : denF Go.Proofs.Tryd.prog 0 (⟨[], [(12, 32737, [(0, tk Go.Proofs.Tryd.prog 9)])]⟩) I 112 [V.one (Cell.str s0), V.one (Cell.ptr p1)] Q = vc112 I s0 p1 Q := by kernel_rfl
/-- (*strings.asciiSet).contains -/
def vc117 (I : FuncId → List V → Post → T) (p0 : Option (Nat × Nat)) (n1 : Int) (Q : Post) : T :=
  derefK p0 (fun i2 => fun i3 => fun h4 => 
  ((0 ≤ n1) ∧
  n1 < (↑256 : Int)) ∧
  ∃ b5 : Bool, (h4.read i2 (i3 + n1.toNat * 1) 1 = some [Cell.bool b5]) ∧
  Q [V.one (Cell.bool b5)] h4)
theorem den117 (I : FuncId → List V → Post → T) (p0 : Option (Nat × Nat)) (n1 : Int) (Q : Post) : denF Go.Proofs.Tryd.prog 0 (⟨[], []⟩) I 117 [V.one (Cell.ptr p0), V.one (Cell.int IntKind.u8 n1)] Q = vc117 I p0 n1 Q := by kernel_rfl
/-- strings.trimRightASCII -/
def vc113 (I : FuncId → List V → Post → T) (s0 : ByteArray) (p1 : Option (Nat × Nat)) (Q : Post) : T :=
  loopK (A := ByteArray) s0
    (fun x2 => fun s3 => ifT (decide ((↑s3.size : Int) > 0))
      (fun h4 =>
      ((0 ≤ IntKind.i64.wrap ((↑s3.size : Int) - 1)) ∧
      IntKind.i64.wrap ((↑s3.size : Int) - 1) < (↑s3.size : Int)) ∧
      I 117 [V.one (Cell.ptr p1), V.one (Cell.int IntKind.u8 (byteAt s3 (IntKind.i64.wrap ((↑s3.size : Int) - 1))))]
        (fun cs5 => fun h6 => 
        ∃ b7 : Bool, (cs5 = [V.one (Cell.bool b7)]) ∧
        (ifT (!b7)
          (Q [V.one (Cell.str s3)])
          (fun h8 =>
          (((0 : Int) ≤ (0 : Int)) ∧
          (0 ≤ IntKind.i64.wrap ((↑s3.size : Int) - 1)) ∧
          IntKind.i64.wrap ((↑s3.size : Int) - 1) ≤ (↑s3.size : Int)) ∧
          x2 (s3.extract 0 (IntKind.i64.wrap ((↑s3.size : Int) - 1)).toNat) h8)) h6) h4)
      (Q [V.one (Cell.str s3)]))
theorem den113 (I : FuncId → List V → Post → T) (s0 : ByteArray) (p1 : Option (Nat × Nat)) (Q : Post) : denF Go.Proofs.Tryd.prog 0 (⟨[], [(12, 2097121, [(0, tk Go.Proofs.Tryd.prog 9)])]⟩) I 113 [V.one (Cell.str s0), V.one (Cell.ptr p1)] Q = vc113 I s0 p1 Q := by kernel_rfl
/-- strings.trimLeftUnicode -/
def vc114 (I : FuncId → List V → Post → T) (s0 : ByteArray) (s1 : ByteArray) (Q : Post) : T :=
  loopK (A := ByteArray) s0
    (fun x2 => fun s3 => ifT (decide ((↑s3.size : Int) > 0))
      (fun h4 =>
      I 118 [V.one (Cell.str s3)]
        (fun cs5 => fun h6 => 
        ∃ n7 : Int, ∃ n8 : Int, (cs5 = [V.one (Cell.int IntKind.i32 n7), V.one (Cell.int IntKind.i64 n8)]) ∧
        I 119 [V.one (Cell.str s1), V.one (Cell.int IntKind.i32 n7)]
          (fun cs9 => fun h10 => 
          ∃ b11 : Bool, (cs9 = [V.one (Cell.bool b11)]) ∧
          (ifT (!b11)
            (Q [V.one (Cell.str s3)])
            (fun h12 =>
            ((0 ≤ n8) ∧
            (n8 ≤ (↑s3.size : Int)) ∧
            (↑s3.size : Int) ≤ (↑s3.size : Int)) ∧
            x2 (s3.extract n8.toNat (↑s3.size : Int).toNat) h12)) h10) h6) h4)
      (Q [V.one (Cell.str s3)]))
theorem den114 (I : FuncId → List V → Post → T) (s0 : ByteArray) (s1 : ByteArray) (Q : Post) : denF Go.Proofs.Tryd.prog 0 (⟨[], [(12, 4194273, [(0, tk Go.Proofs.Tryd.prog 9)])]⟩) I 114 [V.one (Cell.str s0), V.one (Cell.str s1)] Q = vc114 I s0 s1 Q := by kernel_rfl
/-- unicode/utf8.DecodeRuneInString -/
def vc118 (I : FuncId → List V → Post → T) (s0 : ByteArray) (Q : Post) : T :=
  joinK (A := Bool)
    (fun b1 => ifT b1
      (fun h2 =>
      (((0 : Int) ≤ (0 : Int)) ∧
      0 < (↑s0.size : Int)) ∧
      Q [V.one (Cell.int IntKind.i32 (IntKind.i32.wrap (byteAt s0 0))), V.one (Cell.int IntKind.i64 1)] h2)
      (fun h3 =>
      I 121 [V.one (Cell.str s0)]
        (fun cs4 => fun h5 => 
        ∃ n6 : Int, ∃ n7 : Int, (cs4 = [V.one (Cell.int IntKind.i32 n6), V.one (Cell.int IntKind.i64 n7)]) ∧
        Q [V.one (Cell.int IntKind.i32 n6), V.one (Cell.int IntKind.i64 n7)] h5) h3))
    (fun x8 => ifT (!decide (s0 = { data := #[] }))
      (fun h9 =>
      (((0 : Int) ≤ (0 : Int)) ∧
      0 < (↑s0.size : Int)) ∧
      x8 (decide (byteAt s0 0 < 128)) h9)
      (x8 false))
theorem den118 (I : FuncId → List V → Post → T) (s0 : ByteArray) (Q : Post) : denF Go.Proofs.Tryd.prog 0 (⟨[(12, 2032, [(10, tk Go.Proofs.Tryd.prog 4)])], []⟩) I 118 [V.one (Cell.str s0)] Q = vc118 I s0 Q := by kernel_rfl
/-- unicode/utf8.decodeRuneInStringSlow -/
def vc121 (I : FuncId → List V → Post → T) (s0 : ByteArray) (Q : Post) : T :=
  ifT (decide ((↑s0.size : Int) < 1))
    (Q [V.one (Cell.int IntKind.i32 65533), V.one (Cell.int IntKind.i64 0)])
    (fun h1 =>
    (((0 : Int) ≤ (0 : Int)) ∧
    0 < (↑s0.size : Int)) ∧
    ((0 ≤ byteAt s0 0) ∧
    byteAt s0 0 < (↑256 : Int)) ∧
    (globK 6 (fun i2 => fun i3 => fun h4 =>
    ∃ n5 : Int, (h4.read i3 ((byteAt s0 0).toNat * 1) 1 = some [Cell.int IntKind.u8 n5]) ∧
    (ifT (decide (n5 ≥ 240))
      (fun h6 =>
      (((0 : Int) ≤ (0 : Int)) ∧
      0 < (↑s0.size : Int)) ∧
      Q [V.one (Cell.int IntKind.i32 (IntKind.i32.wrap (↑(BitVec.ofInt 32 (IntKind.i32.wrap (↑(BitVec.ofInt 32 (IntKind.i32.wrap (byteAt s0 0)) &&& ~~~BitVec.ofInt 32 (shr IntKind.i32 (shl IntKind.i32 (IntKind.i32.wrap n5) 31) 31)).toNat : Int)) ||| BitVec.ofInt 32 (IntKind.i32.wrap (↑(BitVec.ofInt 32 65533 &&& BitVec.ofInt 32 (shr IntKind.i32 (shl IntKind.i32 (IntKind.i32.wrap n5) 31) 31)).toNat : Int))).toNat : Int))), V.one (Cell.int IntKind.i64 1)] h6)
      (fun h7 =>
      ((0 ≤ shr IntKind.u8 n5 4) ∧
      shr IntKind.u8 n5 4 < (↑16 : Int)) ∧
      (globK 7 (fun i8 => fun i9 => fun h10 =>
      ∃ n11 : Int, ∃ n12 : Int, (h10.read i9 ((shr IntKind.u8 n5 4).toNat * 2) 2 = some [Cell.int IntKind.u8 n11, Cell.int IntKind.u8 n12]) ∧
      (ifT (decide ((↑s0.size : Int) < IntKind.i64.wrap (IntKind.u8.wrap (↑(BitVec.ofInt 8 n5 &&& BitVec.ofInt 8 7).toNat : Int))))
        (Q [V.one (Cell.int IntKind.i32 65533), V.one (Cell.int IntKind.i64 1)])
        (fun h13 =>
        (((0 : Int) ≤ (1 : Int)) ∧
        1 < (↑s0.size : Int)) ∧
        (joinK (A := Bool)
          (fun b14 => ifT b14
            (Q [V.one (Cell.int IntKind.i32 65533), V.one (Cell.int IntKind.i64 1)])
            (ifT (decide (IntKind.i64.wrap (IntKind.u8.wrap (↑(BitVec.ofInt 8 n5 &&& BitVec.ofInt 8 7).toNat : Int)) ≤ 2))
              (Q [V.one (Cell.int IntKind.i32 (IntKind.i32.wrap (↑(BitVec.ofInt 32 (shl IntKind.i32 (IntKind.i32.wrap (IntKind.u8.wrap (↑(BitVec.ofInt 8 (byteAt s0 0) &&& BitVec.ofInt 8 31).toNat : Int))) 6) ||| BitVec.ofInt 32 (IntKind.i32.wrap (IntKind.u8.wrap (↑(BitVec.ofInt 8 (byteAt s0 1) &&& BitVec.ofInt 8 63).toNat : Int)))).toNat : Int))), V.one (Cell.int IntKind.i64 2)])
              (fun h15 =>
              (((0 : Int) ≤ (2 : Int)) ∧
              2 < (↑s0.size : Int)) ∧
              (joinK (A := Bool)
                (fun b16 => ifT b16
                  (Q [V.one (Cell.int IntKind.i32 65533), V.one (Cell.int IntKind.i64 1)])
                  (ifT (decide (IntKind.i64.wrap (IntKind.u8.wrap (↑(BitVec.ofInt 8 n5 &&& BitVec.ofInt 8 7).toNat : Int)) ≤ 3))
                    (Q [V.one (Cell.int IntKind.i32 (IntKind.i32.wrap (↑(BitVec.ofInt 32 (IntKind.i32.wrap (↑(BitVec.ofInt 32 (shl IntKind.i32 (IntKind.i32.wrap (IntKind.u8.wrap (↑(BitVec.ofInt 8 (byteAt s0 0) &&& BitVec.ofInt 8 15).toNat : Int))) 12) ||| BitVec.ofInt 32 (shl IntKind.i32 (IntKind.i32.wrap (IntKind.u8.wrap (↑(BitVec.ofInt 8 (byteAt s0 1) &&& BitVec.ofInt 8 63).toNat : Int))) 6)).toNat : Int)) ||| BitVec.ofInt 32 (IntKind.i32.wrap (IntKind.u8.wrap (↑(BitVec.ofInt 8 (byteAt s0 2) &&& BitVec.ofInt 8 63).toNat : Int)))).toNat : Int))), V.one (Cell.int IntKind.i64 3)])
                    (fun h17 =>
                    (((0 : Int) ≤ (3 : Int)) ∧
                    3 < (↑s0.size : Int)) ∧
                    (joinK (A := Bool)
                      (fun b18 => ifT b18
                        (Q [V.one (Cell.int IntKind.i32 65533), V.one (Cell.int IntKind.i64 1)])
                        (Q [V.one (Cell.int IntKind.i32 (IntKind.i32.wrap (↑(BitVec.ofInt 32 (IntKind.i32.wrap (↑(BitVec.ofInt 32 (IntKind.i32.wrap (↑(BitVec.ofInt 32 (shl IntKind.i32 (IntKind.i32.wrap (IntKind.u8.wrap (↑(BitVec.ofInt 8 (byteAt s0 0) &&& BitVec.ofInt 8 7).toNat : Int))) 18) ||| BitVec.ofInt 32 (shl IntKind.i32 (IntKind.i32.wrap (IntKind.u8.wrap (↑(BitVec.ofInt 8 (byteAt s0 1) &&& BitVec.ofInt 8 63).toNat : Int))) 12)).toNat : Int)) ||| BitVec.ofInt 32 (shl IntKind.i32 (IntKind.i32.wrap (IntKind.u8.wrap (↑(BitVec.ofInt 8 (byteAt s0 2) &&& BitVec.ofInt 8 63).toNat : Int))) 6)).toNat : Int)) ||| BitVec.ofInt 32 (IntKind.i32.wrap (IntKind.u8.wrap (↑(BitVec.ofInt 8 (byteAt s0 3) &&& BitVec.ofInt 8 63).toNat : Int)))).toNat : Int))), V.one (Cell.int IntKind.i64 4)]))
                      (fun x19 => ifT (decide (byteAt s0 3 < 128))
                        (x19 true)
                        (x19 (decide (191 < byteAt s0 3))))) h17)))
                (fun x20 => ifT (decide (byteAt s0 2 < 128))
                  (x20 true)
                  (x20 (decide (191 < byteAt s0 2))))) h15)))
          (fun x21 => ifT (decide (byteAt s0 1 < n11))
            (x21 true)
            (x21 (decide (n12 < byteAt s0 1))))) h13)) h10)) h7)) h4)) h1)
theorem den121 (I : FuncId → List V → Post → T) (s0 : ByteArray) (Q : Post) : denF Go.Proofs.Tryd.prog 512 (⟨[(8188, 287948901175001088, [(57, tk Go.Proofs.Tryd.prog 4)]), (65532, 74377272105196912115712, [(75, tk Go.Proofs.Tryd.prog 4)]), (524284, 623921779799831658549158608896, [(98, tk Go.Proofs.Tryd.prog 4)])], []⟩) I 121 [V.one (Cell.str s0)] Q = vc121 I s0 Q := by kernel_rfl
/-- strings.ContainsRune -/
def vc119 (I : FuncId → List V → Post → T) (s0 : ByteArray) (n1 : Int) (Q : Post) : T :=
  fun h2 =>
  I 122 [V.one (Cell.str s0), V.one (Cell.int IntKind.i32 n1)]
    (fun cs3 => fun h4 => 
    ∃ n5 : Int, (cs3 = [V.one (Cell.int IntKind.i64 n5)]) ∧
    Q [V.one (Cell.bool (decide (n5 ≥ 0)))] h4) h2
theorem den119 (I : FuncId → List V → Post → T) (s0 : ByteArray) (n1 : Int) (Q : Post) : denF Go.Proofs.Tryd.prog 0 (⟨[], []⟩) I 119 [V.one (Cell.str s0), V.one (Cell.int IntKind.i32 n1)] Q = vc119 I s0 n1 Q := by kernel_rfl
/-- strings.IndexByte -/
def vc124 (I : FuncId → List V → Post → T) (s0 : ByteArray) (n1 : Int) (Q : Post) : T :=
  fun h2 =>
  I 128 [V.one (Cell.str s0), V.one (Cell.int IntKind.u8 n1)]
    (fun cs3 => fun h4 => 
    ∃ n5 : Int, (cs3 = [V.one (Cell.int IntKind.i64 n5)]) ∧
    Q [V.one (Cell.int IntKind.i64 n5)] h4) h2
theorem den124 (I : FuncId → List V → Post → T) (s0 : ByteArray) (n1 : Int) (Q : Post) : denF Go.Proofs.Tryd.prog 0 (⟨[], []⟩) I 124 [V.one (Cell.str s0), V.one (Cell.int IntKind.u8 n1)] Q = vc124 I s0 n1 Q := by kernel_rfl
/-- internal/stringslite.IndexByte -/
def vc128 (I : FuncId → List V → Post → T) (s0 : ByteArray) (n1 : Int) (Q : Post) : T :=
  fun h2 =>
  I 129 [V.one (Cell.str s0), V.one (Cell.int IntKind.u8 n1)]
    (fun cs3 => fun h4 => 
    ∃ n5 : Int, (cs3 = [V.one (Cell.int IntKind.i64 n5)]) ∧
    Q [V.one (Cell.int IntKind.i64 n5)] h4) h2
theorem den128 (I : FuncId → List V → Post → T) (s0 : ByteArray) (n1 : Int) (Q : Post) : denF Go.Proofs.Tryd.prog 0 (⟨[], []⟩) I 128 [V.one (Cell.str s0), V.one (Cell.int IntKind.u8 n1)] Q = vc128 I s0 n1 Q := by kernel_rfl
/-- unicode/utf8.ValidRune -/
def vc125 (I : FuncId → List V → Post → T) (n0 : Int) (Q : Post) : T :=
  ifT (decide (0 ≤ n0))
    (ifT (decide (n0 < 55296))
      (Q [V.one (Cell.bool true)])
      (ifT (decide (57343 < n0))
        (ifT (decide (n0 ≤ 1114111))
          (Q [V.one (Cell.bool true)])
          (Q [V.one (Cell.bool false)]))
        (Q [V.one (Cell.bool false)])))
    (ifT (decide (57343 < n0))
      (ifT (decide (n0 ≤ 1114111))
        (Q [V.one (Cell.bool true)])
        (Q [V.one (Cell.bool false)]))
      (Q [V.one (Cell.bool false)]))
theorem den125 (I : FuncId → List V → Post → T) (n0 : Int) (Q : Post) : denF Go.Proofs.Tryd.prog 0 (⟨[], []⟩) I 125 [V.one (Cell.int IntKind.i32 n0)] Q = vc125 I n0 Q := by kernel_rfl
/-- internal/bytealg.Cutover -/
def vc126 (I : FuncId → List V → Post → T) (n0 : Int) (Q : Post) : T :=
  Q [V.one (Cell.int IntKind.i64 (IntKind.i64.wrap ((IntKind.i64.wrap (n0 + 16)).tdiv 8)))]
theorem den126 (I : FuncId → List V → Post → T) (n0 : Int) (Q : Post) : denF Go.Proofs.Tryd.prog 0 (⟨[], []⟩) I 126 [V.one (Cell.int IntKind.i64 n0)] Q = vc126 I n0 Q := by kernel_rfl
/-- strings.trimRightUnicode -/
def vc115 (I : FuncId → List V → Post → T) (s0 : ByteArray) (s1 : ByteArray) (Q : Post) : T :=
  loopK (A := ByteArray) s0
    (fun x2 => fun s3 => ifT (decide ((↑s3.size : Int) > 0))
      (fun h4 =>
      ((0 ≤ IntKind.i64.wrap ((↑s3.size : Int) - 1)) ∧
      IntKind.i64.wrap ((↑s3.size : Int) - 1) < (↑s3.size : Int)) ∧
      (joinK (A := Int × Int)
        (uncur fun n5 n6 => fun h7 => 
        I 119 [V.one (Cell.str s1), V.one (Cell.int IntKind.i32 n5)]
          (fun cs8 => fun h9 => 
          ∃ b10 : Bool, (cs8 = [V.one (Cell.bool b10)]) ∧
          (ifT (!b10)
            (Q [V.one (Cell.str s3)])
            (fun h11 =>
            (((0 : Int) ≤ (0 : Int)) ∧
            (0 ≤ IntKind.i64.wrap ((↑s3.size : Int) - n6)) ∧
            IntKind.i64.wrap ((↑s3.size : Int) - n6) ≤ (↑s3.size : Int)) ∧
            x2 (s3.extract 0 (IntKind.i64.wrap ((↑s3.size : Int) - n6)).toNat) h11)) h9) h7)
        (fun x12 => ifT (decide (IntKind.i32.wrap (byteAt s3 (IntKind.i64.wrap ((↑s3.size : Int) - 1))) ≥ 128))
          (fun h13 =>
          I 120 [V.one (Cell.str s3)]
            (fun cs14 => fun h15 => 
            ∃ n16 : Int, ∃ n17 : Int, (cs14 = [V.one (Cell.int IntKind.i32 n16), V.one (Cell.int IntKind.i64 n17)]) ∧
            x12 ((n16, n17)) h15) h13)
          (x12 ((IntKind.i32.wrap (byteAt s3 (IntKind.i64.wrap ((↑s3.size : Int) - 1))), 1))))) h4)
      (Q [V.one (Cell.str s3)]))
theorem den115 (I : FuncId → List V → Post → T) (s0 : ByteArray) (s1 : ByteArray) (Q : Post) : denF Go.Proofs.Tryd.prog 0 (⟨[(789, 8126560, [(5, tk Go.Proofs.Tryd.prog 21), (6, tk Go.Proofs.Tryd.prog 3)])], [(12, 8589934561, [(0, tk Go.Proofs.Tryd.prog 9)])]⟩) I 115 [V.one (Cell.str s0), V.one (Cell.str s1)] Q = vc115 I s0 s1 Q := by kernel_rfl
/-- unicode/utf8.DecodeLastRuneInString -/
def vc120 (I : FuncId → List V → Post → T) (s0 : ByteArray) (Q : Post) : T :=
  ifT (decide ((↑s0.size : Int) = 0))
    (Q [V.one (Cell.int IntKind.i32 65533), V.one (Cell.int IntKind.i64 0)])
    (fun h1 =>
    ((0 ≤ IntKind.i64.wrap ((↑s0.size : Int) - 1)) ∧
    IntKind.i64.wrap ((↑s0.size : Int) - 1) < (↑s0.size : Int)) ∧
    (ifT (decide (IntKind.i32.wrap (byteAt s0 (IntKind.i64.wrap ((↑s0.size : Int) - 1))) < 128))
      (Q [V.one (Cell.int IntKind.i32 (IntKind.i32.wrap (byteAt s0 (IntKind.i64.wrap ((↑s0.size : Int) - 1))))), V.one (Cell.int IntKind.i64 1)])
      (joinK (A := Int)
        (fun n2 => joinK (A := Int)
          (fun n3 => fun h4 => 
          ((0 ≤ n3) ∧
          (n3 ≤ (↑s0.size : Int)) ∧
          (↑s0.size : Int) ≤ (↑s0.size : Int)) ∧
          I 118 [V.one (Cell.str (s0.extract n3.toNat (↑s0.size : Int).toNat))]
            (fun cs5 => fun h6 => 
            ∃ n7 : Int, ∃ n8 : Int, (cs5 = [V.one (Cell.int IntKind.i32 n7), V.one (Cell.int IntKind.i64 n8)]) ∧
            (ifT (!decide (IntKind.i64.wrap (n3 + n8) = (↑s0.size : Int)))
              (Q [V.one (Cell.int IntKind.i32 65533), V.one (Cell.int IntKind.i64 1)])
              (Q [V.one (Cell.int IntKind.i32 n7), V.one (Cell.int IntKind.i64 n8)])) h6) h4)
          (fun x9 => ifT (decide (n2 < 0))
            (x9 0)
            (x9 n2)))
        (fun x10 => loopK (A := Int) (IntKind.i64.wrap (IntKind.i64.wrap ((↑s0.size : Int) - 1) - 1))
          (fun x11 => fun n12 => ifT (decide (n12 ≥ max (IntKind.i64.wrap ((↑s0.size : Int) - 4)) 0))
            (fun h13 =>
            ((0 ≤ n12) ∧
            n12 < (↑s0.size : Int)) ∧
            I 123 [V.one (Cell.int IntKind.u8 (byteAt s0 n12))]
              (fun cs14 => fun h15 => 
              ∃ b16 : Bool, (cs14 = [V.one (Cell.bool b16)]) ∧
              (ifT b16
                (x10 n12)
                (x11 (IntKind.i64.wrap (n12 - 1)))) h15) h13)
            (x10 n12))))) h1)
theorem den120 (I : FuncId → List V → Post → T) (s0 : ByteArray) (Q : Post) : denF Go.Proofs.Tryd.prog 0 (⟨[(1021, 17146314784, [(5, tk Go.Proofs.Tryd.prog 3)]), (2045, 32, [(5, tk Go.Proofs.Tryd.prog 3)])], [(2042, 17146314784, [(5, tk Go.Proofs.Tryd.prog 3)])]⟩) I 120 [V.one (Cell.str s0)] Q = vc120 I s0 Q := by kernel_rfl
/-- unicode/utf8.RuneStart -/
def vc123 (I : FuncId → List V → Post → T) (n0 : Int) (Q : Post) : T :=
  Q [V.one (Cell.bool !decide (IntKind.u8.wrap (↑(BitVec.ofInt 8 n0 &&& BitVec.ofInt 8 192).toNat : Int) = 128))]
theorem den123 (I : FuncId → List V → Post → T) (n0 : Int) (Q : Post) : denF Go.Proofs.Tryd.prog 0 (⟨[], []⟩) I 123 [V.one (Cell.int IntKind.u8 n0)] Q = vc123 I n0 Q := by kernel_rfl
/-- handbill/measure.Fold -/
def vc14 (I : FuncId → List V → Post → T) (l0 : Sl) (l1 : Sl) (Q : Post) : T :=
  fun h2 =>
  I 12 [V.one (Cell.slice 3 l0)]
    (fun cs3 => fun h4 => 
    ∃ n5 : Int, (cs3 = [V.one (Cell.int IntKind.i64 n5)]) ∧
    (ifT (!decide (n5 = 0))
      (Q [V.one (Cell.slice 3 { a := none, len := 0 }), V.one (Cell.int IntKind.i64 n5)])
      (joinK (A := Int)
        (fun n6 => loopK (A := Int) 0
          (fun x7 => fun n8 => ifT (decide (n8 < (↑l1.len : Int)))
            (fun h9 =>
            ((0 ≤ n8) ∧
            n8 < (↑l1.len : Int)) ∧
            (derefK l1.a (fun i10 => fun i11 => fun h12 =>
            ∃ n13 : Int, (h12.read i10 (i11 + n8.toNat * 1) 1 = some [Cell.int IntKind.i64 n13]) ∧
            I 25 [V.one (Cell.int IntKind.i64 n13), V.one (Cell.int IntKind.i64 0), V.one (Cell.int IntKind.i64 (IntKind.i64.wrap (n6 - 1)))]
              (fun cs14 => fun h15 => 
              ∃ b16 : Bool, (cs14 = [V.one (Cell.bool b16)]) ∧
              (ifT (!b16)
                (Q [V.one (Cell.slice 3 { a := none, len := 0 }), V.one (Cell.int IntKind.i64 1)])
                (ifT (decide (n8 > 0))
                  (fun h17 =>
                  ((0 ≤ IntKind.i64.wrap (n8 - 1)) ∧
                  IntKind.i64.wrap (n8 - 1) < (↑l1.len : Int)) ∧
                  (derefK l1.a (fun i18 => fun i19 => fun h20 =>
                  ∃ n21 : Int, (h20.read i18 (i19 + (IntKind.i64.wrap (n8 - 1)).toNat * 1) 1 = some [Cell.int IntKind.i64 n21]) ∧
                  (ifT (decide (n13 ≤ n21))
                    (Q [V.one (Cell.slice 3 { a := none, len := 0 }), V.one (Cell.int IntKind.i64 7)])
                    (x7 (IntKind.i64.wrap (n8 + 1)))) h20)) h17)
                  (x7 (IntKind.i64.wrap (n8 + 1))))) h15) h12)) h9)
            (loopK (A := Sl × Int) (({ a := none, len := 0 }, 0))
              (fun x22 => uncur fun l23 n24 => ifT (decide (n24 < (↑l0.len : Int)))
                (fun h25 =>
                ((0 ≤ n24) ∧
                n24 < (↑l0.len : Int)) ∧
                (derefK l0.a (fun i26 => fun i27 => fun h28 =>
                ∃ l29 : Sl, ∃ n30 : Int, ∃ n31 : Int, (h28.read i26 (i27 + n24.toNat * 3) 3 = some [Cell.slice 1 l29, Cell.int IntKind.i64 n30, Cell.int IntKind.i64 n31]) ∧
                (loopK (A := (Sl × Int × Int × PUnit) × Int) ((({ a := none, len := 0 }, n30, n31, ()), 0))
                  (fun x32 => uncur (uncur fun l33 => uncur fun n34 => uncur fun n35 x36 => fun n37 => ifT (decide (n37 < (↑l1.len : Int)))
                    (fun h38 =>
                    ((0 ≤ n37) ∧
                    n37 < (↑l1.len : Int)) ∧
                    (derefK l1.a (fun i39 => fun i40 => fun h41 =>
                    ∃ n42 : Int, (h41.read i39 (i40 + n37.toNat * 1) 1 = some [Cell.int IntKind.i64 n42]) ∧
                    ((0 ≤ n42) ∧
                    n42 < (↑l29.len : Int)) ∧
                    (derefK l29.a (fun i43 => fun i44 => fun h45 =>
                    ∃ s46 : ByteArray, (h45.read i43 (i44 + n42.toNat * 1) 1 = some [Cell.str s46]) ∧
                    (appendTo [] 1 16 l33 1 [Cell.str s46] (fun l47 => fun h48 => 
                    x32 (((l47, n34, n35, ()), IntKind.i64.wrap (n37 + 1))) h48)) h45)) h41)) h38)
                    (fun h49 =>
                    (appendTo [] 3 40 l23 1 [Cell.slice 1 l33, Cell.int IntKind.i64 n34, Cell.int IntKind.i64 n35] (fun l50 => fun h51 => 
                    x22 ((l50, IntKind.i64.wrap (n24 + 1))) h51)) h49)))) h28)) h25)
                (fun h52 =>
                I 42 [V.one (Cell.slice 3 l23), V.one (Cell.func (some (43, [])))]
                  (fun cs53 => fun h54 => 
                  (cs53 = []) ∧
                  (loopK (A := Sl × Int) (({ a := none, len := 0 }, 0))
                    (fun x55 => uncur fun l56 n57 => ifT (decide (n57 < (↑l23.len : Int)))
                      (fun h58 =>
                      ((0 ≤ n57) ∧
                      n57 < (↑l23.len : Int)) ∧
                      (derefK l23.a (fun i59 => fun i60 => fun h61 =>
                      ∃ l62 : Sl, ∃ n63 : Int, ∃ n64 : Int, (h61.read i59 (i60 + n57.toNat * 3) 3 = some [Cell.slice 1 l62, Cell.int IntKind.i64 n63, Cell.int IntKind.i64 n64]) ∧
                      (joinK (A := Bool)
                        (fun b65 => ifT b65
                          (fun h66 =>
                          ((0 ≤ IntKind.i64.wrap ((↑l56.len : Int) - 1)) ∧
                          IntKind.i64.wrap ((↑l56.len : Int) - 1) < (↑l56.len : Int)) ∧
                          (derefK l56.a (fun i67 => fun i68 => fun h69 =>
                          ∃ n70 : Int, (h69.read i67 (i68 + (IntKind.i64.wrap ((↑l56.len : Int) - 1)).toNat * 3 + 1) 1 = some [Cell.int IntKind.i64 n70]) ∧
                          ((0 ≤ IntKind.i64.wrap ((↑l56.len : Int) - 1)) ∧
                          IntKind.i64.wrap ((↑l56.len : Int) - 1) < (↑l56.len : Int)) ∧
                          (derefK l56.a (fun i71 => fun i72 => fun h73 =>
                          (storeK [] i71 (i72 + (IntKind.i64.wrap ((↑l56.len : Int) - 1)).toNat * 3 + 1) [Cell.int IntKind.i64 (IntKind.i64.wrap (n70 + n63))] (fun h74 =>
                          ((0 ≤ IntKind.i64.wrap ((↑l56.len : Int) - 1)) ∧
                          IntKind.i64.wrap ((↑l56.len : Int) - 1) < (↑l56.len : Int)) ∧
                          (derefK l56.a (fun i75 => fun i76 => fun h77 =>
                          ∃ n78 : Int, (h77.read i75 (i76 + (IntKind.i64.wrap ((↑l56.len : Int) - 1)).toNat * 3 + 2) 1 = some [Cell.int IntKind.i64 n78]) ∧
                          ((0 ≤ IntKind.i64.wrap ((↑l56.len : Int) - 1)) ∧
                          IntKind.i64.wrap ((↑l56.len : Int) - 1) < (↑l56.len : Int)) ∧
                          (derefK l56.a (fun i79 => fun i80 => fun h81 =>
                          (storeK [] i79 (i80 + (IntKind.i64.wrap ((↑l56.len : Int) - 1)).toNat * 3 + 2) [Cell.int IntKind.i64 (IntKind.i64.wrap (n78 + n64))] (x55 ((l56, IntKind.i64.wrap (n57 + 1))))) h81)) h77)) h74)) h73)) h69)) h66)
                          (fun h82 =>
                          (appendTo [] 3 40 l56 1 [Cell.slice 1 l62, Cell.int IntKind.i64 n63, Cell.int IntKind.i64 n64] (fun l83 => fun h84 => 
                          x55 ((l83, IntKind.i64.wrap (n57 + 1))) h84)) h82))
                        (fun x85 => ifT (decide (IntKind.i64.wrap ((↑l56.len : Int) - 1) ≥ 0))
                          (fun h86 =>
                          ((0 ≤ IntKind.i64.wrap ((↑l56.len : Int) - 1)) ∧
                          IntKind.i64.wrap ((↑l56.len : Int) - 1) < (↑l56.len : Int)) ∧
                          (derefK l56.a (fun i87 => fun i88 => fun h89 =>
                          ∃ l90 : Sl, (h89.read i87 (i88 + (IntKind.i64.wrap ((↑l56.len : Int) - 1)).toNat * 3 + 0) 1 = some [Cell.slice 1 l90]) ∧
                          I 44 [V.one (Cell.slice 1 l90), V.one (Cell.slice 1 l62)]
                            (fun cs91 => fun h92 => 
                            ∃ b93 : Bool, (cs91 = [V.one (Cell.bool b93)]) ∧
                            x85 b93 h92) h89)) h86)
                          (x85 false))) h61)) h58)
                      (fun h94 =>
                      I 45 [V.one (Cell.slice 3 l56), V.one (Cell.func (some (46, [])))]
                        (fun cs95 => fun h96 => 
                        ∃ b97 : Bool, (cs95 = [V.one (Cell.bool b97)]) ∧
                        (ifT b97
                          (Q [V.one (Cell.slice 3 { a := none, len := 0 }), V.one (Cell.int IntKind.i64 12)])
                          (Q [V.one (Cell.slice 3 l56), V.one (Cell.int IntKind.i64 0)])) h96) h94))) h54) h52)))))
        (fun x98 => ifT (decide ((↑l0.len : Int) > 0))
          (fun h99 =>
          (((0 : Int) ≤ (0 : Int)) ∧
          0 < (↑l0.len : Int)) ∧
          (derefK l0.a (fun i100 => fun i101 => fun h102 =>
          ∃ l103 : Sl, (h102.read i100 (i101 + 0 + 0) 1 = some [Cell.slice 1 l103]) ∧
          x98 ((↑l103.len : Int)) h102)) h99)
          (x98 6)))) h4) h2
theorem den14 (I : FuncId → List V → Post → T) (l0 : Sl) (l1 : Sl) (Q : Post) : denF Go.Proofs.Tryd.prog 274432 (⟨[(61, 8321499264, [(7, tk Go.Proofs.Tryd.prog 3)]), (2095718, 41528233663476795193031997008117760, [(114, tk Go.Proofs.Tryd.prog 4)])], [(250, 576460717943685936, [(35, tk Go.Proofs.Tryd.prog 3)]), (1018, 4951760154835678090382849024, [(10, tk Go.Proofs.Tryd.prog 35), (61, tk Go.Proofs.Tryd.prog 3)]), (8186, 1393796574908084718183468127702929051025408, [(16, tk Go.Proofs.Tryd.prog 35), (96, tk Go.Proofs.Tryd.prog 3)]), (1042842, 154737782544189664717217792, [(13, tvar Go.Proofs.Tryd.prog 64), (72, tk Go.Proofs.Tryd.prog 3)])]⟩) I 14 [V.one (Cell.slice 3 l0), V.one (Cell.slice 1 l1)] Q = vc14 I l0 l1 Q := by kernel_rfl
/-- slices.SortStableFunc[[]handbill/api.Cell,handbill/api.Cell] -/
def vc42 (I : FuncId → List V → Post → T) (l0 : Sl) (p1 : Option (Nat × List (Nat × Nat))) (Q : Post) : T :=
  fun h2 =>
  I 76 [V.one (Cell.slice 3 l0), V.one (Cell.int IntKind.i64 (↑l0.len : Int)), V.one (Cell.func p1)]
    (fun cs3 => fun h4 => 
    (cs3 = []) ∧
    Q [] h4) h2
theorem den42 (I : FuncId → List V → Post → T) (l0 : Sl) (p1 : Option (Nat × List (Nat × Nat))) (Q : Post) : denF Go.Proofs.Tryd.prog 0 (⟨[], []⟩) I 42 [V.one (Cell.slice 3 l0), V.one (Cell.func p1)] Q = vc42 I l0 p1 Q := by kernel_rfl
/-- slices.stableCmpFunc[handbill/api.Cell] -/
def vc76 (I : FuncId → List V → Post → T) (l0 : Sl) (n1 : Int) (p2 : Option (Nat × List (Nat × Nat))) (Q : Post) : T :=
  loopK (A := Int × Int) ((0, 20))
    (fun x3 => uncur fun n4 n5 => ifT (decide (n5 ≤ n1))
      (fun h6 =>
      I 95 [V.one (Cell.slice 3 l0), V.one (Cell.int IntKind.i64 n4), V.one (Cell.int IntKind.i64 n5), V.one (Cell.func p2)]
        (fun cs7 => fun h8 => 
        (cs7 = []) ∧
        x3 ((n5, IntKind.i64.wrap (n5 + 20))) h8) h6)
      (fun h9 =>
      I 95 [V.one (Cell.slice 3 l0), V.one (Cell.int IntKind.i64 n4), V.one (Cell.int IntKind.i64 n1), V.one (Cell.func p2)]
        (fun cs10 => fun h11 => 
        (cs10 = []) ∧
        (loopK (A := Int) 20
          (fun x12 => fun n13 => ifT (decide (n13 < n1))
            (loopK (A := Int × Int) ((0, IntKind.i64.wrap (2 * n13)))
              (fun x14 => uncur fun n15 n16 => ifT (decide (n16 ≤ n1))
                (fun h17 =>
                I 96 [V.one (Cell.slice 3 l0), V.one (Cell.int IntKind.i64 n15), V.one (Cell.int IntKind.i64 (IntKind.i64.wrap (n15 + n13))), V.one (Cell.int IntKind.i64 n16), V.one (Cell.func p2)]
                  (fun cs18 => fun h19 => 
                  (cs18 = []) ∧
                  x14 ((n16, IntKind.i64.wrap (n16 + IntKind.i64.wrap (2 * n13)))) h19) h17)
                (ifT (decide (IntKind.i64.wrap (n15 + n13) < n1))
                  (fun h20 =>
                  I 96 [V.one (Cell.slice 3 l0), V.one (Cell.int IntKind.i64 n15), V.one (Cell.int IntKind.i64 (IntKind.i64.wrap (n15 + n13))), V.one (Cell.int IntKind.i64 n1), V.one (Cell.func p2)]
                    (fun cs21 => fun h22 => 
                    (cs21 = []) ∧
                    x12 (IntKind.i64.wrap (n13 * 2)) h22) h20)
                  (x12 (IntKind.i64.wrap (n13 * 2))))))
            (Q []))) h11) h9))
theorem den76 (I : FuncId → List V → Post → T) (l0 : Sl) (n1 : Int) (p2 : Option (Nat × List (Nat × Nat))) (Q : Post) : denF Go.Proofs.Tryd.prog 0 (⟨[], [(28, 8386944, [(7, tk Go.Proofs.Tryd.prog 3), (8, tk Go.Proofs.Tryd.prog 3)]), (62, 9223372036586341312, [(6, tk Go.Proofs.Tryd.prog 3)]), (3988, 562941363487104, [(7, tk Go.Proofs.Tryd.prog 3), (8, tk Go.Proofs.Tryd.prog 3)])]⟩) I 76 [V.one (Cell.slice 3 l0), V.one (Cell.int IntKind.i64 n1), V.one (Cell.func p2)] Q = vc76 I l0 n1 p2 Q := by kernel_rfl
/-- slices.insertionSortCmpFunc[handbill/api.Cell] -/
def vc95 (I : FuncId → List V → Post → T) (l0 : Sl) (n1 : Int) (n2 : Int) (p3 : Option (Nat × List (Nat × Nat))) (Q : Post) : T :=
  loopK (A := Int) (IntKind.i64.wrap (n1 + 1))
    (fun x4 => fun n5 => ifT (decide (n5 < n2))
      (loopK (A := Int) n5
        (fun x6 => fun n7 => joinK (A := Bool)
          (fun b8 => ifT b8
            (fun h9 =>
            ((0 ≤ IntKind.i64.wrap (n7 - 1)) ∧
            IntKind.i64.wrap (n7 - 1) < (↑l0.len : Int)) ∧
            (derefK l0.a (fun i10 => fun i11 => fun h12 =>
            ∃ l13 : Sl, ∃ n14 : Int, ∃ n15 : Int, (h12.read i10 (i11 + (IntKind.i64.wrap (n7 - 1)).toNat * 3) 3 = some [Cell.slice 1 l13, Cell.int IntKind.i64 n14, Cell.int IntKind.i64 n15]) ∧
            ((0 ≤ n7) ∧
            n7 < (↑l0.len : Int)) ∧
            (derefK l0.a (fun i16 => fun i17 => fun h18 =>
            ∃ l19 : Sl, ∃ n20 : Int, ∃ n21 : Int, (h18.read i16 (i17 + n7.toNat * 3) 3 = some [Cell.slice 1 l19, Cell.int IntKind.i64 n20, Cell.int IntKind.i64 n21]) ∧
            ((0 ≤ n7) ∧
            n7 < (↑l0.len : Int)) ∧
            (derefK l0.a (fun i22 => fun i23 => fun h24 => 
            (storeK [] i22 (i23 + n7.toNat * 3) [Cell.slice 1 l13, Cell.int IntKind.i64 n14, Cell.int IntKind.i64 n15] (fun h25 =>
            ((0 ≤ IntKind.i64.wrap (n7 - 1)) ∧
            IntKind.i64.wrap (n7 - 1) < (↑l0.len : Int)) ∧
            (derefK l0.a (fun i26 => fun i27 => fun h28 => 
            (storeK [] i26 (i27 + (IntKind.i64.wrap (n7 - 1)).toNat * 3) [Cell.slice 1 l19, Cell.int IntKind.i64 n20, Cell.int IntKind.i64 n21] (x6 (IntKind.i64.wrap (n7 - 1)))) h28)) h25)) h24)) h18)) h12)) h9)
            (x4 (IntKind.i64.wrap (n5 + 1))))
          (fun x29 => ifT (decide (n7 > n1))
            (fun h30 =>
            ((0 ≤ n7) ∧
            n7 < (↑l0.len : Int)) ∧
            (derefK l0.a (fun i31 => fun i32 => fun h33 =>
            ∃ l34 : Sl, ∃ n35 : Int, ∃ n36 : Int, (h33.read i31 (i32 + n7.toNat * 3) 3 = some [Cell.slice 1 l34, Cell.int IntKind.i64 n35, Cell.int IntKind.i64 n36]) ∧
            ((0 ≤ IntKind.i64.wrap (n7 - 1)) ∧
            IntKind.i64.wrap (n7 - 1) < (↑l0.len : Int)) ∧
            (derefK l0.a (fun i37 => fun i38 => fun h39 =>
            ∃ l40 : Sl, ∃ n41 : Int, ∃ n42 : Int, (h39.read i37 (i38 + (IntKind.i64.wrap (n7 - 1)).toNat * 3) 3 = some [Cell.slice 1 l40, Cell.int IntKind.i64 n41, Cell.int IntKind.i64 n42]) ∧
            (funK p3 (fun i43 => fun cs44 => fun h45 => 
            I i43 (V.agg [Cell.slice 1 l34, Cell.int IntKind.i64 n35, Cell.int IntKind.i64 n36] :: V.agg [Cell.slice 1 l40, Cell.int IntKind.i64 n41, Cell.int IntKind.i64 n42] :: cs44)
              (fun cs46 => fun h47 => 
              ∃ n48 : Int, (cs46 = [V.one (Cell.int IntKind.i64 n48)]) ∧
              x29 (decide (n48 < 0)) h47) h45)) h39)) h33)) h30)
            (x29 false))))
      (Q []))
theorem den95 (I : FuncId → List V → Post → T) (l0 : Sl) (n1 : Int) (n2 : Int) (p3 : Option (Nat × List (Nat × Nat))) (Q : Post) : denF Go.Proofs.Tryd.prog 0 (⟨[(3216, 34359476224, [(34, tk Go.Proofs.Tryd.prog 4)])], [(6, 9007199254737664, [(8, tk Go.Proofs.Tryd.prog 3)]), (402, 9007199254479360, [(9, tk Go.Proofs.Tryd.prog 3)])]⟩) I 95 [V.one (Cell.slice 3 l0), V.one (Cell.int IntKind.i64 n1), V.one (Cell.int IntKind.i64 n2), V.one (Cell.func p3)] Q = vc95 I l0 n1 n2 p3 Q := by kernel_rfl
/-- slices.symMergeCmpFunc[handbill/api.Cell] -/
def vc96 (I : FuncId → List V → Post → T) (l0 : Sl) (n1 : Int) (n2 : Int) (n3 : Int) (p4 : Option (Nat × List (Nat × Nat))) (Q : Post) : T :=
  ifT (decide (IntKind.i64.wrap (n2 - n1) = 1))
    (loopK (A := Int × Int) ((n2, n3))
      (fun x5 => uncur fun n6 n7 => ifT (decide (n6 < n7))
        (fun h8 =>
        ((0 ≤ IntKind.i64.wrap (shr IntKind.u64 (IntKind.u64.wrap (IntKind.i64.wrap (n6 + n7))) 1)) ∧
        IntKind.i64.wrap (shr IntKind.u64 (IntKind.u64.wrap (IntKind.i64.wrap (n6 + n7))) 1) < (↑l0.len : Int)) ∧
        (derefK l0.a (fun i9 => fun i10 => fun h11 =>
        ∃ l12 : Sl, ∃ n13 : Int, ∃ n14 : Int, (h11.read i9 (i10 + (IntKind.i64.wrap (shr IntKind.u64 (IntKind.u64.wrap (IntKind.i64.wrap (n6 + n7))) 1)).toNat * 3) 3 = some [Cell.slice 1 l12, Cell.int IntKind.i64 n13, Cell.int IntKind.i64 n14]) ∧
        ((0 ≤ n1) ∧
        n1 < (↑l0.len : Int)) ∧
        (derefK l0.a (fun i15 => fun i16 => fun h17 =>
        ∃ l18 : Sl, ∃ n19 : Int, ∃ n20 : Int, (h17.read i15 (i16 + n1.toNat * 3) 3 = some [Cell.slice 1 l18, Cell.int IntKind.i64 n19, Cell.int IntKind.i64 n20]) ∧
        (funK p4 (fun i21 => fun cs22 => fun h23 => 
        I i21 (V.agg [Cell.slice 1 l12, Cell.int IntKind.i64 n13, Cell.int IntKind.i64 n14] :: V.agg [Cell.slice 1 l18, Cell.int IntKind.i64 n19, Cell.int IntKind.i64 n20] :: cs22)
          (fun cs24 => fun h25 => 
          ∃ n26 : Int, (cs24 = [V.one (Cell.int IntKind.i64 n26)]) ∧
          (ifT (decide (n26 < 0))
            (x5 ((IntKind.i64.wrap (IntKind.i64.wrap (shr IntKind.u64 (IntKind.u64.wrap (IntKind.i64.wrap (n6 + n7))) 1) + 1), n7)))
            (x5 ((n6, IntKind.i64.wrap (shr IntKind.u64 (IntKind.u64.wrap (IntKind.i64.wrap (n6 + n7))) 1))))) h25) h23)) h17)) h11)) h8)
        (loopK (A := Int) n1
          (fun x27 => fun n28 => ifT (decide (n28 < IntKind.i64.wrap (n6 - 1)))
            (fun h29 =>
            ((0 ≤ IntKind.i64.wrap (n28 + 1)) ∧
            IntKind.i64.wrap (n28 + 1) < (↑l0.len : Int)) ∧
            (derefK l0.a (fun i30 => fun i31 => fun h32 =>
            ∃ l33 : Sl, ∃ n34 : Int, ∃ n35 : Int, (h32.read i30 (i31 + (IntKind.i64.wrap (n28 + 1)).toNat * 3) 3 = some [Cell.slice 1 l33, Cell.int IntKind.i64 n34, Cell.int IntKind.i64 n35]) ∧
            ((0 ≤ n28) ∧
            n28 < (↑l0.len : Int)) ∧
            (derefK l0.a (fun i36 => fun i37 => fun h38 =>
            ∃ l39 : Sl, ∃ n40 : Int, ∃ n41 : Int, (h38.read i36 (i37 + n28.toNat * 3) 3 = some [Cell.slice 1 l39, Cell.int IntKind.i64 n40, Cell.int IntKind.i64 n41]) ∧
            ((0 ≤ n28) ∧
            n28 < (↑l0.len : Int)) ∧
            (derefK l0.a (fun i42 => fun i43 => fun h44 => 
            (storeK [] i42 (i43 + n28.toNat * 3) [Cell.slice 1 l33, Cell.int IntKind.i64 n34, Cell.int IntKind.i64 n35] (fun h45 =>
            ((0 ≤ IntKind.i64.wrap (n28 + 1)) ∧
            IntKind.i64.wrap (n28 + 1) < (↑l0.len : Int)) ∧
            (derefK l0.a (fun i46 => fun i47 => fun h48 => 
            (storeK [] i46 (i47 + (IntKind.i64.wrap (n28 + 1)).toNat * 3) [Cell.slice 1 l39, Cell.int IntKind.i64 n40, Cell.int IntKind.i64 n41] (x27 (IntKind.i64.wrap (n28 + 1)))) h48)) h45)) h44)) h38)) h32)) h29)
            (Q [])))))
    (ifT (decide (IntKind.i64.wrap (n3 - n2) = 1))
      (loopK (A := Int × Int) ((n1, n2))
        (fun x49 => uncur fun n50 n51 => ifT (decide (n50 < n51))
          (fun h52 =>
          ((0 ≤ n2) ∧
          n2 < (↑l0.len : Int)) ∧
          (derefK l0.a (fun i53 => fun i54 => fun h55 =>
          ∃ l56 : Sl, ∃ n57 : Int, ∃ n58 : Int, (h55.read i53 (i54 + n2.toNat * 3) 3 = some [Cell.slice 1 l56, Cell.int IntKind.i64 n57, Cell.int IntKind.i64 n58]) ∧
          ((0 ≤ IntKind.i64.wrap (shr IntKind.u64 (IntKind.u64.wrap (IntKind.i64.wrap (n50 + n51))) 1)) ∧
          IntKind.i64.wrap (shr IntKind.u64 (IntKind.u64.wrap (IntKind.i64.wrap (n50 + n51))) 1) < (↑l0.len : Int)) ∧
          (derefK l0.a (fun i59 => fun i60 => fun h61 =>
          ∃ l62 : Sl, ∃ n63 : Int, ∃ n64 : Int, (h61.read i59 (i60 + (IntKind.i64.wrap (shr IntKind.u64 (IntKind.u64.wrap (IntKind.i64.wrap (n50 + n51))) 1)).toNat * 3) 3 = some [Cell.slice 1 l62, Cell.int IntKind.i64 n63, Cell.int IntKind.i64 n64]) ∧
          (funK p4 (fun i65 => fun cs66 => fun h67 => 
          I i65 (V.agg [Cell.slice 1 l56, Cell.int IntKind.i64 n57, Cell.int IntKind.i64 n58] :: V.agg [Cell.slice 1 l62, Cell.int IntKind.i64 n63, Cell.int IntKind.i64 n64] :: cs66)
            (fun cs68 => fun h69 => 
            ∃ n70 : Int, (cs68 = [V.one (Cell.int IntKind.i64 n70)]) ∧
            (ifT (!decide (n70 < 0))
              (x49 ((IntKind.i64.wrap (IntKind.i64.wrap (shr IntKind.u64 (IntKind.u64.wrap (IntKind.i64.wrap (n50 + n51))) 1) + 1), n51)))
              (x49 ((n50, IntKind.i64.wrap (shr IntKind.u64 (IntKind.u64.wrap (IntKind.i64.wrap (n50 + n51))) 1))))) h69) h67)) h61)) h55)) h52)
          (loopK (A := Int) n2
            (fun x71 => fun n72 => ifT (decide (n72 > n50))
              (fun h73 =>
              ((0 ≤ IntKind.i64.wrap (n72 - 1)) ∧
              IntKind.i64.wrap (n72 - 1) < (↑l0.len : Int)) ∧
              (derefK l0.a (fun i74 => fun i75 => fun h76 =>
              ∃ l77 : Sl, ∃ n78 : Int, ∃ n79 : Int, (h76.read i74 (i75 + (IntKind.i64.wrap (n72 - 1)).toNat * 3) 3 = some [Cell.slice 1 l77, Cell.int IntKind.i64 n78, Cell.int IntKind.i64 n79]) ∧
              ((0 ≤ n72) ∧
              n72 < (↑l0.len : Int)) ∧
              (derefK l0.a (fun i80 => fun i81 => fun h82 =>
              ∃ l83 : Sl, ∃ n84 : Int, ∃ n85 : Int, (h82.read i80 (i81 + n72.toNat * 3) 3 = some [Cell.slice 1 l83, Cell.int IntKind.i64 n84, Cell.int IntKind.i64 n85]) ∧
              ((0 ≤ n72) ∧
              n72 < (↑l0.len : Int)) ∧
              (derefK l0.a (fun i86 => fun i87 => fun h88 => 
              (storeK [] i86 (i87 + n72.toNat * 3) [Cell.slice 1 l77, Cell.int IntKind.i64 n78, Cell.int IntKind.i64 n79] (fun h89 =>
              ((0 ≤ IntKind.i64.wrap (n72 - 1)) ∧
              IntKind.i64.wrap (n72 - 1) < (↑l0.len : Int)) ∧
              (derefK l0.a (fun i90 => fun i91 => fun h92 => 
              (storeK [] i90 (i91 + (IntKind.i64.wrap (n72 - 1)).toNat * 3) [Cell.slice 1 l83, Cell.int IntKind.i64 n84, Cell.int IntKind.i64 n85] (x71 (IntKind.i64.wrap (n72 - 1)))) h92)) h89)) h88)) h82)) h76)) h73)
              (Q [])))))
      (joinK (A := Int × Int)
        (uncur fun n93 n94 => loopK (A := Int × Int) ((n93, n94))
          (fun x95 => uncur fun n96 n97 => ifT (decide (n96 < n97))
            (fun h98 =>
            ((0 ≤ IntKind.i64.wrap (IntKind.i64.wrap (IntKind.i64.wrap (IntKind.i64.wrap (shr IntKind.u64 (IntKind.u64.wrap (IntKind.i64.wrap (n1 + n3))) 1) + n2) - 1) - IntKind.i64.wrap (shr IntKind.u64 (IntKind.u64.wrap (IntKind.i64.wrap (n96 + n97))) 1))) ∧
            IntKind.i64.wrap (IntKind.i64.wrap (IntKind.i64.wrap (IntKind.i64.wrap (shr IntKind.u64 (IntKind.u64.wrap (IntKind.i64.wrap (n1 + n3))) 1) + n2) - 1) - IntKind.i64.wrap (shr IntKind.u64 (IntKind.u64.wrap (IntKind.i64.wrap (n96 + n97))) 1)) < (↑l0.len : Int)) ∧
            (derefK l0.a (fun i99 => fun i100 => fun h101 =>
            ∃ l102 : Sl, ∃ n103 : Int, ∃ n104 : Int, (h101.read i99 (i100 + (IntKind.i64.wrap (IntKind.i64.wrap (IntKind.i64.wrap (IntKind.i64.wrap (shr IntKind.u64 (IntKind.u64.wrap (IntKind.i64.wrap (n1 + n3))) 1) + n2) - 1) - IntKind.i64.wrap (shr IntKind.u64 (IntKind.u64.wrap (IntKind.i64.wrap (n96 + n97))) 1))).toNat * 3) 3 = some [Cell.slice 1 l102, Cell.int IntKind.i64 n103, Cell.int IntKind.i64 n104]) ∧
            ((0 ≤ IntKind.i64.wrap (shr IntKind.u64 (IntKind.u64.wrap (IntKind.i64.wrap (n96 + n97))) 1)) ∧
            IntKind.i64.wrap (shr IntKind.u64 (IntKind.u64.wrap (IntKind.i64.wrap (n96 + n97))) 1) < (↑l0.len : Int)) ∧
            (derefK l0.a (fun i105 => fun i106 => fun h107 =>
            ∃ l108 : Sl, ∃ n109 : Int, ∃ n110 : Int, (h107.read i105 (i106 + (IntKind.i64.wrap (shr IntKind.u64 (IntKind.u64.wrap (IntKind.i64.wrap (n96 + n97))) 1)).toNat * 3) 3 = some [Cell.slice 1 l108, Cell.int IntKind.i64 n109, Cell.int IntKind.i64 n110]) ∧
            (funK p4 (fun i111 => fun cs112 => fun h113 => 
            I i111 (V.agg [Cell.slice 1 l102, Cell.int IntKind.i64 n103, Cell.int IntKind.i64 n104] :: V.agg [Cell.slice 1 l108, Cell.int IntKind.i64 n109, Cell.int IntKind.i64 n110] :: cs112)
              (fun cs114 => fun h115 => 
              ∃ n116 : Int, (cs114 = [V.one (Cell.int IntKind.i64 n116)]) ∧
              (ifT (!decide (n116 < 0))
                (x95 ((IntKind.i64.wrap (IntKind.i64.wrap (shr IntKind.u64 (IntKind.u64.wrap (IntKind.i64.wrap (n96 + n97))) 1) + 1), n97)))
                (x95 ((n96, IntKind.i64.wrap (shr IntKind.u64 (IntKind.u64.wrap (IntKind.i64.wrap (n96 + n97))) 1))))) h115) h113)) h107)) h101)) h98)
            (joinK (A := Bool)
              (fun b117 => joinK (A := PUnit)
                (fun x118 => joinK (A := Bool)
                  (fun b119 => joinK (A := PUnit)
                    (fun x120 => ifT (decide (IntKind.i64.wrap (shr IntKind.u64 (IntKind.u64.wrap (IntKind.i64.wrap (n1 + n3))) 1) < IntKind.i64.wrap (IntKind.i64.wrap (IntKind.i64.wrap (shr IntKind.u64 (IntKind.u64.wrap (IntKind.i64.wrap (n1 + n3))) 1) + n2) - n96)))
                      (ifT (decide (IntKind.i64.wrap (IntKind.i64.wrap (IntKind.i64.wrap (shr IntKind.u64 (IntKind.u64.wrap (IntKind.i64.wrap (n1 + n3))) 1) + n2) - n96) < n3))
                        (fun h121 =>
                        I 96 [V.one (Cell.slice 3 l0), V.one (Cell.int IntKind.i64 (IntKind.i64.wrap (shr IntKind.u64 (IntKind.u64.wrap (IntKind.i64.wrap (n1 + n3))) 1))), V.one (Cell.int IntKind.i64 (IntKind.i64.wrap (IntKind.i64.wrap (IntKind.i64.wrap (shr IntKind.u64 (IntKind.u64.wrap (IntKind.i64.wrap (n1 + n3))) 1) + n2) - n96))), V.one (Cell.int IntKind.i64 n3), V.one (Cell.func p4)]
                          (fun cs122 => fun h123 => 
                          (cs122 = []) ∧
                          Q [] h123) h121)
                        (Q []))
                      (Q []))
                    (fun x124 => ifT b119
                      (fun h125 =>
                      I 96 [V.one (Cell.slice 3 l0), V.one (Cell.int IntKind.i64 n1), V.one (Cell.int IntKind.i64 n96), V.one (Cell.int IntKind.i64 (IntKind.i64.wrap (shr IntKind.u64 (IntKind.u64.wrap (IntKind.i64.wrap (n1 + n3))) 1))), V.one (Cell.func p4)]
                        (fun cs126 => fun h127 => 
                        (cs126 = []) ∧
                        x124 () h127) h125)
                      (x124 ())))
                  (fun x128 => ifT (decide (n1 < n96))
                    (x128 (decide (n96 < IntKind.i64.wrap (shr IntKind.u64 (IntKind.u64.wrap (IntKind.i64.wrap (n1 + n3))) 1))))
                    (x128 false)))
                (fun x129 => ifT b117
                  (fun h130 =>
                  I 105 [V.one (Cell.slice 3 l0), V.one (Cell.int IntKind.i64 n96), V.one (Cell.int IntKind.i64 n2), V.one (Cell.int IntKind.i64 (IntKind.i64.wrap (IntKind.i64.wrap (IntKind.i64.wrap (shr IntKind.u64 (IntKind.u64.wrap (IntKind.i64.wrap (n1 + n3))) 1) + n2) - n96))), V.one (Cell.func p4)]
                    (fun cs131 => fun h132 => 
                    (cs131 = []) ∧
                    x129 () h132) h130)
                  (x129 ())))
              (fun x133 => ifT (decide (n96 < n2))
                (x133 (decide (n2 < IntKind.i64.wrap (IntKind.i64.wrap (IntKind.i64.wrap (shr IntKind.u64 (IntKind.u64.wrap (IntKind.i64.wrap (n1 + n3))) 1) + n2) - n96))))
                (x133 false)))))
        (fun x134 => ifT (decide (n2 > IntKind.i64.wrap (shr IntKind.u64 (IntKind.u64.wrap (IntKind.i64.wrap (n1 + n3))) 1)))
          (x134 ((IntKind.i64.wrap (IntKind.i64.wrap (IntKind.i64.wrap (shr IntKind.u64 (IntKind.u64.wrap (IntKind.i64.wrap (n1 + n3))) 1) + n2) - n3), IntKind.i64.wrap (shr IntKind.u64 (IntKind.u64.wrap (IntKind.i64.wrap (n1 + n3))) 1))))
          (x134 ((n1, n2))))))
theorem den96 (I : FuncId → List V → Post → T) (l0 : Sl) (n1 : Int) (n2 : Int) (n3 : Int) (p4 : Option (Nat × List (Nat × Nat))) (Q : Post) : denF Go.Proofs.Tryd.prog 0 (⟨[(253, 175618368438428657239593781397105846862741504, [(20, tk Go.Proofs.Tryd.prog 3), (21, tk Go.Proofs.Tryd.prog 3)]), (4092, 97696590730200414720344622980832210455694619039204638720, [(185, tk Go.Proofs.Tryd.prog 4)]), (4093, 6179022020771263876900855213470046628350756140644283973632, []), (8188, 1600660942523603594778126302917954936106100638338328800788480, [(199, tk Go.Proofs.Tryd.prog 4)]), (8189, 101237096788316387359143611817493243958898788608315948623986688, [])], [(172, 18014396362005504, [(10, tk Go.Proofs.Tryd.prog 3), (11, tk Go.Proofs.Tryd.prog 3)]), (428, 162259267157806806474544612753408, [(14, tk Go.Proofs.Tryd.prog 3), (15, tk Go.Proofs.Tryd.prog 3)]), (698, 151115691423031627882496, [(13, tk Go.Proofs.Tryd.prog 3)]), (1020, 47890484938435180470718404069304177263338029388398592, [(20, tk Go.Proofs.Tryd.prog 3), (21, tk Go.Proofs.Tryd.prog 3)]), (1722, 680564409323323268500022431707515977728, [(17, tk Go.Proofs.Tryd.prog 3)])]⟩) I 96 [V.one (Cell.slice 3 l0), V.one (Cell.int IntKind.i64 n1), V.one (Cell.int IntKind.i64 n2), V.one (Cell.int IntKind.i64 n3), V.one (Cell.func p4)] Q = vc96 I l0 n1 n2 n3 p4 Q := by kernel_rfl
/-- slices.rotateCmpFunc[handbill/api.Cell] -/
def vc105 (I : FuncId → List V → Post → T) (l0 : Sl) (n1 : Int) (n2 : Int) (n3 : Int) (p4 : Option (Nat × List (Nat × Nat))) (Q : Post) : T :=
  loopK (A := Int × Int) ((IntKind.i64.wrap (n2 - n1), IntKind.i64.wrap (n3 - n2)))
    (fun x5 => uncur fun n6 n7 => ifT (!decide (n6 = n7))
      (ifT (decide (n6 > n7))
        (fun h8 =>
        I 116 [V.one (Cell.slice 3 l0), V.one (Cell.int IntKind.i64 (IntKind.i64.wrap (n2 - n6))), V.one (Cell.int IntKind.i64 n2), V.one (Cell.int IntKind.i64 n7), V.one (Cell.func p4)]
          (fun cs9 => fun h10 => 
          (cs9 = []) ∧
          x5 ((IntKind.i64.wrap (n6 - n7), n7)) h10) h8)
        (fun h11 =>
        I 116 [V.one (Cell.slice 3 l0), V.one (Cell.int IntKind.i64 (IntKind.i64.wrap (n2 - n6))), V.one (Cell.int IntKind.i64 (IntKind.i64.wrap (IntKind.i64.wrap (n2 + n7) - n6))), V.one (Cell.int IntKind.i64 n6), V.one (Cell.func p4)]
          (fun cs12 => fun h13 => 
          (cs12 = []) ∧
          x5 ((n6, IntKind.i64.wrap (n7 - n6))) h13) h11))
      (fun h14 =>
      I 116 [V.one (Cell.slice 3 l0), V.one (Cell.int IntKind.i64 (IntKind.i64.wrap (n2 - n6))), V.one (Cell.int IntKind.i64 n2), V.one (Cell.int IntKind.i64 n6), V.one (Cell.func p4)]
        (fun cs15 => fun h16 => 
        (cs15 = []) ∧
        Q [] h16) h14))
theorem den105 (I : FuncId → List V → Post → T) (l0 : Sl) (n1 : Int) (n2 : Int) (n3 : Int) (p4 : Option (Nat × List (Nat × Nat))) (Q : Post) : denF Go.Proofs.Tryd.prog 0 (⟨[], [(28, 1125899906583552, [(10, tk Go.Proofs.Tryd.prog 3), (11, tk Go.Proofs.Tryd.prog 3)])]⟩) I 105 [V.one (Cell.slice 3 l0), V.one (Cell.int IntKind.i64 n1), V.one (Cell.int IntKind.i64 n2), V.one (Cell.int IntKind.i64 n3), V.one (Cell.func p4)] Q = vc105 I l0 n1 n2 n3 p4 Q := by kernel_rfl
/-- slices.swapRangeCmpFunc[handbill/api.Cell] -/
def vc116 (I : FuncId → List V → Post → T) (l0 : Sl) (n1 : Int) (n2 : Int) (n3 : Int) (p4 : Option (Nat × List (Nat × Nat))) (Q : Post) : T :=
  loopK (A := Int) 0
    (fun x5 => fun n6 => ifT (decide (n6 < n3))
      (fun h7 =>
      ((0 ≤ IntKind.i64.wrap (n2 + n6)) ∧
      IntKind.i64.wrap (n2 + n6) < (↑l0.len : Int)) ∧
      (derefK l0.a (fun i8 => fun i9 => fun h10 =>
      ∃ l11 : Sl, ∃ n12 : Int, ∃ n13 : Int, (h10.read i8 (i9 + (IntKind.i64.wrap (n2 + n6)).toNat * 3) 3 = some [Cell.slice 1 l11, Cell.int IntKind.i64 n12, Cell.int IntKind.i64 n13]) ∧
      ((0 ≤ IntKind.i64.wrap (n1 + n6)) ∧
      IntKind.i64.wrap (n1 + n6) < (↑l0.len : Int)) ∧
      (derefK l0.a (fun i14 => fun i15 => fun h16 =>
      ∃ l17 : Sl, ∃ n18 : Int, ∃ n19 : Int, (h16.read i14 (i15 + (IntKind.i64.wrap (n1 + n6)).toNat * 3) 3 = some [Cell.slice 1 l17, Cell.int IntKind.i64 n18, Cell.int IntKind.i64 n19]) ∧
      ((0 ≤ IntKind.i64.wrap (n1 + n6)) ∧
      IntKind.i64.wrap (n1 + n6) < (↑l0.len : Int)) ∧
      (derefK l0.a (fun i20 => fun i21 => fun h22 => 
      (storeK [] i20 (i21 + (IntKind.i64.wrap (n1 + n6)).toNat * 3) [Cell.slice 1 l11, Cell.int IntKind.i64 n12, Cell.int IntKind.i64 n13] (fun h23 =>
      ((0 ≤ IntKind.i64.wrap (n2 + n6)) ∧
      IntKind.i64.wrap (n2 + n6) < (↑l0.len : Int)) ∧
      (derefK l0.a (fun i24 => fun i25 => fun h26 => 
      (storeK [] i24 (i25 + (IntKind.i64.wrap (n2 + n6)).toNat * 3) [Cell.slice 1 l17, Cell.int IntKind.i64 n18, Cell.int IntKind.i64 n19] (x5 (IntKind.i64.wrap (n6 + 1)))) h26)) h23)) h22)) h16)) h10)) h7)
      (Q []))
theorem den116 (I : FuncId → List V → Post → T) (l0 : Sl) (n1 : Int) (n2 : Int) (n3 : Int) (p4 : Option (Nat × List (Nat × Nat))) (Q : Post) : denF Go.Proofs.Tryd.prog 0 (⟨[], [(6, 274877905920, [(10, tk Go.Proofs.Tryd.prog 3)])]⟩) I 116 [V.one (Cell.slice 3 l0), V.one (Cell.int IntKind.i64 n1), V.one (Cell.int IntKind.i64 n2), V.one (Cell.int IntKind.i64 n3), V.one (Cell.func p4)] Q = vc116 I l0 n1 n2 n3 p4 Q := by kernel_rfl
/-- handbill/measure.Fold$1 -/
def vc43 (I : FuncId → List V → Post → T) (l0 : Sl) (n1 : Int) (n2 : Int) (l3 : Sl) (n4 : Int) (n5 : Int) (Q : Post) : T :=
  fun h6 =>
  I 38 [V.one (Cell.slice 1 l0), V.one (Cell.slice 1 l3)]
    (fun cs7 => fun h8 => 
    ∃ n9 : Int, (cs7 = [V.one (Cell.int IntKind.i64 n9)]) ∧
    Q [V.one (Cell.int IntKind.i64 n9)] h8) h6
theorem den43 (I : FuncId → List V → Post → T) (l0 : Sl) (n1 : Int) (n2 : Int) (l3 : Sl) (n4 : Int) (n5 : Int) (Q : Post) : denF Go.Proofs.Tryd.prog 12 (⟨[], []⟩) I 43 [V.agg [Cell.slice 1 l0, Cell.int IntKind.i64 n1, Cell.int IntKind.i64 n2], V.agg [Cell.slice 1 l3, Cell.int IntKind.i64 n4, Cell.int IntKind.i64 n5]] Q = vc43 I l0 n1 n2 l3 n4 n5 Q := by kernel_rfl
/-- slices.Equal[[]string,string] -/
def vc44 (I : FuncId → List V → Post → T) (l0 : Sl) (l1 : Sl) (Q : Post) : T :=
  ifT (!decide ((↑l0.len : Int) = (↑l1.len : Int)))
    (Q [V.one (Cell.bool false)])
    (loopK (A := Int) 0
      (fun x2 => fun n3 => ifT (decide (n3 < (↑l0.len : Int)))
        (fun h4 =>
        ((0 ≤ n3) ∧
        n3 < (↑l0.len : Int)) ∧
        (derefK l0.a (fun i5 => fun i6 => fun h7 =>
        ∃ s8 : ByteArray, (h7.read i5 (i6 + n3.toNat * 1) 1 = some [Cell.str s8]) ∧
        ((0 ≤ n3) ∧
        n3 < (↑l1.len : Int)) ∧
        (derefK l1.a (fun i9 => fun i10 => fun h11 =>
        ∃ s12 : ByteArray, (h11.read i9 (i10 + n3.toNat * 1) 1 = some [Cell.str s12]) ∧
        (ifT (!decide (s8 = s12))
          (Q [V.one (Cell.bool false)])
          (x2 (IntKind.i64.wrap (n3 + 1)))) h11)) h7)) h4)
        (Q [V.one (Cell.bool true)])))
theorem den44 (I : FuncId → List V → Post → T) (l0 : Sl) (l1 : Sl) (Q : Post) : denF Go.Proofs.Tryd.prog 0 (⟨[], [(58, 67100720, [(13, tk Go.Proofs.Tryd.prog 3)])]⟩) I 44 [V.one (Cell.slice 1 l0), V.one (Cell.slice 1 l1)] Q = vc44 I l0 l1 Q := by kernel_rfl
/-- slices.ContainsFunc[[]handbill/api.Cell,handbill/api.Cell] -/
def vc45 (I : FuncId → List V → Post → T) (l0 : Sl) (p1 : Option (Nat × List (Nat × Nat))) (Q : Post) : T :=
  fun h2 =>
  I 77 [V.one (Cell.slice 3 l0), V.one (Cell.func p1)]
    (fun cs3 => fun h4 => 
    ∃ n5 : Int, (cs3 = [V.one (Cell.int IntKind.i64 n5)]) ∧
    Q [V.one (Cell.bool (decide (n5 ≥ 0)))] h4) h2
theorem den45 (I : FuncId → List V → Post → T) (l0 : Sl) (p1 : Option (Nat × List (Nat × Nat))) (Q : Post) : denF Go.Proofs.Tryd.prog 0 (⟨[], []⟩) I 45 [V.one (Cell.slice 3 l0), V.one (Cell.func p1)] Q = vc45 I l0 p1 Q := by kernel_rfl
/-- slices.IndexFunc[[]handbill/api.Cell,handbill/api.Cell] -/
def vc77 (I : FuncId → List V → Post → T) (l0 : Sl) (p1 : Option (Nat × List (Nat × Nat))) (Q : Post) : T :=
  loopK (A := Int) 0
    (fun x2 => fun n3 => ifT (decide (n3 < (↑l0.len : Int)))
      (fun h4 =>
      ((0 ≤ n3) ∧
      n3 < (↑l0.len : Int)) ∧
      (derefK l0.a (fun i5 => fun i6 => fun h7 =>
      ∃ l8 : Sl, ∃ n9 : Int, ∃ n10 : Int, (h7.read i5 (i6 + n3.toNat * 3) 3 = some [Cell.slice 1 l8, Cell.int IntKind.i64 n9, Cell.int IntKind.i64 n10]) ∧
      (funK p1 (fun i11 => fun cs12 => fun h13 => 
      I i11 (V.agg [Cell.slice 1 l8, Cell.int IntKind.i64 n9, Cell.int IntKind.i64 n10] :: cs12)
        (fun cs14 => fun h15 => 
        ∃ b16 : Bool, (cs14 = [V.one (Cell.bool b16)]) ∧
        (ifT b16
          (Q [V.one (Cell.int IntKind.i64 n3)])
          (x2 (IntKind.i64.wrap (n3 + 1)))) h15) h13)) h7)) h4)
      (Q [V.one (Cell.int IntKind.i64 (-1))]))
theorem den77 (I : FuncId → List V → Post → T) (l0 : Sl) (p1 : Option (Nat × List (Nat × Nat))) (Q : Post) : denF Go.Proofs.Tryd.prog 0 (⟨[], [(26, 524080, [(8, tk Go.Proofs.Tryd.prog 3)])]⟩) I 77 [V.one (Cell.slice 3 l0), V.one (Cell.func p1)] Q = vc77 I l0 p1 Q := by kernel_rfl
/-- handbill/measure.Fold$2 -/
def vc46 (I : FuncId → List V → Post → T) (l0 : Sl) (n1 : Int) (n2 : Int) (Q : Post) : T :=
  fun h3 =>
  I 39 [V.agg [Cell.slice 1 l0, Cell.int IntKind.i64 n1, Cell.int IntKind.i64 n2]]
    (fun cs4 => fun h5 => 
    ∃ b6 : Bool, (cs4 = [V.one (Cell.bool b6)]) ∧
    Q [V.one (Cell.bool !b6)] h5) h3
theorem den46 (I : FuncId → List V → Post → T) (l0 : Sl) (n1 : Int) (n2 : Int) (Q : Post) : denF Go.Proofs.Tryd.prog 2 (⟨[], []⟩) I 46 [V.agg [Cell.slice 1 l0, Cell.int IntKind.i64 n1, Cell.int IntKind.i64 n2]] Q = vc46 I l0 n1 n2 Q := by kernel_rfl
/-- handbill/handref1.FoldOf -/
def vc15 (I : FuncId → List V → Post → T) (l0 : Sl) (l1 : Sl) (Q : Post) : T :=
  fun h2 =>
  I 13 [V.one (Cell.slice 3 l0)]
    (fun cs3 => fun h4 => 
    ∃ n5 : Int, (cs3 = [V.one (Cell.int IntKind.i64 n5)]) ∧
    (ifT (!decide (n5 = 0))
      (Q [V.one (Cell.slice 3 { a := none, len := 0 }), V.one (Cell.int IntKind.i64 n5)])
      (joinK (A := Int)
        (fun n6 => loopK (A := Int) 0
          (fun x7 => fun n8 => ifT (decide (n8 < (↑l1.len : Int)))
            (fun h9 =>
            ((0 ≤ n8) ∧
            n8 < (↑l1.len : Int)) ∧
            (derefK l1.a (fun i10 => fun i11 => fun h12 =>
            ∃ n13 : Int, (h12.read i10 (i11 + n8.toNat * 1) 1 = some [Cell.int IntKind.i64 n13]) ∧
            (joinK (A := Bool)
              (fun b14 => ifT b14
                (Q [V.one (Cell.slice 3 { a := none, len := 0 }), V.one (Cell.int IntKind.i64 1)])
                (ifT (decide (n8 > 0))
                  (fun h15 =>
                  ((0 ≤ IntKind.i64.wrap (n8 - 1)) ∧
                  IntKind.i64.wrap (n8 - 1) < (↑l1.len : Int)) ∧
                  (derefK l1.a (fun i16 => fun i17 => fun h18 =>
                  ∃ n19 : Int, (h18.read i16 (i17 + (IntKind.i64.wrap (n8 - 1)).toNat * 1) 1 = some [Cell.int IntKind.i64 n19]) ∧
                  (ifT (decide (n13 ≤ n19))
                    (Q [V.one (Cell.slice 3 { a := none, len := 0 }), V.one (Cell.int IntKind.i64 7)])
                    (x7 (IntKind.i64.wrap (n8 + 1)))) h18)) h15)
                  (x7 (IntKind.i64.wrap (n8 + 1)))))
              (fun x20 => ifT (decide (n13 < 0))
                (x20 true)
                (x20 (decide (n13 ≥ n6))))) h12)) h9)
            (loopK (A := Sl × Int) (({ a := none, len := 0 }, 0))
              (fun x21 => uncur fun l22 n23 => ifT (decide (n23 < (↑l0.len : Int)))
                (fun h24 =>
                ((0 ≤ n23) ∧
                n23 < (↑l0.len : Int)) ∧
                (derefK l0.a (fun i25 => fun i26 => fun h27 =>
                ∃ l28 : Sl, ∃ n29 : Int, ∃ n30 : Int, (h27.read i25 (i26 + n23.toNat * 3) 3 = some [Cell.slice 1 l28, Cell.int IntKind.i64 n29, Cell.int IntKind.i64 n30]) ∧
                (loopK (A := Sl × Int) (({ a := none, len := 0 }, 0))
                  (fun x31 => uncur fun l32 n33 => ifT (decide (n33 < (↑l1.len : Int)))
                    (fun h34 =>
                    ((0 ≤ n33) ∧
                    n33 < (↑l1.len : Int)) ∧
                    (derefK l1.a (fun i35 => fun i36 => fun h37 =>
                    ∃ n38 : Int, (h37.read i35 (i36 + n33.toNat * 1) 1 = some [Cell.int IntKind.i64 n38]) ∧
                    ((0 ≤ n38) ∧
                    n38 < (↑l28.len : Int)) ∧
                    (derefK l28.a (fun i39 => fun i40 => fun h41 =>
                    ∃ s42 : ByteArray, (h41.read i39 (i40 + n38.toNat * 1) 1 = some [Cell.str s42]) ∧
                    (appendTo [] 1 16 l32 1 [Cell.str s42] (fun l43 => fun h44 => 
                    x31 ((l43, IntKind.i64.wrap (n33 + 1))) h44)) h41)) h37)) h34)
                    (fun h45 =>
                    I 47 [V.one (Cell.slice 3 l22), V.one (Cell.slice 1 l32), V.one (Cell.func (some (48, [])))]
                      (fun cs46 => fun h47 => 
                      ∃ n48 : Int, ∃ b49 : Bool, (cs46 = [V.one (Cell.int IntKind.i64 n48), V.one (Cell.bool b49)]) ∧
                      (joinK (A := Sl)
                        (fun l50 => fun h51 => 
                        ((0 ≤ n48) ∧
                        n48 < (↑l50.len : Int)) ∧
                        (derefK l50.a (fun i52 => fun i53 => fun h54 =>
                        ∃ n55 : Int, (h54.read i52 (i53 + n48.toNat * 3 + 1) 1 = some [Cell.int IntKind.i64 n55]) ∧
                        ((0 ≤ n48) ∧
                        n48 < (↑l50.len : Int)) ∧
                        (derefK l50.a (fun i56 => fun i57 => fun h58 =>
                        (storeK [] i56 (i57 + n48.toNat * 3 + 1) [Cell.int IntKind.i64 (IntKind.i64.wrap (n55 + n29))] (fun h59 =>
                        ((0 ≤ n48) ∧
                        n48 < (↑l50.len : Int)) ∧
                        (derefK l50.a (fun i60 => fun i61 => fun h62 =>
                        ∃ n63 : Int, (h62.read i60 (i61 + n48.toNat * 3 + 2) 1 = some [Cell.int IntKind.i64 n63]) ∧
                        ((0 ≤ n48) ∧
                        n48 < (↑l50.len : Int)) ∧
                        (derefK l50.a (fun i64 => fun i65 => fun h66 =>
                        (storeK [] i64 (i65 + n48.toNat * 3 + 2) [Cell.int IntKind.i64 (IntKind.i64.wrap (n63 + n30))] (x21 ((l50, IntKind.i64.wrap (n23 + 1))))) h66)) h62)) h59)) h58)) h54)) h51)
                        (fun x67 => ifT (!b49)
                          (fun h68 =>
                          (newK (.cells false [Cell.slice 1 l32, Cell.int IntKind.i64 0, Cell.int IntKind.i64 0]) (fun i69 => fun h70 =>
                          I 49 [V.one (Cell.slice 3 l22), V.one (Cell.int IntKind.i64 n48), V.one (Cell.slice 3 { a := some (i69, 0), len := 1 })]
                            (fun cs71 => fun h72 => 
                            ∃ l73 : Sl, (cs71 = [V.one (Cell.slice 3 l73)]) ∧
                            x67 l73 h72) h70)) h68)
                          (x67 l22))) h47) h45))) h27)) h24)
                (loopK (A := Int) 0
                  (fun x74 => fun n75 => ifT (decide (n75 < (↑l22.len : Int)))
                    (fun h76 =>
                    ((0 ≤ n75) ∧
                    n75 < (↑l22.len : Int)) ∧
                    (derefK l22.a (fun i77 => fun i78 => fun h79 =>
                    ∃ l80 : Sl, ∃ n81 : Int, ∃ n82 : Int, (h79.read i77 (i78 + n75.toNat * 3) 3 = some [Cell.slice 1 l80, Cell.int IntKind.i64 n81, Cell.int IntKind.i64 n82]) ∧
                    (ifT (decide (n81 > 1000000))
                      (Q [V.one (Cell.slice 3 { a := none, len := 0 }), V.one (Cell.int IntKind.i64 12)])
                      (ifT (decide (n82 < -1000000000000))
                        (Q [V.one (Cell.slice 3 { a := none, len := 0 }), V.one (Cell.int IntKind.i64 12)])
                        (ifT (decide (n82 > 1000000000000))
                          (Q [V.one (Cell.slice 3 { a := none, len := 0 }), V.one (Cell.int IntKind.i64 12)])
                          (x74 (IntKind.i64.wrap (n75 + 1)))))) h79)) h76)
                    (Q [V.one (Cell.slice 3 l22), V.one (Cell.int IntKind.i64 0)])))))))
        (fun x83 => ifT (decide ((↑l0.len : Int) > 0))
          (fun h84 =>
          (((0 : Int) ≤ (0 : Int)) ∧
          0 < (↑l0.len : Int)) ∧
          (derefK l0.a (fun i85 => fun i86 => fun h87 =>
          ∃ l88 : Sl, (h87.read i85 (i86 + 0 + 0) 1 = some [Cell.slice 1 l88]) ∧
          x83 ((↑l88.len : Int)) h87)) h84)
          (x83 6)))) h4) h2
theorem den15 (I : FuncId → List V → Post → T) (l0 : Sl) (l1 : Sl) (Q : Post) : denF Go.Proofs.Tryd.prog 528384 (⟨[(61, 8321499264, [(7, tk Go.Proofs.Tryd.prog 3)]), (64100, 139637976727552, [(46, tk Go.Proofs.Tryd.prog 4)]), (2085693, 19497555618744739329661207552, [(10, tk Go.Proofs.Tryd.prog 35)])], [(250, 576460717943685936, [(35, tk Go.Proofs.Tryd.prog 3)]), (1018, 41538374868278618722400961420309504, [(10, tk Go.Proofs.Tryd.prog 35), (61, tk Go.Proofs.Tryd.prog 3)]), (2042, 43555976812380650208827836775383796547632, [(117, tk Go.Proofs.Tryd.prog 3)]), (1042842, 1208778245662039498334208, [(13, tk Go.Proofs.Tryd.prog 61), (67, tk Go.Proofs.Tryd.prog 3)])]⟩) I 15 [V.one (Cell.slice 3 l0), V.one (Cell.slice 1 l1)] Q = vc15 I l0 l1 Q := by kernel_rfl
/-- slices.BinarySearchFunc[[]handbill/api.Cell,handbill/api.Cell,[]string] -/
def vc47 (I : FuncId → List V → Post → T) (l0 : Sl) (l1 : Sl) (p2 : Option (Nat × List (Nat × Nat))) (Q : Post) : T :=
  loopK (A := Int × Int) ((0, (↑l0.len : Int)))
    (fun x3 => uncur fun n4 n5 => ifT (decide (n4 < n5))
      (fun h6 =>
      ((0 ≤ IntKind.i64.wrap (shr IntKind.u64 (IntKind.u64.wrap (IntKind.i64.wrap (n4 + n5))) 1)) ∧
      IntKind.i64.wrap (shr IntKind.u64 (IntKind.u64.wrap (IntKind.i64.wrap (n4 + n5))) 1) < (↑l0.len : Int)) ∧
      (derefK l0.a (fun i7 => fun i8 => fun h9 =>
      ∃ l10 : Sl, ∃ n11 : Int, ∃ n12 : Int, (h9.read i7 (i8 + (IntKind.i64.wrap (shr IntKind.u64 (IntKind.u64.wrap (IntKind.i64.wrap (n4 + n5))) 1)).toNat * 3) 3 = some [Cell.slice 1 l10, Cell.int IntKind.i64 n11, Cell.int IntKind.i64 n12]) ∧
      (funK p2 (fun i13 => fun cs14 => fun h15 => 
      I i13 (V.agg [Cell.slice 1 l10, Cell.int IntKind.i64 n11, Cell.int IntKind.i64 n12] :: V.one (Cell.slice 1 l1) :: cs14)
        (fun cs16 => fun h17 => 
        ∃ n18 : Int, (cs16 = [V.one (Cell.int IntKind.i64 n18)]) ∧
        (ifT (decide (n18 < 0))
          (x3 ((IntKind.i64.wrap (IntKind.i64.wrap (shr IntKind.u64 (IntKind.u64.wrap (IntKind.i64.wrap (n4 + n5))) 1) + 1), n5)))
          (x3 ((n4, IntKind.i64.wrap (shr IntKind.u64 (IntKind.u64.wrap (IntKind.i64.wrap (n4 + n5))) 1))))) h17) h15)) h9)) h6)
      (ifT (decide (n4 < (↑l0.len : Int)))
        (fun h19 =>
        ((0 ≤ n4) ∧
        n4 < (↑l0.len : Int)) ∧
        (derefK l0.a (fun i20 => fun i21 => fun h22 =>
        ∃ l23 : Sl, ∃ n24 : Int, ∃ n25 : Int, (h22.read i20 (i21 + n4.toNat * 3) 3 = some [Cell.slice 1 l23, Cell.int IntKind.i64 n24, Cell.int IntKind.i64 n25]) ∧
        (funK p2 (fun i26 => fun cs27 => fun h28 => 
        I i26 (V.agg [Cell.slice 1 l23, Cell.int IntKind.i64 n24, Cell.int IntKind.i64 n25] :: V.one (Cell.slice 1 l1) :: cs27)
          (fun cs29 => fun h30 => 
          ∃ n31 : Int, (cs29 = [V.one (Cell.int IntKind.i64 n31)]) ∧
          Q [V.one (Cell.int IntKind.i64 n4), V.one (Cell.bool (decide (n31 = 0)))] h30) h28)) h22)) h19)
        (Q [V.one (Cell.int IntKind.i64 n4), V.one (Cell.bool false)])))
theorem den47 (I : FuncId → List V → Post → T) (l0 : Sl) (l1 : Sl) (p2 : Option (Nat × List (Nat × Nat))) (Q : Post) : denF Go.Proofs.Tryd.prog 0 (⟨[], [(60, 34359709184, [(9, tk Go.Proofs.Tryd.prog 3), (10, tk Go.Proofs.Tryd.prog 3)])]⟩) I 47 [V.one (Cell.slice 3 l0), V.one (Cell.slice 1 l1), V.one (Cell.func p2)] Q = vc47 I l0 l1 p2 Q := by kernel_rfl
/-- handbill/handref1.FoldOf$1 -/
def vc48 (I : FuncId → List V → Post → T) (l0 : Sl) (n1 : Int) (n2 : Int) (l3 : Sl) (Q : Post) : T :=
  fun h4 =>
  I 38 [V.one (Cell.slice 1 l0), V.one (Cell.slice 1 l3)]
    (fun cs5 => fun h6 => 
    ∃ n7 : Int, (cs5 = [V.one (Cell.int IntKind.i64 n7)]) ∧
    Q [V.one (Cell.int IntKind.i64 n7)] h6) h4
theorem den48 (I : FuncId → List V → Post → T) (l0 : Sl) (n1 : Int) (n2 : Int) (l3 : Sl) (Q : Post) : denF Go.Proofs.Tryd.prog 4 (⟨[], []⟩) I 48 [V.agg [Cell.slice 1 l0, Cell.int IntKind.i64 n1, Cell.int IntKind.i64 n2], V.one (Cell.slice 1 l3)] Q = vc48 I l0 n1 n2 l3 Q := by kernel_rfl
/-- handbill/handref1.SameCells -/
def vc16 (I : FuncId → List V → Post → T) (l0 : Sl) (l1 : Sl) (Q : Post) : T :=
  fun h2 =>
  I 50 [V.one (Cell.slice 3 l0), V.one (Cell.slice 3 l1), V.one (Cell.func (some (51, [])))]
    (fun cs3 => fun h4 => 
    ∃ b5 : Bool, (cs3 = [V.one (Cell.bool b5)]) ∧
    Q [V.one (Cell.bool b5)] h4) h2
theorem den16 (I : FuncId → List V → Post → T) (l0 : Sl) (l1 : Sl) (Q : Post) : denF Go.Proofs.Tryd.prog 0 (⟨[], []⟩) I 16 [V.one (Cell.slice 3 l0), V.one (Cell.slice 3 l1)] Q = vc16 I l0 l1 Q := by kernel_rfl
/-- slices.EqualFunc[[]handbill/api.Cell,[]handbill/api.Cell,handbill/api.Cell,handbill/api.Cell] -/
def vc50 (I : FuncId → List V → Post → T) (l0 : Sl) (l1 : Sl) (p2 : Option (Nat × List (Nat × Nat))) (Q : Post) : T :=
  ifT (!decide ((↑l0.len : Int) = (↑l1.len : Int)))
    (Q [V.one (Cell.bool false)])
    (loopK (A := Int) 0
      (fun x3 => fun n4 => ifT (decide (n4 < (↑l0.len : Int)))
        (fun h5 =>
        ((0 ≤ n4) ∧
        n4 < (↑l0.len : Int)) ∧
        (derefK l0.a (fun i6 => fun i7 => fun h8 =>
        ∃ l9 : Sl, ∃ n10 : Int, ∃ n11 : Int, (h8.read i6 (i7 + n4.toNat * 3) 3 = some [Cell.slice 1 l9, Cell.int IntKind.i64 n10, Cell.int IntKind.i64 n11]) ∧
        ((0 ≤ n4) ∧
        n4 < (↑l1.len : Int)) ∧
        (derefK l1.a (fun i12 => fun i13 => fun h14 =>
        ∃ l15 : Sl, ∃ n16 : Int, ∃ n17 : Int, (h14.read i12 (i13 + n4.toNat * 3) 3 = some [Cell.slice 1 l15, Cell.int IntKind.i64 n16, Cell.int IntKind.i64 n17]) ∧
        (funK p2 (fun i18 => fun cs19 => fun h20 => 
        I i18 (V.agg [Cell.slice 1 l9, Cell.int IntKind.i64 n10, Cell.int IntKind.i64 n11] :: V.agg [Cell.slice 1 l15, Cell.int IntKind.i64 n16, Cell.int IntKind.i64 n17] :: cs19)
          (fun cs21 => fun h22 => 
          ∃ b23 : Bool, (cs21 = [V.one (Cell.bool b23)]) ∧
          (ifT (!b23)
            (Q [V.one (Cell.bool false)])
            (x3 (IntKind.i64.wrap (n4 + 1)))) h22) h20)) h14)) h8)) h5)
        (Q [V.one (Cell.bool true)])))
theorem den50 (I : FuncId → List V → Post → T) (l0 : Sl) (l1 : Sl) (p2 : Option (Nat × List (Nat × Nat))) (Q : Post) : denF Go.Proofs.Tryd.prog 768 (⟨[], [(58, 4294837184, [(17, tk Go.Proofs.Tryd.prog 3)])]⟩) I 50 [V.one (Cell.slice 3 l0), V.one (Cell.slice 3 l1), V.one (Cell.func p2)] Q = vc50 I l0 l1 p2 Q := by kernel_rfl
/-- handbill/handref1.SameCells$1 -/
def vc51 (I : FuncId → List V → Post → T) (l0 : Sl) (n1 : Int) (n2 : Int) (l3 : Sl) (n4 : Int) (n5 : Int) (Q : Post) : T :=
  fun h6 =>
  I 44 [V.one (Cell.slice 1 l0), V.one (Cell.slice 1 l3)]
    (fun cs7 => fun h8 => 
    ∃ b9 : Bool, (cs7 = [V.one (Cell.bool b9)]) ∧
    (ifT b9
      (ifT (decide (n1 = n4))
        (Q [V.one (Cell.bool (decide (n2 = n5)))])
        (Q [V.one (Cell.bool false)]))
      (Q [V.one (Cell.bool false)])) h8) h6
theorem den51 (I : FuncId → List V → Post → T) (l0 : Sl) (n1 : Int) (n2 : Int) (l3 : Sl) (n4 : Int) (n5 : Int) (Q : Post) : denF Go.Proofs.Tryd.prog 12 (⟨[], []⟩) I 51 [V.agg [Cell.slice 1 l0, Cell.int IntKind.i64 n1, Cell.int IntKind.i64 n2], V.agg [Cell.slice 1 l3, Cell.int IntKind.i64 n4, Cell.int IntKind.i64 n5]] Q = vc51 I l0 n1 n2 l3 n4 n5 Q := by kernel_rfl
/-- handbill/measure.Adds -/
def vc18 (I : FuncId → List V → Post → T) (l0 : Sl) (l1 : Sl) (l2 : Sl) (Q : Post) : T :=
  fun h3 =>
  I 14 [V.one (Cell.slice 3 l0), V.one (Cell.slice 1 l2)]
    (fun cs4 => fun h5 => 
    ∃ l6 : Sl, ∃ n7 : Int, (cs4 = [V.one (Cell.slice 3 l6), V.one (Cell.int IntKind.i64 n7)]) ∧
    (ifT (!decide (n7 = 0))
      (Q [V.one (Cell.bool false), V.one (Cell.int IntKind.i64 n7)])
      (fun h8 =>
      I 12 [V.one (Cell.slice 3 l1)]
        (fun cs9 => fun h10 => 
        ∃ n11 : Int, (cs9 = [V.one (Cell.int IntKind.i64 n11)]) ∧
        (ifT (!decide (n11 = 0))
          (Q [V.one (Cell.bool false), V.one (Cell.int IntKind.i64 n11)])
          (fun h12 =>
          I 50 [V.one (Cell.slice 3 l6), V.one (Cell.slice 3 l1), V.one (Cell.func (some (52, [])))]
            (fun cs13 => fun h14 => 
            ∃ b15 : Bool, (cs13 = [V.one (Cell.bool b15)]) ∧
            Q [V.one (Cell.bool b15), V.one (Cell.int IntKind.i64 0)] h14) h12)) h10) h8)) h5) h3
theorem den18 (I : FuncId → List V → Post → T) (l0 : Sl) (l1 : Sl) (l2 : Sl) (Q : Post) : denF Go.Proofs.Tryd.prog 0 (⟨[], []⟩) I 18 [V.one (Cell.slice 3 l0), V.one (Cell.slice 3 l1), V.one (Cell.slice 1 l2)] Q = vc18 I l0 l1 l2 Q := by kernel_rfl
/-- handbill/measure.Adds$1 -/
def vc52 (I : FuncId → List V → Post → T) (l0 : Sl) (n1 : Int) (n2 : Int) (l3 : Sl) (n4 : Int) (n5 : Int) (Q : Post) : T :=
  ifT (decide (n1 = n4))
    (ifT (decide (n2 = n5))
      (fun h6 =>
      I 44 [V.one (Cell.slice 1 l0), V.one (Cell.slice 1 l3)]
        (fun cs7 => fun h8 => 
        ∃ b9 : Bool, (cs7 = [V.one (Cell.bool b9)]) ∧
        Q [V.one (Cell.bool b9)] h8) h6)
      (Q [V.one (Cell.bool false)]))
    (Q [V.one (Cell.bool false)])
theorem den52 (I : FuncId → List V → Post → T) (l0 : Sl) (n1 : Int) (n2 : Int) (l3 : Sl) (n4 : Int) (n5 : Int) (Q : Post) : denF Go.Proofs.Tryd.prog 12 (⟨[], []⟩) I 52 [V.agg [Cell.slice 1 l0, Cell.int IntKind.i64 n1, Cell.int IntKind.i64 n2], V.agg [Cell.slice 1 l3, Cell.int IntKind.i64 n4, Cell.int IntKind.i64 n5]] Q = vc52 I l0 n1 n2 l3 n4 n5 Q := by kernel_rfl
/-- cmp.Or[handbill/api.Errno] -/
def vc19 (I : FuncId → List V → Post → T) (l0 : Sl) (Q : Post) : T :=
  loopK (A := Int) 0
    (fun x1 => fun n2 => ifT (decide (n2 < (↑l0.len : Int)))
      (fun h3 =>
      ((0 ≤ n2) ∧
      n2 < (↑l0.len : Int)) ∧
      (derefK l0.a (fun i4 => fun i5 => fun h6 =>
      ∃ n7 : Int, (h6.read i4 (i5 + n2.toNat * 1) 1 = some [Cell.int IntKind.i64 n7]) ∧
      (ifT (!decide (n7 = 0))
        (Q [V.one (Cell.int IntKind.i64 n7)])
        (x1 (IntKind.i64.wrap (n2 + 1)))) h6)) h3)
      (Q [V.one (Cell.int IntKind.i64 0)]))
theorem den19 (I : FuncId → List V → Post → T) (l0 : Sl) (Q : Post) : denF Go.Proofs.Tryd.prog 0 (⟨[], [(58, 130852, [(8, tk Go.Proofs.Tryd.prog 3)])]⟩) I 19 [V.one (Cell.slice 1 l0)] Q = vc19 I l0 Q := by kernel_rfl
end Go.Proofs.YtdjancoknephnaaDoorVc
