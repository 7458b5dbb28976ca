/- Formulas of the functions that BestChosen reaches beyond those of BasketsPriced. BestChosen: the best choice, exactly. BestChosen: the document's best choice, and the law's contract. -/
import Derived.Test.YtfemminjhecocaaGreatDoorVcBpVc
import Derived.Test.YtfemminjhecocaaGreatDoorVcBpSame
set_option linter.unusedVariables false
set_option maxRecDepth 100000
set_option linter.unusedSimpArgs false
-- BcVc
namespace Go.Proofs.YtfemminjhecocaaGreatDoorVc
/-- handbill/handlaw1.BestChosen -/
def vc4 (I : FuncId → List V → Post → T) (l0 : Sl) (Q : Post) : T :=
  fun h1 =>
  (newK (.cells false [Cell.slice 1 l0, Cell.int IntKind.i64 0]) (fun i2 => fun h3 => 
  (newK (.cells false [Cell.int IntKind.i64 3, Cell.int IntKind.i64 5, Cell.int IntKind.i64 7, Cell.int IntKind.i64 13]) (fun i4 => fun h5 =>
  I 20 [V.one (Cell.ptr (some (i2, 0))), V.one (Cell.slice 1 { a := some (i4, 0), len := 4 })]
    (fun cs6 => fun h7 => 
    ∃ n8 : Int, (cs6 = [V.one (Cell.int IntKind.i64 n8)]) ∧
    I 8 [V.one (Cell.ptr (some (i2, 0))), V.one (Cell.int IntKind.i64 n8)]
      (fun cs9 => fun h10 => 
      ∃ l11 : Sl, (cs9 = [V.one (Cell.slice 12 l11)]) ∧
      I 9 [V.one (Cell.ptr (some (i2, 0)))]
        (fun cs12 => fun h13 => 
        ∃ l14 : Sl, ∃ n15 : Int, (cs12 = [V.agg [Cell.slice 4 l14, Cell.int IntKind.i64 n15]]) ∧
        I 10 [V.one (Cell.ptr (some (i2, 0)))]
          (fun cs16 => fun h17 => 
          ∃ n18 : Int, (cs16 = [V.one (Cell.int IntKind.i64 n18)]) ∧
          I 21 [V.one (Cell.slice 12 l11), V.agg [Cell.slice 4 l14, Cell.int IntKind.i64 n15], V.one (Cell.int IntKind.i64 n18)]
            (fun cs19 => fun h20 => 
            ∃ l21 : Sl, ∃ l22 : Sl, ∃ n23 : Int, ∃ l24 : Sl, ∃ n25 : Int, ∃ n26 : Int, (cs19 = [V.one (Cell.slice 1 l21), V.agg [Cell.slice 1 l22, Cell.int IntKind.i64 n23, Cell.slice 2 l24, Cell.int IntKind.i64 n25], V.one (Cell.int IntKind.i64 n26)]) ∧
            I 22 [V.one (Cell.slice 12 l11), V.agg [Cell.slice 4 l14, Cell.int IntKind.i64 n15], V.one (Cell.int IntKind.i64 n18)]
              (fun cs27 => fun h28 => 
              ∃ l29 : Sl, ∃ l30 : Sl, ∃ n31 : Int, ∃ l32 : Sl, ∃ n33 : Int, ∃ n34 : Int, (cs27 = [V.one (Cell.slice 1 l29), V.agg [Cell.slice 1 l30, Cell.int IntKind.i64 n31, Cell.slice 2 l32, Cell.int IntKind.i64 n33], V.one (Cell.int IntKind.i64 n34)]) ∧
              I 18 []
                (fun cs35 => fun h36 => 
                ∃ b37 : Bool, (cs35 = [V.one (Cell.bool b37)]) ∧
                (ifT b37
                  (ifT (decide (n26 = n34))
                    (fun h38 =>
                    I 23 [V.one (Cell.slice 1 l21), V.one (Cell.slice 1 l29)]
                      (fun cs39 => fun h40 => 
                      ∃ b41 : Bool, (cs39 = [V.one (Cell.bool b41)]) ∧
                      (ifT b41
                        (fun h42 =>
                        I 19 [V.agg [Cell.slice 1 l22, Cell.int IntKind.i64 n23, Cell.slice 2 l24, Cell.int IntKind.i64 n25], V.agg [Cell.slice 1 l30, Cell.int IntKind.i64 n31, Cell.slice 2 l32, Cell.int IntKind.i64 n33]]
                          (fun cs43 => fun h44 => 
                          ∃ b45 : Bool, (cs43 = [V.one (Cell.bool b45)]) ∧
                          Q [V.one (Cell.bool b45)] h44) h42)
                        (Q [V.one (Cell.bool false)])) h40) h38)
                    (Q [V.one (Cell.bool false)]))
                  (Q [V.one (Cell.bool false)])) h36) h28) h20) h17) h13) h10) h7) h5)) h3)) h1
theorem den4 (I : FuncId → List V → Post → T) (l0 : Sl) (Q : Post) : denF Go.Proofs.Tryz.prog 2336 (⟨[], []⟩) I 4 [V.one (Cell.slice 1 l0)] Q = vc4 I l0 Q := by kernel_rfl
/-- handbill/offer.Best -/
def vc21 (I : FuncId → List V → Post → T) (l0 : Sl) (l1 : Sl) (n2 : Int) (n3 : Int) (Q : Post) : T :=
  fun h4 =>
  I 48 [V.one (Cell.slice 12 l0), V.agg [Cell.slice 4 l1, Cell.int IntKind.i64 n2], V.one (Cell.int IntKind.i64 n3)]
    (fun cs5 => fun h6 => 
    ∃ n7 : Int, (cs5 = [V.one (Cell.int IntKind.i64 n7)]) ∧
    (ifT (!decide (n7 = 0))
      (fun h8 =>
      Q [V.one (Cell.slice 1 { a := none, len := 0 }), V.agg [Cell.slice 1 { a := none, len := 0 }, Cell.int IntKind.i64 0, Cell.slice 2 { a := none, len := 0 }, Cell.int IntKind.i64 0], V.one (Cell.int IntKind.i64 n7)] h8)
      (loopK (A := Sl × Int) (({ a := none, len := 0 }, 0))
        (fun x9 => uncur fun l10 n11 => ifT (decide (n11 < (↑l0.len : Int)))
          (fun h12 =>
          ((0 ≤ n11) ∧
          n11 < (↑l0.len : Int)) ∧
          (derefK l0.a (fun i13 => fun i14 => fun h15 =>
          ∃ s16 : ByteArray, ∃ n17 : Int, ∃ n18 : Int, ∃ n19 : Int, ∃ l20 : Sl, ∃ n21 : Int, ∃ n22 : Int, ∃ s23 : ByteArray, ∃ b24 : Bool, ∃ n25 : Int, ∃ n26 : Int, ∃ n27 : Int, (h15.read i13 (i14 + n11.toNat * 12) 12 = some [Cell.str s16, Cell.int IntKind.i64 n17, Cell.int IntKind.i64 n18, Cell.int IntKind.i64 n19, Cell.slice 1 l20, Cell.int IntKind.i64 n21, Cell.int IntKind.i64 n22, Cell.str s23, Cell.bool b24, Cell.int IntKind.i64 n25, Cell.int IntKind.i64 n26, Cell.int IntKind.i64 n27]) ∧
          I 52 [V.agg [Cell.str s16, Cell.int IntKind.i64 n17, Cell.int IntKind.i64 n18, Cell.int IntKind.i64 n19, Cell.slice 1 l20, Cell.int IntKind.i64 n21, Cell.int IntKind.i64 n22, Cell.str s23, Cell.bool b24, Cell.int IntKind.i64 n25, Cell.int IntKind.i64 n26, Cell.int IntKind.i64 n27], V.agg [Cell.slice 4 l1, Cell.int IntKind.i64 n2], V.one (Cell.int IntKind.i64 n3)]
            (fun cs28 => fun h29 => 
            ∃ n30 : Int, (cs28 = [V.one (Cell.int IntKind.i64 n30)]) ∧
            (ifT (decide (n30 = 0))
              (fun h31 =>
              (appendTo [] 1 8 l10 1 [Cell.int IntKind.i64 n11] (fun l32 => fun h33 => 
              x9 ((l32, IntKind.i64.wrap (n11 + 1))) h33)) h31)
              (x9 ((l10, IntKind.i64.wrap (n11 + 1))))) h29) h15)) h12)
          (ifT (decide ((↑l10.len : Int) > 10))
            (fun h34 =>
            Q [V.one (Cell.slice 1 { a := none, len := 0 }), V.agg [Cell.slice 1 { a := none, len := 0 }, Cell.int IntKind.i64 0, Cell.slice 2 { a := none, len := 0 }, Cell.int IntKind.i64 0], V.one (Cell.int IntKind.i64 2)] h34)
            (fun h35 =>
            I 53 [V.one (Cell.slice 12 { a := none, len := 0 }), V.agg [Cell.slice 4 l1, Cell.int IntKind.i64 n2]]
              (fun cs36 => fun h37 => 
              ∃ l38 : Sl, ∃ n39 : Int, ∃ l40 : Sl, ∃ n41 : Int, (cs36 = [V.agg [Cell.slice 1 l38, Cell.int IntKind.i64 n39, Cell.slice 2 l40, Cell.int IntKind.i64 n41]]) ∧
              (loopK (A := Sl × (Sl × Int × Sl × Int × PUnit) × Int) (({ a := none, len := 0 }, (l38, n39, l40, n41, ()), 1))
                (fun x42 => uncur fun l43 => uncur (uncur fun l44 => uncur fun n45 => uncur fun l46 => uncur fun n47 x48 => fun n49 => fun h50 => 
                (0 ≤ (↑l10.len : Int)) ∧
                (ifT (decide (n49 < shl IntKind.i64 1 (↑l10.len : Int)))
                  (loopK (A := Sl × Sl × Int) (({ a := none, len := 0 }, { a := none, len := 0 }, 0))
                    (fun x51 => uncur fun l52 => uncur fun l53 n54 => ifT (decide (n54 < (↑l10.len : Int)))
                      (fun h55 =>
                      ((0 ≤ n54) ∧
                      n54 < (↑l10.len : Int)) ∧
                      (derefK l10.a (fun i56 => fun i57 => fun h58 =>
                      ∃ n59 : Int, (h58.read i56 (i57 + n54.toNat * 1) 1 = some [Cell.int IntKind.i64 n59]) ∧
                      (0 ≤ n54) ∧
                      (ifT (decide (IntKind.i64.wrap (↑(BitVec.ofInt 64 (shr IntKind.i64 n49 n54) &&& BitVec.ofInt 64 1).toNat : Int) = 1))
                        (fun h60 =>
                        ((0 ≤ n59) ∧
                        n59 < (↑l0.len : Int)) ∧
                        (derefK l0.a (fun i61 => fun i62 => fun h63 =>
                        ∃ s64 : ByteArray, ∃ n65 : Int, ∃ n66 : Int, ∃ n67 : Int, ∃ l68 : Sl, ∃ n69 : Int, ∃ n70 : Int, ∃ s71 : ByteArray, ∃ b72 : Bool, ∃ n73 : Int, ∃ n74 : Int, ∃ n75 : Int, (h63.read i61 (i62 + n59.toNat * 12) 12 = some [Cell.str s64, Cell.int IntKind.i64 n65, Cell.int IntKind.i64 n66, Cell.int IntKind.i64 n67, Cell.slice 1 l68, Cell.int IntKind.i64 n69, Cell.int IntKind.i64 n70, Cell.str s71, Cell.bool b72, Cell.int IntKind.i64 n73, Cell.int IntKind.i64 n74, Cell.int IntKind.i64 n75]) ∧
                        (appendTo [i61] 1 8 l52 1 [Cell.int IntKind.i64 n59] (fun l76 => fun h77 => 
                        (appendTo [] 12 128 l53 1 [Cell.str s64, Cell.int IntKind.i64 n65, Cell.int IntKind.i64 n66, Cell.int IntKind.i64 n67, Cell.slice 1 l68, Cell.int IntKind.i64 n69, Cell.int IntKind.i64 n70, Cell.str s71, Cell.bool b72, Cell.int IntKind.i64 n73, Cell.int IntKind.i64 n74, Cell.int IntKind.i64 n75] (fun l78 => fun h79 => 
                        x51 ((l76, l78, IntKind.i64.wrap (n54 + 1))) h79)) h77)) h63)) h60)
                        (x51 ((l52, l53, IntKind.i64.wrap (n54 + 1))))) h58)) h55)
                      (fun h80 =>
                      I 49 [V.one (Cell.slice 12 l53)]
                        (fun cs81 => fun h82 => 
                        ∃ b83 : Bool, (cs81 = [V.one (Cell.bool b83)]) ∧
                        (ifT (!b83)
                          (x42 ((l43, (l44, n45, l46, n47, ()), IntKind.i64.wrap (n49 + 1))))
                          (fun h84 =>
                          I 53 [V.one (Cell.slice 12 l53), V.agg [Cell.slice 4 l1, Cell.int IntKind.i64 n2]]
                            (fun cs85 => fun h86 => 
                            ∃ l87 : Sl, ∃ n88 : Int, ∃ l89 : Sl, ∃ n90 : Int, (cs85 = [V.agg [Cell.slice 1 l87, Cell.int IntKind.i64 n88, Cell.slice 2 l89, Cell.int IntKind.i64 n90]]) ∧
                            I 62 [V.one (Cell.int IntKind.i64 n90), V.one (Cell.int IntKind.i64 n47)]
                              (fun cs91 => fun h92 => 
                              ∃ n93 : Int, (cs91 = [V.one (Cell.int IntKind.i64 n93)]) ∧
                              I 62 [V.one (Cell.int IntKind.i64 (↑l52.len : Int)), V.one (Cell.int IntKind.i64 (↑l43.len : Int))]
                                (fun cs94 => fun h95 => 
                                ∃ n96 : Int, (cs94 = [V.one (Cell.int IntKind.i64 n96)]) ∧
                                I 68 [V.one (Cell.slice 1 l52), V.one (Cell.slice 1 l43)]
                                  (fun cs97 => fun h98 => 
                                  ∃ n99 : Int, (cs97 = [V.one (Cell.int IntKind.i64 n99)]) ∧
                                  (newK (.cells false [Cell.int IntKind.i64 n93, Cell.int IntKind.i64 n96, Cell.int IntKind.i64 n99]) (fun i100 => fun h101 =>
                                  I 61 [V.one (Cell.slice 1 { a := some (i100, 0), len := 3 })]
                                    (fun cs102 => fun h103 => 
                                    ∃ n104 : Int, (cs102 = [V.one (Cell.int IntKind.i64 n104)]) ∧
                                    (ifT (decide (n104 < 0))
                                      (fun h105 =>
                                      x42 ((l52, (l87, n88, l89, n90, ()), IntKind.i64.wrap (n49 + 1))) h105)
                                      (x42 ((l43, (l44, n45, l46, n47, ()), IntKind.i64.wrap (n49 + 1))))) h103) h101)) h98) h95) h92) h86) h84)) h82) h80)))
                  (fun h106 =>
                  Q [V.one (Cell.slice 1 l43), V.agg [Cell.slice 1 l44, Cell.int IntKind.i64 n45, Cell.slice 2 l46, Cell.int IntKind.i64 n47], V.one (Cell.int IntKind.i64 0)] h106)) h50))) h37) h35))))) h6) h4
theorem den21 (I : FuncId → List V → Post → T) (l0 : Sl) (l1 : Sl) (n2 : Int) (n3 : Int) (Q : Post) : denF Go.Proofs.Tryz.prog 1069200 (⟨[], [(122, 70366596701184, [(10, tk Go.Proofs.Tryz.prog 22), (31, tk Go.Proofs.Tryz.prog 3)]), (2042, 162259276829213358887978385006592, [(13, tk Go.Proofs.Tryz.prog 22), (14, tvar Go.Proofs.Tryz.prog 42), (15, tk Go.Proofs.Tryz.prog 3)]), (1045658, 9671404251074024184938496, [(16, tk Go.Proofs.Tryz.prog 22), (17, tk Go.Proofs.Tryz.prog 26), (61, tk Go.Proofs.Tryz.prog 3)])]⟩) I 21 [V.one (Cell.slice 12 l0), V.agg [Cell.slice 4 l1, Cell.int IntKind.i64 n2], V.one (Cell.int IntKind.i64 n3)] Q = vc21 I l0 l1 n2 n3 Q := by kernel_rfl
/-- slices.Compare[[]int,int] -/
def vc68 (I : FuncId → List V → Post → T) (l0 : Sl) (l1 : Sl) (Q : Post) : T :=
  loopK (A := Int) 0
    (fun x2 => fun n3 => ifT (decide (n3 < (↑l0.len : Int)))
      (fun h4 =>
      ((0 ≤ n3) ∧
      n3 < (↑l0.len : Int)) ∧
      (derefK l0.a (fun i5 => fun i6 => fun h7 =>
      ∃ n8 : Int, (h7.read i5 (i6 + n3.toNat * 1) 1 = some [Cell.int IntKind.i64 n8]) ∧
      (ifT (decide (n3 ≥ (↑l1.len : Int)))
        (Q [V.one (Cell.int IntKind.i64 1)])
        (fun h9 =>
        ((0 ≤ n3) ∧
        n3 < (↑l1.len : Int)) ∧
        (derefK l1.a (fun i10 => fun i11 => fun h12 =>
        ∃ n13 : Int, (h12.read i10 (i11 + n3.toNat * 1) 1 = some [Cell.int IntKind.i64 n13]) ∧
        I 62 [V.one (Cell.int IntKind.i64 n8), V.one (Cell.int IntKind.i64 n13)]
          (fun cs14 => fun h15 => 
          ∃ n16 : Int, (cs14 = [V.one (Cell.int IntKind.i64 n16)]) ∧
          (ifT (!decide (n16 = 0))
            (Q [V.one (Cell.int IntKind.i64 n16)])
            (x2 (IntKind.i64.wrap (n3 + 1)))) h15) h12)) h9)) h7)) h4)
      (ifT (decide ((↑l0.len : Int) < (↑l1.len : Int)))
        (Q [V.one (Cell.int IntKind.i64 (-1))])
        (Q [V.one (Cell.int IntKind.i64 0)])))
theorem den68 (I : FuncId → List V → Post → T) (l0 : Sl) (l1 : Sl) (Q : Post) : denF Go.Proofs.Tryz.prog 0 (⟨[], [(26, 2147482096, [(11, tk Go.Proofs.Tryz.prog 3)])]⟩) I 68 [V.one (Cell.slice 1 l0), V.one (Cell.slice 1 l1)] Q = vc68 I l0 l1 Q := by kernel_rfl
/-- handbill/handref1.BestOf -/
def vc22 (I : FuncId → List V → Post → T) (l0 : Sl) (l1 : Sl) (n2 : Int) (n3 : Int) (Q : Post) : T :=
  fun h4 =>
  I 55 [V.one (Cell.slice 12 l0)]
    (fun cs5 => fun h6 => 
    ∃ n7 : Int, (cs5 = [V.one (Cell.int IntKind.i64 n7)]) ∧
    I 56 [V.agg [Cell.slice 4 l1, Cell.int IntKind.i64 n2]]
      (fun cs8 => fun h9 => 
      ∃ n10 : Int, (cs8 = [V.one (Cell.int IntKind.i64 n10)]) ∧
      (newK (.cells false [Cell.int IntKind.i64 n7, Cell.int IntKind.i64 n10]) (fun i11 => fun h12 =>
      I 54 [V.one (Cell.slice 1 { a := some (i11, 0), len := 2 })]
        (fun cs13 => fun h14 => 
        ∃ n15 : Int, (cs13 = [V.one (Cell.int IntKind.i64 n15)]) ∧
        (ifT (!decide (n15 = 0))
          (fun h16 =>
          Q [V.one (Cell.slice 1 { a := none, len := 0 }), V.agg [Cell.slice 1 { a := none, len := 0 }, Cell.int IntKind.i64 0, Cell.slice 2 { a := none, len := 0 }, Cell.int IntKind.i64 0], V.one (Cell.int IntKind.i64 n15)] h16)
          (fun h17 =>
          I 14 [V.one (Cell.int IntKind.i64 n3)]
            (fun cs18 => fun h19 => 
            ∃ b20 : Bool, (cs18 = [V.one (Cell.bool b20)]) ∧
            (ifT (!b20)
              (fun h21 =>
              Q [V.one (Cell.slice 1 { a := none, len := 0 }), V.agg [Cell.slice 1 { a := none, len := 0 }, Cell.int IntKind.i64 0, Cell.slice 2 { a := none, len := 0 }, Cell.int IntKind.i64 0], V.one (Cell.int IntKind.i64 1)] h21)
              (loopK (A := Sl × Int) (({ a := none, len := 0 }, 0))
                (fun x22 => uncur fun l23 n24 => ifT (decide (n24 < (↑l0.len : Int)))
                  (fun h25 =>
                  ((0 ≤ n24) ∧
                  n24 < (↑l0.len : Int)) ∧
                  (derefK l0.a (fun i26 => fun i27 => fun h28 =>
                  ∃ s29 : ByteArray, ∃ n30 : Int, ∃ n31 : Int, ∃ n32 : Int, ∃ l33 : Sl, ∃ n34 : Int, ∃ n35 : Int, ∃ s36 : ByteArray, ∃ b37 : Bool, ∃ n38 : Int, ∃ n39 : Int, ∃ n40 : Int, (h28.read i26 (i27 + n24.toNat * 12) 12 = some [Cell.str s29, Cell.int IntKind.i64 n30, Cell.int IntKind.i64 n31, Cell.int IntKind.i64 n32, Cell.slice 1 l33, Cell.int IntKind.i64 n34, Cell.int IntKind.i64 n35, Cell.str s36, Cell.bool b37, Cell.int IntKind.i64 n38, Cell.int IntKind.i64 n39, Cell.int IntKind.i64 n40]) ∧
                  I 15 [V.agg [Cell.str s29, Cell.int IntKind.i64 n30, Cell.int IntKind.i64 n31, Cell.int IntKind.i64 n32, Cell.slice 1 l33, Cell.int IntKind.i64 n34, Cell.int IntKind.i64 n35, Cell.str s36, Cell.bool b37, Cell.int IntKind.i64 n38, Cell.int IntKind.i64 n39, Cell.int IntKind.i64 n40], V.agg [Cell.slice 4 l1, Cell.int IntKind.i64 n2], V.one (Cell.int IntKind.i64 n3)]
                    (fun cs41 => fun h42 => 
                    ∃ n43 : Int, (cs41 = [V.one (Cell.int IntKind.i64 n43)]) ∧
                    (ifT (decide (n43 = 0))
                      (fun h44 =>
                      (appendTo [] 1 8 l23 1 [Cell.int IntKind.i64 n24] (fun l45 => fun h46 => 
                      x22 ((l45, IntKind.i64.wrap (n24 + 1))) h46)) h44)
                      (x22 ((l23, IntKind.i64.wrap (n24 + 1))))) h42) h28)) h25)
                  (ifT (decide ((↑l23.len : Int) > 10))
                    (fun h47 =>
                    Q [V.one (Cell.slice 1 { a := none, len := 0 }), V.agg [Cell.slice 1 { a := none, len := 0 }, Cell.int IntKind.i64 0, Cell.slice 2 { a := none, len := 0 }, Cell.int IntKind.i64 0], V.one (Cell.int IntKind.i64 2)] h47)
                    (fun h48 =>
                    (0 ≤ (↑l23.len : Int)) ∧
                    (loopK (A := Sl × (Sl × Int × Sl × Int × PUnit) × Int) (({ a := none, len := 0 }, ({ a := none, len := 0 }, 0, { a := none, len := 0 }, 0, ()), 0))
                      (fun x49 => uncur fun l50 => uncur (uncur fun l51 => uncur fun n52 => uncur fun l53 => uncur fun n54 x55 => fun n56 => ifT (decide (n56 < shl IntKind.i64 1 (↑l23.len : Int)))
                        (loopK (A := Sl × Sl × Int) (({ a := none, len := 0 }, { a := none, len := 0 }, 0))
                          (fun x57 => uncur fun l58 => uncur fun l59 n60 => ifT (decide (n60 < (↑l23.len : Int)))
                            (fun h61 =>
                            ((0 ≤ n60) ∧
                            n60 < (↑l23.len : Int)) ∧
                            (derefK l23.a (fun i62 => fun i63 => fun h64 =>
                            ∃ n65 : Int, (h64.read i62 (i63 + n60.toNat * 1) 1 = some [Cell.int IntKind.i64 n65]) ∧
                            (0 ≤ n60) ∧
                            (ifT (decide (IntKind.i64.wrap (↑(BitVec.ofInt 64 (shr IntKind.i64 n56 n60) &&& BitVec.ofInt 64 1).toNat : Int) = 1))
                              (fun h66 =>
                              ((0 ≤ n65) ∧
                              n65 < (↑l0.len : Int)) ∧
                              (derefK l0.a (fun i67 => fun i68 => fun h69 =>
                              ∃ s70 : ByteArray, ∃ n71 : Int, ∃ n72 : Int, ∃ n73 : Int, ∃ l74 : Sl, ∃ n75 : Int, ∃ n76 : Int, ∃ s77 : ByteArray, ∃ b78 : Bool, ∃ n79 : Int, ∃ n80 : Int, ∃ n81 : Int, (h69.read i67 (i68 + n65.toNat * 12) 12 = some [Cell.str s70, Cell.int IntKind.i64 n71, Cell.int IntKind.i64 n72, Cell.int IntKind.i64 n73, Cell.slice 1 l74, Cell.int IntKind.i64 n75, Cell.int IntKind.i64 n76, Cell.str s77, Cell.bool b78, Cell.int IntKind.i64 n79, Cell.int IntKind.i64 n80, Cell.int IntKind.i64 n81]) ∧
                              (appendTo [i67] 1 8 l58 1 [Cell.int IntKind.i64 n65] (fun l82 => fun h83 => 
                              (appendTo [] 12 128 l59 1 [Cell.str s70, Cell.int IntKind.i64 n71, Cell.int IntKind.i64 n72, Cell.int IntKind.i64 n73, Cell.slice 1 l74, Cell.int IntKind.i64 n75, Cell.int IntKind.i64 n76, Cell.str s77, Cell.bool b78, Cell.int IntKind.i64 n79, Cell.int IntKind.i64 n80, Cell.int IntKind.i64 n81] (fun l84 => fun h85 => 
                              x57 ((l82, l84, IntKind.i64.wrap (n60 + 1))) h85)) h83)) h69)) h66)
                              (x57 ((l58, l59, IntKind.i64.wrap (n60 + 1))))) h64)) h61)
                            (fun h86 =>
                            I 17 [V.one (Cell.slice 12 l59), V.agg [Cell.slice 4 l1, Cell.int IntKind.i64 n2], V.one (Cell.int IntKind.i64 n3)]
                              (fun cs87 => fun h88 => 
                              ∃ l89 : Sl, ∃ n90 : Int, ∃ l91 : Sl, ∃ n92 : Int, ∃ n93 : Int, (cs87 = [V.agg [Cell.slice 1 l89, Cell.int IntKind.i64 n90, Cell.slice 2 l91, Cell.int IntKind.i64 n92], V.one (Cell.int IntKind.i64 n93)]) ∧
                              (ifT (!decide (n93 = 0))
                                (x49 ((l50, (l51, n52, l53, n54, ()), IntKind.i64.wrap (n56 + 1))))
                                (ifT (decide (n56 = 0))
                                  (fun h94 =>
                                  x49 ((l58, (l89, n90, l91, n92, ()), IntKind.i64.wrap (n56 + 1))) h94)
                                  (fun h95 =>
                                  I 62 [V.one (Cell.int IntKind.i64 n92), V.one (Cell.int IntKind.i64 n54)]
                                    (fun cs96 => fun h97 => 
                                    ∃ n98 : Int, (cs96 = [V.one (Cell.int IntKind.i64 n98)]) ∧
                                    I 62 [V.one (Cell.int IntKind.i64 (↑l58.len : Int)), V.one (Cell.int IntKind.i64 (↑l50.len : Int))]
                                      (fun cs99 => fun h100 => 
                                      ∃ n101 : Int, (cs99 = [V.one (Cell.int IntKind.i64 n101)]) ∧
                                      I 68 [V.one (Cell.slice 1 l58), V.one (Cell.slice 1 l50)]
                                        (fun cs102 => fun h103 => 
                                        ∃ n104 : Int, (cs102 = [V.one (Cell.int IntKind.i64 n104)]) ∧
                                        (newK (.cells false [Cell.int IntKind.i64 n98, Cell.int IntKind.i64 n101, Cell.int IntKind.i64 n104]) (fun i105 => fun h106 =>
                                        I 61 [V.one (Cell.slice 1 { a := some (i105, 0), len := 3 })]
                                          (fun cs107 => fun h108 => 
                                          ∃ n109 : Int, (cs107 = [V.one (Cell.int IntKind.i64 n109)]) ∧
                                          (ifT (decide (n109 < 0))
                                            (fun h110 =>
                                            x49 ((l58, (l89, n90, l91, n92, ()), IntKind.i64.wrap (n56 + 1))) h110)
                                            (x49 ((l50, (l51, n52, l53, n54, ()), IntKind.i64.wrap (n56 + 1))))) h108) h106)) h103) h100) h97) h95))) h88) h86)))
                        (fun h111 =>
                        Q [V.one (Cell.slice 1 l50), V.agg [Cell.slice 1 l51, Cell.int IntKind.i64 n52, Cell.slice 2 l53, Cell.int IntKind.i64 n54], V.one (Cell.int IntKind.i64 0)] h111)))) h48))))) h19) h17)) h14) h12)) h9) h6) h4
theorem den22 (I : FuncId → List V → Post → T) (l0 : Sl) (l1 : Sl) (n2 : Int) (n3 : Int) (Q : Post) : denF Go.Proofs.Tryz.prog 1069200 (⟨[], [(250, 9006924376841216, [(10, tk Go.Proofs.Tryz.prog 22), (38, tk Go.Proofs.Tryz.prog 3)]), (4090, 664613997892457935298982025537511424, [(13, tk Go.Proofs.Tryz.prog 22), (14, tvar Go.Proofs.Tryz.prog 42), (60, tk Go.Proofs.Tryz.prog 3)]), (8377146, 154742468017184386944270336, [(16, tk Go.Proofs.Tryz.prog 22), (17, tk Go.Proofs.Tryz.prog 26), (65, tk Go.Proofs.Tryz.prog 3)])]⟩) I 22 [V.one (Cell.slice 12 l0), V.agg [Cell.slice 4 l1, Cell.int IntKind.i64 n2], V.one (Cell.int IntKind.i64 n3)] Q = vc22 I l0 l1 n2 n3 Q := by kernel_rfl
end Go.Proofs.YtfemminjhecocaaGreatDoorVc
-- BcLaw
-- BcSpec
namespace Go.Proofs.YtfemminjhecocaaGreatDoorVc
open Go.Proofs.Tryz (prog)
open Go.Proofs.YtfemminjhecocaaGreatDoorShares
/-- The order of rows of numbers. -/
def lexL : List Nat → List Nat → Bool
  | _, [] => false
  | [], _ :: _ => true
  | a :: l, b :: m => decide (a < b) || (decide (a = b) && lexL l m)
/-- Is a choice better: its price, its number, its order? -/
def ltC (xs : List Itm) (os : List Offr) (ship : Nat) (O B : List Nat) : Bool :=
  decide ((keyT xs os ship O).1 < (keyT xs os ship B).1) || (decide ((keyT xs os ship O).1 = (keyT xs os ship B).1) && (decide (O.length < B.length) || (decide (O.length = B.length) && lexL O B)))
theorem ltC_iff {xs : List Itm} {os : List Offr} {ship : Nat} {O B : List Nat} {c1 c2 c3 : Int} (h1 : c1 < 0 ↔ ((keyT xs os ship O).1 : Int) < ((keyT xs os ship B).1 : Int)) (h2 : c1 = 0 ↔ ((keyT xs os ship O).1 : Int) = ((keyT xs os ship B).1 : Int))
    (h3 : c2 < 0 ↔ (O.length : Int) < (B.length : Int)) (h4 : c2 = 0 ↔ (O.length : Int) = (B.length : Int)) (h5 : c3 < 0 ↔ lexL O B = true) : fnz [c1, c2, c3] < 0 ↔ ltC xs os ship O B = true := by
  unfold ltC
  simp only [fnz, Bool.or_eq_true, Bool.and_eq_true, decide_eq_true_eq]
  dsimp only [keyT] at *
  generalize totF xs (pickO os O) ship = p at *
  generalize totF xs (pickO os B) ship = q at *
  rw [← h5]
  by_cases e1 : c1 = 0 <;> by_cases e2 : c2 = 0 <;> by_cases e3 : c3 = 0 <;> simp only [e1, e2, e3, ne_eq, not_true_eq_false, not_false_eq_true, if_true, if_false] <;> constructor <;> intro h <;> omega
/-- The best of the first choices. -/
def bestF (xs : List Itm) (os : List Offr) (ship : Nat) (U : List Nat) : Nat → List Nat
  | 0 => []
  | M + 1 => if togP (pickO os (sel M U)).length [] (pickO os (sel M U)) = true ∧ ltC xs os ship (sel M U) (bestF xs os ship U M) = true then sel M U else bestF xs os ship U M
theorem bestF_sub (xs : List Itm) (os : List Offr) (ship : Nat) (U : List Nat) : ∀ M, (bestF xs os ship U M).Sublist U
  | 0 => List.nil_sublist _
  | M + 1 => by
    unfold bestF
    split
    · exact sel_sub M U
    · exact bestF_sub xs os ship U M
theorem bestF_one (xs : List Itm) (os : List Offr) (ship : Nat) (U : List Nat) : bestF xs os ship U 1 = [] := by
  unfold bestF
  rw [sel_zero]
  split <;> rfl
/-- Those that can be used. -/
abbrev usable (os : List Offr) (xs : List Itm) (ship : Nat) (t : Int) : List Nat := (List.range os.length).filter (fitB os xs ship t)
def errBest (os : List Offr) (xs : List Itm) (ship t : Int) : Int := if errA os xs ship t ≠ 0 then errA os xs ship t else if 10 < (usable os xs ship.toNat t).length then 2 else 0
section
variable {I : Calls} {Q : Post} {h : Heap} {l1 : Sl} {xs : List Itm}
theorem spec68 (hI : Closed' prog Pm I) {s t : Sl} {a b : List Nat} (hs : At h 1 s (nats a)) (ht : At h 1 t (nats b)) (hlen : a.length < 1000) (hQ : ∀ n, (n < 0 ↔ lexL a b = true) → Q [int n] h) : I 68 [.one (.slice 1 s), .one (.slice 1 t)] Q h := by
  have hl : s.len = a.length := by rw [hs.len1, nats_length]
  have hl2 : t.len = b.length := by rw [ht.len1, nats_length]
  refine hI.go _ _ (den68 I s t Q) ?_
  refine loopK_intro (fun (n : Int) h' m => h' = h ∧ ∃ i : Nat, i ≤ a.length ∧ n = (i : Int) ∧ m = a.length - i ∧ lexL (a.drop i) (b.drop i) = lexL a b) a.length ⟨rfl, 0, by omega, rfl, rfl, rfl⟩ ?_
  rintro n h' m ⟨rfl, i, hi, rfl, rfl, hd⟩
  refine ifT_dec (fun hlt => ⟨⟨by omega, hlt⟩, ?_⟩) fun hge => ?_
  · have hia : i < a.length := by omega
    have hx := List.getElem?_eq_getElem hia
    have hdx := List.drop_eq_getElem_cons hia
    generalize a[i] = x at hx hdx
    refine hs.cell (nats_get hx) fun bb o hr => ⟨_, hr, ifT_dec (fun h1 => hQ _ ?_) fun h1 => ⟨⟨by omega, by omega⟩, ?_⟩⟩
    · rw [← hd, hdx, List.drop_of_length_le (show b.length ≤ i by omega)]
      simp [lexL]
    · have hib : i < b.length := by omega
      have hy := List.getElem?_eq_getElem hib
      have hdy := List.drop_eq_getElem_cons hib
      generalize b[i] = y at hy hdy
      rw [hdx, hdy] at hd
      simp only [lexL] at hd
      refine ht.cell (nats_get hy) fun bb o hr => ⟨_, hr, spec62 hI fun c h2 h3 => ⟨c, rfl, ifT_intro (fun h4 => hQ _ ?_) fun h4 => ?_⟩⟩
      · have h4 := nd h4
        rw [← hd]
        have : ¬ x = y := fun e => h4 (h3.2 (by omega))
        simp only [this, decide_false, Bool.false_and, Bool.or_false, decide_eq_true_eq]
        omega
      · have h4 := Decidable.of_not_not (nd' h4)
        have : x = y := by have := h3.1 h4; omega
        subst this
        simp only [Nat.lt_irrefl, decide_false, Bool.false_or, decide_true, Bool.true_and] at hd
        exact ⟨a.length - (i + 1), by omega, rfl, i + 1, by omega, by rw [w64 (by omega) (by omega)]; rfl, rfl, hd⟩
  · have hin : i = a.length := by omega
    subst hin
    rw [List.drop_of_length_le (Nat.le_refl _)] at hd
    refine ifT_dec (fun h1 => hQ _ ?_) fun h1 => hQ _ ?_
    · rw [← hd, List.drop_eq_getElem_cons (show a.length < b.length by omega)]
      simp [lexL]
    · rw [← hd, List.drop_of_length_le (show b.length ≤ a.length by omega)]
      simp [lexL]
theorem spec21 (hI : Closed' prog Pm I) {s : Sl} {os : List Offr} {t : Int} {ship : Int} (hs : Offs h s os) (hlen : os.length ≤ 13) (its : Itms h l1 xs) (hfew : xs.length ≤ 4)
    (hbad : ∀ h', Ext h h' → errBest os xs ship t ≠ 0 → Q [.one (.slice 1 ⟨none, 0⟩), .agg [.slice 1 ⟨none, 0⟩, .int .i64 0, .slice 2 ⟨none, 0⟩, .int .i64 0], int (errBest os xs ship t)] h')
    (hQ : ∀ s1 s2 s3 B h', errBest os xs ship t = 0 → Ext h h' → bestF xs os ship.toNat (usable os xs ship.toNat t) (2 ^ (usable os xs ship.toNat t).length) = B → At h' 1 s1 (nats B) → At h' 1 s2 (nats (priceF xs (pickO os B) ship.toNat).1) → At h' 2 s3 (rows cutC (priceF xs (pickO os B) ship.toNat).2.2) →
      Q [.one (.slice 1 s1), .agg [.slice 1 s2, .int .i64 ((priceF xs (pickO os B) ship.toNat).2.1 : Nat), .slice 2 s3, .int .i64 ((totF xs (pickO os B) ship.toNat : Nat) : Int)], int 0] h') : I 21 [.one (.slice 12 s), .agg [.slice 4 l1, .int .i64 ship], int t] Q h := by
  have hol := hs.len
  refine hI.go _ _ (den21 I s l1 ship t Q) ?_
  refine spec48 hI hs its fun h1 e1 => ⟨_, rfl, ifT_intro (fun hA => ?_) fun hA => ?_⟩
  · have hA := nd hA
    have e : errBest os xs ship t = errA os xs ship t := by unfold errBest; rw [if_pos hA]
    have := hbad h1 e1 (by rw [e]; exact hA)
    rw [e] at this; exact this
  have hA : errA os xs ship t = 0 := Decidable.of_not_not (nd' hA)
  obtain ⟨hA1, hA2, hA3⟩ := errA_ok hA
  obtain ⟨hO1, hO2⟩ := errO_ok hA1
  obtain ⟨hK1, hK2, hK3, hK4⟩ := errK_ok hA2
  have hL : OkL xs := ⟨hK2, hfew, errK_tags hA2⟩
  have htags : ∀ o ∈ os, o.tags.length < 1000 := errO_tags hA1
  have hdis := errO_distinct hA1
  have heB : errBest os xs ship t = if 10 < (usable os xs ship.toNat t).length then 2 else 0 := by unfold errBest; rw [if_neg (by rw [hA]; simp)]
  obtain ⟨sh, hsh⟩ := Int.eq_ofNat_of_zero_le hK3
  subst hsh
  rw [Int.toNat_natCast] at hQ heB
  have hs1 := e1.offs hs
  have its1 := e1.itms its
  -- which can be used
  refine loopK_intro (fun (a : Sl × Int) h' m => ∃ k : Nat, k ≤ os.length ∧ a.2 = (k : Int) ∧ m = os.length - k ∧ Owns h1 h' [(1, a.1, nats ((List.range k).filter (fitB os xs sh t)))]) os.length ⟨0, by omega, rfl, rfl, (Owns.nil h1).none_ 1⟩ ?_
  rintro ⟨lu, y⟩ h2 m ⟨k, hk, rfl, rfl, o2⟩
  dsimp only [uncur] at o2 ⊢
  have hlu : lu.len = ((List.range k).filter (fitB os xs sh t)).length := by
    have := o2.slen List.mem_cons_self
    rw [nats_length] at this; exact this
  have hfl := List.length_filter_le (fitB os xs sh t) (List.range k)
  rw [List.length_range] at hfl
  refine ifT_dec (fun hlt => ⟨⟨by omega, hlt⟩, ?_⟩) fun hge => ?_
  · have hkl : k < os.length := by omega
    have hx := List.getElem?_eq_getElem hkl
    generalize os[k] = o at hx
    have hom := List.mem_of_getElem? hx
    have hfk : fitB os xs sh t k = decide (fitsF o xs sh t = 0) := by unfold fitB; rw [hx]
    refine (o2.ext.offs hs1).at_.row offC_length (by decide) hx fun b of hr => ⟨o.key, o.kind, o.a, o.b, o.tg, o.least, o.most, o.group, o.alone, o.order, o.from_, o.to_, hr, ?_⟩
    refine spec52 hI (o := o) (hO2 o hom) (o2.ext.at_ (hs1.tg o hom)) (htags o hom) (o2.ext.itms its1) hK2 hK1 hL.tg fun h3 e3 => ⟨_, rfl, ifT_dec (fun hf => ?_) fun hf => ?_⟩
    · refine appendTo_owns (m := 0) (o2.mono e3) rfl (by omega) (by simp) fun j h4 o4 => ⟨os.length - (k + 1), by omega, k + 1, by omega, by show IntKind.i64.wrap _ = _; rw [w64 (by omega) (by omega)]; rfl, rfl, ?_⟩
      have e : (List.range (k + 1)).filter (fitB os xs sh t) = (List.range k).filter (fitB os xs sh t) ++ [k] := by
        rw [List.range_succ, List.filter_append]; simp [hfk, hf]
      rw [e]
      have e2 : nats ((List.range k).filter (fitB os xs sh t) ++ [k]) = nats ((List.range k).filter (fitB os xs sh t)) ++ [.int .i64 (k : Int)] := by simp [nats]
      rw [e2]; exact o4
    · have e : (List.range (k + 1)).filter (fitB os xs sh t) = (List.range k).filter (fitB os xs sh t) := by
        rw [List.range_succ, List.filter_append]; simp [hfk, hf]
      exact ⟨os.length - (k + 1), by omega, k + 1, by omega, by show IntKind.i64.wrap _ = _; rw [w64 (by omega) (by omega)]; rfl, rfl, by rw [e]; exact o2.mono e3⟩
  have hkn : k = os.length := by omega
  subst hkn
  obtain ⟨U, hU⟩ : ∃ U, (List.range os.length).filter (fitB os xs sh t) = U := ⟨_, rfl⟩
  have hU2 : usable os xs sh t = U := hU
  rw [hU] at o2 hlu hfl
  rw [hU2] at heB hQ
  have hUs : U.Sublist (List.range os.length) := hU ▸ List.filter_sublist
  have hUl : ∀ i ∈ U, i < os.length := fun i hi => List.mem_range.1 (hUs.subset hi)
  have e2 := e1.trans o2.ext
  refine ifT_dec (fun h9 => ?_) fun h9 => ?_
  · have e : errBest os xs sh t = 2 := by rw [heB, if_pos (by omega)]
    have := hbad h2 e2 (by rw [e]; decide)
    rw [e] at this; exact this
  have hUn : U.length ≤ 10 := by omega
  have heB : errBest os xs sh t = 0 := by rw [heB, if_neg (by omega)]
  have au := o2.at_ (sz := 1) (s := lu) (cs := nats U) List.mem_cons_self
  have hs2 := e2.offs hs
  have its2 := e2.itms its
  refine spec53p hI (os := []) ⟨⟨rfl, .inl rfl⟩, by simp⟩ rfl (by decide) .nil (by simp) (by simp) its2 hL (by omega) fun q1 q2 h3 e3 b1 b2 => ⟨_, _, _, _, rfl, ?_⟩
  have hpw := pow_ok U.length (by omega)
  have hp1 := Nat.two_pow_pos U.length
  refine loopK_intro (fun (a : Sl × (Sl × Int × Sl × Int × PUnit) × Int) h' m => ∃ (B : List Nat) (M : Nat), Ext h2 h' ∧ 1 ≤ M ∧ M ≤ 2 ^ U.length ∧ m = 2 ^ U.length - M ∧ a.2.2 = (M : Int) ∧ At h' 1 a.1 (nats B) ∧ At h' 1 a.2.1.1 (nats (priceF xs (pickO os B) sh).1) ∧ At h' 2 a.2.1.2.2.1 (rows cutC (priceF xs (pickO os B) sh).2.2) ∧
      a.2.1.2.1 = (((priceF xs (pickO os B) sh).2.1 : Nat) : Int) ∧ a.2.1.2.2.2.1 = ((totF xs (pickO os B) sh : Nat) : Int) ∧ bestF xs os sh U M = B) (2 ^ U.length - 1)
    ⟨[], 1, e3, Nat.le_refl _, hp1, rfl, rfl, ⟨rfl, .inl rfl⟩, b1, b2, rfl, rfl, bestF_one _ _ _ _⟩ ?_
  rintro ⟨lb, ⟨lp, nsh, lc, ntot, u⟩, y⟩ h4 m ⟨B, M, e4, hM1, hM2, rfl, rfl, ab, ap, ac, rfl, rfl, hB⟩
  dsimp only [uncur] at ab ap ac ⊢
  refine ⟨by omega, ?_⟩
  rw [hlu, shl_ok _ (by omega)]
  refine ifT_dec (fun hlt => ?_) fun hge => ?_
  · have hMlt : M < 2 ^ U.length := by omega
    have e24 := e2.trans e4
    have hs4 := e24.offs hs
    -- the choice that a number tells
    refine loopK_intro (fun (a : Sl × Sl × Int) h' m => ∃ k : Nat, k ≤ U.length ∧ a.2.2 = (k : Int) ∧ m = U.length - k ∧ Owns h4 h' [(1, a.1, nats (sel M (U.take k))), (12, a.2.1, rows offC (pickO os (sel M (U.take k))))]) U.length ⟨0, by omega, rfl, rfl, ((Owns.nil h4).none_ 12).none_ 1⟩ ?_
    rintro ⟨la, lo, y⟩ h5 m5 ⟨k, hk, rfl, rfl, o5⟩
    dsimp only [uncur] at o5 ⊢
    have hselU : ∀ i ∈ sel M (U.take k), i < os.length := fun i hi => hUl i (List.mem_of_mem_take ((sel_sub M _).subset hi))
    have hsl := (sel_sub M (U.take k)).length_le
    rw [List.length_take] at hsl
    have hla : la.len = (sel M (U.take k)).length := by
      have := o5.slen (s := la) (cs := nats (sel M (U.take k))) List.mem_cons_self
      rw [nats_length] at this; exact this
    have hlo : lo.len = (sel M (U.take k)).length := by
      rw [(o5.at_ (List.mem_cons_of_mem _ List.mem_cons_self)).rowsLen offC_length (by decide), pickO_length hselU]
    refine ifT_dec (fun hlt2 => ⟨⟨by omega, by omega⟩, ?_⟩) fun hge2 => ?_
    · have hkl : k < U.length := by omega
      have hx := List.getElem?_eq_getElem hkl
      have hjl := hUl _ (List.getElem_mem hkl)
      generalize U[k] = j at hx hjl
      have hj := List.getElem?_eq_getElem hjl
      generalize os[j] = o at hj
      have hst := sel_step M k U hx
      refine ((e4.trans o5.ext).at_ au).cell (nats_get hx) fun b of hr => ⟨_, hr, by omega, ?_⟩
      have hsr : shr .i64 (M : Int) (k : Int) = ((M / 2 ^ k : Nat) : Int) := shr_nat M k .i64 rfl (by omega)
      have hdl := Nat.div_le_self M (2 ^ k)
      rw [hsr, bit_and _ (by omega)]
      refine ifT_dec (fun hbit => ⟨⟨by omega, by omega⟩, ?_⟩) fun hbit => ?_
      · have hbit : M / 2 ^ k % 2 = 1 := by
          generalize M / 2 ^ k = q at hbit; omega
        rw [if_pos hbit] at hst
        refine (o5.ext.offs hs4).at_.rowB offC_length (by decide) hj fun b of ha hr => ⟨o.key, o.kind, o.a, o.b, o.tg, o.least, o.most, o.group, o.alone, o.order, o.from_, o.to_, hr, ?_⟩
        have hb4 : h4 b ≠ none := hs4.at_.blk (by rw [rows_length offC_length]; omega) ha
        refine appendTo_owns (m := 0) o5 rfl (by omega) (fun i hi => .inl (by rw [List.mem_singleton.1 hi]; exact hb4)) fun j6 h6 o6 => ?_
        refine appendTo_owns (m := 0) (o6.perm (List.Perm.swap _ _ _)) rfl (by omega) (by simp) fun j7 h7 o7 => ⟨U.length - (k + 1), by omega, k + 1, by omega, by show IntKind.i64.wrap _ = _; rw [w64 (by omega) (by omega)]; rfl, rfl, ?_⟩
        have e8 : nats (sel M (U.take k) ++ [j]) = nats (sel M (U.take k)) ++ [.int .i64 (j : Int)] := by simp [nats]
        have e9 : rows offC [o] = offC o := by simp [rows]
        rw [hst, pickO_snoc hj, e8, rows_append, e9]
        exact o7.perm (List.Perm.swap _ _ _)
      · have hbit : ¬ M / 2 ^ k % 2 = 1 := by
          generalize M / 2 ^ k = q at hbit; omega
        rw [if_neg hbit, List.append_nil] at hst
        exact ⟨U.length - (k + 1), by omega, k + 1, by omega, by show IntKind.i64.wrap _ = _; rw [w64 (by omega) (by omega)]; rfl, rfl, by rw [hst]; exact o5⟩
    · have hk2 : k = U.length := by omega
      subst hk2
      rw [List.take_length] at o5 hla hlo hselU
      have hstep : bestF xs os sh U (M + 1) = if togP (pickO os (sel M U)).length [] (pickO os (sel M U)) = true ∧ ltC xs os sh (sel M U) B = true then sel M U else B := by rw [← hB]; rfl
      obtain ⟨O, hO⟩ : ∃ O, sel M U = O := ⟨_, rfl⟩
      rw [hO] at o5 hla hlo hselU hstep
      have hOU : O.Sublist U := hO ▸ sel_sub M U
      have hOos := pickO_sub (hOU.trans hUs)
      have aO := o5.at_ (sz := 1) (s := la) (cs := nats O) List.mem_cons_self
      have of5 : Offs h5 lo (pickO os O) := ⟨o5.at_ (List.mem_cons_of_mem _ List.mem_cons_self), fun x hx => (e24.trans o5.ext).at_ (hs.tg x (hOos.subset hx))⟩
      have osl := o5.slg (sz := 12) (s := lo) (cs := rows offC (pickO os O)) (List.mem_cons_of_mem _ List.mem_cons_self)
      have hpl := pickO_length hselU
      have hOl := hOU.length_le
      have ew : IntKind.i64.wrap ((M : Int) + 1) = ((M + 1 : Nat) : Int) := by rw [w64] <;> omega
      rw [ew]
      refine spec49 hI of5 (by omega) fun h6 e6 => ⟨_, rfl, ifT_intro (fun hT => ?_) fun hT => ?_⟩
      · have hT := nb hT
        have e46 := o5.ext.trans e6
        exact ⟨2 ^ U.length - (M + 1), by omega, B, M + 1, e4.trans e46, by omega, by omega, rfl, rfl, e46.at_ ab, e46.at_ ap, e46.at_ ac, rfl, rfl, by rw [hstep, if_neg (by rw [hT]; simp)]⟩
      · have hT := nb' hT
        refine spec53p hI (e6.offs of5) (e6.sl osl) (by omega) (hdis.sublist hOos) (fun o ho => hO2 o (hOos.subset ho)) (fun o ho => htags o (hOos.subset ho)) (((e24.trans o5.ext).trans e6).itms its) hL (by omega) fun r1 r2 h7 e7 c1 c2 => ⟨_, _, _, _, rfl, ?_⟩
        have e57 := e6.trans e7
        have e47 := o5.ext.trans e57
        refine spec62 hI fun d1 f1 f2 => ⟨d1, rfl, ?_⟩
        refine spec62 hI fun d2 f3 f4 => ⟨d2, rfl, ?_⟩
        refine spec68 hI (e57.at_ aO) (e47.at_ ab) (by omega) fun d3 f5 => ⟨d3, rfl, newK_intro fun i8 h8 hn8 he8 => ?_⟩
        have e8 : Ext h7 h8 := he8 ▸ Ext.new hn8
        have e48 := e47.trans e8
        have hlb : lb.len = B.length := by rw [ab.len1, nats_length]
        rw [hla, hlb] at f3 f4
        have hsg := ltC_iff (xs := xs) (os := os) (ship := sh) (O := O) (B := B) (c3 := d3) f1 f2 f3 f4 f5
        refine spec61n hI (l := [d1, d2, d3]) (s := ⟨some (i8, 0), 3⟩) ⟨rfl, .inr ?_⟩ (by show 3 < 1000; decide) ⟨_, rfl, ifT_dec (fun hneg => ?_) fun hneg => ?_⟩
        · show h8.read i8 0 3 = _
          rw [read_block (ro := false) (cs := ints [d1, d2, d3]) (by rw [he8, set_eq]; rfl) (by simp [ints])]
          rfl
        · exact ⟨2 ^ U.length - (M + 1), by omega, O, M + 1, e4.trans e48, by omega, by omega, rfl, rfl, (e57.trans e8).at_ aO, e8.at_ c1, e8.at_ c2, rfl, rfl, by rw [hstep, if_pos ⟨hT, hsg.1 hneg⟩]⟩
        · exact ⟨2 ^ U.length - (M + 1), by omega, B, M + 1, e4.trans e48, by omega, by omega, rfl, rfl, e48.at_ ab, e48.at_ ap, e48.at_ ac, rfl, rfl, by rw [hstep, if_neg (fun h => hneg (hsg.2 h.2))]⟩
  · have hMe : M = 2 ^ U.length := by omega
    exact hQ lb lp lc B h4 heB (e2.trans e4) (by rw [← hMe]; exact hB) ab ap ac
end
end Go.Proofs.YtfemminjhecocaaGreatDoorVc
-- BcLaw
namespace Go.Proofs.YtfemminjhecocaaGreatDoorVc
open Go.Proofs.Tryz (prog)
open Go.Proofs.YtfemminjhecocaaGreatDoorShares
section
variable {I : Calls} {Q : Post} {h : Heap} {l1 : Sl} {xs : List Itm}
theorem spec22 (hI : Closed' prog Pm I) {s : Sl} {os : List Offr} {t : Int} {ship : Int} (hs : Offs h s os) (hlen : os.length ≤ 13) (its : Itms h l1 xs) (hfew : xs.length ≤ 4)
    (hbad : ∀ h', Ext h h' → errBest os xs ship t ≠ 0 → Q [.one (.slice 1 ⟨none, 0⟩), .agg [.slice 1 ⟨none, 0⟩, .int .i64 0, .slice 2 ⟨none, 0⟩, .int .i64 0], int (errBest os xs ship t)] h')
    (hQ : ∀ s1 s2 s3 B h', errBest os xs ship t = 0 → Ext h h' → bestF xs os ship.toNat (usable os xs ship.toNat t) (2 ^ (usable os xs ship.toNat t).length) = B → At h' 1 s1 (nats B) → At h' 1 s2 (nats (priceF xs (pickO os B) ship.toNat).1) → At h' 2 s3 (rows cutC (priceF xs (pickO os B) ship.toNat).2.2) →
      Q [.one (.slice 1 s1), .agg [.slice 1 s2, .int .i64 ((priceF xs (pickO os B) ship.toNat).2.1 : Nat), .slice 2 s3, .int .i64 ((totF xs (pickO os B) ship.toNat : Nat) : Int)], int 0] h') : I 22 [.one (.slice 12 s), .agg [.slice 4 l1, .int .i64 ship], int t] Q h := by
  have hol := hs.len
  refine hI.go _ _ (den22 I s l1 ship t Q) ?_
  refine spec55 hI hs fun h1 e1 => ⟨_, rfl, ?_⟩
  refine spec56 hI (e1.itms its) fun h2 e2 => ⟨_, rfl, newK_intro fun i11 h3 hn3 he3 => ?_⟩
  have e3 : Ext h h3 := (e1.trans e2).trans (he3 ▸ Ext.new hn3)
  clear e1 e2
  refine spec54 hI (s := ⟨some (i11, 0), 2⟩) (a := errO os) (b := errK xs ship) ⟨rfl, .inr ?_⟩ ⟨_, rfl, ifT_intro (fun hb => ?_) fun hb => ?_⟩
  · show h3.read i11 0 2 = _
    rw [read_block (ro := false) (cs := ints [errO os, errK xs ship]) (by rw [he3, set_eq]; rfl) (by simp [ints])]
    rfl
  · have hb := nd hb
    have hA : errA os xs ship t = if errO os = 0 then errK xs ship else errO os := by
      unfold errA
      by_cases h5 : errO os = 0
      · rw [if_pos h5] at hb ⊢; rw [if_neg (by omega), if_pos hb]
      · rw [if_neg h5] at hb ⊢; rw [if_pos h5]
    have e : errBest os xs ship t = if errO os = 0 then errK xs ship else errO os := by
      unfold errBest; rw [if_pos (by rw [hA]; exact hb), hA]
    have := hbad h3 e3 (by rw [e]; exact hb)
    rw [e] at this; exact this
  have hb := nd' hb
  have hO : errO os = 0 := by
    by_cases h5 : errO os = 0
    · exact h5
    · rw [if_neg h5] at hb; exact absurd h5 hb
  have hK : errK xs ship = 0 := by
    rw [if_pos hO] at hb; exact Decidable.of_not_not hb
  refine spec14 hI ⟨_, rfl, ifT_intro (fun hm => ?_) fun hm => ?_⟩
  · have hm : ¬ momentP t := by have := nd hm; exact this
    have hA : errA os xs ship t = 1 := by unfold errA; rw [if_neg (by rw [hO]; simp), if_neg (by rw [hK]; simp), if_pos hm]
    have e : errBest os xs ship t = 1 := by unfold errBest; rw [if_pos (by rw [hA]; decide), hA]
    have := hbad h3 e3 (by rw [e]; decide)
    rw [e] at this; exact this
  have hm : momentP t := by have := nd' hm; exact Decidable.of_not_not this
  have hA : errA os xs ship t = 0 := by unfold errA; rw [if_neg (by rw [hO]; simp), if_neg (by rw [hK]; simp), if_neg (by simpa using hm)]
  clear he3 hn3
  generalize h3 = h1 at e3
  have e1 := e3
  clear e3
  obtain ⟨hA1, hA2, hA3⟩ := errA_ok hA
  obtain ⟨hO1, hO2⟩ := errO_ok hA1
  obtain ⟨hK1, hK2, hK3, hK4⟩ := errK_ok hA2
  have hL : OkL xs := ⟨hK2, hfew, errK_tags hA2⟩
  have htags : ∀ o ∈ os, o.tags.length < 1000 := errO_tags hA1
  have hdis := errO_distinct hA1
  have heB : errBest os xs ship t = if 10 < (usable os xs ship.toNat t).length then 2 else 0 := by unfold errBest; rw [if_neg (by rw [hA]; simp)]
  obtain ⟨sh, hsh⟩ := Int.eq_ofNat_of_zero_le hK3
  subst hsh
  rw [Int.toNat_natCast] at hQ heB
  have hs1 := e1.offs hs
  have its1 := e1.itms its
  -- which can be used
  refine loopK_intro (fun (a : Sl × Int) h' m => ∃ k : Nat, k ≤ os.length ∧ a.2 = (k : Int) ∧ m = os.length - k ∧ Owns h1 h' [(1, a.1, nats ((List.range k).filter (fitB os xs sh t)))]) os.length ⟨0, by omega, rfl, rfl, (Owns.nil h1).none_ 1⟩ ?_
  rintro ⟨lu, y⟩ h2 m ⟨k, hk, rfl, rfl, o2⟩
  dsimp only [uncur] at o2 ⊢
  have hlu : lu.len = ((List.range k).filter (fitB os xs sh t)).length := by
    have := o2.slen List.mem_cons_self
    rw [nats_length] at this; exact this
  have hfl := List.length_filter_le (fitB os xs sh t) (List.range k)
  rw [List.length_range] at hfl
  refine ifT_dec (fun hlt => ⟨⟨by omega, hlt⟩, ?_⟩) fun hge => ?_
  · have hkl : k < os.length := by omega
    have hx := List.getElem?_eq_getElem hkl
    generalize os[k] = o at hx
    have hom := List.mem_of_getElem? hx
    have hfk : fitB os xs sh t k = decide (fitsF o xs sh t = 0) := by unfold fitB; rw [hx]
    refine (o2.ext.offs hs1).at_.row offC_length (by decide) hx fun b of hr => ⟨o.key, o.kind, o.a, o.b, o.tg, o.least, o.most, o.group, o.alone, o.order, o.from_, o.to_, hr, ?_⟩
    refine spec15 hI (o := o) (hO2 o hom) (o2.ext.at_ (hs1.tg o hom)) (htags o hom) (o2.ext.itms its1) hK2 hK1 hL.tg fun h3 e3 => ⟨_, rfl, ifT_dec (fun hf => ?_) fun hf => ?_⟩
    · refine appendTo_owns (m := 0) (o2.mono e3) rfl (by omega) (by simp) fun j h4 o4 => ⟨os.length - (k + 1), by omega, k + 1, by omega, by show IntKind.i64.wrap _ = _; rw [w64 (by omega) (by omega)]; rfl, rfl, ?_⟩
      have e : (List.range (k + 1)).filter (fitB os xs sh t) = (List.range k).filter (fitB os xs sh t) ++ [k] := by
        rw [List.range_succ, List.filter_append]; simp [hfk, hf]
      rw [e]
      have e2 : nats ((List.range k).filter (fitB os xs sh t) ++ [k]) = nats ((List.range k).filter (fitB os xs sh t)) ++ [.int .i64 (k : Int)] := by simp [nats]
      rw [e2]; exact o4
    · have e : (List.range (k + 1)).filter (fitB os xs sh t) = (List.range k).filter (fitB os xs sh t) := by
        rw [List.range_succ, List.filter_append]; simp [hfk, hf]
      exact ⟨os.length - (k + 1), by omega, k + 1, by omega, by show IntKind.i64.wrap _ = _; rw [w64 (by omega) (by omega)]; rfl, rfl, by rw [e]; exact o2.mono e3⟩
  have hkn : k = os.length := by omega
  subst hkn
  obtain ⟨U, hU⟩ : ∃ U, (List.range os.length).filter (fitB os xs sh t) = U := ⟨_, rfl⟩
  have hU2 : usable os xs sh t = U := hU
  rw [hU] at o2 hlu hfl
  rw [hU2] at heB hQ
  have hUs : U.Sublist (List.range os.length) := hU ▸ List.filter_sublist
  have hUf : ∀ i ∈ U, fitB os xs sh t i = true := fun i hi => by rw [← hU] at hi; exact (List.mem_filter.1 hi).2
  have hUl : ∀ i ∈ U, i < os.length := fun i hi => List.mem_range.1 (hUs.subset hi)
  have e2 := e1.trans o2.ext
  refine ifT_dec (fun h9 => ?_) fun h9 => ?_
  · have e : errBest os xs sh t = 2 := by rw [heB, if_pos (by omega)]
    have := hbad h2 e2 (by rw [e]; decide)
    rw [e] at this; exact this
  have hUn : U.length ≤ 10 := by omega
  have heB : errBest os xs sh t = 0 := by rw [heB, if_neg (by omega)]
  have au := o2.at_ (sz := 1) (s := lu) (cs := nats U) List.mem_cons_self
  have hs2 := e2.offs hs
  have its2 := e2.itms its
  have hpw := pow_ok U.length (by omega)
  have hp1 := Nat.two_pow_pos U.length
  refine ⟨by omega, ?_⟩
  refine loopK_intro (fun (a : Sl × (Sl × Int × Sl × Int × PUnit) × Int) h' m => ∃ (B : List Nat) (M : Nat), Ext h2 h' ∧ M ≤ 2 ^ U.length ∧ m = 2 ^ U.length - M ∧ a.2.2 = (M : Int) ∧ At h' 1 a.1 (nats B) ∧ bestF xs os sh U M = B ∧ (M ≠ 0 → At h' 1 a.2.1.1 (nats (priceF xs (pickO os B) sh).1) ∧ At h' 2 a.2.1.2.2.1 (rows cutC (priceF xs (pickO os B) sh).2.2) ∧
      a.2.1.2.1 = (((priceF xs (pickO os B) sh).2.1 : Nat) : Int) ∧ a.2.1.2.2.2.1 = ((totF xs (pickO os B) sh : Nat) : Int))) (2 ^ U.length)
    ⟨[], 0, Ext.refl _, by omega, by omega, rfl, ⟨rfl, .inl rfl⟩, rfl, fun h => absurd rfl h⟩ ?_
  rintro ⟨lb, ⟨lp, nsh, lc, ntot, u⟩, y⟩ h4 m ⟨B, M, e4, hM2, rfl, rfl, ab, hB, hpr⟩
  dsimp only [uncur] at ab hpr ⊢
  rw [hlu, shl_ok _ (by omega)]
  refine ifT_dec (fun hlt => ?_) fun hge => ?_
  · have hMlt : M < 2 ^ U.length := by omega
    have e24 := e2.trans e4
    have hs4 := e24.offs hs
    -- the choice that a number tells
    refine loopK_intro (fun (a : Sl × Sl × Int) h' m => ∃ k : Nat, k ≤ U.length ∧ a.2.2 = (k : Int) ∧ m = U.length - k ∧ Owns h4 h' [(1, a.1, nats (sel M (U.take k))), (12, a.2.1, rows offC (pickO os (sel M (U.take k))))]) U.length ⟨0, by omega, rfl, rfl, ((Owns.nil h4).none_ 12).none_ 1⟩ ?_
    rintro ⟨la, lo, y⟩ h5 m5 ⟨k, hk, rfl, rfl, o5⟩
    dsimp only [uncur] at o5 ⊢
    have hselU : ∀ i ∈ sel M (U.take k), i < os.length := fun i hi => hUl i (List.mem_of_mem_take ((sel_sub M _).subset hi))
    have hsl := (sel_sub M (U.take k)).length_le
    rw [List.length_take] at hsl
    have hla : la.len = (sel M (U.take k)).length := by
      have := o5.slen (s := la) (cs := nats (sel M (U.take k))) List.mem_cons_self
      rw [nats_length] at this; exact this
    have hlo : lo.len = (sel M (U.take k)).length := by
      rw [(o5.at_ (List.mem_cons_of_mem _ List.mem_cons_self)).rowsLen offC_length (by decide), pickO_length hselU]
    refine ifT_dec (fun hlt2 => ⟨⟨by omega, by omega⟩, ?_⟩) fun hge2 => ?_
    · have hkl : k < U.length := by omega
      have hx := List.getElem?_eq_getElem hkl
      have hjl := hUl _ (List.getElem_mem hkl)
      generalize U[k] = j at hx hjl
      have hj := List.getElem?_eq_getElem hjl
      generalize os[j] = o at hj
      have hst := sel_step M k U hx
      refine ((e4.trans o5.ext).at_ au).cell (nats_get hx) fun b of hr => ⟨_, hr, by omega, ?_⟩
      have hsr : shr .i64 (M : Int) (k : Int) = ((M / 2 ^ k : Nat) : Int) := shr_nat M k .i64 rfl (by omega)
      have hdl := Nat.div_le_self M (2 ^ k)
      rw [hsr, bit_and _ (by omega)]
      refine ifT_dec (fun hbit => ⟨⟨by omega, by omega⟩, ?_⟩) fun hbit => ?_
      · have hbit : M / 2 ^ k % 2 = 1 := by
          generalize M / 2 ^ k = q at hbit; omega
        rw [if_pos hbit] at hst
        refine (o5.ext.offs hs4).at_.rowB offC_length (by decide) hj fun b of ha hr => ⟨o.key, o.kind, o.a, o.b, o.tg, o.least, o.most, o.group, o.alone, o.order, o.from_, o.to_, hr, ?_⟩
        have hb4 : h4 b ≠ none := hs4.at_.blk (by rw [rows_length offC_length]; omega) ha
        refine appendTo_owns (m := 0) o5 rfl (by omega) (fun i hi => .inl (by rw [List.mem_singleton.1 hi]; exact hb4)) fun j6 h6 o6 => ?_
        refine appendTo_owns (m := 0) (o6.perm (List.Perm.swap _ _ _)) rfl (by omega) (by simp) fun j7 h7 o7 => ⟨U.length - (k + 1), by omega, k + 1, by omega, by show IntKind.i64.wrap _ = _; rw [w64 (by omega) (by omega)]; rfl, rfl, ?_⟩
        have e8 : nats (sel M (U.take k) ++ [j]) = nats (sel M (U.take k)) ++ [.int .i64 (j : Int)] := by simp [nats]
        have e9 : rows offC [o] = offC o := by simp [rows]
        rw [hst, pickO_snoc hj, e8, rows_append, e9]
        exact o7.perm (List.Perm.swap _ _ _)
      · have hbit : ¬ M / 2 ^ k % 2 = 1 := by
          generalize M / 2 ^ k = q at hbit; omega
        rw [if_neg hbit, List.append_nil] at hst
        exact ⟨U.length - (k + 1), by omega, k + 1, by omega, by show IntKind.i64.wrap _ = _; rw [w64 (by omega) (by omega)]; rfl, rfl, by rw [hst]; exact o5⟩
    · have hk2 : k = U.length := by omega
      subst hk2
      rw [List.take_length] at o5 hla hlo hselU
      have hstep : bestF xs os sh U (M + 1) = if togP (pickO os (sel M U)).length [] (pickO os (sel M U)) = true ∧ ltC xs os sh (sel M U) B = true then sel M U else B := by rw [← hB]; rfl
      obtain ⟨O, hO⟩ : ∃ O, sel M U = O := ⟨_, rfl⟩
      rw [hO] at o5 hla hlo hselU hstep
      have hOU : O.Sublist U := hO ▸ sel_sub M U
      have hOos := pickO_sub (hOU.trans hUs)
      have aO := o5.at_ (sz := 1) (s := la) (cs := nats O) List.mem_cons_self
      have of5 : Offs h5 lo (pickO os O) := ⟨o5.at_ (List.mem_cons_of_mem _ List.mem_cons_self), fun x hx => (e24.trans o5.ext).at_ (hs.tg x (hOos.subset hx))⟩
      have osl := o5.slg (sz := 12) (s := lo) (cs := rows offC (pickO os O)) (List.mem_cons_of_mem _ List.mem_cons_self)
      have hpl := pickO_length hselU
      have hOl := hOU.length_le
      have ew : IntKind.i64.wrap ((M : Int) + 1) = ((M + 1 : Nat) : Int) := by rw [w64] <;> omega
      rw [ew]
      have hAO : errA (pickO os O) xs sh t = 0 := errA_sub hOos hA
      have hFO : ∀ o ∈ pickO os O, fitsF o xs sh t = 0 := pickO_fit fun i hi => hUf i (hOU.subset hi)
      have hEO : errP (pickO os O) xs sh t = if togP (pickO os O).length [] (pickO os O) = true then 0 else 16 := by
        unfold errP
        rw [if_neg (by rw [hAO]; simp)]
        by_cases hT : togP (pickO os O).length [] (pickO os O) = true
        · rw [if_neg (by rw [hT]; simp), if_neg, if_pos hT]
          intro h9
          obtain ⟨o, ho, h10⟩ := List.any_eq_true.1 h9
          exact (of_decide_eq_true h10) (hFO o ho)
        · rw [if_pos (by simpa using hT), if_neg hT]
      have hdO := errO_distinct (errA_ok hAO).1
      refine spec17 hI of5 osl (by omega) ((e24.trans o5.ext).itms its) hfew (fun h7 e7 hb => ⟨_, _, _, _, _, rfl, ifT_intro (fun _ => ?_) fun h9 => absurd hb (nd' h9)⟩) fun r1 r2 zs h7 he e7 hzp hzs c1 c2 => ⟨_, _, _, _, _, rfl, ifT_intro (fun h9 => absurd rfl (nd h9)) fun _ => ?_⟩
      · have hT : ¬ togP (pickO os O).length [] (pickO os O) = true := fun h9 => hb (by rw [hEO, if_pos h9])
        have e47 := o5.ext.trans e7
        have hM0 : M ≠ 0 := fun h9 => by
          subst h9
          rw [sel_zero] at hO
          subst hO
          exact hT rfl
        obtain ⟨ap, ac, q1, q2⟩ := hpr hM0
        exact ⟨2 ^ U.length - (M + 1), by omega, B, M + 1, e4.trans e47, by omega, rfl, rfl, e47.at_ ab, by rw [hstep, if_neg (fun h => hT h.1)], fun _ => ⟨e47.at_ ap, e47.at_ ac, q1, q2⟩⟩
      · have hT : togP (pickO os O).length [] (pickO os O) = true := by
          by_cases h9 : togP (pickO os O).length [] (pickO os O) = true
          · exact h9
          · rw [hEO, if_neg h9] at he; cases he
        have hzq := sortO_eq hdO hzp hzs
        subst hzq
        rw [Int.toNat_natCast] at c1 c2 ⊢
        have e47 := o5.ext.trans e7
        refine ifT_dec (fun h9 => ?_) fun h9 => ?_
        · have hM0 : M = 0 := by omega
          subst hM0
          rw [sel_zero] at hO
          subst hO
          exact ⟨2 ^ U.length - (0 + 1), by omega, [], 0 + 1, e4.trans e47, by omega, rfl, rfl, e7.at_ aO, bestF_one _ _ _ _, fun _ => ⟨c1, c2, rfl, rfl⟩⟩
        · obtain ⟨ap, ac, q1, q2⟩ := hpr (by omega)
          subst q1 q2
          refine spec62 hI fun d1 f1 f2 => ⟨d1, rfl, ?_⟩
          refine spec62 hI fun d2 f3 f4 => ⟨d2, rfl, ?_⟩
          refine spec68 hI (e7.at_ aO) (e47.at_ ab) (by omega) fun d3 f5 => ⟨d3, rfl, newK_intro fun i8 h8 hn8 he8 => ?_⟩
          have e8 : Ext h7 h8 := he8 ▸ Ext.new hn8
          have e48 := e47.trans e8
          have hlb : lb.len = B.length := by rw [ab.len1, nats_length]
          rw [hla, hlb] at f3 f4
          have hsg := ltC_iff (xs := xs) (os := os) (ship := sh) (O := O) (B := B) (c3 := d3) f1 f2 f3 f4 f5
          refine spec61n hI (l := [d1, d2, d3]) (s := ⟨some (i8, 0), 3⟩) ⟨rfl, .inr ?_⟩ (by show 3 < 1000; decide) ⟨_, rfl, ifT_dec (fun hneg => ?_) fun hneg => ?_⟩
          · show h8.read i8 0 3 = _
            rw [read_block (ro := false) (cs := ints [d1, d2, d3]) (by rw [he8, set_eq]; rfl) (by simp [ints])]
            rfl
          · exact ⟨2 ^ U.length - (M + 1), by omega, O, M + 1, e4.trans e48, by omega, rfl, rfl, (e7.trans e8).at_ aO, by rw [hstep, if_pos ⟨hT, hsg.1 hneg⟩], fun _ => ⟨e8.at_ c1, e8.at_ c2, rfl, rfl⟩⟩
          · exact ⟨2 ^ U.length - (M + 1), by omega, B, M + 1, e4.trans e48, by omega, rfl, rfl, e48.at_ ab, by rw [hstep, if_neg (fun h => hneg (hsg.2 h.2))], fun _ => ⟨e48.at_ ap, e48.at_ ac, rfl, rfl⟩⟩
  · have hMe : M = 2 ^ U.length := by omega
    obtain ⟨ap, ac, q1, q2⟩ := hpr (by omega)
    subst q1 q2
    exact hQ lb lp lc B h4 heB (e2.trans e4) (by rw [← hMe]; exact hB) ab ap ac
end
section
variable {I : Calls} {h : Heap}
theorem spec18t (hI : Closed' prog Pm I) {F : Bool → T} (hF : F true h) : I 18 [] (fun cs h => ∃ b : Bool, (cs = [V.one (Cell.bool b)]) ∧ F b h) h := spec18 hI ⟨_, rfl, hF⟩
theorem offs_of {h0 h : Heap} {M T : List Ow} {s : Sl} {xs : List Offr} (o : Owns h0 h M) (hm : (12, s, rows offC xs) ∈ M) (ht : ∀ x ∈ xs, tgIn T x.tg x.tags) (hs : ∀ p ∈ T, p ∈ M) : Offs h s xs := ⟨o.at_ hm, fun x hx => (ht x hx).at_ o hs⟩
theorem itms_of {h0 h : Heap} {M T : List Ow} {s : Sl} {xs : List Itm} (o : Owns h0 h M) (hm : (4, s, rows itmC xs) ∈ M) (ht : ∀ x ∈ xs, tgIn T x.tg x.tags) (hs : ∀ p ∈ T, p ∈ M) : Itms h s xs := ⟨o.at_ hm, fun x hx => (ht x hx).at_ o hs⟩
theorem spec4 (hI : Closed' prog Pm I) {s : Sl} {zs : List Int} (hs : At h 1 s (ints zs)) : I 4 [.one (.slice 1 s)] tru h := by
  refine hI.go _ _ (den4 I s tru) ?_
  refine newK_intro fun i2 h1 hn1 he1 => ?_
  have S0 : Strm h1 i2 s zs 0 := he1 ▸ Strm.make hs hn1
  refine pick_lit hI S0 S0.owns (by decide) [3, 5, 7, 13] (by simp) (by simp) fun n hn h5 o5 => ?_
  have hn : 0 ≤ n ∧ n ≤ 13 := by simp only [List.mem_cons, List.not_mem_nil, or_false] at hn; omega
  refine spec8 hI S0 o5 (by omega) hn.1 hn.2 fun l6 os T1 t6 h6 o6 htg hol ht6 => ⟨l6, rfl, ?_⟩
  refine spec9 hI S0 o6 (by omega) fun l9 ship xs T2 t9 h9 o9 hti hxl ht9 => ⟨l9, ship, rfl, ?_⟩
  refine spec10 hI S0 o9 (by omega) fun t h12 o12 => ⟨t, rfl, ?_⟩
  have hol : os.length ≤ 13 := by omega
  have of : Offs h12 l6 os := offs_of (T := T1) o12 (by simp) htg (fun p hp => by simp [hp])
  have it : Itms h12 l9 xs := itms_of (T := T2) o12 (by simp) hti (fun p hp => by simp [hp])
  have last : ∀ (b1 b2 p1 q1 p2 q2 : Sl) (n m e1 : Int) (B a : List Nat) (c : List (ByteArray × Nat)) (g : Heap), At g 1 b1 (nats B) → At g 1 b2 (nats B) → At g 1 p1 (nats a) → At g 1 q1 (nats a) → At g 2 p2 (rows cutC c) → At g 2 q2 (rows cutC c) → B.length < 1000 → a.length < 1000 → c.length < 1000 →
      I 18 [] (fun cs35 => fun h36 => ∃ b37 : Bool, (cs35 = [V.one (Cell.bool b37)]) ∧ (ifT b37 (ifT (decide (e1 = e1)) (fun h38 => I 23 [V.one (Cell.slice 1 b1), V.one (Cell.slice 1 b2)] (fun cs39 => fun h40 => ∃ b41 : Bool, (cs39 = [V.one (Cell.bool b41)]) ∧ (ifT b41 (fun h42 =>
        I 19 [V.agg [Cell.slice 1 p1, Cell.int IntKind.i64 n, Cell.slice 2 p2, Cell.int IntKind.i64 m], V.agg [Cell.slice 1 q1, Cell.int IntKind.i64 n, Cell.slice 2 q2, Cell.int IntKind.i64 m]]
        (fun cs43 => fun h44 => ∃ b45 : Bool, (cs43 = [V.one (Cell.bool b45)]) ∧ tru [V.one (Cell.bool b45)] h44) h42) (tru [V.one (Cell.bool false)])) h40) h38) (tru [V.one (Cell.bool false)])) (tru [V.one (Cell.bool false)])) h36) g := by
    intro b1 b2 p1 q1 p2 q2 n m e1 B a c g x1 x2 a1 a2 a3 a4 l0 l1 l2
    refine spec18t hI (F := fun b => _) (ifT_intro (fun _ => ifT_dec (fun _ => ?_) fun h => absurd rfl h) fun h => by cases h)
    refine spec23 hI (by rw [← nats_ints]; exact x1) (by rw [← nats_ints]; exact x2) (by rw [List.length_map]; omega) ⟨_, rfl, ifT_intro (fun _ => ?_) fun h => by simp at h⟩
    exact spec19 hI a1 a2 a3 a4 l1 l2 ⟨true, rfl, rfl⟩
  refine spec21 hI of hol it hxl (fun g1 e1 hb => ⟨_, _, _, _, _, _, rfl, ?_⟩) fun s1 s2 s3 B g1 he e1 hB a1 a2 a3 => ⟨_, _, _, _, _, _, rfl, ?_⟩
  · refine spec22 hI (e1.offs of) hol (e1.itms it) hxl (fun g2 e2 _ => ⟨_, _, _, _, _, _, rfl, ?_⟩) fun s4 s5 s6 B2 g2 he => absurd he hb
    exact last _ _ _ _ _ _ _ _ _ [] [] [] g2 ⟨rfl, .inl rfl⟩ ⟨rfl, .inl rfl⟩ ⟨rfl, .inl rfl⟩ ⟨rfl, .inl rfl⟩ ⟨rfl, .inl rfl⟩ ⟨rfl, .inl rfl⟩ (by simp) (by simp) (by simp)
  · refine spec22 hI (e1.offs of) hol (e1.itms it) hxl (fun g2 e2 hb => absurd he hb) fun s4 s5 s6 B2 g2 _ e2 hB2 c1 c2 c3 => ⟨_, _, _, _, _, _, rfl, ?_⟩
    have : B2 = B := by rw [← hB2, ← hB]
    subst this
    have hA : errA os xs ship t = 0 := by
      by_cases h9 : errA os xs ship t = 0
      · exact h9
      · unfold errBest at he; rw [if_pos h9] at he; exact absurd he h9
    obtain ⟨hA1, hA2, hA3⟩ := errA_ok hA
    have hBs : B2.Sublist (List.range os.length) := by
      rw [← hB2]; exact (bestF_sub _ _ _ _ _).trans List.filter_sublist
    have hBl := hBs.length_le
    rw [List.length_range] at hBl
    have hps := pickO_sub hBs
    have hpl := hps.length_le
    have hll : (lines0 xs).length = xs.length := by simp [lines0]
    have hpr := applyAll_under (items := xs) (sortO (pickO os B2)) (lines0 xs) ship.toNat [] (fun o ho => (errO_ok hA1).2 o (hps.subset ((List.mergeSort_perm _ leOB).mem_iff.1 ho))) hll
    have hl1 : (priceF xs (pickO os B2) ship.toNat).1.length = xs.length := hpr.1.1.trans hll
    have hl2 : (priceF xs (pickO os B2) ship.toNat).2.2.length < 1000 := by
      have h1 := hpr.2.2.2
      have h2 := (List.mergeSort_perm (pickO os B2) leOB).length_eq
      show (applyAll xs (sortO (pickO os B2)) (lines0 xs) ship.toNat []).2.2.length < 1000
      rw [h1]
      unfold sortO
      rw [h2]
      simp; omega
    exact last _ _ _ _ _ _ _ _ _ _ _ _ g2 (e2.at_ a1) c1 (e2.at_ a2) c2 (e2.at_ a3) c3 (by omega) (by rw [hl1]; omega) hl2
end
end Go.Proofs.YtfemminjhecocaaGreatDoorVc
