/- Formulas of the functions that BestIsNotBeaten reaches beyond those of PricesAddUp. -/
import Derived.Test.YtfemminjhecocaaGreatVcPrVc
set_option linter.unusedVariables false
set_option maxRecDepth 100000
namespace Go.Proofs.YtfemminjhecocaaGreatVc
open Go.Proofs.YtfemminjhecocaaGreatCodes
/-- handbill/handkeep1.BestIsNotBeaten -/
def vc4 (I : FuncId → List V → Post → T) (l0 : Sl) (Q : Post) : T :=
  fun h1 =>
  (newK (YtfemminjhecocaaGreatVc.Obj.cells false [Cell.slice 1 l0, Cell.int IntKind.i64 0]) (fun i2 => fun h3 => 
  I 5 [V.one (Cell.ptr (some (i2, 0))), V.one (Cell.int IntKind.i64 6)]
    (fun cs4 => fun h5 => 
    ∃ l6 : Sl, (cs4 = [V.one (Cell.slice 12 l6)]) ∧
    I 6 [V.one (Cell.ptr (some (i2, 0)))]
      (fun cs7 => fun h8 => 
      ∃ l9 : Sl, ∃ n10 : Int, (cs7 = [V.agg [Cell.slice 4 l9, Cell.int IntKind.i64 n10]]) ∧
      (newK (YtfemminjhecocaaGreatVc.Obj.cells false [Cell.int IntKind.i64 0, Cell.int IntKind.i64 49, Cell.int IntKind.i64 60]) (fun i11 => fun h12 =>
      I 7 [V.one (Cell.ptr (some (i2, 0))), V.one (Cell.slice 1 { a := some (i11, 0), len := 3 })]
        (fun cs13 => fun h14 => 
        ∃ n15 : Int, (cs13 = [V.one (Cell.int IntKind.i64 n15)]) ∧
        (newK (YtfemminjhecocaaGreatVc.Obj.cells false [Cell.slice 12 { a := none, len := 0 }]) (fun i16 => fun h17 => 
        (storeK [] i16 0 [Cell.slice 12 l6] (fun h18 =>
        ∃ l19 : Sl, (h18.read i16 0 1 = some [Cell.slice 12 l19]) ∧
        I 11 [V.one (Cell.slice 12 l19), V.agg [Cell.slice 4 l9, Cell.int IntKind.i64 n10], V.one (Cell.int IntKind.i64 n15)]
          (fun cs20 => fun h21 => 
          ∃ l22 : Sl, ∃ l23 : Sl, ∃ n24 : Int, ∃ l25 : Sl, ∃ n26 : Int, ∃ n27 : Int, (cs20 = [V.one (Cell.slice 1 l22), V.agg [Cell.slice 1 l23, Cell.int IntKind.i64 n24, Cell.slice 2 l25, Cell.int IntKind.i64 n26], V.one (Cell.int IntKind.i64 n27)]) ∧
          (ifT (!decide (n27 = 0))
            (fun h28 =>
            I 9 []
              (fun cs29 => fun h30 => 
              ∃ b31 : Bool, (cs29 = [V.one (Cell.bool b31)]) ∧
              Q [V.one (Cell.bool b31)] h30) h28)
            (fun h32 =>
            I 12 [V.one (Cell.slice 1 l22), V.one (Cell.ptr (some (i16, 0)))]
              (fun cs33 => fun h34 => 
              ∃ l35 : Sl, (cs33 = [V.one (Cell.slice 12 l35)]) ∧
              I 8 [V.one (Cell.slice 12 l35), V.agg [Cell.slice 4 l9, Cell.int IntKind.i64 n10], V.one (Cell.int IntKind.i64 n15)]
                (fun cs36 => fun h37 => 
                ∃ l38 : Sl, ∃ n39 : Int, ∃ l40 : Sl, ∃ n41 : Int, ∃ n42 : Int, (cs36 = [V.agg [Cell.slice 1 l38, Cell.int IntKind.i64 n39, Cell.slice 2 l40, Cell.int IntKind.i64 n41], V.one (Cell.int IntKind.i64 n42)]) ∧
                (joinK (A := Bool)
                  (fun b43 => ifT b43
                    (Q [V.one (Cell.bool false)])
                    (loopK (A := Int) 0
                      (fun x44 => fun n45 => ifT (decide (n45 < 6))
                        (fun h46 =>
                        ∃ l47 : Sl, (h46.read i16 0 1 = some [Cell.slice 12 l47]) ∧
                        (loopK (A := Sl × Int) (({ a := none, len := 0 }, 0))
                          (fun x48 => uncur fun l49 n50 => ifT (decide (n50 < (↑l47.len : Int)))
                            (fun h51 =>
                            I 14 [V.one (Cell.ptr (some (i2, 0))), V.one (Cell.int IntKind.i64 2)]
                              (fun cs52 => fun h53 => 
                              ∃ b54 : Bool, (cs52 = [V.one (Cell.bool b54)]) ∧
                              (ifT b54
                                (fun h55 =>
                                (appendTo [] 1 8 l49 1 [Cell.int IntKind.i64 n50] (fun l56 => fun h57 => 
                                x48 ((l56, IntKind.i64.wrap (n50 + 1))) h57)) h55)
                                (x48 ((l49, IntKind.i64.wrap (n50 + 1))))) h53) h51)
                            (fun h58 =>
                            I 12 [V.one (Cell.slice 1 l49), V.one (Cell.ptr (some (i16, 0)))]
                              (fun cs59 => fun h60 => 
                              ∃ l61 : Sl, (cs59 = [V.one (Cell.slice 12 l61)]) ∧
                              I 8 [V.one (Cell.slice 12 l61), V.agg [Cell.slice 4 l9, Cell.int IntKind.i64 n10], V.one (Cell.int IntKind.i64 n15)]
                                (fun cs62 => fun h63 => 
                                ∃ l64 : Sl, ∃ n65 : Int, ∃ l66 : Sl, ∃ n67 : Int, ∃ n68 : Int, (cs62 = [V.agg [Cell.slice 1 l64, Cell.int IntKind.i64 n65, Cell.slice 2 l66, Cell.int IntKind.i64 n67], V.one (Cell.int IntKind.i64 n68)]) ∧
                                (ifT (decide (n68 = 0))
                                  (ifT (decide (n67 < n26))
                                    (Q [V.one (Cell.bool false)])
                                    (ifT (decide (n67 = n26))
                                      (ifT (decide ((↑l49.len : Int) < (↑l22.len : Int)))
                                        (Q [V.one (Cell.bool false)])
                                        (x44 (IntKind.i64.wrap (n45 + 1))))
                                      (x44 (IntKind.i64.wrap (n45 + 1)))))
                                  (x44 (IntKind.i64.wrap (n45 + 1)))) h63) h60) h58))) h46)
                        (fun h69 =>
                        I 9 []
                          (fun cs70 => fun h71 => 
                          ∃ b72 : Bool, (cs70 = [V.one (Cell.bool b72)]) ∧
                          Q [V.one (Cell.bool b72)] h71) h69))))
                  (fun x73 => ifT (!decide (n42 = 0))
                    (x73 true)
                    (fun h74 =>
                    I 13 [V.agg [Cell.slice 1 l23, Cell.int IntKind.i64 n24, Cell.slice 2 l25, Cell.int IntKind.i64 n26], V.agg [Cell.slice 1 l38, Cell.int IntKind.i64 n39, Cell.slice 2 l40, Cell.int IntKind.i64 n41]]
                      (fun cs75 => fun h76 => 
                      ∃ b77 : Bool, (cs75 = [V.one (Cell.bool b77)]) ∧
                      x73 (!b77) h76) h74))) h37) h34) h32)) h21) h18)) h17)) h14) h12)) h8) h5) h3)) h1
theorem den4 (I : FuncId → List V → Post → T) (l0 : Sl) (Q : Post) : denF Go.Proofs.Tryz.prog 35104 (⟨[(1020, 71776119061217280, [(55, tk Go.Proofs.Tryz.prog 4)])], [(4090, 10141204801825763154379587837956, [(56, tk Go.Proofs.Tryz.prog 3)]), (2094282, 1179438699212804481024, [(13, tk Go.Proofs.Tryz.prog 22), (60, tk Go.Proofs.Tryz.prog 3)])]⟩) I 4 [V.one (Cell.slice 1 l0)] Q = vc4 I l0 Q := by kernel_rfl
/-- handbill/offer.Best -/
def vc11 (I : FuncId → List V → Post → T) (l0 : Sl) (l1 : Sl) (n2 : Int) (n3 : Int) (Q : Post) : T :=
  fun h4 =>
  I 19 [V.one (Cell.slice 12 l0), V.agg [Cell.slice 4 l1, Cell.int IntKind.i64 n2], V.one (Cell.int IntKind.i64 n3)]
    (fun cs5 => fun h6 => 
    ∃ n7 : Int, (cs5 = [V.one (Cell.int IntKind.i64 n7)]) ∧
    (ifT (!decide (n7 = 0))
      (fun h8 =>
      Q [V.one (Cell.slice 1 { a := none, len := 0 }), V.agg [Cell.slice 1 { a := none, len := 0 }, Cell.int IntKind.i64 0, Cell.slice 2 { a := none, len := 0 }, Cell.int IntKind.i64 0], V.one (Cell.int IntKind.i64 n7)] h8)
      (loopK (A := Sl × Int) (({ a := none, len := 0 }, 0))
        (fun x9 => uncur fun l10 n11 => ifT (decide (n11 < (↑l0.len : Int)))
          (fun h12 =>
          ((0 ≤ n11) ∧
          n11 < (↑l0.len : Int)) ∧
          (derefK l0.a (fun i13 => fun i14 => fun h15 =>
          ∃ s16 : ByteArray, ∃ n17 : Int, ∃ n18 : Int, ∃ n19 : Int, ∃ l20 : Sl, ∃ n21 : Int, ∃ n22 : Int, ∃ s23 : ByteArray, ∃ b24 : Bool, ∃ n25 : Int, ∃ n26 : Int, ∃ n27 : Int, (h15.read i13 (i14 + n11.toNat * 12) 12 = some [Cell.str s16, Cell.int IntKind.i64 n17, Cell.int IntKind.i64 n18, Cell.int IntKind.i64 n19, Cell.slice 1 l20, Cell.int IntKind.i64 n21, Cell.int IntKind.i64 n22, Cell.str s23, Cell.bool b24, Cell.int IntKind.i64 n25, Cell.int IntKind.i64 n26, Cell.int IntKind.i64 n27]) ∧
          I 23 [V.agg [Cell.str s16, Cell.int IntKind.i64 n17, Cell.int IntKind.i64 n18, Cell.int IntKind.i64 n19, Cell.slice 1 l20, Cell.int IntKind.i64 n21, Cell.int IntKind.i64 n22, Cell.str s23, Cell.bool b24, Cell.int IntKind.i64 n25, Cell.int IntKind.i64 n26, Cell.int IntKind.i64 n27], V.agg [Cell.slice 4 l1, Cell.int IntKind.i64 n2], V.one (Cell.int IntKind.i64 n3)]
            (fun cs28 => fun h29 => 
            ∃ n30 : Int, (cs28 = [V.one (Cell.int IntKind.i64 n30)]) ∧
            (ifT (decide (n30 = 0))
              (fun h31 =>
              (appendTo [] 1 8 l10 1 [Cell.int IntKind.i64 n11] (fun l32 => fun h33 => 
              x9 ((l32, IntKind.i64.wrap (n11 + 1))) h33)) h31)
              (x9 ((l10, IntKind.i64.wrap (n11 + 1))))) h29) h15)) h12)
          (ifT (decide ((↑l10.len : Int) > 10))
            (fun h34 =>
            Q [V.one (Cell.slice 1 { a := none, len := 0 }), V.agg [Cell.slice 1 { a := none, len := 0 }, Cell.int IntKind.i64 0, Cell.slice 2 { a := none, len := 0 }, Cell.int IntKind.i64 0], V.one (Cell.int IntKind.i64 2)] h34)
            (fun h35 =>
            I 24 [V.one (Cell.slice 12 { a := none, len := 0 }), V.agg [Cell.slice 4 l1, Cell.int IntKind.i64 n2]]
              (fun cs36 => fun h37 => 
              ∃ l38 : Sl, ∃ n39 : Int, ∃ l40 : Sl, ∃ n41 : Int, (cs36 = [V.agg [Cell.slice 1 l38, Cell.int IntKind.i64 n39, Cell.slice 2 l40, Cell.int IntKind.i64 n41]]) ∧
              (loopK (A := Sl × (Sl × Int × Sl × Int × PUnit) × Int) (({ a := none, len := 0 }, (l38, n39, l40, n41, ()), 1))
                (fun x42 => uncur fun l43 => uncur (uncur fun l44 => uncur fun n45 => uncur fun l46 => uncur fun n47 x48 => fun n49 => fun h50 => 
                (0 ≤ (↑l10.len : Int)) ∧
                (ifT (decide (n49 < shl IntKind.i64 1 (↑l10.len : Int)))
                  (loopK (A := Sl × Sl × Int) (({ a := none, len := 0 }, { a := none, len := 0 }, 0))
                    (fun x51 => uncur fun l52 => uncur fun l53 n54 => ifT (decide (n54 < (↑l10.len : Int)))
                      (fun h55 =>
                      ((0 ≤ n54) ∧
                      n54 < (↑l10.len : Int)) ∧
                      (derefK l10.a (fun i56 => fun i57 => fun h58 =>
                      ∃ n59 : Int, (h58.read i56 (i57 + n54.toNat * 1) 1 = some [Cell.int IntKind.i64 n59]) ∧
                      (0 ≤ n54) ∧
                      (ifT (decide (IntKind.i64.wrap (↑(BitVec.ofInt 64 (shr IntKind.i64 n49 n54) &&& BitVec.ofInt 64 1).toNat : Int) = 1))
                        (fun h60 =>
                        ((0 ≤ n59) ∧
                        n59 < (↑l0.len : Int)) ∧
                        (derefK l0.a (fun i61 => fun i62 => fun h63 =>
                        ∃ s64 : ByteArray, ∃ n65 : Int, ∃ n66 : Int, ∃ n67 : Int, ∃ l68 : Sl, ∃ n69 : Int, ∃ n70 : Int, ∃ s71 : ByteArray, ∃ b72 : Bool, ∃ n73 : Int, ∃ n74 : Int, ∃ n75 : Int, (h63.read i61 (i62 + n59.toNat * 12) 12 = some [Cell.str s64, Cell.int IntKind.i64 n65, Cell.int IntKind.i64 n66, Cell.int IntKind.i64 n67, Cell.slice 1 l68, Cell.int IntKind.i64 n69, Cell.int IntKind.i64 n70, Cell.str s71, Cell.bool b72, Cell.int IntKind.i64 n73, Cell.int IntKind.i64 n74, Cell.int IntKind.i64 n75]) ∧
                        (appendTo [i61] 1 8 l52 1 [Cell.int IntKind.i64 n59] (fun l76 => fun h77 => 
                        (appendTo [] 12 128 l53 1 [Cell.str s64, Cell.int IntKind.i64 n65, Cell.int IntKind.i64 n66, Cell.int IntKind.i64 n67, Cell.slice 1 l68, Cell.int IntKind.i64 n69, Cell.int IntKind.i64 n70, Cell.str s71, Cell.bool b72, Cell.int IntKind.i64 n73, Cell.int IntKind.i64 n74, Cell.int IntKind.i64 n75] (fun l78 => fun h79 => 
                        x51 ((l76, l78, IntKind.i64.wrap (n54 + 1))) h79)) h77)) h63)) h60)
                        (x51 ((l52, l53, IntKind.i64.wrap (n54 + 1))))) h58)) h55)
                      (fun h80 =>
                      I 20 [V.one (Cell.slice 12 l53)]
                        (fun cs81 => fun h82 => 
                        ∃ b83 : Bool, (cs81 = [V.one (Cell.bool b83)]) ∧
                        (ifT (!b83)
                          (x42 ((l43, (l44, n45, l46, n47, ()), IntKind.i64.wrap (n49 + 1))))
                          (fun h84 =>
                          I 24 [V.one (Cell.slice 12 l53), V.agg [Cell.slice 4 l1, Cell.int IntKind.i64 n2]]
                            (fun cs85 => fun h86 => 
                            ∃ l87 : Sl, ∃ n88 : Int, ∃ l89 : Sl, ∃ n90 : Int, (cs85 = [V.agg [Cell.slice 1 l87, Cell.int IntKind.i64 n88, Cell.slice 2 l89, Cell.int IntKind.i64 n90]]) ∧
                            I 27 [V.one (Cell.int IntKind.i64 n90), V.one (Cell.int IntKind.i64 n47)]
                              (fun cs91 => fun h92 => 
                              ∃ n93 : Int, (cs91 = [V.one (Cell.int IntKind.i64 n93)]) ∧
                              I 27 [V.one (Cell.int IntKind.i64 (↑l52.len : Int)), V.one (Cell.int IntKind.i64 (↑l43.len : Int))]
                                (fun cs94 => fun h95 => 
                                ∃ n96 : Int, (cs94 = [V.one (Cell.int IntKind.i64 n96)]) ∧
                                I 28 [V.one (Cell.slice 1 l52), V.one (Cell.slice 1 l43)]
                                  (fun cs97 => fun h98 => 
                                  ∃ n99 : Int, (cs97 = [V.one (Cell.int IntKind.i64 n99)]) ∧
                                  (newK (YtfemminjhecocaaGreatVc.Obj.cells false [Cell.int IntKind.i64 n93, Cell.int IntKind.i64 n96, Cell.int IntKind.i64 n99]) (fun i100 => fun h101 =>
                                  I 26 [V.one (Cell.slice 1 { a := some (i100, 0), len := 3 })]
                                    (fun cs102 => fun h103 => 
                                    ∃ n104 : Int, (cs102 = [V.one (Cell.int IntKind.i64 n104)]) ∧
                                    (ifT (decide (n104 < 0))
                                      (fun h105 =>
                                      x42 ((l52, (l87, n88, l89, n90, ()), IntKind.i64.wrap (n49 + 1))) h105)
                                      (x42 ((l43, (l44, n45, l46, n47, ()), IntKind.i64.wrap (n49 + 1))))) h103) h101)) h98) h95) h92) h86) h84)) h82) h80)))
                  (fun h106 =>
                  Q [V.one (Cell.slice 1 l43), V.agg [Cell.slice 1 l44, Cell.int IntKind.i64 n45, Cell.slice 2 l46, Cell.int IntKind.i64 n47], V.one (Cell.int IntKind.i64 0)] h106)) h50))) h37) h35))))) h6) h4
theorem den11 (I : FuncId → List V → Post → T) (l0 : Sl) (l1 : Sl) (n2 : Int) (n3 : Int) (Q : Post) : denF Go.Proofs.Tryz.prog 1069200 (⟨[], [(122, 70366596701184, [(10, tk Go.Proofs.Tryz.prog 22), (31, tk Go.Proofs.Tryz.prog 3)]), (2042, 162259276829213358887978385006592, [(13, tk Go.Proofs.Tryz.prog 22), (14, tvar Go.Proofs.Tryz.prog 35), (15, tk Go.Proofs.Tryz.prog 3)]), (1045658, 9671404251074024184938496, [(16, tk Go.Proofs.Tryz.prog 22), (17, tk Go.Proofs.Tryz.prog 26), (61, tk Go.Proofs.Tryz.prog 3)])]⟩) I 11 [V.one (Cell.slice 12 l0), V.agg [Cell.slice 4 l1, Cell.int IntKind.i64 n2], V.one (Cell.int IntKind.i64 n3)] Q = vc11 I l0 l1 n2 n3 Q := by kernel_rfl
/-- slices.Compare[[]int,int] -/
def vc28 (I : FuncId → List V → Post → T) (l0 : Sl) (l1 : Sl) (Q : Post) : T :=
  loopK (A := Int) 0
    (fun x2 => fun n3 => ifT (decide (n3 < (↑l0.len : Int)))
      (fun h4 =>
      ((0 ≤ n3) ∧
      n3 < (↑l0.len : Int)) ∧
      (derefK l0.a (fun i5 => fun i6 => fun h7 =>
      ∃ n8 : Int, (h7.read i5 (i6 + n3.toNat * 1) 1 = some [Cell.int IntKind.i64 n8]) ∧
      (ifT (decide (n3 ≥ (↑l1.len : Int)))
        (Q [V.one (Cell.int IntKind.i64 1)])
        (fun h9 =>
        ((0 ≤ n3) ∧
        n3 < (↑l1.len : Int)) ∧
        (derefK l1.a (fun i10 => fun i11 => fun h12 =>
        ∃ n13 : Int, (h12.read i10 (i11 + n3.toNat * 1) 1 = some [Cell.int IntKind.i64 n13]) ∧
        I 27 [V.one (Cell.int IntKind.i64 n8), V.one (Cell.int IntKind.i64 n13)]
          (fun cs14 => fun h15 => 
          ∃ n16 : Int, (cs14 = [V.one (Cell.int IntKind.i64 n16)]) ∧
          (ifT (!decide (n16 = 0))
            (Q [V.one (Cell.int IntKind.i64 n16)])
            (x2 (IntKind.i64.wrap (n3 + 1)))) h15) h12)) h9)) h7)) h4)
      (ifT (decide ((↑l0.len : Int) < (↑l1.len : Int)))
        (Q [V.one (Cell.int IntKind.i64 (-1))])
        (Q [V.one (Cell.int IntKind.i64 0)])))
theorem den28 (I : FuncId → List V → Post → T) (l0 : Sl) (l1 : Sl) (Q : Post) : denF Go.Proofs.Tryz.prog 0 (⟨[], [(26, 2147482096, [(11, tk Go.Proofs.Tryz.prog 3)])]⟩) I 28 [V.one (Cell.slice 1 l0), V.one (Cell.slice 1 l1)] Q = vc28 I l0 l1 Q := by kernel_rfl
/-- handbill/handkeep1.BestIsNotBeaten$1 -/
def vc12 (I : FuncId → List V → Post → T) (l0 : Sl) (i1 : Nat) (i2 : Nat) (Q : Post) : T :=
  loopK (A := Sl × Int) (({ a := none, len := 0 }, 0))
    (fun x3 => uncur fun l4 n5 => ifT (decide (n5 < (↑l0.len : Int)))
      (fun h6 =>
      ((0 ≤ n5) ∧
      n5 < (↑l0.len : Int)) ∧
      (derefK l0.a (fun i7 => fun i8 => fun h9 =>
      ∃ n10 : Int, (h9.read i7 (i8 + n5.toNat * 1) 1 = some [Cell.int IntKind.i64 n10]) ∧
      ∃ l11 : Sl, (h9.read i1 i2 1 = some [Cell.slice 12 l11]) ∧
      ((0 ≤ n10) ∧
      n10 < (↑l11.len : Int)) ∧
      (derefK l11.a (fun i12 => fun i13 => fun h14 =>
      ∃ s15 : ByteArray, ∃ n16 : Int, ∃ n17 : Int, ∃ n18 : Int, ∃ l19 : Sl, ∃ n20 : Int, ∃ n21 : Int, ∃ s22 : ByteArray, ∃ b23 : Bool, ∃ n24 : Int, ∃ n25 : Int, ∃ n26 : Int, (h14.read i12 (i13 + n10.toNat * 12) 12 = some [Cell.str s15, Cell.int IntKind.i64 n16, Cell.int IntKind.i64 n17, Cell.int IntKind.i64 n18, Cell.slice 1 l19, Cell.int IntKind.i64 n20, Cell.int IntKind.i64 n21, Cell.str s22, Cell.bool b23, Cell.int IntKind.i64 n24, Cell.int IntKind.i64 n25, Cell.int IntKind.i64 n26]) ∧
      (appendTo [] 12 128 l4 1 [Cell.str s15, Cell.int IntKind.i64 n16, Cell.int IntKind.i64 n17, Cell.int IntKind.i64 n18, Cell.slice 1 l19, Cell.int IntKind.i64 n20, Cell.int IntKind.i64 n21, Cell.str s22, Cell.bool b23, Cell.int IntKind.i64 n24, Cell.int IntKind.i64 n25, Cell.int IntKind.i64 n26] (fun l27 => fun h28 => 
      x3 ((l27, IntKind.i64.wrap (n5 + 1))) h28)) h14)) h9)) h6)
      (Q [V.one (Cell.slice 12 l4)]))
theorem den12 (I : FuncId → List V → Post → T) (l0 : Sl) (i1 : Nat) (i2 : Nat) (Q : Post) : denF Go.Proofs.Tryz.prog 0 (⟨[], [(58, 2096720, [(4, tk Go.Proofs.Tryz.prog 26), (9, tk Go.Proofs.Tryz.prog 3)])]⟩) I 12 [V.one (Cell.slice 1 l0), V.one (Cell.ptr (some (i1, i2)))] Q = vc12 I l0 i1 i2 Q := by kernel_rfl
/-- handbill/handref1.SamePriced -/
def vc13 (I : FuncId → List V → Post → T) (l0 : Sl) (n1 : Int) (l2 : Sl) (n3 : Int) (l4 : Sl) (n5 : Int) (l6 : Sl) (n7 : Int) (Q : Post) : T :=
  fun h8 =>
  I 29 [V.one (Cell.slice 1 l0), V.one (Cell.slice 1 l4)]
    (fun cs9 => fun h10 => 
    ∃ b11 : Bool, (cs9 = [V.one (Cell.bool b11)]) ∧
    (ifT b11
      (ifT (decide (n1 = n5))
        (fun h12 =>
        I 30 [V.one (Cell.slice 2 l2), V.one (Cell.slice 2 l6)]
          (fun cs13 => fun h14 => 
          ∃ b15 : Bool, (cs13 = [V.one (Cell.bool b15)]) ∧
          (ifT b15
            (Q [V.one (Cell.bool (decide (n3 = n7)))])
            (Q [V.one (Cell.bool false)])) h14) h12)
        (Q [V.one (Cell.bool false)]))
      (Q [V.one (Cell.bool false)])) h10) h8
theorem den13 (I : FuncId → List V → Post → T) (l0 : Sl) (n1 : Int) (l2 : Sl) (n3 : Int) (l4 : Sl) (n5 : Int) (l6 : Sl) (n7 : Int) (Q : Post) : denF Go.Proofs.Tryz.prog 12 (⟨[], []⟩) I 13 [V.agg [Cell.slice 1 l0, Cell.int IntKind.i64 n1, Cell.slice 2 l2, Cell.int IntKind.i64 n3], V.agg [Cell.slice 1 l4, Cell.int IntKind.i64 n5, Cell.slice 2 l6, Cell.int IntKind.i64 n7]] Q = vc13 I l0 n1 l2 n3 l4 n5 l6 n7 Q := by kernel_rfl
/-- slices.Equal[[]int,int] -/
def vc29 (I : FuncId → List V → Post → T) (l0 : Sl) (l1 : Sl) (Q : Post) : T :=
  ifT (!decide ((↑l0.len : Int) = (↑l1.len : Int)))
    (Q [V.one (Cell.bool false)])
    (loopK (A := Int) 0
      (fun x2 => fun n3 => ifT (decide (n3 < (↑l0.len : Int)))
        (fun h4 =>
        ((0 ≤ n3) ∧
        n3 < (↑l0.len : Int)) ∧
        (derefK l0.a (fun i5 => fun i6 => fun h7 =>
        ∃ n8 : Int, (h7.read i5 (i6 + n3.toNat * 1) 1 = some [Cell.int IntKind.i64 n8]) ∧
        ((0 ≤ n3) ∧
        n3 < (↑l1.len : Int)) ∧
        (derefK l1.a (fun i9 => fun i10 => fun h11 =>
        ∃ n12 : Int, (h11.read i9 (i10 + n3.toNat * 1) 1 = some [Cell.int IntKind.i64 n12]) ∧
        (ifT (!decide (n8 = n12))
          (Q [V.one (Cell.bool false)])
          (x2 (IntKind.i64.wrap (n3 + 1)))) h11)) h7)) h4)
        (Q [V.one (Cell.bool true)])))
theorem den29 (I : FuncId → List V → Post → T) (l0 : Sl) (l1 : Sl) (Q : Post) : denF Go.Proofs.Tryz.prog 0 (⟨[], [(58, 67100720, [(13, tk Go.Proofs.Tryz.prog 3)])]⟩) I 29 [V.one (Cell.slice 1 l0), V.one (Cell.slice 1 l1)] Q = vc29 I l0 l1 Q := by kernel_rfl
/-- slices.Equal[[]handbill/api.Taken,handbill/api.Taken] -/
def vc30 (I : FuncId → List V → Post → T) (l0 : Sl) (l1 : Sl) (Q : Post) : T :=
  ifT (!decide ((↑l0.len : Int) = (↑l1.len : Int)))
    (Q [V.one (Cell.bool false)])
    (loopK (A := Int) 0
      (fun x2 => fun n3 => ifT (decide (n3 < (↑l0.len : Int)))
        (fun h4 =>
        ((0 ≤ n3) ∧
        n3 < (↑l0.len : Int)) ∧
        (derefK l0.a (fun i5 => fun i6 => fun h7 =>
        ∃ s8 : ByteArray, ∃ n9 : Int, (h7.read i5 (i6 + n3.toNat * 2) 2 = some [Cell.str s8, Cell.int IntKind.i64 n9]) ∧
        ((0 ≤ n3) ∧
        n3 < (↑l1.len : Int)) ∧
        (derefK l1.a (fun i10 => fun i11 => fun h12 =>
        ∃ s13 : ByteArray, ∃ n14 : Int, (h12.read i10 (i11 + n3.toNat * 2) 2 = some [Cell.str s13, Cell.int IntKind.i64 n14]) ∧
        (ifT (!(decide (s8 = s13) && decide (n9 = n14)))
          (Q [V.one (Cell.bool false)])
          (x2 (IntKind.i64.wrap (n3 + 1)))) h12)) h7)) h4)
        (Q [V.one (Cell.bool true)])))
theorem den30 (I : FuncId → List V → Post → T) (l0 : Sl) (l1 : Sl) (Q : Post) : denF Go.Proofs.Tryz.prog 0 (⟨[], [(58, 67100720, [(13, tk Go.Proofs.Tryz.prog 3)])]⟩) I 30 [V.one (Cell.slice 2 l0), V.one (Cell.slice 2 l1)] Q = vc30 I l0 l1 Q := by kernel_rfl
end Go.Proofs.YtfemminjhecocaaGreatVc
