/- Formulas of the functions that PursesHold reaches beyond those of SentChecks. -/
import Derived.Test.YtihnjdhjkpmggaaDoorVcSeSpec4
import Derived.Test.YtihnjdhjkpmggaaDoorVcCodeStr
set_option linter.unusedVariables false
set_option maxRecDepth 100000
namespace Go.Proofs.YtihnjdhjkpmggaaDoorVc
/-- handbill/handkeep1.PursesHold -/
def vc5 (I : FuncId → List V → Post → T) (l0 : Sl) (Q : Post) : T :=
  fun h1 =>
  (newK (YtihnjdhjkpmggaaDoorVc.Obj.cells false [Cell.slice 1 l0, Cell.int IntKind.i64 0]) (fun i2 => fun h3 => 
  I 30 [V.one (Cell.ptr (some (i2, 0)))]
    (fun cs4 => fun h5 => 
    ∃ l6 : Sl, (cs4 = [V.one (Cell.slice 5 l6)]) ∧
    I 31 [V.one (Cell.slice 5 l6)]
      (fun cs7 => fun h8 => 
      ∃ p9 : Option (Nat × Nat), ∃ n10 : Int, (cs7 = [V.one (Cell.ptr p9), V.one (Cell.int IntKind.i64 n10)]) ∧
      (ifT (!decide (n10 = 0))
        (joinK (A := Bool)
          (fun b11 => fun h12 => 
          Q [V.one (Cell.bool b11)] h12)
          (fun x13 => fun h14 => 
          I 32 []
            (fun cs15 => fun h16 => 
            ∃ b17 : Bool, (cs15 = [V.one (Cell.bool b17)]) ∧
            (ifT b17
              (fun h18 =>
              I 33 [V.one (Cell.slice 5 l6)]
                (fun cs19 => fun h20 => 
                ∃ n21 : Int, (cs19 = [V.one (Cell.int IntKind.i64 n21)]) ∧
                x13 (!decide (n21 = 0)) h20) h18)
              (x13 false)) h16) h14))
        (fun h22 =>
        I 12 [V.one (Cell.ptr (some (i2, 0))), V.one (Cell.int IntKind.i64 20)]
          (fun cs23 => fun h24 => 
          ∃ n25 : Int, (cs23 = [V.one (Cell.int IntKind.i64 n25)]) ∧
          (loopK (A := Int × Int) ((0, 0))
            (fun x26 => uncur fun n27 n28 => ifT (decide (n28 < n25))
              (fun h29 =>
              (newK (YtihnjdhjkpmggaaDoorVc.Obj.cells false [Cell.int IntKind.i64 0, Cell.int IntKind.i64 0, Cell.int IntKind.i64 5, Cell.int IntKind.i64 60, Cell.int IntKind.i64 1440]) (fun i30 => fun h31 =>
              I 13 [V.one (Cell.ptr (some (i2, 0))), V.one (Cell.slice 1 { a := some (i30, 0), len := 5 })]
                (fun cs32 => fun h33 => 
                ∃ n34 : Int, (cs32 = [V.one (Cell.int IntKind.i64 n34)]) ∧
                I 12 [V.one (Cell.ptr (some (i2, 0))), V.one (Cell.int IntKind.i64 4)]
                  (fun cs35 => fun h36 => 
                  ∃ n37 : Int, (cs35 = [V.one (Cell.int IntKind.i64 n37)]) ∧
                  (joinK (A := PUnit)
                    (fun x38 => loopK (A := Int) 0
                      (fun x39 => fun n40 => ifT (decide (n40 < (↑l6.len : Int)))
                        (fun h41 =>
                        ((0 ≤ n40) ∧
                        n40 < (↑l6.len : Int)) ∧
                        (derefK l6.a (fun i42 => fun i43 => fun h44 =>
                        ∃ s45 : ByteArray, ∃ n46 : Int, ∃ n47 : Int, ∃ n48 : Int, ∃ b49 : Bool, (h44.read i42 (i43 + n40.toNat * 5) 5 = some [Cell.str s45, Cell.int IntKind.i64 n46, Cell.int IntKind.i64 n47, Cell.int IntKind.i64 n48, Cell.bool b49]) ∧
                        I 38 [V.one (Cell.ptr p9)]
                          (fun cs50 => fun h51 => 
                          ∃ l52 : Sl, (cs50 = [V.one (Cell.slice 6 l52)]) ∧
                          (loopK (A := Int × Int × Int) ((0, 0, 0))
                            (fun x53 => uncur fun n54 => uncur fun n55 n56 => ifT (decide (n56 < (↑l52.len : Int)))
                              (fun h57 =>
                              ((0 ≤ n56) ∧
                              n56 < (↑l52.len : Int)) ∧
                              (derefK l52.a (fun i58 => fun i59 => fun h60 =>
                              ∃ n61 : Int, ∃ s62 : ByteArray, ∃ n63 : Int, ∃ n64 : Int, ∃ n65 : Int, ∃ n66 : Int, (h60.read i58 (i59 + n56.toNat * 6) 6 = some [Cell.int IntKind.i64 n61, Cell.str s62, Cell.int IntKind.i64 n63, Cell.int IntKind.i64 n64, Cell.int IntKind.i64 n65, Cell.int IntKind.i64 n66]) ∧
                              (joinK (A := Bool)
                                (fun b67 => joinK (A := Int)
                                  (fun n68 => ifT (decide (s62 = s45))
                                    (ifT (decide (n66 = 1))
                                      (x53 ((IntKind.i64.wrap (n54 + n63), n68, IntKind.i64.wrap (n56 + 1))))
                                      (x53 ((n54, n68, IntKind.i64.wrap (n56 + 1)))))
                                    (x53 ((n54, n68, IntKind.i64.wrap (n56 + 1)))))
                                  (fun x69 => ifT b67
                                    (x69 (IntKind.i64.wrap (n55 + n63)))
                                    (x69 n55)))
                                (fun x70 => ifT (decide (s62 = s45))
                                  (x70 (decide (n66 = 2)))
                                  (x70 false))) h60)) h57)
                              (fun h71 =>
                              I 39 [V.one (Cell.ptr p9), V.one (Cell.str s45), V.one (Cell.int IntKind.i64 (IntKind.i64.wrap (n27 + n34)))]
                                (fun cs72 => fun h73 => 
                                ∃ n74 : Int, ∃ n75 : Int, (cs72 = [V.one (Cell.int IntKind.i64 n74), V.one (Cell.int IntKind.i64 n75)]) ∧
                                (ifT (decide (n55 > n46))
                                  (Q [V.one (Cell.bool false)])
                                  (ifT (decide (IntKind.i64.wrap (n54 + n55) > n46))
                                    (Q [V.one (Cell.bool false)])
                                    (ifT (!decide (n75 = 0))
                                      (Q [V.one (Cell.bool false)])
                                      (ifT (decide (n74 < 0))
                                        (Q [V.one (Cell.bool false)])
                                        (x39 (IntKind.i64.wrap (n40 + 1))))))) h73) h71))) h51) h44)) h41)
                        (x26 ((IntKind.i64.wrap (n27 + n34), IntKind.i64.wrap (n28 + 1))))))
                    (fun x76 => ifT (decide (n37 = 0))
                      (fun h77 =>
                      I 35 [V.one (Cell.ptr (some (i2, 0))), V.one (Cell.int IntKind.i64 1), V.one (Cell.int IntKind.i64 6)]
                        (fun cs78 => fun h79 => 
                        ∃ n80 : Int, (cs78 = [V.one (Cell.int IntKind.i64 n80)]) ∧
                        I 34 [V.one (Cell.ptr p9), V.one (Cell.int IntKind.i64 n80), V.one (Cell.int IntKind.i64 (IntKind.i64.wrap (n27 + n34)))]
                          (fun cs81 => fun h82 => 
                          ∃ n83 : Int, (cs81 = [V.one (Cell.int IntKind.i64 n83)]) ∧
                          x76 () h82) h79) h77)
                      (joinK (A := PUnit)
                        (fun x84 => fun h85 => 
                        x76 () h85)
                        (fun x86 => ifT (decide (n37 = 1))
                          (fun h87 =>
                          I 35 [V.one (Cell.ptr (some (i2, 0))), V.one (Cell.int IntKind.i64 1), V.one (Cell.int IntKind.i64 6)]
                            (fun cs88 => fun h89 => 
                            ∃ n90 : Int, (cs88 = [V.one (Cell.int IntKind.i64 n90)]) ∧
                            I 36 [V.one (Cell.ptr p9), V.one (Cell.int IntKind.i64 n90), V.one (Cell.int IntKind.i64 (IntKind.i64.wrap (n27 + n34)))]
                              (fun cs91 => fun h92 => 
                              ∃ n93 : Int, (cs91 = [V.one (Cell.int IntKind.i64 n93)]) ∧
                              x86 () h92) h89) h87)
                          (fun h94 =>
                          (newK (YtihnjdhjkpmggaaDoorVc.Obj.cells false [Cell.str { data := #[109, 97, 121] }, Cell.str { data := #[106, 117, 110, 101] }, Cell.str { data := #[97, 108, 108] }]) (fun i95 => fun h96 =>
                          I 23 [V.one (Cell.ptr (some (i2, 0))), V.one (Cell.slice 1 { a := some (i95, 0), len := 3 })]
                            (fun cs97 => fun h98 => 
                            ∃ s99 : ByteArray, (cs97 = [V.one (Cell.str s99)]) ∧
                            (newK (YtihnjdhjkpmggaaDoorVc.Obj.cells false [Cell.int IntKind.i64 1, Cell.int IntKind.i64 50, Cell.int IntKind.i64 100, Cell.int IntKind.i64 400]) (fun i100 => fun h101 =>
                            I 13 [V.one (Cell.ptr (some (i2, 0))), V.one (Cell.slice 1 { a := some (i100, 0), len := 4 })]
                              (fun cs102 => fun h103 => 
                              ∃ n104 : Int, (cs102 = [V.one (Cell.int IntKind.i64 n104)]) ∧
                              (newK (YtihnjdhjkpmggaaDoorVc.Obj.cells false [Cell.int IntKind.i64 1, Cell.int IntKind.i64 5, Cell.int IntKind.i64 60, Cell.int IntKind.i64 2000]) (fun i105 => fun h106 =>
                              I 13 [V.one (Cell.ptr (some (i2, 0))), V.one (Cell.slice 1 { a := some (i105, 0), len := 4 })]
                                (fun cs107 => fun h108 => 
                                ∃ n109 : Int, (cs107 = [V.one (Cell.int IntKind.i64 n109)]) ∧
                                I 37 [V.one (Cell.ptr p9), V.one (Cell.str s99), V.one (Cell.int IntKind.i64 n104), V.one (Cell.int IntKind.i64 (IntKind.i64.wrap (n27 + n34))), V.one (Cell.int IntKind.i64 (IntKind.i64.wrap (IntKind.i64.wrap (n27 + n34) + n109)))]
                                  (fun cs110 => fun h111 => 
                                  ∃ n112 : Int, ∃ n113 : Int, (cs110 = [V.one (Cell.int IntKind.i64 n112), V.one (Cell.int IntKind.i64 n113)]) ∧
                                  x86 () h111) h108) h106)) h103) h101)) h98) h96)) h94))))) h36) h33) h31)) h29)
              (fun h114 =>
              I 32 []
                (fun cs115 => fun h116 => 
                ∃ b117 : Bool, (cs115 = [V.one (Cell.bool b117)]) ∧
                Q [V.one (Cell.bool b117)] h116) h114))) h24) h22)) h8) h5) h3)) h1
theorem den5 (I : FuncId → List V → Post → T) (l0 : Sl) (Q : Post) : denF Go.Proofs.Tryd.prog 8704 (⟨[(500, 16911433732, [(2, tk Go.Proofs.Tryd.prog 4)]), (1042837, 9443003548298008068096, []), (4171351, 9150161486127868936192, []), (136687753828, 79150791261809001326362755072, [(95, tk Go.Proofs.Tryd.prog 4)]), (136687753829, 1188422437713965063903159257088, [(11, tk Go.Proofs.Tryd.prog 3)])], [(1018, 44601490397061246283071436545296654292545156, [(7, tk Go.Proofs.Tryd.prog 3), (36, tk Go.Proofs.Tryd.prog 3)]), (521422, 22300745198530623141497939340785404344331780, [(75, tk Go.Proofs.Tryd.prog 3)]), (533936538, 41538374863442917749785453934947328, [(10, tk Go.Proofs.Tryd.prog 3), (11, tk Go.Proofs.Tryd.prog 3), (82, tk Go.Proofs.Tryd.prog 3)])]⟩) I 5 [V.one (Cell.slice 1 l0)] Q = vc5 I l0 Q := by kernel_rfl
/-- (*handbill/handmake.Stream).Budgets -/
def vc30 (I : FuncId → List V → Post → T) (p0 : Option (Nat × Nat)) (Q : Post) : T :=
  fun h1 =>
  (newK (YtihnjdhjkpmggaaDoorVc.Obj.cells false [Cell.str { data := #[109, 97, 121] }, Cell.str { data := #[106, 117, 110, 101] }, Cell.str { data := #[97, 108, 108] }]) (fun i2 => loopK (A := Sl × Int) (({ a := none, len := 0 }, 0))
    (fun x3 => uncur fun l4 n5 => ifT (decide (n5 < (↑3 : Int)))
      (fun h6 =>
      ((0 ≤ n5) ∧
      n5 < (↑3 : Int)) ∧
      ∃ s7 : ByteArray, (h6.read i2 (0 + n5.toNat * 1) 1 = some [Cell.str s7]) ∧
      I 41 [V.one (Cell.ptr p0), V.one (Cell.int IntKind.i64 4)]
        (fun cs8 => fun h9 => 
        ∃ b10 : Bool, (cs8 = [V.one (Cell.bool b10)]) ∧
        (ifT b10
          (x3 ((l4, IntKind.i64.wrap (n5 + 1))))
          (fun h11 =>
          (newK (YtihnjdhjkpmggaaDoorVc.Obj.cells false [Cell.int IntKind.i64 0, Cell.int IntKind.i64 0, Cell.int IntKind.i64 1, Cell.int IntKind.i64 5]) (fun i12 => fun h13 =>
          I 13 [V.one (Cell.ptr p0), V.one (Cell.slice 1 { a := some (i12, 0), len := 4 })]
            (fun cs14 => fun h15 => 
            ∃ n16 : Int, (cs14 = [V.one (Cell.int IntKind.i64 n16)]) ∧
            (newK (YtihnjdhjkpmggaaDoorVc.Obj.cells false [Cell.int IntKind.i64 0, Cell.int IntKind.i64 100, Cell.int IntKind.i64 1000, Cell.int IntKind.i64 1001, Cell.int IntKind.i64 1000000000000]) (fun i17 => fun h18 =>
            I 13 [V.one (Cell.ptr p0), V.one (Cell.slice 1 { a := some (i17, 0), len := 5 })]
              (fun cs19 => fun h20 => 
              ∃ n21 : Int, (cs19 = [V.one (Cell.int IntKind.i64 n21)]) ∧
              (newK (YtihnjdhjkpmggaaDoorVc.Obj.cells false [Cell.int IntKind.i64 0, Cell.int IntKind.i64 2, Cell.int IntKind.i64 9, Cell.int IntKind.i64 2000]) (fun i22 => fun h23 =>
              I 13 [V.one (Cell.ptr p0), V.one (Cell.slice 1 { a := some (i22, 0), len := 4 })]
                (fun cs24 => fun h25 => 
                ∃ n26 : Int, (cs24 = [V.one (Cell.int IntKind.i64 n26)]) ∧
                I 41 [V.one (Cell.ptr p0), V.one (Cell.int IntKind.i64 2)]
                  (fun cs27 => fun h28 => 
                  ∃ b29 : Bool, (cs27 = [V.one (Cell.bool b29)]) ∧
                  (appendTo [] 5 48 l4 1 [Cell.str s7, Cell.int IntKind.i64 n21, Cell.int IntKind.i64 n16, Cell.int IntKind.i64 (IntKind.i64.wrap (n16 + n26)), Cell.bool b29] (fun l30 => fun h31 => 
                  x3 ((l30, IntKind.i64.wrap (n5 + 1))) h31)) h28) h25) h23)) h20) h18)) h15) h13)) h11)) h9) h6)
      (joinK (A := Bool)
        (fun b32 => ifT b32
          (fun h33 =>
          I 12 [V.one (Cell.ptr p0), V.one (Cell.int IntKind.i64 (↑l4.len : Int))]
            (fun cs34 => fun h35 => 
            ∃ n36 : Int, (cs34 = [V.one (Cell.int IntKind.i64 n36)]) ∧
            ((0 ≤ n36) ∧
            n36 < (↑l4.len : Int)) ∧
            (derefK l4.a (fun i37 => fun i38 => fun h39 => 
            I 12 [V.one (Cell.ptr p0), V.one (Cell.int IntKind.i64 4)]
              (fun cs40 => fun h41 => 
              ∃ n42 : Int, (cs40 = [V.one (Cell.int IntKind.i64 n42)]) ∧
              (ifT (decide (n42 = 0))
                (fun h43 =>
                (newK (YtihnjdhjkpmggaaDoorVc.Obj.cells false [Cell.str { data := #[] }, Cell.str { data := #[109, 97, 121] }, Cell.str { data := #[77, 97, 121] }]) (fun i44 => fun h45 =>
                I 42 [V.one (Cell.ptr p0), V.one (Cell.slice 1 { a := some (i44, 0), len := 3 })]
                  (fun cs46 => fun h47 => 
                  ∃ s48 : ByteArray, (cs46 = [V.one (Cell.str s48)]) ∧
                  (storeK [] i37 (i38 + n36.toNat * 5 + 0) [Cell.str s48] (Q [V.one (Cell.slice 5 l4)])) h47) h45)) h43)
                (ifT (decide (n42 = 1))
                  (fun h49 =>
                  (newK (YtihnjdhjkpmggaaDoorVc.Obj.cells false [Cell.int IntKind.i64 (-1), Cell.int IntKind.i64 1000000000001]) (fun i50 => fun h51 =>
                  I 13 [V.one (Cell.ptr p0), V.one (Cell.slice 1 { a := some (i50, 0), len := 2 })]
                    (fun cs52 => fun h53 => 
                    ∃ n54 : Int, (cs52 = [V.one (Cell.int IntKind.i64 n54)]) ∧
                    (storeK [] i37 (i38 + n36.toNat * 5 + 1) [Cell.int IntKind.i64 n54] (Q [V.one (Cell.slice 5 l4)])) h53) h51)) h49)
                  (ifT (decide (n42 = 2))
                    (fun h55 =>
                    ∃ n56 : Int, (h55.read i37 (i38 + n36.toNat * 5 + 3) 1 = some [Cell.int IntKind.i64 n56]) ∧
                    (newK (YtihnjdhjkpmggaaDoorVc.Obj.cells false [Cell.int IntKind.i64 (-1), Cell.int IntKind.i64 (IntKind.i64.wrap (n56 + 1))]) (fun i57 => fun h58 =>
                    I 13 [V.one (Cell.ptr p0), V.one (Cell.slice 1 { a := some (i57, 0), len := 2 })]
                      (fun cs59 => fun h60 => 
                      ∃ n61 : Int, (cs59 = [V.one (Cell.int IntKind.i64 n61)]) ∧
                      (storeK [] i37 (i38 + n36.toNat * 5 + 2) [Cell.int IntKind.i64 n61] (Q [V.one (Cell.slice 5 l4)])) h60) h58)) h55)
                    (fun h62 =>
                    (newK (YtihnjdhjkpmggaaDoorVc.Obj.cells false [Cell.int IntKind.i64 3000, Cell.int IntKind.i64 3001]) (fun i63 => fun h64 =>
                    I 13 [V.one (Cell.ptr p0), V.one (Cell.slice 1 { a := some (i63, 0), len := 2 })]
                      (fun cs65 => fun h66 => 
                      ∃ n67 : Int, (cs65 = [V.one (Cell.int IntKind.i64 n67)]) ∧
                      (storeK [] i37 (i38 + n36.toNat * 5 + 3) [Cell.int IntKind.i64 n67] (Q [V.one (Cell.slice 5 l4)])) h66) h64)) h62)))) h41) h39)) h35) h33)
          (Q [V.one (Cell.slice 5 l4)]))
        (fun x68 => fun h69 => 
        I 41 [V.one (Cell.ptr p0), V.one (Cell.int IntKind.i64 10)]
          (fun cs70 => fun h71 => 
          ∃ b72 : Bool, (cs70 = [V.one (Cell.bool b72)]) ∧
          (ifT b72
            (x68 (decide ((↑l4.len : Int) > 0)))
            (x68 false)) h71) h69))))) h1
theorem den30 (I : FuncId → List V → Post → T) (p0 : Option (Nat × Nat)) (Q : Post) : denF Go.Proofs.Tryd.prog 0 (⟨[(60, 8727373545472, [(42, tk Go.Proofs.Tryd.prog 4)])], [(58, 68719475816, [(3, tk Go.Proofs.Tryd.prog 59), (10, tk Go.Proofs.Tryd.prog 3)])]⟩) I 30 [V.one (Cell.ptr p0)] Q = vc30 I p0 Q := by kernel_rfl
/-- handbill/offer.NewPurse -/
def vc31 (I : FuncId → List V → Post → T) (l0 : Sl) (Q : Post) : T :=
  fun h1 =>
  I 64 [V.one (Cell.slice 5 l0)]
    (fun cs2 => fun h3 => 
    ∃ n4 : Int, (cs2 = [V.one (Cell.int IntKind.i64 n4)]) ∧
    (ifT (!decide (n4 = 0))
      (Q [V.one (Cell.ptr none), V.one (Cell.int IntKind.i64 n4)])
      (fun h5 =>
      I 65 [V.one (Cell.slice 5 l0)]
        (fun cs6 => fun h7 => 
        ∃ l8 : Sl, (cs6 = [V.one (Cell.slice 5 l8)]) ∧
        (newK (YtihnjdhjkpmggaaDoorVc.Obj.cells false [Cell.slice 5 l8, Cell.slice 6 { a := none, len := 0 }, Cell.int IntKind.i64 0]) (fun i9 => fun h10 => 
        Q [V.one (Cell.ptr (some (i9, 0))), V.one (Cell.int IntKind.i64 0)] h10)) h7) h5)) h3) h1
theorem den31 (I : FuncId → List V → Post → T) (l0 : Sl) (Q : Post) : denF Go.Proofs.Tryd.prog 0 (⟨[], []⟩) I 31 [V.one (Cell.slice 5 l0)] Q = vc31 I l0 Q := by kernel_rfl
/-- handbill/offer.CheckBudgets -/
def vc64 (I : FuncId → List V → Post → T) (l0 : Sl) (Q : Post) : T :=
  ifT (decide ((↑l0.len : Int) > 50))
    (Q [V.one (Cell.int IntKind.i64 2)])
    (loopK (A := Int) 0
      (fun x1 => fun n2 => ifT (decide (n2 < (↑l0.len : Int)))
        (fun h3 =>
        ((0 ≤ n2) ∧
        n2 < (↑l0.len : Int)) ∧
        (derefK l0.a (fun i4 => fun i5 => fun h6 =>
        ∃ s7 : ByteArray, ∃ n8 : Int, ∃ n9 : Int, ∃ n10 : Int, ∃ b11 : Bool, (h6.read i4 (i5 + n2.toNat * 5) 5 = some [Cell.str s7, Cell.int IntKind.i64 n8, Cell.int IntKind.i64 n9, Cell.int IntKind.i64 n10, Cell.bool b11]) ∧
        (newK (YtihnjdhjkpmggaaDoorVc.Obj.cells false [Cell.str ByteArray.empty, Cell.int IntKind.i64 0, Cell.int IntKind.i64 0, Cell.int IntKind.i64 0, Cell.bool false]) (fun i12 => fun h13 => 
        (storeK [] i12 0 [Cell.str s7, Cell.int IntKind.i64 n8, Cell.int IntKind.i64 n9, Cell.int IntKind.i64 n10, Cell.bool b11] (fun h14 =>
        ∃ s15 : ByteArray, (h14.read i12 0 1 = some [Cell.str s15]) ∧
        I 43 [V.one (Cell.str s15)]
          (fun cs16 => fun h17 => 
          ∃ b18 : Bool, (cs16 = [V.one (Cell.bool b18)]) ∧
          (ifT (!b18)
            (Q [V.one (Cell.int IntKind.i64 5)])
            (fun h19 =>
            (((0 : Int) ≤ (0 : Int)) ∧
            (0 ≤ n2) ∧
            n2 ≤ (↑l0.len : Int)) ∧
            I 67 [V.one (Cell.slice 5 (l0.sub 5 0 n2.toNat)), V.one (Cell.func (some (90, [(i12, 0)])))]
              (fun cs20 => fun h21 => 
              ∃ b22 : Bool, (cs20 = [V.one (Cell.bool b22)]) ∧
              (ifT b22
                (Q [V.one (Cell.int IntKind.i64 6)])
                (fun h23 =>
                ∃ n24 : Int, (h23.read i12 1 1 = some [Cell.int IntKind.i64 n24]) ∧
                I 73 [V.one (Cell.int IntKind.i64 n24), V.one (Cell.int IntKind.i64 0), V.one (Cell.int IntKind.i64 1000000000000)]
                  (fun cs25 => fun h26 => 
                  ∃ b27 : Bool, (cs25 = [V.one (Cell.bool b27)]) ∧
                  (ifT (!b27)
                    (Q [V.one (Cell.int IntKind.i64 1)])
                    (fun h28 =>
                    ∃ n29 : Int, (h28.read i12 2 1 = some [Cell.int IntKind.i64 n29]) ∧
                    (ifT (decide (n29 < 0))
                      (Q [V.one (Cell.int IntKind.i64 1)])
                      (fun h30 =>
                      ∃ n31 : Int, (h30.read i12 2 1 = some [Cell.int IntKind.i64 n31]) ∧
                      ∃ n32 : Int, (h30.read i12 3 1 = some [Cell.int IntKind.i64 n32]) ∧
                      (ifT (decide (n31 > n32))
                        (Q [V.one (Cell.int IntKind.i64 1)])
                        (fun h33 =>
                        ∃ n34 : Int, (h33.read i12 3 1 = some [Cell.int IntKind.i64 n34]) ∧
                        (ifT (decide (n34 > 3000))
                          (Q [V.one (Cell.int IntKind.i64 1)])
                          (x1 (IntKind.i64.wrap (n2 + 1)))) h33)) h30)) h28)) h26) h23)) h21) h19)) h17) h14)) h13)) h6)) h3)
        (Q [V.one (Cell.int IntKind.i64 0)])))
theorem den64 (I : FuncId → List V → Post → T) (l0 : Sl) (Q : Post) : denF Go.Proofs.Tryd.prog 0 (⟨[], [(58, 562949953420316, [(10, tk Go.Proofs.Tryd.prog 3)])]⟩) I 64 [V.one (Cell.slice 5 l0)] Q = vc64 I l0 Q := by kernel_rfl
/-- slices.ContainsFunc[[]handbill/api.Budget,handbill/api.Budget] -/
def vc67 (I : FuncId → List V → Post → T) (l0 : Sl) (p1 : Option (Nat × List (Nat × Nat))) (Q : Post) : T :=
  fun h2 =>
  I 93 [V.one (Cell.slice 5 l0), V.one (Cell.func p1)]
    (fun cs3 => fun h4 => 
    ∃ n5 : Int, (cs3 = [V.one (Cell.int IntKind.i64 n5)]) ∧
    Q [V.one (Cell.bool (decide (n5 ≥ 0)))] h4) h2
theorem den67 (I : FuncId → List V → Post → T) (l0 : Sl) (p1 : Option (Nat × List (Nat × Nat))) (Q : Post) : denF Go.Proofs.Tryd.prog 0 (⟨[], []⟩) I 67 [V.one (Cell.slice 5 l0), V.one (Cell.func p1)] Q = vc67 I l0 p1 Q := by kernel_rfl
/-- slices.IndexFunc[[]handbill/api.Budget,handbill/api.Budget] -/
def vc93 (I : FuncId → List V → Post → T) (l0 : Sl) (p1 : Option (Nat × List (Nat × Nat))) (Q : Post) : T :=
  loopK (A := Int) 0
    (fun x2 => fun n3 => ifT (decide (n3 < (↑l0.len : Int)))
      (fun h4 =>
      ((0 ≤ n3) ∧
      n3 < (↑l0.len : Int)) ∧
      (derefK l0.a (fun i5 => fun i6 => fun h7 =>
      ∃ s8 : ByteArray, ∃ n9 : Int, ∃ n10 : Int, ∃ n11 : Int, ∃ b12 : Bool, (h7.read i5 (i6 + n3.toNat * 5) 5 = some [Cell.str s8, Cell.int IntKind.i64 n9, Cell.int IntKind.i64 n10, Cell.int IntKind.i64 n11, Cell.bool b12]) ∧
      (funK p1 (fun i13 => fun cs14 => fun h15 => 
      I i13 (V.agg [Cell.str s8, Cell.int IntKind.i64 n9, Cell.int IntKind.i64 n10, Cell.int IntKind.i64 n11, Cell.bool b12] :: cs14)
        (fun cs16 => fun h17 => 
        ∃ b18 : Bool, (cs16 = [V.one (Cell.bool b18)]) ∧
        (ifT b18
          (Q [V.one (Cell.int IntKind.i64 n3)])
          (x2 (IntKind.i64.wrap (n3 + 1)))) h17) h15)) h7)) h4)
      (Q [V.one (Cell.int IntKind.i64 (-1))]))
theorem den93 (I : FuncId → List V → Post → T) (l0 : Sl) (p1 : Option (Nat × List (Nat × Nat))) (Q : Post) : denF Go.Proofs.Tryd.prog 0 (⟨[], [(26, 524080, [(8, tk Go.Proofs.Tryd.prog 3)])]⟩) I 93 [V.one (Cell.slice 5 l0), V.one (Cell.func p1)] Q = vc93 I l0 p1 Q := by kernel_rfl
/-- handbill/offer.within -/
def vc73 (I : FuncId → List V → Post → T) (n0 : Int) (n1 : Int) (n2 : Int) (Q : Post) : T :=
  ifT (decide (n1 ≤ n0))
    (Q [V.one (Cell.bool (decide (n0 ≤ n2)))])
    (Q [V.one (Cell.bool false)])
theorem den73 (I : FuncId → List V → Post → T) (n0 : Int) (n1 : Int) (n2 : Int) (Q : Post) : denF Go.Proofs.Tryd.prog 0 (⟨[], []⟩) I 73 [V.one (Cell.int IntKind.i64 n0), V.one (Cell.int IntKind.i64 n1), V.one (Cell.int IntKind.i64 n2)] Q = vc73 I n0 n1 n2 Q := by kernel_rfl
/-- handbill/offer.CheckBudgets$1 -/
def vc90 (I : FuncId → List V → Post → T) (s0 : ByteArray) (n1 : Int) (n2 : Int) (n3 : Int) (b4 : Bool) (i5 : Nat) (i6 : Nat) (Q : Post) : T :=
  fun h7 =>
  ∃ s8 : ByteArray, (h7.read i5 (i6 + 0) 1 = some [Cell.str s8]) ∧
  Q [V.one (Cell.bool (decide (s0 = s8)))] h7
theorem den90 (I : FuncId → List V → Post → T) (s0 : ByteArray) (n1 : Int) (n2 : Int) (n3 : Int) (b4 : Bool) (i5 : Nat) (i6 : Nat) (Q : Post) : denF Go.Proofs.Tryd.prog 4 (⟨[], []⟩) I 90 [V.agg [Cell.str s0, Cell.int IntKind.i64 n1, Cell.int IntKind.i64 n2, Cell.int IntKind.i64 n3, Cell.bool b4], V.one (Cell.ptr (some (i5, i6)))] Q = vc90 I s0 n1 n2 n3 b4 i5 i6 Q := by kernel_rfl
/-- slices.Clone[[]handbill/api.Budget,handbill/api.Budget] -/
def vc65 (I : FuncId → List V → Post → T) (l0 : Sl) (Q : Post) : T :=
  ifT l0.a.isNone
    (Q [V.one (Cell.slice 5 { a := none, len := 0 })])
    (fun h1 =>
    ∃ cs2 : List Cell, (h1.sl 5 l0 = some cs2) ∧
    (l0.len * 48 ≤ 140737488355328) ∧
    (newK (YtihnjdhjkpmggaaDoorVc.Obj.cells false cs2) (fun i3 => fun h4 => 
    Q [V.one (Cell.slice 5 { a := some (i3, 0), len := l0.len })] h4)) h1)
theorem den65 (I : FuncId → List V → Post → T) (l0 : Sl) (Q : Post) : denF Go.Proofs.Tryd.prog 0 (⟨[], []⟩) I 65 [V.one (Cell.slice 5 l0)] Q = vc65 I l0 Q := by kernel_rfl
/-- handbill/handkeep1.offers -/
def vc32 (I : FuncId → List V → Post → T) (Q : Post) : T :=
  fun h0 =>
  I 66 [V.one (Cell.str { data := #[49, 50, 51] })]
    (fun cs1 => fun h2 => 
    ∃ s3 : ByteArray, ∃ n4 : Int, (cs1 = [V.one (Cell.str s3), V.one (Cell.int IntKind.i64 n4)]) ∧
    (ifT (decide (n4 = 0))
      (Q [V.one (Cell.bool (decide (s3 = { data := #[49, 50, 51, 67] })))])
      (Q [V.one (Cell.bool false)])) h2) h0
theorem den32 (I : FuncId → List V → Post → T) (Q : Post) : denF Go.Proofs.Tryd.prog 0 (⟨[], []⟩) I 32 [] Q = vc32 I Q := by kernel_rfl
/-- handbill/offer.Seal -/
def vc66 (I : FuncId → List V → Post → T) (s0 : ByteArray) (Q : Post) : T :=
  fun h1 =>
  I 73 [V.one (Cell.int IntKind.i64 (↑s0.size : Int)), V.one (Cell.int IntKind.i64 3), V.one (Cell.int IntKind.i64 23)]
    (fun cs2 => fun h3 => 
    ∃ b4 : Bool, (cs2 = [V.one (Cell.bool b4)]) ∧
    (ifT (!b4)
      (Q [V.one (Cell.str { data := #[] }), V.one (Cell.int IntKind.i64 2)])
      (fun h5 =>
      I 91 [V.one (Cell.str s0)]
        (fun cs6 => fun h7 => 
        ∃ b8 : Bool, (cs6 = [V.one (Cell.bool b8)]) ∧
        (ifT (!b8)
          (Q [V.one (Cell.str { data := #[] }), V.one (Cell.int IntKind.i64 3)])
          (fun h9 =>
          I 92 [V.one (Cell.str s0)]
            (fun cs10 => fun h11 => 
            ∃ s12 : ByteArray, (cs10 = [V.one (Cell.str s12)]) ∧
            Q [V.one (Cell.str s12), V.one (Cell.int IntKind.i64 0)] h11) h9)) h7) h5)) h3) h1
theorem den66 (I : FuncId → List V → Post → T) (s0 : ByteArray) (Q : Post) : denF Go.Proofs.Tryd.prog 0 (⟨[], []⟩) I 66 [V.one (Cell.str s0)] Q = vc66 I s0 Q := by kernel_rfl
/-- handbill/offer.areSigns -/
def vc91 (I : FuncId → List V → Post → T) (s0 : ByteArray) (Q : Post) : T :=
  loopK (A := Int) 0
    (fun x1 => fun n2 => ifT (decide (n2 < (↑s0.size : Int)))
      (fun h3 =>
      ((0 ≤ n2) ∧
      n2 < (↑s0.size : Int)) ∧
      I 99 [V.one (Cell.str signS), V.one (Cell.int IntKind.u8 (byteAt s0 n2))]
        (fun cs4 => fun h5 => 
        ∃ n6 : Int, (cs4 = [V.one (Cell.int IntKind.i64 n6)]) ∧
        (ifT (decide (n6 < 0))
          (Q [V.one (Cell.bool false)])
          (x1 (IntKind.i64.wrap (n2 + 1)))) h5) h3)
      (Q [V.one (Cell.bool true)]))
theorem den91 (I : FuncId → List V → Post → T) (s0 : ByteArray) (Q : Post) : denF Go.Proofs.Tryd.prog 0 (⟨[], [(26, 32716, [(6, tk Go.Proofs.Tryd.prog 3)])]⟩) I 91 [V.one (Cell.str s0)] Q = vc91 I s0 Q := by kernel_rfl
/-- strings.IndexByte -/
def vc99 (I : FuncId → List V → Post → T) (s0 : ByteArray) (n1 : Int) (Q : Post) : T :=
  fun h2 =>
  I 102 [V.one (Cell.str s0), V.one (Cell.int IntKind.u8 n1)]
    (fun cs3 => fun h4 => 
    ∃ n5 : Int, (cs3 = [V.one (Cell.int IntKind.i64 n5)]) ∧
    Q [V.one (Cell.int IntKind.i64 n5)] h4) h2
theorem den99 (I : FuncId → List V → Post → T) (s0 : ByteArray) (n1 : Int) (Q : Post) : denF Go.Proofs.Tryd.prog 0 (⟨[], []⟩) I 99 [V.one (Cell.str s0), V.one (Cell.int IntKind.u8 n1)] Q = vc99 I s0 n1 Q := by kernel_rfl
/-- internal/stringslite.IndexByte -/
def vc102 (I : FuncId → List V → Post → T) (s0 : ByteArray) (n1 : Int) (Q : Post) : T :=
  fun h2 =>
  I 110 [V.one (Cell.str s0), V.one (Cell.int IntKind.u8 n1)]
    (fun cs3 => fun h4 => 
    ∃ n5 : Int, (cs3 = [V.one (Cell.int IntKind.i64 n5)]) ∧
    Q [V.one (Cell.int IntKind.i64 n5)] h4) h2
theorem den102 (I : FuncId → List V → Post → T) (s0 : ByteArray) (n1 : Int) (Q : Post) : denF Go.Proofs.Tryd.prog 0 (⟨[], []⟩) I 102 [V.one (Cell.str s0), V.one (Cell.int IntKind.u8 n1)] Q = vc102 I s0 n1 Q := by kernel_rfl
/-- handbill/offer.seal -/
def vc92 (I : FuncId → List V → Post → T) (s0 : ByteArray) (Q : Post) : T :=
  loopK (A := Int) 0
    (fun x1 => fun n2 => ifT (decide (n2 < 31))
      (fun h3 =>
      ((0 ≤ n2) ∧
      (n2 ≤ IntKind.i64.wrap (n2 + 1)) ∧
      IntKind.i64.wrap (n2 + 1) ≤ (↑31 : Int)) ∧
      (s0.size + (signS.extract n2.toNat (IntKind.i64.wrap (n2 + 1)).toNat).size ≤ 9223372036854775807) ∧
      I 100 [V.one (Cell.str (s0 ++ signS.extract n2.toNat (IntKind.i64.wrap (n2 + 1)).toNat))]
        (fun cs4 => fun h5 => 
        ∃ n6 : Int, (cs4 = [V.one (Cell.int IntKind.i64 n6)]) ∧
        (ifT (decide (n6 = 0))
          (Q [V.one (Cell.str (s0 ++ signS.extract n2.toNat (IntKind.i64.wrap (n2 + 1)).toNat))])
          (x1 (IntKind.i64.wrap (n2 + 1)))) h5) h3)
      (Q [V.one (Cell.str s0)]))
theorem den92 (I : FuncId → List V → Post → T) (s0 : ByteArray) (Q : Post) : denF Go.Proofs.Tryd.prog 0 (⟨[], [(26, 524284, [(5, tk Go.Proofs.Tryd.prog 3)])]⟩) I 92 [V.one (Cell.str s0)] Q = vc92 I s0 Q := by kernel_rfl
/-- handbill/offer.sum -/
def vc100 (I : FuncId → List V → Post → T) (s0 : ByteArray) (Q : Post) : T :=
  loopK (A := Int × Int) ((0, 0))
    (fun x1 => uncur fun n2 n3 => ifT (decide (n3 < (↑s0.size : Int)))
      (fun h4 =>
      ((0 ≤ n3) ∧
      n3 < (↑s0.size : Int)) ∧
      I 99 [V.one (Cell.str signS), V.one (Cell.int IntKind.u8 (byteAt s0 n3))]
        (fun cs5 => fun h6 => 
        ∃ n7 : Int, (cs5 = [V.one (Cell.int IntKind.i64 n7)]) ∧
        x1 ((IntKind.i64.wrap (n2 + IntKind.i64.wrap (IntKind.i64.wrap (n3 + 1) * n7)), IntKind.i64.wrap (n3 + 1))) h6) h4)
      (Q [V.one (Cell.int IntKind.i64 (n2.tmod 31))]))
theorem den100 (I : FuncId → List V → Post → T) (s0 : ByteArray) (Q : Post) : denF Go.Proofs.Tryd.prog 0 (⟨[], [(58, 1048472, [(3, tk Go.Proofs.Tryd.prog 3), (7, tk Go.Proofs.Tryd.prog 3)])]⟩) I 100 [V.one (Cell.str s0)] Q = vc100 I s0 Q := by kernel_rfl
/-- handbill/handref1.BudgetsFault -/
def vc33 (I : FuncId → List V → Post → T) (l0 : Sl) (Q : Post) : T :=
  ifT (decide ((↑l0.len : Int) > 50))
    (Q [V.one (Cell.int IntKind.i64 2)])
    (loopK (A := Int) 0
      (fun x1 => fun n2 => ifT (decide (n2 < (↑l0.len : Int)))
        (fun h3 =>
        ((0 ≤ n2) ∧
        n2 < (↑l0.len : Int)) ∧
        (derefK l0.a (fun i4 => fun i5 => fun h6 =>
        ∃ s7 : ByteArray, ∃ n8 : Int, ∃ n9 : Int, ∃ n10 : Int, ∃ b11 : Bool, (h6.read i4 (i5 + n2.toNat * 5) 5 = some [Cell.str s7, Cell.int IntKind.i64 n8, Cell.int IntKind.i64 n9, Cell.int IntKind.i64 n10, Cell.bool b11]) ∧
        (newK (YtihnjdhjkpmggaaDoorVc.Obj.cells false [Cell.str ByteArray.empty, Cell.int IntKind.i64 0, Cell.int IntKind.i64 0, Cell.int IntKind.i64 0, Cell.bool false]) (fun i12 => fun h13 => 
        (storeK [] i12 0 [Cell.str s7, Cell.int IntKind.i64 n8, Cell.int IntKind.i64 n9, Cell.int IntKind.i64 n10, Cell.bool b11] (fun h14 =>
        ∃ s15 : ByteArray, (h14.read i12 0 1 = some [Cell.str s15]) ∧
        I 45 [V.one (Cell.str s15)]
          (fun cs16 => fun h17 => 
          ∃ b18 : Bool, (cs16 = [V.one (Cell.bool b18)]) ∧
          (ifT (!b18)
            (Q [V.one (Cell.int IntKind.i64 5)])
            (fun h19 =>
            (((0 : Int) ≤ (0 : Int)) ∧
            (0 ≤ n2) ∧
            n2 ≤ (↑l0.len : Int)) ∧
            I 67 [V.one (Cell.slice 5 (l0.sub 5 0 n2.toNat)), V.one (Cell.func (some (68, [(i12, 0)])))]
              (fun cs20 => fun h21 => 
              ∃ b22 : Bool, (cs20 = [V.one (Cell.bool b22)]) ∧
              (ifT b22
                (Q [V.one (Cell.int IntKind.i64 6)])
                (fun h23 =>
                ∃ n24 : Int, (h23.read i12 1 1 = some [Cell.int IntKind.i64 n24]) ∧
                (ifT (decide (n24 < 0))
                  (Q [V.one (Cell.int IntKind.i64 1)])
                  (fun h25 =>
                  ∃ n26 : Int, (h25.read i12 1 1 = some [Cell.int IntKind.i64 n26]) ∧
                  (ifT (decide (n26 > 1000000000000))
                    (Q [V.one (Cell.int IntKind.i64 1)])
                    (fun h27 =>
                    ∃ n28 : Int, (h27.read i12 2 1 = some [Cell.int IntKind.i64 n28]) ∧
                    (ifT (decide (n28 < 0))
                      (Q [V.one (Cell.int IntKind.i64 1)])
                      (fun h29 =>
                      ∃ n30 : Int, (h29.read i12 2 1 = some [Cell.int IntKind.i64 n30]) ∧
                      ∃ n31 : Int, (h29.read i12 3 1 = some [Cell.int IntKind.i64 n31]) ∧
                      (ifT (decide (n30 > n31))
                        (Q [V.one (Cell.int IntKind.i64 1)])
                        (fun h32 =>
                        ∃ n33 : Int, (h32.read i12 3 1 = some [Cell.int IntKind.i64 n33]) ∧
                        (ifT (decide (n33 > 3000))
                          (Q [V.one (Cell.int IntKind.i64 1)])
                          (x1 (IntKind.i64.wrap (n2 + 1)))) h32)) h29)) h27)) h25)) h23)) h21) h19)) h17) h14)) h13)) h6)) h3)
        (Q [V.one (Cell.int IntKind.i64 0)])))
theorem den33 (I : FuncId → List V → Post → T) (l0 : Sl) (Q : Post) : denF Go.Proofs.Tryd.prog 0 (⟨[], [(58, 9007199254739996, [(10, tk Go.Proofs.Tryd.prog 3)])]⟩) I 33 [V.one (Cell.slice 5 l0)] Q = vc33 I l0 Q := by kernel_rfl
/-- handbill/handref1.BudgetsFault$1 -/
def vc68 (I : FuncId → List V → Post → T) (s0 : ByteArray) (n1 : Int) (n2 : Int) (n3 : Int) (b4 : Bool) (i5 : Nat) (i6 : Nat) (Q : Post) : T :=
  fun h7 =>
  ∃ s8 : ByteArray, (h7.read i5 (i6 + 0) 1 = some [Cell.str s8]) ∧
  Q [V.one (Cell.bool (decide (s0 = s8)))] h7
theorem den68 (I : FuncId → List V → Post → T) (s0 : ByteArray) (n1 : Int) (n2 : Int) (n3 : Int) (b4 : Bool) (i5 : Nat) (i6 : Nat) (Q : Post) : denF Go.Proofs.Tryd.prog 4 (⟨[], []⟩) I 68 [V.agg [Cell.str s0, Cell.int IntKind.i64 n1, Cell.int IntKind.i64 n2, Cell.int IntKind.i64 n3, Cell.bool b4], V.one (Cell.ptr (some (i5, i6)))] Q = vc68 I s0 n1 n2 n3 b4 i5 i6 Q := by kernel_rfl
/-- (*handbill/offer.Purse).Commit -/
def vc34 (I : FuncId → List V → Post → T) (p0 : Option (Nat × Nat)) (n1 : Int) (n2 : Int) (Q : Post) : T :=
  fun h3 =>
  I 69 [V.one (Cell.ptr p0), V.one (Cell.int IntKind.i64 n1), V.one (Cell.int IntKind.i64 n2), V.one (Cell.int IntKind.i64 2), V.one (Cell.func (some (70, [])))]
    (fun cs4 => fun h5 => 
    ∃ n6 : Int, (cs4 = [V.one (Cell.int IntKind.i64 n6)]) ∧
    Q [V.one (Cell.int IntKind.i64 n6)] h5) h3
theorem den34 (I : FuncId → List V → Post → T) (p0 : Option (Nat × Nat)) (n1 : Int) (n2 : Int) (Q : Post) : denF Go.Proofs.Tryd.prog 0 (⟨[], []⟩) I 34 [V.one (Cell.ptr p0), V.one (Cell.int IntKind.i64 n1), V.one (Cell.int IntKind.i64 n2)] Q = vc34 I p0 n1 n2 Q := by kernel_rfl
/-- (*handbill/offer.Purse).turn -/
def vc69 (I : FuncId → List V → Post → T) (p0 : Option (Nat × Nat)) (n1 : Int) (n2 : Int) (n3 : Int) (p4 : Option (Nat × List (Nat × Nat))) (Q : Post) : T :=
  derefK p0 (fun i5 => fun i6 => fun h7 =>
  ∃ l8 : Sl, (h7.read i5 (i6 + 1) 1 = some [Cell.slice 6 l8]) ∧
  I 73 [V.one (Cell.int IntKind.i64 n1), V.one (Cell.int IntKind.i64 1), V.one (Cell.int IntKind.i64 (↑l8.len : Int))]
    (fun cs9 => fun h10 => 
    ∃ b11 : Bool, (cs9 = [V.one (Cell.bool b11)]) ∧
    (ifT (!b11)
      (Q [V.one (Cell.int IntKind.i64 8)])
      (fun h12 =>
      I 74 [V.one (Cell.int IntKind.i64 n2)]
        (fun cs13 => fun h14 => 
        ∃ b15 : Bool, (cs13 = [V.one (Cell.bool b15)]) ∧
        (ifT (!b15)
          (Q [V.one (Cell.int IntKind.i64 1)])
          (derefK p0 (fun i16 => fun i17 => fun h18 =>
          ∃ n19 : Int, (h18.read i16 (i17 + 2) 1 = some [Cell.int IntKind.i64 n19]) ∧
          (ifT (decide (n2 < n19))
            (Q [V.one (Cell.int IntKind.i64 7)])
            (derefK p0 (fun i20 => fun i21 => fun h22 =>
            ∃ l23 : Sl, (h22.read i20 (i21 + 1) 1 = some [Cell.slice 6 l23]) ∧
            ((0 ≤ IntKind.i64.wrap (n1 - 1)) ∧
            IntKind.i64.wrap (n1 - 1) < (↑l23.len : Int)) ∧
            (derefK l23.a (fun i24 => fun i25 => fun h26 =>
            ∃ n27 : Int, ∃ s28 : ByteArray, ∃ n29 : Int, ∃ n30 : Int, ∃ n31 : Int, ∃ n32 : Int, (h26.read i24 (i25 + (IntKind.i64.wrap (n1 - 1)).toNat * 6) 6 = some [Cell.int IntKind.i64 n27, Cell.str s28, Cell.int IntKind.i64 n29, Cell.int IntKind.i64 n30, Cell.int IntKind.i64 n31, Cell.int IntKind.i64 n32]) ∧
            I 78 [V.agg [Cell.int IntKind.i64 n27, Cell.str s28, Cell.int IntKind.i64 n29, Cell.int IntKind.i64 n30, Cell.int IntKind.i64 n31, Cell.int IntKind.i64 n32], V.one (Cell.int IntKind.i64 n2)]
              (fun cs33 => fun h34 => 
              ∃ n35 : Int, (cs33 = [V.one (Cell.int IntKind.i64 n35)]) ∧
              (funK p4 (fun i36 => fun cs37 => fun h38 => 
              I i36 (V.one (Cell.int IntKind.i64 n35) :: cs37)
                (fun cs39 => fun h40 => 
                ∃ b41 : Bool, (cs39 = [V.one (Cell.bool b41)]) ∧
                (ifT (!b41)
                  (Q [V.one (Cell.int IntKind.i64 11)])
                  (derefK p0 (fun i42 => fun i43 => fun h44 =>
                  (storeK [] i42 (i43 + 2) [Cell.int IntKind.i64 n2] (derefK p0 (fun i45 => fun i46 => fun h47 =>
                  ∃ l48 : Sl, (h47.read i45 (i46 + 1) 1 = some [Cell.slice 6 l48]) ∧
                  ((0 ≤ IntKind.i64.wrap (n1 - 1)) ∧
                  IntKind.i64.wrap (n1 - 1) < (↑l48.len : Int)) ∧
                  (derefK l48.a (fun i49 => fun i50 => fun h51 =>
                  (storeK [] i49 (i50 + (IntKind.i64.wrap (n1 - 1)).toNat * 6 + 5) [Cell.int IntKind.i64 n3] (Q [V.one (Cell.int IntKind.i64 0)])) h51)) h47))) h44))) h40) h38)) h34) h26)) h22))) h18))) h14) h12)) h10) h7)
theorem den69 (I : FuncId → List V → Post → T) (p0 : Option (Nat × Nat)) (n1 : Int) (n2 : Int) (n3 : Int) (p4 : Option (Nat × List (Nat × Nat))) (Q : Post) : denF Go.Proofs.Tryd.prog 0 (⟨[], []⟩) I 69 [V.one (Cell.ptr p0), V.one (Cell.int IntKind.i64 n1), V.one (Cell.int IntKind.i64 n2), V.one (Cell.int IntKind.i64 n3), V.one (Cell.func p4)] Q = vc69 I p0 n1 n2 n3 p4 Q := by kernel_rfl
/-- handbill/offer.isMoment -/
def vc74 (I : FuncId → List V → Post → T) (n0 : Int) (Q : Post) : T :=
  fun h1 =>
  I 73 [V.one (Cell.int IntKind.i64 n0), V.one (Cell.int IntKind.i64 0), V.one (Cell.int IntKind.i64 4321439)]
    (fun cs2 => fun h3 => 
    ∃ b4 : Bool, (cs2 = [V.one (Cell.bool b4)]) ∧
    Q [V.one (Cell.bool b4)] h3) h1
theorem den74 (I : FuncId → List V → Post → T) (n0 : Int) (Q : Post) : denF Go.Proofs.Tryd.prog 0 (⟨[], []⟩) I 74 [V.one (Cell.int IntKind.i64 n0)] Q = vc74 I n0 Q := by kernel_rfl
/-- handbill/offer.stateAt -/
def vc78 (I : FuncId → List V → Post → T) (n0 : Int) (s1 : ByteArray) (n2 : Int) (n3 : Int) (n4 : Int) (n5 : Int) (n6 : Int) (Q : Post) : T :=
  ifT (decide (n5 = 1))
    (ifT (decide (n6 ≥ n4))
      (Q [V.one (Cell.int IntKind.i64 4)])
      (Q [V.one (Cell.int IntKind.i64 n5)]))
    (Q [V.one (Cell.int IntKind.i64 n5)])
theorem den78 (I : FuncId → List V → Post → T) (n0 : Int) (s1 : ByteArray) (n2 : Int) (n3 : Int) (n4 : Int) (n5 : Int) (n6 : Int) (Q : Post) : denF Go.Proofs.Tryd.prog 4 (⟨[], []⟩) I 78 [V.agg [Cell.int IntKind.i64 n0, Cell.str s1, Cell.int IntKind.i64 n2, Cell.int IntKind.i64 n3, Cell.int IntKind.i64 n4, Cell.int IntKind.i64 n5], V.one (Cell.int IntKind.i64 n6)] Q = vc78 I n0 s1 n2 n3 n4 n5 n6 Q := by kernel_rfl
/-- (*handbill/offer.Purse).Commit$1 -/
def vc70 (I : FuncId → List V → Post → T) (n0 : Int) (Q : Post) : T :=
  Q [V.one (Cell.bool (decide (n0 = 1)))]
theorem den70 (I : FuncId → List V → Post → T) (n0 : Int) (Q : Post) : denF Go.Proofs.Tryd.prog 0 (⟨[], []⟩) I 70 [V.one (Cell.int IntKind.i64 n0)] Q = vc70 I n0 Q := by kernel_rfl
/-- (*handbill/offer.Purse).Release -/
def vc36 (I : FuncId → List V → Post → T) (p0 : Option (Nat × Nat)) (n1 : Int) (n2 : Int) (Q : Post) : T :=
  fun h3 =>
  I 69 [V.one (Cell.ptr p0), V.one (Cell.int IntKind.i64 n1), V.one (Cell.int IntKind.i64 n2), V.one (Cell.int IntKind.i64 3), V.one (Cell.func (some (71, [])))]
    (fun cs4 => fun h5 => 
    ∃ n6 : Int, (cs4 = [V.one (Cell.int IntKind.i64 n6)]) ∧
    Q [V.one (Cell.int IntKind.i64 n6)] h5) h3
theorem den36 (I : FuncId → List V → Post → T) (p0 : Option (Nat × Nat)) (n1 : Int) (n2 : Int) (Q : Post) : denF Go.Proofs.Tryd.prog 0 (⟨[], []⟩) I 36 [V.one (Cell.ptr p0), V.one (Cell.int IntKind.i64 n1), V.one (Cell.int IntKind.i64 n2)] Q = vc36 I p0 n1 n2 Q := by kernel_rfl
/-- (*handbill/offer.Purse).Release$1 -/
def vc71 (I : FuncId → List V → Post → T) (n0 : Int) (Q : Post) : T :=
  ifT (decide (n0 = 1))
    (Q [V.one (Cell.bool true)])
    (Q [V.one (Cell.bool (decide (n0 = 2)))])
theorem den71 (I : FuncId → List V → Post → T) (n0 : Int) (Q : Post) : denF Go.Proofs.Tryd.prog 0 (⟨[], []⟩) I 71 [V.one (Cell.int IntKind.i64 n0)] Q = vc71 I n0 Q := by kernel_rfl
/-- (*handbill/offer.Purse).Reserve -/
def vc37 (I : FuncId → List V → Post → T) (p0 : Option (Nat × Nat)) (s1 : ByteArray) (n2 : Int) (n3 : Int) (n4 : Int) (Q : Post) : T :=
  fun h5 =>
  I 72 [V.one (Cell.ptr p0), V.one (Cell.str s1)]
    (fun cs6 => fun h7 => 
    ∃ s8 : ByteArray, ∃ n9 : Int, ∃ n10 : Int, ∃ n11 : Int, ∃ b12 : Bool, ∃ b13 : Bool, (cs6 = [V.agg [Cell.str s8, Cell.int IntKind.i64 n9, Cell.int IntKind.i64 n10, Cell.int IntKind.i64 n11, Cell.bool b12], V.one (Cell.bool b13)]) ∧
    (ifT (!b13)
      (Q [V.one (Cell.int IntKind.i64 0), V.one (Cell.int IntKind.i64 8)])
      (joinK (A := Bool)
        (fun b14 => ifT b14
          (Q [V.one (Cell.int IntKind.i64 0), V.one (Cell.int IntKind.i64 1)])
          (derefK p0 (fun i15 => fun i16 => fun h17 =>
          ∃ n18 : Int, (h17.read i15 (i16 + 2) 1 = some [Cell.int IntKind.i64 n18]) ∧
          (ifT (decide (n3 < n18))
            (Q [V.one (Cell.int IntKind.i64 0), V.one (Cell.int IntKind.i64 7)])
            (joinK (A := Bool)
              (fun b19 => ifT b19
                (Q [V.one (Cell.int IntKind.i64 0), V.one (Cell.int IntKind.i64 12)])
                (derefK p0 (fun i20 => fun i21 => fun h22 =>
                (storeK [] i20 (i21 + 2) [Cell.int IntKind.i64 n3] (derefK p0 (fun i23 => fun i24 => fun h25 =>
                ∃ l26 : Sl, (h25.read i23 (i24 + 1) 1 = some [Cell.slice 6 l26]) ∧
                (derefK p0 (fun i27 => fun i28 => fun h29 =>
                ∃ l30 : Sl, (h29.read i27 (i28 + 1) 1 = some [Cell.slice 6 l30]) ∧
                (appendTo [] 6 56 l30 1 [Cell.int IntKind.i64 (IntKind.i64.wrap ((↑l26.len : Int) + 1)), Cell.str s1, Cell.int IntKind.i64 n2, Cell.int IntKind.i64 n3, Cell.int IntKind.i64 n4, Cell.int IntKind.i64 1] (fun l31 => derefK p0 (fun i32 => fun i33 => fun h34 =>
                (storeK [] i32 (i33 + 1) [Cell.slice 6 l31] (Q [V.one (Cell.int IntKind.i64 (IntKind.i64.wrap ((↑l26.len : Int) + 1))), V.one (Cell.int IntKind.i64 0)])) h34))) h29)) h25))) h22)))
              (fun x35 => derefK p0 (fun i36 => fun i37 => fun h38 =>
              ∃ l39 : Sl, (h38.read i36 (i37 + 1) 1 = some [Cell.slice 6 l39]) ∧
              (ifT (decide ((↑l39.len : Int) ≥ 2000))
                (x35 true)
                (fun h40 =>
                I 75 [V.one (Cell.ptr p0), V.one (Cell.str s1), V.one (Cell.int IntKind.i64 n3)]
                  (fun cs41 => fun h42 => 
                  ∃ n43 : Int, (cs41 = [V.one (Cell.int IntKind.i64 n43)]) ∧
                  I 76 [V.agg [Cell.str s8, Cell.int IntKind.i64 n9, Cell.int IntKind.i64 n10, Cell.int IntKind.i64 n11, Cell.bool b12], V.one (Cell.int IntKind.i64 n3)]
                    (fun cs44 => fun h45 => 
                    ∃ n46 : Int, (cs44 = [V.one (Cell.int IntKind.i64 n46)]) ∧
                    x35 (decide (IntKind.i64.wrap (n43 + n2) > n46)) h45) h42) h40)) h38)))) h17)))
        (fun x47 => fun h48 => 
        I 73 [V.one (Cell.int IntKind.i64 n2), V.one (Cell.int IntKind.i64 1), V.one (Cell.int IntKind.i64 1000000000000)]
          (fun cs49 => fun h50 => 
          ∃ b51 : Bool, (cs49 = [V.one (Cell.bool b51)]) ∧
          (ifT (!b51)
            (x47 true)
            (fun h52 =>
            I 74 [V.one (Cell.int IntKind.i64 n3)]
              (fun cs53 => fun h54 => 
              ∃ b55 : Bool, (cs53 = [V.one (Cell.bool b55)]) ∧
              (ifT (!b55)
                (x47 true)
                (fun h56 =>
                I 73 [V.one (Cell.int IntKind.i64 n4), V.one (Cell.int IntKind.i64 (IntKind.i64.wrap (n3 + 1))), V.one (Cell.int IntKind.i64 4321440)]
                  (fun cs57 => fun h58 => 
                  ∃ b59 : Bool, (cs57 = [V.one (Cell.bool b59)]) ∧
                  x47 (!b59) h58) h56)) h54) h52)) h50) h48))) h7) h5
theorem den37 (I : FuncId → List V → Post → T) (p0 : Option (Nat × Nat)) (s1 : ByteArray) (n2 : Int) (n3 : Int) (n4 : Int) (Q : Post) : denF Go.Proofs.Tryd.prog 4096 (⟨[(230, 1099494850560, [(24, tk Go.Proofs.Tryd.prog 4)]), (3710, 73786835557349851136, [(47, tk Go.Proofs.Tryd.prog 4)])], []⟩) I 37 [V.one (Cell.ptr p0), V.one (Cell.str s1), V.one (Cell.int IntKind.i64 n2), V.one (Cell.int IntKind.i64 n3), V.one (Cell.int IntKind.i64 n4)] Q = vc37 I p0 s1 n2 n3 n4 Q := by kernel_rfl
/-- (*handbill/offer.Purse).budgetOf -/
def vc72 (I : FuncId → List V → Post → T) (p0 : Option (Nat × Nat)) (s1 : ByteArray) (Q : Post) : T :=
  fun h2 =>
  (newK (YtihnjdhjkpmggaaDoorVc.Obj.cells false [Cell.str s1]) (fun i3 => derefK p0 (fun i4 => fun i5 => fun h6 =>
  ∃ l7 : Sl, (h6.read i4 (i5 + 0) 1 = some [Cell.slice 5 l7]) ∧
  I 93 [V.one (Cell.slice 5 l7), V.one (Cell.func (some (94, [(i3, 0)])))]
    (fun cs8 => fun h9 => 
    ∃ n10 : Int, (cs8 = [V.one (Cell.int IntKind.i64 n10)]) ∧
    (ifT (decide (n10 < 0))
      (fun h11 =>
      Q [V.agg [Cell.str ByteArray.empty, Cell.int IntKind.i64 0, Cell.int IntKind.i64 0, Cell.int IntKind.i64 0, Cell.bool false], V.one (Cell.bool false)] h11)
      (derefK p0 (fun i12 => fun i13 => fun h14 =>
      ∃ l15 : Sl, (h14.read i12 (i13 + 0) 1 = some [Cell.slice 5 l15]) ∧
      ((0 ≤ n10) ∧
      n10 < (↑l15.len : Int)) ∧
      (derefK l15.a (fun i16 => fun i17 => fun h18 =>
      ∃ s19 : ByteArray, ∃ n20 : Int, ∃ n21 : Int, ∃ n22 : Int, ∃ b23 : Bool, (h18.read i16 (i17 + n10.toNat * 5) 5 = some [Cell.str s19, Cell.int IntKind.i64 n20, Cell.int IntKind.i64 n21, Cell.int IntKind.i64 n22, Cell.bool b23]) ∧
      Q [V.agg [Cell.str s19, Cell.int IntKind.i64 n20, Cell.int IntKind.i64 n21, Cell.int IntKind.i64 n22, Cell.bool b23], V.one (Cell.bool true)] h18)) h14))) h9) h6))) h2
theorem den72 (I : FuncId → List V → Post → T) (p0 : Option (Nat × Nat)) (s1 : ByteArray) (Q : Post) : denF Go.Proofs.Tryd.prog 16 (⟨[], []⟩) I 72 [V.one (Cell.ptr p0), V.one (Cell.str s1)] Q = vc72 I p0 s1 Q := by kernel_rfl
/-- (*handbill/offer.Purse).budgetOf$1 -/
def vc94 (I : FuncId → List V → Post → T) (s0 : ByteArray) (n1 : Int) (n2 : Int) (n3 : Int) (b4 : Bool) (i5 : Nat) (i6 : Nat) (Q : Post) : T :=
  fun h7 =>
  ∃ s8 : ByteArray, (h7.read i5 i6 1 = some [Cell.str s8]) ∧
  Q [V.one (Cell.bool (decide (s0 = s8)))] h7
theorem den94 (I : FuncId → List V → Post → T) (s0 : ByteArray) (n1 : Int) (n2 : Int) (n3 : Int) (b4 : Bool) (i5 : Nat) (i6 : Nat) (Q : Post) : denF Go.Proofs.Tryd.prog 4 (⟨[], []⟩) I 94 [V.agg [Cell.str s0, Cell.int IntKind.i64 n1, Cell.int IntKind.i64 n2, Cell.int IntKind.i64 n3, Cell.bool b4], V.one (Cell.ptr (some (i5, i6)))] Q = vc94 I s0 n1 n2 n3 b4 i5 i6 Q := by kernel_rfl
/-- (*handbill/offer.Purse).taken -/
def vc75 (I : FuncId → List V → Post → T) (p0 : Option (Nat × Nat)) (s1 : ByteArray) (n2 : Int) (Q : Post) : T :=
  derefK p0 (fun i3 => fun i4 => fun h5 =>
  ∃ l6 : Sl, (h5.read i3 (i4 + 1) 1 = some [Cell.slice 6 l6]) ∧
  (loopK (A := Int × Int) ((0, 0))
    (fun x7 => uncur fun n8 n9 => ifT (decide (n9 < (↑l6.len : Int)))
      (fun h10 =>
      ((0 ≤ n9) ∧
      n9 < (↑l6.len : Int)) ∧
      (derefK l6.a (fun i11 => fun i12 => fun h13 =>
      ∃ n14 : Int, ∃ s15 : ByteArray, ∃ n16 : Int, ∃ n17 : Int, ∃ n18 : Int, ∃ n19 : Int, (h13.read i11 (i12 + n9.toNat * 6) 6 = some [Cell.int IntKind.i64 n14, Cell.str s15, Cell.int IntKind.i64 n16, Cell.int IntKind.i64 n17, Cell.int IntKind.i64 n18, Cell.int IntKind.i64 n19]) ∧
      I 78 [V.agg [Cell.int IntKind.i64 n14, Cell.str s15, Cell.int IntKind.i64 n16, Cell.int IntKind.i64 n17, Cell.int IntKind.i64 n18, Cell.int IntKind.i64 n19], V.one (Cell.int IntKind.i64 n2)]
        (fun cs20 => fun h21 => 
        ∃ n22 : Int, (cs20 = [V.one (Cell.int IntKind.i64 n22)]) ∧
        (ifT (decide (s15 = s1))
          (ifT (decide (n22 = 1))
            (x7 ((IntKind.i64.wrap (n8 + n16), IntKind.i64.wrap (n9 + 1))))
            (ifT (decide (n22 = 2))
              (x7 ((IntKind.i64.wrap (n8 + n16), IntKind.i64.wrap (n9 + 1))))
              (x7 ((n8, IntKind.i64.wrap (n9 + 1))))))
          (x7 ((n8, IntKind.i64.wrap (n9 + 1))))) h21) h13)) h10)
      (Q [V.one (Cell.int IntKind.i64 n8)]))) h5)
theorem den75 (I : FuncId → List V → Post → T) (p0 : Option (Nat × Nat)) (s1 : ByteArray) (n2 : Int) (Q : Post) : denF Go.Proofs.Tryd.prog 512 (⟨[], [(58, 1099511563904, [(7, tk Go.Proofs.Tryd.prog 3), (16, tk Go.Proofs.Tryd.prog 3)])]⟩) I 75 [V.one (Cell.ptr p0), V.one (Cell.str s1), V.one (Cell.int IntKind.i64 n2)] Q = vc75 I p0 s1 n2 Q := by kernel_rfl
/-- handbill/offer.paced -/
def vc76 (I : FuncId → List V → Post → T) (s0 : ByteArray) (n1 : Int) (n2 : Int) (n3 : Int) (b4 : Bool) (n5 : Int) (Q : Post) : T :=
  ifT (decide (IntKind.i64.wrap (n5.tdiv 1440) < n2))
    (Q [V.one (Cell.int IntKind.i64 0)])
    (joinK (A := Bool)
      (fun b6 => ifT b6
        (Q [V.one (Cell.int IntKind.i64 n1)])
        (fun h7 =>
        (IntKind.i64.wrap (IntKind.i64.wrap (n3 - n2) + 1) ≠ 0) ∧
        Q [V.one (Cell.int IntKind.i64 (IntKind.i64.wrap ((IntKind.i64.wrap (n1 * IntKind.i64.wrap (IntKind.i64.wrap (IntKind.i64.wrap (n5.tdiv 1440) - n2) + 1))).tdiv (IntKind.i64.wrap (IntKind.i64.wrap (n3 - n2) + 1)))))] h7))
      (fun x8 => ifT (decide (IntKind.i64.wrap (n5.tdiv 1440) ≥ n3))
        (x8 true)
        (x8 (!b4))))
theorem den76 (I : FuncId → List V → Post → T) (s0 : ByteArray) (n1 : Int) (n2 : Int) (n3 : Int) (b4 : Bool) (n5 : Int) (Q : Post) : denF Go.Proofs.Tryd.prog 4 (⟨[(230, 8380416, [(13, tk Go.Proofs.Tryd.prog 4)])], []⟩) I 76 [V.agg [Cell.str s0, Cell.int IntKind.i64 n1, Cell.int IntKind.i64 n2, Cell.int IntKind.i64 n3, Cell.bool b4], V.one (Cell.int IntKind.i64 n5)] Q = vc76 I s0 n1 n2 n3 b4 n5 Q := by kernel_rfl
/-- (*handbill/offer.Purse).Holds -/
def vc38 (I : FuncId → List V → Post → T) (p0 : Option (Nat × Nat)) (Q : Post) : T :=
  derefK p0 (fun i1 => fun i2 => fun h3 =>
  ∃ l4 : Sl, (h3.read i1 (i2 + 1) 1 = some [Cell.slice 6 l4]) ∧
  I 77 [V.one (Cell.slice 6 l4)]
    (fun cs5 => fun h6 => 
    ∃ l7 : Sl, (cs5 = [V.one (Cell.slice 6 l7)]) ∧
    (loopK (A := Int) 0
      (fun x8 => fun n9 => ifT (decide (n9 < (↑l7.len : Int)))
        (fun h10 =>
        ((0 ≤ n9) ∧
        n9 < (↑l7.len : Int)) ∧
        (derefK l7.a (fun i11 => fun i12 => fun h13 =>
        ∃ n14 : Int, ∃ s15 : ByteArray, ∃ n16 : Int, ∃ n17 : Int, ∃ n18 : Int, ∃ n19 : Int, (h13.read i11 (i12 + n9.toNat * 6) 6 = some [Cell.int IntKind.i64 n14, Cell.str s15, Cell.int IntKind.i64 n16, Cell.int IntKind.i64 n17, Cell.int IntKind.i64 n18, Cell.int IntKind.i64 n19]) ∧
        (derefK p0 (fun i20 => fun i21 => fun h22 =>
        ∃ n23 : Int, (h22.read i20 (i21 + 2) 1 = some [Cell.int IntKind.i64 n23]) ∧
        I 78 [V.agg [Cell.int IntKind.i64 n14, Cell.str s15, Cell.int IntKind.i64 n16, Cell.int IntKind.i64 n17, Cell.int IntKind.i64 n18, Cell.int IntKind.i64 n19], V.one (Cell.int IntKind.i64 n23)]
          (fun cs24 => fun h25 => 
          ∃ n26 : Int, (cs24 = [V.one (Cell.int IntKind.i64 n26)]) ∧
          ((0 ≤ n9) ∧
          n9 < (↑l7.len : Int)) ∧
          (derefK l7.a (fun i27 => fun i28 => fun h29 =>
          (storeK [] i27 (i28 + n9.toNat * 6 + 5) [Cell.int IntKind.i64 n26] (x8 (IntKind.i64.wrap (n9 + 1)))) h29)) h25) h22)) h13)) h10)
        (Q [V.one (Cell.slice 6 l7)]))) h6) h3)
theorem den38 (I : FuncId → List V → Post → T) (p0 : Option (Nat × Nat)) (Q : Post) : denF Go.Proofs.Tryd.prog 32 (⟨[], [(58, 536862768, [(13, tk Go.Proofs.Tryd.prog 3)])]⟩) I 38 [V.one (Cell.ptr p0)] Q = vc38 I p0 Q := by kernel_rfl
/-- slices.Clone[[]handbill/api.Hold,handbill/api.Hold] -/
def vc77 (I : FuncId → List V → Post → T) (l0 : Sl) (Q : Post) : T :=
  ifT l0.a.isNone
    (Q [V.one (Cell.slice 6 { a := none, len := 0 })])
    (fun h1 =>
    ∃ cs2 : List Cell, (h1.sl 6 l0 = some cs2) ∧
    (l0.len * 56 ≤ 140737488355328) ∧
    (newK (YtihnjdhjkpmggaaDoorVc.Obj.cells false cs2) (fun i3 => fun h4 => 
    Q [V.one (Cell.slice 6 { a := some (i3, 0), len := l0.len })] h4)) h1)
theorem den77 (I : FuncId → List V → Post → T) (l0 : Sl) (Q : Post) : denF Go.Proofs.Tryd.prog 0 (⟨[], []⟩) I 77 [V.one (Cell.slice 6 l0)] Q = vc77 I l0 Q := by kernel_rfl
/-- (*handbill/offer.Purse).Left -/
def vc39 (I : FuncId → List V → Post → T) (p0 : Option (Nat × Nat)) (s1 : ByteArray) (n2 : Int) (Q : Post) : T :=
  fun h3 =>
  I 72 [V.one (Cell.ptr p0), V.one (Cell.str s1)]
    (fun cs4 => fun h5 => 
    ∃ s6 : ByteArray, ∃ n7 : Int, ∃ n8 : Int, ∃ n9 : Int, ∃ b10 : Bool, ∃ b11 : Bool, (cs4 = [V.agg [Cell.str s6, Cell.int IntKind.i64 n7, Cell.int IntKind.i64 n8, Cell.int IntKind.i64 n9, Cell.bool b10], V.one (Cell.bool b11)]) ∧
    (ifT (!b11)
      (Q [V.one (Cell.int IntKind.i64 0), V.one (Cell.int IntKind.i64 8)])
      (fun h12 =>
      I 74 [V.one (Cell.int IntKind.i64 n2)]
        (fun cs13 => fun h14 => 
        ∃ b15 : Bool, (cs13 = [V.one (Cell.bool b15)]) ∧
        (ifT (!b15)
          (Q [V.one (Cell.int IntKind.i64 0), V.one (Cell.int IntKind.i64 1)])
          (derefK p0 (fun i16 => fun i17 => fun h18 =>
          ∃ n19 : Int, (h18.read i16 (i17 + 2) 1 = some [Cell.int IntKind.i64 n19]) ∧
          (ifT (decide (n2 < n19))
            (Q [V.one (Cell.int IntKind.i64 0), V.one (Cell.int IntKind.i64 7)])
            (fun h20 =>
            I 76 [V.agg [Cell.str s6, Cell.int IntKind.i64 n7, Cell.int IntKind.i64 n8, Cell.int IntKind.i64 n9, Cell.bool b10], V.one (Cell.int IntKind.i64 n2)]
              (fun cs21 => fun h22 => 
              ∃ n23 : Int, (cs21 = [V.one (Cell.int IntKind.i64 n23)]) ∧
              I 75 [V.one (Cell.ptr p0), V.one (Cell.str s1), V.one (Cell.int IntKind.i64 n2)]
                (fun cs24 => fun h25 => 
                ∃ n26 : Int, (cs24 = [V.one (Cell.int IntKind.i64 n26)]) ∧
                Q [V.one (Cell.int IntKind.i64 (max (IntKind.i64.wrap (n23 - n26)) 0)), V.one (Cell.int IntKind.i64 0)] h25) h22) h20)) h18))) h14) h12)) h5) h3
theorem den39 (I : FuncId → List V → Post → T) (p0 : Option (Nat × Nat)) (s1 : ByteArray) (n2 : Int) (Q : Post) : denF Go.Proofs.Tryd.prog 256 (⟨[], []⟩) I 39 [V.one (Cell.ptr p0), V.one (Cell.str s1), V.one (Cell.int IntKind.i64 n2)] Q = vc39 I p0 s1 n2 Q := by kernel_rfl
def vc23 (I : FuncId → List V → Post → T) (p0 : Option (Nat × Nat)) (l1 : Sl) (Q : Post) : T :=
  fun h2 =>
  I 42 [V.one (Cell.ptr p0), V.one (Cell.slice 1 l1)]
    (fun cs3 => fun h4 => 
    ∃ s5 : ByteArray, (cs3 = [V.one (Cell.str s5)]) ∧
    Q [V.one (Cell.str s5)] h4) h2
theorem den23 (I : FuncId → List V → Post → T) (p0 : Option (Nat × Nat)) (l1 : Sl) (Q : Post) : denF Go.Proofs.Tryd.prog 0 (⟨[], []⟩) I 23 [V.one (Cell.ptr p0), V.one (Cell.slice 1 l1)] Q = vc23 I p0 l1 Q := by kernel_rfl
def vc35 (I : FuncId → List V → Post → T) (p0 : Option (Nat × Nat)) (n1 : Int) (n2 : Int) (Q : Post) : T :=
  ifT (decide (n2 < n1))
    (Q [V.one (Cell.int IntKind.i64 n1)])
    (fun h3 =>
    I 12 [V.one (Cell.ptr p0), V.one (Cell.int IntKind.i64 (IntKind.i64.wrap (IntKind.i64.wrap (n2 - n1) + 1)))]
      (fun cs4 => fun h5 => 
      ∃ n6 : Int, (cs4 = [V.one (Cell.int IntKind.i64 n6)]) ∧
      Q [V.one (Cell.int IntKind.i64 (IntKind.i64.wrap (n1 + n6)))] h5) h3)
theorem den35 (I : FuncId → List V → Post → T) (p0 : Option (Nat × Nat)) (n1 : Int) (n2 : Int) (Q : Post) : denF Go.Proofs.Tryd.prog 0 (⟨[], []⟩) I 35 [V.one (Cell.ptr p0), V.one (Cell.int IntKind.i64 n1), V.one (Cell.int IntKind.i64 n2)] Q = vc35 I p0 n1 n2 Q := by kernel_rfl

end Go.Proofs.YtihnjdhjkpmggaaDoorVc
