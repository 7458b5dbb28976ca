/- Formulas of the functions that ArmsDrawn reaches beyond those of SentChecks. -/
import Derived.Test.YtihnjdhjkpmggaaDoorVcSeSpec4
set_option linter.unusedVariables false
set_option maxRecDepth 100000
namespace Go.Proofs.YtihnjdhjkpmggaaDoorVc
/-- handbill/handlaw1.ArmsDrawn -/
def vc4 (I : FuncId → List V → Post → T) (l0 : Sl) (Q : Post) : T :=
  fun h1 =>
  (newK (YtihnjdhjkpmggaaDoorVc.Obj.cells false [Cell.slice 1 l0, Cell.int IntKind.i64 0]) (fun i2 => fun h3 => 
  I 19 [V.one (Cell.ptr (some (i2, 0)))]
    (fun cs4 => fun h5 => 
    ∃ s6 : ByteArray, ∃ l7 : Sl, ∃ n8 : Int, (cs4 = [V.agg [Cell.str s6, Cell.slice 1 l7, Cell.int IntKind.i64 n8]]) ∧
    I 20 [V.one (Cell.ptr (some (i2, 0)))]
      (fun cs9 => fun h10 => 
      ∃ l11 : Sl, (cs9 = [V.one (Cell.slice 1 l11)]) ∧
      I 21 [V.agg [Cell.str s6, Cell.slice 1 l7, Cell.int IntKind.i64 n8]]
        (fun cs12 => fun h13 => 
        ∃ n14 : Int, (cs12 = [V.one (Cell.int IntKind.i64 n14)]) ∧
        I 22 [V.agg [Cell.str s6, Cell.slice 1 l7, Cell.int IntKind.i64 n8]]
          (fun cs15 => fun h16 => 
          ∃ n17 : Int, (cs15 = [V.one (Cell.int IntKind.i64 n17)]) ∧
          (ifT (!decide (n17 = n14))
            (Q [V.one (Cell.bool false)])
            (fun h18 =>
            (newK (YtihnjdhjkpmggaaDoorVc.Obj.cells false [Cell.str { data := #[112, 97] }, Cell.str { data := #[112, 98] }, Cell.str { data := #[97, 110, 110] }, Cell.str { data := #[80] }]) (fun i19 => fun h20 =>
            I 23 [V.one (Cell.ptr (some (i2, 0))), V.one (Cell.slice 1 { a := some (i19, 0), len := 4 })]
              (fun cs21 => fun h22 => 
              ∃ s23 : ByteArray, (cs21 = [V.one (Cell.str s23)]) ∧
              I 24 [V.agg [Cell.str s6, Cell.slice 1 l7, Cell.int IntKind.i64 n8], V.one (Cell.str s23)]
                (fun cs24 => fun h25 => 
                ∃ n26 : Int, ∃ n27 : Int, (cs24 = [V.one (Cell.int IntKind.i64 n26), V.one (Cell.int IntKind.i64 n27)]) ∧
                (joinK (A := PUnit)
                  (fun x28 => fun h29 => 
                  I 26 [V.agg [Cell.str s6, Cell.slice 1 l7, Cell.int IntKind.i64 n8], V.one (Cell.slice 1 l11)]
                    (fun cs30 => fun h31 => 
                    ∃ l32 : Sl, ∃ n33 : Int, (cs30 = [V.one (Cell.slice 1 l32), V.one (Cell.int IntKind.i64 n33)]) ∧
                    I 27 [V.agg [Cell.str s6, Cell.slice 1 l7, Cell.int IntKind.i64 n8], V.one (Cell.slice 1 l11)]
                      (fun cs34 => fun h35 => 
                      ∃ l36 : Sl, ∃ n37 : Int, (cs34 = [V.one (Cell.slice 1 l36), V.one (Cell.int IntKind.i64 n37)]) ∧
                      I 16 []
                        (fun cs38 => fun h39 => 
                        ∃ b40 : Bool, (cs38 = [V.one (Cell.bool b40)]) ∧
                        (ifT b40
                          (ifT (decide (n33 = n37))
                            (fun h41 =>
                            I 28 [V.one (Cell.slice 1 l32), V.one (Cell.slice 1 l36), V.one (Cell.func (some (29, [])))]
                              (fun cs42 => fun h43 => 
                              ∃ b44 : Bool, (cs42 = [V.one (Cell.bool b44)]) ∧
                              Q [V.one (Cell.bool b44)] h43) h41)
                            (Q [V.one (Cell.bool false)]))
                          (Q [V.one (Cell.bool false)])) h39) h35) h31) h29)
                  (fun x45 => ifT (!decide (n14 = 0))
                    (ifT (!decide (n27 = n14))
                      (Q [V.one (Cell.bool false)])
                      (x45 ()))
                    (joinK (A := PUnit)
                      (fun x46 => fun h47 => 
                      x45 () h47)
                      (fun x48 => ifT (decide (s23 = { data := #[80] }))
                        (ifT (!decide (n27 = 5))
                          (Q [V.one (Cell.bool false)])
                          (x48 ()))
                        (joinK (A := Bool)
                          (fun b49 => ifT b49
                            (Q [V.one (Cell.bool false)])
                            (x48 ()))
                          (fun x50 => ifT (!decide (n27 = 0))
                            (x50 true)
                            (fun h51 =>
                            I 25 [V.agg [Cell.str s6, Cell.slice 1 l7, Cell.int IntKind.i64 n8], V.one (Cell.str s23)]
                              (fun cs52 => fun h53 => 
                              ∃ n54 : Int, (cs52 = [V.one (Cell.int IntKind.i64 n54)]) ∧
                              x50 (!decide (n26 = n54)) h53) h51))))))) h25) h22) h20)) h18)) h16) h13) h10) h5) h3)) h1
theorem den4 (I : FuncId → List V → Post → T) (l0 : Sl) (Q : Post) : denF Go.Proofs.Tryd.prog 16 (⟨[(2041, 144114638320041988, []), (8167, 144080003703767044, []), (32670, 143974450587500544, [(47, tk Go.Proofs.Tryd.prog 4)])], []⟩) I 4 [V.one (Cell.slice 1 l0)] Q = vc4 I l0 Q := by kernel_rfl
/-- (*handbill/handmake.Stream).Split -/
def vc19 (I : FuncId → List V → Post → T) (p0 : Option (Nat × Nat)) (Q : Post) : T :=
  fun h1 =>
  (newK (YtihnjdhjkpmggaaDoorVc.Obj.cells false [Cell.str { data := #[116, 101, 115, 116] }, Cell.str { data := #[99, 111, 108, 111, 114] }]) (fun i2 => fun h3 =>
  I 40 [V.one (Cell.ptr p0), V.one (Cell.slice 1 { a := some (i2, 0), len := 2 })]
    (fun cs4 => fun h5 => 
    ∃ s6 : ByteArray, (cs4 = [V.one (Cell.str s6)]) ∧
    (newK (YtihnjdhjkpmggaaDoorVc.Obj.cells false [Cell.int IntKind.i64 0, Cell.int IntKind.i64 0, Cell.int IntKind.i64 1, Cell.int IntKind.i64 10]) (fun i7 => fun h8 =>
    I 13 [V.one (Cell.ptr p0), V.one (Cell.slice 1 { a := some (i7, 0), len := 4 })]
      (fun cs9 => fun h10 => 
      ∃ n11 : Int, (cs9 = [V.one (Cell.int IntKind.i64 n11)]) ∧
      I 35 [V.one (Cell.ptr p0), V.one (Cell.int IntKind.i64 0), V.one (Cell.int IntKind.i64 4)]
        (fun cs12 => fun h13 => 
        ∃ n14 : Int, (cs12 = [V.one (Cell.int IntKind.i64 n14)]) ∧
        (loopK (A := (ByteArray × Sl × Int × PUnit) × Int) (((s6, { a := none, len := 0 }, n11, ()), 0))
          (fun x15 => uncur fun p15 n20 => uncur (fun s16 => uncur fun l17 => uncur fun n18 => fun x19 => ifT (decide (n20 < n14))
            (fun h21 =>
            (newK (YtihnjdhjkpmggaaDoorVc.Obj.cells false [Cell.int IntKind.i64 0, Cell.int IntKind.i64 1, Cell.int IntKind.i64 1, Cell.int IntKind.i64 5, Cell.int IntKind.i64 1000]) (fun i22 => fun h23 =>
            I 13 [V.one (Cell.ptr p0), V.one (Cell.slice 1 { a := some (i22, 0), len := 5 })]
              (fun cs24 => fun h25 => 
              ∃ n26 : Int, (cs24 = [V.one (Cell.int IntKind.i64 n26)]) ∧
              (appendTo [] 1 8 l17 1 [Cell.int IntKind.i64 n26] (fun l27 => fun h28 => 
              x15 (((s16, l27, n18, ()), IntKind.i64.wrap (n20 + 1))) h28)) h25) h23)) h21)
            (fun h29 =>
            I 41 [V.one (Cell.ptr p0), V.one (Cell.int IntKind.i64 15)]
              (fun cs30 => fun h31 => 
              ∃ b32 : Bool, (cs30 = [V.one (Cell.bool b32)]) ∧
              (joinK (A := ByteArray × Sl × Int × PUnit)
                (uncur fun s33 => uncur fun l34 => uncur fun n35 x36 => fun h37 => 
                I 41 [V.one (Cell.ptr p0), V.one (Cell.int IntKind.i64 20)]
                  (fun cs38 => fun h39 => 
                  ∃ b40 : Bool, (cs38 = [V.one (Cell.bool b40)]) ∧
                  (ifT b40
                    (fun h41 =>
                    ((0 : Int) ≤ (10 : Int)) ∧
                    ((10 : Int) ≤ (140737488355328 : Int)) ∧
                    ((80 : Nat) ≤ (140737488355328 : Nat)) ∧
                    (appendTo [] 1 8 l34 10 (slCells (VK.one (Kd.int IntKind.i64)) 10) (fun l42 => fun h43 => 
                    Q [V.agg [Cell.str s33, Cell.slice 1 l42, Cell.int IntKind.i64 n35]] h43)) h41)
                    (fun h44 =>
                    Q [V.agg [Cell.str s33, Cell.slice 1 l34, Cell.int IntKind.i64 n35]] h44)) h39) h37)
                (fun x45 => ifT b32
                  (fun h46 =>
                  (newK (YtihnjdhjkpmggaaDoorVc.Obj.cells false [Cell.int IntKind.i64 (-1), Cell.int IntKind.i64 1001]) (fun i47 => fun h48 =>
                  I 13 [V.one (Cell.ptr p0), V.one (Cell.slice 1 { a := some (i47, 0), len := 2 })]
                    (fun cs49 => fun h50 => 
                    ∃ n51 : Int, (cs49 = [V.one (Cell.int IntKind.i64 n51)]) ∧
                    (appendTo [] 1 8 l17 1 [Cell.int IntKind.i64 n51] (fun l52 => fun h53 => 
                    x45 ((s16, l52, n18, ())) h53)) h50) h48)) h46)
                  (x45 ((s16, l17, n18, ()))))) h31) h29)) p15)) h13) h10) h8)) h5) h3)) h1
theorem den19 (I : FuncId → List V → Post → T) (p0 : Option (Nat × Nat)) (Q : Post) : denF Go.Proofs.Tryd.prog 12 (⟨[(61, 17112760328, [(3, tvar Go.Proofs.Tryd.prog 45)])], [(58, 16769032, [(3, tvar Go.Proofs.Tryd.prog 45), (13, tk Go.Proofs.Tryd.prog 3)])]⟩) I 19 [V.one (Cell.ptr p0)] Q = vc19 I p0 Q := by kernel_rfl
/-- (*handbill/handmake.Stream).Keys -/
def vc20 (I : FuncId → List V → Post → T) (p0 : Option (Nat × Nat)) (Q : Post) : T :=
  fun h1 =>
  I 12 [V.one (Cell.ptr p0), V.one (Cell.int IntKind.i64 8)]
    (fun cs2 => fun h3 => 
    ∃ n4 : Int, (cs2 = [V.one (Cell.int IntKind.i64 n4)]) ∧
    (loopK (A := Sl × Int) (({ a := none, len := 0 }, 0))
      (fun x5 => uncur fun l6 n7 => ifT (decide (n7 < n4))
        (fun h8 =>
        (1 + (Utf8.encode (IntKind.i32.wrap (IntKind.i64.wrap (97 + n7)))).size ≤ 9223372036854775807) ∧
        (1 + (Utf8.encode (IntKind.i32.wrap (IntKind.i64.wrap (97 + n7)))).size ≤ 9223372036854775807) ∧
        (1 + (Utf8.encode (IntKind.i32.wrap (IntKind.i64.wrap (97 + n7)))).size ≤ 9223372036854775807) ∧
        (newK (YtihnjdhjkpmggaaDoorVc.Obj.cells false [Cell.str ({ data := #[112] } ++ Utf8.encode (IntKind.i32.wrap (IntKind.i64.wrap (97 + n7)))), Cell.str ({ data := #[112] } ++ Utf8.encode (IntKind.i32.wrap (IntKind.i64.wrap (97 + n7)))), Cell.str ({ data := #[113] } ++ Utf8.encode (IntKind.i32.wrap (IntKind.i64.wrap (97 + n7))))]) (fun i9 => fun h10 =>
        I 40 [V.one (Cell.ptr p0), V.one (Cell.slice 1 { a := some (i9, 0), len := 3 })]
          (fun cs11 => fun h12 => 
          ∃ s13 : ByteArray, (cs11 = [V.one (Cell.str s13)]) ∧
          (appendTo [] 1 16 l6 1 [Cell.str s13] (fun l14 => fun h15 => 
          x5 ((l14, IntKind.i64.wrap (n7 + 1))) h15)) h12) h10)) h8)
        (joinK (A := Bool)
          (fun b16 => ifT b16
            (fun h17 =>
            (((0 : Int) ≤ (0 : Int)) ∧
            0 < (↑l6.len : Int)) ∧
            (derefK l6.a (fun i18 => fun i19 => fun h20 =>
            ∃ s21 : ByteArray, (h20.read i18 (i19 + 0) 1 = some [Cell.str s21]) ∧
            (appendTo [] 1 16 l6 1 [Cell.str s21] (fun l22 => fun h23 => 
            Q [V.one (Cell.slice 1 l22)] h23)) h20)) h17)
            (Q [V.one (Cell.slice 1 l6)]))
          (fun x24 => fun h25 => 
          I 41 [V.one (Cell.ptr p0), V.one (Cell.int IntKind.i64 10)]
            (fun cs26 => fun h27 => 
            ∃ b28 : Bool, (cs26 = [V.one (Cell.bool b28)]) ∧
            (ifT b28
              (x24 (decide ((↑l6.len : Int) > 0)))
              (x24 false)) h27) h25)))) h3) h1
theorem den20 (I : FuncId → List V → Post → T) (p0 : Option (Nat × Nat)) (Q : Post) : denF Go.Proofs.Tryd.prog 0 (⟨[(60, 545460846592, [(38, tk Go.Proofs.Tryd.prog 4)])], [(58, 4294967192, [(3, tk Go.Proofs.Tryd.prog 47), (7, tk Go.Proofs.Tryd.prog 3)])]⟩) I 20 [V.one (Cell.ptr p0)] Q = vc20 I p0 Q := by kernel_rfl
/-- handbill/handref1.SplitFault -/
def vc21 (I : FuncId → List V → Post → T) (s0 : ByteArray) (l1 : Sl) (n2 : Int) (Q : Post) : T :=
  fun h3 =>
  I 45 [V.one (Cell.str s0)]
    (fun cs4 => fun h5 => 
    ∃ b6 : Bool, (cs4 = [V.one (Cell.bool b6)]) ∧
    (ifT (!b6)
      (Q [V.one (Cell.int IntKind.i64 5)])
      (ifT (decide ((↑l1.len : Int) > 10))
        (Q [V.one (Cell.int IntKind.i64 2)])
        (ifT (decide ((↑l1.len : Int) = 0))
          (Q [V.one (Cell.int IntKind.i64 8)])
          (fun h7 =>
          I 56 [V.one (Cell.slice 1 l1)]
            (fun cs8 => fun h9 => 
            ∃ l10 : Sl, (cs8 = [V.one (Cell.slice 1 l10)]) ∧
            (appendTo [] 1 8 l10 1 [Cell.int IntKind.i64 n2] (fun l11 => loopK (A := Int) 0
              (fun x12 => fun n13 => ifT (decide (n13 < (↑l11.len : Int)))
                (fun h14 =>
                ((0 ≤ n13) ∧
                n13 < (↑l11.len : Int)) ∧
                (derefK l11.a (fun i15 => fun i16 => fun h17 =>
                ∃ n18 : Int, (h17.read i15 (i16 + n13.toNat * 1) 1 = some [Cell.int IntKind.i64 n18]) ∧
                (ifT (decide (n18 < 0))
                  (Q [V.one (Cell.int IntKind.i64 1)])
                  (ifT (decide (n18 > 1000))
                    (Q [V.one (Cell.int IntKind.i64 1)])
                    (x12 (IntKind.i64.wrap (n13 + 1))))) h17)) h14)
                (fun h19 =>
                I 57 [V.one (Cell.slice 1 l1)]
                  (fun cs20 => fun h21 => 
                  ∃ n22 : Int, (cs20 = [V.one (Cell.int IntKind.i64 n22)]) ∧
                  (ifT (decide (IntKind.i64.wrap (n22 + n2) = 0))
                    (Q [V.one (Cell.int IntKind.i64 8)])
                    (Q [V.one (Cell.int IntKind.i64 0)])) h21) h19)))) h9) h7)))) h5) h3
theorem den21 (I : FuncId → List V → Post → T) (s0 : ByteArray) (l1 : Sl) (n2 : Int) (Q : Post) : denF Go.Proofs.Tryd.prog 2 (⟨[], [(58, 549487378452, [(28, tk Go.Proofs.Tryd.prog 3)])]⟩) I 21 [V.agg [Cell.str s0, Cell.slice 1 l1, Cell.int IntKind.i64 n2]] Q = vc21 I s0 l1 n2 Q := by kernel_rfl
/-- handbill/measure.CheckSplit -/
def vc22 (I : FuncId → List V → Post → T) (s0 : ByteArray) (l1 : Sl) (n2 : Int) (Q : Post) : T :=
  fun h3 =>
  I 43 [V.one (Cell.str s0)]
    (fun cs4 => fun h5 => 
    ∃ b6 : Bool, (cs4 = [V.one (Cell.bool b6)]) ∧
    (ifT (!b6)
      (Q [V.one (Cell.int IntKind.i64 5)])
      (ifT (decide ((↑l1.len : Int) > 10))
        (Q [V.one (Cell.int IntKind.i64 2)])
        (ifT (decide ((↑l1.len : Int) = 0))
          (Q [V.one (Cell.int IntKind.i64 8)])
          (joinK (A := Bool)
            (fun b7 => ifT b7
              (Q [V.one (Cell.int IntKind.i64 1)])
              (fun h8 =>
              I 60 [V.one (Cell.slice 1 l1)]
                (fun cs9 => fun h10 => 
                ∃ n11 : Int, (cs9 = [V.one (Cell.int IntKind.i64 n11)]) ∧
                (ifT (decide (IntKind.i64.wrap (n11 + n2) = 0))
                  (Q [V.one (Cell.int IntKind.i64 8)])
                  (Q [V.one (Cell.int IntKind.i64 0)])) h10) h8))
            (fun x12 => fun h13 => 
            I 58 [V.one (Cell.slice 1 l1), V.one (Cell.func (some (59, [])))]
              (fun cs14 => fun h15 => 
              ∃ b16 : Bool, (cs14 = [V.one (Cell.bool b16)]) ∧
              (ifT b16
                (x12 true)
                (fun h17 =>
                I 49 [V.one (Cell.int IntKind.i64 n2), V.one (Cell.int IntKind.i64 0), V.one (Cell.int IntKind.i64 1000)]
                  (fun cs18 => fun h19 => 
                  ∃ b20 : Bool, (cs18 = [V.one (Cell.bool b20)]) ∧
                  x12 (!b20) h19) h17)) h15) h13))))) h5) h3
theorem den22 (I : FuncId → List V → Post → T) (s0 : ByteArray) (l1 : Sl) (n2 : Int) (Q : Post) : denF Go.Proofs.Tryd.prog 2 (⟨[(1662, 268173312, [(18, tk Go.Proofs.Tryd.prog 4)])], []⟩) I 22 [V.agg [Cell.str s0, Cell.slice 1 l1, Cell.int IntKind.i64 n2]] Q = vc22 I s0 l1 n2 Q := by kernel_rfl
/-- (*handbill/handmake.Stream).One -/
def vc23 (I : FuncId → List V → Post → T) (p0 : Option (Nat × Nat)) (l1 : Sl) (Q : Post) : T :=
  fun h2 =>
  I 42 [V.one (Cell.ptr p0), V.one (Cell.slice 1 l1)]
    (fun cs3 => fun h4 => 
    ∃ s5 : ByteArray, (cs3 = [V.one (Cell.str s5)]) ∧
    Q [V.one (Cell.str s5)] h4) h2
theorem den23 (I : FuncId → List V → Post → T) (p0 : Option (Nat × Nat)) (l1 : Sl) (Q : Post) : denF Go.Proofs.Tryd.prog 0 (⟨[], []⟩) I 23 [V.one (Cell.ptr p0), V.one (Cell.slice 1 l1)] Q = vc23 I p0 l1 Q := by kernel_rfl
/-- handbill/measure.Arm -/
def vc24 (I : FuncId → List V → Post → T) (s0 : ByteArray) (l1 : Sl) (n2 : Int) (s3 : ByteArray) (Q : Post) : T :=
  fun h4 =>
  I 22 [V.agg [Cell.str s0, Cell.slice 1 l1, Cell.int IntKind.i64 n2]]
    (fun cs5 => fun h6 => 
    ∃ n7 : Int, (cs5 = [V.one (Cell.int IntKind.i64 n7)]) ∧
    (ifT (!decide (n7 = 0))
      (Q [V.one (Cell.int IntKind.i64 0), V.one (Cell.int IntKind.i64 n7)])
      (fun h8 =>
      I 43 [V.one (Cell.str s3)]
        (fun cs9 => fun h10 => 
        ∃ b11 : Bool, (cs9 = [V.one (Cell.bool b11)]) ∧
        (ifT (!b11)
          (Q [V.one (Cell.int IntKind.i64 0), V.one (Cell.int IntKind.i64 5)])
          (fun h12 =>
          I 61 [V.agg [Cell.str s0, Cell.slice 1 l1, Cell.int IntKind.i64 n2], V.one (Cell.str s3)]
            (fun cs13 => fun h14 => 
            ∃ n15 : Int, (cs13 = [V.one (Cell.int IntKind.i64 n15)]) ∧
            Q [V.one (Cell.int IntKind.i64 n15), V.one (Cell.int IntKind.i64 0)] h14) h12)) h10) h8)) h6) h4
theorem den24 (I : FuncId → List V → Post → T) (s0 : ByteArray) (l1 : Sl) (n2 : Int) (s3 : ByteArray) (Q : Post) : denF Go.Proofs.Tryd.prog 4 (⟨[], []⟩) I 24 [V.agg [Cell.str s0, Cell.slice 1 l1, Cell.int IntKind.i64 n2], V.one (Cell.str s3)] Q = vc24 I s0 l1 n2 s3 Q := by kernel_rfl
/-- handbill/measure.arm -/
def vc61 (I : FuncId → List V → Post → T) (s0 : ByteArray) (l1 : Sl) (n2 : Int) (s3 : ByteArray) (Q : Post) : T :=
  fun h4 =>
  (s0.size + 1 ≤ 9223372036854775807) ∧
  ((s0 ++ { data := #[47] }).size + s3.size ≤ 9223372036854775807) ∧
  (newK (YtihnjdhjkpmggaaDoorVc.Obj.cells false (byteCells (s0 ++ { data := #[47] } ++ s3))) (fun i5 => loopK (A := Int × Int) ((14695981039346656037, 0))
    (fun x6 => uncur fun n7 n8 => ifT (decide (n8 < (↑(s0 ++ { data := #[47] } ++ s3).size : Int)))
      (fun h9 =>
      ((0 ≤ n8) ∧
      n8 < (↑(s0 ++ { data := #[47] } ++ s3).size : Int)) ∧
      ∃ n10 : Int, (h9.read i5 (0 + n8.toNat * 1) 1 = some [Cell.int IntKind.u8 n10]) ∧
      x6 ((IntKind.u64.wrap (IntKind.u64.wrap (↑(BitVec.ofInt 64 n7 ^^^ BitVec.ofInt 64 (IntKind.u64.wrap n10)).toNat : Int) * 1099511628211), IntKind.i64.wrap (n8 + 1))) h9)
      (fun h11 =>
      I 60 [V.one (Cell.slice 1 l1)]
        (fun cs12 => fun h13 => 
        ∃ n14 : Int, (cs12 = [V.one (Cell.int IntKind.i64 n14)]) ∧
        (IntKind.u64.wrap (IntKind.i64.wrap (n14 + n2)) ≠ 0) ∧
        (loopK (A := Int × Int) ((IntKind.i64.wrap (n7.tmod (IntKind.u64.wrap (IntKind.i64.wrap (n14 + n2)))), 0))
          (fun x15 => uncur fun n16 n17 => ifT (decide (n17 < (↑l1.len : Int)))
            (fun h18 =>
            ((0 ≤ n17) ∧
            n17 < (↑l1.len : Int)) ∧
            (derefK l1.a (fun i19 => fun i20 => fun h21 =>
            ∃ n22 : Int, (h21.read i19 (i20 + n17.toNat * 1) 1 = some [Cell.int IntKind.i64 n22]) ∧
            (ifT (decide (n16 < n22))
              (Q [V.one (Cell.int IntKind.i64 n17)])
              (x15 ((IntKind.i64.wrap (n16 - n22), IntKind.i64.wrap (n17 + 1))))) h21)) h18)
            (Q [V.one (Cell.int IntKind.i64 (-1))]))) h13) h11)))) h4
theorem den61 (I : FuncId → List V → Post → T) (s0 : ByteArray) (l1 : Sl) (n2 : Int) (s3 : ByteArray) (Q : Post) : denF Go.Proofs.Tryd.prog 4 (⟨[], [(58, 268173472, [(5, tk Go.Proofs.Tryd.prog 96), (18, tk Go.Proofs.Tryd.prog 3)]), (250, 18012199486228240, [(8, tk Go.Proofs.Tryd.prog 3), (41, tk Go.Proofs.Tryd.prog 3)])]⟩) I 61 [V.agg [Cell.str s0, Cell.slice 1 l1, Cell.int IntKind.i64 n2], V.one (Cell.str s3)] Q = vc61 I s0 l1 n2 s3 Q := by kernel_rfl
/-- handbill/handref1.ArmOf -/
def vc25 (I : FuncId → List V → Post → T) (s0 : ByteArray) (l1 : Sl) (n2 : Int) (s3 : ByteArray) (Q : Post) : T :=
  fun h4 =>
  (s0.size + 1 ≤ 9223372036854775807) ∧
  ((s0 ++ { data := #[47] }).size + s3.size ≤ 9223372036854775807) ∧
  I 62 [V.one (Cell.str (s0 ++ { data := #[47] } ++ s3))]
    (fun cs5 => fun h6 => 
    ∃ n7 : Int, (cs5 = [V.one (Cell.int IntKind.u64 n7)]) ∧
    I 57 [V.one (Cell.slice 1 l1)]
      (fun cs8 => fun h9 => 
      ∃ n10 : Int, (cs8 = [V.one (Cell.int IntKind.i64 n10)]) ∧
      (IntKind.u64.wrap (IntKind.i64.wrap (n10 + n2)) ≠ 0) ∧
      (loopK (A := Int × Int) ((IntKind.i64.wrap (n7.tmod (IntKind.u64.wrap (IntKind.i64.wrap (n10 + n2)))), 0))
        (fun x11 => uncur fun n12 n13 => ifT (decide (n13 < (↑l1.len : Int)))
          (fun h14 =>
          ((0 ≤ n13) ∧
          n13 < (↑l1.len : Int)) ∧
          (derefK l1.a (fun i15 => fun i16 => fun h17 =>
          ∃ n18 : Int, (h17.read i15 (i16 + n13.toNat * 1) 1 = some [Cell.int IntKind.i64 n18]) ∧
          (ifT (decide (n12 < n18))
            (Q [V.one (Cell.int IntKind.i64 n13)])
            (x11 ((IntKind.i64.wrap (n12 - n18), IntKind.i64.wrap (n13 + 1))))) h17)) h14)
          (Q [V.one (Cell.int IntKind.i64 (-1))]))) h9) h6) h4
theorem den25 (I : FuncId → List V → Post → T) (s0 : ByteArray) (l1 : Sl) (n2 : Int) (s3 : ByteArray) (Q : Post) : denF Go.Proofs.Tryd.prog 4 (⟨[], [(58, 549688705264, [(5, tk Go.Proofs.Tryd.prog 3), (26, tk Go.Proofs.Tryd.prog 3)])]⟩) I 25 [V.agg [Cell.str s0, Cell.slice 1 l1, Cell.int IntKind.i64 n2], V.one (Cell.str s3)] Q = vc25 I s0 l1 n2 s3 Q := by kernel_rfl
/-- handbill/handref1.hashOf -/
def vc62 (I : FuncId → List V → Post → T) (s0 : ByteArray) (Q : Post) : T :=
  loopK (A := Int × Int) ((14695981039346656037, 0))
    (fun x1 => uncur fun n2 n3 => ifT (decide (n3 < (↑s0.size : Int)))
      (fun h4 =>
      ((0 ≤ n3) ∧
      n3 < (↑s0.size : Int)) ∧
      x1 ((IntKind.u64.wrap (IntKind.u64.wrap (↑(BitVec.ofInt 64 n2 ^^^ BitVec.ofInt 64 (IntKind.u64.wrap (byteAt s0 n3))).toNat : Int) * 1099511628211), IntKind.i64.wrap (n3 + 1))) h4)
      (Q [V.one (Cell.int IntKind.u64 n2)]))
theorem den62 (I : FuncId → List V → Post → T) (s0 : ByteArray) (Q : Post) : denF Go.Proofs.Tryd.prog 0 (⟨[], [(58, 262136, [(3, tk Go.Proofs.Tryd.prog 96), (4, tk Go.Proofs.Tryd.prog 3)])]⟩) I 62 [V.one (Cell.str s0)] Q = vc62 I s0 Q := by kernel_rfl
/-- handbill/measure.Arms -/
def vc26 (I : FuncId → List V → Post → T) (s0 : ByteArray) (l1 : Sl) (n2 : Int) (l3 : Sl) (Q : Post) : T :=
  fun h4 =>
  I 22 [V.agg [Cell.str s0, Cell.slice 1 l1, Cell.int IntKind.i64 n2]]
    (fun cs5 => fun h6 => 
    ∃ n7 : Int, (cs5 = [V.one (Cell.int IntKind.i64 n7)]) ∧
    (ifT (!decide (n7 = 0))
      (Q [V.one (Cell.slice 1 { a := none, len := 0 }), V.one (Cell.int IntKind.i64 n7)])
      (ifT (decide ((↑l3.len : Int) > 1000))
        (Q [V.one (Cell.slice 1 { a := none, len := 0 }), V.one (Cell.int IntKind.i64 2)])
        (fun h8 =>
        (newK (YtihnjdhjkpmggaaDoorVc.Obj.map []) (fun i9 => loopK (A := Int) 0
          (fun x10 => fun n11 => ifT (decide (n11 < (↑l3.len : Int)))
            (fun h12 =>
            ((0 ≤ n11) ∧
            n11 < (↑l3.len : Int)) ∧
            (derefK l3.a (fun i13 => fun i14 => fun h15 =>
            ∃ s16 : ByteArray, (h15.read i13 (i14 + n11.toNat * 1) 1 = some [Cell.str s16]) ∧
            I 43 [V.one (Cell.str s16)]
              (fun cs17 => fun h18 => 
              ∃ b19 : Bool, (cs17 = [V.one (Cell.bool b19)]) ∧
              (ifT (!b19)
                (Q [V.one (Cell.slice 1 { a := none, len := 0 }), V.one (Cell.int IntKind.i64 5)])
                (fun h20 =>
                ∃ b21 : Bool, ∃ b22 : Bool, (∃ cs23 : List (V × V), (mapOf h20 (some i9) = some cs23) ∧
                mapGet (V.one (Cell.str s16)) (V.one (Cell.bool false)) cs23 = some (V.one (Cell.bool b21), b22)) ∧
                (ifT b21
                  (Q [V.one (Cell.slice 1 { a := none, len := 0 }), V.one (Cell.int IntKind.i64 6)])
                  (fun h24 =>
                  (mapK [] (some i9) (V.one (Cell.str s16)) (V.one (Cell.bool true)) (x10 (IntKind.i64.wrap (n11 + 1)))) h24)) h20)) h18) h15)) h12)
            (fun h25 =>
            (true = true) ∧
            (0 ≤ IntKind.i64.wrap ((↑l1.len : Int) + 1)) ∧
            (IntKind.i64.wrap ((↑l1.len : Int) + 1) ≤ IntKind.i64.wrap ((↑l1.len : Int) + 1)) ∧
            (IntKind.i64.wrap ((↑l1.len : Int) + 1) * (↑24 : Int) ≤ 140737488355328) ∧
            (newK (YtihnjdhjkpmggaaDoorVc.Obj.cells false (slCells (VK.one (Kd.slice 1)) (IntKind.i64.wrap ((↑l1.len : Int) + 1)).toNat)) (fun i26 => loopK (A := Int) 0
              (fun x27 => fun n28 => ifT (decide (n28 < (↑l3.len : Int)))
                (fun h29 =>
                ((0 ≤ n28) ∧
                n28 < (↑l3.len : Int)) ∧
                (derefK l3.a (fun i30 => fun i31 => fun h32 =>
                ∃ s33 : ByteArray, (h32.read i30 (i31 + n28.toNat * 1) 1 = some [Cell.str s33]) ∧
                I 61 [V.agg [Cell.str s0, Cell.slice 1 l1, Cell.int IntKind.i64 n2], V.one (Cell.str s33)]
                  (fun cs34 => fun h35 => 
                  ∃ n36 : Int, (cs34 = [V.one (Cell.int IntKind.i64 n36)]) ∧
                  (joinK (A := Int)
                    (fun n37 => fun h38 => 
                    ((0 ≤ n37) ∧
                    n37 < (↑(IntKind.i64.wrap ((↑l1.len : Int) + 1)).toNat : Int)) ∧
                    ∃ l39 : Sl, (h38.read i26 (0 + n37.toNat * 1) 1 = some [Cell.slice 1 l39]) ∧
                    (appendTo [] 1 16 l39 1 [Cell.str s33] (fun l40 => fun h41 => 
                    ((0 ≤ n37) ∧
                    n37 < (↑(IntKind.i64.wrap ((↑l1.len : Int) + 1)).toNat : Int)) ∧
                    (storeK [] i26 (0 + n37.toNat * 1) [Cell.slice 1 l40] (x27 (IntKind.i64.wrap (n28 + 1)))) h41)) h38)
                    (fun x42 => ifT (decide (n36 < 0))
                      (x42 ((↑l1.len : Int)))
                      (x42 n36))) h35) h32)) h29)
                (Q [V.one (Cell.slice 1 { a := some (i26, 0), len := (IntKind.i64.wrap ((↑l1.len : Int) + 1)).toNat }), V.one (Cell.int IntKind.i64 0)])))) h25)))) h8))) h6) h4
theorem den26 (I : FuncId → List V → Post → T) (s0 : ByteArray) (l1 : Sl) (n2 : Int) (l3 : Sl) (Q : Post) : denF Go.Proofs.Tryd.prog 4 (⟨[(521421, 504403158265503744, [(13, tk Go.Proofs.Tryd.prog 3)])], [(250, 1099478073904, [(25, tk Go.Proofs.Tryd.prog 3)]), (1018, 1180591479979922960384, [(47, tk Go.Proofs.Tryd.prog 3)])]⟩) I 26 [V.agg [Cell.str s0, Cell.slice 1 l1, Cell.int IntKind.i64 n2], V.one (Cell.slice 1 l3)] Q = vc26 I s0 l1 n2 l3 Q := by kernel_rfl
/-- handbill/handref1.ArmsOf -/
def vc27 (I : FuncId → List V → Post → T) (s0 : ByteArray) (l1 : Sl) (n2 : Int) (l3 : Sl) (Q : Post) : T :=
  fun h4 =>
  I 21 [V.agg [Cell.str s0, Cell.slice 1 l1, Cell.int IntKind.i64 n2]]
    (fun cs5 => fun h6 => 
    ∃ n7 : Int, (cs5 = [V.one (Cell.int IntKind.i64 n7)]) ∧
    (ifT (!decide (n7 = 0))
      (Q [V.one (Cell.slice 1 { a := none, len := 0 }), V.one (Cell.int IntKind.i64 n7)])
      (ifT (decide ((↑l3.len : Int) > 1000))
        (Q [V.one (Cell.slice 1 { a := none, len := 0 }), V.one (Cell.int IntKind.i64 2)])
        (fun h8 =>
        (true = true) ∧
        (0 ≤ IntKind.i64.wrap ((↑l1.len : Int) + 1)) ∧
        (IntKind.i64.wrap ((↑l1.len : Int) + 1) ≤ IntKind.i64.wrap ((↑l1.len : Int) + 1)) ∧
        (IntKind.i64.wrap ((↑l1.len : Int) + 1) * (↑24 : Int) ≤ 140737488355328) ∧
        (newK (YtihnjdhjkpmggaaDoorVc.Obj.cells false (slCells (VK.one (Kd.slice 1)) (IntKind.i64.wrap ((↑l1.len : Int) + 1)).toNat)) (fun i9 => loopK (A := Int) 0
          (fun x10 => fun n11 => ifT (decide (n11 < (↑l3.len : Int)))
            (fun h12 =>
            ((0 ≤ n11) ∧
            n11 < (↑l3.len : Int)) ∧
            (derefK l3.a (fun i13 => fun i14 => fun h15 =>
            ∃ s16 : ByteArray, (h15.read i13 (i14 + n11.toNat * 1) 1 = some [Cell.str s16]) ∧
            I 45 [V.one (Cell.str s16)]
              (fun cs17 => fun h18 => 
              ∃ b19 : Bool, (cs17 = [V.one (Cell.bool b19)]) ∧
              (ifT (!b19)
                (Q [V.one (Cell.slice 1 { a := none, len := 0 }), V.one (Cell.int IntKind.i64 5)])
                (fun h20 =>
                (((0 : Int) ≤ (0 : Int)) ∧
                (0 ≤ n11) ∧
                n11 ≤ (↑l3.len : Int)) ∧
                I 63 [V.one (Cell.slice 1 (l3.sub 1 0 n11.toNat)), V.one (Cell.str s16)]
                  (fun cs21 => fun h22 => 
                  ∃ b23 : Bool, (cs21 = [V.one (Cell.bool b23)]) ∧
                  (ifT b23
                    (Q [V.one (Cell.slice 1 { a := none, len := 0 }), V.one (Cell.int IntKind.i64 6)])
                    (fun h24 =>
                    I 25 [V.agg [Cell.str s0, Cell.slice 1 l1, Cell.int IntKind.i64 n2], V.one (Cell.str s16)]
                      (fun cs25 => fun h26 => 
                      ∃ n27 : Int, (cs25 = [V.one (Cell.int IntKind.i64 n27)]) ∧
                      (joinK (A := Int)
                        (fun n28 => fun h29 => 
                        ((0 ≤ n28) ∧
                        n28 < (↑(IntKind.i64.wrap ((↑l1.len : Int) + 1)).toNat : Int)) ∧
                        ∃ l30 : Sl, (h29.read i9 (0 + n28.toNat * 1) 1 = some [Cell.slice 1 l30]) ∧
                        (appendTo [] 1 16 l30 1 [Cell.str s16] (fun l31 => fun h32 => 
                        ((0 ≤ n28) ∧
                        n28 < (↑(IntKind.i64.wrap ((↑l1.len : Int) + 1)).toNat : Int)) ∧
                        (storeK [] i9 (0 + n28.toNat * 1) [Cell.slice 1 l31] (x10 (IntKind.i64.wrap (n11 + 1)))) h32)) h29)
                        (fun x33 => ifT (decide (n27 < 0))
                          (x33 ((↑l1.len : Int)))
                          (x33 n27))) h26) h24)) h22) h20)) h18) h15)) h12)
            (Q [V.one (Cell.slice 1 { a := some (i9, 0), len := (IntKind.i64.wrap ((↑l1.len : Int) + 1)).toNat }), V.one (Cell.int IntKind.i64 0)])))) h8))) h6) h4
theorem den27 (I : FuncId → List V → Post → T) (s0 : ByteArray) (l1 : Sl) (n2 : Int) (l3 : Sl) (Q : Post) : denF Go.Proofs.Tryd.prog 4 (⟨[(512829, 123145302311936, [(10, tk Go.Proofs.Tryd.prog 3)])], [(250, 288230376084604720, [(26, tk Go.Proofs.Tryd.prog 3)])]⟩) I 27 [V.agg [Cell.str s0, Cell.slice 1 l1, Cell.int IntKind.i64 n2], V.one (Cell.slice 1 l3)] Q = vc27 I s0 l1 n2 l3 Q := by kernel_rfl
/-- slices.EqualFunc[[][]string,[][]string,[]string,[]string] -/
def vc28 (I : FuncId → List V → Post → T) (l0 : Sl) (l1 : Sl) (p2 : Option (Nat × List (Nat × Nat))) (Q : Post) : T :=
  ifT (!decide ((↑l0.len : Int) = (↑l1.len : Int)))
    (Q [V.one (Cell.bool false)])
    (loopK (A := Int) 0
      (fun x3 => fun n4 => ifT (decide (n4 < (↑l0.len : Int)))
        (fun h5 =>
        ((0 ≤ n4) ∧
        n4 < (↑l0.len : Int)) ∧
        (derefK l0.a (fun i6 => fun i7 => fun h8 =>
        ∃ l9 : Sl, (h8.read i6 (i7 + n4.toNat * 1) 1 = some [Cell.slice 1 l9]) ∧
        ((0 ≤ n4) ∧
        n4 < (↑l1.len : Int)) ∧
        (derefK l1.a (fun i10 => fun i11 => fun h12 =>
        ∃ l13 : Sl, (h12.read i10 (i11 + n4.toNat * 1) 1 = some [Cell.slice 1 l13]) ∧
        (funK p2 (fun i14 => fun cs15 => fun h16 => 
        I i14 (V.one (Cell.slice 1 l9) :: V.one (Cell.slice 1 l13) :: cs15)
          (fun cs17 => fun h18 => 
          ∃ b19 : Bool, (cs17 = [V.one (Cell.bool b19)]) ∧
          (ifT (!b19)
            (Q [V.one (Cell.bool false)])
            (x3 (IntKind.i64.wrap (n4 + 1)))) h18) h16)) h12)) h8)) h5)
        (Q [V.one (Cell.bool true)])))
theorem den28 (I : FuncId → List V → Post → T) (l0 : Sl) (l1 : Sl) (p2 : Option (Nat × List (Nat × Nat))) (Q : Post) : denF Go.Proofs.Tryd.prog 0 (⟨[], [(58, 4294837184, [(17, tk Go.Proofs.Tryd.prog 3)])]⟩) I 28 [V.one (Cell.slice 1 l0), V.one (Cell.slice 1 l1), V.one (Cell.func p2)] Q = vc28 I l0 l1 p2 Q := by kernel_rfl
/-- slices.Equal[[]string,string] -/
def vc29 (I : FuncId → List V → Post → T) (l0 : Sl) (l1 : Sl) (Q : Post) : T :=
  ifT (!decide ((↑l0.len : Int) = (↑l1.len : Int)))
    (Q [V.one (Cell.bool false)])
    (loopK (A := Int) 0
      (fun x2 => fun n3 => ifT (decide (n3 < (↑l0.len : Int)))
        (fun h4 =>
        ((0 ≤ n3) ∧
        n3 < (↑l0.len : Int)) ∧
        (derefK l0.a (fun i5 => fun i6 => fun h7 =>
        ∃ s8 : ByteArray, (h7.read i5 (i6 + n3.toNat * 1) 1 = some [Cell.str s8]) ∧
        ((0 ≤ n3) ∧
        n3 < (↑l1.len : Int)) ∧
        (derefK l1.a (fun i9 => fun i10 => fun h11 =>
        ∃ s12 : ByteArray, (h11.read i9 (i10 + n3.toNat * 1) 1 = some [Cell.str s12]) ∧
        (ifT (!decide (s8 = s12))
          (Q [V.one (Cell.bool false)])
          (x2 (IntKind.i64.wrap (n3 + 1)))) h11)) h7)) h4)
        (Q [V.one (Cell.bool true)])))
theorem den29 (I : FuncId → List V → Post → T) (l0 : Sl) (l1 : Sl) (Q : Post) : denF Go.Proofs.Tryd.prog 0 (⟨[], [(58, 67100720, [(13, tk Go.Proofs.Tryd.prog 3)])]⟩) I 29 [V.one (Cell.slice 1 l0), V.one (Cell.slice 1 l1)] Q = vc29 I l0 l1 Q := by kernel_rfl
/-- (*handbill/handmake.Stream).Range -/
def vc35 (I : FuncId → List V → Post → T) (p0 : Option (Nat × Nat)) (n1 : Int) (n2 : Int) (Q : Post) : T :=
  ifT (decide (n2 < n1))
    (Q [V.one (Cell.int IntKind.i64 n1)])
    (fun h3 =>
    I 12 [V.one (Cell.ptr p0), V.one (Cell.int IntKind.i64 (IntKind.i64.wrap (IntKind.i64.wrap (n2 - n1) + 1)))]
      (fun cs4 => fun h5 => 
      ∃ n6 : Int, (cs4 = [V.one (Cell.int IntKind.i64 n6)]) ∧
      Q [V.one (Cell.int IntKind.i64 (IntKind.i64.wrap (n1 + n6)))] h5) h3)
theorem den35 (I : FuncId → List V → Post → T) (p0 : Option (Nat × Nat)) (n1 : Int) (n2 : Int) (Q : Post) : denF Go.Proofs.Tryd.prog 0 (⟨[], []⟩) I 35 [V.one (Cell.ptr p0), V.one (Cell.int IntKind.i64 n1), V.one (Cell.int IntKind.i64 n2)] Q = vc35 I p0 n1 n2 Q := by kernel_rfl
/-- slices.Clone[[]int,int] -/
def vc56 (I : FuncId → List V → Post → T) (l0 : Sl) (Q : Post) : T :=
  ifT l0.a.isNone
    (Q [V.one (Cell.slice 1 { a := none, len := 0 })])
    (fun h1 =>
    ∃ cs2 : List Cell, (h1.sl 1 l0 = some cs2) ∧
    (l0.len * 8 ≤ 140737488355328) ∧
    (newK (YtihnjdhjkpmggaaDoorVc.Obj.cells false cs2) (fun i3 => fun h4 => 
    Q [V.one (Cell.slice 1 { a := some (i3, 0), len := l0.len })] h4)) h1)
theorem den56 (I : FuncId → List V → Post → T) (l0 : Sl) (Q : Post) : denF Go.Proofs.Tryd.prog 0 (⟨[], []⟩) I 56 [V.one (Cell.slice 1 l0)] Q = vc56 I l0 Q := by kernel_rfl
/-- handbill/handref1.total -/
def vc57 (I : FuncId → List V → Post → T) (l0 : Sl) (Q : Post) : T :=
  loopK (A := Int × Int) ((0, 0))
    (fun x1 => uncur fun n2 n3 => ifT (decide (n3 < (↑l0.len : Int)))
      (fun h4 =>
      ((0 ≤ n3) ∧
      n3 < (↑l0.len : Int)) ∧
      (derefK l0.a (fun i5 => fun i6 => fun h7 =>
      ∃ n8 : Int, (h7.read i5 (i6 + n3.toNat * 1) 1 = some [Cell.int IntKind.i64 n8]) ∧
      x1 ((IntKind.i64.wrap (n2 + n8), IntKind.i64.wrap (n3 + 1))) h7)) h4)
      (Q [V.one (Cell.int IntKind.i64 n2)]))
theorem den57 (I : FuncId → List V → Post → T) (l0 : Sl) (Q : Post) : denF Go.Proofs.Tryd.prog 0 (⟨[], [(58, 65320, [(3, tk Go.Proofs.Tryd.prog 3), (8, tk Go.Proofs.Tryd.prog 3)])]⟩) I 57 [V.one (Cell.slice 1 l0)] Q = vc57 I l0 Q := by kernel_rfl
/-- slices.ContainsFunc[[]int,int] -/
def vc58 (I : FuncId → List V → Post → T) (l0 : Sl) (p1 : Option (Nat × List (Nat × Nat))) (Q : Post) : T :=
  fun h2 =>
  I 88 [V.one (Cell.slice 1 l0), V.one (Cell.func p1)]
    (fun cs3 => fun h4 => 
    ∃ n5 : Int, (cs3 = [V.one (Cell.int IntKind.i64 n5)]) ∧
    Q [V.one (Cell.bool (decide (n5 ≥ 0)))] h4) h2
theorem den58 (I : FuncId → List V → Post → T) (l0 : Sl) (p1 : Option (Nat × List (Nat × Nat))) (Q : Post) : denF Go.Proofs.Tryd.prog 0 (⟨[], []⟩) I 58 [V.one (Cell.slice 1 l0), V.one (Cell.func p1)] Q = vc58 I l0 p1 Q := by kernel_rfl
/-- slices.IndexFunc[[]int,int] -/
def vc88 (I : FuncId → List V → Post → T) (l0 : Sl) (p1 : Option (Nat × List (Nat × Nat))) (Q : Post) : T :=
  loopK (A := Int) 0
    (fun x2 => fun n3 => ifT (decide (n3 < (↑l0.len : Int)))
      (fun h4 =>
      ((0 ≤ n3) ∧
      n3 < (↑l0.len : Int)) ∧
      (derefK l0.a (fun i5 => fun i6 => fun h7 =>
      ∃ n8 : Int, (h7.read i5 (i6 + n3.toNat * 1) 1 = some [Cell.int IntKind.i64 n8]) ∧
      (funK p1 (fun i9 => fun cs10 => fun h11 => 
      I i9 (V.one (Cell.int IntKind.i64 n8) :: cs10)
        (fun cs12 => fun h13 => 
        ∃ b14 : Bool, (cs12 = [V.one (Cell.bool b14)]) ∧
        (ifT b14
          (Q [V.one (Cell.int IntKind.i64 n3)])
          (x2 (IntKind.i64.wrap (n3 + 1)))) h13) h11)) h7)) h4)
      (Q [V.one (Cell.int IntKind.i64 (-1))]))
theorem den88 (I : FuncId → List V → Post → T) (l0 : Sl) (p1 : Option (Nat × List (Nat × Nat))) (Q : Post) : denF Go.Proofs.Tryd.prog 0 (⟨[], [(26, 524080, [(8, tk Go.Proofs.Tryd.prog 3)])]⟩) I 88 [V.one (Cell.slice 1 l0), V.one (Cell.func p1)] Q = vc88 I l0 p1 Q := by kernel_rfl
/-- handbill/measure.CheckSplit$1 -/
def vc59 (I : FuncId → List V → Post → T) (n0 : Int) (Q : Post) : T :=
  fun h1 =>
  I 49 [V.one (Cell.int IntKind.i64 n0), V.one (Cell.int IntKind.i64 0), V.one (Cell.int IntKind.i64 1000)]
    (fun cs2 => fun h3 => 
    ∃ b4 : Bool, (cs2 = [V.one (Cell.bool b4)]) ∧
    Q [V.one (Cell.bool !b4)] h3) h1
theorem den59 (I : FuncId → List V → Post → T) (n0 : Int) (Q : Post) : denF Go.Proofs.Tryd.prog 0 (⟨[], []⟩) I 59 [V.one (Cell.int IntKind.i64 n0)] Q = vc59 I n0 Q := by kernel_rfl
/-- handbill/measure.sumOf -/
def vc60 (I : FuncId → List V → Post → T) (l0 : Sl) (Q : Post) : T :=
  loopK (A := Int × Int) ((0, 0))
    (fun x1 => uncur fun n2 n3 => ifT (decide (n3 < (↑l0.len : Int)))
      (fun h4 =>
      ((0 ≤ n3) ∧
      n3 < (↑l0.len : Int)) ∧
      (derefK l0.a (fun i5 => fun i6 => fun h7 =>
      ∃ n8 : Int, (h7.read i5 (i6 + n3.toNat * 1) 1 = some [Cell.int IntKind.i64 n8]) ∧
      x1 ((IntKind.i64.wrap (n2 + n8), IntKind.i64.wrap (n3 + 1))) h7)) h4)
      (Q [V.one (Cell.int IntKind.i64 n2)]))
theorem den60 (I : FuncId → List V → Post → T) (l0 : Sl) (Q : Post) : denF Go.Proofs.Tryd.prog 0 (⟨[], [(58, 65320, [(3, tk Go.Proofs.Tryd.prog 3), (8, tk Go.Proofs.Tryd.prog 3)])]⟩) I 60 [V.one (Cell.slice 1 l0)] Q = vc60 I l0 Q := by kernel_rfl
/-- slices.Contains[[]string,string] -/
def vc63 (I : FuncId → List V → Post → T) (l0 : Sl) (s1 : ByteArray) (Q : Post) : T :=
  fun h2 =>
  I 89 [V.one (Cell.slice 1 l0), V.one (Cell.str s1)]
    (fun cs3 => fun h4 => 
    ∃ n5 : Int, (cs3 = [V.one (Cell.int IntKind.i64 n5)]) ∧
    Q [V.one (Cell.bool (decide (n5 ≥ 0)))] h4) h2
theorem den63 (I : FuncId → List V → Post → T) (l0 : Sl) (s1 : ByteArray) (Q : Post) : denF Go.Proofs.Tryd.prog 0 (⟨[], []⟩) I 63 [V.one (Cell.slice 1 l0), V.one (Cell.str s1)] Q = vc63 I l0 s1 Q := by kernel_rfl
/-- slices.Index[[]string,string] -/
def vc89 (I : FuncId → List V → Post → T) (l0 : Sl) (s1 : ByteArray) (Q : Post) : T :=
  loopK (A := Int) 0
    (fun x2 => fun n3 => ifT (decide (n3 < (↑l0.len : Int)))
      (fun h4 =>
      ((0 ≤ n3) ∧
      n3 < (↑l0.len : Int)) ∧
      (derefK l0.a (fun i5 => fun i6 => fun h7 =>
      ∃ s8 : ByteArray, (h7.read i5 (i6 + n3.toNat * 1) 1 = some [Cell.str s8]) ∧
      (ifT (decide (s1 = s8))
        (Q [V.one (Cell.int IntKind.i64 n3)])
        (x2 (IntKind.i64.wrap (n3 + 1)))) h7)) h4)
      (Q [V.one (Cell.int IntKind.i64 (-1))]))
theorem den89 (I : FuncId → List V → Post → T) (l0 : Sl) (s1 : ByteArray) (Q : Post) : denF Go.Proofs.Tryd.prog 0 (⟨[], [(26, 524080, [(8, tk Go.Proofs.Tryd.prog 3)])]⟩) I 89 [V.one (Cell.slice 1 l0), V.one (Cell.str s1)] Q = vc89 I l0 s1 Q := by kernel_rfl

end Go.Proofs.YtihnjdhjkpmggaaDoorVc
