/- Formulas of the functions that CodesNotice reaches beyond those of CodesCount. -/
import Derived.Test.YtihnjdhjkpmggaaVcCcSpec4
set_option linter.unusedVariables false
set_option maxRecDepth 100000
namespace Go.Proofs.YtihnjdhjkpmggaaVc
def vc25 (I : FuncId → List V → Post → T) (p0 : Option (Nat × Nat)) (Q : Post) : T :=
  fun h1 =>
  (newK (YtihnjdhjkpmggaaVc.Obj.cells false [Cell.int IntKind.i64 2, Cell.int IntKind.i64 3, Cell.int IntKind.i64 3, Cell.int IntKind.i64 5, Cell.int IntKind.i64 8, Cell.int IntKind.i64 22, Cell.int IntKind.i64 23, Cell.int IntKind.i64 24]) (fun i2 => fun h3 =>
  I 30 [V.one (Cell.ptr p0), V.one (Cell.slice 1 { a := some (i2, 0), len := 8 })]
    (fun cs4 => fun h5 => 
    ∃ n6 : Int, (cs4 = [V.one (Cell.int IntKind.i64 n6)]) ∧
    (loopK (A := ByteArray × Int) (({ data := #[] }, 0))
      (fun x7 => uncur fun s8 n9 => ifT (decide (n9 < n6))
        (fun h10 =>
        I 12 [V.one (Cell.ptr p0), V.one (Cell.int IntKind.i64 31)]
          (fun cs11 => fun h12 => 
          ∃ n13 : Int, (cs11 = [V.one (Cell.int IntKind.i64 n13)]) ∧
          ((0 ≤ n13) ∧
          (n13 ≤ IntKind.i64.wrap (n13 + 1)) ∧
          IntKind.i64.wrap (n13 + 1) ≤ (↑31 : Int)) ∧
          (s8.size + (signS.extract n13.toNat (IntKind.i64.wrap (n13 + 1)).toNat).size ≤ 9223372036854775807) ∧
          x7 ((s8 ++ signS.extract n13.toNat (IntKind.i64.wrap (n13 + 1)).toNat, IntKind.i64.wrap (n9 + 1))) h12) h10)
        (fun h14 =>
        I 67 [V.one (Cell.ptr p0), V.one (Cell.int IntKind.i64 10)]
          (fun cs15 => fun h16 => 
          ∃ b17 : Bool, (cs15 = [V.one (Cell.bool b17)]) ∧
          (ifT b17
            (fun h18 =>
            I 75 [V.one (Cell.ptr p0), V.one (Cell.str s8), V.one (Cell.str { data := #[79, 73, 76, 83, 90, 97, 45] })]
              (fun cs19 => fun h20 => 
              ∃ s21 : ByteArray, (cs19 = [V.one (Cell.str s21)]) ∧
              Q [V.one (Cell.str s21)] h20) h18)
            (Q [V.one (Cell.str s8)])) h16) h14))) h5) h3)) h1
theorem den25 (I : FuncId → List V → Post → T) (p0 : Option (Nat × Nat)) (Q : Post) : denF Go.Proofs.Try.prog 0 (⟨[], [(122, 2096176, [(4, tk Go.Proofs.Try.prog 9), (10, tk Go.Proofs.Try.prog 3)])]⟩) I 25 [V.one (Cell.ptr p0)] Q = vc25 I p0 Q := by kernel_rfl
def vc67 (I : FuncId → List V → Post → T) (p0 : Option (Nat × Nat)) (n1 : Int) (Q : Post) : T :=
  fun h2 =>
  I 12 [V.one (Cell.ptr p0), V.one (Cell.int IntKind.i64 n1)]
    (fun cs3 => fun h4 => 
    ∃ n5 : Int, (cs3 = [V.one (Cell.int IntKind.i64 n5)]) ∧
    Q [V.one (Cell.bool (decide (n5 = 0)))] h4) h2
theorem den67 (I : FuncId → List V → Post → T) (p0 : Option (Nat × Nat)) (n1 : Int) (Q : Post) : denF Go.Proofs.Try.prog 0 (⟨[], []⟩) I 67 [V.one (Cell.ptr p0), V.one (Cell.int IntKind.i64 n1)] Q = vc67 I p0 n1 Q := by kernel_rfl
def vc75 (I : FuncId → List V → Post → T) (p0 : Option (Nat × Nat)) (s1 : ByteArray) (s2 : ByteArray) (Q : Post) : T :=
  joinK (A := Bool)
    (fun b3 => ifT b3
      (Q [V.one (Cell.str s2)])
      (fun h4 =>
      I 12 [V.one (Cell.ptr p0), V.one (Cell.int IntKind.i64 (↑s1.size : Int))]
        (fun cs5 => fun h6 => 
        ∃ n7 : Int, (cs5 = [V.one (Cell.int IntKind.i64 n7)]) ∧
        I 12 [V.one (Cell.ptr p0), V.one (Cell.int IntKind.i64 (↑s2.size : Int))]
          (fun cs8 => fun h9 => 
          ∃ n10 : Int, (cs8 = [V.one (Cell.int IntKind.i64 n10)]) ∧
          ((0 ≤ n10) ∧
          n10 < (↑s2.size : Int)) ∧
          I 12 [V.one (Cell.ptr p0), V.one (Cell.int IntKind.i64 3)]
            (fun cs11 => fun h12 => 
            ∃ n13 : Int, (cs11 = [V.one (Cell.int IntKind.i64 n13)]) ∧
            (ifT (decide (n13 = 0))
              (fun h14 =>
              (((0 : Int) ≤ (0 : Int)) ∧
              (0 ≤ n7) ∧
              n7 ≤ (↑s1.size : Int)) ∧
              ((s1.extract 0 n7.toNat).size + (Utf8.encode (IntKind.i32.wrap (byteAt s2 n10))).size ≤ 9223372036854775807) ∧
              ((0 ≤ IntKind.i64.wrap (n7 + 1)) ∧
              (IntKind.i64.wrap (n7 + 1) ≤ (↑s1.size : Int)) ∧
              (↑s1.size : Int) ≤ (↑s1.size : Int)) ∧
              ((s1.extract 0 n7.toNat ++ Utf8.encode (IntKind.i32.wrap (byteAt s2 n10))).size + (s1.extract (IntKind.i64.wrap (n7 + 1)).toNat (↑s1.size : Int).toNat).size ≤ 9223372036854775807) ∧
              Q [V.one (Cell.str (s1.extract 0 n7.toNat ++ Utf8.encode (IntKind.i32.wrap (byteAt s2 n10)) ++ s1.extract (IntKind.i64.wrap (n7 + 1)).toNat (↑s1.size : Int).toNat))] h14)
              (ifT (decide (n13 = 1))
                (fun h15 =>
                (((0 : Int) ≤ (0 : Int)) ∧
                (0 ≤ n7) ∧
                n7 ≤ (↑s1.size : Int)) ∧
                ((s1.extract 0 n7.toNat).size + (Utf8.encode (IntKind.i32.wrap (byteAt s2 n10))).size ≤ 9223372036854775807) ∧
                ((0 ≤ n7) ∧
                (n7 ≤ (↑s1.size : Int)) ∧
                (↑s1.size : Int) ≤ (↑s1.size : Int)) ∧
                ((s1.extract 0 n7.toNat ++ Utf8.encode (IntKind.i32.wrap (byteAt s2 n10))).size + (s1.extract n7.toNat (↑s1.size : Int).toNat).size ≤ 9223372036854775807) ∧
                Q [V.one (Cell.str (s1.extract 0 n7.toNat ++ Utf8.encode (IntKind.i32.wrap (byteAt s2 n10)) ++ s1.extract n7.toNat (↑s1.size : Int).toNat))] h15)
                (fun h16 =>
                (((0 : Int) ≤ (0 : Int)) ∧
                (0 ≤ n7) ∧
                n7 ≤ (↑s1.size : Int)) ∧
                ((0 ≤ IntKind.i64.wrap (n7 + 1)) ∧
                (IntKind.i64.wrap (n7 + 1) ≤ (↑s1.size : Int)) ∧
                (↑s1.size : Int) ≤ (↑s1.size : Int)) ∧
                ((s1.extract 0 n7.toNat).size + (s1.extract (IntKind.i64.wrap (n7 + 1)).toNat (↑s1.size : Int).toNat).size ≤ 9223372036854775807) ∧
                Q [V.one (Cell.str (s1.extract 0 n7.toNat ++ s1.extract (IntKind.i64.wrap (n7 + 1)).toNat (↑s1.size : Int).toNat))] h16))) h12) h9) h6) h4))
    (fun x17 => ifT (decide (s1 = { data := #[] }))
      (x17 true)
      (x17 (decide (s2 = { data := #[] }))))
theorem den75 (I : FuncId → List V → Post → T) (p0 : Option (Nat × Nat)) (s1 : ByteArray) (s2 : ByteArray) (Q : Post) : denF Go.Proofs.Try.prog 0 (⟨[(12, 32256, [(14, tk Go.Proofs.Try.prog 4)])], []⟩) I 75 [V.one (Cell.ptr p0), V.one (Cell.str s1), V.one (Cell.str s2)] Q = vc75 I p0 s1 s2 Q := by kernel_rfl
def vc28 (I : FuncId → List V → Post → T) (s0 : ByteArray) (Q : Post) : T :=
  fun h1 =>
  I 27 [V.one (Cell.str s0)]
    (fun cs2 => fun h3 => 
    ∃ n4 : Int, (cs2 = [V.one (Cell.int IntKind.i64 n4)]) ∧
    (ifT (!decide (n4 = 0))
      (Q [V.one (Cell.str { data := #[] }), V.one (Cell.int IntKind.i64 n4)])
      (loopK (A := ByteArray × Sl) ((s0, { a := none, len := 0 }))
        (fun x5 => uncur fun s6 l7 => ifT (decide ((↑s6.size : Int) > 4))
          (fun h8 =>
          (((0 : Int) ≤ (0 : Int)) ∧
          ((0 : Int) ≤ (4 : Int)) ∧
          4 ≤ (↑s6.size : Int)) ∧
          (appendTo [] 1 16 l7 1 [Cell.str (s6.extract 0 4)] (fun l9 => fun h10 => 
          (((0 : Int) ≤ (4 : Int)) ∧
          (4 ≤ (↑s6.size : Int)) ∧
          (↑s6.size : Int) ≤ (↑s6.size : Int)) ∧
          x5 ((s6.extract 4 (↑s6.size : Int).toNat, l9)) h10)) h8)
          (fun h11 =>
          (appendTo [] 1 16 l7 1 [Cell.str s6] (fun l12 => fun h13 => 
          I 77 [V.one (Cell.slice 1 l12), V.one (Cell.str { data := #[45] })]
            (fun cs14 => fun h15 => 
            ∃ s16 : ByteArray, (cs14 = [V.one (Cell.str s16)]) ∧
            Q [V.one (Cell.str s16), V.one (Cell.int IntKind.i64 0)] h15) h13)) h11)))) h3) h1
theorem den28 (I : FuncId → List V → Post → T) (s0 : ByteArray) (Q : Post) : denF Go.Proofs.Try.prog 0 (⟨[], [(60, 2095137, [(0, tk Go.Proofs.Try.prog 9), (5, tk Go.Proofs.Try.prog 55)])]⟩) I 28 [V.one (Cell.str s0)] Q = vc28 I s0 Q := by kernel_rfl
def vc29 (I : FuncId → List V → Post → T) (s0 : ByteArray) (Q : Post) : T :=
  ifT (decide ((↑s0.size : Int) > 100))
    (Q [V.one (Cell.str { data := #[] }), V.one (Cell.int IntKind.i64 2)])
    (loopK (A := Sl × Int) (({ a := none, len := 0 }, 0))
      (fun x1 => uncur fun l2 n3 => ifT (decide (n3 < (↑s0.size : Int)))
        (fun h4 =>
        ((0 ≤ n3) ∧
        n3 < (↑s0.size : Int)) ∧
        (joinK (A := Bool)
          (fun b5 => ifT b5
            (fun h6 =>
            I 78 [V.one (Cell.int IntKind.u8 (byteAt s0 n3))]
              (fun cs7 => fun h8 => 
              ∃ n9 : Int, (cs7 = [V.one (Cell.int IntKind.u8 n9)]) ∧
              (appendTo [] 1 1 l2 1 [Cell.int IntKind.u8 n9] (fun l10 => fun h11 => 
              x1 ((l10, IntKind.i64.wrap (n3 + 1))) h11)) h8) h6)
            (x1 ((l2, IntKind.i64.wrap (n3 + 1)))))
          (fun x12 => ifT (!decide (byteAt s0 n3 = 32))
            (ifT (!decide (byteAt s0 n3 = 45))
              (x12 (!decide (byteAt s0 n3 = 46)))
              (x12 false))
            (x12 false))) h4)
        (fun h13 =>
        ∃ s14 : ByteArray, (h13.sl 1 l2 = some (byteCells s14)) ∧
        I 27 [V.one (Cell.str s14)]
          (fun cs15 => fun h16 => 
          ∃ n17 : Int, (cs15 = [V.one (Cell.int IntKind.i64 n17)]) ∧
          (ifT (!decide (n17 = 0))
            (Q [V.one (Cell.str { data := #[] }), V.one (Cell.int IntKind.i64 n17)])
            (fun h18 =>
            ∃ s19 : ByteArray, (h18.sl 1 l2 = some (byteCells s19)) ∧
            Q [V.one (Cell.str s19), V.one (Cell.int IntKind.i64 0)] h18)) h16) h13)))
theorem den29 (I : FuncId → List V → Post → T) (s0 : ByteArray) (Q : Post) : denF Go.Proofs.Try.prog 0 (⟨[(31334, 536346624, [(28, tk Go.Proofs.Try.prog 4)])], [(122, 34359730288, [(4, tk Go.Proofs.Try.prog 45), (13, tk Go.Proofs.Try.prog 3)])]⟩) I 29 [V.one (Cell.str s0)] Q = vc29 I s0 Q := by kernel_rfl
def vc78 (I : FuncId → List V → Post → T) (n0 : Int) (Q : Post) : T :=
  joinK (A := Bool)
    (fun b1 => joinK (A := Int)
      (fun n2 => ifT (decide (n2 = 79))
        (Q [V.one (Cell.int IntKind.u8 48)])
        (ifT (decide (n2 = 73))
          (ifT (decide (n2 = 73))
            (Q [V.one (Cell.int IntKind.u8 49)])
            (ifT (decide (n2 = 83))
              (Q [V.one (Cell.int IntKind.u8 53)])
              (ifT (decide (n2 = 90))
                (Q [V.one (Cell.int IntKind.u8 50)])
                (Q [V.one (Cell.int IntKind.u8 n2)]))))
          (ifT (decide (n2 = 76))
            (Q [V.one (Cell.int IntKind.u8 49)])
            (ifT (decide (n2 = 83))
              (Q [V.one (Cell.int IntKind.u8 53)])
              (ifT (decide (n2 = 90))
                (Q [V.one (Cell.int IntKind.u8 50)])
                (Q [V.one (Cell.int IntKind.u8 n2)]))))))
      (fun x3 => ifT b1
        (x3 (IntKind.u8.wrap (n0 - 32)))
        (x3 n0)))
    (fun x4 => ifT (decide (97 ≤ n0))
      (x4 (decide (n0 ≤ 122)))
      (x4 false))
theorem den78 (I : FuncId → List V → Post → T) (n0 : Int) (Q : Post) : denF Go.Proofs.Try.prog 0 (⟨[(12, 504, [(8, tk Go.Proofs.Try.prog 4)]), (13, 1537, [(0, tk Go.Proofs.Try.prog 5)])], []⟩) I 78 [V.one (Cell.int IntKind.u8 n0)] Q = vc78 I n0 Q := by kernel_rfl
def vc5 (I : FuncId → List V → Post → T) (l0 : Sl) (Q : Post) : T :=
  fun h1 =>
  (newK (YtihnjdhjkpmggaaVc.Obj.cells false [Cell.slice 1 l0, Cell.int IntKind.i64 0]) (fun i2 => fun h3 => 
  I 25 [V.one (Cell.ptr (some (i2, 0)))]
    (fun cs4 => fun h5 => 
    ∃ s6 : ByteArray, (cs4 = [V.one (Cell.str s6)]) ∧
    I 24 [V.one (Cell.str s6)]
      (fun cs7 => fun h8 => 
      ∃ s9 : ByteArray, ∃ n10 : Int, (cs7 = [V.one (Cell.str s9), V.one (Cell.int IntKind.i64 n10)]) ∧
      (ifT (!decide (n10 = 0))
        (fun h11 =>
        I 26 []
          (fun cs12 => fun h13 => 
          ∃ b14 : Bool, (cs12 = [V.one (Cell.bool b14)]) ∧
          Q [V.one (Cell.bool b14)] h13) h11)
        (ifT (decide ((↑s9.size : Int) = 0))
          (Q [V.one (Cell.bool false)])
          (fun h15 =>
          I 12 [V.one (Cell.ptr (some (i2, 0))), V.one (Cell.int IntKind.i64 (↑s9.size : Int))]
            (fun cs16 => fun h17 => 
            ∃ n18 : Int, (cs16 = [V.one (Cell.int IntKind.i64 n18)]) ∧
            I 12 [V.one (Cell.ptr (some (i2, 0))), V.one (Cell.int IntKind.i64 (↑s9.size : Int))]
              (fun cs19 => fun h20 => 
              ∃ n21 : Int, (cs19 = [V.one (Cell.int IntKind.i64 n21)]) ∧
              (newK (YtihnjdhjkpmggaaVc.Obj.cells false (byteCells s9)) (fun i22 => fun h23 => 
              ((0 ≤ n21) ∧
              n21 < (↑s9.size : Int)) ∧
              ∃ n24 : Int, (h23.read i22 (0 + n21.toNat * 1) 1 = some [Cell.int IntKind.u8 n24]) ∧
              ((0 ≤ n18) ∧
              n18 < (↑s9.size : Int)) ∧
              ∃ n25 : Int, (h23.read i22 (0 + n18.toNat * 1) 1 = some [Cell.int IntKind.u8 n25]) ∧
              ((0 ≤ n18) ∧
              n18 < (↑s9.size : Int)) ∧
              (storeK [] i22 (0 + n18.toNat * 1) [Cell.int IntKind.u8 n24] (fun h26 =>
              ((0 ≤ n21) ∧
              n21 < (↑s9.size : Int)) ∧
              (storeK [] i22 (0 + n21.toNat * 1) [Cell.int IntKind.u8 n25] (joinK (A := Bool)
                (fun b27 => ifT b27
                  (Q [V.one (Cell.bool false)])
                  (fun h28 =>
                  (newK (YtihnjdhjkpmggaaVc.Obj.cells false (byteCells s9)) (fun i29 => fun h30 => 
                  I 12 [V.one (Cell.ptr (some (i2, 0))), V.one (Cell.int IntKind.i64 31)]
                    (fun cs31 => fun h32 => 
                    ∃ n33 : Int, (cs31 = [V.one (Cell.int IntKind.i64 n33)]) ∧
                    ((0 ≤ n33) ∧
                    n33 < (↑31 : Int)) ∧
                    ((0 ≤ n18) ∧
                    n18 < (↑s9.size : Int)) ∧
                    (storeK [] i29 (0 + n18.toNat * 1) [Cell.int IntKind.u8 (byteAt signS n33)] (joinK (A := Bool)
                      (fun b34 => ifT b34
                        (Q [V.one (Cell.bool false)])
                        (fun h35 =>
                        I 28 [V.one (Cell.str s9)]
                          (fun cs36 => fun h37 => 
                          ∃ s38 : ByteArray, ∃ n39 : Int, (cs36 = [V.one (Cell.str s38), V.one (Cell.int IntKind.i64 n39)]) ∧
                          I 29 [V.one (Cell.str s38)]
                            (fun cs40 => fun h41 => 
                            ∃ s42 : ByteArray, ∃ n43 : Int, (cs40 = [V.one (Cell.str s42), V.one (Cell.int IntKind.i64 n43)]) ∧
                            I 26 []
                              (fun cs44 => fun h45 => 
                              ∃ b46 : Bool, (cs44 = [V.one (Cell.bool b46)]) ∧
                              (ifT b46
                                (fun h47 =>
                                I 27 [V.one (Cell.str s9)]
                                  (fun cs48 => fun h49 => 
                                  ∃ n50 : Int, (cs48 = [V.one (Cell.int IntKind.i64 n50)]) ∧
                                  (ifT (decide (n50 = 0))
                                    (ifT (decide (n39 = 0))
                                      (ifT (decide (n43 = 0))
                                        (Q [V.one (Cell.bool (decide (s42 = s9)))])
                                        (Q [V.one (Cell.bool false)]))
                                      (Q [V.one (Cell.bool false)]))
                                    (Q [V.one (Cell.bool false)])) h49) h47)
                                (Q [V.one (Cell.bool false)])) h45) h41) h37) h35))
                      (fun x51 => fun h52 => 
                      ∃ s53 : ByteArray, (h52.sl 1 { a := some (i29, 0), len := s9.size } = some (byteCells s53)) ∧
                      (ifT (!decide (s53 = s9))
                        (fun h54 =>
                        ∃ s55 : ByteArray, (h54.sl 1 { a := some (i29, 0), len := s9.size } = some (byteCells s55)) ∧
                        I 27 [V.one (Cell.str s55)]
                          (fun cs56 => fun h57 => 
                          ∃ n58 : Int, (cs56 = [V.one (Cell.int IntKind.i64 n58)]) ∧
                          x51 (!decide (n58 = 15)) h57) h54)
                        (x51 false)) h52))) h32) h30)) h28))
                (fun x59 => fun h60 => 
                ∃ s61 : ByteArray, (h60.sl 1 { a := some (i22, 0), len := s9.size } = some (byteCells s61)) ∧
                (ifT (!decide (s61 = s9))
                  (fun h62 =>
                  ∃ s63 : ByteArray, (h62.sl 1 { a := some (i22, 0), len := s9.size } = some (byteCells s63)) ∧
                  I 27 [V.one (Cell.str s63)]
                    (fun cs64 => fun h65 => 
                    ∃ n66 : Int, (cs64 = [V.one (Cell.int IntKind.i64 n66)]) ∧
                    x59 (!decide (n66 = 15)) h65) h62)
                  (x59 false)) h60))) h26)) h23)) h20) h17) h15))) h8) h5) h3)) h1
theorem den5 (I : FuncId → List V → Post → T) (l0 : Sl) (Q : Post) : denF Go.Proofs.Try.prog 0 (⟨[(4092, 18428729675200069632, [(63, tk Go.Proofs.Try.prog 4)]), (32764, 9661961823951294107222016, [(82, tk Go.Proofs.Try.prog 4)])], []⟩) I 5 [V.one (Cell.slice 1 l0)] Q = vc5 I l0 Q := by kernel_rfl

end Go.Proofs.YtihnjdhjkpmggaaVc
