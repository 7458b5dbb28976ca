/- Formulas of the functions that CodesCount reaches: each says what a call needs for its ending. -/
import Derived.Test.YtihnjdhjkpmggaaVcCodeStr
import Derived.Test.YtihnjdhjkpmggaaVcBits
import Derived.Test.YtihnjdhjkpmggaaProg
set_option linter.unusedVariables false
set_option maxRecDepth 100000
namespace Go.Proofs.YtihnjdhjkpmggaaVc
def len8S : ByteArray := { data := #[0, 1, 2, 2, 3, 3, 3, 3, 4, 4, 4, 4, 4, 4, 4, 4, 5, 5, 5, 5, 5, 5, 5, 5, 5, 5, 5, 5, 5, 5, 5, 5, 6, 6, 6, 6, 6, 6, 6, 6, 6, 6, 6, 6, 6, 6, 6, 6, 6, 6, 6, 6, 6, 6, 6, 6, 6, 6, 6, 6, 6, 6, 6, 6, 7, 7, 7, 7, 7, 7, 7, 7, 7, 7, 7, 7, 7, 7, 7, 7, 7, 7, 7, 7, 7, 7, 7, 7, 7, 7, 7, 7, 7, 7, 7, 7, 7, 7, 7, 7, 7, 7, 7, 7, 7, 7, 7, 7, 7, 7, 7, 7, 7, 7, 7, 7, 7, 7, 7, 7, 7, 7, 7, 7, 7, 7, 7, 7, 8, 8, 8, 8, 8, 8, 8, 8, 8, 8, 8, 8, 8, 8, 8, 8, 8, 8, 8, 8, 8, 8, 8, 8, 8, 8, 8, 8, 8, 8, 8, 8, 8, 8, 8, 8, 8, 8, 8, 8, 8, 8, 8, 8, 8, 8, 8, 8, 8, 8, 8, 8, 8, 8, 8, 8, 8, 8, 8, 8, 8, 8, 8, 8, 8, 8, 8, 8, 8, 8, 8, 8, 8, 8, 8, 8, 8, 8, 8, 8, 8, 8, 8, 8, 8, 8, 8, 8, 8, 8, 8, 8, 8, 8, 8, 8, 8, 8, 8, 8, 8, 8, 8, 8, 8, 8, 8, 8, 8, 8, 8, 8, 8, 8, 8, 8, 8, 8, 8, 8, 8, 8, 8, 8, 8, 8, 8, 8] }
def vc12 (I : FuncId → List V → Post → T) (p0 : Option (Nat × Nat)) (n1 : Int) (Q : Post) : T :=
  derefK p0 (fun i2 => fun i3 => fun h4 =>
  ∃ n5 : Int, (h4.read i2 (i3 + 1) 1 = some [Cell.int IntKind.i64 n5]) ∧
  (derefK p0 (fun i6 => fun i7 => fun h8 =>
  (storeK [] i6 (i7 + 1) [Cell.int IntKind.i64 (IntKind.i64.wrap (n5 + 1))] (derefK p0 (fun i9 => fun i10 => fun h11 =>
  ∃ l12 : Sl, (h11.read i9 (i10 + 0) 1 = some [Cell.slice 1 l12]) ∧
  (ifT (decide ((↑l12.len : Int) = 0))
    (derefK p0 (fun i13 => fun i14 => fun h15 =>
    ∃ n16 : Int, (h15.read i13 (i14 + 1) 1 = some [Cell.int IntKind.i64 n16]) ∧
    I 55 [V.one (Cell.int IntKind.i64 (IntKind.i64.wrap (n16 * 7919))), V.one (Cell.int IntKind.i64 n1)]
      (fun cs17 => fun h18 => 
      ∃ n19 : Int, (cs17 = [V.one (Cell.int IntKind.i64 n19)]) ∧
      Q [V.one (Cell.int IntKind.i64 n19)] h18) h15))
    (derefK p0 (fun i20 => fun i21 => fun h22 =>
    ∃ n23 : Int, (h22.read i20 (i21 + 1) 1 = some [Cell.int IntKind.i64 n23]) ∧
    (derefK p0 (fun i24 => fun i25 => fun h26 =>
    ∃ l27 : Sl, (h26.read i24 (i25 + 0) 1 = some [Cell.slice 1 l27]) ∧
    ((↑l27.len : Int) ≠ 0) ∧
    (derefK p0 (fun i28 => fun i29 => fun h30 =>
    ∃ n31 : Int, (h30.read i28 (i29 + 1) 1 = some [Cell.int IntKind.i64 n31]) ∧
    (derefK p0 (fun i32 => fun i33 => fun h34 =>
    ∃ l35 : Sl, (h34.read i32 (i33 + 0) 1 = some [Cell.slice 1 l35]) ∧
    ((↑l35.len : Int) ≠ 0) ∧
    (derefK p0 (fun i36 => fun i37 => fun h38 =>
    ∃ l39 : Sl, (h38.read i36 (i37 + 0) 1 = some [Cell.slice 1 l39]) ∧
    ((0 ≤ (IntKind.i64.wrap (n23 - 1)).tmod (↑l27.len : Int)) ∧
    (IntKind.i64.wrap (n23 - 1)).tmod (↑l27.len : Int) < (↑l39.len : Int)) ∧
    (derefK l39.a (fun i40 => fun i41 => fun h42 =>
    ∃ n43 : Int, (h42.read i40 (i41 + ((IntKind.i64.wrap (n23 - 1)).tmod (↑l27.len : Int)).toNat * 1) 1 = some [Cell.int IntKind.i64 n43]) ∧
    I 55 [V.one (Cell.int IntKind.i64 n43), V.one (Cell.int IntKind.i64 1073741824)]
      (fun cs44 => fun h45 => 
      ∃ n46 : Int, (cs44 = [V.one (Cell.int IntKind.i64 n46)]) ∧
      I 55 [V.one (Cell.int IntKind.i64 (IntKind.i64.wrap (n46 + IntKind.i64.wrap (IntKind.i64.wrap ((IntKind.i64.wrap (n31 - 1)).tdiv (↑l35.len : Int)) * IntKind.i64.wrap (7919 + (IntKind.i64.wrap (n23 - 1)).tmod (↑l27.len : Int)))))), V.one (Cell.int IntKind.i64 n1)]
        (fun cs47 => fun h48 => 
        ∃ n49 : Int, (cs47 = [V.one (Cell.int IntKind.i64 n49)]) ∧
        Q [V.one (Cell.int IntKind.i64 n49)] h48) h45) h42)) h38)) h34)) h30)) h26)) h22))) h11))) h8)) h4)
theorem den12 (I : FuncId → List V → Post → T) (p0 : Option (Nat × Nat)) (n1 : Int) (Q : Post) : denF Go.Proofs.Try.prog 0 (⟨[], []⟩) I 12 [V.one (Cell.ptr p0), V.one (Cell.int IntKind.i64 n1)] Q = vc12 I p0 n1 Q := by kernel_rfl
def vc55 (I : FuncId → List V → Post → T) (n0 : Int) (n1 : Int) (Q : Post) : T :=
  ifT (decide (n1 < 1))
    (Q [V.one (Cell.int IntKind.i64 0)])
    (fun h2 =>
    (n1 ≠ 0) ∧
    (ifT (decide (n0.tmod n1 < 0))
      (Q [V.one (Cell.int IntKind.i64 (IntKind.i64.wrap (n0.tmod n1 + n1)))])
      (Q [V.one (Cell.int IntKind.i64 (n0.tmod n1))])) h2)
theorem den55 (I : FuncId → List V → Post → T) (n0 : Int) (n1 : Int) (Q : Post) : denF Go.Proofs.Try.prog 0 (⟨[], []⟩) I 55 [V.one (Cell.int IntKind.i64 n0), V.one (Cell.int IntKind.i64 n1)] Q = vc55 I n0 n1 Q := by kernel_rfl
def vc72 (I : FuncId → List V → Post → T) (n0 : Int) (n1 : Int) (n2 : Int) (Q : Post) : T :=
  ifT (decide (n1 ≤ n0))
    (Q [V.one (Cell.bool (decide (n0 ≤ n2)))])
    (Q [V.one (Cell.bool false)])
theorem den72 (I : FuncId → List V → Post → T) (n0 : Int) (n1 : Int) (n2 : Int) (Q : Post) : denF Go.Proofs.Try.prog 0 (⟨[], []⟩) I 72 [V.one (Cell.int IntKind.i64 n0), V.one (Cell.int IntKind.i64 n1), V.one (Cell.int IntKind.i64 n2)] Q = vc72 I n0 n1 n2 Q := by kernel_rfl
def vc73 (I : FuncId → List V → Post → T) (s0 : ByteArray) (Q : Post) : T :=
  loopK (A := Int) 0
    (fun x1 => fun n2 => ifT (decide (n2 < (↑s0.size : Int)))
      (fun h3 =>
      ((0 ≤ n2) ∧
      n2 < (↑s0.size : Int)) ∧
      I 86 [V.one (Cell.str signS), V.one (Cell.int IntKind.u8 (byteAt s0 n2))]
        (fun cs4 => fun h5 => 
        ∃ n6 : Int, (cs4 = [V.one (Cell.int IntKind.i64 n6)]) ∧
        (ifT (decide (n6 < 0))
          (Q [V.one (Cell.bool false)])
          (x1 (IntKind.i64.wrap (n2 + 1)))) h5) h3)
      (Q [V.one (Cell.bool true)]))
theorem den73 (I : FuncId → List V → Post → T) (s0 : ByteArray) (Q : Post) : denF Go.Proofs.Try.prog 0 (⟨[], [(26, 32716, [(6, tk Go.Proofs.Try.prog 3)])]⟩) I 73 [V.one (Cell.str s0)] Q = vc73 I s0 Q := by kernel_rfl
def vc86 (I : FuncId → List V → Post → T) (s0 : ByteArray) (n1 : Int) (Q : Post) : T :=
  fun h2 =>
  I 120 [V.one (Cell.str s0), V.one (Cell.int IntKind.u8 n1)]
    (fun cs3 => fun h4 => 
    ∃ n5 : Int, (cs3 = [V.one (Cell.int IntKind.i64 n5)]) ∧
    Q [V.one (Cell.int IntKind.i64 n5)] h4) h2
theorem den86 (I : FuncId → List V → Post → T) (s0 : ByteArray) (n1 : Int) (Q : Post) : denF Go.Proofs.Try.prog 0 (⟨[], []⟩) I 86 [V.one (Cell.str s0), V.one (Cell.int IntKind.u8 n1)] Q = vc86 I s0 n1 Q := by kernel_rfl
def vc120 (I : FuncId → List V → Post → T) (s0 : ByteArray) (n1 : Int) (Q : Post) : T :=
  fun h2 =>
  I 138 [V.one (Cell.str s0), V.one (Cell.int IntKind.u8 n1)]
    (fun cs3 => fun h4 => 
    ∃ n5 : Int, (cs3 = [V.one (Cell.int IntKind.i64 n5)]) ∧
    Q [V.one (Cell.int IntKind.i64 n5)] h4) h2
theorem den120 (I : FuncId → List V → Post → T) (s0 : ByteArray) (n1 : Int) (Q : Post) : denF Go.Proofs.Try.prog 0 (⟨[], []⟩) I 120 [V.one (Cell.str s0), V.one (Cell.int IntKind.u8 n1)] Q = vc120 I s0 n1 Q := by kernel_rfl
def vc74 (I : FuncId → List V → Post → T) (s0 : ByteArray) (Q : Post) : T :=
  loopK (A := Int) 0
    (fun x1 => fun n2 => ifT (decide (n2 < 31))
      (fun h3 =>
      ((0 ≤ n2) ∧
      (n2 ≤ IntKind.i64.wrap (n2 + 1)) ∧
      IntKind.i64.wrap (n2 + 1) ≤ (↑31 : Int)) ∧
      (s0.size + (signS.extract n2.toNat (IntKind.i64.wrap (n2 + 1)).toNat).size ≤ 9223372036854775807) ∧
      I 76 [V.one (Cell.str (s0 ++ signS.extract n2.toNat (IntKind.i64.wrap (n2 + 1)).toNat))]
        (fun cs4 => fun h5 => 
        ∃ n6 : Int, (cs4 = [V.one (Cell.int IntKind.i64 n6)]) ∧
        (ifT (decide (n6 = 0))
          (Q [V.one (Cell.str (s0 ++ signS.extract n2.toNat (IntKind.i64.wrap (n2 + 1)).toNat))])
          (x1 (IntKind.i64.wrap (n2 + 1)))) h5) h3)
      (Q [V.one (Cell.str s0)]))
theorem den74 (I : FuncId → List V → Post → T) (s0 : ByteArray) (Q : Post) : denF Go.Proofs.Try.prog 0 (⟨[], [(26, 524284, [(5, tk Go.Proofs.Try.prog 3)])]⟩) I 74 [V.one (Cell.str s0)] Q = vc74 I s0 Q := by kernel_rfl
def vc76 (I : FuncId → List V → Post → T) (s0 : ByteArray) (Q : Post) : T :=
  loopK (A := Int × Int) ((0, 0))
    (fun x1 => uncur fun n2 n3 => ifT (decide (n3 < (↑s0.size : Int)))
      (fun h4 =>
      ((0 ≤ n3) ∧
      n3 < (↑s0.size : Int)) ∧
      I 86 [V.one (Cell.str signS), V.one (Cell.int IntKind.u8 (byteAt s0 n3))]
        (fun cs5 => fun h6 => 
        ∃ n7 : Int, (cs5 = [V.one (Cell.int IntKind.i64 n7)]) ∧
        x1 ((IntKind.i64.wrap (n2 + IntKind.i64.wrap (IntKind.i64.wrap (n3 + 1) * n7)), IntKind.i64.wrap (n3 + 1))) h6) h4)
      (Q [V.one (Cell.int IntKind.i64 (n2.tmod 31))]))
theorem den76 (I : FuncId → List V → Post → T) (s0 : ByteArray) (Q : Post) : denF Go.Proofs.Try.prog 0 (⟨[], [(58, 1048472, [(3, tk Go.Proofs.Try.prog 3), (7, tk Go.Proofs.Try.prog 3)])]⟩) I 76 [V.one (Cell.str s0)] Q = vc76 I s0 Q := by kernel_rfl
def vc24 (I : FuncId → List V → Post → T) (s0 : ByteArray) (Q : Post) : T :=
  fun h1 =>
  I 72 [V.one (Cell.int IntKind.i64 (↑s0.size : Int)), V.one (Cell.int IntKind.i64 3), V.one (Cell.int IntKind.i64 23)]
    (fun cs2 => fun h3 => 
    ∃ b4 : Bool, (cs2 = [V.one (Cell.bool b4)]) ∧
    (ifT (!b4)
      (Q [V.one (Cell.str { data := #[] }), V.one (Cell.int IntKind.i64 2)])
      (fun h5 =>
      I 73 [V.one (Cell.str s0)]
        (fun cs6 => fun h7 => 
        ∃ b8 : Bool, (cs6 = [V.one (Cell.bool b8)]) ∧
        (ifT (!b8)
          (Q [V.one (Cell.str { data := #[] }), V.one (Cell.int IntKind.i64 3)])
          (fun h9 =>
          I 74 [V.one (Cell.str s0)]
            (fun cs10 => fun h11 => 
            ∃ s12 : ByteArray, (cs10 = [V.one (Cell.str s12)]) ∧
            Q [V.one (Cell.str s12), V.one (Cell.int IntKind.i64 0)] h11) h9)) h7) h5)) h3) h1
theorem den24 (I : FuncId → List V → Post → T) (s0 : ByteArray) (Q : Post) : denF Go.Proofs.Try.prog 0 (⟨[], []⟩) I 24 [V.one (Cell.str s0)] Q = vc24 I s0 Q := by kernel_rfl
def vc26 (I : FuncId → List V → Post → T) (Q : Post) : T :=
  fun h0 =>
  I 24 [V.one (Cell.str { data := #[49, 50, 51] })]
    (fun cs1 => fun h2 => 
    ∃ s3 : ByteArray, ∃ n4 : Int, (cs1 = [V.one (Cell.str s3), V.one (Cell.int IntKind.i64 n4)]) ∧
    (ifT (decide (n4 = 0))
      (Q [V.one (Cell.bool (decide (s3 = { data := #[49, 50, 51, 67] })))])
      (Q [V.one (Cell.bool false)])) h2) h0
theorem den26 (I : FuncId → List V → Post → T) (Q : Post) : denF Go.Proofs.Try.prog 0 (⟨[], []⟩) I 26 [] Q = vc26 I Q := by kernel_rfl
def vc27 (I : FuncId → List V → Post → T) (s0 : ByteArray) (Q : Post) : T :=
  fun h1 =>
  I 72 [V.one (Cell.int IntKind.i64 (↑s0.size : Int)), V.one (Cell.int IntKind.i64 4), V.one (Cell.int IntKind.i64 24)]
    (fun cs2 => fun h3 => 
    ∃ b4 : Bool, (cs2 = [V.one (Cell.bool b4)]) ∧
    (ifT (!b4)
      (Q [V.one (Cell.int IntKind.i64 2)])
      (fun h5 =>
      I 73 [V.one (Cell.str s0)]
        (fun cs6 => fun h7 => 
        ∃ b8 : Bool, (cs6 = [V.one (Cell.bool b8)]) ∧
        (ifT (!b8)
          (Q [V.one (Cell.int IntKind.i64 3)])
          (fun h9 =>
          I 76 [V.one (Cell.str s0)]
            (fun cs10 => fun h11 => 
            ∃ n12 : Int, (cs10 = [V.one (Cell.int IntKind.i64 n12)]) ∧
            (ifT (!decide (n12 = 0))
              (Q [V.one (Cell.int IntKind.i64 15)])
              (Q [V.one (Cell.int IntKind.i64 0)])) h11) h9)) h7) h5)) h3) h1
theorem den27 (I : FuncId → List V → Post → T) (s0 : ByteArray) (Q : Post) : denF Go.Proofs.Try.prog 0 (⟨[], []⟩) I 27 [V.one (Cell.str s0)] Q = vc27 I s0 Q := by kernel_rfl
def vc30 (I : FuncId → List V → Post → T) (p0 : Option (Nat × Nat)) (l1 : Sl) (Q : Post) : T :=
  fun h2 =>
  I 12 [V.one (Cell.ptr p0), V.one (Cell.int IntKind.i64 (↑l1.len : Int))]
    (fun cs3 => fun h4 => 
    ∃ n5 : Int, (cs3 = [V.one (Cell.int IntKind.i64 n5)]) ∧
    ((0 ≤ n5) ∧
    n5 < (↑l1.len : Int)) ∧
    (derefK l1.a (fun i6 => fun i7 => fun h8 =>
    ∃ n9 : Int, (h8.read i6 (i7 + n5.toNat * 1) 1 = some [Cell.int IntKind.i64 n9]) ∧
    Q [V.one (Cell.int IntKind.i64 n9)] h8)) h4) h2
theorem den30 (I : FuncId → List V → Post → T) (p0 : Option (Nat × Nat)) (l1 : Sl) (Q : Post) : denF Go.Proofs.Try.prog 0 (⟨[], []⟩) I 30 [V.one (Cell.ptr p0), V.one (Cell.slice 1 l1)] Q = vc30 I p0 l1 Q := by kernel_rfl
def vc41 (I : FuncId → List V → Post → T) (s0 : ByteArray) (n1 : Int) (n2 : Int) (n3 : Int) (n4 : Int) (Q : Post) : T :=
  fun h5 =>
  I 82 [V.one (Cell.str s0), V.one (Cell.int IntKind.i64 n1), V.one (Cell.int IntKind.i64 n2)]
    (fun cs6 => fun h7 => 
    ∃ n8 : Int, (cs6 = [V.one (Cell.int IntKind.i64 n8)]) ∧
    (ifT (!decide (n8 = 0))
      (Q [V.one (Cell.slice 1 { a := none, len := 0 }), V.one (Cell.int IntKind.i64 n8)])
      (fun h9 =>
      I 83 [V.one (Cell.int IntKind.i64 n1)]
        (fun cs10 => fun h11 => 
        ∃ n12 : Int, (cs10 = [V.one (Cell.int IntKind.i64 n12)]) ∧
        (joinK (A := Bool)
          (fun b13 => ifT b13
            (Q [V.one (Cell.slice 1 { a := none, len := 0 }), V.one (Cell.int IntKind.i64 1)])
            (loopK (A := Sl × Int) (({ a := none, len := 0 }, n3))
              (fun x14 => uncur fun l15 n16 => ifT (decide (n16 < IntKind.i64.wrap (n3 + n4)))
                (fun h17 =>
                I 84 [V.one (Cell.int IntKind.i64 n16), V.one (Cell.int IntKind.i64 7919), V.one (Cell.int IntKind.i64 n12)]
                  (fun cs18 => fun h19 => 
                  ∃ n20 : Int, (cs18 = [V.one (Cell.int IntKind.i64 n20)]) ∧
                  (n12 ≠ 0) ∧
                  (true = true) ∧
                  (0 ≤ n1) ∧
                  (n1 ≤ n1) ∧
                  (n1 * (↑1 : Int) ≤ 140737488355328) ∧
                  (newK (YtihnjdhjkpmggaaVc.Obj.cells false (slCells (VK.one (Kd.int IntKind.u8)) n1.toNat)) (fun i21 => loopK (A := Int × Int) (((IntKind.i64.wrap (n20 + n2)).tmod n12, IntKind.i64.wrap (n1 - 1)))
                    (fun x22 => uncur fun n23 n24 => ifT (decide (n24 ≥ 0))
                      (fun h25 =>
                      ((0 ≤ n23.tmod 31) ∧
                      n23.tmod 31 < (↑31 : Int)) ∧
                      ((0 ≤ n24) ∧
                      n24 < (↑n1.toNat : Int)) ∧
                      (storeK [] i21 (0 + n24.toNat * 1) [Cell.int IntKind.u8 (byteAt signS (n23.tmod 31))] (x22 ((IntKind.i64.wrap (n23.tdiv 31), IntKind.i64.wrap (n24 - 1))))) h25)
                      (fun h26 =>
                      ∃ s27 : ByteArray, (h26.sl 1 { a := some (i21, 0), len := n1.toNat } = some (byteCells s27)) ∧
                      (s0.size + s27.size ≤ 9223372036854775807) ∧
                      I 74 [V.one (Cell.str (s0 ++ s27))]
                        (fun cs28 => fun h29 => 
                        ∃ s30 : ByteArray, (cs28 = [V.one (Cell.str s30)]) ∧
                        (appendTo [] 1 16 l15 1 [Cell.str s30] (fun l31 => fun h32 => 
                        x14 ((l31, IntKind.i64.wrap (n16 + 1))) h32)) h29) h26)))) h19) h17)
                (Q [V.one (Cell.slice 1 l15), V.one (Cell.int IntKind.i64 0)]))))
          (fun x33 => fun h34 => 
          I 72 [V.one (Cell.int IntKind.i64 n3), V.one (Cell.int IntKind.i64 0), V.one (Cell.int IntKind.i64 (IntKind.i64.wrap (n12 - 1)))]
            (fun cs35 => fun h36 => 
            ∃ b37 : Bool, (cs35 = [V.one (Cell.bool b37)]) ∧
            (ifT (!b37)
              (x33 true)
              (fun h38 =>
              I 72 [V.one (Cell.int IntKind.i64 n4), V.one (Cell.int IntKind.i64 0), V.one (Cell.int IntKind.i64 1000)]
                (fun cs39 => fun h40 => 
                ∃ b41 : Bool, (cs39 = [V.one (Cell.bool b41)]) ∧
                (ifT (!b41)
                  (x33 true)
                  (x33 (decide (IntKind.i64.wrap (n3 + n4) > n12)))) h40) h38)) h36) h34)) h11) h9)) h7) h5
theorem den41 (I : FuncId → List V → Post → T) (s0 : ByteArray) (n1 : Int) (n2 : Int) (n3 : Int) (n4 : Int) (Q : Post) : denF Go.Proofs.Try.prog 0 (⟨[(60, 35184103653376, [(44, tk Go.Proofs.Try.prog 4)])], [(506, 19342813113763698051629056, [(14, tk Go.Proofs.Try.prog 55), (15, tk Go.Proofs.Try.prog 3)]), (259226, 75539416981840614195200, [(16, tk Go.Proofs.Try.prog 3), (18, tk Go.Proofs.Try.prog 3)])]⟩) I 41 [V.one (Cell.str s0), V.one (Cell.int IntKind.i64 n1), V.one (Cell.int IntKind.i64 n2), V.one (Cell.int IntKind.i64 n3), V.one (Cell.int IntKind.i64 n4)] Q = vc41 I s0 n1 n2 n3 n4 Q := by kernel_rfl
def vc82 (I : FuncId → List V → Post → T) (s0 : ByteArray) (n1 : Int) (n2 : Int) (Q : Post) : T :=
  ifT (decide ((↑s0.size : Int) > 12))
    (Q [V.one (Cell.int IntKind.i64 2)])
    (fun h3 =>
    I 73 [V.one (Cell.str s0)]
      (fun cs4 => fun h5 => 
      ∃ b6 : Bool, (cs4 = [V.one (Cell.bool b6)]) ∧
      (ifT (!b6)
        (Q [V.one (Cell.int IntKind.i64 3)])
        (fun h7 =>
        I 72 [V.one (Cell.int IntKind.i64 n1), V.one (Cell.int IntKind.i64 3), V.one (Cell.int IntKind.i64 11)]
          (fun cs8 => fun h9 => 
          ∃ b10 : Bool, (cs8 = [V.one (Cell.bool b10)]) ∧
          (ifT (!b10)
            (Q [V.one (Cell.int IntKind.i64 1)])
            (fun h11 =>
            I 83 [V.one (Cell.int IntKind.i64 n1)]
              (fun cs12 => fun h13 => 
              ∃ n14 : Int, (cs12 = [V.one (Cell.int IntKind.i64 n14)]) ∧
              I 72 [V.one (Cell.int IntKind.i64 n2), V.one (Cell.int IntKind.i64 0), V.one (Cell.int IntKind.i64 (IntKind.i64.wrap (n14 - 1)))]
                (fun cs15 => fun h16 => 
                ∃ b17 : Bool, (cs15 = [V.one (Cell.bool b17)]) ∧
                (ifT (!b17)
                  (Q [V.one (Cell.int IntKind.i64 1)])
                  (Q [V.one (Cell.int IntKind.i64 0)])) h16) h13) h11)) h9) h7)) h5) h3)
theorem den82 (I : FuncId → List V → Post → T) (s0 : ByteArray) (n1 : Int) (n2 : Int) (Q : Post) : denF Go.Proofs.Try.prog 0 (⟨[], []⟩) I 82 [V.one (Cell.str s0), V.one (Cell.int IntKind.i64 n1), V.one (Cell.int IntKind.i64 n2)] Q = vc82 I s0 n1 n2 Q := by kernel_rfl
def vc83 (I : FuncId → List V → Post → T) (n0 : Int) (Q : Post) : T :=
  loopK (A := Int × Int) ((1, 0))
    (fun x1 => uncur fun n2 n3 => ifT (decide (n3 < n0))
      (x1 ((IntKind.i64.wrap (n2 * 31), IntKind.i64.wrap (n3 + 1))))
      (Q [V.one (Cell.int IntKind.i64 n2)]))
theorem den83 (I : FuncId → List V → Post → T) (n0 : Int) (Q : Post) : denF Go.Proofs.Try.prog 0 (⟨[], [(58, 1000, [(3, tk Go.Proofs.Try.prog 3), (5, tk Go.Proofs.Try.prog 3)])]⟩) I 83 [V.one (Cell.int IntKind.i64 n0)] Q = vc83 I n0 Q := by kernel_rfl
def vc84 (I : FuncId → List V → Post → T) (n0 : Int) (n1 : Int) (n2 : Int) (Q : Post) : T :=
  fun h3 =>
  I 115 [V.one (Cell.int IntKind.u64 (IntKind.u64.wrap n0)), V.one (Cell.int IntKind.u64 (IntKind.u64.wrap n1))]
    (fun cs4 => fun h5 => 
    ∃ n6 : Int, ∃ n7 : Int, (cs4 = [V.one (Cell.int IntKind.u64 n6), V.one (Cell.int IntKind.u64 n7)]) ∧
    (IntKind.u64.wrap n2 ≠ 0) ∧
    I 118 [V.one (Cell.int IntKind.u64 (n6.tmod (IntKind.u64.wrap n2))), V.one (Cell.int IntKind.u64 n7), V.one (Cell.int IntKind.u64 (IntKind.u64.wrap n2))]
      (fun cs8 => fun h9 => 
      ∃ n10 : Int, ∃ n11 : Int, (cs8 = [V.one (Cell.int IntKind.u64 n10), V.one (Cell.int IntKind.u64 n11)]) ∧
      Q [V.one (Cell.int IntKind.i64 (IntKind.i64.wrap n11))] h9) h5) h3
theorem den84 (I : FuncId → List V → Post → T) (n0 : Int) (n1 : Int) (n2 : Int) (Q : Post) : denF Go.Proofs.Try.prog 0 (⟨[], []⟩) I 84 [V.one (Cell.int IntKind.i64 n0), V.one (Cell.int IntKind.i64 n1), V.one (Cell.int IntKind.i64 n2)] Q = vc84 I n0 n1 n2 Q := by kernel_rfl
def vc115 (I : FuncId → List V → Post → T) (n0 : Int) (n1 : Int) (Q : Post) : T :=
  Q [V.one (Cell.int IntKind.u64 (IntKind.u64.wrap (IntKind.u64.wrap (IntKind.u64.wrap (shr IntKind.u64 n0 32 * shr IntKind.u64 n1 32) + shr IntKind.u64 (IntKind.u64.wrap (IntKind.u64.wrap (shr IntKind.u64 n0 32 * IntKind.u64.wrap (↑(BitVec.ofInt 64 n1 &&& BitVec.ofInt 64 4294967295).toNat : Int)) + shr IntKind.u64 (IntKind.u64.wrap (IntKind.u64.wrap (↑(BitVec.ofInt 64 n0 &&& BitVec.ofInt 64 4294967295).toNat : Int) * IntKind.u64.wrap (↑(BitVec.ofInt 64 n1 &&& BitVec.ofInt 64 4294967295).toNat : Int))) 32)) 32) + shr IntKind.u64 (IntKind.u64.wrap (IntKind.u64.wrap (↑(BitVec.ofInt 64 (IntKind.u64.wrap (IntKind.u64.wrap (shr IntKind.u64 n0 32 * IntKind.u64.wrap (↑(BitVec.ofInt 64 n1 &&& BitVec.ofInt 64 4294967295).toNat : Int)) + shr IntKind.u64 (IntKind.u64.wrap (IntKind.u64.wrap (↑(BitVec.ofInt 64 n0 &&& BitVec.ofInt 64 4294967295).toNat : Int) * IntKind.u64.wrap (↑(BitVec.ofInt 64 n1 &&& BitVec.ofInt 64 4294967295).toNat : Int))) 32)) &&& BitVec.ofInt 64 4294967295).toNat : Int) + IntKind.u64.wrap (IntKind.u64.wrap (↑(BitVec.ofInt 64 n0 &&& BitVec.ofInt 64 4294967295).toNat : Int) * shr IntKind.u64 n1 32))) 32))), V.one (Cell.int IntKind.u64 (IntKind.u64.wrap (n0 * n1)))]
theorem den115 (I : FuncId → List V → Post → T) (n0 : Int) (n1 : Int) (Q : Post) : denF Go.Proofs.Try.prog 0 (⟨[], []⟩) I 115 [V.one (Cell.int IntKind.u64 n0), V.one (Cell.int IntKind.u64 n1)] Q = vc115 I n0 n1 Q := by kernel_rfl
def vc118 (I : FuncId → List V → Post → T) (n0 : Int) (n1 : Int) (n2 : Int) (Q : Post) : T :=
  joinK (A := PUnit)
    (fun x3 => joinK (A := PUnit)
      (fun x4 => ifT (decide (n0 = 0))
        (fun h5 =>
        (n2 ≠ 0) ∧
        (n2 ≠ 0) ∧
        Q [V.one (Cell.int IntKind.u64 (IntKind.u64.wrap (n1.tdiv n2))), V.one (Cell.int IntKind.u64 (n1.tmod n2))] h5)
        (fun h6 =>
        I 137 [V.one (Cell.int IntKind.u64 n2)]
          (fun cs7 => fun h8 => 
          ∃ n9 : Int, (cs7 = [V.one (Cell.int IntKind.i64 n9)]) ∧
          (0 ≤ IntKind.u64.wrap n9) ∧
          (0 ≤ IntKind.u64.wrap n9) ∧
          (0 ≤ IntKind.u64.wrap (64 - IntKind.u64.wrap n9)) ∧
          (0 ≤ IntKind.u64.wrap n9) ∧
          (shr IntKind.u64 (shl IntKind.u64 n2 (IntKind.u64.wrap n9)) 32 ≠ 0) ∧
          (joinK (A := Int)
            (fun n10 => fun h11 => 
            (shr IntKind.u64 (shl IntKind.u64 n2 (IntKind.u64.wrap n9)) 32 ≠ 0) ∧
            (loopK (A := Int × Int) ((IntKind.u64.wrap (IntKind.u64.wrap (IntKind.u64.wrap (IntKind.u64.wrap (IntKind.u64.wrap (↑(BitVec.ofInt 64 (shl IntKind.u64 n0 (IntKind.u64.wrap n9)) ||| BitVec.ofInt 64 (shr IntKind.u64 n1 (IntKind.u64.wrap (64 - IntKind.u64.wrap n9)))).toNat : Int) * 4294967296) + shr IntKind.u64 (shl IntKind.u64 n1 (IntKind.u64.wrap n9)) 32) - IntKind.u64.wrap (n10 * shl IntKind.u64 n2 (IntKind.u64.wrap n9))) - IntKind.u64.wrap (IntKind.u64.wrap ((IntKind.u64.wrap (IntKind.u64.wrap (IntKind.u64.wrap (IntKind.u64.wrap (↑(BitVec.ofInt 64 (shl IntKind.u64 n0 (IntKind.u64.wrap n9)) ||| BitVec.ofInt 64 (shr IntKind.u64 n1 (IntKind.u64.wrap (64 - IntKind.u64.wrap n9)))).toNat : Int) * 4294967296) + shr IntKind.u64 (shl IntKind.u64 n1 (IntKind.u64.wrap n9)) 32) - IntKind.u64.wrap (n10 * shl IntKind.u64 n2 (IntKind.u64.wrap n9)))).tdiv (shr IntKind.u64 (shl IntKind.u64 n2 (IntKind.u64.wrap n9)) 32)) * shr IntKind.u64 (shl IntKind.u64 n2 (IntKind.u64.wrap n9)) 32)), IntKind.u64.wrap ((IntKind.u64.wrap (IntKind.u64.wrap (IntKind.u64.wrap (IntKind.u64.wrap (↑(BitVec.ofInt 64 (shl IntKind.u64 n0 (IntKind.u64.wrap n9)) ||| BitVec.ofInt 64 (shr IntKind.u64 n1 (IntKind.u64.wrap (64 - IntKind.u64.wrap n9)))).toNat : Int) * 4294967296) + shr IntKind.u64 (shl IntKind.u64 n1 (IntKind.u64.wrap n9)) 32) - IntKind.u64.wrap (n10 * shl IntKind.u64 n2 (IntKind.u64.wrap n9)))).tdiv (shr IntKind.u64 (shl IntKind.u64 n2 (IntKind.u64.wrap n9)) 32))))
              (fun x12 => uncur fun n13 n14 => ifT (decide (n14 ≥ 4294967296))
                (ifT (decide (IntKind.u64.wrap (n13 + shr IntKind.u64 (shl IntKind.u64 n2 (IntKind.u64.wrap n9)) 32) ≥ 4294967296))
                  (fun h15 =>
                  (0 ≤ IntKind.u64.wrap n9) ∧
                  Q [V.one (Cell.int IntKind.u64 (IntKind.u64.wrap (IntKind.u64.wrap (n10 * 4294967296) + IntKind.u64.wrap (n14 - 1)))), V.one (Cell.int IntKind.u64 (shr IntKind.u64 (IntKind.u64.wrap (IntKind.u64.wrap (IntKind.u64.wrap (IntKind.u64.wrap (IntKind.u64.wrap (IntKind.u64.wrap (IntKind.u64.wrap (↑(BitVec.ofInt 64 (shl IntKind.u64 n0 (IntKind.u64.wrap n9)) ||| BitVec.ofInt 64 (shr IntKind.u64 n1 (IntKind.u64.wrap (64 - IntKind.u64.wrap n9)))).toNat : Int) * 4294967296) + shr IntKind.u64 (shl IntKind.u64 n1 (IntKind.u64.wrap n9)) 32) - IntKind.u64.wrap (n10 * shl IntKind.u64 n2 (IntKind.u64.wrap n9))) * 4294967296) + IntKind.u64.wrap (↑(BitVec.ofInt 64 (shl IntKind.u64 n1 (IntKind.u64.wrap n9)) &&& BitVec.ofInt 64 4294967295).toNat : Int)) - IntKind.u64.wrap (IntKind.u64.wrap (n14 - 1) * shl IntKind.u64 n2 (IntKind.u64.wrap n9)))) (IntKind.u64.wrap n9)))] h15)
                  (x12 ((IntKind.u64.wrap (n13 + shr IntKind.u64 (shl IntKind.u64 n2 (IntKind.u64.wrap n9)) 32), IntKind.u64.wrap (n14 - 1)))))
                (ifT (decide (IntKind.u64.wrap (n14 * IntKind.u64.wrap (↑(BitVec.ofInt 64 (shl IntKind.u64 n2 (IntKind.u64.wrap n9)) &&& BitVec.ofInt 64 4294967295).toNat : Int)) > IntKind.u64.wrap (IntKind.u64.wrap (4294967296 * n13) + IntKind.u64.wrap (↑(BitVec.ofInt 64 (shl IntKind.u64 n1 (IntKind.u64.wrap n9)) &&& BitVec.ofInt 64 4294967295).toNat : Int))))
                  (ifT (decide (IntKind.u64.wrap (n13 + shr IntKind.u64 (shl IntKind.u64 n2 (IntKind.u64.wrap n9)) 32) ≥ 4294967296))
                    (fun h16 =>
                    (0 ≤ IntKind.u64.wrap n9) ∧
                    Q [V.one (Cell.int IntKind.u64 (IntKind.u64.wrap (IntKind.u64.wrap (n10 * 4294967296) + IntKind.u64.wrap (n14 - 1)))), V.one (Cell.int IntKind.u64 (shr IntKind.u64 (IntKind.u64.wrap (IntKind.u64.wrap (IntKind.u64.wrap (IntKind.u64.wrap (IntKind.u64.wrap (IntKind.u64.wrap (IntKind.u64.wrap (↑(BitVec.ofInt 64 (shl IntKind.u64 n0 (IntKind.u64.wrap n9)) ||| BitVec.ofInt 64 (shr IntKind.u64 n1 (IntKind.u64.wrap (64 - IntKind.u64.wrap n9)))).toNat : Int) * 4294967296) + shr IntKind.u64 (shl IntKind.u64 n1 (IntKind.u64.wrap n9)) 32) - IntKind.u64.wrap (n10 * shl IntKind.u64 n2 (IntKind.u64.wrap n9))) * 4294967296) + IntKind.u64.wrap (↑(BitVec.ofInt 64 (shl IntKind.u64 n1 (IntKind.u64.wrap n9)) &&& BitVec.ofInt 64 4294967295).toNat : Int)) - IntKind.u64.wrap (IntKind.u64.wrap (n14 - 1) * shl IntKind.u64 n2 (IntKind.u64.wrap n9)))) (IntKind.u64.wrap n9)))] h16)
                    (x12 ((IntKind.u64.wrap (n13 + shr IntKind.u64 (shl IntKind.u64 n2 (IntKind.u64.wrap n9)) 32), IntKind.u64.wrap (n14 - 1)))))
                  (fun h17 =>
                  (0 ≤ IntKind.u64.wrap n9) ∧
                  Q [V.one (Cell.int IntKind.u64 (IntKind.u64.wrap (IntKind.u64.wrap (n10 * 4294967296) + n14))), V.one (Cell.int IntKind.u64 (shr IntKind.u64 (IntKind.u64.wrap (IntKind.u64.wrap (IntKind.u64.wrap (IntKind.u64.wrap (IntKind.u64.wrap (IntKind.u64.wrap (IntKind.u64.wrap (↑(BitVec.ofInt 64 (shl IntKind.u64 n0 (IntKind.u64.wrap n9)) ||| BitVec.ofInt 64 (shr IntKind.u64 n1 (IntKind.u64.wrap (64 - IntKind.u64.wrap n9)))).toNat : Int) * 4294967296) + shr IntKind.u64 (shl IntKind.u64 n1 (IntKind.u64.wrap n9)) 32) - IntKind.u64.wrap (n10 * shl IntKind.u64 n2 (IntKind.u64.wrap n9))) * 4294967296) + IntKind.u64.wrap (↑(BitVec.ofInt 64 (shl IntKind.u64 n1 (IntKind.u64.wrap n9)) &&& BitVec.ofInt 64 4294967295).toNat : Int)) - IntKind.u64.wrap (n14 * shl IntKind.u64 n2 (IntKind.u64.wrap n9)))) (IntKind.u64.wrap n9)))] h17)))) h11)
            (fun x18 => loopK (A := Int × Int) ((IntKind.u64.wrap ((IntKind.u64.wrap (↑(BitVec.ofInt 64 (shl IntKind.u64 n0 (IntKind.u64.wrap n9)) ||| BitVec.ofInt 64 (shr IntKind.u64 n1 (IntKind.u64.wrap (64 - IntKind.u64.wrap n9)))).toNat : Int)).tdiv (shr IntKind.u64 (shl IntKind.u64 n2 (IntKind.u64.wrap n9)) 32)), IntKind.u64.wrap (IntKind.u64.wrap (↑(BitVec.ofInt 64 (shl IntKind.u64 n0 (IntKind.u64.wrap n9)) ||| BitVec.ofInt 64 (shr IntKind.u64 n1 (IntKind.u64.wrap (64 - IntKind.u64.wrap n9)))).toNat : Int) - IntKind.u64.wrap (IntKind.u64.wrap ((IntKind.u64.wrap (↑(BitVec.ofInt 64 (shl IntKind.u64 n0 (IntKind.u64.wrap n9)) ||| BitVec.ofInt 64 (shr IntKind.u64 n1 (IntKind.u64.wrap (64 - IntKind.u64.wrap n9)))).toNat : Int)).tdiv (shr IntKind.u64 (shl IntKind.u64 n2 (IntKind.u64.wrap n9)) 32)) * shr IntKind.u64 (shl IntKind.u64 n2 (IntKind.u64.wrap n9)) 32))))
              (fun x19 => uncur fun n20 n21 => ifT (decide (n20 ≥ 4294967296))
                (ifT (decide (IntKind.u64.wrap (n21 + shr IntKind.u64 (shl IntKind.u64 n2 (IntKind.u64.wrap n9)) 32) ≥ 4294967296))
                  (x18 (IntKind.u64.wrap (n20 - 1)))
                  (x19 ((IntKind.u64.wrap (n20 - 1), IntKind.u64.wrap (n21 + shr IntKind.u64 (shl IntKind.u64 n2 (IntKind.u64.wrap n9)) 32)))))
                (ifT (decide (IntKind.u64.wrap (n20 * IntKind.u64.wrap (↑(BitVec.ofInt 64 (shl IntKind.u64 n2 (IntKind.u64.wrap n9)) &&& BitVec.ofInt 64 4294967295).toNat : Int)) > IntKind.u64.wrap (IntKind.u64.wrap (4294967296 * n21) + shr IntKind.u64 (shl IntKind.u64 n1 (IntKind.u64.wrap n9)) 32)))
                  (ifT (decide (IntKind.u64.wrap (n21 + shr IntKind.u64 (shl IntKind.u64 n2 (IntKind.u64.wrap n9)) 32) ≥ 4294967296))
                    (x18 (IntKind.u64.wrap (n20 - 1)))
                    (x19 ((IntKind.u64.wrap (n20 - 1), IntKind.u64.wrap (n21 + shr IntKind.u64 (shl IntKind.u64 n2 (IntKind.u64.wrap n9)) 32)))))
                  (x18 n20))))) h8) h6))
      (fun x22 => ifT (decide (n2 ≤ n0))
        (no)
        (x22 ())))
    (fun x23 => ifT (decide (n2 = 0))
      (no)
      (x23 ()))
theorem den118 (I : FuncId → List V → Post → T) (n0 : Int) (n1 : Int) (n2 : Int) (Q : Post) : denF Go.Proofs.Try.prog 0 (⟨[(13, 2097152, []), (29, 33554432, []), (65534, 77371104881383677504880640, [(15, tk Go.Proofs.Try.prog 86)])], [(131068, 77371104881383677504880640, [(15, tk Go.Proofs.Try.prog 86), (16, tk Go.Proofs.Try.prog 86)]), (2097148, 2658450920967430832890008133748195328, [(16, tk Go.Proofs.Try.prog 86), (18, tk Go.Proofs.Try.prog 86)])]⟩) I 118 [V.one (Cell.int IntKind.u64 n0), V.one (Cell.int IntKind.u64 n1), V.one (Cell.int IntKind.u64 n2)] Q = vc118 I n0 n1 n2 Q := by kernel_rfl
def vc137 (I : FuncId → List V → Post → T) (n0 : Int) (Q : Post) : T :=
  fun h1 =>
  I 155 [V.one (Cell.int IntKind.u64 n0)]
    (fun cs2 => fun h3 => 
    ∃ n4 : Int, (cs2 = [V.one (Cell.int IntKind.i64 n4)]) ∧
    Q [V.one (Cell.int IntKind.i64 (IntKind.i64.wrap (64 - n4)))] h3) h1
theorem den137 (I : FuncId → List V → Post → T) (n0 : Int) (Q : Post) : denF Go.Proofs.Try.prog 0 (⟨[], []⟩) I 137 [V.one (Cell.int IntKind.u64 n0)] Q = vc137 I n0 Q := by kernel_rfl
def vc155 (I : FuncId → List V → Post → T) (n0 : Int) (Q : Post) : T :=
  joinK (A := Int × Int)
    (uncur fun n1 n2 => ifT (decide (n1 ≥ 65536))
      (ifT (decide (shr IntKind.u64 n1 16 ≥ 256))
        (fun h3 =>
        ((0 ≤ IntKind.u8.wrap (shr IntKind.u64 (shr IntKind.u64 n1 16) 8)) ∧
        IntKind.u8.wrap (shr IntKind.u64 (shr IntKind.u64 n1 16) 8) < (↑256 : Int)) ∧
        Q [V.one (Cell.int IntKind.i64 (IntKind.i64.wrap (IntKind.i64.wrap (IntKind.i64.wrap (n2 + 16) + 8) + IntKind.i64.wrap (byteAt len8S (IntKind.u8.wrap (shr IntKind.u64 (shr IntKind.u64 n1 16) 8))))))] h3)
        (fun h4 =>
        ((0 ≤ IntKind.u8.wrap (shr IntKind.u64 n1 16)) ∧
        IntKind.u8.wrap (shr IntKind.u64 n1 16) < (↑256 : Int)) ∧
        Q [V.one (Cell.int IntKind.i64 (IntKind.i64.wrap (IntKind.i64.wrap (n2 + 16) + IntKind.i64.wrap (byteAt len8S (IntKind.u8.wrap (shr IntKind.u64 n1 16))))))] h4))
      (ifT (decide (n1 ≥ 256))
        (fun h5 =>
        ((0 ≤ IntKind.u8.wrap (shr IntKind.u64 n1 8)) ∧
        IntKind.u8.wrap (shr IntKind.u64 n1 8) < (↑256 : Int)) ∧
        Q [V.one (Cell.int IntKind.i64 (IntKind.i64.wrap (IntKind.i64.wrap (n2 + 8) + IntKind.i64.wrap (byteAt len8S (IntKind.u8.wrap (shr IntKind.u64 n1 8))))))] h5)
        (fun h6 =>
        ((0 ≤ IntKind.u8.wrap n1) ∧
        IntKind.u8.wrap n1 < (↑256 : Int)) ∧
        Q [V.one (Cell.int IntKind.i64 (IntKind.i64.wrap (n2 + IntKind.i64.wrap (byteAt len8S (IntKind.u8.wrap n1)))))] h6)))
    (fun x7 => ifT (decide (n0 ≥ 4294967296))
      (x7 ((shr IntKind.u64 n0 32, 32)))
      (x7 ((n0, 0))))
theorem den155 (I : FuncId → List V → Post → T) (n0 : Int) (Q : Post) : denF Go.Proofs.Try.prog 0 (⟨[(13, 101, [(0, tk Go.Proofs.Try.prog 86), (2, tk Go.Proofs.Try.prog 3)])], []⟩) I 155 [V.one (Cell.int IntKind.u64 n0)] Q = vc155 I n0 Q := by kernel_rfl
def vc42 (I : FuncId → List V → Post → T) (s0 : ByteArray) (n1 : Int) (n2 : Int) (s3 : ByteArray) (Q : Post) : T :=
  fun h4 =>
  I 82 [V.one (Cell.str s0), V.one (Cell.int IntKind.i64 n1), V.one (Cell.int IntKind.i64 n2)]
    (fun cs5 => fun h6 => 
    ∃ n7 : Int, (cs5 = [V.one (Cell.int IntKind.i64 n7)]) ∧
    (ifT (!decide (n7 = 0))
      (Q [V.one (Cell.int IntKind.i64 0), V.one (Cell.int IntKind.i64 n7)])
      (fun h8 =>
      I 27 [V.one (Cell.str s3)]
        (fun cs9 => fun h10 => 
        ∃ n11 : Int, (cs9 = [V.one (Cell.int IntKind.i64 n11)]) ∧
        (ifT (!decide (n11 = 0))
          (Q [V.one (Cell.int IntKind.i64 0), V.one (Cell.int IntKind.i64 n11)])
          (joinK (A := Bool)
            (fun b12 => ifT b12
              (Q [V.one (Cell.int IntKind.i64 0), V.one (Cell.int IntKind.i64 8)])
              (fun h13 =>
              I 83 [V.one (Cell.int IntKind.i64 n1)]
                (fun cs14 => fun h15 => 
                ∃ n16 : Int, (cs14 = [V.one (Cell.int IntKind.i64 n16)]) ∧
                (loopK (A := Int × Int) ((0, 0))
                  (fun x17 => uncur fun n18 n19 => ifT (decide (n19 < n1))
                    (fun h20 =>
                    ((0 ≤ IntKind.i64.wrap ((↑s0.size : Int) + n19)) ∧
                    IntKind.i64.wrap ((↑s0.size : Int) + n19) < (↑s3.size : Int)) ∧
                    I 86 [V.one (Cell.str signS), V.one (Cell.int IntKind.u8 (byteAt s3 (IntKind.i64.wrap ((↑s0.size : Int) + n19))))]
                      (fun cs21 => fun h22 => 
                      ∃ n23 : Int, (cs21 = [V.one (Cell.int IntKind.i64 n23)]) ∧
                      x17 ((IntKind.i64.wrap (IntKind.i64.wrap (n18 * 31) + n23), IntKind.i64.wrap (n19 + 1))) h22) h20)
                    (fun h24 =>
                    (n16 ≠ 0) ∧
                    I 87 [V.one (Cell.int IntKind.i64 n16)]
                      (fun cs25 => fun h26 => 
                      ∃ n27 : Int, (cs25 = [V.one (Cell.int IntKind.i64 n27)]) ∧
                      I 84 [V.one (Cell.int IntKind.i64 ((IntKind.i64.wrap (IntKind.i64.wrap (n18 - n2) + n16)).tmod n16)), V.one (Cell.int IntKind.i64 n27), V.one (Cell.int IntKind.i64 n16)]
                        (fun cs28 => fun h29 => 
                        ∃ n30 : Int, (cs28 = [V.one (Cell.int IntKind.i64 n30)]) ∧
                        Q [V.one (Cell.int IntKind.i64 n30), V.one (Cell.int IntKind.i64 0)] h29) h26) h24))) h15) h13))
            (fun x31 => ifT (!decide ((↑s3.size : Int) = IntKind.i64.wrap (IntKind.i64.wrap ((↑s0.size : Int) + n1) + 1)))
              (x31 true)
              (fun h32 =>
              I 85 [V.one (Cell.str s3), V.one (Cell.str s0)]
                (fun cs33 => fun h34 => 
                ∃ b35 : Bool, (cs33 = [V.one (Cell.bool b35)]) ∧
                x31 (!b35) h34) h32)))) h10) h8)) h6) h4
theorem den42 (I : FuncId → List V → Post → T) (s0 : ByteArray) (n1 : Int) (n2 : Int) (s3 : ByteArray) (Q : Post) : denF Go.Proofs.Try.prog 0 (⟨[(60, 2198889037824, [(40, tk Go.Proofs.Try.prog 4)])], [(506, 288212783965687808, [(12, tk Go.Proofs.Try.prog 3), (44, tk Go.Proofs.Try.prog 3)])]⟩) I 42 [V.one (Cell.str s0), V.one (Cell.int IntKind.i64 n1), V.one (Cell.int IntKind.i64 n2), V.one (Cell.str s3)] Q = vc42 I s0 n1 n2 s3 Q := by kernel_rfl
def vc85 (I : FuncId → List V → Post → T) (s0 : ByteArray) (s1 : ByteArray) (Q : Post) : T :=
  fun h2 =>
  I 119 [V.one (Cell.str s0), V.one (Cell.str s1)]
    (fun cs3 => fun h4 => 
    ∃ b5 : Bool, (cs3 = [V.one (Cell.bool b5)]) ∧
    Q [V.one (Cell.bool b5)] h4) h2
theorem den85 (I : FuncId → List V → Post → T) (s0 : ByteArray) (s1 : ByteArray) (Q : Post) : denF Go.Proofs.Try.prog 0 (⟨[], []⟩) I 85 [V.one (Cell.str s0), V.one (Cell.str s1)] Q = vc85 I s0 s1 Q := by kernel_rfl
def vc119 (I : FuncId → List V → Post → T) (s0 : ByteArray) (s1 : ByteArray) (Q : Post) : T :=
  ifT (decide ((↑s0.size : Int) ≥ (↑s1.size : Int)))
    (fun h2 =>
    (((0 : Int) ≤ (0 : Int)) ∧
    (0 ≤ (↑s1.size : Int)) ∧
    (↑s1.size : Int) ≤ (↑s0.size : Int)) ∧
    Q [V.one (Cell.bool (decide (s0.extract 0 (↑s1.size : Int).toNat = s1)))] h2)
    (Q [V.one (Cell.bool false)])
theorem den119 (I : FuncId → List V → Post → T) (s0 : ByteArray) (s1 : ByteArray) (Q : Post) : denF Go.Proofs.Try.prog 0 (⟨[], []⟩) I 119 [V.one (Cell.str s0), V.one (Cell.str s1)] Q = vc119 I s0 s1 Q := by kernel_rfl
def vc87 (I : FuncId → List V → Post → T) (n0 : Int) (Q : Post) : T :=
  fun h1 =>
  (n0 ≠ 0) ∧
  (loopK (A := Int × Int × Int × Int) ((Int.tmod 7919 n0, n0, 1, 0))
    (fun x2 => uncur fun n3 => uncur fun n4 => uncur fun n5 n6 => ifT (!decide (n3 = 0))
      (fun h7 =>
      (n3 ≠ 0) ∧
      x2 ((IntKind.i64.wrap (n4 - IntKind.i64.wrap (IntKind.i64.wrap (n4.tdiv n3) * n3)), n3, IntKind.i64.wrap (n6 - IntKind.i64.wrap (IntKind.i64.wrap (n4.tdiv n3) * n5)), n5)) h7)
      (fun h8 =>
      (n0 ≠ 0) ∧
      (n0 ≠ 0) ∧
      Q [V.one (Cell.int IntKind.i64 ((IntKind.i64.wrap (n6.tmod n0 + n0)).tmod n0))] h8))) h1
theorem den87 (I : FuncId → List V → Post → T) (n0 : Int) (Q : Post) : denF Go.Proofs.Try.prog 0 (⟨[], [(28, 268433656, [(3, tk Go.Proofs.Try.prog 3), (4, tk Go.Proofs.Try.prog 3), (5, tk Go.Proofs.Try.prog 3), (6, tk Go.Proofs.Try.prog 3)])]⟩) I 87 [V.one (Cell.int IntKind.i64 n0)] Q = vc87 I n0 Q := by kernel_rfl
def vc43 (I : FuncId → List V → Post → T) (l0 : Sl) (s1 : ByteArray) (Q : Post) : T :=
  fun h2 =>
  I 88 [V.one (Cell.slice 1 l0), V.one (Cell.str s1)]
    (fun cs3 => fun h4 => 
    ∃ n5 : Int, (cs3 = [V.one (Cell.int IntKind.i64 n5)]) ∧
    Q [V.one (Cell.bool (decide (n5 ≥ 0)))] h4) h2
theorem den43 (I : FuncId → List V → Post → T) (l0 : Sl) (s1 : ByteArray) (Q : Post) : denF Go.Proofs.Try.prog 0 (⟨[], []⟩) I 43 [V.one (Cell.slice 1 l0), V.one (Cell.str s1)] Q = vc43 I l0 s1 Q := by kernel_rfl
def vc88 (I : FuncId → List V → Post → T) (l0 : Sl) (s1 : ByteArray) (Q : Post) : T :=
  loopK (A := Int) 0
    (fun x2 => fun n3 => ifT (decide (n3 < (↑l0.len : Int)))
      (fun h4 =>
      ((0 ≤ n3) ∧
      n3 < (↑l0.len : Int)) ∧
      (derefK l0.a (fun i5 => fun i6 => fun h7 =>
      ∃ s8 : ByteArray, (h7.read i5 (i6 + n3.toNat * 1) 1 = some [Cell.str s8]) ∧
      (ifT (decide (s1 = s8))
        (Q [V.one (Cell.int IntKind.i64 n3)])
        (x2 (IntKind.i64.wrap (n3 + 1)))) h7)) h4)
      (Q [V.one (Cell.int IntKind.i64 (-1))]))
theorem den88 (I : FuncId → List V → Post → T) (l0 : Sl) (s1 : ByteArray) (Q : Post) : denF Go.Proofs.Try.prog 0 (⟨[], [(26, 524080, [(8, tk Go.Proofs.Try.prog 3)])]⟩) I 88 [V.one (Cell.slice 1 l0), V.one (Cell.str s1)] Q = vc88 I l0 s1 Q := by kernel_rfl
def vc7 (I : FuncId → List V → Post → T) (l0 : Sl) (Q : Post) : T :=
  fun h1 =>
  (newK (YtihnjdhjkpmggaaVc.Obj.cells false [Cell.slice 1 l0, Cell.int IntKind.i64 0]) (fun i2 => fun h3 => 
  (newK (YtihnjdhjkpmggaaVc.Obj.cells false [Cell.int IntKind.i64 3, Cell.int IntKind.i64 4, Cell.int IntKind.i64 11]) (fun i4 => fun h5 =>
  I 30 [V.one (Cell.ptr (some (i2, 0))), V.one (Cell.slice 1 { a := some (i4, 0), len := 3 })]
    (fun cs6 => fun h7 => 
    ∃ n8 : Int, (cs6 = [V.one (Cell.int IntKind.i64 n8)]) ∧
    I 12 [V.one (Cell.ptr (some (i2, 0))), V.one (Cell.int IntKind.i64 29791)]
      (fun cs9 => fun h10 => 
      ∃ n11 : Int, (cs9 = [V.one (Cell.int IntKind.i64 n11)]) ∧
      I 12 [V.one (Cell.ptr (some (i2, 0))), V.one (Cell.int IntKind.i64 29000)]
        (fun cs12 => fun h13 => 
        ∃ n14 : Int, (cs12 = [V.one (Cell.int IntKind.i64 n14)]) ∧
        I 12 [V.one (Cell.ptr (some (i2, 0))), V.one (Cell.int IntKind.i64 12)]
          (fun cs15 => fun h16 => 
          ∃ n17 : Int, (cs15 = [V.one (Cell.int IntKind.i64 n17)]) ∧
          I 41 [V.one (Cell.str { data := #[88] }), V.one (Cell.int IntKind.i64 n8), V.one (Cell.int IntKind.i64 n11), V.one (Cell.int IntKind.i64 n14), V.one (Cell.int IntKind.i64 n17)]
            (fun cs18 => fun h19 => 
            ∃ l20 : Sl, ∃ n21 : Int, (cs18 = [V.one (Cell.slice 1 l20), V.one (Cell.int IntKind.i64 n21)]) ∧
            (ifT (!decide (n21 = 0))
              (Q [V.one (Cell.bool false)])
              (loopK (A := Int) 0
                (fun x22 => fun n23 => ifT (decide (n23 < (↑l20.len : Int)))
                  (fun h24 =>
                  ((0 ≤ n23) ∧
                  n23 < (↑l20.len : Int)) ∧
                  (derefK l20.a (fun i25 => fun i26 => fun h27 =>
                  ∃ s28 : ByteArray, (h27.read i25 (i26 + n23.toNat * 1) 1 = some [Cell.str s28]) ∧
                  I 42 [V.one (Cell.str { data := #[88] }), V.one (Cell.int IntKind.i64 n8), V.one (Cell.int IntKind.i64 n11), V.one (Cell.str s28)]
                    (fun cs29 => fun h30 => 
                    ∃ n31 : Int, ∃ n32 : Int, (cs29 = [V.one (Cell.int IntKind.i64 n31), V.one (Cell.int IntKind.i64 n32)]) ∧
                    (ifT (!decide (n32 = 0))
                      (Q [V.one (Cell.bool false)])
                      (ifT (!decide (n31 = IntKind.i64.wrap (n14 + n23)))
                        (Q [V.one (Cell.bool false)])
                        (fun h33 =>
                        (((0 : Int) ≤ (0 : Int)) ∧
                        (0 ≤ n23) ∧
                        n23 ≤ (↑l20.len : Int)) ∧
                        I 43 [V.one (Cell.slice 1 (l20.sub 1 0 n23.toNat)), V.one (Cell.str s28)]
                          (fun cs34 => fun h35 => 
                          ∃ b36 : Bool, (cs34 = [V.one (Cell.bool b36)]) ∧
                          (ifT b36
                            (Q [V.one (Cell.bool false)])
                            (fun h37 =>
                            I 27 [V.one (Cell.str s28)]
                              (fun cs38 => fun h39 => 
                              ∃ n40 : Int, (cs38 = [V.one (Cell.int IntKind.i64 n40)]) ∧
                              (ifT (!decide (n40 = 0))
                                (Q [V.one (Cell.bool false)])
                                (x22 (IntKind.i64.wrap (n23 + 1)))) h39) h37)) h35) h33))) h30) h27)) h24)
                  (fun h41 =>
                  I 26 []
                    (fun cs42 => fun h43 => 
                    ∃ b44 : Bool, (cs42 = [V.one (Cell.bool b44)]) ∧
                    Q [V.one (Cell.bool b44)] h43) h41)))) h19) h16) h13) h10) h7) h5)) h3)) h1
theorem den7 (I : FuncId → List V → Post → T) (l0 : Sl) (Q : Post) : denF Go.Proofs.Try.prog 0 (⟨[], [(506, 1180591620648691834372, [(36, tk Go.Proofs.Try.prog 3)])]⟩) I 7 [V.one (Cell.slice 1 l0)] Q = vc7 I l0 Q := by kernel_rfl

end Go.Proofs.YtihnjdhjkpmggaaVc
