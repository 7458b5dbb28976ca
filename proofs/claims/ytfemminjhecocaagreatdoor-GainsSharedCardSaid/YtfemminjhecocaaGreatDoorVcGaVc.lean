/- Formulas of the functions that GainsAddUp reaches. -/
import Derived.Test.YtfemminjhecocaaGreatDoorVcOwns
import Derived.Test.YtfemminjhecocaaGreatDoorVcBits
import Derived.Test.YtfemminjhecocaaGreatDoorVcCodeStr
import Derived.Test.YtfemminjhecocaaGreatDoorVcLen8
import Derived.Test.YtfemminjhecocaaGreatDoorProg
set_option linter.unusedVariables false
set_option maxRecDepth 100000
namespace Go.Proofs.YtfemminjhecocaaGreatDoorVc
open Go.Proofs.YtfemminjhecocaaGreatDoorCodes
/-- (*handbill/handmake.Stream).Flip -/
def vc11 (I : FuncId → List V → Post → T) (p0 : Option (Nat × Nat)) (n1 : Int) (Q : Post) : T :=
  fun h2 =>
  I 43 [V.one (Cell.ptr p0), V.one (Cell.int IntKind.i64 n1)]
    (fun cs3 => fun h4 => 
    ∃ n5 : Int, (cs3 = [V.one (Cell.int IntKind.i64 n5)]) ∧
    Q [V.one (Cell.bool (decide (n5 = 0)))] h4) h2
theorem den11 (I : FuncId → List V → Post → T) (p0 : Option (Nat × Nat)) (n1 : Int) (Q : Post) : denF Go.Proofs.Tryz.prog 0 (⟨[], []⟩) I 11 [V.one (Cell.ptr p0), V.one (Cell.int IntKind.i64 n1)] Q = vc11 I p0 n1 Q := by kernel_rfl
/-- (*handbill/handmake.Stream).Next -/
def vc43 (I : FuncId → List V → Post → T) (p0 : Option (Nat × Nat)) (n1 : Int) (Q : Post) : T :=
  derefK p0 (fun i2 => fun i3 => fun h4 =>
  ∃ n5 : Int, (h4.read i2 (i3 + 1) 1 = some [Cell.int IntKind.i64 n5]) ∧
  (derefK p0 (fun i6 => fun i7 => fun h8 =>
  (storeK [] i6 (i7 + 1) [Cell.int IntKind.i64 (IntKind.i64.wrap (n5 + 1))] (derefK p0 (fun i9 => fun i10 => fun h11 =>
  ∃ l12 : Sl, (h11.read i9 (i10 + 0) 1 = some [Cell.slice 1 l12]) ∧
  (ifT (decide ((↑l12.len : Int) = 0))
    (derefK p0 (fun i13 => fun i14 => fun h15 =>
    ∃ n16 : Int, (h15.read i13 (i14 + 1) 1 = some [Cell.int IntKind.i64 n16]) ∧
    I 103 [V.one (Cell.int IntKind.i64 (IntKind.i64.wrap (n16 * 7919))), V.one (Cell.int IntKind.i64 n1)]
      (fun cs17 => fun h18 => 
      ∃ n19 : Int, (cs17 = [V.one (Cell.int IntKind.i64 n19)]) ∧
      Q [V.one (Cell.int IntKind.i64 n19)] h18) h15))
    (derefK p0 (fun i20 => fun i21 => fun h22 =>
    ∃ n23 : Int, (h22.read i20 (i21 + 1) 1 = some [Cell.int IntKind.i64 n23]) ∧
    (derefK p0 (fun i24 => fun i25 => fun h26 =>
    ∃ l27 : Sl, (h26.read i24 (i25 + 0) 1 = some [Cell.slice 1 l27]) ∧
    ((↑l27.len : Int) ≠ 0) ∧
    (derefK p0 (fun i28 => fun i29 => fun h30 =>
    ∃ n31 : Int, (h30.read i28 (i29 + 1) 1 = some [Cell.int IntKind.i64 n31]) ∧
    (derefK p0 (fun i32 => fun i33 => fun h34 =>
    ∃ l35 : Sl, (h34.read i32 (i33 + 0) 1 = some [Cell.slice 1 l35]) ∧
    ((↑l35.len : Int) ≠ 0) ∧
    (derefK p0 (fun i36 => fun i37 => fun h38 =>
    ∃ l39 : Sl, (h38.read i36 (i37 + 0) 1 = some [Cell.slice 1 l39]) ∧
    ((0 ≤ (IntKind.i64.wrap (n23 - 1)).tmod (↑l27.len : Int)) ∧
    (IntKind.i64.wrap (n23 - 1)).tmod (↑l27.len : Int) < (↑l39.len : Int)) ∧
    (derefK l39.a (fun i40 => fun i41 => fun h42 =>
    ∃ n43 : Int, (h42.read i40 (i41 + ((IntKind.i64.wrap (n23 - 1)).tmod (↑l27.len : Int)).toNat * 1) 1 = some [Cell.int IntKind.i64 n43]) ∧
    I 103 [V.one (Cell.int IntKind.i64 n43), V.one (Cell.int IntKind.i64 1073741824)]
      (fun cs44 => fun h45 => 
      ∃ n46 : Int, (cs44 = [V.one (Cell.int IntKind.i64 n46)]) ∧
      I 103 [V.one (Cell.int IntKind.i64 (IntKind.i64.wrap (n46 + IntKind.i64.wrap (IntKind.i64.wrap ((IntKind.i64.wrap (n31 - 1)).tdiv (↑l35.len : Int)) * IntKind.i64.wrap (7919 + (IntKind.i64.wrap (n23 - 1)).tmod (↑l27.len : Int)))))), V.one (Cell.int IntKind.i64 n1)]
        (fun cs47 => fun h48 => 
        ∃ n49 : Int, (cs47 = [V.one (Cell.int IntKind.i64 n49)]) ∧
        Q [V.one (Cell.int IntKind.i64 n49)] h48) h45) h42)) h38)) h34)) h30)) h26)) h22))) h11))) h8)) h4)
theorem den43 (I : FuncId → List V → Post → T) (p0 : Option (Nat × Nat)) (n1 : Int) (Q : Post) : denF Go.Proofs.Tryz.prog 0 (⟨[], []⟩) I 43 [V.one (Cell.ptr p0), V.one (Cell.int IntKind.i64 n1)] Q = vc43 I p0 n1 Q := by kernel_rfl
/-- handbill/handmake.Below -/
def vc103 (I : FuncId → List V → Post → T) (n0 : Int) (n1 : Int) (Q : Post) : T :=
  ifT (decide (n1 < 1))
    (Q [V.one (Cell.int IntKind.i64 0)])
    (fun h2 =>
    (n1 ≠ 0) ∧
    (ifT (decide (n0.tmod n1 < 0))
      (Q [V.one (Cell.int IntKind.i64 (IntKind.i64.wrap (n0.tmod n1 + n1)))])
      (Q [V.one (Cell.int IntKind.i64 (n0.tmod n1))])) h2)
theorem den103 (I : FuncId → List V → Post → T) (n0 : Int) (n1 : Int) (Q : Post) : denF Go.Proofs.Tryz.prog 0 (⟨[], []⟩) I 103 [V.one (Cell.int IntKind.i64 n0), V.one (Cell.int IntKind.i64 n1)] Q = vc103 I n0 n1 Q := by kernel_rfl
/-- (*handbill/handmake.Stream).Pick -/
def vc20 (I : FuncId → List V → Post → T) (p0 : Option (Nat × Nat)) (l1 : Sl) (Q : Post) : T :=
  fun h2 =>
  I 43 [V.one (Cell.ptr p0), V.one (Cell.int IntKind.i64 (↑l1.len : Int))]
    (fun cs3 => fun h4 => 
    ∃ n5 : Int, (cs3 = [V.one (Cell.int IntKind.i64 n5)]) ∧
    ((0 ≤ n5) ∧
    n5 < (↑l1.len : Int)) ∧
    (derefK l1.a (fun i6 => fun i7 => fun h8 =>
    ∃ n9 : Int, (h8.read i6 (i7 + n5.toNat * 1) 1 = some [Cell.int IntKind.i64 n9]) ∧
    Q [V.one (Cell.int IntKind.i64 n9)] h8)) h4) h2
theorem den20 (I : FuncId → List V → Post → T) (p0 : Option (Nat × Nat)) (l1 : Sl) (Q : Post) : denF Go.Proofs.Tryz.prog 0 (⟨[], []⟩) I 20 [V.one (Cell.ptr p0), V.one (Cell.slice 1 l1)] Q = vc20 I p0 l1 Q := by kernel_rfl
/-- (*handbill/handmake.Stream).Range -/
def vc26 (I : FuncId → List V → Post → T) (p0 : Option (Nat × Nat)) (n1 : Int) (n2 : Int) (Q : Post) : T :=
  ifT (decide (n2 < n1))
    (Q [V.one (Cell.int IntKind.i64 n1)])
    (fun h3 =>
    I 43 [V.one (Cell.ptr p0), V.one (Cell.int IntKind.i64 (IntKind.i64.wrap (IntKind.i64.wrap (n2 - n1) + 1)))]
      (fun cs4 => fun h5 => 
      ∃ n6 : Int, (cs4 = [V.one (Cell.int IntKind.i64 n6)]) ∧
      Q [V.one (Cell.int IntKind.i64 (IntKind.i64.wrap (n1 + n6)))] h5) h3)
theorem den26 (I : FuncId → List V → Post → T) (p0 : Option (Nat × Nat)) (n1 : Int) (n2 : Int) (Q : Post) : denF Go.Proofs.Tryz.prog 0 (⟨[], []⟩) I 26 [V.one (Cell.ptr p0), V.one (Cell.int IntKind.i64 n1), V.one (Cell.int IntKind.i64 n2)] Q = vc26 I p0 n1 n2 Q := by kernel_rfl
/-- (*handbill/handmake.Stream).one -/
def vc45 (I : FuncId → List V → Post → T) (p0 : Option (Nat × Nat)) (l1 : Sl) (Q : Post) : T :=
  fun h2 =>
  I 43 [V.one (Cell.ptr p0), V.one (Cell.int IntKind.i64 (↑l1.len : Int))]
    (fun cs3 => fun h4 => 
    ∃ n5 : Int, (cs3 = [V.one (Cell.int IntKind.i64 n5)]) ∧
    ((0 ≤ n5) ∧
    n5 < (↑l1.len : Int)) ∧
    (derefK l1.a (fun i6 => fun i7 => fun h8 =>
    ∃ s9 : ByteArray, (h8.read i6 (i7 + n5.toNat * 1) 1 = some [Cell.str s9]) ∧
    Q [V.one (Cell.str s9)] h8)) h4) h2
theorem den45 (I : FuncId → List V → Post → T) (p0 : Option (Nat × Nat)) (l1 : Sl) (Q : Post) : denF Go.Proofs.Tryz.prog 0 (⟨[], []⟩) I 45 [V.one (Cell.ptr p0), V.one (Cell.slice 1 l1)] Q = vc45 I p0 l1 Q := by kernel_rfl
/-- handbill/handref1.Moment -/
def vc14 (I : FuncId → List V → Post → T) (n0 : Int) (Q : Post) : T :=
  ifT (decide (n0 ≥ 0))
    (Q [V.one (Cell.bool (decide (n0 < 4321440)))])
    (Q [V.one (Cell.bool false)])
theorem den14 (I : FuncId → List V → Post → T) (n0 : Int) (Q : Post) : denF Go.Proofs.Tryz.prog 0 (⟨[], []⟩) I 14 [V.one (Cell.int IntKind.i64 n0)] Q = vc14 I n0 Q := by kernel_rfl
/-- handbill/person.IsKey -/
def vc126 (I : FuncId → List V → Post → T) (s0 : ByteArray) (Q : Post) : T :=
  fun h1 =>
  I 173 [V.one (Cell.int IntKind.i64 (↑s0.size : Int)), V.one (Cell.int IntKind.i64 1), V.one (Cell.int IntKind.i64 40)]
    (fun cs2 => fun h3 => 
    ∃ b4 : Bool, (cs2 = [V.one (Cell.bool b4)]) ∧
    (ifT b4
      (fun h5 =>
      (((0 : Int) ≤ (0 : Int)) ∧
      0 < (↑s0.size : Int)) ∧
      I 174 [V.one (Cell.int IntKind.u8 (byteAt s0 0))]
        (fun cs6 => fun h7 => 
        ∃ b8 : Bool, (cs6 = [V.one (Cell.bool b8)]) ∧
        (ifT b8
          (fun h9 =>
          I 175 [V.one (Cell.str s0), V.one (Cell.func (some (176, [])))]
            (fun cs10 => fun h11 => 
            ∃ b12 : Bool, (cs10 = [V.one (Cell.bool b12)]) ∧
            Q [V.one (Cell.bool b12)] h11) h9)
          (Q [V.one (Cell.bool false)])) h7) h5)
      (Q [V.one (Cell.bool false)])) h3) h1
theorem den126 (I : FuncId → List V → Post → T) (s0 : ByteArray) (Q : Post) : denF Go.Proofs.Tryz.prog 0 (⟨[], []⟩) I 126 [V.one (Cell.str s0)] Q = vc126 I s0 Q := by kernel_rfl
/-- handbill/person.within -/
def vc173 (I : FuncId → List V → Post → T) (n0 : Int) (n1 : Int) (n2 : Int) (Q : Post) : T :=
  ifT (decide (n1 ≤ n0))
    (Q [V.one (Cell.bool (decide (n0 ≤ n2)))])
    (Q [V.one (Cell.bool false)])
theorem den173 (I : FuncId → List V → Post → T) (n0 : Int) (n1 : Int) (n2 : Int) (Q : Post) : denF Go.Proofs.Tryz.prog 0 (⟨[], []⟩) I 173 [V.one (Cell.int IntKind.i64 n0), V.one (Cell.int IntKind.i64 n1), V.one (Cell.int IntKind.i64 n2)] Q = vc173 I n0 n1 n2 Q := by kernel_rfl
/-- handbill/person.small -/
def vc174 (I : FuncId → List V → Post → T) (n0 : Int) (Q : Post) : T :=
  ifT (decide (97 ≤ n0))
    (Q [V.one (Cell.bool (decide (n0 ≤ 122)))])
    (Q [V.one (Cell.bool false)])
theorem den174 (I : FuncId → List V → Post → T) (n0 : Int) (Q : Post) : denF Go.Proofs.Tryz.prog 0 (⟨[], []⟩) I 174 [V.one (Cell.int IntKind.u8 n0)] Q = vc174 I n0 Q := by kernel_rfl
/-- handbill/person.all -/
def vc175 (I : FuncId → List V → Post → T) (s0 : ByteArray) (p1 : Option (Nat × List (Nat × Nat))) (Q : Post) : T :=
  loopK (A := Int) 0
    (fun x2 => fun n3 => ifT (decide (n3 < (↑s0.size : Int)))
      (fun h4 =>
      ((0 ≤ n3) ∧
      n3 < (↑s0.size : Int)) ∧
      (funK p1 (fun i5 => fun cs6 => fun h7 => 
      I i5 (V.one (Cell.int IntKind.u8 (byteAt s0 n3)) :: cs6)
        (fun cs8 => fun h9 => 
        ∃ b10 : Bool, (cs8 = [V.one (Cell.bool b10)]) ∧
        (ifT (!b10)
          (Q [V.one (Cell.bool false)])
          (x2 (IntKind.i64.wrap (n3 + 1)))) h9) h7)) h4)
      (Q [V.one (Cell.bool true)]))
theorem den175 (I : FuncId → List V → Post → T) (s0 : ByteArray) (p1 : Option (Nat × List (Nat × Nat))) (Q : Post) : denF Go.Proofs.Tryz.prog 0 (⟨[], [(26, 261936, [(8, tk Go.Proofs.Tryz.prog 3)])]⟩) I 175 [V.one (Cell.str s0), V.one (Cell.func p1)] Q = vc175 I s0 p1 Q := by kernel_rfl
/-- handbill/person.IsKey$1 -/
def vc176 (I : FuncId → List V → Post → T) (n0 : Int) (Q : Post) : T :=
  fun h1 =>
  I 174 [V.one (Cell.int IntKind.u8 n0)]
    (fun cs2 => fun h3 => 
    ∃ b4 : Bool, (cs2 = [V.one (Cell.bool b4)]) ∧
    (ifT b4
      (Q [V.one (Cell.bool true)])
      (fun h5 =>
      I 177 [V.one (Cell.int IntKind.u8 n0)]
        (fun cs6 => fun h7 => 
        ∃ b8 : Bool, (cs6 = [V.one (Cell.bool b8)]) ∧
        (ifT b8
          (Q [V.one (Cell.bool true)])
          (ifT (decide (n0 = 45))
            (Q [V.one (Cell.bool true)])
            (Q [V.one (Cell.bool (decide (n0 = 95)))]))) h7) h5)) h3) h1
theorem den176 (I : FuncId → List V → Post → T) (n0 : Int) (Q : Post) : denF Go.Proofs.Tryz.prog 0 (⟨[], []⟩) I 176 [V.one (Cell.int IntKind.u8 n0)] Q = vc176 I n0 Q := by kernel_rfl
/-- handbill/person.digit -/
def vc177 (I : FuncId → List V → Post → T) (n0 : Int) (Q : Post) : T :=
  ifT (decide (48 ≤ n0))
    (Q [V.one (Cell.bool (decide (n0 ≤ 57)))])
    (Q [V.one (Cell.bool false)])
theorem den177 (I : FuncId → List V → Post → T) (n0 : Int) (Q : Post) : denF Go.Proofs.Tryz.prog 0 (⟨[], []⟩) I 177 [V.one (Cell.int IntKind.u8 n0)] Q = vc177 I n0 Q := by kernel_rfl
/-- math/bits.Len -/
def vc118 (I : FuncId → List V → Post → T) (n0 : Int) (Q : Post) : T :=
  fun h1 =>
  I 167 [V.one (Cell.int IntKind.u64 n0)]
    (fun cs2 => fun h3 => 
    ∃ n4 : Int, (cs2 = [V.one (Cell.int IntKind.i64 n4)]) ∧
    Q [V.one (Cell.int IntKind.i64 n4)] h3) h1
theorem den118 (I : FuncId → List V → Post → T) (n0 : Int) (Q : Post) : denF Go.Proofs.Tryz.prog 0 (⟨[], []⟩) I 118 [V.one (Cell.int IntKind.u64 n0)] Q = vc118 I n0 Q := by kernel_rfl
/-- math/bits.Len64 (by hand) -/
def vc167 (I : FuncId → List V → Post → T) (n0 : Int) (Q : Post) : T :=
  joinK (A := Int × Int)
    (uncur fun n1 n2 => ifT (decide (n1 ≥ 65536))
      (ifT (decide (shr IntKind.u64 n1 16 ≥ 256))
        (fun h3 =>
        ((0 ≤ IntKind.u8.wrap (shr IntKind.u64 (shr IntKind.u64 n1 16) 8)) ∧
        IntKind.u8.wrap (shr IntKind.u64 (shr IntKind.u64 n1 16) 8) < (↑256 : Int)) ∧
        Q [V.one (Cell.int IntKind.i64 (IntKind.i64.wrap (IntKind.i64.wrap (IntKind.i64.wrap (n2 + 16) + 8) + IntKind.i64.wrap (byteAt len8S (IntKind.u8.wrap (shr IntKind.u64 (shr IntKind.u64 n1 16) 8))))))] h3)
        (fun h4 =>
        ((0 ≤ IntKind.u8.wrap (shr IntKind.u64 n1 16)) ∧
        IntKind.u8.wrap (shr IntKind.u64 n1 16) < (↑256 : Int)) ∧
        Q [V.one (Cell.int IntKind.i64 (IntKind.i64.wrap (IntKind.i64.wrap (n2 + 16) + IntKind.i64.wrap (byteAt len8S (IntKind.u8.wrap (shr IntKind.u64 n1 16))))))] h4))
      (ifT (decide (n1 ≥ 256))
        (fun h5 =>
        ((0 ≤ IntKind.u8.wrap (shr IntKind.u64 n1 8)) ∧
        IntKind.u8.wrap (shr IntKind.u64 n1 8) < (↑256 : Int)) ∧
        Q [V.one (Cell.int IntKind.i64 (IntKind.i64.wrap (IntKind.i64.wrap (n2 + 8) + IntKind.i64.wrap (byteAt len8S (IntKind.u8.wrap (shr IntKind.u64 n1 8))))))] h5)
        (fun h6 =>
        ((0 ≤ IntKind.u8.wrap n1) ∧
        IntKind.u8.wrap n1 < (↑256 : Int)) ∧
        Q [V.one (Cell.int IntKind.i64 (IntKind.i64.wrap (n2 + IntKind.i64.wrap (byteAt len8S (IntKind.u8.wrap n1)))))] h6)))
    (fun x7 => ifT (decide (n0 ≥ 4294967296))
      (x7 ((shr IntKind.u64 n0 32, 32)))
      (x7 ((n0, 0))))
theorem den167 (I : FuncId → List V → Post → T) (n0 : Int) (Q : Post) : denF Go.Proofs.Tryz.prog 0 (⟨[(13, 101, [(0, tk Go.Proofs.Tryz.prog 195), (2, tk Go.Proofs.Tryz.prog 3)])], []⟩) I 167 [V.one (Cell.int IntKind.u64 n0)] Q = vc167 I n0 Q := by kernel_rfl
/-- cmp.Or[int] -/
def vc61 (I : FuncId → List V → Post → T) (l0 : Sl) (Q : Post) : T :=
  loopK (A := Int) 0
    (fun x1 => fun n2 => ifT (decide (n2 < (↑l0.len : Int)))
      (fun h3 =>
      ((0 ≤ n2) ∧
      n2 < (↑l0.len : Int)) ∧
      (derefK l0.a (fun i4 => fun i5 => fun h6 =>
      ∃ n7 : Int, (h6.read i4 (i5 + n2.toNat * 1) 1 = some [Cell.int IntKind.i64 n7]) ∧
      (ifT (!decide (n7 = 0))
        (Q [V.one (Cell.int IntKind.i64 n7)])
        (x1 (IntKind.i64.wrap (n2 + 1)))) h6)) h3)
      (Q [V.one (Cell.int IntKind.i64 0)]))
theorem den61 (I : FuncId → List V → Post → T) (l0 : Sl) (Q : Post) : denF Go.Proofs.Tryz.prog 0 (⟨[], [(58, 130852, [(8, tk Go.Proofs.Tryz.prog 3)])]⟩) I 61 [V.one (Cell.slice 1 l0)] Q = vc61 I l0 Q := by kernel_rfl
/-- cmp.Compare[int] -/
def vc62 (I : FuncId → List V → Post → T) (n0 : Int) (n1 : Int) (Q : Post) : T :=
  fun h2 =>
  I 119 [V.one (Cell.int IntKind.i64 n0)]
    (fun cs3 => fun h4 => 
    ∃ b5 : Bool, (cs3 = [V.one (Cell.bool b5)]) ∧
    I 119 [V.one (Cell.int IntKind.i64 n1)]
      (fun cs6 => fun h7 => 
      ∃ b8 : Bool, (cs6 = [V.one (Cell.bool b8)]) ∧
      (ifT b5
        (ifT b8
          (Q [V.one (Cell.int IntKind.i64 0)])
          (Q [V.one (Cell.int IntKind.i64 (-1))]))
        (ifT b8
          (Q [V.one (Cell.int IntKind.i64 1)])
          (ifT (decide (n0 < n1))
            (Q [V.one (Cell.int IntKind.i64 (-1))])
            (ifT (decide (n0 > n1))
              (Q [V.one (Cell.int IntKind.i64 1)])
              (Q [V.one (Cell.int IntKind.i64 0)]))))) h7) h4) h2
theorem den62 (I : FuncId → List V → Post → T) (n0 : Int) (n1 : Int) (Q : Post) : denF Go.Proofs.Tryz.prog 0 (⟨[], []⟩) I 62 [V.one (Cell.int IntKind.i64 n0), V.one (Cell.int IntKind.i64 n1)] Q = vc62 I n0 n1 Q := by kernel_rfl
/-- cmp.isNaN[int] -/
def vc119 (I : FuncId → List V → Post → T) (n0 : Int) (Q : Post) : T :=
  Q [V.one (Cell.bool (!decide (n0 = n0)))]
theorem den119 (I : FuncId → List V → Post → T) (n0 : Int) (Q : Post) : denF Go.Proofs.Tryz.prog 0 (⟨[], []⟩) I 119 [V.one (Cell.int IntKind.i64 n0)] Q = vc119 I n0 Q := by kernel_rfl
/-- slices.insertionSortCmpFunc[int] -/
def vc244 (I : FuncId → List V → Post → T) (l0 : Sl) (n1 : Int) (n2 : Int) (p3 : Option (Nat × List (Nat × Nat))) (Q : Post) : T :=
  loopK (A := Int) (IntKind.i64.wrap (n1 + 1))
    (fun x4 => fun n5 => ifT (decide (n5 < n2))
      (loopK (A := Int) n5
        (fun x6 => fun n7 => joinK (A := Bool)
          (fun b8 => ifT b8
            (fun h9 =>
            ((0 ≤ IntKind.i64.wrap (n7 - 1)) ∧
            IntKind.i64.wrap (n7 - 1) < (↑l0.len : Int)) ∧
            (derefK l0.a (fun i10 => fun i11 => fun h12 =>
            ∃ n13 : Int, (h12.read i10 (i11 + (IntKind.i64.wrap (n7 - 1)).toNat * 1) 1 = some [Cell.int IntKind.i64 n13]) ∧
            ((0 ≤ n7) ∧
            n7 < (↑l0.len : Int)) ∧
            (derefK l0.a (fun i14 => fun i15 => fun h16 =>
            ∃ n17 : Int, (h16.read i14 (i15 + n7.toNat * 1) 1 = some [Cell.int IntKind.i64 n17]) ∧
            ((0 ≤ n7) ∧
            n7 < (↑l0.len : Int)) ∧
            (derefK l0.a (fun i18 => fun i19 => fun h20 => 
            (storeK [] i18 (i19 + n7.toNat * 1) [Cell.int IntKind.i64 n13] (fun h21 =>
            ((0 ≤ IntKind.i64.wrap (n7 - 1)) ∧
            IntKind.i64.wrap (n7 - 1) < (↑l0.len : Int)) ∧
            (derefK l0.a (fun i22 => fun i23 => fun h24 => 
            (storeK [] i22 (i23 + (IntKind.i64.wrap (n7 - 1)).toNat * 1) [Cell.int IntKind.i64 n17] (x6 (IntKind.i64.wrap (n7 - 1)))) h24)) h21)) h20)) h16)) h12)) h9)
            (x4 (IntKind.i64.wrap (n5 + 1))))
          (fun x25 => ifT (decide (n7 > n1))
            (fun h26 =>
            ((0 ≤ n7) ∧
            n7 < (↑l0.len : Int)) ∧
            (derefK l0.a (fun i27 => fun i28 => fun h29 =>
            ∃ n30 : Int, (h29.read i27 (i28 + n7.toNat * 1) 1 = some [Cell.int IntKind.i64 n30]) ∧
            ((0 ≤ IntKind.i64.wrap (n7 - 1)) ∧
            IntKind.i64.wrap (n7 - 1) < (↑l0.len : Int)) ∧
            (derefK l0.a (fun i31 => fun i32 => fun h33 =>
            ∃ n34 : Int, (h33.read i31 (i32 + (IntKind.i64.wrap (n7 - 1)).toNat * 1) 1 = some [Cell.int IntKind.i64 n34]) ∧
            (funK p3 (fun i35 => fun cs36 => fun h37 => 
            I i35 (V.one (Cell.int IntKind.i64 n30) :: V.one (Cell.int IntKind.i64 n34) :: cs36)
              (fun cs38 => fun h39 => 
              ∃ n40 : Int, (cs38 = [V.one (Cell.int IntKind.i64 n40)]) ∧
              x25 (decide (n40 < 0)) h39) h37)) h33)) h29)) h26)
            (x25 false))))
      (Q []))
theorem den244 (I : FuncId → List V → Post → T) (l0 : Sl) (n1 : Int) (n2 : Int) (p3 : Option (Nat × List (Nat × Nat))) (Q : Post) : denF Go.Proofs.Tryz.prog 0 (⟨[(3216, 34359476224, [(34, tk Go.Proofs.Tryz.prog 4)])], [(6, 9007199254737664, [(8, tk Go.Proofs.Tryz.prog 3)]), (402, 9007199254479360, [(9, tk Go.Proofs.Tryz.prog 3)])]⟩) I 244 [V.one (Cell.slice 1 l0), V.one (Cell.int IntKind.i64 n1), V.one (Cell.int IntKind.i64 n2), V.one (Cell.func p3)] Q = vc244 I l0 n1 n2 p3 Q := by kernel_rfl
/-- handbill/handref1.keyOf -/
def vc78 (I : FuncId → List V → Post → T) (s0 : ByteArray) (Q : Post) : T :=
  fun h1 =>
  I 133 [V.one (Cell.str s0)]
    (fun cs2 => fun h3 => 
    ∃ b4 : Bool, (cs2 = [V.one (Cell.bool b4)]) ∧
    Q [V.one (Cell.bool b4)] h3) h1
theorem den78 (I : FuncId → List V → Post → T) (s0 : ByteArray) (Q : Post) : denF Go.Proofs.Tryz.prog 0 (⟨[], []⟩) I 78 [V.one (Cell.str s0)] Q = vc78 I s0 Q := by kernel_rfl
/-- handbill/handref2.Key -/
def vc133 (I : FuncId → List V → Post → T) (s0 : ByteArray) (Q : Post) : T :=
  fun h1 =>
  I 186 [V.one (Cell.int IntKind.i64 (↑s0.size : Int)), V.one (Cell.int IntKind.i64 1), V.one (Cell.int IntKind.i64 40)]
    (fun cs2 => fun h3 => 
    ∃ b4 : Bool, (cs2 = [V.one (Cell.bool b4)]) ∧
    (ifT b4
      (fun h5 =>
      (((0 : Int) ≤ (0 : Int)) ∧
      ((0 : Int) ≤ (1 : Int)) ∧
      1 ≤ (↑s0.size : Int)) ∧
      I 187 [V.one (Cell.str (s0.extract 0 1)), V.one (Cell.str { data := #[97, 98, 99, 100, 101, 102, 103, 104, 105, 106, 107, 108, 109, 110, 111, 112, 113, 114, 115, 116, 117, 118, 119, 120, 121, 122] })]
        (fun cs6 => fun h7 => 
        ∃ b8 : Bool, (cs6 = [V.one (Cell.bool b8)]) ∧
        (ifT b8
          (fun h9 =>
          I 187 [V.one (Cell.str s0), V.one (Cell.str { data := #[97, 98, 99, 100, 101, 102, 103, 104, 105, 106, 107, 108, 109, 110, 111, 112, 113, 114, 115, 116, 117, 118, 119, 120, 121, 122, 48, 49, 50, 51, 52, 53, 54, 55, 56, 57, 45, 95] })]
            (fun cs10 => fun h11 => 
            ∃ b12 : Bool, (cs10 = [V.one (Cell.bool b12)]) ∧
            Q [V.one (Cell.bool b12)] h11) h9)
          (Q [V.one (Cell.bool false)])) h7) h5)
      (Q [V.one (Cell.bool false)])) h3) h1
theorem den133 (I : FuncId → List V → Post → T) (s0 : ByteArray) (Q : Post) : denF Go.Proofs.Tryz.prog 0 (⟨[], []⟩) I 133 [V.one (Cell.str s0)] Q = vc133 I s0 Q := by kernel_rfl
/-- handbill/handref2.in -/
def vc186 (I : FuncId → List V → Post → T) (n0 : Int) (n1 : Int) (n2 : Int) (Q : Post) : T :=
  ifT (decide (n1 ≤ n0))
    (Q [V.one (Cell.bool (decide (n0 ≤ n2)))])
    (Q [V.one (Cell.bool false)])
theorem den186 (I : FuncId → List V → Post → T) (n0 : Int) (n1 : Int) (n2 : Int) (Q : Post) : denF Go.Proofs.Tryz.prog 0 (⟨[], []⟩) I 186 [V.one (Cell.int IntKind.i64 n0), V.one (Cell.int IntKind.i64 n1), V.one (Cell.int IntKind.i64 n2)] Q = vc186 I n0 n1 n2 Q := by kernel_rfl
/-- handbill/handref2.only -/
def vc187 (I : FuncId → List V → Post → T) (s0 : ByteArray) (s1 : ByteArray) (Q : Post) : T :=
  fun h2 =>
  I 228 [V.one (Cell.str s0), V.one (Cell.str s1)]
    (fun cs3 => fun h4 => 
    ∃ s5 : ByteArray, (cs3 = [V.one (Cell.str s5)]) ∧
    Q [V.one (Cell.bool (decide (s5 = { data := #[] })))] h4) h2
theorem den187 (I : FuncId → List V → Post → T) (s0 : ByteArray) (s1 : ByteArray) (Q : Post) : denF Go.Proofs.Tryz.prog 0 (⟨[], []⟩) I 187 [V.one (Cell.str s0), V.one (Cell.str s1)] Q = vc187 I s0 s1 Q := by kernel_rfl
/-- strings.Trim (by hand) -/
def vc228 (I : FuncId → List V → Post → T) (s0 : ByteArray) (s1 : ByteArray) (Q : Post) : T :=
  joinK (A := Bool)
    (fun b2 => ifT b2
      (Q [V.one (Cell.str s0)])
      (joinK (A := Bool)
        (fun b3 => ifT b3
          (fun h4 =>
          (((0 : Int) ≤ (0 : Int)) ∧
          0 < (↑s1.size : Int)) ∧
          (((0 : Int) ≤ (0 : Int)) ∧
          0 < (↑s1.size : Int)) ∧
          I 256 [V.one (Cell.str s0), V.one (Cell.int IntKind.u8 (byteAt s1 0))]
            (fun cs5 => fun h6 => 
            ∃ s7 : ByteArray, (cs5 = [V.one (Cell.str s7)]) ∧
            I 255 [V.one (Cell.str s7), V.one (Cell.int IntKind.u8 (byteAt s1 0))]
              (fun cs8 => fun h9 => 
              ∃ s10 : ByteArray, (cs8 = [V.one (Cell.str s10)]) ∧
              Q [V.one (Cell.str s10)] h9) h6) h4)
          (fun h11 =>
          I 257 [V.one (Cell.str s1)]
            (fun cs12 => fun h13 => 
            exCells (List.replicate 256 Kd.bool) fun ds14 => ∃ b270 : Bool, (cs12 = [V.agg ds14, V.one (Cell.bool b270)]) ∧
            (newK (.cells false (List.replicate 256 (Cell.bool false))) (fun i271 => fun h272 => 
            (storeK [] i271 0 ds14 (ifT b270
              (fun h273 =>
              I 259 [V.one (Cell.str s0), V.one (Cell.ptr (some (i271, 0)))]
                (fun cs274 => fun h275 => 
                ∃ s276 : ByteArray, (cs274 = [V.one (Cell.str s276)]) ∧
                I 258 [V.one (Cell.str s276), V.one (Cell.ptr (some (i271, 0)))]
                  (fun cs277 => fun h278 => 
                  ∃ s279 : ByteArray, (cs277 = [V.one (Cell.str s279)]) ∧
                  Q [V.one (Cell.str s279)] h278) h275) h273)
              (fun h280 =>
              I 261 [V.one (Cell.str s0), V.one (Cell.str s1)]
                (fun cs281 => fun h282 => 
                ∃ s283 : ByteArray, (cs281 = [V.one (Cell.str s283)]) ∧
                I 260 [V.one (Cell.str s283), V.one (Cell.str s1)]
                  (fun cs284 => fun h285 => 
                  ∃ s286 : ByteArray, (cs284 = [V.one (Cell.str s286)]) ∧
                  Q [V.one (Cell.str s286)] h285) h282) h280))) h272)) h13) h11))
        (fun x287 => ifT (decide ((↑s1.size : Int) = 1))
          (fun h288 =>
          (((0 : Int) ≤ (0 : Int)) ∧
          0 < (↑s1.size : Int)) ∧
          x287 (decide (byteAt s1 0 < 128)) h288)
          (x287 false))))
    (fun x289 => ifT (decide (s0 = { data := #[] }))
      (x289 true)
      (x289 (decide (s1 = { data := #[] }))))
theorem den228 (I : FuncId → List V → Post → T) (s0 : ByteArray) (s1 : ByteArray) (Q : Post) : denF Go.Proofs.Tryz.prog 0 (⟨[(12, 8064, [(12, tk Go.Proofs.Tryz.prog 4)]), (28, 4177920, [(21, tk Go.Proofs.Tryz.prog 4)])], []⟩) I 228 [V.one (Cell.str s0), V.one (Cell.str s1)] Q = vc228 I s0 s1 Q := by kernel_rfl
/-- strings.makeASCIISet (by hand) -/
def vc257 (I : FuncId → List V → Post → T) (s0 : ByteArray) (Q : Post) : T :=
  fun h1 =>
  (newK (.cells false (List.replicate 256 (Cell.bool false))) (fun i2 => loopK (A := Int) 0
    (fun x3 => fun n4 => ifT (decide (n4 < (↑s0.size : Int)))
      (fun h5 =>
      ((0 ≤ n4) ∧
      n4 < (↑s0.size : Int)) ∧
      (ifT (decide (byteAt s0 n4 ≥ 128))
        (fun h6 =>
        exCells (List.replicate 256 Kd.bool) fun ds7 => (h6.read i2 0 256 = some ds7) ∧
        (storeK [] i2 0 ds7 (fun h263 =>
        exCells (List.replicate 256 Kd.bool) fun ds264 => (h263.read i2 0 256 = some ds264) ∧
        Q [V.agg ds264, V.one (Cell.bool false)] h263)) h6)
        (fun h520 =>
        ((0 ≤ byteAt s0 n4) ∧
        byteAt s0 n4 < (↑256 : Int)) ∧
        (storeK [] i2 (0 + (byteAt s0 n4).toNat * 1) [Cell.bool true] (x3 (IntKind.i64.wrap (n4 + 1)))) h520)) h5)
      (fun h521 =>
      exCells (List.replicate 256 Kd.bool) fun ds522 => (h521.read i2 0 256 = some ds522) ∧
      (storeK [] i2 0 ds522 (fun h778 =>
      exCells (List.replicate 256 Kd.bool) fun ds779 => (h778.read i2 0 256 = some ds779) ∧
      Q [V.agg ds779, V.one (Cell.bool true)] h778)) h521)))) h1
theorem den257 (I : FuncId → List V → Post → T) (s0 : ByteArray) (Q : Post) : denF Go.Proofs.Tryz.prog 0 (⟨[], [(26, 1048568, [(4, tk Go.Proofs.Tryz.prog 3)])]⟩) I 257 [V.one (Cell.str s0)] Q = vc257 I s0 Q := by kernel_rfl
/-- strings.trimLeftASCII -/
def vc258 (I : FuncId → List V → Post → T) (s0 : ByteArray) (p1 : Option (Nat × Nat)) (Q : Post) : T :=
  loopK (A := ByteArray) s0
    (fun x2 => fun s3 => ifT (decide ((↑s3.size : Int) > 0))
      (fun h4 =>
      (((0 : Int) ≤ (0 : Int)) ∧
      0 < (↑s3.size : Int)) ∧
      I 274 [V.one (Cell.ptr p1), V.one (Cell.int IntKind.u8 (byteAt s3 0))]
        (fun cs5 => fun h6 => 
        ∃ b7 : Bool, (cs5 = [V.one (Cell.bool b7)]) ∧
        (ifT (!b7)
          (Q [V.one (Cell.str s3)])
          (fun h8 =>
          (((0 : Int) ≤ (1 : Int)) ∧
          (1 ≤ (↑s3.size : Int)) ∧
          (↑s3.size : Int) ≤ (↑s3.size : Int)) ∧
          x2 (s3.extract 1 (↑s3.size : Int).toNat) h8)) h6) h4)
      (Q [V.one (Cell.str s3)]))
theorem den258 (I : FuncId → List V → Post → T) (s0 : ByteArray) (p1 : Option (Nat × Nat)) (Q : Post) : denF Go.Proofs.Tryz.prog 0 (⟨[], [(12, 32737, [(0, tk Go.Proofs.Tryz.prog 9)])]⟩) I 258 [V.one (Cell.str s0), V.one (Cell.ptr p1)] Q = vc258 I s0 p1 Q := by kernel_rfl
/-- (*strings.asciiSet).contains -/
def vc274 (I : FuncId → List V → Post → T) (p0 : Option (Nat × Nat)) (n1 : Int) (Q : Post) : T :=
  derefK p0 (fun i2 => fun i3 => fun h4 => 
  ((0 ≤ n1) ∧
  n1 < (↑256 : Int)) ∧
  ∃ b5 : Bool, (h4.read i2 (i3 + n1.toNat * 1) 1 = some [Cell.bool b5]) ∧
  Q [V.one (Cell.bool b5)] h4)
theorem den274 (I : FuncId → List V → Post → T) (p0 : Option (Nat × Nat)) (n1 : Int) (Q : Post) : denF Go.Proofs.Tryz.prog 0 (⟨[], []⟩) I 274 [V.one (Cell.ptr p0), V.one (Cell.int IntKind.u8 n1)] Q = vc274 I p0 n1 Q := by kernel_rfl
/-- strings.trimRightASCII -/
def vc259 (I : FuncId → List V → Post → T) (s0 : ByteArray) (p1 : Option (Nat × Nat)) (Q : Post) : T :=
  loopK (A := ByteArray) s0
    (fun x2 => fun s3 => ifT (decide ((↑s3.size : Int) > 0))
      (fun h4 =>
      ((0 ≤ IntKind.i64.wrap ((↑s3.size : Int) - 1)) ∧
      IntKind.i64.wrap ((↑s3.size : Int) - 1) < (↑s3.size : Int)) ∧
      I 274 [V.one (Cell.ptr p1), V.one (Cell.int IntKind.u8 (byteAt s3 (IntKind.i64.wrap ((↑s3.size : Int) - 1))))]
        (fun cs5 => fun h6 => 
        ∃ b7 : Bool, (cs5 = [V.one (Cell.bool b7)]) ∧
        (ifT (!b7)
          (Q [V.one (Cell.str s3)])
          (fun h8 =>
          (((0 : Int) ≤ (0 : Int)) ∧
          (0 ≤ IntKind.i64.wrap ((↑s3.size : Int) - 1)) ∧
          IntKind.i64.wrap ((↑s3.size : Int) - 1) ≤ (↑s3.size : Int)) ∧
          x2 (s3.extract 0 (IntKind.i64.wrap ((↑s3.size : Int) - 1)).toNat) h8)) h6) h4)
      (Q [V.one (Cell.str s3)]))
theorem den259 (I : FuncId → List V → Post → T) (s0 : ByteArray) (p1 : Option (Nat × Nat)) (Q : Post) : denF Go.Proofs.Tryz.prog 0 (⟨[], [(12, 2097121, [(0, tk Go.Proofs.Tryz.prog 9)])]⟩) I 259 [V.one (Cell.str s0), V.one (Cell.ptr p1)] Q = vc259 I s0 p1 Q := by kernel_rfl
/-- strings.IndexByte -/
def vc171 (I : FuncId → List V → Post → T) (s0 : ByteArray) (n1 : Int) (Q : Post) : T :=
  fun h2 =>
  I 217 [V.one (Cell.str s0), V.one (Cell.int IntKind.u8 n1)]
    (fun cs3 => fun h4 => 
    ∃ n5 : Int, (cs3 = [V.one (Cell.int IntKind.i64 n5)]) ∧
    Q [V.one (Cell.int IntKind.i64 n5)] h4) h2
theorem den171 (I : FuncId → List V → Post → T) (s0 : ByteArray) (n1 : Int) (Q : Post) : denF Go.Proofs.Tryz.prog 0 (⟨[], []⟩) I 171 [V.one (Cell.str s0), V.one (Cell.int IntKind.u8 n1)] Q = vc171 I s0 n1 Q := by kernel_rfl
/-- internal/stringslite.IndexByte -/
def vc217 (I : FuncId → List V → Post → T) (s0 : ByteArray) (n1 : Int) (Q : Post) : T :=
  fun h2 =>
  I 243 [V.one (Cell.str s0), V.one (Cell.int IntKind.u8 n1)]
    (fun cs3 => fun h4 => 
    ∃ n5 : Int, (cs3 = [V.one (Cell.int IntKind.i64 n5)]) ∧
    Q [V.one (Cell.int IntKind.i64 n5)] h4) h2
theorem den217 (I : FuncId → List V → Post → T) (s0 : ByteArray) (n1 : Int) (Q : Post) : denF Go.Proofs.Tryz.prog 0 (⟨[], []⟩) I 217 [V.one (Cell.str s0), V.one (Cell.int IntKind.u8 n1)] Q = vc217 I s0 n1 Q := by kernel_rfl
/-- handbill/handkeep1.GainsAddUp -/
def vc5 (I : FuncId → List V → Post → T) (l0 : Sl) (Q : Post) : T :=
  fun h1 =>
  (newK (.cells false [Cell.slice 1 l0, Cell.int IntKind.i64 0]) (fun i2 => fun h3 => 
  I 24 [V.one (Cell.ptr (some (i2, 0))), V.one (Cell.int IntKind.i64 20)]
    (fun cs4 => fun h5 => 
    ∃ l6 : Sl, (cs4 = [V.one (Cell.slice 4 l6)]) ∧
    I 25 [V.one (Cell.ptr (some (i2, 0)))]
      (fun cs7 => fun h8 => 
      ∃ l9 : Sl, (cs7 = [V.one (Cell.slice 4 l9)]) ∧
      I 26 [V.one (Cell.ptr (some (i2, 0))), V.one (Cell.int IntKind.i64 1), V.one (Cell.int IntKind.i64 6)]
        (fun cs10 => fun h11 => 
        ∃ n12 : Int, (cs10 = [V.one (Cell.int IntKind.i64 n12)]) ∧
        (newK (.cells false [Cell.int IntKind.i64 1, Cell.int IntKind.i64 50, Cell.int IntKind.i64 300, Cell.int IntKind.i64 1000]) (fun i13 => fun h14 =>
        I 20 [V.one (Cell.ptr (some (i2, 0))), V.one (Cell.slice 1 { a := some (i13, 0), len := 4 })]
          (fun cs15 => fun h16 => 
          ∃ n17 : Int, (cs15 = [V.one (Cell.int IntKind.i64 n17)]) ∧
          I 27 [V.one (Cell.slice 4 l6), V.one (Cell.slice 4 l9), V.one (Cell.int IntKind.i64 n12), V.one (Cell.int IntKind.i64 n17)]
            (fun cs18 => fun h19 => 
            ∃ l20 : Sl, ∃ n21 : Int, ∃ n22 : Int, (cs18 = [V.one (Cell.slice 3 l20), V.one (Cell.int IntKind.i64 n21), V.one (Cell.int IntKind.i64 n22)]) ∧
            (ifT (!decide (n22 = 0))
              (joinK (A := Bool)
                (fun b23 => fun h24 => 
                Q [V.one (Cell.bool b23)] h24)
                (fun x25 => fun h26 => 
                I 28 []
                  (fun cs27 => fun h28 => 
                  ∃ b29 : Bool, (cs27 = [V.one (Cell.bool b29)]) ∧
                  (ifT b29
                    (fun h30 =>
                    I 29 [V.one (Cell.slice 4 l6)]
                      (fun cs31 => fun h32 => 
                      ∃ n33 : Int, (cs31 = [V.one (Cell.int IntKind.i64 n33)]) ∧
                      (ifT (!decide (n33 = 0))
                        (x25 true)
                        (fun h34 =>
                        I 30 [V.one (Cell.slice 4 l9)]
                          (fun cs35 => fun h36 => 
                          ∃ n37 : Int, (cs35 = [V.one (Cell.int IntKind.i64 n37)]) ∧
                          x25 (!decide (n37 = 0)) h36) h34)) h32) h30)
                    (x25 false)) h28) h26))
              (loopK (A := Int × Int) ((0, 0))
                (fun x38 => uncur fun n39 n40 => ifT (decide (n40 < (↑l9.len : Int)))
                  (fun h41 =>
                  ((0 ≤ n40) ∧
                  n40 < (↑l9.len : Int)) ∧
                  (derefK l9.a (fun i42 => fun i43 => fun h44 =>
                  ∃ s45 : ByteArray, ∃ s46 : ByteArray, ∃ n47 : Int, ∃ n48 : Int, (h44.read i42 (i43 + n40.toNat * 4) 4 = some [Cell.str s45, Cell.str s46, Cell.int IntKind.i64 n47, Cell.int IntKind.i64 n48]) ∧
                  x38 ((IntKind.i64.wrap (n39 + n48), IntKind.i64.wrap (n40 + 1))) h44)) h41)
                  (loopK (A := Int × Int) ((n39, 0))
                    (fun x49 => uncur fun n50 n51 => ifT (decide (n51 < (↑l20.len : Int)))
                      (fun h52 =>
                      ((0 ≤ n51) ∧
                      n51 < (↑l20.len : Int)) ∧
                      (derefK l20.a (fun i53 => fun i54 => fun h55 =>
                      ∃ s56 : ByteArray, ∃ n57 : Int, ∃ n58 : Int, (h55.read i53 (i54 + n51.toNat * 3) 3 = some [Cell.str s56, Cell.int IntKind.i64 n57, Cell.int IntKind.i64 n58]) ∧
                      (ifT (decide (n57 < 1))
                        (Q [V.one (Cell.bool false)])
                        (ifT (decide (n57 > (↑l9.len : Int)))
                          (Q [V.one (Cell.bool false)])
                          (ifT (decide (n58 < 0))
                            (Q [V.one (Cell.bool false)])
                            (x49 ((IntKind.i64.wrap (n50 - n58), IntKind.i64.wrap (n51 + 1))))))) h55)) h52)
                      (fun h59 =>
                      I 28 []
                        (fun cs60 => fun h61 => 
                        ∃ b62 : Bool, (cs60 = [V.one (Cell.bool b62)]) ∧
                        (ifT b62
                          (Q [V.one (Cell.bool (decide (n50 = n21)))])
                          (Q [V.one (Cell.bool false)])) h61) h59)))))) h19) h16) h14)) h11) h8) h5) h3)) h1
theorem den5 (I : FuncId → List V → Post → T) (l0 : Sl) (Q : Post) : denF Go.Proofs.Tryz.prog 40960 (⟨[(1012, 1125350151028740, [(2, tk Go.Proofs.Tryz.prog 4)])], [(2042, 2301339409586333696, [(11, tk Go.Proofs.Tryz.prog 3), (52, tk Go.Proofs.Tryz.prog 3)]), (4090, 154742495687300497507649540, [(11, tk Go.Proofs.Tryz.prog 3), (63, tk Go.Proofs.Tryz.prog 3)])]⟩) I 5 [V.one (Cell.slice 1 l0)] Q = vc5 I l0 Q := by kernel_rfl
/-- (*handbill/handmake.Stream).SentList -/
def vc24 (I : FuncId → List V → Post → T) (p0 : Option (Nat × Nat)) (n1 : Int) (Q : Post) : T :=
  fun h2 =>
  I 43 [V.one (Cell.ptr p0), V.one (Cell.int IntKind.i64 (IntKind.i64.wrap (n1 + 1)))]
    (fun cs3 => fun h4 => 
    ∃ n5 : Int, (cs3 = [V.one (Cell.int IntKind.i64 n5)]) ∧
    (loopK (A := Sl × Int × Int) (({ a := none, len := 0 }, 0, 0))
      (fun x6 => uncur fun l7 => uncur fun n8 n9 => ifT (decide (n9 < n5))
        (fun h10 =>
        (newK (.cells false [Cell.int IntKind.i64 0, Cell.int IntKind.i64 1, Cell.int IntKind.i64 10, Cell.int IntKind.i64 100]) (fun i11 => fun h12 =>
        I 20 [V.one (Cell.ptr p0), V.one (Cell.slice 1 { a := some (i11, 0), len := 4 })]
          (fun cs13 => fun h14 => 
          ∃ n15 : Int, (cs13 = [V.one (Cell.int IntKind.i64 n15)]) ∧
          (1 + (Utf8.encode (IntKind.i32.wrap (IntKind.i64.wrap (97 + n9)))).size ≤ 9223372036854775807) ∧
          (newK (.cells false [Cell.str { data := #[97, 110, 110] }, Cell.str { data := #[98, 111] }]) (fun i16 => fun h17 =>
          I 69 [V.one (Cell.ptr p0), V.one (Cell.slice 1 { a := some (i16, 0), len := 2 })]
            (fun cs18 => fun h19 => 
            ∃ s20 : ByteArray, (cs18 = [V.one (Cell.str s20)]) ∧
            (newK (.cells false [Cell.str { data := #[104, 101, 108, 108, 111] }, Cell.str { data := #[110, 101, 119, 115] }, Cell.str { data := #[111, 102, 102, 101, 114] }]) (fun i21 => fun h22 =>
            I 69 [V.one (Cell.ptr p0), V.one (Cell.slice 1 { a := some (i21, 0), len := 3 })]
              (fun cs23 => fun h24 => 
              ∃ s25 : ByteArray, (cs23 = [V.one (Cell.str s25)]) ∧
              (appendTo [] 4 56 l7 1 [Cell.str ({ data := #[115] } ++ Utf8.encode (IntKind.i32.wrap (IntKind.i64.wrap (97 + n9)))), Cell.str s20, Cell.str s25, Cell.int IntKind.i64 (IntKind.i64.wrap (n8 + n15))] (fun l26 => fun h27 => 
              x6 ((l26, IntKind.i64.wrap (n8 + n15), IntKind.i64.wrap (n9 + 1))) h27)) h24) h22)) h19) h17)) h14) h12)) h10)
        (joinK (A := Bool)
          (fun b28 => ifT b28
            (fun h29 =>
            I 43 [V.one (Cell.ptr p0), V.one (Cell.int IntKind.i64 (↑l7.len : Int))]
              (fun cs30 => fun h31 => 
              ∃ n32 : Int, (cs30 = [V.one (Cell.int IntKind.i64 n32)]) ∧
              ((0 ≤ n32) ∧
              n32 < (↑l7.len : Int)) ∧
              (derefK l7.a (fun i33 => fun i34 => fun h35 => 
              I 43 [V.one (Cell.ptr p0), V.one (Cell.int IntKind.i64 3)]
                (fun cs36 => fun h37 => 
                ∃ n38 : Int, (cs36 = [V.one (Cell.int IntKind.i64 n38)]) ∧
                (ifT (decide (n38 = 0))
                  (fun h39 =>
                  (newK (.cells false [Cell.str { data := #[] }, Cell.str { data := #[115, 97] }, Cell.str { data := #[83] }]) (fun i40 => fun h41 =>
                  I 45 [V.one (Cell.ptr p0), V.one (Cell.slice 1 { a := some (i40, 0), len := 3 })]
                    (fun cs42 => fun h43 => 
                    ∃ s44 : ByteArray, (cs42 = [V.one (Cell.str s44)]) ∧
                    (storeK [] i33 (i34 + n32.toNat * 4 + 0) [Cell.str s44] (Q [V.one (Cell.slice 4 l7)])) h43) h41)) h39)
                  (ifT (decide (n38 = 1))
                    (fun h45 =>
                    (newK (.cells false [Cell.int IntKind.i64 (-1), Cell.int IntKind.i64 4321440, Cell.int IntKind.i64 0]) (fun i46 => fun h47 =>
                    I 20 [V.one (Cell.ptr p0), V.one (Cell.slice 1 { a := some (i46, 0), len := 3 })]
                      (fun cs48 => fun h49 => 
                      ∃ n50 : Int, (cs48 = [V.one (Cell.int IntKind.i64 n50)]) ∧
                      (storeK [] i33 (i34 + n32.toNat * 4 + 3) [Cell.int IntKind.i64 n50] (Q [V.one (Cell.slice 4 l7)])) h49) h47)) h45)
                    (fun h51 =>
                    (newK (.cells false [Cell.str { data := #[] }, Cell.str { data := #[88] }]) (fun i52 => fun h53 =>
                    I 45 [V.one (Cell.ptr p0), V.one (Cell.slice 1 { a := some (i52, 0), len := 2 })]
                      (fun cs54 => fun h55 => 
                      ∃ s56 : ByteArray, (cs54 = [V.one (Cell.str s56)]) ∧
                      (storeK [] i33 (i34 + n32.toNat * 4 + 2) [Cell.str s56] (Q [V.one (Cell.slice 4 l7)])) h55) h53)) h51))) h37) h35)) h31) h29)
            (Q [V.one (Cell.slice 4 l7)]))
          (fun x57 => fun h58 => 
          I 11 [V.one (Cell.ptr p0), V.one (Cell.int IntKind.i64 12)]
            (fun cs59 => fun h60 => 
            ∃ b61 : Bool, (cs59 = [V.one (Cell.bool b61)]) ∧
            (ifT b61
              (x57 (decide ((↑l7.len : Int) > 0)))
              (x57 false)) h60) h58)))) h4) h2
theorem den24 (I : FuncId → List V → Post → T) (p0 : Option (Nat × Nat)) (n1 : Int) (Q : Post) : denF Go.Proofs.Tryz.prog 0 (⟨[(124, 34909494181888, [(44, tk Go.Proofs.Tryz.prog 4)])], [(122, 274877898976, [(5, tk Go.Proofs.Tryz.prog 53), (6, tk Go.Proofs.Tryz.prog 3), (13, tk Go.Proofs.Tryz.prog 3)])]⟩) I 24 [V.one (Cell.ptr p0), V.one (Cell.int IntKind.i64 n1)] Q = vc24 I p0 n1 Q := by kernel_rfl
/-- (*handbill/handmake.Stream).key -/
def vc69 (I : FuncId → List V → Post → T) (p0 : Option (Nat × Nat)) (l1 : Sl) (Q : Post) : T :=
  fun h2 =>
  I 11 [V.one (Cell.ptr p0), V.one (Cell.int IntKind.i64 40)]
    (fun cs3 => fun h4 => 
    ∃ b5 : Bool, (cs3 = [V.one (Cell.bool b5)]) ∧
    (ifT b5
      (fun h6 =>
      (newK (.cells false [Cell.str { data := #[] }, Cell.str { data := #[75, 101, 121] }, Cell.str { data := #[49, 97] }]) (fun i7 => fun h8 =>
      I 45 [V.one (Cell.ptr p0), V.one (Cell.slice 1 { a := some (i7, 0), len := 3 })]
        (fun cs9 => fun h10 => 
        ∃ s11 : ByteArray, (cs9 = [V.one (Cell.str s11)]) ∧
        Q [V.one (Cell.str s11)] h10) h8)) h6)
      (fun h12 =>
      I 45 [V.one (Cell.ptr p0), V.one (Cell.slice 1 l1)]
        (fun cs13 => fun h14 => 
        ∃ s15 : ByteArray, (cs13 = [V.one (Cell.str s15)]) ∧
        Q [V.one (Cell.str s15)] h14) h12)) h4) h2
theorem den69 (I : FuncId → List V → Post → T) (p0 : Option (Nat × Nat)) (l1 : Sl) (Q : Post) : denF Go.Proofs.Tryz.prog 0 (⟨[], []⟩) I 69 [V.one (Cell.ptr p0), V.one (Cell.slice 1 l1)] Q = vc69 I p0 l1 Q := by kernel_rfl
/-- (*handbill/handmake.Stream).Gains -/
def vc25 (I : FuncId → List V → Post → T) (p0 : Option (Nat × Nat)) (Q : Post) : T :=
  fun h1 =>
  I 43 [V.one (Cell.ptr p0), V.one (Cell.int IntKind.i64 5)]
    (fun cs2 => fun h3 => 
    ∃ n4 : Int, (cs2 = [V.one (Cell.int IntKind.i64 n4)]) ∧
    (loopK (A := Sl × Int) (({ a := none, len := 0 }, 0))
      (fun x5 => uncur fun l6 n7 => ifT (decide (n7 < n4))
        (fun h8 =>
        (1 + (Utf8.encode (IntKind.i32.wrap (IntKind.i64.wrap (97 + n7)))).size ≤ 9223372036854775807) ∧
        (newK (.cells false [Cell.str { data := #[97, 110, 110] }, Cell.str { data := #[97, 110, 110] }, Cell.str { data := #[98, 111] }, Cell.str { data := #[99, 121] }]) (fun i9 => fun h10 =>
        I 69 [V.one (Cell.ptr p0), V.one (Cell.slice 1 { a := some (i9, 0), len := 4 })]
          (fun cs11 => fun h12 => 
          ∃ s13 : ByteArray, (cs11 = [V.one (Cell.str s13)]) ∧
          I 43 [V.one (Cell.ptr p0), V.one (Cell.int IntKind.i64 500)]
            (fun cs14 => fun h15 => 
            ∃ n16 : Int, (cs14 = [V.one (Cell.int IntKind.i64 n16)]) ∧
            (newK (.cells false [Cell.int IntKind.i64 0, Cell.int IntKind.i64 1, Cell.int IntKind.i64 99, Cell.int IntKind.i64 100, Cell.int IntKind.i64 1000, Cell.int IntKind.i64 1000000000000]) (fun i17 => fun h18 =>
            I 20 [V.one (Cell.ptr p0), V.one (Cell.slice 1 { a := some (i17, 0), len := 6 })]
              (fun cs19 => fun h20 => 
              ∃ n21 : Int, (cs19 = [V.one (Cell.int IntKind.i64 n21)]) ∧
              (appendTo [] 4 48 l6 1 [Cell.str ({ data := #[103] } ++ Utf8.encode (IntKind.i32.wrap (IntKind.i64.wrap (97 + n7)))), Cell.str s13, Cell.int IntKind.i64 n16, Cell.int IntKind.i64 n21] (fun l22 => fun h23 => 
              x5 ((l22, IntKind.i64.wrap (n7 + 1))) h23)) h20) h18)) h15) h12) h10)) h8)
        (joinK (A := Bool)
          (fun b24 => ifT b24
            (fun h25 =>
            I 43 [V.one (Cell.ptr p0), V.one (Cell.int IntKind.i64 (↑l6.len : Int))]
              (fun cs26 => fun h27 => 
              ∃ n28 : Int, (cs26 = [V.one (Cell.int IntKind.i64 n28)]) ∧
              ((0 ≤ n28) ∧
              n28 < (↑l6.len : Int)) ∧
              (derefK l6.a (fun i29 => fun i30 => fun h31 =>
              ∃ s32 : ByteArray, (h31.read i29 (i30 + n28.toNat * 4 + 0) 1 = some [Cell.str s32]) ∧
              ∃ n33 : Int, (h31.read i29 (i30 + n28.toNat * 4 + 2) 1 = some [Cell.int IntKind.i64 n33]) ∧
              (newK (.cells false [Cell.str { data := #[] }, Cell.str { data := #[103, 97] }, Cell.str s32]) (fun i34 => fun h35 =>
              I 45 [V.one (Cell.ptr p0), V.one (Cell.slice 1 { a := some (i34, 0), len := 3 })]
                (fun cs36 => fun h37 => 
                (h37 i29 = h35 i29) ∧
                ∃ s38 : ByteArray, (cs36 = [V.one (Cell.str s38)]) ∧
                (newK (.cells false [Cell.int IntKind.i64 (-1), Cell.int IntKind.i64 1000000000001, Cell.int IntKind.i64 5]) (fun i39 => fun h40 =>
                I 20 [V.one (Cell.ptr p0), V.one (Cell.slice 1 { a := some (i39, 0), len := 3 })]
                  (fun cs41 => fun h42 => 
                  (h42 i29 = h40 i29) ∧
                  ∃ n43 : Int, (cs41 = [V.one (Cell.int IntKind.i64 n43)]) ∧
                  (newK (.cells false [Cell.int IntKind.i64 (-1), Cell.int IntKind.i64 n33, Cell.int IntKind.i64 4321440]) (fun i44 => fun h45 =>
                  I 20 [V.one (Cell.ptr p0), V.one (Cell.slice 1 { a := some (i44, 0), len := 3 })]
                    (fun cs46 => fun h47 => 
                    ∃ n48 : Int, (cs46 = [V.one (Cell.int IntKind.i64 n48)]) ∧
                    (storeK [] i29 (i30 + n28.toNat * 4 + 0) [Cell.str s38] (fun h49 =>
                    (storeK [] i29 (i30 + n28.toNat * 4 + 3) [Cell.int IntKind.i64 n43] (fun h50 =>
                    (storeK [] i29 (i30 + n28.toNat * 4 + 2) [Cell.int IntKind.i64 n48] (Q [V.one (Cell.slice 4 l6)])) h50)) h49)) h47) h45)) h42) h40)) h37) h35)) h31)) h27) h25)
            (Q [V.one (Cell.slice 4 l6)]))
          (fun x51 => fun h52 => 
          I 11 [V.one (Cell.ptr p0), V.one (Cell.int IntKind.i64 12)]
            (fun cs53 => fun h54 => 
            ∃ b55 : Bool, (cs53 = [V.one (Cell.bool b55)]) ∧
            (ifT b55
              (x51 (decide ((↑l6.len : Int) > 0)))
              (x51 false)) h54) h52)))) h3) h1
theorem den25 (I : FuncId → List V → Post → T) (p0 : Option (Nat × Nat)) (Q : Post) : denF Go.Proofs.Tryz.prog 0 (⟨[(60, 68182605824, [(35, tk Go.Proofs.Tryz.prog 4)])], [(58, 536870680, [(3, tk Go.Proofs.Tryz.prog 55), (8, tk Go.Proofs.Tryz.prog 3)])]⟩) I 25 [V.one (Cell.ptr p0)] Q = vc25 I p0 Q := by kernel_rfl
/-- handbill/measure.Attribute -/
def vc27 (I : FuncId → List V → Post → T) (l0 : Sl) (l1 : Sl) (n2 : Int) (n3 : Int) (Q : Post) : T :=
  fun h4 =>
  I 70 [V.one (Cell.slice 4 l0)]
    (fun cs5 => fun h6 => 
    ∃ n7 : Int, (cs5 = [V.one (Cell.int IntKind.i64 n7)]) ∧
    (ifT (!decide (n7 = 0))
      (Q [V.one (Cell.slice 3 { a := none, len := 0 }), V.one (Cell.int IntKind.i64 0), V.one (Cell.int IntKind.i64 n7)])
      (fun h8 =>
      I 71 [V.one (Cell.slice 4 l1)]
        (fun cs9 => fun h10 => 
        ∃ n11 : Int, (cs9 = [V.one (Cell.int IntKind.i64 n11)]) ∧
        (ifT (!decide (n11 = 0))
          (Q [V.one (Cell.slice 3 { a := none, len := 0 }), V.one (Cell.int IntKind.i64 0), V.one (Cell.int IntKind.i64 n11)])
          (fun h12 =>
          I 72 [V.one (Cell.int IntKind.i64 n2), V.one (Cell.int IntKind.i64 n3)]
            (fun cs13 => fun h14 => 
            ∃ n15 : Int, (cs13 = [V.one (Cell.int IntKind.i64 n15)]) ∧
            (ifT (!decide (n15 = 0))
              (Q [V.one (Cell.slice 3 { a := none, len := 0 }), V.one (Cell.int IntKind.i64 0), V.one (Cell.int IntKind.i64 n15)])
              (fun h16 =>
              (newK (.map []) (fun i17 => loopK (A := Int × Int) ((0, 0))
                (fun x18 => uncur fun n19 n20 => ifT (decide (n20 < (↑l1.len : Int)))
                  (fun h21 =>
                  ((0 ≤ n20) ∧
                  n20 < (↑l1.len : Int)) ∧
                  (derefK l1.a (fun i22 => fun i23 => fun h24 =>
                  ∃ s25 : ByteArray, ∃ s26 : ByteArray, ∃ n27 : Int, ∃ n28 : Int, (h24.read i22 (i23 + n20.toNat * 4) 4 = some [Cell.str s25, Cell.str s26, Cell.int IntKind.i64 n27, Cell.int IntKind.i64 n28]) ∧
                  I 73 [V.one (Cell.slice 4 l0), V.agg [Cell.str s25, Cell.str s26, Cell.int IntKind.i64 n27, Cell.int IntKind.i64 n28], V.one (Cell.int IntKind.i64 n3)]
                    (fun cs29 => fun h30 => 
                    ∃ l31 : Sl, (cs29 = [V.one (Cell.slice 1 l31)]) ∧
                    (ifT (decide ((↑l31.len : Int) > 0))
                      (fun h32 =>
                      I 74 [V.one (Cell.map (some i17)), V.one (Cell.slice 4 l0), V.agg [Cell.str s25, Cell.str s26, Cell.int IntKind.i64 n27, Cell.int IntKind.i64 n28], V.one (Cell.slice 1 l31), V.one (Cell.int IntKind.i64 n2), V.one (Cell.int IntKind.i64 n3)]
                        (fun cs33 => fun h34 => 
                        (cs33 = []) ∧
                        x18 ((n19, IntKind.i64.wrap (n20 + 1))) h34) h32)
                      (x18 ((IntKind.i64.wrap (n19 + n28), IntKind.i64.wrap (n20 + 1))))) h30) h24)) h21)
                  (fun h35 =>
                  I 76 [V.one (Cell.map (some i17))]
                    (fun cs36 => fun h37 => 
                    ∃ p38 : Option (Nat × List (Nat × Nat)), (cs36 = [V.one (Cell.func p38)]) ∧
                    I 75 [V.one (Cell.func p38)]
                      (fun cs39 => fun h40 => 
                      ∃ l41 : Sl, (cs39 = [V.one (Cell.slice 1 l41)]) ∧
                      (loopK (A := Sl × Int) (({ a := none, len := 0 }, 0))
                        (fun x42 => uncur fun l43 n44 => ifT (decide (n44 < (↑l41.len : Int)))
                          (fun h45 =>
                          ((0 ≤ n44) ∧
                          n44 < (↑l41.len : Int)) ∧
                          (derefK l41.a (fun i46 => fun i47 => fun h48 =>
                          ∃ s49 : ByteArray, (h48.read i46 (i47 + n44.toNat * 1) 1 = some [Cell.str s49]) ∧
                          ∃ p50 : Option (Nat × Nat), ∃ b51 : Bool, (∃ cs52 : List (V × V), (mapOf h48 (some i17) = some cs52) ∧
                          mapGet (V.one (Cell.str s49)) (V.one (Cell.ptr none)) cs52 = some (V.one (Cell.ptr p50), b51)) ∧
                          (derefK p50 (fun i53 => fun i54 => fun h55 =>
                          ∃ s56 : ByteArray, ∃ n57 : Int, ∃ n58 : Int, (h55.read i53 i54 3 = some [Cell.str s56, Cell.int IntKind.i64 n57, Cell.int IntKind.i64 n58]) ∧
                          (appendTo [] 3 32 l43 1 [Cell.str s56, Cell.int IntKind.i64 n57, Cell.int IntKind.i64 n58] (fun l59 => fun h60 => 
                          x42 ((l59, IntKind.i64.wrap (n44 + 1))) h60)) h55)) h48)) h45)
                          (Q [V.one (Cell.slice 3 l43), V.one (Cell.int IntKind.i64 n19), V.one (Cell.int IntKind.i64 0)]))) h40) h37) h35)))) h16)) h14) h12)) h10) h8)) h6) h4
theorem den27 (I : FuncId → List V → Post → T) (l0 : Sl) (l1 : Sl) (n2 : Int) (n3 : Int) (Q : Post) : denF Go.Proofs.Tryz.prog 131072 (⟨[], [(1018, 18446741874686722048, [(15, tk Go.Proofs.Tryz.prog 3), (41, tk Go.Proofs.Tryz.prog 3)]), (4090, 2417556491324078999207936, [(19, tk Go.Proofs.Tryz.prog 58), (68, tk Go.Proofs.Tryz.prog 3)])]⟩) I 27 [V.one (Cell.slice 4 l0), V.one (Cell.slice 4 l1), V.one (Cell.int IntKind.i64 n2), V.one (Cell.int IntKind.i64 n3)] Q = vc27 I l0 l1 n2 n3 Q := by kernel_rfl
/-- handbill/measure.CheckSent -/
def vc70 (I : FuncId → List V → Post → T) (l0 : Sl) (Q : Post) : T :=
  ifT (decide ((↑l0.len : Int) > 5000))
    (Q [V.one (Cell.int IntKind.i64 2)])
    (fun h1 =>
    (newK (.map []) (fun i2 => loopK (A := Int) 0
      (fun x3 => fun n4 => ifT (decide (n4 < (↑l0.len : Int)))
        (fun h5 =>
        ((0 ≤ n4) ∧
        n4 < (↑l0.len : Int)) ∧
        (derefK l0.a (fun i6 => fun i7 => fun h8 =>
        ∃ s9 : ByteArray, ∃ s10 : ByteArray, ∃ s11 : ByteArray, ∃ n12 : Int, (h8.read i6 (i7 + n4.toNat * 4) 4 = some [Cell.str s9, Cell.str s10, Cell.str s11, Cell.int IntKind.i64 n12]) ∧
        I 126 [V.one (Cell.str s9)]
          (fun cs13 => fun h14 => 
          ∃ b15 : Bool, (cs13 = [V.one (Cell.bool b15)]) ∧
          (ifT (!b15)
            (Q [V.one (Cell.int IntKind.i64 5)])
            (fun h16 =>
            ∃ b17 : Bool, ∃ b18 : Bool, (∃ cs19 : List (V × V), (mapOf h16 (some i2) = some cs19) ∧
            mapGet (V.one (Cell.str s9)) (V.one (Cell.bool false)) cs19 = some (V.one (Cell.bool b17), b18)) ∧
            (ifT b17
              (Q [V.one (Cell.int IntKind.i64 6)])
              (joinK (A := Bool)
                (fun b20 => ifT b20
                  (Q [V.one (Cell.int IntKind.i64 5)])
                  (fun h21 =>
                  I 84 [V.one (Cell.int IntKind.i64 n12)]
                    (fun cs22 => fun h23 => 
                    ∃ b24 : Bool, (cs22 = [V.one (Cell.bool b24)]) ∧
                    (ifT (!b24)
                      (Q [V.one (Cell.int IntKind.i64 1)])
                      (ifT (decide (n4 > 0))
                        (fun h25 =>
                        ((0 ≤ IntKind.i64.wrap (n4 - 1)) ∧
                        IntKind.i64.wrap (n4 - 1) < (↑l0.len : Int)) ∧
                        (derefK l0.a (fun i26 => fun i27 => fun h28 =>
                        ∃ n29 : Int, (h28.read i26 (i27 + (IntKind.i64.wrap (n4 - 1)).toNat * 4 + 3) 1 = some [Cell.int IntKind.i64 n29]) ∧
                        (ifT (decide (n12 < n29))
                          (Q [V.one (Cell.int IntKind.i64 7)])
                          (fun h30 =>
                          (mapK [] (some i2) (V.one (Cell.str s9)) (V.one (Cell.bool true)) (x3 (IntKind.i64.wrap (n4 + 1)))) h30)) h28)) h25)
                        (fun h31 =>
                        (mapK [] (some i2) (V.one (Cell.str s9)) (V.one (Cell.bool true)) (x3 (IntKind.i64.wrap (n4 + 1)))) h31))) h23) h21))
                (fun x32 => fun h33 => 
                I 126 [V.one (Cell.str s10)]
                  (fun cs34 => fun h35 => 
                  ∃ b36 : Bool, (cs34 = [V.one (Cell.bool b36)]) ∧
                  (ifT (!b36)
                    (x32 true)
                    (fun h37 =>
                    I 126 [V.one (Cell.str s11)]
                      (fun cs38 => fun h39 => 
                      ∃ b40 : Bool, (cs38 = [V.one (Cell.bool b40)]) ∧
                      x32 (!b40) h39) h37)) h35) h33))) h16)) h14) h8)) h5)
        (Q [V.one (Cell.int IntKind.i64 0)])))) h1)
theorem den70 (I : FuncId → List V → Post → T) (l0 : Sl) (Q : Post) : denF Go.Proofs.Tryz.prog 32 (⟨[(1002654, 274743689216, [(27, tk Go.Proofs.Tryz.prog 4)])], [(122, 2305843009213689908, [(12, tk Go.Proofs.Tryz.prog 3)])]⟩) I 70 [V.one (Cell.slice 4 l0)] Q = vc70 I l0 Q := by kernel_rfl
/-- handbill/measure.isMoment -/
def vc84 (I : FuncId → List V → Post → T) (n0 : Int) (Q : Post) : T :=
  fun h1 =>
  I 85 [V.one (Cell.int IntKind.i64 n0), V.one (Cell.int IntKind.i64 0), V.one (Cell.int IntKind.i64 4321439)]
    (fun cs2 => fun h3 => 
    ∃ b4 : Bool, (cs2 = [V.one (Cell.bool b4)]) ∧
    Q [V.one (Cell.bool b4)] h3) h1
theorem den84 (I : FuncId → List V → Post → T) (n0 : Int) (Q : Post) : denF Go.Proofs.Tryz.prog 0 (⟨[], []⟩) I 84 [V.one (Cell.int IntKind.i64 n0)] Q = vc84 I n0 Q := by kernel_rfl
/-- handbill/measure.within -/
def vc85 (I : FuncId → List V → Post → T) (n0 : Int) (n1 : Int) (n2 : Int) (Q : Post) : T :=
  ifT (decide (n1 ≤ n0))
    (Q [V.one (Cell.bool (decide (n0 ≤ n2)))])
    (Q [V.one (Cell.bool false)])
theorem den85 (I : FuncId → List V → Post → T) (n0 : Int) (n1 : Int) (n2 : Int) (Q : Post) : denF Go.Proofs.Tryz.prog 0 (⟨[], []⟩) I 85 [V.one (Cell.int IntKind.i64 n0), V.one (Cell.int IntKind.i64 n1), V.one (Cell.int IntKind.i64 n2)] Q = vc85 I n0 n1 n2 Q := by kernel_rfl
/-- handbill/measure.CheckGains -/
def vc71 (I : FuncId → List V → Post → T) (l0 : Sl) (Q : Post) : T :=
  ifT (decide ((↑l0.len : Int) > 1000))
    (Q [V.one (Cell.int IntKind.i64 2)])
    (fun h1 =>
    (newK (.map []) (fun i2 => loopK (A := Int) 0
      (fun x3 => fun n4 => ifT (decide (n4 < (↑l0.len : Int)))
        (fun h5 =>
        ((0 ≤ n4) ∧
        n4 < (↑l0.len : Int)) ∧
        (derefK l0.a (fun i6 => fun i7 => fun h8 =>
        ∃ s9 : ByteArray, ∃ s10 : ByteArray, ∃ n11 : Int, ∃ n12 : Int, (h8.read i6 (i7 + n4.toNat * 4) 4 = some [Cell.str s9, Cell.str s10, Cell.int IntKind.i64 n11, Cell.int IntKind.i64 n12]) ∧
        I 126 [V.one (Cell.str s9)]
          (fun cs13 => fun h14 => 
          ∃ b15 : Bool, (cs13 = [V.one (Cell.bool b15)]) ∧
          (ifT (!b15)
            (Q [V.one (Cell.int IntKind.i64 5)])
            (fun h16 =>
            ∃ b17 : Bool, ∃ b18 : Bool, (∃ cs19 : List (V × V), (mapOf h16 (some i2) = some cs19) ∧
            mapGet (V.one (Cell.str s9)) (V.one (Cell.bool false)) cs19 = some (V.one (Cell.bool b17), b18)) ∧
            (ifT b17
              (Q [V.one (Cell.int IntKind.i64 6)])
              (fun h20 =>
              I 126 [V.one (Cell.str s10)]
                (fun cs21 => fun h22 => 
                ∃ b23 : Bool, (cs21 = [V.one (Cell.bool b23)]) ∧
                (ifT (!b23)
                  (Q [V.one (Cell.int IntKind.i64 5)])
                  (fun h24 =>
                  I 84 [V.one (Cell.int IntKind.i64 n11)]
                    (fun cs25 => fun h26 => 
                    ∃ b27 : Bool, (cs25 = [V.one (Cell.bool b27)]) ∧
                    (ifT (!b27)
                      (Q [V.one (Cell.int IntKind.i64 1)])
                      (fun h28 =>
                      I 85 [V.one (Cell.int IntKind.i64 n12), V.one (Cell.int IntKind.i64 0), V.one (Cell.int IntKind.i64 1000000000000)]
                        (fun cs29 => fun h30 => 
                        ∃ b31 : Bool, (cs29 = [V.one (Cell.bool b31)]) ∧
                        (ifT (!b31)
                          (Q [V.one (Cell.int IntKind.i64 1)])
                          (fun h32 =>
                          (mapK [] (some i2) (V.one (Cell.str s9)) (V.one (Cell.bool true)) (x3 (IntKind.i64.wrap (n4 + 1)))) h32)) h30) h28)) h26) h24)) h22) h20)) h16)) h14) h8)) h5)
        (Q [V.one (Cell.int IntKind.i64 0)])))) h1)
theorem den71 (I : FuncId → List V → Post → T) (l0 : Sl) (Q : Post) : denF Go.Proofs.Tryz.prog 32 (⟨[], [(122, 70368744173604, [(12, tk Go.Proofs.Tryz.prog 3)])]⟩) I 71 [V.one (Cell.slice 4 l0)] Q = vc71 I l0 Q := by kernel_rfl
/-- handbill/measure.checkWays -/
def vc72 (I : FuncId → List V → Post → T) (n0 : Int) (n1 : Int) (Q : Post) : T :=
  fun h2 =>
  I 85 [V.one (Cell.int IntKind.i64 n0), V.one (Cell.int IntKind.i64 1), V.one (Cell.int IntKind.i64 6)]
    (fun cs3 => fun h4 => 
    ∃ b5 : Bool, (cs3 = [V.one (Cell.bool b5)]) ∧
    (ifT (!b5)
      (Q [V.one (Cell.int IntKind.i64 4)])
      (fun h6 =>
      I 85 [V.one (Cell.int IntKind.i64 n1), V.one (Cell.int IntKind.i64 1), V.one (Cell.int IntKind.i64 4321440)]
        (fun cs7 => fun h8 => 
        ∃ b9 : Bool, (cs7 = [V.one (Cell.bool b9)]) ∧
        (ifT (!b9)
          (Q [V.one (Cell.int IntKind.i64 1)])
          (Q [V.one (Cell.int IntKind.i64 0)])) h8) h6)) h4) h2
theorem den72 (I : FuncId → List V → Post → T) (n0 : Int) (n1 : Int) (Q : Post) : denF Go.Proofs.Tryz.prog 0 (⟨[], []⟩) I 72 [V.one (Cell.int IntKind.i64 n0), V.one (Cell.int IntKind.i64 n1)] Q = vc72 I n0 n1 Q := by kernel_rfl
/-- handbill/measure.path -/
def vc73 (I : FuncId → List V → Post → T) (l0 : Sl) (s1 : ByteArray) (s2 : ByteArray) (n3 : Int) (n4 : Int) (n5 : Int) (Q : Post) : T :=
  loopK (A := Sl × Int) (({ a := none, len := 0 }, 0))
    (fun x6 => uncur fun l7 n8 => ifT (decide (n8 < (↑l0.len : Int)))
      (fun h9 =>
      ((0 ≤ n8) ∧
      n8 < (↑l0.len : Int)) ∧
      (derefK l0.a (fun i10 => fun i11 => fun h12 =>
      ∃ s13 : ByteArray, ∃ s14 : ByteArray, ∃ s15 : ByteArray, ∃ n16 : Int, (h12.read i10 (i11 + n8.toNat * 4) 4 = some [Cell.str s13, Cell.str s14, Cell.str s15, Cell.int IntKind.i64 n16]) ∧
      (ifT (decide (s14 = s2))
        (ifT (decide (n16 < n3))
          (ifT (decide (IntKind.i64.wrap (n3 - n16) ≤ n5))
            (fun h17 =>
            (appendTo [] 1 8 l7 1 [Cell.int IntKind.i64 n8] (fun l18 => fun h19 => 
            x6 ((l18, IntKind.i64.wrap (n8 + 1))) h19)) h17)
            (x6 ((l7, IntKind.i64.wrap (n8 + 1)))))
          (x6 ((l7, IntKind.i64.wrap (n8 + 1)))))
        (x6 ((l7, IntKind.i64.wrap (n8 + 1))))) h12)) h9)
      (fun h20 =>
      ((0 ≤ max (IntKind.i64.wrap ((↑l7.len : Int) - 12)) 0) ∧
      (max (IntKind.i64.wrap ((↑l7.len : Int) - 12)) 0 ≤ (↑l7.len : Int)) ∧
      (↑l7.len : Int) ≤ (↑l7.len : Int)) ∧
      Q [V.one (Cell.slice 1 (l7.sub 1 (max (IntKind.i64.wrap ((↑l7.len : Int) - 12)) 0).toNat (↑l7.len : Int).toNat))] h20))
theorem den73 (I : FuncId → List V → Post → T) (l0 : Sl) (s1 : ByteArray) (s2 : ByteArray) (n3 : Int) (n4 : Int) (n5 : Int) (Q : Post) : denF Go.Proofs.Tryz.prog 528 (⟨[], [(58, 8796093019008, [(7, tk Go.Proofs.Tryz.prog 22), (12, tk Go.Proofs.Tryz.prog 3)])]⟩) I 73 [V.one (Cell.slice 4 l0), V.agg [Cell.str s1, Cell.str s2, Cell.int IntKind.i64 n3, Cell.int IntKind.i64 n4], V.one (Cell.int IntKind.i64 n5)] Q = vc73 I l0 s1 s2 n3 n4 n5 Q := by kernel_rfl
/-- handbill/measure.credit -/
def vc74 (I : FuncId → List V → Post → T) (p0 : Option Nat) (l1 : Sl) (s2 : ByteArray) (s3 : ByteArray) (n4 : Int) (n5 : Int) (l6 : Sl) (n7 : Int) (n8 : Int) (Q : Post) : T :=
  loopK (A := Sl × Int) (({ a := none, len := 0 }, 0))
    (fun x9 => uncur fun l10 n11 => ifT (decide (n11 < (↑l6.len : Int)))
      (fun h12 =>
      ((0 ≤ n11) ∧
      n11 < (↑l6.len : Int)) ∧
      (derefK l6.a (fun i13 => fun i14 => fun h15 =>
      ∃ n16 : Int, (h15.read i13 (i14 + n11.toNat * 1) 1 = some [Cell.int IntKind.i64 n16]) ∧
      ((0 ≤ n16) ∧
      n16 < (↑l1.len : Int)) ∧
      (derefK l1.a (fun i17 => fun i18 => fun h19 =>
      ∃ n20 : Int, (h19.read i17 (i18 + n16.toNat * 4 + 3) 1 = some [Cell.int IntKind.i64 n20]) ∧
      (appendTo [] 1 8 l10 1 [Cell.int IntKind.i64 (IntKind.i64.wrap (n4 - n20))] (fun l21 => fun h22 => 
      x9 ((l21, IntKind.i64.wrap (n11 + 1))) h22)) h19)) h15)) h12)
      (fun h23 =>
      I 127 [V.one (Cell.int IntKind.i64 n7), V.one (Cell.int IntKind.i64 n8), V.one (Cell.slice 1 l10)]
        (fun cs24 => fun h25 => 
        ∃ l26 : Sl, (cs24 = [V.one (Cell.slice 1 l26)]) ∧
        (newK (.map []) (fun i27 => fun h28 => 
        I 128 [V.one (Cell.int IntKind.i64 n5), V.one (Cell.slice 1 l26)]
          (fun cs29 => fun h30 => 
          ∃ l31 : Sl, (cs29 = [V.one (Cell.slice 1 l31)]) ∧
          (loopK (A := Int) 0
            (fun x32 => fun n33 => ifT (decide (n33 < (↑l31.len : Int)))
              (fun h34 =>
              ((0 ≤ n33) ∧
              n33 < (↑l31.len : Int)) ∧
              (derefK l31.a (fun i35 => fun i36 => fun h37 =>
              ∃ n38 : Int, (h37.read i35 (i36 + n33.toNat * 1) 1 = some [Cell.int IntKind.i64 n38]) ∧
              ((0 ≤ n33) ∧
              n33 < (↑l6.len : Int)) ∧
              (derefK l6.a (fun i39 => fun i40 => fun h41 =>
              ∃ n42 : Int, (h41.read i39 (i40 + n33.toNat * 1) 1 = some [Cell.int IntKind.i64 n42]) ∧
              ((0 ≤ n42) ∧
              n42 < (↑l1.len : Int)) ∧
              (derefK l1.a (fun i43 => fun i44 => fun h45 =>
              ∃ s46 : ByteArray, (h45.read i43 (i44 + n42.toNat * 4 + 2) 1 = some [Cell.str s46]) ∧
              ((0 ≤ n33) ∧
              n33 < (↑l26.len : Int)) ∧
              (derefK l26.a (fun i47 => fun i48 => fun h49 =>
              ∃ n50 : Int, (h49.read i47 (i48 + n33.toNat * 1) 1 = some [Cell.int IntKind.i64 n50]) ∧
              (ifT (decide (n50 = 0))
                (x32 (IntKind.i64.wrap (n33 + 1)))
                (fun h51 =>
                ∃ p52 : Option (Nat × Nat), ∃ b53 : Bool, (∃ cs54 : List (V × V), (mapOf h51 p0 = some cs54) ∧
                mapGet (V.one (Cell.str s46)) (V.one (Cell.ptr none)) cs54 = some (V.one (Cell.ptr p52), b53)) ∧
                (joinK (A := Option (Nat × Nat))
                  (fun p55 => derefK p55 (fun i56 => fun i57 => fun h58 =>
                  ∃ n59 : Int, (h58.read i56 (i57 + 2) 1 = some [Cell.int IntKind.i64 n59]) ∧
                  (derefK p55 (fun i60 => fun i61 => fun h62 =>
                  (storeK [] i60 (i61 + 2) [Cell.int IntKind.i64 (IntKind.i64.wrap (n59 + n38))] (fun h63 =>
                  ∃ b64 : Bool, ∃ b65 : Bool, (∃ cs66 : List (V × V), (mapOf h63 (some i27) = some cs66) ∧
                  mapGet (V.one (Cell.str s46)) (V.one (Cell.bool false)) cs66 = some (V.one (Cell.bool b64), b65)) ∧
                  (ifT (!b64)
                    (fun h67 =>
                    (mapK [] (some i27) (V.one (Cell.str s46)) (V.one (Cell.bool true)) (derefK p55 (fun i68 => fun i69 => fun h70 =>
                    ∃ n71 : Int, (h70.read i68 (i69 + 1) 1 = some [Cell.int IntKind.i64 n71]) ∧
                    (derefK p55 (fun i72 => fun i73 => fun h74 =>
                    (storeK [] i72 (i73 + 1) [Cell.int IntKind.i64 (IntKind.i64.wrap (n71 + 1))] (x32 (IntKind.i64.wrap (n33 + 1)))) h74)) h70))) h67)
                    (x32 (IntKind.i64.wrap (n33 + 1)))) h63)) h62)) h58))
                  (fun x75 => ifT p52.isNone
                    (fun h76 =>
                    (newK (.cells false [Cell.str s46, Cell.int IntKind.i64 0, Cell.int IntKind.i64 0]) (fun i77 => fun h78 => 
                    (mapK [] p0 (V.one (Cell.str s46)) (V.one (Cell.ptr (some (i77, 0)))) (x75 (some (i77, 0)))) h78)) h76)
                    (x75 p52))) h51)) h49)) h45)) h41)) h37)) h34)
              (Q []))) h30) h28)) h25) h23))
theorem den74 (I : FuncId → List V → Post → T) (p0 : Option Nat) (l1 : Sl) (s2 : ByteArray) (s3 : ByteArray) (n4 : Int) (n5 : Int) (l6 : Sl) (n7 : Int) (n8 : Int) (Q : Post) : denF Go.Proofs.Tryz.prog 256 (⟨[(521021, 297509088420787649511424, [(20, tk Go.Proofs.Tryz.prog 126)])], [(58, 549747445760, [(12, tk Go.Proofs.Tryz.prog 22), (23, tk Go.Proofs.Tryz.prog 3)]), (254, 1267650600228228838546751750144, [(49, tk Go.Proofs.Tryz.prog 3)])]⟩) I 74 [V.one (Cell.map p0), V.one (Cell.slice 4 l1), V.agg [Cell.str s2, Cell.str s3, Cell.int IntKind.i64 n4, Cell.int IntKind.i64 n5], V.one (Cell.slice 1 l6), V.one (Cell.int IntKind.i64 n7), V.one (Cell.int IntKind.i64 n8)] Q = vc74 I p0 l1 s2 s3 n4 n5 l6 n7 n8 Q := by kernel_rfl
/-- handbill/measure.weights -/
def vc127 (I : FuncId → List V → Post → T) (n0 : Int) (n1 : Int) (l2 : Sl) (Q : Post) : T :=
  loopK (A := Sl × Int) (({ a := none, len := 0 }, 0))
    (fun x3 => uncur fun l4 n5 => ifT (decide (n5 < (↑l2.len : Int)))
      (fun h6 =>
      ((0 ≤ n5) ∧
      n5 < (↑l2.len : Int)) ∧
      (derefK l2.a (fun i7 => fun i8 => fun h9 =>
      ∃ n10 : Int, (h9.read i7 (i8 + n5.toNat * 1) 1 = some [Cell.int IntKind.i64 n10]) ∧
      I 178 [V.one (Cell.int IntKind.i64 n0), V.one (Cell.int IntKind.i64 n1), V.one (Cell.int IntKind.i64 n10), V.one (Cell.int IntKind.i64 n5), V.one (Cell.int IntKind.i64 (↑l2.len : Int))]
        (fun cs11 => fun h12 => 
        ∃ n13 : Int, (cs11 = [V.one (Cell.int IntKind.i64 n13)]) ∧
        (appendTo [] 1 8 l4 1 [Cell.int IntKind.i64 n13] (fun l14 => fun h15 => 
        x3 ((l14, IntKind.i64.wrap (n5 + 1))) h15)) h12) h9)) h6)
      (Q [V.one (Cell.slice 1 l4)]))
theorem den127 (I : FuncId → List V → Post → T) (n0 : Int) (n1 : Int) (l2 : Sl) (Q : Post) : denF Go.Proofs.Tryz.prog 0 (⟨[], [(58, 268432256, [(7, tk Go.Proofs.Tryz.prog 22), (12, tk Go.Proofs.Tryz.prog 3)])]⟩) I 127 [V.one (Cell.int IntKind.i64 n0), V.one (Cell.int IntKind.i64 n1), V.one (Cell.slice 1 l2)] Q = vc127 I n0 n1 l2 Q := by kernel_rfl
/-- handbill/measure.weight -/
def vc178 (I : FuncId → List V → Post → T) (n0 : Int) (n1 : Int) (n2 : Int) (n3 : Int) (n4 : Int) (Q : Post) : T :=
  joinK (A := Bool)
    (fun b5 => joinK (A := Bool)
      (fun b6 => joinK (A := Bool)
        (fun b7 => ifT b7
          (Q [V.one (Cell.int IntKind.i64 0)])
          (joinK (A := Bool)
            (fun b8 => ifT b8
              (Q [V.one (Cell.int IntKind.i64 2)])
              (ifT (decide (n0 = 5))
                (Q [V.one (Cell.int IntKind.i64 (IntKind.i64.wrap (n3 + 1)))])
                (ifT (decide (n0 = 6))
                  (fun h9 =>
                  (n1 ≠ 0) ∧
                  (0 ≤ IntKind.i64.wrap (18 - IntKind.i64.wrap ((IntKind.i64.wrap (18 * n2)).tdiv n1))) ∧
                  Q [V.one (Cell.int IntKind.i64 (shl IntKind.i64 1 (IntKind.i64.wrap (18 - IntKind.i64.wrap ((IntKind.i64.wrap (18 * n2)).tdiv n1)))))] h9)
                  (Q [V.one (Cell.int IntKind.i64 1)]))))
            (fun x10 => ifT (decide (n0 = 4))
              (ifT b5
                (x10 (decide (n4 > 2)))
                (x10 false))
              (x10 false))))
        (fun x11 => ifT b6
          (x11 b6)
          (joinK (A := Bool)
            (fun b12 => fun h13 => 
            x11 b12 h13)
            (fun x14 => ifT (decide (n0 = 2))
              (x14 (decide (n3 < IntKind.i64.wrap (n4 - 1))))
              (x14 false)))))
      (fun x15 => ifT (decide (n0 = 1))
        (x15 (decide (n3 > 0)))
        (x15 false)))
    (fun x16 => ifT (decide (n3 = 0))
      (x16 true)
      (x16 (decide (n3 = IntKind.i64.wrap (n4 - 1)))))
theorem den178 (I : FuncId → List V → Post → T) (n0 : Int) (n1 : Int) (n2 : Int) (n3 : Int) (n4 : Int) (Q : Post) : denF Go.Proofs.Tryz.prog 0 (⟨[(6, 1046528, [(11, tk Go.Proofs.Tryz.prog 4)]), (112, 133169152, [(20, tk Go.Proofs.Tryz.prog 4)]), (113, 34226569216, [(20, tk Go.Proofs.Tryz.prog 4)]), (227, 34226569216, [(20, tk Go.Proofs.Tryz.prog 4)]), (230, 35150012350464, [(35, tk Go.Proofs.Tryz.prog 4)])], []⟩) I 178 [V.one (Cell.int IntKind.i64 n0), V.one (Cell.int IntKind.i64 n1), V.one (Cell.int IntKind.i64 n2), V.one (Cell.int IntKind.i64 n3), V.one (Cell.int IntKind.i64 n4)] Q = vc178 I n0 n1 n2 n3 n4 Q := by kernel_rfl
/-- handbill/measure.divide -/
def vc128 (I : FuncId → List V → Post → T) (n0 : Int) (l1 : Sl) (Q : Post) : T :=
  fun h2 =>
  (newK (.cells false [Cell.int IntKind.i64 n0]) (fun i3 => fun h4 => 
  (newK (.cells false [Cell.slice 1 l1]) (fun i5 => fun h6 =>
  ∃ l7 : Sl, (h6.read i5 0 1 = some [Cell.slice 1 l7]) ∧
  I 179 [V.one (Cell.slice 1 l7)]
    (fun cs8 => fun h9 => 
    ∃ n10 : Int, (cs8 = [V.one (Cell.int IntKind.i64 n10)]) ∧
    (newK (.cells false [Cell.int IntKind.i64 0]) (fun i11 => fun h12 => 
    (storeK [] i11 0 [Cell.int IntKind.i64 n10] (fun h13 =>
    ∃ n14 : Int, (h13.read i3 0 1 = some [Cell.int IntKind.i64 n14]) ∧
    ∃ l15 : Sl, (h13.read i5 0 1 = some [Cell.slice 1 l15]) ∧
    (loopK (A := Int × Sl × Sl × Int) ((n14, { a := none, len := 0 }, { a := none, len := 0 }, 0))
      (fun x16 => uncur fun n17 => uncur fun l18 => uncur fun l19 n20 => ifT (decide (n20 < (↑l15.len : Int)))
        (fun h21 =>
        ((0 ≤ n20) ∧
        n20 < (↑l15.len : Int)) ∧
        (derefK l15.a (fun i22 => fun i23 => fun h24 =>
        ∃ n25 : Int, (h24.read i22 (i23 + n20.toNat * 1) 1 = some [Cell.int IntKind.i64 n25]) ∧
        ∃ n26 : Int, (h24.read i3 0 1 = some [Cell.int IntKind.i64 n26]) ∧
        ∃ n27 : Int, (h24.read i11 0 1 = some [Cell.int IntKind.i64 n27]) ∧
        (n27 ≠ 0) ∧
        (appendTo [] 1 8 l18 1 [Cell.int IntKind.i64 (IntKind.i64.wrap ((IntKind.i64.wrap (n26 * n25)).tdiv n27))] (fun l28 => fun h29 => 
        (appendTo [] 1 8 l19 1 [Cell.int IntKind.i64 n20] (fun l30 => fun h31 => 
        ((0 ≤ n20) ∧
        n20 < (↑l28.len : Int)) ∧
        (derefK l28.a (fun i32 => fun i33 => fun h34 =>
        ∃ n35 : Int, (h34.read i32 (i33 + n20.toNat * 1) 1 = some [Cell.int IntKind.i64 n35]) ∧
        x16 ((IntKind.i64.wrap (n17 - n35), l28, l30, IntKind.i64.wrap (n20 + 1))) h34)) h31)) h29)) h24)) h21)
        (fun h36 =>
        I 180 [V.one (Cell.slice 1 l19), V.one (Cell.func (some (181, [(i3, 0), (i5, 0), (i11, 0)])))]
          (fun cs37 => fun h38 => 
          (cs37 = []) ∧
          (((0 : Int) ≤ (0 : Int)) ∧
          (0 ≤ n17) ∧
          n17 ≤ (↑l19.len : Int)) ∧
          (loopK (A := Int) 0
            (fun x39 => fun n40 => ifT (decide (n40 < (↑(l19.sub 1 0 n17.toNat).len : Int)))
              (fun h41 =>
              ((0 ≤ n40) ∧
              n40 < (↑(l19.sub 1 0 n17.toNat).len : Int)) ∧
              (derefK ((l19.sub 1 0 n17.toNat).a) (fun i42 => fun i43 => fun h44 =>
              ∃ n45 : Int, (h44.read i42 (i43 + n40.toNat * 1) 1 = some [Cell.int IntKind.i64 n45]) ∧
              ((0 ≤ n45) ∧
              n45 < (↑l18.len : Int)) ∧
              (derefK l18.a (fun i46 => fun i47 => fun h48 =>
              ∃ n49 : Int, (h48.read i46 (i47 + n45.toNat * 1) 1 = some [Cell.int IntKind.i64 n49]) ∧
              ((0 ≤ n45) ∧
              n45 < (↑l18.len : Int)) ∧
              (derefK l18.a (fun i50 => fun i51 => fun h52 => 
              (storeK [] i50 (i51 + n45.toNat * 1) [Cell.int IntKind.i64 (IntKind.i64.wrap (n49 + 1))] (x39 (IntKind.i64.wrap (n40 + 1)))) h52)) h48)) h44)) h41)
              (Q [V.one (Cell.slice 1 l18)]))) h38) h36))) h13)) h12)) h9) h6)) h4)) h2
theorem den128 (I : FuncId → List V → Post → T) (n0 : Int) (l1 : Sl) (Q : Post) : denF Go.Proofs.Tryz.prog 0 (⟨[], [(250, 4398046250944, [(6, tk Go.Proofs.Tryz.prog 3), (7, tk Go.Proofs.Tryz.prog 22), (8, tk Go.Proofs.Tryz.prog 22), (18, tk Go.Proofs.Tryz.prog 3)]), (1018, 1152358554653429760, [(49, tk Go.Proofs.Tryz.prog 3)])]⟩) I 128 [V.one (Cell.int IntKind.i64 n0), V.one (Cell.slice 1 l1)] Q = vc128 I n0 l1 Q := by kernel_rfl
/-- handbill/measure.sumOf -/
def vc179 (I : FuncId → List V → Post → T) (l0 : Sl) (Q : Post) : T :=
  loopK (A := Int × Int) ((0, 0))
    (fun x1 => uncur fun n2 n3 => ifT (decide (n3 < (↑l0.len : Int)))
      (fun h4 =>
      ((0 ≤ n3) ∧
      n3 < (↑l0.len : Int)) ∧
      (derefK l0.a (fun i5 => fun i6 => fun h7 =>
      ∃ n8 : Int, (h7.read i5 (i6 + n3.toNat * 1) 1 = some [Cell.int IntKind.i64 n8]) ∧
      x1 ((IntKind.i64.wrap (n2 + n8), IntKind.i64.wrap (n3 + 1))) h7)) h4)
      (Q [V.one (Cell.int IntKind.i64 n2)]))
theorem den179 (I : FuncId → List V → Post → T) (l0 : Sl) (Q : Post) : denF Go.Proofs.Tryz.prog 0 (⟨[], [(58, 65320, [(3, tk Go.Proofs.Tryz.prog 3), (8, tk Go.Proofs.Tryz.prog 3)])]⟩) I 179 [V.one (Cell.slice 1 l0)] Q = vc179 I l0 Q := by kernel_rfl
/-- slices.SortFunc[[]int,int] -/
def vc180 (I : FuncId → List V → Post → T) (l0 : Sl) (p1 : Option (Nat × List (Nat × Nat))) (Q : Post) : T :=
  fun h2 =>
  I 118 [V.one (Cell.int IntKind.u64 (IntKind.u64.wrap (↑l0.len : Int)))]
    (fun cs3 => fun h4 => 
    ∃ n5 : Int, (cs3 = [V.one (Cell.int IntKind.i64 n5)]) ∧
    I 218 [V.one (Cell.slice 1 l0), V.one (Cell.int IntKind.i64 0), V.one (Cell.int IntKind.i64 (↑l0.len : Int)), V.one (Cell.int IntKind.i64 n5), V.one (Cell.func p1)]
      (fun cs6 => fun h7 => 
      (cs6 = []) ∧
      Q [] h7) h4) h2
theorem den180 (I : FuncId → List V → Post → T) (l0 : Sl) (p1 : Option (Nat × List (Nat × Nat))) (Q : Post) : denF Go.Proofs.Tryz.prog 0 (⟨[], []⟩) I 180 [V.one (Cell.slice 1 l0), V.one (Cell.func p1)] Q = vc180 I l0 p1 Q := by kernel_rfl
/-- math/bits.Len32 -/
def vc166 (I : FuncId → List V → Post → T) (n0 : Int) (Q : Post) : T :=
  ifT (decide (n0 ≥ 65536))
    (no)
    (ifT (decide (n0 ≥ 256))
      (no)
      (fun h1 =>
      ((0 ≤ IntKind.u8.wrap n0) ∧
      IntKind.u8.wrap n0 < (↑256 : Int)) ∧
      Q [V.one (Cell.int IntKind.i64 (IntKind.i64.wrap (0 + IntKind.i64.wrap (byteAt { data := #[0, 1, 2, 2, 3, 3, 3, 3, 4, 4, 4, 4, 4, 4, 4, 4, 5, 5, 5, 5, 5, 5, 5, 5, 5, 5, 5, 5, 5, 5, 5, 5, 6, 6, 6, 6, 6, 6, 6, 6, 6, 6, 6, 6, 6, 6, 6, 6, 6, 6, 6, 6, 6, 6, 6, 6, 6, 6, 6, 6, 6, 6, 6, 6, 7, 7, 7, 7, 7, 7, 7, 7, 7, 7, 7, 7, 7, 7, 7, 7, 7, 7, 7, 7, 7, 7, 7, 7, 7, 7, 7, 7, 7, 7, 7, 7, 7, 7, 7, 7, 7, 7, 7, 7, 7, 7, 7, 7, 7, 7, 7, 7, 7, 7, 7, 7, 7, 7, 7, 7, 7, 7, 7, 7, 7, 7, 7, 7, 8, 8, 8, 8, 8, 8, 8, 8, 8, 8, 8, 8, 8, 8, 8, 8, 8, 8, 8, 8, 8, 8, 8, 8, 8, 8, 8, 8, 8, 8, 8, 8, 8, 8, 8, 8, 8, 8, 8, 8, 8, 8, 8, 8, 8, 8, 8, 8, 8, 8, 8, 8, 8, 8, 8, 8, 8, 8, 8, 8, 8, 8, 8, 8, 8, 8, 8, 8, 8, 8, 8, 8, 8, 8, 8, 8, 8, 8, 8, 8, 8, 8, 8, 8, 8, 8, 8, 8, 8, 8, 8, 8, 8, 8, 8, 8, 8, 8, 8, 8, 8, 8, 8, 8, 8, 8, 8, 8, 8, 8, 8, 8, 8, 8, 8, 8, 8, 8, 8, 8, 8, 8, 8, 8, 8, 8, 8, 8] } (IntKind.u8.wrap n0)))))] h1))
theorem den166 (I : FuncId → List V → Post → T) (n0 : Int) (Q : Post) : denF Go.Proofs.Tryz.prog 0 (⟨[], []⟩) I 166 [V.one (Cell.int IntKind.u32 n0)] Q = vc166 I n0 Q := by kernel_rfl
/-- slices.pdqsortCmpFunc[int] -/
def vc218 (I : FuncId → List V → Post → T) (l0 : Sl) (n1 : Int) (n2 : Int) (n3 : Int) (p4 : Option (Nat × List (Nat × Nat))) (Q : Post) : T :=
  loopK (A := Int × Int × Int × Bool × Bool) ((n1, n2, n3, true, true))
    (fun x5 => uncur fun n6 => uncur fun n7 => uncur fun n8 => uncur fun b9 b10 => ifT (decide (IntKind.i64.wrap (n7 - n6) ≤ 12))
      (fun h11 =>
      I 244 [V.one (Cell.slice 1 l0), V.one (Cell.int IntKind.i64 n6), V.one (Cell.int IntKind.i64 n7), V.one (Cell.func p4)]
        (fun cs12 => fun h13 => 
        (cs12 = []) ∧
        Q [] h13) h11)
      (ifT (decide (n8 = 0))
        (fun h14 =>
        I 245 [V.one (Cell.slice 1 l0), V.one (Cell.int IntKind.i64 n6), V.one (Cell.int IntKind.i64 n7), V.one (Cell.func p4)]
          (fun cs15 => fun h16 => 
          (cs15 = []) ∧
          Q [] h16) h14)
        (joinK (A := Int)
          (fun n17 => fun h18 => 
          I 247 [V.one (Cell.slice 1 l0), V.one (Cell.int IntKind.i64 n6), V.one (Cell.int IntKind.i64 n7), V.one (Cell.func p4)]
            (fun cs19 => fun h20 => 
            ∃ n21 : Int, ∃ n22 : Int, (cs19 = [V.one (Cell.int IntKind.i64 n21), V.one (Cell.int IntKind.i64 n22)]) ∧
            (joinK (A := Int × Int)
              (uncur fun n23 n24 => joinK (A := Bool)
                (fun b25 => joinK (A := PUnit)
                  (fun x26 => joinK (A := Bool)
                    (fun b27 => ifT b27
                      (fun h28 =>
                      I 250 [V.one (Cell.slice 1 l0), V.one (Cell.int IntKind.i64 n6), V.one (Cell.int IntKind.i64 n7), V.one (Cell.int IntKind.i64 n23), V.one (Cell.func p4)]
                        (fun cs29 => fun h30 => 
                        ∃ n31 : Int, (cs29 = [V.one (Cell.int IntKind.i64 n31)]) ∧
                        x5 ((n31, n7, n17, b9, b10)) h30) h28)
                      (fun h32 =>
                      I 251 [V.one (Cell.slice 1 l0), V.one (Cell.int IntKind.i64 n6), V.one (Cell.int IntKind.i64 n7), V.one (Cell.int IntKind.i64 n23), V.one (Cell.func p4)]
                        (fun cs33 => fun h34 => 
                        ∃ n35 : Int, ∃ b36 : Bool, (cs33 = [V.one (Cell.int IntKind.i64 n35), V.one (Cell.bool b36)]) ∧
                        (ifT (decide (IntKind.i64.wrap (n35 - n6) < IntKind.i64.wrap (n7 - n35)))
                          (fun h37 =>
                          I 218 [V.one (Cell.slice 1 l0), V.one (Cell.int IntKind.i64 n6), V.one (Cell.int IntKind.i64 n35), V.one (Cell.int IntKind.i64 n17), V.one (Cell.func p4)]
                            (fun cs38 => fun h39 => 
                            (cs38 = []) ∧
                            x5 ((IntKind.i64.wrap (n35 + 1), n7, n17, decide (IntKind.i64.wrap (n35 - n6) ≥ IntKind.i64.wrap ((IntKind.i64.wrap (n7 - n6)).tdiv 8)), b36)) h39) h37)
                          (fun h40 =>
                          I 218 [V.one (Cell.slice 1 l0), V.one (Cell.int IntKind.i64 (IntKind.i64.wrap (n35 + 1))), V.one (Cell.int IntKind.i64 n7), V.one (Cell.int IntKind.i64 n17), V.one (Cell.func p4)]
                            (fun cs41 => fun h42 => 
                            (cs41 = []) ∧
                            x5 ((n6, n35, n17, decide (IntKind.i64.wrap (n7 - n35) ≥ IntKind.i64.wrap ((IntKind.i64.wrap (n7 - n6)).tdiv 8)), b36)) h42) h40)) h34) h32))
                    (fun x43 => ifT (decide (n6 > 0))
                      (fun h44 =>
                      ((0 ≤ IntKind.i64.wrap (n6 - 1)) ∧
                      IntKind.i64.wrap (n6 - 1) < (↑l0.len : Int)) ∧
                      (derefK l0.a (fun i45 => fun i46 => fun h47 =>
                      ∃ n48 : Int, (h47.read i45 (i46 + (IntKind.i64.wrap (n6 - 1)).toNat * 1) 1 = some [Cell.int IntKind.i64 n48]) ∧
                      ((0 ≤ n23) ∧
                      n23 < (↑l0.len : Int)) ∧
                      (derefK l0.a (fun i49 => fun i50 => fun h51 =>
                      ∃ n52 : Int, (h51.read i49 (i50 + n23.toNat * 1) 1 = some [Cell.int IntKind.i64 n52]) ∧
                      (funK p4 (fun i53 => fun cs54 => fun h55 => 
                      I i53 (V.one (Cell.int IntKind.i64 n48) :: V.one (Cell.int IntKind.i64 n52) :: cs54)
                        (fun cs56 => fun h57 => 
                        ∃ n58 : Int, (cs56 = [V.one (Cell.int IntKind.i64 n58)]) ∧
                        x43 (!decide (n58 < 0)) h57) h55)) h51)) h47)) h44)
                      (x43 false)))
                  (fun x59 => ifT b25
                    (fun h60 =>
                    I 249 [V.one (Cell.slice 1 l0), V.one (Cell.int IntKind.i64 n6), V.one (Cell.int IntKind.i64 n7), V.one (Cell.func p4)]
                      (fun cs61 => fun h62 => 
                      ∃ b63 : Bool, (cs61 = [V.one (Cell.bool b63)]) ∧
                      (ifT b63
                        (Q [])
                        (x59 ())) h62) h60)
                    (x59 ())))
                (fun x64 => ifT b9
                  (ifT b10
                    (x64 (decide (n24 = 1)))
                    (x64 false))
                  (x64 false)))
              (fun x65 => ifT (decide (n22 = 2))
                (fun h66 =>
                I 248 [V.one (Cell.slice 1 l0), V.one (Cell.int IntKind.i64 n6), V.one (Cell.int IntKind.i64 n7), V.one (Cell.func p4)]
                  (fun cs67 => fun h68 => 
                  (cs67 = []) ∧
                  x65 ((IntKind.i64.wrap (IntKind.i64.wrap (n7 - 1) - IntKind.i64.wrap (n21 - n6)), 1)) h68) h66)
                (x65 ((n21, n22))))) h20) h18)
          (fun x69 => ifT (!b9)
            (fun h70 =>
            I 246 [V.one (Cell.slice 1 l0), V.one (Cell.int IntKind.i64 n6), V.one (Cell.int IntKind.i64 n7), V.one (Cell.func p4)]
              (fun cs71 => fun h72 => 
              (cs71 = []) ∧
              x69 (IntKind.i64.wrap (n8 - 1)) h72) h70)
            (x69 n8)))))
theorem den218 (I : FuncId → List V → Post → T) (l0 : Sl) (n1 : Int) (n2 : Int) (n3 : Int) (p4 : Option (Nat × List (Nat × Nat))) (Q : Post) : denF Go.Proofs.Tryz.prog 0 (⟨[(1821, 139637976727560, [(3, tk Go.Proofs.Tryz.prog 3)]), (7293, 295003789991276994560, [(13, tk Go.Proofs.Tryz.prog 3), (14, tk Go.Proofs.Tryz.prog 207)]), (14588, 75262715820734970593280, [(75, tk Go.Proofs.Tryz.prog 4)]), (14589, 2342293775503344025993216, []), (29180, 316910232205418121115826388992, [(97, tk Go.Proofs.Tryz.prog 4)])], [(14, 356811923176489970264571492362373784095685646, [(1, tk Go.Proofs.Tryz.prog 3), (2, tk Go.Proofs.Tryz.prog 3), (3, tk Go.Proofs.Tryz.prog 3), (10, tk Go.Proofs.Tryz.prog 4), (11, tk Go.Proofs.Tryz.prog 4)])]⟩) I 218 [V.one (Cell.slice 1 l0), V.one (Cell.int IntKind.i64 n1), V.one (Cell.int IntKind.i64 n2), V.one (Cell.int IntKind.i64 n3), V.one (Cell.func p4)] Q = vc218 I l0 n1 n2 n3 p4 Q := by kernel_rfl
/-- handbill/measure.divide$1 -/
def vc181 (I : FuncId → List V → Post → T) (n0 : Int) (n1 : Int) (i2 : Nat) (i3 : Nat) (i4 : Nat) (i5 : Nat) (i6 : Nat) (i7 : Nat) (Q : Post) : T :=
  fun h8 =>
  ∃ n9 : Int, (h8.read i2 i3 1 = some [Cell.int IntKind.i64 n9]) ∧
  ∃ l10 : Sl, (h8.read i4 i5 1 = some [Cell.slice 1 l10]) ∧
  ((0 ≤ n1) ∧
  n1 < (↑l10.len : Int)) ∧
  (derefK l10.a (fun i11 => fun i12 => fun h13 =>
  ∃ n14 : Int, (h13.read i11 (i12 + n1.toNat * 1) 1 = some [Cell.int IntKind.i64 n14]) ∧
  ∃ n15 : Int, (h13.read i6 i7 1 = some [Cell.int IntKind.i64 n15]) ∧
  (n15 ≠ 0) ∧
  ∃ n16 : Int, (h13.read i2 i3 1 = some [Cell.int IntKind.i64 n16]) ∧
  ∃ l17 : Sl, (h13.read i4 i5 1 = some [Cell.slice 1 l17]) ∧
  ((0 ≤ n0) ∧
  n0 < (↑l17.len : Int)) ∧
  (derefK l17.a (fun i18 => fun i19 => fun h20 =>
  ∃ n21 : Int, (h20.read i18 (i19 + n0.toNat * 1) 1 = some [Cell.int IntKind.i64 n21]) ∧
  ∃ n22 : Int, (h20.read i6 i7 1 = some [Cell.int IntKind.i64 n22]) ∧
  (n22 ≠ 0) ∧
  I 62 [V.one (Cell.int IntKind.i64 ((IntKind.i64.wrap (n9 * n14)).tmod n15)), V.one (Cell.int IntKind.i64 ((IntKind.i64.wrap (n16 * n21)).tmod n22))]
    (fun cs23 => fun h24 => 
    ∃ n25 : Int, (cs23 = [V.one (Cell.int IntKind.i64 n25)]) ∧
    I 62 [V.one (Cell.int IntKind.i64 n1), V.one (Cell.int IntKind.i64 n0)]
      (fun cs26 => fun h27 => 
      ∃ n28 : Int, (cs26 = [V.one (Cell.int IntKind.i64 n28)]) ∧
      (newK (.cells false [Cell.int IntKind.i64 n25, Cell.int IntKind.i64 n28]) (fun i29 => fun h30 =>
      I 61 [V.one (Cell.slice 1 { a := some (i29, 0), len := 2 })]
        (fun cs31 => fun h32 => 
        ∃ n33 : Int, (cs31 = [V.one (Cell.int IntKind.i64 n33)]) ∧
        Q [V.one (Cell.int IntKind.i64 n33)] h32) h30)) h27) h24) h20)) h13)) h8
theorem den181 (I : FuncId → List V → Post → T) (n0 : Int) (n1 : Int) (i2 : Nat) (i3 : Nat) (i4 : Nat) (i5 : Nat) (i6 : Nat) (i7 : Nat) (Q : Post) : denF Go.Proofs.Tryz.prog 0 (⟨[], []⟩) I 181 [V.one (Cell.int IntKind.i64 n0), V.one (Cell.int IntKind.i64 n1), V.one (Cell.ptr (some (i2, i3))), V.one (Cell.ptr (some (i4, i5))), V.one (Cell.ptr (some (i6, i7)))] Q = vc181 I n0 n1 i2 i3 i4 i5 i6 i7 Q := by kernel_rfl
/-- maps.Keys[map[string]*handbill/api.Credit,string,*handbill/api.Credit] -/
def vc76 (I : FuncId → List V → Post → T) (p0 : Option Nat) (Q : Post) : T :=
  fun h1 =>
  (newK (.cells false [Cell.map p0]) (fun i2 => Q [V.one (Cell.func (some (131, [(i2, 0)])))])) h1
theorem den76 (I : FuncId → List V → Post → T) (p0 : Option Nat) (Q : Post) : denF Go.Proofs.Tryz.prog 0 (⟨[], []⟩) I 76 [V.one (Cell.map p0)] Q = vc76 I p0 Q := by kernel_rfl
/-- handbill/handkeep1.measures -/
def vc28 (I : FuncId → List V → Post → T) (Q : Post) : T :=
  fun h0 =>
  I 77 [V.one (Cell.int IntKind.i64 2), V.one (Cell.int IntKind.i64 4)]
    (fun cs1 => fun h2 => 
    ∃ n3 : Int, ∃ n4 : Int, ∃ n5 : Int, (cs1 = [V.agg [Cell.int IntKind.i64 n3, Cell.int IntKind.i64 n4], V.one (Cell.int IntKind.i64 n5)]) ∧
    (ifT (decide (n5 = 0))
      (Q [V.one (Cell.bool (decide (n3 = 1) && decide (n4 = 2)))])
      (Q [V.one (Cell.bool false)])) h2) h0
theorem den28 (I : FuncId → List V → Post → T) (Q : Post) : denF Go.Proofs.Tryz.prog 2 (⟨[], []⟩) I 28 [] Q = vc28 I Q := by kernel_rfl
/-- handbill/measure.Reduce -/
def vc77 (I : FuncId → List V → Post → T) (n0 : Int) (n1 : Int) (Q : Post) : T :=
  joinK (A := Bool)
    (fun b2 => ifT b2
      (fun h3 =>
      Q [V.agg [Cell.int IntKind.i64 0, Cell.int IntKind.i64 0], V.one (Cell.int IntKind.i64 1)] h3)
      (ifT (decide (n1 = 0))
        (fun h4 =>
        Q [V.agg [Cell.int IntKind.i64 0, Cell.int IntKind.i64 0], V.one (Cell.int IntKind.i64 8)] h4)
        (fun h5 =>
        I 132 [V.one (Cell.int IntKind.i64 n0), V.one (Cell.int IntKind.i64 n1)]
          (fun cs6 => fun h7 => 
          ∃ n8 : Int, ∃ n9 : Int, (cs6 = [V.agg [Cell.int IntKind.i64 n8, Cell.int IntKind.i64 n9]]) ∧
          Q [V.agg [Cell.int IntKind.i64 n8, Cell.int IntKind.i64 n9], V.one (Cell.int IntKind.i64 0)] h7) h5)))
    (fun x10 => fun h11 => 
    I 85 [V.one (Cell.int IntKind.i64 n0), V.one (Cell.int IntKind.i64 (-4611686018427387904)), V.one (Cell.int IntKind.i64 4611686018427387904)]
      (fun cs12 => fun h13 => 
      ∃ b14 : Bool, (cs12 = [V.one (Cell.bool b14)]) ∧
      (ifT (!b14)
        (x10 true)
        (fun h15 =>
        I 85 [V.one (Cell.int IntKind.i64 n1), V.one (Cell.int IntKind.i64 (-4611686018427387904)), V.one (Cell.int IntKind.i64 4611686018427387904)]
          (fun cs16 => fun h17 => 
          ∃ b18 : Bool, (cs16 = [V.one (Cell.bool b18)]) ∧
          x10 (!b18) h17) h15)) h13) h11)
theorem den77 (I : FuncId → List V → Post → T) (n0 : Int) (n1 : Int) (Q : Post) : denF Go.Proofs.Tryz.prog 16 (⟨[(24, 32704, [(6, tk Go.Proofs.Tryz.prog 4)])], []⟩) I 77 [V.one (Cell.int IntKind.i64 n0), V.one (Cell.int IntKind.i64 n1)] Q = vc77 I n0 n1 Q := by kernel_rfl
/-- handbill/measure.reduce -/
def vc132 (I : FuncId → List V → Post → T) (n0 : Int) (n1 : Int) (Q : Post) : T :=
  joinK (A := Int × Int)
    (uncur fun n2 n3 => fun h4 => 
    I 185 [V.one (Cell.int IntKind.i64 n2)]
      (fun cs5 => fun h6 => 
      ∃ n7 : Int, (cs5 = [V.one (Cell.int IntKind.u64 n7)]) ∧
      I 185 [V.one (Cell.int IntKind.i64 n3)]
        (fun cs8 => fun h9 => 
        ∃ n10 : Int, (cs8 = [V.one (Cell.int IntKind.u64 n10)]) ∧
        I 184 [V.one (Cell.int IntKind.u64 n7), V.one (Cell.int IntKind.u64 n10)]
          (fun cs11 => fun h12 => 
          ∃ n13 : Int, (cs11 = [V.one (Cell.int IntKind.u64 n13)]) ∧
          (IntKind.i64.wrap n13 ≠ 0) ∧
          (IntKind.i64.wrap n13 ≠ 0) ∧
          Q [V.agg [Cell.int IntKind.i64 (IntKind.i64.wrap (n2.tdiv (IntKind.i64.wrap n13))), Cell.int IntKind.i64 (IntKind.i64.wrap (n3.tdiv (IntKind.i64.wrap n13)))]] h12) h9) h6) h4)
    (fun x14 => ifT (decide (n1 < 0))
      (x14 ((IntKind.i64.wrap (0 - n0), IntKind.i64.wrap (0 - n1))))
      (x14 ((n0, n1))))
theorem den132 (I : FuncId → List V → Post → T) (n0 : Int) (n1 : Int) (Q : Post) : denF Go.Proofs.Tryz.prog 16 (⟨[(13, 3843, [(0, tk Go.Proofs.Tryz.prog 3), (1, tk Go.Proofs.Tryz.prog 3)])], []⟩) I 132 [V.one (Cell.int IntKind.i64 n0), V.one (Cell.int IntKind.i64 n1)] Q = vc132 I n0 n1 Q := by kernel_rfl
/-- handbill/measure.divisor -/
def vc184 (I : FuncId → List V → Post → T) (n0 : Int) (n1 : Int) (Q : Post) : T :=
  loopK (A := Int × Int) ((n0, n1))
    (fun x2 => uncur fun n3 n4 => ifT (!decide (n4 = 0))
      (fun h5 =>
      (n4 ≠ 0) ∧
      x2 ((n4, n3.tmod n4)) h5)
      (Q [V.one (Cell.int IntKind.u64 n3)]))
theorem den184 (I : FuncId → List V → Post → T) (n0 : Int) (n1 : Int) (Q : Post) : denF Go.Proofs.Tryz.prog 0 (⟨[], [(12, 2019, [(0, tk Go.Proofs.Tryz.prog 195), (1, tk Go.Proofs.Tryz.prog 195)])]⟩) I 184 [V.one (Cell.int IntKind.u64 n0), V.one (Cell.int IntKind.u64 n1)] Q = vc184 I n0 n1 Q := by kernel_rfl
/-- handbill/measure.size -/
def vc185 (I : FuncId → List V → Post → T) (n0 : Int) (Q : Post) : T :=
  ifT (decide (n0 < 0))
    (Q [V.one (Cell.int IntKind.u64 (IntKind.u64.wrap (0 - IntKind.u64.wrap n0)))])
    (Q [V.one (Cell.int IntKind.u64 (IntKind.u64.wrap n0))])
theorem den185 (I : FuncId → List V → Post → T) (n0 : Int) (Q : Post) : denF Go.Proofs.Tryz.prog 0 (⟨[], []⟩) I 185 [V.one (Cell.int IntKind.i64 n0)] Q = vc185 I n0 Q := by kernel_rfl
/-- handbill/handref1.SentFault -/
def vc29 (I : FuncId → List V → Post → T) (l0 : Sl) (Q : Post) : T :=
  ifT (decide ((↑l0.len : Int) > 5000))
    (Q [V.one (Cell.int IntKind.i64 2)])
    (loopK (A := Int) 0
      (fun x1 => fun n2 => ifT (decide (n2 < (↑l0.len : Int)))
        (fun h3 =>
        ((0 ≤ n2) ∧
        n2 < (↑l0.len : Int)) ∧
        (derefK l0.a (fun i4 => fun i5 => fun h6 =>
        ∃ s7 : ByteArray, ∃ s8 : ByteArray, ∃ s9 : ByteArray, ∃ n10 : Int, (h6.read i4 (i5 + n2.toNat * 4) 4 = some [Cell.str s7, Cell.str s8, Cell.str s9, Cell.int IntKind.i64 n10]) ∧
        (newK (.cells false [Cell.str ByteArray.empty, Cell.str ByteArray.empty, Cell.str ByteArray.empty, Cell.int IntKind.i64 0]) (fun i11 => fun h12 => 
        (storeK [] i11 0 [Cell.str s7, Cell.str s8, Cell.str s9, Cell.int IntKind.i64 n10] (fun h13 =>
        ∃ s14 : ByteArray, (h13.read i11 0 1 = some [Cell.str s14]) ∧
        I 78 [V.one (Cell.str s14)]
          (fun cs15 => fun h16 => 
          ∃ b17 : Bool, (cs15 = [V.one (Cell.bool b17)]) ∧
          (ifT (!b17)
            (Q [V.one (Cell.int IntKind.i64 5)])
            (fun h18 =>
            (((0 : Int) ≤ (0 : Int)) ∧
            (0 ≤ n2) ∧
            n2 ≤ (↑l0.len : Int)) ∧
            I 79 [V.one (Cell.slice 4 (l0.sub 4 0 n2.toNat)), V.one (Cell.func (some (80, [(i11, 0)])))]
              (fun cs19 => fun h20 => 
              ∃ b21 : Bool, (cs19 = [V.one (Cell.bool b21)]) ∧
              (ifT b21
                (Q [V.one (Cell.int IntKind.i64 6)])
                (joinK (A := Bool)
                  (fun b22 => ifT b22
                    (Q [V.one (Cell.int IntKind.i64 5)])
                    (fun h23 =>
                    ∃ n24 : Int, (h23.read i11 3 1 = some [Cell.int IntKind.i64 n24]) ∧
                    I 14 [V.one (Cell.int IntKind.i64 n24)]
                      (fun cs25 => fun h26 => 
                      ∃ b27 : Bool, (cs25 = [V.one (Cell.bool b27)]) ∧
                      (ifT (!b27)
                        (Q [V.one (Cell.int IntKind.i64 1)])
                        (ifT (decide (n2 > 0))
                          (fun h28 =>
                          ∃ n29 : Int, (h28.read i11 3 1 = some [Cell.int IntKind.i64 n29]) ∧
                          ((0 ≤ IntKind.i64.wrap (n2 - 1)) ∧
                          IntKind.i64.wrap (n2 - 1) < (↑l0.len : Int)) ∧
                          (derefK l0.a (fun i30 => fun i31 => fun h32 =>
                          ∃ n33 : Int, (h32.read i30 (i31 + (IntKind.i64.wrap (n2 - 1)).toNat * 4 + 3) 1 = some [Cell.int IntKind.i64 n33]) ∧
                          (ifT (decide (n29 < n33))
                            (Q [V.one (Cell.int IntKind.i64 7)])
                            (x1 (IntKind.i64.wrap (n2 + 1)))) h32)) h28)
                          (x1 (IntKind.i64.wrap (n2 + 1))))) h26) h23))
                  (fun x34 => fun h35 =>
                  ∃ s36 : ByteArray, (h35.read i11 1 1 = some [Cell.str s36]) ∧
                  I 78 [V.one (Cell.str s36)]
                    (fun cs37 => fun h38 => 
                    ∃ b39 : Bool, (cs37 = [V.one (Cell.bool b39)]) ∧
                    (ifT (!b39)
                      (x34 true)
                      (fun h40 =>
                      ∃ s41 : ByteArray, (h40.read i11 2 1 = some [Cell.str s41]) ∧
                      I 78 [V.one (Cell.str s41)]
                        (fun cs42 => fun h43 => 
                        ∃ b44 : Bool, (cs42 = [V.one (Cell.bool b44)]) ∧
                        x34 (!b44) h43) h40)) h38) h35))) h20) h18)) h16) h13)) h12)) h6)) h3)
        (Q [V.one (Cell.int IntKind.i64 0)])))
theorem den29 (I : FuncId → List V → Post → T) (l0 : Sl) (Q : Post) : denF Go.Proofs.Tryz.prog 0 (⟨[(239198, 137371844608, [(26, tk Go.Proofs.Tryz.prog 4)])], [(58, 144115188075854876, [(10, tk Go.Proofs.Tryz.prog 3)])]⟩) I 29 [V.one (Cell.slice 4 l0)] Q = vc29 I l0 Q := by kernel_rfl
/-- strings.trimLeftByte -/
def vc255 (I : FuncId → List V → Post → T) (s0 : ByteArray) (n1 : Int) (Q : Post) : T :=
  loopK (A := ByteArray) s0
    (fun x2 => fun s3 => ifT (decide ((↑s3.size : Int) > 0))
      (fun h4 =>
      (((0 : Int) ≤ (0 : Int)) ∧
      0 < (↑s3.size : Int)) ∧
      (ifT (decide (byteAt s3 0 = n1))
        (fun h5 =>
        (((0 : Int) ≤ (1 : Int)) ∧
        (1 ≤ (↑s3.size : Int)) ∧
        (↑s3.size : Int) ≤ (↑s3.size : Int)) ∧
        x2 (s3.extract 1 (↑s3.size : Int).toNat) h5)
        (Q [V.one (Cell.str s3)])) h4)
      (Q [V.one (Cell.str s3)]))
theorem den255 (I : FuncId → List V → Post → T) (s0 : ByteArray) (n1 : Int) (Q : Post) : denF Go.Proofs.Tryz.prog 0 (⟨[], [(12, 65505, [(0, tk Go.Proofs.Tryz.prog 9)])]⟩) I 255 [V.one (Cell.str s0), V.one (Cell.int IntKind.u8 n1)] Q = vc255 I s0 n1 Q := by kernel_rfl
/-- strings.trimRightByte -/
def vc256 (I : FuncId → List V → Post → T) (s0 : ByteArray) (n1 : Int) (Q : Post) : T :=
  loopK (A := ByteArray) s0
    (fun x2 => fun s3 => ifT (decide ((↑s3.size : Int) > 0))
      (fun h4 =>
      ((0 ≤ IntKind.i64.wrap ((↑s3.size : Int) - 1)) ∧
      IntKind.i64.wrap ((↑s3.size : Int) - 1) < (↑s3.size : Int)) ∧
      (ifT (decide (byteAt s3 (IntKind.i64.wrap ((↑s3.size : Int) - 1)) = n1))
        (fun h5 =>
        (((0 : Int) ≤ (0 : Int)) ∧
        (0 ≤ IntKind.i64.wrap ((↑s3.size : Int) - 1)) ∧
        IntKind.i64.wrap ((↑s3.size : Int) - 1) ≤ (↑s3.size : Int)) ∧
        x2 (s3.extract 0 (IntKind.i64.wrap ((↑s3.size : Int) - 1)).toNat) h5)
        (Q [V.one (Cell.str s3)])) h4)
      (Q [V.one (Cell.str s3)]))
theorem den256 (I : FuncId → List V → Post → T) (s0 : ByteArray) (n1 : Int) (Q : Post) : denF Go.Proofs.Tryz.prog 0 (⟨[], [(12, 4194273, [(0, tk Go.Proofs.Tryz.prog 9)])]⟩) I 256 [V.one (Cell.str s0), V.one (Cell.int IntKind.u8 n1)] Q = vc256 I s0 n1 Q := by kernel_rfl
/-- slices.ContainsFunc[[]handbill/api.Sent,handbill/api.Sent] -/
def vc79 (I : FuncId → List V → Post → T) (l0 : Sl) (p1 : Option (Nat × List (Nat × Nat))) (Q : Post) : T :=
  fun h2 =>
  I 88 [V.one (Cell.slice 4 l0), V.one (Cell.func p1)]
    (fun cs3 => fun h4 => 
    ∃ n5 : Int, (cs3 = [V.one (Cell.int IntKind.i64 n5)]) ∧
    Q [V.one (Cell.bool (decide (n5 ≥ 0)))] h4) h2
theorem den79 (I : FuncId → List V → Post → T) (l0 : Sl) (p1 : Option (Nat × List (Nat × Nat))) (Q : Post) : denF Go.Proofs.Tryz.prog 0 (⟨[], []⟩) I 79 [V.one (Cell.slice 4 l0), V.one (Cell.func p1)] Q = vc79 I l0 p1 Q := by kernel_rfl
/-- slices.IndexFunc[[]handbill/api.Sent,handbill/api.Sent] -/
def vc88 (I : FuncId → List V → Post → T) (l0 : Sl) (p1 : Option (Nat × List (Nat × Nat))) (Q : Post) : T :=
  loopK (A := Int) 0
    (fun x2 => fun n3 => ifT (decide (n3 < (↑l0.len : Int)))
      (fun h4 =>
      ((0 ≤ n3) ∧
      n3 < (↑l0.len : Int)) ∧
      (derefK l0.a (fun i5 => fun i6 => fun h7 =>
      ∃ s8 : ByteArray, ∃ s9 : ByteArray, ∃ s10 : ByteArray, ∃ n11 : Int, (h7.read i5 (i6 + n3.toNat * 4) 4 = some [Cell.str s8, Cell.str s9, Cell.str s10, Cell.int IntKind.i64 n11]) ∧
      (funK p1 (fun i12 => fun cs13 => fun h14 => 
      I i12 (V.agg [Cell.str s8, Cell.str s9, Cell.str s10, Cell.int IntKind.i64 n11] :: cs13)
        (fun cs15 => fun h16 => 
        ∃ b17 : Bool, (cs15 = [V.one (Cell.bool b17)]) ∧
        (ifT b17
          (Q [V.one (Cell.int IntKind.i64 n3)])
          (x2 (IntKind.i64.wrap (n3 + 1)))) h16) h14)) h7)) h4)
      (Q [V.one (Cell.int IntKind.i64 (-1))]))
theorem den88 (I : FuncId → List V → Post → T) (l0 : Sl) (p1 : Option (Nat × List (Nat × Nat))) (Q : Post) : denF Go.Proofs.Tryz.prog 0 (⟨[], [(26, 524080, [(8, tk Go.Proofs.Tryz.prog 3)])]⟩) I 88 [V.one (Cell.slice 4 l0), V.one (Cell.func p1)] Q = vc88 I l0 p1 Q := by kernel_rfl
/-- handbill/handref1.SentFault$1 -/
def vc80 (I : FuncId → List V → Post → T) (s0 : ByteArray) (s1 : ByteArray) (s2 : ByteArray) (n3 : Int) (i4 : Nat) (i5 : Nat) (Q : Post) : T :=
  fun h6 =>
  ∃ s7 : ByteArray, (h6.read i4 (i5 + 0) 1 = some [Cell.str s7]) ∧
  Q [V.one (Cell.bool (decide (s0 = s7)))] h6
theorem den80 (I : FuncId → List V → Post → T) (s0 : ByteArray) (s1 : ByteArray) (s2 : ByteArray) (n3 : Int) (i4 : Nat) (i5 : Nat) (Q : Post) : denF Go.Proofs.Tryz.prog 4 (⟨[], []⟩) I 80 [V.agg [Cell.str s0, Cell.str s1, Cell.str s2, Cell.int IntKind.i64 n3], V.one (Cell.ptr (some (i4, i5)))] Q = vc80 I s0 s1 s2 n3 i4 i5 Q := by kernel_rfl
/-- handbill/handref1.GainsFault -/
def vc30 (I : FuncId → List V → Post → T) (l0 : Sl) (Q : Post) : T :=
  ifT (decide ((↑l0.len : Int) > 1000))
    (Q [V.one (Cell.int IntKind.i64 2)])
    (loopK (A := Int) 0
      (fun x1 => fun n2 => ifT (decide (n2 < (↑l0.len : Int)))
        (fun h3 =>
        ((0 ≤ n2) ∧
        n2 < (↑l0.len : Int)) ∧
        (derefK l0.a (fun i4 => fun i5 => fun h6 =>
        ∃ s7 : ByteArray, ∃ s8 : ByteArray, ∃ n9 : Int, ∃ n10 : Int, (h6.read i4 (i5 + n2.toNat * 4) 4 = some [Cell.str s7, Cell.str s8, Cell.int IntKind.i64 n9, Cell.int IntKind.i64 n10]) ∧
        (newK (.cells false [Cell.str ByteArray.empty, Cell.str ByteArray.empty, Cell.int IntKind.i64 0, Cell.int IntKind.i64 0]) (fun i11 => fun h12 => 
        (storeK [] i11 0 [Cell.str s7, Cell.str s8, Cell.int IntKind.i64 n9, Cell.int IntKind.i64 n10] (fun h13 =>
        ∃ s14 : ByteArray, (h13.read i11 0 1 = some [Cell.str s14]) ∧
        I 78 [V.one (Cell.str s14)]
          (fun cs15 => fun h16 => 
          ∃ b17 : Bool, (cs15 = [V.one (Cell.bool b17)]) ∧
          (ifT (!b17)
            (Q [V.one (Cell.int IntKind.i64 5)])
            (fun h18 =>
            (((0 : Int) ≤ (0 : Int)) ∧
            (0 ≤ n2) ∧
            n2 ≤ (↑l0.len : Int)) ∧
            I 81 [V.one (Cell.slice 4 (l0.sub 4 0 n2.toNat)), V.one (Cell.func (some (82, [(i11, 0)])))]
              (fun cs19 => fun h20 => 
              ∃ b21 : Bool, (cs19 = [V.one (Cell.bool b21)]) ∧
              (ifT b21
                (Q [V.one (Cell.int IntKind.i64 6)])
                (fun h22 =>
                ∃ s23 : ByteArray, (h22.read i11 1 1 = some [Cell.str s23]) ∧
                I 78 [V.one (Cell.str s23)]
                  (fun cs24 => fun h25 => 
                  ∃ b26 : Bool, (cs24 = [V.one (Cell.bool b26)]) ∧
                  (ifT (!b26)
                    (Q [V.one (Cell.int IntKind.i64 5)])
                    (fun h27 =>
                    ∃ n28 : Int, (h27.read i11 2 1 = some [Cell.int IntKind.i64 n28]) ∧
                    I 14 [V.one (Cell.int IntKind.i64 n28)]
                      (fun cs29 => fun h30 => 
                      ∃ b31 : Bool, (cs29 = [V.one (Cell.bool b31)]) ∧
                      (ifT (!b31)
                        (Q [V.one (Cell.int IntKind.i64 1)])
                        (fun h32 =>
                        ∃ n33 : Int, (h32.read i11 3 1 = some [Cell.int IntKind.i64 n33]) ∧
                        (ifT (decide (n33 < 0))
                          (Q [V.one (Cell.int IntKind.i64 1)])
                          (fun h34 =>
                          ∃ n35 : Int, (h34.read i11 3 1 = some [Cell.int IntKind.i64 n35]) ∧
                          (ifT (decide (n35 > 1000000000000))
                            (Q [V.one (Cell.int IntKind.i64 1)])
                            (x1 (IntKind.i64.wrap (n2 + 1)))) h34)) h32)) h30) h27)) h25) h22)) h20) h18)) h16) h13)) h12)) h6)) h3)
        (Q [V.one (Cell.int IntKind.i64 0)])))
theorem den30 (I : FuncId → List V → Post → T) (l0 : Sl) (Q : Post) : denF Go.Proofs.Tryz.prog 0 (⟨[], [(58, 140737488354332, [(10, tk Go.Proofs.Tryz.prog 3)])]⟩) I 30 [V.one (Cell.slice 4 l0)] Q = vc30 I l0 Q := by kernel_rfl
/-- slices.ContainsFunc[[]handbill/api.Gain,handbill/api.Gain] -/
def vc81 (I : FuncId → List V → Post → T) (l0 : Sl) (p1 : Option (Nat × List (Nat × Nat))) (Q : Post) : T :=
  fun h2 =>
  I 134 [V.one (Cell.slice 4 l0), V.one (Cell.func p1)]
    (fun cs3 => fun h4 => 
    ∃ n5 : Int, (cs3 = [V.one (Cell.int IntKind.i64 n5)]) ∧
    Q [V.one (Cell.bool (decide (n5 ≥ 0)))] h4) h2
theorem den81 (I : FuncId → List V → Post → T) (l0 : Sl) (p1 : Option (Nat × List (Nat × Nat))) (Q : Post) : denF Go.Proofs.Tryz.prog 0 (⟨[], []⟩) I 81 [V.one (Cell.slice 4 l0), V.one (Cell.func p1)] Q = vc81 I l0 p1 Q := by kernel_rfl
/-- slices.IndexFunc[[]handbill/api.Gain,handbill/api.Gain] -/
def vc134 (I : FuncId → List V → Post → T) (l0 : Sl) (p1 : Option (Nat × List (Nat × Nat))) (Q : Post) : T :=
  loopK (A := Int) 0
    (fun x2 => fun n3 => ifT (decide (n3 < (↑l0.len : Int)))
      (fun h4 =>
      ((0 ≤ n3) ∧
      n3 < (↑l0.len : Int)) ∧
      (derefK l0.a (fun i5 => fun i6 => fun h7 =>
      ∃ s8 : ByteArray, ∃ s9 : ByteArray, ∃ n10 : Int, ∃ n11 : Int, (h7.read i5 (i6 + n3.toNat * 4) 4 = some [Cell.str s8, Cell.str s9, Cell.int IntKind.i64 n10, Cell.int IntKind.i64 n11]) ∧
      (funK p1 (fun i12 => fun cs13 => fun h14 => 
      I i12 (V.agg [Cell.str s8, Cell.str s9, Cell.int IntKind.i64 n10, Cell.int IntKind.i64 n11] :: cs13)
        (fun cs15 => fun h16 => 
        ∃ b17 : Bool, (cs15 = [V.one (Cell.bool b17)]) ∧
        (ifT b17
          (Q [V.one (Cell.int IntKind.i64 n3)])
          (x2 (IntKind.i64.wrap (n3 + 1)))) h16) h14)) h7)) h4)
      (Q [V.one (Cell.int IntKind.i64 (-1))]))
theorem den134 (I : FuncId → List V → Post → T) (l0 : Sl) (p1 : Option (Nat × List (Nat × Nat))) (Q : Post) : denF Go.Proofs.Tryz.prog 0 (⟨[], [(26, 524080, [(8, tk Go.Proofs.Tryz.prog 3)])]⟩) I 134 [V.one (Cell.slice 4 l0), V.one (Cell.func p1)] Q = vc134 I l0 p1 Q := by kernel_rfl
/-- handbill/handref1.GainsFault$1 -/
def vc82 (I : FuncId → List V → Post → T) (s0 : ByteArray) (s1 : ByteArray) (n2 : Int) (n3 : Int) (i4 : Nat) (i5 : Nat) (Q : Post) : T :=
  fun h6 =>
  ∃ s7 : ByteArray, (h6.read i4 (i5 + 0) 1 = some [Cell.str s7]) ∧
  Q [V.one (Cell.bool (decide (s0 = s7)))] h6
theorem den82 (I : FuncId → List V → Post → T) (s0 : ByteArray) (s1 : ByteArray) (n2 : Int) (n3 : Int) (i4 : Nat) (i5 : Nat) (Q : Post) : denF Go.Proofs.Tryz.prog 4 (⟨[], []⟩) I 82 [V.agg [Cell.str s0, Cell.str s1, Cell.int IntKind.i64 n2, Cell.int IntKind.i64 n3], V.one (Cell.ptr (some (i4, i5)))] Q = vc82 I s0 s1 n2 n3 i4 i5 Q := by kernel_rfl
end Go.Proofs.YtfemminjhecocaaGreatDoorVc
