/- Formulas of the functions that SharesMade reaches. -/
import Derived.Test.YtohdelegimcceaaVcFrame
import Derived.Test.YtohdelegimcceaaVcBits
import Derived.Test.YtohdelegimcceaaProg
set_option linter.unusedVariables false
set_option maxRecDepth 100000
namespace Go.Proofs.YtohdelegimcceaaVc
def len8S : ByteArray := { data := #[0, 1, 2, 2, 3, 3, 3, 3, 4, 4, 4, 4, 4, 4, 4, 4, 5, 5, 5, 5, 5, 5, 5, 5, 5, 5, 5, 5, 5, 5, 5, 5, 6, 6, 6, 6, 6, 6, 6, 6, 6, 6, 6, 6, 6, 6, 6, 6, 6, 6, 6, 6, 6, 6, 6, 6, 6, 6, 6, 6, 6, 6, 6, 6, 7, 7, 7, 7, 7, 7, 7, 7, 7, 7, 7, 7, 7, 7, 7, 7, 7, 7, 7, 7, 7, 7, 7, 7, 7, 7, 7, 7, 7, 7, 7, 7, 7, 7, 7, 7, 7, 7, 7, 7, 7, 7, 7, 7, 7, 7, 7, 7, 7, 7, 7, 7, 7, 7, 7, 7, 7, 7, 7, 7, 7, 7, 7, 7, 8, 8, 8, 8, 8, 8, 8, 8, 8, 8, 8, 8, 8, 8, 8, 8, 8, 8, 8, 8, 8, 8, 8, 8, 8, 8, 8, 8, 8, 8, 8, 8, 8, 8, 8, 8, 8, 8, 8, 8, 8, 8, 8, 8, 8, 8, 8, 8, 8, 8, 8, 8, 8, 8, 8, 8, 8, 8, 8, 8, 8, 8, 8, 8, 8, 8, 8, 8, 8, 8, 8, 8, 8, 8, 8, 8, 8, 8, 8, 8, 8, 8, 8, 8, 8, 8, 8, 8, 8, 8, 8, 8, 8, 8, 8, 8, 8, 8, 8, 8, 8, 8, 8, 8, 8, 8, 8, 8, 8, 8, 8, 8, 8, 8, 8, 8, 8, 8, 8, 8, 8, 8, 8, 8, 8, 8, 8, 8] }
def vc17 (I : FuncId → List V → Post → T) (p0 : Option (Nat × Nat)) (n1 : Int) (Q : Post) : T :=
  derefK p0 (fun i2 => fun i3 => fun h4 =>
  ∃ n5 : Int, (h4.read i2 (i3 + 1) 1 = some [Cell.int IntKind.i64 n5]) ∧
  (derefK p0 (fun i6 => fun i7 => fun h8 =>
  (storeK [] i6 (i7 + 1) [Cell.int IntKind.i64 (IntKind.i64.wrap (n5 + 1))] (derefK p0 (fun i9 => fun i10 => fun h11 =>
  ∃ l12 : Sl, (h11.read i9 (i10 + 0) 1 = some [Cell.slice 1 l12]) ∧
  (ifT (decide ((↑l12.len : Int) = 0))
    (derefK p0 (fun i13 => fun i14 => fun h15 =>
    ∃ n16 : Int, (h15.read i13 (i14 + 1) 1 = some [Cell.int IntKind.i64 n16]) ∧
    I 32 [V.one (Cell.int IntKind.i64 (IntKind.i64.wrap (n16 * 7919))), V.one (Cell.int IntKind.i64 n1)]
      (fun cs17 => fun h18 => 
      ∃ n19 : Int, (cs17 = [V.one (Cell.int IntKind.i64 n19)]) ∧
      Q [V.one (Cell.int IntKind.i64 n19)] h18) h15))
    (derefK p0 (fun i20 => fun i21 => fun h22 =>
    ∃ n23 : Int, (h22.read i20 (i21 + 1) 1 = some [Cell.int IntKind.i64 n23]) ∧
    (derefK p0 (fun i24 => fun i25 => fun h26 =>
    ∃ l27 : Sl, (h26.read i24 (i25 + 0) 1 = some [Cell.slice 1 l27]) ∧
    ((↑l27.len : Int) ≠ 0) ∧
    (derefK p0 (fun i28 => fun i29 => fun h30 =>
    ∃ n31 : Int, (h30.read i28 (i29 + 1) 1 = some [Cell.int IntKind.i64 n31]) ∧
    (derefK p0 (fun i32 => fun i33 => fun h34 =>
    ∃ l35 : Sl, (h34.read i32 (i33 + 0) 1 = some [Cell.slice 1 l35]) ∧
    ((↑l35.len : Int) ≠ 0) ∧
    (derefK p0 (fun i36 => fun i37 => fun h38 =>
    ∃ l39 : Sl, (h38.read i36 (i37 + 0) 1 = some [Cell.slice 1 l39]) ∧
    ((0 ≤ (IntKind.i64.wrap (n23 - 1)).tmod (↑l27.len : Int)) ∧
    (IntKind.i64.wrap (n23 - 1)).tmod (↑l27.len : Int) < (↑l39.len : Int)) ∧
    (derefK l39.a (fun i40 => fun i41 => fun h42 =>
    ∃ n43 : Int, (h42.read i40 (i41 + ((IntKind.i64.wrap (n23 - 1)).tmod (↑l27.len : Int)).toNat * 1) 1 = some [Cell.int IntKind.i64 n43]) ∧
    I 32 [V.one (Cell.int IntKind.i64 n43), V.one (Cell.int IntKind.i64 1073741824)]
      (fun cs44 => fun h45 => 
      ∃ n46 : Int, (cs44 = [V.one (Cell.int IntKind.i64 n46)]) ∧
      I 32 [V.one (Cell.int IntKind.i64 (IntKind.i64.wrap (n46 + IntKind.i64.wrap (IntKind.i64.wrap ((IntKind.i64.wrap (n31 - 1)).tdiv (↑l35.len : Int)) * IntKind.i64.wrap (7919 + (IntKind.i64.wrap (n23 - 1)).tmod (↑l27.len : Int)))))), V.one (Cell.int IntKind.i64 n1)]
        (fun cs47 => fun h48 => 
        ∃ n49 : Int, (cs47 = [V.one (Cell.int IntKind.i64 n49)]) ∧
        Q [V.one (Cell.int IntKind.i64 n49)] h48) h45) h42)) h38)) h34)) h30)) h26)) h22))) h11))) h8)) h4)
theorem den17 (I : FuncId → List V → Post → T) (p0 : Option (Nat × Nat)) (n1 : Int) (Q : Post) : denF Go.Proofs.Try.prog 0 (⟨[], []⟩) I 17 [V.one (Cell.ptr p0), V.one (Cell.int IntKind.i64 n1)] Q = vc17 I p0 n1 Q := by kernel_rfl
def vc32 (I : FuncId → List V → Post → T) (n0 : Int) (n1 : Int) (Q : Post) : T :=
  ifT (decide (n1 < 1))
    (Q [V.one (Cell.int IntKind.i64 0)])
    (fun h2 =>
    (n1 ≠ 0) ∧
    (ifT (decide (n0.tmod n1 < 0))
      (Q [V.one (Cell.int IntKind.i64 (IntKind.i64.wrap (n0.tmod n1 + n1)))])
      (Q [V.one (Cell.int IntKind.i64 (n0.tmod n1))])) h2)
theorem den32 (I : FuncId → List V → Post → T) (n0 : Int) (n1 : Int) (Q : Post) : denF Go.Proofs.Try.prog 0 (⟨[], []⟩) I 32 [V.one (Cell.int IntKind.i64 n0), V.one (Cell.int IntKind.i64 n1)] Q = vc32 I n0 n1 Q := by kernel_rfl
def vc5 (I : FuncId → List V → Post → T) (p0 : Option (Nat × Nat)) (l1 : Sl) (Q : Post) : T :=
  fun h2 =>
  I 17 [V.one (Cell.ptr p0), V.one (Cell.int IntKind.i64 (↑l1.len : Int))]
    (fun cs3 => fun h4 => 
    ∃ n5 : Int, (cs3 = [V.one (Cell.int IntKind.i64 n5)]) ∧
    ((0 ≤ n5) ∧
    n5 < (↑l1.len : Int)) ∧
    (derefK l1.a (fun i6 => fun i7 => fun h8 =>
    ∃ n9 : Int, (h8.read i6 (i7 + n5.toNat * 1) 1 = some [Cell.int IntKind.i64 n9]) ∧
    Q [V.one (Cell.int IntKind.i64 n9)] h8)) h4) h2
theorem den5 (I : FuncId → List V → Post → T) (p0 : Option (Nat × Nat)) (l1 : Sl) (Q : Post) : denF Go.Proofs.Try.prog 0 (⟨[], []⟩) I 5 [V.one (Cell.ptr p0), V.one (Cell.slice 1 l1)] Q = vc5 I p0 l1 Q := by kernel_rfl
def vc41 (I : FuncId → List V → Post → T) (n0 : Int) (n1 : Int) (Q : Post) : T :=
  Q [V.one (Cell.int IntKind.u64 (IntKind.u64.wrap (IntKind.u64.wrap (IntKind.u64.wrap (shr IntKind.u64 n0 32 * shr IntKind.u64 n1 32) + shr IntKind.u64 (IntKind.u64.wrap (IntKind.u64.wrap (shr IntKind.u64 n0 32 * IntKind.u64.wrap (↑(BitVec.ofInt 64 n1 &&& BitVec.ofInt 64 4294967295).toNat : Int)) + shr IntKind.u64 (IntKind.u64.wrap (IntKind.u64.wrap (↑(BitVec.ofInt 64 n0 &&& BitVec.ofInt 64 4294967295).toNat : Int) * IntKind.u64.wrap (↑(BitVec.ofInt 64 n1 &&& BitVec.ofInt 64 4294967295).toNat : Int))) 32)) 32) + shr IntKind.u64 (IntKind.u64.wrap (IntKind.u64.wrap (↑(BitVec.ofInt 64 (IntKind.u64.wrap (IntKind.u64.wrap (shr IntKind.u64 n0 32 * IntKind.u64.wrap (↑(BitVec.ofInt 64 n1 &&& BitVec.ofInt 64 4294967295).toNat : Int)) + shr IntKind.u64 (IntKind.u64.wrap (IntKind.u64.wrap (↑(BitVec.ofInt 64 n0 &&& BitVec.ofInt 64 4294967295).toNat : Int) * IntKind.u64.wrap (↑(BitVec.ofInt 64 n1 &&& BitVec.ofInt 64 4294967295).toNat : Int))) 32)) &&& BitVec.ofInt 64 4294967295).toNat : Int) + IntKind.u64.wrap (IntKind.u64.wrap (↑(BitVec.ofInt 64 n0 &&& BitVec.ofInt 64 4294967295).toNat : Int) * shr IntKind.u64 n1 32))) 32))), V.one (Cell.int IntKind.u64 (IntKind.u64.wrap (n0 * n1)))]
theorem den41 (I : FuncId → List V → Post → T) (n0 : Int) (n1 : Int) (Q : Post) : denF Go.Proofs.Try.prog 0 (⟨[], []⟩) I 41 [V.one (Cell.int IntKind.u64 n0), V.one (Cell.int IntKind.u64 n1)] Q = vc41 I n0 n1 Q := by kernel_rfl
def vc42 (I : FuncId → List V → Post → T) (n0 : Int) (n1 : Int) (n2 : Int) (Q : Post) : T :=
  joinK (A := PUnit)
    (fun x3 => joinK (A := PUnit)
      (fun x4 => ifT (decide (n0 = 0))
        (fun h5 =>
        (n2 ≠ 0) ∧
        (n2 ≠ 0) ∧
        Q [V.one (Cell.int IntKind.u64 (IntKind.u64.wrap (n1.tdiv n2))), V.one (Cell.int IntKind.u64 (n1.tmod n2))] h5)
        (fun h6 =>
        I 46 [V.one (Cell.int IntKind.u64 n2)]
          (fun cs7 => fun h8 => 
          ∃ n9 : Int, (cs7 = [V.one (Cell.int IntKind.i64 n9)]) ∧
          (0 ≤ IntKind.u64.wrap n9) ∧
          (0 ≤ IntKind.u64.wrap n9) ∧
          (0 ≤ IntKind.u64.wrap (64 - IntKind.u64.wrap n9)) ∧
          (0 ≤ IntKind.u64.wrap n9) ∧
          (shr IntKind.u64 (shl IntKind.u64 n2 (IntKind.u64.wrap n9)) 32 ≠ 0) ∧
          (joinK (A := Int)
            (fun n10 => fun h11 => 
            (shr IntKind.u64 (shl IntKind.u64 n2 (IntKind.u64.wrap n9)) 32 ≠ 0) ∧
            (loopK (A := Int × Int) ((IntKind.u64.wrap (IntKind.u64.wrap (IntKind.u64.wrap (IntKind.u64.wrap (IntKind.u64.wrap (↑(BitVec.ofInt 64 (shl IntKind.u64 n0 (IntKind.u64.wrap n9)) ||| BitVec.ofInt 64 (shr IntKind.u64 n1 (IntKind.u64.wrap (64 - IntKind.u64.wrap n9)))).toNat : Int) * 4294967296) + shr IntKind.u64 (shl IntKind.u64 n1 (IntKind.u64.wrap n9)) 32) - IntKind.u64.wrap (n10 * shl IntKind.u64 n2 (IntKind.u64.wrap n9))) - IntKind.u64.wrap (IntKind.u64.wrap ((IntKind.u64.wrap (IntKind.u64.wrap (IntKind.u64.wrap (IntKind.u64.wrap (↑(BitVec.ofInt 64 (shl IntKind.u64 n0 (IntKind.u64.wrap n9)) ||| BitVec.ofInt 64 (shr IntKind.u64 n1 (IntKind.u64.wrap (64 - IntKind.u64.wrap n9)))).toNat : Int) * 4294967296) + shr IntKind.u64 (shl IntKind.u64 n1 (IntKind.u64.wrap n9)) 32) - IntKind.u64.wrap (n10 * shl IntKind.u64 n2 (IntKind.u64.wrap n9)))).tdiv (shr IntKind.u64 (shl IntKind.u64 n2 (IntKind.u64.wrap n9)) 32)) * shr IntKind.u64 (shl IntKind.u64 n2 (IntKind.u64.wrap n9)) 32)), IntKind.u64.wrap ((IntKind.u64.wrap (IntKind.u64.wrap (IntKind.u64.wrap (IntKind.u64.wrap (↑(BitVec.ofInt 64 (shl IntKind.u64 n0 (IntKind.u64.wrap n9)) ||| BitVec.ofInt 64 (shr IntKind.u64 n1 (IntKind.u64.wrap (64 - IntKind.u64.wrap n9)))).toNat : Int) * 4294967296) + shr IntKind.u64 (shl IntKind.u64 n1 (IntKind.u64.wrap n9)) 32) - IntKind.u64.wrap (n10 * shl IntKind.u64 n2 (IntKind.u64.wrap n9)))).tdiv (shr IntKind.u64 (shl IntKind.u64 n2 (IntKind.u64.wrap n9)) 32))))
              (fun x12 => uncur fun n13 n14 => ifT (decide (n14 ≥ 4294967296))
                (ifT (decide (IntKind.u64.wrap (n13 + shr IntKind.u64 (shl IntKind.u64 n2 (IntKind.u64.wrap n9)) 32) ≥ 4294967296))
                  (fun h15 =>
                  (0 ≤ IntKind.u64.wrap n9) ∧
                  Q [V.one (Cell.int IntKind.u64 (IntKind.u64.wrap (IntKind.u64.wrap (n10 * 4294967296) + IntKind.u64.wrap (n14 - 1)))), V.one (Cell.int IntKind.u64 (shr IntKind.u64 (IntKind.u64.wrap (IntKind.u64.wrap (IntKind.u64.wrap (IntKind.u64.wrap (IntKind.u64.wrap (IntKind.u64.wrap (IntKind.u64.wrap (↑(BitVec.ofInt 64 (shl IntKind.u64 n0 (IntKind.u64.wrap n9)) ||| BitVec.ofInt 64 (shr IntKind.u64 n1 (IntKind.u64.wrap (64 - IntKind.u64.wrap n9)))).toNat : Int) * 4294967296) + shr IntKind.u64 (shl IntKind.u64 n1 (IntKind.u64.wrap n9)) 32) - IntKind.u64.wrap (n10 * shl IntKind.u64 n2 (IntKind.u64.wrap n9))) * 4294967296) + IntKind.u64.wrap (↑(BitVec.ofInt 64 (shl IntKind.u64 n1 (IntKind.u64.wrap n9)) &&& BitVec.ofInt 64 4294967295).toNat : Int)) - IntKind.u64.wrap (IntKind.u64.wrap (n14 - 1) * shl IntKind.u64 n2 (IntKind.u64.wrap n9)))) (IntKind.u64.wrap n9)))] h15)
                  (x12 ((IntKind.u64.wrap (n13 + shr IntKind.u64 (shl IntKind.u64 n2 (IntKind.u64.wrap n9)) 32), IntKind.u64.wrap (n14 - 1)))))
                (ifT (decide (IntKind.u64.wrap (n14 * IntKind.u64.wrap (↑(BitVec.ofInt 64 (shl IntKind.u64 n2 (IntKind.u64.wrap n9)) &&& BitVec.ofInt 64 4294967295).toNat : Int)) > IntKind.u64.wrap (IntKind.u64.wrap (4294967296 * n13) + IntKind.u64.wrap (↑(BitVec.ofInt 64 (shl IntKind.u64 n1 (IntKind.u64.wrap n9)) &&& BitVec.ofInt 64 4294967295).toNat : Int))))
                  (ifT (decide (IntKind.u64.wrap (n13 + shr IntKind.u64 (shl IntKind.u64 n2 (IntKind.u64.wrap n9)) 32) ≥ 4294967296))
                    (fun h16 =>
                    (0 ≤ IntKind.u64.wrap n9) ∧
                    Q [V.one (Cell.int IntKind.u64 (IntKind.u64.wrap (IntKind.u64.wrap (n10 * 4294967296) + IntKind.u64.wrap (n14 - 1)))), V.one (Cell.int IntKind.u64 (shr IntKind.u64 (IntKind.u64.wrap (IntKind.u64.wrap (IntKind.u64.wrap (IntKind.u64.wrap (IntKind.u64.wrap (IntKind.u64.wrap (IntKind.u64.wrap (↑(BitVec.ofInt 64 (shl IntKind.u64 n0 (IntKind.u64.wrap n9)) ||| BitVec.ofInt 64 (shr IntKind.u64 n1 (IntKind.u64.wrap (64 - IntKind.u64.wrap n9)))).toNat : Int) * 4294967296) + shr IntKind.u64 (shl IntKind.u64 n1 (IntKind.u64.wrap n9)) 32) - IntKind.u64.wrap (n10 * shl IntKind.u64 n2 (IntKind.u64.wrap n9))) * 4294967296) + IntKind.u64.wrap (↑(BitVec.ofInt 64 (shl IntKind.u64 n1 (IntKind.u64.wrap n9)) &&& BitVec.ofInt 64 4294967295).toNat : Int)) - IntKind.u64.wrap (IntKind.u64.wrap (n14 - 1) * shl IntKind.u64 n2 (IntKind.u64.wrap n9)))) (IntKind.u64.wrap n9)))] h16)
                    (x12 ((IntKind.u64.wrap (n13 + shr IntKind.u64 (shl IntKind.u64 n2 (IntKind.u64.wrap n9)) 32), IntKind.u64.wrap (n14 - 1)))))
                  (fun h17 =>
                  (0 ≤ IntKind.u64.wrap n9) ∧
                  Q [V.one (Cell.int IntKind.u64 (IntKind.u64.wrap (IntKind.u64.wrap (n10 * 4294967296) + n14))), V.one (Cell.int IntKind.u64 (shr IntKind.u64 (IntKind.u64.wrap (IntKind.u64.wrap (IntKind.u64.wrap (IntKind.u64.wrap (IntKind.u64.wrap (IntKind.u64.wrap (IntKind.u64.wrap (↑(BitVec.ofInt 64 (shl IntKind.u64 n0 (IntKind.u64.wrap n9)) ||| BitVec.ofInt 64 (shr IntKind.u64 n1 (IntKind.u64.wrap (64 - IntKind.u64.wrap n9)))).toNat : Int) * 4294967296) + shr IntKind.u64 (shl IntKind.u64 n1 (IntKind.u64.wrap n9)) 32) - IntKind.u64.wrap (n10 * shl IntKind.u64 n2 (IntKind.u64.wrap n9))) * 4294967296) + IntKind.u64.wrap (↑(BitVec.ofInt 64 (shl IntKind.u64 n1 (IntKind.u64.wrap n9)) &&& BitVec.ofInt 64 4294967295).toNat : Int)) - IntKind.u64.wrap (n14 * shl IntKind.u64 n2 (IntKind.u64.wrap n9)))) (IntKind.u64.wrap n9)))] h17)))) h11)
            (fun x18 => loopK (A := Int × Int) ((IntKind.u64.wrap ((IntKind.u64.wrap (↑(BitVec.ofInt 64 (shl IntKind.u64 n0 (IntKind.u64.wrap n9)) ||| BitVec.ofInt 64 (shr IntKind.u64 n1 (IntKind.u64.wrap (64 - IntKind.u64.wrap n9)))).toNat : Int)).tdiv (shr IntKind.u64 (shl IntKind.u64 n2 (IntKind.u64.wrap n9)) 32)), IntKind.u64.wrap (IntKind.u64.wrap (↑(BitVec.ofInt 64 (shl IntKind.u64 n0 (IntKind.u64.wrap n9)) ||| BitVec.ofInt 64 (shr IntKind.u64 n1 (IntKind.u64.wrap (64 - IntKind.u64.wrap n9)))).toNat : Int) - IntKind.u64.wrap (IntKind.u64.wrap ((IntKind.u64.wrap (↑(BitVec.ofInt 64 (shl IntKind.u64 n0 (IntKind.u64.wrap n9)) ||| BitVec.ofInt 64 (shr IntKind.u64 n1 (IntKind.u64.wrap (64 - IntKind.u64.wrap n9)))).toNat : Int)).tdiv (shr IntKind.u64 (shl IntKind.u64 n2 (IntKind.u64.wrap n9)) 32)) * shr IntKind.u64 (shl IntKind.u64 n2 (IntKind.u64.wrap n9)) 32))))
              (fun x19 => uncur fun n20 n21 => ifT (decide (n20 ≥ 4294967296))
                (ifT (decide (IntKind.u64.wrap (n21 + shr IntKind.u64 (shl IntKind.u64 n2 (IntKind.u64.wrap n9)) 32) ≥ 4294967296))
                  (x18 (IntKind.u64.wrap (n20 - 1)))
                  (x19 ((IntKind.u64.wrap (n20 - 1), IntKind.u64.wrap (n21 + shr IntKind.u64 (shl IntKind.u64 n2 (IntKind.u64.wrap n9)) 32)))))
                (ifT (decide (IntKind.u64.wrap (n20 * IntKind.u64.wrap (↑(BitVec.ofInt 64 (shl IntKind.u64 n2 (IntKind.u64.wrap n9)) &&& BitVec.ofInt 64 4294967295).toNat : Int)) > IntKind.u64.wrap (IntKind.u64.wrap (4294967296 * n21) + shr IntKind.u64 (shl IntKind.u64 n1 (IntKind.u64.wrap n9)) 32)))
                  (ifT (decide (IntKind.u64.wrap (n21 + shr IntKind.u64 (shl IntKind.u64 n2 (IntKind.u64.wrap n9)) 32) ≥ 4294967296))
                    (x18 (IntKind.u64.wrap (n20 - 1)))
                    (x19 ((IntKind.u64.wrap (n20 - 1), IntKind.u64.wrap (n21 + shr IntKind.u64 (shl IntKind.u64 n2 (IntKind.u64.wrap n9)) 32)))))
                  (x18 n20))))) h8) h6))
      (fun x22 => ifT (decide (n2 ≤ n0))
        (no)
        (x22 ())))
    (fun x23 => ifT (decide (n2 = 0))
      (no)
      (x23 ()))
theorem den42 (I : FuncId → List V → Post → T) (n0 : Int) (n1 : Int) (n2 : Int) (Q : Post) : denF Go.Proofs.Try.prog 0 (⟨[(13, 2097152, []), (29, 33554432, []), (65534, 77371104881383677504880640, [(15, tk Go.Proofs.Try.prog 56)])], [(131068, 77371104881383677504880640, [(15, tk Go.Proofs.Try.prog 56), (16, tk Go.Proofs.Try.prog 56)]), (2097148, 2658450920967430832890008133748195328, [(16, tk Go.Proofs.Try.prog 56), (18, tk Go.Proofs.Try.prog 56)])]⟩) I 42 [V.one (Cell.int IntKind.u64 n0), V.one (Cell.int IntKind.u64 n1), V.one (Cell.int IntKind.u64 n2)] Q = vc42 I n0 n1 n2 Q := by kernel_rfl
def vc46 (I : FuncId → List V → Post → T) (n0 : Int) (Q : Post) : T :=
  fun h1 =>
  I 56 [V.one (Cell.int IntKind.u64 n0)]
    (fun cs2 => fun h3 => 
    ∃ n4 : Int, (cs2 = [V.one (Cell.int IntKind.i64 n4)]) ∧
    Q [V.one (Cell.int IntKind.i64 (IntKind.i64.wrap (64 - n4)))] h3) h1
theorem den46 (I : FuncId → List V → Post → T) (n0 : Int) (Q : Post) : denF Go.Proofs.Try.prog 0 (⟨[], []⟩) I 46 [V.one (Cell.int IntKind.u64 n0)] Q = vc46 I n0 Q := by kernel_rfl
def vc56 (I : FuncId → List V → Post → T) (n0 : Int) (Q : Post) : T :=
  joinK (A := Int × Int)
    (uncur fun n1 n2 => ifT (decide (n1 ≥ 65536))
      (ifT (decide (shr IntKind.u64 n1 16 ≥ 256))
        (fun h3 =>
        ((0 ≤ IntKind.u8.wrap (shr IntKind.u64 (shr IntKind.u64 n1 16) 8)) ∧
        IntKind.u8.wrap (shr IntKind.u64 (shr IntKind.u64 n1 16) 8) < (↑256 : Int)) ∧
        Q [V.one (Cell.int IntKind.i64 (IntKind.i64.wrap (IntKind.i64.wrap (IntKind.i64.wrap (n2 + 16) + 8) + IntKind.i64.wrap (byteAt len8S (IntKind.u8.wrap (shr IntKind.u64 (shr IntKind.u64 n1 16) 8))))))] h3)
        (fun h4 =>
        ((0 ≤ IntKind.u8.wrap (shr IntKind.u64 n1 16)) ∧
        IntKind.u8.wrap (shr IntKind.u64 n1 16) < (↑256 : Int)) ∧
        Q [V.one (Cell.int IntKind.i64 (IntKind.i64.wrap (IntKind.i64.wrap (n2 + 16) + IntKind.i64.wrap (byteAt len8S (IntKind.u8.wrap (shr IntKind.u64 n1 16))))))] h4))
      (ifT (decide (n1 ≥ 256))
        (fun h5 =>
        ((0 ≤ IntKind.u8.wrap (shr IntKind.u64 n1 8)) ∧
        IntKind.u8.wrap (shr IntKind.u64 n1 8) < (↑256 : Int)) ∧
        Q [V.one (Cell.int IntKind.i64 (IntKind.i64.wrap (IntKind.i64.wrap (n2 + 8) + IntKind.i64.wrap (byteAt len8S (IntKind.u8.wrap (shr IntKind.u64 n1 8))))))] h5)
        (fun h6 =>
        ((0 ≤ IntKind.u8.wrap n1) ∧
        IntKind.u8.wrap n1 < (↑256 : Int)) ∧
        Q [V.one (Cell.int IntKind.i64 (IntKind.i64.wrap (n2 + IntKind.i64.wrap (byteAt len8S (IntKind.u8.wrap n1)))))] h6)))
    (fun x7 => ifT (decide (n0 ≥ 4294967296))
      (x7 ((shr IntKind.u64 n0 32, 32)))
      (x7 ((n0, 0))))
theorem den56 (I : FuncId → List V → Post → T) (n0 : Int) (Q : Post) : denF Go.Proofs.Try.prog 0 (⟨[(13, 101, [(0, tk Go.Proofs.Try.prog 56), (2, tk Go.Proofs.Try.prog 3)])], []⟩) I 56 [V.one (Cell.int IntKind.u64 n0)] Q = vc56 I n0 Q := by kernel_rfl
def vc18 (I : FuncId → List V → Post → T) (p0 : Option (Nat × Nat)) (n1 : Int) (Q : Post) : T :=
  fun h2 =>
  I 17 [V.one (Cell.ptr p0), V.one (Cell.int IntKind.i64 n1)]
    (fun cs3 => fun h4 => 
    ∃ n5 : Int, (cs3 = [V.one (Cell.int IntKind.i64 n5)]) ∧
    Q [V.one (Cell.bool (decide (n5 = 0)))] h4) h2
theorem den18 (I : FuncId → List V → Post → T) (p0 : Option (Nat × Nat)) (n1 : Int) (Q : Post) : denF Go.Proofs.Try.prog 0 (⟨[], []⟩) I 18 [V.one (Cell.ptr p0), V.one (Cell.int IntKind.i64 n1)] Q = vc18 I p0 n1 Q := by kernel_rfl
def vc47 (I : FuncId → List V → Post → T) (l0 : Sl) (n1 : Int) (n2 : Int) (p3 : Option (Nat × List (Nat × Nat))) (Q : Post) : T :=
  loopK (A := Int) (IntKind.i64.wrap (n1 + 1))
    (fun x4 => fun n5 => ifT (decide (n5 < n2))
      (loopK (A := Int) n5
        (fun x6 => fun n7 => joinK (A := Bool)
          (fun b8 => ifT b8
            (fun h9 =>
            ((0 ≤ IntKind.i64.wrap (n7 - 1)) ∧
            IntKind.i64.wrap (n7 - 1) < (↑l0.len : Int)) ∧
            (derefK l0.a (fun i10 => fun i11 => fun h12 =>
            ∃ n13 : Int, (h12.read i10 (i11 + (IntKind.i64.wrap (n7 - 1)).toNat * 1) 1 = some [Cell.int IntKind.i64 n13]) ∧
            ((0 ≤ n7) ∧
            n7 < (↑l0.len : Int)) ∧
            (derefK l0.a (fun i14 => fun i15 => fun h16 =>
            ∃ n17 : Int, (h16.read i14 (i15 + n7.toNat * 1) 1 = some [Cell.int IntKind.i64 n17]) ∧
            ((0 ≤ n7) ∧
            n7 < (↑l0.len : Int)) ∧
            (derefK l0.a (fun i18 => fun i19 => fun h20 => 
            (storeK [] i18 (i19 + n7.toNat * 1) [Cell.int IntKind.i64 n13] (fun h21 =>
            ((0 ≤ IntKind.i64.wrap (n7 - 1)) ∧
            IntKind.i64.wrap (n7 - 1) < (↑l0.len : Int)) ∧
            (derefK l0.a (fun i22 => fun i23 => fun h24 => 
            (storeK [] i22 (i23 + (IntKind.i64.wrap (n7 - 1)).toNat * 1) [Cell.int IntKind.i64 n17] (x6 (IntKind.i64.wrap (n7 - 1)))) h24)) h21)) h20)) h16)) h12)) h9)
            (x4 (IntKind.i64.wrap (n5 + 1))))
          (fun x25 => ifT (decide (n7 > n1))
            (fun h26 =>
            ((0 ≤ n7) ∧
            n7 < (↑l0.len : Int)) ∧
            (derefK l0.a (fun i27 => fun i28 => fun h29 =>
            ∃ n30 : Int, (h29.read i27 (i28 + n7.toNat * 1) 1 = some [Cell.int IntKind.i64 n30]) ∧
            ((0 ≤ IntKind.i64.wrap (n7 - 1)) ∧
            IntKind.i64.wrap (n7 - 1) < (↑l0.len : Int)) ∧
            (derefK l0.a (fun i31 => fun i32 => fun h33 =>
            ∃ n34 : Int, (h33.read i31 (i32 + (IntKind.i64.wrap (n7 - 1)).toNat * 1) 1 = some [Cell.int IntKind.i64 n34]) ∧
            (funK p3 (fun i35 => fun cs36 => fun h37 => 
            I i35 (V.one (Cell.int IntKind.i64 n30) :: V.one (Cell.int IntKind.i64 n34) :: cs36)
              (fun cs38 => fun h39 => 
              ∃ n40 : Int, (cs38 = [V.one (Cell.int IntKind.i64 n40)]) ∧
              x25 (decide (n40 < 0)) h39) h37)) h33)) h29)) h26)
            (x25 false))))
      (Q []))
theorem den47 (I : FuncId → List V → Post → T) (l0 : Sl) (n1 : Int) (n2 : Int) (p3 : Option (Nat × List (Nat × Nat))) (Q : Post) : denF Go.Proofs.Try.prog 0 (⟨[(3216, 34359476224, [(34, tk Go.Proofs.Try.prog 4)])], [(6, 9007199254737664, [(8, tk Go.Proofs.Try.prog 3)]), (402, 9007199254479360, [(9, tk Go.Proofs.Try.prog 3)])]⟩) I 47 [V.one (Cell.slice 1 l0), V.one (Cell.int IntKind.i64 n1), V.one (Cell.int IntKind.i64 n2), V.one (Cell.func p3)] Q = vc47 I l0 n1 n2 p3 Q := by kernel_rfl
def vc28 (I : FuncId → List V → Post → T) (l0 : Sl) (Q : Post) : T :=
  loopK (A := Int × Int) ((0, 0))
    (fun x1 => uncur fun n2 n3 => ifT (decide (n3 < (↑l0.len : Int)))
      (fun h4 =>
      ((0 ≤ n3) ∧
      n3 < (↑l0.len : Int)) ∧
      (derefK l0.a (fun i5 => fun i6 => fun h7 =>
      ∃ n8 : Int, (h7.read i5 (i6 + n3.toNat * 1) 1 = some [Cell.int IntKind.i64 n8]) ∧
      x1 ((IntKind.i64.wrap (n2 + n8), IntKind.i64.wrap (n3 + 1))) h7)) h4)
      (Q [V.one (Cell.int IntKind.i64 n2)]))
theorem den28 (I : FuncId → List V → Post → T) (l0 : Sl) (Q : Post) : denF Go.Proofs.Try.prog 0 (⟨[], [(58, 65320, [(3, tk Go.Proofs.Try.prog 3), (8, tk Go.Proofs.Try.prog 3)])]⟩) I 28 [V.one (Cell.slice 1 l0)] Q = vc28 I l0 Q := by kernel_rfl
def vc30 (I : FuncId → List V → Post → T) (n0 : Int) (l1 : Sl) (b2 : Bool) (Q : Post) : T :=
  fun h3 =>
  I 28 [V.one (Cell.slice 1 l1)]
    (fun cs4 => fun h5 => 
    ∃ n6 : Int, (cs4 = [V.one (Cell.int IntKind.i64 n6)]) ∧
    (true = true) ∧
    (0 ≤ (↑l1.len : Int)) ∧
    ((↑l1.len : Int) ≤ (↑l1.len : Int)) ∧
    ((↑l1.len : Int) * (↑8 : Int) ≤ 140737488355328) ∧
    (newK (YtohdelegimcceaaVc.Obj.cells false (slCells (VK.one (Kd.int IntKind.i64)) (↑l1.len : Int).toNat)) (fun i7 => fun h8 => 
    (true = true) ∧
    (0 ≤ (↑l1.len : Int)) ∧
    ((↑l1.len : Int) ≤ (↑l1.len : Int)) ∧
    ((↑l1.len : Int) * (↑8 : Int) ≤ 140737488355328) ∧
    (newK (YtohdelegimcceaaVc.Obj.cells false (slCells (VK.one (Kd.int IntKind.u64)) (↑l1.len : Int).toNat)) (fun i9 => loopK (A := Int) 0
      (fun x10 => fun n11 => ifT (decide (n11 < (↑l1.len : Int)))
        (fun h12 =>
        ((0 ≤ n11) ∧
        n11 < (↑l1.len : Int)) ∧
        (derefK l1.a (fun i13 => fun i14 => fun h15 =>
        ∃ n16 : Int, (h15.read i13 (i14 + n11.toNat * 1) 1 = some [Cell.int IntKind.i64 n16]) ∧
        I 41 [V.one (Cell.int IntKind.u64 (IntKind.u64.wrap n0)), V.one (Cell.int IntKind.u64 (IntKind.u64.wrap n16))]
          (fun cs17 => fun h18 => 
          ∃ n19 : Int, ∃ n20 : Int, (cs17 = [V.one (Cell.int IntKind.u64 n19), V.one (Cell.int IntKind.u64 n20)]) ∧
          I 42 [V.one (Cell.int IntKind.u64 n19), V.one (Cell.int IntKind.u64 n20), V.one (Cell.int IntKind.u64 (IntKind.u64.wrap n6))]
            (fun cs21 => fun h22 => 
            ∃ n23 : Int, ∃ n24 : Int, (cs21 = [V.one (Cell.int IntKind.u64 n23), V.one (Cell.int IntKind.u64 n24)]) ∧
            ((0 ≤ n11) ∧
            n11 < (↑(↑l1.len : Int).toNat : Int)) ∧
            (storeK [] i7 (0 + n11.toNat * 1) [Cell.int IntKind.i64 (IntKind.i64.wrap n23)] (fun h25 =>
            ((0 ≤ n11) ∧
            n11 < (↑(↑l1.len : Int).toNat : Int)) ∧
            (storeK [] i9 (0 + n11.toNat * 1) [Cell.int IntKind.u64 n24] (x10 (IntKind.i64.wrap (n11 + 1)))) h25)) h22) h18) h15)) h12)
        (fun h26 =>
        (true = true) ∧
        (0 ≤ (↑l1.len : Int)) ∧
        ((↑l1.len : Int) ≤ (↑l1.len : Int)) ∧
        ((↑l1.len : Int) * (↑1 : Int) ≤ 140737488355328) ∧
        (newK (YtohdelegimcceaaVc.Obj.cells false (slCells (VK.one Kd.bool) (↑l1.len : Int).toNat)) (fun i27 => fun h28 => 
        I 28 [V.one (Cell.slice 1 { a := some (i7, 0), len := (↑l1.len : Int).toNat })]
          (fun cs29 => fun h30 => 
          ∃ n31 : Int, (cs29 = [V.one (Cell.int IntKind.i64 n31)]) ∧
          (loopK (A := Int) (IntKind.i64.wrap (n0 - n31))
            (fun x32 => fun n33 => ifT (decide (n33 > 0))
              (loopK (A := Int × Int) ((-1, 0))
                (fun x34 => uncur fun n35 n36 => ifT (decide (n36 < (↑(↑l1.len : Int).toNat : Int)))
                  (fun h37 =>
                  ((0 ≤ n36) ∧
                  n36 < (↑(↑l1.len : Int).toNat : Int)) ∧
                  ∃ n38 : Int, (h37.read i9 (0 + n36.toNat * 1) 1 = some [Cell.int IntKind.u64 n38]) ∧
                  ((0 ≤ n36) ∧
                  n36 < (↑(↑l1.len : Int).toNat : Int)) ∧
                  ∃ b39 : Bool, (h37.read i27 (0 + n36.toNat * 1) 1 = some [Cell.bool b39]) ∧
                  (ifT (!b39)
                    (ifT (decide (n35 < 0))
                      (x34 ((n36, IntKind.i64.wrap (n36 + 1))))
                      (fun h40 =>
                      ((0 ≤ n35) ∧
                      n35 < (↑(↑l1.len : Int).toNat : Int)) ∧
                      ∃ n41 : Int, (h40.read i9 (0 + n35.toNat * 1) 1 = some [Cell.int IntKind.u64 n41]) ∧
                      (ifT (decide (n38 > n41))
                        (x34 ((n36, IntKind.i64.wrap (n36 + 1))))
                        (ifT b2
                          (fun h42 =>
                          ((0 ≤ n35) ∧
                          n35 < (↑(↑l1.len : Int).toNat : Int)) ∧
                          ∃ n43 : Int, (h42.read i9 (0 + n35.toNat * 1) 1 = some [Cell.int IntKind.u64 n43]) ∧
                          (ifT (decide (n38 = n43))
                            (x34 ((n36, IntKind.i64.wrap (n36 + 1))))
                            (x34 ((n35, IntKind.i64.wrap (n36 + 1))))) h42)
                          (x34 ((n35, IntKind.i64.wrap (n36 + 1)))))) h40))
                    (x34 ((n35, IntKind.i64.wrap (n36 + 1))))) h37)
                  (fun h44 =>
                  ((0 ≤ n35) ∧
                  n35 < (↑(↑l1.len : Int).toNat : Int)) ∧
                  ∃ n45 : Int, (h44.read i7 (0 + n35.toNat * 1) 1 = some [Cell.int IntKind.i64 n45]) ∧
                  ((0 ≤ n35) ∧
                  n35 < (↑(↑l1.len : Int).toNat : Int)) ∧
                  (storeK [] i7 (0 + n35.toNat * 1) [Cell.int IntKind.i64 (IntKind.i64.wrap (n45 + 1))] (fun h46 =>
                  ((0 ≤ n35) ∧
                  n35 < (↑(↑l1.len : Int).toNat : Int)) ∧
                  (storeK [] i27 (0 + n35.toNat * 1) [Cell.bool true] (x32 (IntKind.i64.wrap (n33 - 1)))) h46)) h44)))
              (Q [V.one (Cell.slice 1 { a := some (i7, 0), len := (↑l1.len : Int).toNat })]))) h30) h28)) h26)))) h8)) h5) h3
theorem den30 (I : FuncId → List V → Post → T) (n0 : Int) (l1 : Sl) (b2 : Bool) (Q : Post) : denF Go.Proofs.Try.prog 0 (⟨[], [(250, 4611686014132485120, [(32, tk Go.Proofs.Try.prog 3)]), (1018, 664613997892457346156093171436486656, [(17, tk Go.Proofs.Try.prog 3)]), (260682, 1298074214595927975269666922430464, [(18, tk Go.Proofs.Try.prog 3), (75, tk Go.Proofs.Try.prog 3)])]⟩) I 30 [V.one (Cell.int IntKind.i64 n0), V.one (Cell.slice 1 l1), V.one (Cell.bool b2)] Q = vc30 I n0 l1 b2 Q := by kernel_rfl
def vc9 (I : FuncId → List V → Post → T) (l0 : Sl) (l1 : Sl) (Q : Post) : T :=
  ifT (!decide ((↑l0.len : Int) = (↑l1.len : Int)))
    (Q [V.one (Cell.bool false)])
    (loopK (A := Int) 0
      (fun x2 => fun n3 => ifT (decide (n3 < (↑l0.len : Int)))
        (fun h4 =>
        ((0 ≤ n3) ∧
        n3 < (↑l0.len : Int)) ∧
        (derefK l0.a (fun i5 => fun i6 => fun h7 =>
        ∃ n8 : Int, (h7.read i5 (i6 + n3.toNat * 1) 1 = some [Cell.int IntKind.i64 n8]) ∧
        ((0 ≤ n3) ∧
        n3 < (↑l1.len : Int)) ∧
        (derefK l1.a (fun i9 => fun i10 => fun h11 =>
        ∃ n12 : Int, (h11.read i9 (i10 + n3.toNat * 1) 1 = some [Cell.int IntKind.i64 n12]) ∧
        (ifT (!decide (n8 = n12))
          (Q [V.one (Cell.bool false)])
          (x2 (IntKind.i64.wrap (n3 + 1)))) h11)) h7)) h4)
        (Q [V.one (Cell.bool true)])))
theorem den9 (I : FuncId → List V → Post → T) (l0 : Sl) (l1 : Sl) (Q : Post) : denF Go.Proofs.Try.prog 0 (⟨[], [(58, 67100720, [(13, tk Go.Proofs.Try.prog 3)])]⟩) I 9 [V.one (Cell.slice 1 l0), V.one (Cell.slice 1 l1)] Q = vc9 I l0 l1 Q := by kernel_rfl
def vc4 (I : FuncId → List V → Post → T) (p0 : Option (Nat × Nat)) (n1 : Int) (n2 : Int) (Q : Post) : T :=
  ifT (decide (n2 < n1))
    (Q [V.one (Cell.int IntKind.i64 n1)])
    (fun h3 =>
    I 17 [V.one (Cell.ptr p0), V.one (Cell.int IntKind.i64 (IntKind.i64.wrap (IntKind.i64.wrap (n2 - n1) + 1)))]
      (fun cs4 => fun h5 => 
      ∃ n6 : Int, (cs4 = [V.one (Cell.int IntKind.i64 n6)]) ∧
      Q [V.one (Cell.int IntKind.i64 (IntKind.i64.wrap (n1 + n6)))] h5) h3)
theorem den4 (I : FuncId → List V → Post → T) (p0 : Option (Nat × Nat)) (n1 : Int) (n2 : Int) (Q : Post) : denF Go.Proofs.Try.prog 0 (⟨[], []⟩) I 4 [V.one (Cell.ptr p0), V.one (Cell.int IntKind.i64 n1), V.one (Cell.int IntKind.i64 n2)] Q = vc4 I p0 n1 n2 Q := by kernel_rfl
def vc6 (I : FuncId → List V → Post → T) (p0 : Option (Nat × Nat)) (n1 : Int) (Q : Post) : T :=
  fun h2 =>
  I 17 [V.one (Cell.ptr p0), V.one (Cell.int IntKind.i64 14)]
    (fun cs3 => fun h4 => 
    ∃ n5 : Int, (cs3 = [V.one (Cell.int IntKind.i64 n5)]) ∧
    (loopK (A := Sl × Int × Int) (({ a := none, len := 0 }, n1, 0))
      (fun x6 => uncur fun l7 => uncur fun n8 n9 => ifT (decide (n9 < n5))
        (fun h10 =>
        (appendTo [] 1 8 l7 1 [Cell.int IntKind.i64 n8] (fun l11 => fun h12 => 
        I 17 [V.one (Cell.ptr p0), V.one (Cell.int IntKind.i64 (IntKind.i64.wrap (IntKind.i64.wrap (n1.tdiv 4) + 1)))]
          (fun cs13 => fun h14 => 
          ∃ n15 : Int, (cs13 = [V.one (Cell.int IntKind.i64 n15)]) ∧
          x6 ((l11, max 1 (IntKind.i64.wrap (n8 - n15)), IntKind.i64.wrap (n9 + 1))) h14) h12)) h10)
        (joinK (A := Bool)
          (fun b16 => ifT b16
            (fun h17 =>
            I 17 [V.one (Cell.ptr p0), V.one (Cell.int IntKind.i64 (↑l7.len : Int))]
              (fun cs18 => fun h19 => 
              ∃ n20 : Int, (cs18 = [V.one (Cell.int IntKind.i64 n20)]) ∧
              (newK (YtohdelegimcceaaVc.Obj.cells false [Cell.int IntKind.i64 0, Cell.int IntKind.i64 (IntKind.i64.wrap (n1 + 1)), Cell.int IntKind.i64 1]) (fun i21 => fun h22 =>
              I 5 [V.one (Cell.ptr p0), V.one (Cell.slice 1 { a := some (i21, 0), len := 3 })]
                (fun cs23 => fun h24 => 
                ∃ n25 : Int, (cs23 = [V.one (Cell.int IntKind.i64 n25)]) ∧
                ((0 ≤ n20) ∧
                n20 < (↑l7.len : Int)) ∧
                (derefK l7.a (fun i26 => fun i27 => fun h28 => 
                (storeK [] i26 (i27 + n20.toNat * 1) [Cell.int IntKind.i64 n25] (Q [V.one (Cell.slice 1 l7)])) h28)) h24) h22)) h19) h17)
            (Q [V.one (Cell.slice 1 l7)]))
          (fun x29 => fun h30 => 
          I 18 [V.one (Cell.ptr p0), V.one (Cell.int IntKind.i64 8)]
            (fun cs31 => fun h32 => 
            ∃ b33 : Bool, (cs31 = [V.one (Cell.bool b33)]) ∧
            (ifT b33
              (x29 (decide ((↑l7.len : Int) > 0)))
              (x29 false)) h32) h30)))) h4) h2
theorem den6 (I : FuncId → List V → Post → T) (p0 : Option (Nat × Nat)) (n1 : Int) (Q : Post) : denF Go.Proofs.Try.prog 0 (⟨[(124, 4261412864, [(31, tk Go.Proofs.Try.prog 4)])], [(122, 33553504, [(5, tk Go.Proofs.Try.prog 22), (6, tk Go.Proofs.Try.prog 3), (10, tk Go.Proofs.Try.prog 3)])]⟩) I 6 [V.one (Cell.ptr p0), V.one (Cell.int IntKind.i64 n1)] Q = vc6 I p0 n1 Q := by kernel_rfl
def vc7 (I : FuncId → List V → Post → T) (n0 : Int) (n1 : Int) (l2 : Sl) (Q : Post) : T :=
  fun h3 =>
  I 19 [V.one (Cell.int IntKind.i64 n0), V.one (Cell.int IntKind.i64 n1)]
    (fun cs4 => fun h5 => 
    ∃ n6 : Int, (cs4 = [V.one (Cell.int IntKind.i64 n6)]) ∧
    (ifT (!decide (n6 = 0))
      (Q [V.one (Cell.slice 1 { a := none, len := 0 }), V.one (Cell.int IntKind.i64 n6)])
      (ifT (decide ((↑l2.len : Int) > 12))
        (Q [V.one (Cell.slice 1 { a := none, len := 0 }), V.one (Cell.int IntKind.i64 2)])
        (loopK (A := Int) 0
          (fun x7 => fun n8 => ifT (decide (n8 < (↑l2.len : Int)))
            (fun h9 =>
            ((0 ≤ n8) ∧
            n8 < (↑l2.len : Int)) ∧
            (derefK l2.a (fun i10 => fun i11 => fun h12 =>
            ∃ n13 : Int, (h12.read i10 (i11 + n8.toNat * 1) 1 = some [Cell.int IntKind.i64 n13]) ∧
            I 20 [V.one (Cell.int IntKind.i64 n13), V.one (Cell.int IntKind.i64 1), V.one (Cell.int IntKind.i64 n1)]
              (fun cs14 => fun h15 => 
              ∃ b16 : Bool, (cs14 = [V.one (Cell.bool b16)]) ∧
              (ifT (!b16)
                (Q [V.one (Cell.slice 1 { a := none, len := 0 }), V.one (Cell.int IntKind.i64 1)])
                (ifT (decide (n8 > 0))
                  (fun h17 =>
                  ((0 ≤ IntKind.i64.wrap (n8 - 1)) ∧
                  IntKind.i64.wrap (n8 - 1) < (↑l2.len : Int)) ∧
                  (derefK l2.a (fun i18 => fun i19 => fun h20 =>
                  ∃ n21 : Int, (h20.read i18 (i19 + (IntKind.i64.wrap (n8 - 1)).toNat * 1) 1 = some [Cell.int IntKind.i64 n21]) ∧
                  (ifT (decide (n13 > n21))
                    (Q [V.one (Cell.slice 1 { a := none, len := 0 }), V.one (Cell.int IntKind.i64 7)])
                    (x7 (IntKind.i64.wrap (n8 + 1)))) h20)) h17)
                  (x7 (IntKind.i64.wrap (n8 + 1))))) h15) h12)) h9)
            (fun h22 =>
            I 21 [V.one (Cell.int IntKind.i64 n0), V.one (Cell.int IntKind.i64 n1), V.one (Cell.slice 1 l2)]
              (fun cs23 => fun h24 => 
              ∃ l25 : Sl, (cs23 = [V.one (Cell.slice 1 l25)]) ∧
              Q [V.one (Cell.slice 1 l25), V.one (Cell.int IntKind.i64 0)] h24) h22))))) h5) h3
theorem den7 (I : FuncId → List V → Post → T) (n0 : Int) (n1 : Int) (l2 : Sl) (Q : Post) : denF Go.Proofs.Try.prog 0 (⟨[], [(122, 35184367896256, [(22, tk Go.Proofs.Try.prog 3)])]⟩) I 7 [V.one (Cell.int IntKind.i64 n0), V.one (Cell.int IntKind.i64 n1), V.one (Cell.slice 1 l2)] Q = vc7 I n0 n1 l2 Q := by kernel_rfl
def vc19 (I : FuncId → List V → Post → T) (n0 : Int) (n1 : Int) (Q : Post) : T :=
  fun h2 =>
  I 20 [V.one (Cell.int IntKind.i64 n0), V.one (Cell.int IntKind.i64 1), V.one (Cell.int IntKind.i64 6)]
    (fun cs3 => fun h4 => 
    ∃ b5 : Bool, (cs3 = [V.one (Cell.bool b5)]) ∧
    (ifT (!b5)
      (Q [V.one (Cell.int IntKind.i64 4)])
      (fun h6 =>
      I 20 [V.one (Cell.int IntKind.i64 n1), V.one (Cell.int IntKind.i64 1), V.one (Cell.int IntKind.i64 4321440)]
        (fun cs7 => fun h8 => 
        ∃ b9 : Bool, (cs7 = [V.one (Cell.bool b9)]) ∧
        (ifT (!b9)
          (Q [V.one (Cell.int IntKind.i64 1)])
          (Q [V.one (Cell.int IntKind.i64 0)])) h8) h6)) h4) h2
theorem den19 (I : FuncId → List V → Post → T) (n0 : Int) (n1 : Int) (Q : Post) : denF Go.Proofs.Try.prog 0 (⟨[], []⟩) I 19 [V.one (Cell.int IntKind.i64 n0), V.one (Cell.int IntKind.i64 n1)] Q = vc19 I n0 n1 Q := by kernel_rfl
def vc20 (I : FuncId → List V → Post → T) (n0 : Int) (n1 : Int) (n2 : Int) (Q : Post) : T :=
  ifT (decide (n1 ≤ n0))
    (Q [V.one (Cell.bool (decide (n0 ≤ n2)))])
    (Q [V.one (Cell.bool false)])
theorem den20 (I : FuncId → List V → Post → T) (n0 : Int) (n1 : Int) (n2 : Int) (Q : Post) : denF Go.Proofs.Try.prog 0 (⟨[], []⟩) I 20 [V.one (Cell.int IntKind.i64 n0), V.one (Cell.int IntKind.i64 n1), V.one (Cell.int IntKind.i64 n2)] Q = vc20 I n0 n1 n2 Q := by kernel_rfl
def vc21 (I : FuncId → List V → Post → T) (n0 : Int) (n1 : Int) (l2 : Sl) (Q : Post) : T :=
  loopK (A := Sl × Int) (({ a := none, len := 0 }, 0))
    (fun x3 => uncur fun l4 n5 => ifT (decide (n5 < (↑l2.len : Int)))
      (fun h6 =>
      ((0 ≤ n5) ∧
      n5 < (↑l2.len : Int)) ∧
      (derefK l2.a (fun i7 => fun i8 => fun h9 =>
      ∃ n10 : Int, (h9.read i7 (i8 + n5.toNat * 1) 1 = some [Cell.int IntKind.i64 n10]) ∧
      I 33 [V.one (Cell.int IntKind.i64 n0), V.one (Cell.int IntKind.i64 n1), V.one (Cell.int IntKind.i64 n10), V.one (Cell.int IntKind.i64 n5), V.one (Cell.int IntKind.i64 (↑l2.len : Int))]
        (fun cs11 => fun h12 => 
        ∃ n13 : Int, (cs11 = [V.one (Cell.int IntKind.i64 n13)]) ∧
        (appendTo [] 1 8 l4 1 [Cell.int IntKind.i64 n13] (fun l14 => fun h15 => 
        x3 ((l14, IntKind.i64.wrap (n5 + 1))) h15)) h12) h9)) h6)
      (Q [V.one (Cell.slice 1 l4)]))
theorem den21 (I : FuncId → List V → Post → T) (n0 : Int) (n1 : Int) (l2 : Sl) (Q : Post) : denF Go.Proofs.Try.prog 0 (⟨[], [(58, 268432256, [(7, tk Go.Proofs.Try.prog 22), (12, tk Go.Proofs.Try.prog 3)])]⟩) I 21 [V.one (Cell.int IntKind.i64 n0), V.one (Cell.int IntKind.i64 n1), V.one (Cell.slice 1 l2)] Q = vc21 I n0 n1 l2 Q := by kernel_rfl
def vc33 (I : FuncId → List V → Post → T) (n0 : Int) (n1 : Int) (n2 : Int) (n3 : Int) (n4 : Int) (Q : Post) : T :=
  joinK (A := Bool)
    (fun b5 => joinK (A := Bool)
      (fun b6 => joinK (A := Bool)
        (fun b7 => ifT b7
          (Q [V.one (Cell.int IntKind.i64 0)])
          (joinK (A := Bool)
            (fun b8 => ifT b8
              (Q [V.one (Cell.int IntKind.i64 2)])
              (ifT (decide (n0 = 5))
                (Q [V.one (Cell.int IntKind.i64 (IntKind.i64.wrap (n3 + 1)))])
                (ifT (decide (n0 = 6))
                  (fun h9 =>
                  (n1 ≠ 0) ∧
                  (0 ≤ IntKind.i64.wrap (18 - IntKind.i64.wrap ((IntKind.i64.wrap (18 * n2)).tdiv n1))) ∧
                  Q [V.one (Cell.int IntKind.i64 (shl IntKind.i64 1 (IntKind.i64.wrap (18 - IntKind.i64.wrap ((IntKind.i64.wrap (18 * n2)).tdiv n1)))))] h9)
                  (Q [V.one (Cell.int IntKind.i64 1)]))))
            (fun x10 => ifT (decide (n0 = 4))
              (ifT b5
                (x10 (decide (n4 > 2)))
                (x10 false))
              (x10 false))))
        (fun x11 => ifT b6
          (x11 b6)
          (joinK (A := Bool)
            (fun b12 => fun h13 => 
            x11 b12 h13)
            (fun x14 => ifT (decide (n0 = 2))
              (x14 (decide (n3 < IntKind.i64.wrap (n4 - 1))))
              (x14 false)))))
      (fun x15 => ifT (decide (n0 = 1))
        (x15 (decide (n3 > 0)))
        (x15 false)))
    (fun x16 => ifT (decide (n3 = 0))
      (x16 true)
      (x16 (decide (n3 = IntKind.i64.wrap (n4 - 1)))))
theorem den33 (I : FuncId → List V → Post → T) (n0 : Int) (n1 : Int) (n2 : Int) (n3 : Int) (n4 : Int) (Q : Post) : denF Go.Proofs.Try.prog 0 (⟨[(6, 1046528, [(11, tk Go.Proofs.Try.prog 4)]), (112, 133169152, [(20, tk Go.Proofs.Try.prog 4)]), (113, 34226569216, [(20, tk Go.Proofs.Try.prog 4)]), (227, 34226569216, [(20, tk Go.Proofs.Try.prog 4)]), (230, 35150012350464, [(35, tk Go.Proofs.Try.prog 4)])], []⟩) I 33 [V.one (Cell.int IntKind.i64 n0), V.one (Cell.int IntKind.i64 n1), V.one (Cell.int IntKind.i64 n2), V.one (Cell.int IntKind.i64 n3), V.one (Cell.int IntKind.i64 n4)] Q = vc33 I n0 n1 n2 n3 n4 Q := by kernel_rfl
def vc8 (I : FuncId → List V → Post → T) (n0 : Int) (n1 : Int) (l2 : Sl) (Q : Post) : T :=
  joinK (A := Bool)
    (fun b3 => ifT b3
      (Q [V.one (Cell.slice 1 { a := none, len := 0 }), V.one (Cell.int IntKind.i64 4)])
      (joinK (A := Bool)
        (fun b4 => ifT b4
          (Q [V.one (Cell.slice 1 { a := none, len := 0 }), V.one (Cell.int IntKind.i64 1)])
          (ifT (decide ((↑l2.len : Int) > 12))
            (Q [V.one (Cell.slice 1 { a := none, len := 0 }), V.one (Cell.int IntKind.i64 2)])
            (loopK (A := Sl × Int) (({ a := none, len := 0 }, 0))
              (fun x5 => uncur fun l6 n7 => ifT (decide (n7 < (↑l2.len : Int)))
                (fun h8 =>
                ((0 ≤ n7) ∧
                n7 < (↑l2.len : Int)) ∧
                (derefK l2.a (fun i9 => fun i10 => fun h11 =>
                ∃ n12 : Int, (h11.read i9 (i10 + n7.toNat * 1) 1 = some [Cell.int IntKind.i64 n12]) ∧
                (joinK (A := Bool)
                  (fun b13 => ifT b13
                    (Q [V.one (Cell.slice 1 { a := none, len := 0 }), V.one (Cell.int IntKind.i64 1)])
                    (joinK (A := Bool)
                      (fun b14 => ifT b14
                        (Q [V.one (Cell.slice 1 { a := none, len := 0 }), V.one (Cell.int IntKind.i64 7)])
                        (fun h15 =>
                        I 22 [V.one (Cell.int IntKind.i64 n0), V.one (Cell.int IntKind.i64 n1), V.one (Cell.int IntKind.i64 n7), V.one (Cell.int IntKind.i64 (↑l2.len : Int)), V.one (Cell.int IntKind.i64 n12)]
                          (fun cs16 => fun h17 => 
                          ∃ n18 : Int, (cs16 = [V.one (Cell.int IntKind.i64 n18)]) ∧
                          (appendTo [] 1 8 l6 1 [Cell.int IntKind.i64 n18] (fun l19 => fun h20 => 
                          x5 ((l19, IntKind.i64.wrap (n7 + 1))) h20)) h17) h15))
                      (fun x21 => ifT (decide (n7 > 0))
                        (fun h22 =>
                        ((0 ≤ IntKind.i64.wrap (n7 - 1)) ∧
                        IntKind.i64.wrap (n7 - 1) < (↑l2.len : Int)) ∧
                        (derefK l2.a (fun i23 => fun i24 => fun h25 =>
                        ∃ n26 : Int, (h25.read i23 (i24 + (IntKind.i64.wrap (n7 - 1)).toNat * 1) 1 = some [Cell.int IntKind.i64 n26]) ∧
                        x21 (decide (n12 > n26)) h25)) h22)
                        (x21 false))))
                  (fun x27 => ifT (decide (n12 < 1))
                    (x27 true)
                    (x27 (decide (n12 > n1))))) h11)) h8)
                (Q [V.one (Cell.slice 1 l6), V.one (Cell.int IntKind.i64 0)])))))
        (fun x28 => ifT (decide (n1 < 1))
          (x28 true)
          (x28 (decide (n1 > 4321440))))))
    (fun x29 => ifT (decide (n0 < 1))
      (x29 true)
      (x29 (decide (n0 > 6))))
theorem den8 (I : FuncId → List V → Post → T) (n0 : Int) (n1 : Int) (l2 : Sl) (Q : Post) : denF Go.Proofs.Try.prog 0 (⟨[(24, 260096, [(11, tk Go.Proofs.Try.prog 4)]), (102, 33292288, [(18, tk Go.Proofs.Try.prog 4)]), (31332, 8727373545472, [(42, tk Go.Proofs.Try.prog 4)]), (62668, 18005602416459776, [(53, tk Go.Proofs.Try.prog 4)])], [(122, 36893488145271621568, [(8, tk Go.Proofs.Try.prog 22), (31, tk Go.Proofs.Try.prog 3)])]⟩) I 8 [V.one (Cell.int IntKind.i64 n0), V.one (Cell.int IntKind.i64 n1), V.one (Cell.slice 1 l2)] Q = vc8 I n0 n1 l2 Q := by kernel_rfl
def vc22 (I : FuncId → List V → Post → T) (n0 : Int) (n1 : Int) (n2 : Int) (n3 : Int) (n4 : Int) (Q : Post) : T :=
  joinK (A := Bool)
    (fun b5 => ifT b5
      (Q [V.one (Cell.int IntKind.i64 0)])
      (joinK (A := Bool)
        (fun b6 => ifT b6
          (Q [V.one (Cell.int IntKind.i64 2)])
          (ifT (decide (n0 = 5))
            (Q [V.one (Cell.int IntKind.i64 (IntKind.i64.wrap (n2 + 1)))])
            (ifT (decide (n0 = 6))
              (fun h7 =>
              (n1 ≠ 0) ∧
              (loopK (A := Int × Int) ((262144, 0))
                (fun x8 => uncur fun n9 n10 => ifT (decide (n10 < IntKind.i64.wrap ((IntKind.i64.wrap (18 * n4)).tdiv n1)))
                  (x8 ((IntKind.i64.wrap (n9.tdiv 2), IntKind.i64.wrap (n10 + 1))))
                  (Q [V.one (Cell.int IntKind.i64 n9)]))) h7)
              (Q [V.one (Cell.int IntKind.i64 1)]))))
        (fun x11 => ifT (decide (n0 = 4))
          (ifT (decide (n3 > 2))
            (ifT (decide (n2 = 0))
              (x11 true)
              (x11 (decide (n2 = IntKind.i64.wrap (n3 - 1)))))
            (x11 false))
          (x11 false))))
    (fun x12 => ifT (decide (n0 = 1))
      (ifT (decide (n2 > 0))
        (x12 true)
        (ifT (decide (n0 = 2))
          (x12 (decide (n2 < IntKind.i64.wrap (n3 - 1))))
          (x12 false)))
      (ifT (decide (n0 = 2))
        (x12 (decide (n2 < IntKind.i64.wrap (n3 - 1))))
        (x12 false)))
theorem den22 (I : FuncId → List V → Post → T) (n0 : Int) (n1 : Int) (n2 : Int) (n3 : Int) (n4 : Int) (Q : Post) : denF Go.Proofs.Try.prog 0 (⟨[(24, 536866816, [(12, tk Go.Proofs.Try.prog 4)]), (102, 70368207306752, [(29, tk Go.Proofs.Try.prog 4)])], [(53226, 8935141660703066112, [(11, tk Go.Proofs.Try.prog 3), (58, tk Go.Proofs.Try.prog 3)])]⟩) I 22 [V.one (Cell.int IntKind.i64 n0), V.one (Cell.int IntKind.i64 n1), V.one (Cell.int IntKind.i64 n2), V.one (Cell.int IntKind.i64 n3), V.one (Cell.int IntKind.i64 n4)] Q = vc22 I n0 n1 n2 n3 n4 Q := by kernel_rfl
def vc10 (I : FuncId → List V → Post → T) (p0 : Option (Nat × Nat)) (Q : Post) : T :=
  fun h1 =>
  I 17 [V.one (Cell.ptr p0), V.one (Cell.int IntKind.i64 14)]
    (fun cs2 => fun h3 => 
    ∃ n4 : Int, (cs2 = [V.one (Cell.int IntKind.i64 n4)]) ∧
    (loopK (A := Sl × Int) (({ a := none, len := 0 }, 0))
      (fun x5 => uncur fun l6 n7 => ifT (decide (n7 < n4))
        (fun h8 =>
        (newK (YtohdelegimcceaaVc.Obj.cells false [Cell.int IntKind.i64 0, Cell.int IntKind.i64 1, Cell.int IntKind.i64 1, Cell.int IntKind.i64 2, Cell.int IntKind.i64 3, Cell.int IntKind.i64 262144, Cell.int IntKind.i64 1000000]) (fun i9 => fun h10 =>
        I 5 [V.one (Cell.ptr p0), V.one (Cell.slice 1 { a := some (i9, 0), len := 7 })]
          (fun cs11 => fun h12 => 
          ∃ n13 : Int, (cs11 = [V.one (Cell.int IntKind.i64 n13)]) ∧
          (appendTo [] 1 8 l6 1 [Cell.int IntKind.i64 n13] (fun l14 => fun h15 => 
          x5 ((l14, IntKind.i64.wrap (n7 + 1))) h15)) h12) h10)) h8)
        (fun h16 =>
        I 18 [V.one (Cell.ptr p0), V.one (Cell.int IntKind.i64 15)]
          (fun cs17 => fun h18 => 
          ∃ b19 : Bool, (cs17 = [V.one (Cell.bool b19)]) ∧
          (ifT b19
            (fun h20 =>
            (newK (YtohdelegimcceaaVc.Obj.cells false [Cell.int IntKind.i64 (-1), Cell.int IntKind.i64 1000001]) (fun i21 => fun h22 =>
            I 5 [V.one (Cell.ptr p0), V.one (Cell.slice 1 { a := some (i21, 0), len := 2 })]
              (fun cs23 => fun h24 => 
              ∃ n25 : Int, (cs23 = [V.one (Cell.int IntKind.i64 n25)]) ∧
              (appendTo [] 1 8 l6 1 [Cell.int IntKind.i64 n25] (fun l26 => fun h27 => 
              Q [V.one (Cell.slice 1 l26)] h27)) h24) h22)) h20)
            (Q [V.one (Cell.slice 1 l6)])) h18) h16))) h3) h1
theorem den10 (I : FuncId → List V → Post → T) (p0 : Option (Nat × Nat)) (Q : Post) : denF Go.Proofs.Try.prog 0 (⟨[], [(58, 32712, [(3, tk Go.Proofs.Try.prog 22), (6, tk Go.Proofs.Try.prog 3)])]⟩) I 10 [V.one (Cell.ptr p0)] Q = vc10 I p0 Q := by kernel_rfl
def vc11 (I : FuncId → List V → Post → T) (l0 : Sl) (Q : Post) : T :=
  fun h1 =>
  I 23 [V.one (Cell.slice 1 l0)]
    (fun cs2 => fun h3 => 
    ∃ n4 : Int, (cs2 = [V.one (Cell.int IntKind.i64 n4)]) ∧
    (ifT (!decide (n4 = 0))
      (Q [V.one (Cell.slice 2 { a := none, len := 0 }), V.one (Cell.int IntKind.i64 n4)])
      (fun h5 =>
      I 24 [V.one (Cell.slice 1 l0)]
        (fun cs6 => fun h7 => 
        ∃ n8 : Int, (cs6 = [V.one (Cell.int IntKind.i64 n8)]) ∧
        (loopK (A := Sl × Int) (({ a := none, len := 0 }, 0))
          (fun x9 => uncur fun l10 n11 => ifT (decide (n11 < (↑l0.len : Int)))
            (fun h12 =>
            ((0 ≤ n11) ∧
            n11 < (↑l0.len : Int)) ∧
            (derefK l0.a (fun i13 => fun i14 => fun h15 =>
            ∃ n16 : Int, (h15.read i13 (i14 + n11.toNat * 1) 1 = some [Cell.int IntKind.i64 n16]) ∧
            I 25 [V.one (Cell.int IntKind.i64 n16), V.one (Cell.int IntKind.i64 n8)]
              (fun cs17 => fun h18 => 
              ∃ n19 : Int, ∃ n20 : Int, (cs17 = [V.agg [Cell.int IntKind.i64 n19, Cell.int IntKind.i64 n20]]) ∧
              (appendTo [] 2 16 l10 1 [Cell.int IntKind.i64 n19, Cell.int IntKind.i64 n20] (fun l21 => fun h22 => 
              x9 ((l21, IntKind.i64.wrap (n11 + 1))) h22)) h18) h15)) h12)
            (Q [V.one (Cell.slice 2 l10), V.one (Cell.int IntKind.i64 0)]))) h7) h5)) h3) h1
theorem den11 (I : FuncId → List V → Post → T) (l0 : Sl) (Q : Post) : denF Go.Proofs.Try.prog 0 (⟨[], [(250, 536609088, [(6, tk Go.Proofs.Try.prog 34), (18, tk Go.Proofs.Try.prog 3)])]⟩) I 11 [V.one (Cell.slice 1 l0)] Q = vc11 I l0 Q := by kernel_rfl
def vc23 (I : FuncId → List V → Post → T) (l0 : Sl) (Q : Post) : T :=
  ifT (decide ((↑l0.len : Int) > 12))
    (Q [V.one (Cell.int IntKind.i64 2)])
    (loopK (A := Int) 0
      (fun x1 => fun n2 => ifT (decide (n2 < (↑l0.len : Int)))
        (fun h3 =>
        ((0 ≤ n2) ∧
        n2 < (↑l0.len : Int)) ∧
        (derefK l0.a (fun i4 => fun i5 => fun h6 =>
        ∃ n7 : Int, (h6.read i4 (i5 + n2.toNat * 1) 1 = some [Cell.int IntKind.i64 n7]) ∧
        I 20 [V.one (Cell.int IntKind.i64 n7), V.one (Cell.int IntKind.i64 0), V.one (Cell.int IntKind.i64 1000000)]
          (fun cs8 => fun h9 => 
          ∃ b10 : Bool, (cs8 = [V.one (Cell.bool b10)]) ∧
          (ifT (!b10)
            (Q [V.one (Cell.int IntKind.i64 1)])
            (x1 (IntKind.i64.wrap (n2 + 1)))) h9) h6)) h3)
        (fun h11 =>
        I 24 [V.one (Cell.slice 1 l0)]
          (fun cs12 => fun h13 => 
          ∃ n14 : Int, (cs12 = [V.one (Cell.int IntKind.i64 n14)]) ∧
          (ifT (decide (n14 = 0))
            (Q [V.one (Cell.int IntKind.i64 8)])
            (Q [V.one (Cell.int IntKind.i64 0)])) h13) h11)))
theorem den23 (I : FuncId → List V → Post → T) (l0 : Sl) (Q : Post) : denF Go.Proofs.Try.prog 0 (⟨[], [(58, 261140, [(10, tk Go.Proofs.Try.prog 3)])]⟩) I 23 [V.one (Cell.slice 1 l0)] Q = vc23 I l0 Q := by kernel_rfl
def vc24 (I : FuncId → List V → Post → T) (l0 : Sl) (Q : Post) : T :=
  loopK (A := Int × Int) ((0, 0))
    (fun x1 => uncur fun n2 n3 => ifT (decide (n3 < (↑l0.len : Int)))
      (fun h4 =>
      ((0 ≤ n3) ∧
      n3 < (↑l0.len : Int)) ∧
      (derefK l0.a (fun i5 => fun i6 => fun h7 =>
      ∃ n8 : Int, (h7.read i5 (i6 + n3.toNat * 1) 1 = some [Cell.int IntKind.i64 n8]) ∧
      x1 ((IntKind.i64.wrap (n2 + n8), IntKind.i64.wrap (n3 + 1))) h7)) h4)
      (Q [V.one (Cell.int IntKind.i64 n2)]))
theorem den24 (I : FuncId → List V → Post → T) (l0 : Sl) (Q : Post) : denF Go.Proofs.Try.prog 0 (⟨[], [(58, 65320, [(3, tk Go.Proofs.Try.prog 3), (8, tk Go.Proofs.Try.prog 3)])]⟩) I 24 [V.one (Cell.slice 1 l0)] Q = vc24 I l0 Q := by kernel_rfl
def vc25 (I : FuncId → List V → Post → T) (n0 : Int) (n1 : Int) (Q : Post) : T :=
  joinK (A := Int × Int)
    (uncur fun n2 n3 => fun h4 => 
    I 35 [V.one (Cell.int IntKind.i64 n2)]
      (fun cs5 => fun h6 => 
      ∃ n7 : Int, (cs5 = [V.one (Cell.int IntKind.u64 n7)]) ∧
      I 35 [V.one (Cell.int IntKind.i64 n3)]
        (fun cs8 => fun h9 => 
        ∃ n10 : Int, (cs8 = [V.one (Cell.int IntKind.u64 n10)]) ∧
        I 34 [V.one (Cell.int IntKind.u64 n7), V.one (Cell.int IntKind.u64 n10)]
          (fun cs11 => fun h12 => 
          ∃ n13 : Int, (cs11 = [V.one (Cell.int IntKind.u64 n13)]) ∧
          (IntKind.i64.wrap n13 ≠ 0) ∧
          (IntKind.i64.wrap n13 ≠ 0) ∧
          Q [V.agg [Cell.int IntKind.i64 (IntKind.i64.wrap (n2.tdiv (IntKind.i64.wrap n13))), Cell.int IntKind.i64 (IntKind.i64.wrap (n3.tdiv (IntKind.i64.wrap n13)))]] h12) h9) h6) h4)
    (fun x14 => ifT (decide (n1 < 0))
      (x14 ((IntKind.i64.wrap (0 - n0), IntKind.i64.wrap (0 - n1))))
      (x14 ((n0, n1))))
theorem den25 (I : FuncId → List V → Post → T) (n0 : Int) (n1 : Int) (Q : Post) : denF Go.Proofs.Try.prog 16 (⟨[(13, 3843, [(0, tk Go.Proofs.Try.prog 3), (1, tk Go.Proofs.Try.prog 3)])], []⟩) I 25 [V.one (Cell.int IntKind.i64 n0), V.one (Cell.int IntKind.i64 n1)] Q = vc25 I n0 n1 Q := by kernel_rfl
def vc34 (I : FuncId → List V → Post → T) (n0 : Int) (n1 : Int) (Q : Post) : T :=
  loopK (A := Int × Int) ((n0, n1))
    (fun x2 => uncur fun n3 n4 => ifT (!decide (n4 = 0))
      (fun h5 =>
      (n4 ≠ 0) ∧
      x2 ((n4, n3.tmod n4)) h5)
      (Q [V.one (Cell.int IntKind.u64 n3)]))
theorem den34 (I : FuncId → List V → Post → T) (n0 : Int) (n1 : Int) (Q : Post) : denF Go.Proofs.Try.prog 0 (⟨[], [(12, 2019, [(0, tk Go.Proofs.Try.prog 56), (1, tk Go.Proofs.Try.prog 56)])]⟩) I 34 [V.one (Cell.int IntKind.u64 n0), V.one (Cell.int IntKind.u64 n1)] Q = vc34 I n0 n1 Q := by kernel_rfl
def vc35 (I : FuncId → List V → Post → T) (n0 : Int) (Q : Post) : T :=
  ifT (decide (n0 < 0))
    (Q [V.one (Cell.int IntKind.u64 (IntKind.u64.wrap (0 - IntKind.u64.wrap n0)))])
    (Q [V.one (Cell.int IntKind.u64 (IntKind.u64.wrap n0))])
theorem den35 (I : FuncId → List V → Post → T) (n0 : Int) (Q : Post) : denF Go.Proofs.Try.prog 0 (⟨[], []⟩) I 35 [V.one (Cell.int IntKind.i64 n0)] Q = vc35 I n0 Q := by kernel_rfl
def vc12 (I : FuncId → List V → Post → T) (l0 : Sl) (Q : Post) : T :=
  fun h1 =>
  I 26 [V.one (Cell.slice 1 l0)]
    (fun cs2 => fun h3 => 
    ∃ n4 : Int, (cs2 = [V.one (Cell.int IntKind.i64 n4)]) ∧
    (ifT (!decide (n4 = 0))
      (Q [V.one (Cell.slice 2 { a := none, len := 0 }), V.one (Cell.int IntKind.i64 n4)])
      (loopK (A := Sl × Int) (({ a := none, len := 0 }, 0))
        (fun x5 => uncur fun l6 n7 => ifT (decide (n7 < (↑l0.len : Int)))
          (fun h8 =>
          ((0 ≤ n7) ∧
          n7 < (↑l0.len : Int)) ∧
          (derefK l0.a (fun i9 => fun i10 => fun h11 =>
          ∃ n12 : Int, (h11.read i9 (i10 + n7.toNat * 1) 1 = some [Cell.int IntKind.i64 n12]) ∧
          I 28 [V.one (Cell.slice 1 l0)]
            (fun cs13 => fun h14 => 
            ∃ n15 : Int, (cs13 = [V.one (Cell.int IntKind.i64 n15)]) ∧
            I 27 [V.one (Cell.int IntKind.i64 n12), V.one (Cell.int IntKind.i64 n15)]
              (fun cs16 => fun h17 => 
              ∃ n18 : Int, ∃ n19 : Int, (cs16 = [V.agg [Cell.int IntKind.i64 n18, Cell.int IntKind.i64 n19]]) ∧
              (appendTo [] 2 16 l6 1 [Cell.int IntKind.i64 n18, Cell.int IntKind.i64 n19] (fun l20 => fun h21 => 
              x5 ((l20, IntKind.i64.wrap (n7 + 1))) h21)) h17) h14) h11)) h8)
          (Q [V.one (Cell.slice 2 l6), V.one (Cell.int IntKind.i64 0)])))) h3) h1
theorem den12 (I : FuncId → List V → Post → T) (l0 : Sl) (Q : Post) : denF Go.Proofs.Try.prog 0 (⟨[], [(122, 134185120, [(5, tk Go.Proofs.Try.prog 34), (15, tk Go.Proofs.Try.prog 3)])]⟩) I 12 [V.one (Cell.slice 1 l0)] Q = vc12 I l0 Q := by kernel_rfl
def vc26 (I : FuncId → List V → Post → T) (l0 : Sl) (Q : Post) : T :=
  ifT (decide ((↑l0.len : Int) > 12))
    (Q [V.one (Cell.int IntKind.i64 2)])
    (loopK (A := Int × Int) ((0, 0))
      (fun x1 => uncur fun n2 n3 => ifT (decide (n3 < (↑l0.len : Int)))
        (fun h4 =>
        ((0 ≤ n3) ∧
        n3 < (↑l0.len : Int)) ∧
        (derefK l0.a (fun i5 => fun i6 => fun h7 =>
        ∃ n8 : Int, (h7.read i5 (i6 + n3.toNat * 1) 1 = some [Cell.int IntKind.i64 n8]) ∧
        (ifT (decide (n8 < 0))
          (Q [V.one (Cell.int IntKind.i64 1)])
          (ifT (decide (n8 > 1000000))
            (Q [V.one (Cell.int IntKind.i64 1)])
            (x1 ((IntKind.i64.wrap (n2 + n8), IntKind.i64.wrap (n3 + 1)))))) h7)) h4)
        (ifT (decide (n2 = 0))
          (Q [V.one (Cell.int IntKind.i64 8)])
          (Q [V.one (Cell.int IntKind.i64 0)]))))
theorem den26 (I : FuncId → List V → Post → T) (l0 : Sl) (Q : Post) : denF Go.Proofs.Try.prog 0 (⟨[], [(122, 33552428, [(3, tk Go.Proofs.Try.prog 3), (11, tk Go.Proofs.Try.prog 3)])]⟩) I 26 [V.one (Cell.slice 1 l0)] Q = vc26 I l0 Q := by kernel_rfl
def vc27 (I : FuncId → List V → Post → T) (n0 : Int) (n1 : Int) (Q : Post) : T :=
  joinK (A := Int × Int)
    (uncur fun n2 n3 => fun h4 => 
    I 36 [V.one (Cell.int IntKind.i64 (max n2 (IntKind.i64.wrap (0 - n2)))), V.one (Cell.int IntKind.i64 n3)]
      (fun cs5 => fun h6 => 
      ∃ n7 : Int, (cs5 = [V.one (Cell.int IntKind.i64 n7)]) ∧
      (n7 ≠ 0) ∧
      (n7 ≠ 0) ∧
      Q [V.agg [Cell.int IntKind.i64 (IntKind.i64.wrap (n2.tdiv n7)), Cell.int IntKind.i64 (IntKind.i64.wrap (n3.tdiv n7))]] h6) h4)
    (fun x8 => ifT (decide (n1 < 0))
      (x8 ((IntKind.i64.wrap (0 - n0), IntKind.i64.wrap (0 - n1))))
      (x8 ((n0, n1))))
theorem den27 (I : FuncId → List V → Post → T) (n0 : Int) (n1 : Int) (Q : Post) : denF Go.Proofs.Try.prog 16 (⟨[(13, 3843, [(0, tk Go.Proofs.Try.prog 3), (1, tk Go.Proofs.Try.prog 3)])], []⟩) I 27 [V.one (Cell.int IntKind.i64 n0), V.one (Cell.int IntKind.i64 n1)] Q = vc27 I n0 n1 Q := by kernel_rfl
def vc36 (I : FuncId → List V → Post → T) (n0 : Int) (n1 : Int) (Q : Post) : T :=
  loopK (A := Int × Int) ((n0, n1))
    (fun x2 => uncur fun n3 n4 => ifT (!decide (n4 = 0))
      (fun h5 =>
      (n4 ≠ 0) ∧
      x2 ((n4, n3.tmod n4)) h5)
      (Q [V.one (Cell.int IntKind.i64 n3)]))
theorem den36 (I : FuncId → List V → Post → T) (n0 : Int) (n1 : Int) (Q : Post) : denF Go.Proofs.Try.prog 0 (⟨[], [(12, 2019, [(0, tk Go.Proofs.Try.prog 3), (1, tk Go.Proofs.Try.prog 3)])]⟩) I 36 [V.one (Cell.int IntKind.i64 n0), V.one (Cell.int IntKind.i64 n1)] Q = vc36 I n0 n1 Q := by kernel_rfl
def vc13 (I : FuncId → List V → Post → T) (l0 : Sl) (l1 : Sl) (Q : Post) : T :=
  ifT (!decide ((↑l0.len : Int) = (↑l1.len : Int)))
    (Q [V.one (Cell.bool false)])
    (loopK (A := Int) 0
      (fun x2 => fun n3 => ifT (decide (n3 < (↑l0.len : Int)))
        (fun h4 =>
        ((0 ≤ n3) ∧
        n3 < (↑l0.len : Int)) ∧
        (derefK l0.a (fun i5 => fun i6 => fun h7 =>
        ∃ n8 : Int, ∃ n9 : Int, (h7.read i5 (i6 + n3.toNat * 2) 2 = some [Cell.int IntKind.i64 n8, Cell.int IntKind.i64 n9]) ∧
        ((0 ≤ n3) ∧
        n3 < (↑l1.len : Int)) ∧
        (derefK l1.a (fun i10 => fun i11 => fun h12 =>
        ∃ n13 : Int, ∃ n14 : Int, (h12.read i10 (i11 + n3.toNat * 2) 2 = some [Cell.int IntKind.i64 n13, Cell.int IntKind.i64 n14]) ∧
        (ifT (!(decide (n8 = n13) && decide (n9 = n14)))
          (Q [V.one (Cell.bool false)])
          (x2 (IntKind.i64.wrap (n3 + 1)))) h12)) h7)) h4)
        (Q [V.one (Cell.bool true)])))
theorem den13 (I : FuncId → List V → Post → T) (l0 : Sl) (l1 : Sl) (Q : Post) : denF Go.Proofs.Try.prog 0 (⟨[], [(58, 67100720, [(13, tk Go.Proofs.Try.prog 3)])]⟩) I 13 [V.one (Cell.slice 2 l0), V.one (Cell.slice 2 l1)] Q = vc13 I l0 l1 Q := by kernel_rfl
def vc14 (I : FuncId → List V → Post → T) (n0 : Int) (l1 : Sl) (Q : Post) : T :=
  fun h2 =>
  I 20 [V.one (Cell.int IntKind.i64 n0), V.one (Cell.int IntKind.i64 0), V.one (Cell.int IntKind.i64 1000000000000)]
    (fun cs3 => fun h4 => 
    ∃ b5 : Bool, (cs3 = [V.one (Cell.bool b5)]) ∧
    (ifT (!b5)
      (Q [V.one (Cell.slice 1 { a := none, len := 0 }), V.one (Cell.int IntKind.i64 1)])
      (fun h6 =>
      I 23 [V.one (Cell.slice 1 l1)]
        (fun cs7 => fun h8 => 
        ∃ n9 : Int, (cs7 = [V.one (Cell.int IntKind.i64 n9)]) ∧
        (ifT (!decide (n9 = 0))
          (Q [V.one (Cell.slice 1 { a := none, len := 0 }), V.one (Cell.int IntKind.i64 n9)])
          (fun h10 =>
          I 29 [V.one (Cell.int IntKind.i64 n0), V.one (Cell.slice 1 l1)]
            (fun cs11 => fun h12 => 
            ∃ l13 : Sl, (cs11 = [V.one (Cell.slice 1 l13)]) ∧
            Q [V.one (Cell.slice 1 l13), V.one (Cell.int IntKind.i64 0)] h12) h10)) h8) h6)) h4) h2
theorem den14 (I : FuncId → List V → Post → T) (n0 : Int) (l1 : Sl) (Q : Post) : denF Go.Proofs.Try.prog 0 (⟨[], []⟩) I 14 [V.one (Cell.int IntKind.i64 n0), V.one (Cell.slice 1 l1)] Q = vc14 I n0 l1 Q := by kernel_rfl
def vc29 (I : FuncId → List V → Post → T) (n0 : Int) (l1 : Sl) (Q : Post) : T :=
  fun h2 =>
  (newK (YtohdelegimcceaaVc.Obj.cells false [Cell.int IntKind.i64 n0]) (fun i3 => fun h4 => 
  (newK (YtohdelegimcceaaVc.Obj.cells false [Cell.slice 1 l1]) (fun i5 => fun h6 =>
  ∃ l7 : Sl, (h6.read i5 0 1 = some [Cell.slice 1 l7]) ∧
  I 24 [V.one (Cell.slice 1 l7)]
    (fun cs8 => fun h9 => 
    ∃ n10 : Int, (cs8 = [V.one (Cell.int IntKind.i64 n10)]) ∧
    (newK (YtohdelegimcceaaVc.Obj.cells false [Cell.int IntKind.i64 0]) (fun i11 => fun h12 => 
    (storeK [] i11 0 [Cell.int IntKind.i64 n10] (fun h13 =>
    ∃ n14 : Int, (h13.read i3 0 1 = some [Cell.int IntKind.i64 n14]) ∧
    ∃ l15 : Sl, (h13.read i5 0 1 = some [Cell.slice 1 l15]) ∧
    (loopK (A := Int × Sl × Sl × Int) ((n14, { a := none, len := 0 }, { a := none, len := 0 }, 0))
      (fun x16 => uncur fun n17 => uncur fun l18 => uncur fun l19 n20 => ifT (decide (n20 < (↑l15.len : Int)))
        (fun h21 =>
        ((0 ≤ n20) ∧
        n20 < (↑l15.len : Int)) ∧
        (derefK l15.a (fun i22 => fun i23 => fun h24 =>
        ∃ n25 : Int, (h24.read i22 (i23 + n20.toNat * 1) 1 = some [Cell.int IntKind.i64 n25]) ∧
        ∃ n26 : Int, (h24.read i3 0 1 = some [Cell.int IntKind.i64 n26]) ∧
        ∃ n27 : Int, (h24.read i11 0 1 = some [Cell.int IntKind.i64 n27]) ∧
        (n27 ≠ 0) ∧
        (appendTo [] 1 8 l18 1 [Cell.int IntKind.i64 (IntKind.i64.wrap ((IntKind.i64.wrap (n26 * n25)).tdiv n27))] (fun l28 => fun h29 => 
        (appendTo [] 1 8 l19 1 [Cell.int IntKind.i64 n20] (fun l30 => fun h31 => 
        ((0 ≤ n20) ∧
        n20 < (↑l28.len : Int)) ∧
        (derefK l28.a (fun i32 => fun i33 => fun h34 =>
        ∃ n35 : Int, (h34.read i32 (i33 + n20.toNat * 1) 1 = some [Cell.int IntKind.i64 n35]) ∧
        x16 ((IntKind.i64.wrap (n17 - n35), l28, l30, IntKind.i64.wrap (n20 + 1))) h34)) h31)) h29)) h24)) h21)
        (fun h36 =>
        I 37 [V.one (Cell.slice 1 l19), V.one (Cell.func (some (38, [(i3, 0), (i5, 0), (i11, 0)])))]
          (fun cs37 => fun h38 => 
          (cs37 = []) ∧
          (((0 : Int) ≤ (0 : Int)) ∧
          (0 ≤ n17) ∧
          n17 ≤ (↑l19.len : Int)) ∧
          (loopK (A := Int) 0
            (fun x39 => fun n40 => ifT (decide (n40 < (↑(l19.sub 1 0 n17.toNat).len : Int)))
              (fun h41 =>
              ((0 ≤ n40) ∧
              n40 < (↑(l19.sub 1 0 n17.toNat).len : Int)) ∧
              (derefK ((l19.sub 1 0 n17.toNat).a) (fun i42 => fun i43 => fun h44 =>
              ∃ n45 : Int, (h44.read i42 (i43 + n40.toNat * 1) 1 = some [Cell.int IntKind.i64 n45]) ∧
              ((0 ≤ n45) ∧
              n45 < (↑l18.len : Int)) ∧
              (derefK l18.a (fun i46 => fun i47 => fun h48 =>
              ∃ n49 : Int, (h48.read i46 (i47 + n45.toNat * 1) 1 = some [Cell.int IntKind.i64 n49]) ∧
              ((0 ≤ n45) ∧
              n45 < (↑l18.len : Int)) ∧
              (derefK l18.a (fun i50 => fun i51 => fun h52 => 
              (storeK [] i50 (i51 + n45.toNat * 1) [Cell.int IntKind.i64 (IntKind.i64.wrap (n49 + 1))] (x39 (IntKind.i64.wrap (n40 + 1)))) h52)) h48)) h44)) h41)
              (Q [V.one (Cell.slice 1 l18)]))) h38) h36))) h13)) h12)) h9) h6)) h4)) h2
theorem den29 (I : FuncId → List V → Post → T) (n0 : Int) (l1 : Sl) (Q : Post) : denF Go.Proofs.Try.prog 0 (⟨[], [(250, 4398046250944, [(6, tk Go.Proofs.Try.prog 3), (7, tk Go.Proofs.Try.prog 22), (8, tk Go.Proofs.Try.prog 22), (18, tk Go.Proofs.Try.prog 3)]), (1018, 1152358554653429760, [(49, tk Go.Proofs.Try.prog 3)])]⟩) I 29 [V.one (Cell.int IntKind.i64 n0), V.one (Cell.slice 1 l1)] Q = vc29 I n0 l1 Q := by kernel_rfl
def vc37 (I : FuncId → List V → Post → T) (l0 : Sl) (p1 : Option (Nat × List (Nat × Nat))) (Q : Post) : T :=
  fun h2 =>
  I 44 [V.one (Cell.int IntKind.u64 (IntKind.u64.wrap (↑l0.len : Int)))]
    (fun cs3 => fun h4 => 
    ∃ n5 : Int, (cs3 = [V.one (Cell.int IntKind.i64 n5)]) ∧
    I 43 [V.one (Cell.slice 1 l0), V.one (Cell.int IntKind.i64 0), V.one (Cell.int IntKind.i64 (↑l0.len : Int)), V.one (Cell.int IntKind.i64 n5), V.one (Cell.func p1)]
      (fun cs6 => fun h7 => 
      (cs6 = []) ∧
      Q [] h7) h4) h2
theorem den37 (I : FuncId → List V → Post → T) (l0 : Sl) (p1 : Option (Nat × List (Nat × Nat))) (Q : Post) : denF Go.Proofs.Try.prog 0 (⟨[], []⟩) I 37 [V.one (Cell.slice 1 l0), V.one (Cell.func p1)] Q = vc37 I l0 p1 Q := by kernel_rfl
def vc43 (I : FuncId → List V → Post → T) (l0 : Sl) (n1 : Int) (n2 : Int) (n3 : Int) (p4 : Option (Nat × List (Nat × Nat))) (Q : Post) : T :=
  loopK (A := Int × Int × Int × Bool × Bool) ((n1, n2, n3, true, true))
    (fun x5 => uncur fun n6 => uncur fun n7 => uncur fun n8 => uncur fun b9 b10 => ifT (decide (IntKind.i64.wrap (n7 - n6) ≤ 12))
      (fun h11 =>
      I 47 [V.one (Cell.slice 1 l0), V.one (Cell.int IntKind.i64 n6), V.one (Cell.int IntKind.i64 n7), V.one (Cell.func p4)]
        (fun cs12 => fun h13 => 
        (cs12 = []) ∧
        Q [] h13) h11)
      (ifT (decide (n8 = 0))
        (fun h14 =>
        I 48 [V.one (Cell.slice 1 l0), V.one (Cell.int IntKind.i64 n6), V.one (Cell.int IntKind.i64 n7), V.one (Cell.func p4)]
          (fun cs15 => fun h16 => 
          (cs15 = []) ∧
          Q [] h16) h14)
        (joinK (A := Int)
          (fun n17 => fun h18 => 
          I 50 [V.one (Cell.slice 1 l0), V.one (Cell.int IntKind.i64 n6), V.one (Cell.int IntKind.i64 n7), V.one (Cell.func p4)]
            (fun cs19 => fun h20 => 
            ∃ n21 : Int, ∃ n22 : Int, (cs19 = [V.one (Cell.int IntKind.i64 n21), V.one (Cell.int IntKind.i64 n22)]) ∧
            (joinK (A := Int × Int)
              (uncur fun n23 n24 => joinK (A := Bool)
                (fun b25 => joinK (A := PUnit)
                  (fun x26 => joinK (A := Bool)
                    (fun b27 => ifT b27
                      (fun h28 =>
                      I 53 [V.one (Cell.slice 1 l0), V.one (Cell.int IntKind.i64 n6), V.one (Cell.int IntKind.i64 n7), V.one (Cell.int IntKind.i64 n23), V.one (Cell.func p4)]
                        (fun cs29 => fun h30 => 
                        ∃ n31 : Int, (cs29 = [V.one (Cell.int IntKind.i64 n31)]) ∧
                        x5 ((n31, n7, n17, b9, b10)) h30) h28)
                      (fun h32 =>
                      I 54 [V.one (Cell.slice 1 l0), V.one (Cell.int IntKind.i64 n6), V.one (Cell.int IntKind.i64 n7), V.one (Cell.int IntKind.i64 n23), V.one (Cell.func p4)]
                        (fun cs33 => fun h34 => 
                        ∃ n35 : Int, ∃ b36 : Bool, (cs33 = [V.one (Cell.int IntKind.i64 n35), V.one (Cell.bool b36)]) ∧
                        (ifT (decide (IntKind.i64.wrap (n35 - n6) < IntKind.i64.wrap (n7 - n35)))
                          (fun h37 =>
                          I 43 [V.one (Cell.slice 1 l0), V.one (Cell.int IntKind.i64 n6), V.one (Cell.int IntKind.i64 n35), V.one (Cell.int IntKind.i64 n17), V.one (Cell.func p4)]
                            (fun cs38 => fun h39 => 
                            (cs38 = []) ∧
                            x5 ((IntKind.i64.wrap (n35 + 1), n7, n17, decide (IntKind.i64.wrap (n35 - n6) ≥ IntKind.i64.wrap ((IntKind.i64.wrap (n7 - n6)).tdiv 8)), b36)) h39) h37)
                          (fun h40 =>
                          I 43 [V.one (Cell.slice 1 l0), V.one (Cell.int IntKind.i64 (IntKind.i64.wrap (n35 + 1))), V.one (Cell.int IntKind.i64 n7), V.one (Cell.int IntKind.i64 n17), V.one (Cell.func p4)]
                            (fun cs41 => fun h42 => 
                            (cs41 = []) ∧
                            x5 ((n6, n35, n17, decide (IntKind.i64.wrap (n7 - n35) ≥ IntKind.i64.wrap ((IntKind.i64.wrap (n7 - n6)).tdiv 8)), b36)) h42) h40)) h34) h32))
                    (fun x43 => ifT (decide (n6 > 0))
                      (fun h44 =>
                      ((0 ≤ IntKind.i64.wrap (n6 - 1)) ∧
                      IntKind.i64.wrap (n6 - 1) < (↑l0.len : Int)) ∧
                      (derefK l0.a (fun i45 => fun i46 => fun h47 =>
                      ∃ n48 : Int, (h47.read i45 (i46 + (IntKind.i64.wrap (n6 - 1)).toNat * 1) 1 = some [Cell.int IntKind.i64 n48]) ∧
                      ((0 ≤ n23) ∧
                      n23 < (↑l0.len : Int)) ∧
                      (derefK l0.a (fun i49 => fun i50 => fun h51 =>
                      ∃ n52 : Int, (h51.read i49 (i50 + n23.toNat * 1) 1 = some [Cell.int IntKind.i64 n52]) ∧
                      (funK p4 (fun i53 => fun cs54 => fun h55 => 
                      I i53 (V.one (Cell.int IntKind.i64 n48) :: V.one (Cell.int IntKind.i64 n52) :: cs54)
                        (fun cs56 => fun h57 => 
                        ∃ n58 : Int, (cs56 = [V.one (Cell.int IntKind.i64 n58)]) ∧
                        x43 (!decide (n58 < 0)) h57) h55)) h51)) h47)) h44)
                      (x43 false)))
                  (fun x59 => ifT b25
                    (fun h60 =>
                    I 52 [V.one (Cell.slice 1 l0), V.one (Cell.int IntKind.i64 n6), V.one (Cell.int IntKind.i64 n7), V.one (Cell.func p4)]
                      (fun cs61 => fun h62 => 
                      ∃ b63 : Bool, (cs61 = [V.one (Cell.bool b63)]) ∧
                      (ifT b63
                        (Q [])
                        (x59 ())) h62) h60)
                    (x59 ())))
                (fun x64 => ifT b9
                  (ifT b10
                    (x64 (decide (n24 = 1)))
                    (x64 false))
                  (x64 false)))
              (fun x65 => ifT (decide (n22 = 2))
                (fun h66 =>
                I 51 [V.one (Cell.slice 1 l0), V.one (Cell.int IntKind.i64 n6), V.one (Cell.int IntKind.i64 n7), V.one (Cell.func p4)]
                  (fun cs67 => fun h68 => 
                  (cs67 = []) ∧
                  x65 ((IntKind.i64.wrap (IntKind.i64.wrap (n7 - 1) - IntKind.i64.wrap (n21 - n6)), 1)) h68) h66)
                (x65 ((n21, n22))))) h20) h18)
          (fun x69 => ifT (!b9)
            (fun h70 =>
            I 49 [V.one (Cell.slice 1 l0), V.one (Cell.int IntKind.i64 n6), V.one (Cell.int IntKind.i64 n7), V.one (Cell.func p4)]
              (fun cs71 => fun h72 => 
              (cs71 = []) ∧
              x69 (IntKind.i64.wrap (n8 - 1)) h72) h70)
            (x69 n8)))))
theorem den43 (I : FuncId → List V → Post → T) (l0 : Sl) (n1 : Int) (n2 : Int) (n3 : Int) (p4 : Option (Nat × List (Nat × Nat))) (Q : Post) : denF Go.Proofs.Try.prog 0 (⟨[(1821, 139637976727560, [(3, tk Go.Proofs.Try.prog 3)]), (7293, 295003789991276994560, [(13, tk Go.Proofs.Try.prog 3), (14, tk Go.Proofs.Try.prog 72)]), (14588, 75262715820734970593280, [(75, tk Go.Proofs.Try.prog 4)]), (14589, 2342293775503344025993216, []), (29180, 316910232205418121115826388992, [(97, tk Go.Proofs.Try.prog 4)])], [(14, 356811923176489970264571492362373784095685646, [(1, tk Go.Proofs.Try.prog 3), (2, tk Go.Proofs.Try.prog 3), (3, tk Go.Proofs.Try.prog 3), (10, tk Go.Proofs.Try.prog 4), (11, tk Go.Proofs.Try.prog 4)])]⟩) I 43 [V.one (Cell.slice 1 l0), V.one (Cell.int IntKind.i64 n1), V.one (Cell.int IntKind.i64 n2), V.one (Cell.int IntKind.i64 n3), V.one (Cell.func p4)] Q = vc43 I l0 n1 n2 n3 p4 Q := by kernel_rfl
def vc44 (I : FuncId → List V → Post → T) (n0 : Int) (Q : Post) : T :=
  fun h1 =>
  I 56 [V.one (Cell.int IntKind.u64 n0)]
    (fun cs2 => fun h3 => 
    ∃ n4 : Int, (cs2 = [V.one (Cell.int IntKind.i64 n4)]) ∧
    Q [V.one (Cell.int IntKind.i64 n4)] h3) h1
theorem den44 (I : FuncId → List V → Post → T) (n0 : Int) (Q : Post) : denF Go.Proofs.Try.prog 0 (⟨[], []⟩) I 44 [V.one (Cell.int IntKind.u64 n0)] Q = vc44 I n0 Q := by kernel_rfl
def vc15 (I : FuncId → List V → Post → T) (n0 : Int) (l1 : Sl) (Q : Post) : T :=
  joinK (A := Bool)
    (fun b2 => ifT b2
      (Q [V.one (Cell.slice 1 { a := none, len := 0 }), V.one (Cell.int IntKind.i64 1)])
      (fun h3 =>
      I 26 [V.one (Cell.slice 1 l1)]
        (fun cs4 => fun h5 => 
        ∃ n6 : Int, (cs4 = [V.one (Cell.int IntKind.i64 n6)]) ∧
        (ifT (!decide (n6 = 0))
          (Q [V.one (Cell.slice 1 { a := none, len := 0 }), V.one (Cell.int IntKind.i64 n6)])
          (fun h7 =>
          I 30 [V.one (Cell.int IntKind.i64 n0), V.one (Cell.slice 1 l1), V.one (Cell.bool true)]
            (fun cs8 => fun h9 => 
            ∃ l10 : Sl, (cs8 = [V.one (Cell.slice 1 l10)]) ∧
            Q [V.one (Cell.slice 1 l10), V.one (Cell.int IntKind.i64 0)] h9) h7)) h5) h3))
    (fun x11 => ifT (decide (n0 < 0))
      (x11 true)
      (x11 (decide (n0 > 1000000000000))))
theorem den15 (I : FuncId → List V → Post → T) (n0 : Int) (l1 : Sl) (Q : Post) : denF Go.Proofs.Try.prog 0 (⟨[(12, 8064, [(12, tk Go.Proofs.Try.prog 4)])], []⟩) I 15 [V.one (Cell.int IntKind.i64 n0), V.one (Cell.slice 1 l1)] Q = vc15 I n0 l1 Q := by kernel_rfl
def vc16 (I : FuncId → List V → Post → T) (Q : Post) : T :=
  fun h0 =>
  I 31 [V.one (Cell.int IntKind.i64 2), V.one (Cell.int IntKind.i64 4)]
    (fun cs1 => fun h2 => 
    ∃ n3 : Int, ∃ n4 : Int, ∃ n5 : Int, (cs1 = [V.agg [Cell.int IntKind.i64 n3, Cell.int IntKind.i64 n4], V.one (Cell.int IntKind.i64 n5)]) ∧
    (ifT (decide (n5 = 0))
      (Q [V.one (Cell.bool (decide (n3 = 1) && decide (n4 = 2)))])
      (Q [V.one (Cell.bool false)])) h2) h0
theorem den16 (I : FuncId → List V → Post → T) (Q : Post) : denF Go.Proofs.Try.prog 2 (⟨[], []⟩) I 16 [] Q = vc16 I Q := by kernel_rfl
def vc31 (I : FuncId → List V → Post → T) (n0 : Int) (n1 : Int) (Q : Post) : T :=
  joinK (A := Bool)
    (fun b2 => ifT b2
      (fun h3 =>
      Q [V.agg [Cell.int IntKind.i64 0, Cell.int IntKind.i64 0], V.one (Cell.int IntKind.i64 1)] h3)
      (ifT (decide (n1 = 0))
        (fun h4 =>
        Q [V.agg [Cell.int IntKind.i64 0, Cell.int IntKind.i64 0], V.one (Cell.int IntKind.i64 8)] h4)
        (fun h5 =>
        I 25 [V.one (Cell.int IntKind.i64 n0), V.one (Cell.int IntKind.i64 n1)]
          (fun cs6 => fun h7 => 
          ∃ n8 : Int, ∃ n9 : Int, (cs6 = [V.agg [Cell.int IntKind.i64 n8, Cell.int IntKind.i64 n9]]) ∧
          Q [V.agg [Cell.int IntKind.i64 n8, Cell.int IntKind.i64 n9], V.one (Cell.int IntKind.i64 0)] h7) h5)))
    (fun x10 => fun h11 => 
    I 20 [V.one (Cell.int IntKind.i64 n0), V.one (Cell.int IntKind.i64 (-4611686018427387904)), V.one (Cell.int IntKind.i64 4611686018427387904)]
      (fun cs12 => fun h13 => 
      ∃ b14 : Bool, (cs12 = [V.one (Cell.bool b14)]) ∧
      (ifT (!b14)
        (x10 true)
        (fun h15 =>
        I 20 [V.one (Cell.int IntKind.i64 n1), V.one (Cell.int IntKind.i64 (-4611686018427387904)), V.one (Cell.int IntKind.i64 4611686018427387904)]
          (fun cs16 => fun h17 => 
          ∃ b18 : Bool, (cs16 = [V.one (Cell.bool b18)]) ∧
          x10 (!b18) h17) h15)) h13) h11)
theorem den31 (I : FuncId → List V → Post → T) (n0 : Int) (n1 : Int) (Q : Post) : denF Go.Proofs.Try.prog 16 (⟨[(24, 32704, [(6, tk Go.Proofs.Try.prog 4)])], []⟩) I 31 [V.one (Cell.int IntKind.i64 n0), V.one (Cell.int IntKind.i64 n1)] Q = vc31 I n0 n1 Q := by kernel_rfl
def vc3 (I : FuncId → List V → Post → T) (l0 : Sl) (Q : Post) : T :=
  fun h1 =>
  (newK (YtohdelegimcceaaVc.Obj.cells false [Cell.slice 1 l0, Cell.int IntKind.i64 0]) (fun i2 => fun h3 => 
  I 4 [V.one (Cell.ptr (some (i2, 0))), V.one (Cell.int IntKind.i64 0), V.one (Cell.int IntKind.i64 7)]
    (fun cs4 => fun h5 => 
    ∃ n6 : Int, (cs4 = [V.one (Cell.int IntKind.i64 n6)]) ∧
    (newK (YtohdelegimcceaaVc.Obj.cells false [Cell.int IntKind.i64 1, Cell.int IntKind.i64 18, Cell.int IntKind.i64 19, Cell.int IntKind.i64 100, Cell.int IntKind.i64 1000, Cell.int IntKind.i64 4321440, Cell.int IntKind.i64 0]) (fun i7 => fun h8 =>
    I 5 [V.one (Cell.ptr (some (i2, 0))), V.one (Cell.slice 1 { a := some (i7, 0), len := 7 })]
      (fun cs9 => fun h10 => 
      ∃ n11 : Int, (cs9 = [V.one (Cell.int IntKind.i64 n11)]) ∧
      I 6 [V.one (Cell.ptr (some (i2, 0))), V.one (Cell.int IntKind.i64 (max n11 1))]
        (fun cs12 => fun h13 => 
        ∃ l14 : Sl, (cs12 = [V.one (Cell.slice 1 l14)]) ∧
        I 7 [V.one (Cell.int IntKind.i64 n6), V.one (Cell.int IntKind.i64 n11), V.one (Cell.slice 1 l14)]
          (fun cs15 => fun h16 => 
          ∃ l17 : Sl, ∃ n18 : Int, (cs15 = [V.one (Cell.slice 1 l17), V.one (Cell.int IntKind.i64 n18)]) ∧
          I 8 [V.one (Cell.int IntKind.i64 n6), V.one (Cell.int IntKind.i64 n11), V.one (Cell.slice 1 l14)]
            (fun cs19 => fun h20 => 
            ∃ l21 : Sl, ∃ n22 : Int, (cs19 = [V.one (Cell.slice 1 l21), V.one (Cell.int IntKind.i64 n22)]) ∧
            (joinK (A := Bool)
              (fun b23 => ifT b23
                (Q [V.one (Cell.bool false)])
                (fun h24 =>
                I 10 [V.one (Cell.ptr (some (i2, 0)))]
                  (fun cs25 => fun h26 => 
                  ∃ l27 : Sl, (cs25 = [V.one (Cell.slice 1 l27)]) ∧
                  I 11 [V.one (Cell.slice 1 l27)]
                    (fun cs28 => fun h29 => 
                    ∃ l30 : Sl, ∃ n31 : Int, (cs28 = [V.one (Cell.slice 2 l30), V.one (Cell.int IntKind.i64 n31)]) ∧
                    I 12 [V.one (Cell.slice 1 l27)]
                      (fun cs32 => fun h33 => 
                      ∃ l34 : Sl, ∃ n35 : Int, (cs32 = [V.one (Cell.slice 2 l34), V.one (Cell.int IntKind.i64 n35)]) ∧
                      (joinK (A := Bool)
                        (fun b36 => ifT b36
                          (Q [V.one (Cell.bool false)])
                          (fun h37 =>
                          (newK (YtohdelegimcceaaVc.Obj.cells false [Cell.int IntKind.i64 0, Cell.int IntKind.i64 1, Cell.int IntKind.i64 7, Cell.int IntKind.i64 100, Cell.int IntKind.i64 99999, Cell.int IntKind.i64 1000000000000, Cell.int IntKind.i64 (-1), Cell.int IntKind.i64 1000000000001]) (fun i38 => fun h39 =>
                          I 5 [V.one (Cell.ptr (some (i2, 0))), V.one (Cell.slice 1 { a := some (i38, 0), len := 8 })]
                            (fun cs40 => fun h41 => 
                            ∃ n42 : Int, (cs40 = [V.one (Cell.int IntKind.i64 n42)]) ∧
                            I 14 [V.one (Cell.int IntKind.i64 n42), V.one (Cell.slice 1 l27)]
                              (fun cs43 => fun h44 => 
                              ∃ l45 : Sl, ∃ n46 : Int, (cs43 = [V.one (Cell.slice 1 l45), V.one (Cell.int IntKind.i64 n46)]) ∧
                              I 15 [V.one (Cell.int IntKind.i64 n42), V.one (Cell.slice 1 l27)]
                                (fun cs47 => fun h48 => 
                                ∃ l49 : Sl, ∃ n50 : Int, (cs47 = [V.one (Cell.slice 1 l49), V.one (Cell.int IntKind.i64 n50)]) ∧
                                I 16 []
                                  (fun cs51 => fun h52 => 
                                  ∃ b53 : Bool, (cs51 = [V.one (Cell.bool b53)]) ∧
                                  (ifT b53
                                    (ifT (decide (n46 = n50))
                                      (fun h54 =>
                                      I 9 [V.one (Cell.slice 1 l45), V.one (Cell.slice 1 l49)]
                                        (fun cs55 => fun h56 => 
                                        ∃ b57 : Bool, (cs55 = [V.one (Cell.bool b57)]) ∧
                                        Q [V.one (Cell.bool b57)] h56) h54)
                                      (Q [V.one (Cell.bool false)]))
                                    (Q [V.one (Cell.bool false)])) h52) h48) h44) h41) h39)) h37))
                        (fun x58 => ifT (!decide (n31 = n35))
                          (x58 true)
                          (fun h59 =>
                          I 13 [V.one (Cell.slice 2 l30), V.one (Cell.slice 2 l34)]
                            (fun cs60 => fun h61 => 
                            ∃ b62 : Bool, (cs60 = [V.one (Cell.bool b62)]) ∧
                            x58 (!b62) h61) h59))) h33) h29) h26) h24))
              (fun x63 => ifT (!decide (n18 = n22))
                (x63 true)
                (fun h64 =>
                I 9 [V.one (Cell.slice 1 l17), V.one (Cell.slice 1 l21)]
                  (fun cs65 => fun h66 => 
                  ∃ b67 : Bool, (cs65 = [V.one (Cell.bool b67)]) ∧
                  x63 (!b67) h66) h64))) h20) h16) h13) h10) h8)) h5) h3)) h1
theorem den3 (I : FuncId → List V → Post → T) (l0 : Sl) (Q : Post) : denF Go.Proofs.Try.prog 0 (⟨[(508, 71916856549572608, [(55, tk Go.Proofs.Try.prog 4)]), (8188, 150820579546649294012416, [(76, tk Go.Proofs.Try.prog 4)])], []⟩) I 3 [V.one (Cell.slice 1 l0)] Q = vc3 I l0 Q := by kernel_rfl
def vc38 (I : FuncId → List V → Post → T) (n0 : Int) (n1 : Int) (i2 : Nat) (i3 : Nat) (i4 : Nat) (i5 : Nat) (i6 : Nat) (i7 : Nat) (Q : Post) : T :=
  fun h8 =>
  ∃ n9 : Int, (h8.read i2 i3 1 = some [Cell.int IntKind.i64 n9]) ∧
  ∃ l10 : Sl, (h8.read i4 i5 1 = some [Cell.slice 1 l10]) ∧
  ((0 ≤ n1) ∧
  n1 < (↑l10.len : Int)) ∧
  (derefK l10.a (fun i11 => fun i12 => fun h13 =>
  ∃ n14 : Int, (h13.read i11 (i12 + n1.toNat * 1) 1 = some [Cell.int IntKind.i64 n14]) ∧
  ∃ n15 : Int, (h13.read i6 i7 1 = some [Cell.int IntKind.i64 n15]) ∧
  (n15 ≠ 0) ∧
  ∃ n16 : Int, (h13.read i2 i3 1 = some [Cell.int IntKind.i64 n16]) ∧
  ∃ l17 : Sl, (h13.read i4 i5 1 = some [Cell.slice 1 l17]) ∧
  ((0 ≤ n0) ∧
  n0 < (↑l17.len : Int)) ∧
  (derefK l17.a (fun i18 => fun i19 => fun h20 =>
  ∃ n21 : Int, (h20.read i18 (i19 + n0.toNat * 1) 1 = some [Cell.int IntKind.i64 n21]) ∧
  ∃ n22 : Int, (h20.read i6 i7 1 = some [Cell.int IntKind.i64 n22]) ∧
  (n22 ≠ 0) ∧
  I 40 [V.one (Cell.int IntKind.i64 ((IntKind.i64.wrap (n9 * n14)).tmod n15)), V.one (Cell.int IntKind.i64 ((IntKind.i64.wrap (n16 * n21)).tmod n22))]
    (fun cs23 => fun h24 => 
    ∃ n25 : Int, (cs23 = [V.one (Cell.int IntKind.i64 n25)]) ∧
    I 40 [V.one (Cell.int IntKind.i64 n1), V.one (Cell.int IntKind.i64 n0)]
      (fun cs26 => fun h27 => 
      ∃ n28 : Int, (cs26 = [V.one (Cell.int IntKind.i64 n28)]) ∧
      (newK (YtohdelegimcceaaVc.Obj.cells false [Cell.int IntKind.i64 n25, Cell.int IntKind.i64 n28]) (fun i29 => fun h30 =>
      I 39 [V.one (Cell.slice 1 { a := some (i29, 0), len := 2 })]
        (fun cs31 => fun h32 => 
        ∃ n33 : Int, (cs31 = [V.one (Cell.int IntKind.i64 n33)]) ∧
        Q [V.one (Cell.int IntKind.i64 n33)] h32) h30)) h27) h24) h20)) h13)) h8
theorem den38 (I : FuncId → List V → Post → T) (n0 : Int) (n1 : Int) (i2 : Nat) (i3 : Nat) (i4 : Nat) (i5 : Nat) (i6 : Nat) (i7 : Nat) (Q : Post) : denF Go.Proofs.Try.prog 0 (⟨[], []⟩) I 38 [V.one (Cell.int IntKind.i64 n0), V.one (Cell.int IntKind.i64 n1), V.one (Cell.ptr (some (i2, i3))), V.one (Cell.ptr (some (i4, i5))), V.one (Cell.ptr (some (i6, i7)))] Q = vc38 I n0 n1 i2 i3 i4 i5 i6 i7 Q := by kernel_rfl
def vc39 (I : FuncId → List V → Post → T) (l0 : Sl) (Q : Post) : T :=
  loopK (A := Int) 0
    (fun x1 => fun n2 => ifT (decide (n2 < (↑l0.len : Int)))
      (fun h3 =>
      ((0 ≤ n2) ∧
      n2 < (↑l0.len : Int)) ∧
      (derefK l0.a (fun i4 => fun i5 => fun h6 =>
      ∃ n7 : Int, (h6.read i4 (i5 + n2.toNat * 1) 1 = some [Cell.int IntKind.i64 n7]) ∧
      (ifT (!decide (n7 = 0))
        (Q [V.one (Cell.int IntKind.i64 n7)])
        (x1 (IntKind.i64.wrap (n2 + 1)))) h6)) h3)
      (Q [V.one (Cell.int IntKind.i64 0)]))
theorem den39 (I : FuncId → List V → Post → T) (l0 : Sl) (Q : Post) : denF Go.Proofs.Try.prog 0 (⟨[], [(58, 130852, [(8, tk Go.Proofs.Try.prog 3)])]⟩) I 39 [V.one (Cell.slice 1 l0)] Q = vc39 I l0 Q := by kernel_rfl
def vc40 (I : FuncId → List V → Post → T) (n0 : Int) (n1 : Int) (Q : Post) : T :=
  fun h2 =>
  I 45 [V.one (Cell.int IntKind.i64 n0)]
    (fun cs3 => fun h4 => 
    ∃ b5 : Bool, (cs3 = [V.one (Cell.bool b5)]) ∧
    I 45 [V.one (Cell.int IntKind.i64 n1)]
      (fun cs6 => fun h7 => 
      ∃ b8 : Bool, (cs6 = [V.one (Cell.bool b8)]) ∧
      (ifT b5
        (ifT b8
          (Q [V.one (Cell.int IntKind.i64 0)])
          (Q [V.one (Cell.int IntKind.i64 (-1))]))
        (ifT b8
          (Q [V.one (Cell.int IntKind.i64 1)])
          (ifT (decide (n0 < n1))
            (Q [V.one (Cell.int IntKind.i64 (-1))])
            (ifT (decide (n0 > n1))
              (Q [V.one (Cell.int IntKind.i64 1)])
              (Q [V.one (Cell.int IntKind.i64 0)]))))) h7) h4) h2
theorem den40 (I : FuncId → List V → Post → T) (n0 : Int) (n1 : Int) (Q : Post) : denF Go.Proofs.Try.prog 0 (⟨[], []⟩) I 40 [V.one (Cell.int IntKind.i64 n0), V.one (Cell.int IntKind.i64 n1)] Q = vc40 I n0 n1 Q := by kernel_rfl
def vc45 (I : FuncId → List V → Post → T) (n0 : Int) (Q : Post) : T :=
  Q [V.one (Cell.bool (!decide (n0 = n0)))]
theorem den45 (I : FuncId → List V → Post → T) (n0 : Int) (Q : Post) : denF Go.Proofs.Try.prog 0 (⟨[], []⟩) I 45 [V.one (Cell.int IntKind.i64 n0)] Q = vc45 I n0 Q := by kernel_rfl

end Go.Proofs.YtohdelegimcceaaVc
