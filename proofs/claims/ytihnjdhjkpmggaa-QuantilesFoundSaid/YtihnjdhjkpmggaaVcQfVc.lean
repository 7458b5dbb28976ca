/- Formulas of the functions that QuantilesFound reaches. -/
import Derived.Test.YtihnjdhjkpmggaaVcFrame
import Derived.Test.YtihnjdhjkpmggaaVcBits
import Derived.Test.YtihnjdhjkpmggaaProg
set_option linter.unusedVariables false
set_option maxRecDepth 100000
namespace Go.Proofs.YtihnjdhjkpmggaaVc
def len8S : ByteArray := { data := #[0, 1, 2, 2, 3, 3, 3, 3, 4, 4, 4, 4, 4, 4, 4, 4, 5, 5, 5, 5, 5, 5, 5, 5, 5, 5, 5, 5, 5, 5, 5, 5, 6, 6, 6, 6, 6, 6, 6, 6, 6, 6, 6, 6, 6, 6, 6, 6, 6, 6, 6, 6, 6, 6, 6, 6, 6, 6, 6, 6, 6, 6, 6, 6, 7, 7, 7, 7, 7, 7, 7, 7, 7, 7, 7, 7, 7, 7, 7, 7, 7, 7, 7, 7, 7, 7, 7, 7, 7, 7, 7, 7, 7, 7, 7, 7, 7, 7, 7, 7, 7, 7, 7, 7, 7, 7, 7, 7, 7, 7, 7, 7, 7, 7, 7, 7, 7, 7, 7, 7, 7, 7, 7, 7, 7, 7, 7, 7, 8, 8, 8, 8, 8, 8, 8, 8, 8, 8, 8, 8, 8, 8, 8, 8, 8, 8, 8, 8, 8, 8, 8, 8, 8, 8, 8, 8, 8, 8, 8, 8, 8, 8, 8, 8, 8, 8, 8, 8, 8, 8, 8, 8, 8, 8, 8, 8, 8, 8, 8, 8, 8, 8, 8, 8, 8, 8, 8, 8, 8, 8, 8, 8, 8, 8, 8, 8, 8, 8, 8, 8, 8, 8, 8, 8, 8, 8, 8, 8, 8, 8, 8, 8, 8, 8, 8, 8, 8, 8, 8, 8, 8, 8, 8, 8, 8, 8, 8, 8, 8, 8, 8, 8, 8, 8, 8, 8, 8, 8, 8, 8, 8, 8, 8, 8, 8, 8, 8, 8, 8, 8, 8, 8, 8, 8, 8, 8] }
def vc12 (I : FuncId → List V → Post → T) (p0 : Option (Nat × Nat)) (n1 : Int) (Q : Post) : T :=
  derefK p0 (fun i2 => fun i3 => fun h4 =>
  ∃ n5 : Int, (h4.read i2 (i3 + 1) 1 = some [Cell.int IntKind.i64 n5]) ∧
  (derefK p0 (fun i6 => fun i7 => fun h8 =>
  (storeK [] i6 (i7 + 1) [Cell.int IntKind.i64 (IntKind.i64.wrap (n5 + 1))] (derefK p0 (fun i9 => fun i10 => fun h11 =>
  ∃ l12 : Sl, (h11.read i9 (i10 + 0) 1 = some [Cell.slice 1 l12]) ∧
  (ifT (decide ((↑l12.len : Int) = 0))
    (derefK p0 (fun i13 => fun i14 => fun h15 =>
    ∃ n16 : Int, (h15.read i13 (i14 + 1) 1 = some [Cell.int IntKind.i64 n16]) ∧
    I 55 [V.one (Cell.int IntKind.i64 (IntKind.i64.wrap (n16 * 7919))), V.one (Cell.int IntKind.i64 n1)]
      (fun cs17 => fun h18 => 
      ∃ n19 : Int, (cs17 = [V.one (Cell.int IntKind.i64 n19)]) ∧
      Q [V.one (Cell.int IntKind.i64 n19)] h18) h15))
    (derefK p0 (fun i20 => fun i21 => fun h22 =>
    ∃ n23 : Int, (h22.read i20 (i21 + 1) 1 = some [Cell.int IntKind.i64 n23]) ∧
    (derefK p0 (fun i24 => fun i25 => fun h26 =>
    ∃ l27 : Sl, (h26.read i24 (i25 + 0) 1 = some [Cell.slice 1 l27]) ∧
    ((↑l27.len : Int) ≠ 0) ∧
    (derefK p0 (fun i28 => fun i29 => fun h30 =>
    ∃ n31 : Int, (h30.read i28 (i29 + 1) 1 = some [Cell.int IntKind.i64 n31]) ∧
    (derefK p0 (fun i32 => fun i33 => fun h34 =>
    ∃ l35 : Sl, (h34.read i32 (i33 + 0) 1 = some [Cell.slice 1 l35]) ∧
    ((↑l35.len : Int) ≠ 0) ∧
    (derefK p0 (fun i36 => fun i37 => fun h38 =>
    ∃ l39 : Sl, (h38.read i36 (i37 + 0) 1 = some [Cell.slice 1 l39]) ∧
    ((0 ≤ (IntKind.i64.wrap (n23 - 1)).tmod (↑l27.len : Int)) ∧
    (IntKind.i64.wrap (n23 - 1)).tmod (↑l27.len : Int) < (↑l39.len : Int)) ∧
    (derefK l39.a (fun i40 => fun i41 => fun h42 =>
    ∃ n43 : Int, (h42.read i40 (i41 + ((IntKind.i64.wrap (n23 - 1)).tmod (↑l27.len : Int)).toNat * 1) 1 = some [Cell.int IntKind.i64 n43]) ∧
    I 55 [V.one (Cell.int IntKind.i64 n43), V.one (Cell.int IntKind.i64 1073741824)]
      (fun cs44 => fun h45 => 
      ∃ n46 : Int, (cs44 = [V.one (Cell.int IntKind.i64 n46)]) ∧
      I 55 [V.one (Cell.int IntKind.i64 (IntKind.i64.wrap (n46 + IntKind.i64.wrap (IntKind.i64.wrap ((IntKind.i64.wrap (n31 - 1)).tdiv (↑l35.len : Int)) * IntKind.i64.wrap (7919 + (IntKind.i64.wrap (n23 - 1)).tmod (↑l27.len : Int)))))), V.one (Cell.int IntKind.i64 n1)]
        (fun cs47 => fun h48 => 
        ∃ n49 : Int, (cs47 = [V.one (Cell.int IntKind.i64 n49)]) ∧
        Q [V.one (Cell.int IntKind.i64 n49)] h48) h45) h42)) h38)) h34)) h30)) h26)) h22))) h11))) h8)) h4)
theorem den12 (I : FuncId → List V → Post → T) (p0 : Option (Nat × Nat)) (n1 : Int) (Q : Post) : denF Go.Proofs.Try.prog 0 (⟨[], []⟩) I 12 [V.one (Cell.ptr p0), V.one (Cell.int IntKind.i64 n1)] Q = vc12 I p0 n1 Q := by kernel_rfl
def vc55 (I : FuncId → List V → Post → T) (n0 : Int) (n1 : Int) (Q : Post) : T :=
  ifT (decide (n1 < 1))
    (Q [V.one (Cell.int IntKind.i64 0)])
    (fun h2 =>
    (n1 ≠ 0) ∧
    (ifT (decide (n0.tmod n1 < 0))
      (Q [V.one (Cell.int IntKind.i64 (IntKind.i64.wrap (n0.tmod n1 + n1)))])
      (Q [V.one (Cell.int IntKind.i64 (n0.tmod n1))])) h2)
theorem den55 (I : FuncId → List V → Post → T) (n0 : Int) (n1 : Int) (Q : Post) : denF Go.Proofs.Try.prog 0 (⟨[], []⟩) I 55 [V.one (Cell.int IntKind.i64 n0), V.one (Cell.int IntKind.i64 n1)] Q = vc55 I n0 n1 Q := by kernel_rfl
def vc30 (I : FuncId → List V → Post → T) (p0 : Option (Nat × Nat)) (l1 : Sl) (Q : Post) : T :=
  fun h2 =>
  I 12 [V.one (Cell.ptr p0), V.one (Cell.int IntKind.i64 (↑l1.len : Int))]
    (fun cs3 => fun h4 => 
    ∃ n5 : Int, (cs3 = [V.one (Cell.int IntKind.i64 n5)]) ∧
    ((0 ≤ n5) ∧
    n5 < (↑l1.len : Int)) ∧
    (derefK l1.a (fun i6 => fun i7 => fun h8 =>
    ∃ n9 : Int, (h8.read i6 (i7 + n5.toNat * 1) 1 = some [Cell.int IntKind.i64 n9]) ∧
    Q [V.one (Cell.int IntKind.i64 n9)] h8)) h4) h2
theorem den30 (I : FuncId → List V → Post → T) (p0 : Option (Nat × Nat)) (l1 : Sl) (Q : Post) : denF Go.Proofs.Try.prog 0 (⟨[], []⟩) I 30 [V.one (Cell.ptr p0), V.one (Cell.slice 1 l1)] Q = vc30 I p0 l1 Q := by kernel_rfl
def vc155 (I : FuncId → List V → Post → T) (n0 : Int) (Q : Post) : T :=
  joinK (A := Int × Int)
    (uncur fun n1 n2 => ifT (decide (n1 ≥ 65536))
      (ifT (decide (shr IntKind.u64 n1 16 ≥ 256))
        (fun h3 =>
        ((0 ≤ IntKind.u8.wrap (shr IntKind.u64 (shr IntKind.u64 n1 16) 8)) ∧
        IntKind.u8.wrap (shr IntKind.u64 (shr IntKind.u64 n1 16) 8) < (↑256 : Int)) ∧
        Q [V.one (Cell.int IntKind.i64 (IntKind.i64.wrap (IntKind.i64.wrap (IntKind.i64.wrap (n2 + 16) + 8) + IntKind.i64.wrap (byteAt len8S (IntKind.u8.wrap (shr IntKind.u64 (shr IntKind.u64 n1 16) 8))))))] h3)
        (fun h4 =>
        ((0 ≤ IntKind.u8.wrap (shr IntKind.u64 n1 16)) ∧
        IntKind.u8.wrap (shr IntKind.u64 n1 16) < (↑256 : Int)) ∧
        Q [V.one (Cell.int IntKind.i64 (IntKind.i64.wrap (IntKind.i64.wrap (n2 + 16) + IntKind.i64.wrap (byteAt len8S (IntKind.u8.wrap (shr IntKind.u64 n1 16))))))] h4))
      (ifT (decide (n1 ≥ 256))
        (fun h5 =>
        ((0 ≤ IntKind.u8.wrap (shr IntKind.u64 n1 8)) ∧
        IntKind.u8.wrap (shr IntKind.u64 n1 8) < (↑256 : Int)) ∧
        Q [V.one (Cell.int IntKind.i64 (IntKind.i64.wrap (IntKind.i64.wrap (n2 + 8) + IntKind.i64.wrap (byteAt len8S (IntKind.u8.wrap (shr IntKind.u64 n1 8))))))] h5)
        (fun h6 =>
        ((0 ≤ IntKind.u8.wrap n1) ∧
        IntKind.u8.wrap n1 < (↑256 : Int)) ∧
        Q [V.one (Cell.int IntKind.i64 (IntKind.i64.wrap (n2 + IntKind.i64.wrap (byteAt len8S (IntKind.u8.wrap n1)))))] h6)))
    (fun x7 => ifT (decide (n0 ≥ 4294967296))
      (x7 ((shr IntKind.u64 n0 32, 32)))
      (x7 ((n0, 0))))
theorem den155 (I : FuncId → List V → Post → T) (n0 : Int) (Q : Post) : denF Go.Proofs.Try.prog 0 (⟨[(13, 101, [(0, tk Go.Proofs.Try.prog 86), (2, tk Go.Proofs.Try.prog 3)])], []⟩) I 155 [V.one (Cell.int IntKind.u64 n0)] Q = vc155 I n0 Q := by kernel_rfl
def vc17 (I : FuncId → List V → Post → T) (n0 : Int) (n1 : Int) (Q : Post) : T :=
  joinK (A := Bool)
    (fun b2 => ifT b2
      (fun h3 =>
      Q [V.agg [Cell.int IntKind.i64 0, Cell.int IntKind.i64 0], V.one (Cell.int IntKind.i64 1)] h3)
      (ifT (decide (n1 = 0))
        (fun h4 =>
        Q [V.agg [Cell.int IntKind.i64 0, Cell.int IntKind.i64 0], V.one (Cell.int IntKind.i64 8)] h4)
        (fun h5 =>
        I 64 [V.one (Cell.int IntKind.i64 n0), V.one (Cell.int IntKind.i64 n1)]
          (fun cs6 => fun h7 => 
          ∃ n8 : Int, ∃ n9 : Int, (cs6 = [V.agg [Cell.int IntKind.i64 n8, Cell.int IntKind.i64 n9]]) ∧
          Q [V.agg [Cell.int IntKind.i64 n8, Cell.int IntKind.i64 n9], V.one (Cell.int IntKind.i64 0)] h7) h5)))
    (fun x10 => fun h11 => 
    I 65 [V.one (Cell.int IntKind.i64 n0), V.one (Cell.int IntKind.i64 (-4611686018427387904)), V.one (Cell.int IntKind.i64 4611686018427387904)]
      (fun cs12 => fun h13 => 
      ∃ b14 : Bool, (cs12 = [V.one (Cell.bool b14)]) ∧
      (ifT (!b14)
        (x10 true)
        (fun h15 =>
        I 65 [V.one (Cell.int IntKind.i64 n1), V.one (Cell.int IntKind.i64 (-4611686018427387904)), V.one (Cell.int IntKind.i64 4611686018427387904)]
          (fun cs16 => fun h17 => 
          ∃ b18 : Bool, (cs16 = [V.one (Cell.bool b18)]) ∧
          x10 (!b18) h17) h15)) h13) h11)
theorem den17 (I : FuncId → List V → Post → T) (n0 : Int) (n1 : Int) (Q : Post) : denF Go.Proofs.Try.prog 16 (⟨[(24, 32704, [(6, tk Go.Proofs.Try.prog 4)])], []⟩) I 17 [V.one (Cell.int IntKind.i64 n0), V.one (Cell.int IntKind.i64 n1)] Q = vc17 I n0 n1 Q := by kernel_rfl
def vc64 (I : FuncId → List V → Post → T) (n0 : Int) (n1 : Int) (Q : Post) : T :=
  joinK (A := Int × Int)
    (uncur fun n2 n3 => fun h4 => 
    I 109 [V.one (Cell.int IntKind.i64 n2)]
      (fun cs5 => fun h6 => 
      ∃ n7 : Int, (cs5 = [V.one (Cell.int IntKind.u64 n7)]) ∧
      I 109 [V.one (Cell.int IntKind.i64 n3)]
        (fun cs8 => fun h9 => 
        ∃ n10 : Int, (cs8 = [V.one (Cell.int IntKind.u64 n10)]) ∧
        I 108 [V.one (Cell.int IntKind.u64 n7), V.one (Cell.int IntKind.u64 n10)]
          (fun cs11 => fun h12 => 
          ∃ n13 : Int, (cs11 = [V.one (Cell.int IntKind.u64 n13)]) ∧
          (IntKind.i64.wrap n13 ≠ 0) ∧
          (IntKind.i64.wrap n13 ≠ 0) ∧
          Q [V.agg [Cell.int IntKind.i64 (IntKind.i64.wrap (n2.tdiv (IntKind.i64.wrap n13))), Cell.int IntKind.i64 (IntKind.i64.wrap (n3.tdiv (IntKind.i64.wrap n13)))]] h12) h9) h6) h4)
    (fun x14 => ifT (decide (n1 < 0))
      (x14 ((IntKind.i64.wrap (0 - n0), IntKind.i64.wrap (0 - n1))))
      (x14 ((n0, n1))))
theorem den64 (I : FuncId → List V → Post → T) (n0 : Int) (n1 : Int) (Q : Post) : denF Go.Proofs.Try.prog 16 (⟨[(13, 3843, [(0, tk Go.Proofs.Try.prog 3), (1, tk Go.Proofs.Try.prog 3)])], []⟩) I 64 [V.one (Cell.int IntKind.i64 n0), V.one (Cell.int IntKind.i64 n1)] Q = vc64 I n0 n1 Q := by kernel_rfl
def vc108 (I : FuncId → List V → Post → T) (n0 : Int) (n1 : Int) (Q : Post) : T :=
  loopK (A := Int × Int) ((n0, n1))
    (fun x2 => uncur fun n3 n4 => ifT (!decide (n4 = 0))
      (fun h5 =>
      (n4 ≠ 0) ∧
      x2 ((n4, n3.tmod n4)) h5)
      (Q [V.one (Cell.int IntKind.u64 n3)]))
theorem den108 (I : FuncId → List V → Post → T) (n0 : Int) (n1 : Int) (Q : Post) : denF Go.Proofs.Try.prog 0 (⟨[], [(12, 2019, [(0, tk Go.Proofs.Try.prog 86), (1, tk Go.Proofs.Try.prog 86)])]⟩) I 108 [V.one (Cell.int IntKind.u64 n0), V.one (Cell.int IntKind.u64 n1)] Q = vc108 I n0 n1 Q := by kernel_rfl
def vc109 (I : FuncId → List V → Post → T) (n0 : Int) (Q : Post) : T :=
  ifT (decide (n0 < 0))
    (Q [V.one (Cell.int IntKind.u64 (IntKind.u64.wrap (0 - IntKind.u64.wrap n0)))])
    (Q [V.one (Cell.int IntKind.u64 (IntKind.u64.wrap n0))])
theorem den109 (I : FuncId → List V → Post → T) (n0 : Int) (Q : Post) : denF Go.Proofs.Try.prog 0 (⟨[], []⟩) I 109 [V.one (Cell.int IntKind.i64 n0)] Q = vc109 I n0 Q := by kernel_rfl
def vc65 (I : FuncId → List V → Post → T) (n0 : Int) (n1 : Int) (n2 : Int) (Q : Post) : T :=
  ifT (decide (n1 ≤ n0))
    (Q [V.one (Cell.bool (decide (n0 ≤ n2)))])
    (Q [V.one (Cell.bool false)])
theorem den65 (I : FuncId → List V → Post → T) (n0 : Int) (n1 : Int) (n2 : Int) (Q : Post) : denF Go.Proofs.Try.prog 0 (⟨[], []⟩) I 65 [V.one (Cell.int IntKind.i64 n0), V.one (Cell.int IntKind.i64 n1), V.one (Cell.int IntKind.i64 n2)] Q = vc65 I n0 n1 n2 Q := by kernel_rfl
def vc151 (I : FuncId → List V → Post → T) (n0 : Int) (Q : Post) : T :=
  fun h1 =>
  I 155 [V.one (Cell.int IntKind.u64 n0)]
    (fun cs2 => fun h3 => 
    ∃ n4 : Int, (cs2 = [V.one (Cell.int IntKind.i64 n4)]) ∧
    Q [V.one (Cell.int IntKind.i64 n4)] h3) h1
theorem den151 (I : FuncId → List V → Post → T) (n0 : Int) (Q : Post) : denF Go.Proofs.Try.prog 0 (⟨[], []⟩) I 151 [V.one (Cell.int IntKind.u64 n0)] Q = vc151 I n0 Q := by kernel_rfl
/-- handbill/handlaw1.measures -/
def vc22 (I : FuncId → List V → Post → T) (Q : Post) : T :=
  fun h0 =>
  I 17 [V.one (Cell.int IntKind.i64 2), V.one (Cell.int IntKind.i64 4)]
    (fun cs1 => fun h2 => 
    ∃ n3 : Int, ∃ n4 : Int, ∃ n5 : Int, (cs1 = [V.agg [Cell.int IntKind.i64 n3, Cell.int IntKind.i64 n4], V.one (Cell.int IntKind.i64 n5)]) ∧
    (ifT (decide (n5 = 0))
      (Q [V.one (Cell.bool (decide (n3 = 1) && decide (n4 = 2)))])
      (Q [V.one (Cell.bool false)])) h2) h0
theorem den22 (I : FuncId → List V → Post → T) (Q : Post) : denF Go.Proofs.Try.prog 2 (⟨[], []⟩) I 22 [] Q = vc22 I Q := by kernel_rfl
/-- handbill/handlaw1.QuantilesFound -/
def vc10 (I : FuncId → List V → Post → T) (l0 : Sl) (Q : Post) : T :=
  fun h1 =>
  (newK (YtihnjdhjkpmggaaVc.Obj.cells false [Cell.slice 1 l0, Cell.int IntKind.i64 0]) (fun i2 => fun h3 => 
  I 12 [V.one (Cell.ptr (some (i2, 0))), V.one (Cell.int IntKind.i64 12)]
    (fun cs4 => fun h5 => 
    ∃ n6 : Int, (cs4 = [V.one (Cell.int IntKind.i64 n6)]) ∧
    (loopK (A := Sl × Int) (({ a := none, len := 0 }, 0))
      (fun x7 => uncur fun l8 n9 => ifT (decide (n9 < n6))
        (fun h10 =>
        I 12 [V.one (Cell.ptr (some (i2, 0))), V.one (Cell.int IntKind.i64 9)]
          (fun cs11 => fun h12 => 
          ∃ n13 : Int, (cs11 = [V.one (Cell.int IntKind.i64 n13)]) ∧
          (newK (YtihnjdhjkpmggaaVc.Obj.cells false [Cell.int IntKind.i64 0, Cell.int IntKind.i64 1, Cell.int IntKind.i64 5, Cell.int IntKind.i64 (-5), Cell.int IntKind.i64 9223372036854775807, Cell.int IntKind.i64 (-9223372036854775808), Cell.int IntKind.i64 n13]) (fun i14 => fun h15 =>
          I 30 [V.one (Cell.ptr (some (i2, 0))), V.one (Cell.slice 1 { a := some (i14, 0), len := 7 })]
            (fun cs16 => fun h17 => 
            ∃ n18 : Int, (cs16 = [V.one (Cell.int IntKind.i64 n18)]) ∧
            (appendTo [] 1 8 l8 1 [Cell.int IntKind.i64 n18] (fun l19 => fun h20 => 
            x7 ((l19, IntKind.i64.wrap (n9 + 1))) h20)) h17) h15)) h12) h10)
        (fun h21 =>
        (newK (YtihnjdhjkpmggaaVc.Obj.cells false [Cell.int IntKind.i64 1, Cell.int IntKind.i64 2, Cell.int IntKind.i64 3, Cell.int IntKind.i64 4, Cell.int IntKind.i64 100, Cell.int IntKind.i64 1000, Cell.int IntKind.i64 0, Cell.int IntKind.i64 1001]) (fun i22 => fun h23 =>
        I 30 [V.one (Cell.ptr (some (i2, 0))), V.one (Cell.slice 1 { a := some (i22, 0), len := 8 })]
          (fun cs24 => fun h25 => 
          ∃ n26 : Int, (cs24 = [V.one (Cell.int IntKind.i64 n26)]) ∧
          (newK (YtihnjdhjkpmggaaVc.Obj.cells false [Cell.int IntKind.i64 0, Cell.int IntKind.i64 1, Cell.int IntKind.i64 (IntKind.i64.wrap (n26.tdiv 2)), Cell.int IntKind.i64 n26, Cell.int IntKind.i64 (IntKind.i64.wrap (n26 + 1)), Cell.int IntKind.i64 (-1)]) (fun i27 => fun h28 =>
          I 30 [V.one (Cell.ptr (some (i2, 0))), V.one (Cell.slice 1 { a := some (i27, 0), len := 6 })]
            (fun cs29 => fun h30 => 
            ∃ n31 : Int, (cs29 = [V.one (Cell.int IntKind.i64 n31)]) ∧
            I 52 [V.one (Cell.slice 1 l8), V.one (Cell.int IntKind.i64 n31), V.one (Cell.int IntKind.i64 n26)]
              (fun cs32 => fun h33 => 
              ∃ n34 : Int, ∃ n35 : Int, (cs32 = [V.one (Cell.int IntKind.i64 n34), V.one (Cell.int IntKind.i64 n35)]) ∧
              I 53 [V.one (Cell.slice 1 l8), V.one (Cell.int IntKind.i64 n31), V.one (Cell.int IntKind.i64 n26)]
                (fun cs36 => fun h37 => 
                ∃ n38 : Int, ∃ n39 : Int, (cs36 = [V.one (Cell.int IntKind.i64 n38), V.one (Cell.int IntKind.i64 n39)]) ∧
                I 22 []
                  (fun cs40 => fun h41 => 
                  ∃ b42 : Bool, (cs40 = [V.one (Cell.bool b42)]) ∧
                  (ifT b42
                    (ifT (decide (n35 = n39))
                      (Q [V.one (Cell.bool (decide (n34 = n38)))])
                      (Q [V.one (Cell.bool false)]))
                    (Q [V.one (Cell.bool false)])) h41) h37) h33) h30) h28)) h25) h23)) h21))) h5) h3)) h1
theorem den10 (I : FuncId → List V → Post → T) (l0 : Sl) (Q : Post) : denF Go.Proofs.Try.prog 0 (⟨[], [(122, 134152208, [(4, tk Go.Proofs.Try.prog 22), (16, tk Go.Proofs.Try.prog 3)])]⟩) I 10 [V.one (Cell.slice 1 l0)] Q = vc10 I l0 Q := by kernel_rfl
/-- handbill/measure.Quantile -/
def vc52 (I : FuncId → List V → Post → T) (l0 : Sl) (n1 : Int) (n2 : Int) (Q : Post) : T :=
  ifT (decide ((↑l0.len : Int) > 10000))
    (Q [V.one (Cell.int IntKind.i64 0), V.one (Cell.int IntKind.i64 2)])
    (ifT (decide ((↑l0.len : Int) = 0))
      (Q [V.one (Cell.int IntKind.i64 0), V.one (Cell.int IntKind.i64 8)])
      (joinK (A := Bool)
        (fun b3 => ifT b3
          (Q [V.one (Cell.int IntKind.i64 0), V.one (Cell.int IntKind.i64 1)])
          (fun h4 =>
          I 105 [V.one (Cell.slice 1 l0)]
            (fun cs5 => fun h6 => 
            ∃ p7 : Option (Nat × List (Nat × Nat)), (cs5 = [V.one (Cell.func p7)]) ∧
            I 104 [V.one (Cell.func p7)]
              (fun cs8 => fun h9 => 
              ∃ l10 : Sl, (cs8 = [V.one (Cell.slice 1 l10)]) ∧
              (n2 ≠ 0) ∧
              ((0 ≤ IntKind.i64.wrap (max (IntKind.i64.wrap ((IntKind.i64.wrap (IntKind.i64.wrap (IntKind.i64.wrap (n1 * (↑l0.len : Int)) + n2) - 1)).tdiv n2)) 1 - 1)) ∧
              IntKind.i64.wrap (max (IntKind.i64.wrap ((IntKind.i64.wrap (IntKind.i64.wrap (IntKind.i64.wrap (n1 * (↑l0.len : Int)) + n2) - 1)).tdiv n2)) 1 - 1) < (↑l10.len : Int)) ∧
              (derefK l10.a (fun i11 => fun i12 => fun h13 =>
              ∃ n14 : Int, (h13.read i11 (i12 + (IntKind.i64.wrap (max (IntKind.i64.wrap ((IntKind.i64.wrap (IntKind.i64.wrap (IntKind.i64.wrap (n1 * (↑l0.len : Int)) + n2) - 1)).tdiv n2)) 1 - 1)).toNat * 1) 1 = some [Cell.int IntKind.i64 n14]) ∧
              Q [V.one (Cell.int IntKind.i64 n14), V.one (Cell.int IntKind.i64 0)] h13)) h9) h6) h4))
        (fun x15 => fun h16 => 
        I 65 [V.one (Cell.int IntKind.i64 n2), V.one (Cell.int IntKind.i64 1), V.one (Cell.int IntKind.i64 1000)]
          (fun cs17 => fun h18 => 
          ∃ b19 : Bool, (cs17 = [V.one (Cell.bool b19)]) ∧
          (ifT (!b19)
            (x15 true)
            (fun h20 =>
            I 65 [V.one (Cell.int IntKind.i64 n1), V.one (Cell.int IntKind.i64 0), V.one (Cell.int IntKind.i64 n2)]
              (fun cs21 => fun h22 => 
              ∃ b23 : Bool, (cs21 = [V.one (Cell.bool b23)]) ∧
              x15 (!b23) h22) h20)) h18) h16)))
theorem den52 (I : FuncId → List V → Post → T) (l0 : Sl) (n1 : Int) (n2 : Int) (Q : Post) : denF Go.Proofs.Try.prog 0 (⟨[(414, 268173312, [(18, tk Go.Proofs.Try.prog 4)])], []⟩) I 52 [V.one (Cell.slice 1 l0), V.one (Cell.int IntKind.i64 n1), V.one (Cell.int IntKind.i64 n2)] Q = vc52 I l0 n1 n2 Q := by kernel_rfl
/-- slices.Sorted[int] -/
def vc104 (I : FuncId → List V → Post → T) (p0 : Option (Nat × List (Nat × Nat))) (Q : Post) : T :=
  fun h1 =>
  I 129 [V.one (Cell.func p0)]
    (fun cs2 => fun h3 => 
    ∃ l4 : Sl, (cs2 = [V.one (Cell.slice 1 l4)]) ∧
    I 130 [V.one (Cell.slice 1 l4)]
      (fun cs5 => fun h6 => 
      (cs5 = []) ∧
      Q [V.one (Cell.slice 1 l4)] h6) h3) h1
theorem den104 (I : FuncId → List V → Post → T) (p0 : Option (Nat × List (Nat × Nat))) (Q : Post) : denF Go.Proofs.Try.prog 0 (⟨[], []⟩) I 104 [V.one (Cell.func p0)] Q = vc104 I p0 Q := by kernel_rfl
/-- slices.Collect[int] -/
def vc129 (I : FuncId → List V → Post → T) (p0 : Option (Nat × List (Nat × Nat))) (Q : Post) : T :=
  fun h1 =>
  I 149 [V.one (Cell.slice 1 { a := none, len := 0 }), V.one (Cell.func p0)]
    (fun cs2 => fun h3 => 
    ∃ l4 : Sl, (cs2 = [V.one (Cell.slice 1 l4)]) ∧
    Q [V.one (Cell.slice 1 l4)] h3) h1
theorem den129 (I : FuncId → List V → Post → T) (p0 : Option (Nat × List (Nat × Nat))) (Q : Post) : denF Go.Proofs.Try.prog 0 (⟨[], []⟩) I 129 [V.one (Cell.func p0)] Q = vc129 I p0 Q := by kernel_rfl
/-- slices.Sort[[]int,int] -/
def vc130 (I : FuncId → List V → Post → T) (l0 : Sl) (Q : Post) : T :=
  fun h1 =>
  I 151 [V.one (Cell.int IntKind.u64 (IntKind.u64.wrap (↑l0.len : Int)))]
    (fun cs2 => fun h3 => 
    ∃ n4 : Int, (cs2 = [V.one (Cell.int IntKind.i64 n4)]) ∧
    I 150 [V.one (Cell.slice 1 l0), V.one (Cell.int IntKind.i64 0), V.one (Cell.int IntKind.i64 (↑l0.len : Int)), V.one (Cell.int IntKind.i64 n4)]
      (fun cs5 => fun h6 => 
      (cs5 = []) ∧
      Q [] h6) h3) h1
theorem den130 (I : FuncId → List V → Post → T) (l0 : Sl) (Q : Post) : denF Go.Proofs.Try.prog 0 (⟨[], []⟩) I 130 [V.one (Cell.slice 1 l0)] Q = vc130 I l0 Q := by kernel_rfl
/-- slices.pdqsortOrdered[int] -/
def vc150 (I : FuncId → List V → Post → T) (l0 : Sl) (n1 : Int) (n2 : Int) (n3 : Int) (Q : Post) : T :=
  loopK (A := Int × Int × Int × Bool × Bool) ((n1, n2, n3, true, true))
    (fun x4 => uncur fun n5 => uncur fun n6 => uncur fun n7 => uncur fun b8 b9 => ifT (decide (IntKind.i64.wrap (n6 - n5) ≤ 12))
      (fun h10 =>
      I 159 [V.one (Cell.slice 1 l0), V.one (Cell.int IntKind.i64 n5), V.one (Cell.int IntKind.i64 n6)]
        (fun cs11 => fun h12 => 
        (cs11 = []) ∧
        Q [] h12) h10)
      (ifT (decide (n7 = 0))
        (fun h13 =>
        I 160 [V.one (Cell.slice 1 l0), V.one (Cell.int IntKind.i64 n5), V.one (Cell.int IntKind.i64 n6)]
          (fun cs14 => fun h15 => 
          (cs14 = []) ∧
          Q [] h15) h13)
        (joinK (A := Int)
          (fun n16 => fun h17 => 
          I 162 [V.one (Cell.slice 1 l0), V.one (Cell.int IntKind.i64 n5), V.one (Cell.int IntKind.i64 n6)]
            (fun cs18 => fun h19 => 
            ∃ n20 : Int, ∃ n21 : Int, (cs18 = [V.one (Cell.int IntKind.i64 n20), V.one (Cell.int IntKind.i64 n21)]) ∧
            (joinK (A := Int × Int)
              (uncur fun n22 n23 => joinK (A := Bool)
                (fun b24 => joinK (A := PUnit)
                  (fun x25 => joinK (A := Bool)
                    (fun b26 => ifT b26
                      (fun h27 =>
                      I 166 [V.one (Cell.slice 1 l0), V.one (Cell.int IntKind.i64 n5), V.one (Cell.int IntKind.i64 n6), V.one (Cell.int IntKind.i64 n22)]
                        (fun cs28 => fun h29 => 
                        ∃ n30 : Int, (cs28 = [V.one (Cell.int IntKind.i64 n30)]) ∧
                        x4 ((n30, n6, n16, b8, b9)) h29) h27)
                      (fun h31 =>
                      I 167 [V.one (Cell.slice 1 l0), V.one (Cell.int IntKind.i64 n5), V.one (Cell.int IntKind.i64 n6), V.one (Cell.int IntKind.i64 n22)]
                        (fun cs32 => fun h33 => 
                        ∃ n34 : Int, ∃ b35 : Bool, (cs32 = [V.one (Cell.int IntKind.i64 n34), V.one (Cell.bool b35)]) ∧
                        (ifT (decide (IntKind.i64.wrap (n34 - n5) < IntKind.i64.wrap (n6 - n34)))
                          (fun h36 =>
                          I 150 [V.one (Cell.slice 1 l0), V.one (Cell.int IntKind.i64 n5), V.one (Cell.int IntKind.i64 n34), V.one (Cell.int IntKind.i64 n16)]
                            (fun cs37 => fun h38 => 
                            (cs37 = []) ∧
                            x4 ((IntKind.i64.wrap (n34 + 1), n6, n16, decide (IntKind.i64.wrap (n34 - n5) ≥ IntKind.i64.wrap ((IntKind.i64.wrap (n6 - n5)).tdiv 8)), b35)) h38) h36)
                          (fun h39 =>
                          I 150 [V.one (Cell.slice 1 l0), V.one (Cell.int IntKind.i64 (IntKind.i64.wrap (n34 + 1))), V.one (Cell.int IntKind.i64 n6), V.one (Cell.int IntKind.i64 n16)]
                            (fun cs40 => fun h41 => 
                            (cs40 = []) ∧
                            x4 ((n5, n34, n16, decide (IntKind.i64.wrap (n6 - n34) ≥ IntKind.i64.wrap ((IntKind.i64.wrap (n6 - n5)).tdiv 8)), b35)) h41) h39)) h33) h31))
                    (fun x42 => ifT (decide (n5 > 0))
                      (fun h43 =>
                      ((0 ≤ IntKind.i64.wrap (n5 - 1)) ∧
                      IntKind.i64.wrap (n5 - 1) < (↑l0.len : Int)) ∧
                      (derefK l0.a (fun i44 => fun i45 => fun h46 =>
                      ∃ n47 : Int, (h46.read i44 (i45 + (IntKind.i64.wrap (n5 - 1)).toNat * 1) 1 = some [Cell.int IntKind.i64 n47]) ∧
                      ((0 ≤ n22) ∧
                      n22 < (↑l0.len : Int)) ∧
                      (derefK l0.a (fun i48 => fun i49 => fun h50 =>
                      ∃ n51 : Int, (h50.read i48 (i49 + n22.toNat * 1) 1 = some [Cell.int IntKind.i64 n51]) ∧
                      I 165 [V.one (Cell.int IntKind.i64 n47), V.one (Cell.int IntKind.i64 n51)]
                        (fun cs52 => fun h53 => 
                        ∃ b54 : Bool, (cs52 = [V.one (Cell.bool b54)]) ∧
                        x42 (!b54) h53) h50)) h46)) h43)
                      (x42 false)))
                  (fun x55 => ifT b24
                    (fun h56 =>
                    I 164 [V.one (Cell.slice 1 l0), V.one (Cell.int IntKind.i64 n5), V.one (Cell.int IntKind.i64 n6)]
                      (fun cs57 => fun h58 => 
                      ∃ b59 : Bool, (cs57 = [V.one (Cell.bool b59)]) ∧
                      (ifT b59
                        (Q [])
                        (x55 ())) h58) h56)
                    (x55 ())))
                (fun x60 => ifT b8
                  (ifT b9
                    (x60 (decide (n23 = 1)))
                    (x60 false))
                  (x60 false)))
              (fun x61 => ifT (decide (n21 = 2))
                (fun h62 =>
                I 163 [V.one (Cell.slice 1 l0), V.one (Cell.int IntKind.i64 n5), V.one (Cell.int IntKind.i64 n6)]
                  (fun cs63 => fun h64 => 
                  (cs63 = []) ∧
                  x61 ((IntKind.i64.wrap (IntKind.i64.wrap (n6 - 1) - IntKind.i64.wrap (n20 - n5)), 1)) h64) h62)
                (x61 ((n20, n21))))) h19) h17)
          (fun x65 => ifT (!b8)
            (fun h66 =>
            I 161 [V.one (Cell.slice 1 l0), V.one (Cell.int IntKind.i64 n5), V.one (Cell.int IntKind.i64 n6)]
              (fun cs67 => fun h68 => 
              (cs67 = []) ∧
              x65 (IntKind.i64.wrap (n7 - 1)) h68) h66)
            (x65 n7)))))
theorem den150 (I : FuncId → List V → Post → T) (l0 : Sl) (n1 : Int) (n2 : Int) (n3 : Int) (Q : Post) : denF Go.Proofs.Try.prog 0 (⟨[(1821, 4329327034376, [(3, tk Go.Proofs.Try.prog 3)]), (7293, 2303591209400014848, [(11, tk Go.Proofs.Try.prog 3), (12, tk Go.Proofs.Try.prog 153)]), (14588, 587989967349491957760, [(68, tk Go.Proofs.Try.prog 4)]), (14589, 8854437155380584775680, []), (29180, 309475565088379329434353664, [(87, tk Go.Proofs.Try.prog 4)])], [(14, 21778071482940061661655974875633165532942, [(1, tk Go.Proofs.Try.prog 3), (2, tk Go.Proofs.Try.prog 3), (3, tk Go.Proofs.Try.prog 3), (8, tk Go.Proofs.Try.prog 4), (9, tk Go.Proofs.Try.prog 4)])]⟩) I 150 [V.one (Cell.slice 1 l0), V.one (Cell.int IntKind.i64 n1), V.one (Cell.int IntKind.i64 n2), V.one (Cell.int IntKind.i64 n3)] Q = vc150 I l0 n1 n2 n3 Q := by kernel_rfl
/-- slices.insertionSortOrdered[int] -/
def vc159 (I : FuncId → List V → Post → T) (l0 : Sl) (n1 : Int) (n2 : Int) (Q : Post) : T :=
  loopK (A := Int) (IntKind.i64.wrap (n1 + 1))
    (fun x3 => fun n4 => ifT (decide (n4 < n2))
      (loopK (A := Int) n4
        (fun x5 => fun n6 => joinK (A := Bool)
          (fun b7 => ifT b7
            (fun h8 =>
            ((0 ≤ IntKind.i64.wrap (n6 - 1)) ∧
            IntKind.i64.wrap (n6 - 1) < (↑l0.len : Int)) ∧
            (derefK l0.a (fun i9 => fun i10 => fun h11 =>
            ∃ n12 : Int, (h11.read i9 (i10 + (IntKind.i64.wrap (n6 - 1)).toNat * 1) 1 = some [Cell.int IntKind.i64 n12]) ∧
            ((0 ≤ n6) ∧
            n6 < (↑l0.len : Int)) ∧
            (derefK l0.a (fun i13 => fun i14 => fun h15 =>
            ∃ n16 : Int, (h15.read i13 (i14 + n6.toNat * 1) 1 = some [Cell.int IntKind.i64 n16]) ∧
            ((0 ≤ n6) ∧
            n6 < (↑l0.len : Int)) ∧
            (derefK l0.a (fun i17 => fun i18 => fun h19 => 
            (storeK [] i17 (i18 + n6.toNat * 1) [Cell.int IntKind.i64 n12] (fun h20 =>
            ((0 ≤ IntKind.i64.wrap (n6 - 1)) ∧
            IntKind.i64.wrap (n6 - 1) < (↑l0.len : Int)) ∧
            (derefK l0.a (fun i21 => fun i22 => fun h23 => 
            (storeK [] i21 (i22 + (IntKind.i64.wrap (n6 - 1)).toNat * 1) [Cell.int IntKind.i64 n16] (x5 (IntKind.i64.wrap (n6 - 1)))) h23)) h20)) h19)) h15)) h11)) h8)
            (x3 (IntKind.i64.wrap (n4 + 1))))
          (fun x24 => ifT (decide (n6 > n1))
            (fun h25 =>
            ((0 ≤ n6) ∧
            n6 < (↑l0.len : Int)) ∧
            (derefK l0.a (fun i26 => fun i27 => fun h28 =>
            ∃ n29 : Int, (h28.read i26 (i27 + n6.toNat * 1) 1 = some [Cell.int IntKind.i64 n29]) ∧
            ((0 ≤ IntKind.i64.wrap (n6 - 1)) ∧
            IntKind.i64.wrap (n6 - 1) < (↑l0.len : Int)) ∧
            (derefK l0.a (fun i30 => fun i31 => fun h32 =>
            ∃ n33 : Int, (h32.read i30 (i31 + (IntKind.i64.wrap (n6 - 1)).toNat * 1) 1 = some [Cell.int IntKind.i64 n33]) ∧
            I 165 [V.one (Cell.int IntKind.i64 n29), V.one (Cell.int IntKind.i64 n33)]
              (fun cs34 => fun h35 => 
              ∃ b36 : Bool, (cs34 = [V.one (Cell.bool b36)]) ∧
              x24 b36 h35) h32)) h28)) h25)
            (x24 false))))
      (Q []))
theorem den159 (I : FuncId → List V → Post → T) (l0 : Sl) (n1 : Int) (n2 : Int) (Q : Post) : denF Go.Proofs.Try.prog 0 (⟨[(3216, 2147418112, [(30, tk Go.Proofs.Try.prog 4)])], [(6, 562949953420480, [(6, tk Go.Proofs.Try.prog 3)]), (402, 562949953355904, [(7, tk Go.Proofs.Try.prog 3)])]⟩) I 159 [V.one (Cell.slice 1 l0), V.one (Cell.int IntKind.i64 n1), V.one (Cell.int IntKind.i64 n2)] Q = vc159 I l0 n1 n2 Q := by kernel_rfl
/-- cmp.Less[int] -/
def vc165 (I : FuncId → List V → Post → T) (n0 : Int) (n1 : Int) (Q : Post) : T :=
  fun h2 =>
  I 111 [V.one (Cell.int IntKind.i64 n0)]
    (fun cs3 => fun h4 => 
    ∃ b5 : Bool, (cs3 = [V.one (Cell.bool b5)]) ∧
    (ifT b5
      (fun h6 =>
      I 111 [V.one (Cell.int IntKind.i64 n1)]
        (fun cs7 => fun h8 => 
        ∃ b9 : Bool, (cs7 = [V.one (Cell.bool b9)]) ∧
        (ifT (!b9)
          (Q [V.one (Cell.bool true)])
          (Q [V.one (Cell.bool (decide (n0 < n1)))])) h8) h6)
      (Q [V.one (Cell.bool (decide (n0 < n1)))])) h4) h2
theorem den165 (I : FuncId → List V → Post → T) (n0 : Int) (n1 : Int) (Q : Post) : denF Go.Proofs.Try.prog 0 (⟨[], []⟩) I 165 [V.one (Cell.int IntKind.i64 n0), V.one (Cell.int IntKind.i64 n1)] Q = vc165 I n0 n1 Q := by kernel_rfl
/-- cmp.isNaN[int] -/
def vc111 (I : FuncId → List V → Post → T) (n0 : Int) (Q : Post) : T :=
  Q [V.one (Cell.bool (!decide (n0 = n0)))]
theorem den111 (I : FuncId → List V → Post → T) (n0 : Int) (Q : Post) : denF Go.Proofs.Try.prog 0 (⟨[], []⟩) I 111 [V.one (Cell.int IntKind.i64 n0)] Q = vc111 I n0 Q := by kernel_rfl
/-- slices.Values[[]int,int] -/
def vc105 (I : FuncId → List V → Post → T) (l0 : Sl) (Q : Post) : T :=
  fun h1 =>
  (newK (YtihnjdhjkpmggaaVc.Obj.cells false [Cell.slice 1 l0]) (fun i2 => Q [V.one (Cell.func (some (131, [(i2, 0)])))])) h1
theorem den105 (I : FuncId → List V → Post → T) (l0 : Sl) (Q : Post) : denF Go.Proofs.Try.prog 0 (⟨[], []⟩) I 105 [V.one (Cell.slice 1 l0)] Q = vc105 I l0 Q := by kernel_rfl
/-- handbill/handref1.QuantileOf -/
def vc53 (I : FuncId → List V → Post → T) (l0 : Sl) (n1 : Int) (n2 : Int) (Q : Post) : T :=
  ifT (decide ((↑l0.len : Int) > 10000))
    (Q [V.one (Cell.int IntKind.i64 0), V.one (Cell.int IntKind.i64 2)])
    (ifT (decide ((↑l0.len : Int) = 0))
      (Q [V.one (Cell.int IntKind.i64 0), V.one (Cell.int IntKind.i64 8)])
      (joinK (A := Bool)
        (fun b3 => ifT b3
          (Q [V.one (Cell.int IntKind.i64 0), V.one (Cell.int IntKind.i64 1)])
          (loopK (A := Bool × Int × Int) ((false, 0, 0))
            (fun x4 => uncur fun b5 => uncur fun n6 n7 => ifT (decide (n7 < (↑l0.len : Int)))
              (fun h8 =>
              ((0 ≤ n7) ∧
              n7 < (↑l0.len : Int)) ∧
              (derefK l0.a (fun i9 => fun i10 => fun h11 =>
              ∃ n12 : Int, (h11.read i9 (i10 + n7.toNat * 1) 1 = some [Cell.int IntKind.i64 n12]) ∧
              (loopK (A := Int × Int) ((0, 0))
                (fun x13 => uncur fun n14 n15 => ifT (decide (n15 < (↑l0.len : Int)))
                  (fun h16 =>
                  ((0 ≤ n15) ∧
                  n15 < (↑l0.len : Int)) ∧
                  (derefK l0.a (fun i17 => fun i18 => fun h19 =>
                  ∃ n20 : Int, (h19.read i17 (i18 + n15.toNat * 1) 1 = some [Cell.int IntKind.i64 n20]) ∧
                  (ifT (decide (n20 ≤ n12))
                    (x13 ((IntKind.i64.wrap (n14 + 1), IntKind.i64.wrap (n15 + 1))))
                    (x13 ((n14, IntKind.i64.wrap (n15 + 1))))) h19)) h16)
                  (ifT (decide (IntKind.i64.wrap (n14 * n2) ≥ IntKind.i64.wrap (n1 * (↑l0.len : Int))))
                    (ifT (!b5)
                      (x4 ((true, n12, IntKind.i64.wrap (n7 + 1))))
                      (ifT (decide (n12 < n6))
                        (x4 ((true, n12, IntKind.i64.wrap (n7 + 1))))
                        (x4 ((b5, n6, IntKind.i64.wrap (n7 + 1))))))
                    (x4 ((b5, n6, IntKind.i64.wrap (n7 + 1))))))) h11)) h8)
              (Q [V.one (Cell.int IntKind.i64 n6), V.one (Cell.int IntKind.i64 0)]))))
        (fun x21 => ifT (decide (n2 < 1))
          (x21 true)
          (ifT (decide (n2 > 1000))
            (x21 true)
            (ifT (decide (n1 < 0))
              (x21 true)
              (x21 (decide (n1 > n2))))))))
theorem den53 (I : FuncId → List V → Post → T) (l0 : Sl) (n1 : Int) (n2 : Int) (Q : Post) : denF Go.Proofs.Try.prog 0 (⟨[(414, 549747425280, [(23, tk Go.Proofs.Try.prog 4)])], [(122, 75557863723715300186880, [(8, tk Go.Proofs.Try.prog 4), (9, tk Go.Proofs.Try.prog 3), (41, tk Go.Proofs.Try.prog 3)]), (125338, 143974450587521024, [(12, tk Go.Proofs.Try.prog 3), (47, tk Go.Proofs.Try.prog 3)])]⟩) I 53 [V.one (Cell.slice 1 l0), V.one (Cell.int IntKind.i64 n1), V.one (Cell.int IntKind.i64 n2)] Q = vc53 I l0 n1 n2 Q := by kernel_rfl

end Go.Proofs.YtihnjdhjkpmggaaVc
