/- Formulas of the functions that SharesAddUp reaches beyond those of CentsShared. -/
import Derived.Test.YtihnjdhjkpmggaaVcCsSpec4
set_option linter.unusedVariables false
set_option maxRecDepth 100000
namespace Go.Proofs.YtihnjdhjkpmggaaVc
def vc15 (I : FuncId → List V → Post → T) (Q : Post) : T :=
  fun h0 =>
  I 17 [V.one (Cell.int IntKind.i64 2), V.one (Cell.int IntKind.i64 4)]
    (fun cs1 => fun h2 => 
    ∃ n3 : Int, ∃ n4 : Int, ∃ n5 : Int, (cs1 = [V.agg [Cell.int IntKind.i64 n3, Cell.int IntKind.i64 n4], V.one (Cell.int IntKind.i64 n5)]) ∧
    (ifT (decide (n5 = 0))
      (Q [V.one (Cell.bool (decide (n3 = 1) && decide (n4 = 2)))])
      (Q [V.one (Cell.bool false)])) h2) h0
theorem den15 (I : FuncId → List V → Post → T) (Q : Post) : denF Go.Proofs.Try.prog 2 (⟨[], []⟩) I 15 [] Q = vc15 I Q := by kernel_rfl
def vc17 (I : FuncId → List V → Post → T) (n0 : Int) (n1 : Int) (Q : Post) : T :=
  joinK (A := Bool)
    (fun b2 => ifT b2
      (fun h3 =>
      Q [V.agg [Cell.int IntKind.i64 0, Cell.int IntKind.i64 0], V.one (Cell.int IntKind.i64 1)] h3)
      (ifT (decide (n1 = 0))
        (fun h4 =>
        Q [V.agg [Cell.int IntKind.i64 0, Cell.int IntKind.i64 0], V.one (Cell.int IntKind.i64 8)] h4)
        (fun h5 =>
        I 64 [V.one (Cell.int IntKind.i64 n0), V.one (Cell.int IntKind.i64 n1)]
          (fun cs6 => fun h7 => 
          ∃ n8 : Int, ∃ n9 : Int, (cs6 = [V.agg [Cell.int IntKind.i64 n8, Cell.int IntKind.i64 n9]]) ∧
          Q [V.agg [Cell.int IntKind.i64 n8, Cell.int IntKind.i64 n9], V.one (Cell.int IntKind.i64 0)] h7) h5)))
    (fun x10 => fun h11 => 
    I 65 [V.one (Cell.int IntKind.i64 n0), V.one (Cell.int IntKind.i64 (-4611686018427387904)), V.one (Cell.int IntKind.i64 4611686018427387904)]
      (fun cs12 => fun h13 => 
      ∃ b14 : Bool, (cs12 = [V.one (Cell.bool b14)]) ∧
      (ifT (!b14)
        (x10 true)
        (fun h15 =>
        I 65 [V.one (Cell.int IntKind.i64 n1), V.one (Cell.int IntKind.i64 (-4611686018427387904)), V.one (Cell.int IntKind.i64 4611686018427387904)]
          (fun cs16 => fun h17 => 
          ∃ b18 : Bool, (cs16 = [V.one (Cell.bool b18)]) ∧
          x10 (!b18) h17) h15)) h13) h11)
theorem den17 (I : FuncId → List V → Post → T) (n0 : Int) (n1 : Int) (Q : Post) : denF Go.Proofs.Try.prog 16 (⟨[(24, 32704, [(6, tk Go.Proofs.Try.prog 4)])], []⟩) I 17 [V.one (Cell.int IntKind.i64 n0), V.one (Cell.int IntKind.i64 n1)] Q = vc17 I n0 n1 Q := by kernel_rfl
def vc64 (I : FuncId → List V → Post → T) (n0 : Int) (n1 : Int) (Q : Post) : T :=
  joinK (A := Int × Int)
    (uncur fun n2 n3 => fun h4 => 
    I 109 [V.one (Cell.int IntKind.i64 n2)]
      (fun cs5 => fun h6 => 
      ∃ n7 : Int, (cs5 = [V.one (Cell.int IntKind.u64 n7)]) ∧
      I 109 [V.one (Cell.int IntKind.i64 n3)]
        (fun cs8 => fun h9 => 
        ∃ n10 : Int, (cs8 = [V.one (Cell.int IntKind.u64 n10)]) ∧
        I 108 [V.one (Cell.int IntKind.u64 n7), V.one (Cell.int IntKind.u64 n10)]
          (fun cs11 => fun h12 => 
          ∃ n13 : Int, (cs11 = [V.one (Cell.int IntKind.u64 n13)]) ∧
          (IntKind.i64.wrap n13 ≠ 0) ∧
          (IntKind.i64.wrap n13 ≠ 0) ∧
          Q [V.agg [Cell.int IntKind.i64 (IntKind.i64.wrap (n2.tdiv (IntKind.i64.wrap n13))), Cell.int IntKind.i64 (IntKind.i64.wrap (n3.tdiv (IntKind.i64.wrap n13)))]] h12) h9) h6) h4)
    (fun x14 => ifT (decide (n1 < 0))
      (x14 ((IntKind.i64.wrap (0 - n0), IntKind.i64.wrap (0 - n1))))
      (x14 ((n0, n1))))
theorem den64 (I : FuncId → List V → Post → T) (n0 : Int) (n1 : Int) (Q : Post) : denF Go.Proofs.Try.prog 16 (⟨[(13, 3843, [(0, tk Go.Proofs.Try.prog 3), (1, tk Go.Proofs.Try.prog 3)])], []⟩) I 64 [V.one (Cell.int IntKind.i64 n0), V.one (Cell.int IntKind.i64 n1)] Q = vc64 I n0 n1 Q := by kernel_rfl
def vc108 (I : FuncId → List V → Post → T) (n0 : Int) (n1 : Int) (Q : Post) : T :=
  loopK (A := Int × Int) ((n0, n1))
    (fun x2 => uncur fun n3 n4 => ifT (!decide (n4 = 0))
      (fun h5 =>
      (n4 ≠ 0) ∧
      x2 ((n4, n3.tmod n4)) h5)
      (Q [V.one (Cell.int IntKind.u64 n3)]))
theorem den108 (I : FuncId → List V → Post → T) (n0 : Int) (n1 : Int) (Q : Post) : denF Go.Proofs.Try.prog 0 (⟨[], [(12, 2019, [(0, tk Go.Proofs.Try.prog 86), (1, tk Go.Proofs.Try.prog 86)])]⟩) I 108 [V.one (Cell.int IntKind.u64 n0), V.one (Cell.int IntKind.u64 n1)] Q = vc108 I n0 n1 Q := by kernel_rfl
def vc109 (I : FuncId → List V → Post → T) (n0 : Int) (Q : Post) : T :=
  ifT (decide (n0 < 0))
    (Q [V.one (Cell.int IntKind.u64 (IntKind.u64.wrap (0 - IntKind.u64.wrap n0)))])
    (Q [V.one (Cell.int IntKind.u64 (IntKind.u64.wrap n0))])
theorem den109 (I : FuncId → List V → Post → T) (n0 : Int) (Q : Post) : denF Go.Proofs.Try.prog 0 (⟨[], []⟩) I 109 [V.one (Cell.int IntKind.i64 n0)] Q = vc109 I n0 Q := by kernel_rfl
def vc65 (I : FuncId → List V → Post → T) (n0 : Int) (n1 : Int) (n2 : Int) (Q : Post) : T :=
  ifT (decide (n1 ≤ n0))
    (Q [V.one (Cell.bool (decide (n0 ≤ n2)))])
    (Q [V.one (Cell.bool false)])
theorem den65 (I : FuncId → List V → Post → T) (n0 : Int) (n1 : Int) (n2 : Int) (Q : Post) : denF Go.Proofs.Try.prog 0 (⟨[], []⟩) I 65 [V.one (Cell.int IntKind.i64 n0), V.one (Cell.int IntKind.i64 n1), V.one (Cell.int IntKind.i64 n2)] Q = vc65 I n0 n1 n2 Q := by kernel_rfl
def vc54 (I : FuncId → List V → Post → T) (p0 : Option (Nat × Nat)) (Q : Post) : T :=
  fun h1 =>
  I 12 [V.one (Cell.ptr p0), V.one (Cell.int IntKind.i64 14)]
    (fun cs2 => fun h3 => 
    ∃ n4 : Int, (cs2 = [V.one (Cell.int IntKind.i64 n4)]) ∧
    (loopK (A := Sl × Int) (({ a := none, len := 0 }, 0))
      (fun x5 => uncur fun l6 n7 => ifT (decide (n7 < n4))
        (fun h8 =>
        (newK (YtihnjdhjkpmggaaVc.Obj.cells false [Cell.int IntKind.i64 0, Cell.int IntKind.i64 1, Cell.int IntKind.i64 1, Cell.int IntKind.i64 2, Cell.int IntKind.i64 3, Cell.int IntKind.i64 262144, Cell.int IntKind.i64 1000000]) (fun i9 => fun h10 =>
        I 30 [V.one (Cell.ptr p0), V.one (Cell.slice 1 { a := some (i9, 0), len := 7 })]
          (fun cs11 => fun h12 => 
          ∃ n13 : Int, (cs11 = [V.one (Cell.int IntKind.i64 n13)]) ∧
          (appendTo [] 1 8 l6 1 [Cell.int IntKind.i64 n13] (fun l14 => fun h15 => 
          x5 ((l14, IntKind.i64.wrap (n7 + 1))) h15)) h12) h10)) h8)
        (fun h16 =>
        I 67 [V.one (Cell.ptr p0), V.one (Cell.int IntKind.i64 15)]
          (fun cs17 => fun h18 => 
          ∃ b19 : Bool, (cs17 = [V.one (Cell.bool b19)]) ∧
          (ifT b19
            (fun h20 =>
            (newK (YtihnjdhjkpmggaaVc.Obj.cells false [Cell.int IntKind.i64 (-1), Cell.int IntKind.i64 1000001]) (fun i21 => fun h22 =>
            I 30 [V.one (Cell.ptr p0), V.one (Cell.slice 1 { a := some (i21, 0), len := 2 })]
              (fun cs23 => fun h24 => 
              ∃ n25 : Int, (cs23 = [V.one (Cell.int IntKind.i64 n25)]) ∧
              (appendTo [] 1 8 l6 1 [Cell.int IntKind.i64 n25] (fun l26 => fun h27 => 
              Q [V.one (Cell.slice 1 l26)] h27)) h24) h22)) h20)
            (Q [V.one (Cell.slice 1 l6)])) h18) h16))) h3) h1
theorem den54 (I : FuncId → List V → Post → T) (p0 : Option (Nat × Nat)) (Q : Post) : denF Go.Proofs.Try.prog 0 (⟨[], [(58, 32712, [(3, tk Go.Proofs.Try.prog 22), (6, tk Go.Proofs.Try.prog 3)])]⟩) I 54 [V.one (Cell.ptr p0)] Q = vc54 I p0 Q := by kernel_rfl
def vc56 (I : FuncId → List V → Post → T) (l0 : Sl) (Q : Post) : T :=
  fun h1 =>
  I 106 [V.one (Cell.slice 1 l0)]
    (fun cs2 => fun h3 => 
    ∃ n4 : Int, (cs2 = [V.one (Cell.int IntKind.i64 n4)]) ∧
    (ifT (!decide (n4 = 0))
      (Q [V.one (Cell.slice 2 { a := none, len := 0 }), V.one (Cell.int IntKind.i64 n4)])
      (fun h5 =>
      I 61 [V.one (Cell.slice 1 l0)]
        (fun cs6 => fun h7 => 
        ∃ n8 : Int, (cs6 = [V.one (Cell.int IntKind.i64 n8)]) ∧
        (loopK (A := Sl × Int) (({ a := none, len := 0 }, 0))
          (fun x9 => uncur fun l10 n11 => ifT (decide (n11 < (↑l0.len : Int)))
            (fun h12 =>
            ((0 ≤ n11) ∧
            n11 < (↑l0.len : Int)) ∧
            (derefK l0.a (fun i13 => fun i14 => fun h15 =>
            ∃ n16 : Int, (h15.read i13 (i14 + n11.toNat * 1) 1 = some [Cell.int IntKind.i64 n16]) ∧
            I 64 [V.one (Cell.int IntKind.i64 n16), V.one (Cell.int IntKind.i64 n8)]
              (fun cs17 => fun h18 => 
              ∃ n19 : Int, ∃ n20 : Int, (cs17 = [V.agg [Cell.int IntKind.i64 n19, Cell.int IntKind.i64 n20]]) ∧
              (appendTo [] 2 16 l10 1 [Cell.int IntKind.i64 n19, Cell.int IntKind.i64 n20] (fun l21 => fun h22 => 
              x9 ((l21, IntKind.i64.wrap (n11 + 1))) h22)) h18) h15)) h12)
            (Q [V.one (Cell.slice 2 l10), V.one (Cell.int IntKind.i64 0)]))) h7) h5)) h3) h1
theorem den56 (I : FuncId → List V → Post → T) (l0 : Sl) (Q : Post) : denF Go.Proofs.Try.prog 0 (⟨[], [(250, 536609088, [(6, tk Go.Proofs.Try.prog 71), (18, tk Go.Proofs.Try.prog 3)])]⟩) I 56 [V.one (Cell.slice 1 l0)] Q = vc56 I l0 Q := by kernel_rfl
def vc61 (I : FuncId → List V → Post → T) (l0 : Sl) (Q : Post) : T :=
  loopK (A := Int × Int) ((0, 0))
    (fun x1 => uncur fun n2 n3 => ifT (decide (n3 < (↑l0.len : Int)))
      (fun h4 =>
      ((0 ≤ n3) ∧
      n3 < (↑l0.len : Int)) ∧
      (derefK l0.a (fun i5 => fun i6 => fun h7 =>
      ∃ n8 : Int, (h7.read i5 (i6 + n3.toNat * 1) 1 = some [Cell.int IntKind.i64 n8]) ∧
      x1 ((IntKind.i64.wrap (n2 + n8), IntKind.i64.wrap (n3 + 1))) h7)) h4)
      (Q [V.one (Cell.int IntKind.i64 n2)]))
theorem den61 (I : FuncId → List V → Post → T) (l0 : Sl) (Q : Post) : denF Go.Proofs.Try.prog 0 (⟨[], [(58, 65320, [(3, tk Go.Proofs.Try.prog 3), (8, tk Go.Proofs.Try.prog 3)])]⟩) I 61 [V.one (Cell.slice 1 l0)] Q = vc61 I l0 Q := by kernel_rfl
def vc106 (I : FuncId → List V → Post → T) (l0 : Sl) (Q : Post) : T :=
  ifT (decide ((↑l0.len : Int) > 12))
    (Q [V.one (Cell.int IntKind.i64 2)])
    (loopK (A := Int) 0
      (fun x1 => fun n2 => ifT (decide (n2 < (↑l0.len : Int)))
        (fun h3 =>
        ((0 ≤ n2) ∧
        n2 < (↑l0.len : Int)) ∧
        (derefK l0.a (fun i4 => fun i5 => fun h6 =>
        ∃ n7 : Int, (h6.read i4 (i5 + n2.toNat * 1) 1 = some [Cell.int IntKind.i64 n7]) ∧
        I 65 [V.one (Cell.int IntKind.i64 n7), V.one (Cell.int IntKind.i64 0), V.one (Cell.int IntKind.i64 1000000)]
          (fun cs8 => fun h9 => 
          ∃ b10 : Bool, (cs8 = [V.one (Cell.bool b10)]) ∧
          (ifT (!b10)
            (Q [V.one (Cell.int IntKind.i64 1)])
            (x1 (IntKind.i64.wrap (n2 + 1)))) h9) h6)) h3)
        (fun h11 =>
        I 61 [V.one (Cell.slice 1 l0)]
          (fun cs12 => fun h13 => 
          ∃ n14 : Int, (cs12 = [V.one (Cell.int IntKind.i64 n14)]) ∧
          (ifT (decide (n14 = 0))
            (Q [V.one (Cell.int IntKind.i64 8)])
            (Q [V.one (Cell.int IntKind.i64 0)])) h13) h11)))
theorem den106 (I : FuncId → List V → Post → T) (l0 : Sl) (Q : Post) : denF Go.Proofs.Try.prog 0 (⟨[], [(58, 261140, [(10, tk Go.Proofs.Try.prog 3)])]⟩) I 106 [V.one (Cell.slice 1 l0)] Q = vc106 I l0 Q := by kernel_rfl
def vc57 (I : FuncId → List V → Post → T) (n0 : Int) (l1 : Sl) (Q : Post) : T :=
  fun h2 =>
  I 65 [V.one (Cell.int IntKind.i64 n0), V.one (Cell.int IntKind.i64 0), V.one (Cell.int IntKind.i64 1000000000000)]
    (fun cs3 => fun h4 => 
    ∃ b5 : Bool, (cs3 = [V.one (Cell.bool b5)]) ∧
    (ifT (!b5)
      (Q [V.one (Cell.slice 1 { a := none, len := 0 }), V.one (Cell.int IntKind.i64 1)])
      (fun h6 =>
      I 106 [V.one (Cell.slice 1 l1)]
        (fun cs7 => fun h8 => 
        ∃ n9 : Int, (cs7 = [V.one (Cell.int IntKind.i64 n9)]) ∧
        (ifT (!decide (n9 = 0))
          (Q [V.one (Cell.slice 1 { a := none, len := 0 }), V.one (Cell.int IntKind.i64 n9)])
          (fun h10 =>
          I 107 [V.one (Cell.int IntKind.i64 n0), V.one (Cell.slice 1 l1)]
            (fun cs11 => fun h12 => 
            ∃ l13 : Sl, (cs11 = [V.one (Cell.slice 1 l13)]) ∧
            Q [V.one (Cell.slice 1 l13), V.one (Cell.int IntKind.i64 0)] h12) h10)) h8) h6)) h4) h2
theorem den57 (I : FuncId → List V → Post → T) (n0 : Int) (l1 : Sl) (Q : Post) : denF Go.Proofs.Try.prog 0 (⟨[], []⟩) I 57 [V.one (Cell.int IntKind.i64 n0), V.one (Cell.slice 1 l1)] Q = vc57 I n0 l1 Q := by kernel_rfl
def vc107 (I : FuncId → List V → Post → T) (n0 : Int) (l1 : Sl) (Q : Post) : T :=
  fun h2 =>
  (newK (YtihnjdhjkpmggaaVc.Obj.cells false [Cell.int IntKind.i64 n0]) (fun i3 => fun h4 => 
  (newK (YtihnjdhjkpmggaaVc.Obj.cells false [Cell.slice 1 l1]) (fun i5 => fun h6 =>
  ∃ l7 : Sl, (h6.read i5 0 1 = some [Cell.slice 1 l7]) ∧
  I 61 [V.one (Cell.slice 1 l7)]
    (fun cs8 => fun h9 => 
    ∃ n10 : Int, (cs8 = [V.one (Cell.int IntKind.i64 n10)]) ∧
    (newK (YtihnjdhjkpmggaaVc.Obj.cells false [Cell.int IntKind.i64 0]) (fun i11 => fun h12 => 
    (storeK [] i11 0 [Cell.int IntKind.i64 n10] (fun h13 =>
    ∃ n14 : Int, (h13.read i3 0 1 = some [Cell.int IntKind.i64 n14]) ∧
    ∃ l15 : Sl, (h13.read i5 0 1 = some [Cell.slice 1 l15]) ∧
    (loopK (A := Int × Sl × Sl × Int) ((n14, { a := none, len := 0 }, { a := none, len := 0 }, 0))
      (fun x16 => uncur fun n17 => uncur fun l18 => uncur fun l19 n20 => ifT (decide (n20 < (↑l15.len : Int)))
        (fun h21 =>
        ((0 ≤ n20) ∧
        n20 < (↑l15.len : Int)) ∧
        (derefK l15.a (fun i22 => fun i23 => fun h24 =>
        ∃ n25 : Int, (h24.read i22 (i23 + n20.toNat * 1) 1 = some [Cell.int IntKind.i64 n25]) ∧
        ∃ n26 : Int, (h24.read i3 0 1 = some [Cell.int IntKind.i64 n26]) ∧
        ∃ n27 : Int, (h24.read i11 0 1 = some [Cell.int IntKind.i64 n27]) ∧
        (n27 ≠ 0) ∧
        (appendTo [] 1 8 l18 1 [Cell.int IntKind.i64 (IntKind.i64.wrap ((IntKind.i64.wrap (n26 * n25)).tdiv n27))] (fun l28 => fun h29 => 
        (appendTo [] 1 8 l19 1 [Cell.int IntKind.i64 n20] (fun l30 => fun h31 => 
        ((0 ≤ n20) ∧
        n20 < (↑l28.len : Int)) ∧
        (derefK l28.a (fun i32 => fun i33 => fun h34 =>
        ∃ n35 : Int, (h34.read i32 (i33 + n20.toNat * 1) 1 = some [Cell.int IntKind.i64 n35]) ∧
        x16 ((IntKind.i64.wrap (n17 - n35), l28, l30, IntKind.i64.wrap (n20 + 1))) h34)) h31)) h29)) h24)) h21)
        (fun h36 =>
        I 132 [V.one (Cell.slice 1 l19), V.one (Cell.func (some (133, [(i3, 0), (i5, 0), (i11, 0)])))]
          (fun cs37 => fun h38 => 
          (cs37 = []) ∧
          (((0 : Int) ≤ (0 : Int)) ∧
          (0 ≤ n17) ∧
          n17 ≤ (↑l19.len : Int)) ∧
          (loopK (A := Int) 0
            (fun x39 => fun n40 => ifT (decide (n40 < (↑(l19.sub 1 0 n17.toNat).len : Int)))
              (fun h41 =>
              ((0 ≤ n40) ∧
              n40 < (↑(l19.sub 1 0 n17.toNat).len : Int)) ∧
              (derefK ((l19.sub 1 0 n17.toNat).a) (fun i42 => fun i43 => fun h44 =>
              ∃ n45 : Int, (h44.read i42 (i43 + n40.toNat * 1) 1 = some [Cell.int IntKind.i64 n45]) ∧
              ((0 ≤ n45) ∧
              n45 < (↑l18.len : Int)) ∧
              (derefK l18.a (fun i46 => fun i47 => fun h48 =>
              ∃ n49 : Int, (h48.read i46 (i47 + n45.toNat * 1) 1 = some [Cell.int IntKind.i64 n49]) ∧
              ((0 ≤ n45) ∧
              n45 < (↑l18.len : Int)) ∧
              (derefK l18.a (fun i50 => fun i51 => fun h52 => 
              (storeK [] i50 (i51 + n45.toNat * 1) [Cell.int IntKind.i64 (IntKind.i64.wrap (n49 + 1))] (x39 (IntKind.i64.wrap (n40 + 1)))) h52)) h48)) h44)) h41)
              (Q [V.one (Cell.slice 1 l18)]))) h38) h36))) h13)) h12)) h9) h6)) h4)) h2
theorem den107 (I : FuncId → List V → Post → T) (n0 : Int) (l1 : Sl) (Q : Post) : denF Go.Proofs.Try.prog 0 (⟨[], [(250, 4398046250944, [(6, tk Go.Proofs.Try.prog 3), (7, tk Go.Proofs.Try.prog 22), (8, tk Go.Proofs.Try.prog 22), (18, tk Go.Proofs.Try.prog 3)]), (1018, 1152358554653429760, [(49, tk Go.Proofs.Try.prog 3)])]⟩) I 107 [V.one (Cell.int IntKind.i64 n0), V.one (Cell.slice 1 l1)] Q = vc107 I n0 l1 Q := by kernel_rfl
def vc132 (I : FuncId → List V → Post → T) (l0 : Sl) (p1 : Option (Nat × List (Nat × Nat))) (Q : Post) : T :=
  fun h2 =>
  I 151 [V.one (Cell.int IntKind.u64 (IntKind.u64.wrap (↑l0.len : Int)))]
    (fun cs3 => fun h4 => 
    ∃ n5 : Int, (cs3 = [V.one (Cell.int IntKind.i64 n5)]) ∧
    I 152 [V.one (Cell.slice 1 l0), V.one (Cell.int IntKind.i64 0), V.one (Cell.int IntKind.i64 (↑l0.len : Int)), V.one (Cell.int IntKind.i64 n5), V.one (Cell.func p1)]
      (fun cs6 => fun h7 => 
      (cs6 = []) ∧
      Q [] h7) h4) h2
theorem den132 (I : FuncId → List V → Post → T) (l0 : Sl) (p1 : Option (Nat × List (Nat × Nat))) (Q : Post) : denF Go.Proofs.Try.prog 0 (⟨[], []⟩) I 132 [V.one (Cell.slice 1 l0), V.one (Cell.func p1)] Q = vc132 I l0 p1 Q := by kernel_rfl
def vc151 (I : FuncId → List V → Post → T) (n0 : Int) (Q : Post) : T :=
  fun h1 =>
  I 155 [V.one (Cell.int IntKind.u64 n0)]
    (fun cs2 => fun h3 => 
    ∃ n4 : Int, (cs2 = [V.one (Cell.int IntKind.i64 n4)]) ∧
    Q [V.one (Cell.int IntKind.i64 n4)] h3) h1
theorem den151 (I : FuncId → List V → Post → T) (n0 : Int) (Q : Post) : denF Go.Proofs.Try.prog 0 (⟨[], []⟩) I 151 [V.one (Cell.int IntKind.u64 n0)] Q = vc151 I n0 Q := by kernel_rfl
def vc152 (I : FuncId → List V → Post → T) (l0 : Sl) (n1 : Int) (n2 : Int) (n3 : Int) (p4 : Option (Nat × List (Nat × Nat))) (Q : Post) : T :=
  loopK (A := Int × Int × Int × Bool × Bool) ((n1, n2, n3, true, true))
    (fun x5 => uncur fun n6 => uncur fun n7 => uncur fun n8 => uncur fun b9 b10 => ifT (decide (IntKind.i64.wrap (n7 - n6) ≤ 12))
      (fun h11 =>
      I 157 [V.one (Cell.slice 1 l0), V.one (Cell.int IntKind.i64 n6), V.one (Cell.int IntKind.i64 n7), V.one (Cell.func p4)]
        (fun cs12 => fun h13 => 
        (cs12 = []) ∧
        Q [] h13) h11)
      (ifT (decide (n8 = 0))
        (fun h14 =>
        I 169 [V.one (Cell.slice 1 l0), V.one (Cell.int IntKind.i64 n6), V.one (Cell.int IntKind.i64 n7), V.one (Cell.func p4)]
          (fun cs15 => fun h16 => 
          (cs15 = []) ∧
          Q [] h16) h14)
        (joinK (A := Int)
          (fun n17 => fun h18 => 
          I 171 [V.one (Cell.slice 1 l0), V.one (Cell.int IntKind.i64 n6), V.one (Cell.int IntKind.i64 n7), V.one (Cell.func p4)]
            (fun cs19 => fun h20 => 
            ∃ n21 : Int, ∃ n22 : Int, (cs19 = [V.one (Cell.int IntKind.i64 n21), V.one (Cell.int IntKind.i64 n22)]) ∧
            (joinK (A := Int × Int)
              (uncur fun n23 n24 => joinK (A := Bool)
                (fun b25 => joinK (A := PUnit)
                  (fun x26 => joinK (A := Bool)
                    (fun b27 => ifT b27
                      (fun h28 =>
                      I 174 [V.one (Cell.slice 1 l0), V.one (Cell.int IntKind.i64 n6), V.one (Cell.int IntKind.i64 n7), V.one (Cell.int IntKind.i64 n23), V.one (Cell.func p4)]
                        (fun cs29 => fun h30 => 
                        ∃ n31 : Int, (cs29 = [V.one (Cell.int IntKind.i64 n31)]) ∧
                        x5 ((n31, n7, n17, b9, b10)) h30) h28)
                      (fun h32 =>
                      I 175 [V.one (Cell.slice 1 l0), V.one (Cell.int IntKind.i64 n6), V.one (Cell.int IntKind.i64 n7), V.one (Cell.int IntKind.i64 n23), V.one (Cell.func p4)]
                        (fun cs33 => fun h34 => 
                        ∃ n35 : Int, ∃ b36 : Bool, (cs33 = [V.one (Cell.int IntKind.i64 n35), V.one (Cell.bool b36)]) ∧
                        (ifT (decide (IntKind.i64.wrap (n35 - n6) < IntKind.i64.wrap (n7 - n35)))
                          (fun h37 =>
                          I 152 [V.one (Cell.slice 1 l0), V.one (Cell.int IntKind.i64 n6), V.one (Cell.int IntKind.i64 n35), V.one (Cell.int IntKind.i64 n17), V.one (Cell.func p4)]
                            (fun cs38 => fun h39 => 
                            (cs38 = []) ∧
                            x5 ((IntKind.i64.wrap (n35 + 1), n7, n17, decide (IntKind.i64.wrap (n35 - n6) ≥ IntKind.i64.wrap ((IntKind.i64.wrap (n7 - n6)).tdiv 8)), b36)) h39) h37)
                          (fun h40 =>
                          I 152 [V.one (Cell.slice 1 l0), V.one (Cell.int IntKind.i64 (IntKind.i64.wrap (n35 + 1))), V.one (Cell.int IntKind.i64 n7), V.one (Cell.int IntKind.i64 n17), V.one (Cell.func p4)]
                            (fun cs41 => fun h42 => 
                            (cs41 = []) ∧
                            x5 ((n6, n35, n17, decide (IntKind.i64.wrap (n7 - n35) ≥ IntKind.i64.wrap ((IntKind.i64.wrap (n7 - n6)).tdiv 8)), b36)) h42) h40)) h34) h32))
                    (fun x43 => ifT (decide (n6 > 0))
                      (fun h44 =>
                      ((0 ≤ IntKind.i64.wrap (n6 - 1)) ∧
                      IntKind.i64.wrap (n6 - 1) < (↑l0.len : Int)) ∧
                      (derefK l0.a (fun i45 => fun i46 => fun h47 =>
                      ∃ n48 : Int, (h47.read i45 (i46 + (IntKind.i64.wrap (n6 - 1)).toNat * 1) 1 = some [Cell.int IntKind.i64 n48]) ∧
                      ((0 ≤ n23) ∧
                      n23 < (↑l0.len : Int)) ∧
                      (derefK l0.a (fun i49 => fun i50 => fun h51 =>
                      ∃ n52 : Int, (h51.read i49 (i50 + n23.toNat * 1) 1 = some [Cell.int IntKind.i64 n52]) ∧
                      (funK p4 (fun i53 => fun cs54 => fun h55 => 
                      I i53 (V.one (Cell.int IntKind.i64 n48) :: V.one (Cell.int IntKind.i64 n52) :: cs54)
                        (fun cs56 => fun h57 => 
                        ∃ n58 : Int, (cs56 = [V.one (Cell.int IntKind.i64 n58)]) ∧
                        x43 (!decide (n58 < 0)) h57) h55)) h51)) h47)) h44)
                      (x43 false)))
                  (fun x59 => ifT b25
                    (fun h60 =>
                    I 173 [V.one (Cell.slice 1 l0), V.one (Cell.int IntKind.i64 n6), V.one (Cell.int IntKind.i64 n7), V.one (Cell.func p4)]
                      (fun cs61 => fun h62 => 
                      ∃ b63 : Bool, (cs61 = [V.one (Cell.bool b63)]) ∧
                      (ifT b63
                        (Q [])
                        (x59 ())) h62) h60)
                    (x59 ())))
                (fun x64 => ifT b9
                  (ifT b10
                    (x64 (decide (n24 = 1)))
                    (x64 false))
                  (x64 false)))
              (fun x65 => ifT (decide (n22 = 2))
                (fun h66 =>
                I 172 [V.one (Cell.slice 1 l0), V.one (Cell.int IntKind.i64 n6), V.one (Cell.int IntKind.i64 n7), V.one (Cell.func p4)]
                  (fun cs67 => fun h68 => 
                  (cs67 = []) ∧
                  x65 ((IntKind.i64.wrap (IntKind.i64.wrap (n7 - 1) - IntKind.i64.wrap (n21 - n6)), 1)) h68) h66)
                (x65 ((n21, n22))))) h20) h18)
          (fun x69 => ifT (!b9)
            (fun h70 =>
            I 170 [V.one (Cell.slice 1 l0), V.one (Cell.int IntKind.i64 n6), V.one (Cell.int IntKind.i64 n7), V.one (Cell.func p4)]
              (fun cs71 => fun h72 => 
              (cs71 = []) ∧
              x69 (IntKind.i64.wrap (n8 - 1)) h72) h70)
            (x69 n8)))))
theorem den152 (I : FuncId → List V → Post → T) (l0 : Sl) (n1 : Int) (n2 : Int) (n3 : Int) (p4 : Option (Nat × List (Nat × Nat))) (Q : Post) : denF Go.Proofs.Try.prog 0 (⟨[(1821, 139637976727560, [(3, tk Go.Proofs.Try.prog 3)]), (7293, 295003789991276994560, [(13, tk Go.Proofs.Try.prog 3), (14, tk Go.Proofs.Try.prog 153)]), (14588, 75262715820734970593280, [(75, tk Go.Proofs.Try.prog 4)]), (14589, 2342293775503344025993216, []), (29180, 316910232205418121115826388992, [(97, tk Go.Proofs.Try.prog 4)])], [(14, 356811923176489970264571492362373784095685646, [(1, tk Go.Proofs.Try.prog 3), (2, tk Go.Proofs.Try.prog 3), (3, tk Go.Proofs.Try.prog 3), (10, tk Go.Proofs.Try.prog 4), (11, tk Go.Proofs.Try.prog 4)])]⟩) I 152 [V.one (Cell.slice 1 l0), V.one (Cell.int IntKind.i64 n1), V.one (Cell.int IntKind.i64 n2), V.one (Cell.int IntKind.i64 n3), V.one (Cell.func p4)] Q = vc152 I l0 n1 n2 n3 p4 Q := by kernel_rfl
def vc133 (I : FuncId → List V → Post → T) (n0 : Int) (n1 : Int) (i2 : Nat) (i3 : Nat) (i4 : Nat) (i5 : Nat) (i6 : Nat) (i7 : Nat) (Q : Post) : T :=
  fun h8 =>
  ∃ n9 : Int, (h8.read i2 i3 1 = some [Cell.int IntKind.i64 n9]) ∧
  ∃ l10 : Sl, (h8.read i4 i5 1 = some [Cell.slice 1 l10]) ∧
  ((0 ≤ n1) ∧
  n1 < (↑l10.len : Int)) ∧
  (derefK l10.a (fun i11 => fun i12 => fun h13 =>
  ∃ n14 : Int, (h13.read i11 (i12 + n1.toNat * 1) 1 = some [Cell.int IntKind.i64 n14]) ∧
  ∃ n15 : Int, (h13.read i6 i7 1 = some [Cell.int IntKind.i64 n15]) ∧
  (n15 ≠ 0) ∧
  ∃ n16 : Int, (h13.read i2 i3 1 = some [Cell.int IntKind.i64 n16]) ∧
  ∃ l17 : Sl, (h13.read i4 i5 1 = some [Cell.slice 1 l17]) ∧
  ((0 ≤ n0) ∧
  n0 < (↑l17.len : Int)) ∧
  (derefK l17.a (fun i18 => fun i19 => fun h20 =>
  ∃ n21 : Int, (h20.read i18 (i19 + n0.toNat * 1) 1 = some [Cell.int IntKind.i64 n21]) ∧
  ∃ n22 : Int, (h20.read i6 i7 1 = some [Cell.int IntKind.i64 n22]) ∧
  (n22 ≠ 0) ∧
  I 71 [V.one (Cell.int IntKind.i64 ((IntKind.i64.wrap (n9 * n14)).tmod n15)), V.one (Cell.int IntKind.i64 ((IntKind.i64.wrap (n16 * n21)).tmod n22))]
    (fun cs23 => fun h24 => 
    ∃ n25 : Int, (cs23 = [V.one (Cell.int IntKind.i64 n25)]) ∧
    I 71 [V.one (Cell.int IntKind.i64 n1), V.one (Cell.int IntKind.i64 n0)]
      (fun cs26 => fun h27 => 
      ∃ n28 : Int, (cs26 = [V.one (Cell.int IntKind.i64 n28)]) ∧
      (newK (YtihnjdhjkpmggaaVc.Obj.cells false [Cell.int IntKind.i64 n25, Cell.int IntKind.i64 n28]) (fun i29 => fun h30 =>
      I 116 [V.one (Cell.slice 1 { a := some (i29, 0), len := 2 })]
        (fun cs31 => fun h32 => 
        ∃ n33 : Int, (cs31 = [V.one (Cell.int IntKind.i64 n33)]) ∧
        Q [V.one (Cell.int IntKind.i64 n33)] h32) h30)) h27) h24) h20)) h13)) h8
theorem den133 (I : FuncId → List V → Post → T) (n0 : Int) (n1 : Int) (i2 : Nat) (i3 : Nat) (i4 : Nat) (i5 : Nat) (i6 : Nat) (i7 : Nat) (Q : Post) : denF Go.Proofs.Try.prog 0 (⟨[], []⟩) I 133 [V.one (Cell.int IntKind.i64 n0), V.one (Cell.int IntKind.i64 n1), V.one (Cell.ptr (some (i2, i3))), V.one (Cell.ptr (some (i4, i5))), V.one (Cell.ptr (some (i6, i7)))] Q = vc133 I n0 n1 i2 i3 i4 i5 i6 i7 Q := by kernel_rfl
def vc58 (I : FuncId → List V → Post → T) (l0 : Sl) (Q : Post) : T :=
  loopK (A := Int × Int) ((0, 0))
    (fun x1 => uncur fun n2 n3 => ifT (decide (n3 < (↑l0.len : Int)))
      (fun h4 =>
      ((0 ≤ n3) ∧
      n3 < (↑l0.len : Int)) ∧
      (derefK l0.a (fun i5 => fun i6 => fun h7 =>
      ∃ n8 : Int, (h7.read i5 (i6 + n3.toNat * 1) 1 = some [Cell.int IntKind.i64 n8]) ∧
      x1 ((IntKind.i64.wrap (n2 + n8), IntKind.i64.wrap (n3 + 1))) h7)) h4)
      (Q [V.one (Cell.int IntKind.i64 n2)]))
theorem den58 (I : FuncId → List V → Post → T) (l0 : Sl) (Q : Post) : denF Go.Proofs.Try.prog 0 (⟨[], [(58, 65320, [(3, tk Go.Proofs.Try.prog 3), (8, tk Go.Proofs.Try.prog 3)])]⟩) I 58 [V.one (Cell.slice 1 l0)] Q = vc58 I l0 Q := by kernel_rfl
def vc11 (I : FuncId → List V → Post → T) (l0 : Sl) (n1 : Int) (Q : Post) : T :=
  fun h2 =>
  (newK (YtihnjdhjkpmggaaVc.Obj.cells false [Cell.slice 1 l0, Cell.int IntKind.i64 0]) (fun i3 => fun h4 => 
  I 54 [V.one (Cell.ptr (some (i3, 0)))]
    (fun cs5 => fun h6 => 
    ∃ l7 : Sl, (cs5 = [V.one (Cell.slice 1 l7)]) ∧
    I 55 [V.one (Cell.int IntKind.i64 n1), V.one (Cell.int IntKind.i64 1000000000001)]
      (fun cs8 => fun h9 => 
      ∃ n10 : Int, (cs8 = [V.one (Cell.int IntKind.i64 n10)]) ∧
      I 56 [V.one (Cell.slice 1 l7)]
        (fun cs11 => fun h12 => 
        ∃ l13 : Sl, ∃ n14 : Int, (cs11 = [V.one (Cell.slice 2 l13), V.one (Cell.int IntKind.i64 n14)]) ∧
        I 57 [V.one (Cell.int IntKind.i64 n10), V.one (Cell.slice 1 l7)]
          (fun cs15 => fun h16 => 
          ∃ l17 : Sl, ∃ n18 : Int, (cs15 = [V.one (Cell.slice 1 l17), V.one (Cell.int IntKind.i64 n18)]) ∧
          (ifT (!decide (n14 = n18))
            (Q [V.one (Cell.bool false)])
            (ifT (!decide (n14 = 0))
              (fun h19 =>
              I 15 []
                (fun cs20 => fun h21 => 
                ∃ b22 : Bool, (cs20 = [V.one (Cell.bool b22)]) ∧
                Q [V.one (Cell.bool b22)] h21) h19)
              (fun h23 =>
              I 58 [V.one (Cell.slice 1 l7)]
                (fun cs24 => fun h25 => 
                ∃ n26 : Int, (cs24 = [V.one (Cell.int IntKind.i64 n26)]) ∧
                (loopK (A := Int × Int) ((0, 0))
                  (fun x27 => uncur fun n28 n29 => ifT (decide (n29 < (↑l13.len : Int)))
                    (fun h30 =>
                    ((0 ≤ n29) ∧
                    n29 < (↑l13.len : Int)) ∧
                    (derefK l13.a (fun i31 => fun i32 => fun h33 =>
                    ∃ n34 : Int, ∃ n35 : Int, (h33.read i31 (i32 + n29.toNat * 2) 2 = some [Cell.int IntKind.i64 n34, Cell.int IntKind.i64 n35]) ∧
                    (ifT (decide (n35 < 1))
                      (Q [V.one (Cell.bool false)])
                      (fun h36 =>
                      (n35 ≠ 0) ∧
                      (ifT (!decide (n26.tmod n35 = 0))
                        (Q [V.one (Cell.bool false)])
                        (fun h37 =>
                        (n35 ≠ 0) ∧
                        ((0 ≤ n29) ∧
                        n29 < (↑l7.len : Int)) ∧
                        (derefK l7.a (fun i38 => fun i39 => fun h40 =>
                        ∃ n41 : Int, (h40.read i38 (i39 + n29.toNat * 1) 1 = some [Cell.int IntKind.i64 n41]) ∧
                        (ifT (!decide (IntKind.i64.wrap (n34 * IntKind.i64.wrap (n26.tdiv n35)) = n41))
                          (Q [V.one (Cell.bool false)])
                          (fun h42 =>
                          (n35 ≠ 0) ∧
                          x27 ((IntKind.i64.wrap (n28 + IntKind.i64.wrap (n34 * IntKind.i64.wrap (n26.tdiv n35))), IntKind.i64.wrap (n29 + 1))) h42)) h40)) h37)) h36)) h33)) h30)
                    (fun h43 =>
                    I 15 []
                      (fun cs44 => fun h45 => 
                      ∃ b46 : Bool, (cs44 = [V.one (Cell.bool b46)]) ∧
                      (ifT b46
                        (ifT (decide (n28 = n26))
                          (fun h47 =>
                          I 58 [V.one (Cell.slice 1 l17)]
                            (fun cs48 => fun h49 => 
                            ∃ n50 : Int, (cs48 = [V.one (Cell.int IntKind.i64 n50)]) ∧
                            Q [V.one (Cell.bool (decide (n50 = n10)))] h49) h47)
                          (Q [V.one (Cell.bool false)]))
                        (Q [V.one (Cell.bool false)])) h45) h43))) h25) h23))) h16) h12) h9) h6) h4)) h2
theorem den11 (I : FuncId → List V → Post → T) (l0 : Sl) (n1 : Int) (Q : Post) : denF Go.Proofs.Try.prog 16384 (⟨[], [(8186, 4835703278449720605829136, [(11, tk Go.Proofs.Try.prog 3), (43, tk Go.Proofs.Try.prog 3)])]⟩) I 11 [V.one (Cell.slice 1 l0), V.one (Cell.int IntKind.i64 n1)] Q = vc11 I l0 n1 Q := by kernel_rfl
def vc71 (I : FuncId → List V → Post → T) (n0 : Int) (n1 : Int) (Q : Post) : T :=
  fun h2 =>
  I 111 [V.one (Cell.int IntKind.i64 n0)]
    (fun cs3 => fun h4 => 
    ∃ b5 : Bool, (cs3 = [V.one (Cell.bool b5)]) ∧
    I 111 [V.one (Cell.int IntKind.i64 n1)]
      (fun cs6 => fun h7 => 
      ∃ b8 : Bool, (cs6 = [V.one (Cell.bool b8)]) ∧
      (ifT b5
        (ifT b8
          (Q [V.one (Cell.int IntKind.i64 0)])
          (Q [V.one (Cell.int IntKind.i64 (-1))]))
        (ifT b8
          (Q [V.one (Cell.int IntKind.i64 1)])
          (ifT (decide (n0 < n1))
            (Q [V.one (Cell.int IntKind.i64 (-1))])
            (ifT (decide (n0 > n1))
              (Q [V.one (Cell.int IntKind.i64 1)])
              (Q [V.one (Cell.int IntKind.i64 0)]))))) h7) h4) h2
theorem den71 (I : FuncId → List V → Post → T) (n0 : Int) (n1 : Int) (Q : Post) : denF Go.Proofs.Try.prog 0 (⟨[], []⟩) I 71 [V.one (Cell.int IntKind.i64 n0), V.one (Cell.int IntKind.i64 n1)] Q = vc71 I n0 n1 Q := by kernel_rfl
def vc111 (I : FuncId → List V → Post → T) (n0 : Int) (Q : Post) : T :=
  Q [V.one (Cell.bool (!decide (n0 = n0)))]
theorem den111 (I : FuncId → List V → Post → T) (n0 : Int) (Q : Post) : denF Go.Proofs.Try.prog 0 (⟨[], []⟩) I 111 [V.one (Cell.int IntKind.i64 n0)] Q = vc111 I n0 Q := by kernel_rfl
def vc116 (I : FuncId → List V → Post → T) (l0 : Sl) (Q : Post) : T :=
  loopK (A := Int) 0
    (fun x1 => fun n2 => ifT (decide (n2 < (↑l0.len : Int)))
      (fun h3 =>
      ((0 ≤ n2) ∧
      n2 < (↑l0.len : Int)) ∧
      (derefK l0.a (fun i4 => fun i5 => fun h6 =>
      ∃ n7 : Int, (h6.read i4 (i5 + n2.toNat * 1) 1 = some [Cell.int IntKind.i64 n7]) ∧
      (ifT (!decide (n7 = 0))
        (Q [V.one (Cell.int IntKind.i64 n7)])
        (x1 (IntKind.i64.wrap (n2 + 1)))) h6)) h3)
      (Q [V.one (Cell.int IntKind.i64 0)]))
theorem den116 (I : FuncId → List V → Post → T) (l0 : Sl) (Q : Post) : denF Go.Proofs.Try.prog 0 (⟨[], [(58, 130852, [(8, tk Go.Proofs.Try.prog 3)])]⟩) I 116 [V.one (Cell.slice 1 l0)] Q = vc116 I l0 Q := by kernel_rfl

end Go.Proofs.YtihnjdhjkpmggaaVc
