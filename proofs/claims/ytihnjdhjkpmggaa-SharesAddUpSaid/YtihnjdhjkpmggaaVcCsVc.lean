/- Formulas of the functions that CentsShared reaches beyond those of CodesCount. -/
import Derived.Test.YtihnjdhjkpmggaaVcCsBits
set_option linter.unusedVariables false
set_option maxRecDepth 100000
namespace Go.Proofs.YtihnjdhjkpmggaaVc
def vc117 (I : FuncId → List V → Post → T) (n0 : Int) (n1 : Int) (Q : Post) : T :=
  fun h2 =>
  I 136 [V.one (Cell.int IntKind.u64 n0)]
    (fun cs3 => fun h4 => 
    ∃ b5 : Bool, (cs3 = [V.one (Cell.bool b5)]) ∧
    I 136 [V.one (Cell.int IntKind.u64 n1)]
      (fun cs6 => fun h7 => 
      ∃ b8 : Bool, (cs6 = [V.one (Cell.bool b8)]) ∧
      (ifT b5
        (ifT b8
          (Q [V.one (Cell.int IntKind.i64 0)])
          (Q [V.one (Cell.int IntKind.i64 (-1))]))
        (ifT b8
          (Q [V.one (Cell.int IntKind.i64 1)])
          (ifT (decide (n0 < n1))
            (Q [V.one (Cell.int IntKind.i64 (-1))])
            (ifT (decide (n0 > n1))
              (Q [V.one (Cell.int IntKind.i64 1)])
              (Q [V.one (Cell.int IntKind.i64 0)]))))) h7) h4) h2
theorem den117 (I : FuncId → List V → Post → T) (n0 : Int) (n1 : Int) (Q : Post) : denF Go.Proofs.Try.prog 0 (⟨[], []⟩) I 117 [V.one (Cell.int IntKind.u64 n0), V.one (Cell.int IntKind.u64 n1)] Q = vc117 I n0 n1 Q := by kernel_rfl
def vc136 (I : FuncId → List V → Post → T) (n0 : Int) (Q : Post) : T :=
  Q [V.one (Cell.bool (!decide (n0 = n0)))]
theorem den136 (I : FuncId → List V → Post → T) (n0 : Int) (Q : Post) : denF Go.Proofs.Try.prog 0 (⟨[], []⟩) I 136 [V.one (Cell.int IntKind.u64 n0)] Q = vc136 I n0 Q := by kernel_rfl
def vc47 (I : FuncId → List V → Post → T) (p0 : Option (Nat × Nat)) (Q : Post) : T :=
  fun h1 =>
  I 12 [V.one (Cell.ptr p0), V.one (Cell.int IntKind.i64 8)]
    (fun cs2 => fun h3 => 
    ∃ n4 : Int, (cs2 = [V.one (Cell.int IntKind.i64 n4)]) ∧
    (loopK (A := Sl × Int) (({ a := none, len := 0 }, 0))
      (fun x5 => uncur fun l6 n7 => ifT (decide (n7 < n4))
        (fun h8 =>
        (newK (YtihnjdhjkpmggaaVc.Obj.cells false [Cell.int IntKind.i64 0, Cell.int IntKind.i64 1, Cell.int IntKind.i64 1, Cell.int IntKind.i64 2, Cell.int IntKind.i64 3, Cell.int IntKind.i64 900, Cell.int IntKind.i64 1801, Cell.int IntKind.i64 1000000000000]) (fun i9 => fun h10 =>
        I 30 [V.one (Cell.ptr p0), V.one (Cell.slice 1 { a := some (i9, 0), len := 8 })]
          (fun cs11 => fun h12 => 
          ∃ n13 : Int, (cs11 = [V.one (Cell.int IntKind.i64 n13)]) ∧
          (appendTo [] 1 8 l6 1 [Cell.int IntKind.i64 n13] (fun l14 => fun h15 => 
          x5 ((l14, IntKind.i64.wrap (n7 + 1))) h15)) h12) h10)) h8)
        (fun h16 =>
        I 67 [V.one (Cell.ptr p0), V.one (Cell.int IntKind.i64 15)]
          (fun cs17 => fun h18 => 
          ∃ b19 : Bool, (cs17 = [V.one (Cell.bool b19)]) ∧
          (joinK (A := Sl)
            (fun l20 => fun h21 => 
            I 67 [V.one (Cell.ptr p0), V.one (Cell.int IntKind.i64 20)]
              (fun cs22 => fun h23 => 
              ∃ b24 : Bool, (cs22 = [V.one (Cell.bool b24)]) ∧
              (ifT b24
                (fun h25 =>
                ((0 : Int) ≤ (50 : Int)) ∧
                ((50 : Int) ≤ (140737488355328 : Int)) ∧
                ((400 : Nat) ≤ (140737488355328 : Nat)) ∧
                (appendTo [] 1 8 l20 50 (slCells (VK.one (Kd.int IntKind.i64)) 50) (fun l26 => fun h27 => 
                I 79 [V.one (Cell.slice 1 l26)]
                  (fun cs28 => fun h29 => 
                  ∃ l30 : Sl, (cs28 = [V.one (Cell.slice 1 l30)]) ∧
                  Q [V.one (Cell.slice 1 l30)] h29) h27)) h25)
                (fun h31 =>
                I 79 [V.one (Cell.slice 1 l20)]
                  (fun cs32 => fun h33 => 
                  ∃ l34 : Sl, (cs32 = [V.one (Cell.slice 1 l34)]) ∧
                  Q [V.one (Cell.slice 1 l34)] h33) h31)) h23) h21)
            (fun x35 => ifT b19
              (fun h36 =>
              (newK (YtihnjdhjkpmggaaVc.Obj.cells false [Cell.int IntKind.i64 (-1), Cell.int IntKind.i64 1000000000001]) (fun i37 => fun h38 =>
              I 30 [V.one (Cell.ptr p0), V.one (Cell.slice 1 { a := some (i37, 0), len := 2 })]
                (fun cs39 => fun h40 => 
                ∃ n41 : Int, (cs39 = [V.one (Cell.int IntKind.i64 n41)]) ∧
                (appendTo [] 1 8 l6 1 [Cell.int IntKind.i64 n41] (fun l42 => fun h43 => 
                x35 l42 h43)) h40) h38)) h36)
              (x35 l6))) h18) h16))) h3) h1
theorem den47 (I : FuncId → List V → Post → T) (p0 : Option (Nat × Nat)) (Q : Post) : denF Go.Proofs.Try.prog 0 (⟨[(61, 8257544, [(3, tk Go.Proofs.Try.prog 22)])], [(58, 32712, [(3, tk Go.Proofs.Try.prog 22), (6, tk Go.Proofs.Try.prog 3)])]⟩) I 47 [V.one (Cell.ptr p0)] Q = vc47 I p0 Q := by kernel_rfl
def vc79 (I : FuncId → List V → Post → T) (l0 : Sl) (Q : Post) : T :=
  ifT l0.a.isNone
    (Q [V.one (Cell.slice 1 { a := none, len := 0 })])
    (fun h1 =>
    ∃ cs2 : List Cell, (h1.sl 1 l0 = some cs2) ∧
    (l0.len * 8 ≤ 140737488355328) ∧
    (newK (YtihnjdhjkpmggaaVc.Obj.cells false cs2) (fun i3 => fun h4 => 
    Q [V.one (Cell.slice 1 { a := some (i3, 0), len := l0.len })] h4)) h1)
theorem den79 (I : FuncId → List V → Post → T) (l0 : Sl) (Q : Post) : denF Go.Proofs.Try.prog 0 (⟨[], []⟩) I 79 [V.one (Cell.slice 1 l0)] Q = vc79 I l0 Q := by kernel_rfl
def vc48 (I : FuncId → List V → Post → T) (n0 : Int) (l1 : Sl) (Q : Post) : T :=
  fun h2 =>
  I 72 [V.one (Cell.int IntKind.i64 n0), V.one (Cell.int IntKind.i64 0), V.one (Cell.int IntKind.i64 1000000000000)]
    (fun cs3 => fun h4 => 
    ∃ b5 : Bool, (cs3 = [V.one (Cell.bool b5)]) ∧
    (ifT (!b5)
      (Q [V.one (Cell.slice 1 { a := none, len := 0 }), V.one (Cell.int IntKind.i64 1)])
      (ifT (decide ((↑l1.len : Int) > 50))
        (Q [V.one (Cell.slice 1 { a := none, len := 0 }), V.one (Cell.int IntKind.i64 2)])
        (loopK (A := Bool × Int) ((true, 0))
          (fun x6 => uncur fun b7 n8 => ifT (decide (n8 < (↑l1.len : Int)))
            (fun h9 =>
            ((0 ≤ n8) ∧
            n8 < (↑l1.len : Int)) ∧
            (derefK l1.a (fun i10 => fun i11 => fun h12 =>
            ∃ n13 : Int, (h12.read i10 (i11 + n8.toNat * 1) 1 = some [Cell.int IntKind.i64 n13]) ∧
            I 72 [V.one (Cell.int IntKind.i64 n13), V.one (Cell.int IntKind.i64 0), V.one (Cell.int IntKind.i64 1000000000000)]
              (fun cs14 => fun h15 => 
              ∃ b16 : Bool, (cs14 = [V.one (Cell.bool b16)]) ∧
              (ifT (!b16)
                (Q [V.one (Cell.slice 1 { a := none, len := 0 }), V.one (Cell.int IntKind.i64 1)])
                (ifT b7
                  (x6 ((decide (n13 = 0), IntKind.i64.wrap (n8 + 1))))
                  (x6 ((false, IntKind.i64.wrap (n8 + 1)))))) h15) h12)) h9)
            (ifT b7
              (Q [V.one (Cell.slice 1 { a := none, len := 0 }), V.one (Cell.int IntKind.i64 8)])
              (fun h17 =>
              I 101 [V.one (Cell.int IntKind.i64 n0), V.one (Cell.slice 1 l1)]
                (fun cs18 => fun h19 => 
                ∃ l20 : Sl, (cs18 = [V.one (Cell.slice 1 l20)]) ∧
                Q [V.one (Cell.slice 1 l20), V.one (Cell.int IntKind.i64 0)] h19) h17)))))) h4) h2
theorem den48 (I : FuncId → List V → Post → T) (n0 : Int) (l1 : Sl) (Q : Post) : denF Go.Proofs.Try.prog 0 (⟨[], [(122, 4294443376, [(6, tk Go.Proofs.Try.prog 4), (19, tk Go.Proofs.Try.prog 3)])]⟩) I 48 [V.one (Cell.int IntKind.i64 n0), V.one (Cell.slice 1 l1)] Q = vc48 I n0 l1 Q := by kernel_rfl
def vc101 (I : FuncId → List V → Post → T) (n0 : Int) (l1 : Sl) (Q : Post) : T :=
  loopK (A := Int × Int) ((0, 0))
    (fun x2 => uncur fun n3 n4 => ifT (decide (n4 < (↑l1.len : Int)))
      (fun h5 =>
      ((0 ≤ n4) ∧
      n4 < (↑l1.len : Int)) ∧
      (derefK l1.a (fun i6 => fun i7 => fun h8 =>
      ∃ n9 : Int, (h8.read i6 (i7 + n4.toNat * 1) 1 = some [Cell.int IntKind.i64 n9]) ∧
      x2 ((IntKind.i64.wrap (n3 + n9), IntKind.i64.wrap (n4 + 1))) h8)) h5)
      (fun h10 =>
      (newK (YtihnjdhjkpmggaaVc.Obj.cells false [Cell.slice 1 { a := none, len := 0 }]) (fun i11 => loopK (A := Int × Sl × Sl × Int) ((n0, { a := none, len := 0 }, { a := none, len := 0 }, 0))
        (fun x12 => uncur fun n13 => uncur fun l14 => uncur fun l15 n16 => ifT (decide (n16 < (↑l1.len : Int)))
          (fun h17 =>
          ((0 ≤ n16) ∧
          n16 < (↑l1.len : Int)) ∧
          (derefK l1.a (fun i18 => fun i19 => fun h20 =>
          ∃ n21 : Int, (h20.read i18 (i19 + n16.toNat * 1) 1 = some [Cell.int IntKind.i64 n21]) ∧
          I 115 [V.one (Cell.int IntKind.u64 (IntKind.u64.wrap n0)), V.one (Cell.int IntKind.u64 (IntKind.u64.wrap n21))]
            (fun cs22 => fun h23 => 
            ∃ n24 : Int, ∃ n25 : Int, (cs22 = [V.one (Cell.int IntKind.u64 n24), V.one (Cell.int IntKind.u64 n25)]) ∧
            I 118 [V.one (Cell.int IntKind.u64 n24), V.one (Cell.int IntKind.u64 n25), V.one (Cell.int IntKind.u64 (IntKind.u64.wrap n3))]
              (fun cs26 => fun h27 => 
              ∃ n28 : Int, ∃ n29 : Int, (cs26 = [V.one (Cell.int IntKind.u64 n28), V.one (Cell.int IntKind.u64 n29)]) ∧
              ∃ l30 : Sl, (h27.read i11 0 1 = some [Cell.slice 1 l30]) ∧
              (appendTo [i11] 1 8 l14 1 [Cell.int IntKind.i64 (IntKind.i64.wrap n28)] (fun l31 => fun h32 => 
              (appendTo [i11] 1 8 l15 1 [Cell.int IntKind.i64 n16] (fun l33 => fun h34 => 
              (appendTo [] 1 8 l30 1 [Cell.int IntKind.u64 n29] (fun l35 => fun h36 => 
              (storeK [] i11 0 [Cell.slice 1 l35] (x12 ((IntKind.i64.wrap (n13 - IntKind.i64.wrap n28), l31, l33, IntKind.i64.wrap (n16 + 1))))) h36)) h34)) h32)) h27) h23) h20)) h17)
          (fun h37 =>
          I 127 [V.one (Cell.slice 1 l15), V.one (Cell.func (some (128, [(i11, 0)])))]
            (fun cs38 => fun h39 => 
            (cs38 = []) ∧
            (((0 : Int) ≤ (0 : Int)) ∧
            (0 ≤ n13) ∧
            n13 ≤ (↑l15.len : Int)) ∧
            (loopK (A := Int) 0
              (fun x40 => fun n41 => ifT (decide (n41 < (↑(l15.sub 1 0 n13.toNat).len : Int)))
                (fun h42 =>
                ((0 ≤ n41) ∧
                n41 < (↑(l15.sub 1 0 n13.toNat).len : Int)) ∧
                (derefK ((l15.sub 1 0 n13.toNat).a) (fun i43 => fun i44 => fun h45 =>
                ∃ n46 : Int, (h45.read i43 (i44 + n41.toNat * 1) 1 = some [Cell.int IntKind.i64 n46]) ∧
                ((0 ≤ n46) ∧
                n46 < (↑l14.len : Int)) ∧
                (derefK l14.a (fun i47 => fun i48 => fun h49 =>
                ∃ n50 : Int, (h49.read i47 (i48 + n46.toNat * 1) 1 = some [Cell.int IntKind.i64 n50]) ∧
                ((0 ≤ n46) ∧
                n46 < (↑l14.len : Int)) ∧
                (derefK l14.a (fun i51 => fun i52 => fun h53 => 
                (storeK [] i51 (i52 + n46.toNat * 1) [Cell.int IntKind.i64 (IntKind.i64.wrap (n50 + 1))] (x40 (IntKind.i64.wrap (n41 + 1)))) h53)) h49)) h45)) h42)
                (Q [V.one (Cell.slice 1 l14)]))) h39) h37)))) h10))
theorem den101 (I : FuncId → List V → Post → T) (n0 : Int) (l1 : Sl) (Q : Post) : denF Go.Proofs.Try.prog 0 (⟨[], [(58, 2139095328, [(5, tk Go.Proofs.Try.prog 3), (23, tk Go.Proofs.Try.prog 3)]), (506, 4722366482861055538752, [(6, tk Go.Proofs.Try.prog 3), (9, tk Go.Proofs.Try.prog 22), (10, tk Go.Proofs.Try.prog 22), (33, tk Go.Proofs.Try.prog 3)]), (2042, 1237335576375572960312295424, [(79, tk Go.Proofs.Try.prog 3)])]⟩) I 101 [V.one (Cell.int IntKind.i64 n0), V.one (Cell.slice 1 l1)] Q = vc101 I n0 l1 Q := by kernel_rfl
def vc127 (I : FuncId → List V → Post → T) (l0 : Sl) (p1 : Option (Nat × List (Nat × Nat))) (Q : Post) : T :=
  fun h2 =>
  I 148 [V.one (Cell.slice 1 l0), V.one (Cell.int IntKind.i64 (↑l0.len : Int)), V.one (Cell.func p1)]
    (fun cs3 => fun h4 => 
    (cs3 = []) ∧
    Q [] h4) h2
theorem den127 (I : FuncId → List V → Post → T) (l0 : Sl) (p1 : Option (Nat × List (Nat × Nat))) (Q : Post) : denF Go.Proofs.Try.prog 0 (⟨[], []⟩) I 127 [V.one (Cell.slice 1 l0), V.one (Cell.func p1)] Q = vc127 I l0 p1 Q := by kernel_rfl
def vc128 (I : FuncId → List V → Post → T) (n0 : Int) (n1 : Int) (i2 : Nat) (i3 : Nat) (Q : Post) : T :=
  fun h4 =>
  ∃ l5 : Sl, (h4.read i2 i3 1 = some [Cell.slice 1 l5]) ∧
  ((0 ≤ n1) ∧
  n1 < (↑l5.len : Int)) ∧
  (derefK l5.a (fun i6 => fun i7 => fun h8 =>
  ∃ n9 : Int, (h8.read i6 (i7 + n1.toNat * 1) 1 = some [Cell.int IntKind.u64 n9]) ∧
  ∃ l10 : Sl, (h8.read i2 i3 1 = some [Cell.slice 1 l10]) ∧
  ((0 ≤ n0) ∧
  n0 < (↑l10.len : Int)) ∧
  (derefK l10.a (fun i11 => fun i12 => fun h13 =>
  ∃ n14 : Int, (h13.read i11 (i12 + n0.toNat * 1) 1 = some [Cell.int IntKind.u64 n14]) ∧
  I 117 [V.one (Cell.int IntKind.u64 n9), V.one (Cell.int IntKind.u64 n14)]
    (fun cs15 => fun h16 => 
    ∃ n17 : Int, (cs15 = [V.one (Cell.int IntKind.i64 n17)]) ∧
    Q [V.one (Cell.int IntKind.i64 n17)] h16) h13)) h8)) h4
theorem den128 (I : FuncId → List V → Post → T) (n0 : Int) (n1 : Int) (i2 : Nat) (i3 : Nat) (Q : Post) : denF Go.Proofs.Try.prog 0 (⟨[], []⟩) I 128 [V.one (Cell.int IntKind.i64 n0), V.one (Cell.int IntKind.i64 n1), V.one (Cell.ptr (some (i2, i3)))] Q = vc128 I n0 n1 i2 i3 Q := by kernel_rfl
def vc148 (I : FuncId → List V → Post → T) (l0 : Sl) (n1 : Int) (p2 : Option (Nat × List (Nat × Nat))) (Q : Post) : T :=
  loopK (A := Int × Int) ((0, 20))
    (fun x3 => uncur fun n4 n5 => ifT (decide (n5 ≤ n1))
      (fun h6 =>
      I 157 [V.one (Cell.slice 1 l0), V.one (Cell.int IntKind.i64 n4), V.one (Cell.int IntKind.i64 n5), V.one (Cell.func p2)]
        (fun cs7 => fun h8 => 
        (cs7 = []) ∧
        x3 ((n5, IntKind.i64.wrap (n5 + 20))) h8) h6)
      (fun h9 =>
      I 157 [V.one (Cell.slice 1 l0), V.one (Cell.int IntKind.i64 n4), V.one (Cell.int IntKind.i64 n1), V.one (Cell.func p2)]
        (fun cs10 => fun h11 => 
        (cs10 = []) ∧
        (loopK (A := Int) 20
          (fun x12 => fun n13 => ifT (decide (n13 < n1))
            (loopK (A := Int × Int) ((0, IntKind.i64.wrap (2 * n13)))
              (fun x14 => uncur fun n15 n16 => ifT (decide (n16 ≤ n1))
                (fun h17 =>
                I 158 [V.one (Cell.slice 1 l0), V.one (Cell.int IntKind.i64 n15), V.one (Cell.int IntKind.i64 (IntKind.i64.wrap (n15 + n13))), V.one (Cell.int IntKind.i64 n16), V.one (Cell.func p2)]
                  (fun cs18 => fun h19 => 
                  (cs18 = []) ∧
                  x14 ((n16, IntKind.i64.wrap (n16 + IntKind.i64.wrap (2 * n13)))) h19) h17)
                (ifT (decide (IntKind.i64.wrap (n15 + n13) < n1))
                  (fun h20 =>
                  I 158 [V.one (Cell.slice 1 l0), V.one (Cell.int IntKind.i64 n15), V.one (Cell.int IntKind.i64 (IntKind.i64.wrap (n15 + n13))), V.one (Cell.int IntKind.i64 n1), V.one (Cell.func p2)]
                    (fun cs21 => fun h22 => 
                    (cs21 = []) ∧
                    x12 (IntKind.i64.wrap (n13 * 2)) h22) h20)
                  (x12 (IntKind.i64.wrap (n13 * 2))))))
            (Q []))) h11) h9))
theorem den148 (I : FuncId → List V → Post → T) (l0 : Sl) (n1 : Int) (p2 : Option (Nat × List (Nat × Nat))) (Q : Post) : denF Go.Proofs.Try.prog 0 (⟨[], [(28, 8386944, [(7, tk Go.Proofs.Try.prog 3), (8, tk Go.Proofs.Try.prog 3)]), (62, 9223372036586341312, [(6, tk Go.Proofs.Try.prog 3)]), (3988, 562941363487104, [(7, tk Go.Proofs.Try.prog 3), (8, tk Go.Proofs.Try.prog 3)])]⟩) I 148 [V.one (Cell.slice 1 l0), V.one (Cell.int IntKind.i64 n1), V.one (Cell.func p2)] Q = vc148 I l0 n1 p2 Q := by kernel_rfl
def vc157 (I : FuncId → List V → Post → T) (l0 : Sl) (n1 : Int) (n2 : Int) (p3 : Option (Nat × List (Nat × Nat))) (Q : Post) : T :=
  loopK (A := Int) (IntKind.i64.wrap (n1 + 1))
    (fun x4 => fun n5 => ifT (decide (n5 < n2))
      (loopK (A := Int) n5
        (fun x6 => fun n7 => joinK (A := Bool)
          (fun b8 => ifT b8
            (fun h9 =>
            ((0 ≤ IntKind.i64.wrap (n7 - 1)) ∧
            IntKind.i64.wrap (n7 - 1) < (↑l0.len : Int)) ∧
            (derefK l0.a (fun i10 => fun i11 => fun h12 =>
            ∃ n13 : Int, (h12.read i10 (i11 + (IntKind.i64.wrap (n7 - 1)).toNat * 1) 1 = some [Cell.int IntKind.i64 n13]) ∧
            ((0 ≤ n7) ∧
            n7 < (↑l0.len : Int)) ∧
            (derefK l0.a (fun i14 => fun i15 => fun h16 =>
            ∃ n17 : Int, (h16.read i14 (i15 + n7.toNat * 1) 1 = some [Cell.int IntKind.i64 n17]) ∧
            ((0 ≤ n7) ∧
            n7 < (↑l0.len : Int)) ∧
            (derefK l0.a (fun i18 => fun i19 => fun h20 => 
            (storeK [] i18 (i19 + n7.toNat * 1) [Cell.int IntKind.i64 n13] (fun h21 =>
            ((0 ≤ IntKind.i64.wrap (n7 - 1)) ∧
            IntKind.i64.wrap (n7 - 1) < (↑l0.len : Int)) ∧
            (derefK l0.a (fun i22 => fun i23 => fun h24 => 
            (storeK [] i22 (i23 + (IntKind.i64.wrap (n7 - 1)).toNat * 1) [Cell.int IntKind.i64 n17] (x6 (IntKind.i64.wrap (n7 - 1)))) h24)) h21)) h20)) h16)) h12)) h9)
            (x4 (IntKind.i64.wrap (n5 + 1))))
          (fun x25 => ifT (decide (n7 > n1))
            (fun h26 =>
            ((0 ≤ n7) ∧
            n7 < (↑l0.len : Int)) ∧
            (derefK l0.a (fun i27 => fun i28 => fun h29 =>
            ∃ n30 : Int, (h29.read i27 (i28 + n7.toNat * 1) 1 = some [Cell.int IntKind.i64 n30]) ∧
            ((0 ≤ IntKind.i64.wrap (n7 - 1)) ∧
            IntKind.i64.wrap (n7 - 1) < (↑l0.len : Int)) ∧
            (derefK l0.a (fun i31 => fun i32 => fun h33 =>
            ∃ n34 : Int, (h33.read i31 (i32 + (IntKind.i64.wrap (n7 - 1)).toNat * 1) 1 = some [Cell.int IntKind.i64 n34]) ∧
            (funK p3 (fun i35 => fun cs36 => fun h37 => 
            I i35 (V.one (Cell.int IntKind.i64 n30) :: V.one (Cell.int IntKind.i64 n34) :: cs36)
              (fun cs38 => fun h39 => 
              ∃ n40 : Int, (cs38 = [V.one (Cell.int IntKind.i64 n40)]) ∧
              x25 (decide (n40 < 0)) h39) h37)) h33)) h29)) h26)
            (x25 false))))
      (Q []))
theorem den157 (I : FuncId → List V → Post → T) (l0 : Sl) (n1 : Int) (n2 : Int) (p3 : Option (Nat × List (Nat × Nat))) (Q : Post) : denF Go.Proofs.Try.prog 0 (⟨[(3216, 34359476224, [(34, tk Go.Proofs.Try.prog 4)])], [(6, 9007199254737664, [(8, tk Go.Proofs.Try.prog 3)]), (402, 9007199254479360, [(9, tk Go.Proofs.Try.prog 3)])]⟩) I 157 [V.one (Cell.slice 1 l0), V.one (Cell.int IntKind.i64 n1), V.one (Cell.int IntKind.i64 n2), V.one (Cell.func p3)] Q = vc157 I l0 n1 n2 p3 Q := by kernel_rfl
def vc49 (I : FuncId → List V → Post → T) (n0 : Int) (l1 : Sl) (Q : Post) : T :=
  joinK (A := Bool)
    (fun b2 => ifT b2
      (Q [V.one (Cell.slice 1 { a := none, len := 0 }), V.one (Cell.int IntKind.i64 1)])
      (ifT (decide ((↑l1.len : Int) > 50))
        (Q [V.one (Cell.slice 1 { a := none, len := 0 }), V.one (Cell.int IntKind.i64 2)])
        (loopK (A := Int) 0
          (fun x3 => fun n4 => ifT (decide (n4 < (↑l1.len : Int)))
            (fun h5 =>
            ((0 ≤ n4) ∧
            n4 < (↑l1.len : Int)) ∧
            (derefK l1.a (fun i6 => fun i7 => fun h8 =>
            ∃ n9 : Int, (h8.read i6 (i7 + n4.toNat * 1) 1 = some [Cell.int IntKind.i64 n9]) ∧
            (ifT (decide (n9 < 0))
              (Q [V.one (Cell.slice 1 { a := none, len := 0 }), V.one (Cell.int IntKind.i64 1)])
              (ifT (decide (n9 > 1000000000000))
                (Q [V.one (Cell.slice 1 { a := none, len := 0 }), V.one (Cell.int IntKind.i64 1)])
                (x3 (IntKind.i64.wrap (n4 + 1))))) h8)) h5)
            (fun h10 =>
            I 102 [V.one (Cell.slice 1 l1)]
              (fun cs11 => fun h12 => 
              ∃ n13 : Int, (cs11 = [V.one (Cell.int IntKind.i64 n13)]) ∧
              (ifT (decide (n13 = 0))
                (Q [V.one (Cell.slice 1 { a := none, len := 0 }), V.one (Cell.int IntKind.i64 8)])
                (fun h14 =>
                I 103 [V.one (Cell.int IntKind.i64 n0), V.one (Cell.slice 1 l1), V.one (Cell.bool false)]
                  (fun cs15 => fun h16 => 
                  ∃ l17 : Sl, (cs15 = [V.one (Cell.slice 1 l17)]) ∧
                  Q [V.one (Cell.slice 1 l17), V.one (Cell.int IntKind.i64 0)] h16) h14)) h12) h10)))))
    (fun x18 => ifT (decide (n0 < 0))
      (x18 true)
      (x18 (decide (n0 > 1000000000000))))
theorem den49 (I : FuncId → List V → Post → T) (n0 : Int) (l1 : Sl) (Q : Post) : denF Go.Proofs.Try.prog 0 (⟨[(12, 16128, [(13, tk Go.Proofs.Try.prog 4)])], [(122, 1073217712, [(19, tk Go.Proofs.Try.prog 3)])]⟩) I 49 [V.one (Cell.int IntKind.i64 n0), V.one (Cell.slice 1 l1)] Q = vc49 I n0 l1 Q := by kernel_rfl
def vc102 (I : FuncId → List V → Post → T) (l0 : Sl) (Q : Post) : T :=
  loopK (A := Int × Int) ((0, 0))
    (fun x1 => uncur fun n2 n3 => ifT (decide (n3 < (↑l0.len : Int)))
      (fun h4 =>
      ((0 ≤ n3) ∧
      n3 < (↑l0.len : Int)) ∧
      (derefK l0.a (fun i5 => fun i6 => fun h7 =>
      ∃ n8 : Int, (h7.read i5 (i6 + n3.toNat * 1) 1 = some [Cell.int IntKind.i64 n8]) ∧
      x1 ((IntKind.i64.wrap (n2 + n8), IntKind.i64.wrap (n3 + 1))) h7)) h4)
      (Q [V.one (Cell.int IntKind.i64 n2)]))
theorem den102 (I : FuncId → List V → Post → T) (l0 : Sl) (Q : Post) : denF Go.Proofs.Try.prog 0 (⟨[], [(58, 65320, [(3, tk Go.Proofs.Try.prog 3), (8, tk Go.Proofs.Try.prog 3)])]⟩) I 102 [V.one (Cell.slice 1 l0)] Q = vc102 I l0 Q := by kernel_rfl
def vc103 (I : FuncId → List V → Post → T) (n0 : Int) (l1 : Sl) (b2 : Bool) (Q : Post) : T :=
  fun h3 =>
  I 102 [V.one (Cell.slice 1 l1)]
    (fun cs4 => fun h5 => 
    ∃ n6 : Int, (cs4 = [V.one (Cell.int IntKind.i64 n6)]) ∧
    (true = true) ∧
    (0 ≤ (↑l1.len : Int)) ∧
    ((↑l1.len : Int) ≤ (↑l1.len : Int)) ∧
    ((↑l1.len : Int) * (↑8 : Int) ≤ 140737488355328) ∧
    (newK (YtihnjdhjkpmggaaVc.Obj.cells false (slCells (VK.one (Kd.int IntKind.i64)) (↑l1.len : Int).toNat)) (fun i7 => fun h8 => 
    (true = true) ∧
    (0 ≤ (↑l1.len : Int)) ∧
    ((↑l1.len : Int) ≤ (↑l1.len : Int)) ∧
    ((↑l1.len : Int) * (↑8 : Int) ≤ 140737488355328) ∧
    (newK (YtihnjdhjkpmggaaVc.Obj.cells false (slCells (VK.one (Kd.int IntKind.u64)) (↑l1.len : Int).toNat)) (fun i9 => loopK (A := Int) 0
      (fun x10 => fun n11 => ifT (decide (n11 < (↑l1.len : Int)))
        (fun h12 =>
        ((0 ≤ n11) ∧
        n11 < (↑l1.len : Int)) ∧
        (derefK l1.a (fun i13 => fun i14 => fun h15 =>
        ∃ n16 : Int, (h15.read i13 (i14 + n11.toNat * 1) 1 = some [Cell.int IntKind.i64 n16]) ∧
        I 115 [V.one (Cell.int IntKind.u64 (IntKind.u64.wrap n0)), V.one (Cell.int IntKind.u64 (IntKind.u64.wrap n16))]
          (fun cs17 => fun h18 => 
          ∃ n19 : Int, ∃ n20 : Int, (cs17 = [V.one (Cell.int IntKind.u64 n19), V.one (Cell.int IntKind.u64 n20)]) ∧
          I 118 [V.one (Cell.int IntKind.u64 n19), V.one (Cell.int IntKind.u64 n20), V.one (Cell.int IntKind.u64 (IntKind.u64.wrap n6))]
            (fun cs21 => fun h22 => 
            ∃ n23 : Int, ∃ n24 : Int, (cs21 = [V.one (Cell.int IntKind.u64 n23), V.one (Cell.int IntKind.u64 n24)]) ∧
            ((0 ≤ n11) ∧
            n11 < (↑(↑l1.len : Int).toNat : Int)) ∧
            (storeK [] i7 (0 + n11.toNat * 1) [Cell.int IntKind.i64 (IntKind.i64.wrap n23)] (fun h25 =>
            ((0 ≤ n11) ∧
            n11 < (↑(↑l1.len : Int).toNat : Int)) ∧
            (storeK [] i9 (0 + n11.toNat * 1) [Cell.int IntKind.u64 n24] (x10 (IntKind.i64.wrap (n11 + 1)))) h25)) h22) h18) h15)) h12)
        (fun h26 =>
        (true = true) ∧
        (0 ≤ (↑l1.len : Int)) ∧
        ((↑l1.len : Int) ≤ (↑l1.len : Int)) ∧
        ((↑l1.len : Int) * (↑1 : Int) ≤ 140737488355328) ∧
        (newK (YtihnjdhjkpmggaaVc.Obj.cells false (slCells (VK.one Kd.bool) (↑l1.len : Int).toNat)) (fun i27 => fun h28 => 
        I 102 [V.one (Cell.slice 1 { a := some (i7, 0), len := (↑l1.len : Int).toNat })]
          (fun cs29 => fun h30 => 
          ∃ n31 : Int, (cs29 = [V.one (Cell.int IntKind.i64 n31)]) ∧
          (loopK (A := Int) (IntKind.i64.wrap (n0 - n31))
            (fun x32 => fun n33 => ifT (decide (n33 > 0))
              (loopK (A := Int × Int) ((-1, 0))
                (fun x34 => uncur fun n35 n36 => ifT (decide (n36 < (↑(↑l1.len : Int).toNat : Int)))
                  (fun h37 =>
                  ((0 ≤ n36) ∧
                  n36 < (↑(↑l1.len : Int).toNat : Int)) ∧
                  ∃ n38 : Int, (h37.read i9 (0 + n36.toNat * 1) 1 = some [Cell.int IntKind.u64 n38]) ∧
                  ((0 ≤ n36) ∧
                  n36 < (↑(↑l1.len : Int).toNat : Int)) ∧
                  ∃ b39 : Bool, (h37.read i27 (0 + n36.toNat * 1) 1 = some [Cell.bool b39]) ∧
                  (ifT (!b39)
                    (ifT (decide (n35 < 0))
                      (x34 ((n36, IntKind.i64.wrap (n36 + 1))))
                      (fun h40 =>
                      ((0 ≤ n35) ∧
                      n35 < (↑(↑l1.len : Int).toNat : Int)) ∧
                      ∃ n41 : Int, (h40.read i9 (0 + n35.toNat * 1) 1 = some [Cell.int IntKind.u64 n41]) ∧
                      (ifT (decide (n38 > n41))
                        (x34 ((n36, IntKind.i64.wrap (n36 + 1))))
                        (ifT b2
                          (fun h42 =>
                          ((0 ≤ n35) ∧
                          n35 < (↑(↑l1.len : Int).toNat : Int)) ∧
                          ∃ n43 : Int, (h42.read i9 (0 + n35.toNat * 1) 1 = some [Cell.int IntKind.u64 n43]) ∧
                          (ifT (decide (n38 = n43))
                            (x34 ((n36, IntKind.i64.wrap (n36 + 1))))
                            (x34 ((n35, IntKind.i64.wrap (n36 + 1))))) h42)
                          (x34 ((n35, IntKind.i64.wrap (n36 + 1)))))) h40))
                    (x34 ((n35, IntKind.i64.wrap (n36 + 1))))) h37)
                  (fun h44 =>
                  ((0 ≤ n35) ∧
                  n35 < (↑(↑l1.len : Int).toNat : Int)) ∧
                  ∃ n45 : Int, (h44.read i7 (0 + n35.toNat * 1) 1 = some [Cell.int IntKind.i64 n45]) ∧
                  ((0 ≤ n35) ∧
                  n35 < (↑(↑l1.len : Int).toNat : Int)) ∧
                  (storeK [] i7 (0 + n35.toNat * 1) [Cell.int IntKind.i64 (IntKind.i64.wrap (n45 + 1))] (fun h46 =>
                  ((0 ≤ n35) ∧
                  n35 < (↑(↑l1.len : Int).toNat : Int)) ∧
                  (storeK [] i27 (0 + n35.toNat * 1) [Cell.bool true] (x32 (IntKind.i64.wrap (n33 - 1)))) h46)) h44)))
              (Q [V.one (Cell.slice 1 { a := some (i7, 0), len := (↑l1.len : Int).toNat })]))) h30) h28)) h26)))) h8)) h5) h3
theorem den103 (I : FuncId → List V → Post → T) (n0 : Int) (l1 : Sl) (b2 : Bool) (Q : Post) : denF Go.Proofs.Try.prog 0 (⟨[], [(250, 4611686014132485120, [(32, tk Go.Proofs.Try.prog 3)]), (1018, 664613997892457346156093171436486656, [(17, tk Go.Proofs.Try.prog 3)]), (260682, 1298074214595927975269666922430464, [(18, tk Go.Proofs.Try.prog 3), (75, tk Go.Proofs.Try.prog 3)])]⟩) I 103 [V.one (Cell.int IntKind.i64 n0), V.one (Cell.slice 1 l1), V.one (Cell.bool b2)] Q = vc103 I n0 l1 b2 Q := by kernel_rfl
def vc50 (I : FuncId → List V → Post → T) (Q : Post) : T :=
  fun h0 =>
  I 24 [V.one (Cell.str { data := #[49, 50, 51] })]
    (fun cs1 => fun h2 => 
    ∃ s3 : ByteArray, ∃ n4 : Int, (cs1 = [V.one (Cell.str s3), V.one (Cell.int IntKind.i64 n4)]) ∧
    (ifT (decide (n4 = 0))
      (Q [V.one (Cell.bool (decide (s3 = { data := #[49, 50, 51, 67] })))])
      (Q [V.one (Cell.bool false)])) h2) h0
theorem den50 (I : FuncId → List V → Post → T) (Q : Post) : denF Go.Proofs.Try.prog 0 (⟨[], []⟩) I 50 [] Q = vc50 I Q := by kernel_rfl
def vc51 (I : FuncId → List V → Post → T) (l0 : Sl) (l1 : Sl) (Q : Post) : T :=
  ifT (!decide ((↑l0.len : Int) = (↑l1.len : Int)))
    (Q [V.one (Cell.bool false)])
    (loopK (A := Int) 0
      (fun x2 => fun n3 => ifT (decide (n3 < (↑l0.len : Int)))
        (fun h4 =>
        ((0 ≤ n3) ∧
        n3 < (↑l0.len : Int)) ∧
        (derefK l0.a (fun i5 => fun i6 => fun h7 =>
        ∃ n8 : Int, (h7.read i5 (i6 + n3.toNat * 1) 1 = some [Cell.int IntKind.i64 n8]) ∧
        ((0 ≤ n3) ∧
        n3 < (↑l1.len : Int)) ∧
        (derefK l1.a (fun i9 => fun i10 => fun h11 =>
        ∃ n12 : Int, (h11.read i9 (i10 + n3.toNat * 1) 1 = some [Cell.int IntKind.i64 n12]) ∧
        (ifT (!decide (n8 = n12))
          (Q [V.one (Cell.bool false)])
          (x2 (IntKind.i64.wrap (n3 + 1)))) h11)) h7)) h4)
        (Q [V.one (Cell.bool true)])))
theorem den51 (I : FuncId → List V → Post → T) (l0 : Sl) (l1 : Sl) (Q : Post) : denF Go.Proofs.Try.prog 0 (⟨[], [(58, 67100720, [(13, tk Go.Proofs.Try.prog 3)])]⟩) I 51 [V.one (Cell.slice 1 l0), V.one (Cell.slice 1 l1)] Q = vc51 I l0 l1 Q := by kernel_rfl
def vc9 (I : FuncId → List V → Post → T) (l0 : Sl) (Q : Post) : T :=
  fun h1 =>
  (newK (YtihnjdhjkpmggaaVc.Obj.cells false [Cell.slice 1 l0, Cell.int IntKind.i64 0]) (fun i2 => fun h3 => 
  (newK (YtihnjdhjkpmggaaVc.Obj.cells false [Cell.int IntKind.i64 0, Cell.int IntKind.i64 1, Cell.int IntKind.i64 7, Cell.int IntKind.i64 100, Cell.int IntKind.i64 500, Cell.int IntKind.i64 1000000000000, Cell.int IntKind.i64 (-1), Cell.int IntKind.i64 1000000000001]) (fun i4 => fun h5 =>
  I 30 [V.one (Cell.ptr (some (i2, 0))), V.one (Cell.slice 1 { a := some (i4, 0), len := 8 })]
    (fun cs6 => fun h7 => 
    ∃ n8 : Int, (cs6 = [V.one (Cell.int IntKind.i64 n8)]) ∧
    I 47 [V.one (Cell.ptr (some (i2, 0)))]
      (fun cs9 => fun h10 => 
      ∃ l11 : Sl, (cs9 = [V.one (Cell.slice 1 l11)]) ∧
      I 48 [V.one (Cell.int IntKind.i64 n8), V.one (Cell.slice 1 l11)]
        (fun cs12 => fun h13 => 
        ∃ l14 : Sl, ∃ n15 : Int, (cs12 = [V.one (Cell.slice 1 l14), V.one (Cell.int IntKind.i64 n15)]) ∧
        I 49 [V.one (Cell.int IntKind.i64 n8), V.one (Cell.slice 1 l11)]
          (fun cs16 => fun h17 => 
          ∃ l18 : Sl, ∃ n19 : Int, (cs16 = [V.one (Cell.slice 1 l18), V.one (Cell.int IntKind.i64 n19)]) ∧
          I 50 []
            (fun cs20 => fun h21 => 
            ∃ b22 : Bool, (cs20 = [V.one (Cell.bool b22)]) ∧
            (ifT b22
              (ifT (decide (n15 = n19))
                (fun h23 =>
                I 51 [V.one (Cell.slice 1 l14), V.one (Cell.slice 1 l18)]
                  (fun cs24 => fun h25 => 
                  ∃ b26 : Bool, (cs24 = [V.one (Cell.bool b26)]) ∧
                  Q [V.one (Cell.bool b26)] h25) h23)
                (Q [V.one (Cell.bool false)]))
              (Q [V.one (Cell.bool false)])) h21) h17) h13) h10) h7) h5)) h3)) h1
theorem den9 (I : FuncId → List V → Post → T) (l0 : Sl) (Q : Post) : denF Go.Proofs.Try.prog 0 (⟨[], []⟩) I 9 [V.one (Cell.slice 1 l0)] Q = vc9 I l0 Q := by kernel_rfl

end Go.Proofs.YtihnjdhjkpmggaaVc
