/- Formulas of the functions that StepsFall reaches. -/
import Derived.Test.YtfemminjhecocaaVcOwns
import Derived.Test.YtfemminjhecocaaVcBits
import Derived.Test.YtfemminjhecocaaVcRows4
import Derived.Test.YtfemminjhecocaaVcStrB
import Derived.Test.YtfemminjhecocaaProg
set_option linter.unusedVariables false
set_option maxRecDepth 100000
namespace Go.Proofs.YtfemminjhecocaaVc
/-- handbill/handkeep1.StepsFall -/
def vc3 (I : FuncId → List V → Post → T) (l0 : Sl) (Q : Post) : T :=
  fun h1 =>
  (newK (.cells false [Cell.slice 1 l0, Cell.int IntKind.i64 0]) (fun i2 => fun h3 => 
  I 5 [V.one (Cell.ptr (some (i2, 0))), V.one (Cell.int IntKind.i64 8)]
    (fun cs4 => fun h5 => 
    ∃ l6 : Sl, (cs4 = [V.one (Cell.slice 4 l6)]) ∧
    I 6 [V.one (Cell.ptr (some (i2, 0))), V.one (Cell.slice 4 l6)]
      (fun cs7 => fun h8 => 
      ∃ l9 : Sl, (cs7 = [V.one (Cell.slice 3 l9)]) ∧
      I 7 [V.one (Cell.ptr (some (i2, 0))), V.one (Cell.int IntKind.i64 300)]
        (fun cs10 => fun h11 => 
        ∃ n12 : Int, (cs10 = [V.one (Cell.int IntKind.i64 n12)]) ∧
        I 8 [V.one (Cell.slice 4 l6), V.one (Cell.slice 3 l9), V.one (Cell.int IntKind.i64 n12)]
          (fun cs13 => fun h14 => 
          ∃ l15 : Sl, ∃ n16 : Int, (cs13 = [V.one (Cell.slice 6 l15), V.one (Cell.int IntKind.i64 n16)]) ∧
          I 7 [V.one (Cell.ptr (some (i2, 0))), V.one (Cell.int IntKind.i64 300)]
            (fun cs17 => fun h18 => 
            ∃ n19 : Int, (cs17 = [V.one (Cell.int IntKind.i64 n19)]) ∧
            I 8 [V.one (Cell.slice 4 l6), V.one (Cell.slice 3 l9), V.one (Cell.int IntKind.i64 (IntKind.i64.wrap (n12 + n19)))]
              (fun cs20 => fun h21 => 
              ∃ l22 : Sl, ∃ n23 : Int, (cs20 = [V.one (Cell.slice 6 l22), V.one (Cell.int IntKind.i64 n23)]) ∧
              (joinK (A := Bool)
                (fun b24 => ifT b24
                  (Q [V.one (Cell.bool false)])
                  (loopK (A := Int) 0
                    (fun x25 => fun n26 => ifT (decide (n26 < (↑l15.len : Int)))
                      (fun h27 =>
                      ((0 ≤ n26) ∧
                      n26 < (↑l15.len : Int)) ∧
                      (derefK l15.a (fun i28 => fun i29 => fun h30 =>
                      ∃ s31 : ByteArray, ∃ n32 : Int, ∃ n33 : Int, ∃ n34 : Int, ∃ n35 : Int, ∃ n36 : Int, (h30.read i28 (i29 + n26.toNat * 6) 6 = some [Cell.str s31, Cell.int IntKind.i64 n32, Cell.int IntKind.i64 n33, Cell.int IntKind.i64 n34, Cell.int IntKind.i64 n35, Cell.int IntKind.i64 n36]) ∧
                      ((0 ≤ n26) ∧
                      n26 < (↑l22.len : Int)) ∧
                      (derefK l22.a (fun i37 => fun i38 => fun h39 =>
                      ∃ s40 : ByteArray, ∃ n41 : Int, ∃ n42 : Int, ∃ n43 : Int, ∃ n44 : Int, ∃ n45 : Int, (h39.read i37 (i38 + n26.toNat * 6) 6 = some [Cell.str s40, Cell.int IntKind.i64 n41, Cell.int IntKind.i64 n42, Cell.int IntKind.i64 n43, Cell.int IntKind.i64 n44, Cell.int IntKind.i64 n45]) ∧
                      (ifT (decide (n32 < n33))
                        (Q [V.one (Cell.bool false)])
                        (ifT (decide (n33 < n34))
                          (Q [V.one (Cell.bool false)])
                          (ifT (decide (n34 < n35))
                            (Q [V.one (Cell.bool false)])
                            (ifT (decide (n35 < 0))
                              (Q [V.one (Cell.bool false)])
                              (ifT (decide (n36 > n32))
                                (Q [V.one (Cell.bool false)])
                                (ifT (!decide (n32 = n41))
                                  (Q [V.one (Cell.bool false)])
                                  (ifT (decide (n42 < n33))
                                    (Q [V.one (Cell.bool false)])
                                    (ifT (decide (n43 < n34))
                                      (Q [V.one (Cell.bool false)])
                                      (ifT (decide (n44 < n35))
                                        (Q [V.one (Cell.bool false)])
                                        (ifT (decide (n45 < n36))
                                          (Q [V.one (Cell.bool false)])
                                          (x25 (IntKind.i64.wrap (n26 + 1))))))))))))) h39)) h30)) h27)
                      (fun h46 =>
                      I 9 []
                        (fun cs47 => fun h48 => 
                        ∃ b49 : Bool, (cs47 = [V.one (Cell.bool b49)]) ∧
                        Q [V.one (Cell.bool b49)] h48) h46))))
                (fun x50 => ifT (!decide (n16 = n23))
                  (x50 true)
                  (x50 (!decide ((↑l15.len : Int) = (↑l22.len : Int)))))) h21) h18) h14) h11) h8) h5) h3)) h1
theorem den3 (I : FuncId → List V → Post → T) (l0 : Sl) (Q : Post) : denF Go.Proofs.Try.prog 12288 (⟨[(1020, 2249600790429696, [(50, tk Go.Proofs.Try.prog 4)])], [(4090, 680564733841876926926740207664281696260, [(53, tk Go.Proofs.Try.prog 3)])]⟩) I 3 [V.one (Cell.slice 1 l0)] Q = vc3 I l0 Q := by kernel_rfl
/-- (*handbill/handmake.Stream).SentList -/
def vc5 (I : FuncId → List V → Post → T) (p0 : Option (Nat × Nat)) (n1 : Int) (Q : Post) : T :=
  fun h2 =>
  I 7 [V.one (Cell.ptr p0), V.one (Cell.int IntKind.i64 (IntKind.i64.wrap (n1 + 1)))]
    (fun cs3 => fun h4 => 
    ∃ n5 : Int, (cs3 = [V.one (Cell.int IntKind.i64 n5)]) ∧
    (loopK (A := Sl × Int × Int) (({ a := none, len := 0 }, 0, 0))
      (fun x6 => uncur fun l7 => uncur fun n8 n9 => ifT (decide (n9 < n5))
        (fun h10 =>
        (newK (.cells false [Cell.int IntKind.i64 0, Cell.int IntKind.i64 1, Cell.int IntKind.i64 10, Cell.int IntKind.i64 100]) (fun i11 => fun h12 =>
        I 13 [V.one (Cell.ptr p0), V.one (Cell.slice 1 { a := some (i11, 0), len := 4 })]
          (fun cs13 => fun h14 => 
          ∃ n15 : Int, (cs13 = [V.one (Cell.int IntKind.i64 n15)]) ∧
          (1 + (Utf8.encode (IntKind.i32.wrap (IntKind.i64.wrap (97 + n9)))).size ≤ 9223372036854775807) ∧
          (newK (.cells false [Cell.str { data := #[97, 110, 110] }, Cell.str { data := #[98, 111] }]) (fun i16 => fun h17 =>
          I 14 [V.one (Cell.ptr p0), V.one (Cell.slice 1 { a := some (i16, 0), len := 2 })]
            (fun cs18 => fun h19 => 
            ∃ s20 : ByteArray, (cs18 = [V.one (Cell.str s20)]) ∧
            (newK (.cells false [Cell.str { data := #[104, 101, 108, 108, 111] }, Cell.str { data := #[110, 101, 119, 115] }, Cell.str { data := #[111, 102, 102, 101, 114] }]) (fun i21 => fun h22 =>
            I 14 [V.one (Cell.ptr p0), V.one (Cell.slice 1 { a := some (i21, 0), len := 3 })]
              (fun cs23 => fun h24 => 
              ∃ s25 : ByteArray, (cs23 = [V.one (Cell.str s25)]) ∧
              (appendTo [] 4 56 l7 1 [Cell.str ({ data := #[115] } ++ Utf8.encode (IntKind.i32.wrap (IntKind.i64.wrap (97 + n9)))), Cell.str s20, Cell.str s25, Cell.int IntKind.i64 (IntKind.i64.wrap (n8 + n15))] (fun l26 => fun h27 => 
              x6 ((l26, IntKind.i64.wrap (n8 + n15), IntKind.i64.wrap (n9 + 1))) h27)) h24) h22)) h19) h17)) h14) h12)) h10)
        (joinK (A := Bool)
          (fun b28 => ifT b28
            (fun h29 =>
            I 7 [V.one (Cell.ptr p0), V.one (Cell.int IntKind.i64 (↑l7.len : Int))]
              (fun cs30 => fun h31 => 
              ∃ n32 : Int, (cs30 = [V.one (Cell.int IntKind.i64 n32)]) ∧
              ((0 ≤ n32) ∧
              n32 < (↑l7.len : Int)) ∧
              (derefK l7.a (fun i33 => fun i34 => fun h35 => 
              I 7 [V.one (Cell.ptr p0), V.one (Cell.int IntKind.i64 3)]
                (fun cs36 => fun h37 => 
                ∃ n38 : Int, (cs36 = [V.one (Cell.int IntKind.i64 n38)]) ∧
                (ifT (decide (n38 = 0))
                  (fun h39 =>
                  (newK (.cells false [Cell.str { data := #[] }, Cell.str { data := #[115, 97] }, Cell.str { data := #[83] }]) (fun i40 => fun h41 =>
                  I 16 [V.one (Cell.ptr p0), V.one (Cell.slice 1 { a := some (i40, 0), len := 3 })]
                    (fun cs42 => fun h43 => 
                    ∃ s44 : ByteArray, (cs42 = [V.one (Cell.str s44)]) ∧
                    (storeK [] i33 (i34 + n32.toNat * 4 + 0) [Cell.str s44] (Q [V.one (Cell.slice 4 l7)])) h43) h41)) h39)
                  (ifT (decide (n38 = 1))
                    (fun h45 =>
                    (newK (.cells false [Cell.int IntKind.i64 (-1), Cell.int IntKind.i64 4321440, Cell.int IntKind.i64 0]) (fun i46 => fun h47 =>
                    I 13 [V.one (Cell.ptr p0), V.one (Cell.slice 1 { a := some (i46, 0), len := 3 })]
                      (fun cs48 => fun h49 => 
                      ∃ n50 : Int, (cs48 = [V.one (Cell.int IntKind.i64 n50)]) ∧
                      (storeK [] i33 (i34 + n32.toNat * 4 + 3) [Cell.int IntKind.i64 n50] (Q [V.one (Cell.slice 4 l7)])) h49) h47)) h45)
                    (fun h51 =>
                    (newK (.cells false [Cell.str { data := #[] }, Cell.str { data := #[88] }]) (fun i52 => fun h53 =>
                    I 16 [V.one (Cell.ptr p0), V.one (Cell.slice 1 { a := some (i52, 0), len := 2 })]
                      (fun cs54 => fun h55 => 
                      ∃ s56 : ByteArray, (cs54 = [V.one (Cell.str s56)]) ∧
                      (storeK [] i33 (i34 + n32.toNat * 4 + 2) [Cell.str s56] (Q [V.one (Cell.slice 4 l7)])) h55) h53)) h51))) h37) h35)) h31) h29)
            (Q [V.one (Cell.slice 4 l7)]))
          (fun x57 => fun h58 => 
          I 15 [V.one (Cell.ptr p0), V.one (Cell.int IntKind.i64 12)]
            (fun cs59 => fun h60 => 
            ∃ b61 : Bool, (cs59 = [V.one (Cell.bool b61)]) ∧
            (ifT b61
              (x57 (decide ((↑l7.len : Int) > 0)))
              (x57 false)) h60) h58)))) h4) h2
theorem den5 (I : FuncId → List V → Post → T) (p0 : Option (Nat × Nat)) (n1 : Int) (Q : Post) : denF Go.Proofs.Try.prog 0 (⟨[(124, 34909494181888, [(44, tk Go.Proofs.Try.prog 4)])], [(122, 274877898976, [(5, tk Go.Proofs.Try.prog 26), (6, tk Go.Proofs.Try.prog 3), (13, tk Go.Proofs.Try.prog 3)])]⟩) I 5 [V.one (Cell.ptr p0), V.one (Cell.int IntKind.i64 n1)] Q = vc5 I p0 n1 Q := by kernel_rfl
/-- (*handbill/handmake.Stream).Next -/
def vc7 (I : FuncId → List V → Post → T) (p0 : Option (Nat × Nat)) (n1 : Int) (Q : Post) : T :=
  derefK p0 (fun i2 => fun i3 => fun h4 =>
  ∃ n5 : Int, (h4.read i2 (i3 + 1) 1 = some [Cell.int IntKind.i64 n5]) ∧
  (derefK p0 (fun i6 => fun i7 => fun h8 =>
  (storeK [] i6 (i7 + 1) [Cell.int IntKind.i64 (IntKind.i64.wrap (n5 + 1))] (derefK p0 (fun i9 => fun i10 => fun h11 =>
  ∃ l12 : Sl, (h11.read i9 (i10 + 0) 1 = some [Cell.slice 1 l12]) ∧
  (ifT (decide ((↑l12.len : Int) = 0))
    (derefK p0 (fun i13 => fun i14 => fun h15 =>
    ∃ n16 : Int, (h15.read i13 (i14 + 1) 1 = some [Cell.int IntKind.i64 n16]) ∧
    I 18 [V.one (Cell.int IntKind.i64 (IntKind.i64.wrap (n16 * 7919))), V.one (Cell.int IntKind.i64 n1)]
      (fun cs17 => fun h18 => 
      ∃ n19 : Int, (cs17 = [V.one (Cell.int IntKind.i64 n19)]) ∧
      Q [V.one (Cell.int IntKind.i64 n19)] h18) h15))
    (derefK p0 (fun i20 => fun i21 => fun h22 =>
    ∃ n23 : Int, (h22.read i20 (i21 + 1) 1 = some [Cell.int IntKind.i64 n23]) ∧
    (derefK p0 (fun i24 => fun i25 => fun h26 =>
    ∃ l27 : Sl, (h26.read i24 (i25 + 0) 1 = some [Cell.slice 1 l27]) ∧
    ((↑l27.len : Int) ≠ 0) ∧
    (derefK p0 (fun i28 => fun i29 => fun h30 =>
    ∃ n31 : Int, (h30.read i28 (i29 + 1) 1 = some [Cell.int IntKind.i64 n31]) ∧
    (derefK p0 (fun i32 => fun i33 => fun h34 =>
    ∃ l35 : Sl, (h34.read i32 (i33 + 0) 1 = some [Cell.slice 1 l35]) ∧
    ((↑l35.len : Int) ≠ 0) ∧
    (derefK p0 (fun i36 => fun i37 => fun h38 =>
    ∃ l39 : Sl, (h38.read i36 (i37 + 0) 1 = some [Cell.slice 1 l39]) ∧
    ((0 ≤ (IntKind.i64.wrap (n23 - 1)).tmod (↑l27.len : Int)) ∧
    (IntKind.i64.wrap (n23 - 1)).tmod (↑l27.len : Int) < (↑l39.len : Int)) ∧
    (derefK l39.a (fun i40 => fun i41 => fun h42 =>
    ∃ n43 : Int, (h42.read i40 (i41 + ((IntKind.i64.wrap (n23 - 1)).tmod (↑l27.len : Int)).toNat * 1) 1 = some [Cell.int IntKind.i64 n43]) ∧
    I 18 [V.one (Cell.int IntKind.i64 n43), V.one (Cell.int IntKind.i64 1073741824)]
      (fun cs44 => fun h45 => 
      ∃ n46 : Int, (cs44 = [V.one (Cell.int IntKind.i64 n46)]) ∧
      I 18 [V.one (Cell.int IntKind.i64 (IntKind.i64.wrap (n46 + IntKind.i64.wrap (IntKind.i64.wrap ((IntKind.i64.wrap (n31 - 1)).tdiv (↑l35.len : Int)) * IntKind.i64.wrap (7919 + (IntKind.i64.wrap (n23 - 1)).tmod (↑l27.len : Int)))))), V.one (Cell.int IntKind.i64 n1)]
        (fun cs47 => fun h48 => 
        ∃ n49 : Int, (cs47 = [V.one (Cell.int IntKind.i64 n49)]) ∧
        Q [V.one (Cell.int IntKind.i64 n49)] h48) h45) h42)) h38)) h34)) h30)) h26)) h22))) h11))) h8)) h4)
theorem den7 (I : FuncId → List V → Post → T) (p0 : Option (Nat × Nat)) (n1 : Int) (Q : Post) : denF Go.Proofs.Try.prog 0 (⟨[], []⟩) I 7 [V.one (Cell.ptr p0), V.one (Cell.int IntKind.i64 n1)] Q = vc7 I p0 n1 Q := by kernel_rfl
/-- handbill/handmake.Below -/
def vc18 (I : FuncId → List V → Post → T) (n0 : Int) (n1 : Int) (Q : Post) : T :=
  ifT (decide (n1 < 1))
    (Q [V.one (Cell.int IntKind.i64 0)])
    (fun h2 =>
    (n1 ≠ 0) ∧
    (ifT (decide (n0.tmod n1 < 0))
      (Q [V.one (Cell.int IntKind.i64 (IntKind.i64.wrap (n0.tmod n1 + n1)))])
      (Q [V.one (Cell.int IntKind.i64 (n0.tmod n1))])) h2)
theorem den18 (I : FuncId → List V → Post → T) (n0 : Int) (n1 : Int) (Q : Post) : denF Go.Proofs.Try.prog 0 (⟨[], []⟩) I 18 [V.one (Cell.int IntKind.i64 n0), V.one (Cell.int IntKind.i64 n1)] Q = vc18 I n0 n1 Q := by kernel_rfl
/-- (*handbill/handmake.Stream).Pick -/
def vc13 (I : FuncId → List V → Post → T) (p0 : Option (Nat × Nat)) (l1 : Sl) (Q : Post) : T :=
  fun h2 =>
  I 7 [V.one (Cell.ptr p0), V.one (Cell.int IntKind.i64 (↑l1.len : Int))]
    (fun cs3 => fun h4 => 
    ∃ n5 : Int, (cs3 = [V.one (Cell.int IntKind.i64 n5)]) ∧
    ((0 ≤ n5) ∧
    n5 < (↑l1.len : Int)) ∧
    (derefK l1.a (fun i6 => fun i7 => fun h8 =>
    ∃ n9 : Int, (h8.read i6 (i7 + n5.toNat * 1) 1 = some [Cell.int IntKind.i64 n9]) ∧
    Q [V.one (Cell.int IntKind.i64 n9)] h8)) h4) h2
theorem den13 (I : FuncId → List V → Post → T) (p0 : Option (Nat × Nat)) (l1 : Sl) (Q : Post) : denF Go.Proofs.Try.prog 0 (⟨[], []⟩) I 13 [V.one (Cell.ptr p0), V.one (Cell.slice 1 l1)] Q = vc13 I p0 l1 Q := by kernel_rfl
/-- (*handbill/handmake.Stream).key -/
def vc14 (I : FuncId → List V → Post → T) (p0 : Option (Nat × Nat)) (l1 : Sl) (Q : Post) : T :=
  fun h2 =>
  I 15 [V.one (Cell.ptr p0), V.one (Cell.int IntKind.i64 40)]
    (fun cs3 => fun h4 => 
    ∃ b5 : Bool, (cs3 = [V.one (Cell.bool b5)]) ∧
    (ifT b5
      (fun h6 =>
      (newK (.cells false [Cell.str { data := #[] }, Cell.str { data := #[75, 101, 121] }, Cell.str { data := #[49, 97] }]) (fun i7 => fun h8 =>
      I 16 [V.one (Cell.ptr p0), V.one (Cell.slice 1 { a := some (i7, 0), len := 3 })]
        (fun cs9 => fun h10 => 
        ∃ s11 : ByteArray, (cs9 = [V.one (Cell.str s11)]) ∧
        Q [V.one (Cell.str s11)] h10) h8)) h6)
      (fun h12 =>
      I 16 [V.one (Cell.ptr p0), V.one (Cell.slice 1 l1)]
        (fun cs13 => fun h14 => 
        ∃ s15 : ByteArray, (cs13 = [V.one (Cell.str s15)]) ∧
        Q [V.one (Cell.str s15)] h14) h12)) h4) h2
theorem den14 (I : FuncId → List V → Post → T) (p0 : Option (Nat × Nat)) (l1 : Sl) (Q : Post) : denF Go.Proofs.Try.prog 0 (⟨[], []⟩) I 14 [V.one (Cell.ptr p0), V.one (Cell.slice 1 l1)] Q = vc14 I p0 l1 Q := by kernel_rfl
/-- (*handbill/handmake.Stream).Flip -/
def vc15 (I : FuncId → List V → Post → T) (p0 : Option (Nat × Nat)) (n1 : Int) (Q : Post) : T :=
  fun h2 =>
  I 7 [V.one (Cell.ptr p0), V.one (Cell.int IntKind.i64 n1)]
    (fun cs3 => fun h4 => 
    ∃ n5 : Int, (cs3 = [V.one (Cell.int IntKind.i64 n5)]) ∧
    Q [V.one (Cell.bool (decide (n5 = 0)))] h4) h2
theorem den15 (I : FuncId → List V → Post → T) (p0 : Option (Nat × Nat)) (n1 : Int) (Q : Post) : denF Go.Proofs.Try.prog 0 (⟨[], []⟩) I 15 [V.one (Cell.ptr p0), V.one (Cell.int IntKind.i64 n1)] Q = vc15 I p0 n1 Q := by kernel_rfl
/-- (*handbill/handmake.Stream).one -/
def vc16 (I : FuncId → List V → Post → T) (p0 : Option (Nat × Nat)) (l1 : Sl) (Q : Post) : T :=
  fun h2 =>
  I 7 [V.one (Cell.ptr p0), V.one (Cell.int IntKind.i64 (↑l1.len : Int))]
    (fun cs3 => fun h4 => 
    ∃ n5 : Int, (cs3 = [V.one (Cell.int IntKind.i64 n5)]) ∧
    ((0 ≤ n5) ∧
    n5 < (↑l1.len : Int)) ∧
    (derefK l1.a (fun i6 => fun i7 => fun h8 =>
    ∃ s9 : ByteArray, (h8.read i6 (i7 + n5.toNat * 1) 1 = some [Cell.str s9]) ∧
    Q [V.one (Cell.str s9)] h8)) h4) h2
theorem den16 (I : FuncId → List V → Post → T) (p0 : Option (Nat × Nat)) (l1 : Sl) (Q : Post) : denF Go.Proofs.Try.prog 0 (⟨[], []⟩) I 16 [V.one (Cell.ptr p0), V.one (Cell.slice 1 l1)] Q = vc16 I p0 l1 Q := by kernel_rfl
/-- (*handbill/handmake.Stream).Acts -/
def vc6 (I : FuncId → List V → Post → T) (p0 : Option (Nat × Nat)) (l1 : Sl) (Q : Post) : T :=
  fun h2 =>
  I 7 [V.one (Cell.ptr p0), V.one (Cell.int IntKind.i64 10)]
    (fun cs3 => fun h4 => 
    ∃ n5 : Int, (cs3 = [V.one (Cell.int IntKind.i64 n5)]) ∧
    (loopK (A := Sl × Int) (({ a := none, len := 0 }, 0))
      (fun x6 => uncur fun l7 n8 => ifT (decide (n8 < n5))
        (fun h9 =>
        (newK (.cells false [Cell.str { data := #[115, 97] }, Cell.str { data := #[115, 98] }]) (fun i10 => fun h11 =>
        I 14 [V.one (Cell.ptr p0), V.one (Cell.slice 1 { a := some (i10, 0), len := 2 })]
          (fun cs12 => fun h13 => 
          ∃ s14 : ByteArray, (cs12 = [V.one (Cell.str s14)]) ∧
          I 17 [V.one (Cell.ptr p0), V.one (Cell.int IntKind.i64 1), V.one (Cell.int IntKind.i64 4)]
            (fun cs15 => fun h16 => 
            ∃ n17 : Int, (cs15 = [V.one (Cell.int IntKind.i64 n17)]) ∧
            I 7 [V.one (Cell.ptr p0), V.one (Cell.int IntKind.i64 600)]
              (fun cs18 => fun h19 => 
              ∃ n20 : Int, (cs18 = [V.one (Cell.int IntKind.i64 n20)]) ∧
              (joinK (A := Bool)
                (fun b21 => joinK (A := ByteArray × Int × Int × PUnit)
                  (uncur fun s22 => uncur fun n23 => uncur fun n24 x25 => fun h26 => 
                  I 15 [V.one (Cell.ptr p0), V.one (Cell.int IntKind.i64 30)]
                    (fun cs27 => fun h28 => 
                    ∃ b29 : Bool, (cs27 = [V.one (Cell.bool b29)]) ∧
                    (joinK (A := ByteArray × Int × Int × PUnit)
                      (uncur fun s30 => uncur fun n31 => uncur fun n32 x33 => fun h34 => 
                      I 15 [V.one (Cell.ptr p0), V.one (Cell.int IntKind.i64 30)]
                        (fun cs35 => fun h36 => 
                        ∃ b37 : Bool, (cs35 = [V.one (Cell.bool b37)]) ∧
                        (ifT b37
                          (fun h38 =>
                          (newK (.cells false [Cell.int IntKind.i64 (-1), Cell.int IntKind.i64 4321440]) (fun i39 => fun h40 =>
                          I 13 [V.one (Cell.ptr p0), V.one (Cell.slice 1 { a := some (i39, 0), len := 2 })]
                            (fun cs41 => fun h42 => 
                            ∃ n43 : Int, (cs41 = [V.one (Cell.int IntKind.i64 n43)]) ∧
                            (appendTo [] 3 32 l7 1 [Cell.str s30, Cell.int IntKind.i64 n31, Cell.int IntKind.i64 n43] (fun l44 => fun h45 => 
                            x6 ((l44, IntKind.i64.wrap (n8 + 1))) h45)) h42) h40)) h38)
                          (fun h46 =>
                          (appendTo [] 3 32 l7 1 [Cell.str s30, Cell.int IntKind.i64 n31, Cell.int IntKind.i64 n32] (fun l47 => fun h48 => 
                          x6 ((l47, IntKind.i64.wrap (n8 + 1))) h48)) h46)) h36) h34)
                      (fun x49 => ifT b29
                        (fun h50 =>
                        (newK (.cells false [Cell.int IntKind.i64 0, Cell.int IntKind.i64 5]) (fun i51 => fun h52 =>
                        I 13 [V.one (Cell.ptr p0), V.one (Cell.slice 1 { a := some (i51, 0), len := 2 })]
                          (fun cs53 => fun h54 => 
                          ∃ n55 : Int, (cs53 = [V.one (Cell.int IntKind.i64 n55)]) ∧
                          x49 ((s22, n55, n24, ())) h54) h52)) h50)
                        (x49 ((s22, n23, n24, ()))))) h28) h26)
                  (fun x56 => ifT b21
                    (fun h57 =>
                    I 7 [V.one (Cell.ptr p0), V.one (Cell.int IntKind.i64 (↑l1.len : Int))]
                      (fun cs58 => fun h59 => 
                      ∃ n60 : Int, (cs58 = [V.one (Cell.int IntKind.i64 n60)]) ∧
                      ((0 ≤ n60) ∧
                      n60 < (↑l1.len : Int)) ∧
                      (derefK l1.a (fun i61 => fun i62 => fun h63 =>
                      ∃ s64 : ByteArray, ∃ s65 : ByteArray, ∃ s66 : ByteArray, ∃ n67 : Int, (h63.read i61 (i62 + n60.toNat * 4) 4 = some [Cell.str s64, Cell.str s65, Cell.str s66, Cell.int IntKind.i64 n67]) ∧
                      (newK (.cells false [Cell.int IntKind.i64 0, Cell.int IntKind.i64 1, Cell.int IntKind.i64 50, Cell.int IntKind.i64 200]) (fun i68 => fun h69 =>
                      I 13 [V.one (Cell.ptr p0), V.one (Cell.slice 1 { a := some (i68, 0), len := 4 })]
                        (fun cs70 => fun h71 => 
                        ∃ n72 : Int, (cs70 = [V.one (Cell.int IntKind.i64 n72)]) ∧
                        x56 ((s64, n17, IntKind.i64.wrap (n67 + n72), ())) h71) h69)) h63)) h59) h57)
                    (x56 ((s14, n17, n20, ())))))
                (fun x73 => ifT (decide ((↑l1.len : Int) > 0))
                  (fun h74 =>
                  I 15 [V.one (Cell.ptr p0), V.one (Cell.int IntKind.i64 15)]
                    (fun cs75 => fun h76 => 
                    ∃ b77 : Bool, (cs75 = [V.one (Cell.bool b77)]) ∧
                    x73 (!b77) h76) h74)
                  (x73 false))) h19) h16) h13) h11)) h9)
        (Q [V.one (Cell.slice 3 l7)]))) h4) h2
theorem den6 (I : FuncId → List V → Post → T) (p0 : Option (Nat × Nat)) (l1 : Sl) (Q : Post) : denF Go.Proofs.Try.prog 192 (⟨[(14948, 267386880, [(27, tk Go.Proofs.Try.prog 4)]), (14949, 35184103653568, [(6, tvar Go.Proofs.Try.prog 55)]), (29901, 2111062325329984, [(6, tvar Go.Proofs.Try.prog 55)])], [(58, 4611686018427387104, [(5, tk Go.Proofs.Try.prog 28), (10, tk Go.Proofs.Try.prog 3)])]⟩) I 6 [V.one (Cell.ptr p0), V.one (Cell.slice 4 l1)] Q = vc6 I p0 l1 Q := by kernel_rfl
/-- (*handbill/handmake.Stream).Range -/
def vc17 (I : FuncId → List V → Post → T) (p0 : Option (Nat × Nat)) (n1 : Int) (n2 : Int) (Q : Post) : T :=
  ifT (decide (n2 < n1))
    (Q [V.one (Cell.int IntKind.i64 n1)])
    (fun h3 =>
    I 7 [V.one (Cell.ptr p0), V.one (Cell.int IntKind.i64 (IntKind.i64.wrap (IntKind.i64.wrap (n2 - n1) + 1)))]
      (fun cs4 => fun h5 => 
      ∃ n6 : Int, (cs4 = [V.one (Cell.int IntKind.i64 n6)]) ∧
      Q [V.one (Cell.int IntKind.i64 (IntKind.i64.wrap (n1 + n6)))] h5) h3)
theorem den17 (I : FuncId → List V → Post → T) (p0 : Option (Nat × Nat)) (n1 : Int) (n2 : Int) (Q : Post) : denF Go.Proofs.Try.prog 0 (⟨[], []⟩) I 17 [V.one (Cell.ptr p0), V.one (Cell.int IntKind.i64 n1), V.one (Cell.int IntKind.i64 n2)] Q = vc17 I p0 n1 n2 Q := by kernel_rfl
/-- handbill/measure.Steps -/
def vc8 (I : FuncId → List V → Post → T) (l0 : Sl) (l1 : Sl) (n2 : Int) (Q : Post) : T :=
  fun h3 =>
  I 19 [V.one (Cell.slice 4 l0)]
    (fun cs4 => fun h5 => 
    ∃ n6 : Int, (cs4 = [V.one (Cell.int IntKind.i64 n6)]) ∧
    (ifT (!decide (n6 = 0))
      (Q [V.one (Cell.slice 6 { a := none, len := 0 }), V.one (Cell.int IntKind.i64 n6)])
      (ifT (decide ((↑l1.len : Int) > 5000))
        (Q [V.one (Cell.slice 6 { a := none, len := 0 }), V.one (Cell.int IntKind.i64 2)])
        (fun h7 =>
        (newK (.map []) (fun i8 => loopK (A := Int) 0
          (fun x9 => fun n10 => ifT (decide (n10 < (↑l0.len : Int)))
            (fun h11 =>
            ((0 ≤ n10) ∧
            n10 < (↑l0.len : Int)) ∧
            (derefK l0.a (fun i12 => fun i13 => fun h14 =>
            ∃ s15 : ByteArray, ∃ s16 : ByteArray, ∃ s17 : ByteArray, ∃ n18 : Int, (h14.read i12 (i13 + n10.toNat * 4) 4 = some [Cell.str s15, Cell.str s16, Cell.str s17, Cell.int IntKind.i64 n18]) ∧
            (mapK [] (some i8) (V.one (Cell.str s15)) (V.one (Cell.int IntKind.i64 n10)) (x9 (IntKind.i64.wrap (n10 + 1)))) h14)) h11)
            (loopK (A := Int) 0
              (fun x19 => fun n20 => ifT (decide (n20 < (↑l1.len : Int)))
                (fun h21 =>
                ((0 ≤ n20) ∧
                n20 < (↑l1.len : Int)) ∧
                (derefK l1.a (fun i22 => fun i23 => fun h24 =>
                ∃ s25 : ByteArray, ∃ n26 : Int, ∃ n27 : Int, (h24.read i22 (i23 + n20.toNat * 3) 3 = some [Cell.str s25, Cell.int IntKind.i64 n26, Cell.int IntKind.i64 n27]) ∧
                ∃ n28 : Int, ∃ b29 : Bool, (∃ cs30 : List (V × V), (mapOf h24 (some i8) = some cs30) ∧
                mapGet (V.one (Cell.str s25)) (V.one (Cell.int IntKind.i64 0)) cs30 = some (V.one (Cell.int IntKind.i64 n28), b29)) ∧
                (ifT (!b29)
                  (Q [V.one (Cell.slice 6 { a := none, len := 0 }), V.one (Cell.int IntKind.i64 8)])
                  (fun h31 =>
                  I 20 [V.one (Cell.int IntKind.i64 n26)]
                    (fun cs32 => fun h33 => 
                    ∃ b34 : Bool, (cs32 = [V.one (Cell.bool b34)]) ∧
                    (ifT (!b34)
                      (Q [V.one (Cell.slice 6 { a := none, len := 0 }), V.one (Cell.int IntKind.i64 4)])
                      (fun h35 =>
                      I 21 [V.one (Cell.int IntKind.i64 n27)]
                        (fun cs36 => fun h37 => 
                        ∃ b38 : Bool, (cs36 = [V.one (Cell.bool b38)]) ∧
                        (ifT (!b38)
                          (Q [V.one (Cell.slice 6 { a := none, len := 0 }), V.one (Cell.int IntKind.i64 1)])
                          (fun h39 =>
                          ((0 ≤ n28) ∧
                          n28 < (↑l0.len : Int)) ∧
                          (derefK l0.a (fun i40 => fun i41 => fun h42 =>
                          ∃ n43 : Int, (h42.read i40 (i41 + n28.toNat * 4 + 3) 1 = some [Cell.int IntKind.i64 n43]) ∧
                          (ifT (decide (n27 < n43))
                            (Q [V.one (Cell.slice 6 { a := none, len := 0 }), V.one (Cell.int IntKind.i64 7)])
                            (x19 (IntKind.i64.wrap (n20 + 1)))) h42)) h39)) h37) h35)) h33) h31)) h24)) h21)
                (fun h44 =>
                I 22 [V.one (Cell.int IntKind.i64 n2), V.one (Cell.int IntKind.i64 0), V.one (Cell.int IntKind.i64 4321440)]
                  (fun cs45 => fun h46 => 
                  ∃ b47 : Bool, (cs45 = [V.one (Cell.bool b47)]) ∧
                  (ifT (!b47)
                    (Q [V.one (Cell.slice 6 { a := none, len := 0 }), V.one (Cell.int IntKind.i64 1)])
                    (fun h48 =>
                    (true = true) ∧
                    (0 ≤ (↑l0.len : Int)) ∧
                    ((↑l0.len : Int) ≤ (↑l0.len : Int)) ∧
                    ((↑l0.len : Int) * (↑5 : Int) ≤ 140737488355328) ∧
                    (newK (.cells false (slCells (VK.agg [Kd.bool, Kd.bool, Kd.bool, Kd.bool, Kd.bool]) (↑l0.len : Int).toNat)) (fun i49 => loopK (A := Int) 0
                      (fun x50 => fun n51 => ifT (decide (n51 < (↑l1.len : Int)))
                        (fun h52 =>
                        ((0 ≤ n51) ∧
                        n51 < (↑l1.len : Int)) ∧
                        (derefK l1.a (fun i53 => fun i54 => fun h55 =>
                        ∃ s56 : ByteArray, ∃ n57 : Int, ∃ n58 : Int, (h55.read i53 (i54 + n51.toNat * 3) 3 = some [Cell.str s56, Cell.int IntKind.i64 n57, Cell.int IntKind.i64 n58]) ∧
                        ∃ n59 : Int, ∃ b60 : Bool, (∃ cs61 : List (V × V), (mapOf h55 (some i8) = some cs61) ∧
                        mapGet (V.one (Cell.str s56)) (V.one (Cell.int IntKind.i64 0)) cs61 = some (V.one (Cell.int IntKind.i64 n59), b60)) ∧
                        ((0 ≤ n59) ∧
                        n59 < (↑l0.len : Int)) ∧
                        (derefK l0.a (fun i62 => fun i63 => fun h64 =>
                        ∃ n65 : Int, (h64.read i62 (i63 + n59.toNat * 4 + 3) 1 = some [Cell.int IntKind.i64 n65]) ∧
                        (ifT (decide (IntKind.i64.wrap (n58 - n65) ≤ n2))
                          (fun h66 =>
                          ((0 ≤ n59) ∧
                          n59 < (↑(↑l0.len : Int).toNat : Int)) ∧
                          ((0 ≤ n57) ∧
                          n57 < (↑5 : Int)) ∧
                          (storeK [] i49 (0 + n59.toNat * 5 + n57.toNat * 1) [Cell.bool true] (x50 (IntKind.i64.wrap (n51 + 1)))) h66)
                          (x50 (IntKind.i64.wrap (n51 + 1)))) h64)) h55)) h52)
                        (fun h67 =>
                        (newK (.map []) (fun i68 => loopK (A := Int) 0
                          (fun x69 => fun n70 => ifT (decide (n70 < (↑l0.len : Int)))
                            (fun h71 =>
                            ((0 ≤ n70) ∧
                            n70 < (↑l0.len : Int)) ∧
                            (derefK l0.a (fun i72 => fun i73 => fun h74 =>
                            ∃ s75 : ByteArray, ∃ s76 : ByteArray, ∃ s77 : ByteArray, ∃ n78 : Int, (h74.read i72 (i73 + n70.toNat * 4) 4 = some [Cell.str s75, Cell.str s76, Cell.str s77, Cell.int IntKind.i64 n78]) ∧
                            ∃ p79 : Option (Nat × Nat), ∃ b80 : Bool, (∃ cs81 : List (V × V), (mapOf h74 (some i68) = some cs81) ∧
                            mapGet (V.one (Cell.str s77)) (V.one (Cell.ptr none)) cs81 = some (V.one (Cell.ptr p79), b80)) ∧
                            (joinK (A := Option (Nat × Nat))
                              (fun p82 => fun h83 => 
                              ((0 ≤ n70) ∧
                              n70 < (↑(↑l0.len : Int).toNat : Int)) ∧
                              ∃ b84 : Bool, ∃ b85 : Bool, ∃ b86 : Bool, ∃ b87 : Bool, ∃ b88 : Bool, (h83.read i49 (0 + n70.toNat * 5) 5 = some [Cell.bool b84, Cell.bool b85, Cell.bool b86, Cell.bool b87, Cell.bool b88]) ∧
                              I 23 [V.one (Cell.ptr p82), V.agg [Cell.bool b84, Cell.bool b85, Cell.bool b86, Cell.bool b87, Cell.bool b88]]
                                (fun cs89 => fun h90 => 
                                (cs89 = []) ∧
                                x69 (IntKind.i64.wrap (n70 + 1)) h90) h83)
                              (fun x91 => ifT p79.isNone
                                (fun h92 =>
                                (newK (.cells false [Cell.str s77, Cell.int IntKind.i64 0, Cell.int IntKind.i64 0, Cell.int IntKind.i64 0, Cell.int IntKind.i64 0, Cell.int IntKind.i64 0]) (fun i93 => fun h94 => 
                                (mapK [] (some i68) (V.one (Cell.str s77)) (V.one (Cell.ptr (some (i93, 0)))) (x91 (some (i93, 0)))) h94)) h92)
                                (x91 p79))) h74)) h71)
                            (fun h95 =>
                            I 25 [V.one (Cell.map (some i68))]
                              (fun cs96 => fun h97 => 
                              ∃ p98 : Option (Nat × List (Nat × Nat)), (cs96 = [V.one (Cell.func p98)]) ∧
                              I 24 [V.one (Cell.func p98)]
                                (fun cs99 => fun h100 => 
                                ∃ l101 : Sl, (cs99 = [V.one (Cell.slice 1 l101)]) ∧
                                (loopK (A := Sl × Int) (({ a := none, len := 0 }, 0))
                                  (fun x102 => uncur fun l103 n104 => ifT (decide (n104 < (↑l101.len : Int)))
                                    (fun h105 =>
                                    ((0 ≤ n104) ∧
                                    n104 < (↑l101.len : Int)) ∧
                                    (derefK l101.a (fun i106 => fun i107 => fun h108 =>
                                    ∃ s109 : ByteArray, (h108.read i106 (i107 + n104.toNat * 1) 1 = some [Cell.str s109]) ∧
                                    ∃ p110 : Option (Nat × Nat), ∃ b111 : Bool, (∃ cs112 : List (V × V), (mapOf h108 (some i68) = some cs112) ∧
                                    mapGet (V.one (Cell.str s109)) (V.one (Cell.ptr none)) cs112 = some (V.one (Cell.ptr p110), b111)) ∧
                                    (derefK p110 (fun i113 => fun i114 => fun h115 =>
                                    ∃ s116 : ByteArray, ∃ n117 : Int, ∃ n118 : Int, ∃ n119 : Int, ∃ n120 : Int, ∃ n121 : Int, (h115.read i113 i114 6 = some [Cell.str s116, Cell.int IntKind.i64 n117, Cell.int IntKind.i64 n118, Cell.int IntKind.i64 n119, Cell.int IntKind.i64 n120, Cell.int IntKind.i64 n121]) ∧
                                    (appendTo [] 6 56 l103 1 [Cell.str s116, Cell.int IntKind.i64 n117, Cell.int IntKind.i64 n118, Cell.int IntKind.i64 n119, Cell.int IntKind.i64 n120, Cell.int IntKind.i64 n121] (fun l122 => fun h123 => 
                                    x102 ((l122, IntKind.i64.wrap (n104 + 1))) h123)) h115)) h108)) h105)
                                    (Q [V.one (Cell.slice 6 l103), V.one (Cell.int IntKind.i64 0)]))) h100) h97) h95)))) h67)))) h48)) h46) h44)))))) h7))) h5) h3
theorem den8 (I : FuncId → List V → Post → T) (l0 : Sl) (l1 : Sl) (n2 : Int) (Q : Post) : denF Go.Proofs.Try.prog 4466688 (⟨[(8385741, 694176028518714465465284199160807159758848, [(23, tk Go.Proofs.Try.prog 63)])], [(250, 281200098806784, [(38, tk Go.Proofs.Try.prog 3)]), (506, 19342813112708166888513728, [(50, tk Go.Proofs.Try.prog 3)]), (4090, 166153494521354326971454782939332608, [(92, tk Go.Proofs.Try.prog 3)]), (16378, 89202979464894496781227000186786385758257152, [(120, tk Go.Proofs.Try.prog 3)]), (65530, 11690585850954517385748420375760814662111161483264, [(24, tk Go.Proofs.Try.prog 31), (150, tk Go.Proofs.Try.prog 3)])]⟩) I 8 [V.one (Cell.slice 4 l0), V.one (Cell.slice 3 l1), V.one (Cell.int IntKind.i64 n2)] Q = vc8 I l0 l1 n2 Q := by kernel_rfl
/-- handbill/measure.CheckSent -/
def vc19 (I : FuncId → List V → Post → T) (l0 : Sl) (Q : Post) : T :=
  ifT (decide ((↑l0.len : Int) > 5000))
    (Q [V.one (Cell.int IntKind.i64 2)])
    (fun h1 =>
    (newK (.map []) (fun i2 => loopK (A := Int) 0
      (fun x3 => fun n4 => ifT (decide (n4 < (↑l0.len : Int)))
        (fun h5 =>
        ((0 ≤ n4) ∧
        n4 < (↑l0.len : Int)) ∧
        (derefK l0.a (fun i6 => fun i7 => fun h8 =>
        ∃ s9 : ByteArray, ∃ s10 : ByteArray, ∃ s11 : ByteArray, ∃ n12 : Int, (h8.read i6 (i7 + n4.toNat * 4) 4 = some [Cell.str s9, Cell.str s10, Cell.str s11, Cell.int IntKind.i64 n12]) ∧
        I 37 [V.one (Cell.str s9)]
          (fun cs13 => fun h14 => 
          ∃ b15 : Bool, (cs13 = [V.one (Cell.bool b15)]) ∧
          (ifT (!b15)
            (Q [V.one (Cell.int IntKind.i64 5)])
            (fun h16 =>
            ∃ b17 : Bool, ∃ b18 : Bool, (∃ cs19 : List (V × V), (mapOf h16 (some i2) = some cs19) ∧
            mapGet (V.one (Cell.str s9)) (V.one (Cell.bool false)) cs19 = some (V.one (Cell.bool b17), b18)) ∧
            (ifT b17
              (Q [V.one (Cell.int IntKind.i64 6)])
              (joinK (A := Bool)
                (fun b20 => ifT b20
                  (Q [V.one (Cell.int IntKind.i64 5)])
                  (fun h21 =>
                  I 21 [V.one (Cell.int IntKind.i64 n12)]
                    (fun cs22 => fun h23 => 
                    ∃ b24 : Bool, (cs22 = [V.one (Cell.bool b24)]) ∧
                    (ifT (!b24)
                      (Q [V.one (Cell.int IntKind.i64 1)])
                      (ifT (decide (n4 > 0))
                        (fun h25 =>
                        ((0 ≤ IntKind.i64.wrap (n4 - 1)) ∧
                        IntKind.i64.wrap (n4 - 1) < (↑l0.len : Int)) ∧
                        (derefK l0.a (fun i26 => fun i27 => fun h28 =>
                        ∃ n29 : Int, (h28.read i26 (i27 + (IntKind.i64.wrap (n4 - 1)).toNat * 4 + 3) 1 = some [Cell.int IntKind.i64 n29]) ∧
                        (ifT (decide (n12 < n29))
                          (Q [V.one (Cell.int IntKind.i64 7)])
                          (fun h30 =>
                          (mapK [] (some i2) (V.one (Cell.str s9)) (V.one (Cell.bool true)) (x3 (IntKind.i64.wrap (n4 + 1)))) h30)) h28)) h25)
                        (fun h31 =>
                        (mapK [] (some i2) (V.one (Cell.str s9)) (V.one (Cell.bool true)) (x3 (IntKind.i64.wrap (n4 + 1)))) h31))) h23) h21))
                (fun x32 => fun h33 => 
                I 37 [V.one (Cell.str s10)]
                  (fun cs34 => fun h35 => 
                  ∃ b36 : Bool, (cs34 = [V.one (Cell.bool b36)]) ∧
                  (ifT (!b36)
                    (x32 true)
                    (fun h37 =>
                    I 37 [V.one (Cell.str s11)]
                      (fun cs38 => fun h39 => 
                      ∃ b40 : Bool, (cs38 = [V.one (Cell.bool b40)]) ∧
                      x32 (!b40) h39) h37)) h35) h33))) h16)) h14) h8)) h5)
        (Q [V.one (Cell.int IntKind.i64 0)])))) h1)
theorem den19 (I : FuncId → List V → Post → T) (l0 : Sl) (Q : Post) : denF Go.Proofs.Try.prog 32 (⟨[(1002654, 274743689216, [(27, tk Go.Proofs.Try.prog 4)])], [(122, 2305843009213689908, [(12, tk Go.Proofs.Try.prog 3)])]⟩) I 19 [V.one (Cell.slice 4 l0)] Q = vc19 I l0 Q := by kernel_rfl
/-- handbill/measure.isMoment -/
def vc21 (I : FuncId → List V → Post → T) (n0 : Int) (Q : Post) : T :=
  fun h1 =>
  I 22 [V.one (Cell.int IntKind.i64 n0), V.one (Cell.int IntKind.i64 0), V.one (Cell.int IntKind.i64 4321439)]
    (fun cs2 => fun h3 => 
    ∃ b4 : Bool, (cs2 = [V.one (Cell.bool b4)]) ∧
    Q [V.one (Cell.bool b4)] h3) h1
theorem den21 (I : FuncId → List V → Post → T) (n0 : Int) (Q : Post) : denF Go.Proofs.Try.prog 0 (⟨[], []⟩) I 21 [V.one (Cell.int IntKind.i64 n0)] Q = vc21 I n0 Q := by kernel_rfl
/-- handbill/measure.within -/
def vc22 (I : FuncId → List V → Post → T) (n0 : Int) (n1 : Int) (n2 : Int) (Q : Post) : T :=
  ifT (decide (n1 ≤ n0))
    (Q [V.one (Cell.bool (decide (n0 ≤ n2)))])
    (Q [V.one (Cell.bool false)])
theorem den22 (I : FuncId → List V → Post → T) (n0 : Int) (n1 : Int) (n2 : Int) (Q : Post) : denF Go.Proofs.Try.prog 0 (⟨[], []⟩) I 22 [V.one (Cell.int IntKind.i64 n0), V.one (Cell.int IntKind.i64 n1), V.one (Cell.int IntKind.i64 n2)] Q = vc22 I n0 n1 n2 Q := by kernel_rfl
/-- handbill/person.IsKey -/
def vc37 (I : FuncId → List V → Post → T) (s0 : ByteArray) (Q : Post) : T :=
  fun h1 =>
  I 47 [V.one (Cell.int IntKind.i64 (↑s0.size : Int)), V.one (Cell.int IntKind.i64 1), V.one (Cell.int IntKind.i64 40)]
    (fun cs2 => fun h3 => 
    ∃ b4 : Bool, (cs2 = [V.one (Cell.bool b4)]) ∧
    (ifT b4
      (fun h5 =>
      (((0 : Int) ≤ (0 : Int)) ∧
      0 < (↑s0.size : Int)) ∧
      I 48 [V.one (Cell.int IntKind.u8 (byteAt s0 0))]
        (fun cs6 => fun h7 => 
        ∃ b8 : Bool, (cs6 = [V.one (Cell.bool b8)]) ∧
        (ifT b8
          (fun h9 =>
          I 49 [V.one (Cell.str s0), V.one (Cell.func (some (50, [])))]
            (fun cs10 => fun h11 => 
            ∃ b12 : Bool, (cs10 = [V.one (Cell.bool b12)]) ∧
            Q [V.one (Cell.bool b12)] h11) h9)
          (Q [V.one (Cell.bool false)])) h7) h5)
      (Q [V.one (Cell.bool false)])) h3) h1
theorem den37 (I : FuncId → List V → Post → T) (s0 : ByteArray) (Q : Post) : denF Go.Proofs.Try.prog 0 (⟨[], []⟩) I 37 [V.one (Cell.str s0)] Q = vc37 I s0 Q := by kernel_rfl
/-- handbill/person.within -/
def vc47 (I : FuncId → List V → Post → T) (n0 : Int) (n1 : Int) (n2 : Int) (Q : Post) : T :=
  ifT (decide (n1 ≤ n0))
    (Q [V.one (Cell.bool (decide (n0 ≤ n2)))])
    (Q [V.one (Cell.bool false)])
theorem den47 (I : FuncId → List V → Post → T) (n0 : Int) (n1 : Int) (n2 : Int) (Q : Post) : denF Go.Proofs.Try.prog 0 (⟨[], []⟩) I 47 [V.one (Cell.int IntKind.i64 n0), V.one (Cell.int IntKind.i64 n1), V.one (Cell.int IntKind.i64 n2)] Q = vc47 I n0 n1 n2 Q := by kernel_rfl
/-- handbill/person.small -/
def vc48 (I : FuncId → List V → Post → T) (n0 : Int) (Q : Post) : T :=
  ifT (decide (97 ≤ n0))
    (Q [V.one (Cell.bool (decide (n0 ≤ 122)))])
    (Q [V.one (Cell.bool false)])
theorem den48 (I : FuncId → List V → Post → T) (n0 : Int) (Q : Post) : denF Go.Proofs.Try.prog 0 (⟨[], []⟩) I 48 [V.one (Cell.int IntKind.u8 n0)] Q = vc48 I n0 Q := by kernel_rfl
/-- handbill/person.all -/
def vc49 (I : FuncId → List V → Post → T) (s0 : ByteArray) (p1 : Option (Nat × List (Nat × Nat))) (Q : Post) : T :=
  loopK (A := Int) 0
    (fun x2 => fun n3 => ifT (decide (n3 < (↑s0.size : Int)))
      (fun h4 =>
      ((0 ≤ n3) ∧
      n3 < (↑s0.size : Int)) ∧
      (funK p1 (fun i5 => fun cs6 => fun h7 => 
      I i5 (V.one (Cell.int IntKind.u8 (byteAt s0 n3)) :: cs6)
        (fun cs8 => fun h9 => 
        ∃ b10 : Bool, (cs8 = [V.one (Cell.bool b10)]) ∧
        (ifT (!b10)
          (Q [V.one (Cell.bool false)])
          (x2 (IntKind.i64.wrap (n3 + 1)))) h9) h7)) h4)
      (Q [V.one (Cell.bool true)]))
theorem den49 (I : FuncId → List V → Post → T) (s0 : ByteArray) (p1 : Option (Nat × List (Nat × Nat))) (Q : Post) : denF Go.Proofs.Try.prog 0 (⟨[], [(26, 261936, [(8, tk Go.Proofs.Try.prog 3)])]⟩) I 49 [V.one (Cell.str s0), V.one (Cell.func p1)] Q = vc49 I s0 p1 Q := by kernel_rfl
/-- handbill/person.IsKey$1 -/
def vc50 (I : FuncId → List V → Post → T) (n0 : Int) (Q : Post) : T :=
  fun h1 =>
  I 48 [V.one (Cell.int IntKind.u8 n0)]
    (fun cs2 => fun h3 => 
    ∃ b4 : Bool, (cs2 = [V.one (Cell.bool b4)]) ∧
    (ifT b4
      (Q [V.one (Cell.bool true)])
      (fun h5 =>
      I 51 [V.one (Cell.int IntKind.u8 n0)]
        (fun cs6 => fun h7 => 
        ∃ b8 : Bool, (cs6 = [V.one (Cell.bool b8)]) ∧
        (ifT b8
          (Q [V.one (Cell.bool true)])
          (ifT (decide (n0 = 45))
            (Q [V.one (Cell.bool true)])
            (Q [V.one (Cell.bool (decide (n0 = 95)))]))) h7) h5)) h3) h1
theorem den50 (I : FuncId → List V → Post → T) (n0 : Int) (Q : Post) : denF Go.Proofs.Try.prog 0 (⟨[], []⟩) I 50 [V.one (Cell.int IntKind.u8 n0)] Q = vc50 I n0 Q := by kernel_rfl
/-- handbill/person.digit -/
def vc51 (I : FuncId → List V → Post → T) (n0 : Int) (Q : Post) : T :=
  ifT (decide (48 ≤ n0))
    (Q [V.one (Cell.bool (decide (n0 ≤ 57)))])
    (Q [V.one (Cell.bool false)])
theorem den51 (I : FuncId → List V → Post → T) (n0 : Int) (Q : Post) : denF Go.Proofs.Try.prog 0 (⟨[], []⟩) I 51 [V.one (Cell.int IntKind.u8 n0)] Q = vc51 I n0 Q := by kernel_rfl
/-- handbill/measure.isAct -/
def vc20 (I : FuncId → List V → Post → T) (n0 : Int) (Q : Post) : T :=
  fun h1 =>
  I 22 [V.one (Cell.int IntKind.i64 n0), V.one (Cell.int IntKind.i64 1), V.one (Cell.int IntKind.i64 4)]
    (fun cs2 => fun h3 => 
    ∃ b4 : Bool, (cs2 = [V.one (Cell.bool b4)]) ∧
    Q [V.one (Cell.bool b4)] h3) h1
theorem den20 (I : FuncId → List V → Post → T) (n0 : Int) (Q : Post) : denF Go.Proofs.Try.prog 0 (⟨[], []⟩) I 20 [V.one (Cell.int IntKind.i64 n0)] Q = vc20 I n0 Q := by kernel_rfl
/-- handbill/measure.count -/
def vc23 (I : FuncId → List V → Post → T) (p0 : Option (Nat × Nat)) (b1 : Bool) (b2 : Bool) (b3 : Bool) (b4 : Bool) (b5 : Bool) (Q : Post) : T :=
  joinK (A := Bool)
    (fun b6 => derefK p0 (fun i7 => fun i8 => fun h9 =>
    ∃ n10 : Int, (h9.read i7 (i8 + 1) 1 = some [Cell.int IntKind.i64 n10]) ∧
    (derefK p0 (fun i11 => fun i12 => fun h13 =>
    (storeK [] i11 (i12 + 1) [Cell.int IntKind.i64 (IntKind.i64.wrap (n10 + 1))] (joinK (A := Sl × Int × Int)
      (uncur fun l14 => uncur fun n15 n16 => loopK (A := Int) n16
        (fun x17 => fun n18 => ifT (decide (n18 < n15))
          (fun h19 =>
          ((0 ≤ n18) ∧
          n18 < (↑l14.len : Int)) ∧
          (derefK l14.a (fun i20 => fun i21 => fun h22 =>
          ∃ b23 : Bool, ∃ p24 : Option (Nat × Nat), (h22.read i20 (i21 + n18.toNat * 2) 2 = some [Cell.bool b23, Cell.ptr p24]) ∧
          (ifT b23
            (derefK p24 (fun i25 => fun i26 => fun h27 =>
            ∃ n28 : Int, (h27.read i25 i26 1 = some [Cell.int IntKind.i64 n28]) ∧
            (derefK p24 (fun i29 => fun i30 => fun h31 => 
            (storeK [] i29 i30 [Cell.int IntKind.i64 (IntKind.i64.wrap (n28 + 1))] (x17 (IntKind.i64.wrap (n18 + 1)))) h31)) h27))
            (x17 (IntKind.i64.wrap (n18 + 1)))) h22)) h19)
          (Q [])))
      (fun x32 => ifT b2
        (derefK p0 (fun i33 => fun i34 => derefK p0 (fun i35 => fun i36 => derefK p0 (fun i37 => fun i38 => derefK p0 (fun i39 => fun i40 => fun h41 =>
        (newK (.cells false [Cell.bool true, Cell.ptr (some (i33, i34 + 2)), Cell.bool b6, Cell.ptr (some (i35, i36 + 3)), Cell.bool b4, Cell.ptr (some (i37, i38 + 4)), Cell.bool b5, Cell.ptr (some (i39, i40 + 5))]) (fun i42 => fun h43 => 
        x32 (({ a := some (i42, 0), len := 4 }, (↑4 : Int), 0)) h43)) h41)))))
        (derefK p0 (fun i44 => fun i45 => derefK p0 (fun i46 => fun i47 => derefK p0 (fun i48 => fun i49 => derefK p0 (fun i50 => fun i51 => fun h52 =>
        (newK (.cells false [Cell.bool b6, Cell.ptr (some (i44, i45 + 2)), Cell.bool b6, Cell.ptr (some (i46, i47 + 3)), Cell.bool b4, Cell.ptr (some (i48, i49 + 4)), Cell.bool b5, Cell.ptr (some (i50, i51 + 5))]) (fun i53 => fun h54 => 
        x32 (({ a := some (i53, 0), len := 4 }, (↑4 : Int), 0)) h54)) h52)))))))) h13)) h9))
    (fun x55 => ifT b3
      (x55 true)
      (x55 b4))
theorem den23 (I : FuncId → List V → Post → T) (p0 : Option (Nat × Nat)) (b1 : Bool) (b2 : Bool) (b3 : Bool) (b4 : Bool) (b5 : Bool) (Q : Post) : denF Go.Proofs.Try.prog 72 (⟨[(6, 8080, [(4, tk Go.Proofs.Try.prog 4)]), (30, 562949952372736, [(46, tk Go.Proofs.Try.prog 87), (47, tk Go.Proofs.Try.prog 3), (48, tk Go.Proofs.Try.prog 3)])], [(62, 2305561534236983360, [(48, tk Go.Proofs.Try.prog 3)])]⟩) I 23 [V.one (Cell.ptr p0), V.agg [Cell.bool b1, Cell.bool b2, Cell.bool b3, Cell.bool b4, Cell.bool b5]] Q = vc23 I p0 b1 b2 b3 b4 b5 Q := by kernel_rfl
/-- maps.Keys[map[string]*handbill/api.Row,string,*handbill/api.Row] -/
def vc25 (I : FuncId → List V → Post → T) (p0 : Option Nat) (Q : Post) : T :=
  fun h1 =>
  (newK (.cells false [Cell.map p0]) (fun i2 => Q [V.one (Cell.func (some (40, [(i2, 0)])))])) h1
theorem den25 (I : FuncId → List V → Post → T) (p0 : Option Nat) (Q : Post) : denF Go.Proofs.Try.prog 0 (⟨[], []⟩) I 25 [V.one (Cell.map p0)] Q = vc25 I p0 Q := by kernel_rfl
/-- handbill/handkeep1.measures -/
def vc9 (I : FuncId → List V → Post → T) (Q : Post) : T :=
  fun h0 =>
  I 26 [V.one (Cell.int IntKind.i64 2), V.one (Cell.int IntKind.i64 4)]
    (fun cs1 => fun h2 => 
    ∃ n3 : Int, ∃ n4 : Int, ∃ n5 : Int, (cs1 = [V.agg [Cell.int IntKind.i64 n3, Cell.int IntKind.i64 n4], V.one (Cell.int IntKind.i64 n5)]) ∧
    (ifT (decide (n5 = 0))
      (Q [V.one (Cell.bool (decide (n3 = 1) && decide (n4 = 2)))])
      (Q [V.one (Cell.bool false)])) h2) h0
theorem den9 (I : FuncId → List V → Post → T) (Q : Post) : denF Go.Proofs.Try.prog 2 (⟨[], []⟩) I 9 [] Q = vc9 I Q := by kernel_rfl
/-- handbill/measure.Reduce -/
def vc26 (I : FuncId → List V → Post → T) (n0 : Int) (n1 : Int) (Q : Post) : T :=
  joinK (A := Bool)
    (fun b2 => ifT b2
      (fun h3 =>
      Q [V.agg [Cell.int IntKind.i64 0, Cell.int IntKind.i64 0], V.one (Cell.int IntKind.i64 1)] h3)
      (ifT (decide (n1 = 0))
        (fun h4 =>
        Q [V.agg [Cell.int IntKind.i64 0, Cell.int IntKind.i64 0], V.one (Cell.int IntKind.i64 8)] h4)
        (fun h5 =>
        I 41 [V.one (Cell.int IntKind.i64 n0), V.one (Cell.int IntKind.i64 n1)]
          (fun cs6 => fun h7 => 
          ∃ n8 : Int, ∃ n9 : Int, (cs6 = [V.agg [Cell.int IntKind.i64 n8, Cell.int IntKind.i64 n9]]) ∧
          Q [V.agg [Cell.int IntKind.i64 n8, Cell.int IntKind.i64 n9], V.one (Cell.int IntKind.i64 0)] h7) h5)))
    (fun x10 => fun h11 => 
    I 22 [V.one (Cell.int IntKind.i64 n0), V.one (Cell.int IntKind.i64 (-4611686018427387904)), V.one (Cell.int IntKind.i64 4611686018427387904)]
      (fun cs12 => fun h13 => 
      ∃ b14 : Bool, (cs12 = [V.one (Cell.bool b14)]) ∧
      (ifT (!b14)
        (x10 true)
        (fun h15 =>
        I 22 [V.one (Cell.int IntKind.i64 n1), V.one (Cell.int IntKind.i64 (-4611686018427387904)), V.one (Cell.int IntKind.i64 4611686018427387904)]
          (fun cs16 => fun h17 => 
          ∃ b18 : Bool, (cs16 = [V.one (Cell.bool b18)]) ∧
          x10 (!b18) h17) h15)) h13) h11)
theorem den26 (I : FuncId → List V → Post → T) (n0 : Int) (n1 : Int) (Q : Post) : denF Go.Proofs.Try.prog 16 (⟨[(24, 32704, [(6, tk Go.Proofs.Try.prog 4)])], []⟩) I 26 [V.one (Cell.int IntKind.i64 n0), V.one (Cell.int IntKind.i64 n1)] Q = vc26 I n0 n1 Q := by kernel_rfl
/-- handbill/measure.reduce -/
def vc41 (I : FuncId → List V → Post → T) (n0 : Int) (n1 : Int) (Q : Post) : T :=
  joinK (A := Int × Int)
    (uncur fun n2 n3 => fun h4 => 
    I 56 [V.one (Cell.int IntKind.i64 n2)]
      (fun cs5 => fun h6 => 
      ∃ n7 : Int, (cs5 = [V.one (Cell.int IntKind.u64 n7)]) ∧
      I 56 [V.one (Cell.int IntKind.i64 n3)]
        (fun cs8 => fun h9 => 
        ∃ n10 : Int, (cs8 = [V.one (Cell.int IntKind.u64 n10)]) ∧
        I 55 [V.one (Cell.int IntKind.u64 n7), V.one (Cell.int IntKind.u64 n10)]
          (fun cs11 => fun h12 => 
          ∃ n13 : Int, (cs11 = [V.one (Cell.int IntKind.u64 n13)]) ∧
          (IntKind.i64.wrap n13 ≠ 0) ∧
          (IntKind.i64.wrap n13 ≠ 0) ∧
          Q [V.agg [Cell.int IntKind.i64 (IntKind.i64.wrap (n2.tdiv (IntKind.i64.wrap n13))), Cell.int IntKind.i64 (IntKind.i64.wrap (n3.tdiv (IntKind.i64.wrap n13)))]] h12) h9) h6) h4)
    (fun x14 => ifT (decide (n1 < 0))
      (x14 ((IntKind.i64.wrap (0 - n0), IntKind.i64.wrap (0 - n1))))
      (x14 ((n0, n1))))
theorem den41 (I : FuncId → List V → Post → T) (n0 : Int) (n1 : Int) (Q : Post) : denF Go.Proofs.Try.prog 16 (⟨[(13, 3843, [(0, tk Go.Proofs.Try.prog 3), (1, tk Go.Proofs.Try.prog 3)])], []⟩) I 41 [V.one (Cell.int IntKind.i64 n0), V.one (Cell.int IntKind.i64 n1)] Q = vc41 I n0 n1 Q := by kernel_rfl
/-- handbill/measure.divisor -/
def vc55 (I : FuncId → List V → Post → T) (n0 : Int) (n1 : Int) (Q : Post) : T :=
  loopK (A := Int × Int) ((n0, n1))
    (fun x2 => uncur fun n3 n4 => ifT (!decide (n4 = 0))
      (fun h5 =>
      (n4 ≠ 0) ∧
      x2 ((n4, n3.tmod n4)) h5)
      (Q [V.one (Cell.int IntKind.u64 n3)]))
theorem den55 (I : FuncId → List V → Post → T) (n0 : Int) (n1 : Int) (Q : Post) : denF Go.Proofs.Try.prog 0 (⟨[], [(12, 2019, [(0, tk Go.Proofs.Try.prog 100), (1, tk Go.Proofs.Try.prog 100)])]⟩) I 55 [V.one (Cell.int IntKind.u64 n0), V.one (Cell.int IntKind.u64 n1)] Q = vc55 I n0 n1 Q := by kernel_rfl
/-- handbill/measure.size -/
def vc56 (I : FuncId → List V → Post → T) (n0 : Int) (Q : Post) : T :=
  ifT (decide (n0 < 0))
    (Q [V.one (Cell.int IntKind.u64 (IntKind.u64.wrap (0 - IntKind.u64.wrap n0)))])
    (Q [V.one (Cell.int IntKind.u64 (IntKind.u64.wrap n0))])
theorem den56 (I : FuncId → List V → Post → T) (n0 : Int) (Q : Post) : denF Go.Proofs.Try.prog 0 (⟨[], []⟩) I 56 [V.one (Cell.int IntKind.i64 n0)] Q = vc56 I n0 Q := by kernel_rfl
end Go.Proofs.YtfemminjhecocaaVc
