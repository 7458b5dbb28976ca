/- Formulas of the functions that PursesKept reaches. -/
import Derived.Test.YtfemminjhecocaaDoorVcOwns
import Derived.Test.YtfemminjhecocaaDoorVcBits
import Derived.Test.YtfemminjhecocaaDoorVcCodeStr
import Derived.Test.YtfemminjhecocaaDoorProg
set_option linter.unusedVariables false
set_option maxRecDepth 100000
namespace Go.Proofs.YtfemminjhecocaaDoorVc
open Go.Proofs.YtfemminjhecocaaDoorCodes
/-- handbill/handlaw1.PursesKept -/
def vc3 (I : FuncId → List V → Post → T) (l0 : Sl) (Q : Post) : T :=
  fun h1 =>
  (newK (YtfemminjhecocaaDoorVc.Obj.cells false [Cell.slice 1 l0, Cell.int IntKind.i64 0]) (fun i2 => fun h3 => 
  I 6 [V.one (Cell.ptr (some (i2, 0)))]
    (fun cs4 => fun h5 => 
    ∃ l6 : Sl, (cs4 = [V.one (Cell.slice 5 l6)]) ∧
    I 7 [V.one (Cell.slice 5 l6)]
      (fun cs7 => fun h8 => 
      ∃ n9 : Int, (cs7 = [V.one (Cell.int IntKind.i64 n9)]) ∧
      I 8 [V.one (Cell.slice 5 l6)]
        (fun cs10 => fun h11 => 
        ∃ n12 : Int, (cs10 = [V.one (Cell.int IntKind.i64 n12)]) ∧
        (ifT (!decide (n12 = n9))
          (Q [V.one (Cell.bool false)])
          (joinK (A := PUnit)
            (fun x13 => fun h14 => 
            I 13 [V.one (Cell.slice 5 l6)]
              (fun cs15 => fun h16 => 
              ∃ p17 : Option (Nat × Nat), ∃ n18 : Int, (cs15 = [V.one (Cell.ptr p17), V.one (Cell.int IntKind.i64 n18)]) ∧
              (ifT (!decide (n9 = 0))
                (joinK (A := Bool)
                  (fun b19 => fun h20 => 
                  Q [V.one (Cell.bool b19)] h20)
                  (fun x21 => fun h22 => 
                  I 14 []
                    (fun cs23 => fun h24 => 
                    ∃ b25 : Bool, (cs23 = [V.one (Cell.bool b25)]) ∧
                    (ifT b25
                      (x21 (decide (n18 = n9)))
                      (x21 false)) h24) h22))
                (ifT (!decide (n18 = 0))
                  (Q [V.one (Cell.bool false)])
                  (fun h26 =>
                  I 15 [V.one (Cell.slice 5 l6)]
                    (fun cs27 => fun h28 => 
                    ∃ p29 : Option (Nat × Nat), (cs27 = [V.one (Cell.ptr p29)]) ∧
                    I 16 [V.one (Cell.ptr (some (i2, 0))), V.one (Cell.int IntKind.i64 14)]
                      (fun cs30 => fun h31 => 
                      ∃ n32 : Int, (cs30 = [V.one (Cell.int IntKind.i64 n32)]) ∧
                      (loopK (A := Int × Int) ((0, 0))
                        (fun x33 => uncur fun n34 n35 => ifT (decide (n35 < n32))
                          (fun h36 =>
                          (newK (YtfemminjhecocaaDoorVc.Obj.cells false [Cell.int IntKind.i64 0, Cell.int IntKind.i64 0, Cell.int IntKind.i64 5, Cell.int IntKind.i64 60, Cell.int IntKind.i64 1440]) (fun i37 => fun h38 =>
                          I 9 [V.one (Cell.ptr (some (i2, 0))), V.one (Cell.slice 1 { a := some (i37, 0), len := 5 })]
                            (fun cs39 => fun h40 => 
                            ∃ n41 : Int, (cs39 = [V.one (Cell.int IntKind.i64 n41)]) ∧
                            I 17 [V.one (Cell.ptr (some (i2, 0))), V.one (Cell.int IntKind.i64 12)]
                              (fun cs42 => fun h43 => 
                              ∃ b44 : Bool, (cs42 = [V.one (Cell.bool b44)]) ∧
                              (joinK (A := Int)
                                (fun n45 => fun h46 => 
                                (newK (YtfemminjhecocaaDoorVc.Obj.cells false [Cell.str { data := #[109, 97, 121] }, Cell.str { data := #[106, 117, 110, 101] }, Cell.str { data := #[97, 108, 108] }, Cell.str { data := #[97, 108, 108] }, Cell.str { data := #[120] }]) (fun i47 => fun h48 =>
                                I 18 [V.one (Cell.ptr (some (i2, 0))), V.one (Cell.slice 1 { a := some (i47, 0), len := 5 })]
                                  (fun cs49 => fun h50 => 
                                  ∃ s51 : ByteArray, (cs49 = [V.one (Cell.str s51)]) ∧
                                  I 19 [V.one (Cell.ptr (some (i2, 0))), V.one (Cell.int IntKind.i64 0), V.one (Cell.int IntKind.i64 6)]
                                    (fun cs52 => fun h53 => 
                                    ∃ n54 : Int, (cs52 = [V.one (Cell.int IntKind.i64 n54)]) ∧
                                    I 16 [V.one (Cell.ptr (some (i2, 0))), V.one (Cell.int IntKind.i64 6)]
                                      (fun cs55 => fun h56 => 
                                      ∃ n57 : Int, (cs55 = [V.one (Cell.int IntKind.i64 n57)]) ∧
                                      (joinK (A := Bool)
                                        (fun b58 => joinK (A := Int × Int × Int × Int)
                                          (uncur fun n59 => uncur fun n60 => uncur fun n61 n62 => ifT (!decide (n61 = n62))
                                            (Q [V.one (Cell.bool false)])
                                            (ifT (!decide (n59 = n60))
                                              (Q [V.one (Cell.bool false)])
                                              (fun h63 =>
                                              I 29 [V.one (Cell.ptr p17)]
                                                (fun cs64 => fun h65 => 
                                                ∃ l66 : Sl, (cs64 = [V.one (Cell.slice 6 l66)]) ∧
                                                I 30 [V.one (Cell.ptr p29)]
                                                  (fun cs67 => fun h68 => 
                                                  ∃ l69 : Sl, (cs67 = [V.one (Cell.slice 6 l69)]) ∧
                                                  I 28 [V.one (Cell.slice 6 l66), V.one (Cell.slice 6 l69)]
                                                    (fun cs70 => fun h71 => 
                                                    ∃ b72 : Bool, (cs70 = [V.one (Cell.bool b72)]) ∧
                                                    (ifT (!b72)
                                                      (Q [V.one (Cell.bool false)])
                                                      (x33 ((IntKind.i64.wrap (n34 + n41), IntKind.i64.wrap (n35 + 1))))) h71) h68) h65) h63)))
                                          (fun x73 => ifT b58
                                            (fun h74 =>
                                            (newK (YtfemminjhecocaaDoorVc.Obj.cells false [Cell.int IntKind.i64 1, Cell.int IntKind.i64 50, Cell.int IntKind.i64 100, Cell.int IntKind.i64 400, Cell.int IntKind.i64 1000, Cell.int IntKind.i64 0, Cell.int IntKind.i64 1000000000001]) (fun i75 => fun h76 =>
                                            I 9 [V.one (Cell.ptr (some (i2, 0))), V.one (Cell.slice 1 { a := some (i75, 0), len := 7 })]
                                              (fun cs77 => fun h78 => 
                                              ∃ n79 : Int, (cs77 = [V.one (Cell.int IntKind.i64 n79)]) ∧
                                              (newK (YtfemminjhecocaaDoorVc.Obj.cells false [Cell.int IntKind.i64 1, Cell.int IntKind.i64 5, Cell.int IntKind.i64 60, Cell.int IntKind.i64 2000, Cell.int IntKind.i64 0]) (fun i80 => fun h81 =>
                                              I 9 [V.one (Cell.ptr (some (i2, 0))), V.one (Cell.slice 1 { a := some (i80, 0), len := 5 })]
                                                (fun cs82 => fun h83 => 
                                                ∃ n84 : Int, (cs82 = [V.one (Cell.int IntKind.i64 n84)]) ∧
                                                I 20 [V.one (Cell.ptr p17), V.one (Cell.str s51), V.one (Cell.int IntKind.i64 n79), V.one (Cell.int IntKind.i64 n45), V.one (Cell.int IntKind.i64 (IntKind.i64.wrap (n45 + n84)))]
                                                  (fun cs85 => fun h86 => 
                                                  ∃ n87 : Int, ∃ n88 : Int, (cs85 = [V.one (Cell.int IntKind.i64 n87), V.one (Cell.int IntKind.i64 n88)]) ∧
                                                  I 21 [V.one (Cell.ptr p29), V.one (Cell.str s51), V.one (Cell.int IntKind.i64 n79), V.one (Cell.int IntKind.i64 n45), V.one (Cell.int IntKind.i64 (IntKind.i64.wrap (n45 + n84)))]
                                                    (fun cs89 => fun h90 => 
                                                    ∃ n91 : Int, ∃ n92 : Int, (cs89 = [V.one (Cell.int IntKind.i64 n91), V.one (Cell.int IntKind.i64 n92)]) ∧
                                                    x73 ((n87, n91, n88, n92)) h90) h86) h83) h81)) h78) h76)) h74)
                                            (joinK (A := Int × Int × Int × Int)
                                              (uncur fun n93 => uncur fun n94 => uncur fun n95 n96 => fun h97 => 
                                              x73 ((n93, n94, n95, n96)) h97)
                                              (fun x98 => ifT (decide (n57 = 3))
                                                (fun h99 =>
                                                I 22 [V.one (Cell.ptr p17), V.one (Cell.int IntKind.i64 n54), V.one (Cell.int IntKind.i64 n45)]
                                                  (fun cs100 => fun h101 => 
                                                  ∃ n102 : Int, (cs100 = [V.one (Cell.int IntKind.i64 n102)]) ∧
                                                  I 23 [V.one (Cell.ptr p29), V.one (Cell.int IntKind.i64 n54), V.one (Cell.int IntKind.i64 n45)]
                                                    (fun cs103 => fun h104 => 
                                                    ∃ n105 : Int, (cs103 = [V.one (Cell.int IntKind.i64 n105)]) ∧
                                                    x98 ((0, 0, n102, n105)) h104) h101) h99)
                                                (joinK (A := Int × Int × Int × Int)
                                                  (uncur fun n106 => uncur fun n107 => uncur fun n108 n109 => fun h110 => 
                                                  x98 ((n106, n107, n108, n109)) h110)
                                                  (fun x111 => ifT (decide (n57 = 4))
                                                    (fun h112 =>
                                                    I 24 [V.one (Cell.ptr p17), V.one (Cell.int IntKind.i64 n54), V.one (Cell.int IntKind.i64 n45)]
                                                      (fun cs113 => fun h114 => 
                                                      ∃ n115 : Int, (cs113 = [V.one (Cell.int IntKind.i64 n115)]) ∧
                                                      I 25 [V.one (Cell.ptr p29), V.one (Cell.int IntKind.i64 n54), V.one (Cell.int IntKind.i64 n45)]
                                                        (fun cs116 => fun h117 => 
                                                        ∃ n118 : Int, (cs116 = [V.one (Cell.int IntKind.i64 n118)]) ∧
                                                        x111 ((0, 0, n115, n118)) h117) h114) h112)
                                                    (fun h119 =>
                                                    I 26 [V.one (Cell.ptr p17), V.one (Cell.str s51), V.one (Cell.int IntKind.i64 n45)]
                                                      (fun cs120 => fun h121 => 
                                                      ∃ n122 : Int, ∃ n123 : Int, (cs120 = [V.one (Cell.int IntKind.i64 n122), V.one (Cell.int IntKind.i64 n123)]) ∧
                                                      I 27 [V.one (Cell.ptr p29), V.one (Cell.str s51), V.one (Cell.int IntKind.i64 n45)]
                                                        (fun cs124 => fun h125 => 
                                                        ∃ n126 : Int, ∃ n127 : Int, (cs124 = [V.one (Cell.int IntKind.i64 n126), V.one (Cell.int IntKind.i64 n127)]) ∧
                                                        x111 ((n122, n126, n123, n127)) h125) h121) h119)))))))
                                        (fun x128 => ifT (decide (n57 = 0))
                                          (x128 (decide (n57 = 0)))
                                          (joinK (A := Bool)
                                            (fun b129 => fun h130 => 
                                            x128 b129 h130)
                                            (fun x131 => ifT (decide (n57 = 1))
                                              (x131 (decide (n57 = 1)))
                                              (x131 (decide (n57 = 2))))))) h56) h53) h50) h48)) h46)
                                (fun x132 => ifT b44
                                  (fun h133 =>
                                  (newK (YtfemminjhecocaaDoorVc.Obj.cells false [Cell.int IntKind.i64 (-1), Cell.int IntKind.i64 4321440, Cell.int IntKind.i64 (IntKind.i64.wrap (IntKind.i64.wrap (n34 + n41) - 1))]) (fun i134 => fun h135 =>
                                  I 9 [V.one (Cell.ptr (some (i2, 0))), V.one (Cell.slice 1 { a := some (i134, 0), len := 3 })]
                                    (fun cs136 => fun h137 => 
                                    ∃ n138 : Int, (cs136 = [V.one (Cell.int IntKind.i64 n138)]) ∧
                                    x132 n138 h137) h135)) h133)
                                  (x132 (IntKind.i64.wrap (n34 + n41))))) h43) h40) h38)) h36)
                          (fun h139 =>
                          I 14 []
                            (fun cs140 => fun h141 => 
                            ∃ b142 : Bool, (cs140 = [V.one (Cell.bool b142)]) ∧
                            Q [V.one (Cell.bool b142)] h141) h139))) h31) h28) h26))) h16) h14)
            (fun x143 => ifT (decide ((↑l6.len : Int) > 0))
              (fun h144 =>
              (newK (YtfemminjhecocaaDoorVc.Obj.cells false [Cell.int IntKind.i64 0, Cell.int IntKind.i64 1440, Cell.int IntKind.i64 5000, Cell.int IntKind.i64 10080, Cell.int IntKind.i64 4321439, Cell.int IntKind.i64 (-1), Cell.int IntKind.i64 4321440]) (fun i145 => fun h146 =>
              I 9 [V.one (Cell.ptr (some (i2, 0))), V.one (Cell.slice 1 { a := some (i145, 0), len := 7 })]
                (fun cs147 => fun h148 => 
                ∃ n149 : Int, (cs147 = [V.one (Cell.int IntKind.i64 n149)]) ∧
                (((0 : Int) ≤ (0 : Int)) ∧
                0 < (↑l6.len : Int)) ∧
                (derefK l6.a (fun i150 => fun i151 => fun h152 =>
                ∃ s153 : ByteArray, ∃ n154 : Int, ∃ n155 : Int, ∃ n156 : Int, ∃ b157 : Bool, (h152.read i150 (i151 + 0) 5 = some [Cell.str s153, Cell.int IntKind.i64 n154, Cell.int IntKind.i64 n155, Cell.int IntKind.i64 n156, Cell.bool b157]) ∧
                I 10 [V.agg [Cell.str s153, Cell.int IntKind.i64 n154, Cell.int IntKind.i64 n155, Cell.int IntKind.i64 n156, Cell.bool b157], V.one (Cell.int IntKind.i64 n149)]
                  (fun cs158 => fun h159 => 
                  ∃ n160 : Int, ∃ n161 : Int, (cs158 = [V.one (Cell.int IntKind.i64 n160), V.one (Cell.int IntKind.i64 n161)]) ∧
                  (((0 : Int) ≤ (0 : Int)) ∧
                  ((0 : Int) ≤ (1 : Int)) ∧
                  1 ≤ (↑l6.len : Int)) ∧
                  I 7 [V.one (Cell.slice 5 (l6.sub 5 0 1))]
                    (fun cs162 => fun h163 => 
                    ∃ n164 : Int, (cs162 = [V.one (Cell.int IntKind.i64 n164)]) ∧
                    (joinK (A := Bool)
                      (fun b165 => joinK (A := Int)
                        (fun n166 => joinK (A := Bool)
                          (fun b167 => ifT b167
                            (Q [V.one (Cell.bool false)])
                            (x143 ()))
                          (fun x168 => ifT (!decide (n161 = n166))
                            (x168 true)
                            (ifT (decide (n166 = 0))
                              (fun h169 =>
                              (((0 : Int) ≤ (0 : Int)) ∧
                              0 < (↑l6.len : Int)) ∧
                              (derefK l6.a (fun i170 => fun i171 => fun h172 =>
                              ∃ s173 : ByteArray, ∃ n174 : Int, ∃ n175 : Int, ∃ n176 : Int, ∃ b177 : Bool, (h172.read i170 (i171 + 0) 5 = some [Cell.str s173, Cell.int IntKind.i64 n174, Cell.int IntKind.i64 n175, Cell.int IntKind.i64 n176, Cell.bool b177]) ∧
                              I 12 [V.agg [Cell.str s173, Cell.int IntKind.i64 n174, Cell.int IntKind.i64 n175, Cell.int IntKind.i64 n176, Cell.bool b177], V.one (Cell.int IntKind.i64 n149)]
                                (fun cs178 => fun h179 => 
                                ∃ n180 : Int, (cs178 = [V.one (Cell.int IntKind.i64 n180)]) ∧
                                x168 (!decide (n160 = n180)) h179) h172)) h169)
                              (x168 false))))
                        (fun x181 => ifT b165
                          (x181 1)
                          (x181 n164)))
                      (fun x182 => ifT (decide (n164 = 0))
                        (fun h183 =>
                        I 11 [V.one (Cell.int IntKind.i64 n149)]
                          (fun cs184 => fun h185 => 
                          ∃ b186 : Bool, (cs184 = [V.one (Cell.bool b186)]) ∧
                          x182 (!b186) h185) h183)
                        (x182 false))) h163) h159) h152)) h148) h146)) h144)
              (x143 ())))) h11) h8) h5) h3)) h1
theorem den3 (I : FuncId → List V → Post → T) (l0 : Sl) (Q : Post) : denF Go.Proofs.Tryd.prog 0 (⟨[(253, 18889465931341141902276, []), (4084, 152324653271443276012978180, [(2, tk Go.Proofs.Tryd.prog 4)]), (16220, 285978576338026496, [(57, tk Go.Proofs.Tryd.prog 4)]), (16221, 512, [(9, tk Go.Proofs.Tryd.prog 28)]), (16222, 18889177701102429143040, [(73, tk Go.Proofs.Tryd.prog 4)]), (16774349, 314377348856600891571182394949632, [(14, tk Go.Proofs.Tryd.prog 3)]), (1073558517, 766247770432934220666627510552972069542902637419954176, [(17, tk Go.Proofs.Tryd.prog 3), (18, tk Go.Proofs.Tryd.prog 3), (19, tk Go.Proofs.Tryd.prog 28), (20, tk Go.Proofs.Tryd.prog 28)]), (2147117033, 8847341539944400050047739793225973497856, [(129, tk Go.Proofs.Tryd.prog 4)]), (4294234071, 766244847429670447896532573214137464964301142131343360, [(17, tk Go.Proofs.Tryd.prog 3), (18, tk Go.Proofs.Tryd.prog 3), (19, tk Go.Proofs.Tryd.prog 28), (20, tk Go.Proofs.Tryd.prog 28)]), (8588468135, 6125082604576892342340742933771827806208, [(129, tk Go.Proofs.Tryd.prog 4)]), (17176936287, 763254615079691420525887834046399949906085104148414464, [(17, tk Go.Proofs.Tryd.prog 3), (18, tk Go.Proofs.Tryd.prog 3), (19, tk Go.Proofs.Tryd.prog 28), (20, tk Go.Proofs.Tryd.prog 28)])], [(32762, 100433627766186892221372630771312759137323404069225367592964, [(13, tk Go.Proofs.Tryd.prog 3), (93, tk Go.Proofs.Tryd.prog 3)])]⟩) I 3 [V.one (Cell.slice 1 l0)] Q = vc3 I l0 Q := by kernel_rfl
/-- (*handbill/handmake.Stream).Budgets -/
def vc6 (I : FuncId → List V → Post → T) (p0 : Option (Nat × Nat)) (Q : Post) : T :=
  fun h1 =>
  (newK (YtfemminjhecocaaDoorVc.Obj.cells false [Cell.str { data := #[109, 97, 121] }, Cell.str { data := #[106, 117, 110, 101] }, Cell.str { data := #[97, 108, 108] }]) (fun i2 => loopK (A := Sl × Int) (({ a := none, len := 0 }, 0))
    (fun x3 => uncur fun l4 n5 => ifT (decide (n5 < (↑3 : Int)))
      (fun h6 =>
      ((0 ≤ n5) ∧
      n5 < (↑3 : Int)) ∧
      ∃ s7 : ByteArray, (h6.read i2 (0 + n5.toNat * 1) 1 = some [Cell.str s7]) ∧
      I 17 [V.one (Cell.ptr p0), V.one (Cell.int IntKind.i64 4)]
        (fun cs8 => fun h9 => 
        ∃ b10 : Bool, (cs8 = [V.one (Cell.bool b10)]) ∧
        (ifT b10
          (x3 ((l4, IntKind.i64.wrap (n5 + 1))))
          (fun h11 =>
          (newK (YtfemminjhecocaaDoorVc.Obj.cells false [Cell.int IntKind.i64 0, Cell.int IntKind.i64 0, Cell.int IntKind.i64 1, Cell.int IntKind.i64 5]) (fun i12 => fun h13 =>
          I 9 [V.one (Cell.ptr p0), V.one (Cell.slice 1 { a := some (i12, 0), len := 4 })]
            (fun cs14 => fun h15 => 
            ∃ n16 : Int, (cs14 = [V.one (Cell.int IntKind.i64 n16)]) ∧
            (newK (YtfemminjhecocaaDoorVc.Obj.cells false [Cell.int IntKind.i64 0, Cell.int IntKind.i64 100, Cell.int IntKind.i64 1000, Cell.int IntKind.i64 1001, Cell.int IntKind.i64 1000000000000]) (fun i17 => fun h18 =>
            I 9 [V.one (Cell.ptr p0), V.one (Cell.slice 1 { a := some (i17, 0), len := 5 })]
              (fun cs19 => fun h20 => 
              ∃ n21 : Int, (cs19 = [V.one (Cell.int IntKind.i64 n21)]) ∧
              (newK (YtfemminjhecocaaDoorVc.Obj.cells false [Cell.int IntKind.i64 0, Cell.int IntKind.i64 2, Cell.int IntKind.i64 9, Cell.int IntKind.i64 2000]) (fun i22 => fun h23 =>
              I 9 [V.one (Cell.ptr p0), V.one (Cell.slice 1 { a := some (i22, 0), len := 4 })]
                (fun cs24 => fun h25 => 
                ∃ n26 : Int, (cs24 = [V.one (Cell.int IntKind.i64 n26)]) ∧
                I 17 [V.one (Cell.ptr p0), V.one (Cell.int IntKind.i64 2)]
                  (fun cs27 => fun h28 => 
                  ∃ b29 : Bool, (cs27 = [V.one (Cell.bool b29)]) ∧
                  (appendTo [] 5 48 l4 1 [Cell.str s7, Cell.int IntKind.i64 n21, Cell.int IntKind.i64 n16, Cell.int IntKind.i64 (IntKind.i64.wrap (n16 + n26)), Cell.bool b29] (fun l30 => fun h31 => 
                  x3 ((l30, IntKind.i64.wrap (n5 + 1))) h31)) h28) h25) h23)) h20) h18)) h15) h13)) h11)) h9) h6)
      (joinK (A := Bool)
        (fun b32 => ifT b32
          (fun h33 =>
          I 16 [V.one (Cell.ptr p0), V.one (Cell.int IntKind.i64 (↑l4.len : Int))]
            (fun cs34 => fun h35 => 
            ∃ n36 : Int, (cs34 = [V.one (Cell.int IntKind.i64 n36)]) ∧
            ((0 ≤ n36) ∧
            n36 < (↑l4.len : Int)) ∧
            (derefK l4.a (fun i37 => fun i38 => fun h39 => 
            I 16 [V.one (Cell.ptr p0), V.one (Cell.int IntKind.i64 4)]
              (fun cs40 => fun h41 => 
              ∃ n42 : Int, (cs40 = [V.one (Cell.int IntKind.i64 n42)]) ∧
              (ifT (decide (n42 = 0))
                (fun h43 =>
                (newK (YtfemminjhecocaaDoorVc.Obj.cells false [Cell.str { data := #[] }, Cell.str { data := #[109, 97, 121] }, Cell.str { data := #[77, 97, 121] }]) (fun i44 => fun h45 =>
                I 53 [V.one (Cell.ptr p0), V.one (Cell.slice 1 { a := some (i44, 0), len := 3 })]
                  (fun cs46 => fun h47 => 
                  ∃ s48 : ByteArray, (cs46 = [V.one (Cell.str s48)]) ∧
                  (storeK [] i37 (i38 + n36.toNat * 5 + 0) [Cell.str s48] (Q [V.one (Cell.slice 5 l4)])) h47) h45)) h43)
                (ifT (decide (n42 = 1))
                  (fun h49 =>
                  (newK (YtfemminjhecocaaDoorVc.Obj.cells false [Cell.int IntKind.i64 (-1), Cell.int IntKind.i64 1000000000001]) (fun i50 => fun h51 =>
                  I 9 [V.one (Cell.ptr p0), V.one (Cell.slice 1 { a := some (i50, 0), len := 2 })]
                    (fun cs52 => fun h53 => 
                    ∃ n54 : Int, (cs52 = [V.one (Cell.int IntKind.i64 n54)]) ∧
                    (storeK [] i37 (i38 + n36.toNat * 5 + 1) [Cell.int IntKind.i64 n54] (Q [V.one (Cell.slice 5 l4)])) h53) h51)) h49)
                  (ifT (decide (n42 = 2))
                    (fun h55 =>
                    ∃ n56 : Int, (h55.read i37 (i38 + n36.toNat * 5 + 3) 1 = some [Cell.int IntKind.i64 n56]) ∧
                    (newK (YtfemminjhecocaaDoorVc.Obj.cells false [Cell.int IntKind.i64 (-1), Cell.int IntKind.i64 (IntKind.i64.wrap (n56 + 1))]) (fun i57 => fun h58 =>
                    I 9 [V.one (Cell.ptr p0), V.one (Cell.slice 1 { a := some (i57, 0), len := 2 })]
                      (fun cs59 => fun h60 => 
                      ∃ n61 : Int, (cs59 = [V.one (Cell.int IntKind.i64 n61)]) ∧
                      (storeK [] i37 (i38 + n36.toNat * 5 + 2) [Cell.int IntKind.i64 n61] (Q [V.one (Cell.slice 5 l4)])) h60) h58)) h55)
                    (fun h62 =>
                    (newK (YtfemminjhecocaaDoorVc.Obj.cells false [Cell.int IntKind.i64 3000, Cell.int IntKind.i64 3001]) (fun i63 => fun h64 =>
                    I 9 [V.one (Cell.ptr p0), V.one (Cell.slice 1 { a := some (i63, 0), len := 2 })]
                      (fun cs65 => fun h66 => 
                      ∃ n67 : Int, (cs65 = [V.one (Cell.int IntKind.i64 n67)]) ∧
                      (storeK [] i37 (i38 + n36.toNat * 5 + 3) [Cell.int IntKind.i64 n67] (Q [V.one (Cell.slice 5 l4)])) h66) h64)) h62)))) h41) h39)) h35) h33)
          (Q [V.one (Cell.slice 5 l4)]))
        (fun x68 => fun h69 => 
        I 17 [V.one (Cell.ptr p0), V.one (Cell.int IntKind.i64 10)]
          (fun cs70 => fun h71 => 
          ∃ b72 : Bool, (cs70 = [V.one (Cell.bool b72)]) ∧
          (ifT b72
            (x68 (decide ((↑l4.len : Int) > 0)))
            (x68 false)) h71) h69))))) h1
theorem den6 (I : FuncId → List V → Post → T) (p0 : Option (Nat × Nat)) (Q : Post) : denF Go.Proofs.Tryd.prog 0 (⟨[(60, 8727373545472, [(42, tk Go.Proofs.Tryd.prog 4)])], [(58, 68719475816, [(3, tk Go.Proofs.Tryd.prog 26), (10, tk Go.Proofs.Tryd.prog 3)])]⟩) I 6 [V.one (Cell.ptr p0)] Q = vc6 I p0 Q := by kernel_rfl
/-- (*handbill/handmake.Stream).Pick -/
def vc9 (I : FuncId → List V → Post → T) (p0 : Option (Nat × Nat)) (l1 : Sl) (Q : Post) : T :=
  fun h2 =>
  I 16 [V.one (Cell.ptr p0), V.one (Cell.int IntKind.i64 (↑l1.len : Int))]
    (fun cs3 => fun h4 => 
    ∃ n5 : Int, (cs3 = [V.one (Cell.int IntKind.i64 n5)]) ∧
    ((0 ≤ n5) ∧
    n5 < (↑l1.len : Int)) ∧
    (derefK l1.a (fun i6 => fun i7 => fun h8 =>
    ∃ n9 : Int, (h8.read i6 (i7 + n5.toNat * 1) 1 = some [Cell.int IntKind.i64 n9]) ∧
    Q [V.one (Cell.int IntKind.i64 n9)] h8)) h4) h2
theorem den9 (I : FuncId → List V → Post → T) (p0 : Option (Nat × Nat)) (l1 : Sl) (Q : Post) : denF Go.Proofs.Tryd.prog 0 (⟨[], []⟩) I 9 [V.one (Cell.ptr p0), V.one (Cell.slice 1 l1)] Q = vc9 I p0 l1 Q := by kernel_rfl
/-- (*handbill/handmake.Stream).Next -/
def vc16 (I : FuncId → List V → Post → T) (p0 : Option (Nat × Nat)) (n1 : Int) (Q : Post) : T :=
  derefK p0 (fun i2 => fun i3 => fun h4 =>
  ∃ n5 : Int, (h4.read i2 (i3 + 1) 1 = some [Cell.int IntKind.i64 n5]) ∧
  (derefK p0 (fun i6 => fun i7 => fun h8 =>
  (storeK [] i6 (i7 + 1) [Cell.int IntKind.i64 (IntKind.i64.wrap (n5 + 1))] (derefK p0 (fun i9 => fun i10 => fun h11 =>
  ∃ l12 : Sl, (h11.read i9 (i10 + 0) 1 = some [Cell.slice 1 l12]) ∧
  (ifT (decide ((↑l12.len : Int) = 0))
    (derefK p0 (fun i13 => fun i14 => fun h15 =>
    ∃ n16 : Int, (h15.read i13 (i14 + 1) 1 = some [Cell.int IntKind.i64 n16]) ∧
    I 64 [V.one (Cell.int IntKind.i64 (IntKind.i64.wrap (n16 * 7919))), V.one (Cell.int IntKind.i64 n1)]
      (fun cs17 => fun h18 => 
      ∃ n19 : Int, (cs17 = [V.one (Cell.int IntKind.i64 n19)]) ∧
      Q [V.one (Cell.int IntKind.i64 n19)] h18) h15))
    (derefK p0 (fun i20 => fun i21 => fun h22 =>
    ∃ n23 : Int, (h22.read i20 (i21 + 1) 1 = some [Cell.int IntKind.i64 n23]) ∧
    (derefK p0 (fun i24 => fun i25 => fun h26 =>
    ∃ l27 : Sl, (h26.read i24 (i25 + 0) 1 = some [Cell.slice 1 l27]) ∧
    ((↑l27.len : Int) ≠ 0) ∧
    (derefK p0 (fun i28 => fun i29 => fun h30 =>
    ∃ n31 : Int, (h30.read i28 (i29 + 1) 1 = some [Cell.int IntKind.i64 n31]) ∧
    (derefK p0 (fun i32 => fun i33 => fun h34 =>
    ∃ l35 : Sl, (h34.read i32 (i33 + 0) 1 = some [Cell.slice 1 l35]) ∧
    ((↑l35.len : Int) ≠ 0) ∧
    (derefK p0 (fun i36 => fun i37 => fun h38 =>
    ∃ l39 : Sl, (h38.read i36 (i37 + 0) 1 = some [Cell.slice 1 l39]) ∧
    ((0 ≤ (IntKind.i64.wrap (n23 - 1)).tmod (↑l27.len : Int)) ∧
    (IntKind.i64.wrap (n23 - 1)).tmod (↑l27.len : Int) < (↑l39.len : Int)) ∧
    (derefK l39.a (fun i40 => fun i41 => fun h42 =>
    ∃ n43 : Int, (h42.read i40 (i41 + ((IntKind.i64.wrap (n23 - 1)).tmod (↑l27.len : Int)).toNat * 1) 1 = some [Cell.int IntKind.i64 n43]) ∧
    I 64 [V.one (Cell.int IntKind.i64 n43), V.one (Cell.int IntKind.i64 1073741824)]
      (fun cs44 => fun h45 => 
      ∃ n46 : Int, (cs44 = [V.one (Cell.int IntKind.i64 n46)]) ∧
      I 64 [V.one (Cell.int IntKind.i64 (IntKind.i64.wrap (n46 + IntKind.i64.wrap (IntKind.i64.wrap ((IntKind.i64.wrap (n31 - 1)).tdiv (↑l35.len : Int)) * IntKind.i64.wrap (7919 + (IntKind.i64.wrap (n23 - 1)).tmod (↑l27.len : Int)))))), V.one (Cell.int IntKind.i64 n1)]
        (fun cs47 => fun h48 => 
        ∃ n49 : Int, (cs47 = [V.one (Cell.int IntKind.i64 n49)]) ∧
        Q [V.one (Cell.int IntKind.i64 n49)] h48) h45) h42)) h38)) h34)) h30)) h26)) h22))) h11))) h8)) h4)
theorem den16 (I : FuncId → List V → Post → T) (p0 : Option (Nat × Nat)) (n1 : Int) (Q : Post) : denF Go.Proofs.Tryd.prog 0 (⟨[], []⟩) I 16 [V.one (Cell.ptr p0), V.one (Cell.int IntKind.i64 n1)] Q = vc16 I p0 n1 Q := by kernel_rfl
/-- handbill/handmake.Below -/
def vc64 (I : FuncId → List V → Post → T) (n0 : Int) (n1 : Int) (Q : Post) : T :=
  ifT (decide (n1 < 1))
    (Q [V.one (Cell.int IntKind.i64 0)])
    (fun h2 =>
    (n1 ≠ 0) ∧
    (ifT (decide (n0.tmod n1 < 0))
      (Q [V.one (Cell.int IntKind.i64 (IntKind.i64.wrap (n0.tmod n1 + n1)))])
      (Q [V.one (Cell.int IntKind.i64 (n0.tmod n1))])) h2)
theorem den64 (I : FuncId → List V → Post → T) (n0 : Int) (n1 : Int) (Q : Post) : denF Go.Proofs.Tryd.prog 0 (⟨[], []⟩) I 64 [V.one (Cell.int IntKind.i64 n0), V.one (Cell.int IntKind.i64 n1)] Q = vc64 I n0 n1 Q := by kernel_rfl
/-- (*handbill/handmake.Stream).Flip -/
def vc17 (I : FuncId → List V → Post → T) (p0 : Option (Nat × Nat)) (n1 : Int) (Q : Post) : T :=
  fun h2 =>
  I 16 [V.one (Cell.ptr p0), V.one (Cell.int IntKind.i64 n1)]
    (fun cs3 => fun h4 => 
    ∃ n5 : Int, (cs3 = [V.one (Cell.int IntKind.i64 n5)]) ∧
    Q [V.one (Cell.bool (decide (n5 = 0)))] h4) h2
theorem den17 (I : FuncId → List V → Post → T) (p0 : Option (Nat × Nat)) (n1 : Int) (Q : Post) : denF Go.Proofs.Tryd.prog 0 (⟨[], []⟩) I 17 [V.one (Cell.ptr p0), V.one (Cell.int IntKind.i64 n1)] Q = vc17 I p0 n1 Q := by kernel_rfl
/-- (*handbill/handmake.Stream).one -/
def vc53 (I : FuncId → List V → Post → T) (p0 : Option (Nat × Nat)) (l1 : Sl) (Q : Post) : T :=
  fun h2 =>
  I 16 [V.one (Cell.ptr p0), V.one (Cell.int IntKind.i64 (↑l1.len : Int))]
    (fun cs3 => fun h4 => 
    ∃ n5 : Int, (cs3 = [V.one (Cell.int IntKind.i64 n5)]) ∧
    ((0 ≤ n5) ∧
    n5 < (↑l1.len : Int)) ∧
    (derefK l1.a (fun i6 => fun i7 => fun h8 =>
    ∃ s9 : ByteArray, (h8.read i6 (i7 + n5.toNat * 1) 1 = some [Cell.str s9]) ∧
    Q [V.one (Cell.str s9)] h8)) h4) h2
theorem den53 (I : FuncId → List V → Post → T) (p0 : Option (Nat × Nat)) (l1 : Sl) (Q : Post) : denF Go.Proofs.Tryd.prog 0 (⟨[], []⟩) I 53 [V.one (Cell.ptr p0), V.one (Cell.slice 1 l1)] Q = vc53 I p0 l1 Q := by kernel_rfl
/-- handbill/handref1.BudgetsFault -/
def vc7 (I : FuncId → List V → Post → T) (l0 : Sl) (Q : Post) : T :=
  ifT (decide ((↑l0.len : Int) > 50))
    (Q [V.one (Cell.int IntKind.i64 2)])
    (loopK (A := Int) 0
      (fun x1 => fun n2 => ifT (decide (n2 < (↑l0.len : Int)))
        (fun h3 =>
        ((0 ≤ n2) ∧
        n2 < (↑l0.len : Int)) ∧
        (derefK l0.a (fun i4 => fun i5 => fun h6 =>
        ∃ s7 : ByteArray, ∃ n8 : Int, ∃ n9 : Int, ∃ n10 : Int, ∃ b11 : Bool, (h6.read i4 (i5 + n2.toNat * 5) 5 = some [Cell.str s7, Cell.int IntKind.i64 n8, Cell.int IntKind.i64 n9, Cell.int IntKind.i64 n10, Cell.bool b11]) ∧
        (newK (YtfemminjhecocaaDoorVc.Obj.cells false [Cell.str ByteArray.empty, Cell.int IntKind.i64 0, Cell.int IntKind.i64 0, Cell.int IntKind.i64 0, Cell.bool false]) (fun i12 => fun h13 => 
        (storeK [] i12 0 [Cell.str s7, Cell.int IntKind.i64 n8, Cell.int IntKind.i64 n9, Cell.int IntKind.i64 n10, Cell.bool b11] (fun h14 =>
        ∃ s15 : ByteArray, (h14.read i12 0 1 = some [Cell.str s15]) ∧
        I 54 [V.one (Cell.str s15)]
          (fun cs16 => fun h17 => 
          ∃ b18 : Bool, (cs16 = [V.one (Cell.bool b18)]) ∧
          (ifT (!b18)
            (Q [V.one (Cell.int IntKind.i64 5)])
            (fun h19 =>
            (((0 : Int) ≤ (0 : Int)) ∧
            (0 ≤ n2) ∧
            n2 ≤ (↑l0.len : Int)) ∧
            I 55 [V.one (Cell.slice 5 (l0.sub 5 0 n2.toNat)), V.one (Cell.func (some (56, [(i12, 0)])))]
              (fun cs20 => fun h21 => 
              ∃ b22 : Bool, (cs20 = [V.one (Cell.bool b22)]) ∧
              (ifT b22
                (Q [V.one (Cell.int IntKind.i64 6)])
                (fun h23 =>
                ∃ n24 : Int, (h23.read i12 1 1 = some [Cell.int IntKind.i64 n24]) ∧
                (ifT (decide (n24 < 0))
                  (Q [V.one (Cell.int IntKind.i64 1)])
                  (fun h25 =>
                  ∃ n26 : Int, (h25.read i12 1 1 = some [Cell.int IntKind.i64 n26]) ∧
                  (ifT (decide (n26 > 1000000000000))
                    (Q [V.one (Cell.int IntKind.i64 1)])
                    (fun h27 =>
                    ∃ n28 : Int, (h27.read i12 2 1 = some [Cell.int IntKind.i64 n28]) ∧
                    (ifT (decide (n28 < 0))
                      (Q [V.one (Cell.int IntKind.i64 1)])
                      (fun h29 =>
                      ∃ n30 : Int, (h29.read i12 2 1 = some [Cell.int IntKind.i64 n30]) ∧
                      ∃ n31 : Int, (h29.read i12 3 1 = some [Cell.int IntKind.i64 n31]) ∧
                      (ifT (decide (n30 > n31))
                        (Q [V.one (Cell.int IntKind.i64 1)])
                        (fun h32 =>
                        ∃ n33 : Int, (h32.read i12 3 1 = some [Cell.int IntKind.i64 n33]) ∧
                        (ifT (decide (n33 > 3000))
                          (Q [V.one (Cell.int IntKind.i64 1)])
                          (x1 (IntKind.i64.wrap (n2 + 1)))) h32)) h29)) h27)) h25)) h23)) h21) h19)) h17) h14)) h13)) h6)) h3)
        (Q [V.one (Cell.int IntKind.i64 0)])))
theorem den7 (I : FuncId → List V → Post → T) (l0 : Sl) (Q : Post) : denF Go.Proofs.Tryd.prog 0 (⟨[], [(58, 9007199254739996, [(10, tk Go.Proofs.Tryd.prog 3)])]⟩) I 7 [V.one (Cell.slice 5 l0)] Q = vc7 I l0 Q := by kernel_rfl
/-- handbill/handref1.keyOf -/
def vc54 (I : FuncId → List V → Post → T) (s0 : ByteArray) (Q : Post) : T :=
  fun h1 =>
  I 107 [V.one (Cell.str s0)]
    (fun cs2 => fun h3 => 
    ∃ b4 : Bool, (cs2 = [V.one (Cell.bool b4)]) ∧
    Q [V.one (Cell.bool b4)] h3) h1
theorem den54 (I : FuncId → List V → Post → T) (s0 : ByteArray) (Q : Post) : denF Go.Proofs.Tryd.prog 0 (⟨[], []⟩) I 54 [V.one (Cell.str s0)] Q = vc54 I s0 Q := by kernel_rfl
/-- handbill/handref2.Key -/
def vc107 (I : FuncId → List V → Post → T) (s0 : ByteArray) (Q : Post) : T :=
  fun h1 =>
  I 131 [V.one (Cell.int IntKind.i64 (↑s0.size : Int)), V.one (Cell.int IntKind.i64 1), V.one (Cell.int IntKind.i64 40)]
    (fun cs2 => fun h3 => 
    ∃ b4 : Bool, (cs2 = [V.one (Cell.bool b4)]) ∧
    (ifT b4
      (fun h5 =>
      (((0 : Int) ≤ (0 : Int)) ∧
      ((0 : Int) ≤ (1 : Int)) ∧
      1 ≤ (↑s0.size : Int)) ∧
      I 132 [V.one (Cell.str (s0.extract 0 1)), V.one (Cell.str { data := #[97, 98, 99, 100, 101, 102, 103, 104, 105, 106, 107, 108, 109, 110, 111, 112, 113, 114, 115, 116, 117, 118, 119, 120, 121, 122] })]
        (fun cs6 => fun h7 => 
        ∃ b8 : Bool, (cs6 = [V.one (Cell.bool b8)]) ∧
        (ifT b8
          (fun h9 =>
          I 132 [V.one (Cell.str s0), V.one (Cell.str { data := #[97, 98, 99, 100, 101, 102, 103, 104, 105, 106, 107, 108, 109, 110, 111, 112, 113, 114, 115, 116, 117, 118, 119, 120, 121, 122, 48, 49, 50, 51, 52, 53, 54, 55, 56, 57, 45, 95] })]
            (fun cs10 => fun h11 => 
            ∃ b12 : Bool, (cs10 = [V.one (Cell.bool b12)]) ∧
            Q [V.one (Cell.bool b12)] h11) h9)
          (Q [V.one (Cell.bool false)])) h7) h5)
      (Q [V.one (Cell.bool false)])) h3) h1
theorem den107 (I : FuncId → List V → Post → T) (s0 : ByteArray) (Q : Post) : denF Go.Proofs.Tryd.prog 0 (⟨[], []⟩) I 107 [V.one (Cell.str s0)] Q = vc107 I s0 Q := by kernel_rfl
/-- handbill/handref2.in -/
def vc131 (I : FuncId → List V → Post → T) (n0 : Int) (n1 : Int) (n2 : Int) (Q : Post) : T :=
  ifT (decide (n1 ≤ n0))
    (Q [V.one (Cell.bool (decide (n0 ≤ n2)))])
    (Q [V.one (Cell.bool false)])
theorem den131 (I : FuncId → List V → Post → T) (n0 : Int) (n1 : Int) (n2 : Int) (Q : Post) : denF Go.Proofs.Tryd.prog 0 (⟨[], []⟩) I 131 [V.one (Cell.int IntKind.i64 n0), V.one (Cell.int IntKind.i64 n1), V.one (Cell.int IntKind.i64 n2)] Q = vc131 I n0 n1 n2 Q := by kernel_rfl
/-- handbill/handref2.only -/
def vc132 (I : FuncId → List V → Post → T) (s0 : ByteArray) (s1 : ByteArray) (Q : Post) : T :=
  fun h2 =>
  I 144 [V.one (Cell.str s0), V.one (Cell.str s1)]
    (fun cs3 => fun h4 => 
    ∃ s5 : ByteArray, (cs3 = [V.one (Cell.str s5)]) ∧
    Q [V.one (Cell.bool (decide (s5 = { data := #[] })))] h4) h2
theorem den132 (I : FuncId → List V → Post → T) (s0 : ByteArray) (s1 : ByteArray) (Q : Post) : denF Go.Proofs.Tryd.prog 0 (⟨[], []⟩) I 132 [V.one (Cell.str s0), V.one (Cell.str s1)] Q = vc132 I s0 s1 Q := by kernel_rfl
/-- strings.Trim (by hand) -/
def vc144 (I : FuncId → List V → Post → T) (s0 : ByteArray) (s1 : ByteArray) (Q : Post) : T :=
  joinK (A := Bool)
    (fun b2 => ifT b2
      (Q [V.one (Cell.str s0)])
      (joinK (A := Bool)
        (fun b3 => ifT b3
          (fun h4 =>
          (((0 : Int) ≤ (0 : Int)) ∧
          0 < (↑s1.size : Int)) ∧
          (((0 : Int) ≤ (0 : Int)) ∧
          0 < (↑s1.size : Int)) ∧
          I 149 [V.one (Cell.str s0), V.one (Cell.int IntKind.u8 (byteAt s1 0))]
            (fun cs5 => fun h6 => 
            ∃ s7 : ByteArray, (cs5 = [V.one (Cell.str s7)]) ∧
            I 148 [V.one (Cell.str s7), V.one (Cell.int IntKind.u8 (byteAt s1 0))]
              (fun cs8 => fun h9 => 
              ∃ s10 : ByteArray, (cs8 = [V.one (Cell.str s10)]) ∧
              Q [V.one (Cell.str s10)] h9) h6) h4)
          (fun h11 =>
          I 150 [V.one (Cell.str s1)]
            (fun cs12 => fun h13 => 
            exCells (List.replicate 256 Kd.bool) fun ds14 => ∃ b270 : Bool, (cs12 = [V.agg ds14, V.one (Cell.bool b270)]) ∧
            (newK (YtfemminjhecocaaDoorVc.Obj.cells false (List.replicate 256 (Cell.bool false))) (fun i271 => fun h272 => 
            (storeK [] i271 0 ds14 (ifT b270
              (fun h273 =>
              I 152 [V.one (Cell.str s0), V.one (Cell.ptr (some (i271, 0)))]
                (fun cs274 => fun h275 => 
                ∃ s276 : ByteArray, (cs274 = [V.one (Cell.str s276)]) ∧
                I 151 [V.one (Cell.str s276), V.one (Cell.ptr (some (i271, 0)))]
                  (fun cs277 => fun h278 => 
                  ∃ s279 : ByteArray, (cs277 = [V.one (Cell.str s279)]) ∧
                  Q [V.one (Cell.str s279)] h278) h275) h273)
              (fun h280 =>
              I 154 [V.one (Cell.str s0), V.one (Cell.str s1)]
                (fun cs281 => fun h282 => 
                ∃ s283 : ByteArray, (cs281 = [V.one (Cell.str s283)]) ∧
                I 153 [V.one (Cell.str s283), V.one (Cell.str s1)]
                  (fun cs284 => fun h285 => 
                  ∃ s286 : ByteArray, (cs284 = [V.one (Cell.str s286)]) ∧
                  Q [V.one (Cell.str s286)] h285) h282) h280))) h272)) h13) h11))
        (fun x287 => ifT (decide ((↑s1.size : Int) = 1))
          (fun h288 =>
          (((0 : Int) ≤ (0 : Int)) ∧
          0 < (↑s1.size : Int)) ∧
          x287 (decide (byteAt s1 0 < 128)) h288)
          (x287 false))))
    (fun x289 => ifT (decide (s0 = { data := #[] }))
      (x289 true)
      (x289 (decide (s1 = { data := #[] }))))
theorem den144 (I : FuncId → List V → Post → T) (s0 : ByteArray) (s1 : ByteArray) (Q : Post) : denF Go.Proofs.Tryd.prog 0 (⟨[(12, 8064, [(12, tk Go.Proofs.Tryd.prog 4)]), (28, 4177920, [(21, tk Go.Proofs.Tryd.prog 4)])], []⟩) I 144 [V.one (Cell.str s0), V.one (Cell.str s1)] Q = vc144 I s0 s1 Q := by kernel_rfl
/-- strings.trimLeftByte -/
def vc148 (I : FuncId → List V → Post → T) (s0 : ByteArray) (n1 : Int) (Q : Post) : T :=
  loopK (A := ByteArray) s0
    (fun x2 => fun s3 => ifT (decide ((↑s3.size : Int) > 0))
      (fun h4 =>
      (((0 : Int) ≤ (0 : Int)) ∧
      0 < (↑s3.size : Int)) ∧
      (ifT (decide (byteAt s3 0 = n1))
        (fun h5 =>
        (((0 : Int) ≤ (1 : Int)) ∧
        (1 ≤ (↑s3.size : Int)) ∧
        (↑s3.size : Int) ≤ (↑s3.size : Int)) ∧
        x2 (s3.extract 1 (↑s3.size : Int).toNat) h5)
        (Q [V.one (Cell.str s3)])) h4)
      (Q [V.one (Cell.str s3)]))
theorem den148 (I : FuncId → List V → Post → T) (s0 : ByteArray) (n1 : Int) (Q : Post) : denF Go.Proofs.Tryd.prog 0 (⟨[], [(12, 65505, [(0, tk Go.Proofs.Tryd.prog 9)])]⟩) I 148 [V.one (Cell.str s0), V.one (Cell.int IntKind.u8 n1)] Q = vc148 I s0 n1 Q := by kernel_rfl
/-- strings.trimRightByte -/
def vc149 (I : FuncId → List V → Post → T) (s0 : ByteArray) (n1 : Int) (Q : Post) : T :=
  loopK (A := ByteArray) s0
    (fun x2 => fun s3 => ifT (decide ((↑s3.size : Int) > 0))
      (fun h4 =>
      ((0 ≤ IntKind.i64.wrap ((↑s3.size : Int) - 1)) ∧
      IntKind.i64.wrap ((↑s3.size : Int) - 1) < (↑s3.size : Int)) ∧
      (ifT (decide (byteAt s3 (IntKind.i64.wrap ((↑s3.size : Int) - 1)) = n1))
        (fun h5 =>
        (((0 : Int) ≤ (0 : Int)) ∧
        (0 ≤ IntKind.i64.wrap ((↑s3.size : Int) - 1)) ∧
        IntKind.i64.wrap ((↑s3.size : Int) - 1) ≤ (↑s3.size : Int)) ∧
        x2 (s3.extract 0 (IntKind.i64.wrap ((↑s3.size : Int) - 1)).toNat) h5)
        (Q [V.one (Cell.str s3)])) h4)
      (Q [V.one (Cell.str s3)]))
theorem den149 (I : FuncId → List V → Post → T) (s0 : ByteArray) (n1 : Int) (Q : Post) : denF Go.Proofs.Tryd.prog 0 (⟨[], [(12, 4194273, [(0, tk Go.Proofs.Tryd.prog 9)])]⟩) I 149 [V.one (Cell.str s0), V.one (Cell.int IntKind.u8 n1)] Q = vc149 I s0 n1 Q := by kernel_rfl
/-- strings.makeASCIISet (by hand) -/
def vc150 (I : FuncId → List V → Post → T) (s0 : ByteArray) (Q : Post) : T :=
  fun h1 =>
  (newK (YtfemminjhecocaaDoorVc.Obj.cells false (List.replicate 256 (Cell.bool false))) (fun i2 => loopK (A := Int) 0
    (fun x3 => fun n4 => ifT (decide (n4 < (↑s0.size : Int)))
      (fun h5 =>
      ((0 ≤ n4) ∧
      n4 < (↑s0.size : Int)) ∧
      (ifT (decide (byteAt s0 n4 ≥ 128))
        (fun h6 =>
        exCells (List.replicate 256 Kd.bool) fun ds7 => (h6.read i2 0 256 = some ds7) ∧
        (storeK [] i2 0 ds7 (fun h263 =>
        exCells (List.replicate 256 Kd.bool) fun ds264 => (h263.read i2 0 256 = some ds264) ∧
        Q [V.agg ds264, V.one (Cell.bool false)] h263)) h6)
        (fun h520 =>
        ((0 ≤ byteAt s0 n4) ∧
        byteAt s0 n4 < (↑256 : Int)) ∧
        (storeK [] i2 (0 + (byteAt s0 n4).toNat * 1) [Cell.bool true] (x3 (IntKind.i64.wrap (n4 + 1)))) h520)) h5)
      (fun h521 =>
      exCells (List.replicate 256 Kd.bool) fun ds522 => (h521.read i2 0 256 = some ds522) ∧
      (storeK [] i2 0 ds522 (fun h778 =>
      exCells (List.replicate 256 Kd.bool) fun ds779 => (h778.read i2 0 256 = some ds779) ∧
      Q [V.agg ds779, V.one (Cell.bool true)] h778)) h521)))) h1
theorem den150 (I : FuncId → List V → Post → T) (s0 : ByteArray) (Q : Post) : denF Go.Proofs.Tryd.prog 0 (⟨[], [(26, 1048568, [(4, tk Go.Proofs.Tryd.prog 3)])]⟩) I 150 [V.one (Cell.str s0)] Q = vc150 I s0 Q := by kernel_rfl
/-- strings.trimLeftASCII -/
def vc151 (I : FuncId → List V → Post → T) (s0 : ByteArray) (p1 : Option (Nat × Nat)) (Q : Post) : T :=
  loopK (A := ByteArray) s0
    (fun x2 => fun s3 => ifT (decide ((↑s3.size : Int) > 0))
      (fun h4 =>
      (((0 : Int) ≤ (0 : Int)) ∧
      0 < (↑s3.size : Int)) ∧
      I 157 [V.one (Cell.ptr p1), V.one (Cell.int IntKind.u8 (byteAt s3 0))]
        (fun cs5 => fun h6 => 
        ∃ b7 : Bool, (cs5 = [V.one (Cell.bool b7)]) ∧
        (ifT (!b7)
          (Q [V.one (Cell.str s3)])
          (fun h8 =>
          (((0 : Int) ≤ (1 : Int)) ∧
          (1 ≤ (↑s3.size : Int)) ∧
          (↑s3.size : Int) ≤ (↑s3.size : Int)) ∧
          x2 (s3.extract 1 (↑s3.size : Int).toNat) h8)) h6) h4)
      (Q [V.one (Cell.str s3)]))
theorem den151 (I : FuncId → List V → Post → T) (s0 : ByteArray) (p1 : Option (Nat × Nat)) (Q : Post) : denF Go.Proofs.Tryd.prog 0 (⟨[], [(12, 32737, [(0, tk Go.Proofs.Tryd.prog 9)])]⟩) I 151 [V.one (Cell.str s0), V.one (Cell.ptr p1)] Q = vc151 I s0 p1 Q := by kernel_rfl
/-- (*strings.asciiSet).contains -/
def vc157 (I : FuncId → List V → Post → T) (p0 : Option (Nat × Nat)) (n1 : Int) (Q : Post) : T :=
  derefK p0 (fun i2 => fun i3 => fun h4 => 
  ((0 ≤ n1) ∧
  n1 < (↑256 : Int)) ∧
  ∃ b5 : Bool, (h4.read i2 (i3 + n1.toNat * 1) 1 = some [Cell.bool b5]) ∧
  Q [V.one (Cell.bool b5)] h4)
theorem den157 (I : FuncId → List V → Post → T) (p0 : Option (Nat × Nat)) (n1 : Int) (Q : Post) : denF Go.Proofs.Tryd.prog 0 (⟨[], []⟩) I 157 [V.one (Cell.ptr p0), V.one (Cell.int IntKind.u8 n1)] Q = vc157 I p0 n1 Q := by kernel_rfl
/-- strings.trimRightASCII -/
def vc152 (I : FuncId → List V → Post → T) (s0 : ByteArray) (p1 : Option (Nat × Nat)) (Q : Post) : T :=
  loopK (A := ByteArray) s0
    (fun x2 => fun s3 => ifT (decide ((↑s3.size : Int) > 0))
      (fun h4 =>
      ((0 ≤ IntKind.i64.wrap ((↑s3.size : Int) - 1)) ∧
      IntKind.i64.wrap ((↑s3.size : Int) - 1) < (↑s3.size : Int)) ∧
      I 157 [V.one (Cell.ptr p1), V.one (Cell.int IntKind.u8 (byteAt s3 (IntKind.i64.wrap ((↑s3.size : Int) - 1))))]
        (fun cs5 => fun h6 => 
        ∃ b7 : Bool, (cs5 = [V.one (Cell.bool b7)]) ∧
        (ifT (!b7)
          (Q [V.one (Cell.str s3)])
          (fun h8 =>
          (((0 : Int) ≤ (0 : Int)) ∧
          (0 ≤ IntKind.i64.wrap ((↑s3.size : Int) - 1)) ∧
          IntKind.i64.wrap ((↑s3.size : Int) - 1) ≤ (↑s3.size : Int)) ∧
          x2 (s3.extract 0 (IntKind.i64.wrap ((↑s3.size : Int) - 1)).toNat) h8)) h6) h4)
      (Q [V.one (Cell.str s3)]))
theorem den152 (I : FuncId → List V → Post → T) (s0 : ByteArray) (p1 : Option (Nat × Nat)) (Q : Post) : denF Go.Proofs.Tryd.prog 0 (⟨[], [(12, 2097121, [(0, tk Go.Proofs.Tryd.prog 9)])]⟩) I 152 [V.one (Cell.str s0), V.one (Cell.ptr p1)] Q = vc152 I s0 p1 Q := by kernel_rfl
/-- strings.IndexByte -/
def vc133 (I : FuncId → List V → Post → T) (s0 : ByteArray) (n1 : Int) (Q : Post) : T :=
  fun h2 =>
  I 145 [V.one (Cell.str s0), V.one (Cell.int IntKind.u8 n1)]
    (fun cs3 => fun h4 => 
    ∃ n5 : Int, (cs3 = [V.one (Cell.int IntKind.i64 n5)]) ∧
    Q [V.one (Cell.int IntKind.i64 n5)] h4) h2
theorem den133 (I : FuncId → List V → Post → T) (s0 : ByteArray) (n1 : Int) (Q : Post) : denF Go.Proofs.Tryd.prog 0 (⟨[], []⟩) I 133 [V.one (Cell.str s0), V.one (Cell.int IntKind.u8 n1)] Q = vc133 I s0 n1 Q := by kernel_rfl
/-- internal/stringslite.IndexByte -/
def vc145 (I : FuncId → List V → Post → T) (s0 : ByteArray) (n1 : Int) (Q : Post) : T :=
  fun h2 =>
  I 155 [V.one (Cell.str s0), V.one (Cell.int IntKind.u8 n1)]
    (fun cs3 => fun h4 => 
    ∃ n5 : Int, (cs3 = [V.one (Cell.int IntKind.i64 n5)]) ∧
    Q [V.one (Cell.int IntKind.i64 n5)] h4) h2
theorem den145 (I : FuncId → List V → Post → T) (s0 : ByteArray) (n1 : Int) (Q : Post) : denF Go.Proofs.Tryd.prog 0 (⟨[], []⟩) I 145 [V.one (Cell.str s0), V.one (Cell.int IntKind.u8 n1)] Q = vc145 I s0 n1 Q := by kernel_rfl
/-- slices.ContainsFunc[[]handbill/api.Budget,handbill/api.Budget] -/
def vc55 (I : FuncId → List V → Post → T) (l0 : Sl) (p1 : Option (Nat × List (Nat × Nat))) (Q : Post) : T :=
  fun h2 =>
  I 108 [V.one (Cell.slice 5 l0), V.one (Cell.func p1)]
    (fun cs3 => fun h4 => 
    ∃ n5 : Int, (cs3 = [V.one (Cell.int IntKind.i64 n5)]) ∧
    Q [V.one (Cell.bool (decide (n5 ≥ 0)))] h4) h2
theorem den55 (I : FuncId → List V → Post → T) (l0 : Sl) (p1 : Option (Nat × List (Nat × Nat))) (Q : Post) : denF Go.Proofs.Tryd.prog 0 (⟨[], []⟩) I 55 [V.one (Cell.slice 5 l0), V.one (Cell.func p1)] Q = vc55 I l0 p1 Q := by kernel_rfl
/-- slices.IndexFunc[[]handbill/api.Budget,handbill/api.Budget] -/
def vc108 (I : FuncId → List V → Post → T) (l0 : Sl) (p1 : Option (Nat × List (Nat × Nat))) (Q : Post) : T :=
  loopK (A := Int) 0
    (fun x2 => fun n3 => ifT (decide (n3 < (↑l0.len : Int)))
      (fun h4 =>
      ((0 ≤ n3) ∧
      n3 < (↑l0.len : Int)) ∧
      (derefK l0.a (fun i5 => fun i6 => fun h7 =>
      ∃ s8 : ByteArray, ∃ n9 : Int, ∃ n10 : Int, ∃ n11 : Int, ∃ b12 : Bool, (h7.read i5 (i6 + n3.toNat * 5) 5 = some [Cell.str s8, Cell.int IntKind.i64 n9, Cell.int IntKind.i64 n10, Cell.int IntKind.i64 n11, Cell.bool b12]) ∧
      (funK p1 (fun i13 => fun cs14 => fun h15 => 
      I i13 (V.agg [Cell.str s8, Cell.int IntKind.i64 n9, Cell.int IntKind.i64 n10, Cell.int IntKind.i64 n11, Cell.bool b12] :: cs14)
        (fun cs16 => fun h17 => 
        ∃ b18 : Bool, (cs16 = [V.one (Cell.bool b18)]) ∧
        (ifT b18
          (Q [V.one (Cell.int IntKind.i64 n3)])
          (x2 (IntKind.i64.wrap (n3 + 1)))) h17) h15)) h7)) h4)
      (Q [V.one (Cell.int IntKind.i64 (-1))]))
theorem den108 (I : FuncId → List V → Post → T) (l0 : Sl) (p1 : Option (Nat × List (Nat × Nat))) (Q : Post) : denF Go.Proofs.Tryd.prog 0 (⟨[], [(26, 524080, [(8, tk Go.Proofs.Tryd.prog 3)])]⟩) I 108 [V.one (Cell.slice 5 l0), V.one (Cell.func p1)] Q = vc108 I l0 p1 Q := by kernel_rfl
/-- handbill/offer.CheckBudgets -/
def vc8 (I : FuncId → List V → Post → T) (l0 : Sl) (Q : Post) : T :=
  ifT (decide ((↑l0.len : Int) > 50))
    (Q [V.one (Cell.int IntKind.i64 2)])
    (loopK (A := Int) 0
      (fun x1 => fun n2 => ifT (decide (n2 < (↑l0.len : Int)))
        (fun h3 =>
        ((0 ≤ n2) ∧
        n2 < (↑l0.len : Int)) ∧
        (derefK l0.a (fun i4 => fun i5 => fun h6 =>
        ∃ s7 : ByteArray, ∃ n8 : Int, ∃ n9 : Int, ∃ n10 : Int, ∃ b11 : Bool, (h6.read i4 (i5 + n2.toNat * 5) 5 = some [Cell.str s7, Cell.int IntKind.i64 n8, Cell.int IntKind.i64 n9, Cell.int IntKind.i64 n10, Cell.bool b11]) ∧
        (newK (YtfemminjhecocaaDoorVc.Obj.cells false [Cell.str ByteArray.empty, Cell.int IntKind.i64 0, Cell.int IntKind.i64 0, Cell.int IntKind.i64 0, Cell.bool false]) (fun i12 => fun h13 => 
        (storeK [] i12 0 [Cell.str s7, Cell.int IntKind.i64 n8, Cell.int IntKind.i64 n9, Cell.int IntKind.i64 n10, Cell.bool b11] (fun h14 =>
        ∃ s15 : ByteArray, (h14.read i12 0 1 = some [Cell.str s15]) ∧
        I 57 [V.one (Cell.str s15)]
          (fun cs16 => fun h17 => 
          ∃ b18 : Bool, (cs16 = [V.one (Cell.bool b18)]) ∧
          (ifT (!b18)
            (Q [V.one (Cell.int IntKind.i64 5)])
            (fun h19 =>
            (((0 : Int) ≤ (0 : Int)) ∧
            (0 ≤ n2) ∧
            n2 ≤ (↑l0.len : Int)) ∧
            I 55 [V.one (Cell.slice 5 (l0.sub 5 0 n2.toNat)), V.one (Cell.func (some (58, [(i12, 0)])))]
              (fun cs20 => fun h21 => 
              ∃ b22 : Bool, (cs20 = [V.one (Cell.bool b22)]) ∧
              (ifT b22
                (Q [V.one (Cell.int IntKind.i64 6)])
                (fun h23 =>
                ∃ n24 : Int, (h23.read i12 1 1 = some [Cell.int IntKind.i64 n24]) ∧
                I 59 [V.one (Cell.int IntKind.i64 n24), V.one (Cell.int IntKind.i64 0), V.one (Cell.int IntKind.i64 1000000000000)]
                  (fun cs25 => fun h26 => 
                  ∃ b27 : Bool, (cs25 = [V.one (Cell.bool b27)]) ∧
                  (ifT (!b27)
                    (Q [V.one (Cell.int IntKind.i64 1)])
                    (fun h28 =>
                    ∃ n29 : Int, (h28.read i12 2 1 = some [Cell.int IntKind.i64 n29]) ∧
                    (ifT (decide (n29 < 0))
                      (Q [V.one (Cell.int IntKind.i64 1)])
                      (fun h30 =>
                      ∃ n31 : Int, (h30.read i12 2 1 = some [Cell.int IntKind.i64 n31]) ∧
                      ∃ n32 : Int, (h30.read i12 3 1 = some [Cell.int IntKind.i64 n32]) ∧
                      (ifT (decide (n31 > n32))
                        (Q [V.one (Cell.int IntKind.i64 1)])
                        (fun h33 =>
                        ∃ n34 : Int, (h33.read i12 3 1 = some [Cell.int IntKind.i64 n34]) ∧
                        (ifT (decide (n34 > 3000))
                          (Q [V.one (Cell.int IntKind.i64 1)])
                          (x1 (IntKind.i64.wrap (n2 + 1)))) h33)) h30)) h28)) h26) h23)) h21) h19)) h17) h14)) h13)) h6)) h3)
        (Q [V.one (Cell.int IntKind.i64 0)])))
theorem den8 (I : FuncId → List V → Post → T) (l0 : Sl) (Q : Post) : denF Go.Proofs.Tryd.prog 0 (⟨[], [(58, 562949953420316, [(10, tk Go.Proofs.Tryd.prog 3)])]⟩) I 8 [V.one (Cell.slice 5 l0)] Q = vc8 I l0 Q := by kernel_rfl
/-- handbill/person.IsKey -/
def vc57 (I : FuncId → List V → Post → T) (s0 : ByteArray) (Q : Post) : T :=
  fun h1 =>
  I 109 [V.one (Cell.int IntKind.i64 (↑s0.size : Int)), V.one (Cell.int IntKind.i64 1), V.one (Cell.int IntKind.i64 40)]
    (fun cs2 => fun h3 => 
    ∃ b4 : Bool, (cs2 = [V.one (Cell.bool b4)]) ∧
    (ifT b4
      (fun h5 =>
      (((0 : Int) ≤ (0 : Int)) ∧
      0 < (↑s0.size : Int)) ∧
      I 110 [V.one (Cell.int IntKind.u8 (byteAt s0 0))]
        (fun cs6 => fun h7 => 
        ∃ b8 : Bool, (cs6 = [V.one (Cell.bool b8)]) ∧
        (ifT b8
          (fun h9 =>
          I 111 [V.one (Cell.str s0), V.one (Cell.func (some (112, [])))]
            (fun cs10 => fun h11 => 
            ∃ b12 : Bool, (cs10 = [V.one (Cell.bool b12)]) ∧
            Q [V.one (Cell.bool b12)] h11) h9)
          (Q [V.one (Cell.bool false)])) h7) h5)
      (Q [V.one (Cell.bool false)])) h3) h1
theorem den57 (I : FuncId → List V → Post → T) (s0 : ByteArray) (Q : Post) : denF Go.Proofs.Tryd.prog 0 (⟨[], []⟩) I 57 [V.one (Cell.str s0)] Q = vc57 I s0 Q := by kernel_rfl
/-- handbill/person.within -/
def vc109 (I : FuncId → List V → Post → T) (n0 : Int) (n1 : Int) (n2 : Int) (Q : Post) : T :=
  ifT (decide (n1 ≤ n0))
    (Q [V.one (Cell.bool (decide (n0 ≤ n2)))])
    (Q [V.one (Cell.bool false)])
theorem den109 (I : FuncId → List V → Post → T) (n0 : Int) (n1 : Int) (n2 : Int) (Q : Post) : denF Go.Proofs.Tryd.prog 0 (⟨[], []⟩) I 109 [V.one (Cell.int IntKind.i64 n0), V.one (Cell.int IntKind.i64 n1), V.one (Cell.int IntKind.i64 n2)] Q = vc109 I n0 n1 n2 Q := by kernel_rfl
/-- handbill/person.small -/
def vc110 (I : FuncId → List V → Post → T) (n0 : Int) (Q : Post) : T :=
  ifT (decide (97 ≤ n0))
    (Q [V.one (Cell.bool (decide (n0 ≤ 122)))])
    (Q [V.one (Cell.bool false)])
theorem den110 (I : FuncId → List V → Post → T) (n0 : Int) (Q : Post) : denF Go.Proofs.Tryd.prog 0 (⟨[], []⟩) I 110 [V.one (Cell.int IntKind.u8 n0)] Q = vc110 I n0 Q := by kernel_rfl
/-- handbill/person.all -/
def vc111 (I : FuncId → List V → Post → T) (s0 : ByteArray) (p1 : Option (Nat × List (Nat × Nat))) (Q : Post) : T :=
  loopK (A := Int) 0
    (fun x2 => fun n3 => ifT (decide (n3 < (↑s0.size : Int)))
      (fun h4 =>
      ((0 ≤ n3) ∧
      n3 < (↑s0.size : Int)) ∧
      (funK p1 (fun i5 => fun cs6 => fun h7 => 
      I i5 (V.one (Cell.int IntKind.u8 (byteAt s0 n3)) :: cs6)
        (fun cs8 => fun h9 => 
        ∃ b10 : Bool, (cs8 = [V.one (Cell.bool b10)]) ∧
        (ifT (!b10)
          (Q [V.one (Cell.bool false)])
          (x2 (IntKind.i64.wrap (n3 + 1)))) h9) h7)) h4)
      (Q [V.one (Cell.bool true)]))
theorem den111 (I : FuncId → List V → Post → T) (s0 : ByteArray) (p1 : Option (Nat × List (Nat × Nat))) (Q : Post) : denF Go.Proofs.Tryd.prog 0 (⟨[], [(26, 261936, [(8, tk Go.Proofs.Tryd.prog 3)])]⟩) I 111 [V.one (Cell.str s0), V.one (Cell.func p1)] Q = vc111 I s0 p1 Q := by kernel_rfl
/-- handbill/person.IsKey$1 -/
def vc112 (I : FuncId → List V → Post → T) (n0 : Int) (Q : Post) : T :=
  fun h1 =>
  I 110 [V.one (Cell.int IntKind.u8 n0)]
    (fun cs2 => fun h3 => 
    ∃ b4 : Bool, (cs2 = [V.one (Cell.bool b4)]) ∧
    (ifT b4
      (Q [V.one (Cell.bool true)])
      (fun h5 =>
      I 113 [V.one (Cell.int IntKind.u8 n0)]
        (fun cs6 => fun h7 => 
        ∃ b8 : Bool, (cs6 = [V.one (Cell.bool b8)]) ∧
        (ifT b8
          (Q [V.one (Cell.bool true)])
          (ifT (decide (n0 = 45))
            (Q [V.one (Cell.bool true)])
            (Q [V.one (Cell.bool (decide (n0 = 95)))]))) h7) h5)) h3) h1
theorem den112 (I : FuncId → List V → Post → T) (n0 : Int) (Q : Post) : denF Go.Proofs.Tryd.prog 0 (⟨[], []⟩) I 112 [V.one (Cell.int IntKind.u8 n0)] Q = vc112 I n0 Q := by kernel_rfl
/-- handbill/person.digit -/
def vc113 (I : FuncId → List V → Post → T) (n0 : Int) (Q : Post) : T :=
  ifT (decide (48 ≤ n0))
    (Q [V.one (Cell.bool (decide (n0 ≤ 57)))])
    (Q [V.one (Cell.bool false)])
theorem den113 (I : FuncId → List V → Post → T) (n0 : Int) (Q : Post) : denF Go.Proofs.Tryd.prog 0 (⟨[], []⟩) I 113 [V.one (Cell.int IntKind.u8 n0)] Q = vc113 I n0 Q := by kernel_rfl
/-- handbill/offer.within -/
def vc59 (I : FuncId → List V → Post → T) (n0 : Int) (n1 : Int) (n2 : Int) (Q : Post) : T :=
  ifT (decide (n1 ≤ n0))
    (Q [V.one (Cell.bool (decide (n0 ≤ n2)))])
    (Q [V.one (Cell.bool false)])
theorem den59 (I : FuncId → List V → Post → T) (n0 : Int) (n1 : Int) (n2 : Int) (Q : Post) : denF Go.Proofs.Tryd.prog 0 (⟨[], []⟩) I 59 [V.one (Cell.int IntKind.i64 n0), V.one (Cell.int IntKind.i64 n1), V.one (Cell.int IntKind.i64 n2)] Q = vc59 I n0 n1 n2 Q := by kernel_rfl
/-- handbill/offer.Paced -/
def vc10 (I : FuncId → List V → Post → T) (s0 : ByteArray) (n1 : Int) (n2 : Int) (n3 : Int) (b4 : Bool) (n5 : Int) (Q : Post) : T :=
  fun h6 =>
  (newK (YtfemminjhecocaaDoorVc.Obj.cells false [Cell.str s0, Cell.int IntKind.i64 n1, Cell.int IntKind.i64 n2, Cell.int IntKind.i64 n3, Cell.bool b4]) (fun i7 => fun h8 =>
  I 8 [V.one (Cell.slice 5 { a := some (i7, 0), len := 1 })]
    (fun cs9 => fun h10 => 
    ∃ n11 : Int, (cs9 = [V.one (Cell.int IntKind.i64 n11)]) ∧
    (ifT (!decide (n11 = 0))
      (Q [V.one (Cell.int IntKind.i64 0), V.one (Cell.int IntKind.i64 n11)])
      (fun h12 =>
      I 60 [V.one (Cell.int IntKind.i64 n5)]
        (fun cs13 => fun h14 => 
        ∃ b15 : Bool, (cs13 = [V.one (Cell.bool b15)]) ∧
        (ifT (!b15)
          (Q [V.one (Cell.int IntKind.i64 0), V.one (Cell.int IntKind.i64 1)])
          (fun h16 =>
          I 61 [V.agg [Cell.str s0, Cell.int IntKind.i64 n1, Cell.int IntKind.i64 n2, Cell.int IntKind.i64 n3, Cell.bool b4], V.one (Cell.int IntKind.i64 n5)]
            (fun cs17 => fun h18 => 
            ∃ n19 : Int, (cs17 = [V.one (Cell.int IntKind.i64 n19)]) ∧
            Q [V.one (Cell.int IntKind.i64 n19), V.one (Cell.int IntKind.i64 0)] h18) h16)) h14) h12)) h10) h8)) h6
theorem den10 (I : FuncId → List V → Post → T) (s0 : ByteArray) (n1 : Int) (n2 : Int) (n3 : Int) (b4 : Bool) (n5 : Int) (Q : Post) : denF Go.Proofs.Tryd.prog 4 (⟨[], []⟩) I 10 [V.agg [Cell.str s0, Cell.int IntKind.i64 n1, Cell.int IntKind.i64 n2, Cell.int IntKind.i64 n3, Cell.bool b4], V.one (Cell.int IntKind.i64 n5)] Q = vc10 I s0 n1 n2 n3 b4 n5 Q := by kernel_rfl
/-- handbill/offer.isMoment -/
def vc60 (I : FuncId → List V → Post → T) (n0 : Int) (Q : Post) : T :=
  fun h1 =>
  I 59 [V.one (Cell.int IntKind.i64 n0), V.one (Cell.int IntKind.i64 0), V.one (Cell.int IntKind.i64 4321439)]
    (fun cs2 => fun h3 => 
    ∃ b4 : Bool, (cs2 = [V.one (Cell.bool b4)]) ∧
    Q [V.one (Cell.bool b4)] h3) h1
theorem den60 (I : FuncId → List V → Post → T) (n0 : Int) (Q : Post) : denF Go.Proofs.Tryd.prog 0 (⟨[], []⟩) I 60 [V.one (Cell.int IntKind.i64 n0)] Q = vc60 I n0 Q := by kernel_rfl
/-- handbill/offer.paced -/
def vc61 (I : FuncId → List V → Post → T) (s0 : ByteArray) (n1 : Int) (n2 : Int) (n3 : Int) (b4 : Bool) (n5 : Int) (Q : Post) : T :=
  ifT (decide (IntKind.i64.wrap (n5.tdiv 1440) < n2))
    (Q [V.one (Cell.int IntKind.i64 0)])
    (joinK (A := Bool)
      (fun b6 => ifT b6
        (Q [V.one (Cell.int IntKind.i64 n1)])
        (fun h7 =>
        (IntKind.i64.wrap (IntKind.i64.wrap (n3 - n2) + 1) ≠ 0) ∧
        Q [V.one (Cell.int IntKind.i64 (IntKind.i64.wrap ((IntKind.i64.wrap (n1 * IntKind.i64.wrap (IntKind.i64.wrap (IntKind.i64.wrap (n5.tdiv 1440) - n2) + 1))).tdiv (IntKind.i64.wrap (IntKind.i64.wrap (n3 - n2) + 1)))))] h7))
      (fun x8 => ifT (decide (IntKind.i64.wrap (n5.tdiv 1440) ≥ n3))
        (x8 true)
        (x8 (!b4))))
theorem den61 (I : FuncId → List V → Post → T) (s0 : ByteArray) (n1 : Int) (n2 : Int) (n3 : Int) (b4 : Bool) (n5 : Int) (Q : Post) : denF Go.Proofs.Tryd.prog 4 (⟨[(230, 8380416, [(13, tk Go.Proofs.Tryd.prog 4)])], []⟩) I 61 [V.agg [Cell.str s0, Cell.int IntKind.i64 n1, Cell.int IntKind.i64 n2, Cell.int IntKind.i64 n3, Cell.bool b4], V.one (Cell.int IntKind.i64 n5)] Q = vc61 I s0 n1 n2 n3 b4 n5 Q := by kernel_rfl
/-- handbill/handref1.Moment -/
def vc11 (I : FuncId → List V → Post → T) (n0 : Int) (Q : Post) : T :=
  ifT (decide (n0 ≥ 0))
    (Q [V.one (Cell.bool (decide (n0 < 4321440)))])
    (Q [V.one (Cell.bool false)])
theorem den11 (I : FuncId → List V → Post → T) (n0 : Int) (Q : Post) : denF Go.Proofs.Tryd.prog 0 (⟨[], []⟩) I 11 [V.one (Cell.int IntKind.i64 n0)] Q = vc11 I n0 Q := by kernel_rfl
/-- handbill/handref1.PacedOf -/
def vc12 (I : FuncId → List V → Post → T) (s0 : ByteArray) (n1 : Int) (n2 : Int) (n3 : Int) (b4 : Bool) (n5 : Int) (Q : Post) : T :=
  ifT (decide (IntKind.i64.wrap (n5.tdiv 1440) < n2))
    (Q [V.one (Cell.int IntKind.i64 0)])
    (joinK (A := Bool)
      (fun b6 => ifT b6
        (Q [V.one (Cell.int IntKind.i64 n1)])
        (fun h7 =>
        (IntKind.i64.wrap (IntKind.i64.wrap (n3 - n2) + 1) ≠ 0) ∧
        Q [V.one (Cell.int IntKind.i64 (IntKind.i64.wrap ((IntKind.i64.wrap (n1 * IntKind.i64.wrap (IntKind.i64.wrap (IntKind.i64.wrap (n5.tdiv 1440) - n2) + 1))).tdiv (IntKind.i64.wrap (IntKind.i64.wrap (n3 - n2) + 1)))))] h7))
      (fun x8 => ifT (decide (IntKind.i64.wrap (n5.tdiv 1440) ≥ n3))
        (x8 true)
        (x8 (!b4))))
theorem den12 (I : FuncId → List V → Post → T) (s0 : ByteArray) (n1 : Int) (n2 : Int) (n3 : Int) (b4 : Bool) (n5 : Int) (Q : Post) : denF Go.Proofs.Tryd.prog 4 (⟨[(230, 8380416, [(13, tk Go.Proofs.Tryd.prog 4)])], []⟩) I 12 [V.agg [Cell.str s0, Cell.int IntKind.i64 n1, Cell.int IntKind.i64 n2, Cell.int IntKind.i64 n3, Cell.bool b4], V.one (Cell.int IntKind.i64 n5)] Q = vc12 I s0 n1 n2 n3 b4 n5 Q := by kernel_rfl
/-- handbill/offer.NewPurse -/
def vc13 (I : FuncId → List V → Post → T) (l0 : Sl) (Q : Post) : T :=
  fun h1 =>
  I 8 [V.one (Cell.slice 5 l0)]
    (fun cs2 => fun h3 => 
    ∃ n4 : Int, (cs2 = [V.one (Cell.int IntKind.i64 n4)]) ∧
    (ifT (!decide (n4 = 0))
      (Q [V.one (Cell.ptr none), V.one (Cell.int IntKind.i64 n4)])
      (fun h5 =>
      I 62 [V.one (Cell.slice 5 l0)]
        (fun cs6 => fun h7 => 
        ∃ l8 : Sl, (cs6 = [V.one (Cell.slice 5 l8)]) ∧
        (newK (YtfemminjhecocaaDoorVc.Obj.cells false [Cell.slice 5 l8, Cell.slice 6 { a := none, len := 0 }, Cell.int IntKind.i64 0]) (fun i9 => fun h10 => 
        Q [V.one (Cell.ptr (some (i9, 0))), V.one (Cell.int IntKind.i64 0)] h10)) h7) h5)) h3) h1
theorem den13 (I : FuncId → List V → Post → T) (l0 : Sl) (Q : Post) : denF Go.Proofs.Tryd.prog 0 (⟨[], []⟩) I 13 [V.one (Cell.slice 5 l0)] Q = vc13 I l0 Q := by kernel_rfl
/-- slices.Clone[[]handbill/api.Budget,handbill/api.Budget] -/
def vc62 (I : FuncId → List V → Post → T) (l0 : Sl) (Q : Post) : T :=
  ifT l0.a.isNone
    (Q [V.one (Cell.slice 5 { a := none, len := 0 })])
    (fun h1 =>
    ∃ cs2 : List Cell, (h1.sl 5 l0 = some cs2) ∧
    (l0.len * 48 ≤ 140737488355328) ∧
    (newK (YtfemminjhecocaaDoorVc.Obj.cells false cs2) (fun i3 => fun h4 => 
    Q [V.one (Cell.slice 5 { a := some (i3, 0), len := l0.len })] h4)) h1)
theorem den62 (I : FuncId → List V → Post → T) (l0 : Sl) (Q : Post) : denF Go.Proofs.Tryd.prog 0 (⟨[], []⟩) I 62 [V.one (Cell.slice 5 l0)] Q = vc62 I l0 Q := by kernel_rfl
/-- handbill/handlaw1.offers -/
def vc14 (I : FuncId → List V → Post → T) (Q : Post) : T :=
  fun h0 =>
  I 63 [V.one (Cell.str { data := #[49, 50, 51] })]
    (fun cs1 => fun h2 => 
    ∃ s3 : ByteArray, ∃ n4 : Int, (cs1 = [V.one (Cell.str s3), V.one (Cell.int IntKind.i64 n4)]) ∧
    (ifT (decide (n4 = 0))
      (Q [V.one (Cell.bool (decide (s3 = { data := #[49, 50, 51, 67] })))])
      (Q [V.one (Cell.bool false)])) h2) h0
theorem den14 (I : FuncId → List V → Post → T) (Q : Post) : denF Go.Proofs.Tryd.prog 0 (⟨[], []⟩) I 14 [] Q = vc14 I Q := by kernel_rfl
/-- handbill/offer.Seal -/
def vc63 (I : FuncId → List V → Post → T) (s0 : ByteArray) (Q : Post) : T :=
  fun h1 =>
  I 59 [V.one (Cell.int IntKind.i64 (↑s0.size : Int)), V.one (Cell.int IntKind.i64 3), V.one (Cell.int IntKind.i64 23)]
    (fun cs2 => fun h3 => 
    ∃ b4 : Bool, (cs2 = [V.one (Cell.bool b4)]) ∧
    (ifT (!b4)
      (Q [V.one (Cell.str { data := #[] }), V.one (Cell.int IntKind.i64 2)])
      (fun h5 =>
      I 114 [V.one (Cell.str s0)]
        (fun cs6 => fun h7 => 
        ∃ b8 : Bool, (cs6 = [V.one (Cell.bool b8)]) ∧
        (ifT (!b8)
          (Q [V.one (Cell.str { data := #[] }), V.one (Cell.int IntKind.i64 3)])
          (fun h9 =>
          I 115 [V.one (Cell.str s0)]
            (fun cs10 => fun h11 => 
            ∃ s12 : ByteArray, (cs10 = [V.one (Cell.str s12)]) ∧
            Q [V.one (Cell.str s12), V.one (Cell.int IntKind.i64 0)] h11) h9)) h7) h5)) h3) h1
theorem den63 (I : FuncId → List V → Post → T) (s0 : ByteArray) (Q : Post) : denF Go.Proofs.Tryd.prog 0 (⟨[], []⟩) I 63 [V.one (Cell.str s0)] Q = vc63 I s0 Q := by kernel_rfl
/-- handbill/offer.areSigns (by hand) -/
def vc114 (I : FuncId → List V → Post → T) (s0 : ByteArray) (Q : Post) : T :=
  loopK (A := Int) 0
    (fun x1 => fun n2 => ifT (decide (n2 < (↑s0.size : Int)))
      (fun h3 =>
      ((0 ≤ n2) ∧
      n2 < (↑s0.size : Int)) ∧
      I 133 [V.one (Cell.str signS), V.one (Cell.int IntKind.u8 (byteAt s0 n2))]
        (fun cs4 => fun h5 => 
        ∃ n6 : Int, (cs4 = [V.one (Cell.int IntKind.i64 n6)]) ∧
        (ifT (decide (n6 < 0))
          (Q [V.one (Cell.bool false)])
          (x1 (IntKind.i64.wrap (n2 + 1)))) h5) h3)
      (Q [V.one (Cell.bool true)]))
theorem den114 (I : FuncId → List V → Post → T) (s0 : ByteArray) (Q : Post) : denF Go.Proofs.Tryd.prog 0 (⟨[], [(26, 32716, [(6, tk Go.Proofs.Tryd.prog 3)])]⟩) I 114 [V.one (Cell.str s0)] Q = vc114 I s0 Q := by kernel_rfl
/-- handbill/offer.seal (by hand) -/
def vc115 (I : FuncId → List V → Post → T) (s0 : ByteArray) (Q : Post) : T :=
  loopK (A := Int) 0
    (fun x1 => fun n2 => ifT (decide (n2 < 31))
      (fun h3 =>
      ((0 ≤ n2) ∧
      (n2 ≤ IntKind.i64.wrap (n2 + 1)) ∧
      IntKind.i64.wrap (n2 + 1) ≤ (↑31 : Int)) ∧
      (s0.size + (signS.extract n2.toNat (IntKind.i64.wrap (n2 + 1)).toNat).size ≤ 9223372036854775807) ∧
      I 134 [V.one (Cell.str (s0 ++ signS.extract n2.toNat (IntKind.i64.wrap (n2 + 1)).toNat))]
        (fun cs4 => fun h5 => 
        ∃ n6 : Int, (cs4 = [V.one (Cell.int IntKind.i64 n6)]) ∧
        (ifT (decide (n6 = 0))
          (Q [V.one (Cell.str (s0 ++ signS.extract n2.toNat (IntKind.i64.wrap (n2 + 1)).toNat))])
          (x1 (IntKind.i64.wrap (n2 + 1)))) h5) h3)
      (Q [V.one (Cell.str s0)]))
theorem den115 (I : FuncId → List V → Post → T) (s0 : ByteArray) (Q : Post) : denF Go.Proofs.Tryd.prog 0 (⟨[], [(26, 524284, [(5, tk Go.Proofs.Tryd.prog 3)])]⟩) I 115 [V.one (Cell.str s0)] Q = vc115 I s0 Q := by kernel_rfl
/-- handbill/offer.sum (by hand) -/
def vc134 (I : FuncId → List V → Post → T) (s0 : ByteArray) (Q : Post) : T :=
  loopK (A := Int × Int) ((0, 0))
    (fun x1 => uncur fun n2 n3 => ifT (decide (n3 < (↑s0.size : Int)))
      (fun h4 =>
      ((0 ≤ n3) ∧
      n3 < (↑s0.size : Int)) ∧
      I 133 [V.one (Cell.str signS), V.one (Cell.int IntKind.u8 (byteAt s0 n3))]
        (fun cs5 => fun h6 => 
        ∃ n7 : Int, (cs5 = [V.one (Cell.int IntKind.i64 n7)]) ∧
        x1 ((IntKind.i64.wrap (n2 + IntKind.i64.wrap (IntKind.i64.wrap (n3 + 1) * n7)), IntKind.i64.wrap (n3 + 1))) h6) h4)
      (Q [V.one (Cell.int IntKind.i64 (n2.tmod 31))]))
theorem den134 (I : FuncId → List V → Post → T) (s0 : ByteArray) (Q : Post) : denF Go.Proofs.Tryd.prog 0 (⟨[], [(58, 1048472, [(3, tk Go.Proofs.Tryd.prog 3), (7, tk Go.Proofs.Tryd.prog 3)])]⟩) I 134 [V.one (Cell.str s0)] Q = vc134 I s0 Q := by kernel_rfl
/-- handbill/handref1.NewPurse -/
def vc15 (I : FuncId → List V → Post → T) (l0 : Sl) (Q : Post) : T :=
  fun h1 =>
  I 62 [V.one (Cell.slice 5 l0)]
    (fun cs2 => fun h3 => 
    ∃ l4 : Sl, (cs2 = [V.one (Cell.slice 5 l4)]) ∧
    (newK (YtfemminjhecocaaDoorVc.Obj.cells false [Cell.slice 5 l4, Cell.slice 6 { a := none, len := 0 }, Cell.int IntKind.i64 0]) (fun i5 => fun h6 => 
    Q [V.one (Cell.ptr (some (i5, 0)))] h6)) h3) h1
theorem den15 (I : FuncId → List V → Post → T) (l0 : Sl) (Q : Post) : denF Go.Proofs.Tryd.prog 0 (⟨[], []⟩) I 15 [V.one (Cell.slice 5 l0)] Q = vc15 I l0 Q := by kernel_rfl
/-- (*handbill/handmake.Stream).One -/
def vc18 (I : FuncId → List V → Post → T) (p0 : Option (Nat × Nat)) (l1 : Sl) (Q : Post) : T :=
  fun h2 =>
  I 53 [V.one (Cell.ptr p0), V.one (Cell.slice 1 l1)]
    (fun cs3 => fun h4 => 
    ∃ s5 : ByteArray, (cs3 = [V.one (Cell.str s5)]) ∧
    Q [V.one (Cell.str s5)] h4) h2
theorem den18 (I : FuncId → List V → Post → T) (p0 : Option (Nat × Nat)) (l1 : Sl) (Q : Post) : denF Go.Proofs.Tryd.prog 0 (⟨[], []⟩) I 18 [V.one (Cell.ptr p0), V.one (Cell.slice 1 l1)] Q = vc18 I p0 l1 Q := by kernel_rfl
/-- (*handbill/handmake.Stream).Range -/
def vc19 (I : FuncId → List V → Post → T) (p0 : Option (Nat × Nat)) (n1 : Int) (n2 : Int) (Q : Post) : T :=
  ifT (decide (n2 < n1))
    (Q [V.one (Cell.int IntKind.i64 n1)])
    (fun h3 =>
    I 16 [V.one (Cell.ptr p0), V.one (Cell.int IntKind.i64 (IntKind.i64.wrap (IntKind.i64.wrap (n2 - n1) + 1)))]
      (fun cs4 => fun h5 => 
      ∃ n6 : Int, (cs4 = [V.one (Cell.int IntKind.i64 n6)]) ∧
      Q [V.one (Cell.int IntKind.i64 (IntKind.i64.wrap (n1 + n6)))] h5) h3)
theorem den19 (I : FuncId → List V → Post → T) (p0 : Option (Nat × Nat)) (n1 : Int) (n2 : Int) (Q : Post) : denF Go.Proofs.Tryd.prog 0 (⟨[], []⟩) I 19 [V.one (Cell.ptr p0), V.one (Cell.int IntKind.i64 n1), V.one (Cell.int IntKind.i64 n2)] Q = vc19 I p0 n1 n2 Q := by kernel_rfl
/-- (*handbill/offer.Purse).Reserve -/
def vc20 (I : FuncId → List V → Post → T) (p0 : Option (Nat × Nat)) (s1 : ByteArray) (n2 : Int) (n3 : Int) (n4 : Int) (Q : Post) : T :=
  fun h5 =>
  I 65 [V.one (Cell.ptr p0), V.one (Cell.str s1)]
    (fun cs6 => fun h7 => 
    ∃ s8 : ByteArray, ∃ n9 : Int, ∃ n10 : Int, ∃ n11 : Int, ∃ b12 : Bool, ∃ b13 : Bool, (cs6 = [V.agg [Cell.str s8, Cell.int IntKind.i64 n9, Cell.int IntKind.i64 n10, Cell.int IntKind.i64 n11, Cell.bool b12], V.one (Cell.bool b13)]) ∧
    (ifT (!b13)
      (Q [V.one (Cell.int IntKind.i64 0), V.one (Cell.int IntKind.i64 8)])
      (joinK (A := Bool)
        (fun b14 => ifT b14
          (Q [V.one (Cell.int IntKind.i64 0), V.one (Cell.int IntKind.i64 1)])
          (derefK p0 (fun i15 => fun i16 => fun h17 =>
          ∃ n18 : Int, (h17.read i15 (i16 + 2) 1 = some [Cell.int IntKind.i64 n18]) ∧
          (ifT (decide (n3 < n18))
            (Q [V.one (Cell.int IntKind.i64 0), V.one (Cell.int IntKind.i64 7)])
            (joinK (A := Bool)
              (fun b19 => ifT b19
                (Q [V.one (Cell.int IntKind.i64 0), V.one (Cell.int IntKind.i64 12)])
                (derefK p0 (fun i20 => fun i21 => fun h22 =>
                (storeK [] i20 (i21 + 2) [Cell.int IntKind.i64 n3] (derefK p0 (fun i23 => fun i24 => fun h25 =>
                ∃ l26 : Sl, (h25.read i23 (i24 + 1) 1 = some [Cell.slice 6 l26]) ∧
                (derefK p0 (fun i27 => fun i28 => fun h29 =>
                ∃ l30 : Sl, (h29.read i27 (i28 + 1) 1 = some [Cell.slice 6 l30]) ∧
                (appendTo [] 6 56 l30 1 [Cell.int IntKind.i64 (IntKind.i64.wrap ((↑l26.len : Int) + 1)), Cell.str s1, Cell.int IntKind.i64 n2, Cell.int IntKind.i64 n3, Cell.int IntKind.i64 n4, Cell.int IntKind.i64 1] (fun l31 => derefK p0 (fun i32 => fun i33 => fun h34 =>
                (storeK [] i32 (i33 + 1) [Cell.slice 6 l31] (Q [V.one (Cell.int IntKind.i64 (IntKind.i64.wrap ((↑l26.len : Int) + 1))), V.one (Cell.int IntKind.i64 0)])) h34))) h29)) h25))) h22)))
              (fun x35 => derefK p0 (fun i36 => fun i37 => fun h38 =>
              ∃ l39 : Sl, (h38.read i36 (i37 + 1) 1 = some [Cell.slice 6 l39]) ∧
              (ifT (decide ((↑l39.len : Int) ≥ 2000))
                (x35 true)
                (fun h40 =>
                I 66 [V.one (Cell.ptr p0), V.one (Cell.str s1), V.one (Cell.int IntKind.i64 n3)]
                  (fun cs41 => fun h42 => 
                  ∃ n43 : Int, (cs41 = [V.one (Cell.int IntKind.i64 n43)]) ∧
                  I 61 [V.agg [Cell.str s8, Cell.int IntKind.i64 n9, Cell.int IntKind.i64 n10, Cell.int IntKind.i64 n11, Cell.bool b12], V.one (Cell.int IntKind.i64 n3)]
                    (fun cs44 => fun h45 => 
                    ∃ n46 : Int, (cs44 = [V.one (Cell.int IntKind.i64 n46)]) ∧
                    x35 (decide (IntKind.i64.wrap (n43 + n2) > n46)) h45) h42) h40)) h38)))) h17)))
        (fun x47 => fun h48 => 
        I 59 [V.one (Cell.int IntKind.i64 n2), V.one (Cell.int IntKind.i64 1), V.one (Cell.int IntKind.i64 1000000000000)]
          (fun cs49 => fun h50 => 
          ∃ b51 : Bool, (cs49 = [V.one (Cell.bool b51)]) ∧
          (ifT (!b51)
            (x47 true)
            (fun h52 =>
            I 60 [V.one (Cell.int IntKind.i64 n3)]
              (fun cs53 => fun h54 => 
              ∃ b55 : Bool, (cs53 = [V.one (Cell.bool b55)]) ∧
              (ifT (!b55)
                (x47 true)
                (fun h56 =>
                I 59 [V.one (Cell.int IntKind.i64 n4), V.one (Cell.int IntKind.i64 (IntKind.i64.wrap (n3 + 1))), V.one (Cell.int IntKind.i64 4321440)]
                  (fun cs57 => fun h58 => 
                  ∃ b59 : Bool, (cs57 = [V.one (Cell.bool b59)]) ∧
                  x47 (!b59) h58) h56)) h54) h52)) h50) h48))) h7) h5
theorem den20 (I : FuncId → List V → Post → T) (p0 : Option (Nat × Nat)) (s1 : ByteArray) (n2 : Int) (n3 : Int) (n4 : Int) (Q : Post) : denF Go.Proofs.Tryd.prog 4096 (⟨[(230, 1099494850560, [(24, tk Go.Proofs.Tryd.prog 4)]), (3710, 73786835557349851136, [(47, tk Go.Proofs.Tryd.prog 4)])], []⟩) I 20 [V.one (Cell.ptr p0), V.one (Cell.str s1), V.one (Cell.int IntKind.i64 n2), V.one (Cell.int IntKind.i64 n3), V.one (Cell.int IntKind.i64 n4)] Q = vc20 I p0 s1 n2 n3 n4 Q := by kernel_rfl
/-- (*handbill/offer.Purse).budgetOf -/
def vc65 (I : FuncId → List V → Post → T) (p0 : Option (Nat × Nat)) (s1 : ByteArray) (Q : Post) : T :=
  fun h2 =>
  (newK (YtfemminjhecocaaDoorVc.Obj.cells false [Cell.str s1]) (fun i3 => derefK p0 (fun i4 => fun i5 => fun h6 =>
  ∃ l7 : Sl, (h6.read i4 (i5 + 0) 1 = some [Cell.slice 5 l7]) ∧
  I 108 [V.one (Cell.slice 5 l7), V.one (Cell.func (some (116, [(i3, 0)])))]
    (fun cs8 => fun h9 => 
    ∃ n10 : Int, (cs8 = [V.one (Cell.int IntKind.i64 n10)]) ∧
    (ifT (decide (n10 < 0))
      (fun h11 =>
      Q [V.agg [Cell.str ByteArray.empty, Cell.int IntKind.i64 0, Cell.int IntKind.i64 0, Cell.int IntKind.i64 0, Cell.bool false], V.one (Cell.bool false)] h11)
      (derefK p0 (fun i12 => fun i13 => fun h14 =>
      ∃ l15 : Sl, (h14.read i12 (i13 + 0) 1 = some [Cell.slice 5 l15]) ∧
      ((0 ≤ n10) ∧
      n10 < (↑l15.len : Int)) ∧
      (derefK l15.a (fun i16 => fun i17 => fun h18 =>
      ∃ s19 : ByteArray, ∃ n20 : Int, ∃ n21 : Int, ∃ n22 : Int, ∃ b23 : Bool, (h18.read i16 (i17 + n10.toNat * 5) 5 = some [Cell.str s19, Cell.int IntKind.i64 n20, Cell.int IntKind.i64 n21, Cell.int IntKind.i64 n22, Cell.bool b23]) ∧
      Q [V.agg [Cell.str s19, Cell.int IntKind.i64 n20, Cell.int IntKind.i64 n21, Cell.int IntKind.i64 n22, Cell.bool b23], V.one (Cell.bool true)] h18)) h14))) h9) h6))) h2
theorem den65 (I : FuncId → List V → Post → T) (p0 : Option (Nat × Nat)) (s1 : ByteArray) (Q : Post) : denF Go.Proofs.Tryd.prog 16 (⟨[], []⟩) I 65 [V.one (Cell.ptr p0), V.one (Cell.str s1)] Q = vc65 I p0 s1 Q := by kernel_rfl
/-- (*handbill/offer.Purse).taken -/
def vc66 (I : FuncId → List V → Post → T) (p0 : Option (Nat × Nat)) (s1 : ByteArray) (n2 : Int) (Q : Post) : T :=
  derefK p0 (fun i3 => fun i4 => fun h5 =>
  ∃ l6 : Sl, (h5.read i3 (i4 + 1) 1 = some [Cell.slice 6 l6]) ∧
  (loopK (A := Int × Int) ((0, 0))
    (fun x7 => uncur fun n8 n9 => ifT (decide (n9 < (↑l6.len : Int)))
      (fun h10 =>
      ((0 ≤ n9) ∧
      n9 < (↑l6.len : Int)) ∧
      (derefK l6.a (fun i11 => fun i12 => fun h13 =>
      ∃ n14 : Int, ∃ s15 : ByteArray, ∃ n16 : Int, ∃ n17 : Int, ∃ n18 : Int, ∃ n19 : Int, (h13.read i11 (i12 + n9.toNat * 6) 6 = some [Cell.int IntKind.i64 n14, Cell.str s15, Cell.int IntKind.i64 n16, Cell.int IntKind.i64 n17, Cell.int IntKind.i64 n18, Cell.int IntKind.i64 n19]) ∧
      I 74 [V.agg [Cell.int IntKind.i64 n14, Cell.str s15, Cell.int IntKind.i64 n16, Cell.int IntKind.i64 n17, Cell.int IntKind.i64 n18, Cell.int IntKind.i64 n19], V.one (Cell.int IntKind.i64 n2)]
        (fun cs20 => fun h21 => 
        ∃ n22 : Int, (cs20 = [V.one (Cell.int IntKind.i64 n22)]) ∧
        (ifT (decide (s15 = s1))
          (ifT (decide (n22 = 1))
            (x7 ((IntKind.i64.wrap (n8 + n16), IntKind.i64.wrap (n9 + 1))))
            (ifT (decide (n22 = 2))
              (x7 ((IntKind.i64.wrap (n8 + n16), IntKind.i64.wrap (n9 + 1))))
              (x7 ((n8, IntKind.i64.wrap (n9 + 1))))))
          (x7 ((n8, IntKind.i64.wrap (n9 + 1))))) h21) h13)) h10)
      (Q [V.one (Cell.int IntKind.i64 n8)]))) h5)
theorem den66 (I : FuncId → List V → Post → T) (p0 : Option (Nat × Nat)) (s1 : ByteArray) (n2 : Int) (Q : Post) : denF Go.Proofs.Tryd.prog 512 (⟨[], [(58, 1099511563904, [(7, tk Go.Proofs.Tryd.prog 3), (16, tk Go.Proofs.Tryd.prog 3)])]⟩) I 66 [V.one (Cell.ptr p0), V.one (Cell.str s1), V.one (Cell.int IntKind.i64 n2)] Q = vc66 I p0 s1 n2 Q := by kernel_rfl
/-- handbill/offer.stateAt -/
def vc74 (I : FuncId → List V → Post → T) (n0 : Int) (s1 : ByteArray) (n2 : Int) (n3 : Int) (n4 : Int) (n5 : Int) (n6 : Int) (Q : Post) : T :=
  ifT (decide (n5 = 1))
    (ifT (decide (n6 ≥ n4))
      (Q [V.one (Cell.int IntKind.i64 4)])
      (Q [V.one (Cell.int IntKind.i64 n5)]))
    (Q [V.one (Cell.int IntKind.i64 n5)])
theorem den74 (I : FuncId → List V → Post → T) (n0 : Int) (s1 : ByteArray) (n2 : Int) (n3 : Int) (n4 : Int) (n5 : Int) (n6 : Int) (Q : Post) : denF Go.Proofs.Tryd.prog 4 (⟨[], []⟩) I 74 [V.agg [Cell.int IntKind.i64 n0, Cell.str s1, Cell.int IntKind.i64 n2, Cell.int IntKind.i64 n3, Cell.int IntKind.i64 n4, Cell.int IntKind.i64 n5], V.one (Cell.int IntKind.i64 n6)] Q = vc74 I n0 s1 n2 n3 n4 n5 n6 Q := by kernel_rfl
/-- (*handbill/handref1.Purse).Reserve -/
def vc21 (I : FuncId → List V → Post → T) (p0 : Option (Nat × Nat)) (s1 : ByteArray) (n2 : Int) (n3 : Int) (n4 : Int) (Q : Post) : T :=
  fun h5 =>
  I 67 [V.one (Cell.ptr p0), V.one (Cell.str s1)]
    (fun cs6 => fun h7 => 
    ∃ s8 : ByteArray, ∃ n9 : Int, ∃ n10 : Int, ∃ n11 : Int, ∃ b12 : Bool, ∃ b13 : Bool, (cs6 = [V.agg [Cell.str s8, Cell.int IntKind.i64 n9, Cell.int IntKind.i64 n10, Cell.int IntKind.i64 n11, Cell.bool b12], V.one (Cell.bool b13)]) ∧
    (ifT (!b13)
      (Q [V.one (Cell.int IntKind.i64 0), V.one (Cell.int IntKind.i64 8)])
      (joinK (A := Bool)
        (fun b14 => ifT b14
          (Q [V.one (Cell.int IntKind.i64 0), V.one (Cell.int IntKind.i64 1)])
          (derefK p0 (fun i15 => fun i16 => fun h17 =>
          ∃ n18 : Int, (h17.read i15 (i16 + 2) 1 = some [Cell.int IntKind.i64 n18]) ∧
          (ifT (decide (n3 < n18))
            (Q [V.one (Cell.int IntKind.i64 0), V.one (Cell.int IntKind.i64 7)])
            (joinK (A := Bool)
              (fun b19 => ifT b19
                (Q [V.one (Cell.int IntKind.i64 0), V.one (Cell.int IntKind.i64 12)])
                (derefK p0 (fun i20 => fun i21 => fun h22 =>
                (storeK [] i20 (i21 + 2) [Cell.int IntKind.i64 n3] (derefK p0 (fun i23 => fun i24 => fun h25 =>
                ∃ l26 : Sl, (h25.read i23 (i24 + 1) 1 = some [Cell.slice 6 l26]) ∧
                (derefK p0 (fun i27 => fun i28 => fun h29 =>
                ∃ l30 : Sl, (h29.read i27 (i28 + 1) 1 = some [Cell.slice 6 l30]) ∧
                (appendTo [] 6 56 l26 1 [Cell.int IntKind.i64 (IntKind.i64.wrap ((↑l30.len : Int) + 1)), Cell.str s1, Cell.int IntKind.i64 n2, Cell.int IntKind.i64 n3, Cell.int IntKind.i64 n4, Cell.int IntKind.i64 1] (fun l31 => derefK p0 (fun i32 => fun i33 => fun h34 =>
                (storeK [] i32 (i33 + 1) [Cell.slice 6 l31] (derefK p0 (fun i35 => fun i36 => fun h37 =>
                ∃ l38 : Sl, (h37.read i35 (i36 + 1) 1 = some [Cell.slice 6 l38]) ∧
                Q [V.one (Cell.int IntKind.i64 (↑l38.len : Int)), V.one (Cell.int IntKind.i64 0)] h37))) h34))) h29)) h25))) h22)))
              (fun x39 => derefK p0 (fun i40 => fun i41 => fun h42 =>
              ∃ l43 : Sl, (h42.read i40 (i41 + 1) 1 = some [Cell.slice 6 l43]) ∧
              (ifT (decide ((↑l43.len : Int) = 2000))
                (x39 true)
                (fun h44 =>
                I 68 [V.one (Cell.ptr p0), V.one (Cell.str s1), V.one (Cell.int IntKind.i64 n3)]
                  (fun cs45 => fun h46 => 
                  ∃ n47 : Int, (cs45 = [V.one (Cell.int IntKind.i64 n47)]) ∧
                  I 12 [V.agg [Cell.str s8, Cell.int IntKind.i64 n9, Cell.int IntKind.i64 n10, Cell.int IntKind.i64 n11, Cell.bool b12], V.one (Cell.int IntKind.i64 n3)]
                    (fun cs48 => fun h49 => 
                    ∃ n50 : Int, (cs48 = [V.one (Cell.int IntKind.i64 n50)]) ∧
                    x39 (decide (IntKind.i64.wrap (n47 + n2) > n50)) h49) h46) h44)) h42)))) h17)))
        (fun x51 => ifT (decide (n2 < 1))
          (x51 true)
          (ifT (decide (n2 > 1000000000000))
            (x51 true)
            (fun h52 =>
            I 11 [V.one (Cell.int IntKind.i64 n3)]
              (fun cs53 => fun h54 => 
              ∃ b55 : Bool, (cs53 = [V.one (Cell.bool b55)]) ∧
              (ifT (!b55)
                (x51 true)
                (ifT (decide (n4 ≤ n3))
                  (x51 true)
                  (x51 (decide (n4 > 4321440))))) h54) h52))))) h7) h5
theorem den21 (I : FuncId → List V → Post → T) (p0 : Option (Nat × Nat)) (s1 : ByteArray) (n2 : Int) (n3 : Int) (n4 : Int) (Q : Post) : denF Go.Proofs.Tryd.prog 4096 (⟨[(230, 17592177655808, [(23, tk Go.Proofs.Tryd.prog 4)]), (3710, 1180589368917597618176, [(51, tk Go.Proofs.Tryd.prog 4)])], []⟩) I 21 [V.one (Cell.ptr p0), V.one (Cell.str s1), V.one (Cell.int IntKind.i64 n2), V.one (Cell.int IntKind.i64 n3), V.one (Cell.int IntKind.i64 n4)] Q = vc21 I p0 s1 n2 n3 n4 Q := by kernel_rfl
/-- (*handbill/handref1.Purse).budget -/
def vc67 (I : FuncId → List V → Post → T) (p0 : Option (Nat × Nat)) (s1 : ByteArray) (Q : Post) : T :=
  fun h2 =>
  (newK (YtfemminjhecocaaDoorVc.Obj.cells false [Cell.str s1]) (fun i3 => derefK p0 (fun i4 => fun i5 => fun h6 =>
  ∃ l7 : Sl, (h6.read i4 (i5 + 0) 1 = some [Cell.slice 5 l7]) ∧
  I 108 [V.one (Cell.slice 5 l7), V.one (Cell.func (some (117, [(i3, 0)])))]
    (fun cs8 => fun h9 => 
    ∃ n10 : Int, (cs8 = [V.one (Cell.int IntKind.i64 n10)]) ∧
    (ifT (decide (n10 < 0))
      (fun h11 =>
      Q [V.agg [Cell.str ByteArray.empty, Cell.int IntKind.i64 0, Cell.int IntKind.i64 0, Cell.int IntKind.i64 0, Cell.bool false], V.one (Cell.bool false)] h11)
      (derefK p0 (fun i12 => fun i13 => fun h14 =>
      ∃ l15 : Sl, (h14.read i12 (i13 + 0) 1 = some [Cell.slice 5 l15]) ∧
      ((0 ≤ n10) ∧
      n10 < (↑l15.len : Int)) ∧
      (derefK l15.a (fun i16 => fun i17 => fun h18 =>
      ∃ s19 : ByteArray, ∃ n20 : Int, ∃ n21 : Int, ∃ n22 : Int, ∃ b23 : Bool, (h18.read i16 (i17 + n10.toNat * 5) 5 = some [Cell.str s19, Cell.int IntKind.i64 n20, Cell.int IntKind.i64 n21, Cell.int IntKind.i64 n22, Cell.bool b23]) ∧
      Q [V.agg [Cell.str s19, Cell.int IntKind.i64 n20, Cell.int IntKind.i64 n21, Cell.int IntKind.i64 n22, Cell.bool b23], V.one (Cell.bool true)] h18)) h14))) h9) h6))) h2
theorem den67 (I : FuncId → List V → Post → T) (p0 : Option (Nat × Nat)) (s1 : ByteArray) (Q : Post) : denF Go.Proofs.Tryd.prog 16 (⟨[], []⟩) I 67 [V.one (Cell.ptr p0), V.one (Cell.str s1)] Q = vc67 I p0 s1 Q := by kernel_rfl
/-- (*handbill/handref1.Purse).taken -/
def vc68 (I : FuncId → List V → Post → T) (p0 : Option (Nat × Nat)) (s1 : ByteArray) (n2 : Int) (Q : Post) : T :=
  derefK p0 (fun i3 => fun i4 => fun h5 =>
  ∃ l6 : Sl, (h5.read i3 (i4 + 1) 1 = some [Cell.slice 6 l6]) ∧
  (loopK (A := Int × Int) ((0, 0))
    (fun x7 => uncur fun n8 n9 => ifT (decide (n9 < (↑l6.len : Int)))
      (fun h10 =>
      ((0 ≤ n9) ∧
      n9 < (↑l6.len : Int)) ∧
      (derefK l6.a (fun i11 => fun i12 => fun h13 =>
      ∃ n14 : Int, ∃ s15 : ByteArray, ∃ n16 : Int, ∃ n17 : Int, ∃ n18 : Int, ∃ n19 : Int, (h13.read i11 (i12 + n9.toNat * 6) 6 = some [Cell.int IntKind.i64 n14, Cell.str s15, Cell.int IntKind.i64 n16, Cell.int IntKind.i64 n17, Cell.int IntKind.i64 n18, Cell.int IntKind.i64 n19]) ∧
      I 75 [V.agg [Cell.int IntKind.i64 n14, Cell.str s15, Cell.int IntKind.i64 n16, Cell.int IntKind.i64 n17, Cell.int IntKind.i64 n18, Cell.int IntKind.i64 n19], V.one (Cell.int IntKind.i64 n2)]
        (fun cs20 => fun h21 => 
        ∃ n22 : Int, (cs20 = [V.one (Cell.int IntKind.i64 n22)]) ∧
        (ifT (decide (s15 = s1))
          (ifT (decide (n22 = 1))
            (x7 ((IntKind.i64.wrap (n8 + n16), IntKind.i64.wrap (n9 + 1))))
            (ifT (decide (n22 = 2))
              (x7 ((IntKind.i64.wrap (n8 + n16), IntKind.i64.wrap (n9 + 1))))
              (x7 ((n8, IntKind.i64.wrap (n9 + 1))))))
          (x7 ((n8, IntKind.i64.wrap (n9 + 1))))) h21) h13)) h10)
      (Q [V.one (Cell.int IntKind.i64 n8)]))) h5)
theorem den68 (I : FuncId → List V → Post → T) (p0 : Option (Nat × Nat)) (s1 : ByteArray) (n2 : Int) (Q : Post) : denF Go.Proofs.Tryd.prog 512 (⟨[], [(58, 1099511563904, [(7, tk Go.Proofs.Tryd.prog 3), (16, tk Go.Proofs.Tryd.prog 3)])]⟩) I 68 [V.one (Cell.ptr p0), V.one (Cell.str s1), V.one (Cell.int IntKind.i64 n2)] Q = vc68 I p0 s1 n2 Q := by kernel_rfl
/-- handbill/handref1.stateAt -/
def vc75 (I : FuncId → List V → Post → T) (n0 : Int) (s1 : ByteArray) (n2 : Int) (n3 : Int) (n4 : Int) (n5 : Int) (n6 : Int) (Q : Post) : T :=
  ifT (decide (n5 = 1))
    (ifT (decide (n6 ≥ n4))
      (Q [V.one (Cell.int IntKind.i64 4)])
      (Q [V.one (Cell.int IntKind.i64 n5)]))
    (Q [V.one (Cell.int IntKind.i64 n5)])
theorem den75 (I : FuncId → List V → Post → T) (n0 : Int) (s1 : ByteArray) (n2 : Int) (n3 : Int) (n4 : Int) (n5 : Int) (n6 : Int) (Q : Post) : denF Go.Proofs.Tryd.prog 4 (⟨[], []⟩) I 75 [V.agg [Cell.int IntKind.i64 n0, Cell.str s1, Cell.int IntKind.i64 n2, Cell.int IntKind.i64 n3, Cell.int IntKind.i64 n4, Cell.int IntKind.i64 n5], V.one (Cell.int IntKind.i64 n6)] Q = vc75 I n0 s1 n2 n3 n4 n5 n6 Q := by kernel_rfl
/-- (*handbill/offer.Purse).Commit -/
def vc22 (I : FuncId → List V → Post → T) (p0 : Option (Nat × Nat)) (n1 : Int) (n2 : Int) (Q : Post) : T :=
  fun h3 =>
  I 69 [V.one (Cell.ptr p0), V.one (Cell.int IntKind.i64 n1), V.one (Cell.int IntKind.i64 n2), V.one (Cell.int IntKind.i64 2), V.one (Cell.func (some (70, [])))]
    (fun cs4 => fun h5 => 
    ∃ n6 : Int, (cs4 = [V.one (Cell.int IntKind.i64 n6)]) ∧
    Q [V.one (Cell.int IntKind.i64 n6)] h5) h3
theorem den22 (I : FuncId → List V → Post → T) (p0 : Option (Nat × Nat)) (n1 : Int) (n2 : Int) (Q : Post) : denF Go.Proofs.Tryd.prog 0 (⟨[], []⟩) I 22 [V.one (Cell.ptr p0), V.one (Cell.int IntKind.i64 n1), V.one (Cell.int IntKind.i64 n2)] Q = vc22 I p0 n1 n2 Q := by kernel_rfl
/-- (*handbill/offer.Purse).turn -/
def vc69 (I : FuncId → List V → Post → T) (p0 : Option (Nat × Nat)) (n1 : Int) (n2 : Int) (n3 : Int) (p4 : Option (Nat × List (Nat × Nat))) (Q : Post) : T :=
  derefK p0 (fun i5 => fun i6 => fun h7 =>
  ∃ l8 : Sl, (h7.read i5 (i6 + 1) 1 = some [Cell.slice 6 l8]) ∧
  I 59 [V.one (Cell.int IntKind.i64 n1), V.one (Cell.int IntKind.i64 1), V.one (Cell.int IntKind.i64 (↑l8.len : Int))]
    (fun cs9 => fun h10 => 
    ∃ b11 : Bool, (cs9 = [V.one (Cell.bool b11)]) ∧
    (ifT (!b11)
      (Q [V.one (Cell.int IntKind.i64 8)])
      (fun h12 =>
      I 60 [V.one (Cell.int IntKind.i64 n2)]
        (fun cs13 => fun h14 => 
        ∃ b15 : Bool, (cs13 = [V.one (Cell.bool b15)]) ∧
        (ifT (!b15)
          (Q [V.one (Cell.int IntKind.i64 1)])
          (derefK p0 (fun i16 => fun i17 => fun h18 =>
          ∃ n19 : Int, (h18.read i16 (i17 + 2) 1 = some [Cell.int IntKind.i64 n19]) ∧
          (ifT (decide (n2 < n19))
            (Q [V.one (Cell.int IntKind.i64 7)])
            (derefK p0 (fun i20 => fun i21 => fun h22 =>
            ∃ l23 : Sl, (h22.read i20 (i21 + 1) 1 = some [Cell.slice 6 l23]) ∧
            ((0 ≤ IntKind.i64.wrap (n1 - 1)) ∧
            IntKind.i64.wrap (n1 - 1) < (↑l23.len : Int)) ∧
            (derefK l23.a (fun i24 => fun i25 => fun h26 =>
            ∃ n27 : Int, ∃ s28 : ByteArray, ∃ n29 : Int, ∃ n30 : Int, ∃ n31 : Int, ∃ n32 : Int, (h26.read i24 (i25 + (IntKind.i64.wrap (n1 - 1)).toNat * 6) 6 = some [Cell.int IntKind.i64 n27, Cell.str s28, Cell.int IntKind.i64 n29, Cell.int IntKind.i64 n30, Cell.int IntKind.i64 n31, Cell.int IntKind.i64 n32]) ∧
            I 74 [V.agg [Cell.int IntKind.i64 n27, Cell.str s28, Cell.int IntKind.i64 n29, Cell.int IntKind.i64 n30, Cell.int IntKind.i64 n31, Cell.int IntKind.i64 n32], V.one (Cell.int IntKind.i64 n2)]
              (fun cs33 => fun h34 => 
              ∃ n35 : Int, (cs33 = [V.one (Cell.int IntKind.i64 n35)]) ∧
              (funK p4 (fun i36 => fun cs37 => fun h38 => 
              I i36 (V.one (Cell.int IntKind.i64 n35) :: cs37)
                (fun cs39 => fun h40 => 
                ∃ b41 : Bool, (cs39 = [V.one (Cell.bool b41)]) ∧
                (ifT (!b41)
                  (Q [V.one (Cell.int IntKind.i64 11)])
                  (derefK p0 (fun i42 => fun i43 => fun h44 =>
                  (storeK [] i42 (i43 + 2) [Cell.int IntKind.i64 n2] (derefK p0 (fun i45 => fun i46 => fun h47 =>
                  ∃ l48 : Sl, (h47.read i45 (i46 + 1) 1 = some [Cell.slice 6 l48]) ∧
                  ((0 ≤ IntKind.i64.wrap (n1 - 1)) ∧
                  IntKind.i64.wrap (n1 - 1) < (↑l48.len : Int)) ∧
                  (derefK l48.a (fun i49 => fun i50 => fun h51 =>
                  (storeK [] i49 (i50 + (IntKind.i64.wrap (n1 - 1)).toNat * 6 + 5) [Cell.int IntKind.i64 n3] (Q [V.one (Cell.int IntKind.i64 0)])) h51)) h47))) h44))) h40) h38)) h34) h26)) h22))) h18))) h14) h12)) h10) h7)
theorem den69 (I : FuncId → List V → Post → T) (p0 : Option (Nat × Nat)) (n1 : Int) (n2 : Int) (n3 : Int) (p4 : Option (Nat × List (Nat × Nat))) (Q : Post) : denF Go.Proofs.Tryd.prog 0 (⟨[], []⟩) I 69 [V.one (Cell.ptr p0), V.one (Cell.int IntKind.i64 n1), V.one (Cell.int IntKind.i64 n2), V.one (Cell.int IntKind.i64 n3), V.one (Cell.func p4)] Q = vc69 I p0 n1 n2 n3 p4 Q := by kernel_rfl
/-- (*handbill/offer.Purse).Commit$1 -/
def vc70 (I : FuncId → List V → Post → T) (n0 : Int) (Q : Post) : T :=
  Q [V.one (Cell.bool (decide (n0 = 1)))]
theorem den70 (I : FuncId → List V → Post → T) (n0 : Int) (Q : Post) : denF Go.Proofs.Tryd.prog 0 (⟨[], []⟩) I 70 [V.one (Cell.int IntKind.i64 n0)] Q = vc70 I n0 Q := by kernel_rfl
/-- (*handbill/handref1.Purse).Commit -/
def vc23 (I : FuncId → List V → Post → T) (p0 : Option (Nat × Nat)) (n1 : Int) (n2 : Int) (Q : Post) : T :=
  fun h3 =>
  (newK (YtfemminjhecocaaDoorVc.Obj.cells false [Cell.int IntKind.i64 1]) (fun i4 => fun h5 =>
  I 71 [V.one (Cell.ptr p0), V.one (Cell.int IntKind.i64 n1), V.one (Cell.int IntKind.i64 n2), V.one (Cell.int IntKind.i64 2), V.one (Cell.slice 1 { a := some (i4, 0), len := 1 })]
    (fun cs6 => fun h7 => 
    ∃ n8 : Int, (cs6 = [V.one (Cell.int IntKind.i64 n8)]) ∧
    Q [V.one (Cell.int IntKind.i64 n8)] h7) h5)) h3
theorem den23 (I : FuncId → List V → Post → T) (p0 : Option (Nat × Nat)) (n1 : Int) (n2 : Int) (Q : Post) : denF Go.Proofs.Tryd.prog 0 (⟨[], []⟩) I 23 [V.one (Cell.ptr p0), V.one (Cell.int IntKind.i64 n1), V.one (Cell.int IntKind.i64 n2)] Q = vc23 I p0 n1 n2 Q := by kernel_rfl
/-- (*handbill/handref1.Purse).turn -/
def vc71 (I : FuncId → List V → Post → T) (p0 : Option (Nat × Nat)) (n1 : Int) (n2 : Int) (n3 : Int) (l4 : Sl) (Q : Post) : T :=
  joinK (A := Bool)
    (fun b5 => ifT b5
      (Q [V.one (Cell.int IntKind.i64 8)])
      (fun h6 =>
      I 11 [V.one (Cell.int IntKind.i64 n2)]
        (fun cs7 => fun h8 => 
        ∃ b9 : Bool, (cs7 = [V.one (Cell.bool b9)]) ∧
        (ifT (!b9)
          (Q [V.one (Cell.int IntKind.i64 1)])
          (derefK p0 (fun i10 => fun i11 => fun h12 =>
          ∃ n13 : Int, (h12.read i10 (i11 + 2) 1 = some [Cell.int IntKind.i64 n13]) ∧
          (ifT (decide (n2 < n13))
            (Q [V.one (Cell.int IntKind.i64 7)])
            (derefK p0 (fun i14 => fun i15 => fun h16 =>
            ∃ l17 : Sl, (h16.read i14 (i15 + 1) 1 = some [Cell.slice 6 l17]) ∧
            ((0 ≤ IntKind.i64.wrap (n1 - 1)) ∧
            IntKind.i64.wrap (n1 - 1) < (↑l17.len : Int)) ∧
            (derefK l17.a (fun i18 => fun i19 => fun h20 =>
            ∃ n21 : Int, ∃ s22 : ByteArray, ∃ n23 : Int, ∃ n24 : Int, ∃ n25 : Int, ∃ n26 : Int, (h20.read i18 (i19 + (IntKind.i64.wrap (n1 - 1)).toNat * 6) 6 = some [Cell.int IntKind.i64 n21, Cell.str s22, Cell.int IntKind.i64 n23, Cell.int IntKind.i64 n24, Cell.int IntKind.i64 n25, Cell.int IntKind.i64 n26]) ∧
            I 75 [V.agg [Cell.int IntKind.i64 n21, Cell.str s22, Cell.int IntKind.i64 n23, Cell.int IntKind.i64 n24, Cell.int IntKind.i64 n25, Cell.int IntKind.i64 n26], V.one (Cell.int IntKind.i64 n2)]
              (fun cs27 => fun h28 => 
              ∃ n29 : Int, (cs27 = [V.one (Cell.int IntKind.i64 n29)]) ∧
              I 118 [V.one (Cell.slice 1 l4), V.one (Cell.int IntKind.i64 n29)]
                (fun cs30 => fun h31 => 
                ∃ b32 : Bool, (cs30 = [V.one (Cell.bool b32)]) ∧
                (ifT (!b32)
                  (Q [V.one (Cell.int IntKind.i64 11)])
                  (derefK p0 (fun i33 => fun i34 => fun h35 =>
                  (storeK [] i33 (i34 + 2) [Cell.int IntKind.i64 n2] (derefK p0 (fun i36 => fun i37 => fun h38 =>
                  ∃ l39 : Sl, (h38.read i36 (i37 + 1) 1 = some [Cell.slice 6 l39]) ∧
                  ((0 ≤ IntKind.i64.wrap (n1 - 1)) ∧
                  IntKind.i64.wrap (n1 - 1) < (↑l39.len : Int)) ∧
                  (derefK l39.a (fun i40 => fun i41 => fun h42 =>
                  (storeK [] i40 (i41 + (IntKind.i64.wrap (n1 - 1)).toNat * 6 + 5) [Cell.int IntKind.i64 n3] (Q [V.one (Cell.int IntKind.i64 0)])) h42)) h38))) h35))) h31) h28) h20)) h16))) h12))) h8) h6))
    (fun x43 => ifT (decide (n1 < 1))
      (x43 true)
      (derefK p0 (fun i44 => fun i45 => fun h46 =>
      ∃ l47 : Sl, (h46.read i44 (i45 + 1) 1 = some [Cell.slice 6 l47]) ∧
      x43 (decide (n1 > (↑l47.len : Int))) h46)))
theorem den71 (I : FuncId → List V → Post → T) (p0 : Option (Nat × Nat)) (n1 : Int) (n2 : Int) (n3 : Int) (l4 : Sl) (Q : Post) : denF Go.Proofs.Tryd.prog 0 (⟨[(24, 8386560, [(11, tk Go.Proofs.Tryd.prog 4)])], []⟩) I 71 [V.one (Cell.ptr p0), V.one (Cell.int IntKind.i64 n1), V.one (Cell.int IntKind.i64 n2), V.one (Cell.int IntKind.i64 n3), V.one (Cell.slice 1 l4)] Q = vc71 I p0 n1 n2 n3 l4 Q := by kernel_rfl
/-- slices.Contains[[]int,int] -/
def vc118 (I : FuncId → List V → Post → T) (l0 : Sl) (n1 : Int) (Q : Post) : T :=
  fun h2 =>
  I 135 [V.one (Cell.slice 1 l0), V.one (Cell.int IntKind.i64 n1)]
    (fun cs3 => fun h4 => 
    ∃ n5 : Int, (cs3 = [V.one (Cell.int IntKind.i64 n5)]) ∧
    Q [V.one (Cell.bool (decide (n5 ≥ 0)))] h4) h2
theorem den118 (I : FuncId → List V → Post → T) (l0 : Sl) (n1 : Int) (Q : Post) : denF Go.Proofs.Tryd.prog 0 (⟨[], []⟩) I 118 [V.one (Cell.slice 1 l0), V.one (Cell.int IntKind.i64 n1)] Q = vc118 I l0 n1 Q := by kernel_rfl
/-- slices.Index[[]int,int] -/
def vc135 (I : FuncId → List V → Post → T) (l0 : Sl) (n1 : Int) (Q : Post) : T :=
  loopK (A := Int) 0
    (fun x2 => fun n3 => ifT (decide (n3 < (↑l0.len : Int)))
      (fun h4 =>
      ((0 ≤ n3) ∧
      n3 < (↑l0.len : Int)) ∧
      (derefK l0.a (fun i5 => fun i6 => fun h7 =>
      ∃ n8 : Int, (h7.read i5 (i6 + n3.toNat * 1) 1 = some [Cell.int IntKind.i64 n8]) ∧
      (ifT (decide (n1 = n8))
        (Q [V.one (Cell.int IntKind.i64 n3)])
        (x2 (IntKind.i64.wrap (n3 + 1)))) h7)) h4)
      (Q [V.one (Cell.int IntKind.i64 (-1))]))
theorem den135 (I : FuncId → List V → Post → T) (l0 : Sl) (n1 : Int) (Q : Post) : denF Go.Proofs.Tryd.prog 0 (⟨[], [(26, 524080, [(8, tk Go.Proofs.Tryd.prog 3)])]⟩) I 135 [V.one (Cell.slice 1 l0), V.one (Cell.int IntKind.i64 n1)] Q = vc135 I l0 n1 Q := by kernel_rfl
/-- (*handbill/offer.Purse).Release -/
def vc24 (I : FuncId → List V → Post → T) (p0 : Option (Nat × Nat)) (n1 : Int) (n2 : Int) (Q : Post) : T :=
  fun h3 =>
  I 69 [V.one (Cell.ptr p0), V.one (Cell.int IntKind.i64 n1), V.one (Cell.int IntKind.i64 n2), V.one (Cell.int IntKind.i64 3), V.one (Cell.func (some (72, [])))]
    (fun cs4 => fun h5 => 
    ∃ n6 : Int, (cs4 = [V.one (Cell.int IntKind.i64 n6)]) ∧
    Q [V.one (Cell.int IntKind.i64 n6)] h5) h3
theorem den24 (I : FuncId → List V → Post → T) (p0 : Option (Nat × Nat)) (n1 : Int) (n2 : Int) (Q : Post) : denF Go.Proofs.Tryd.prog 0 (⟨[], []⟩) I 24 [V.one (Cell.ptr p0), V.one (Cell.int IntKind.i64 n1), V.one (Cell.int IntKind.i64 n2)] Q = vc24 I p0 n1 n2 Q := by kernel_rfl
/-- (*handbill/offer.Purse).Release$1 -/
def vc72 (I : FuncId → List V → Post → T) (n0 : Int) (Q : Post) : T :=
  ifT (decide (n0 = 1))
    (Q [V.one (Cell.bool true)])
    (Q [V.one (Cell.bool (decide (n0 = 2)))])
theorem den72 (I : FuncId → List V → Post → T) (n0 : Int) (Q : Post) : denF Go.Proofs.Tryd.prog 0 (⟨[], []⟩) I 72 [V.one (Cell.int IntKind.i64 n0)] Q = vc72 I n0 Q := by kernel_rfl
/-- (*handbill/handref1.Purse).Release -/
def vc25 (I : FuncId → List V → Post → T) (p0 : Option (Nat × Nat)) (n1 : Int) (n2 : Int) (Q : Post) : T :=
  fun h3 =>
  (newK (YtfemminjhecocaaDoorVc.Obj.cells false [Cell.int IntKind.i64 1, Cell.int IntKind.i64 2]) (fun i4 => fun h5 =>
  I 71 [V.one (Cell.ptr p0), V.one (Cell.int IntKind.i64 n1), V.one (Cell.int IntKind.i64 n2), V.one (Cell.int IntKind.i64 3), V.one (Cell.slice 1 { a := some (i4, 0), len := 2 })]
    (fun cs6 => fun h7 => 
    ∃ n8 : Int, (cs6 = [V.one (Cell.int IntKind.i64 n8)]) ∧
    Q [V.one (Cell.int IntKind.i64 n8)] h7) h5)) h3
theorem den25 (I : FuncId → List V → Post → T) (p0 : Option (Nat × Nat)) (n1 : Int) (n2 : Int) (Q : Post) : denF Go.Proofs.Tryd.prog 0 (⟨[], []⟩) I 25 [V.one (Cell.ptr p0), V.one (Cell.int IntKind.i64 n1), V.one (Cell.int IntKind.i64 n2)] Q = vc25 I p0 n1 n2 Q := by kernel_rfl
/-- (*handbill/offer.Purse).Left -/
def vc26 (I : FuncId → List V → Post → T) (p0 : Option (Nat × Nat)) (s1 : ByteArray) (n2 : Int) (Q : Post) : T :=
  fun h3 =>
  I 65 [V.one (Cell.ptr p0), V.one (Cell.str s1)]
    (fun cs4 => fun h5 => 
    ∃ s6 : ByteArray, ∃ n7 : Int, ∃ n8 : Int, ∃ n9 : Int, ∃ b10 : Bool, ∃ b11 : Bool, (cs4 = [V.agg [Cell.str s6, Cell.int IntKind.i64 n7, Cell.int IntKind.i64 n8, Cell.int IntKind.i64 n9, Cell.bool b10], V.one (Cell.bool b11)]) ∧
    (ifT (!b11)
      (Q [V.one (Cell.int IntKind.i64 0), V.one (Cell.int IntKind.i64 8)])
      (fun h12 =>
      I 60 [V.one (Cell.int IntKind.i64 n2)]
        (fun cs13 => fun h14 => 
        ∃ b15 : Bool, (cs13 = [V.one (Cell.bool b15)]) ∧
        (ifT (!b15)
          (Q [V.one (Cell.int IntKind.i64 0), V.one (Cell.int IntKind.i64 1)])
          (derefK p0 (fun i16 => fun i17 => fun h18 =>
          ∃ n19 : Int, (h18.read i16 (i17 + 2) 1 = some [Cell.int IntKind.i64 n19]) ∧
          (ifT (decide (n2 < n19))
            (Q [V.one (Cell.int IntKind.i64 0), V.one (Cell.int IntKind.i64 7)])
            (fun h20 =>
            I 61 [V.agg [Cell.str s6, Cell.int IntKind.i64 n7, Cell.int IntKind.i64 n8, Cell.int IntKind.i64 n9, Cell.bool b10], V.one (Cell.int IntKind.i64 n2)]
              (fun cs21 => fun h22 => 
              ∃ n23 : Int, (cs21 = [V.one (Cell.int IntKind.i64 n23)]) ∧
              I 66 [V.one (Cell.ptr p0), V.one (Cell.str s1), V.one (Cell.int IntKind.i64 n2)]
                (fun cs24 => fun h25 => 
                ∃ n26 : Int, (cs24 = [V.one (Cell.int IntKind.i64 n26)]) ∧
                Q [V.one (Cell.int IntKind.i64 (max (IntKind.i64.wrap (n23 - n26)) 0)), V.one (Cell.int IntKind.i64 0)] h25) h22) h20)) h18))) h14) h12)) h5) h3
theorem den26 (I : FuncId → List V → Post → T) (p0 : Option (Nat × Nat)) (s1 : ByteArray) (n2 : Int) (Q : Post) : denF Go.Proofs.Tryd.prog 256 (⟨[], []⟩) I 26 [V.one (Cell.ptr p0), V.one (Cell.str s1), V.one (Cell.int IntKind.i64 n2)] Q = vc26 I p0 s1 n2 Q := by kernel_rfl
/-- (*handbill/handref1.Purse).Left -/
def vc27 (I : FuncId → List V → Post → T) (p0 : Option (Nat × Nat)) (s1 : ByteArray) (n2 : Int) (Q : Post) : T :=
  fun h3 =>
  I 67 [V.one (Cell.ptr p0), V.one (Cell.str s1)]
    (fun cs4 => fun h5 => 
    ∃ s6 : ByteArray, ∃ n7 : Int, ∃ n8 : Int, ∃ n9 : Int, ∃ b10 : Bool, ∃ b11 : Bool, (cs4 = [V.agg [Cell.str s6, Cell.int IntKind.i64 n7, Cell.int IntKind.i64 n8, Cell.int IntKind.i64 n9, Cell.bool b10], V.one (Cell.bool b11)]) ∧
    (ifT (!b11)
      (Q [V.one (Cell.int IntKind.i64 0), V.one (Cell.int IntKind.i64 8)])
      (fun h12 =>
      I 11 [V.one (Cell.int IntKind.i64 n2)]
        (fun cs13 => fun h14 => 
        ∃ b15 : Bool, (cs13 = [V.one (Cell.bool b15)]) ∧
        (ifT (!b15)
          (Q [V.one (Cell.int IntKind.i64 0), V.one (Cell.int IntKind.i64 1)])
          (derefK p0 (fun i16 => fun i17 => fun h18 =>
          ∃ n19 : Int, (h18.read i16 (i17 + 2) 1 = some [Cell.int IntKind.i64 n19]) ∧
          (ifT (decide (n2 < n19))
            (Q [V.one (Cell.int IntKind.i64 0), V.one (Cell.int IntKind.i64 7)])
            (fun h20 =>
            I 12 [V.agg [Cell.str s6, Cell.int IntKind.i64 n7, Cell.int IntKind.i64 n8, Cell.int IntKind.i64 n9, Cell.bool b10], V.one (Cell.int IntKind.i64 n2)]
              (fun cs21 => fun h22 => 
              ∃ n23 : Int, (cs21 = [V.one (Cell.int IntKind.i64 n23)]) ∧
              I 68 [V.one (Cell.ptr p0), V.one (Cell.str s1), V.one (Cell.int IntKind.i64 n2)]
                (fun cs24 => fun h25 => 
                ∃ n26 : Int, (cs24 = [V.one (Cell.int IntKind.i64 n26)]) ∧
                Q [V.one (Cell.int IntKind.i64 (max (IntKind.i64.wrap (n23 - n26)) 0)), V.one (Cell.int IntKind.i64 0)] h25) h22) h20)) h18))) h14) h12)) h5) h3
theorem den27 (I : FuncId → List V → Post → T) (p0 : Option (Nat × Nat)) (s1 : ByteArray) (n2 : Int) (Q : Post) : denF Go.Proofs.Tryd.prog 256 (⟨[], []⟩) I 27 [V.one (Cell.ptr p0), V.one (Cell.str s1), V.one (Cell.int IntKind.i64 n2)] Q = vc27 I p0 s1 n2 Q := by kernel_rfl
/-- slices.Equal[[]handbill/api.Hold,handbill/api.Hold] -/
def vc28 (I : FuncId → List V → Post → T) (l0 : Sl) (l1 : Sl) (Q : Post) : T :=
  ifT (!decide ((↑l0.len : Int) = (↑l1.len : Int)))
    (Q [V.one (Cell.bool false)])
    (loopK (A := Int) 0
      (fun x2 => fun n3 => ifT (decide (n3 < (↑l0.len : Int)))
        (fun h4 =>
        ((0 ≤ n3) ∧
        n3 < (↑l0.len : Int)) ∧
        (derefK l0.a (fun i5 => fun i6 => fun h7 =>
        ∃ n8 : Int, ∃ s9 : ByteArray, ∃ n10 : Int, ∃ n11 : Int, ∃ n12 : Int, ∃ n13 : Int, (h7.read i5 (i6 + n3.toNat * 6) 6 = some [Cell.int IntKind.i64 n8, Cell.str s9, Cell.int IntKind.i64 n10, Cell.int IntKind.i64 n11, Cell.int IntKind.i64 n12, Cell.int IntKind.i64 n13]) ∧
        ((0 ≤ n3) ∧
        n3 < (↑l1.len : Int)) ∧
        (derefK l1.a (fun i14 => fun i15 => fun h16 =>
        ∃ n17 : Int, ∃ s18 : ByteArray, ∃ n19 : Int, ∃ n20 : Int, ∃ n21 : Int, ∃ n22 : Int, (h16.read i14 (i15 + n3.toNat * 6) 6 = some [Cell.int IntKind.i64 n17, Cell.str s18, Cell.int IntKind.i64 n19, Cell.int IntKind.i64 n20, Cell.int IntKind.i64 n21, Cell.int IntKind.i64 n22]) ∧
        (ifT (!(decide (n8 = n17) && (decide (s9 = s18) && (decide (n10 = n19) && (decide (n11 = n20) && (decide (n12 = n21) && decide (n13 = n22)))))))
          (Q [V.one (Cell.bool false)])
          (x2 (IntKind.i64.wrap (n3 + 1)))) h16)) h7)) h4)
        (Q [V.one (Cell.bool true)])))
theorem den28 (I : FuncId → List V → Post → T) (l0 : Sl) (l1 : Sl) (Q : Post) : denF Go.Proofs.Tryd.prog 0 (⟨[], [(58, 67100720, [(13, tk Go.Proofs.Tryd.prog 3)])]⟩) I 28 [V.one (Cell.slice 6 l0), V.one (Cell.slice 6 l1)] Q = vc28 I l0 l1 Q := by kernel_rfl
/-- (*handbill/offer.Purse).Holds -/
def vc29 (I : FuncId → List V → Post → T) (p0 : Option (Nat × Nat)) (Q : Post) : T :=
  derefK p0 (fun i1 => fun i2 => fun h3 =>
  ∃ l4 : Sl, (h3.read i1 (i2 + 1) 1 = some [Cell.slice 6 l4]) ∧
  I 73 [V.one (Cell.slice 6 l4)]
    (fun cs5 => fun h6 => 
    ∃ l7 : Sl, (cs5 = [V.one (Cell.slice 6 l7)]) ∧
    (loopK (A := Int) 0
      (fun x8 => fun n9 => ifT (decide (n9 < (↑l7.len : Int)))
        (fun h10 =>
        ((0 ≤ n9) ∧
        n9 < (↑l7.len : Int)) ∧
        (derefK l7.a (fun i11 => fun i12 => fun h13 =>
        ∃ n14 : Int, ∃ s15 : ByteArray, ∃ n16 : Int, ∃ n17 : Int, ∃ n18 : Int, ∃ n19 : Int, (h13.read i11 (i12 + n9.toNat * 6) 6 = some [Cell.int IntKind.i64 n14, Cell.str s15, Cell.int IntKind.i64 n16, Cell.int IntKind.i64 n17, Cell.int IntKind.i64 n18, Cell.int IntKind.i64 n19]) ∧
        (derefK p0 (fun i20 => fun i21 => fun h22 =>
        ∃ n23 : Int, (h22.read i20 (i21 + 2) 1 = some [Cell.int IntKind.i64 n23]) ∧
        I 74 [V.agg [Cell.int IntKind.i64 n14, Cell.str s15, Cell.int IntKind.i64 n16, Cell.int IntKind.i64 n17, Cell.int IntKind.i64 n18, Cell.int IntKind.i64 n19], V.one (Cell.int IntKind.i64 n23)]
          (fun cs24 => fun h25 => 
          ∃ n26 : Int, (cs24 = [V.one (Cell.int IntKind.i64 n26)]) ∧
          ((0 ≤ n9) ∧
          n9 < (↑l7.len : Int)) ∧
          (derefK l7.a (fun i27 => fun i28 => fun h29 =>
          (storeK [] i27 (i28 + n9.toNat * 6 + 5) [Cell.int IntKind.i64 n26] (x8 (IntKind.i64.wrap (n9 + 1)))) h29)) h25) h22)) h13)) h10)
        (Q [V.one (Cell.slice 6 l7)]))) h6) h3)
theorem den29 (I : FuncId → List V → Post → T) (p0 : Option (Nat × Nat)) (Q : Post) : denF Go.Proofs.Tryd.prog 32 (⟨[], [(58, 536862768, [(13, tk Go.Proofs.Tryd.prog 3)])]⟩) I 29 [V.one (Cell.ptr p0)] Q = vc29 I p0 Q := by kernel_rfl
/-- slices.Clone[[]handbill/api.Hold,handbill/api.Hold] -/
def vc73 (I : FuncId → List V → Post → T) (l0 : Sl) (Q : Post) : T :=
  ifT l0.a.isNone
    (Q [V.one (Cell.slice 6 { a := none, len := 0 })])
    (fun h1 =>
    ∃ cs2 : List Cell, (h1.sl 6 l0 = some cs2) ∧
    (l0.len * 56 ≤ 140737488355328) ∧
    (newK (YtfemminjhecocaaDoorVc.Obj.cells false cs2) (fun i3 => fun h4 => 
    Q [V.one (Cell.slice 6 { a := some (i3, 0), len := l0.len })] h4)) h1)
theorem den73 (I : FuncId → List V → Post → T) (l0 : Sl) (Q : Post) : denF Go.Proofs.Tryd.prog 0 (⟨[], []⟩) I 73 [V.one (Cell.slice 6 l0)] Q = vc73 I l0 Q := by kernel_rfl
/-- (*handbill/handref1.Purse).Holds -/
def vc30 (I : FuncId → List V → Post → T) (p0 : Option (Nat × Nat)) (Q : Post) : T :=
  derefK p0 (fun i1 => fun i2 => fun h3 =>
  ∃ l4 : Sl, (h3.read i1 (i2 + 1) 1 = some [Cell.slice 6 l4]) ∧
  I 73 [V.one (Cell.slice 6 l4)]
    (fun cs5 => fun h6 => 
    ∃ l7 : Sl, (cs5 = [V.one (Cell.slice 6 l7)]) ∧
    (loopK (A := Int) 0
      (fun x8 => fun n9 => ifT (decide (n9 < (↑l7.len : Int)))
        (fun h10 =>
        ((0 ≤ n9) ∧
        n9 < (↑l7.len : Int)) ∧
        (derefK l7.a (fun i11 => fun i12 => fun h13 =>
        ∃ n14 : Int, ∃ s15 : ByteArray, ∃ n16 : Int, ∃ n17 : Int, ∃ n18 : Int, ∃ n19 : Int, (h13.read i11 (i12 + n9.toNat * 6) 6 = some [Cell.int IntKind.i64 n14, Cell.str s15, Cell.int IntKind.i64 n16, Cell.int IntKind.i64 n17, Cell.int IntKind.i64 n18, Cell.int IntKind.i64 n19]) ∧
        (derefK p0 (fun i20 => fun i21 => fun h22 =>
        ∃ n23 : Int, (h22.read i20 (i21 + 2) 1 = some [Cell.int IntKind.i64 n23]) ∧
        I 75 [V.agg [Cell.int IntKind.i64 n14, Cell.str s15, Cell.int IntKind.i64 n16, Cell.int IntKind.i64 n17, Cell.int IntKind.i64 n18, Cell.int IntKind.i64 n19], V.one (Cell.int IntKind.i64 n23)]
          (fun cs24 => fun h25 => 
          ∃ n26 : Int, (cs24 = [V.one (Cell.int IntKind.i64 n26)]) ∧
          ((0 ≤ n9) ∧
          n9 < (↑l7.len : Int)) ∧
          (derefK l7.a (fun i27 => fun i28 => fun h29 =>
          (storeK [] i27 (i28 + n9.toNat * 6 + 5) [Cell.int IntKind.i64 n26] (x8 (IntKind.i64.wrap (n9 + 1)))) h29)) h25) h22)) h13)) h10)
        (Q [V.one (Cell.slice 6 l7)]))) h6) h3)
theorem den30 (I : FuncId → List V → Post → T) (p0 : Option (Nat × Nat)) (Q : Post) : denF Go.Proofs.Tryd.prog 32 (⟨[], [(58, 536862768, [(13, tk Go.Proofs.Tryd.prog 3)])]⟩) I 30 [V.one (Cell.ptr p0)] Q = vc30 I p0 Q := by kernel_rfl
/-- handbill/handref1.BudgetsFault$1 -/
def vc56 (I : FuncId → List V → Post → T) (s0 : ByteArray) (n1 : Int) (n2 : Int) (n3 : Int) (b4 : Bool) (i5 : Nat) (i6 : Nat) (Q : Post) : T :=
  fun h7 =>
  ∃ s8 : ByteArray, (h7.read i5 (i6 + 0) 1 = some [Cell.str s8]) ∧
  Q [V.one (Cell.bool (decide (s0 = s8)))] h7
theorem den56 (I : FuncId → List V → Post → T) (s0 : ByteArray) (n1 : Int) (n2 : Int) (n3 : Int) (b4 : Bool) (i5 : Nat) (i6 : Nat) (Q : Post) : denF Go.Proofs.Tryd.prog 4 (⟨[], []⟩) I 56 [V.agg [Cell.str s0, Cell.int IntKind.i64 n1, Cell.int IntKind.i64 n2, Cell.int IntKind.i64 n3, Cell.bool b4], V.one (Cell.ptr (some (i5, i6)))] Q = vc56 I s0 n1 n2 n3 b4 i5 i6 Q := by kernel_rfl
/-- handbill/offer.CheckBudgets$1 -/
def vc58 (I : FuncId → List V → Post → T) (s0 : ByteArray) (n1 : Int) (n2 : Int) (n3 : Int) (b4 : Bool) (i5 : Nat) (i6 : Nat) (Q : Post) : T :=
  fun h7 =>
  ∃ s8 : ByteArray, (h7.read i5 (i6 + 0) 1 = some [Cell.str s8]) ∧
  Q [V.one (Cell.bool (decide (s0 = s8)))] h7
theorem den58 (I : FuncId → List V → Post → T) (s0 : ByteArray) (n1 : Int) (n2 : Int) (n3 : Int) (b4 : Bool) (i5 : Nat) (i6 : Nat) (Q : Post) : denF Go.Proofs.Tryd.prog 4 (⟨[], []⟩) I 58 [V.agg [Cell.str s0, Cell.int IntKind.i64 n1, Cell.int IntKind.i64 n2, Cell.int IntKind.i64 n3, Cell.bool b4], V.one (Cell.ptr (some (i5, i6)))] Q = vc58 I s0 n1 n2 n3 b4 i5 i6 Q := by kernel_rfl
/-- (*handbill/offer.Purse).budgetOf$1 -/
def vc116 (I : FuncId → List V → Post → T) (s0 : ByteArray) (n1 : Int) (n2 : Int) (n3 : Int) (b4 : Bool) (i5 : Nat) (i6 : Nat) (Q : Post) : T :=
  fun h7 =>
  ∃ s8 : ByteArray, (h7.read i5 i6 1 = some [Cell.str s8]) ∧
  Q [V.one (Cell.bool (decide (s0 = s8)))] h7
theorem den116 (I : FuncId → List V → Post → T) (s0 : ByteArray) (n1 : Int) (n2 : Int) (n3 : Int) (b4 : Bool) (i5 : Nat) (i6 : Nat) (Q : Post) : denF Go.Proofs.Tryd.prog 4 (⟨[], []⟩) I 116 [V.agg [Cell.str s0, Cell.int IntKind.i64 n1, Cell.int IntKind.i64 n2, Cell.int IntKind.i64 n3, Cell.bool b4], V.one (Cell.ptr (some (i5, i6)))] Q = vc116 I s0 n1 n2 n3 b4 i5 i6 Q := by kernel_rfl
/-- (*handbill/handref1.Purse).budget$1 -/
def vc117 (I : FuncId → List V → Post → T) (s0 : ByteArray) (n1 : Int) (n2 : Int) (n3 : Int) (b4 : Bool) (i5 : Nat) (i6 : Nat) (Q : Post) : T :=
  fun h7 =>
  ∃ s8 : ByteArray, (h7.read i5 i6 1 = some [Cell.str s8]) ∧
  Q [V.one (Cell.bool (decide (s0 = s8)))] h7
theorem den117 (I : FuncId → List V → Post → T) (s0 : ByteArray) (n1 : Int) (n2 : Int) (n3 : Int) (b4 : Bool) (i5 : Nat) (i6 : Nat) (Q : Post) : denF Go.Proofs.Tryd.prog 4 (⟨[], []⟩) I 117 [V.agg [Cell.str s0, Cell.int IntKind.i64 n1, Cell.int IntKind.i64 n2, Cell.int IntKind.i64 n3, Cell.bool b4], V.one (Cell.ptr (some (i5, i6)))] Q = vc117 I s0 n1 n2 n3 b4 i5 i6 Q := by kernel_rfl
end Go.Proofs.YtfemminjhecocaaDoorVc
