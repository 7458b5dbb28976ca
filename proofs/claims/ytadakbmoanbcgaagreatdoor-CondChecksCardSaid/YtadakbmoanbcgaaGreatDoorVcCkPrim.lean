/- Seven functions of Go's library: the library's contracts, laid at this program; the primitives that the laws of conditions stand on. -/
import Derived.Shelf.Strings.Shaped
import Derived.Shelf.Strings.SplitShaped
import Derived.Shelf.Unicode.ValidAny
import Derived.Test.YtadakbmoanbcgaaGreatDoorProg
import Derived.Test.YtadakbmoanbcgaaGreatDoorVcPrims
import Derived.Test.YtadakbmoanbcgaaGreatDoorVcCkTab4
import Derived.Shelf.Strings.Fields
import Derived.Shelf.Strings.Repeat
import Derived.Shelf.Unicode.DecodeAny
set_option linter.unusedVariables false
set_option linter.unusedSimpArgs false
namespace Go.Proofs.YtadakbmoanbcgaaGreatDoorVc
open Go.Proofs Go.RowKit Go.Shelf
def has103_ren : Go.Shelf.Ren := ⟨fun | 144 => 51 | 143 => 75 | 219 => 109 | 217 => 115 | 225 => 131 | 224 => 132 | 267 => 133 | 266 => 138 | 314 => 148 | n => n, fun | 9 => 9 | 4 => 4 | 3 => 3 | 5 => 5 | 46 => 65 | 146 => 98 | 51 => 97 | n => n, fun | 1 => 0 | n => n⟩
theorem has103 : Go.Proofs.LaysM.n144 Tryz.prog has103_ren := {
  mixed := by kernel_rfl
  f143 := Tryz.func75.trans (congrArg some (by kernel_rfl))
  f144 := Tryz.func51.trans (congrArg some (by kernel_rfl))
  f217 := Tryz.func115.trans (congrArg some (by kernel_rfl))
  f219 := Tryz.func109.trans (congrArg some (by kernel_rfl))
  f224 := Tryz.func132.trans (congrArg some (by kernel_rfl))
  f225 := Tryz.func131.trans (congrArg some (by kernel_rfl))
  f266 := Tryz.func138.trans (congrArg some (by kernel_rfl))
  f267 := Tryz.func133.trans (congrArg some (by kernel_rfl))
  f314 := Tryz.func148.trans (congrArg some (by kernel_rfl))
  t3 := Tryz.underlying3
  a3 := Tryz.isAgg3
  z3 := Tryz.sizeOf3
  v3 := Tryz.zeroValue3
  t4 := Tryz.underlying4
  a4 := Tryz.isAgg4
  z4 := Tryz.sizeOf4
  v4 := Tryz.zeroValue4
  t5 := Tryz.underlying5
  a5 := Tryz.isAgg5
  z5 := Tryz.sizeOf5
  v5 := Tryz.zeroValue5
  t9 := Tryz.underlying9
  a9 := Tryz.isAgg9
  z9 := Tryz.sizeOf9
  v9 := Tryz.zeroValue9
  t46 := Tryz.underlying65
  a46 := Tryz.isAgg65
  z46 := Tryz.sizeOf65
  v46 := Tryz.zeroValue65
  t51 := Tryz.underlying97
  a51 := Tryz.isAgg97
  z51 := Tryz.sizeOf97
  v51 := Tryz.zeroValue97
  t146 := Tryz.underlying98
  a146 := Tryz.isAgg98
  z146 := Tryz.sizeOf98
  v146 := Tryz.zeroValue98
  g1 := by kernel_rfl
  i3 := by kernel_rfl
  i4 := by kernel_rfl
  i5 := by kernel_rfl
  i9 := by kernel_rfl
  i46 := by kernel_rfl
  i51 := by kernel_rfl
  i146 := by kernel_rfl
  m1 := by kernel_rfl
  s1_3 := fun w h => Go.Proofs.cell_of_shapedOpen_int (zero := #[.int .i64 0]) (t := 3) h (of_decide_eq_true (by kernel_rfl)) (by kernel_rfl) rfl (by kernel_rfl) (by kernel_rfl) Tryz.underlying3 }
def cut202_ren : Go.Shelf.Ren := ⟨fun | 145 => 184 | 220 => 196 | 219 => 109 | 217 => 115 | 225 => 131 | 224 => 132 | 267 => 133 | 266 => 138 | 314 => 148 | n => n, fun | 9 => 9 | 4 => 4 | 59 => 210 | 3 => 3 | 5 => 5 | 46 => 65 | 146 => 98 | 51 => 97 | n => n, fun | 1 => 0 | n => n⟩
theorem cut202 : Go.Proofs.LaysM.n145 Tryz.prog cut202_ren := {
  mixed := by kernel_rfl
  f145 := Tryz.func184.trans (congrArg some (by kernel_rfl))
  f217 := Tryz.func115.trans (congrArg some (by kernel_rfl))
  f219 := Tryz.func109.trans (congrArg some (by kernel_rfl))
  f220 := Tryz.func196.trans (congrArg some (by kernel_rfl))
  f224 := Tryz.func132.trans (congrArg some (by kernel_rfl))
  f225 := Tryz.func131.trans (congrArg some (by kernel_rfl))
  f266 := Tryz.func138.trans (congrArg some (by kernel_rfl))
  f267 := Tryz.func133.trans (congrArg some (by kernel_rfl))
  f314 := Tryz.func148.trans (congrArg some (by kernel_rfl))
  t3 := Tryz.underlying3
  a3 := Tryz.isAgg3
  z3 := Tryz.sizeOf3
  v3 := Tryz.zeroValue3
  t4 := Tryz.underlying4
  a4 := Tryz.isAgg4
  z4 := Tryz.sizeOf4
  v4 := Tryz.zeroValue4
  t5 := Tryz.underlying5
  a5 := Tryz.isAgg5
  z5 := Tryz.sizeOf5
  v5 := Tryz.zeroValue5
  t9 := Tryz.underlying9
  a9 := Tryz.isAgg9
  z9 := Tryz.sizeOf9
  v9 := Tryz.zeroValue9
  t46 := Tryz.underlying65
  a46 := Tryz.isAgg65
  z46 := Tryz.sizeOf65
  v46 := Tryz.zeroValue65
  t51 := Tryz.underlying97
  a51 := Tryz.isAgg97
  z51 := Tryz.sizeOf97
  v51 := Tryz.zeroValue97
  t59 := Tryz.underlying210
  a59 := Tryz.isAgg210
  z59 := Tryz.sizeOf210
  v59 := Tryz.zeroValue210
  t146 := Tryz.underlying98
  a146 := Tryz.isAgg98
  z146 := Tryz.sizeOf98
  v146 := Tryz.zeroValue98
  g1 := by kernel_rfl
  i3 := by kernel_rfl
  i4 := by kernel_rfl
  i5 := by kernel_rfl
  i9 := by kernel_rfl
  i46 := by kernel_rfl
  i51 := by kernel_rfl
  i59 := by kernel_rfl
  i146 := by kernel_rfl
  m1 := by kernel_rfl
  s1_3 := fun w h => Go.Proofs.cell_of_shapedOpen_int (zero := #[.int .i64 0]) (t := 3) h (of_decide_eq_true (by kernel_rfl)) (by kernel_rfl) rfl (by kernel_rfl) (by kernel_rfl) Tryz.underlying3 }
def split203_ren : Go.Shelf.Ren := ⟨fun | 146 => 186 | 221 => 197 | 268 => 204 | 138 => 205 | 143 => 75 | 195 => 212 | 197 => 112 | 218 => 213 | 219 => 109 | 260 => 137 | 217 => 115 | 225 => 131 | 224 => 132 | 267 => 133 | 266 => 138 | 314 => 148 | n => n, fun | 9 => 9 | 31 => 60 | 3 => 3 | 4 => 4 | 0 => 0 | 105 => 150 | 21 => 21 | 5 => 5 | 46 => 65 | 119 => 165 | 139 => 168 | 138 => 167 | 146 => 98 | 51 => 97 | n => n, fun | 1 => 0 | 3 => 1 | 4 => 2 | n => n⟩
theorem split203 : Go.Proofs.LaysM.n146 Tryz.prog split203_ren := {
  mixed := by kernel_rfl
  f138 := Tryz.func205.trans (congrArg some (by kernel_rfl))
  f143 := Tryz.func75.trans (congrArg some (by kernel_rfl))
  f146 := Tryz.func186.trans (congrArg some (by kernel_rfl))
  f195 := Tryz.func212.trans (congrArg some (by kernel_rfl))
  f197 := Tryz.func112.trans (congrArg some (by kernel_rfl))
  f217 := Tryz.func115.trans (congrArg some (by kernel_rfl))
  f218 := Tryz.func213.trans (congrArg some (by kernel_rfl))
  f219 := Tryz.func109.trans (congrArg some (by kernel_rfl))
  f221 := Tryz.func197.trans (congrArg some (by kernel_rfl))
  f224 := Tryz.func132.trans (congrArg some (by kernel_rfl))
  f225 := Tryz.func131.trans (congrArg some (by kernel_rfl))
  f260 := Tryz.func137.trans (congrArg some (by kernel_rfl))
  f266 := Tryz.func138.trans (congrArg some (by kernel_rfl))
  f267 := Tryz.func133.trans (congrArg some (by kernel_rfl))
  f268 := Tryz.func204.trans (congrArg some (by kernel_rfl))
  f314 := Tryz.func148.trans (congrArg some (by kernel_rfl))
  t0 := Tryz.underlying0
  a0 := Tryz.isAgg0
  z0 := Tryz.sizeOf0
  v0 := Tryz.zeroValue0
  t3 := Tryz.underlying3
  a3 := Tryz.isAgg3
  z3 := Tryz.sizeOf3
  v3 := Tryz.zeroValue3
  t4 := Tryz.underlying4
  a4 := Tryz.isAgg4
  z4 := Tryz.sizeOf4
  v4 := Tryz.zeroValue4
  t5 := Tryz.underlying5
  a5 := Tryz.isAgg5
  z5 := Tryz.sizeOf5
  v5 := Tryz.zeroValue5
  t9 := Tryz.underlying9
  a9 := Tryz.isAgg9
  z9 := Tryz.sizeOf9
  v9 := Tryz.zeroValue9
  t21 := Tryz.underlying21
  a21 := Tryz.isAgg21
  z21 := Tryz.sizeOf21
  v21 := Tryz.zeroValue21
  t31 := Tryz.underlying60
  a31 := Tryz.isAgg60
  z31 := Tryz.sizeOf60
  v31 := Tryz.zeroValue60
  t46 := Tryz.underlying65
  a46 := Tryz.isAgg65
  z46 := Tryz.sizeOf65
  v46 := Tryz.zeroValue65
  t51 := Tryz.underlying97
  a51 := Tryz.isAgg97
  z51 := Tryz.sizeOf97
  v51 := Tryz.zeroValue97
  t105 := Tryz.underlying150
  a105 := Tryz.isAgg150
  z105 := Tryz.sizeOf150
  v105 := Tryz.zeroValue150
  t119 := Tryz.underlying165
  a119 := Tryz.isAgg165
  z119 := Tryz.sizeOf165
  t138 := Tryz.underlying167
  a138 := Tryz.isAgg167
  z138 := Tryz.sizeOf167
  v138 := Tryz.zeroValue167
  t139 := Tryz.underlying168
  a139 := Tryz.isAgg168
  z139 := Tryz.sizeOf168
  v139 := Tryz.zeroValue168
  t146 := Tryz.underlying98
  a146 := Tryz.isAgg98
  z146 := Tryz.sizeOf98
  v146 := Tryz.zeroValue98
  g1 := by kernel_rfl
  g3 := by kernel_rfl
  g4 := by kernel_rfl
  i0 := by kernel_rfl
  i3 := by kernel_rfl
  i4 := by kernel_rfl
  i5 := by kernel_rfl
  i9 := by kernel_rfl
  i21 := by kernel_rfl
  i31 := by kernel_rfl
  i46 := by kernel_rfl
  i51 := by kernel_rfl
  i105 := by kernel_rfl
  i138 := by kernel_rfl
  i139 := by kernel_rfl
  i146 := by kernel_rfl
  m1 := by kernel_rfl
  s1_3 := fun w h => Go.Proofs.cell_of_shapedOpen_int (zero := #[.int .i64 0]) (t := 3) h (of_decide_eq_true (by kernel_rfl)) (by kernel_rfl) rfl (by kernel_rfl) (by kernel_rfl) Tryz.underlying3
  m3 := by kernel_rfl
  m4 := by kernel_rfl }
def valid216_ren : Go.Shelf.Ren := ⟨fun | 196 => 107 | 259 => 130 | n => n, fun | 9 => 9 | 4 => 4 | 3 => 3 | 5 => 5 | 12 => 12 | 119 => 165 | 0 => 0 | 46 => 65 | 139 => 168 | 138 => 167 | 53 => 100 | n => n, fun | 3 => 1 | 4 => 2 | n => n⟩
theorem valid216 : Go.Proofs.Lays.n196 Tryz.prog valid216_ren := {
  mixed := by kernel_rfl
  f196 := Tryz.func107.trans (congrArg some (by kernel_rfl))
  f259 := Tryz.func130.trans (congrArg some (by kernel_rfl))
  t0 := Tryz.underlying0
  a0 := Tryz.isAgg0
  z0 := Tryz.sizeOf0
  v0 := Tryz.zeroValue0
  t3 := Tryz.underlying3
  a3 := Tryz.isAgg3
  z3 := Tryz.sizeOf3
  v3 := Tryz.zeroValue3
  t4 := Tryz.underlying4
  a4 := Tryz.isAgg4
  z4 := Tryz.sizeOf4
  v4 := Tryz.zeroValue4
  t5 := Tryz.underlying5
  a5 := Tryz.isAgg5
  z5 := Tryz.sizeOf5
  v5 := Tryz.zeroValue5
  t9 := Tryz.underlying9
  a9 := Tryz.isAgg9
  z9 := Tryz.sizeOf9
  v9 := Tryz.zeroValue9
  t12 := Tryz.underlying12
  a12 := Tryz.isAgg12
  z12 := Tryz.sizeOf12
  v12 := Tryz.zeroValue12
  t46 := Tryz.underlying65
  a46 := Tryz.isAgg65
  z46 := Tryz.sizeOf65
  v46 := Tryz.zeroValue65
  t53 := Tryz.underlying100
  a53 := Tryz.isAgg100
  z53 := Tryz.sizeOf100
  v53 := Tryz.zeroValue100
  t119 := Tryz.underlying165
  a119 := Tryz.isAgg165
  z119 := Tryz.sizeOf165
  t138 := Tryz.underlying167
  a138 := Tryz.isAgg167
  z138 := Tryz.sizeOf167
  v138 := Tryz.zeroValue167
  t139 := Tryz.underlying168
  a139 := Tryz.isAgg168
  z139 := Tryz.sizeOf168
  v139 := Tryz.zeroValue168
  g3 := by kernel_rfl
  g4 := by kernel_rfl }
def dec112_ren : Go.Shelf.Ren := ⟨fun | 197 => 112 | 260 => 137 | n => n, fun | 9 => 9 | 21 => 21 | 3 => 3 | 4 => 4 | 5 => 5 | 105 => 150 | 119 => 165 | 0 => 0 | 46 => 65 | 139 => 168 | 138 => 167 | n => n, fun | 3 => 1 | 4 => 2 | n => n⟩
theorem dec112 : Go.Proofs.Lays.n197 Tryz.prog dec112_ren := {
  mixed := by kernel_rfl
  f197 := Tryz.func112.trans (congrArg some (by kernel_rfl))
  f260 := Tryz.func137.trans (congrArg some (by kernel_rfl))
  t0 := Tryz.underlying0
  a0 := Tryz.isAgg0
  z0 := Tryz.sizeOf0
  v0 := Tryz.zeroValue0
  t3 := Tryz.underlying3
  a3 := Tryz.isAgg3
  z3 := Tryz.sizeOf3
  v3 := Tryz.zeroValue3
  t4 := Tryz.underlying4
  a4 := Tryz.isAgg4
  z4 := Tryz.sizeOf4
  v4 := Tryz.zeroValue4
  t5 := Tryz.underlying5
  a5 := Tryz.isAgg5
  z5 := Tryz.sizeOf5
  v5 := Tryz.zeroValue5
  t9 := Tryz.underlying9
  a9 := Tryz.isAgg9
  z9 := Tryz.sizeOf9
  v9 := Tryz.zeroValue9
  t21 := Tryz.underlying21
  a21 := Tryz.isAgg21
  z21 := Tryz.sizeOf21
  v21 := Tryz.zeroValue21
  t46 := Tryz.underlying65
  a46 := Tryz.isAgg65
  z46 := Tryz.sizeOf65
  v46 := Tryz.zeroValue65
  t105 := Tryz.underlying150
  a105 := Tryz.isAgg150
  z105 := Tryz.sizeOf150
  v105 := Tryz.zeroValue150
  t119 := Tryz.underlying165
  a119 := Tryz.isAgg165
  z119 := Tryz.sizeOf165
  t138 := Tryz.underlying167
  a138 := Tryz.isAgg167
  z138 := Tryz.sizeOf167
  v138 := Tryz.zeroValue167
  t139 := Tryz.underlying168
  a139 := Tryz.isAgg168
  z139 := Tryz.sizeOf168
  v139 := Tryz.zeroValue168
  g3 := by kernel_rfl
  g4 := by kernel_rfl }
def fields111_ren : Go.Shelf.Ren := ⟨fun | 157 => 111 | 229 => 135 | 199 => 136 | 261 => 150 | 311 => 166 | 312 => 167 | n => n, fun | 9 => 9 | 31 => 60 | 3 => 3 | 5 => 5 | 4 => 4 | 119 => 165 | 0 => 0 | 40 => 170 | 152 => 178 | 21 => 21 | 154 => 180 | 51 => 97 | 141 => 182 | 196 => 196 | 193 => 193 | 198 => 199 | 49 => 197 | 194 => 194 | 201 => 202 | 226 => 207 | 46 => 65 | 227 => 208 | n => n, fun | 0 => 3 | 6 => 4 | n => n⟩
theorem fields111 : Go.Proofs.Lays.n157 Tryz.prog fields111_ren := {
  mixed := by kernel_rfl
  f157 := Tryz.func111.trans (congrArg some (by kernel_rfl))
  f199 := Tryz.func136.trans (congrArg some (by kernel_rfl))
  f229 := Tryz.func135.trans (congrArg some (by kernel_rfl))
  f261 := Tryz.func150.trans (congrArg some (by kernel_rfl))
  f311 := Tryz.func166.trans (congrArg some (by kernel_rfl))
  f312 := Tryz.func167.trans (congrArg some (by kernel_rfl))
  t0 := Tryz.underlying0
  a0 := Tryz.isAgg0
  z0 := Tryz.sizeOf0
  v0 := Tryz.zeroValue0
  t3 := Tryz.underlying3
  a3 := Tryz.isAgg3
  z3 := Tryz.sizeOf3
  v3 := Tryz.zeroValue3
  t4 := Tryz.underlying4
  a4 := Tryz.isAgg4
  z4 := Tryz.sizeOf4
  v4 := Tryz.zeroValue4
  t5 := Tryz.underlying5
  a5 := Tryz.isAgg5
  z5 := Tryz.sizeOf5
  v5 := Tryz.zeroValue5
  t9 := Tryz.underlying9
  a9 := Tryz.isAgg9
  z9 := Tryz.sizeOf9
  v9 := Tryz.zeroValue9
  t21 := Tryz.underlying21
  a21 := Tryz.isAgg21
  z21 := Tryz.sizeOf21
  v21 := Tryz.zeroValue21
  t31 := Tryz.underlying60
  a31 := Tryz.isAgg60
  z31 := Tryz.sizeOf60
  v31 := Tryz.zeroValue60
  t40 := Tryz.underlying170
  a40 := Tryz.isAgg170
  z40 := Tryz.sizeOf170
  v40 := Tryz.zeroValue170
  t46 := Tryz.underlying65
  a46 := Tryz.isAgg65
  z46 := Tryz.sizeOf65
  v46 := Tryz.zeroValue65
  t49 := Tryz.underlying197
  a49 := Tryz.isAgg197
  z49 := Tryz.sizeOf197
  v49 := Tryz.zeroValue197
  t51 := Tryz.underlying97
  a51 := Tryz.isAgg97
  z51 := Tryz.sizeOf97
  v51 := Tryz.zeroValue97
  t119 := Tryz.underlying165
  a119 := Tryz.isAgg165
  z119 := Tryz.sizeOf165
  t141 := Tryz.underlying182
  a141 := Tryz.isAgg182
  z141 := Tryz.sizeOf182
  v141 := Tryz.zeroValue182
  t152 := Tryz.underlying178
  a152 := Tryz.isAgg178
  z152 := Tryz.sizeOf178
  v152 := Tryz.zeroValue178
  t154 := Tryz.underlying180
  a154 := Tryz.isAgg180
  z154 := Tryz.sizeOf180
  v154 := Tryz.zeroValue180
  t193 := Tryz.underlying193
  a193 := Tryz.isAgg193
  z193 := Tryz.sizeOf193
  v193 := Tryz.zeroValue193
  t194 := Tryz.underlying194
  a194 := Tryz.isAgg194
  z194 := Tryz.sizeOf194
  v194 := Tryz.zeroValue194
  t196 := Tryz.underlying196
  a196 := Tryz.isAgg196
  z196 := Tryz.sizeOf196
  v196 := Tryz.zeroValue196
  t198 := Tryz.underlying199
  a198 := Tryz.isAgg199
  z198 := Tryz.sizeOf199
  v198 := Tryz.zeroValue199
  t201 := Tryz.underlying202
  a201 := Tryz.isAgg202
  z201 := Tryz.sizeOf202
  v201 := Tryz.zeroValue202
  t226 := Tryz.underlying207
  a226 := Tryz.isAgg207
  z226 := Tryz.sizeOf207
  v226 := Tryz.zeroValue207
  t227 := Tryz.underlying208
  a227 := Tryz.isAgg208
  z227 := Tryz.sizeOf208
  v227 := Tryz.zeroValue208
  g0 := by kernel_rfl
  g6 := by kernel_rfl }
def rep16_ren : Go.Shelf.Ren := ⟨fun | 105 => 16 | 212 => 31 | 99 => 32 | 165 => 33 | 166 => 34 | 170 => 35 | 169 => 36 | 263 => 56 | 264 => 57 | 206 => 58 | 240 => 59 | 241 => 60 | 276 => 80 | 277 => 81 | n => n, fun | 9 => 9 | 3 => 3 | 4 => 4 | 20 => 20 | 0 => 0 | 46 => 65 | 109 => 66 | 5 => 5 | 72 => 72 | 76 => 76 | 51 => 97 | 146 => 98 | 53 => 100 | 148 => 101 | 70 => 69 | 37 => 70 | 75 => 75 | 127 => 103 | 164 => 124 | 80 => 64 | n => n, fun | n => n⟩
theorem rep16 : Go.Proofs.Lays.n105 Tryz.prog rep16_ren := {
  mixed := by kernel_rfl
  f99 := Tryz.func32.trans (congrArg some (by kernel_rfl))
  f105 := Tryz.func16.trans (congrArg some (by kernel_rfl))
  f165 := Tryz.func33.trans (congrArg some (by kernel_rfl))
  f166 := Tryz.func34.trans (congrArg some (by kernel_rfl))
  f169 := Tryz.func36.trans (congrArg some (by kernel_rfl))
  f170 := Tryz.func35.trans (congrArg some (by kernel_rfl))
  f206 := Tryz.func58.trans (congrArg some (by kernel_rfl))
  f212 := Tryz.func31.trans (congrArg some (by kernel_rfl))
  f240 := Tryz.func59.trans (congrArg some (by kernel_rfl))
  f241 := Tryz.func60.trans (congrArg some (by kernel_rfl))
  f263 := Tryz.func56.trans (congrArg some (by kernel_rfl))
  f264 := Tryz.func57.trans (congrArg some (by kernel_rfl))
  f276 := Tryz.func80.trans (congrArg some (by kernel_rfl))
  f277 := Tryz.func81.trans (congrArg some (by kernel_rfl))
  t0 := Tryz.underlying0
  a0 := Tryz.isAgg0
  z0 := Tryz.sizeOf0
  v0 := Tryz.zeroValue0
  t3 := Tryz.underlying3
  a3 := Tryz.isAgg3
  z3 := Tryz.sizeOf3
  v3 := Tryz.zeroValue3
  t4 := Tryz.underlying4
  a4 := Tryz.isAgg4
  z4 := Tryz.sizeOf4
  v4 := Tryz.zeroValue4
  t5 := Tryz.underlying5
  a5 := Tryz.isAgg5
  z5 := Tryz.sizeOf5
  v5 := Tryz.zeroValue5
  t9 := Tryz.underlying9
  a9 := Tryz.isAgg9
  z9 := Tryz.sizeOf9
  v9 := Tryz.zeroValue9
  t20 := Tryz.underlying20
  a20 := Tryz.isAgg20
  z20 := Tryz.sizeOf20
  v20 := Tryz.zeroValue20
  t37 := Tryz.underlying70
  a37 := Tryz.isAgg70
  z37 := Tryz.sizeOf70
  v37 := Tryz.zeroValue70
  t46 := Tryz.underlying65
  a46 := Tryz.isAgg65
  z46 := Tryz.sizeOf65
  v46 := Tryz.zeroValue65
  t51 := Tryz.underlying97
  a51 := Tryz.isAgg97
  z51 := Tryz.sizeOf97
  v51 := Tryz.zeroValue97
  t53 := Tryz.underlying100
  a53 := Tryz.isAgg100
  z53 := Tryz.sizeOf100
  v53 := Tryz.zeroValue100
  t70 := Tryz.underlying69
  a70 := Tryz.isAgg69
  z70 := Tryz.sizeOf69
  v70 := Tryz.zeroValue69
  t72 := Tryz.underlying72
  a72 := Tryz.isAgg72
  z72 := Tryz.sizeOf72
  v72 := Tryz.zeroValue72
  t75 := Tryz.underlying75
  a75 := Tryz.isAgg75
  z75 := Tryz.sizeOf75
  v75 := Tryz.zeroValue75
  t76 := Tryz.underlying76
  a76 := Tryz.isAgg76
  z76 := Tryz.sizeOf76
  v76 := Tryz.zeroValue76
  t109 := Tryz.underlying66
  a109 := Tryz.isAgg66
  z109 := Tryz.sizeOf66
  v109 := Tryz.zeroValue66
  t127 := Tryz.underlying103
  a127 := Tryz.isAgg103
  z127 := Tryz.sizeOf103
  v127 := Tryz.zeroValue103
  t146 := Tryz.underlying98
  a146 := Tryz.isAgg98
  z146 := Tryz.sizeOf98
  v146 := Tryz.zeroValue98
  t148 := Tryz.underlying101
  a148 := Tryz.isAgg101
  z148 := Tryz.sizeOf101
  v148 := Tryz.zeroValue101
  t164 := Tryz.underlying124
  a164 := Tryz.isAgg124
  z164 := Tryz.sizeOf124
  v164 := Tryz.zeroValue124 }
theorem splits_len (s t : ByteArray) (h : 1 ≤ t.size) : (Lib.splitB t 0 (Lib.countB s t) s).length = Lib.countB s t + 1 := Lib.splitB_all t h 0 _ s rfl
def Pm : Prim := fun f args Q h =>
  (f = 51 ∧ ∃ s t, args = [str s, str t] ∧ s.size ≤ 1000000 ∧ MaxIn 0 h ∧ Q [boo (conS s t)] h) ∨
  (f = 184 ∧ ∃ s t, args = [str s, str t] ∧ s.size ≤ 1000000 ∧ MaxIn 0 h ∧ Q [str ⟨(Lib.cut s.data.toList t.data.toList).1.toArray⟩, str ⟨(Lib.cut s.data.toList t.data.toList).2.1.toArray⟩, boo (Lib.cut s.data.toList t.data.toList).2.2] h) ∨
  (f = 186 ∧ ∃ s t, args = [str s, str t] ∧ s.size ≤ 1000000 ∧ 1 ≤ t.size ∧ MaxIn 0 h ∧ ∀ sl h', Ext h h' → At h' 1 sl (strs (Lib.splitB t 0 (Lib.countB s t) s)) → Q [.one (.slice 1 sl)] h') ∨
  (f = 107 ∧ ∃ s, args = [str s] ∧ s.size ≤ 200 ∧ U8In 1 2 h ∧ Q [boo (validS s)] h)
theorem two_strs {ρ : Rho} {vs : Array Value} {s t : ByteArray} (h : VRs ρ [str s, str t] vs.toList) : vs = #[.string s, .string t] := by
  obtain ⟨vs⟩ := vs
  match vs, h with
  | [v0, v1], ⟨h0, h1, _⟩ =>
    obtain rfl : v0 = .string s := h0
    obtain rfl : v1 = .string t := h1
    rfl
theorem pm_sound : Sound Tryz.prog Pm := by
  rintro f args Q h (⟨rfl, s, t, rfl, hs, hx, hq⟩ | ⟨rfl, s, t, rfl, hs, hx, hq⟩ | ⟨rfl, s, t, rfl, hs, h1, hx, hq⟩ | ⟨rfl, s, rfl, hs, hx, hq⟩) ρ w vs hr hvs
  · obtain rfl := two_strs hvs
    obtain ⟨m, hm⟩ := hx.cell hr
    have hcall := Any.strings_Contains (ρ := has103_ren) { has103 with } s t m w (by omega) hm
    refine .inl ⟨⟨_, Tryz.func51, by kernel_rfl, by kernel_rfl⟩, ?_⟩
    refine Calls.mono hcall fun e w' ⟨he, hw⟩ => ⟨_, he, ρ, h, _, ?_, hq, ?_, ?_⟩
    · exact rfl
    · rw [hw]; exact hr
    · rw [hw]; exact Fr.refl _ _ _
  · obtain rfl := two_strs hvs
    obtain ⟨m, hm⟩ := hx.cell hr
    have hcall := Any.strings_Cut (ρ := cut202_ren) { cut202 with } s t m w (by omega) hm
    refine .inl ⟨⟨_, Tryz.func184, by kernel_rfl, by kernel_rfl⟩, ?_⟩
    refine Calls.mono hcall fun e w' ⟨he, n, hw⟩ => ?_
    have hb : Below w.heap.size w w' := by rw [hw]; exact (Below.refl _ _).trans ⟨rfl, rfl, rfl, Nat.le_refl _, fun _ _ => rfl⟩
    refine ⟨_, he, ρ, h, [str _, str _, boo _], ?_, hq, hr.kept hb, Fr.kept hb⟩
    exact ⟨_, rfl, rfl, rfl, rfl, trivial⟩
  · obtain rfl := two_strs hvs
    obtain ⟨m, hm⟩ := hx.cell hr
    have hcall := Any.strings_Split (ρ := split203_ren) { split203 with } split203.i9 s t m w (by omega) hm h1
    refine .inl ⟨⟨_, Tryz.func186, by kernel_rfl, by kernel_rfl⟩, ?_⟩
    refine Calls.mono hcall fun e w' ⟨he, hw⟩ => ?_
    have hb : Below w.heap.size w w' := by rw [hw]; exact (Below.refl _ _).alloc (Nat.le_refl _) _
    obtain ⟨N, hN⟩ := hr.fresh
    obtain ⟨hi, hρ⟩ := hN N (Nat.le_refl _)
    have hlen := splits_len s t h1
    have hc : w'.heap[w.heap.size]? = some (.cells ((Lib.splitB t 0 (Lib.countB s t) s).map Value.string).toArray (split203_ren.t 9) (0, 0)) := by rw [hw]; exact Array.getElem?_push_size
    obtain ⟨r1, r2⟩ := hr.named (cs := strs (Lib.splitB t 0 (Lib.countB s t) s)) hb hi hρ (Nat.le_refl _) hc (by simp [strs]) fun ρ' _ => by
      refine CRs.of_get (by simp [strs]) fun j cl v e1 e2 => ?_
      unfold strs at e1
      rw [List.getElem?_map] at e1
      simp only [List.getElem?_take, List.getElem?_map] at e2
      split at e2
      · cases ex : (Lib.splitB t 0 (Lib.countB s t) s)[j]? with
        | none => rw [ex] at e1; cases e1
        | some x =>
          rw [ex] at e1 e2
          cases e1; cases e2
          exact rfl
      · cases e2
    refine ⟨_, he, _, _, [.one (.slice 1 ⟨some (N, 0), Lib.countB s t + 1⟩)], ?_, hq _ _ (Ext.new hi) ⟨by simp [strs, hlen], .inr ?_⟩, r1, r2⟩
    · refine ⟨_, _, rfl, Nat.le_refl _, .inl ⟨_, Rho.put_same .., rfl, ?_⟩⟩
      simp [hlen]
    · show (h.set N _).read N 0 ((Lib.countB s t + 1) * 1) = _
      rw [read_block (Heap.set_same ..) (by simp [strs, hlen])]
      simp [strs, hlen]
      exact List.take_of_length_le (by simp [hlen])
  · obtain ⟨vs⟩ := vs
    match vs, hvs with
    | [v0], ⟨h0, _⟩ =>
      obtain rfl : v0 = .string s := h0
      have hcall := Any.utf8_ValidString (ρ := valid216_ren) valid216 s w (by omega) (hx.tabs hr)
      refine .inl ⟨⟨_, Tryz.func107, by kernel_rfl, by kernel_rfl⟩, ?_⟩
      exact Calls.mono hcall fun e w' ⟨he, hb⟩ => ⟨_, he, ρ, h, [boo _], (show _ = _ from rfl), hq, hr.kept hb, Fr.kept hb⟩
/-- What the laws of conditions stand on. -/
theorem libI {I : Calls} (hI : Closed' Tryz.prog Pm I) : LibI I (fun h => MaxIn 0 h ∧ U8In 1 2 h) where
  ext e x := ⟨x.1.ext e, x.2.ext e⟩
  valid hT hs hQ := hI.prim _ _ _ _ (.inr (.inr (.inr ⟨rfl, _, rfl, hs, hT.2, hQ⟩)))
  cut hT hs hQ := hI.prim _ _ _ _ (.inr (.inl ⟨rfl, _, _, rfl, hs, hT.1, hQ⟩))
  split hT hs h1 hQ := hI.prim _ _ _ _ (.inr (.inr (.inl ⟨rfl, _, _, rfl, hs, h1, hT.1, hQ⟩)))
  has hT hs hQ := hI.prim _ _ _ _ (.inl ⟨rfl, _, _, rfl, hs, hT.1, hQ⟩)
end Go.Proofs.YtadakbmoanbcgaaGreatDoorVc
