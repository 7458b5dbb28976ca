/- Four functions of Go's library: the library's contracts, laid at this program; the primitives that the laws of conditions stand on. -/
import Derived.Shelf.Strings.Shaped
import Derived.Shelf.Strings.SplitShaped
import Derived.Shelf.Unicode.ValidAny
import Derived.Test.YteldpijfienopaaGreatDoorProg
import Derived.Test.YteldpijfienopaaGreatDoorVcPrims
import Derived.Test.YteldpijfienopaaGreatDoorVcRsTabs
set_option linter.unusedVariables false
set_option linter.unusedSimpArgs false
namespace Go.Proofs.YteldpijfienopaaGreatDoorVc
open Go.Proofs Go.RowKit Go.Shelf
def has103_ren : Go.Shelf.Ren := ⟨fun | 144 => 103 | 143 => 156 | 219 => 208 | 217 => 212 | 225 => 243 | 224 => 244 | 267 => 245 | 266 => 246 | 314 => 263 | n => n, fun | 9 => 9 | 4 => 4 | 3 => 3 | 5 => 5 | 46 => 125 | 146 => 211 | 51 => 208 | n => n, fun | 1 => 0 | n => n⟩
theorem has103 : Go.Proofs.LaysM.n144 Tryz.prog has103_ren := {
  mixed := by kernel_rfl
  f143 := Tryz.func156.trans (congrArg some (by kernel_rfl))
  f144 := Tryz.func103.trans (congrArg some (by kernel_rfl))
  f217 := Tryz.func212.trans (congrArg some (by kernel_rfl))
  f219 := Tryz.func208.trans (congrArg some (by kernel_rfl))
  f224 := Tryz.func244.trans (congrArg some (by kernel_rfl))
  f225 := Tryz.func243.trans (congrArg some (by kernel_rfl))
  f266 := Tryz.func246.trans (congrArg some (by kernel_rfl))
  f267 := Tryz.func245.trans (congrArg some (by kernel_rfl))
  f314 := Tryz.func263.trans (congrArg some (by kernel_rfl))
  t3 := Tryz.underlying3
  a3 := Tryz.isAgg3
  z3 := Tryz.sizeOf3
  v3 := Tryz.zeroValue3
  t4 := Tryz.underlying4
  a4 := Tryz.isAgg4
  z4 := Tryz.sizeOf4
  v4 := Tryz.zeroValue4
  t5 := Tryz.underlying5
  a5 := Tryz.isAgg5
  z5 := Tryz.sizeOf5
  v5 := Tryz.zeroValue5
  t9 := Tryz.underlying9
  a9 := Tryz.isAgg9
  z9 := Tryz.sizeOf9
  v9 := Tryz.zeroValue9
  t46 := Tryz.underlying125
  a46 := Tryz.isAgg125
  z46 := Tryz.sizeOf125
  v46 := Tryz.zeroValue125
  t51 := Tryz.underlying208
  a51 := Tryz.isAgg208
  z51 := Tryz.sizeOf208
  v51 := Tryz.zeroValue208
  t146 := Tryz.underlying211
  a146 := Tryz.isAgg211
  z146 := Tryz.sizeOf211
  v146 := Tryz.zeroValue211
  g1 := by kernel_rfl
  i3 := by kernel_rfl
  i4 := by kernel_rfl
  i5 := by kernel_rfl
  i9 := by kernel_rfl
  i46 := by kernel_rfl
  i51 := by kernel_rfl
  i146 := by kernel_rfl
  m1 := by kernel_rfl
  s1_3 := fun w h => Go.Proofs.cell_of_shapedOpen_int (zero := #[.int .i64 0]) (t := 3) h (of_decide_eq_true (by kernel_rfl)) (by kernel_rfl) rfl (by kernel_rfl) (by kernel_rfl) Tryz.underlying3 }
def cut202_ren : Go.Shelf.Ren := ⟨fun | 145 => 202 | 220 => 239 | 219 => 208 | 217 => 212 | 225 => 243 | 224 => 244 | 267 => 245 | 266 => 246 | 314 => 263 | n => n, fun | 9 => 9 | 4 => 4 | 59 => 223 | 3 => 3 | 5 => 5 | 46 => 125 | 146 => 211 | 51 => 208 | n => n, fun | 1 => 0 | n => n⟩
theorem cut202 : Go.Proofs.LaysM.n145 Tryz.prog cut202_ren := {
  mixed := by kernel_rfl
  f145 := Tryz.func202.trans (congrArg some (by kernel_rfl))
  f217 := Tryz.func212.trans (congrArg some (by kernel_rfl))
  f219 := Tryz.func208.trans (congrArg some (by kernel_rfl))
  f220 := Tryz.func239.trans (congrArg some (by kernel_rfl))
  f224 := Tryz.func244.trans (congrArg some (by kernel_rfl))
  f225 := Tryz.func243.trans (congrArg some (by kernel_rfl))
  f266 := Tryz.func246.trans (congrArg some (by kernel_rfl))
  f267 := Tryz.func245.trans (congrArg some (by kernel_rfl))
  f314 := Tryz.func263.trans (congrArg some (by kernel_rfl))
  t3 := Tryz.underlying3
  a3 := Tryz.isAgg3
  z3 := Tryz.sizeOf3
  v3 := Tryz.zeroValue3
  t4 := Tryz.underlying4
  a4 := Tryz.isAgg4
  z4 := Tryz.sizeOf4
  v4 := Tryz.zeroValue4
  t5 := Tryz.underlying5
  a5 := Tryz.isAgg5
  z5 := Tryz.sizeOf5
  v5 := Tryz.zeroValue5
  t9 := Tryz.underlying9
  a9 := Tryz.isAgg9
  z9 := Tryz.sizeOf9
  v9 := Tryz.zeroValue9
  t46 := Tryz.underlying125
  a46 := Tryz.isAgg125
  z46 := Tryz.sizeOf125
  v46 := Tryz.zeroValue125
  t51 := Tryz.underlying208
  a51 := Tryz.isAgg208
  z51 := Tryz.sizeOf208
  v51 := Tryz.zeroValue208
  t59 := Tryz.underlying223
  a59 := Tryz.isAgg223
  z59 := Tryz.sizeOf223
  v59 := Tryz.zeroValue223
  t146 := Tryz.underlying211
  a146 := Tryz.isAgg211
  z146 := Tryz.sizeOf211
  v146 := Tryz.zeroValue211
  g1 := by kernel_rfl
  i3 := by kernel_rfl
  i4 := by kernel_rfl
  i5 := by kernel_rfl
  i9 := by kernel_rfl
  i46 := by kernel_rfl
  i51 := by kernel_rfl
  i59 := by kernel_rfl
  i146 := by kernel_rfl
  m1 := by kernel_rfl
  s1_3 := fun w h => Go.Proofs.cell_of_shapedOpen_int (zero := #[.int .i64 0]) (t := 3) h (of_decide_eq_true (by kernel_rfl)) (by kernel_rfl) rfl (by kernel_rfl) (by kernel_rfl) Tryz.underlying3 }
def split203_ren : Go.Shelf.Ren := ⟨fun | 146 => 203 | 221 => 240 | 268 => 261 | 138 => 262 | 143 => 156 | 195 => 272 | 197 => 201 | 218 => 273 | 219 => 208 | 260 => 238 | 217 => 212 | 225 => 243 | 224 => 244 | 267 => 245 | 266 => 246 | 314 => 263 | n => n, fun | 9 => 9 | 31 => 68 | 3 => 3 | 4 => 4 | 0 => 0 | 105 => 220 | 21 => 21 | 5 => 5 | 46 => 125 | 119 => 251 | 139 => 254 | 138 => 253 | 146 => 211 | 51 => 208 | n => n, fun | 1 => 0 | 3 => 1 | 4 => 2 | n => n⟩
theorem split203 : Go.Proofs.LaysM.n146 Tryz.prog split203_ren := {
  mixed := by kernel_rfl
  f138 := Tryz.func262.trans (congrArg some (by kernel_rfl))
  f143 := Tryz.func156.trans (congrArg some (by kernel_rfl))
  f146 := Tryz.func203.trans (congrArg some (by kernel_rfl))
  f195 := Tryz.func272.trans (congrArg some (by kernel_rfl))
  f197 := Tryz.func201.trans (congrArg some (by kernel_rfl))
  f217 := Tryz.func212.trans (congrArg some (by kernel_rfl))
  f218 := Tryz.func273.trans (congrArg some (by kernel_rfl))
  f219 := Tryz.func208.trans (congrArg some (by kernel_rfl))
  f221 := Tryz.func240.trans (congrArg some (by kernel_rfl))
  f224 := Tryz.func244.trans (congrArg some (by kernel_rfl))
  f225 := Tryz.func243.trans (congrArg some (by kernel_rfl))
  f260 := Tryz.func238.trans (congrArg some (by kernel_rfl))
  f266 := Tryz.func246.trans (congrArg some (by kernel_rfl))
  f267 := Tryz.func245.trans (congrArg some (by kernel_rfl))
  f268 := Tryz.func261.trans (congrArg some (by kernel_rfl))
  f314 := Tryz.func263.trans (congrArg some (by kernel_rfl))
  t0 := Tryz.underlying0
  a0 := Tryz.isAgg0
  z0 := Tryz.sizeOf0
  v0 := Tryz.zeroValue0
  t3 := Tryz.underlying3
  a3 := Tryz.isAgg3
  z3 := Tryz.sizeOf3
  v3 := Tryz.zeroValue3
  t4 := Tryz.underlying4
  a4 := Tryz.isAgg4
  z4 := Tryz.sizeOf4
  v4 := Tryz.zeroValue4
  t5 := Tryz.underlying5
  a5 := Tryz.isAgg5
  z5 := Tryz.sizeOf5
  v5 := Tryz.zeroValue5
  t9 := Tryz.underlying9
  a9 := Tryz.isAgg9
  z9 := Tryz.sizeOf9
  v9 := Tryz.zeroValue9
  t21 := Tryz.underlying21
  a21 := Tryz.isAgg21
  z21 := Tryz.sizeOf21
  v21 := Tryz.zeroValue21
  t31 := Tryz.underlying68
  a31 := Tryz.isAgg68
  z31 := Tryz.sizeOf68
  v31 := Tryz.zeroValue68
  t46 := Tryz.underlying125
  a46 := Tryz.isAgg125
  z46 := Tryz.sizeOf125
  v46 := Tryz.zeroValue125
  t51 := Tryz.underlying208
  a51 := Tryz.isAgg208
  z51 := Tryz.sizeOf208
  v51 := Tryz.zeroValue208
  t105 := Tryz.underlying220
  a105 := Tryz.isAgg220
  z105 := Tryz.sizeOf220
  v105 := Tryz.zeroValue220
  t119 := Tryz.underlying251
  a119 := Tryz.isAgg251
  z119 := Tryz.sizeOf251
  t138 := Tryz.underlying253
  a138 := Tryz.isAgg253
  z138 := Tryz.sizeOf253
  v138 := Tryz.zeroValue253
  t139 := Tryz.underlying254
  a139 := Tryz.isAgg254
  z139 := Tryz.sizeOf254
  v139 := Tryz.zeroValue254
  t146 := Tryz.underlying211
  a146 := Tryz.isAgg211
  z146 := Tryz.sizeOf211
  v146 := Tryz.zeroValue211
  g1 := by kernel_rfl
  g3 := by kernel_rfl
  g4 := by kernel_rfl
  i0 := by kernel_rfl
  i3 := by kernel_rfl
  i4 := by kernel_rfl
  i5 := by kernel_rfl
  i9 := by kernel_rfl
  i21 := by kernel_rfl
  i31 := by kernel_rfl
  i46 := by kernel_rfl
  i51 := by kernel_rfl
  i105 := by kernel_rfl
  i138 := by kernel_rfl
  i139 := by kernel_rfl
  i146 := by kernel_rfl
  m1 := by kernel_rfl
  s1_3 := fun w h => Go.Proofs.cell_of_shapedOpen_int (zero := #[.int .i64 0]) (t := 3) h (of_decide_eq_true (by kernel_rfl)) (by kernel_rfl) rfl (by kernel_rfl) (by kernel_rfl) Tryz.underlying3
  m3 := by kernel_rfl
  m4 := by kernel_rfl }
def valid216_ren : Go.Shelf.Ren := ⟨fun | 196 => 216 | 259 => 249 | n => n, fun | 9 => 9 | 4 => 4 | 3 => 3 | 5 => 5 | 12 => 12 | 119 => 251 | 0 => 0 | 46 => 125 | 139 => 254 | 138 => 253 | 53 => 210 | n => n, fun | 3 => 1 | 4 => 2 | n => n⟩
theorem valid216 : Go.Proofs.Lays.n196 Tryz.prog valid216_ren := {
  mixed := by kernel_rfl
  f196 := Tryz.func216.trans (congrArg some (by kernel_rfl))
  f259 := Tryz.func249.trans (congrArg some (by kernel_rfl))
  t0 := Tryz.underlying0
  a0 := Tryz.isAgg0
  z0 := Tryz.sizeOf0
  v0 := Tryz.zeroValue0
  t3 := Tryz.underlying3
  a3 := Tryz.isAgg3
  z3 := Tryz.sizeOf3
  v3 := Tryz.zeroValue3
  t4 := Tryz.underlying4
  a4 := Tryz.isAgg4
  z4 := Tryz.sizeOf4
  v4 := Tryz.zeroValue4
  t5 := Tryz.underlying5
  a5 := Tryz.isAgg5
  z5 := Tryz.sizeOf5
  v5 := Tryz.zeroValue5
  t9 := Tryz.underlying9
  a9 := Tryz.isAgg9
  z9 := Tryz.sizeOf9
  v9 := Tryz.zeroValue9
  t12 := Tryz.underlying12
  a12 := Tryz.isAgg12
  z12 := Tryz.sizeOf12
  v12 := Tryz.zeroValue12
  t46 := Tryz.underlying125
  a46 := Tryz.isAgg125
  z46 := Tryz.sizeOf125
  v46 := Tryz.zeroValue125
  t53 := Tryz.underlying210
  a53 := Tryz.isAgg210
  z53 := Tryz.sizeOf210
  v53 := Tryz.zeroValue210
  t119 := Tryz.underlying251
  a119 := Tryz.isAgg251
  z119 := Tryz.sizeOf251
  t138 := Tryz.underlying253
  a138 := Tryz.isAgg253
  z138 := Tryz.sizeOf253
  v138 := Tryz.zeroValue253
  t139 := Tryz.underlying254
  a139 := Tryz.isAgg254
  z139 := Tryz.sizeOf254
  v139 := Tryz.zeroValue254
  g3 := by kernel_rfl
  g4 := by kernel_rfl }
theorem splits_len (s t : ByteArray) (h : 1 ≤ t.size) : (Lib.splitB t 0 (Lib.countB s t) s).length = Lib.countB s t + 1 := Lib.splitB_all t h 0 _ s rfl
def Pm : Prim := fun f args Q h =>
  (f = 103 ∧ ∃ s t, args = [str s, str t] ∧ s.size ≤ 1000000 ∧ MaxIn 0 h ∧ Q [boo (conS s t)] h) ∨
  (f = 202 ∧ ∃ s t, args = [str s, str t] ∧ s.size ≤ 1000000 ∧ MaxIn 0 h ∧ Q [str ⟨(Lib.cut s.data.toList t.data.toList).1.toArray⟩, str ⟨(Lib.cut s.data.toList t.data.toList).2.1.toArray⟩, boo (Lib.cut s.data.toList t.data.toList).2.2] h) ∨
  (f = 203 ∧ ∃ s t, args = [str s, str t] ∧ s.size ≤ 1000000 ∧ 1 ≤ t.size ∧ MaxIn 0 h ∧ ∀ sl h', Ext h h' → At h' 1 sl (strs (Lib.splitB t 0 (Lib.countB s t) s)) → Q [.one (.slice 1 sl)] h') ∨
  (f = 216 ∧ ∃ s, args = [str s] ∧ s.size ≤ 200 ∧ U8In 1 2 h ∧ Q [boo (validS s)] h)
theorem two_strs {ρ : Rho} {vs : Array Value} {s t : ByteArray} (h : VRs ρ [str s, str t] vs.toList) : vs = #[.string s, .string t] := by
  obtain ⟨vs⟩ := vs
  match vs, h with
  | [v0, v1], ⟨h0, h1, _⟩ =>
    obtain rfl : v0 = .string s := h0
    obtain rfl : v1 = .string t := h1
    rfl
theorem pm_sound : Sound Tryz.prog Pm := by
  rintro f args Q h (⟨rfl, s, t, rfl, hs, hx, hq⟩ | ⟨rfl, s, t, rfl, hs, hx, hq⟩ | ⟨rfl, s, t, rfl, hs, h1, hx, hq⟩ | ⟨rfl, s, rfl, hs, hx, hq⟩) ρ w vs hr hvs
  · obtain rfl := two_strs hvs
    obtain ⟨m, hm⟩ := hx.cell hr
    have hcall := Any.strings_Contains (ρ := has103_ren) { has103 with } s t m w (by omega) hm
    refine .inl ⟨⟨_, Tryz.func103, by kernel_rfl, by kernel_rfl⟩, ?_⟩
    refine Calls.mono hcall fun e w' ⟨he, hw⟩ => ⟨_, he, ρ, h, _, ?_, hq, ?_, ?_⟩
    · exact rfl
    · rw [hw]; exact hr
    · rw [hw]; exact Fr.refl _ _ _
  · obtain rfl := two_strs hvs
    obtain ⟨m, hm⟩ := hx.cell hr
    have hcall := Any.strings_Cut (ρ := cut202_ren) { cut202 with } s t m w (by omega) hm
    refine .inl ⟨⟨_, Tryz.func202, by kernel_rfl, by kernel_rfl⟩, ?_⟩
    refine Calls.mono hcall fun e w' ⟨he, n, hw⟩ => ?_
    have hb : Below w.heap.size w w' := by rw [hw]; exact (Below.refl _ _).trans ⟨rfl, rfl, rfl, Nat.le_refl _, fun _ _ => rfl⟩
    refine ⟨_, he, ρ, h, [str _, str _, boo _], ?_, hq, hr.kept hb, Fr.kept hb⟩
    exact ⟨_, rfl, rfl, rfl, rfl, trivial⟩
  · obtain rfl := two_strs hvs
    obtain ⟨m, hm⟩ := hx.cell hr
    have hcall := Any.strings_Split (ρ := split203_ren) { split203 with } split203.i9 s t m w (by omega) hm h1
    refine .inl ⟨⟨_, Tryz.func203, by kernel_rfl, by kernel_rfl⟩, ?_⟩
    refine Calls.mono hcall fun e w' ⟨he, hw⟩ => ?_
    have hb : Below w.heap.size w w' := by rw [hw]; exact (Below.refl _ _).alloc (Nat.le_refl _) _
    obtain ⟨N, hN⟩ := hr.fresh
    obtain ⟨hi, hρ⟩ := hN N (Nat.le_refl _)
    have hlen := splits_len s t h1
    have hc : w'.heap[w.heap.size]? = some (.cells ((Lib.splitB t 0 (Lib.countB s t) s).map Value.string).toArray (split203_ren.t 9) (0, 0)) := by rw [hw]; exact Array.getElem?_push_size
    obtain ⟨r1, r2⟩ := hr.named (cs := strs (Lib.splitB t 0 (Lib.countB s t) s)) hb hi hρ (Nat.le_refl _) hc (by simp [strs]) fun ρ' _ => by
      refine CRs.of_get (by simp [strs]) fun j cl v e1 e2 => ?_
      unfold strs at e1
      rw [List.getElem?_map] at e1
      simp only [List.getElem?_take, List.getElem?_map] at e2
      split at e2
      · cases ex : (Lib.splitB t 0 (Lib.countB s t) s)[j]? with
        | none => rw [ex] at e1; cases e1
        | some x =>
          rw [ex] at e1 e2
          cases e1; cases e2
          exact rfl
      · cases e2
    refine ⟨_, he, _, _, [.one (.slice 1 ⟨some (N, 0), Lib.countB s t + 1⟩)], ?_, hq _ _ (Ext.new hi) ⟨by simp [strs, hlen], .inr ?_⟩, r1, r2⟩
    · refine ⟨_, _, rfl, Nat.le_refl _, .inl ⟨_, Rho.put_same .., rfl, ?_⟩⟩
      simp [hlen]
    · show (h.set N _).read N 0 ((Lib.countB s t + 1) * 1) = _
      rw [read_block (Heap.set_same ..) (by simp [strs, hlen])]
      simp [strs, hlen]
      exact List.take_of_length_le (by simp [hlen])
  · obtain ⟨vs⟩ := vs
    match vs, hvs with
    | [v0], ⟨h0, _⟩ =>
      obtain rfl : v0 = .string s := h0
      have hcall := Any.utf8_ValidString (ρ := valid216_ren) valid216 s w (by omega) (hx.tabs hr)
      refine .inl ⟨⟨_, Tryz.func216, by kernel_rfl, by kernel_rfl⟩, ?_⟩
      exact Calls.mono hcall fun e w' ⟨he, hb⟩ => ⟨_, he, ρ, h, [boo _], (show _ = _ from rfl), hq, hr.kept hb, Fr.kept hb⟩
/-- What the laws of conditions stand on. -/
theorem libI {I : Calls} (hI : Closed' Tryz.prog Pm I) : LibI I (fun h => MaxIn 0 h ∧ U8In 1 2 h) where
  ext e x := ⟨x.1.ext e, x.2.ext e⟩
  valid hT hs hQ := hI.prim _ _ _ _ (.inr (.inr (.inr ⟨rfl, _, rfl, hs, hT.2, hQ⟩)))
  cut hT hs hQ := hI.prim _ _ _ _ (.inr (.inl ⟨rfl, _, _, rfl, hs, hT.1, hQ⟩))
  split hT hs h1 hQ := hI.prim _ _ _ _ (.inr (.inr (.inl ⟨rfl, _, _, rfl, hs, h1, hT.1, hQ⟩)))
  has hT hs hQ := hI.prim _ _ _ _ (.inl ⟨rfl, _, _, rfl, hs, hT.1, hQ⟩)
end Go.Proofs.YteldpijfienopaaGreatDoorVc
