/- slices.Sort of a row of ints: the library's contract, laid at this program; a primitive. -/
import Derived.Shelf.Sort.Plain
import Derived.Shelf.Slices.In.SortNone
import Derived.Test.YteldpijfienopaaGreatDoorProg
import Derived.Test.YteldpijfienopaaGreatDoorVcPrims
import Derived.Test.YteldpijfienopaaGreatDoorVcTuS
import Derived.Test.YteldpijfienopaaGreatDoorVcRsPrim
set_option linter.unusedVariables false
set_option linter.unusedSimpArgs false
namespace Go.Proofs.YteldpijfienopaaGreatDoorVc
open Go.Proofs Go.RowKit Go.Shelf
def sort86_ren : Go.Shelf.Ren := ⟨fun | 189 => 86 | 125 => 124 | 257 => 123 | 128 => 191 | 129 => 192 | 294 => 182 | 295 => 183 | 296 => 184 | 297 => 185 | 298 => 186 | 299 => 187 | 216 => 188 | 300 => 189 | 301 => 190 | 328 => 223 | 329 => 224 | 330 => 225 | 331 => 226 | 332 => 227 | 215 => 106 | 343 => 255 | n => n, fun | 28 => 22 | 3 => 3 | 46 => 125 | 0 => 0 | 51 => 208 | 53 => 210 | 4 => 4 | 183 => 201 | 182 => 200 | 131 => 143 | 5 => 5 | 9 => 9 | 218 => 232 | 222 => 236 | 228 => 255 | 229 => 131 | n => n, fun | n => n⟩
theorem sort86 : Go.Proofs.Lays.n189 Tryz.prog sort86_ren := {
  mixed := by kernel_rfl
  f125 := Tryz.func124.trans (congrArg some (by kernel_rfl))
  f128 := Tryz.func191.trans (congrArg some (by kernel_rfl))
  f129 := Tryz.func192.trans (congrArg some (by kernel_rfl))
  f189 := Tryz.func86.trans (congrArg some (by kernel_rfl))
  f215 := Tryz.func106.trans (congrArg some (by kernel_rfl))
  f216 := Tryz.func188.trans (congrArg some (by kernel_rfl))
  f257 := Tryz.func123.trans (congrArg some (by kernel_rfl))
  f294 := Tryz.func182.trans (congrArg some (by kernel_rfl))
  f295 := Tryz.func183.trans (congrArg some (by kernel_rfl))
  f296 := Tryz.func184.trans (congrArg some (by kernel_rfl))
  f297 := Tryz.func185.trans (congrArg some (by kernel_rfl))
  f298 := Tryz.func186.trans (congrArg some (by kernel_rfl))
  f299 := Tryz.func187.trans (congrArg some (by kernel_rfl))
  f300 := Tryz.func189.trans (congrArg some (by kernel_rfl))
  f301 := Tryz.func190.trans (congrArg some (by kernel_rfl))
  f328 := Tryz.func223.trans (congrArg some (by kernel_rfl))
  f329 := Tryz.func224.trans (congrArg some (by kernel_rfl))
  f330 := Tryz.func225.trans (congrArg some (by kernel_rfl))
  f331 := Tryz.func226.trans (congrArg some (by kernel_rfl))
  f332 := Tryz.func227.trans (congrArg some (by kernel_rfl))
  f343 := Tryz.func255.trans (congrArg some (by kernel_rfl))
  t0 := Tryz.underlying0
  a0 := Tryz.isAgg0
  z0 := Tryz.sizeOf0
  v0 := Tryz.zeroValue0
  t3 := Tryz.underlying3
  a3 := Tryz.isAgg3
  z3 := Tryz.sizeOf3
  v3 := Tryz.zeroValue3
  t4 := Tryz.underlying4
  a4 := Tryz.isAgg4
  z4 := Tryz.sizeOf4
  v4 := Tryz.zeroValue4
  t5 := Tryz.underlying5
  a5 := Tryz.isAgg5
  z5 := Tryz.sizeOf5
  v5 := Tryz.zeroValue5
  t9 := Tryz.underlying9
  a9 := Tryz.isAgg9
  z9 := Tryz.sizeOf9
  v9 := Tryz.zeroValue9
  t28 := Tryz.underlying22
  a28 := Tryz.isAgg22
  z28 := Tryz.sizeOf22
  v28 := Tryz.zeroValue22
  t46 := Tryz.underlying125
  a46 := Tryz.isAgg125
  z46 := Tryz.sizeOf125
  v46 := Tryz.zeroValue125
  t51 := Tryz.underlying208
  a51 := Tryz.isAgg208
  z51 := Tryz.sizeOf208
  v51 := Tryz.zeroValue208
  t53 := Tryz.underlying210
  a53 := Tryz.isAgg210
  z53 := Tryz.sizeOf210
  v53 := Tryz.zeroValue210
  t131 := Tryz.underlying143
  a131 := Tryz.isAgg143
  z131 := Tryz.sizeOf143
  v131 := Tryz.zeroValue143
  t182 := Tryz.underlying200
  a182 := Tryz.isAgg200
  z182 := Tryz.sizeOf200
  v182 := Tryz.zeroValue200
  t183 := Tryz.underlying201
  a183 := Tryz.isAgg201
  z183 := Tryz.sizeOf201
  v183 := Tryz.zeroValue201
  t218 := Tryz.underlying232
  a218 := Tryz.isAgg232
  z218 := Tryz.sizeOf232
  v218 := Tryz.zeroValue232
  t222 := Tryz.underlying236
  a222 := Tryz.isAgg236
  z222 := Tryz.sizeOf236
  v222 := Tryz.zeroValue236
  t228 := Tryz.underlying255
  a228 := Tryz.isAgg255
  z228 := Tryz.sizeOf255
  v228 := Tryz.zeroValue255
  t229 := Tryz.underlying131
  a229 := Tryz.isAgg131
  z229 := Tryz.sizeOf131
  v229 := Tryz.zeroValue131 }
/-- slices.Sort of a row of ints that is one's own, or of none. -/
def SortPrim (f0 : FuncId) : Prim := fun f args Q h => f = f0 ∧ ((∃ (b : Nat) (zs : List Int), args = [.one (.slice 1 ⟨some (b, 0), zs.length⟩)] ∧ h b = some (.cells false (ints zs)) ∧ zs.length < 1000000 ∧ Q [] (h.set b (.cells false (ints (zs.mergeSort fun x y => decide (x ≤ y)))))) ∨ (args = [.one (.slice 1 ⟨none, 0⟩)] ∧ Q [] h))
theorem putCells_get {α : Type} [Inhabited α] (enc : α → Value) (off : Nat) (d : Array α) (c : Array Value) (k : Nat) : (Go.Sort.putCells enc off d c)[k]? = (c[k]?).map fun x => if off ≤ k ∧ k < off + d.size then enc d[k - off]! else x := by
  unfold Go.Sort.putCells
  rw [Array.getElem?_mapIdx]
theorem sortP_sound : Sound Tryz.prog (SortPrim 86) := by
  rintro f args Q h ⟨rfl, ⟨b, zs, rfl, hb, hlen, hq⟩ | ⟨rfl, hq⟩⟩ ρ w vs hr hvs
  · obtain ⟨vs⟩ := vs
    match vs, hvs with
    | [v0], ⟨h0, _⟩ =>
      obtain ⟨ad, c0, rfl, hle, h1⟩ : ∃ ad c, v0 = .slice (some ad) zs.length c ∧ zs.length ≤ c ∧ ((∃ l, ρ b = some l ∧ ad = ⟨l.block, l.base + 0, none⟩ ∧ l.base + 0 + c * 1 ≤ l.size) ∨ c = 0) := h0
      refine .inl ⟨⟨_, Tryz.func86, by kernel_rfl, by kernel_rfl⟩, ?_⟩
      by_cases hz : zs = []
      · subst hz
        have hcall := Any.slices_Sort_int_none (ρ := sort86_ren) sort86 (some ad) c0 w
        refine Calls.mono hcall ?_
        rintro e w' ⟨rfl, rfl⟩
        refine ⟨_, rfl, ρ, _, [], ⟨#[], rfl, trivial⟩, ?_, hr, Fr.refl _ _ _⟩
        have e0 : h.set b (.cells false (ints (([] : List Int).mergeSort fun x y => decide (x ≤ y)))) = h := by
          simp only [List.mergeSort_nil]
          exact set_self hb
        rw [e0] at hq
        exact hq
      have hpos : 0 < zs.length := List.length_pos_iff.2 hz
      rcases h1 with ⟨l, hl, rfl, hsz⟩ | h1
      case inr => omega
      obtain ⟨ob, h2, c, el, fz, rfl, h3, h4, h5, h6⟩ := hr.live b _ l hb hl
      have hcell : ∀ j, j < zs.length → c[l.base + j]? = some (.int .i64 (zs.getD j 0)) := fun j hj => by
        have e1 : (ints zs)[j]? = some (.int .i64 (zs.getD j 0)) := by
          refine ints_get ?_
          rw [List.getElem?_eq_getElem hj, List.getD_eq_getElem?_getD, List.getElem?_eq_getElem hj]; rfl
        obtain ⟨v, hv, hc⟩ := h5.get e1
        obtain rfl : v = .int .i64 (zs.getD j 0) := hc
        rw [List.getElem?_take, List.getElem?_drop] at hv
        split at hv
        · rw [Array.getElem?_toList] at hv; exact hv
        · cases hv
      have hil : (ints zs).length = zs.length := ints_length zs
      have hH : Go.Sort.Holds (Value.int .i64) w l.block (l.base + 0) zs.toArray := fun j hj => by
        have hj' : j < zs.length := by simpa using hj
        have h7 := hcell j hj'
        refine ⟨?_, ?_⟩
        · simp only [World.cell?, h2, Nat.add_zero]
          rw [show c[l.base + j]? = some (.int .i64 (zs.getD j 0)) from h7]
          simp [List.getD_eq_getElem?_getD, hj', Array.getElem!_eq_getD, Array.getD]
        · have h8 := h6 rfl (l.base + j) (by omega)
          simp only [World.frozen?, h2, Nat.add_zero]
          exact h8
      have hcall := Any.slices_Sort_int (ρ := sort86_ren) sort86 l.block (l.base + 0) c0 zs w hH (hr.dom b l hl) (by omega)
      refine Calls.mono hcall ?_
      rintro e w' ⟨rfl, n, os, rfl⟩
      obtain ⟨ss, hss⟩ : ∃ ss, zs.mergeSort (fun x y => decide (x ≤ y)) = ss := ⟨_, rfl⟩
      have hsl : ss.length = zs.length := by rw [← hss]; exact List.length_mergeSort _
      rw [hss] at hq ⊢
      have hlb := hr.dom b l hl
      have hput : ∀ k, (Go.Sort.putRow (Value.int .i64) (Go.Sort.ahead w n) l.block (l.base + 0) ss.toArray).heap[k]? = if l.block = k then (w.heap[k]?).map (Go.Sort.onCells (Go.Sort.putCells (Value.int .i64) (l.base + 0) ss.toArray)) else w.heap[k]? := fun k => by
        show (w.heap.modify l.block _)[k]? = _
        rw [Array.getElem?_modify]
      have hone : OneBlock w (Go.Sort.putRow (Value.int .i64) (Go.Sort.ahead w n) l.block (l.base + 0) ss.toArray) l.block c (Go.Sort.putCells (Value.int .i64) (l.base + 0) ss.toArray c) el fz := by
        refine ⟨rfl, rfl, rfl, ?_, ?_, fun k hk => ?_, ?_⟩
        · rw [Go.Sort.size_putRow]; rfl
        · rw [hput, if_pos rfl, h2]; rfl
        · rw [hput, if_neg (fun e => hk e.symm)]
        · simp [Go.Sort.putCells]
      have hcl : c.toList.length = c.size := by simp
      have hlist : (Go.Sort.putCells (Value.int .i64) (l.base + 0) ss.toArray c).toList = c.toList.take (l.base + 0) ++ ss.map (Value.int .i64) ++ c.toList.drop (l.base + 0 + (ss.map (Value.int .i64)).length) := by
        apply List.ext_getElem?
        intro k
        rw [Array.getElem?_toList, putCells_get]
        simp only [Nat.add_zero, List.length_map, List.size_toArray]
        by_cases k1 : k < l.base
        · rw [List.append_assoc, List.getElem?_append_left (by simp; omega), List.getElem?_take, if_pos k1, Array.getElem?_toList]
          cases c[k]? with
          | none => rfl
          | some x => rw [Option.map_some, if_neg (by omega)]
        · rw [List.append_assoc, List.getElem?_append_right (by simp; omega)]
          have e1 : (c.toList.take l.base).length = l.base := by simp; omega
          rw [e1]
          by_cases k2 : k < l.base + ss.length
          · rw [List.getElem?_append_left (by simp; omega), List.getElem?_map, Array.getElem?_eq_getElem (by omega), Option.map_some, if_pos ⟨by omega, k2⟩]
            rw [List.getElem?_eq_getElem (by omega), Option.map_some]
            congr 2
            rw [getElem!_pos _ _ (by simp; omega)]
            simp
          · rw [List.getElem?_append_right (by simp; omega), List.getElem?_drop, List.length_map, Array.getElem?_toList]
            rw [show l.base + ss.length + (k - l.base - ss.length) = k by omega]
            cases c[k]? with
            | none => rfl
            | some x => rw [Option.map_some, if_neg (by omega)]
      obtain ⟨r1, r2⟩ := hr.store (o := 0) (ns := ints ss) (us := ss.map (Value.int .i64)) hb hl (by rw [ints_length, ints_length]; omega) (CRs.of_get (by simp [ints]) fun j cl v e1 e2 => by
        unfold ints at e1
        rw [List.getElem?_map] at e1 e2
        cases ex : ss[j]? with
        | none => rw [ex] at e1; cases e1
        | some x => rw [ex] at e1 e2; cases e1; cases e2; exact rfl) h2 hone hlist
      have hup : updCells (ints zs) 0 (ints ss) = ints ss := by
        rw [updCells_eq _ _ _ (by rw [ints_length, ints_length]; omega)]
        unfold splice
        rw [List.take_zero, List.nil_append, ints_length, List.drop_eq_nil_of_le (by rw [ints_length]; omega), List.append_nil]
      rw [hup] at r1 r2
      generalize Go.Sort.putRow (Value.int .i64) (Go.Sort.ahead w n) l.block (l.base + 0) ss.toArray = w1 at r1 r2
      have hbel : Below w1.heap.size w1 (Go.Sort.grow w1 os) := ⟨rfl, rfl, rfl, by rw [Go.Sort.size_grow]; omega, fun k hk => Go.Sort.heap_grow_old w1 os hk⟩
      exact ⟨_, rfl, ρ, _, [], ⟨#[], rfl, trivial⟩, hq, r1.kept hbel, r2.trans (Fr.kept hbel)⟩
  · obtain ⟨vs⟩ := vs
    match vs, hvs with
    | [v0], ⟨h0, _⟩ =>
      obtain ⟨_, rfl⟩ : (0 : Nat) = 0 ∧ v0 = .slice none 0 0 := h0
      have hcall := Any.slices_Sort_int_none (ρ := sort86_ren) sort86 none 0 w
      refine .inl ⟨⟨_, Tryz.func86, by kernel_rfl, by kernel_rfl⟩, Calls.mono hcall ?_⟩
      rintro e w' ⟨rfl, rfl⟩
      exact ⟨_, rfl, ρ, h, [], ⟨#[], rfl, trivial⟩, hq, hr, Fr.refl _ _ _⟩
/-- One of two. -/
def OrPrim (p q : Prim) : Prim := fun f args Q h => p f args Q h ∨ q f args Q h
theorem or_sound {P : Program} {p q : Prim} (h1 : Sound P p) (h2 : Sound P q) : Sound P (OrPrim p q) := fun f args Q h hpq => hpq.elim (h1 f args Q h) (h2 f args Q h)
/-- .. and all that the laws of turns stand on. -/
abbrev PmT : Prim := OrPrim Pm (SortPrim 86)
theorem pmT_sound : Sound Tryz.prog PmT := or_sound pm_sound sortP_sound
theorem closedPm {I : Calls} (hI : Closed' Tryz.prog PmT I) : Closed' Tryz.prog Pm I := ⟨fun f a Q h hp => hI.prim f a Q h (.inl hp), hI.step, hI.stepD, hI.stepB⟩
theorem sortI {I : Calls} (hI : Closed' Tryz.prog PmT I) : SortI I where
  row hb hl hQ := hI.prim _ _ _ _ (.inr ⟨rfl, .inl ⟨_, _, rfl, hb, hl, hQ⟩⟩)
  none_ hQ := hI.prim _ _ _ _ (.inr ⟨rfl, .inr ⟨rfl, hQ⟩⟩)
end Go.Proofs.YteldpijfienopaaGreatDoorVc
