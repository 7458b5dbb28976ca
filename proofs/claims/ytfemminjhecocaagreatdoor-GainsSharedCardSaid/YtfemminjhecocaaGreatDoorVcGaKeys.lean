/- maps.Keys and slices.Sorted: the library's contracts, laid at this program; the two primitives. -/
import Derived.Shelf.SlGeneric
import Derived.Shelf.SlIter.Nil
import Derived.Shelf.SortM.Plain
import Derived.Shelf.SortM.SortNone
import Derived.Ground.GgzProg
import Derived.Ground.SlgmProg
import Derived.StringKeys
import Derived.Test.YtfemminjhecocaaGreatDoorProg
import Derived.Test.YtfemminjhecocaaGreatDoorVcStPrim
import Derived.Test.YtfemminjhecocaaGreatDoorVcPrims
set_option linter.unusedVariables false
set_option linter.unusedSimpArgs false
namespace Go.Proofs.YtfemminjhecocaaGreatDoorVc
open Go.Proofs Go.RowKit Go.Maps Go.Sort Go.Shelf
def keys76_ren : Go.Shelf.Ren := ⟨fun | 7 => 76 | 10 => 131 | n => n, fun | 23 => 119 | 26 => 9 | 3 => 126 | 28 => 124 | 0 => 0 | 27 => 123 | 33 => 131 | 4 => 4 | n => n, fun | n => n⟩
theorem keys76 : Go.Proofs.SlLaysZ.n7 Tryz.prog keys76_ren := {
  mixed := by kernel_rfl
  f7 := ⟨Tryz.f76.name, by decide, Tryz.func76.trans (congrArg some (by kernel_rfl))⟩
  f10 := ⟨Tryz.f131.name, by decide, Tryz.func131.trans (congrArg some (by kernel_rfl))⟩
  t0 := Tryz.underlying0
  a0 := Tryz.isAgg0
  z0 := Tryz.sizeOf0
  v0 := Tryz.zeroValue0
  t4 := Tryz.underlying4
  a4 := Tryz.isAgg4
  z4 := Tryz.sizeOf4
  v4 := Tryz.zeroValue4
  t23 := Tryz.underlying119
  a23 := Tryz.isAgg119
  z23 := Tryz.sizeOf119
  v23 := Tryz.zeroValue119
  t26 := Tryz.underlying9
  a26 := Tryz.isAgg9
  z26 := Tryz.sizeOf9
  v26 := Tryz.zeroValue9
  t27 := Tryz.underlying123
  a27 := Tryz.isAgg123
  z27 := Tryz.sizeOf123
  v27 := Tryz.zeroValue123
  t28 := Tryz.underlying124
  a28 := Tryz.isAgg124
  z28 := Tryz.sizeOf124
  v28 := Tryz.zeroValue124
  t33 := Tryz.underlying131
  a33 := Tryz.isAgg131
  z33 := Tryz.sizeOf131
  v33 := Tryz.zeroValue131 }
def sorted75_ren : Go.Shelf.Ren := ⟨fun | 6 => 75 | 8 => 129 | 9 => 130 | 11 => 182 | 13 => 118 | 12 => 183 | 23 => 166 | 24 => 167 | 14 => 219 | 15 => 220 | 16 => 221 | 17 => 222 | 18 => 223 | 19 => 224 | 20 => 225 | 21 => 226 | 22 => 227 | 25 => 252 | 26 => 212 | 27 => 213 | 28 => 253 | 29 => 254 | 30 => 205 | 31 => 273 | n => n, fun | 26 => 9 | 28 => 124 | 24 => 35 | 0 => 0 | 3 => 3 | 37 => 181 | 48 => 214 | 50 => 195 | 4 => 4 | 40 => 208 | 39 => 207 | 45 => 139 | 5 => 5 | 9 => 9 | 51 => 250 | 55 => 150 | 57 => 271 | 58 => 272 | 33 => 131 | n => n, fun | n => n⟩
theorem sorted75 : Go.Proofs.SlLaysZ.n6 Tryz.prog sorted75_ren := {
  mixed := by kernel_rfl
  f6 := ⟨Tryz.f75.name, by decide, Tryz.func75.trans (congrArg some (by kernel_rfl))⟩
  f8 := ⟨Tryz.f129.name, by decide, Tryz.func129.trans (congrArg some (by kernel_rfl))⟩
  f11 := ⟨Tryz.f182.name, by decide, Tryz.func182.trans (congrArg some (by kernel_rfl))⟩
  t0 := Tryz.underlying0
  a0 := Tryz.isAgg0
  z0 := Tryz.sizeOf0
  v0 := Tryz.zeroValue0
  t24 := Tryz.underlying35
  a24 := Tryz.isAgg35
  z24 := Tryz.sizeOf35
  v24 := Tryz.zeroValue35
  t26 := Tryz.underlying9
  a26 := Tryz.isAgg9
  z26 := Tryz.sizeOf9
  v26 := Tryz.zeroValue9
  t28 := Tryz.underlying124
  a28 := Tryz.isAgg124
  z28 := Tryz.sizeOf124
  v28 := Tryz.zeroValue124
  i26 := by kernel_rfl }
def sort130_ren : Go.Shelf.Ren := ⟨fun | 6 => 130 | 8 => 118 | 9 => 183 | 19 => 166 | 20 => 167 | 21 => 219 | 22 => 220 | 23 => 221 | 24 => 222 | 25 => 223 | 26 => 224 | 27 => 225 | 28 => 226 | 29 => 227 | 36 => 252 | 31 => 212 | 32 => 213 | 37 => 253 | 38 => 254 | 39 => 205 | 41 => 273 | n => n, fun | 27 => 35 | 29 => 9 | 3 => 3 | 32 => 181 | 26 => 35 | 0 => 0 | 44 => 214 | 46 => 195 | 4 => 4 | 36 => 208 | 35 => 207 | 41 => 139 | 5 => 5 | 9 => 9 | 53 => 250 | 57 => 150 | 63 => 271 | 64 => 272 | n => n, fun | n => n⟩
theorem sort130 : Go.Proofs.SlLaysM.n6 Tryz.prog sort130_ren := {
  mixed := by kernel_rfl
  f6 := ⟨Tryz.f130.name, by decide, Tryz.func130.trans (congrArg some (by kernel_rfl))⟩
  f8 := Tryz.func118.trans (congrArg some (by kernel_rfl))
  f9 := ⟨Tryz.f183.name, by decide, Tryz.func183.trans (congrArg some (by kernel_rfl))⟩
  f19 := Tryz.func166.trans (congrArg some (by kernel_rfl))
  f20 := Tryz.func167.trans (congrArg some (by kernel_rfl))
  f21 := ⟨Tryz.f219.name, by decide, Tryz.func219.trans (congrArg some (by kernel_rfl))⟩
  f22 := ⟨Tryz.f220.name, by decide, Tryz.func220.trans (congrArg some (by kernel_rfl))⟩
  f23 := ⟨Tryz.f221.name, by decide, Tryz.func221.trans (congrArg some (by kernel_rfl))⟩
  f24 := ⟨Tryz.f222.name, by decide, Tryz.func222.trans (congrArg some (by kernel_rfl))⟩
  f25 := ⟨Tryz.f223.name, by decide, Tryz.func223.trans (congrArg some (by kernel_rfl))⟩
  f26 := ⟨Tryz.f224.name, by decide, Tryz.func224.trans (congrArg some (by kernel_rfl))⟩
  f27 := ⟨Tryz.f225.name, by decide, Tryz.func225.trans (congrArg some (by kernel_rfl))⟩
  f28 := ⟨Tryz.f226.name, by decide, Tryz.func226.trans (congrArg some (by kernel_rfl))⟩
  f29 := ⟨Tryz.f227.name, by decide, Tryz.func227.trans (congrArg some (by kernel_rfl))⟩
  f31 := Tryz.func212.trans (congrArg some (by kernel_rfl))
  f32 := Tryz.func213.trans (congrArg some (by kernel_rfl))
  f36 := ⟨Tryz.f252.name, by decide, Tryz.func252.trans (congrArg some (by kernel_rfl))⟩
  f37 := ⟨Tryz.f253.name, by decide, Tryz.func253.trans (congrArg some (by kernel_rfl))⟩
  f38 := ⟨Tryz.f254.name, by decide, Tryz.func254.trans (congrArg some (by kernel_rfl))⟩
  f39 := ⟨Tryz.f205.name, by decide, Tryz.func205.trans (congrArg some (by kernel_rfl))⟩
  f41 := ⟨Tryz.f273.name, by decide, Tryz.func273.trans (congrArg some (by kernel_rfl))⟩
  t0 := Tryz.underlying0
  a0 := Tryz.isAgg0
  z0 := Tryz.sizeOf0
  v0 := Tryz.zeroValue0
  t3 := Tryz.underlying3
  a3 := Tryz.isAgg3
  z3 := Tryz.sizeOf3
  v3 := Tryz.zeroValue3
  t4 := Tryz.underlying4
  a4 := Tryz.isAgg4
  z4 := Tryz.sizeOf4
  v4 := Tryz.zeroValue4
  t5 := Tryz.underlying5
  a5 := Tryz.isAgg5
  z5 := Tryz.sizeOf5
  v5 := Tryz.zeroValue5
  t9 := Tryz.underlying9
  a9 := Tryz.isAgg9
  z9 := Tryz.sizeOf9
  v9 := Tryz.zeroValue9
  t26 := Tryz.underlying35
  a26 := Tryz.isAgg35
  z26 := Tryz.sizeOf35
  v26 := Tryz.zeroValue35
  t27 := Tryz.underlying35
  a27 := Tryz.isAgg35
  z27 := Tryz.sizeOf35
  v27 := Tryz.zeroValue35
  t29 := Tryz.underlying9
  a29 := Tryz.isAgg9
  z29 := Tryz.sizeOf9
  v29 := Tryz.zeroValue9
  t32 := Tryz.underlying181
  a32 := Tryz.isAgg181
  z32 := Tryz.sizeOf181
  v32 := Tryz.zeroValue181
  t35 := Tryz.underlying207
  a35 := Tryz.isAgg207
  z35 := Tryz.sizeOf207
  v35 := Tryz.zeroValue207
  t36 := Tryz.underlying208
  a36 := Tryz.isAgg208
  z36 := Tryz.sizeOf208
  v36 := Tryz.zeroValue208
  t41 := Tryz.underlying139
  a41 := Tryz.isAgg139
  z41 := Tryz.sizeOf139
  v41 := Tryz.zeroValue139
  t44 := Tryz.underlying214
  a44 := Tryz.isAgg214
  z44 := Tryz.sizeOf214
  v44 := Tryz.zeroValue214
  t46 := Tryz.underlying195
  a46 := Tryz.isAgg195
  z46 := Tryz.sizeOf195
  v46 := Tryz.zeroValue195
  t53 := Tryz.underlying250
  a53 := Tryz.isAgg250
  z53 := Tryz.sizeOf250
  v53 := Tryz.zeroValue250
  t57 := Tryz.underlying150
  a57 := Tryz.isAgg150
  z57 := Tryz.sizeOf150
  v57 := Tryz.zeroValue150
  t63 := Tryz.underlying271
  a63 := Tryz.isAgg271
  z63 := Tryz.sizeOf271
  v63 := Tryz.zeroValue271
  t64 := Tryz.underlying272
  a64 := Tryz.isAgg272
  z64 := Tryz.sizeOf272
  v64 := Tryz.zeroValue272 }
theorem sorts75 (m : Nat) : AnyZ.SortsIn Tryz.prog sorted75_ren Fence.wide m :=
  ⟨fun blk off cap ss W hH hblk hsz => callsIn_wide.2 (AnyM.slices_Sort_string sort130 blk off cap ss W hH hblk hsz),
   fun p cap W => callsIn_wide.2 (AnyM.slices_Sort_string_none sort130 p cap W)⟩
theorem keysP_sound : Sound Tryz.prog (KeysPrim 76 131) := by
  rintro f args Q h ⟨rfl, m, rfl, hm, hq⟩ ρ w vs hr hvs
  obtain ⟨vs⟩ := vs
  match vs, hvs with
  | [v0], ⟨h0, _⟩ =>
    obtain ⟨l, hl, rfl⟩ : ∃ l, ρ m = some l ∧ v0 = .map (some l.block) := h0
    have hcall := callsIn_wide.1 (AnyZ.keys_in keys76 Fence.wide 5 trivial rfl (some l.block) w)
    obtain ⟨i, hi, hρ⟩ := hr.pick
    obtain ⟨hr2, fr2⟩ := hr.new (i := i) (o := .pin (.map (some m))) (ob := .cells #[.map (some l.block)] 119) (n := 1) hi hρ (fun ρ' hle => ⟨rfl, _, _, _, rfl, l, hle _ _ hl, rfl⟩)
    refine .inl ⟨⟨_, Tryz.func76, by kernel_rfl, by kernel_rfl⟩, Calls.mono hcall ?_⟩
    rintro e w' ⟨rfl, rfl⟩
    refine ⟨_, rfl, _, _, [.one (.func (some (131, [(i, 0)])))], ?_, hq i hi, hr2, fr2⟩
    exact ⟨#[.pointer (some ⟨w.heap.size, 0, none⟩)], rfl, ⟨⟨w.heap.size, 0, 1⟩, Rho.put_same _ _ _, rfl⟩, trivial⟩
theorem toB_bl (l : List UInt8) : bl (⟨l.toArray⟩ : ByteArray) = l := by simp [bl]
theorem bl_toB (s : ByteArray) : (⟨(bl s).toArray⟩ : ByteArray) = s := by simp [bl]
theorem keys_read {ρ : Rho} {P : Program} {k : TypeId} {R : Value → Option (DataW Unit × List MemPlace)} (hk : P.underlying k = some .string) (hR : ∀ v, R v = some (.nil, [])) :
    ∀ {es : List (V × V)} {ms : List MapEntry} {ks : List ByteArray}, EsR ρ es ms → es.map (·.1) = keyVs ks → (∀ k ∈ ks, k.size ≤ 1000) → (∀ x ∈ ms, ∃ y, WideElems.rd P k R x = some y) ∧ (ms.map (WideElems.rg P k R)).map (fun p => strOf p.1) = ks.map bl
  | [], [], [], _, _, _ => ⟨by simp, rfl⟩
  | p :: es, m :: ms, s :: ks, ⟨⟨h1, h2⟩, h3⟩, he, hs => by
    simp only [List.map_cons, keyVs, List.cons.injEq] at he
    obtain ⟨h4, h5⟩ := keys_read hk hR h3 (show es.map (·.1) = keyVs ks from he.2) (fun k hk => hs k (by simp [hk]))
    rw [he.1] at h1
    have h6 : m.key = .string s := h1
    have h7 : s.size ≤ maxLen := by have := hs s (by simp); unfold maxLen; omega
    have h8 : WideElems.rd P k R m = some (.string (bl s), .nil) := by
      unfold WideElems.rd
      rw [h6, Go.WideMaps.keyOf_string_mk hk h7, hR]
      rfl
    refine ⟨fun x hx => ?_, ?_⟩
    · rcases List.mem_cons.1 hx with rfl | hx
      · exact ⟨_, h8⟩
      · exact h4 x hx
    · simp only [List.map_cons] at h5 ⊢
      rw [h5]
      congr 1
      unfold WideElems.rg
      rw [h8]
      rfl
  | [], _ :: _, _, h, _, _ => h.elim
  | _ :: _, [], _, h, _, _ => h.elim
  | _ :: _, _ :: _, [], _, he, _ => by simp [keyVs] at he
  | [], [], _ :: _, _, he, _ => by simp [keyVs] at he
theorem sortedP_sound : Sound Tryz.prog (SortedPrim 75 131) := by
  rintro f args Q h ⟨rfl, i, m, es, ks, rfl, hi, hm, hk, hlen, hsz, hq⟩ ρ w vs hr hvs
  obtain ⟨vs⟩ := vs
  match vs, hvs with
  | [v0], ⟨h0, _⟩ =>
    obtain ⟨us, rfl, hus⟩ : ∃ us : Array Value, v0 = .func (.func 131) #[] us ∧ PtrsR ρ [(i, 0)] us.toList := h0
    obtain ⟨us⟩ := us
    match us, hus with
    | [u], ⟨⟨l, hl, hu⟩, _⟩ =>
      obtain rfl : u = .pointer (some ⟨l.block, l.base + 0, none⟩) := hu
      obtain ⟨ob, hob, hb0, v, e, fz, rfl, hv⟩ := hr.live i _ l hi hl
      obtain ⟨lm, hlm, rfl⟩ : ∃ lm, ρ m = some lm ∧ v = .map (some lm.block) := hv
      obtain ⟨obm, hobm, ms, clock, rfl, hms, hst⟩ := hr.live m _ lm hm hlm
      rw [hb0]
      obtain ⟨R, hR⟩ : ∃ R : Value → Option (DataW Unit × List MemPlace), ∀ v, R v = some (.nil, []) := ⟨fun _ => some (.nil, []), fun _ => rfl⟩
      obtain ⟨hrd, hrk⟩ := keys_read (P := Tryz.prog) (k := 9) (R := R) Tryz.underlying9 hR hms hk hsz
      have hml : ms.toList.length = ks.length := by have := congrArg List.length hrk; simpa using this
      have hms2 : ms.size = ks.length := by rw [← hml]; simp
      have hown : w.ownsMap Tryz.prog 9 R lm.block ms.size (.map ((ms.toList.map (WideElems.rg Tryz.prog 9 R)).foldr DataW.insert [])) :=
        ⟨ms, clock, hobm, ⟨by unfold maxLen; omega, hst, hrd⟩, Nat.le_refl _, rfl⟩
      have hsize : Maps.size (DataW.map ((ms.toList.map (WideElems.rg Tryz.prog 9 R)).foldr DataW.insert []) : DataW Unit) = ks.length := by
        simp [Maps.size, length_sorted, hms2]
      have hcell : w.cell? ⟨l.block, 0, none⟩ = some (.map (some lm.block)) := by
        rw [cell_at hob]; rfl
      have hseq := AnyZ.keys_gives (ρ := keys76_ren) { keys76 with } Fence.wide (5 - 1 - 1 - 1) trivial rfl (by omega) l.block lm.block ms.size _ w (hr.dom _ _ hl) hcell hown
      have hcall := callsIn_wide.1 (AnyZ.sorted_in sorted75 Fence.wide 5 trivial trivial trivial trivial rfl (by omega) (sorts75 _) (enters_of Tryz.func130 (by kernel_rfl) rfl) 131 #[.pointer (some ⟨l.block, 0, none⟩)] trivial (enters_of Tryz.func131 (by kernel_rfl) rfl) _ _ (by rw [hsize]; unfold maxLen; omega) (by rw [hsize]; omega) _ hseq)
      refine .inl ⟨⟨_, Tryz.func75, by kernel_rfl, by kernel_rfl⟩, Calls.mono hcall ?_⟩
      rintro e' w' ⟨v, ss, rfl, hperm, hrow, _, hb⟩
      refine ⟨v, rfl, ?_⟩
      have hp2 : ss.Perm (ks.map bl) := by
        refine hperm.trans ?_
        rw [← hrk]
        exact (Go.WideShapes.sorted_perm _).map _
      obtain ⟨tt, htt⟩ : ∃ tt, ss.mergeSort (fun x y => decide (x ≤ y)) = tt := ⟨_, rfl⟩
      have htp : tt.Perm ss := htt ▸ List.mergeSort_perm _ _
      have hts : tt.Pairwise (fun a b => a ≤ b) := by
        rw [← htt]
        have := List.pairwise_mergeSort (le := fun (x y : List UInt8) => decide (x ≤ y)) (fun a b c h1 h2 => by simp only [decide_eq_true_eq] at *; exact List.le_trans h1 h2) (fun a b => by simp only [Bool.or_eq_true, decide_eq_true_eq]; exact List.le_total a b) ss
        exact this.imp fun h => by simpa using h
      rw [htt] at hrow
      have hlt : tt.length = ss.length := htp.length_eq
      have hq2 := fun s' h' => hq s' (tt.map fun l => ⟨l.toArray⟩) h' (by
        have h1 := (htp.trans hp2).map (fun l : List UInt8 => (⟨l.toArray⟩ : ByteArray))
        rw [List.map_map] at h1
        have h2 : ks.map ((fun l : List UInt8 => (⟨l.toArray⟩ : ByteArray)) ∘ bl) = ks := by
          conv => rhs; rw [← List.map_id ks]
          exact List.map_congr_left fun s _ => bl_toB s
        rw [h2] at h1; exact h1) (by
        rw [List.pairwise_map]
        exact hts.imp fun h => by rw [toB_bl, toB_bl]; exact h)
      rw [List.map_map] at hq2
      obtain ⟨hol, how⟩ := hrow
      rcases how with ⟨rfl, hz⟩ | ⟨g, cap, cur, rfl, hge, hg, hnc, hcm, hcz, htk⟩
      · have : tt = [] := List.length_eq_zero_iff.1 (by omega)
        subst this
        exact ⟨ρ, h, [.one (.slice 1 ⟨none, 0⟩)], ⟨rfl, rfl⟩, hq2 _ _ (Own.nil _ _), hr.kept hb, Fr.kept hb⟩
      · obtain ⟨j, hj, hρj⟩ := hr.pick
        obtain ⟨hr2, fr2⟩ := HR.named (cs := tt.map (Cell.str ∘ fun l => ⟨l.toArray⟩)) hr hb hj hρj hge hg (by simp; omega) (fun ρ' hle => by
          rw [List.length_map, hlt, ← Nat.mul_one ss.length, htk]
          refine CRs.of_get (by simp) fun k c v hc hv => ?_
          rw [List.getElem?_map] at hc hv
          cases hx : tt[k]? with
          | none => rw [hx] at hc; cases hc
          | some x => rw [hx] at hc hv; cases hc; cases hv; rfl)
        refine ⟨_, _, [.one (.slice 1 ⟨some (j, 0), ss.length⟩)], ?_, hq2 _ _ ⟨Ext.new hj, by simp [hlt], .inr ⟨j, rfl, hj, set_eq _ _ _⟩⟩, hr2, fr2⟩
        exact ⟨_, cap, rfl, hnc, .inl ⟨_, Rho.put_same _ _ _, by simp, by simp [hcz]⟩⟩
end Go.Proofs.YtfemminjhecocaaGreatDoorVc
