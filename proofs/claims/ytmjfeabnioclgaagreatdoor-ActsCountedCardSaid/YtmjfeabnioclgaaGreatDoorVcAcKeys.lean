/- maps.Keys and slices.Sorted: the library's contracts, laid at this program; the two primitives. -/
import Derived.Shelf.SlGeneric
import Derived.Shelf.SlIter.Nil
import Derived.Shelf.SortM.Plain
import Derived.Shelf.SortM.SortNone
import Derived.Ground.GgzProg
import Derived.Ground.SlgmProg
import Derived.StringKeys
import Derived.Test.YtmjfeabnioclgaaGreatDoorProg
import Derived.Test.YtmjfeabnioclgaaGreatDoorVcStPrim
import Derived.Test.YtmjfeabnioclgaaGreatDoorVcPrims
set_option linter.unusedVariables false
set_option linter.unusedSimpArgs false
namespace Go.Proofs.YtmjfeabnioclgaaGreatDoorVc
open Go.Proofs Go.RowKit Go.Maps Go.Sort Go.Shelf
def keys28_ren : Go.Shelf.Ren := ⟨fun | 7 => 28 | 10 => 47 | n => n, fun | 23 => 64 | 26 => 9 | 3 => 65 | 28 => 70 | 0 => 0 | 27 => 69 | 33 => 93 | 4 => 4 | n => n, fun | n => n⟩
theorem keys28 : Go.Proofs.SlLaysZ.n7 Tryz.prog keys28_ren := {
  mixed := by kernel_rfl
  f7 := ⟨Tryz.f28.name, by decide, Tryz.func28.trans (congrArg some (by kernel_rfl))⟩
  f10 := ⟨Tryz.f47.name, by decide, Tryz.func47.trans (congrArg some (by kernel_rfl))⟩
  t0 := Tryz.underlying0
  a0 := Tryz.isAgg0
  z0 := Tryz.sizeOf0
  v0 := Tryz.zeroValue0
  t4 := Tryz.underlying4
  a4 := Tryz.isAgg4
  z4 := Tryz.sizeOf4
  v4 := Tryz.zeroValue4
  t23 := Tryz.underlying64
  a23 := Tryz.isAgg64
  z23 := Tryz.sizeOf64
  v23 := Tryz.zeroValue64
  t26 := Tryz.underlying9
  a26 := Tryz.isAgg9
  z26 := Tryz.sizeOf9
  v26 := Tryz.zeroValue9
  t27 := Tryz.underlying69
  a27 := Tryz.isAgg69
  z27 := Tryz.sizeOf69
  v27 := Tryz.zeroValue69
  t28 := Tryz.underlying70
  a28 := Tryz.isAgg70
  z28 := Tryz.sizeOf70
  v28 := Tryz.zeroValue70
  t33 := Tryz.underlying93
  a33 := Tryz.isAgg93
  z33 := Tryz.sizeOf93
  v33 := Tryz.zeroValue93 }
def sorted27_ren : Go.Shelf.Ren := ⟨fun | 6 => 27 | 8 => 45 | 9 => 46 | 11 => 63 | 13 => 53 | 12 => 64 | 23 => 74 | 24 => 75 | 14 => 79 | 15 => 80 | 16 => 81 | 17 => 82 | 18 => 83 | 19 => 84 | 20 => 85 | 21 => 86 | 22 => 87 | 25 => 95 | 26 => 91 | 27 => 92 | 28 => 96 | 29 => 97 | 30 => 98 | 31 => 101 | n => n, fun | 26 => 9 | 28 => 70 | 24 => 67 | 0 => 0 | 3 => 3 | 37 => 101 | 48 => 115 | 50 => 117 | 4 => 4 | 40 => 109 | 39 => 108 | 45 => 60 | 5 => 5 | 9 => 9 | 51 => 126 | 55 => 76 | 57 => 134 | 58 => 135 | 33 => 93 | n => n, fun | n => n⟩
theorem sorted27 : Go.Proofs.SlLaysZ.n6 Tryz.prog sorted27_ren := {
  mixed := by kernel_rfl
  f6 := ⟨Tryz.f27.name, by decide, Tryz.func27.trans (congrArg some (by kernel_rfl))⟩
  f8 := ⟨Tryz.f45.name, by decide, Tryz.func45.trans (congrArg some (by kernel_rfl))⟩
  f11 := ⟨Tryz.f63.name, by decide, Tryz.func63.trans (congrArg some (by kernel_rfl))⟩
  t0 := Tryz.underlying0
  a0 := Tryz.isAgg0
  z0 := Tryz.sizeOf0
  v0 := Tryz.zeroValue0
  t24 := Tryz.underlying67
  a24 := Tryz.isAgg67
  z24 := Tryz.sizeOf67
  v24 := Tryz.zeroValue67
  t26 := Tryz.underlying9
  a26 := Tryz.isAgg9
  z26 := Tryz.sizeOf9
  v26 := Tryz.zeroValue9
  t28 := Tryz.underlying70
  a28 := Tryz.isAgg70
  z28 := Tryz.sizeOf70
  v28 := Tryz.zeroValue70
  i26 := by kernel_rfl }
def sort46_ren : Go.Shelf.Ren := ⟨fun | 6 => 46 | 8 => 53 | 9 => 64 | 19 => 74 | 20 => 75 | 21 => 79 | 22 => 80 | 23 => 81 | 24 => 82 | 25 => 83 | 26 => 84 | 27 => 85 | 28 => 86 | 29 => 87 | 36 => 95 | 31 => 91 | 32 => 92 | 37 => 96 | 38 => 97 | 39 => 98 | 41 => 101 | n => n, fun | 27 => 67 | 29 => 9 | 3 => 3 | 32 => 101 | 26 => 67 | 0 => 0 | 44 => 115 | 46 => 117 | 4 => 4 | 36 => 109 | 35 => 108 | 41 => 60 | 5 => 5 | 9 => 9 | 53 => 126 | 57 => 76 | 63 => 134 | 64 => 135 | n => n, fun | n => n⟩
theorem sort46 : Go.Proofs.SlLaysM.n6 Tryz.prog sort46_ren := {
  mixed := by kernel_rfl
  f6 := ⟨Tryz.f46.name, by decide, Tryz.func46.trans (congrArg some (by kernel_rfl))⟩
  f8 := Tryz.func53.trans (congrArg some (by kernel_rfl))
  f9 := ⟨Tryz.f64.name, by decide, Tryz.func64.trans (congrArg some (by kernel_rfl))⟩
  f19 := Tryz.func74.trans (congrArg some (by kernel_rfl))
  f20 := Tryz.func75.trans (congrArg some (by kernel_rfl))
  f21 := ⟨Tryz.f79.name, by decide, Tryz.func79.trans (congrArg some (by kernel_rfl))⟩
  f22 := ⟨Tryz.f80.name, by decide, Tryz.func80.trans (congrArg some (by kernel_rfl))⟩
  f23 := ⟨Tryz.f81.name, by decide, Tryz.func81.trans (congrArg some (by kernel_rfl))⟩
  f24 := ⟨Tryz.f82.name, by decide, Tryz.func82.trans (congrArg some (by kernel_rfl))⟩
  f25 := ⟨Tryz.f83.name, by decide, Tryz.func83.trans (congrArg some (by kernel_rfl))⟩
  f26 := ⟨Tryz.f84.name, by decide, Tryz.func84.trans (congrArg some (by kernel_rfl))⟩
  f27 := ⟨Tryz.f85.name, by decide, Tryz.func85.trans (congrArg some (by kernel_rfl))⟩
  f28 := ⟨Tryz.f86.name, by decide, Tryz.func86.trans (congrArg some (by kernel_rfl))⟩
  f29 := ⟨Tryz.f87.name, by decide, Tryz.func87.trans (congrArg some (by kernel_rfl))⟩
  f31 := Tryz.func91.trans (congrArg some (by kernel_rfl))
  f32 := Tryz.func92.trans (congrArg some (by kernel_rfl))
  f36 := ⟨Tryz.f95.name, by decide, Tryz.func95.trans (congrArg some (by kernel_rfl))⟩
  f37 := ⟨Tryz.f96.name, by decide, Tryz.func96.trans (congrArg some (by kernel_rfl))⟩
  f38 := ⟨Tryz.f97.name, by decide, Tryz.func97.trans (congrArg some (by kernel_rfl))⟩
  f39 := ⟨Tryz.f98.name, by decide, Tryz.func98.trans (congrArg some (by kernel_rfl))⟩
  f41 := ⟨Tryz.f101.name, by decide, Tryz.func101.trans (congrArg some (by kernel_rfl))⟩
  t0 := Tryz.underlying0
  a0 := Tryz.isAgg0
  z0 := Tryz.sizeOf0
  v0 := Tryz.zeroValue0
  t3 := Tryz.underlying3
  a3 := Tryz.isAgg3
  z3 := Tryz.sizeOf3
  v3 := Tryz.zeroValue3
  t4 := Tryz.underlying4
  a4 := Tryz.isAgg4
  z4 := Tryz.sizeOf4
  v4 := Tryz.zeroValue4
  t5 := Tryz.underlying5
  a5 := Tryz.isAgg5
  z5 := Tryz.sizeOf5
  v5 := Tryz.zeroValue5
  t9 := Tryz.underlying9
  a9 := Tryz.isAgg9
  z9 := Tryz.sizeOf9
  v9 := Tryz.zeroValue9
  t26 := Tryz.underlying67
  a26 := Tryz.isAgg67
  z26 := Tryz.sizeOf67
  v26 := Tryz.zeroValue67
  t27 := Tryz.underlying67
  a27 := Tryz.isAgg67
  z27 := Tryz.sizeOf67
  v27 := Tryz.zeroValue67
  t29 := Tryz.underlying9
  a29 := Tryz.isAgg9
  z29 := Tryz.sizeOf9
  v29 := Tryz.zeroValue9
  t32 := Tryz.underlying101
  a32 := Tryz.isAgg101
  z32 := Tryz.sizeOf101
  v32 := Tryz.zeroValue101
  t35 := Tryz.underlying108
  a35 := Tryz.isAgg108
  z35 := Tryz.sizeOf108
  v35 := Tryz.zeroValue108
  t36 := Tryz.underlying109
  a36 := Tryz.isAgg109
  z36 := Tryz.sizeOf109
  v36 := Tryz.zeroValue109
  t41 := Tryz.underlying60
  a41 := Tryz.isAgg60
  z41 := Tryz.sizeOf60
  v41 := Tryz.zeroValue60
  t44 := Tryz.underlying115
  a44 := Tryz.isAgg115
  z44 := Tryz.sizeOf115
  v44 := Tryz.zeroValue115
  t46 := Tryz.underlying117
  a46 := Tryz.isAgg117
  z46 := Tryz.sizeOf117
  v46 := Tryz.zeroValue117
  t53 := Tryz.underlying126
  a53 := Tryz.isAgg126
  z53 := Tryz.sizeOf126
  v53 := Tryz.zeroValue126
  t57 := Tryz.underlying76
  a57 := Tryz.isAgg76
  z57 := Tryz.sizeOf76
  v57 := Tryz.zeroValue76
  t63 := Tryz.underlying134
  a63 := Tryz.isAgg134
  z63 := Tryz.sizeOf134
  v63 := Tryz.zeroValue134
  t64 := Tryz.underlying135
  a64 := Tryz.isAgg135
  z64 := Tryz.sizeOf135
  v64 := Tryz.zeroValue135 }
theorem sorts27 (m : Nat) : AnyZ.SortsIn Tryz.prog sorted27_ren Fence.wide m :=
  ⟨fun blk off cap ss W hH hblk hsz => callsIn_wide.2 (AnyM.slices_Sort_string sort46 blk off cap ss W hH hblk hsz),
   fun p cap W => callsIn_wide.2 (AnyM.slices_Sort_string_none sort46 p cap W)⟩
theorem keysP_sound : Sound Tryz.prog (KeysPrim 28 47) := by
  rintro f args Q h ⟨rfl, m, rfl, hm, hq⟩ ρ w vs hr hvs
  obtain ⟨vs⟩ := vs
  match vs, hvs with
  | [v0], ⟨h0, _⟩ =>
    obtain ⟨l, hl, rfl⟩ : ∃ l, ρ m = some l ∧ v0 = .map (some l.block) := h0
    have hcall := callsIn_wide.1 (AnyZ.keys_in keys28 Fence.wide 5 trivial rfl (some l.block) w)
    obtain ⟨i, hi, hρ⟩ := hr.pick
    obtain ⟨hr2, fr2⟩ := hr.new (i := i) (o := .pin (.map (some m))) (ob := .cells #[.map (some l.block)] 64) (n := 1) hi hρ (fun ρ' hle => ⟨rfl, _, _, _, rfl, l, hle _ _ hl, rfl⟩)
    refine .inl ⟨⟨_, Tryz.func28, by kernel_rfl, by kernel_rfl⟩, Calls.mono hcall ?_⟩
    rintro e w' ⟨rfl, rfl⟩
    refine ⟨_, rfl, _, _, [.one (.func (some (47, [(i, 0)])))], ?_, hq i hi, hr2, fr2⟩
    exact ⟨#[.pointer (some ⟨w.heap.size, 0, none⟩)], rfl, ⟨⟨w.heap.size, 0, 1⟩, Rho.put_same _ _ _, rfl⟩, trivial⟩
theorem toB_bl (l : List UInt8) : bl (⟨l.toArray⟩ : ByteArray) = l := by simp [bl]
theorem bl_toB (s : ByteArray) : (⟨(bl s).toArray⟩ : ByteArray) = s := by simp [bl]
theorem keys_read {ρ : Rho} {P : Program} {k : TypeId} {R : Value → Option (DataW Unit × List MemPlace)} (hk : P.underlying k = some .string) (hR : ∀ v, R v = some (.nil, [])) :
    ∀ {es : List (V × V)} {ms : List MapEntry} {ks : List ByteArray}, EsR ρ es ms → es.map (·.1) = keyVs ks → (∀ k ∈ ks, k.size ≤ 1000) → (∀ x ∈ ms, ∃ y, WideElems.rd P k R x = some y) ∧ (ms.map (WideElems.rg P k R)).map (fun p => strOf p.1) = ks.map bl
  | [], [], [], _, _, _ => ⟨by simp, rfl⟩
  | p :: es, m :: ms, s :: ks, ⟨⟨h1, h2⟩, h3⟩, he, hs => by
    simp only [List.map_cons, keyVs, List.cons.injEq] at he
    obtain ⟨h4, h5⟩ := keys_read hk hR h3 (show es.map (·.1) = keyVs ks from he.2) (fun k hk => hs k (by simp [hk]))
    rw [he.1] at h1
    have h6 : m.key = .string s := h1
    have h7 : s.size ≤ maxLen := by have := hs s (by simp); unfold maxLen; omega
    have h8 : WideElems.rd P k R m = some (.string (bl s), .nil) := by
      unfold WideElems.rd
      rw [h6, Go.WideMaps.keyOf_string_mk hk h7, hR]
      rfl
    refine ⟨fun x hx => ?_, ?_⟩
    · rcases List.mem_cons.1 hx with rfl | hx
      · exact ⟨_, h8⟩
      · exact h4 x hx
    · simp only [List.map_cons] at h5 ⊢
      rw [h5]
      congr 1
      unfold WideElems.rg
      rw [h8]
      rfl
  | [], _ :: _, _, h, _, _ => h.elim
  | _ :: _, [], _, h, _, _ => h.elim
  | _ :: _, _ :: _, [], _, he, _ => by simp [keyVs] at he
  | [], [], _ :: _, _, he, _ => by simp [keyVs] at he
theorem sortedP_sound : Sound Tryz.prog (SortedPrim 27 47) := by
  rintro f args Q h ⟨rfl, i, m, es, ks, rfl, hi, hm, hk, hlen, hsz, hq⟩ ρ w vs hr hvs
  obtain ⟨vs⟩ := vs
  match vs, hvs with
  | [v0], ⟨h0, _⟩ =>
    obtain ⟨us, rfl, hus⟩ : ∃ us : Array Value, v0 = .func (.func 47) #[] us ∧ PtrsR ρ [(i, 0)] us.toList := h0
    obtain ⟨us⟩ := us
    match us, hus with
    | [u], ⟨⟨l, hl, hu⟩, _⟩ =>
      obtain rfl : u = .pointer (some ⟨l.block, l.base + 0, none⟩) := hu
      obtain ⟨ob, hob, hb0, v, e, fz, rfl, hv⟩ := hr.live i _ l hi hl
      obtain ⟨lm, hlm, rfl⟩ : ∃ lm, ρ m = some lm ∧ v = .map (some lm.block) := hv
      obtain ⟨obm, hobm, ms, clock, rfl, hms, hst⟩ := hr.live m _ lm hm hlm
      rw [hb0]
      obtain ⟨R, hR⟩ : ∃ R : Value → Option (DataW Unit × List MemPlace), ∀ v, R v = some (.nil, []) := ⟨fun _ => some (.nil, []), fun _ => rfl⟩
      obtain ⟨hrd, hrk⟩ := keys_read (P := Tryz.prog) (k := 9) (R := R) Tryz.underlying9 hR hms hk hsz
      have hml : ms.toList.length = ks.length := by have := congrArg List.length hrk; simpa using this
      have hms2 : ms.size = ks.length := by rw [← hml]; simp
      have hown : w.ownsMap Tryz.prog 9 R lm.block ms.size (.map ((ms.toList.map (WideElems.rg Tryz.prog 9 R)).foldr DataW.insert [])) :=
        ⟨ms, clock, hobm, ⟨by unfold maxLen; omega, hst, hrd⟩, Nat.le_refl _, rfl⟩
      have hsize : Maps.size (DataW.map ((ms.toList.map (WideElems.rg Tryz.prog 9 R)).foldr DataW.insert []) : DataW Unit) = ks.length := by
        simp [Maps.size, length_sorted, hms2]
      have hcell : w.cell? ⟨l.block, 0, none⟩ = some (.map (some lm.block)) := by
        rw [cell_at hob]; rfl
      have hseq := AnyZ.keys_gives (ρ := keys28_ren) { keys28 with } Fence.wide (5 - 1 - 1 - 1) trivial rfl (by omega) l.block lm.block ms.size _ w (hr.dom _ _ hl) hcell hown
      have hcall := callsIn_wide.1 (AnyZ.sorted_in sorted27 Fence.wide 5 trivial trivial trivial trivial rfl (by omega) (sorts27 _) (enters_of Tryz.func46 (by kernel_rfl) rfl) 47 #[.pointer (some ⟨l.block, 0, none⟩)] trivial (enters_of Tryz.func47 (by kernel_rfl) rfl) _ _ (by rw [hsize]; unfold maxLen; omega) (by rw [hsize]; omega) _ hseq)
      refine .inl ⟨⟨_, Tryz.func27, by kernel_rfl, by kernel_rfl⟩, Calls.mono hcall ?_⟩
      rintro e' w' ⟨v, ss, rfl, hperm, hrow, _, hb⟩
      refine ⟨v, rfl, ?_⟩
      have hp2 : ss.Perm (ks.map bl) := by
        refine hperm.trans ?_
        rw [← hrk]
        exact (Go.WideShapes.sorted_perm _).map _
      obtain ⟨tt, htt⟩ : ∃ tt, ss.mergeSort (fun x y => decide (x ≤ y)) = tt := ⟨_, rfl⟩
      have htp : tt.Perm ss := htt ▸ List.mergeSort_perm _ _
      have hts : tt.Pairwise (fun a b => a ≤ b) := by
        rw [← htt]
        have := List.pairwise_mergeSort (le := fun (x y : List UInt8) => decide (x ≤ y)) (fun a b c h1 h2 => by simp only [decide_eq_true_eq] at *; exact List.le_trans h1 h2) (fun a b => by simp only [Bool.or_eq_true, decide_eq_true_eq]; exact List.le_total a b) ss
        exact this.imp fun h => by simpa using h
      rw [htt] at hrow
      have hlt : tt.length = ss.length := htp.length_eq
      have hq2 := fun s' h' => hq s' (tt.map fun l => ⟨l.toArray⟩) h' (by
        have h1 := (htp.trans hp2).map (fun l : List UInt8 => (⟨l.toArray⟩ : ByteArray))
        rw [List.map_map] at h1
        have h2 : ks.map ((fun l : List UInt8 => (⟨l.toArray⟩ : ByteArray)) ∘ bl) = ks := by
          conv => rhs; rw [← List.map_id ks]
          exact List.map_congr_left fun s _ => bl_toB s
        rw [h2] at h1; exact h1) (by
        rw [List.pairwise_map]
        exact hts.imp fun h => by rw [toB_bl, toB_bl]; exact h)
      rw [List.map_map] at hq2
      obtain ⟨hol, how⟩ := hrow
      rcases how with ⟨rfl, hz⟩ | ⟨g, cap, cur, rfl, hge, hg, hnc, hcm, hcz, htk⟩
      · have : tt = [] := List.length_eq_zero_iff.1 (by omega)
        subst this
        exact ⟨ρ, h, [.one (.slice 1 ⟨none, 0⟩)], ⟨rfl, rfl⟩, hq2 _ _ (Own.nil _ _), hr.kept hb, Fr.kept hb⟩
      · obtain ⟨j, hj, hρj⟩ := hr.pick
        obtain ⟨hr2, fr2⟩ := HR.named (cs := tt.map (Cell.str ∘ fun l => ⟨l.toArray⟩)) hr hb hj hρj hge hg (by simp; omega) (fun ρ' hle => by
          rw [List.length_map, hlt, ← Nat.mul_one ss.length, htk]
          refine CRs.of_get (by simp) fun k c v hc hv => ?_
          rw [List.getElem?_map] at hc hv
          cases hx : tt[k]? with
          | none => rw [hx] at hc; cases hc
          | some x => rw [hx] at hc hv; cases hc; cases hv; rfl)
        refine ⟨_, _, [.one (.slice 1 ⟨some (j, 0), ss.length⟩)], ?_, hq2 _ _ ⟨Ext.new hj, by simp [hlt], .inr ⟨j, rfl, hj, set_eq _ _ _⟩⟩, hr2, fr2⟩
        exact ⟨_, cap, rfl, hnc, .inl ⟨_, Rho.put_same _ _ _, by simp, by simp [hcz]⟩⟩
end Go.Proofs.YtmjfeabnioclgaaGreatDoorVc
