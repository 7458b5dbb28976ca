/- maps.Keys and slices.Sorted: the library's contracts, laid at this program; the two primitives. -/
import Derived.Shelf.SlGeneric
import Derived.Shelf.SlIter.Nil
import Derived.Shelf.SortM.Plain
import Derived.Shelf.SortM.SortNone
import Derived.Ground.GgzProg
import Derived.Ground.SlgmProg
import Derived.StringKeys
import Derived.Test.YtfemminjhecocaaProg
import Derived.Test.YtfemminjhecocaaVcStPrim
import Derived.Test.YtfemminjhecocaaVcPrims
set_option linter.unusedVariables false
set_option linter.unusedSimpArgs false
namespace Go.Proofs.YtfemminjhecocaaVc
open Go.Proofs Go.RowKit Go.Maps Go.Sort Go.Shelf
def keys25_ren : Go.Shelf.Ren := ⟨fun | 7 => 25 | 10 => 40 | n => n, fun | 23 => 62 | 26 => 9 | 3 => 63 | 28 => 67 | 0 => 0 | 27 => 66 | 33 => 84 | 4 => 4 | n => n, fun | n => n⟩
theorem keys25 : Go.Proofs.SlLaysZ.n7 Try.prog keys25_ren := {
  mixed := by kernel_rfl
  f7 := ⟨Try.f25.name, by decide, Try.func25.trans (congrArg some (by kernel_rfl))⟩
  f10 := ⟨Try.f40.name, by decide, Try.func40.trans (congrArg some (by kernel_rfl))⟩
  t0 := Try.underlying0
  a0 := Try.isAgg0
  z0 := Try.sizeOf0
  v0 := Try.zeroValue0
  t4 := Try.underlying4
  a4 := Try.isAgg4
  z4 := Try.sizeOf4
  v4 := Try.zeroValue4
  t23 := Try.underlying62
  a23 := Try.isAgg62
  z23 := Try.sizeOf62
  v23 := Try.zeroValue62
  t26 := Try.underlying9
  a26 := Try.isAgg9
  z26 := Try.sizeOf9
  v26 := Try.zeroValue9
  t27 := Try.underlying66
  a27 := Try.isAgg66
  z27 := Try.sizeOf66
  v27 := Try.zeroValue66
  t28 := Try.underlying67
  a28 := Try.isAgg67
  z28 := Try.sizeOf67
  v28 := Try.zeroValue67
  t33 := Try.underlying84
  a33 := Try.isAgg84
  z33 := Try.sizeOf84
  v33 := Try.zeroValue84 }
def sorted24_ren : Go.Shelf.Ren := ⟨fun | 6 => 24 | 8 => 38 | 9 => 39 | 11 => 52 | 13 => 54 | 12 => 53 | 23 => 70 | 24 => 71 | 14 => 61 | 15 => 62 | 16 => 63 | 17 => 64 | 18 => 65 | 19 => 66 | 20 => 67 | 21 => 68 | 22 => 69 | 25 => 73 | 26 => 74 | 27 => 75 | 28 => 76 | 29 => 77 | 30 => 60 | 31 => 79 | n => n, fun | 26 => 9 | 28 => 67 | 24 => 44 | 0 => 0 | 3 => 3 | 37 => 99 | 48 => 115 | 50 => 100 | 4 => 4 | 40 => 108 | 39 => 107 | 45 => 58 | 5 => 5 | 9 => 9 | 51 => 117 | 55 => 85 | 57 => 122 | 58 => 123 | 33 => 84 | n => n, fun | n => n⟩
theorem sorted24 : Go.Proofs.SlLaysZ.n6 Try.prog sorted24_ren := {
  mixed := by kernel_rfl
  f6 := ⟨Try.f24.name, by decide, Try.func24.trans (congrArg some (by kernel_rfl))⟩
  f8 := ⟨Try.f38.name, by decide, Try.func38.trans (congrArg some (by kernel_rfl))⟩
  f11 := ⟨Try.f52.name, by decide, Try.func52.trans (congrArg some (by kernel_rfl))⟩
  t0 := Try.underlying0
  a0 := Try.isAgg0
  z0 := Try.sizeOf0
  v0 := Try.zeroValue0
  t24 := Try.underlying44
  a24 := Try.isAgg44
  z24 := Try.sizeOf44
  v24 := Try.zeroValue44
  t26 := Try.underlying9
  a26 := Try.isAgg9
  z26 := Try.sizeOf9
  v26 := Try.zeroValue9
  t28 := Try.underlying67
  a28 := Try.isAgg67
  z28 := Try.sizeOf67
  v28 := Try.zeroValue67
  i26 := by kernel_rfl }
def sort39_ren : Go.Shelf.Ren := ⟨fun | 6 => 39 | 8 => 54 | 9 => 53 | 19 => 70 | 20 => 71 | 21 => 61 | 22 => 62 | 23 => 63 | 24 => 64 | 25 => 65 | 26 => 66 | 27 => 67 | 28 => 68 | 29 => 69 | 36 => 73 | 31 => 74 | 32 => 75 | 37 => 76 | 38 => 77 | 39 => 60 | 41 => 79 | n => n, fun | 27 => 44 | 29 => 9 | 3 => 3 | 32 => 99 | 26 => 44 | 0 => 0 | 44 => 115 | 46 => 100 | 4 => 4 | 36 => 108 | 35 => 107 | 41 => 58 | 5 => 5 | 9 => 9 | 53 => 117 | 57 => 85 | 63 => 122 | 64 => 123 | n => n, fun | n => n⟩
theorem sort39 : Go.Proofs.SlLaysM.n6 Try.prog sort39_ren := {
  mixed := by kernel_rfl
  f6 := ⟨Try.f39.name, by decide, Try.func39.trans (congrArg some (by kernel_rfl))⟩
  f8 := Try.func54.trans (congrArg some (by kernel_rfl))
  f9 := ⟨Try.f53.name, by decide, Try.func53.trans (congrArg some (by kernel_rfl))⟩
  f19 := Try.func70.trans (congrArg some (by kernel_rfl))
  f20 := Try.func71.trans (congrArg some (by kernel_rfl))
  f21 := ⟨Try.f61.name, by decide, Try.func61.trans (congrArg some (by kernel_rfl))⟩
  f22 := ⟨Try.f62.name, by decide, Try.func62.trans (congrArg some (by kernel_rfl))⟩
  f23 := ⟨Try.f63.name, by decide, Try.func63.trans (congrArg some (by kernel_rfl))⟩
  f24 := ⟨Try.f64.name, by decide, Try.func64.trans (congrArg some (by kernel_rfl))⟩
  f25 := ⟨Try.f65.name, by decide, Try.func65.trans (congrArg some (by kernel_rfl))⟩
  f26 := ⟨Try.f66.name, by decide, Try.func66.trans (congrArg some (by kernel_rfl))⟩
  f27 := ⟨Try.f67.name, by decide, Try.func67.trans (congrArg some (by kernel_rfl))⟩
  f28 := ⟨Try.f68.name, by decide, Try.func68.trans (congrArg some (by kernel_rfl))⟩
  f29 := ⟨Try.f69.name, by decide, Try.func69.trans (congrArg some (by kernel_rfl))⟩
  f31 := Try.func74.trans (congrArg some (by kernel_rfl))
  f32 := Try.func75.trans (congrArg some (by kernel_rfl))
  f36 := ⟨Try.f73.name, by decide, Try.func73.trans (congrArg some (by kernel_rfl))⟩
  f37 := ⟨Try.f76.name, by decide, Try.func76.trans (congrArg some (by kernel_rfl))⟩
  f38 := ⟨Try.f77.name, by decide, Try.func77.trans (congrArg some (by kernel_rfl))⟩
  f39 := ⟨Try.f60.name, by decide, Try.func60.trans (congrArg some (by kernel_rfl))⟩
  f41 := ⟨Try.f79.name, by decide, Try.func79.trans (congrArg some (by kernel_rfl))⟩
  t0 := Try.underlying0
  a0 := Try.isAgg0
  z0 := Try.sizeOf0
  v0 := Try.zeroValue0
  t3 := Try.underlying3
  a3 := Try.isAgg3
  z3 := Try.sizeOf3
  v3 := Try.zeroValue3
  t4 := Try.underlying4
  a4 := Try.isAgg4
  z4 := Try.sizeOf4
  v4 := Try.zeroValue4
  t5 := Try.underlying5
  a5 := Try.isAgg5
  z5 := Try.sizeOf5
  v5 := Try.zeroValue5
  t9 := Try.underlying9
  a9 := Try.isAgg9
  z9 := Try.sizeOf9
  v9 := Try.zeroValue9
  t26 := Try.underlying44
  a26 := Try.isAgg44
  z26 := Try.sizeOf44
  v26 := Try.zeroValue44
  t27 := Try.underlying44
  a27 := Try.isAgg44
  z27 := Try.sizeOf44
  v27 := Try.zeroValue44
  t29 := Try.underlying9
  a29 := Try.isAgg9
  z29 := Try.sizeOf9
  v29 := Try.zeroValue9
  t32 := Try.underlying99
  a32 := Try.isAgg99
  z32 := Try.sizeOf99
  v32 := Try.zeroValue99
  t35 := Try.underlying107
  a35 := Try.isAgg107
  z35 := Try.sizeOf107
  v35 := Try.zeroValue107
  t36 := Try.underlying108
  a36 := Try.isAgg108
  z36 := Try.sizeOf108
  v36 := Try.zeroValue108
  t41 := Try.underlying58
  a41 := Try.isAgg58
  z41 := Try.sizeOf58
  v41 := Try.zeroValue58
  t44 := Try.underlying115
  a44 := Try.isAgg115
  z44 := Try.sizeOf115
  v44 := Try.zeroValue115
  t46 := Try.underlying100
  a46 := Try.isAgg100
  z46 := Try.sizeOf100
  v46 := Try.zeroValue100
  t53 := Try.underlying117
  a53 := Try.isAgg117
  z53 := Try.sizeOf117
  v53 := Try.zeroValue117
  t57 := Try.underlying85
  a57 := Try.isAgg85
  z57 := Try.sizeOf85
  v57 := Try.zeroValue85
  t63 := Try.underlying122
  a63 := Try.isAgg122
  z63 := Try.sizeOf122
  v63 := Try.zeroValue122
  t64 := Try.underlying123
  a64 := Try.isAgg123
  z64 := Try.sizeOf123
  v64 := Try.zeroValue123 }
theorem sorts24 (m : Nat) : AnyZ.SortsIn Try.prog sorted24_ren Fence.wide m :=
  ⟨fun blk off cap ss W hH hblk hsz => callsIn_wide.2 (AnyM.slices_Sort_string sort39 blk off cap ss W hH hblk hsz),
   fun p cap W => callsIn_wide.2 (AnyM.slices_Sort_string_none sort39 p cap W)⟩
theorem keysP_sound : Sound Try.prog (KeysPrim 25 40) := by
  rintro f args Q h ⟨rfl, m, rfl, hm, hq⟩ ρ w vs hr hvs
  obtain ⟨vs⟩ := vs
  match vs, hvs with
  | [v0], ⟨h0, _⟩ =>
    obtain ⟨l, hl, rfl⟩ : ∃ l, ρ m = some l ∧ v0 = .map (some l.block) := h0
    have hcall := callsIn_wide.1 (AnyZ.keys_in keys25 Fence.wide 5 trivial rfl (some l.block) w)
    obtain ⟨i, hi, hρ⟩ := hr.pick
    obtain ⟨hr2, fr2⟩ := hr.new (i := i) (o := .pin (.map (some m))) (ob := .cells #[.map (some l.block)] 62) (n := 1) hi hρ (fun ρ' hle => ⟨rfl, _, _, _, rfl, l, hle _ _ hl, rfl⟩)
    refine .inl ⟨⟨_, Try.func25, by kernel_rfl, by kernel_rfl⟩, Calls.mono hcall ?_⟩
    rintro e w' ⟨rfl, rfl⟩
    refine ⟨_, rfl, _, _, [.one (.func (some (40, [(i, 0)])))], ?_, hq i hi, hr2, fr2⟩
    exact ⟨#[.pointer (some ⟨w.heap.size, 0, none⟩)], rfl, ⟨⟨w.heap.size, 0, 1⟩, Rho.put_same _ _ _, rfl⟩, trivial⟩
theorem toB_bl (l : List UInt8) : bl (⟨l.toArray⟩ : ByteArray) = l := by simp [bl]
theorem bl_toB (s : ByteArray) : (⟨(bl s).toArray⟩ : ByteArray) = s := by simp [bl]
theorem keys_read {ρ : Rho} {P : Program} {k : TypeId} {R : Value → Option (DataW Unit × List MemPlace)} (hk : P.underlying k = some .string) (hR : ∀ v, R v = some (.nil, [])) :
    ∀ {es : List (V × V)} {ms : List MapEntry} {ks : List ByteArray}, EsR ρ es ms → es.map (·.1) = keyVs ks → (∀ k ∈ ks, k.size ≤ 1000) → (∀ x ∈ ms, ∃ y, WideElems.rd P k R x = some y) ∧ (ms.map (WideElems.rg P k R)).map (fun p => strOf p.1) = ks.map bl
  | [], [], [], _, _, _ => ⟨by simp, rfl⟩
  | p :: es, m :: ms, s :: ks, ⟨⟨h1, h2⟩, h3⟩, he, hs => by
    simp only [List.map_cons, keyVs, List.cons.injEq] at he
    obtain ⟨h4, h5⟩ := keys_read hk hR h3 (show es.map (·.1) = keyVs ks from he.2) (fun k hk => hs k (by simp [hk]))
    rw [he.1] at h1
    have h6 : m.key = .string s := h1
    have h7 : s.size ≤ maxLen := by have := hs s (by simp); unfold maxLen; omega
    have h8 : WideElems.rd P k R m = some (.string (bl s), .nil) := by
      unfold WideElems.rd
      rw [h6, Go.WideMaps.keyOf_string_mk hk h7, hR]
      rfl
    refine ⟨fun x hx => ?_, ?_⟩
    · rcases List.mem_cons.1 hx with rfl | hx
      · exact ⟨_, h8⟩
      · exact h4 x hx
    · simp only [List.map_cons] at h5 ⊢
      rw [h5]
      congr 1
      unfold WideElems.rg
      rw [h8]
      rfl
  | [], _ :: _, _, h, _, _ => h.elim
  | _ :: _, [], _, h, _, _ => h.elim
  | _ :: _, _ :: _, [], _, he, _ => by simp [keyVs] at he
  | [], [], _ :: _, _, he, _ => by simp [keyVs] at he
theorem sortedP_sound : Sound Try.prog (SortedPrim 24 40) := by
  rintro f args Q h ⟨rfl, i, m, es, ks, rfl, hi, hm, hk, hlen, hsz, hq⟩ ρ w vs hr hvs
  obtain ⟨vs⟩ := vs
  match vs, hvs with
  | [v0], ⟨h0, _⟩ =>
    obtain ⟨us, rfl, hus⟩ : ∃ us : Array Value, v0 = .func (.func 40) #[] us ∧ PtrsR ρ [(i, 0)] us.toList := h0
    obtain ⟨us⟩ := us
    match us, hus with
    | [u], ⟨⟨l, hl, hu⟩, _⟩ =>
      obtain rfl : u = .pointer (some ⟨l.block, l.base + 0, none⟩) := hu
      obtain ⟨ob, hob, hb0, v, e, fz, rfl, hv⟩ := hr.live i _ l hi hl
      obtain ⟨lm, hlm, rfl⟩ : ∃ lm, ρ m = some lm ∧ v = .map (some lm.block) := hv
      obtain ⟨obm, hobm, ms, clock, rfl, hms, hst⟩ := hr.live m _ lm hm hlm
      rw [hb0]
      obtain ⟨R, hR⟩ : ∃ R : Value → Option (DataW Unit × List MemPlace), ∀ v, R v = some (.nil, []) := ⟨fun _ => some (.nil, []), fun _ => rfl⟩
      obtain ⟨hrd, hrk⟩ := keys_read (P := Try.prog) (k := 9) (R := R) Try.underlying9 hR hms hk hsz
      have hml : ms.toList.length = ks.length := by have := congrArg List.length hrk; simpa using this
      have hms2 : ms.size = ks.length := by rw [← hml]; simp
      have hown : w.ownsMap Try.prog 9 R lm.block ms.size (.map ((ms.toList.map (WideElems.rg Try.prog 9 R)).foldr DataW.insert [])) :=
        ⟨ms, clock, hobm, ⟨by unfold maxLen; omega, hst, hrd⟩, Nat.le_refl _, rfl⟩
      have hsize : Maps.size (DataW.map ((ms.toList.map (WideElems.rg Try.prog 9 R)).foldr DataW.insert []) : DataW Unit) = ks.length := by
        simp [Maps.size, length_sorted, hms2]
      have hcell : w.cell? ⟨l.block, 0, none⟩ = some (.map (some lm.block)) := by
        rw [cell_at hob]; rfl
      have hseq := AnyZ.keys_gives (ρ := keys25_ren) { keys25 with } Fence.wide (5 - 1 - 1 - 1) trivial rfl (by omega) l.block lm.block ms.size _ w (hr.dom _ _ hl) hcell hown
      have hcall := callsIn_wide.1 (AnyZ.sorted_in sorted24 Fence.wide 5 trivial trivial trivial trivial rfl (by omega) (sorts24 _) (enters_of Try.func39 (by kernel_rfl) rfl) 40 #[.pointer (some ⟨l.block, 0, none⟩)] trivial (enters_of Try.func40 (by kernel_rfl) rfl) _ _ (by rw [hsize]; unfold maxLen; omega) (by rw [hsize]; omega) _ hseq)
      refine .inl ⟨⟨_, Try.func24, by kernel_rfl, by kernel_rfl⟩, Calls.mono hcall ?_⟩
      rintro e' w' ⟨v, ss, rfl, hperm, hrow, _, hb⟩
      refine ⟨v, rfl, ?_⟩
      have hp2 : ss.Perm (ks.map bl) := by
        refine hperm.trans ?_
        rw [← hrk]
        exact (Go.WideShapes.sorted_perm _).map _
      obtain ⟨tt, htt⟩ : ∃ tt, ss.mergeSort (fun x y => decide (x ≤ y)) = tt := ⟨_, rfl⟩
      have htp : tt.Perm ss := htt ▸ List.mergeSort_perm _ _
      have hts : tt.Pairwise (fun a b => a ≤ b) := by
        rw [← htt]
        have := List.pairwise_mergeSort (le := fun (x y : List UInt8) => decide (x ≤ y)) (fun a b c h1 h2 => by simp only [decide_eq_true_eq] at *; exact List.le_trans h1 h2) (fun a b => by simp only [Bool.or_eq_true, decide_eq_true_eq]; exact List.le_total a b) ss
        exact this.imp fun h => by simpa using h
      rw [htt] at hrow
      have hlt : tt.length = ss.length := htp.length_eq
      have hq2 := fun s' h' => hq s' (tt.map fun l => ⟨l.toArray⟩) h' (by
        have h1 := (htp.trans hp2).map (fun l : List UInt8 => (⟨l.toArray⟩ : ByteArray))
        rw [List.map_map] at h1
        have h2 : ks.map ((fun l : List UInt8 => (⟨l.toArray⟩ : ByteArray)) ∘ bl) = ks := by
          conv => rhs; rw [← List.map_id ks]
          exact List.map_congr_left fun s _ => bl_toB s
        rw [h2] at h1; exact h1) (by
        rw [List.pairwise_map]
        exact hts.imp fun h => by rw [toB_bl, toB_bl]; exact h)
      rw [List.map_map] at hq2
      obtain ⟨hol, how⟩ := hrow
      rcases how with ⟨rfl, hz⟩ | ⟨g, cap, cur, rfl, hge, hg, hnc, hcm, hcz, htk⟩
      · have : tt = [] := List.length_eq_zero_iff.1 (by omega)
        subst this
        exact ⟨ρ, h, [.one (.slice 1 ⟨none, 0⟩)], ⟨rfl, rfl⟩, hq2 _ _ (Own.nil _ _), hr.kept hb, Fr.kept hb⟩
      · obtain ⟨j, hj, hρj⟩ := hr.pick
        obtain ⟨hr2, fr2⟩ := HR.named (cs := tt.map (Cell.str ∘ fun l => ⟨l.toArray⟩)) hr hb hj hρj hge hg (by simp; omega) (fun ρ' hle => by
          rw [List.length_map, hlt, ← Nat.mul_one ss.length, htk]
          refine CRs.of_get (by simp) fun k c v hc hv => ?_
          rw [List.getElem?_map] at hc hv
          cases hx : tt[k]? with
          | none => rw [hx] at hc; cases hc
          | some x => rw [hx] at hc hv; cases hc; cases hv; rfl)
        refine ⟨_, _, [.one (.slice 1 ⟨some (j, 0), ss.length⟩)], ?_, hq2 _ _ ⟨Ext.new hj, by simp [hlt], .inr ⟨j, rfl, hj, set_eq _ _ _⟩⟩, hr2, fr2⟩
        exact ⟨_, cap, rfl, hnc, .inl ⟨_, Rho.put_same _ _ _, by simp, by simp [hcz]⟩⟩
end Go.Proofs.YtfemminjhecocaaVc
