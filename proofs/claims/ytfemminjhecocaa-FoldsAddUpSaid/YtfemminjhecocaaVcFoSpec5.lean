/- Contract: Fold. -/
import Derived.Test.YtfemminjhecocaaVcFoSpec4
set_option linter.unusedSimpArgs false
set_option linter.unusedVariables false
namespace Go.Proofs.YtfemminjhecocaaVc
open Go.Proofs.Try (prog)
section
variable {I : Calls} {Q : Post} {h : Heap}
theorem pc_inj {p : Cel} {k : List ByteArray} {m c : Int} (h : pc p = (k, m, c)) : p.keys = k ∧ p.many = m ∧ p.cents = c := by
  unfold pc at h
  simp only [Prod.mk.injEq] at h
  exact ⟨h.1, h.2.1, h.2.2⟩
theorem spec11 (hI : Closed' prog Pm I) {s t : Sl} {xs : List Cel} {keep : List Int} (hx : Cels h s xs) (hkp : At h 1 t (ints keep)) (hl : xs.length < 1000000) (hk : ∀ x ∈ xs, x.keys.length < 1000000) (hkl : keep.length < 1000)
    (he : errF xs keep ≠ 0 → Q [sls 3 ⟨none, 0⟩, int (errF xs keep)] h)
    (hf : ∀ h' out, Ext h h' → errF xs keep = 0 → FoldOf xs keep out → (out.any fun c => !fullB c) = true → Q [sls 3 ⟨none, 0⟩, int 12] h')
    (hok : ∀ h' s' out, Ext h h' → errF xs keep = 0 → FoldOf xs keep out → (out.any fun c => !fullB c) = false → Cels h' s' out → New h s' → (∀ c ∈ out, New h c.kl) → Q [sls 3 s', int 0] h') :
    I 11 [sls 3 s, sls 1 t] Q h := by
  refine hI.go _ _ (den11 I s t Q) ?_
  refine spec27 hI hx hl hk ⟨_, rfl, ?_⟩
  refine ifT_intro (fun h1 => ?_) fun h1 => ?_
  · have h2 := nd h1
    have e : errF xs keep = errC xs := by unfold errF; rw [if_pos h2]
    have := he (by rw [e]; exact h2)
    rw [e] at this; exact this
  have hC : errC xs = 0 := Decidable.of_not_not (nd' h1)
  have eF : errF xs keep = scanK (dimN xs) none keep := by unfold errF; rw [if_neg (by rw [hC]; decide)]
  have hlen : xs.length ≤ 2000 := by
    unfold errC at hC
    split at hC
    · cases hC
    · omega
  have hsc : ∀ c ∈ xs, c.keys.length = dimN xs ∧ dimN xs ≤ 6 ∧ (c.keys.any fun s => !isKey s) = false ∧ fullB c = true := by
    unfold errC at hC
    rw [if_neg (by omega)] at hC
    exact scanC_ok hC
  have hd6 : dimN xs ≤ 6 := by
    cases xs with
    | nil => exact Nat.le_refl _
    | cons c l => exact (hsc c (by simp)).2.1
  have ls := hx.len
  have lt : t.len = keep.length := by have := hkp.1; simpa [ints] using this
  refine joinK_intro (fun (n : Int) h' => h' = h ∧ n = dimN xs) ?_ fun jk hjk => ifT_dec (fun h2 => ?_) fun h2 => hjk _ _ ⟨rfl, ?_⟩
  case refine_2 =>
    cases xs with
    | nil => simp at ls; omega
    | cons c l =>
      refine ⟨⟨by omega, by omega⟩, hx.at_.rowCell celC_length (by decide) (i := 0) (j := 0) (c := .slice 1 c.kl) (by simp) rfl fun bb o hr => ⟨c.kl, by simpa using hr, hjk _ _ ⟨rfl, ?_⟩⟩⟩
      rw [strs_len (hx.keys c (by simp))]
      rfl
  case refine_3 =>
    have : xs = [] := List.length_eq_zero_iff.1 (by omega)
    subst this; rfl
  rintro n g ⟨rfl, rfl⟩
  refine loopK_intro (fun (n : Int) h' m => h' = g ∧ ∃ i : Nat, i ≤ keep.length ∧ n = i ∧ keep.length - i = m ∧ scanK (dimN xs) none keep = scanK (dimN xs) (pvK keep i) (keep.drop i)) keep.length ⟨rfl, 0, by omega, rfl, rfl, rfl⟩ ?_
  rintro n h' m ⟨rfl, i, hi, rfl, rfl, hs⟩
  refine ifT_dec (fun hlt => ⟨⟨by omega, hlt⟩, ?_⟩) fun hge => ?_
  · have hc := List.getElem?_eq_getElem (show i < keep.length by omega)
    generalize keep[i] = k at hc
    rw [scanK_at hc] at hs
    have fin : ∀ e : Int, errK1 (dimN xs) (pvK keep i) k = e → e ≠ 0 → Q [sls 3 ⟨none, 0⟩, int e] h' := fun e h3 h4 => by
      have e5 : errF xs keep = e := by rw [eF, hs, if_pos (by rw [h3]; exact h4), h3]
      have := he (by rw [e5]; exact h4)
      rw [e5] at this; exact this
    refine hkp.cell (ints_get hc) fun bb o hr => ⟨k, hr, ?_⟩
    have ew : IntKind.i64.wrap (((dimN xs : Nat) : Int) - 1) = (dimN xs : Int) - 1 := by rw [w64] <;> omega
    rw [ew]
    have e2 : (decide (0 ≤ k) && decide (k ≤ (dimN xs : Int) - 1)) = decide (0 ≤ k ∧ k ≤ (dimN xs : Int) - 1) := by simp
    refine spec22 hI ⟨_, rfl, ?_⟩
    rw [e2]
    refine ifT_intro (fun h3 => fin 1 (by unfold errK1; rw [if_pos (nd h3)]) (by decide)) fun h3 => ?_
    have h3' := nd' h3
    have hnext : errK1 (dimN xs) (pvK keep i) k = 0 → (∃ m', m' < keep.length - i ∧ h' = h' ∧ ∃ i' : Nat, i' ≤ keep.length ∧ IntKind.i64.wrap ((i : Int) + 1) = (i' : Int) ∧ keep.length - i' = m' ∧ scanK (dimN xs) none keep = scanK (dimN xs) (pvK keep i') (keep.drop i')) := fun h0 => by
      rw [if_neg (by rw [h0]; decide)] at hs
      exact ⟨keep.length - (i + 1), by omega, rfl, i + 1, by omega, by rw [w64] <;> omega, rfl, hs⟩
    refine ifT_dec (fun h4 => ?_) fun h4 => hnext ?_
    · have ew2 : IntKind.i64.wrap ((i : Int) - 1) = ((i - 1 : Nat) : Int) := by rw [w64] <;> omega
      rw [ew2]
      have hc1 := List.getElem?_eq_getElem (show i - 1 < keep.length by omega)
      generalize keep[i - 1] = k1 at hc1
      have hpv : pvK keep i = some k1 := by unfold pvK; rw [if_neg (by omega), hc1]
      refine ⟨⟨by omega, by omega⟩, hkp.cell (ints_get hc1) fun bb o hr => ⟨k1, hr, ifT_dec (fun h5 => fin 7 ?_ (by decide)) fun h5 => hnext ?_⟩⟩
      · unfold errK1; rw [if_neg h3', hpv]; exact if_pos h5
      · unfold errK1; rw [if_neg h3', hpv]; exact if_neg h5
    · have : i = 0 := by omega
      subst this
      unfold errK1; rw [if_neg h3']; rfl
  · have : i = keep.length := by omega
    subst this
    rw [List.drop_length] at hs
    have e0 : errF xs keep = 0 := by rw [eF, hs]; rfl
    have hK : scanK (dimN xs) none keep = 0 := by rw [← eF, e0]
    refine fold_part hI hx hkp hlen hkl (fun c hc k hkm => by rw [(hsc c hc).1]; exact scanK_ok hK k hkm) fun a ps L g o hps hkeys => ?_
    have hpl : ps.length = xs.length := by have := congrArg List.length hps; simpa using this
    have hpp : ∀ p ∈ ps, ∃ x ∈ xs, p.keys = prK keep x ∧ p.many = x.many ∧ p.cents = x.cents := fun p hp => by
      have h1 : pc p ∈ ps.map pc := List.mem_map_of_mem hp
      rw [hps, List.mem_map] at h1
      obtain ⟨x, hxm, h2⟩ := h1
      exact ⟨x, hxm, pc_inj h2.symm⟩
    have hkp6 : ∀ p ∈ ps, p.keys.length < 1000000 := fun p hp => by
      obtain ⟨x, _, h1, _⟩ := hpp p hp
      rw [h1]; unfold prK; rw [List.length_map]; omega
    refine spec28 hI o (by omega) (fun p hp => ⟨hkp6 p hp, hkeys p hp⟩) fun Z g2 hperm hpw o2 => ⟨rfl, ?_⟩
    have hZ : ∀ p ∈ Z, p ∈ ps := fun p hp => hperm.mem_iff.1 hp
    refine sum_part hI o2 (by rw [hperm.length_eq, hpl]; exact hlen) (fun p hp => hkeys p (hZ p hp)) (fun p hp => hkp6 p (hZ p hp)) (fun p hp => ?_) fun s' g3 o3 => ?_
    · obtain ⟨x, hxm, _, h2, h3⟩ := hpp p (hZ p hp)
      have := fullB_iff.1 (hsc x hxm).2.2.2
      refine ⟨⟨by omega, by omega⟩, by omega, by omega⟩
    · have hfo : FoldOf xs keep (mergeC Z) := ⟨ps, Z, hps, hperm, hpw, rfl⟩
      have hml : (mergeC Z).length ≤ xs.length := hfo.facts.2.2.2.2.1
      have hcm : ∀ c ∈ mergeC Z, (1, c.kl, strs c.keys) ∈ L := fun c hc => by
        rcases foldC_mem hc with ⟨y, hy, h1, h2⟩ | ⟨x, hx, _⟩
        · rw [h1, h2]; exact hkeys y (hZ y hy)
        · cases hx
      refine spec32 hI (o3.at_ List.mem_cons_self) (by omega) ⟨_, rfl, ifT_intro (fun h5 => hf g3 _ o3.ext e0 hfo h5) fun h5 => hok g3 s' _ o3.ext e0 hfo h5 ⟨o3.at_ List.mem_cons_self, fun c hc => o3.at_ (sz := 1) (s := c.kl) (cs := strs c.keys) (by simp [hcm c hc])⟩ (o3.new_ List.mem_cons_self) fun c hc => o3.new_ (sz := 1) (cs := strs c.keys) (by simp [hcm c hc])⟩
end
end Go.Proofs.YtfemminjhecocaaVc
