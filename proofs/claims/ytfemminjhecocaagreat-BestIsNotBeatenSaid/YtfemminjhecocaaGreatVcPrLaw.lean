/- PricesAddUp: the law's contract. -/
import Derived.Test.YtfemminjhecocaaGreatVcPrSpecC
set_option linter.unusedSimpArgs false
set_option linter.unusedVariables false
namespace Go.Proofs.YtfemminjhecocaaGreatVc
open Go.Proofs.Tryz (prog)
open Go.Proofs.YtfemminjhecocaaGreatShares
theorem offs_of {h0 h : Heap} {M T : List Ow} {s : Sl} {xs : List Offr} (o : Owns h0 h M) (hm : (12, s, rows offC xs) ∈ M) (ht : ∀ x ∈ xs, tgIn T x.tg x.tags) (hs : ∀ p ∈ T, p ∈ M) : Offs h s xs := ⟨o.at_ hm, fun x hx => (ht x hx).at_ o hs⟩
theorem itms_of {h0 h : Heap} {M T : List Ow} {s : Sl} {xs : List Itm} (o : Owns h0 h M) (hm : (4, s, rows itmC xs) ∈ M) (ht : ∀ x ∈ xs, tgIn T x.tg x.tags) (hs : ∀ p ∈ T, p ∈ M) : Itms h s xs := ⟨o.at_ hm, fun x hx => (ht x hx).at_ o hs⟩
theorem spec9t {I : Calls} {h : Heap} (hI : Closed' prog Pm I) {F : Bool → T} (hF : F true h) : I 9 [] (fun cs h => ∃ b : Bool, (cs = [V.one (Cell.bool b)]) ∧ F b h) h := spec9 hI ⟨_, rfl, hF⟩
section
variable {I : Calls} {h : Heap}
theorem spec3 (hI : Closed' prog Pm I) {s : Sl} {zs : List Int} (hs : At h 1 s (ints zs)) : I 3 [.one (.slice 1 s)] tru h := by
  refine hI.go _ _ (den3 I s tru) ?_
  refine newK_intro fun i2 h1 hn1 he1 => ?_
  have S0 : Strm h1 i2 s zs 0 := he1 ▸ Strm.make hs hn1
  refine spec5 hI S0 S0.owns (by decide) (by decide) (by decide) fun l6 os T1 t6 h6 o6 htg hol ht6 => ⟨l6, rfl, ?_⟩
  refine spec6 hI S0 o6 (by omega) fun l9 ship xs T2 t9 h9 o9 hti hxl ht9 => ⟨l9, ship, rfl, ?_⟩
  refine pick_lit hI S0 o9 (by omega) [0, 49, 60] (by simp) (by simp) fun t _ h10 o10 => ?_
  have of : Offs h10 l6 os := offs_of (T := T1) o10 (by simp) htg (fun p hp => by simp [hp])
  have it : Itms h10 l9 xs := itms_of (T := T2) o10 (by simp) hti (fun p hp => by simp [hp])
  have hsl : h10.sl 12 l6 = some (rows offC os) := o10.slg (by simp)
  have hol2 : os.length ≤ 4 := by omega
  refine spec8 hI of hsl (by omega) it hxl (fun h' e hb => ⟨_, _, _, _, _, rfl, ?_⟩) fun s1 s2 ws h' he e hp hw a1 a2 => ⟨_, _, _, _, _, rfl, ?_⟩
  · refine ifT_intro (fun _ => spec9 hI ⟨true, rfl, ?_⟩) fun h1 => absurd hb (nd' h1)
    simp [tru]
  refine ifT_intro (fun h1 => absurd rfl (nd h1)) fun _ => ?_
  obtain ⟨hA1, hA2, hA3⟩ := errA_ok (errP_A he)
  obtain ⟨hO1, hO2⟩ := errO_ok hA1
  obtain ⟨hK1, hK2, hK3, hK4⟩ := errK_ok hA2
  obtain ⟨sh, hsh⟩ := Int.eq_ofNat_of_zero_le hK3
  subst hsh
  rw [Int.toNat_natCast] at a1 a2 ⊢
  have hll : (lines0 xs).length = xs.length := by simp [lines0]
  obtain ⟨hu1, hu2, hu3, hu4⟩ := applyAll_under (items := xs) ws (lines0 xs) sh [] (fun o ho => hO2 o (hp.mem_iff.1 ho)) hll
  have hl0 := lines0_le hK2
  have hr1 := under_le hu1 hl0
  have hr0 : (applyAll xs ws (lines0 xs) sh []).1.length = xs.length := hu1.1.trans hll
  obtain ⟨r, hr⟩ : ∃ r, applyAll xs ws (lines0 xs) sh [] = r := ⟨_, rfl⟩
  rw [hr] at a1 a2 hu1 hu2 hu3 hu4 hr1 hr0 ⊢
  obtain ⟨left, sh2, cuts⟩ := r
  simp only at a1 a2 hu1 hu2 hu3 hu4 hr1 hr0 ⊢
  have l1 : s1.len = xs.length := by rw [a1.len1, nats_length, hr0]
  have l2 : s2.len = cuts.length := a2.rowsLen cutC_length (by decide)
  have l9 : l9.len = xs.length := it.len
  have l6' : l6.len = os.length := of.len
  have hs0 := sum_le hl0
  have hs1 := sum_le hr1
  rw [hll] at hs0
  rw [hr0] at hs1
  simp only [List.map_nil, List.sum_nil, List.length_nil] at hu3 hu4
  have hcl : cuts.length ≤ 4 := by have := hp.length_eq; omega
  refine ifT_intro (fun h1 => absurd (by rw [l1, l9]) (nd h1)) fun _ => ?_
  have it' := e.itms it
  refine loopK_intro (fun (a : Int × Int) h2 m => h2 = h' ∧ ∃ k : Nat, k ≤ xs.length ∧ a = (((sh + ((lines0 xs).take k).sum : Nat) : Int), (k : Int)) ∧ m = xs.length - k) xs.length ⟨rfl, 0, by omega, by simp, rfl⟩ ?_
  rintro a h2 m ⟨rfl, k, hk, rfl, rfl⟩
  dsimp only [uncur]
  refine ifT_dec (fun hlt => ⟨⟨by omega, hlt⟩, ?_⟩) fun hge => ?_
  · have hkl : k < xs.length := by omega
    have hxk := List.getElem?_eq_getElem hkl
    generalize xs[k] = x at hxk
    have hxm := List.mem_of_getElem? hxk
    have hln := line_le (hK2 x hxm)
    have hk2 : k < left.length := by omega
    have hlk : left[k]? = some left[k] := List.getElem?_eq_getElem hk2
    have h0k : (lines0 xs)[k]? = some (x.cents * x.many).toNat := by unfold lines0; rw [List.getElem?_map, hxk]; rfl
    have hle := hu1.2 k hk2
    rw [at_some hlk, at_some h0k] at hle
    have hts := take_sum_le (lines0 xs) k
    have hst := take_sum_step h0k
    generalize left[k] = n at hlk hle
    refine it'.at_.row itmC_length (by decide) hxk fun b of2 hr2 => ⟨x.key, x.cents, x.many, x.tg, hr2, ⟨by omega, by omega⟩, ?_⟩
    refine a1.cell (nats_get hlk) fun b of hrd => ⟨_, hrd, ifT_dec (fun h3 => by omega) fun _ => ⟨⟨by omega, by omega⟩, ?_⟩⟩
    refine a1.cell (nats_get hlk) fun b of hrd => ⟨_, hrd, ?_⟩
    rw [w64 (n := x.cents * x.many) (by omega) (by omega)]
    refine ifT_dec (fun h3 => by omega) fun _ => ⟨xs.length - (k + 1), by omega, rfl, k + 1, by omega, ?_, rfl⟩
    rw [hst, w64 (by omega) (by omega), w64 (by omega) (by omega)]
    congr 1
    omega
  · have hkn : k = xs.length := by omega
    subst hkn
    rw [List.take_of_length_le (by omega)]
    refine loopK_intro (fun (a : Int × Int) h3 m => h3 = h2 ∧ ∃ k : Nat, k ≤ cuts.length ∧ a = (((sh + (lines0 xs).sum : Nat) : Int) - ((((cuts.take k).map (·.2)).sum : Nat) : Int), (k : Int)) ∧ m = cuts.length - k) cuts.length ⟨rfl, 0, by omega, by simp, rfl⟩ ?_
    rintro a h3 m ⟨rfl, k, hk, rfl, rfl⟩
    dsimp only [uncur]
    refine ifT_dec (fun hlt => ⟨⟨by omega, hlt⟩, ?_⟩) fun hge => ?_
    · have hkl : k < cuts.length := by omega
      have hck := List.getElem?_eq_getElem hkl
      generalize cuts[k] = c at hck
      have hst : ((cuts.take (k + 1)).map (·.2)).sum = ((cuts.take k).map (·.2)).sum + c.2 := by
        rw [List.take_add_one, hck, List.map_append, List.sum_append]; simp
      have hts : ((cuts.take (k + 1)).map (·.2)).sum ≤ (cuts.map (·.2)).sum := by
        rw [List.map_take]; exact take_sum_le _ _
      refine a2.row cutC_length (by decide) hck fun b of hrd => ⟨c.1, _, hrd, ifT_dec (fun h5 => by omega) fun _ => ⟨cuts.length - (k + 1), by omega, rfl, k + 1, by omega, ?_, rfl⟩⟩
      rw [hst] at hts ⊢
      generalize ((cuts.take k).map (·.2)).sum = y at *
      rw [w64 (by omega) (by omega), w64 (by omega) (by omega)]
      congr 1
      omega
    · have hkn : k = cuts.length := by omega
      subst hkn
      rw [List.take_length]
      refine spec9t hI (ifT_intro (fun _ => ?_) fun h5 => by cases h5)
      refine ifT_dec (fun _ => ?_) fun h5 => absurd (by rw [l2, l6', hu4, hp.length_eq]; simp) h5
      refine ifT_dec (fun _ => ?_) fun h5 => absurd (Int.natCast_nonneg _) h5
      refine ifT_dec (fun _ => ?_) fun h5 => by omega
      refine spec10 hI a1 (by omega) (by omega) ⟨_, rfl, ?_⟩
      have : decide (((left.sum + sh2 : Nat) : Int) = IntKind.i64.wrap (((left.sum : Nat) : Int) + (sh2 : Int))) = true := by
        rw [w64 (by omega) (by omega), decide_eq_true_eq]; omega
      rw [this]
      simp [tru]
end
end Go.Proofs.YtfemminjhecocaaGreatVc
