/- BestIsNotBeaten: the law's contract. -/
import Derived.Test.YtfemminjhecocaaGreatVcBbSpec
import Derived.Test.YtfemminjhecocaaGreatVcPrLaw
set_option linter.unusedSimpArgs false
set_option linter.unusedVariables false
namespace Go.Proofs.YtfemminjhecocaaGreatVc
open Go.Proofs.Tryz (prog)
open Go.Proofs.YtfemminjhecocaaGreatShares
theorem errP_zero {os : List Offr} {xs : List Itm} {ship t : Int} (h : errP os xs ship t = 0) : errA os xs ship t = 0 ∧ togP os.length [] os = true ∧ ∀ o ∈ os, fitsF o xs ship t = 0 := by
  have hA := errP_A h
  unfold errP at h
  rw [if_neg (by rw [hA]; simp)] at h
  split at h
  · cases h
  rename_i h1
  split at h
  · cases h
  rename_i h2
  refine ⟨hA, by simpa using h1, fun o ho => ?_⟩
  by_cases e : fitsF o xs ship t = 0
  · exact e
  · exact absurd (List.any_eq_true.2 ⟨o, ho, by simpa using e⟩) h2
theorem errP_of {os : List Offr} {xs : List Itm} {ship t : Int} (hA : errA os xs ship t = 0) (hT : togP os.length [] os = true) (hF : ∀ o ∈ os, fitsF o xs ship t = 0) : errP os xs ship t = 0 := by
  unfold errP
  rw [if_neg (by rw [hA]; simp), if_neg (by rw [hT]; simp), if_neg]
  intro h
  obtain ⟨o, ho, h1⟩ := List.any_eq_true.1 h
  exact (of_decide_eq_true h1) (hF o ho)
section
variable {I : Calls} {h : Heap}
theorem spec4 (hI : Closed' prog Pm I) {s : Sl} {zs : List Int} (hs : At h 1 s (ints zs)) : I 4 [.one (.slice 1 s)] tru h := by
  refine hI.go _ _ (den4 I s tru) ?_
  refine newK_intro fun i2 h1 hn1 he1 => ?_
  have S0 : Strm h1 i2 s zs 0 := he1 ▸ Strm.make hs hn1
  refine spec5 hI S0 S0.owns (by decide) (by decide) (by decide) fun l6 os T1 t6 h6 o6 htg hol ht6 => ⟨l6, rfl, ?_⟩
  refine spec6 hI S0 o6 (by omega) fun l9 ship xs T2 t9 h9 o9 hti hxl ht9 => ⟨l9, ship, rfl, ?_⟩
  refine pick_lit hI S0 o9 (by omega) [0, 49, 60] (by simp) (by simp) fun t _ h10 o10 => ?_
  have hol2 : os.length ≤ 6 := by omega
  refine newK_intro fun i16 h11 hn11 he11 => ?_
  have o11 := o10.new (sz := 1) (n := 1) (cs := [.slice 12 ⟨none, 0⟩]) hn11 rfl
  rw [← he11] at o11
  refine storeK_one (o11.block List.mem_cons_self).1 (by decide) ?_
  have o12 := o11.change (n' := 1) (sz' := 1) (cs' := [.slice 12 l6]) rfl
  obtain ⟨h12, hh12⟩ : ∃ h12, h11.set i16 (.cells false [.slice 12 l6]) = h12 := ⟨_, rfl⟩
  rw [List.set_cons_zero, hh12]
  rw [hh12] at o12
  have cv := (o12.block List.mem_cons_self).1
  refine ⟨l6, read_cell cv rfl, ?_⟩
  have of : Offs h12 l6 os := offs_of (T := T1) o12 (by simp) htg (fun p hp => by simp [hp])
  have it : Itms h12 l9 xs := itms_of (T := T2) o12 (by simp) hti (fun p hp => by simp [hp])
  refine spec11 hI of (by omega) it hxl (fun h' e hb => ⟨_, _, _, _, _, _, rfl, ?_⟩) fun s1 s2 s3 B h13 hA e13 hB a1 a2 a3 => ⟨_, _, _, _, _, _, rfl, ?_⟩
  · refine ifT_intro (fun _ => spec9 hI ⟨true, rfl, ?_⟩) fun h1 => absurd hb (nd' h1)
    simp [tru]
  refine ifT_intro (fun h1 => absurd rfl (nd h1)) fun _ => ?_
  obtain ⟨hA1, hA2, hA3⟩ := errA_ok hA
  obtain ⟨hK1, hK2, hK3, hK4⟩ := errK_ok hA2
  obtain ⟨sh, hsh⟩ := Int.eq_ofNat_of_zero_le hK3
  subst hsh
  rw [Int.toNat_natCast] at hB a2 a3 ⊢
  have o13 := o12.mono e13
  have hBl := hB.sub.length_le
  rw [List.length_range] at hBl
  have hBi : ∀ i ∈ B, i < os.length := fun i hi => List.mem_range.1 (hB.sub.subset hi)
  have hPl := pickO_length hBi
  have hEB : errP (pickO os B) xs sh t = 0 := errP_of (errA_sub (pickO_sub hB.sub) hA) hB.tog hB.fit
  have hll : (lines0 xs).length = xs.length := by simp [lines0]
  have hs1l : s1.len = B.length := by rw [a1.len1, nats_length]
  refine spec12 hI a1 (e13 _ _ cv) (e13.offs of) hBi (by omega) fun s4 h14 e14 f14 sl14 => ⟨_, rfl, ?_⟩
  refine spec8p hI f14 sl14 (by omega) ((e13.trans e14).itms it) hxl (fun h' _ hb => absurd hEB hb) fun r1 r2 h15 _ e15 b1 b2 => ⟨_, _, _, _, _, rfl, ?_⟩
  have e135 := e14.trans e15
  have hpr := applyAll_under (items := xs) (sortO (pickO os B)) (lines0 xs) sh [] (fun o ho => (errO_ok hA1).2 o ((pickO_sub hB.sub).subset ((List.mergeSort_perm _ leOB).mem_iff.1 ho))) hll
  have hl1 : (priceF xs (pickO os B) sh).1.length = xs.length := hpr.1.1.trans hll
  have hl2 : (priceF xs (pickO os B) sh).2.2.length < 1000 := by
    have h1 := hpr.2.2.2
    have h2 := (List.mergeSort_perm (pickO os B) leOB).length_eq
    show (applyAll xs (sortO (pickO os B)) (lines0 xs) sh []).2.2.length < 1000
    rw [h1]
    unfold sortO
    rw [h2, hPl]
    simp
    omega
  refine joinK_intro (fun (b : Bool) h' => b = false ∧ Ext h13 h') ?_ fun j hj => ifT_intro (fun h1 => absurd rfl (nd h1)) fun _ => ?_
  case refine_2 => exact spec13 hI (e135.at_ a2) b1 (e135.at_ a3) b2 (by omega) hl2 ⟨_, rfl, hj _ _ ⟨rfl, e135⟩⟩
  rintro b h16 ⟨rfl, e16⟩
  refine ifT_intro (fun h => by cases h) fun _ => ?_
  have o16 := o13.mono e16
  -- six other choices
  have p1 := o16.perm (List.Perm.swap _ _ _)
  refine loopK_intro (fun (a : Int) h' m => ∃ (g t' : Nat), g ≤ 6 ∧ a = (g : Int) ∧ m = 6 - g ∧ t' ≤ 1000000 + 10 * g ∧ Owns (h1.del i2) h' (owS i2 s t' :: (1, ⟨some (i16, 0), 1⟩, [.slice 12 l6]) :: (4, l9, rows itmC xs) :: (T2 ++ (12, l6, rows offC os) :: (T1 ++ [])))) 6
    ⟨0, t9 + 1, by omega, rfl, rfl, by omega, p1⟩ ?_
  rintro a h17 m ⟨g, t', hg, rfl, rfl, ht', o17⟩
  refine ifT_dec (fun hlt => ?_) fun hge => spec9 hI ⟨true, rfl, by simp [tru]⟩
  have cv17 := (o17.block (sz := 1) (i := i16) (n := 1) (cs := [.slice 12 l6]) (by simp)).1
  refine ⟨l6, read_cell cv17 rfl, ?_⟩
  have hl6 := of.len
  refine loopK_intro (fun (a : Sl × Int) h' m => ∃ (k t2 : Nat) (O : List Nat), k ≤ os.length ∧ a.2 = (k : Int) ∧ m = os.length - k ∧ t2 ≤ t' + k ∧ O.Sublist (List.range k) ∧ Owns (h1.del i2) h' (owS i2 s t2 :: (1, a.1, nats O) :: (1, ⟨some (i16, 0), 1⟩, [.slice 12 l6]) :: (4, l9, rows itmC xs) :: (T2 ++ (12, l6, rows offC os) :: (T1 ++ [])))) os.length
    ⟨0, t', [], by omega, rfl, rfl, by omega, List.Sublist.refl _, (o17.none_ 1).perm (List.Perm.swap _ _ _)⟩ ?_
  rintro ⟨lo, y⟩ h18 m2 ⟨k, t2, O, hk, rfl, rfl, ht2, hO, o18⟩
  dsimp only [uncur] at o18 ⊢
  have hOk := hO.length_le
  rw [List.length_range] at hOk
  have hlo : lo.len = O.length := by
    have := o18.slen (s := lo) (cs := nats O) (by simp)
    rw [nats_length] at this; exact this
  have ew : IntKind.i64.wrap ((k : Int) + 1) = ((k + 1 : Nat) : Int) := by rw [w64] <;> omega
  rw [ew]
  refine ifT_dec (fun hlt2 => ?_) fun hge2 => ?_
  · refine spec14 hI (o18.toStrm S0 (t' := t2) (by simp) (by omega)) (by decide) (by decide) fun b => ⟨b, rfl, ?_⟩
    have o19 := o18.next (t' := t2 + 1)
    refine ifT_intro (fun hb => ?_) fun hb => ?_
    · refine appendTo_owns (m := 0) (o19.perm (List.Perm.swap _ _ _)) rfl (by omega) (by simp) fun j h20 o20 => ⟨os.length - (k + 1), by omega, k + 1, t2 + 1, O ++ [k], by omega, rfl, rfl, by omega, by rw [List.range_succ]; exact hO.append (List.Sublist.refl _), ?_⟩
      have e2 : nats (O ++ [k]) = nats O ++ [.int .i64 (k : Int)] := by simp [nats]
      rw [e2]
      exact o20.perm (List.Perm.swap _ _ _)
    · exact ⟨os.length - (k + 1), by omega, k + 1, t2 + 1, O, by omega, rfl, rfl, by omega, by rw [List.range_succ]; exact hO.trans (List.sublist_append_left _ _), o19⟩
  · have hkn : k = os.length := by omega
    subst hkn
    have hOi : ∀ i ∈ O, i < os.length := fun i hi => List.mem_range.1 (hO.subset hi)
    have of18 : Offs h18 l6 os := offs_of (T := T1) o18 (by simp) htg (fun p hp => by simp [hp])
    have it18 : Itms h18 l9 xs := itms_of (T := T2) o18 (by simp) hti (fun p hp => by simp [hp])
    have cv18 := (o18.block (sz := 1) (i := i16) (n := 1) (cs := [.slice 12 l6]) (by simp)).1
    have hOl := pickO_length hOi
    have goOn : ∀ h', Ext h18 h' → ∃ m', m' < 6 - g ∧ ∃ (g' t' : Nat), g' ≤ 6 ∧ IntKind.i64.wrap ((g : Int) + 1) = (g' : Int) ∧ m' = 6 - g' ∧ t' ≤ 1000000 + 10 * g' ∧ Owns (h1.del i2) h' (owS i2 s t' :: (1, ⟨some (i16, 0), 1⟩, [.slice 12 l6]) :: (4, l9, rows itmC xs) :: (T2 ++ (12, l6, rows offC os) :: (T1 ++ []))) := fun h' e =>
      ⟨6 - (g + 1), by omega, g + 1, t2, by omega, by rw [w64 (by omega) (by omega)]; rfl, rfl, by omega, ((o18.mono e).perm (List.Perm.swap _ _ _)).tail⟩
    refine spec12 hI (o18.at_ (sz := 1) (s := lo) (cs := nats O) (by simp)) cv18 of18 hOi (by omega) fun s5 h19 e19 f19 sl19 => ⟨_, rfl, ?_⟩
    refine spec8p hI f19 sl19 (by omega) (e19.itms it18) hxl (fun h' e' hb => ⟨_, _, _, _, _, rfl, ifT_dec (fun h => absurd h hb) fun _ => goOn h' (e19.trans e')⟩) fun r1 r2 h20 hE e20 c1 c2 => ⟨_, _, _, _, _, rfl, ?_⟩
    obtain ⟨_, hT, hF⟩ := errP_zero hE
    have hbest := hB.best O hO hF hT
    unfold leT keyT at hbest
    simp only at hbest
    refine ifT_dec (fun _ => ?_) fun h => absurd rfl h
    refine ifT_dec (fun h => by omega) fun _ => ifT_dec (fun h => ifT_dec (fun h2 => by omega) fun _ => goOn h20 (e19.trans e20)) fun _ => goOn h20 (e19.trans e20)
end
end Go.Proofs.YtfemminjhecocaaGreatVc
