/- Contracts: a basket is priced. -/
import Derived.Test.YtfemminjhecocaaGreatVcPrSpec5
set_option linter.unusedSimpArgs false
set_option linter.unusedVariables false
namespace Go.Proofs.YtfemminjhecocaaGreatVc
open Go.Proofs.Tryz (prog)
open Go.Proofs.YtfemminjhecocaaGreatShares
def cutC (x : ByteArray × Nat) : List Cell := [.str x.1, .int .i64 (x.2 : Int)]
theorem cutC_length (x : ByteArray × Nat) : (cutC x).length = 2 := rfl
theorem applyAll_snoc (items : List Itm) (o : Offr) : ∀ (l : List Offr) (left : List Nat) (ship : Nat) (cuts : List (ByteArray × Nat)),
    applyAll items (l ++ [o]) left ship cuts = ((applyF items o (applyAll items l left ship cuts).1 (applyAll items l left ship cuts).2.1).1, (applyF items o (applyAll items l left ship cuts).1 (applyAll items l left ship cuts).2.1).2.1,
      (applyAll items l left ship cuts).2.2 ++ [(o.key, (applyF items o (applyAll items l left ship cuts).1 (applyAll items l left ship cuts).2.1).2.2)])
  | [], left, ship, cuts => rfl
  | x :: l, left, ship, cuts => by
    simp only [List.cons_append, applyAll]
    exact applyAll_snoc items o l _ _ _
theorem line_le {x : Itm} (h : okI x) : 0 ≤ x.cents * x.many ∧ x.cents * x.many ≤ 1000000000 :=
  ⟨Int.mul_nonneg h.1 (by omega), Int.le_trans (Int.mul_le_mul h.2.1 h.2.2.2 (by omega) (by decide)) (by decide)⟩
theorem under_le {a b : List Nat} {B : Nat} (u : Under a b) (h : ∀ n ∈ b, n ≤ B) : ∀ n ∈ a, n ≤ B := fun n hn => by
  obtain ⟨j, hj, rfl⟩ := List.mem_iff_getElem.1 hn
  have h6 := u.2 j hj
  have hj2 : j < b.length := u.1 ▸ hj
  rw [at_some (List.getElem?_eq_getElem hj), at_some (List.getElem?_eq_getElem hj2)] at h6
  have h7 := h _ (List.getElem_mem hj2)
  omega
theorem lines0_le {xs : List Itm} (h : ∀ x ∈ xs, okI x) : ∀ n ∈ lines0 xs, n ≤ 1000000000 := fun n hn => by
  obtain ⟨x, hx, rfl⟩ := List.mem_map.1 hn
  have := line_le (h x hx)
  omega
section
variable {I : Calls} {Q : Post} {h : Heap} {l1 : Sl} {xs : List Itm}
theorem spec24 (hI : Closed' prog Pm I) {s : Sl} {os : List Offr} (hs : Offs h s os) (hsl : h.sl 12 s = some (rows offC os)) (hlen : os.length ≤ 12) (hok : ∀ o ∈ os, OkO o) (htl : ∀ o ∈ os, o.tags.length < 1000) (its : Itms h l1 xs) (hx : OkL xs) {ship : Nat} (hship : ship ≤ 1000000000000)
    (hQ : ∀ s1 s2 zs h', Ext h h' → zs.Perm os → zs.Pairwise leO → At h' 1 s1 (nats (applyAll xs zs (lines0 xs) ship []).1) → At h' 2 s2 (rows cutC (applyAll xs zs (lines0 xs) ship []).2.2) →
      Q [.agg [.slice 1 s1, .int .i64 ((applyAll xs zs (lines0 xs) ship []).2.1 : Nat), .slice 2 s2, .int .i64 (((applyAll xs zs (lines0 xs) ship []).1.sum + (applyAll xs zs (lines0 xs) ship []).2.1 : Nat) : Int)]] h') : I 24 [.one (.slice 12 s), .agg [.slice 4 l1, .int .i64 (ship : Int)]] Q h := by
  have hfew := hx.few
  have hil := its.len
  refine hI.go _ _ (den24 I s l1 ship Q) ?_
  refine newK_intro fun ip h1 hn1 he1 => ?_
  have o1 : Owns h h1 [owPr ip l1 ship ⟨none, 0⟩ ship] := he1 ▸ (Owns.nil h).new hn1 rfl
  refine loopK_intro (fun (a : Int) h' m => ∃ k sl, k ≤ xs.length ∧ a = ((k : Nat) : Int) ∧ m = xs.length - k ∧ Owns h h' [(1, sl, nats ((lines0 xs).take k)), owPr ip l1 ship sl ship]) xs.length
    ⟨0, ⟨none, 0⟩, by omega, rfl, rfl, o1.none_ 1⟩ ?_
  have hll : (lines0 xs).length = xs.length := by simp [lines0]
  rintro a h2 m ⟨k, sl, hk1, rfl, rfl, o2⟩
  refine ifT_dec (fun hlt => ⟨⟨by omega, hlt⟩, ?_⟩) fun hge => ?_
  · have hkl : k < xs.length := by omega
    have hxk := List.getElem?_eq_getElem hkl
    generalize xs[k] = x at hxk
    have hok2 := line_le (hx.ok x (List.mem_of_getElem? hxk))
    have hsll : sl.len = k := by
      have := o2.slen (s := sl) (cs := nats ((lines0 xs).take k)) (by simp)
      rw [nats_length, List.length_take, hll] at this; omega
    refine (o2.ext.itms its).at_.row itmC_length (by decide) hxk fun b of hr => ⟨x.key, x.cents, x.many, x.tg, hr, sl, read_cell (o2.block (List.mem_cons_of_mem _ List.mem_cons_self)).1 rfl, ?_⟩
    refine appendTo_owns (m := 0) o2 rfl (by omega) (by simp) fun j h3 o3 => ?_
    have o4 := o3.perm (List.Perm.swap _ _ _)
    refine storeK_one (o4.block List.mem_cons_self).1 (by show 2 < 4; decide) ⟨xs.length - (k + 1), by omega, k + 1, ⟨some (j, 0), sl.len + (0 + 1)⟩, by omega, by rw [w64 (by omega) (by omega)]; rfl, rfl, ?_⟩
    have e : nats ((lines0 xs).take (k + 1)) = nats ((lines0 xs).take k) ++ [.int .i64 (IntKind.i64.wrap (x.cents * x.many))] := by
      have h5 : (lines0 xs)[k]? = some (x.cents * x.many).toNat := by unfold lines0; rw [List.getElem?_map, hxk]; rfl
      rw [List.take_add_one, h5, w64 (by omega) (by omega)]
      unfold nats
      rw [List.map_append]
      simp
      omega
    rw [e]
    exact (o4.change (n' := 1) (sz' := 4) (cs' := prC l1 ship ⟨some (j, 0), sl.len + (0 + 1)⟩ ship) rfl).perm (List.Perm.swap _ _ _)
  have hkn : k = xs.length := by omega
  subst hkn
  rw [List.take_of_length_le (by omega)] at o2
  refine spec37 hI o2 hs.len (o2.ext.sl hsl) hlen fun s3 zs h3 hzp hzs o3 => ⟨s3, rfl, ?_⟩
  have hzl : zs.length = os.length := hzp.length_eq
  have hs3 : s3.len = zs.length := (o3.at_ List.mem_cons_self).rowsLen offC_length (by decide)
  have hzo : ∀ o ∈ zs, o ∈ os := fun o ho => hzp.mem_iff.1 ho
  have hall := fun k => applyAll_under (items := xs) (zs.take k) (lines0 xs) ship [] (fun o ho => hok o (hzo o (List.mem_of_mem_take ho))) hll
  have hl0 := lines0_le hx.ok
  refine loopK_intro (fun (a : (Sl × Int × Sl × Int × PUnit) × Int) h' m => ∃ k, k ≤ zs.length ∧ a.2 = ((k : Nat) : Int) ∧ m = zs.length - k ∧ Owns h h' (owPr ip l1 ship sl (applyAll xs (zs.take k) (lines0 xs) ship []).2.1 :: (1, sl, nats (applyAll xs (zs.take k) (lines0 xs) ship []).1) :: [(2, a.1.2.2.1, rows cutC (applyAll xs (zs.take k) (lines0 xs) ship []).2.2), (12, s3, rows offC zs)])) zs.length
    ⟨0, by omega, rfl, rfl, ?_⟩ ?_
  · rw [List.take_zero]
    refine (o3.none_ 2).perm ?_
    -- cuts, s3, left, pr  →  pr, left, cuts, s3
    exact (List.perm_append_comm (l₁ := [(2, ⟨none, 0⟩, []), (12, s3, rows offC zs)]) (l₂ := [(1, sl, nats (lines0 xs)), owPr ip l1 ship sl ship])).trans (List.Perm.swap _ _ _)
  rintro ⟨⟨a1, a2, lc, a4, u⟩, y⟩ h4 m ⟨k, hk1, rfl, rfl, o4⟩
  dsimp only [uncur] at o4 ⊢
  obtain ⟨hu1, hu2, hu3, hu4⟩ := hall k
  have hr1 := under_le hu1 hl0
  have hr0 : (applyAll xs (zs.take k) (lines0 xs) ship []).1.length = xs.length := hu1.1.trans hll
  refine ifT_dec (fun hlt => ⟨⟨by omega, hlt⟩, ?_⟩) fun hge => ?_
  · have hkl : k < zs.length := by omega
    have hok3 := List.getElem?_eq_getElem hkl
    generalize zs[k] = o at hok3
    have hom := hzo o (List.mem_of_getElem? hok3)
    have et : zs.take (k + 1) = zs.take k ++ [o] := by rw [List.take_add_one, hok3]; rfl
    obtain ⟨hv1, hv2, hv3, hv4⟩ := hall (k + 1)
    rw [et, applyAll_snoc] at hv1 hv2 hv3 hv4
    refine (o4.at_ (sz := 12) (s := s3) (cs := rows offC zs) (by simp)).row offC_length (by decide) hok3 fun b of hr => ⟨o.key, o.kind, o.a, o.b, o.tg, o.least, o.most, o.group, o.alone, o.order, o.from_, o.to_, hr, ?_⟩
    refine spec38 hI o4 its hr0 hx (hok o hom) (hs.tg o hom) (htl o hom) hr1 (by omega) fun h5 o5 => ⟨_, rfl, ?_⟩
    have p1 : ∀ a b c d : Ow, [a, b, c, d].Perm [c, a, b, d] := fun a b c d => (List.Perm.cons a (List.Perm.swap c b [d])).trans (List.Perm.swap c a _)
    have o6 := o5.perm (p1 _ _ _ _)
    have hlc : lc.len = k := by
      have := (o6.at_ List.mem_cons_self).rowsLen cutC_length (by decide)
      rw [this, hu4, List.length_take]; simp; omega
    refine appendTo_owns (m := 0) o6 rfl (by omega) (by simp) fun j h6 o7 => ⟨zs.length - (k + 1), by omega, k + 1, by omega, by show IntKind.i64.wrap _ = _; rw [w64 (by omega) (by omega)]; rfl, rfl, ?_⟩
    rw [et, applyAll_snoc]
    have p2 : ∀ a b c d : Ow, [a, b, c, d].Perm [b, c, a, d] := fun a b c d => (List.Perm.swap b a _).trans (List.Perm.cons b (List.Perm.swap c a [d]))
    rw [rows_append]
    exact o7.perm (p2 _ _ _ _)
  · have hkn : k = zs.length := by omega
    subst hkn
    rw [List.take_length] at o4 hu1 hu2 hu3 hu4 hr1 hr0
    obtain ⟨r, hr⟩ : ∃ r, applyAll xs zs (lines0 xs) ship [] = r := ⟨_, rfl⟩
    rw [hr] at o4 hu1 hu2 hu3 hu4 hr1 hr0
    obtain ⟨left, sh, cuts⟩ := r
    simp only at o4 hu1 hu2 hu3 hu4 hr1 hr0
    have hc := (o4.block List.mem_cons_self).1
    have hsum := sum_le hr1
    rw [hr0] at hsum
    refine ⟨sl, read_cell hc rfl, (sh : Int), read_cell hc rfl, (sh : Int), read_cell hc rfl, sl, read_cell hc rfl, ?_⟩
    have hat := o4.at_ (sz := 1) (s := sl) (cs := nats left) (by simp)
    have hsll : sl.len = left.length := by rw [hat.len1, nats_length]
    refine loopK_intro (fun (a : (Sl × Int × Sl × Int × PUnit) × Int) h' m => h' = h4 ∧ ∃ k u, k ≤ left.length ∧ a = ((sl, (sh : Int), lc, (((left.take k).sum + sh : Nat) : Int), u), ((k : Nat) : Int)) ∧ m = left.length - k) left.length
      ⟨rfl, 0, (), by omega, by simp, rfl⟩ ?_
    rintro _ h5 m ⟨rfl, k, u, hk2, rfl, rfl⟩
    dsimp only [uncur]
    have hts := take_sum_le left k
    refine ifT_dec (fun hlt => ⟨⟨by omega, hlt⟩, ?_⟩) fun hge2 => ?_
    · have hkl : k < left.length := by omega
      have hnk := List.getElem?_eq_getElem hkl
      have hnb := hr1 _ (List.getElem_mem hkl)
      generalize left[k] = n at hnk hnb
      refine hat.cell (nats_get hnk) fun bb of hrd => ⟨_, hrd, left.length - (k + 1), by omega, rfl, k + 1, (), by omega, ?_, rfl⟩
      have h1 := take_sum_step hnk
      rw [h1]
      rw [w64 (by omega) (by omega), w64 (by omega) (by omega)]
      congr 5
      omega
    · have : k = left.length := by omega
      subst this
      rw [List.take_length]
      have := hQ sl lc zs h5 o4.ext hzp hzs (by rw [hr]; exact hat) (by rw [hr]; exact o4.at_ (by simp))
      rw [hr] at this
      exact this
end
end Go.Proofs.YtfemminjhecocaaGreatVc
