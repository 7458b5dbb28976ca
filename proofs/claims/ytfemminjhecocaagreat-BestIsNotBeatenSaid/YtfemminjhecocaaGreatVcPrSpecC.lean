/- Contracts: an offer is applied; a basket is priced. Contracts: a basket is priced. Contracts: offers.Price; the law. -/
import Derived.Test.YtfemminjhecocaaGreatVcPrSpecB
set_option linter.unusedSimpArgs false
set_option linter.unusedVariables false
-- PrSpec5
namespace Go.Proofs.YtfemminjhecocaaGreatVc
open Go.Proofs.Tryz (prog)
open Go.Proofs.YtfemminjhecocaaGreatShares
theorem At.set_new {h h' : Heap} {s : Sl} {cs : List Cell} {b : Nat} {X : Obj} (a : At h' 1 s cs) (n : New h s) (hb : h b ≠ none) : At (h'.set b X) 1 s cs := by
  refine ⟨a.1, a.2.imp id fun h1 => ?_⟩
  unfold Heap.sl at h1 ⊢
  cases ha : s.a with
  | none => rw [ha] at h1; exact h1
  | some p =>
    obtain ⟨j, o⟩ := p
    rw [ha] at h1
    have hj := n j o ha
    simp only at h1 ⊢
    unfold Heap.read at h1 ⊢
    rw [set_ne _ _ (fun e => by subst e; exact hb hj)]
    exact h1
theorem lose_step {left cuts : List Nat} (hc : cuts.length = left.length) {k n c : Nat} (hn : left[k]? = some n) (hk : cuts[k]? = some c) :
    ((lose left cuts).take k ++ left.drop k)[k]? = some n ∧ ((lose left cuts).take k ++ left.drop k).set k (n - c) = (lose left cuts).take (k + 1) ++ left.drop (k + 1) := by
  have hl := lose_length hc
  obtain ⟨hk1, rfl⟩ := List.getElem?_eq_some_iff.1 hn
  have h1 : ((lose left cuts).take k).length = k := by rw [List.length_take]; omega
  have h2 : (lose left cuts)[k]? = some (left[k] - c) := by
    unfold lose
    rw [List.getElem?_zipWith, hn, hk]
  constructor
  · rw [List.getElem?_append_right (by omega), h1, Nat.sub_self, List.getElem?_drop, Nat.add_zero, hn]
  · rw [List.set_append, if_neg (by omega), h1, Nat.sub_self, List.drop_eq_getElem_cons hk1, List.set_cons_zero, List.take_add_one, h2]
    simp

section
variable {I : Calls} {Q : Post} {h h0 : Heap} {ip : Nat} {l1 sl : Sl} {xs : List Itm} {ship0 : Int} {ship : Nat} {left : List Nat} {L : List Ow}
abbrev owPr (ip : Nat) (l1 : Sl) (ship0 : Int) (sl : Sl) (ship : Nat) : Ow := (4, ⟨some (ip, 0), 1⟩, prC l1 ship0 sl ship)
theorem spec38 (hI : Closed' prog Pm I) {o : Offr} (o0 : Owns h0 h (owPr ip l1 ship0 sl ship :: (1, sl, nats left) :: L)) (its : Itms h0 l1 xs) (hlen : left.length = xs.length) (hx : OkL xs) (ho : OkO o) (hot : At h0 1 o.tg (strs o.tags)) (hotl : o.tags.length < 1000)
    (hle : ∀ n ∈ left, n ≤ 1000000000) (hship : ship ≤ 1000000000000)
    (hQ : ∀ h', Owns h0 h' (owPr ip l1 ship0 sl (applyF xs o left ship).2.1 :: (1, sl, nats (applyF xs o left ship).1) :: L) → Q [int (((applyF xs o left ship).2.2 : Nat) : Int)] h') : I 38 [.one (.ptr (some (ip, 0))), .agg (offC o)] Q h := by
  have hp : Pr h ip l1 xs ship0 sl left ship := ⟨(o0.block List.mem_cons_self).1, o0.ext.itms its, o0.at_ (by simp), hlen⟩
  have hot1 := o0.ext.at_ hot
  have hfew := hx.few
  have hil := hp.its.len
  have hcu := cutsF_under ho (ms := xs.map (matchB o)) (left := left) (by rw [List.length_map, hlen]) (ks := xs.map fun x => x.many.toNat)
  refine hI.go _ _ (den38 I (some (ip, 0)) o.key o.kind o.a o.b o.tg o.least o.most o.group o.alone o.order o.from_ o.to_ Q) ?_
  obtain ⟨J, hJ⟩ : ∃ J : Sl → T, ∀ l h', J l h' ↔ (o.kind ≠ 4 ∧ Ext h h' ∧ New h l ∧ At h' 1 l (nats (cutsF o (xs.map (matchB o)) (xs.map fun x => x.many.toNat) left))) := ⟨fun l h' => _, fun _ _ => Iff.rfl⟩
  refine joinK_intro J ?_ fun j hj => ?_
  · intro l h' hj0
    obtain ⟨hk, e, nw, hat⟩ := (hJ l h').1 hj0
    obtain ⟨cuts, hcuts⟩ : ∃ cuts, cutsF o (xs.map (matchB o)) (xs.map fun x => x.many.toNat) left = cuts := ⟨_, rfl⟩
    unfold applyF at hQ
    rw [if_neg hk] at hQ
    rw [hcuts] at hat hcu hQ
    have hcl : cuts.length = left.length := hcu.1
    have hll : l.len = cuts.length := by rw [hat.len1, nats_length]
    have o1 := o0.mono e
    have hcb : ∀ c ∈ cuts, c ≤ 1000000000 := fun c hc => by
      obtain ⟨j, hj, rfl⟩ := List.mem_iff_getElem.1 hc
      have h6 := hcu.2 j hj
      rw [at_some (List.getElem?_eq_getElem hj), at_some (List.getElem?_eq_getElem (hcl ▸ hj))] at h6
      have h7 := hle _ (List.getElem_mem (hcl ▸ hj))
      omega
    have hsum := sum_le hcb
    refine loopK_intro (fun (a : Int × Int) h' m => ∃ k : Nat, k ≤ cuts.length ∧ a = ((((cuts.take k).sum : Nat) : Int), (k : Int)) ∧ m = cuts.length - k ∧ At h' 1 l (nats cuts) ∧ Owns h0 h' (owPr ip l1 ship0 sl ship :: (1, sl, nats ((lose left cuts).take k ++ left.drop k)) :: L)) cuts.length
      ⟨0, by omega, rfl, rfl, hat, by rw [List.take_zero, List.drop_zero, List.nil_append]; exact o1⟩ ?_
    rintro a h2 m ⟨k, hk1, rfl, rfl, hat2, o2⟩
    dsimp only [uncur]
    refine ifT_dec (fun hlt => ⟨⟨by omega, hlt⟩, ?_⟩) fun hge => ?_
    · have hkl : k < cuts.length := by omega
      have hkl2 : k < left.length := by omega
      obtain ⟨c, hck, hcb1⟩ : ∃ c, cuts[k]? = some c ∧ c ≤ 1000000000 := ⟨cuts[k], List.getElem?_eq_getElem hkl, hcb _ (List.getElem_mem hkl)⟩
      obtain ⟨n, hnk, hnb⟩ : ∃ n, left[k]? = some n ∧ n ≤ 1000000000 := ⟨left[k], List.getElem?_eq_getElem hkl2, hle _ (List.getElem_mem hkl2)⟩
      have hcn : c ≤ n := by
        have := hcu.2 k hkl
        rwa [at_some hck, at_some hnk] at this
      obtain ⟨hs1, hs2⟩ := lose_step hcl hnk hck
      have hl3 : ((lose left cuts).take k ++ left.drop k).length = left.length := by rw [List.length_append, List.length_take, lose_length hcl, List.length_drop]; omega
      have hsll : sl.len = left.length := by
        have := o2.slen (s := sl) (cs := nats ((lose left cuts).take k ++ left.drop k)) (by simp)
        rw [nats_length, hl3] at this; exact this
      obtain ⟨b, hb, cb⟩ := o2.has (s := sl) (cs := nats ((lose left cuts).take k ++ left.drop k)) (sz := 1) (by simp) (nats_ne (by omega))
      have hbh : h b ≠ none := by
        obtain ⟨b', hb', cb'⟩ := o0.has (s := sl) (cs := nats left) (sz := 1) (by simp) (nats_ne (by omega))
        rw [hb] at hb'
        cases hb'
        rw [cb']; simp
      refine hat2.cell (nats_get hck) fun bb of hr => ⟨_, hr, ⟨sl, read_cell (o2.block List.mem_cons_self).1 rfl, ⟨by omega, by omega⟩, ?_⟩⟩
      refine (o2.at_ (sz := 1) (s := sl) (by simp)).cell (nats_get hs1) fun bb of hr => ⟨_, hr, ⟨by omega, by omega⟩, ?_⟩
      have ha : sl.a = some (b, 0) := by rw [hb]
      refine derefK_intro ha ?_
      have ev : IntKind.i64.wrap ((n : Int) - (c : Int)) = ((n - c : Nat) : Int) := by rw [w64 (by omega) (by omega)]; omega
      rw [ev]
      refine storeK_one cb (by rw [nats_length, hl3, Int.toNat_natCast]; omega) ⟨cuts.length - (k + 1), by omega, k + 1, by omega, ?_, rfl, ?_, ?_⟩
      · have h1 := take_sum_step hck
        have h2 := take_sum_le cuts (k + 1)
        rw [h1] at h2 ⊢
        generalize (cuts.take k).sum = y at *
        rw [w64 (by omega) (by omega), w64 (by omega) (by omega)]
        rfl
      · exact hat2.set_new nw hbh
      · rw [Nat.zero_add, Int.toNat_natCast, Nat.mul_one, nats_set, hs2]
        have o3 := o2.perm (List.Perm.swap _ _ _)
        rw [hb] at o3 ⊢
        have o4 := o3.change (n' := sl.len) (sz' := 1) (cs' := nats ((lose left cuts).take (k + 1) ++ left.drop (k + 1))) (by rw [nats_length, ← hs2, List.length_set, hl3]; omega)
        exact o4.perm (List.Perm.swap _ _ _)
    · have hkn : k = cuts.length := by omega
      subst hkn
      rw [List.take_of_length_le (by rw [lose_length hcl]; omega), List.drop_of_length_le (by omega), List.append_nil] at o2
      rw [List.take_length]
      exact hQ h2 o2
  refine ifT_dec (fun h1 => ?_) fun h1 => ?_
  · refine spec56 hI hp hx ho h1 hot1 hotl hle fun s' h' e a nw => ⟨s', rfl, hj _ _ ((hJ _ _).2 ⟨by omega, e, nw, ?_⟩)⟩
    unfold cutsF
    rw [if_pos h1]; exact a
  · refine joinK_intro J hj fun j2 hj2 => ?_
    refine ifT_dec (fun h2 => ?_) fun h2 => ?_
    · refine spec57 hI hp hx ho h2 hot1 hotl hle fun s' h' e a nw => ⟨s', rfl, hj2 _ _ ((hJ _ _).2 ⟨by omega, e, nw, ?_⟩)⟩
      unfold cutsF
      rw [if_neg h1, if_pos h2]; exact a
    refine ifT_dec (fun h3 => ?_) fun h3 => ?_
    · refine spec58 hI hp hx ho h3 hot1 hotl hle fun s' h' e a nw => ⟨s', rfl, hj2 _ _ ((hJ _ _).2 ⟨by omega, e, nw, ?_⟩)⟩
      unfold cutsF
      rw [if_neg h1, if_neg h2]; exact a
    · have hk : o.kind = 4 := by have := ho.kind; omega
      obtain ⟨ham, _, _, hm0, hm1, _, _⟩ := ho.n
      have ha : 1 ≤ o.a ∧ o.a ≤ 1000000000000 := by
        rcases ham with h1 | h1 | h1 <;> omega
      obtain ⟨g, hg⟩ := Int.eq_ofNat_of_zero_le hm0
      obtain ⟨A, hA⟩ := Int.eq_ofNat_of_zero_le (show 0 ≤ o.a by omega)
      unfold applyF at hQ
      rw [if_pos hk, hg, hA] at hQ
      simp only [Int.toNat_natCast] at hQ
      rw [hg, hA]
      refine ⟨(ship : Int), read_cell hp.cell rfl, ?_⟩
      refine joinK_intro (fun (n : Int) h' => h' = h ∧ n = ((capN g (min A ship) : Nat) : Int)) ?_ fun j3 hj3 => ifT_intro (fun h4 => hj3 _ _ ⟨rfl, ?_⟩) fun h4 => hj3 _ _ ⟨rfl, ?_⟩
      · rintro _ h' ⟨rfl, rfl⟩
        refine ⟨(ship : Int), read_cell hp.cell rfl, ?_⟩
        have hc : capN g (min A ship) ≤ ship := by unfold capN; split <;> omega
        have ev : IntKind.i64.wrap ((ship : Int) - ((capN g (min A ship) : Nat) : Int)) = ((ship - capN g (min A ship) : Nat) : Int) := by rw [w64 (by omega) (by omega)]; omega
        rw [ev]
        refine storeK_one hp.cell (by show 0 + 3 < 4; decide) (hQ _ ?_)
        exact o0.change rfl
      · have := nd h4
        unfold capN; rw [if_neg (by omega)]; omega
      · have := nd' h4
        unfold capN; rw [if_pos (by omega)]; omega
end
end Go.Proofs.YtfemminjhecocaaGreatVc
-- PrSpec6
namespace Go.Proofs.YtfemminjhecocaaGreatVc
open Go.Proofs.Tryz (prog)
open Go.Proofs.YtfemminjhecocaaGreatShares
def cutC (x : ByteArray × Nat) : List Cell := [.str x.1, .int .i64 (x.2 : Int)]
theorem cutC_length (x : ByteArray × Nat) : (cutC x).length = 2 := rfl
theorem applyAll_snoc (items : List Itm) (o : Offr) : ∀ (l : List Offr) (left : List Nat) (ship : Nat) (cuts : List (ByteArray × Nat)),
    applyAll items (l ++ [o]) left ship cuts = ((applyF items o (applyAll items l left ship cuts).1 (applyAll items l left ship cuts).2.1).1, (applyF items o (applyAll items l left ship cuts).1 (applyAll items l left ship cuts).2.1).2.1,
      (applyAll items l left ship cuts).2.2 ++ [(o.key, (applyF items o (applyAll items l left ship cuts).1 (applyAll items l left ship cuts).2.1).2.2)])
  | [], left, ship, cuts => rfl
  | x :: l, left, ship, cuts => by
    simp only [List.cons_append, applyAll]
    exact applyAll_snoc items o l _ _ _
theorem line_le {x : Itm} (h : okI x) : 0 ≤ x.cents * x.many ∧ x.cents * x.many ≤ 1000000000 :=
  ⟨Int.mul_nonneg h.1 (by omega), Int.le_trans (Int.mul_le_mul h.2.1 h.2.2.2 (by omega) (by decide)) (by decide)⟩
theorem under_le {a b : List Nat} {B : Nat} (u : Under a b) (h : ∀ n ∈ b, n ≤ B) : ∀ n ∈ a, n ≤ B := fun n hn => by
  obtain ⟨j, hj, rfl⟩ := List.mem_iff_getElem.1 hn
  have h6 := u.2 j hj
  have hj2 : j < b.length := u.1 ▸ hj
  rw [at_some (List.getElem?_eq_getElem hj), at_some (List.getElem?_eq_getElem hj2)] at h6
  have h7 := h _ (List.getElem_mem hj2)
  omega
theorem lines0_le {xs : List Itm} (h : ∀ x ∈ xs, okI x) : ∀ n ∈ lines0 xs, n ≤ 1000000000 := fun n hn => by
  obtain ⟨x, hx, rfl⟩ := List.mem_map.1 hn
  have := line_le (h x hx)
  omega
section
variable {I : Calls} {Q : Post} {h : Heap} {l1 : Sl} {xs : List Itm}
theorem spec24 (hI : Closed' prog Pm I) {s : Sl} {os : List Offr} (hs : Offs h s os) (hsl : h.sl 12 s = some (rows offC os)) (hlen : os.length ≤ 12) (hok : ∀ o ∈ os, OkO o) (htl : ∀ o ∈ os, o.tags.length < 1000) (its : Itms h l1 xs) (hx : OkL xs) {ship : Nat} (hship : ship ≤ 1000000000000)
    (hQ : ∀ s1 s2 zs h', Ext h h' → zs.Perm os → zs.Pairwise leO → At h' 1 s1 (nats (applyAll xs zs (lines0 xs) ship []).1) → At h' 2 s2 (rows cutC (applyAll xs zs (lines0 xs) ship []).2.2) →
      Q [.agg [.slice 1 s1, .int .i64 ((applyAll xs zs (lines0 xs) ship []).2.1 : Nat), .slice 2 s2, .int .i64 (((applyAll xs zs (lines0 xs) ship []).1.sum + (applyAll xs zs (lines0 xs) ship []).2.1 : Nat) : Int)]] h') : I 24 [.one (.slice 12 s), .agg [.slice 4 l1, .int .i64 (ship : Int)]] Q h := by
  have hfew := hx.few
  have hil := its.len
  refine hI.go _ _ (den24 I s l1 ship Q) ?_
  refine newK_intro fun ip h1 hn1 he1 => ?_
  have o1 : Owns h h1 [owPr ip l1 ship ⟨none, 0⟩ ship] := he1 ▸ (Owns.nil h).new hn1 rfl
  refine loopK_intro (fun (a : Int) h' m => ∃ k sl, k ≤ xs.length ∧ a = ((k : Nat) : Int) ∧ m = xs.length - k ∧ Owns h h' [(1, sl, nats ((lines0 xs).take k)), owPr ip l1 ship sl ship]) xs.length
    ⟨0, ⟨none, 0⟩, by omega, rfl, rfl, o1.none_ 1⟩ ?_
  have hll : (lines0 xs).length = xs.length := by simp [lines0]
  rintro a h2 m ⟨k, sl, hk1, rfl, rfl, o2⟩
  refine ifT_dec (fun hlt => ⟨⟨by omega, hlt⟩, ?_⟩) fun hge => ?_
  · have hkl : k < xs.length := by omega
    have hxk := List.getElem?_eq_getElem hkl
    generalize xs[k] = x at hxk
    have hok2 := line_le (hx.ok x (List.mem_of_getElem? hxk))
    have hsll : sl.len = k := by
      have := o2.slen (s := sl) (cs := nats ((lines0 xs).take k)) (by simp)
      rw [nats_length, List.length_take, hll] at this; omega
    refine (o2.ext.itms its).at_.row itmC_length (by decide) hxk fun b of hr => ⟨x.key, x.cents, x.many, x.tg, hr, sl, read_cell (o2.block (List.mem_cons_of_mem _ List.mem_cons_self)).1 rfl, ?_⟩
    refine appendTo_owns (m := 0) o2 rfl (by omega) (by simp) fun j h3 o3 => ?_
    have o4 := o3.perm (List.Perm.swap _ _ _)
    refine storeK_one (o4.block List.mem_cons_self).1 (by show 2 < 4; decide) ⟨xs.length - (k + 1), by omega, k + 1, ⟨some (j, 0), sl.len + (0 + 1)⟩, by omega, by rw [w64 (by omega) (by omega)]; rfl, rfl, ?_⟩
    have e : nats ((lines0 xs).take (k + 1)) = nats ((lines0 xs).take k) ++ [.int .i64 (IntKind.i64.wrap (x.cents * x.many))] := by
      have h5 : (lines0 xs)[k]? = some (x.cents * x.many).toNat := by unfold lines0; rw [List.getElem?_map, hxk]; rfl
      rw [List.take_add_one, h5, w64 (by omega) (by omega)]
      unfold nats
      rw [List.map_append]
      simp
      omega
    rw [e]
    exact (o4.change (n' := 1) (sz' := 4) (cs' := prC l1 ship ⟨some (j, 0), sl.len + (0 + 1)⟩ ship) rfl).perm (List.Perm.swap _ _ _)
  have hkn : k = xs.length := by omega
  subst hkn
  rw [List.take_of_length_le (by omega)] at o2
  refine spec37 hI o2 hs.len (o2.ext.sl hsl) hlen fun s3 zs h3 hzp hzs o3 => ⟨s3, rfl, ?_⟩
  have hzl : zs.length = os.length := hzp.length_eq
  have hs3 : s3.len = zs.length := (o3.at_ List.mem_cons_self).rowsLen offC_length (by decide)
  have hzo : ∀ o ∈ zs, o ∈ os := fun o ho => hzp.mem_iff.1 ho
  have hall := fun k => applyAll_under (items := xs) (zs.take k) (lines0 xs) ship [] (fun o ho => hok o (hzo o (List.mem_of_mem_take ho))) hll
  have hl0 := lines0_le hx.ok
  refine loopK_intro (fun (a : (Sl × Int × Sl × Int × PUnit) × Int) h' m => ∃ k, k ≤ zs.length ∧ a.2 = ((k : Nat) : Int) ∧ m = zs.length - k ∧ Owns h h' (owPr ip l1 ship sl (applyAll xs (zs.take k) (lines0 xs) ship []).2.1 :: (1, sl, nats (applyAll xs (zs.take k) (lines0 xs) ship []).1) :: [(2, a.1.2.2.1, rows cutC (applyAll xs (zs.take k) (lines0 xs) ship []).2.2), (12, s3, rows offC zs)])) zs.length
    ⟨0, by omega, rfl, rfl, ?_⟩ ?_
  · rw [List.take_zero]
    refine (o3.none_ 2).perm ?_
    -- cuts, s3, left, pr  →  pr, left, cuts, s3
    exact (List.perm_append_comm (l₁ := [(2, ⟨none, 0⟩, []), (12, s3, rows offC zs)]) (l₂ := [(1, sl, nats (lines0 xs)), owPr ip l1 ship sl ship])).trans (List.Perm.swap _ _ _)
  rintro ⟨⟨a1, a2, lc, a4, u⟩, y⟩ h4 m ⟨k, hk1, rfl, rfl, o4⟩
  dsimp only [uncur] at o4 ⊢
  obtain ⟨hu1, hu2, hu3, hu4⟩ := hall k
  have hr1 := under_le hu1 hl0
  have hr0 : (applyAll xs (zs.take k) (lines0 xs) ship []).1.length = xs.length := hu1.1.trans hll
  refine ifT_dec (fun hlt => ⟨⟨by omega, hlt⟩, ?_⟩) fun hge => ?_
  · have hkl : k < zs.length := by omega
    have hok3 := List.getElem?_eq_getElem hkl
    generalize zs[k] = o at hok3
    have hom := hzo o (List.mem_of_getElem? hok3)
    have et : zs.take (k + 1) = zs.take k ++ [o] := by rw [List.take_add_one, hok3]; rfl
    obtain ⟨hv1, hv2, hv3, hv4⟩ := hall (k + 1)
    rw [et, applyAll_snoc] at hv1 hv2 hv3 hv4
    refine (o4.at_ (sz := 12) (s := s3) (cs := rows offC zs) (by simp)).row offC_length (by decide) hok3 fun b of hr => ⟨o.key, o.kind, o.a, o.b, o.tg, o.least, o.most, o.group, o.alone, o.order, o.from_, o.to_, hr, ?_⟩
    refine spec38 hI o4 its hr0 hx (hok o hom) (hs.tg o hom) (htl o hom) hr1 (by omega) fun h5 o5 => ⟨_, rfl, ?_⟩
    have p1 : ∀ a b c d : Ow, [a, b, c, d].Perm [c, a, b, d] := fun a b c d => (List.Perm.cons a (List.Perm.swap c b [d])).trans (List.Perm.swap c a _)
    have o6 := o5.perm (p1 _ _ _ _)
    have hlc : lc.len = k := by
      have := (o6.at_ List.mem_cons_self).rowsLen cutC_length (by decide)
      rw [this, hu4, List.length_take]; simp; omega
    refine appendTo_owns (m := 0) o6 rfl (by omega) (by simp) fun j h6 o7 => ⟨zs.length - (k + 1), by omega, k + 1, by omega, by show IntKind.i64.wrap _ = _; rw [w64 (by omega) (by omega)]; rfl, rfl, ?_⟩
    rw [et, applyAll_snoc]
    have p2 : ∀ a b c d : Ow, [a, b, c, d].Perm [b, c, a, d] := fun a b c d => (List.Perm.swap b a _).trans (List.Perm.cons b (List.Perm.swap c a [d]))
    rw [rows_append]
    exact o7.perm (p2 _ _ _ _)
  · have hkn : k = zs.length := by omega
    subst hkn
    rw [List.take_length] at o4 hu1 hu2 hu3 hu4 hr1 hr0
    obtain ⟨r, hr⟩ : ∃ r, applyAll xs zs (lines0 xs) ship [] = r := ⟨_, rfl⟩
    rw [hr] at o4 hu1 hu2 hu3 hu4 hr1 hr0
    obtain ⟨left, sh, cuts⟩ := r
    simp only at o4 hu1 hu2 hu3 hu4 hr1 hr0
    have hc := (o4.block List.mem_cons_self).1
    have hsum := sum_le hr1
    rw [hr0] at hsum
    refine ⟨sl, read_cell hc rfl, (sh : Int), read_cell hc rfl, (sh : Int), read_cell hc rfl, sl, read_cell hc rfl, ?_⟩
    have hat := o4.at_ (sz := 1) (s := sl) (cs := nats left) (by simp)
    have hsll : sl.len = left.length := by rw [hat.len1, nats_length]
    refine loopK_intro (fun (a : (Sl × Int × Sl × Int × PUnit) × Int) h' m => h' = h4 ∧ ∃ k u, k ≤ left.length ∧ a = ((sl, (sh : Int), lc, (((left.take k).sum + sh : Nat) : Int), u), ((k : Nat) : Int)) ∧ m = left.length - k) left.length
      ⟨rfl, 0, (), by omega, by simp, rfl⟩ ?_
    rintro _ h5 m ⟨rfl, k, u, hk2, rfl, rfl⟩
    dsimp only [uncur]
    have hts := take_sum_le left k
    refine ifT_dec (fun hlt => ⟨⟨by omega, hlt⟩, ?_⟩) fun hge2 => ?_
    · have hkl : k < left.length := by omega
      have hnk := List.getElem?_eq_getElem hkl
      have hnb := hr1 _ (List.getElem_mem hkl)
      generalize left[k] = n at hnk hnb
      refine hat.cell (nats_get hnk) fun bb of hrd => ⟨_, hrd, left.length - (k + 1), by omega, rfl, k + 1, (), by omega, ?_, rfl⟩
      have h1 := take_sum_step hnk
      rw [h1]
      rw [w64 (by omega) (by omega), w64 (by omega) (by omega)]
      congr 5
      omega
    · have : k = left.length := by omega
      subst this
      rw [List.take_length]
      have := hQ sl lc zs h5 o4.ext hzp hzs (by rw [hr]; exact hat) (by rw [hr]; exact o4.at_ (by simp))
      rw [hr] at this
      exact this
end
end Go.Proofs.YtfemminjhecocaaGreatVc
-- PrSpec7
namespace Go.Proofs.YtfemminjhecocaaGreatVc
open Go.Proofs.Tryz (prog)
open Go.Proofs.YtfemminjhecocaaGreatShares
theorem scanO_tags : ∀ (l pre : List Offr), scanO pre l = 0 → ∀ x ∈ l, x.tags.length ≤ 10
  | [], _, _, x, hx => by cases hx
  | y :: l, pre, h, x, hx => by
    simp only [scanO] at h
    split at h
    · cases h
    split at h
    · cases h
    split at h
    · cases h
    split at h
    · cases h
    split at h
    · cases h
    split at h
    · cases h
    split at h
    · rename_i h6; exact absurd h h6
    rename_i h6
    split at h
    · cases h
    rcases List.mem_cons.1 hx with rfl | hx
    · have h6 : errTg x.tags = 0 := Decidable.of_not_not h6
      unfold errTg at h6
      split at h6
      · cases h6
      · omega
    · exact scanO_tags l _ h x hx
theorem errO_tags {xs : List Offr} (h : errO xs = 0) : ∀ x ∈ xs, x.tags.length < 1000 := by
  unfold errO at h
  split at h
  · cases h
  · exact fun x hx => Nat.lt_of_le_of_lt (scanO_tags xs [] h x hx) (by decide)
/-- What is answered of a price that is asked for. -/
def errP (os : List Offr) (xs : List Itm) (ship t : Int) : Int := if errA os xs ship t ≠ 0 then errA os xs ship t else if togP os.length [] os = false then 16 else if (os.any fun o => decide (fitsF o xs ship t ≠ 0)) = true then 11 else 0
theorem errP_A {os : List Offr} {xs : List Itm} {ship t : Int} (h : errP os xs ship t = 0) : errA os xs ship t = 0 := by
  unfold errP at h
  split at h
  · assumption
  · rename_i h1; exact Decidable.of_not_not h1
section
variable {I : Calls} {Q : Post} {h : Heap}
theorem spec21c (hI : Closed' prog Pm I) {s : Sl} {ys : List Offr} {g : FuncId} {caps : List (Nat × Nat)} {p : Offr → Bool} (hs : At h 12 s (rows offC ys)) (hlen : ys.length < 1000)
    (hg : ∀ y ∈ ys, ∀ h1 Q', Ext h h1 → (∀ h2, Ext h1 h2 → Q' [boo (p y)] h2) → I g (.agg (offC y) :: caps.map fun a => .one (.ptr (some a))) Q' h1) (hQ : ∀ h', Ext h h' → Q [boo (ys.any p)] h') : I 21 [.one (.slice 12 s), .one (.func (some (g, caps)))] Q h := by
  refine hI.go _ _ (den21 I s _ _) ?_
  have hl : s.len = ys.length := hs.rowsLen offC_length (by decide)
  refine hI.go _ _ (den35 I s _ _) ?_
  refine loopK_intro (fun (a : Int) h' m => Ext h h' ∧ ∃ j : Nat, j ≤ ys.length ∧ a = j ∧ ys.length - j = m ∧ ∀ z ∈ ys.take j, p z = false) ys.length ⟨Ext.refl h, 0, by omega, rfl, rfl, by simp⟩ ?_
  rintro a h' m ⟨e, j, hj, rfl, rfl, hno⟩
  refine ifT_dec (fun hlt => ⟨⟨by omega, hlt⟩, ?_⟩) (fun hge => ?_)
  · have hx := List.getElem?_eq_getElem (show j < ys.length by omega)
    generalize ys[j] = y at hx
    refine (e.at_ hs).row offC_length (by decide) hx fun bb o hr => ⟨y.key, y.kind, y.a, y.b, y.tg, y.least, y.most, y.group, y.alone, y.order, y.from_, y.to_, hr, ?_⟩
    refine hg y (List.mem_of_getElem? hx) _ _ e fun h2 e2 => ⟨_, rfl, ifT_intro (fun h1 => ⟨_, rfl, ?_⟩) fun h1 => ?_⟩
    · have e3 : ys.any p = true := List.any_eq_true.2 ⟨y, List.mem_of_getElem? hx, h1⟩
      have e4 : decide ((j : Int) ≥ 0) = true := by simp
      have := hQ h2 (e.trans e2)
      rw [e3] at this; rw [e4]; exact this
    · refine ⟨ys.length - (j + 1), by omega, e.trans e2, j + 1, by omega, by rw [w64] <;> omega, rfl, fun z hz => ?_⟩
      rw [List.take_add_one, hx] at hz
      rcases List.mem_append.1 hz with hz | hz
      · exact hno z hz
      · have : z = y := by simpa using hz
        rw [this]; exact h1
  · have : j = ys.length := by omega
    subst this
    rw [List.take_length] at hno
    have e3 : ys.any p = false := by
      cases h2 : ys.any p with
      | false => rfl
      | true => obtain ⟨y, hy, h3⟩ := List.any_eq_true.1 h2; rw [hno y hy] at h3; cases h3
    have := hQ h' e
    rw [e3] at this
    exact ⟨_, rfl, this⟩
theorem spec22 (hI : Closed' prog Pm I) {o : Offr} {s : Sl} {xs : List Itm} {ship t : Int} {i5 i7 : Nat} (h5 : h i5 = some (.cells false [.slice 4 s, .int .i64 ship])) (h7 : h i7 = some (.cells false [.int .i64 t])) (ho : OkO o) (ht : At h 1 o.tg (strs o.tags)) (hotl : o.tags.length < 1000) (hs : Itms h s xs) (hx : OkL xs)
    (hQ : ∀ h', Ext h h' → Q [boo (decide (fitsF o xs ship t ≠ 0))] h') : I 22 [.agg (offC o), .one (.ptr (some (i5, 0))), .one (.ptr (some (i7, 0)))] Q h := by
  refine hI.go _ _ (den22 I o.key o.kind o.a o.b o.tg o.least o.most o.group o.alone o.order o.from_ o.to_ i5 0 i7 0 Q) ?_
  refine ⟨s, ship, ?_, t, read_cell h7 rfl, spec23 hI ho ht hotl hs hx.ok (by have := hx.few; omega) hx.tg fun h' e => ⟨_, rfl, ?_⟩⟩
  · rw [read_block h5 (by show 0 + 2 ≤ 2; decide)]; rfl
  · have := hQ h' e
    rw [show decide (fitsF o xs ship t ≠ 0) = !decide (fitsF o xs ship t = 0) by simp] at this
    exact this
theorem spec8 (hI : Closed' prog Pm I) {s l1 : Sl} {os : List Offr} {xs : List Itm} {ship t : Int} (hs : Offs h s os) (hsl : h.sl 12 s = some (rows offC os)) (hlen : os.length ≤ 12) (its : Itms h l1 xs) (hfew : xs.length ≤ 4)
    (hbad : ∀ h', Ext h h' → errP os xs ship t ≠ 0 → Q [.agg [.slice 1 ⟨none, 0⟩, .int .i64 0, .slice 2 ⟨none, 0⟩, .int .i64 0], int (errP os xs ship t)] h')
    (hQ : ∀ s1 s2 zs h', errP os xs ship t = 0 → Ext h h' → zs.Perm os → zs.Pairwise leO → At h' 1 s1 (nats (applyAll xs zs (lines0 xs) ship.toNat []).1) → At h' 2 s2 (rows cutC (applyAll xs zs (lines0 xs) ship.toNat []).2.2) →
      Q [.agg [.slice 1 s1, .int .i64 ((applyAll xs zs (lines0 xs) ship.toNat []).2.1 : Nat), .slice 2 s2, .int .i64 (((applyAll xs zs (lines0 xs) ship.toNat []).1.sum + (applyAll xs zs (lines0 xs) ship.toNat []).2.1 : Nat) : Int)], int 0] h') : I 8 [.one (.slice 12 s), .agg [.slice 4 l1, .int .i64 ship], int t] Q h := by
  refine hI.go _ _ (den8 I s l1 ship t Q) ?_
  refine newK_intro fun i5 h1 hn1 he1 => newK_intro fun i7 h2 hn2 he2 => ?_
  have e1 : Ext h h1 := he1 ▸ Ext.new hn1
  have e12 : Ext h1 h2 := he2 ▸ Ext.new hn2
  have e2 := e1.trans e12
  have c5 : h2 i5 = some (.cells false [.slice 4 l1, .int .i64 ship]) := e12 _ _ (by rw [he1, set_eq])
  have c7 : h2 i7 = some (.cells false [.int .i64 t]) := by rw [he2, set_eq]
  refine ⟨l1, ship, by rw [read_block c5 (by show 0 + 2 ≤ 2; decide)]; rfl, t, read_cell c7 rfl, ?_⟩
  refine spec19 hI (e2.offs hs) (e2.itms its) fun h3 e23 => ⟨_, rfl, ifT_intro (fun hA => ?_) fun hA => ?_⟩
  · have hA := nd hA
    have e : errP os xs ship t = errA os xs ship t := by unfold errP; rw [if_pos hA]
    have := hbad h3 (e2.trans e23) (by rw [e]; exact hA)
    rw [e] at this; exact this
  have hA : errA os xs ship t = 0 := Decidable.of_not_not (nd' hA)
  have e3 := e2.trans e23
  have hA' := hA
  obtain ⟨hA1, hA2, hA3⟩ := errA_ok hA'
  refine spec20 hI (e3.offs hs) (by omega) fun h4 e4 => ⟨_, rfl, ifT_intro (fun hT => ?_) fun hT => ?_⟩
  · have hT := nb hT
    have e : errP os xs ship t = 16 := by unfold errP; rw [if_neg (by rw [hA]; simp), if_pos hT]
    have := hbad h4 (e3.trans e4) (by rw [e]; decide)
    rw [e] at this; exact this
  have hT := nb' hT
  have e34 := e3.trans e4
  have e24 : Ext h2 h4 := e23.trans e4
  obtain ⟨hO1, hO2⟩ := errO_ok hA1
  obtain ⟨hK1, hK2, hK3, hK4⟩ := errK_ok hA2
  have hL : OkL xs := ⟨hK2, hfew, errK_tags hA2⟩
  have htags : ∀ o ∈ os, o.tags.length < 1000 := errO_tags hA1
  refine spec21c hI (caps := [(i5, 0), (i7, 0)]) (p := fun o => decide (fitsF o xs ship t ≠ 0)) (e34.offs hs).at_ (by omega) (fun y hy h5 Q' e5 hq => ?_) fun h5 e5 => ⟨_, rfl, ifT_intro (fun hF => ?_) fun hF => ?_⟩
  · exact spec22 hI (e5 _ _ (e24 _ _ c5)) (e5 _ _ (e24 _ _ c7)) (hO2 y hy) ((e34.trans e5).at_ (hs.tg y hy)) (htags y hy) ((e34.trans e5).itms its) hL hq
  · have e : errP os xs ship t = 11 := by unfold errP; rw [if_neg (by rw [hA]; simp), if_neg (by rw [hT]; simp), if_pos hF]
    have := hbad h5 (e34.trans e5) (by rw [e]; decide)
    rw [e] at this; exact this
  · have e : errP os xs ship t = 0 := by unfold errP; rw [if_neg (by rw [hA]; simp), if_neg (by rw [hT]; simp), if_neg (by rw [hF]; simp)]
    have e45 := e34.trans e5
    refine ⟨l1, ship, by rw [read_block (e5 _ _ (e24 _ _ c5)) (by show 0 + 2 ≤ 2; decide)]; rfl, ?_⟩
    obtain ⟨sh, hsh⟩ := Int.eq_ofNat_of_zero_le hK3
    rw [hsh] at hQ ⊢
    refine spec24 hI (e45.offs hs) (e45.sl hsl) hlen hO2 htags (e45.itms its) hL (by omega) fun s1 s2 zs h6 e6 hp hz a1 a2 => ⟨_, _, _, _, rfl, hQ s1 s2 zs h6 (hsh ▸ e) (e45.trans e6) hp hz a1 a2⟩
theorem spec10 (hI : Closed' prog Pm I) {s : Sl} {ws : List Nat} (hs : At h 1 s (nats ws)) (hw : ws.sum < 4611686018427387904) (hlen : ws.length < 1000) (hQ : Q [int (ws.sum : Nat)] h) : I 10 [.one (.slice 1 s)] Q h := by
  have hl : s.len = ws.length := by rw [hs.len1, nats_length]
  refine hI.go _ _ (den10 I s Q) ?_
  refine loopK_intro (fun (a : Int × Int) h' m => h' = h ∧ ∃ i : Nat, i ≤ ws.length ∧ a = ((((ws.take i).sum : Nat) : Int), (i : Int)) ∧ ws.length - i = m) ws.length ⟨rfl, 0, by omega, rfl, rfl⟩ ?_
  rintro a h' m ⟨rfl, i, hi, rfl, rfl⟩
  dsimp only [uncur]
  refine ifT_dec (fun hlt => ⟨⟨by omega, hlt⟩, ?_⟩) (fun hge => ?_)
  · have hil : i < ws.length := by omega
    refine hs.cell (nats_get (List.getElem?_eq_getElem hil)) fun b o hr => ⟨_, hr, ws.length - (i + 1), by omega, rfl, i + 1, by omega, ?_, rfl⟩
    have h1 := sum_step hil
    have h2 := take_sum_le ws (i + 1)
    rw [h1] at h2 ⊢
    generalize (ws.take i).sum = y at *
    generalize ws[i] = x at *
    rw [w64 (by omega) (by omega), w64 (by omega) (by omega)]
    rfl
  have : i = ws.length := by omega
  subst this
  rw [List.take_length]
  exact hQ
end
end Go.Proofs.YtfemminjhecocaaGreatVc
