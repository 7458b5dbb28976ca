/- Contracts: an offer is applied; a basket is priced. -/
import Derived.Test.YtfemminjhecocaaGreatVcPrSpec4
set_option linter.unusedSimpArgs false
set_option linter.unusedVariables false
namespace Go.Proofs.YtfemminjhecocaaGreatVc
open Go.Proofs.Tryz (prog)
open Go.Proofs.YtfemminjhecocaaGreatShares
theorem At.set_new {h h' : Heap} {s : Sl} {cs : List Cell} {b : Nat} {X : Obj} (a : At h' 1 s cs) (n : New h s) (hb : h b ≠ none) : At (h'.set b X) 1 s cs := by
  refine ⟨a.1, a.2.imp id fun h1 => ?_⟩
  unfold Heap.sl at h1 ⊢
  cases ha : s.a with
  | none => rw [ha] at h1; exact h1
  | some p =>
    obtain ⟨j, o⟩ := p
    rw [ha] at h1
    have hj := n j o ha
    simp only at h1 ⊢
    unfold Heap.read at h1 ⊢
    rw [set_ne _ _ (fun e => by subst e; exact hb hj)]
    exact h1
theorem lose_step {left cuts : List Nat} (hc : cuts.length = left.length) {k n c : Nat} (hn : left[k]? = some n) (hk : cuts[k]? = some c) :
    ((lose left cuts).take k ++ left.drop k)[k]? = some n ∧ ((lose left cuts).take k ++ left.drop k).set k (n - c) = (lose left cuts).take (k + 1) ++ left.drop (k + 1) := by
  have hl := lose_length hc
  obtain ⟨hk1, rfl⟩ := List.getElem?_eq_some_iff.1 hn
  have h1 : ((lose left cuts).take k).length = k := by rw [List.length_take]; omega
  have h2 : (lose left cuts)[k]? = some (left[k] - c) := by
    unfold lose
    rw [List.getElem?_zipWith, hn, hk]
  constructor
  · rw [List.getElem?_append_right (by omega), h1, Nat.sub_self, List.getElem?_drop, Nat.add_zero, hn]
  · rw [List.set_append, if_neg (by omega), h1, Nat.sub_self, List.drop_eq_getElem_cons hk1, List.set_cons_zero, List.take_add_one, h2]
    simp

section
variable {I : Calls} {Q : Post} {h h0 : Heap} {ip : Nat} {l1 sl : Sl} {xs : List Itm} {ship0 : Int} {ship : Nat} {left : List Nat} {L : List Ow}
abbrev owPr (ip : Nat) (l1 : Sl) (ship0 : Int) (sl : Sl) (ship : Nat) : Ow := (4, ⟨some (ip, 0), 1⟩, prC l1 ship0 sl ship)
theorem spec38 (hI : Closed' prog Pm I) {o : Offr} (o0 : Owns h0 h (owPr ip l1 ship0 sl ship :: (1, sl, nats left) :: L)) (its : Itms h0 l1 xs) (hlen : left.length = xs.length) (hx : OkL xs) (ho : OkO o) (hot : At h0 1 o.tg (strs o.tags)) (hotl : o.tags.length < 1000)
    (hle : ∀ n ∈ left, n ≤ 1000000000) (hship : ship ≤ 1000000000000)
    (hQ : ∀ h', Owns h0 h' (owPr ip l1 ship0 sl (applyF xs o left ship).2.1 :: (1, sl, nats (applyF xs o left ship).1) :: L) → Q [int (((applyF xs o left ship).2.2 : Nat) : Int)] h') : I 38 [.one (.ptr (some (ip, 0))), .agg (offC o)] Q h := by
  have hp : Pr h ip l1 xs ship0 sl left ship := ⟨(o0.block List.mem_cons_self).1, o0.ext.itms its, o0.at_ (by simp), hlen⟩
  have hot1 := o0.ext.at_ hot
  have hfew := hx.few
  have hil := hp.its.len
  have hcu := cutsF_under ho (ms := xs.map (matchB o)) (left := left) (by rw [List.length_map, hlen]) (ks := xs.map fun x => x.many.toNat)
  refine hI.go _ _ (den38 I (some (ip, 0)) o.key o.kind o.a o.b o.tg o.least o.most o.group o.alone o.order o.from_ o.to_ Q) ?_
  obtain ⟨J, hJ⟩ : ∃ J : Sl → T, ∀ l h', J l h' ↔ (o.kind ≠ 4 ∧ Ext h h' ∧ New h l ∧ At h' 1 l (nats (cutsF o (xs.map (matchB o)) (xs.map fun x => x.many.toNat) left))) := ⟨fun l h' => _, fun _ _ => Iff.rfl⟩
  refine joinK_intro J ?_ fun j hj => ?_
  · intro l h' hj0
    obtain ⟨hk, e, nw, hat⟩ := (hJ l h').1 hj0
    obtain ⟨cuts, hcuts⟩ : ∃ cuts, cutsF o (xs.map (matchB o)) (xs.map fun x => x.many.toNat) left = cuts := ⟨_, rfl⟩
    unfold applyF at hQ
    rw [if_neg hk] at hQ
    rw [hcuts] at hat hcu hQ
    have hcl : cuts.length = left.length := hcu.1
    have hll : l.len = cuts.length := by rw [hat.len1, nats_length]
    have o1 := o0.mono e
    have hcb : ∀ c ∈ cuts, c ≤ 1000000000 := fun c hc => by
      obtain ⟨j, hj, rfl⟩ := List.mem_iff_getElem.1 hc
      have h6 := hcu.2 j hj
      rw [at_some (List.getElem?_eq_getElem hj), at_some (List.getElem?_eq_getElem (hcl ▸ hj))] at h6
      have h7 := hle _ (List.getElem_mem (hcl ▸ hj))
      omega
    have hsum := sum_le hcb
    refine loopK_intro (fun (a : Int × Int) h' m => ∃ k : Nat, k ≤ cuts.length ∧ a = ((((cuts.take k).sum : Nat) : Int), (k : Int)) ∧ m = cuts.length - k ∧ At h' 1 l (nats cuts) ∧ Owns h0 h' (owPr ip l1 ship0 sl ship :: (1, sl, nats ((lose left cuts).take k ++ left.drop k)) :: L)) cuts.length
      ⟨0, by omega, rfl, rfl, hat, by rw [List.take_zero, List.drop_zero, List.nil_append]; exact o1⟩ ?_
    rintro a h2 m ⟨k, hk1, rfl, rfl, hat2, o2⟩
    dsimp only [uncur]
    refine ifT_dec (fun hlt => ⟨⟨by omega, hlt⟩, ?_⟩) fun hge => ?_
    · have hkl : k < cuts.length := by omega
      have hkl2 : k < left.length := by omega
      obtain ⟨c, hck, hcb1⟩ : ∃ c, cuts[k]? = some c ∧ c ≤ 1000000000 := ⟨cuts[k], List.getElem?_eq_getElem hkl, hcb _ (List.getElem_mem hkl)⟩
      obtain ⟨n, hnk, hnb⟩ : ∃ n, left[k]? = some n ∧ n ≤ 1000000000 := ⟨left[k], List.getElem?_eq_getElem hkl2, hle _ (List.getElem_mem hkl2)⟩
      have hcn : c ≤ n := by
        have := hcu.2 k hkl
        rwa [at_some hck, at_some hnk] at this
      obtain ⟨hs1, hs2⟩ := lose_step hcl hnk hck
      have hl3 : ((lose left cuts).take k ++ left.drop k).length = left.length := by rw [List.length_append, List.length_take, lose_length hcl, List.length_drop]; omega
      have hsll : sl.len = left.length := by
        have := o2.slen (s := sl) (cs := nats ((lose left cuts).take k ++ left.drop k)) (by simp)
        rw [nats_length, hl3] at this; exact this
      obtain ⟨b, hb, cb⟩ := o2.has (s := sl) (cs := nats ((lose left cuts).take k ++ left.drop k)) (sz := 1) (by simp) (nats_ne (by omega))
      have hbh : h b ≠ none := by
        obtain ⟨b', hb', cb'⟩ := o0.has (s := sl) (cs := nats left) (sz := 1) (by simp) (nats_ne (by omega))
        rw [hb] at hb'
        cases hb'
        rw [cb']; simp
      refine hat2.cell (nats_get hck) fun bb of hr => ⟨_, hr, ⟨sl, read_cell (o2.block List.mem_cons_self).1 rfl, ⟨by omega, by omega⟩, ?_⟩⟩
      refine (o2.at_ (sz := 1) (s := sl) (by simp)).cell (nats_get hs1) fun bb of hr => ⟨_, hr, ⟨by omega, by omega⟩, ?_⟩
      have ha : sl.a = some (b, 0) := by rw [hb]
      refine derefK_intro ha ?_
      have ev : IntKind.i64.wrap ((n : Int) - (c : Int)) = ((n - c : Nat) : Int) := by rw [w64 (by omega) (by omega)]; omega
      rw [ev]
      refine storeK_one cb (by rw [nats_length, hl3, Int.toNat_natCast]; omega) ⟨cuts.length - (k + 1), by omega, k + 1, by omega, ?_, rfl, ?_, ?_⟩
      · have h1 := take_sum_step hck
        have h2 := take_sum_le cuts (k + 1)
        rw [h1] at h2 ⊢
        generalize (cuts.take k).sum = y at *
        rw [w64 (by omega) (by omega), w64 (by omega) (by omega)]
        rfl
      · exact hat2.set_new nw hbh
      · rw [Nat.zero_add, Int.toNat_natCast, Nat.mul_one, nats_set, hs2]
        have o3 := o2.perm (List.Perm.swap _ _ _)
        rw [hb] at o3 ⊢
        have o4 := o3.change (n' := sl.len) (sz' := 1) (cs' := nats ((lose left cuts).take (k + 1) ++ left.drop (k + 1))) (by rw [nats_length, ← hs2, List.length_set, hl3]; omega)
        exact o4.perm (List.Perm.swap _ _ _)
    · have hkn : k = cuts.length := by omega
      subst hkn
      rw [List.take_of_length_le (by rw [lose_length hcl]; omega), List.drop_of_length_le (by omega), List.append_nil] at o2
      rw [List.take_length]
      exact hQ h2 o2
  refine ifT_dec (fun h1 => ?_) fun h1 => ?_
  · refine spec56 hI hp hx ho h1 hot1 hotl hle fun s' h' e a nw => ⟨s', rfl, hj _ _ ((hJ _ _).2 ⟨by omega, e, nw, ?_⟩)⟩
    unfold cutsF
    rw [if_pos h1]; exact a
  · refine joinK_intro J hj fun j2 hj2 => ?_
    refine ifT_dec (fun h2 => ?_) fun h2 => ?_
    · refine spec57 hI hp hx ho h2 hot1 hotl hle fun s' h' e a nw => ⟨s', rfl, hj2 _ _ ((hJ _ _).2 ⟨by omega, e, nw, ?_⟩)⟩
      unfold cutsF
      rw [if_neg h1, if_pos h2]; exact a
    refine ifT_dec (fun h3 => ?_) fun h3 => ?_
    · refine spec58 hI hp hx ho h3 hot1 hotl hle fun s' h' e a nw => ⟨s', rfl, hj2 _ _ ((hJ _ _).2 ⟨by omega, e, nw, ?_⟩)⟩
      unfold cutsF
      rw [if_neg h1, if_neg h2]; exact a
    · have hk : o.kind = 4 := by have := ho.kind; omega
      obtain ⟨ham, _, _, hm0, hm1, _, _⟩ := ho.n
      have ha : 1 ≤ o.a ∧ o.a ≤ 1000000000000 := by
        rcases ham with h1 | h1 | h1 <;> omega
      obtain ⟨g, hg⟩ := Int.eq_ofNat_of_zero_le hm0
      obtain ⟨A, hA⟩ := Int.eq_ofNat_of_zero_le (show 0 ≤ o.a by omega)
      unfold applyF at hQ
      rw [if_pos hk, hg, hA] at hQ
      simp only [Int.toNat_natCast] at hQ
      rw [hg, hA]
      refine ⟨(ship : Int), read_cell hp.cell rfl, ?_⟩
      refine joinK_intro (fun (n : Int) h' => h' = h ∧ n = ((capN g (min A ship) : Nat) : Int)) ?_ fun j3 hj3 => ifT_intro (fun h4 => hj3 _ _ ⟨rfl, ?_⟩) fun h4 => hj3 _ _ ⟨rfl, ?_⟩
      · rintro _ h' ⟨rfl, rfl⟩
        refine ⟨(ship : Int), read_cell hp.cell rfl, ?_⟩
        have hc : capN g (min A ship) ≤ ship := by unfold capN; split <;> omega
        have ev : IntKind.i64.wrap ((ship : Int) - ((capN g (min A ship) : Nat) : Int)) = ((ship - capN g (min A ship) : Nat) : Int) := by rw [w64 (by omega) (by omega)]; omega
        rw [ev]
        refine storeK_one hp.cell (by show 0 + 3 < 4; decide) (hQ _ ?_)
        exact o0.change rfl
      · have := nd h4
        unfold capN; rw [if_neg (by omega)]; omega
      · have := nd' h4
        unfold capN; rw [if_pos (by omega)]; omega
end
end Go.Proofs.YtfemminjhecocaaGreatVc
