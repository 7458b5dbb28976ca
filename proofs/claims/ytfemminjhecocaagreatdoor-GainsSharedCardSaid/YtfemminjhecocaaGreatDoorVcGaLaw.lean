/- GainsAddUp: the contract of Attribute, and the law's. -/
import Derived.Test.YtfemminjhecocaaGreatDoorVcGaSpec
import Derived.Test.YtfemminjhecocaaGreatDoorVcGaKeys
set_option linter.unusedSimpArgs false
set_option linter.unusedVariables false
namespace Go.Proofs.YtfemminjhecocaaGreatDoorVc
open Go.Proofs.YtfemminjhecocaaGreatDoorLasts
open Go.Proofs.Tryz (prog)
def attrs (xs : List Sent) (how span : Int) (gs : List Gain) : List Cr × Nat := gs.foldl (attrF xs how span) ([], 0)
theorem attrs_snoc (xs : List Sent) (how span : Int) (gs : List Gain) (g : Gain) : attrs xs how span (gs ++ [g]) = attrF xs how span (attrs xs how span gs) g := by unfold attrs; rw [List.foldl_append]; rfl
/-- The row of a letter. -/
def lookC (acc : List Cr) (L : ByteArray) : Cr := (acc.find? fun r => decide (r.letter = L)).getD ⟨L, 0, 0⟩
theorem lookC_of {acc : List Cr} (hnd : (acc.map (·.letter)).Nodup) {q : Nat} {r : Cr} (h : acc[q]? = some r) : lookC acc r.letter = r := by
  unfold lookC
  cases hf : acc.find? (fun x => decide (x.letter = r.letter)) with
  | none =>
    have := List.find?_eq_none.1 hf r (List.mem_of_getElem? h)
    simp at this
  | some y =>
    have h1 := List.mem_of_find?_eq_some hf
    have h2 : y.letter = r.letter := by simpa using List.find?_some hf
    obtain ⟨i, hi, rfl⟩ := List.mem_iff_getElem.1 h1
    obtain ⟨hq, rfl⟩ := List.getElem?_eq_some_iff.1 h
    have : i = q := by
      refine (List.getElem_inj (h₀ := by simpa using hi) (h₁ := by simpa using hq) hnd).1 ?_
      simpa using h2
    subst this; rfl
theorem look_perm {acc : List Cr} {zs : List ByteArray} (hnd : (acc.map (·.letter)).Nodup) (hp : zs.Perm (acc.map (·.letter))) : (zs.map (lookC acc)).Perm acc := by
  have h1 := hp.map (lookC acc)
  rw [List.map_map] at h1
  have h2 : acc.map (lookC acc ∘ fun r => r.letter) = acc := by
    conv => rhs; rw [← List.map_id acc]
    refine List.map_congr_left fun r hr => ?_
    obtain ⟨q, hq, rfl⟩ := List.mem_iff_getElem.1 hr
    exact lookC_of hnd (List.getElem?_eq_getElem hq)
  rw [h2] at h1; exact h1
theorem perm_sum {a b : List Nat} (h : a.Perm b) : a.sum = b.sum := h.sum_nat
/-- What holds behind some gains. -/
theorem attrs_in (xs : List Sent) (how span : Int) : ∀ (n : Nat) (gs : List Gain), n = gs.length → (CrIn n ((gs.map fun g => g.cents.toNat).sum - (attrs xs how span gs).2) ((attrs xs how span gs).1, []) ∧ (attrs xs how span gs).2 ≤ (gs.map fun g => g.cents.toNat).sum) ∧ ((attrs xs how span gs).1.map (·.letter)).Nodup
  | 0, gs, h => by
    have : gs = [] := List.length_eq_zero_iff.1 h.symm
    subst this
    exact ⟨⟨⟨by simp [attrs], by simp [attrs], by simp [attrs], by simp⟩, by simp [attrs]⟩, by simp [attrs]⟩
  | n + 1, gs, h => by
    rcases List.eq_nil_or_concat gs with rfl | ⟨ys, y, rfl⟩
    · simp at h
    · rw [List.concat_eq_append] at h ⊢
      obtain ⟨⟨h1, h2⟩, h3⟩ := attrs_in xs how span n ys (by simpa using h)
      rw [attrs_snoc]
      unfold attrF
      rw [List.map_append, List.sum_append]
      simp only [List.map_cons, List.map_nil, List.sum_cons, List.sum_nil, Nat.add_zero]
      split
      · refine ⟨⟨?_, by simp only; omega⟩, h3⟩
        have e : (ys.map fun g => g.cents.toNat).sum + y.cents.toNat - ((attrs xs how span ys).2 + y.cents.toNat) = (ys.map fun g => g.cents.toNat).sum - (attrs xs how span ys).2 := by omega
        simp only
        rw [e]
        exact ⟨h1.low, fun r hr => by have := h1.high r hr; simp at this ⊢; omega, h1.sum, by simp⟩
      · rename_i hp
        refine ⟨⟨?_, by simp only; omega⟩, ?_⟩
        · have e : (ys.map fun g => g.cents.toNat).sum + y.cents.toNat - (attrs xs how span ys).2 = (ys.map fun g => g.cents.toNat).sum - (attrs xs how span ys).2 + y.cents.toNat := by omega
          simp only
          rw [e]
          exact creditF_in h1 hp
        · exact foldC_nodup _ _ h3
theorem scanG_ok2 : ∀ (l pre : List Gain), scanG pre l = 0 → ∀ g ∈ l, moment g.at_ ∧ 0 ≤ g.cents ∧ g.cents ≤ 1000000000000
  | [], _, _, _, h => by cases h
  | x :: l, pre, h, g, hg => by
    simp only [scanG] at h
    split at h
    · cases h
    split at h
    · cases h
    split at h
    · cases h
    split at h
    · cases h
    rename_i h1
    split at h
    · cases h
    rename_i h2
    rcases List.mem_cons.1 hg with rfl | hg
    · exact ⟨Decidable.of_not_not h1, Decidable.of_not_not h2⟩
    · exact scanG_ok2 l _ h g hg
theorem scanS_letters : ∀ (l pre : List Sent), scanS pre l = 0 → ∀ x ∈ l, isKey x.letter = true
  | [], _, _, _, h => by cases h
  | x :: l, pre, h, y, hy => by
    simp only [scanS] at h
    split at h
    · cases h
    split at h
    · cases h
    split at h
    · cases h
    rename_i h3
    split at h
    · cases h
    split at h
    · cases h
    have h3 : isKey x.person = true ∧ isKey x.letter = true := by simpa using h3
    rcases List.mem_cons.1 hy with rfl | hy
    · exact h3.2
    · exact scanS_letters l _ h y hy
theorem isKey_size {s : ByteArray} (h : isKey s = true) : s.size ≤ 1000 := by
  unfold isKey at h
  rw [bl_size]
  cases hb : bl s with
  | nil => simp
  | cons b l => rw [hb] at h; simp only [isKeyL, Bool.and_eq_true, decide_eq_true_eq] at h; simp; omega
theorem foldC_lets (P : ByteArray → Prop) : ∀ (ts : List Tr) (p : List Cr × List ByteArray), (∀ r ∈ p.1, P r.letter) → (∀ t ∈ ts, P t.1) → ∀ r ∈ (foldC p ts).1, P r.letter
  | [], _, h, _ => h
  | t :: ts, p, h, ht => by
    refine foldC_lets P ts (stepC p t) (fun r hr => ?_) fun t' ht' => ht t' (by simp [ht'])
    have hP := ht t (by simp)
    unfold stepC at hr
    split at hr
    · exact h r hr
    split at hr
    all_goals
      rcases addC_mem hr with h1 | ⟨r0, _, _, rfl⟩ | ⟨_, rfl⟩
      · exact h r h1
      · exact hP
      · exact hP
theorem attrs_lets (xs : List Sent) (how span : Int) (hk : ∀ x ∈ xs, isKey x.letter = true) : ∀ (n : Nat) (gs : List Gain), n = gs.length → ∀ r ∈ (attrs xs how span gs).1, r.letter.size ≤ 1000
  | 0, gs, h, r, hr => by
    have : gs = [] := List.length_eq_zero_iff.1 h.symm
    subst this
    cases hr
  | n + 1, gs, h, r, hr => by
    rcases List.eq_nil_or_concat gs with rfl | ⟨ys, y, rfl⟩
    · simp at h
    · rw [List.concat_eq_append] at h hr
      have ih := attrs_lets xs how span hk n ys (by simpa using h)
      rw [attrs_snoc] at hr
      unfold attrF at hr
      split at hr
      · exact ih r hr
      · refine foldC_lets (fun l => l.size ≤ 1000) _ _ ih (fun t ht => ?_) r hr
        unfold trs at ht
        obtain ⟨k, hk2, rfl⟩ := List.mem_iff_getElem.1 ht
        rw [List.getElem_zipWith]
        simp only
        obtain ⟨x, hx, _⟩ := pathL_mem (List.getElem_mem (l := pathL xs y span) (n := k) (by simp only [List.length_zipWith] at hk2; omega))
        unfold letOf
        rw [hx]
        exact isKey_size (hk x (List.mem_of_getElem? hx))
theorem attrs_few (xs : List Sent) (how span : Int) (gs : List Gain) (h : ∀ r ∈ (attrs xs how span gs).1, 1 ≤ r.gains) : True := trivial
theorem foldC_length : ∀ (ts : List Tr) (p : List Cr × List ByteArray), (foldC p ts).1.length ≤ p.1.length + ts.length
  | [], _ => by simp [foldC]
  | t :: ts, p => by
    have h1 := foldC_length ts (stepC p t)
    have h2 : (stepC p t).1.length ≤ p.1.length + 1 := by
      have key : ∀ (acc : List Cr) L d b, (addC acc L d b).length ≤ acc.length + 1 := by
        intro acc L d b
        induction acc with
        | nil => simp [addC]
        | cons x l ih => unfold addC; split <;> simp <;> omega
      unfold stepC
      split
      · omega
      split
      · exact key _ _ _ _
      · exact key _ _ _ _
    show (foldC (stepC p t) ts).1.length ≤ _
    simp only [List.length_cons]; omega
theorem attrs_length (xs : List Sent) (how span : Int) : ∀ (n : Nat) (gs : List Gain), n = gs.length → (attrs xs how span gs).1.length ≤ 12 * n
  | 0, gs, h => by
    have : gs = [] := List.length_eq_zero_iff.1 h.symm
    subst this
    simp [attrs]
  | n + 1, gs, h => by
    rcases List.eq_nil_or_concat gs with rfl | ⟨ys, y, rfl⟩
    · simp at h
    · rw [List.concat_eq_append] at h ⊢
      have ih := attrs_length xs how span n ys (by simpa using h)
      rw [attrs_snoc]
      unfold attrF
      split
      · simp only; omega
      · simp only
        have hp12 := pathL_length xs y span
        have h1 := foldC_length (trs xs (pathL xs y span) (shared y.cents.toNat (wNats how span (ages xs y (pathL xs y span)))) (wNats how span (ages xs y (pathL xs y span)))) ((attrs xs how span ys).1, [])
        have h2 : (trs xs (pathL xs y span) (shared y.cents.toNat (wNats how span (ages xs y (pathL xs y span)))) (wNats how span (ages xs y (pathL xs y span)))).length ≤ (pathL xs y span).length := by unfold trs; rw [List.length_zipWith]; omega
        have h3 : (creditF xs how span y (attrs xs how span ys).1).length ≤ (attrs xs how span ys).1.length + 12 := by
          unfold creditF; simp only at h1; omega
        omega
theorem attrs_small (xs : List Sent) (how span : Int) (n : Nat) (gs : List Gain) (hn : n = gs.length) (hc : ∀ g ∈ gs, g.cents ≤ 1000000000000) : ∀ r ∈ (attrs xs how span gs).1, r.gains ≤ n ∧ r.cents ≤ n * 1000000000000 := by
  intro r hr
  obtain ⟨⟨h1, h2⟩, h3⟩ := attrs_in xs how span n gs hn
  have h4 := h1.high r hr
  have h5 : r.cents ≤ ((attrs xs how span gs).1.map (·.cents)).sum := mem_le_sum (List.mem_map_of_mem hr)
  have h6 := h1.sum
  simp only at h6
  have h7 : (gs.map fun g => g.cents.toNat).sum ≤ 1000000000000 * (gs.map fun g => g.cents.toNat).length := sum_le fun x hx => by
    obtain ⟨g, hg, rfl⟩ := List.mem_map.1 hx
    have := hc g hg; omega
  rw [List.length_map, ← hn] at h7
  simp at h4
  exact ⟨h4, by omega⟩
section
variable {I : Calls} {Q : Post} {h : Heap}
def errT (xs : List Sent) (gs : List Gain) : Int := if errS xs ≠ 0 then errS xs else errG gs
theorem spec27 (hI : Closed' prog Pm I) {s1 s2 : Sl} {xs : List Sent} {gs : List Gain} {how span : Int} (hs : At h 4 s1 (rows sentC xs)) (hg : At h 4 s2 (rows gainC gs)) (hxl : xs.length ≤ 30) (hgl : gs.length ≤ 30) (hhow : 1 ≤ how ∧ how ≤ 6) (hsp : 1 ≤ span ∧ span ≤ 4321440)
    (hbad : ∀ h', Ext h h' → errT xs gs ≠ 0 → Q [.one (.slice 3 ⟨none, 0⟩), int 0, int (errT xs gs)] h')
    (hQ : ∀ (s' : Sl) (zs : List ByteArray) h', errT xs gs = 0 → Ext h h' → zs.Perm ((attrs xs how span gs).1.map (·.letter)) → zs.Pairwise (fun a b => bl a ≤ bl b) → At h' 3 s' (rows crC (zs.map (lookC (attrs xs how span gs).1))) → Q [.one (.slice 3 s'), int ((attrs xs how span gs).2 : Nat), int 0] h') :
    I 27 [.one (.slice 4 s1), .one (.slice 4 s2), int how, int span] Q h := by
  have hl1 : s1.len = xs.length := hs.rowsLen sentC_length (by decide)
  have hl2 : s2.len = gs.length := hg.rowsLen gainC_length (by decide)
  refine hI.go _ _ (den27 I s1 s2 how span Q) ?_
  refine spec70 hI hs (by omega) fun h1 e1 => ⟨_, rfl, ifT_intro (fun hb => ?_) fun hb => ?_⟩
  · have e : errT xs gs = errS xs := by unfold errT; rw [if_pos (nd hb)]
    have := hbad h1 e1 (by rw [e]; exact nd hb)
    rw [e] at this; exact this
  have hS : errS xs = 0 := Decidable.of_not_not (nd' hb)
  have eT : errT xs gs = errG gs := by unfold errT; rw [if_neg (by rw [hS]; simp)]
  refine spec71 hI (e1.at_ hg) (by omega) fun h2 e2 => ⟨_, rfl, ifT_intro (fun hb => ?_) fun hb => ?_⟩
  · have := hbad h2 (e1.trans e2) (by rw [eT]; exact nd hb)
    rw [eT] at this; exact this
  have hG : errG gs = 0 := Decidable.of_not_not (nd' hb)
  have hE : errT xs gs = 0 := by rw [eT, hG]
  have hgok := scanG_ok2 gs [] hG
  have hmom := scanS_ok xs [] hS
  have hkey := scanS_letters xs [] hS
  refine spec72 hI hhow hsp ⟨_, rfl, ifT_intro (fun hb => absurd rfl (nd hb)) fun _ => ?_⟩
  have e12 := e1.trans e2
  have hs2 := e12.at_ hs
  have hg2 := e12.at_ hg
  refine newK_intro fun m h3 hn3 he3 => ?_
  refine loopK_intro (fun (a : Int × Int) h' mm => ∃ (k : Nat) (bs : List Nat), k ≤ gs.length ∧ a.2 = (k : Int) ∧ mm = gs.length - k ∧ a.1 = (((attrs xs how span (gs.take k)).2 : Nat) : Int) ∧ h' m = some (.map (rowM ((attrs xs how span (gs.take k)).1.map (·.letter)) bs)) ∧ RwsG crC h2 h' bs (attrs xs how span (gs.take k)).1) gs.length
    ⟨0, [], by omega, rfl, rfl, rfl, by rw [he3, set_eq]; rfl, ⟨he3 ▸ Ext.new hn3, rfl, by simp, by simp, by simp⟩⟩ ?_
  rintro ⟨none_, y⟩ h4 mm ⟨k, bs, hk, rfl, rfl, rfl, hm, R⟩
  dsimp only [uncur]
  have ex := R.ext
  obtain ⟨⟨hin, hnone⟩, hnd⟩ := attrs_in xs how span k (gs.take k) (by rw [List.length_take]; omega)
  have hsm := attrs_small xs how span k (gs.take k) (by rw [List.length_take]; omega) fun g hg => (hgok g (List.mem_of_mem_take hg)).2.2
  have hsum : (gs.take k).map (fun g => g.cents.toNat) = (gs.take k).map (fun g => g.cents.toNat) := rfl
  have hts : ((gs.take k).map fun g => g.cents.toNat).sum ≤ 1000000000000 * ((gs.take k).map fun g => g.cents.toNat).length := sum_le fun x hx => by
    obtain ⟨g, hg, rfl⟩ := List.mem_map.1 hx
    have := (hgok g (List.mem_of_mem_take hg)).2.2; omega
  rw [List.length_map, List.length_take, Nat.min_eq_left hk] at hts
  refine ifT_dec (fun hlt => ⟨⟨by omega, hlt⟩, ?_⟩) fun hge => ?_
  · have hx := List.getElem?_eq_getElem (show k < gs.length by omega)
    generalize gs[k] = g at hx
    have ht : gs.take (k + 1) = gs.take k ++ [g] := by rw [List.take_add_one, hx]; rfl
    obtain ⟨hgm, hgc⟩ := hgok g (List.mem_of_getElem? hx)
    have ew : IntKind.i64.wrap ((k : Int) + 1) = ((k + 1 : Nat) : Int) := by rw [w64] <;> omega
    refine (ex.at_ hg2).row gainC_length (by decide) hx fun bb oo hr => ⟨g.id, g.person, g.at_, g.cents, hr, ?_⟩
    refine spec73 hI (ex.at_ hs2) (by omega) hmom hgm fun sp h5 e5 nw5 a5 => ⟨sp, rfl, ?_⟩
    have hspl : sp.len = (pathL xs g span).length := by rw [a5.len1, nats_length]
    have hm5 := e5 _ _ hm
    have R5 : RwsG crC h2 h5 bs (attrs xs how span (gs.take k)).1 := ⟨ex.trans e5, R.len, fun q b r hb hr => e5 _ _ (R.cell q b r hb hr), R.new, R.nodup⟩
    rw [ew]
    refine ifT_dec (fun hpos => ?_) fun hpos => ?_
    · have hne : pathL xs g span ≠ [] := fun e => by rw [e] at hspl; simp at hspl; omega
      have hat : attrs xs how span (gs.take (k + 1)) = (creditF xs how span g (attrs xs how span (gs.take k)).1, (attrs xs how span (gs.take k)).2) := by
        rw [ht, attrs_snoc]; unfold attrF; rw [if_neg hne]
      refine spec74 hI (g := g) (m := m) (h0 := h2) (G := k) (C := k * 1000000000000) hs2 hxl hmom a5 (fun j o ha hj => ?_) hne hgm hgc hsp hm5 hn3 R5 hnd hsm (by omega) (by omega) fun h6 bs6 hm6 R6 => ⟨rfl, gs.length - (k + 1), by omega, k + 1, bs6, by omega, rfl, rfl, by rw [hat], by rw [hat]; exact hm6, by rw [hat]; exact R6⟩
      have h9 := nw5 j o ha
      rcases List.mem_cons.1 hj with rfl | hj
      · rw [hm] at h9; cases h9
      · obtain ⟨r, hr⟩ := R.get hj
        rw [hr] at h9; cases h9
    · have he : pathL xs g span = [] := List.length_eq_zero_iff.1 (by omega)
      have hat : attrs xs how span (gs.take (k + 1)) = ((attrs xs how span (gs.take k)).1, (attrs xs how span (gs.take k)).2 + g.cents.toNat) := by
        rw [ht, attrs_snoc]; unfold attrF; rw [if_pos he]
      exact ⟨gs.length - (k + 1), by omega, k + 1, bs, by omega, rfl, rfl, by rw [hat]; show IntKind.i64.wrap _ = _; rw [w64 (by omega) (by omega)]; simp only; omega, by rw [hat]; exact hm5, by rw [hat]; exact R5⟩
  have hkn : k = gs.length := by omega
  subst hkn
  rw [List.take_length] at hm R hnd ⊢
  have hal := attrs_length xs how span _ gs rfl
  have hlsz := attrs_lets xs how span hkey _ gs rfl
  obtain ⟨acc, hacc⟩ : ∃ acc, (attrs xs how span gs).1 = acc := ⟨_, rfl⟩
  rw [hacc] at hm R hnd hal hlsz hQ
  have hlen : (acc.map (·.letter)).length = bs.length := by rw [List.length_map, R.len]
  refine hI.prim _ _ _ _ (.inl (.inl ⟨rfl, m, rfl, by rw [hm]; simp, fun i96 hn96 => ⟨_, rfl, ?_⟩⟩))
  have e96 := Ext.new (o := .pin (.map (some m))) hn96
  obtain ⟨g7, hg7⟩ : ∃ g7, h4.set i96 (.pin (.map (some m))) = g7 := ⟨_, rfl⟩
  have h96 : g7 i96 = some (.pin (.map (some m))) := by rw [← hg7, set_eq]
  rw [hg7] at e96 ⊢
  refine hI.prim _ _ _ _ (.inl (.inr ⟨rfl, i96, m, _, acc.map (fun r : Cr => r.letter), rfl, h96, e96 _ _ hm, rowM_keys hlen, by rw [List.length_map]; omega, fun l hl => ?_, fun s' zs g8 hzp hzs own => ⟨_, rfl, ?_⟩⟩))
  · obtain ⟨r, hr, rfl⟩ := List.mem_map.1 hl
    exact hlsz r hr
  have hzl : zs.length = acc.length := by rw [hzp.length_eq, List.length_map]
  have e8 := e96.trans own.ext
  have hat8 := own.at_
  have hsl' : s'.len = zs.length := by have := own.len; simpa using this
  refine loopK_intro (fun (a : Sl × Int) h'' mm => ∃ j : Nat, j ≤ zs.length ∧ a.2 = (j : Int) ∧ mm = zs.length - j ∧ Owns g8 h'' [(3, a.1, rows crC ((zs.take j).map (lookC acc)))]) zs.length ⟨0, by omega, rfl, rfl, (Owns.nil g8).none_ 3⟩ ?_
  rintro ⟨out, y⟩ g9 mm ⟨j, hj, rfl, rfl, o9⟩
  dsimp only [uncur] at o9 ⊢
  have hol : out.len = j := by
    have := (o9.at_ (s := out) List.mem_cons_self).rowsLen crC_length (by decide)
    rw [List.length_map, List.length_take] at this; omega
  have e9 := e8.trans o9.ext
  refine ifT_dec (fun hlt => ⟨⟨by omega, hlt⟩, ?_⟩) fun hge => ?_
  · have hx := List.getElem?_eq_getElem (show j < zs.length by omega)
    generalize zs[j] = z at hx
    obtain ⟨q, b, c1, c2, c3⟩ := rowM_get hlen (hzp.mem_iff.1 (List.mem_of_getElem? hx))
    rw [List.getElem?_map] at c1
    cases hr : acc[q]? with
    | none => rw [hr] at c1; cases c1
    | some r =>
      rw [hr] at c1
      have hrz : r.letter = z := by simpa using c1
      have hlk : lookC acc z = r := by rw [← hrz]; exact lookC_of hnd hr
      have hcell := e9 _ _ (R.cell q b r c2 hr)
      refine (o9.ext.at_ hat8).cell (c := .str z) (by rw [List.getElem?_map, hx]; rfl) fun bb oo hr2 => ⟨z, hr2, some (b, 0), true, ⟨_, mapOf_some (e9 _ _ hm), c3⟩, ?_⟩
      refine derefK_intro rfl ⟨_, _, _, (read_block hcell (show 0 + 3 ≤ 3 by decide)).trans rfl, ?_⟩
      refine appendTo_owns (m := 0) o9 rfl (by omega) (by simp) fun bn h10 o10 => ⟨zs.length - (j + 1), by omega, j + 1, by omega, by show IntKind.i64.wrap _ = _; rw [w64 (by omega) (by omega)]; rfl, rfl, ?_⟩
      have et : zs.take (j + 1) = zs.take j ++ [z] := by rw [List.take_add_one, hx]; rfl
      rw [et, List.map_append, rows_append]
      have : rows crC ([z].map (lookC acc)) = crC r := by simp [rows, hlk]
      rw [this]; exact o10
  · have hjn : j = zs.length := by omega
    subst hjn
    rw [List.take_length] at o9
    exact hQ out zs g9 hE ((e12.trans ex).trans e9) hzp hzs (o9.at_ List.mem_cons_self)
end
section
variable {I : Calls} {h : Heap}
theorem spec5 (hI : Closed' prog Pm I) {s : Sl} {zs : List Int} (hs : At h 1 s (ints zs)) : I 5 [.one (.slice 1 s)] tru h := by
  refine hI.go _ _ (den5 I s tru) ?_
  refine newK_intro fun i2 h1 hn1 he1 => ?_
  have S0 : Strm h1 i2 s zs 0 := he1 ▸ Strm.make hs hn1
  refine spec24 hI S0 S0.owns (by decide) fun l6 h6 xs t6 o6 ht6 hxl => ⟨l6, rfl, ?_⟩
  refine spec25 hI S0 o6 (by omega) fun l9 h9 gs t9 o9 ht9 hgl => ⟨l9, rfl, ?_⟩
  refine specRange hI (o9.toStrm S0 (t' := t9) (by simp) (by omega)) (by decide) (by decide) (by decide) fun how h1 h2 => ⟨how, rfl, ?_⟩
  have o10 := o9.next (t' := t9 + 1)
  refine newK_intro fun i13 h14 hn14 he14 => ?_
  have hne := o10.lit_ne hn14
  have o14 := o10.mono (he14 ▸ Ext.new hn14 : Ext _ h14)
  refine spec20 hI (xs := [1, 50, 300, 1000]) (o14.toStrm S0 (t' := t9 + 1) (by simp) (by omega)) (lit_at hne he14 rfl) (by simp) (by simp) fun span hsp => ⟨span, rfl, ?_⟩
  have o15 := o14.next (t' := t9 + 1 + 1)
  obtain ⟨h15, hh15⟩ : ∃ h15, h14.set i2 (strm s (t9 + 1 + 1)) = h15 := ⟨_, rfl⟩
  rw [hh15] at o15 ⊢
  have hsp : 1 ≤ span ∧ span ≤ 4321440 := by simp only [List.mem_cons, List.not_mem_nil, or_false] at hsp; omega
  have hat1 := o15.at_ (sz := 4) (s := l6) (cs := rows sentC xs) (by simp)
  have hat2 := o15.at_ (sz := 4) (s := l9) (cs := rows gainC gs) (by simp)
  have hl9 : l9.len = gs.length := hat2.rowsLen gainC_length (by decide)
  refine spec27 hI hat1 hat2 hxl hgl ⟨h1, h2⟩ hsp (fun g1 e1 hb => ⟨_, _, _, rfl, ?_⟩) fun s1 z1 g1 hE e1 hp1 hz1 a1 => ⟨_, _, _, rfl, ?_⟩
  · refine ifT_intro (fun _ => ?_) fun h9 => absurd hb (nd' h9)
    refine joinK_intro (fun (b : Bool) h' => b = true) (fun a g hb => by rw [hb]; rfl) fun j hj => ?_
    refine spec28 hI ⟨true, rfl, ifT_intro (fun _ => ?_) fun h9 => by cases h9⟩
    refine spec29 hI (e1.at_ hat1) (by omega) fun g2 e2 => ⟨_, rfl, ifT_intro (fun _ => hj _ _ rfl) fun h9 => ?_⟩
    have hS : errS xs = 0 := Decidable.of_not_not (nd' h9)
    refine spec30 hI ((e1.trans e2).at_ hat2) (by omega) fun g3 e3 => ⟨_, rfl, hj _ _ ?_⟩
    unfold errT at hb
    rw [if_neg (by rw [hS]; simp)] at hb
    simpa using hb
  refine ifT_intro (fun h9 => absurd rfl (nd h9)) fun _ => ?_
  have hG : errG gs = 0 := by
    by_cases h9 : errS xs = 0
    · unfold errT at hE; rw [if_neg (by rw [h9]; simp)] at hE; exact hE
    · unfold errT at hE; rw [if_pos h9] at hE; exact absurd hE h9
  have hgok := scanG_ok2 gs [] hG
  obtain ⟨⟨hin, hnone⟩, hnd⟩ := attrs_in xs how span _ gs rfl
  have hperm := look_perm hnd hp1
  obtain ⟨out, hout⟩ : ∃ out, z1.map (lookC (attrs xs how span gs).1) = out := ⟨_, rfl⟩
  rw [hout] at a1 hperm
  have hl1 : s1.len = out.length := a1.rowsLen crC_length (by decide)
  have holn : out.length ≤ 12 * gs.length := by rw [hperm.length_eq]; exact attrs_length xs how span _ gs rfl
  have hosum : (out.map (·.cents)).sum = (gs.map fun g => g.cents.toNat).sum - (attrs xs how span gs).2 := by rw [perm_sum (hperm.map _)]; exact hin.sum
  have hrow : ∀ r ∈ out, 1 ≤ r.gains ∧ r.gains ≤ gs.length := fun r hr => by
    have hr := hperm.mem_iff.1 hr
    have := hin.low r hr
    have := hin.high r hr
    simp at this
    omega
  have hts : ∀ k, ((gs.take k).map fun g => g.cents.toNat).sum ≤ 1000000000000 * ((gs.take k).map fun g => g.cents.toNat).length := fun k => sum_le fun x hx => by
    obtain ⟨g, hg, rfl⟩ := List.mem_map.1 hx
    have := (hgok g (List.mem_of_mem_take hg)).2.2; omega
  have hat3 := e1.at_ hat2
  refine loopK_intro (fun (a : Int × Int) h' mm => h' = g1 ∧ ∃ k : Nat, k ≤ gs.length ∧ a = (((((gs.take k).map fun g => g.cents.toNat).sum : Nat) : Int), (k : Int)) ∧ mm = gs.length - k) gs.length ⟨rfl, 0, by omega, rfl, rfl⟩ ?_
  rintro a h' mm ⟨rfl, k, hk, rfl, rfl⟩
  dsimp only [uncur]
  have htk := hts k
  rw [List.length_map, List.length_take, Nat.min_eq_left hk] at htk
  refine ifT_dec (fun hlt => ⟨⟨by omega, hlt⟩, ?_⟩) fun hge => ?_
  · have hx := List.getElem?_eq_getElem (show k < gs.length by omega)
    generalize gs[k] = g at hx
    have ht : gs.take (k + 1) = gs.take k ++ [g] := by rw [List.take_add_one, hx]; rfl
    have hgc := (hgok g (List.mem_of_getElem? hx)).2
    refine hat3.row gainC_length (by decide) hx fun bb oo hr => ⟨g.id, g.person, g.at_, g.cents, hr, gs.length - (k + 1), by omega, rfl, k + 1, by omega, ?_, rfl⟩
    rw [ht, List.map_append, List.sum_append, w64 (by omega) (by omega), w64 (by omega) (by omega)]
    simp only [List.map_cons, List.map_nil, List.sum_cons, List.sum_nil, Nat.add_zero, Prod.mk.injEq]
    omega
  have hkn : k = gs.length := by omega
  subst hkn
  rw [List.take_length] at htk ⊢
  refine loopK_intro (fun (a : Int × Int) g2 mm => g2 = h' ∧ ∃ j : Nat, j ≤ out.length ∧ a = ((((gs.map fun g => g.cents.toNat).sum : Nat) : Int) - (((out.take j).map (·.cents)).sum : Nat), (j : Int)) ∧ mm = out.length - j) out.length ⟨rfl, 0, by omega, by simp, rfl⟩ ?_
  rintro a g2 mm ⟨rfl, j, hj, rfl, rfl⟩
  dsimp only [uncur]
  have hjs : ((out.take j).map (·.cents)).sum ≤ (out.map (·.cents)).sum := by rw [List.map_take]; exact take_sum_le _ j
  refine ifT_dec (fun hlt => ⟨⟨by omega, hlt⟩, ?_⟩) fun hge => ?_
  · have hx := List.getElem?_eq_getElem (show j < out.length by omega)
    generalize out[j] = r at hx
    have ht : out.take (j + 1) = out.take j ++ [r] := by rw [List.take_add_one, hx]; rfl
    have hr1 := hrow r (List.mem_of_getElem? hx)
    have hjs2 : ((out.take (j + 1)).map (·.cents)).sum ≤ (out.map (·.cents)).sum := by rw [List.map_take]; exact take_sum_le _ (j + 1)
    rw [ht, List.map_append, List.sum_append] at hjs2
    simp only [List.map_cons, List.map_nil, List.sum_cons, List.sum_nil, Nat.add_zero] at hjs2
    refine a1.row crC_length (by decide) hx fun bb oo hr => ⟨_, _, _, hr, ifT_dec (fun h9 => ?_) fun _ => ifT_dec (fun h9 => ?_) fun _ => ifT_dec (fun h9 => ?_) fun _ => ?_⟩
    · omega
    · rw [hl9] at h9; omega
    · omega
    refine ⟨out.length - (j + 1), by omega, rfl, j + 1, by omega, ?_, rfl⟩
    rw [ht, List.map_append, List.sum_append, w64 (by omega) (by omega), w64 (by omega) (by omega)]
    simp only [List.map_cons, List.map_nil, List.sum_cons, List.sum_nil, Nat.add_zero, Prod.mk.injEq]
    omega
  · have hjn : j = out.length := by omega
    subst hjn
    rw [List.take_length]
    refine spec28 hI ⟨true, rfl, ifT_intro (fun _ => ?_) fun h9 => by cases h9⟩
    have : decide ((((gs.map fun g => g.cents.toNat).sum : Nat) : Int) - ((out.map (·.cents)).sum : Nat) = ((attrs xs how span gs).2 : Nat)) = true := decide_eq_true (by rw [hosum]; omega)
    rw [this]; rfl
end
theorem pm_sound : Sound prog Pm := or_sound (or_sound keysP_sound sortedP_sound) (cmp_sound Go.Proofs.Tryz.func168 (by kernel_rfl) (by kernel_rfl) (by kernel_rfl) (by kernel_rfl))
end Go.Proofs.YtfemminjhecocaaGreatDoorVc
