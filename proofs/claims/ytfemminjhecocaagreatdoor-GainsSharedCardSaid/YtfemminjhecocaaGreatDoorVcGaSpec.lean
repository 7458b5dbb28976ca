/- GainsAddUp: the contract of credit. -/
import Derived.Test.YtfemminjhecocaaGreatDoorVcGaMath
set_option linter.unusedSimpArgs false
set_option linter.unusedVariables false
namespace Go.Proofs.YtfemminjhecocaaGreatDoorVc
open Go.Proofs.YtfemminjhecocaaGreatDoorLasts
open Go.Proofs.Tryz (prog)
theorem seen_any {s : ByteArray} {l : List ByteArray} : (l.any fun y => decide (y = s)) = true ↔ s ∈ l := by simp
theorem lies_blk {h : Heap} {k b o : Nat} {s : Sl} {xs : List Cell} (hs : At h k s xs) (hne : 0 < xs.length) (ha : s.a = some (b, o)) : h b ≠ none := by
  obtain ⟨b', o', ha', hr⟩ := hs.lies hne
  rw [ha] at ha'
  cases ha'
  intro hb
  unfold Heap.read at hr
  rw [hb] at hr
  cases hr
section
variable {I : Calls} {Q : Post} {h : Heap}
theorem spec72 (hI : Closed' prog Pm I) {how span : Int} (h1 : 1 ≤ how ∧ how ≤ 6) (h2 : 1 ≤ span ∧ span ≤ 4321440) (hQ : Q [int 0] h) : I 72 [int how, int span] Q h := by
  refine hI.go _ _ (den72 I how span Q) ?_
  refine spec85 hI ⟨_, rfl, ifT_intro (fun h9 => ?_) fun _ => spec85 hI ⟨_, rfl, ifT_intro (fun h9 => ?_) fun _ => hQ⟩⟩
  · simp [h1.1, h1.2] at h9
  · simp [h2.1, h2.2] at h9
theorem spec74 (hI : Closed' prog Pm I) {h0 : Heap} {m : Nat} {s1 sp : Sl} {xs : List Sent} {g : Gain} {how span : Int} {acc : List Cr} {bs : List Nat} {G C : Nat}
    (hs : At h0 4 s1 (rows sentC xs)) (hxl : xs.length ≤ 30) (hmom : ∀ x ∈ xs, moment x.at_) (hp : At h 1 sp (nats (pathL xs g span))) (hnew : ∀ j o, sp.a = some (j, o) → j ∉ m :: bs) (hpl : pathL xs g span ≠ []) (hgm : moment g.at_) (hgc : 0 ≤ g.cents ∧ g.cents ≤ 1000000000000) (hspan : 1 ≤ span ∧ span ≤ 4321440)
    (hm : h m = some (.map (rowM (acc.map (·.letter)) bs))) (h0m : h0 m = none) (R : RwsG crC h0 h bs acc) (hnd : (acc.map (·.letter)).Nodup) (hsm : ∀ r ∈ acc, r.gains ≤ G ∧ r.cents ≤ C) (hG : G ≤ 1000) (hC : C ≤ 1000000000000000)
    (hQ : ∀ h' bs', h' m = some (.map (rowM ((creditF xs how span g acc).map (·.letter)) bs')) → RwsG crC h0 h' bs' (creditF xs how span g acc) → Q [] h') :
    I 74 [.one (.map (some m)), .one (.slice 4 s1), .agg (gainC g), .one (.slice 1 sp), int how, int span] Q h := by
  have hl1 : s1.len = xs.length := hs.rowsLen sentC_length (by decide)
  refine hI.go _ _ (den74 I (some m) s1 g.id g.person g.at_ g.cents sp how span Q) ?_
  have hp12 := pathL_length xs g span
  have hpx : ∀ i ∈ pathL xs g span, ∃ x, xs[i]? = some x ∧ before g span x = true := fun i hi => pathL_mem hi
  have hcr : creditF xs how span g acc = (foldC (acc, []) (trs xs (pathL xs g span) (shared g.cents.toNat (wNats how span (ages xs g (pathL xs g span)))) (wNats how span (ages xs g (pathL xs g span))))).1 := rfl
  rw [hcr] at hQ
  obtain ⟨path, hpath⟩ : ∃ path, pathL xs g span = path := ⟨_, rfl⟩
  rw [hpath] at hp hpl hp12 hpx hQ
  have hpos := List.length_pos_iff.2 hpl
  have hlp : sp.len = path.length := by rw [hp.len1, nats_length]
  have hsh := R.ext.at_ hs
  have hal : (ages xs g path).length = path.length := by simp [ages]
  have hag : ∀ (k i : Nat) x, path[k]? = some i → xs[i]? = some x → (ages xs g path)[k]? = some (g.at_ - x.at_) := fun k i x h1 h2 => by
    unfold ages; rw [List.getElem?_map, h1]; simp [h2]
  -- the ages
  refine loopK_intro (fun (a : Sl × Int) h' mm => ∃ k : Nat, k ≤ path.length ∧ a.2 = (k : Int) ∧ mm = path.length - k ∧ Owns h h' [(1, a.1, ints ((ages xs g path).take k))]) path.length ⟨0, by omega, rfl, rfl, (Owns.nil h).none_ 1⟩ ?_
  rintro ⟨la, y⟩ h1 mm ⟨k, hk, rfl, rfl, o1⟩
  dsimp only [uncur] at o1 ⊢
  have hla : la.len = k := by
    have := o1.slen List.mem_cons_self
    rw [ints_length, List.length_take, hal] at this; omega
  refine ifT_dec (fun hlt => ⟨⟨by omega, hlt⟩, ?_⟩) fun hge => ?_
  · have hx := List.getElem?_eq_getElem (show k < path.length by omega)
    generalize path[k] = i at hx
    obtain ⟨x, hxi, hbx⟩ := hpx i (List.mem_of_getElem? hx)
    have hil : i < xs.length := (List.getElem?_eq_some_iff.1 hxi).1
    have hxm := hmom x (List.mem_of_getElem? hxi)
    refine (o1.ext.at_ hp).cell (nats_get hx) fun b of hr => ⟨_, hr, ⟨by omega, by omega⟩, ?_⟩
    refine (o1.ext.at_ hsh).rowCell (f := sentC) sentC_length (by decide) hxi (j := 3) (c := .int .i64 x.at_) rfl fun bb oo hr => ⟨x.at_, hr, ?_⟩
    have ew : IntKind.i64.wrap (g.at_ - x.at_) = g.at_ - x.at_ := by rw [w64] <;> omega
    rw [ew]
    refine appendTo_owns (m := 0) o1 rfl (by omega) (by simp) fun j h2 o2 => ⟨path.length - (k + 1), by omega, k + 1, by omega, by show IntKind.i64.wrap _ = _; rw [w64] <;> omega, rfl, ?_⟩
    have e : ints ((ages xs g path).take (k + 1)) = ints ((ages xs g path).take k) ++ [.int .i64 (g.at_ - x.at_)] := by
      rw [List.take_add_one, hag k i x hx hxi]; simp [ints]
    rw [e]; exact o2
  have hkn : k = path.length := by omega
  subst hkn
  rw [List.take_of_length_le (by omega)] at o1
  have hav : ∀ a ∈ ages xs g path, 1 ≤ a ∧ a ≤ span := fun a ha => by
    unfold ages at ha
    obtain ⟨i, hi, rfl⟩ := List.mem_map.1 ha
    obtain ⟨x, hxi, hbx⟩ := hpx i hi
    unfold before at hbx
    simp only [Bool.and_eq_true, decide_eq_true_eq] at hbx
    rw [hxi]; simp only; omega
  refine specWeights21 hI (o1.at_ (sz := 1) (s := la) List.mem_cons_self) (by omega) hspan.2 hav fun lw h2 e2 nw2 a2 => ⟨lw, rfl, newK_intro fun i27 h3 hn3 he3 => ?_⟩
  rw [wNats_ints (by omega)] at a2
  have hwl := wNats_length how span (ages xs g path)
  have hwp := wNats_pos (how := how) (span := span) (xs := ages xs g path) (by omega) (by omega)
  have hwb := wNats_le (how := how) (span := span) (xs := ages xs g path) (by omega)
  obtain ⟨ws, hws⟩ : ∃ ws, wNats how span (ages xs g path) = ws := ⟨_, rfl⟩
  rw [hws] at a2 hwl hwp hwb hQ
  rw [hal] at hwl
  obtain ⟨c, hc⟩ := Int.eq_ofNat_of_zero_le hgc.1
  rw [hc] at hQ ⊢
  rw [Int.toNat_natCast] at hQ
  have e3 : Ext h2 h3 := he3 ▸ Ext.new hn3
  refine spec128L hI (e3.at_ a2) (by omega) hwb hwp (by omega) fun ld h4 e4 nw4 a4 => ⟨ld, rfl, ?_⟩
  have hdl := shared_length c ws
  have hds := shared_sum (c := c) hwp
  obtain ⟨ds, hdd⟩ : ∃ ds, shared c ws = ds := ⟨_, rfl⟩
  rw [hdd] at a4 hdl hds hQ
  rw [hwl] at hdl
  have hld : ld.len = path.length := by rw [a4.len1, nats_length, hdl]
  have hlw : lw.len = path.length := by rw [a2.len1, nats_length, hwl]
  have e12 := o1.ext.trans e2
  have e14 := (e12.trans e3).trans e4
  have h3m : h3 i27 = some (.map []) := by rw [he3, set_eq]
  -- what does not change
  have hbne : ∀ b ∈ bs, h b ≠ none := fun b hb => by obtain ⟨r, hr⟩ := R.get hb; rw [hr]; simp
  have hi27 : h i27 = none := e12.none hn3
  have notin : ∀ {hh : Heap} {s : Sl}, Ext h hh → New hh s → ∀ j o, s.a = some (j, o) → j ∉ m :: bs := fun {hh s} e n j o ha hj => by
    have h9 := (n.of_ext e) j o ha
    rcases List.mem_cons.1 hj with rfl | hj
    · rw [hm] at h9; cases h9
    · exact hbne j hj h9
  obtain ⟨b0, hb0⟩ : ∃ b0, h4.less (i27 :: m :: bs) = b0 := ⟨_, rfl⟩
  have hb0m : b0 m = none := by rw [← hb0]; exact less_in (by simp)
  have hb0i : b0 i27 = none := by rw [← hb0]; exact less_in (by simp)
  have ext0 : Ext h0 b0 := by
    rw [← hb0]
    refine (R.ext.trans e14).less fun j hj => ?_
    rcases List.mem_cons.1 hj with rfl | hj
    · exact R.ext.none hi27
    rcases List.mem_cons.1 hj with rfl | hj
    · exact h0m
    · exact R.new j hj
  have as0 := ext0.at_ hs
  have ap0 : At b0 1 sp (nats path) := by
    rw [← hb0]
    refine (e14.at_ hp).less fun j o ha hj => ?_
    rcases List.mem_cons.1 hj with rfl | hj
    · exact lies_blk hp (by rw [nats_length]; exact hpos) ha hi27
    · exact hnew j o ha hj
  have aw0 : At b0 1 lw (nats ws) := by
    rw [← hb0]
    refine ((e3.trans e4).at_ a2).less fun j o ha hj => ?_
    rcases List.mem_cons.1 hj with rfl | hj
    · exact lies_blk a2 (by rw [nats_length]; omega) ha hn3
    · exact notin o1.ext nw2 j o ha hj
  have ad0 : At b0 1 ld (nats ds) := by
    rw [← hb0]
    refine a4.less fun j o ha hj => ?_
    rcases List.mem_cons.1 hj with rfl | hj
    · rw [nw4 j o ha] at h3m; cases h3m
    · exact notin (e12.trans e3) nw4 j o ha hj
  have R0 : RwsG crC b0 h4 bs acc := ⟨hb0 ▸ less_ext _ _, R.len, fun q b r hb hr => e14 _ _ (R.cell q b r hb hr), fun b hb => by rw [← hb0]; exact less_in (by simp [hb]), R.nodup⟩
  have htl := trs_length (xs := xs) (path := path) (ds := ds) (ws := ws) hdl hwl
  have htc := trs_cents (xs := xs) (path := path) (ds := ds) (ws := ws) hdl hwl
  obtain ⟨ts, hts⟩ : ∃ ts, trs xs path ds ws = ts := ⟨_, rfl⟩
  rw [hts] at hQ htl htc
  have hne : i27 ≠ m := fun e => by subst e; rw [hm] at hi27; cases hi27
  refine loopK_intro (fun (a : Int) h' mm => ∃ (k : Nat) (bs' : List Nat), k ≤ path.length ∧ a = (k : Int) ∧ mm = path.length - k ∧ h' m = some (.map (rowM ((foldC (acc, []) (ts.take k)).1.map (·.letter)) bs')) ∧ h' i27 = some (.map (seen (foldC (acc, []) (ts.take k)).2)) ∧ RwsG crC b0 h' bs' (foldC (acc, []) (ts.take k)).1) path.length
    ⟨0, bs, by omega, rfl, rfl, e14 _ _ hm, e4 _ _ h3m, R0⟩ ?_
  rintro a h5 mm ⟨k, bs5, hk, rfl, rfl, hm5, hi5, R5⟩
  refine ifT_dec (fun hlt => ⟨⟨by omega, hlt⟩, ?_⟩) fun hge => ?_
  · have hkl : k < path.length := by omega
    have hx := List.getElem?_eq_getElem hkl
    generalize path[k] = i at hx
    have hdk := List.getElem?_eq_getElem (show k < ds.length by omega)
    generalize ds[k] = d at hdk
    have hwk := List.getElem?_eq_getElem (show k < ws.length by omega)
    generalize ws[k] = w at hwk
    obtain ⟨x, hxi, hbx⟩ := hpx i (List.mem_of_getElem? hx)
    have hil : i < xs.length := (List.getElem?_eq_some_iff.1 hxi).1
    have htk := trs_get (xs := xs) hx hdk hwk
    have hlet : letOf xs i = x.letter := by unfold letOf; rw [hxi]
    rw [hts, hlet] at htk
    have het : ts.take (k + 1) = ts.take k ++ [(x.letter, d, w)] := by rw [List.take_add_one, htk]; rfl
    have hdb : d ≤ c := by rw [← hds]; exact mem_le_sum (List.mem_of_getElem? hdk)
    have hsm5 := foldC_small (ts.take k) (acc, []) G C hsm
    have htsum : ((ts.take k).map (·.2.1)).sum ≤ c := by
      rw [List.map_take, htc, ← hds]; exact take_sum_le ds k
    have hnd5 := foldC_nodup (ts.take k) (acc, []) hnd
    obtain ⟨p, hpp⟩ : ∃ p, foldC (acc, []) (ts.take k) = p := ⟨_, rfl⟩
    have hstep : foldC (acc, []) (ts.take (k + 1)) = stepC p (x.letter, d, w) := by rw [het, foldC_snoc, hpp]
    rw [hpp] at hm5 hi5 R5 hsm5 hnd5
    have htk2 : (ts.take k).length = k := by rw [List.length_take]; omega
    rw [htk2] at hsm5
    have ex5 := R5.ext
    have ew : IntKind.i64.wrap ((k : Int) + 1) = ((k + 1 : Nat) : Int) := by rw [w64] <;> omega
    refine (ex5.at_ ad0).cell (nats_get hdk) fun b of hr => ⟨_, hr, ⟨by omega, by omega⟩, ?_⟩
    refine (ex5.at_ ap0).cell (nats_get hx) fun b of hr => ⟨_, hr, ⟨by omega, by omega⟩, ?_⟩
    refine (ex5.at_ as0).rowCell (f := sentC) sentC_length (by decide) hxi (j := 2) (c := .str x.letter) rfl fun b of hr => ⟨x.letter, hr, ⟨by omega, by omega⟩, ?_⟩
    refine (ex5.at_ aw0).cell (nats_get hwk) fun b of hr => ⟨_, hr, ?_⟩
    rw [ew]
    refine ifT_dec (fun hw0 => ?_) fun hw0 => ?_
    · have hw0 : w = 0 := by omega
      have e9 : foldC (acc, []) (ts.take (k + 1)) = p := by rw [hstep]; unfold stepC; rw [if_pos hw0]
      exact ⟨path.length - (k + 1), by omega, k + 1, bs5, by omega, rfl, rfl, by rw [e9]; exact hm5, by rw [e9]; exact hi5, by rw [e9]; exact R5⟩
    have hw0 : w ≠ 0 := by omega
    obtain ⟨L, hL⟩ : ∃ L, x.letter = L := ⟨_, rfl⟩
    rw [hL] at hstep ⊢
    have hlen5 : (p.1.map (·.letter)).length = bs5.length := by rw [List.length_map, R5.len]
    -- the row of the letter, new or not
    have join : ∀ (p79 : Option (Nat × Nat)) (F : Option (Nat × Nat) → T), ((L ∈ p.1.map (·.letter) ∧ ∃ (q b : Nat), p79 = some (b, 0) ∧ (p.1.map (·.letter))[q]? = some L ∧ bs5[q]? = some b) ∨ (L ∉ p.1.map (·.letter) ∧ p79 = none)) →
        (∀ (q b : Nat) (bs2 : List Nat) (acc2 : List Cr) (r : Cr) g2, bs2[q]? = some b → acc2[q]? = some r → r.letter = L → (∀ d b, addC p.1 L d b = acc2.set q ⟨L, r.gains + b, r.cents + d⟩) → r.gains ≤ G + k → r.cents ≤ C + ((ts.take k).map (·.2.1)).sum → g2 m = some (.map (rowM (acc2.map (·.letter)) bs2)) → g2 i27 = some (.map (seen p.2)) → RwsG crC b0 g2 bs2 acc2 → F (some (b, 0)) g2) →
        joinK F (fun x75 => ifT p79.isNone (fun h76 => (newK (.cells false (crC ⟨L, 0, 0⟩)) (fun i77 => fun h78 => (mapK [] (some m) (V.one (Cell.str L)) (V.one (Cell.ptr (some (i77, 0)))) (x75 (some (i77, 0)))) h78)) h76) (x75 p79)) h5 := by
      intro p79 F hcs hF
      refine joinK_intro (fun pp g2 => ∃ (q b : Nat) (bs2 : List Nat) (acc2 : List Cr) (r : Cr), pp = some (b, 0) ∧ bs2[q]? = some b ∧ acc2[q]? = some r ∧ r.letter = L ∧ (∀ d b, addC p.1 L d b = acc2.set q ⟨L, r.gains + b, r.cents + d⟩) ∧ r.gains ≤ G + k ∧ r.cents ≤ C + ((ts.take k).map (·.2.1)).sum ∧ g2 m = some (.map (rowM (acc2.map (·.letter)) bs2)) ∧ g2 i27 = some (.map (seen p.2)) ∧ RwsG crC b0 g2 bs2 acc2) ?_ fun j hj => ?_
      · rintro pp g2 ⟨q, b, bs2, acc2, r, rfl, c1, c2, c3, c4, c5, c6, c7, c8, c9⟩
        exact hF q b bs2 acc2 r g2 c1 c2 c3 c4 c5 c6 c7 c8 c9
      · rcases hcs with ⟨hmem, q, b, rfl, hq, hb⟩ | ⟨hmem, rfl⟩
        · rw [List.getElem?_map] at hq
          cases hr : p.1[q]? with
          | none => rw [hr] at hq; cases hq
          | some r =>
            rw [hr] at hq
            have hrl : r.letter = L := by simpa using hq
            have hsr := hsm5 r (List.mem_of_getElem? hr)
            exact ifT_intro (fun h => by cases h) fun _ => hj _ _ ⟨q, b, bs5, p.1, r, rfl, hb, hr, hrl, fun d b => addC_set hnd5 hr hrl, hsr.1, hsr.2, hm5, hi5, R5⟩
        · refine ifT_intro (fun _ => ?_) fun h => by cases h
          refine newK_intro fun i77 g2 hn77 he77 => ?_
          have hne1 : i77 ≠ m := fun e => by subst e; rw [hm5] at hn77; cases hn77
          have hne2 : i77 ≠ i27 := fun e => by subst e; rw [hi5] at hn77; cases hn77
          have R6 := R5.push (r := (⟨L, 0, 0⟩ : Cr)) hn77
          rw [← he77] at R6
          have hm6 : g2 m = some (.map (rowM (p.1.map (·.letter)) bs5)) := by rw [he77, set_ne _ _ (fun e => hne1 e.symm)]; exact hm5
          have hi6 : g2 i27 = some (.map (seen p.2)) := by rw [he77, set_ne _ _ (fun e => hne2 e.symm)]; exact hi5
          refine mapK_in hm6 (rowM_set hlen5 hmem) (hj _ _ ⟨p.1.length, i77, bs5 ++ [i77], p.1 ++ [⟨L, 0, 0⟩], ⟨L, 0, 0⟩, rfl, by rw [show p.1.length = bs5.length from R5.len.symm]; simp, by simp, rfl, fun d b => ?_, Nat.zero_le _, Nat.zero_le _, by rw [set_eq]; simp, by rw [set_ne _ _ hne]; exact hi6, R6.setMap hb0m hm6⟩)
          rw [addC_none hmem]; simp
    have hlook : ∃ (p79 : Option (Nat × Nat)) (b80 : Bool), mapGet (.one (.str L)) (.one (.ptr none)) (rowM (p.1.map (·.letter)) bs5) = some (.one (.ptr p79), b80) ∧ ((L ∈ p.1.map (·.letter) ∧ ∃ (q b : Nat), p79 = some (b, 0) ∧ (p.1.map (·.letter))[q]? = some L ∧ bs5[q]? = some b) ∨ (L ∉ p.1.map (·.letter) ∧ p79 = none)) := by
      by_cases hmem : L ∈ p.1.map (·.letter)
      · obtain ⟨q, b, c1, c2, c3⟩ := rowM_get hlen5 hmem
        exact ⟨_, _, c3, .inl ⟨hmem, q, b, rfl, c1, c2⟩⟩
      · exact ⟨_, _, rowM_none hmem, .inr ⟨hmem, rfl⟩⟩
    obtain ⟨p79, b80, hget, hcase⟩ := hlook
    refine ⟨p79, b80, ⟨_, mapOf_some hm5, hget⟩, ?_⟩
    refine join p79 _ hcase fun q b bs2 acc2 r g2 c1 c2 c3 c4 c5 c6 c7 c8 R6 => ?_
    have hcell := R6.cell q b r c1 c2
    have hbm : b ≠ m := fun e => by subst e; rw [c7] at hcell; cases hcell
    have hbi : b ≠ i27 := fun e => by subst e; rw [c8] at hcell; cases hcell
    refine derefK_intro rfl ⟨(r.cents : Int), read_cell hcell rfl, derefK_intro rfl (storeK_one hcell (by show 0 + 2 < 3; decide) ?_)⟩
    have er : (crC r).set (0 + 2) (.int .i64 (IntKind.i64.wrap ((r.cents : Int) + (d : Int)))) = crC ⟨L, r.gains, r.cents + d⟩ := by
      rw [w64 (by omega) (by omega), ← c3]; rfl
    rw [er]
    obtain ⟨g3, hg3⟩ : ∃ g3, g2.set b (.cells false (crC ⟨L, r.gains, r.cents + d⟩)) = g3 := ⟨_, rfl⟩
    rw [hg3]
    have hb3 : g3 b = some (.cells false (crC ⟨L, r.gains, r.cents + d⟩)) := by rw [← hg3, set_eq]
    have R7 := R6.bump c1 (fun j o hj ho => by rw [← hg3, set_ne _ _ hj]; exact ho) hb3
    have m7 : g3 m = some (.map (rowM (acc2.map (·.letter)) bs2)) := by rw [← hg3, set_ne _ _ (fun e => hbm e.symm)]; exact c7
    have i7 : g3 i27 = some (.map (seen p.2)) := by rw [← hg3, set_ne _ _ (fun e => hbi e.symm)]; exact c8
    have hlets : ∀ g n, (acc2.set q ⟨L, g, n⟩).map (·.letter) = acc2.map (·.letter) := fun g n => by
      apply List.ext_getElem?
      intro j
      rw [List.getElem?_map, List.getElem?_map, List.getElem?_set]
      split
      · rename_i e
        subst e
        rw [if_pos (List.getElem?_eq_some_iff.1 c2).1, c2]; simp [c3]
      · rfl
    refine ⟨_, _, ⟨_, mapOf_some i7, seen_get L p.2⟩, ifT_intro (fun hns => ?_) fun hs2 => ?_⟩
    · have hns : (p.2.any fun y => decide (y = L)) = false := by simpa using hns
      have hnm : L ∉ p.2 := fun hmem => by rw [seen_any.2 hmem] at hns; cases hns
      refine mapK_in i7 (seen_set L p.2 hns) ?_
      obtain ⟨g4, hg4⟩ : ∃ g4, g3.set i27 (.map (seen (p.2 ++ [L]))) = g4 := ⟨_, rfl⟩
      rw [hg4]
      have R8 := R7.setMap (es' := seen (p.2 ++ [L])) hb0i i7
      rw [hg4] at R8
      have hq8 : (acc2.set q ⟨L, r.gains, r.cents + d⟩)[q]? = some ⟨L, r.gains, r.cents + d⟩ := by rw [List.getElem?_set_self (List.getElem?_eq_some_iff.1 c2).1]
      have hb4 := R8.cell q b _ c1 hq8
      refine derefK_intro rfl ⟨(r.gains : Int), read_cell hb4 rfl, derefK_intro rfl (storeK_one hb4 (by show 0 + 1 < 3; decide) ?_)⟩
      have er2 : (crC ⟨L, r.gains, r.cents + d⟩).set (0 + 1) (.int .i64 (IntKind.i64.wrap ((r.gains : Int) + 1))) = crC ⟨L, r.gains + 1, r.cents + d⟩ := by
        rw [w64 (by omega) (by omega)]; rfl
      rw [er2]
      have R9 := R8.bump (h' := g4.set b (.cells false (crC ⟨L, r.gains + 1, r.cents + d⟩))) c1 (fun j o hj ho => by rw [set_ne _ _ hj]; exact ho) (set_eq _ _ _)
      rw [List.set_set, ← c4 d 1] at R9
      have e9 : foldC (acc, []) (ts.take (k + 1)) = (addC p.1 L d 1, p.2 ++ [L]) := by rw [hstep]; unfold stepC; rw [if_neg hw0, if_neg hnm]
      refine ⟨path.length - (k + 1), by omega, k + 1, bs2, by omega, rfl, rfl, ?_, ?_, by rw [e9]; exact R9⟩
      · rw [e9, set_ne _ _ (fun e => hbm e.symm), ← hg4, set_ne _ _ (fun e => hne e.symm), m7, c4 d 1, hlets]
      · rw [e9, set_ne _ _ (fun e => hbi e.symm), ← hg4, set_eq]
    · have hs2 : (p.2.any fun y => decide (y = L)) = true := by simpa using hs2
      have hmem : L ∈ p.2 := seen_any.1 hs2
      have e9 : foldC (acc, []) (ts.take (k + 1)) = (addC p.1 L d 0, p.2) := by rw [hstep]; unfold stepC; rw [if_neg hw0, if_pos hmem]
      have R9 : RwsG crC b0 g3 bs2 (addC p.1 L d 0) := by rw [c4 d 0]; exact R7
      exact ⟨path.length - (k + 1), by omega, k + 1, bs2, by omega, rfl, rfl, by rw [e9, m7, c4 d 0, hlets], by rw [e9]; exact i7, by rw [e9]; exact R9⟩
  · have hkn : k = path.length := by omega
    subst hkn
    rw [List.take_of_length_le (by omega)] at hm5 hi5 R5
    exact hQ h5 bs5 hm5 (R5.rebase ext0)
end
end Go.Proofs.YtfemminjhecocaaGreatDoorVc
