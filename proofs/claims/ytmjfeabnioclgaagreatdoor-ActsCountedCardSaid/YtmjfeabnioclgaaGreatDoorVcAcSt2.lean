/- Contracts, turned by a program to the numbers of this seat. -/
import Derived.Test.YtmjfeabnioclgaaGreatDoorVcAcStM
import Derived.Test.YtmjfeabnioclgaaGreatDoorVcNewB
set_option linter.unusedSimpArgs false
set_option linter.unusedVariables false
-- from StSpec2
namespace Go.Proofs.YtmjfeabnioclgaaGreatDoorVc
open Go.Proofs.Tryz (prog)
theorem At.set_new {h h' : Heap} {s : Sl} {cs : List Cell} {k b : Nat} {X : Obj} (a : At h' k s cs) (n : New h s) (hb : h b ≠ none) : At (h'.set b X) k s cs := by
  refine ⟨a.1, a.2.imp id fun h1 => ?_⟩
  unfold Heap.sl at h1 ⊢
  cases ha : s.a with
  | none => rw [ha] at h1; exact h1
  | some p =>
    obtain ⟨j, o⟩ := p
    rw [ha] at h1
    have hj := n j o ha
    simp only at h1 ⊢
    unfold Heap.read at h1 ⊢
    rw [set_ne _ _ (fun e => by subst e; exact hb hj)]
    exact h1
/-- Rows in blocks of their own. -/
structure Rws (h0 h : Heap) (bs : List Nat) (rs : List RowS) : Prop where
  ext : Ext h0 h
  len : bs.length = rs.length
  cell : ∀ (q b : Nat) r, bs[q]? = some b → rs[q]? = some r → h b = some (.cells false (rowC r))
  new : ∀ b ∈ bs, h0 b = none
  nodup : bs.Nodup
theorem Rws.nil (h : Heap) : Rws h h [] [] := ⟨Ext.refl h, rfl, by simp, by simp, by simp⟩
theorem Rws.get {h0 h : Heap} {bs : List Nat} {rs : List RowS} (R : Rws h0 h bs rs) {b : Nat} (hb : b ∈ bs) : ∃ r, h b = some (.cells false (rowC r)) := by
  obtain ⟨q, hq, rfl⟩ := List.mem_iff_getElem.1 hb
  exact ⟨rs[q]'(by rw [← R.len]; exact hq), R.cell q _ _ (List.getElem?_eq_getElem hq) (List.getElem?_eq_getElem _)⟩
theorem Rws.push {h0 h : Heap} {bs : List Nat} {rs : List RowS} (R : Rws h0 h bs rs) {i : Nat} {r : RowS} (hi : h i = none) : Rws h0 (h.set i (.cells false (rowC r))) (bs ++ [i]) (rs ++ [r]) where
  ext := R.ext.set (R.ext.none hi)
  len := by simp [R.len]
  cell q b r' hb hr := by
    rcases Nat.lt_or_ge q bs.length with hq | hq
    · rw [List.getElem?_append_left hq] at hb
      rw [List.getElem?_append_left (by rw [← R.len]; exact hq)] at hr
      have := R.cell q b r' hb hr
      rw [set_ne _ _ (fun e => by subst e; rw [hi] at this; cases this)]
      exact this
    · rw [List.getElem?_append_right hq] at hb
      rw [List.getElem?_append_right (by rw [← R.len]; exact hq)] at hr
      have hq0 : q - bs.length = 0 := by
        have := (List.getElem?_eq_some_iff.1 hb).1
        simp at this; omega
      have hr0 : q - rs.length = 0 := by rw [← R.len]; exact hq0
      rw [hq0] at hb
      rw [hr0] at hr
      simp only [List.getElem?_cons_zero, Option.some.injEq] at hb hr
      subst hb hr
      exact set_eq _ _ _
  new b hb := by
    rcases List.mem_append.1 hb with hb | hb
    · exact R.new b hb
    · rw [List.mem_singleton.1 hb]; exact R.ext.none hi
  nodup := by
    rw [List.nodup_append]
    refine ⟨R.nodup, by simp, fun a ha b hb e => ?_⟩
    rw [List.mem_singleton.1 hb] at e
    subst e
    obtain ⟨r, hr⟩ := R.get ha
    rw [hi] at hr; cases hr
theorem Rws.setMap {h0 h : Heap} {bs : List Nat} {rs : List RowS} (R : Rws h0 h bs rs) {i : Nat} {es es' : List (V × V)} (h0i : h0 i = none) (hi : h i = some (.map es)) : Rws h0 (h.set i (.map es')) bs rs where
  ext := R.ext.set h0i
  len := R.len
  cell q b r hb hr := by
    have := R.cell q b r hb hr
    rw [set_ne _ _ (fun e => by subst e; rw [hi] at this; cases this)]
    exact this
  new := R.new
  nodup := R.nodup
theorem Rws.bump {h0 h h' : Heap} {bs : List Nat} {rs : List RowS} (R : Rws h0 h bs rs) {q b : Nat} {r' : RowS} (hq : bs[q]? = some b) (hf : ∀ j o, j ≠ b → h j = some o → h' j = some o) (hb : h' b = some (.cells false (rowC r'))) : Rws h0 h' bs (rs.set q r') where
  ext j o hj := by
    have : j ≠ b := fun e => by subst e; rw [R.new j (List.mem_of_getElem? hq)] at hj; cases hj
    exact hf j o this (R.ext j o hj)
  len := by rw [List.length_set, R.len]
  cell p b2 r hp hr := by
    by_cases e : p = q
    · subst e
      rw [hq] at hp; cases hp
      rw [List.getElem?_set] at hr
      simp only [if_true] at hr
      split at hr
      · cases hr; exact hb
      · cases hr
    · rw [List.getElem?_set_ne (fun e' => e e'.symm)] at hr
      refine hf b2 _ (fun e2 => ?_) (R.cell p b2 r hp hr)
      subst e2
      obtain ⟨h1, e1⟩ := List.getElem?_eq_some_iff.1 hp
      obtain ⟨h2, e2⟩ := List.getElem?_eq_some_iff.1 hq
      exact e ((List.getElem_inj R.nodup).1 (e1.trans e2.symm))
  new := R.new
  nodup := R.nodup
/-- Whether a letter was opened and so on: five cells. -/
def didC (d : Nat → Bool) : List Cell := [.bool (d 0), .bool (d 1), .bool (d 2), .bool (d 3), .bool (d 4)]
theorem didC_length (d : Nat → Bool) : (didC d).length = 5 := rfl
theorem did_zero (n : Nat) : slCells (VK.agg [Kd.bool, Kd.bool, Kd.bool, Kd.bool, Kd.bool]) n = rows didC (List.replicate n fun _ => false) := by
  unfold slCells rows
  induction n with
  | zero => rfl
  | succ n ih =>
    rw [List.replicate_succ, List.replicate_succ]
    simp only [List.flatten_cons, List.flatMap_cons, List.map_cons] at ih ⊢
    rw [ih]
    rfl
theorem range_map_set {α : Type} {f g : Nat → α} {n i : Nat} (h : ∀ j, j ≠ i → j < n → g j = f j) : ((List.range n).map f).set i (g i) = (List.range n).map g := by
  apply List.ext_getElem?
  intro j
  rw [List.getElem?_set]
  rcases Nat.lt_or_ge j n with hj | hj
  · split
    · rename_i e
      subst e
      rw [if_pos (by simpa using hj), List.getElem?_map, List.getElem?_range hj]; rfl
    · rename_i e
      rw [List.getElem?_map, List.getElem?_map, List.getElem?_range hj]
      simp only [Option.map_some]
      rw [h j (fun e' => e e'.symm) hj]
  · rw [List.getElem?_eq_none (by simpa using hj), List.getElem?_eq_none (l := (List.range n).map g) (by simpa using hj)]
    split
    · split
      · rename_i h1; simp at h1; omega
      · rfl
    · rfl
section
variable {I : Calls} {Q : Post} {h : Heap}
theorem spec23 (hI : Closed' prog Pm I) {n : Int} (hQ : Q [boo (decide (1 ≤ n ∧ n ≤ 4))] h) : I 23 [int n] Q h := by
  refine hI.go _ _ (den23 I n Q) ?_
  refine spec25 hI ⟨_, rfl, ?_⟩
  have e : (decide ((1 : Int) ≤ n) && decide (n ≤ 4)) = decide (1 ≤ n ∧ n ≤ 4) := by rw [Bool.decide_and]
  rw [e]; exact hQ
theorem mapK_in {i : Nat} {es es' : List (V × V)} {kx x : V} {k : T} (hi : h i = some (.map es)) (hs : mapSet kx x es = some es') (hk : k (h.set i (.map es'))) : mapK [] (some i) kx x k h :=
  ⟨es, es', hi, hs, hk⟩
/-- The rows are made. -/
theorem spec7 (hI : Closed' prog Pm I) {s1 s2 : Sl} {xs : List Sent} {acs : List Act} {span : Int} (hs : At h 4 s1 (rows sentC xs)) (ha : At h 3 s2 (rows actC acs)) (hxl : xs.length ≤ 30) (hal : acs.length ≤ 9)
    (hbad1 : ∀ h', Ext h h' → errT xs acs = 0 → ¬ (0 ≤ span ∧ span ≤ 4321440) → Q [.one (.slice 6 ⟨none, 0⟩), int 1] h')
    (hbad : ∀ h', Ext h h' → errT xs acs ≠ 0 → Q [.one (.slice 6 ⟨none, 0⟩), int (errT xs acs)] h')
    (hQ : ∀ (s' : Sl) (zs : List ByteArray) h', errT xs acs = 0 → (0 ≤ span ∧ span ≤ 4321440) → Ext h h' → zs.Perm (lets xs) → zs.Pairwise (fun a b => bl a ≤ bl b) → New h s' → At h' 6 s' (rows rowC (zs.map (rowF xs (didF xs acs span) xs.length))) → Q [.one (.slice 6 s'), int 0] h') : I 7 [.one (.slice 4 s1), .one (.slice 3 s2), int span] Q h := by
  have hl1 : s1.len = xs.length := hs.rowsLen sentC_length (by decide)
  have hl2 : s2.len = acs.length := ha.rowsLen actC_length (by decide)
  refine hI.go _ _ (den7 I s1 s2 span Q) ?_
  refine spec22 hI hs (by omega) fun h1 e1 => ⟨_, rfl, ifT_intro (fun hb => ?_) fun hb => ?_⟩
  · have e : errT xs acs = errS xs := by unfold errT; rw [if_pos (nd hb)]
    have := hbad h1 e1 (by rw [e]; exact nd hb)
    rw [e] at this; exact this
  have hS : errS xs = 0 := Decidable.of_not_not (nd' hb)
  have eT : errT xs acs = scanA xs acs := by unfold errT; rw [if_neg (by rw [hS]; simp)]
  obtain ⟨hk1, hk2⟩ := errS_facts hS
  have hmom := scanS_ok xs [] hS
  refine ifT_dec (fun h9 => by omega) fun _ => ?_
  have hs1 := e1.at_ hs
  have ha1 := e1.at_ ha
  -- the map of ids
  refine newK_intro fun i8 h2 hn2 he2 => ?_
  refine loopK_intro (fun (a : Int) h' m => ∃ k : Nat, k ≤ xs.length ∧ a = (k : Int) ∧ m = xs.length - k ∧ h' = h1.set i8 (.map (idM 0 (xs.take k)))) xs.length ⟨0, by omega, rfl, rfl, he2⟩ ?_
  rintro a h' m ⟨k, hk, rfl, rfl, rfl⟩
  have ek := Ext.new (o := .map (idM 0 (xs.take k))) hn2
  refine ifT_dec (fun hlt => ⟨⟨by omega, hlt⟩, ?_⟩) fun hge => ?_
  · have hx := List.getElem?_eq_getElem (show k < xs.length by omega)
    generalize xs[k] = x at hx
    have ht : xs.take (k + 1) = xs.take k ++ [x] := by rw [List.take_add_one, hx]; rfl
    refine (ek.at_ hs1).row sentC_length (by decide) hx fun bb oo hr => ⟨x.id, x.person, x.letter, x.at_, hr, ?_⟩
    refine mapK_in (set_eq _ _ _) (idM_set fun y hy => pairwise_take hk2 hx y hy) ⟨xs.length - (k + 1), by omega, k + 1, by omega, by rw [w64 (by omega) (by omega)]; rfl, rfl, ?_⟩
    rw [set_set, ht, idM_snoc, List.length_take, Nat.min_eq_left (by omega), Nat.zero_add]
  have hkn : k = xs.length := by omega
  subst hkn
  rw [List.take_length] at ek ⊢
  obtain ⟨h3, hh3⟩ : ∃ h3, h1.set i8 (.map (idM 0 xs)) = h3 := ⟨_, rfl⟩
  have hm8 : h3 i8 = some (.map (idM 0 xs)) := by rw [← hh3, set_eq]
  rw [hh3] at ek ⊢
  clear he2 hh3 hn2
  have e3 := e1.trans ek
  have hs3 := e3.at_ hs
  have ha3 := e3.at_ ha
  -- the acts are looked at
  refine loopK_intro (fun (a : Int) h' m => h' = h3 ∧ ∃ k : Nat, k ≤ acs.length ∧ a = (k : Int) ∧ m = acs.length - k ∧ scanA xs (acs.drop k) = scanA xs acs) acs.length ⟨rfl, 0, by omega, rfl, rfl, rfl⟩ ?_
  rintro a h' m ⟨rfl, k, hk, rfl, rfl, hsc⟩
  refine ifT_dec (fun hlt => ⟨⟨by omega, hlt⟩, ?_⟩) fun hge => ?_
  · have hx := List.getElem?_eq_getElem (show k < acs.length by omega)
    have hd := List.drop_eq_getElem_cons (show k < acs.length by omega)
    generalize acs[k] = a at hx hd
    rw [hd] at hsc
    simp only [scanA] at hsc
    have bad : ∀ e : Int, scanA xs acs = e → e ≠ 0 → Q [.one (.slice 6 ⟨none, 0⟩), int e] h' := fun e he hne => by
      have := hbad h' e3 (by rw [eT, he]; exact hne)
      rw [eT, he] at this; exact this
    refine ha3.row actC_length (by decide) hx fun bb oo hr => ⟨a.sent, a.kind, a.at_, hr, ?_⟩
    have hg := idM_get a.sent xs 0
    cases hi : idx a.sent xs with
    | none =>
      rw [hi] at hg hsc
      refine ⟨0, false, ⟨_, mapOf_some hm8, hg⟩, ifT_intro (fun _ => bad 8 hsc.symm (by decide)) fun h => by cases h⟩
    | some q =>
      rw [hi] at hg hsc
      simp only [ofIdx, Nat.zero_add] at hg
      simp only at hsc
      obtain ⟨x, hxq, hxid⟩ := idx_some hi
      have hql : q < xs.length := (List.getElem?_eq_some_iff.1 hxq).1
      refine ⟨(q : Int), true, ⟨_, mapOf_some hm8, hg⟩, ifT_intro (fun h => by cases h) fun _ => ?_⟩
      refine spec23 hI ⟨_, rfl, ifT_intro (fun h9 => ?_) fun h9 => ?_⟩
      · rw [if_pos (nd h9)] at hsc; exact bad 4 hsc.symm (by decide)
      rw [if_neg (nd' h9)] at hsc
      refine spec24 hI ⟨_, rfl, ifT_intro (fun h9 => ?_) fun h9 => ?_⟩
      · rw [if_pos (nd h9)] at hsc; exact bad 1 hsc.symm (by decide)
      rw [if_neg (nd' h9)] at hsc
      refine ⟨⟨by omega, by omega⟩, ?_⟩
      refine hs3.rowCell (f := sentC) sentC_length (by decide) hxq (j := 3) (c := .int .i64 x.at_) rfl fun bb oo hr => ⟨x.at_, hr, ifT_dec (fun h9 => ?_) fun h9 => ?_⟩
      · rw [atS_some hxq, if_pos h9] at hsc; exact bad 7 hsc.symm (by decide)
      rw [atS_some hxq, if_neg h9] at hsc
      exact ⟨acs.length - (k + 1), by omega, rfl, k + 1, by omega, by rw [w64 (by omega) (by omega)]; rfl, rfl, hsc⟩
  have hkn : k = acs.length := by omega
  subst hkn
  rw [List.drop_of_length_le (Nat.le_refl _)] at hsc
  have hA : scanA xs acs = 0 := hsc.symm
  have hE : errT xs acs = 0 := by rw [eT, hA]
  have hok := scanA_ok hA
  clear hsc hge
  refine spec25 hI ⟨_, rfl, ifT_intro (fun h9 => ?_) fun h9 => ?_⟩
  · refine hbad1 _ e3 hE fun hsp => ?_
    have : (decide ((0 : Int) ≤ span) && decide (span ≤ 4321440)) = true := by simp [hsp.1, hsp.2]
    rw [this] at h9; cases h9
  have hsp : 0 ≤ span ∧ span ≤ 4321440 := by simpa using h9
  refine ⟨rfl, by omega, by omega, by rw [hl1]; show ((xs.length : Nat) : Int) * 5 ≤ _; omega, newK_intro fun i49 h4 hn4 he4 => ?_⟩
  rw [did_zero, Int.toNat_natCast, hl1] at he4
  -- what was done
  have o4 := (Owns.nil h').new (i := i49) (sz := 5) (n := xs.length) (cs := rows didC (List.replicate xs.length fun _ => false)) hn4 (by rw [rows_length didC_length, List.length_replicate])
  rw [← he4] at o4
  have hrep : (List.replicate xs.length fun _ => false) = (List.range xs.length).map (didF xs (acs.take 0) span) := by
    apply List.ext_getElem?
    intro j
    rw [List.getElem?_replicate, List.getElem?_map]
    split
    · rename_i hj; rw [List.getElem?_range hj]; rfl
    · rename_i hj; rw [List.getElem?_eq_none (by simp; omega)]; rfl
  rw [hrep] at o4
  refine loopK_intro (fun (a : Int) h'' m => ∃ k : Nat, k ≤ acs.length ∧ a = (k : Int) ∧ m = acs.length - k ∧ Owns h' h'' [(5, ⟨some (i49, 0), xs.length⟩, rows didC ((List.range xs.length).map (didF xs (acs.take k) span)))]) acs.length ⟨0, by omega, rfl, rfl, o4⟩ ?_
  rintro a h5 m ⟨k, hk, rfl, rfl, o5⟩
  refine ifT_dec (fun hlt => ⟨⟨by omega, hlt⟩, ?_⟩) fun hge => ?_
  · have hx := List.getElem?_eq_getElem (show k < acs.length by omega)
    generalize acs[k] = a at hx
    have ht : acs.take (k + 1) = acs.take k ++ [a] := by rw [List.take_add_one, hx]; rfl
    obtain ⟨⟨q, hi⟩, hkd, hat⟩ := hok a (List.mem_of_getElem? hx)
    obtain ⟨x, hxq, hxid⟩ := idx_some hi
    have hql : q < xs.length := (List.getElem?_eq_some_iff.1 hxq).1
    have hg := idM_get a.sent xs 0
    rw [hi] at hg
    simp only [ofIdx, Nat.zero_add] at hg
    have hxm := hmom x (List.mem_of_getElem? hxq)
    refine (o5.ext.at_ ha3).row actC_length (by decide) hx fun bb oo hr => ⟨a.sent, a.kind, a.at_, hr, (q : Int), true, ⟨_, mapOf_some (o5.ext _ _ hm8), hg⟩, ⟨by omega, by omega⟩, ?_⟩
    refine (o5.ext.at_ hs3).rowCell (f := sentC) sentC_length (by decide) hxq (j := 3) (c := .int .i64 x.at_) rfl fun bb oo hr => ⟨x.at_, hr, ?_⟩
    have ew : IntKind.i64.wrap (a.at_ - x.at_) = a.at_ - x.at_ := by rw [w64] <;> omega
    rw [ew]
    have hstep : ∀ i k', didF xs (acs.take (k + 1)) span i k' = (didF xs (acs.take k) span i k' || hit xs span i k' a) := fun i k' => by
      unfold didF; rw [ht, List.any_append]; simp
    refine ifT_dec (fun h9 => ⟨⟨by omega, by show (q : Int) < ((((s1.len : Nat) : Int).toNat : Nat) : Int); rw [Int.toNat_natCast]; omega⟩, ⟨by omega, by show a.kind < 5; omega⟩, ?_⟩) fun h9 => ⟨acs.length - (k + 1), by omega, k + 1, by omega, by rw [w64 (by omega) (by omega)]; rfl, rfl, ?_⟩
    · obtain ⟨c, hc⟩ := Int.eq_ofNat_of_zero_le (show 0 ≤ a.kind by omega)
      have hc5 : c < 5 := by omega
      have hcell := (o5.block List.mem_cons_self).1
      have hrl := rows_length didC_length ((List.range xs.length).map (didF xs (acs.take k) span))
      rw [List.length_map, List.length_range] at hrl
      rw [hc, Int.toNat_natCast, Int.toNat_natCast, Nat.zero_add, Nat.mul_one]
      refine storeK_one hcell (by rw [hrl]; omega) ⟨acs.length - (k + 1), by omega, k + 1, by omega, by rw [w64 (by omega) (by omega)]; rfl, rfl, ?_⟩
      have hset : (rows didC ((List.range xs.length).map (didF xs (acs.take k) span))).set (q * 5 + c) (.bool true) = rows didC ((List.range xs.length).map (didF xs (acs.take (k + 1)) span)) := by
        have hq : ((List.range xs.length).map (didF xs (acs.take k) span))[q]? = some (didF xs (acs.take k) span q) := by
          rw [List.getElem?_map, List.getElem?_range hql]; rfl
        have hh : ∀ k', hit xs span q k' a = decide (k' = c) := fun k' => by
          unfold hit
          rw [hi, atS_some hxq, hc]
          have e1 : decide ((c : Int) = (k' : Int)) = decide (k' = c) := decide_eq_decide.2 ⟨fun e => by omega, fun e => by omega⟩
          rw [e1]; simp [h9]
        rw [rows_set didC_length (b := didF xs (acs.take (k + 1)) span q) hq hc5, range_map_set]
        · intro j hj hjn
          funext k'
          rw [hstep]
          have : hit xs span j k' a = false := by
            unfold hit
            rw [hi]
            have : ¬ (some q = some j) := fun e => hj (by cases e; rfl)
            simp [this]
          rw [this, Bool.or_false]
        · unfold didC
          simp only [hstep, hh]
          have h5 : c = 0 ∨ c = 1 ∨ c = 2 ∨ c = 3 ∨ c = 4 := by omega
          rcases h5 with rfl | rfl | rfl | rfl | rfl <;> simp
      rw [hset]
      exact o5.change (by rw [rows_length didC_length]; simp)
    · have hsame : (List.range xs.length).map (didF xs (acs.take (k + 1)) span) = (List.range xs.length).map (didF xs (acs.take k) span) := by
        refine List.map_congr_left fun i _ => ?_
        funext k'
        rw [hstep]
        have : hit xs span i k' a = false := by
          unfold hit
          rw [hi]
          by_cases e : q = i
          · subst e; rw [atS_some hxq]; simp [h9]
          · have : ¬ (some q = some i) := fun e' => e (by cases e'; rfl)
            simp [this]
        rw [this, Bool.or_false]
      rw [hsame]; exact o5
  have hkn : k = acs.length := by omega
  subst hkn
  rw [List.take_length] at o5
  obtain ⟨D, hD⟩ : ∃ D, didF xs acs span = D := ⟨_, rfl⟩
  rw [hD] at o5 hQ
  have hdid := (o5.block List.mem_cons_self).1
  have e5 := o5.ext
  clear hrep o4 he4 hn4 hge
  -- the rows
  refine newK_intro fun i68 h6 hn6 he6 => ?_
  refine loopK_intro (fun (a : Int) h'' m => ∃ (k : Nat) (bs : List Nat), k ≤ xs.length ∧ a = (k : Int) ∧ m = xs.length - k ∧ (lets (xs.take k)).length = bs.length ∧ h'' i68 = some (.map (rowM (lets (xs.take k)) bs)) ∧ Rws h5 h'' bs ((lets (xs.take k)).map (rowF xs D k))) xs.length
    ⟨0, [], by omega, rfl, rfl, rfl, by rw [he6, set_eq]; rfl, ?_⟩ ?_
  · have := Rws.nil h5
    exact ⟨he6 ▸ Ext.new hn6, rfl, by simp, by simp, by simp⟩
  rintro a g m ⟨k, bs, hk, rfl, rfl, hbl, hmap, R⟩
  refine ifT_dec (fun hlt => ⟨⟨by omega, hlt⟩, ?_⟩) fun hge => ?_
  · have hx := List.getElem?_eq_getElem (show k < xs.length by omega)
    generalize xs[k] = x at hx
    have ht : xs.take (k + 1) = xs.take k ++ [x] := by rw [List.take_add_one, hx]; rfl
    have hnd := lets_nodup _ (xs.take k) rfl
    have hmem := lets_mem _ (xs.take k) rfl x.letter
    refine ((e3.trans (e5.trans R.ext)).at_ hs).row sentC_length (by decide) hx fun bb oo hr => ⟨x.id, x.person, x.letter, x.at_, hr, ?_⟩
    have hap := lets_snoc (xs.take k) x
    rw [← ht] at hap
    obtain ⟨ls, hls⟩ : ∃ ls, lets (xs.take k) = ls := ⟨_, rfl⟩
    rw [hls] at hap hnd hmem hbl hmap R
    have hnd2 := lets_nodup _ (xs.take (k + 1)) rfl
    obtain ⟨ls2, hls2⟩ : ∃ ls2, lets (xs.take (k + 1)) = ls2 := ⟨_, rfl⟩
    rw [hls2] at hap hnd2
    -- the row of the letter, new or not
    have join : ∀ (p79 : Option (Nat × Nat)) (F : Option (Nat × Nat) → T) (b80 : Bool), ((x.letter ∈ ls ∧ ∃ (q b : Nat), p79 = some (b, 0) ∧ ls[q]? = some x.letter ∧ bs[q]? = some b) ∨ (x.letter ∉ ls ∧ p79 = none)) →
        (∀ (q b : Nat) (bs2 : List Nat) g2, ls2[q]? = some x.letter → bs2[q]? = some b → ls2.length = bs2.length → g2 i68 = some (.map (rowM ls2 bs2)) → Rws h5 g2 bs2 (ls2.map (rowF xs D k)) → F (some (b, 0)) g2) →
        joinK F (fun x91 => ifT p79.isNone (fun h92 => (newK (.cells false (rowC ⟨x.letter, 0, 0, 0, 0, 0⟩)) (fun i93 => fun h94 => (mapK [] (some i68) (V.one (Cell.str x.letter)) (V.one (Cell.ptr (some (i93, 0)))) (x91 (some (i93, 0)))) h94)) h92) (x91 p79)) g := by
      intro p79 F b80 hc hF
      refine joinK_intro (fun p g2 => ∃ (q b : Nat) (bs2 : List Nat), p = some (b, 0) ∧ ls2[q]? = some x.letter ∧ bs2[q]? = some b ∧ ls2.length = bs2.length ∧ g2 i68 = some (.map (rowM ls2 bs2)) ∧ Rws h5 g2 bs2 (ls2.map (rowF xs D k))) ?_ fun j hj => ?_
      · rintro p g2 ⟨q, b, bs2, rfl, c1, c2, c3, c4, c5⟩
        exact hF q b bs2 g2 c1 c2 c3 c4 c5
      · rcases hc with ⟨hm, q, b, rfl, hq, hb⟩ | ⟨hm, rfl⟩
        · have : ls2 = ls := by rw [hap]; unfold addL; rw [if_pos hm]
          subst this
          exact ifT_intro (fun h => by cases h) fun _ => hj _ _ ⟨q, b, bs, rfl, hq, hb, hbl, hmap, R⟩
        · have e2 : ls2 = ls ++ [x.letter] := by rw [hap]; unfold addL; rw [if_neg hm]
          refine ifT_intro (fun _ => ?_) fun h => by cases h
          refine newK_intro fun i93 g2 hn93 he93 => ?_
          have hne : i93 ≠ i68 := fun e => by subst e; rw [hmap] at hn93; cases hn93
          have hz : rowF xs D k x.letter = ⟨x.letter, 0, 0, 0, 0, 0⟩ := rowF_none fun y hy e => hm (hmem.2 ⟨y, hy, e⟩)
          have R2 := R.push (r := rowF xs D k x.letter) hn93
          rw [hz, ← he93] at R2
          have hmap2 : g2 i68 = some (.map (rowM ls bs)) := by rw [he93, set_ne _ _ (fun e => hne e.symm)]; exact hmap
          refine mapK_in hmap2 (rowM_set hbl hm) (hj _ _ ⟨ls.length, i93, bs ++ [i93], rfl, by rw [e2]; simp, by rw [hbl]; simp, by rw [e2]; simp [hbl], by rw [set_eq, e2], ?_⟩)
          rw [e2, List.map_append]
          have h5n : h5 i68 = none := hn6
          have := R2.setMap (es' := rowM (ls ++ [x.letter]) (bs ++ [i93])) h5n hmap2
          simpa [hz] using this
    have hlook : ∃ (p79 : Option (Nat × Nat)) (b80 : Bool), mapGet (.one (.str x.letter)) (.one (.ptr none)) (rowM ls bs) = some (.one (.ptr p79), b80) ∧ ((x.letter ∈ ls ∧ ∃ (q b : Nat), p79 = some (b, 0) ∧ ls[q]? = some x.letter ∧ bs[q]? = some b) ∨ (x.letter ∉ ls ∧ p79 = none)) := by
      by_cases hm : x.letter ∈ ls
      · obtain ⟨q, b, c1, c2, c3⟩ := rowM_get hbl hm
        exact ⟨_, _, c3, .inl ⟨hm, q, b, rfl, c1, c2⟩⟩
      · exact ⟨_, _, rowM_none hm, .inr ⟨hm, rfl⟩⟩
    obtain ⟨p79, b80, hget, hcase⟩ := hlook
    refine ⟨p79, b80, ⟨_, mapOf_some hmap, hget⟩, ?_⟩
    refine join p79 _ b80 hcase fun q b bs2 g2 c1 c2 c3 c4 R2 => ?_
    have hg49 := R2.ext _ _ hdid
    have hrl := rows_length didC_length ((List.range xs.length).map D)
    rw [List.length_map, List.length_range] at hrl
    have hkl : k < xs.length := (List.getElem?_eq_some_iff.1 hx).1
    have hDk : ((List.range xs.length).map D)[k]? = some (D k) := by rw [List.getElem?_map, List.getElem?_range hkl]; rfl
    have hcb : ∀ p L, cnt xs k p L < 1000 := fun p L => by have := cnt_le (xs := xs) (n := k) (p := p) (L := L); omega
    have hq2 : (ls2.map (rowF xs D k))[q]? = some (rowF xs D k x.letter) := by rw [List.getElem?_map, c1]; rfl
    refine ⟨⟨by omega, by show (k : Int) < ((((s1.len : Nat) : Int).toNat : Nat) : Int); rw [Int.toNat_natCast]; omega⟩, D k 0, D k 1, D k 2, D k 3, D k 4, ?_, ?_⟩
    · rw [Int.toNat_natCast, Nat.zero_add, read_block hg49 (by rw [hrl]; omega), rows_get didC_length hDk]; rfl
    refine spec26 hI (R2.cell q b _ c2 hq2) (hcb _ _) (hcb _ _) (hcb _ _) (hcb _ _) (hcb _ _) fun g3 hf hb3 => ⟨rfl, xs.length - (k + 1), by omega, k + 1, bs2, by omega, by rw [w64 (by omega) (by omega)]; rfl, rfl, by rw [hls2]; exact c3, ?_, ?_⟩
    · rw [hls2]
      refine hf i68 _ (fun e => ?_) c4
      subst e
      rw [R2.cell q i68 _ c2 hq2] at c4; cases c4
    · have R3 := R2.bump c2 hf hb3
      rw [hls2]
      have e9 : (ls2.map (rowF xs D k)).set q (bump (rowF xs D k x.letter) (D k)) = ls2.map (rowF xs D (k + 1)) := by
        apply List.ext_getElem?
        intro j
        rw [List.getElem?_set, List.getElem?_map, List.getElem?_map]
        split
        · rename_i e
          subst e
          rw [if_pos (by rw [List.length_map]; exact (List.getElem?_eq_some_iff.1 c1).1), c1]
          simp only [Option.map_some]
          rw [rowF_hit hx]
        · rename_i e
          cases hlj : ls2[j]? with
          | none => rfl
          | some L =>
            simp only [Option.map_some]
            rw [rowF_miss hx (fun e' => ?_)]
            subst e'
            obtain ⟨w1, w2⟩ := List.getElem?_eq_some_iff.1 hlj
            obtain ⟨w3, w4⟩ := List.getElem?_eq_some_iff.1 c1
            exact e ((List.getElem_inj hnd2).1 (w4.trans w2.symm))
      rw [e9] at R3; exact R3
  have hkn : k = xs.length := by omega
  subst hkn
  rw [List.take_length] at hbl hmap R
  have hmem := lets_mem _ xs rfl
  have hll := lets_length xs
  obtain ⟨ls, hls⟩ : ∃ ls, lets xs = ls := ⟨_, rfl⟩
  rw [hls] at hbl hmap R hmem hll hQ
  -- the keys, sorted
  refine hI.prim _ _ _ _ (.inl (.inl ⟨rfl, i68, rfl, by rw [hmap]; simp, fun i96 hn96 => ⟨_, rfl, ?_⟩⟩))
  have e96 := Ext.new (o := .pin (.map (some i68))) hn96
  obtain ⟨g7, hg7⟩ : ∃ g7, g.set i96 (.pin (.map (some i68))) = g7 := ⟨_, rfl⟩
  have h96 : g7 i96 = some (.pin (.map (some i68))) := by rw [← hg7, set_eq]
  rw [hg7] at e96 ⊢
  refine hI.prim _ _ _ _ (.inl (.inr ⟨rfl, i96, i68, _, ls, rfl, h96, e96 _ _ hmap, rowM_keys hbl, by omega, fun l hl => ?_, fun s' zs g8 hzp hzs own => ⟨_, rfl, ?_⟩⟩))
  · obtain ⟨x, hx, rfl⟩ := (hmem l).1 hl
    exact isKey_size (hk1 x hx)
  have hzl : zs.length = ls.length := hzp.length_eq
  have e8 := e96.trans own.ext
  have hat8 := own.at_
  have hsl' : s'.len = zs.length := by have := own.len; simpa using this
  refine loopK_intro (fun (a : Sl × Int) h'' m => ∃ j : Nat, j ≤ zs.length ∧ a.2 = (j : Int) ∧ m = zs.length - j ∧ Owns g8 h'' [(6, a.1, rows rowC ((zs.take j).map (rowF xs D xs.length)))]) zs.length ⟨0, by omega, rfl, rfl, (Owns.nil g8).none_ 6⟩ ?_
  rintro ⟨out, y⟩ g9 m ⟨j, hj, rfl, rfl, o9⟩
  dsimp only [uncur] at o9 ⊢
  have hol : out.len = j := by
    have := (o9.at_ (s := out) List.mem_cons_self).rowsLen rowC_length (by decide)
    rw [List.length_map, List.length_take] at this; omega
  have e9 := e8.trans o9.ext
  refine ifT_dec (fun hlt => ⟨⟨by omega, hlt⟩, ?_⟩) fun hge => ?_
  · have hx := List.getElem?_eq_getElem (show j < zs.length by omega)
    generalize zs[j] = z at hx
    obtain ⟨q, b, c1, c2, c3⟩ := rowM_get hbl (hzp.mem_iff.1 (List.mem_of_getElem? hx))
    have hq2 : (ls.map (rowF xs D xs.length))[q]? = some (rowF xs D xs.length z) := by rw [List.getElem?_map, c1]; rfl
    have hcell := e9 _ _ (R.cell q b _ c2 hq2)
    refine (o9.ext.at_ hat8).cell (c := .str z) (by rw [List.getElem?_map, hx]; rfl) fun bb oo hr => ⟨z, hr, some (b, 0), true, ⟨_, mapOf_some (e9 _ _ hmap), c3⟩, ?_⟩
    refine derefK_intro rfl ⟨_, _, _, _, _, _, (read_block hcell (show 0 + 6 ≤ 6 by decide)).trans rfl, ?_⟩
    refine appendTo_owns (m := 0) o9 rfl (by omega) (by simp) fun bn h10 o10 => ⟨zs.length - (j + 1), by omega, j + 1, by omega, by show IntKind.i64.wrap _ = _; rw [w64 (by omega) (by omega)]; rfl, rfl, ?_⟩
    have et : zs.take (j + 1) = zs.take j ++ [z] := by rw [List.take_add_one, hx]; rfl
    rw [et, List.map_append, rows_append]
    have : rows rowC ([z].map (rowF xs D xs.length)) = rowC (rowF xs D xs.length z) := by simp [rows]
    rw [this]; exact o10
  · have hjn : j = zs.length := by omega
    subst hjn
    rw [List.take_length] at o9
    exact hQ out zs g9 hE hsp ((e3.trans (e5.trans R.ext)).trans e9) hzp hzs ((o9.new_ List.mem_cons_self).of_ext ((e3.trans (e5.trans R.ext)).trans e8)) (o9.at_ List.mem_cons_self)
end
end Go.Proofs.YtmjfeabnioclgaaGreatDoorVc
