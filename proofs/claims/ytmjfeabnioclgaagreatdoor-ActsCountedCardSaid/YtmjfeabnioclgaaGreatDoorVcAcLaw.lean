/- ActsCounted: the law's contract. -/
import Derived.Test.YtmjfeabnioclgaaGreatDoorVcAcS
import Derived.Test.YtmjfeabnioclgaaGreatDoorVcAcKeys
set_option linter.unusedSimpArgs false
set_option linter.unusedVariables false
namespace Go.Proofs.YtmjfeabnioclgaaGreatDoorVc
open Go.Proofs.Tryz (prog)
theorem same_rowsF {F : ByteArray → RowS} (hF : ∀ L, (F L).letter = L) {ls zs : List ByteArray} {ys : List RowS} (hz : zs.Perm ls) (hzs : zs.Pairwise leB) (hy : ys.Perm (ls.map F)) (hys : ys.Pairwise leR) : zs.map F = ys := by
  refine List.Perm.eq_of_pairwise (le := leR) (fun a b ha hb h1 h2 => ?_) ?_ hys ((hz.map F).trans hy.symm)
  · obtain ⟨L, _, rfl⟩ := List.mem_map.1 ha
    obtain ⟨M, _, rfl⟩ := List.mem_map.1 (hy.mem_iff.1 hb)
    unfold leR at h1 h2
    rw [hF, hF] at h1 h2
    rw [bl_inj (List.le_antisymm h1 h2)]
  · rw [List.pairwise_map]
    refine hzs.imp fun {a b} h => ?_
    unfold leR
    rw [hF, hF]; exact h
section
variable {I : Calls} {Q : Post} {h : Heap}
theorem steps_both (hI : Closed' prog Pm I) {s1 s2 : Sl} {xs : List Sent} {acs : List Act} {span : Int} (hs : At h 4 s1 (rows sentC xs)) (ha : At h 3 s2 (rows actC acs)) (hxl : xs.length ≤ 8) (hal : acs.length ≤ 9) {Q2 : Sl → Int → Sl → Int → T}
    (hQ : ∀ r1 r2 e (ys : List RowS) g, Ext h g → At g 6 r1 (rows rowC ys) → At g 6 r2 (rows rowC ys) → ys.length ≤ 12 → Q2 r1 e r2 e g) :
    I 7 [.one (.slice 4 s1), .one (.slice 3 s2), int span] (fun cs15 h16 => ∃ l17 : Sl, ∃ n18 : Int, (cs15 = [V.one (Cell.slice 6 l17), V.one (Cell.int .i64 n18)]) ∧
      I 8 [.one (.slice 4 s1), .one (.slice 3 s2), int span] (fun cs19 h20 => ∃ l21 : Sl, ∃ n22 : Int, (cs19 = [V.one (Cell.slice 6 l21), V.one (Cell.int .i64 n22)]) ∧ Q2 l17 n18 l21 n22 h20) h16) h := by
  have nilAt : ∀ g : Heap, At g 6 ⟨none, 0⟩ (rows rowC []) := fun g => ⟨rfl, .inl rfl⟩
  refine spec7 hI hs ha (by omega) hal (fun g e hE hb => ⟨_, _, rfl, ?_⟩) (fun g e hb => ⟨_, _, rfl, ?_⟩) fun s' zs g hE hsp e hz hzs hnew hat => ⟨_, _, rfl, ?_⟩
  · refine spec8 hI (e.at_ hs) (e.at_ ha) (by omega) hal (fun g2 e2 hb2 => absurd hE hb2) (fun g2 e2 hE _ => ⟨_, _, rfl, ?_⟩) fun _ _ _ _ hsp => absurd hsp hb
    exact hQ _ _ _ [] g2 (e.trans e2) (nilAt _) (nilAt _) (by simp)
  · refine spec8 hI (e.at_ hs) (e.at_ ha) (by omega) hal (fun g2 e2 hb2 => ⟨_, _, rfl, ?_⟩) (fun g2 e2 hE _ => absurd hE hb) fun _ _ _ hE => absurd hE hb
    exact hQ _ _ _ [] g2 (e.trans e2) (nilAt _) (nilAt _) (by simp)
  · refine spec8 hI (e.at_ hs) (e.at_ ha) (by omega) hal (fun g2 e2 hb2 => absurd hE hb2) (fun g2 e2 _ hb => absurd hsp hb) fun s2' ys g2 _ _ e2 hy hys hat2 => ⟨_, _, rfl, ?_⟩
    have hsame := same_rowsF (F := rowF xs (didF xs acs span) xs.length) (fun L => rfl) hz hzs hy hys
    rw [hsame] at hat
    refine hQ _ _ _ ys g2 (e.trans e2) (e2.at_ hat) hat2 ?_
    have h1 := hy.length_eq
    have h2 := lets_length xs
    rw [List.length_map] at h1
    omega
theorem cohorts_both (hI : Closed' prog Pm I) {s : Sl} {acs : List Act} {len many : Int} (ha : At h 3 s (rows actC acs)) (hal : acs.length ≤ 9) {Q2 : Sl → Int → Sl → Int → T}
    (hQ : ∀ r1 r2 e (gs : List (List Int)) g, Ext h g → LieN g r1 gs → LieN g r2 gs → gs.length ≤ 60 → (∀ x ∈ gs, x.length ≤ 60) → Q2 r1 e r2 e g) :
    I 10 [.one (.slice 3 s), int len, int many] (fun cs15 h16 => ∃ l17 : Sl, ∃ n18 : Int, (cs15 = [V.one (Cell.slice 1 l17), V.one (Cell.int .i64 n18)]) ∧
      I 11 [.one (.slice 3 s), int len, int many] (fun cs19 h20 => ∃ l21 : Sl, ∃ n22 : Int, (cs19 = [V.one (Cell.slice 1 l21), V.one (Cell.int .i64 n22)]) ∧ Q2 l17 n18 l21 n22 h20) h16) h := by
  have nilL : ∀ g : Heap, LieN g ⟨none, 0⟩ [] := fun g => ⟨[], rfl, ⟨rfl, .inl rfl⟩, by simp⟩
  refine spec10 hI ha (by omega) (fun hb => ⟨_, _, rfl, ?_⟩) fun hE s' g e hL => ⟨_, _, rfl, ?_⟩
  · refine spec11 hI ha (by omega) (fun g2 e2 _ => ⟨_, _, rfl, ?_⟩) fun hE => absurd hE hb
    exact hQ _ _ _ [] g2 e2 (nilL _) (nilL _) (by simp) (by simp)
  · refine spec11 hI (e.at_ ha) (by omega) (fun g2 e2 hb => absurd hE hb) fun _ s2' g2 e2 hL2 => ⟨_, _, rfl, ?_⟩
    have hm : many ≤ 60 := by
      unfold errC at hE
      by_cases c : actsErr acs ≠ 0
      · rw [if_pos c] at hE; exact absurd hE c
      · rw [if_neg c] at hE
        by_cases c2 : (1 ≤ len ∧ len ≤ 4321440) ∧ (1 ≤ many ∧ many ≤ 60)
        · exact c2.2.2
        · rw [if_pos c2] at hE; cases hE
    refine hQ _ _ _ _ g2 (e.trans e2) (hL.ext e2) hL2 (by rw [gridOf_length]; omega) fun x hx => ?_
    rw [gridOf_rows _ _ x hx]; omega
theorem unique_both (hI : Closed' prog Pm I) {s : Sl} {acs : List Act} {kind f t : Int} (ha : At h 3 s (rows actC acs)) (hal : acs.length ≤ 9) {Q2 : Int → Int → Int → Int → T} (hQ : ∀ n e g, Q2 n e n e g) :
    I 15 [.one (.slice 3 s), int kind, .agg [.int .i64 f, .int .i64 t]] (fun cs15 h16 => ∃ n17 : Int, ∃ n18 : Int, (cs15 = [V.one (Cell.int .i64 n17), V.one (Cell.int .i64 n18)]) ∧
      I 16 [.one (.slice 3 s), int kind, .agg [.int .i64 f, .int .i64 t]] (fun cs19 h20 => ∃ n21 : Int, ∃ n22 : Int, (cs19 = [V.one (Cell.int .i64 n21), V.one (Cell.int .i64 n22)]) ∧ Q2 n17 n18 n21 n22 h20) h16) h := by
  refine spec15 hI ha (by omega) (fun hb => ⟨_, _, rfl, ?_⟩) fun hE g e => ⟨_, _, rfl, ?_⟩
  · exact spec16 hI ha (by omega) (fun g2 e2 _ => ⟨_, _, rfl, hQ _ _ _⟩) fun hE => absurd hE hb
  · exact spec16 hI (e.at_ ha) (by omega) (fun g2 e2 hb => absurd hE hb) fun _ g2 e2 => ⟨_, _, rfl, hQ _ _ _⟩
theorem pick_in (hI : Closed' prog Pm I) {hb : Heap} {i : Nat} {l : Sl} {zs : List Int} {t0 t : Nat} {L : List Ow} (S0 : Strm hb i l zs t0) (o : Owns (hb.del i) h (owS i l t :: L)) (ht : t < 900000) (xs : List Int) (h1 : xs ≠ []) (h2 : xs.length < 1000) {k : Int → T}
    (hk : ∀ v g, v ∈ xs → Owns (hb.del i) g (owS i l (t + 1) :: L) → k v g) :
    newK (.cells false (ints xs)) (fun i10 h11 => I 6 [.one (.ptr (some (i, 0))), .one (.slice 1 ⟨some (i10, 0), xs.length⟩)] (fun cs12 h13 => ∃ n14 : Int, (cs12 = [V.one (Cell.int .i64 n14)]) ∧ k n14 h13) h11) h := by
  refine newK_intro fun i13 h14 hn14 he14 => ?_
  have hne := o.lit_ne hn14
  have o14 := o.mono (he14 ▸ Ext.new hn14 : Ext _ h14)
  exact spec6 hI (xs := xs) (o14.toStrm S0 (t' := t) (by simp) (by omega)) (lit_at hne he14 rfl) h1 h2 fun v hv => ⟨v, rfl, hk v _ hv o14.next⟩
theorem spec3 (hI : Closed' prog Pm I) {s : Sl} {zs : List Int} (hs : At h 1 s (ints zs)) : I 3 [.one (.slice 1 s)] tru h := by
  refine hI.go _ _ (den3 I s tru) ?_
  refine newK_intro fun i2 h1 hn1 he1 => ?_
  have S0 : Strm h1 i2 s zs 0 := he1 ▸ Strm.make hs hn1
  refine spec4 hI S0 (by decide) S0.owns (by decide) fun l6 h6 xs t6 o6 ht6 hxl hx8 => ⟨l6, rfl, ?_⟩
  refine spec5 hI S0 o6 (by omega) (List.mem_cons_self) hxl fun l9 h9 acs t9 o9 ht9 hal => ⟨l9, rfl, ?_⟩
  refine pick_in hI S0 o9 (by omega) [0, 1, 60, 1000, -1, 4321441] (by simp) (by simp) fun span g1 _ o1 => ?_
  have hat1 := o1.at_ (sz := 4) (s := l6) (cs := rows sentC xs) (by simp)
  have hat2 := o1.at_ (sz := 3) (s := l9) (cs := rows actC acs) (by simp)
  refine steps_both hI hat1 hat2 (by omega) hal fun r1 r2 e ys g2 e2 a1 a2 hyl => ?_
  have o2 := o1.mono e2
  refine joinK_intro (fun (b : Bool) g => g = g2 ∧ b = false) ?_ fun j hj => ifT_intro (fun h9 => absurd rfl (nd h9)) fun _ => spec9 hI a1 a2 (by omega) ⟨true, rfl, hj _ _ ⟨rfl, rfl⟩⟩
  rintro b g ⟨rfl, rfl⟩
  refine ifT_intro (fun h9 => by cases h9) fun _ => ?_
  refine pick_in hI S0 o2 (by omega) [1, 10, 100, 1000, 0] (by simp) (by simp) fun len g3 _ o3 => ?_
  refine pick_in hI S0 o3 (by omega) [1, 3, 10, 60, 0, 61] (by simp) (by simp) fun many g4 _ o4 => ?_
  have hat4 := o4.at_ (sz := 3) (s := l9) (cs := rows actC acs) (by simp)
  refine cohorts_both hI hat4 hal fun r1 r2 e gs g5 e5 a1 a2 hgl hgr => ?_
  have o5 := o4.mono e5
  refine joinK_intro (fun (b : Bool) g => g = g5 ∧ b = false) ?_ fun j hj => ifT_intro (fun h9 => absurd rfl (nd h9)) fun _ => spec12 hI a1 a2 (by omega) (fun x hx => by have := hgr x hx; omega) ⟨true, rfl, hj _ _ ⟨rfl, rfl⟩⟩
  rintro b g ⟨rfl, rfl⟩
  refine ifT_intro (fun h9 => by cases h9) fun _ => ?_
  refine specRange hI (o5.toStrm S0 (t' := t9 + 1 + 1 + 1) (by simp) (by omega)) (by decide) (by decide) (by decide) fun kind _ _ => ⟨kind, rfl, ?_⟩
  have o6 := o5.next (t' := t9 + 1 + 1 + 1 + 1)
  refine pick_in hI S0 o6 (by omega) [0, 10, 300, -1] (by simp) (by simp) fun f g7 _ o7 => ?_
  refine pick_in hI S0 o7 (by omega) [5, 300, 900, 4321440, 4321441] (by simp) (by simp) fun t g8 _ o8 => ?_
  have hat8 := o8.at_ (sz := 3) (s := l9) (cs := rows actC acs) (by simp)
  refine unique_both hI hat8 hal fun n e g9 => spec17 hI ⟨true, rfl, ifT_intro (fun _ => ifT_dec (fun _ => ?_) fun h9 => absurd rfl h9) fun h9 => by cases h9⟩
  show tru [.one (.bool (decide (n = n)))] g9
  rw [decide_eq_true rfl]; rfl
end
theorem pm_sound : Sound prog Pm := or_sound (or_sound keysP_sound sortedP_sound) (cmp_sound Go.Proofs.Tryz.func76 (by kernel_rfl) (by kernel_rfl) (by kernel_rfl) (by kernel_rfl))
end Go.Proofs.YtmjfeabnioclgaaGreatDoorVc
