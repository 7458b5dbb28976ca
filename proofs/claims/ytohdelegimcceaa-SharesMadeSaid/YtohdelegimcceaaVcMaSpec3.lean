/- Contracts of what SharesMade reaches: the law. -/
import Derived.Test.YtohdelegimcceaaVcMaSpec2
set_option linter.unusedSimpArgs false
set_option linter.unusedVariables false
namespace Go.Proofs.YtohdelegimcceaaVc
open Go.Proofs.YtohdelegimcceaaLasts (shared)
open Go.Proofs.Try (prog)

/-- What is wrong with ages. -/
def scan (span : Int) : Option Int → List Int → Int
  | _, [] => 0
  | p, a :: l => if ¬ (1 ≤ a ∧ a ≤ span) then 1 else if (p.any fun q => decide (q < a)) = true then 7 else scan span (some a) l
def errA (how span : Int) (xs : List Int) : Int := if ¬ (1 ≤ how ∧ how ≤ 6) then 4 else if ¬ (1 ≤ span ∧ span ≤ 4321440) then 1 else if 12 < xs.length then 2 else scan span none xs
def prev (xs : List Int) (i : Nat) : Option Int := if i = 0 then none else xs[i - 1]?
def wList (how span : Int) (xs : List Int) : List Int := (List.range xs.length).map fun i => wOf how span xs.length i (xs.getD i 0)

theorem getD_of {xs : List Int} {i : Nat} {x : Int} (h : xs[i]? = some x) : xs.getD i 0 = x := by rw [List.getD_eq_getElem?_getD, h]; rfl
theorem scan_step {span : Int} {xs : List Int} {i : Nat} {x : Int} (hx : xs[i]? = some x) : scan span (prev xs i) (xs.drop i) = if ¬ (1 ≤ x ∧ x ≤ span) then 1 else if ((prev xs i).any fun q => decide (q < x)) = true then 7 else scan span (prev xs (i + 1)) (xs.drop (i + 1)) := by
  rw [drop_mid hx]
  show (if _ then _ else _) = _
  have : prev xs (i + 1) = some x := by unfold prev; simp [hx]
  rw [this]
theorem wList_take {how span : Int} {xs : List Int} {k : Nat} {x : Int} (hx : xs[k]? = some x) : (wList how span xs).take (k + 1) = (wList how span xs).take k ++ [wOf how span xs.length k x] := by
  have hlt : k < xs.length := (List.getElem?_eq_some_iff.1 hx).1
  unfold wList
  rw [take_succ_map (fun i => wOf how span xs.length i (xs.getD i 0)) (List.getElem?_range hlt), getD_of hx]

section
variable {I : Calls} {Q : Post} {h : Heap}

theorem specWeights21 (hI : Closed' prog Pm I) {how span : Int} {s : Sl} {xs : List Int} (hs : At h 1 s (ints xs)) (hn : xs.length ≤ 12) (h3 : span ≤ 4321440) (hv : ∀ a ∈ xs, 1 ≤ a ∧ a ≤ span)
    (hQ : ∀ s' h', Ext h h' → At h' 1 s' (ints (wList how span xs)) → Q [.one (.slice 1 s')] h') : I 21 [int how, int span, .one (.slice 1 s)] Q h := by
  have hl : s.len = xs.length := by rw [hs.len1, ints_length]
  have hwl : (wList how span xs).length = xs.length := by simp [wList]
  refine hI.go _ _ (den21 I how span s Q) ?_
  unfold vc21
  rw [hl]
  refine loopK_intro (fun (a : Sl × Int) h'' m => ∃ k : Nat, k ≤ xs.length ∧ xs.length - k = m ∧ a.2 = (k : Int) ∧ Own h h'' 1 a.1 (ints ((wList how span xs).take k))) xs.length
    ⟨0, by omega, rfl, rfl, Own.nil _ _⟩ ?_
  rintro ⟨l, y⟩ h2 m ⟨k, hk, rfl, rfl, o⟩
  dsimp only [uncur]
  refine ifT_dec (fun hlt => ⟨⟨by omega, by omega⟩, ?_⟩) (fun hge => ?_)
  · have hkl : k < xs.length := by omega
    have hx := List.getElem?_eq_getElem hkl
    have hxv := hv xs[k] (List.getElem_mem hkl)
    generalize xs[k] = x at *
    refine (o.ext.at_ hs).cell (ints_get hx) fun b o' hr => ⟨_, hr, specWeight hI hkl (by omega) hxv.1 hxv.2 h3 ⟨_, rfl, ?_⟩⟩
    have hol := o.len
    rw [ints_length, List.length_take, hwl] at hol
    change l.len * 1 = _ at hol
    refine appendTo_own (m := 0) o (by rfl) (by omega) fun s' h3 o3 hl3 => ⟨xs.length - (k + 1), by omega, k + 1, by omega, rfl, ?_, by rw [wList_take hx]; simpa [ints] using o3⟩
    show IntKind.i64.wrap ((k : Int) + 1) = _
    rw [w64] <;> omega
  · have : k = xs.length := by omega
    subst this
    have e : (wList how span xs).take xs.length = wList how span xs := List.take_of_length_le (by omega)
    rw [e] at o
    exact hQ _ _ o.ext o.at_

theorem specWeights7 (hI : Closed' prog Pm I) {how span : Int} {s : Sl} {xs : List Int} (hs : At h 1 s (ints xs)) (hQe : errA how span xs ≠ 0 → Q [.one (.slice 1 ⟨none, 0⟩), int (errA how span xs)] h)
    (hQ : errA how span xs = 0 → ∀ s' h', Ext h h' → At h' 1 s' (ints (wList how span xs)) → Q [.one (.slice 1 s'), int 0] h') : I 7 [int how, int span, .one (.slice 1 s)] Q h := by
  have hl : s.len = xs.length := by rw [hs.len1, ints_length]
  refine hI.go _ _ (den7 I how span s Q) ?_
  refine hI.go _ _ (den19 I how span _) ?_
  have bad : ∀ e, e ≠ 0 → errA how span xs = e → Q [.one (.slice 1 ⟨none, 0⟩), int e] h := fun e he h1 => by rw [← h1]; exact hQe (by rw [h1]; exact he)
  refine spec20 hI ⟨_, rfl, ifT_intro (fun hb => ⟨_, rfl, ifT_intro (fun _ => bad 4 (by decide) ?_) fun h => by simp at h⟩) fun hb => ?_⟩
  · unfold errA; rw [if_pos]; simp at hb; omega
  have g1 : 1 ≤ how ∧ how ≤ 6 := by simp at hb; omega
  refine spec20 hI ⟨_, rfl, ifT_intro (fun hb2 => ⟨_, rfl, ifT_intro (fun _ => bad 1 (by decide) ?_) fun h => by simp at h⟩) fun hb2 => ⟨_, rfl, ifT_intro (fun h => by simp at h) fun _ => ?_⟩⟩
  · unfold errA; rw [if_neg (by simpa using g1), if_pos]; simp at hb2; omega
  have g2 : 1 ≤ span ∧ span ≤ 4321440 := by simp at hb2; omega
  rw [hl]
  refine ifT_dec (fun hgt => bad 2 (by decide) ?_) fun hgt => ?_
  · unfold errA; rw [if_neg (by simpa using g1), if_neg (by simpa using g2), if_pos (by omega)]
  have e0 : errA how span xs = scan span none xs := by unfold errA; rw [if_neg (by simpa using g1), if_neg (by simpa using g2), if_neg (by omega)]
  refine loopK_intro (fun (a : Int) h' m => h' = h ∧ ∃ i : Nat, i ≤ xs.length ∧ a = (i : Int) ∧ xs.length - i = m ∧ scan span none xs = scan span (prev xs i) (xs.drop i) ∧ ∀ w ∈ xs.take i, 1 ≤ w ∧ w ≤ span) xs.length
    ⟨rfl, 0, by omega, rfl, rfl, rfl, by simp⟩ ?_
  rintro a h' m ⟨rfl, i, hi, rfl, rfl, hsc, hall⟩
  refine ifT_dec (fun hlt => ⟨⟨by omega, by omega⟩, ?_⟩) (fun hge => ?_)
  · have hx := List.getElem?_eq_getElem (show i < xs.length by omega)
    generalize xs[i] = x at hx
    have htk : xs.take (i + 1) = xs.take i ++ [x] := by rw [List.take_add_one, hx]; rfl
    rw [scan_step hx] at hsc
    refine hs.cell (ints_get hx) fun bb o hr => ⟨x, hr, spec20 hI ⟨_, rfl, ifT_intro (fun hb => bad 1 (by decide) ?_) fun hb => ?_⟩⟩
    · rw [e0, hsc, if_pos]; simp at hb; omega
    have gx : 1 ≤ x ∧ x ≤ span := by simp at hb; omega
    rw [if_neg (by simpa using gx)] at hsc
    have hall' : ∀ w ∈ xs.take (i + 1), 1 ≤ w ∧ w ≤ span := fun w hw => by
      rw [htk] at hw
      rcases List.mem_append.1 hw with hw | hw
      · exact hall w hw
      · have : w = x := by simpa using hw
        rw [this]; exact gx
    have wi : IntKind.i64.wrap ((i : Int) + 1) = ((i + 1 : Nat) : Int) := by rw [w64] <;> omega
    rw [wi]
    refine ifT_dec (fun hpos => ?_) fun hz => ?_
    · have wj : IntKind.i64.wrap ((i : Int) - 1) = ((i - 1 : Nat) : Int) := by rw [w64] <;> omega
      rw [wj]
      have hp := List.getElem?_eq_getElem (show i - 1 < xs.length by omega)
      generalize xs[i - 1] = p at hp
      have epr : prev xs i = some p := by unfold prev; rw [if_neg (by omega), hp]
      rw [epr] at hsc
      refine ⟨⟨by omega, by omega⟩, hs.cell (ints_get hp) fun bb o hr => ⟨p, hr, ifT_dec (fun hgt2 => bad 7 (by decide) ?_) fun hle => ?_⟩⟩
      · rw [e0, hsc, if_pos]; simp; omega
      · rw [if_neg (by simp; omega)] at hsc
        exact ⟨xs.length - (i + 1), by omega, rfl, i + 1, by omega, rfl, rfl, hsc, hall'⟩
    · have hi0 : i = 0 := by omega
      subst hi0
      exact ⟨xs.length - (0 + 1), by omega, rfl, 0 + 1, by omega, rfl, rfl, hsc, hall'⟩
  · have : i = xs.length := by omega
    subst this
    rw [List.take_length] at hall
    rw [List.drop_length] at hsc
    have e : errA how span xs = 0 := by rw [e0, hsc]; rfl
    exact specWeights21 hI hs (by omega) g2.2 hall fun s' h2 hext hat => ⟨_, rfl, hQ e _ _ hext hat⟩

theorem specWeights8 (hI : Closed' prog Pm I) {how span : Int} {s : Sl} {xs : List Int} (hs : At h 1 s (ints xs)) (hQe : ∀ h', Ext h h' → errA how span xs ≠ 0 → Q [.one (.slice 1 ⟨none, 0⟩), int (errA how span xs)] h')
    (hQ : errA how span xs = 0 → ∀ s' h', Ext h h' → At h' 1 s' (ints (wList how span xs)) → Q [.one (.slice 1 s'), int 0] h') : I 8 [int how, int span, .one (.slice 1 s)] Q h := by
  have hl : s.len = xs.length := by rw [hs.len1, ints_length]
  have hwl : (wList how span xs).length = xs.length := by simp [wList]
  refine hI.go _ _ (den8 I how span s Q) ?_
  have bad : ∀ h' e, Ext h h' → e ≠ 0 → errA how span xs = e → Q [.one (.slice 1 ⟨none, 0⟩), int e] h' := fun h' e hx he h1 => by rw [← h1]; exact hQe h' hx (by rw [h1]; exact he)
  refine joinK_intro (fun (b : Bool) h' => h' = h ∧ (b = true ↔ ¬ (1 ≤ how ∧ how ≤ 6))) ?_ fun j hj => ifT_dec (fun h => hj _ _ ⟨rfl, by simp; omega⟩) fun h => hj _ _ ⟨rfl, by simp; omega⟩
  rintro b h' ⟨rfl, hb⟩
  refine ifT_intro (fun hbt => bad _ 4 (Ext.refl _) (by decide) (by unfold errA; rw [if_pos (hb.1 hbt)])) fun hbf => ?_
  have g1 : 1 ≤ how ∧ how ≤ 6 := by
    by_cases h : 1 ≤ how ∧ how ≤ 6
    · exact h
    · rw [hb.2 h] at hbf; cases hbf
  refine joinK_intro (fun (b : Bool) h'' => h'' = h' ∧ (b = true ↔ ¬ (1 ≤ span ∧ span ≤ 4321440))) ?_ fun j hj => ifT_dec (fun h => hj _ _ ⟨rfl, by simp; omega⟩) fun h => hj _ _ ⟨rfl, by simp; omega⟩
  rintro b2 h'' ⟨rfl, hb2⟩
  refine ifT_intro (fun hbt => bad _ 1 (Ext.refl _) (by decide) (by unfold errA; rw [if_neg (by simpa using g1), if_pos (hb2.1 hbt)])) fun hbf2 => ?_
  have g2 : 1 ≤ span ∧ span ≤ 4321440 := by
    by_cases h : 1 ≤ span ∧ span ≤ 4321440
    · exact h
    · rw [hb2.2 h] at hbf2; cases hbf2
  rw [hl]
  refine ifT_dec (fun hgt => bad _ 2 (Ext.refl _) (by decide) ?_) fun hgt => ?_
  · unfold errA; rw [if_neg (by simpa using g1), if_neg (by simpa using g2), if_pos (by omega)]
  have e0 : errA how span xs = scan span none xs := by unfold errA; rw [if_neg (by simpa using g1), if_neg (by simpa using g2), if_neg (by omega)]
  refine loopK_intro (fun (a : Sl × Int) h3 m => ∃ i : Nat, i ≤ xs.length ∧ a.2 = (i : Int) ∧ xs.length - i = m ∧ scan span none xs = scan span (prev xs i) (xs.drop i) ∧ Own h'' h3 1 a.1 (ints ((wList how span xs).take i))) xs.length
    ⟨0, by omega, rfl, rfl, rfl, Own.nil _ _⟩ ?_
  rintro ⟨l, y⟩ h3 m ⟨i, hi, rfl, rfl, hsc, o⟩
  dsimp only [uncur]
  refine ifT_dec (fun hlt => ⟨⟨by omega, by omega⟩, ?_⟩) (fun hge => ?_)
  · have hx := List.getElem?_eq_getElem (show i < xs.length by omega)
    generalize xs[i] = x at hx
    rw [scan_step hx] at hsc
    have hs3 := o.ext.at_ hs
    refine hs3.cell (ints_get hx) fun bb o' hr => ⟨x, hr, ?_⟩
    refine joinK_intro (fun (b : Bool) h4 => h4 = h3 ∧ (b = true ↔ ¬ (1 ≤ x ∧ x ≤ span))) ?_ fun j hj => ifT_dec (fun h => hj _ _ ⟨rfl, by simp; omega⟩) fun h => hj _ _ ⟨rfl, by simp; omega⟩
    rintro b3 h4 ⟨rfl, hb3⟩
    refine ifT_intro (fun hbt => bad _ 1 o.ext (by decide) (by rw [e0, hsc, if_pos (hb3.1 hbt)])) fun hbf3 => ?_
    have gx : 1 ≤ x ∧ x ≤ span := by
      by_cases h : 1 ≤ x ∧ x ≤ span
      · exact h
      · rw [hb3.2 h] at hbf3; cases hbf3
    rw [if_neg (by simpa using gx)] at hsc
    refine joinK_intro (fun (b : Bool) h5 => h5 = h4 ∧ (b = true ↔ ((prev xs i).any fun q => decide (q < x)) = true)) ?_ ?_
    · rintro b4 h5 ⟨rfl, hb4⟩
      refine ifT_intro (fun hbt => bad _ 7 o.ext (by decide) (by rw [e0, hsc, if_pos (hb4.1 hbt)])) fun hbf4 => ?_
      rw [if_neg (fun h => by rw [hb4.2 h] at hbf4; cases hbf4)] at hsc
      refine specWeightOf hI (show i < xs.length by omega) (by omega) gx.1 gx.2 g2.2 ⟨_, rfl, ?_⟩
      have hol := o.len
      rw [ints_length, List.length_take, hwl] at hol
      change l.len * 1 = _ at hol
      refine appendTo_own (m := 0) o (by rfl) (by omega) fun s' h6 o3 hl3 => ⟨xs.length - (i + 1), by omega, i + 1, by omega, ?_, rfl, hsc, by rw [wList_take hx]; simpa [ints] using o3⟩
      show IntKind.i64.wrap ((i : Int) + 1) = _
      rw [w64] <;> omega
    · intro j hj
      refine ifT_dec (fun hpos => ?_) fun hz => hj _ _ ⟨rfl, ?_⟩
      · have wj : IntKind.i64.wrap ((i : Int) - 1) = ((i - 1 : Nat) : Int) := by rw [w64] <;> omega
        rw [wj]
        have hp := List.getElem?_eq_getElem (show i - 1 < xs.length by omega)
        generalize xs[i - 1] = p at hp
        have epr : prev xs i = some p := by unfold prev; rw [if_neg (by omega), hp]
        refine ⟨⟨by omega, by omega⟩, hs3.cell (ints_get hp) fun bb o'' hr => ⟨p, hr, hj _ _ ⟨rfl, ?_⟩⟩⟩
        rw [epr]
        simp
      · have hi0 : i = 0 := by omega
        subst hi0
        simp [prev]
  · have : i = xs.length := by omega
    subst this
    rw [List.drop_length] at hsc
    have e : errA how span xs = 0 := by rw [e0, hsc]; rfl
    have et : (wList how span xs).take xs.length = wList how span xs := List.take_of_length_le (by omega)
    rw [et] at o
    exact hQ e _ _ o.ext o.at_

/-- What is drawn for weights. -/
theorem specWeightsS (hI : Closed' prog Pm I) {i : Nat} {l : Sl} {zs : List Int} {t : Nat} (S : Strm h i l zs t) (ht : t < 1000)
    (hQ : ∀ s' h' xs t', Owns (h.del i) h' [(1, s', ints xs), owS i l t'] → t' ≤ t + 100 → xs.length ≤ 100 → Q [.one (.slice 1 s')] h') : I 10 [.one (.ptr (some (i, 0)))] Q h := by
  refine hI.go _ _ (den10 I _ Q) ?_
  refine spec17 hI S (by decide) (by decide) fun n hn0 hn1 => ⟨n, rfl, ?_⟩
  refine loopK_intro (fun (a : Sl × Int) h' m => ∃ j : Nat, (j : Int) ≤ n ∧ a.2 = j ∧ 14 - j = m ∧ ∃ xs, xs.length = j ∧ Owns (h.del i) h' [(1, a.1, ints xs), owS i l (t + 1 + j)]) 14
    ⟨0, by omega, rfl, rfl, [], rfl, (S.owns.next (t' := t + 1)).none_ 1⟩ ?_
  rintro ⟨s, y⟩ h' m ⟨j, hj, rfl, rfl, xs, hxl, o⟩
  dsimp only [uncur]
  refine ifT_dec (fun hlt => ?_) (fun hge => ?_)
  · refine newK_intro fun i9 h2 hn2 he2 => ?_
    have o2 : Owns (h.del i) h2 _ := o.mono (he2 ▸ Ext.new hn2)
    have S2 := o2.toStrm S (t' := t + 1 + j) (by simp) (by omega)
    have hne : i9 ≠ i := fun e => by subst e; rw [o.strmCell (l := l) (t := t + 1 + j) (by simp)] at hn2; cases hn2
    have hlit : At (h2.set i (strm l (t + 1 + j + 1))) 1 ⟨some (i9, 0), 7⟩ (ints [0, 1, 1, 2, 3, 262144, 1000000]) := by
      refine ⟨rfl, .inr ?_⟩
      show (h2.set i _).read i9 0 7 = _
      unfold Heap.read
      rw [set_ne _ _ hne, he2, set_eq]
      rfl
    refine spec5 hI S2 hlit (by decide) (by decide) fun v hv => ⟨v, rfl, ?_⟩
    have o3 := ((o2.perm (List.Perm.swap _ _ _)).next (t' := t + 1 + j + 1)).perm (List.Perm.swap _ _ _)
    refine appendTo_owns (m := 0) o3 (by rfl) ?_ (by simp) fun b h4 o4 => ⟨14 - (j + 1), by omega, j + 1, by omega, ?_, rfl, xs ++ [v], by simp [hxl], by rw [show t + 1 + (j + 1) = t + 1 + j + 1 from rfl]; simpa [ints] using o4⟩
    · have := o.slen (s := s) List.mem_cons_self
      rw [ints_length] at this
      omega
    · show IntKind.i64.wrap ((j : Int) + 1) = _
      rw [w64] <;> omega
  · have S2 := o.toStrm S (t' := t + 1 + j) (by simp) (by omega)
    refine spec18 hI S2 (by decide) (by decide) fun b => ⟨b, rfl, ?_⟩
    have o3 := ((o.perm (List.Perm.swap _ _ _)).next (t' := t + 1 + j + 1)).perm (List.Perm.swap _ _ _)
    refine ifT_intro (fun _ => ?_) fun _ => hQ _ _ _ _ o3 (by omega) (by omega)
    refine newK_intro fun i9 h4 hn4 he4 => ?_
    have o4 := o3.mono (he4 ▸ Ext.new hn4 : Ext _ h4)
    have S4 := o4.toStrm S (t' := t + 1 + j + 1) (by simp) (by omega)
    have hne : i9 ≠ i := fun e => by subst e; rw [o3.strmCell (l := l) (t := t + 1 + j + 1) (by simp)] at hn4; cases hn4
    have hlit : At (h4.set i (strm l (t + 1 + j + 1 + 1))) 1 ⟨some (i9, 0), 2⟩ (ints [-1, 1000001]) := by
      refine ⟨rfl, .inr ?_⟩
      show (h4.set i _).read i9 0 2 = _
      unfold Heap.read
      rw [set_ne _ _ hne, he4, set_eq]
      rfl
    refine spec5 hI S4 hlit (by decide) (by decide) fun v hv => ⟨v, rfl, ?_⟩
    have o5 := ((o4.perm (List.Perm.swap _ _ _)).next (t' := t + 1 + j + 1 + 1)).perm (List.Perm.swap _ _ _)
    have hsl := o.slen (s := s) List.mem_cons_self
    rw [ints_length] at hsl
    refine appendTo_owns (m := 0) o5 (by rfl) (by omega) (by simp) fun b h6 o6 => hQ _ _ (xs ++ [v]) (t + 1 + j + 1 + 1) ?_ (by omega) (by simp; omega)
    simpa [ints] using o6


end
end Go.Proofs.YtohdelegimcceaaVc
