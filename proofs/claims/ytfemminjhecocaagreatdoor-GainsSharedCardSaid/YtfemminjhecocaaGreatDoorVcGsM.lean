/- Credits as the document counts them: a map of all letters of a path, also of those of no weight. The ages of a path are right: they fall. -/
import Derived.Test.YtfemminjhecocaaGreatDoorVcGsO
set_option linter.unusedSimpArgs false
set_option linter.unusedVariables false
-- GsMath
namespace Go.Proofs.YtfemminjhecocaaGreatDoorVc
open Go.Proofs.YtfemminjhecocaaGreatDoorLasts
open Go.Proofs.Tryz (prog)

theorem lookC_nil (L : ByteArray) : lookC [] L = ⟨L, 0, 0⟩ := rfl
theorem lookC_cons (r : Cr) (l : List Cr) (L : ByteArray) : lookC (r :: l) L = if r.letter = L then r else lookC l L := by
  unfold lookC
  rw [List.find?_cons]
  by_cases h : r.letter = L
  · rw [if_pos h]; simp [h]
  · rw [if_neg h]; simp [h]
theorem lookC_letter : ∀ (acc : List Cr) (L : ByteArray), (lookC acc L).letter = L
  | [], L => rfl
  | r :: l, L => by
    rw [lookC_cons]
    split
    · assumption
    · exact lookC_letter l L
theorem lookC_add : ∀ (acc : List Cr) (L : ByteArray) (d b : Nat) (M : ByteArray), lookC (addC acc L d b) M = if L = M then ⟨L, (lookC acc L).gains + b, (lookC acc L).cents + d⟩ else lookC acc M
  | [], L, d, b, M => by
    unfold addC
    rw [lookC_cons, lookC_nil, lookC_nil]
    by_cases h : L = M
    · rw [if_pos h, if_pos h]; simp
    · rw [if_neg h, if_neg h]
  | r :: l, L, d, b, M => by
    have ih := lookC_add l L d b M
    unfold addC
    by_cases h : r.letter = L
    · rw [if_pos h, lookC_cons, lookC_cons, lookC_cons, if_pos h]
      by_cases h2 : L = M
      · simp [h2]
      · rw [if_neg h2, if_neg h2, if_neg (by rw [h]; exact h2)]
    · rw [if_neg h, lookC_cons, lookC_cons, lookC_cons, if_neg h, ih]
      by_cases h2 : L = M
      · rw [if_pos h2, if_neg (by rw [← h2]; exact h), if_pos h2]
      · by_cases h3 : r.letter = M
        · simp only [if_neg h2, if_pos h3]
        · simp only [if_neg h2, if_neg h3]
/-- A part, as the document counts it. -/
def newC (p : List Cr × List ByteArray) (t : Tr) : Bool := decide (0 < t.2.2) && !decide (t.1 ∈ p.2)
def stepD (p : List Cr × List ByteArray) (t : Tr) : List Cr × List ByteArray :=
  (addC p.1 t.1 t.2.1 (if newC p t = true then 1 else 0), if newC p t = true then p.2 ++ [t.1] else p.2)
def foldD (p : List Cr × List ByteArray) (ts : List Tr) : List Cr × List ByteArray := ts.foldl stepD p
theorem foldD_snoc (p : List Cr × List ByteArray) (ts : List Tr) (t : Tr) : foldD p (ts ++ [t]) = stepD (foldD p ts) t := by unfold foldD; rw [List.foldl_append]; rfl
/-- Both count the same. -/
def SameC (p q : List Cr × List ByteArray) : Prop := (∀ L, lookC p.1 L = lookC q.1 L) ∧ p.2 = q.2
theorem step_same {p q : List Cr × List ByteArray} {t : Tr} (h : SameC p q) (hz : t.2.2 = 0 → t.2.1 = 0) : SameC (stepD p t) (stepC q t) := by
  obtain ⟨h1, h2⟩ := h
  unfold stepD stepC newC
  rw [h2]
  by_cases hw : t.2.2 = 0
  · rw [if_pos hw, hw, hz hw]
    refine ⟨fun L => ?_, by simp [h2]⟩
    simp only [Nat.lt_irrefl, decide_false, Bool.false_and, Bool.false_eq_true, if_false]
    rw [lookC_add, ← h1]
    split
    · rename_i e
      subst e
      have := lookC_letter p.1 t.1
      cases hl : lookC p.1 t.1 with
      | mk a b c => rw [hl] at this; simp only at this; subst this; rfl
    · rfl
  · rw [if_neg hw]
    have hd : decide (0 < t.2.2) = true := by simp; omega
    by_cases hm : t.1 ∈ q.2
    · rw [if_pos hm]
      refine ⟨fun L => ?_, by simp [hm]⟩
      simp only [hd, hm, decide_true, Bool.not_true, Bool.and_false, Bool.false_eq_true, if_false]
      rw [lookC_add, lookC_add, h1, h1]
    · rw [if_neg hm]
      refine ⟨fun L => ?_, by simp [hd, hm]⟩
      simp only [hd, hm, decide_false, Bool.not_false, Bool.and_true, if_true]
      rw [lookC_add, lookC_add, h1, h1]
theorem fold_same : ∀ {ts : List Tr} {p q : List Cr × List ByteArray}, SameC p q → (∀ t ∈ ts, t.2.2 = 0 → t.2.1 = 0) → SameC (foldD p ts) (foldC q ts)
  | [], _, _, h, _ => h
  | t :: ts, p, q, h, hz => fold_same (ts := ts) (step_same h (hz t (by simp))) fun t' ht' => hz t' (by simp [ht'])
theorem stepD_nodup {p : List Cr × List ByteArray} {t : Tr} (h : (p.1.map (·.letter)).Nodup) : ((stepD p t).1.map (·.letter)).Nodup := addC_nodup h
theorem foldD_nodup : ∀ (ts : List Tr) (p : List Cr × List ByteArray), (p.1.map (·.letter)).Nodup → ((foldD p ts).1.map (·.letter)).Nodup
  | [], _, h => h
  | t :: ts, p, h => foldD_nodup ts (stepD p t) (stepD_nodup h)
theorem lookC_small {acc : List Cr} {G C : Nat} (h : ∀ r ∈ acc, r.gains ≤ G ∧ r.cents ≤ C) (L : ByteArray) : (lookC acc L).gains ≤ G ∧ (lookC acc L).cents ≤ C := by
  induction acc with
  | nil => exact ⟨Nat.zero_le _, Nat.zero_le _⟩
  | cons r l ih =>
    rw [lookC_cons]
    split
    · exact h r (by simp)
    · exact ih fun x hx => h x (by simp [hx])

/-! ### the document's map -/
def crV (r : Cr) : V := .agg (crC r)
def crM (dm : List Cr) : List (V × V) := dm.map fun r => (.one (.str r.letter), crV r)
theorem crM_get (L : ByteArray) : ∀ dm : List Cr, ∃ s b, mapGet (.one (.str L)) (.agg [.str .empty, .int .i64 0, .int .i64 0]) (crM dm) = some (.agg [.str s, .int .i64 (lookC dm L).gains, .int .i64 (lookC dm L).cents], b)
  | [] => ⟨.empty, false, rfl⟩
  | r :: l => by
    obtain ⟨s, b, ih⟩ := crM_get L l
    simp only [crM, List.map_cons, mapGet, keyEq] at ih ⊢
    rw [lookC_cons]
    by_cases h : L = r.letter
    · refine ⟨r.letter, true, ?_⟩
      rw [if_pos h.symm]
      simp only [h, decide_true]
      rfl
    · refine ⟨s, b, ?_⟩
      rw [if_neg fun e => h e.symm]
      simp only [h, decide_false]
      exact ih
theorem crM_set (L : ByteArray) (d b : Nat) : ∀ dm : List Cr, mapSet (.one (.str L)) (crV ⟨L, (lookC dm L).gains + b, (lookC dm L).cents + d⟩) (crM dm) = some (crM (addC dm L d b))
  | [] => by
    rw [lookC_nil]
    simp only [Nat.zero_add]
    rfl
  | r :: l => by
    have ih := crM_set L d b l
    simp only [crM, List.map_cons, mapSet, keyEq] at ih ⊢
    rw [lookC_cons]
    by_cases h : L = r.letter
    · rw [if_pos h.symm]
      simp only [h, decide_true, addC, if_pos]
      rfl
    · have h' : ¬ r.letter = L := fun e => h e.symm
      rw [if_neg h']
      simp only [h, decide_false, addC, if_neg h', ih, Option.map_some, List.map_cons]
/-- What the document tells at the end. -/
theorem told_letters {dm acc : List Cr} (hd : (dm.map (·.letter)).Nodup) (ha : (acc.map (·.letter)).Nodup) (hs : ∀ L, lookC dm L = lookC acc L) (hlow : ∀ r ∈ acc, 1 ≤ r.gains) : (dm.filter fun r => decide (0 < r.gains)).Perm acc := by
  have hm : ∀ {l : List Cr}, (l.map (·.letter)).Nodup → ∀ r ∈ l, lookC l r.letter = r := fun hn r hr => by
    obtain ⟨q, hq, rfl⟩ := List.mem_iff_getElem.1 hr
    exact lookC_of hn (List.getElem?_eq_getElem hq)
  have mem_of : ∀ {l : List Cr} {L : ByteArray}, 0 < (lookC l L).gains → lookC l L ∈ l := fun {l L} h => by
    induction l with
    | nil => rw [lookC_nil] at h; cases h
    | cons r l ih =>
      rw [lookC_cons] at h ⊢
      split
      · simp
      · rename_i e; rw [if_neg e] at h; simp [ih h]
  have nd : ∀ {l : List Cr}, (l.map (·.letter)).Nodup → l.Nodup := fun h => (List.pairwise_map.1 h).imp fun h e => h (congrArg _ e)
  refine (List.perm_ext_iff_of_nodup ((nd hd).filter _) (nd ha)).2 fun r => ?_
  rw [List.mem_filter]
  constructor
  · rintro ⟨h1, h2⟩
    have e := hm hd r h1
    rw [hs] at e
    have h3 : 0 < (lookC acc r.letter).gains := by rw [e]; simpa using h2
    have := mem_of h3
    rw [e] at this; exact this
  · intro h1
    have e := hm ha r h1
    have h3 := hlow r h1
    rw [← hs] at e
    have h4 : 0 < (lookC dm r.letter).gains := by rw [e]; omega
    have := mem_of h4
    rw [e] at this
    exact ⟨this, by simp; omega⟩
end Go.Proofs.YtfemminjhecocaaGreatDoorVc
-- GsMath2
namespace Go.Proofs.YtfemminjhecocaaGreatDoorVc
open Go.Proofs.YtfemminjhecocaaGreatDoorLasts
open Go.Proofs.Tryz (prog)
theorem scanS_sorted : ∀ (l pre : List Sent), scanS pre l = 0 → l.Pairwise (fun a b => a.at_ ≤ b.at_) ∧ ∀ p, pre.getLast? = some p → ∀ x ∈ l, p.at_ ≤ x.at_
  | [], _, _ => ⟨List.Pairwise.nil, fun _ _ _ h => by cases h⟩
  | x :: l, pre, h => by
    unfold scanS at h
    split at h
    · cases h
    split at h
    · cases h
    split at h
    · cases h
    split at h
    · cases h
    split at h
    · cases h
    rename_i hlast
    obtain ⟨h1, h2⟩ := scanS_sorted l (pre ++ [x]) h
    have h3 := h2 x (by simp)
    refine ⟨List.pairwise_cons.2 ⟨h3, h1⟩, fun p hp y hy => ?_⟩
    have hpx : p.at_ ≤ x.at_ := by
      rw [hp] at hlast
      simp at hlast; omega
    rcases List.mem_cons.1 hy with rfl | hy
    · exact hpx
    · have := h3 y hy; omega
theorem scan_zero {span : Int} : ∀ {l : List Int} {p : Option Int}, (∀ a ∈ l, 1 ≤ a ∧ a ≤ span) → l.Pairwise (fun a b => b ≤ a) → (∀ q, p = some q → ∀ a ∈ l, a ≤ q) → scan span p l = 0
  | [], _, _, _, _ => rfl
  | x :: l, p, h1, h2, h3 => by
    obtain ⟨h4, h5⟩ := List.pairwise_cons.1 h2
    unfold scan
    rw [if_neg (fun h => h (h1 x (by simp))), if_neg]
    · exact scan_zero (fun a ha => h1 a (by simp [ha])) h5 fun q hq a ha => by cases hq; exact h4 a ha
    · cases p with
      | none => simp
      | some q => have := h3 q rfl x (by simp); simp; omega
theorem pathL_up (xs : List Sent) (g : Gain) (w : Int) : (pathL xs g w).Pairwise (· < ·) := by
  unfold pathL
  exact List.Pairwise.sublist (List.drop_sublist _ _) (List.Pairwise.filter _ List.pairwise_lt_range)
theorem ages_ok {xs : List Sent} {how span : Int} {g : Gain} (hS : errS xs = 0) (hhow : 1 ≤ how ∧ how ≤ 6) (hsp : 1 ≤ span ∧ span ≤ 4321440) : errA how span (ages xs g (pathL xs g span)) = 0 := by
  have hso := (scanS_sorted xs [] hS).1
  have hp12 := pathL_length xs g span
  have hpx : ∀ i ∈ pathL xs g span, ∃ x, xs[i]? = some x ∧ before g span x = true := fun i hi => pathL_mem hi
  have hup := pathL_up xs g span
  have hal : (ages xs g (pathL xs g span)).length = (pathL xs g span).length := by simp [ages]
  unfold errA
  rw [if_neg (fun h => h hhow), if_neg (fun h => h hsp), if_neg (by omega)]
  refine scan_zero (fun a ha => ?_) ?_ fun q hq => by cases hq
  · unfold ages at ha
    obtain ⟨i, hi, rfl⟩ := List.mem_map.1 ha
    obtain ⟨x, hxi, hbx⟩ := hpx i hi
    unfold before at hbx
    simp only [Bool.and_eq_true, decide_eq_true_eq] at hbx
    rw [hxi]; simp only; omega
  · unfold ages
    rw [List.pairwise_map]
    refine List.Pairwise.imp_of_mem (fun {i j} hi hj hij => ?_) hup
    obtain ⟨x, hx, _⟩ := hpx i hi
    obtain ⟨y, hy, _⟩ := hpx j hj
    rw [hx, hy]
    obtain ⟨hi', rfl⟩ := List.getElem?_eq_some_iff.1 hx
    obtain ⟨hj', rfl⟩ := List.getElem?_eq_some_iff.1 hy
    have := (List.pairwise_iff_getElem.1 hso) i j hi' hj' hij
    simp only; omega
/-- A list lies where no map lies. -/
theorem At.off {h : Heap} {k : Nat} {s : Sl} {cs : List Cell} {i : Nat} {es : List (V × V)} (a : At h k s cs) (hi : h i = some (.map es)) : At (h.del i) k s cs := by
  refine ⟨a.1, a.2.imp id fun h1 => ?_⟩
  unfold Heap.sl at h1 ⊢
  cases ha : s.a with
  | none => rw [ha] at h1; exact h1
  | some p =>
    obtain ⟨j, o⟩ := p
    rw [ha] at h1
    simp only at h1 ⊢
    unfold Heap.read at h1 ⊢
    by_cases e : j = i
    · subst e; rw [hi] at h1; cases h1
    · rw [del_ne _ e]; exact h1
theorem Ext.delM {h h' : Heap} {i : Nat} {o : Obj} (e : Ext (h.del i) h') : Ext (h.del i) (h'.set i o) := fun j x hx => by
  have : j ≠ i := fun e' => by subst e'; simp [Heap.del] at hx
  rw [set_ne _ _ this]; exact e j x hx
end Go.Proofs.YtfemminjhecocaaGreatDoorVc
