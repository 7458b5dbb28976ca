/- What letters are told to have gained: shares add up; who weighs nothing gets nothing. Plain Lean. -/
import Derived.Test.YtfemminjhecocaaGreatDoorVcGaOld2
import Derived.Test.YtfemminjhecocaaGreatDoorVcRowG
set_option linter.unusedSimpArgs false
set_option linter.unusedVariables false
namespace Go.Proofs.YtfemminjhecocaaGreatDoorLasts
open Go.Proofs.YtfemminjhecocaaGreatDoorShares (qs rs sums left_ok at_)
open Go.Proofs.YtfemminjhecocaaGreatDoorVc (sum_set)
theorem dealtK_sum {q r : List Nat} (hl : q.length = r.length) : ∀ k, k ≤ q.length → (dealtK q r k).sum = q.sum + k
  | 0, _ => by rw [dealtK_zero]; rfl
  | k + 1, h => by
    obtain ⟨i, hi, hr⟩ := rank_surj (rs := r) (k := k) (by omega)
    have h1 := dealtK_step (qs := q) (rs := r) hl (by omega) hr
    have h2 := dealtK_get (qs := q) (rs := r) (k := k) (i := i) (by omega)
    rw [hr, if_neg (Nat.lt_irrefl k), Nat.add_zero] at h2
    have h3 := sum_set (dealtK q r k) i (at_ q i) (at_ q i + 1) h2
    rw [h1, dealtK_sum hl k (by omega)] at h3
    omega
theorem shared_length (c : Nat) (ws : List Nat) : (shared c ws).length = ws.length := by unfold shared; rw [dealtK_length]; simp [qs]
theorem shared_sum {c : Nat} {ws : List Nat} (h : 0 < ws.sum) : (shared c ws).sum = c := by
  obtain ⟨h1, h2⟩ := left_ok (c := c) h
  unfold shared
  rw [dealtK_sum (by simp [qs, rs]) _ (by rw [show (qs c ws.sum ws).length = ws.length by simp [qs]]; omega)]
  omega
theorem sum_count {a : Nat} : ∀ {l : List Nat}, (∀ x ∈ l, x < a) → l.sum ≤ a * l.countP (fun x => decide (0 < x))
  | [], _ => by simp
  | x :: l, h => by
    have ih := sum_count (a := a) (l := l) fun y hy => h y (by simp [hy])
    have hx := h x (by simp)
    rw [List.sum_cons, List.countP_cons]
    by_cases e : 0 < x
    · simp only [e, decide_true, if_true, Nat.mul_add, Nat.mul_one]; omega
    · simp only [e, decide_false, Bool.false_eq_true, if_false, Nat.add_zero]; omega
theorem count_at (l : List Nat) (p : Nat → Bool) : l.countP p = (List.range l.length).countP fun j => p (at_ l j) := by
  have e : l = (List.range l.length).map fun j => at_ l j := by
    apply List.ext_getElem?
    intro j
    rw [List.getElem?_map]
    rcases Nat.lt_or_ge j l.length with hj | hj
    · rw [List.getElem?_range hj]
      simp only [Option.map_some]
      unfold at_
      rw [List.getD_eq_getElem?_getD, List.getElem?_eq_getElem hj]; rfl
    · rw [List.getElem?_eq_none hj, List.getElem?_eq_none (by simpa using hj)]; rfl
  conv => lhs; rw [e]
  rw [List.countP_map]
  rfl
/-- Who weighs nothing gets nothing. -/
theorem shared_zero {c : Nat} {ws : List Nat} (h : 0 < ws.sum) {i : Nat} (hi : ws[i]? = some 0) : (shared c ws)[i]? = some 0 := by
  obtain ⟨hlt, _⟩ := List.getElem?_eq_some_iff.1 hi
  obtain ⟨h1, h2⟩ := left_ok (c := c) h
  have h3 := sums c ws.sum ws
  obtain ⟨all, hall⟩ : ∃ all, ws.sum = all := ⟨_, rfl⟩
  unfold shared
  rw [dealtK_get (by simpa [qs] using hlt)]
  rw [hall] at h h1 h2 h3 ⊢
  have hq : at_ (qs c all ws) i = 0 := by
    unfold at_ qs
    rw [List.getD_eq_getElem?_getD, List.getElem?_map, hi]; simp
  have hr : at_ (rs c all ws) i = 0 := by
    unfold at_ rs
    rw [List.getD_eq_getElem?_getD, List.getElem?_map, hi]; simp
  rw [hq]
  have hrk : (rs c all ws).countP (fun x => decide (0 < x)) ≤ rank (rs c all ws) i := by
    rw [count_at]
    unfold rank
    refine List.countP_mono_left fun j _ hj => ?_
    rw [beats_iff, hr]
    exact .inl (by simpa using hj)
  have hsc := sum_count (a := all) (l := rs c all ws) (fun x hx => by
    unfold rs at hx
    obtain ⟨w, _, rfl⟩ := List.mem_map.1 hx
    exact Nat.mod_lt _ h)
  have hle : c - (qs c all ws).sum ≤ (rs c all ws).countP (fun x => decide (0 < x)) := by
    have h4 : all * (c - (qs c all ws).sum) ≤ all * (rs c all ws).countP (fun x => decide (0 < x)) := by
      rw [Nat.mul_sub]
      have : c * all = all * c := Nat.mul_comm _ _
      omega
    exact Nat.le_of_mul_le_mul_left h4 h
  rw [if_neg (by omega)]
end Go.Proofs.YtfemminjhecocaaGreatDoorLasts
namespace Go.Proofs.YtfemminjhecocaaGreatDoorVc
open Go.Proofs.YtfemminjhecocaaGreatDoorLasts
theorem pathL_mem {xs : List Sent} {g : Gain} {w : Int} {i : Nat} (h : i ∈ pathL xs g w) : ∃ x, xs[i]? = some x ∧ before g w x = true := by
  unfold pathL at h
  have h1 := List.mem_of_mem_drop h
  unfold hits at h1
  obtain ⟨_, h2⟩ := List.mem_filter.1 h1
  cases hx : xs[i]? with
  | none => rw [hx] at h2; cases h2
  | some x => rw [hx] at h2; exact ⟨x, rfl, h2⟩
theorem pathL_length (xs : List Sent) (g : Gain) (w : Int) : (pathL xs g w).length ≤ 12 := by
  unfold pathL; rw [List.length_drop]; omega
theorem wOf_nonneg (how span : Int) (n i : Nat) (age : Int) (hi : i < 12) : 0 ≤ wOf how span n i age ∧ wOf how span n i age ≤ 1000000 := by
  unfold wOf
  split
  · omega
  split
  · omega
  split
  · omega
  split
  · have : (18 - (18 * age / span).toNat) ≤ 18 := by omega
    generalize (18 - (18 * age / span).toNat) = e at this
    have h1 : (0 : Int) ≤ 2 ^ e := Int.pow_nonneg (by decide)
    have h2 : ∀ e : Nat, e ≤ 18 → (2 : Int) ^ e ≤ 1000000 := by decide
    exact ⟨h1, h2 e this⟩
  · omega
def wNats (how span : Int) (xs : List Int) : List Nat := (wList how span xs).map Int.toNat
theorem wNats_length (how span : Int) (xs : List Int) : (wNats how span xs).length = xs.length := by simp [wNats, wList]
theorem wNats_ints {how span : Int} {xs : List Int} (h : xs.length ≤ 12) : ints (wList how span xs) = nats (wNats how span xs) := by
  unfold ints nats wNats
  rw [List.map_map]
  refine List.map_congr_left fun w hw => ?_
  unfold wList at hw
  obtain ⟨i, hi, rfl⟩ := List.mem_map.1 hw
  rw [List.mem_range] at hi
  have := (wOf_nonneg how span xs.length i (xs.getD i 0) (by omega)).1
  show Cell.int .i64 _ = Cell.int .i64 _
  congr 1
  omega
theorem wNats_le {how span : Int} {xs : List Int} (h : xs.length ≤ 12) : ∀ w ∈ wNats how span xs, w ≤ 1000000 := by
  intro w hw
  unfold wNats wList at hw
  rw [List.map_map] at hw
  obtain ⟨i, hi, rfl⟩ := List.mem_map.1 hw
  rw [List.mem_range] at hi
  have := (wOf_nonneg how span xs.length i (xs.getD i 0) (by omega))
  simp only [Function.comp]
  omega
theorem wNats_pos {how span : Int} {xs : List Int} (h : 0 < xs.length) (h2 : xs.length ≤ 12) : 0 < (wNats how span xs).sum := by
  have key : ∃ i, i < xs.length ∧ 1 ≤ wOf how span xs.length i (xs.getD i 0) := by
    by_cases e : how = 2
    · refine ⟨xs.length - 1, by omega, ?_⟩
      unfold wOf
      rw [if_neg (by omega), if_neg (by omega), if_neg (by omega), if_neg (by omega)]
      omega
    · refine ⟨0, h, ?_⟩
      unfold wOf
      rw [if_neg (by omega)]
      split
      · omega
      split
      · omega
      split
      · generalize (18 - (18 * xs.getD 0 0 / span).toNat) = e
        have : (0 : Int) < 2 ^ e := Int.pow_pos (by decide)
        omega
      · omega
  obtain ⟨i, hi, hw⟩ := key
  have hm : (wOf how span xs.length i (xs.getD i 0)).toNat ∈ wNats how span xs := by
    unfold wNats wList
    rw [List.map_map]
    exact List.mem_map.2 ⟨i, List.mem_range.2 hi, rfl⟩
  have := mem_le_sum hm
  omega
/-! ### credits -/
structure Cr where
  letter : ByteArray
  gains : Nat
  cents : Nat
def crC (r : Cr) : List Cell := [.str r.letter, .int .i64 r.gains, .int .i64 r.cents]
theorem crC_length (r : Cr) : (crC r).length = 3 := rfl
def addC : List Cr → ByteArray → Nat → Nat → List Cr
  | [], L, d, b => [⟨L, b, d⟩]
  | r :: l, L, d, b => if r.letter = L then ⟨L, r.gains + b, r.cents + d⟩ :: l else r :: addC l L d b
theorem addC_sum (L : ByteArray) (d b : Nat) : ∀ acc : List Cr, ((addC acc L d b).map (·.cents)).sum = (acc.map (·.cents)).sum + d
  | [] => by simp [addC]
  | r :: l => by
    unfold addC
    split
    · simp; omega
    · have := addC_sum L d b l
      simp only [List.map_cons, List.sum_cons] at this ⊢; omega
theorem addC_none {L : ByteArray} {d b : Nat} : ∀ {acc : List Cr}, L ∉ acc.map (·.letter) → addC acc L d b = acc ++ [⟨L, b, d⟩]
  | [], _ => rfl
  | r :: l, h => by
    simp only [List.map_cons, List.mem_cons, not_or] at h
    unfold addC
    rw [if_neg (fun e => h.1 e.symm), addC_none h.2]; rfl
theorem addC_set {L : ByteArray} {d b : Nat} : ∀ {acc : List Cr} {q : Nat} {r : Cr}, (acc.map (·.letter)).Nodup → acc[q]? = some r → r.letter = L → addC acc L d b = acc.set q ⟨L, r.gains + b, r.cents + d⟩
  | [], _, _, _, h, _ => by simp at h
  | x :: l, 0, r, _, h, e => by
    simp only [List.getElem?_cons_zero, Option.some.injEq] at h
    subst h
    unfold addC
    rw [if_pos e]; rfl
  | x :: l, q + 1, r, hn, h, e => by
    simp only [List.map_cons, List.nodup_cons] at hn
    have hm : r.letter ∈ l.map (·.letter) := List.mem_map_of_mem (List.mem_of_getElem? (show l[q]? = some r by simpa using h))
    unfold addC
    rw [if_neg (fun e2 => hn.1 (by rw [e2, ← e]; exact hm)), addC_set hn.2 (by simpa using h) e]; rfl
theorem addC_letters {L : ByteArray} {d b : Nat} : ∀ {acc : List Cr}, L ∈ acc.map (·.letter) → (addC acc L d b).map (·.letter) = acc.map (·.letter)
  | [], h => by cases h
  | r :: l, h => by
    unfold addC
    split
    · rename_i e; simp [e]
    · rename_i e
      have : L ∈ l.map (·.letter) := by
        rcases List.mem_cons.1 (show L ∈ r.letter :: l.map (·.letter) from h) with h | h
        · exact absurd h.symm e
        · exact h
      simp only [List.map_cons, addC_letters this]
theorem addC_nodup {acc : List Cr} {L : ByteArray} {d b : Nat} (h : (acc.map (·.letter)).Nodup) : ((addC acc L d b).map (·.letter)).Nodup := by
  by_cases hm : L ∈ acc.map (·.letter)
  · rw [addC_letters hm]; exact h
  · rw [addC_none hm, List.map_append, List.nodup_append]
    refine ⟨h, by simp, fun a ha b hb e => hm ?_⟩
    have : b = L := by simpa using hb
    rw [← this, ← e]; exact ha
theorem addC_mem {L : ByteArray} {d b : Nat} : ∀ {acc : List Cr} {r : Cr}, r ∈ addC acc L d b → r ∈ acc ∨ (∃ r0 ∈ acc, r0.letter = L ∧ r = ⟨L, r0.gains + b, r0.cents + d⟩) ∨ (L ∉ acc.map (·.letter) ∧ r = ⟨L, b, d⟩)
  | [], r, h => .inr (.inr ⟨by simp, by simpa [addC] using h⟩)
  | x :: l, r, h => by
    unfold addC at h
    split at h
    · rename_i e
      rcases List.mem_cons.1 h with h | h
      · exact .inr (.inl ⟨x, by simp, e, h⟩)
      · exact .inl (by simp [h])
    · rename_i e
      rcases List.mem_cons.1 h with h | h
      · exact .inl (by simp [h])
      · rcases addC_mem h with h | ⟨r0, h1, h2⟩ | ⟨h1, h2⟩
        · exact .inl (by simp [h])
        · exact .inr (.inl ⟨r0, by simp [h1], h2⟩)
        · refine .inr (.inr ⟨?_, h2⟩)
          simp only [List.map_cons, List.mem_cons, not_or]
          exact ⟨fun e2 => e e2.symm, h1⟩
/-- One part of a gain: whose, how many cents, what weight. -/
abbrev Tr := ByteArray × Nat × Nat
def stepC (p : List Cr × List ByteArray) (t : Tr) : List Cr × List ByteArray :=
  if t.2.2 = 0 then p else if t.1 ∈ p.2 then (addC p.1 t.1 t.2.1 0, p.2) else (addC p.1 t.1 t.2.1 1, p.2 ++ [t.1])
def foldC (p : List Cr × List ByteArray) (ts : List Tr) : List Cr × List ByteArray := ts.foldl stepC p
theorem foldC_snoc (p : List Cr × List ByteArray) (ts : List Tr) (t : Tr) : foldC p (ts ++ [t]) = stepC (foldC p ts) t := by unfold foldC; rw [List.foldl_append]; rfl
theorem stepC_nodup {p : List Cr × List ByteArray} {t : Tr} (h : (p.1.map (·.letter)).Nodup) : ((stepC p t).1.map (·.letter)).Nodup := by
  unfold stepC
  split
  · exact h
  split
  · exact addC_nodup h
  · exact addC_nodup h
theorem foldC_nodup : ∀ (ts : List Tr) (p : List Cr × List ByteArray), (p.1.map (·.letter)).Nodup → ((foldC p ts).1.map (·.letter)).Nodup
  | [], _, h => h
  | t :: ts, p, h => foldC_nodup ts (stepC p t) (stepC_nodup h)
/-- Rows are not great. -/
theorem stepC_small {p : List Cr × List ByteArray} {t : Tr} {G C : Nat} (h : ∀ r ∈ p.1, r.gains ≤ G ∧ r.cents ≤ C) : ∀ r ∈ (stepC p t).1, r.gains ≤ G + 1 ∧ r.cents ≤ C + t.2.1 := by
  intro r hr
  unfold stepC at hr
  split at hr
  · have := h r hr; omega
  split at hr
  all_goals
    rcases addC_mem hr with h1 | ⟨r0, h1, _, rfl⟩ | ⟨_, rfl⟩
    · have := h r h1; omega
    · have := h r0 h1; simp only; omega
    · simp only; omega
theorem foldC_small : ∀ (ts : List Tr) (p : List Cr × List ByteArray) (G C : Nat), (∀ r ∈ p.1, r.gains ≤ G ∧ r.cents ≤ C) → ∀ r ∈ (foldC p ts).1, r.gains ≤ G + ts.length ∧ r.cents ≤ C + (ts.map (·.2.1)).sum
  | [], _, _, _, h, r, hr => by have := h r hr; simpa using this
  | t :: ts, p, G, C, h, r, hr => by
    have := foldC_small ts (stepC p t) (G + 1) (C + t.2.1) (stepC_small h) r hr
    simp only [List.length_cons, List.map_cons, List.sum_cons]; omega
/-- What holds between gains and within one. -/
structure CrIn (m S : Nat) (p : List Cr × List ByteArray) : Prop where
  low : ∀ r ∈ p.1, 1 ≤ r.gains
  high : ∀ r ∈ p.1, r.gains ≤ m + (if r.letter ∈ p.2 then 1 else 0)
  sum : (p.1.map (·.cents)).sum = S
  sub : ∀ l ∈ p.2, l ∈ p.1.map (·.letter)
theorem stepC_in {m S : Nat} {p : List Cr × List ByteArray} {t : Tr} (h : CrIn m S p) (hz : t.2.2 = 0 → t.2.1 = 0) : CrIn m (S + t.2.1) (stepC p t) := by
  unfold stepC
  split
  · rename_i e; rw [hz e, Nat.add_zero]; exact h
  rename_i e
  split
  · rename_i hm
    have hl := h.sub _ hm
    refine ⟨fun r hr => ?_, fun r hr => ?_, by rw [addC_sum, h.sum], fun l hl' => by rw [addC_letters hl]; exact h.sub l hl'⟩
    · rcases addC_mem hr with h1 | ⟨r0, h1, _, rfl⟩ | ⟨h1, _⟩
      · exact h.low r h1
      · exact h.low r0 h1
      · exact absurd hl h1
    · rcases addC_mem hr with h1 | ⟨r0, h1, h2, rfl⟩ | ⟨h1, _⟩
      · exact h.high r h1
      · have := h.high r0 h1; rw [h2] at this; exact this
      · exact absurd hl h1
  · rename_i hm
    refine ⟨fun r hr => ?_, fun r hr => ?_, by rw [addC_sum, h.sum], fun l hl' => ?_⟩
    · rcases addC_mem hr with h1 | ⟨r0, h1, _, rfl⟩ | ⟨h1, rfl⟩
      · exact h.low r h1
      · have := h.low r0 h1; simp only; omega
      · exact Nat.le_refl 1
    · rcases addC_mem hr with h1 | ⟨r0, h1, h2, rfl⟩ | ⟨h1, rfl⟩
      · have := h.high r h1
        by_cases h3 : r.letter ∈ p.2
        · rw [if_pos (by simp [h3])]; rw [if_pos h3] at this; exact this
        · rw [if_neg h3] at this; omega
      · have := h.high r0 h1
        rw [h2, if_neg hm] at this
        rw [if_pos (by simp)]; simp only; omega
      · rw [if_pos (by simp)]; simp only; omega
    · by_cases hl : t.1 ∈ p.1.map (·.letter)
      · rw [addC_letters hl]
        rcases List.mem_append.1 hl' with hl' | hl'
        · exact h.sub l hl'
        · rw [List.mem_singleton.1 hl']; exact hl
      · rw [addC_none hl, List.map_append]
        rcases List.mem_append.1 hl' with hl' | hl'
        · exact List.mem_append_left _ (h.sub l hl')
        · rw [List.mem_singleton.1 hl']; exact List.mem_append_right _ (by simp)
theorem foldC_in : ∀ (ts : List Tr) {m S : Nat} {p : List Cr × List ByteArray}, CrIn m S p → (∀ t ∈ ts, t.2.2 = 0 → t.2.1 = 0) → CrIn m (S + (ts.map (·.2.1)).sum) (foldC p ts)
  | [], m, S, p, h, _ => by simpa [foldC] using h
  | t :: ts, m, S, p, h, hz => by
    have := foldC_in ts (stepC_in h (hz t (by simp))) fun t' ht' => hz t' (by simp [ht'])
    simp only [List.map_cons, List.sum_cons, ← Nat.add_assoc]; exact this
theorem CrIn.next {m S : Nat} {p : List Cr × List ByteArray} (h : CrIn m S p) : CrIn (m + 1) S (p.1, []) :=
  ⟨h.low, fun r hr => by have := h.high r hr; split at this <;> simp <;> omega, h.sum, by simp⟩
/-- The parts of a gain. -/
def letOf (xs : List Sent) (i : Nat) : ByteArray := match xs[i]? with
  | some x => x.letter
  | none => ⟨#[]⟩
def trs (xs : List Sent) (path ds ws : List Nat) : List Tr := List.zipWith (fun i p => (letOf xs i, p)) path (List.zip ds ws)
theorem trs_length {xs : List Sent} {path ds ws : List Nat} (h1 : ds.length = path.length) (h2 : ws.length = path.length) : (trs xs path ds ws).length = path.length := by simp [trs, h1, h2]
theorem trs_get {xs : List Sent} {path ds ws : List Nat} {k i d w : Nat} (h1 : path[k]? = some i) (h2 : ds[k]? = some d) (h3 : ws[k]? = some w) : (trs xs path ds ws)[k]? = some (letOf xs i, d, w) := by
  unfold trs
  rw [List.getElem?_zipWith, h1, (List.getElem?_zip_eq_some (z := (d, w))).2 ⟨h2, h3⟩]
theorem trs_cents : ∀ {xs : List Sent} {path ds ws : List Nat}, ds.length = path.length → ws.length = path.length → (trs xs path ds ws).map (·.2.1) = ds
  | xs, [], [], [], _, _ => rfl
  | xs, i :: path, d :: ds, w :: ws, h1, h2 => by
    have := trs_cents (xs := xs) (path := path) (ds := ds) (ws := ws) (by simpa using h1) (by simpa using h2)
    unfold trs at this ⊢
    simp only [List.zip_cons_cons, List.zipWith_cons_cons, List.map_cons, this]
  | xs, [], d :: ds, _, h1, _ => by simp at h1
  | xs, [], [], w :: ws, _, h2 => by simp at h2
  | xs, i :: path, [], _, h1, _ => by simp at h1
  | xs, i :: path, d :: ds, [], _, h2 => by simp at h2
def ages (xs : List Sent) (g : Gain) (path : List Nat) : List Int := path.map fun i => g.at_ - (match xs[i]? with
  | some x => x.at_
  | none => 0)
def creditF (xs : List Sent) (how span : Int) (g : Gain) (acc : List Cr) : List Cr :=
  (foldC (acc, []) (trs xs (pathL xs g span) (shared g.cents.toNat (wNats how span (ages xs g (pathL xs g span)))) (wNats how span (ages xs g (pathL xs g span))))).1
def attrF (xs : List Sent) (how span : Int) (p : List Cr × Nat) (g : Gain) : List Cr × Nat :=
  if pathL xs g span = [] then (p.1, p.2 + g.cents.toNat) else (creditF xs how span g p.1, p.2)
theorem creditF_in {xs : List Sent} {how span : Int} {g : Gain} {acc : List Cr} {m S : Nat} (h : CrIn m S (acc, [])) (hp : pathL xs g span ≠ []) : CrIn (m + 1) (S + g.cents.toNat) (creditF xs how span g acc, []) := by
  have hpl := List.length_pos_iff.2 hp
  have hp12 := pathL_length xs g span
  have hal : (ages xs g (pathL xs g span)).length = (pathL xs g span).length := by simp [ages]
  have hwl := wNats_length how span (ages xs g (pathL xs g span))
  have hwp := wNats_pos (how := how) (span := span) (xs := ages xs g (pathL xs g span)) (by omega) (by omega)
  have hsl := shared_length g.cents.toNat (wNats how span (ages xs g (pathL xs g span)))
  have hc := trs_cents (xs := xs) (path := pathL xs g span) (ds := shared g.cents.toNat (wNats how span (ages xs g (pathL xs g span)))) (ws := wNats how span (ages xs g (pathL xs g span))) (by omega) (by omega)
  have := foldC_in (trs xs (pathL xs g span) (shared g.cents.toNat (wNats how span (ages xs g (pathL xs g span)))) (wNats how span (ages xs g (pathL xs g span)))) h (fun t ht hz => by
    obtain ⟨k, hk, rfl⟩ := List.mem_iff_getElem.1 ht
    rw [trs_length (by omega) (by omega)] at hk
    have e1 := List.getElem?_eq_getElem hk
    have e2 := List.getElem?_eq_getElem (show k < (shared g.cents.toNat (wNats how span (ages xs g (pathL xs g span)))).length by omega)
    have e3 := List.getElem?_eq_getElem (show k < (wNats how span (ages xs g (pathL xs g span))).length by omega)
    have e4 := trs_get (xs := xs) e1 e2 e3
    obtain ⟨_, e5⟩ := List.getElem?_eq_some_iff.1 e4
    rw [e5] at hz ⊢
    simp only at hz ⊢
    rw [hz] at e3
    have := shared_zero (c := g.cents.toNat) hwp e3
    rw [this] at e2
    exact (Option.some.inj e2).symm)
  rw [hc, shared_sum hwp] at this
  exact this.next
end Go.Proofs.YtfemminjhecocaaGreatDoorVc
