/- Contracts, turned by a program to the numbers of this seat. -/
import Derived.Test.YtmjfeabnioclgaaGreatDoorVcAcSt1
set_option linter.unusedSimpArgs false
set_option linter.unusedVariables false
-- from StMath
namespace Go.Proofs.YtmjfeabnioclgaaGreatDoorVc
/-! ### letters that are right -/
theorem scanS_facts : ∀ (l pre : List Sent), scanS pre l = 0 → (∀ x ∈ l, isKey x.letter = true) ∧ (∀ x ∈ l, ∀ y ∈ pre, y.id ≠ x.id) ∧ l.Pairwise (fun a b => a.id ≠ b.id)
  | [], _, _ => ⟨by simp, by simp, .nil⟩
  | x :: l, pre, h => by
    simp only [scanS] at h
    split at h
    · cases h
    split at h
    · cases h
    rename_i h1 h2
    split at h
    · cases h
    rename_i h3
    split at h
    · cases h
    split at h
    · cases h
    obtain ⟨a1, a2, a3⟩ := scanS_facts l (pre ++ [x]) h
    have h3 : isKey x.person = true ∧ isKey x.letter = true := by simpa using h3
    refine ⟨fun y hy => ?_, fun y hy z hz => ?_, List.pairwise_cons.2 ⟨fun y hy => a2 y hy x (by simp), a3⟩⟩
    · rcases List.mem_cons.1 hy with rfl | hy
      · exact h3.2
      · exact a1 y hy
    · rcases List.mem_cons.1 hy with rfl | hy
      · exact fun e => h2 (List.any_eq_true.2 ⟨z, hz, by simpa using e⟩)
      · exact a2 y hy z (by simp [hz])
theorem errS_facts {xs : List Sent} (h : errS xs = 0) : (∀ x ∈ xs, isKey x.letter = true) ∧ xs.Pairwise (fun a b => a.id ≠ b.id) := ⟨(scanS_facts xs [] h).1, (scanS_facts xs [] h).2.2⟩
theorem isKey_size {s : ByteArray} (h : isKey s = true) : s.size ≤ 1000 := by
  unfold isKey at h
  rw [bl_size]
  cases hb : bl s with
  | nil => simp
  | cons b l => rw [hb] at h; simp only [isKeyL, Bool.and_eq_true, decide_eq_true_eq] at h; simp; omega
/-! ### the map of ids -/
def idM : Nat → List Sent → List (V × V)
  | _, [] => []
  | i, x :: l => (.one (.str x.id), .one (.int .i64 (i : Int))) :: idM (i + 1) l
theorem idM_snoc (x : Sent) : ∀ (l : List Sent) (i : Nat), idM i (l ++ [x]) = idM i l ++ [(.one (.str x.id), .one (.int .i64 ((i + l.length : Nat) : Int)))]
  | [], i => rfl
  | y :: l, i => by
    have e : i + 1 + l.length = i + (l.length + 1) := by omega
    simp only [List.cons_append, idM, idM_snoc x l (i + 1), List.length_cons, e]
theorem idM_set {x : V} {s : ByteArray} : ∀ {l : List Sent} {i : Nat}, (∀ y ∈ l, y.id ≠ s) → mapSet (.one (.str s)) x (idM i l) = some (idM i l ++ [(.one (.str s), x)])
  | [], i, _ => rfl
  | y :: l, i, h => by
    have h1 : ¬ s = y.id := fun e => h y (by simp) e.symm
    simp only [idM, mapSet, keyEq, h1, decide_false, idM_set (l := l) (i := i + 1) fun z hz => h z (by simp [hz]), Option.map_some, List.cons_append]
/-- Which letter has an id. -/
def idx (s : ByteArray) : List Sent → Option Nat
  | [] => none
  | x :: l => if x.id = s then some 0 else (idx s l).map (· + 1)
def ofIdx (i : Nat) : Option Nat → V × Bool
  | none => (.one (.int .i64 0), false)
  | some k => (.one (.int .i64 ((i + k : Nat) : Int)), true)
theorem idM_get (s : ByteArray) : ∀ (l : List Sent) (i : Nat), mapGet (.one (.str s)) (.one (.int .i64 0)) (idM i l) = some (ofIdx i (idx s l))
  | [], i => rfl
  | y :: l, i => by
    simp only [idM, mapGet, keyEq, idx]
    by_cases h : y.id = s
    · rw [if_pos h]; simp [h, ofIdx]
    · have h1 : ¬ s = y.id := fun e => h e.symm
      simp only [h1, decide_false, if_neg h, idM_get s l (i + 1)]
      cases idx s l with
      | none => rfl
      | some k => have e : i + 1 + k = i + (k + 1) := by omega
                  simp only [Option.map_some, ofIdx, e]
theorem idx_some {s : ByteArray} : ∀ {l : List Sent} {k : Nat}, idx s l = some k → ∃ x, l[k]? = some x ∧ x.id = s
  | [], _, h => by cases h
  | y :: l, k, h => by
    simp only [idx] at h
    split at h
    · rename_i e; cases h; exact ⟨y, rfl, e⟩
    · cases hk : idx s l with
      | none => rw [hk] at h; cases h
      | some k' => rw [hk] at h; cases h; obtain ⟨x, h1, h2⟩ := idx_some (l := l) hk; exact ⟨x, by simpa using h1, h2⟩
def atS (xs : List Sent) (k : Nat) : Int := match xs[k]? with
  | some x => x.at_
  | none => 0
theorem atS_some {xs : List Sent} {k : Nat} {x : Sent} (h : xs[k]? = some x) : atS xs k = x.at_ := by unfold atS; rw [h]
/-! ### acts that are right -/
def scanA (xs : List Sent) : List Act → Int
  | [] => 0
  | a :: l => match idx a.sent xs with
    | none => 8
    | some k => if ¬ (1 ≤ a.kind ∧ a.kind ≤ 4) then 4 else if ¬ moment a.at_ then 1 else if a.at_ < atS xs k then 7 else scanA xs l
theorem scanA_ok {xs : List Sent} : ∀ {l : List Act}, scanA xs l = 0 → ∀ a ∈ l, (∃ k, idx a.sent xs = some k) ∧ (1 ≤ a.kind ∧ a.kind ≤ 4) ∧ moment a.at_
  | [], _, a, ha => by cases ha
  | b :: l, h, a, ha => by
    simp only [scanA] at h
    split at h
    · cases h
    rename_i k hk
    split at h
    · cases h
    rename_i h1
    split at h
    · cases h
    rename_i h2
    split at h
    · cases h
    rcases List.mem_cons.1 ha with rfl | ha
    · exact ⟨⟨k, hk⟩, Decidable.of_not_not h1, Decidable.of_not_not h2⟩
    · exact scanA_ok h a ha
def errT (xs : List Sent) (acs : List Act) : Int := if errS xs ≠ 0 then errS xs else scanA xs acs
/-! ### what was done -/
def hit (xs : List Sent) (span : Int) (i k : Nat) (a : Act) : Bool := decide (idx a.sent xs = some i) && (decide (a.kind = (k : Int)) && decide (a.at_ - atS xs i ≤ span))
def didF (xs : List Sent) (acs : List Act) (span : Int) (i k : Nat) : Bool := acs.any (hit xs span i k)
theorem didF_mono {xs : List Sent} {acs : List Act} {a b : Int} (h : a ≤ b) {i k : Nat} (hd : didF xs acs a i k = true) : didF xs acs b i k = true := by
  obtain ⟨x, hx, h1⟩ := List.any_eq_true.1 hd
  refine List.any_eq_true.2 ⟨x, hx, ?_⟩
  unfold hit at h1 ⊢
  simp only [Bool.and_eq_true, decide_eq_true_eq] at h1 ⊢
  exact ⟨h1.1, h1.2.1, by omega⟩
/-! ### what is counted -/
def cnt (xs : List Sent) (n : Nat) (p : Nat → Bool) (L : ByteArray) : Nat := (List.range n).countP fun i => (match xs[i]? with
  | some x => decide (x.letter = L)
  | none => false) && p i
theorem cnt_mono {xs : List Sent} {n : Nat} {p q : Nat → Bool} {L : ByteArray} (h : ∀ i, p i = true → q i = true) : cnt xs n p L ≤ cnt xs n q L := by
  unfold cnt
  refine List.countP_mono_left fun i _ hi => ?_
  simp only [Bool.and_eq_true] at hi ⊢
  exact ⟨hi.1, h i hi.2⟩
theorem cnt_le {xs : List Sent} {n : Nat} {p : Nat → Bool} {L : ByteArray} : cnt xs n p L ≤ n := by
  unfold cnt
  have := List.countP_le_length (p := fun i => (match xs[i]? with
    | some x => decide (x.letter = L)
    | none => false) && p i) (l := List.range n)
  rw [List.length_range] at this; exact this
theorem cnt_step {xs : List Sent} {n : Nat} {p : Nat → Bool} {L : ByteArray} {x : Sent} (hx : xs[n]? = some x) : cnt xs (n + 1) p L = cnt xs n p L + b2n (decide (x.letter = L) && p n) := by
  unfold cnt
  rw [List.range_succ, List.countP_append, List.countP_cons, List.countP_nil, hx]
  cases h : (decide (x.letter = L) && p n) <;> simp [b2n, h]
theorem cnt_zero {xs : List Sent} {n : Nat} {p : Nat → Bool} {L : ByteArray} (h : ∀ x ∈ xs.take n, x.letter ≠ L) : cnt xs n p L = 0 := by
  unfold cnt
  rw [List.countP_eq_zero]
  intro i hi
  rw [List.mem_range] at hi
  simp only [Bool.and_eq_true, not_and]
  intro h1
  exfalso
  cases hx : xs[i]? with
  | none => rw [hx] at h1; cases h1
  | some x =>
    rw [hx] at h1
    exact h x (List.mem_of_getElem? (by rw [List.getElem?_take, if_pos hi]; exact hx)) (of_decide_eq_true h1)
def rowF (xs : List Sent) (D : Nat → Nat → Bool) (n : Nat) (L : ByteArray) : RowS :=
  ⟨L, cnt xs n (fun _ => true) L, cnt xs n (fun i => D i 1 || (D i 2 || D i 3)) L, cnt xs n (fun i => D i 2 || D i 3) L, cnt xs n (fun i => D i 3) L, cnt xs n (fun i => D i 4) L⟩
theorem rowF_hit {xs : List Sent} {D : Nat → Nat → Bool} {n : Nat} {x : Sent} (hx : xs[n]? = some x) : rowF xs D (n + 1) x.letter = bump (rowF xs D n x.letter) (D n) := by
  unfold rowF bump
  simp only [cnt_step hx, decide_true, Bool.true_and]
  rfl
theorem rowF_miss {xs : List Sent} {D : Nat → Nat → Bool} {n : Nat} {x : Sent} {L : ByteArray} (hx : xs[n]? = some x) (h : x.letter ≠ L) : rowF xs D (n + 1) L = rowF xs D n L := by
  unfold rowF
  simp only [cnt_step hx, h, decide_false, Bool.false_and]
  rfl
theorem rowF_none {xs : List Sent} {D : Nat → Nat → Bool} {n : Nat} {L : ByteArray} (h : ∀ x ∈ xs.take n, x.letter ≠ L) : rowF xs D n L = ⟨L, 0, 0, 0, 0, 0⟩ := by
  unfold rowF
  simp only [cnt_zero h]
/-! ### the letters' names, each once -/
instance decMemB (l : ByteArray) (ls : List ByteArray) : Decidable (l ∈ ls) := decidable_of_iff ((ls.any fun y => decide (y = l)) = true) (by simp)
def addL (ls : List ByteArray) (l : ByteArray) : List ByteArray := if l ∈ ls then ls else ls ++ [l]
def lets (xs : List Sent) : List ByteArray := xs.foldl (fun ls x => addL ls x.letter) []
theorem lets_snoc (xs : List Sent) (x : Sent) : lets (xs ++ [x]) = addL (lets xs) x.letter := by unfold lets; rw [List.foldl_append]; rfl
theorem lets_mem : ∀ (n : Nat) (xs : List Sent), n = xs.length → ∀ l, l ∈ lets xs ↔ ∃ x ∈ xs, x.letter = l
  | 0, xs, h, l => by have : xs = [] := List.length_eq_zero_iff.1 h.symm; subst this; simp [lets]
  | n + 1, xs, h, l => by
    rcases List.eq_nil_or_concat xs with rfl | ⟨ys, y, rfl⟩
    · simp at h
    · rw [List.concat_eq_append] at h ⊢
      have hn : n = ys.length := by simp at h; exact h
      have ih := lets_mem n ys hn
      rw [lets_snoc]
      unfold addL
      split
      · rename_i hm
        rw [ih l]
        constructor
        · rintro ⟨x, hx, e⟩; exact ⟨x, by simp [hx], e⟩
        · rintro ⟨x, hx, e⟩
          rcases List.mem_append.1 hx with hx | hx
          · exact ⟨x, hx, e⟩
          · rw [List.mem_singleton.1 hx] at e; rw [e] at hm; exact (ih l).1 hm
      · rw [List.mem_append, ih l]
        constructor
        · rintro (⟨x, hx, e⟩ | e)
          · exact ⟨x, by simp [hx], e⟩
          · exact ⟨y, by simp, (List.mem_singleton.1 e).symm⟩
        · rintro ⟨x, hx, e⟩
          rcases List.mem_append.1 hx with hx | hx
          · exact .inl ⟨x, hx, e⟩
          · rw [List.mem_singleton.1 hx] at e; exact .inr (List.mem_singleton.2 e.symm)
theorem lets_nodup : ∀ (n : Nat) (xs : List Sent), n = xs.length → (lets xs).Nodup
  | 0, xs, h => by have : xs = [] := List.length_eq_zero_iff.1 h.symm; subst this; simp [lets]
  | n + 1, xs, h => by
    rcases List.eq_nil_or_concat xs with rfl | ⟨ys, y, rfl⟩
    · simp at h
    · rw [List.concat_eq_append] at h ⊢
      have hn : n = ys.length := by simp at h; exact h
      have ih := lets_nodup n ys hn
      rw [lets_snoc]
      unfold addL
      split
      · exact ih
      · rename_i hm
        rw [List.nodup_append]
        exact ⟨ih, by simp, fun a ha b hb e => hm (by rw [← List.mem_singleton.1 hb, ← e]; exact ha)⟩
theorem lets_length (xs : List Sent) : (lets xs).length ≤ xs.length := by
  have : ∀ (l : List Sent) (ls : List ByteArray), (l.foldl (fun ls x => addL ls x.letter) ls).length ≤ ls.length + l.length := by
    intro l
    induction l with
    | nil => intro ls; simp
    | cons x l ih =>
      intro ls
      rw [List.foldl_cons]
      have h1 := ih (addL ls x.letter)
      have h2 : (addL ls x.letter).length ≤ ls.length + 1 := by unfold addL; split <;> simp
      simp only [List.length_cons]; omega
  have := this xs []
  simpa [lets] using this
/-- What the map of rows holds. -/
def rowM (ls : List ByteArray) (bs : List Nat) : List (V × V) := List.zipWith (fun l b => (.one (.str l), .one (.ptr (some (b, 0))))) ls bs
theorem rowM_keys : ∀ {ls : List ByteArray} {bs : List Nat}, ls.length = bs.length → (rowM ls bs).map (·.1) = ls.map fun k => .one (.str k)
  | [], _, _ => by simp [rowM]
  | l :: ls, [], h => by simp at h
  | l :: ls, b :: bs, h => by
    have := rowM_keys (ls := ls) (bs := bs) (by simpa using h)
    simp only [rowM, List.zipWith_cons_cons, List.map_cons] at this ⊢
    rw [this]
theorem rowM_none {s : ByteArray} : ∀ {ls : List ByteArray} {bs : List Nat}, s ∉ ls → mapGet (.one (.str s)) (.one (.ptr none)) (rowM ls bs) = some (.one (.ptr none), false)
  | [], _, _ => by simp [rowM, mapGet]
  | l :: ls, [], _ => by simp [rowM, mapGet]
  | l :: ls, b :: bs, h => by
    have := rowM_none (s := s) (ls := ls) (bs := bs) (fun hm => h (by simp [hm]))
    have h1 : ¬ s = l := fun e => h (by simp [e])
    simp only [rowM, List.zipWith_cons_cons, mapGet, keyEq, h1, decide_false] at this ⊢
    exact this
theorem rowM_get {s : ByteArray} : ∀ {ls : List ByteArray} {bs : List Nat}, ls.length = bs.length → s ∈ ls → ∃ (q : Nat) (b : Nat), ls[q]? = some s ∧ bs[q]? = some b ∧ mapGet (.one (.str s)) (.one (.ptr none)) (rowM ls bs) = some (.one (.ptr (some (b, 0))), true)
  | [], _, _, h => by cases h
  | l :: ls, [], h, _ => by simp at h
  | l :: ls, b :: bs, hl, h => by
    by_cases e : s = l
    · subst e
      exact ⟨0, b, rfl, rfl, by simp [rowM, mapGet, keyEq]⟩
    · obtain ⟨q, b', h1, h2, h3⟩ := rowM_get (s := s) (ls := ls) (bs := bs) (by simpa using hl) (by
        rcases List.mem_cons.1 h with h | h
        · exact absurd h e
        · exact h)
      refine ⟨q + 1, b', by simpa using h1, by simpa using h2, ?_⟩
      simp only [rowM, List.zipWith_cons_cons, mapGet, keyEq, e, decide_false] at h3 ⊢
      exact h3
theorem rowM_set {s : ByteArray} {b : Nat} : ∀ {ls : List ByteArray} {bs : List Nat}, ls.length = bs.length → s ∉ ls → mapSet (.one (.str s)) (.one (.ptr (some (b, 0)))) (rowM ls bs) = some (rowM (ls ++ [s]) (bs ++ [b]))
  | [], [], _, _ => by simp [rowM, mapSet]
  | [], _ :: _, h, _ => by simp at h
  | l :: ls, [], h, _ => by simp at h
  | l :: ls, b' :: bs, hl, h => by
    have := rowM_set (s := s) (b := b) (ls := ls) (bs := bs) (by simpa using hl) (fun hm => h (by simp [hm]))
    have h1 : ¬ s = l := fun e => h (by simp [e])
    simp only [rowM, List.cons_append, List.zipWith_cons_cons, mapSet, keyEq, h1, decide_false] at this ⊢
    rw [this]; rfl
end Go.Proofs.YtmjfeabnioclgaaGreatDoorVc
