/- Quantiles: the place in the sorted row, and the least value that enough of the row does not pass. -/
set_option linter.unusedVariables false
namespace Go.Proofs.YtihnjdhjkpmggaaQuant

/-- How many of a row are not above e. -/
def cnt (xs : List Int) (e : Int) : Nat := xs.countP fun x => decide (x ≤ e)
theorem cnt_le (xs : List Int) (e : Int) : cnt xs e ≤ xs.length := List.countP_le_length
theorem cnt_pos {xs : List Int} {e : Int} (h : e ∈ xs) : 1 ≤ cnt xs e := List.countP_pos_iff.2 ⟨e, h, by simp⟩
theorem cnt_perm {xs ys : List Int} (h : ys.Perm xs) (e : Int) : cnt xs e = cnt ys e := (h.countP_eq _).symm

theorem cnt_split {ys : List Int} (k : Nat) (e : Int) : cnt ys e = cnt (ys.take k) e + cnt (ys.drop k) e := by
  unfold cnt
  rw [← List.countP_append, List.take_append_drop]
theorem sorted_le {ys : List Int} (h : ys.Pairwise (· ≤ ·)) {i j : Nat} {a b : Int} (hi : ys[i]? = some a) (hj : ys[j]? = some b) (hij : i ≤ j) : a ≤ b := by
  rcases Nat.lt_or_ge i j with h1 | h1
  · obtain ⟨li, rfl⟩ := List.getElem?_eq_some_iff.1 hi
    obtain ⟨lj, rfl⟩ := List.getElem?_eq_some_iff.1 hj
    exact List.pairwise_iff_getElem.1 h i j li lj h1
  · have : i = j := by omega
    subst this
    rw [hi] at hj
    cases hj
    exact Int.le_refl _
theorem cnt_ge {ys : List Int} (h : ys.Pairwise (· ≤ ·)) {k : Nat} {v : Int} (hv : ys[k]? = some v) : k + 1 ≤ cnt ys v := by
  have hk := (List.getElem?_eq_some_iff.1 hv).1
  rw [cnt_split (k + 1)]
  have : cnt (ys.take (k + 1)) v = (ys.take (k + 1)).length := by
    unfold cnt
    rw [List.countP_eq_length]
    intro a ha
    obtain ⟨i, hi, rfl⟩ := List.getElem_of_mem ha
    rw [List.length_take] at hi
    rw [List.getElem_take]
    exact decide_eq_true (sorted_le h (List.getElem?_eq_getElem _) hv (by omega))
  rw [this, List.length_take]
  omega
theorem cnt_lt {ys : List Int} (h : ys.Pairwise (· ≤ ·)) {k : Nat} {v e : Int} (hv : ys[k]? = some v) (he : e < v) : cnt ys e ≤ k := by
  rw [cnt_split k]
  have h1 : cnt (ys.drop k) e = 0 := by
    unfold cnt
    rw [List.countP_eq_zero]
    intro a ha
    obtain ⟨i, hi, rfl⟩ := List.getElem_of_mem ha
    rw [List.getElem_drop]
    have := sorted_le h hv (List.getElem?_eq_getElem (by rw [List.length_drop] at hi; omega)) (Nat.le_add_right k i)
    simp; omega
  have h2 := cnt_le (ys.take k) e
  rw [List.length_take] at h2
  omega

/-- The least of those that enough of the row does not pass. -/
structure Least (xs : List Int) (num den : Nat) (v : Int) : Prop where
  mem : v ∈ xs
  ok : num * xs.length ≤ cnt xs v * den
  least : ∀ e ∈ xs, num * xs.length ≤ cnt xs e * den → v ≤ e
theorem Least.eq {xs : List Int} {num den : Nat} {v u : Int} (h : Least xs num den v) (h' : Least xs num den u) : v = u :=
  Int.le_antisymm (h.least _ h'.mem h'.ok) (h'.least _ h.mem h.ok)

/-- The place in the sorted row. -/
def need (num den n : Nat) : Nat := max ((num * n + den - 1) / den) 1
theorem need_le {num den n : Nat} (h0 : 0 < n) (hd : 0 < den) (h : num ≤ den) : need num den n ≤ n := by
  have h1 : num * n ≤ den * n := Nat.mul_le_mul_right _ h
  have h2 : (num * n + den - 1) / den < n + 1 := (Nat.div_lt_iff_lt_mul hd).2 (by rw [Nat.add_mul, Nat.one_mul, Nat.mul_comm n den]; omega)
  unfold need; omega
theorem need_ok {num den n : Nat} (hd : 0 < den) : num * n ≤ need num den n * den := by
  have h1 := Nat.div_add_mod (num * n + den - 1) den
  have h2 := Nat.mod_lt (num * n + den - 1) hd
  have h3 : (num * n + den - 1) / den * den ≤ need num den n * den := Nat.mul_le_mul_right _ (by unfold need; omega)
  rw [Nat.mul_comm] at h3
  omega
theorem need_least {num den n m : Nat} (hd : 0 < den) (hm : 1 ≤ m) (h : num * n ≤ m * den) : need num den n ≤ m := by
  have : (num * n + den - 1) / den < m + 1 := (Nat.div_lt_iff_lt_mul hd).2 (by rw [Nat.add_mul, Nat.one_mul]; omega)
  unfold need; omega
theorem least_of_sorted {xs ys : List Int} {num den : Nat} {v : Int} (hp : ys.Perm xs) (hs : ys.Pairwise (· ≤ ·)) (h0 : 0 < xs.length) (hd : 0 < den) (h : num ≤ den) (hv : ys[need num den xs.length - 1]? = some v) : Least xs num den v := by
  have hn1 : 1 ≤ need num den xs.length := by unfold need; omega
  refine ⟨hp.mem_iff.1 (List.mem_of_getElem? hv), ?_, fun e he hq => ?_⟩
  · have h1 := cnt_ge hs hv
    rw [cnt_perm hp]
    have h2 : need num den xs.length * den ≤ cnt ys v * den := Nat.mul_le_mul_right _ (by omega)
    exact Nat.le_trans (need_ok hd) h2
  · rcases Int.lt_or_le e v with h1 | h1
    · have h2 := cnt_lt hs hv h1
      have h3 := need_least hd (cnt_pos he) hq
      rw [cnt_perm hp] at h3
      omega
    · exact h1
end Go.Proofs.YtihnjdhjkpmggaaQuant
