/- Lists that an insertion sort turns. -/
set_option linter.unusedSimpArgs false
set_option linter.unusedVariables false
namespace Go.Proofs.YtadakbmoanbcgaaGreatDoorVc

theorem set_mid' {α : Type} (l1 l2 : List α) (a b : α) : (l1 ++ a :: l2).set l1.length b = l1 ++ b :: l2 := by
  rw [List.set_append_right _ _ (Nat.le_refl _)]; simp
theorem get_mid {α : Type} (l1 l2 : List α) (a : α) : (l1 ++ a :: l2)[l1.length]? = some a := by
  rw [List.getElem?_append_right (Nat.le_refl _)]; simp

/-- What is earlier than the element k. -/
theorem pairwise_take {α : Type} {P : α → α → Prop} {xs : List α} (h : xs.Pairwise P) {k : Nat} {x : α} (hx : xs[k]? = some x) : ∀ d ∈ xs.take k, P d x := by
  obtain ⟨hlt, he⟩ := List.getElem?_eq_some_iff.1 hx
  intro d hd
  have h2 : xs = xs.take k ++ x :: xs.drop (k + 1) := by rw [← he, List.getElem_cons_drop, List.take_append_drop]
  rw [h2, List.pairwise_append] at h
  exact h.2.2 d hd x (by simp)
theorem drop_mid {α : Type} {xs : List α} {k : Nat} {x : α} (hx : xs[k]? = some x) : xs.drop k = x :: xs.drop (k + 1) := by
  obtain ⟨hlt, he⟩ := List.getElem?_eq_some_iff.1 hx
  rw [← he, List.getElem_cons_drop]
theorem take_mid {α : Type} {xs : List α} {k : Nat} {x : α} (hx : xs[k]? = some x) : xs.take (k + 1) = xs.take k ++ [x] := by
  rw [List.take_add_one, hx]; rfl

/-- An element takes its place: all before come before it, it comes before all behind. -/
theorem placed {α : Type} {R : α → α → Prop} {pre post : List α} {x : α} (h : (pre ++ post).Pairwise R) (h1 : ∀ d ∈ pre, R d x) (h2 : ∀ d ∈ post, R x d) : (pre ++ x :: post).Pairwise R := by
  rw [List.pairwise_append] at h ⊢
  obtain ⟨h3, h4, h5⟩ := h
  refine ⟨h3, List.pairwise_cons.2 ⟨h2, h4⟩, fun a ha b hb => ?_⟩
  rcases List.mem_cons.1 hb with rfl | hb
  · exact h1 a ha
  · exact h5 a ha b hb
theorem before_all {α : Type} {R : α → α → Prop} {pre post : List α} {d x : α} (h : ((pre ++ [d]) ++ post).Pairwise R) (ht : ∀ e ∈ pre, R e d → R e x) (hd : R d x) : ∀ e ∈ pre ++ [d], R e x := by
  intro e he
  rcases List.mem_append.1 he with he | he
  · rw [List.append_assoc, List.pairwise_append] at h
    exact ht e he (h.2.2 e he d (by simp))
  · have : e = d := by simpa using he
    rw [this]; exact hd

end Go.Proofs.YtadakbmoanbcgaaGreatDoorVc
