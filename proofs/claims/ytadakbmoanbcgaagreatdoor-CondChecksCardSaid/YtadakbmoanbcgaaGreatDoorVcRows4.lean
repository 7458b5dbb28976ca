/- Slices of structs: k cells an element. -/
import Derived.Test.YtadakbmoanbcgaaGreatDoorVcFrame
set_option linter.unusedSimpArgs false
set_option linter.unusedVariables false
namespace Go.Proofs.YtadakbmoanbcgaaGreatDoorVc

def rows {α : Type} (f : α → List Cell) (xs : List α) : List Cell := xs.flatMap f
section
variable {α : Type} {f : α → List Cell} {k : Nat}
theorem rows_cons (f : α → List Cell) (a : α) (xs : List α) : rows f (a :: xs) = f a ++ rows f xs := by simp [rows]
theorem rows_append (f : α → List Cell) (xs ys : List α) : rows f (xs ++ ys) = rows f xs ++ rows f ys := by simp [rows]
theorem rows_length (hf : ∀ a, (f a).length = k) : ∀ xs : List α, (rows f xs).length = xs.length * k
  | [] => by simp [rows]
  | a :: xs => by rw [rows_cons, List.length_append, hf, rows_length hf xs, List.length_cons, Nat.add_mul]; omega
theorem rows_drop (hf : ∀ a, (f a).length = k) : ∀ (xs : List α) (i : Nat), (rows f xs).drop (i * k) = rows f (xs.drop i)
  | [], i => by simp [rows]
  | a :: xs, 0 => by simp
  | a :: xs, i + 1 => by
    rw [rows_cons, List.drop_append, hf, List.drop_eq_nil_of_le (by rw [hf, Nat.add_mul]; omega), List.nil_append, List.drop_succ_cons, ← rows_drop hf xs i]
    congr 1
    rw [Nat.add_mul]; omega
theorem rows_take (hf : ∀ a, (f a).length = k) : ∀ (xs : List α) (i : Nat), (rows f xs).take (i * k) = rows f (xs.take i)
  | [], i => by simp [rows]
  | a :: xs, 0 => by simp [rows]
  | a :: xs, i + 1 => by
    rw [List.take_succ_cons, rows_cons, rows_cons, List.take_append, hf, List.take_of_length_le (by rw [hf, Nat.add_mul]; omega), ← rows_take hf xs i]
    congr 2
    rw [Nat.add_mul]; omega
theorem rows_get (hf : ∀ a, (f a).length = k) {xs : List α} {i : Nat} {a : α} (h : xs[i]? = some a) : ((rows f xs).drop (i * k)).take k = f a := by
  rw [rows_drop hf]
  obtain ⟨hi, rfl⟩ := List.getElem?_eq_some_iff.1 h
  rw [List.drop_eq_getElem_cons hi, rows_cons, List.take_append, hf]
  simp [List.take_of_length_le, hf]
theorem rows_cell (hf : ∀ a, (f a).length = k) {xs : List α} {i j : Nat} {a : α} {c : Cell} (h : xs[i]? = some a) (hc : (f a)[j]? = some c) : (rows f xs)[i * k + j]? = some c := by
  have hj : j < k := by rw [← hf a]; exact (List.getElem?_eq_some_iff.1 hc).1
  have := rows_get hf h
  rw [← this, List.getElem?_take, if_pos hj, List.getElem?_drop] at hc
  exact hc
theorem rows_set (hf : ∀ a, (f a).length = k) : ∀ {xs : List α} {i j : Nat} {a b : α} {c : Cell}, xs[i]? = some a → j < k → (f a).set j c = f b → (rows f xs).set (i * k + j) c = rows f (xs.set i b)
  | [], i, j, a, b, c, h, _, _ => by simp at h
  | x :: xs, 0, j, a, b, c, h, hj, hb => by
    simp only [List.getElem?_cons_zero, Option.some.injEq] at h
    subst h
    rw [List.set_cons_zero, rows_cons, rows_cons, Nat.zero_mul, Nat.zero_add, List.set_append, if_pos (by rw [hf]; exact hj), hb]
  | x :: xs, i + 1, j, a, b, c, h, hj, hb => by
    rw [List.set_cons_succ, rows_cons, rows_cons, List.set_append, if_neg (by rw [hf, Nat.add_mul]; omega), hf]
    congr 1
    have e : (i + 1) * k + j - k = i * k + j := by rw [Nat.add_mul]; omega
    rw [e]
    exact rows_set hf (by simpa using h) hj hb

variable {h : Heap}
theorem At.rowsLen (hf : ∀ a, (f a).length = k) (hk : 0 < k) {s : Sl} {xs : List α} (hs : At h k s (rows f xs)) : s.len = xs.length := by
  have := hs.1
  rw [rows_length hf] at this
  exact Nat.eq_of_mul_eq_mul_right hk this
theorem At.row (hf : ∀ a, (f a).length = k) (hk : 0 < k) {s : Sl} {xs : List α} {i : Nat} {a : α} {g : Nat → Nat → T} (hs : At h k s (rows f xs)) (hx : xs[i]? = some a)
    (hg : ∀ bb o, h.read bb (o + (i : Int).toNat * k) k = some (f a) → g bb o h) : derefK s.a g h := by
  have hlt : i < xs.length := (List.getElem?_eq_some_iff.1 hx).1
  have hpos : 0 < xs.length * k := Nat.mul_pos (by omega) hk
  obtain ⟨bb, o, ha, hr⟩ := hs.lies (by rw [rows_length hf]; exact hpos)
  refine derefK_intro ha (hg bb o ?_)
  have hle : i * k + k ≤ xs.length * k := by
    have := Nat.mul_le_mul_right k (show i + 1 ≤ xs.length by omega)
    rw [Nat.add_mul] at this; omega
  rw [Int.toNat_natCast, read_part hr (by rw [rows_length hf]; exact hle), rows_get hf hx]
theorem At.rowCell (hf : ∀ a, (f a).length = k) (hk : 0 < k) {s : Sl} {xs : List α} {i j : Nat} {a : α} {c : Cell} {g : Nat → Nat → T} (hs : At h k s (rows f xs)) (hx : xs[i]? = some a) (hc : (f a)[j]? = some c)
    (hg : ∀ bb o, h.read bb (o + (i : Int).toNat * k + j) 1 = some [c] → g bb o h) : derefK s.a g h := by
  have hlt : i < xs.length := (List.getElem?_eq_some_iff.1 hx).1
  have hj : j < k := by rw [← hf a]; exact (List.getElem?_eq_some_iff.1 hc).1
  have hpos : 0 < xs.length * k := Nat.mul_pos (by omega) hk
  obtain ⟨bb, o, ha, hr⟩ := hs.lies (by rw [rows_length hf]; exact hpos)
  refine derefK_intro ha (hg bb o ?_)
  have hle : i * k + k ≤ xs.length * k := by
    have := Nat.mul_le_mul_right k (show i + 1 ≤ xs.length by omega)
    rw [Nat.add_mul] at this; omega
  rw [Int.toNat_natCast, Nat.add_assoc, read_part hr (by rw [rows_length hf]; omega), List.take_one, List.head?_drop, rows_cell hf hx hc]
  rfl
end

/-! ### maps that are sets of strings -/
def seen (l : List ByteArray) : List (V × V) := l.map fun s => (.one (.str s), .one (.bool true))
theorem seen_get (s : ByteArray) : ∀ l : List ByteArray, mapGet (.one (.str s)) (.one (.bool false)) (seen l) = some (.one (.bool (l.any fun y => decide (y = s))), l.any fun y => decide (y = s))
  | [] => rfl
  | y :: l => by
    have ih := seen_get s l
    simp only [seen, List.map_cons, mapGet, keyEq] at ih ⊢
    by_cases e : s = y
    · subst e; simp
    · have e' : ¬ y = s := fun h => e h.symm
      simp only [e, decide_false, e', List.any_cons, Bool.false_or]
      exact ih
theorem seen_set (s : ByteArray) : ∀ l : List ByteArray, (l.any fun y => decide (y = s)) = false → mapSet (.one (.str s)) (.one (.bool true)) (seen l) = some (seen (l ++ [s]))
  | [], _ => rfl
  | y :: l, h => by
    simp only [List.any_cons, Bool.or_eq_false_iff, decide_eq_false_iff_not] at h
    have ih := seen_set s l h.2
    simp only [seen, List.map_cons, List.cons_append, mapSet, keyEq] at ih ⊢
    have e' : ¬ s = y := fun e => h.1 e.symm
    simp only [e', decide_false, ih, Option.map_some]
theorem mapOf_some {h : Heap} {i : Nat} {es : List (V × V)} (hi : h i = some (.map es)) : mapOf h (some i) = some es := by simp only [mapOf, hi]
theorem mapK_intro {h : Heap} {i : Nat} {es es' : List (V × V)} {kx x : V} {k : T} (hi : h i = some (.map es)) (hs : mapSet kx x es = some es') (hk : k (h.set i (.map es'))) : mapK [] (some i) kx x k h :=
  ⟨es, es', hi, hs, hk⟩
end Go.Proofs.YtadakbmoanbcgaaGreatDoorVc
