/- Offers and baskets: what is wrong with them; which fit; which go together. Plain Lean. -/
import Derived.Test.YtdjancoknephnaaGreatVcStrB
import Derived.Test.YtdjancoknephnaaGreatVcRows4
set_option linter.unusedVariables false
namespace Go.Proofs.YtdjancoknephnaaGreatVc

structure Offr where
  key : ByteArray
  kind : Int
  a : Int
  b : Int
  tg : Sl
  least : Int
  most : Int
  group : ByteArray
  alone : Bool
  order : Int
  from_ : Int
  to_ : Int
  tags : List ByteArray
structure Itm where
  key : ByteArray
  cents : Int
  many : Int
  tg : Sl
  tags : List ByteArray
def offC (x : Offr) : List Cell := [.str x.key, .int .i64 x.kind, .int .i64 x.a, .int .i64 x.b, .slice 1 x.tg, .int .i64 x.least, .int .i64 x.most, .str x.group, .bool x.alone, .int .i64 x.order, .int .i64 x.from_, .int .i64 x.to_]
def itmC (x : Itm) : List Cell := [.str x.key, .int .i64 x.cents, .int .i64 x.many, .slice 1 x.tg]
theorem offC_length (x : Offr) : (offC x).length = 12 := rfl
theorem itmC_length (x : Itm) : (itmC x).length = 4 := rfl

/-! ### tags -/
def leS (a b : ByteArray) : Bool := Op.bytesLess a.toList b.toList || decide (a = b)
def badPrev (p : Option ByteArray) (x : ByteArray) : Bool := match p with
  | none => false
  | some q => leS x q
def scanT : Option ByteArray → List ByteArray → Int
  | _, [] => 0
  | p, x :: l => if isKey x = false then 5 else if badPrev p x = true then 7 else scanT (some x) l
def errTg (l : List ByteArray) : Int := if l.length > 10 then 2 else scanT none l
def prevOf (xs : List ByteArray) (i : Nat) : Option ByteArray := if i = 0 then none else xs[i - 1]?
theorem scanT_step {xs : List ByteArray} {i : Nat} {x : ByteArray} (hx : xs[i]? = some x) : scanT (prevOf xs i) (xs.drop i) = if isKey x = false then 5 else if badPrev (prevOf xs i) x = true then 7 else scanT (prevOf xs (i + 1)) (xs.drop (i + 1)) := by
  have h1 : xs.drop i = x :: xs.drop (i + 1) := by
    obtain ⟨hi, rfl⟩ := List.getElem?_eq_some_iff.1 hx
    exact List.drop_eq_getElem_cons hi
  have h2 : prevOf xs (i + 1) = some x := by unfold prevOf; rw [if_neg (by omega)]; exact hx
  rw [h1, h2]
  rfl

/-! ### what is wrong with offers -/
abbrev okAm (x : Offr) : Prop := (x.kind = 1 ∧ 1 ≤ x.a ∧ x.a ≤ 100 ∧ x.b = 0) ∨ (x.kind = 3 ∧ 1 ≤ x.a ∧ x.a ≤ 20 ∧ 1 ≤ x.b ∧ x.b ≤ 20) ∨ (x.kind ≠ 1 ∧ x.kind ≠ 3 ∧ 1 ≤ x.a ∧ x.a ≤ 1000000000000 ∧ x.b = 0)
abbrev okN (x : Offr) : Prop := okAm x ∧ 0 ≤ x.least ∧ x.least ≤ 1000000000000 ∧ 0 ≤ x.most ∧ x.most ≤ 1000000000000 ∧ 0 ≤ x.order ∧ x.order ≤ 1000
abbrev okT (x : Offr) : Prop := 0 ≤ x.from_ ∧ x.from_ ≤ 4321439 ∧ x.from_ + 1 ≤ x.to_ ∧ x.to_ ≤ 4321440
def scanO : List Offr → List Offr → Int
  | _, [] => 0
  | pre, x :: l => if isKey x.key = false then 5 else if (pre.any fun y => decide (y.key = x.key)) = true then 6 else if ¬ (1 ≤ x.kind ∧ x.kind ≤ 4) then 4 else if ¬ okN x then 1 else if ¬ okT x then 1 else
    if x.group ≠ ⟨#[]⟩ ∧ isKey x.group = false then 5 else if errTg x.tags ≠ 0 then errTg x.tags else if x.tags.length > 0 ∧ x.kind = 4 then 3 else scanO (pre ++ [x]) l
def errO (xs : List Offr) : Int := if xs.length > 40 then 2 else scanO [] xs
theorem scanO_step {xs : List Offr} {i : Nat} {x : Offr} (hx : xs[i]? = some x) : scanO (xs.take i) (xs.drop i) = if isKey x.key = false then 5 else if ((xs.take i).any fun y => decide (y.key = x.key)) = true then 6 else if ¬ (1 ≤ x.kind ∧ x.kind ≤ 4) then 4 else if ¬ okN x then 1 else if ¬ okT x then 1 else
    if x.group ≠ ⟨#[]⟩ ∧ isKey x.group = false then 5 else if errTg x.tags ≠ 0 then errTg x.tags else if x.tags.length > 0 ∧ x.kind = 4 then 3 else scanO (xs.take (i + 1)) (xs.drop (i + 1)) := by
  have h1 : xs.drop i = x :: xs.drop (i + 1) := by
    obtain ⟨hi, rfl⟩ := List.getElem?_eq_some_iff.1 hx
    exact List.drop_eq_getElem_cons hi
  have h2 : xs.take (i + 1) = xs.take i ++ [x] := by rw [List.take_add_one, hx]; rfl
  rw [h1, h2]
  rfl
/-- What is known of an offer that is right. -/
structure OkO (x : Offr) : Prop where
  kind : 1 ≤ x.kind ∧ x.kind ≤ 4
  n : okN x
  t : okT x
  ship : x.kind = 4 → x.tags = []
theorem scanO_ok : ∀ (l pre : List Offr), scanO pre l = 0 → ∀ x ∈ l, OkO x
  | [], _, _, x, hx => by cases hx
  | y :: l, pre, h, x, hx => by
    simp only [scanO] at h
    split at h
    · cases h
    split at h
    · cases h
    split at h
    · cases h
    rename_i h3
    split at h
    · cases h
    rename_i h4
    split at h
    · cases h
    rename_i h5
    split at h
    · cases h
    split at h
    · rename_i h6; exact absurd h h6
    split at h
    · cases h
    rename_i h7
    rcases List.mem_cons.1 hx with rfl | hx
    · exact ⟨Decidable.of_not_not h3, Decidable.of_not_not h4, Decidable.of_not_not h5, fun e => by
        rcases Nat.eq_zero_or_pos x.tags.length with h | h
        · exact List.length_eq_zero_iff.1 h
        · exact absurd ⟨h, e⟩ h7⟩
    · exact scanO_ok l _ h x hx
theorem errO_ok {xs : List Offr} (h : errO xs = 0) : xs.length ≤ 40 ∧ ∀ x ∈ xs, OkO x := by
  unfold errO at h
  split at h
  · cases h
  · exact ⟨by omega, scanO_ok xs [] h⟩
theorem scanO_keys : ∀ (l pre : List Offr), scanO pre l = 0 → pre.Pairwise (fun a b => a.key ≠ b.key) → (pre ++ l).Pairwise (fun a b => a.key ≠ b.key)
  | [], pre, _, hp => by simpa using hp
  | z :: l, pre, h, hp => by
    simp only [scanO] at h
    split at h
    · cases h
    split at h
    · cases h
    rename_i hno
    split at h
    · cases h
    split at h
    · cases h
    split at h
    · cases h
    split at h
    · cases h
    split at h
    · rename_i h6; exact absurd h h6
    split at h
    · cases h
    have := scanO_keys l (pre ++ [z]) h (List.pairwise_append.2 ⟨hp, by simp, fun a ha b hb => by
      have : b = z := by simpa using hb
      subst this
      exact fun e => hno (List.any_eq_true.2 ⟨a, ha, by simp [e]⟩)⟩)
    simpa using this

/-! ### what is wrong with a basket -/
abbrev okI (x : Itm) : Prop := 0 ≤ x.cents ∧ x.cents ≤ 10000000 ∧ 1 ≤ x.many ∧ x.many ≤ 100
def scanI : List Itm → List Itm → Int
  | _, [] => 0
  | pre, x :: l => if isKey x.key = false then 5 else if (pre.any fun y => decide (y.key = x.key)) = true then 6 else if ¬ okI x then 1 else if errTg x.tags ≠ 0 then errTg x.tags else scanI (pre ++ [x]) l
def errK (xs : List Itm) (ship : Int) : Int := if xs.length > 50 then 2 else if scanI [] xs ≠ 0 then scanI [] xs else if ¬ (0 ≤ ship ∧ ship ≤ 1000000000000) then 1 else 0
theorem scanI_step {xs : List Itm} {i : Nat} {x : Itm} (hx : xs[i]? = some x) : scanI (xs.take i) (xs.drop i) = if isKey x.key = false then 5 else if ((xs.take i).any fun y => decide (y.key = x.key)) = true then 6 else
    if ¬ okI x then 1 else if errTg x.tags ≠ 0 then errTg x.tags else scanI (xs.take (i + 1)) (xs.drop (i + 1)) := by
  have h1 : xs.drop i = x :: xs.drop (i + 1) := by
    obtain ⟨hi, rfl⟩ := List.getElem?_eq_some_iff.1 hx
    exact List.drop_eq_getElem_cons hi
  have h2 : xs.take (i + 1) = xs.take i ++ [x] := by rw [List.take_add_one, hx]; rfl
  rw [h1, h2]
  rfl
theorem scanI_ok : ∀ (l pre : List Itm), scanI pre l = 0 → ∀ x ∈ l, okI x
  | [], _, _, x, hx => by cases hx
  | y :: l, pre, h, x, hx => by
    simp only [scanI] at h
    split at h
    · cases h
    split at h
    · cases h
    split at h
    · cases h
    rename_i h3
    split at h
    · rename_i h6; exact absurd h h6
    rcases List.mem_cons.1 hx with rfl | hx
    · exact Decidable.of_not_not h3
    · exact scanI_ok l _ h x hx
theorem errK_ok {xs : List Itm} {ship : Int} (h : errK xs ship = 0) : xs.length ≤ 50 ∧ (∀ x ∈ xs, okI x) ∧ 0 ≤ ship ∧ ship ≤ 1000000000000 := by
  unfold errK at h
  split at h
  · cases h
  split at h
  · rename_i h6; exact absurd h h6
  rename_i h6
  split at h
  · cases h
  rename_i h7
  have h8 : scanI [] xs = 0 := Decidable.of_not_not h6
  have h9 := Decidable.of_not_not h7
  exact ⟨by omega, scanI_ok xs [] h8, h9.1, h9.2⟩

/-! ### which fit -/
def matchB (o : Offr) (x : Itm) : Bool := o.tags.isEmpty || o.tags.any fun s => x.tags.any fun t => decide (t = s)
def inF (o : Offr) (x : Itm) : Int := if matchB o x = true then x.cents * x.many else 0
def allF (o : Offr) (xs : List Itm) : Int := (xs.map (inF o)).sum
def fitsF (o : Offr) (xs : List Itm) (ship t : Int) : Int :=
  if t < o.from_ then 1 else if t ≥ o.to_ then 2 else if (if o.kind = 4 then decide (ship = 0) else decide (allF o xs = 0)) = true then 3 else if allF o xs < o.least then 4 else 0
theorem inF_ge {o : Offr} {x : Itm} (h : okI x) : 0 ≤ inF o x ∧ inF o x ≤ 1000000000 := by
  obtain ⟨h1, h2, h3, h4⟩ := h
  have h5 : 0 ≤ x.cents * x.many := Int.mul_nonneg h1 (by omega)
  have h6 : x.cents * x.many ≤ 10000000 * 100 := Int.mul_le_mul h2 h4 (by omega) (by decide)
  unfold inF
  split <;> omega
theorem allF_step {o : Offr} {xs : List Itm} {i : Nat} {x : Itm} (hx : xs[i]? = some x) : allF o (xs.take (i + 1)) = allF o (xs.take i) + inF o x := by
  unfold allF
  rw [List.take_add_one, hx]
  show ((xs.take i ++ [x]).map _).sum = _
  simp
theorem allF_bound {o : Offr} : ∀ {xs : List Itm}, (∀ x ∈ xs, okI x) → 0 ≤ allF o xs ∧ allF o xs ≤ xs.length * 1000000000
  | [], _ => by simp [allF]
  | x :: xs, h => by
    have h1 := inF_ge (o := o) (h x (by simp))
    have h2 := allF_bound (o := o) (xs := xs) fun y hy => h y (by simp [hy])
    unfold allF at h2 ⊢
    rw [List.map_cons, List.sum_cons, List.length_cons]
    omega

/-! ### which go together -/
def grpB (a b : Offr) : Bool := decide (b.group ≠ ⟨#[]⟩) && decide (a.group = b.group)
def notB (a b : Offr) : Bool := b.alone || a.alone || grpB a b
def togB : List Offr → List Offr → Bool
  | _, [] => true
  | pre, x :: l => if (pre.any fun y => notB y x) = true then false else togB (pre ++ [x]) l
def togP (n : Nat) : List Offr → List Offr → Bool
  | _, [] => true
  | pre, x :: l => if (x.alone = true ∧ n > 1) ∨ (pre.any fun y => grpB y x) = true then false else togP n (pre ++ [x]) l
theorem togB_step {xs : List Offr} {i : Nat} {x : Offr} (hx : xs[i]? = some x) : togB (xs.take i) (xs.drop i) = if ((xs.take i).any fun y => notB y x) = true then false else togB (xs.take (i + 1)) (xs.drop (i + 1)) := by
  have h1 : xs.drop i = x :: xs.drop (i + 1) := by
    obtain ⟨hi, rfl⟩ := List.getElem?_eq_some_iff.1 hx
    exact List.drop_eq_getElem_cons hi
  have h2 : xs.take (i + 1) = xs.take i ++ [x] := by rw [List.take_add_one, hx]; rfl
  rw [h1, h2]
  rfl
theorem togP_step {n : Nat} {xs : List Offr} {i : Nat} {x : Offr} (hx : xs[i]? = some x) : togP n (xs.take i) (xs.drop i) = if (x.alone = true ∧ n > 1) ∨ ((xs.take i).any fun y => grpB y x) = true then false else togP n (xs.take (i + 1)) (xs.drop (i + 1)) := by
  have h1 : xs.drop i = x :: xs.drop (i + 1) := by
    obtain ⟨hi, rfl⟩ := List.getElem?_eq_some_iff.1 hx
    exact List.drop_eq_getElem_cons hi
  have h2 : xs.take (i + 1) = xs.take i ++ [x] := by rw [List.take_add_one, hx]; rfl
  rw [h1, h2]
  rfl
theorem togB_iff : ∀ (l pre : List Offr), togB pre l = true ↔ (∀ x ∈ l, ∀ y ∈ pre, notB y x = false) ∧ l.Pairwise fun a b => notB a b = false
  | [], pre => by simp [togB]
  | x :: l, pre => by
    have ih := togB_iff l (pre ++ [x])
    simp only [togB]
    split
    · rename_i h
      obtain ⟨y, hy, hn⟩ := List.any_eq_true.1 h
      constructor
      · intro h; cases h
      · rintro ⟨h1, _⟩
        have := h1 x (by simp) y hy
        rw [hn] at this; cases this
    · rename_i h
      have h' : ∀ y ∈ pre, notB y x = false := fun y hy => by
        cases e : notB y x with
        | false => rfl
        | true => exact absurd (List.any_eq_true.2 ⟨y, hy, e⟩) h
      rw [ih, List.pairwise_cons]
      constructor
      · rintro ⟨h1, h2⟩
        refine ⟨fun z hz y hy => ?_, fun z hz => h1 z hz x (by simp), h2⟩
        rcases List.mem_cons.1 hz with rfl | hz
        · exact h' y hy
        · exact h1 z hz y (by simp [hy])
      · rintro ⟨h1, h2, h3⟩
        refine ⟨fun z hz y hy => ?_, h3⟩
        rcases List.mem_append.1 hy with hy | hy
        · exact h1 z (by simp [hz]) y hy
        · have : y = x := by simpa using hy
          subst this; exact h2 z hz
theorem togP_iff {n : Nat} : ∀ (l pre : List Offr), togP n pre l = true ↔ (∀ x ∈ l, ¬ (x.alone = true ∧ n > 1)) ∧ (∀ x ∈ l, ∀ y ∈ pre, grpB y x = false) ∧ l.Pairwise fun a b => grpB a b = false
  | [], pre => by simp [togP]
  | x :: l, pre => by
    have ih := togP_iff (n := n) l (pre ++ [x])
    simp only [togP]
    split
    · rename_i h
      constructor
      · intro h; cases h
      · rintro ⟨h0, h1, _⟩
        rcases h with h | h
        · exact absurd h (h0 x (by simp))
        · obtain ⟨y, hy, hn⟩ := List.any_eq_true.1 h
          have := h1 x (by simp) y hy
          rw [hn] at this; cases this
    · rename_i h
      have ha : ¬ (x.alone = true ∧ n > 1) := fun e => h (.inl e)
      have h' : ∀ y ∈ pre, grpB y x = false := fun y hy => by
        cases e : grpB y x with
        | false => rfl
        | true => exact absurd (.inr (List.any_eq_true.2 ⟨y, hy, e⟩)) h
      rw [ih, List.pairwise_cons]
      constructor
      · rintro ⟨h0, h1, h2⟩
        refine ⟨fun z hz => ?_, fun z hz y hy => ?_, fun z hz => h1 z hz x (by simp), h2⟩
        · rcases List.mem_cons.1 hz with rfl | hz
          · exact ha
          · exact h0 z hz
        · rcases List.mem_cons.1 hz with rfl | hz
          · exact h' y hy
          · exact h1 z hz y (by simp [hy])
      · rintro ⟨h0, h1, h2, h3⟩
        refine ⟨fun z hz => h0 z (by simp [hz]), fun z hz y hy => ?_, h3⟩
        rcases List.mem_append.1 hy with hy | hy
        · exact h1 z (by simp [hz]) y hy
        · have : y = x := by simpa using hy
          subst this; exact h2 z hz
/-- The program's and the document's say the same. -/
theorem tog_same (l : List Offr) : togP l.length [] l = togB [] l := by
  rw [Bool.eq_iff_iff, togP_iff, togB_iff]
  constructor
  · rintro ⟨h0, _, h2⟩
    refine ⟨by simp, ?_⟩
    rcases Nat.lt_or_ge 1 l.length with hn | hn
    · refine h2.imp_of_mem fun {a b} ha hb hg => ?_
      have e1 : a.alone = false := by
        cases e : a.alone with
        | false => rfl
        | true => exact absurd ⟨e, hn⟩ (h0 a ha)
      have e2 : b.alone = false := by
        cases e : b.alone with
        | false => rfl
        | true => exact absurd ⟨e, hn⟩ (h0 b hb)
      unfold notB
      rw [e1, e2, hg]; rfl
    · match l, hn with
      | [], _ => exact List.Pairwise.nil
      | [x], _ => simp
  · rintro ⟨_, h2⟩
    have h3 : l.Pairwise fun a b => grpB a b = false := h2.imp fun {a b} h => by
      unfold notB at h
      simp only [Bool.or_eq_false_iff] at h
      exact h.2
    refine ⟨fun x hx ⟨ha, hn⟩ => ?_, by simp, h3⟩
    match l, h2, hx, hn with
    | a :: b :: l, h2, hx, _ =>
      obtain ⟨h4, h5⟩ := List.pairwise_cons.1 h2
      rcases List.mem_cons.1 hx with rfl | hx
      · have := h4 b (by simp)
        unfold notB at this
        rw [ha] at this
        simp at this
      · have := h4 x hx
        unfold notB at this
        rw [ha] at this
        simp at this

/-! ### a map that is a set of strings; one may come twice -/
def hasS (l : List ByteArray) (s : ByteArray) : Bool := l.any fun y => decide (y = s)
def SetOf (es : List (V × V)) (l : List ByteArray) : Prop := ∃ ks, es = seen ks ∧ ∀ s, hasS ks s = hasS l s
theorem SetOf.nil : SetOf [] [] := ⟨[], rfl, fun _ => rfl⟩
theorem hasS_snoc (l : List ByteArray) (s t : ByteArray) : hasS (l ++ [s]) t = (hasS l t || decide (s = t)) := by simp [hasS]
theorem SetOf.get {es : List (V × V)} {l : List ByteArray} (h : SetOf es l) (s : ByteArray) : mapGet (.one (.str s)) (.one (.bool false)) es = some (.one (.bool (hasS l s)), hasS l s) := by
  obtain ⟨ks, rfl, hk⟩ := h
  rw [seen_get, ← hk s]
  rfl
theorem seen_again (s : ByteArray) : ∀ l : List ByteArray, (l.any fun y => decide (y = s)) = true → mapSet (.one (.str s)) (.one (.bool true)) (seen l) = some (seen l)
  | [], h => by simp at h
  | y :: l, h => by
    simp only [seen, List.map_cons, mapSet, keyEq]
    by_cases e : s = y
    · subst e; simp
    · have e' : ¬ y = s := fun h => e h.symm
      simp only [List.any_cons, e', decide_false, Bool.false_or] at h
      have ih := seen_again s l h
      simp only [seen] at ih
      simp only [e, decide_false, ih, Option.map_some]
theorem SetOf.set {es : List (V × V)} {l : List ByteArray} (h : SetOf es l) (s : ByteArray) : ∃ es', mapSet (.one (.str s)) (.one (.bool true)) es = some es' ∧ SetOf es' (l ++ [s]) := by
  obtain ⟨ks, rfl, hk⟩ := h
  cases e : ks.any fun y => decide (y = s) with
  | true =>
    refine ⟨_, seen_again s ks e, ks, rfl, fun t => ?_⟩
    have hs : hasS l s = true := by rw [← hk s]; exact e
    rw [hasS_snoc, hk t]
    by_cases h : s = t
    · subst h; rw [hs]; rfl
    · rw [decide_eq_false h, Bool.or_false]
  | false =>
    refine ⟨_, seen_set s ks e, ks ++ [s], rfl, fun t => ?_⟩
    rw [hasS_snoc, hasS_snoc, hk t]
end Go.Proofs.YtdjancoknephnaaGreatVc
