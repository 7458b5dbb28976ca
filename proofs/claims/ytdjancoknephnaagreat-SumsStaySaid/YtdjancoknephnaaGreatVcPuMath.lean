/- Budgets, holds: what is wrong with budgets; what is taken of them; that it is never too much. -/
import Derived.Test.YtdjancoknephnaaGreatVcStrB
import Derived.Test.YtdjancoknephnaaGreatVcRows4
set_option linter.unusedVariables false
namespace Go.Proofs.YtdjancoknephnaaGreatVc

structure Bud where
  key : ByteArray
  cents : Int
  first : Int
  last : Int
  pace : Bool
structure Hld where
  no : Int
  key : ByteArray
  cents : Int
  at_ : Int
  until_ : Int
  state : Int
def budC (x : Bud) : List Cell := [.str x.key, .int .i64 x.cents, .int .i64 x.first, .int .i64 x.last, .bool x.pace]
def hldC (x : Hld) : List Cell := [.int .i64 x.no, .str x.key, .int .i64 x.cents, .int .i64 x.at_, .int .i64 x.until_, .int .i64 x.state]
theorem budC_length (x : Bud) : (budC x).length = 5 := rfl
theorem hldC_length (x : Hld) : (hldC x).length = 6 := rfl

/-! ### what is wrong -/
abbrev okB (x : Bud) : Prop := 0 ≤ x.cents ∧ x.cents ≤ 1000000000000 ∧ 0 ≤ x.first ∧ x.first ≤ x.last ∧ x.last ≤ 3000
def scanB : List Bud → List Bud → Int
  | _, [] => 0
  | pre, x :: l => if isKey x.key = false then 5 else if (pre.any fun y => decide (y.key = x.key)) = true then 6 else if ¬ okB x then 1 else scanB (pre ++ [x]) l
def errB (xs : List Bud) : Int := scanB [] xs
theorem scanB_step {xs : List Bud} {i : Nat} {x : Bud} (hx : xs[i]? = some x) : scanB (xs.take i) (xs.drop i) = if isKey x.key = false then 5 else if ((xs.take i).any fun y => decide (y.key = x.key)) = true then 6 else
    if ¬ okB x then 1 else scanB (xs.take (i + 1)) (xs.drop (i + 1)) := by
  have h1 : xs.drop i = x :: xs.drop (i + 1) := by
    obtain ⟨hi, rfl⟩ := List.getElem?_eq_some_iff.1 hx
    exact List.drop_eq_getElem_cons hi
  have h2 : xs.take (i + 1) = xs.take i ++ [x] := by rw [List.take_add_one, hx]; rfl
  rw [h1, h2]
  rfl
theorem scanB_ok : ∀ (l pre : List Bud), scanB pre l = 0 → ∀ x ∈ l, okB x
  | [], _, _, x, hx => by cases hx
  | y :: l, pre, h, x, hx => by
    simp only [scanB] at h
    split at h
    · cases h
    split at h
    · cases h
    split at h
    · cases h
    rename_i hm
    rcases List.mem_cons.1 hx with rfl | hx
    · exact Decidable.of_not_not hm
    · exact scanB_ok l _ h x hx
/-- No two have the same key. -/
theorem scanB_inj : ∀ (l pre : List Bud), scanB pre l = 0 → (∀ x ∈ pre, ∀ y ∈ pre, x.key = y.key → x = y) → ∀ x ∈ pre ++ l, ∀ y ∈ pre ++ l, x.key = y.key → x = y
  | [], pre, _, hp => by simpa using hp
  | z :: l, pre, h, hp => by
    simp only [scanB] at h
    split at h
    · cases h
    split at h
    · cases h
    rename_i hno
    split at h
    · cases h
    have hno' : ∀ y ∈ pre, y.key ≠ z.key := fun y hy e => hno (List.any_eq_true.2 ⟨y, hy, by simp [e]⟩)
    have := scanB_inj l (pre ++ [z]) h fun x hx y hy e => by
      rcases List.mem_append.1 hx with hx1 | hx1
      · rcases List.mem_append.1 hy with hy1 | hy1
        · exact hp x hx1 y hy1 e
        · have hz : y = z := by simpa using hy1
          exact absurd (hz ▸ e) (hno' x hx1)
      · have hz : x = z := by simpa using hx1
        rcases List.mem_append.1 hy with hy1 | hy1
        · exact absurd (hz ▸ e.symm) (hno' y hy1)
        · have hz2 : y = z := by simpa using hy1
          rw [hz, hz2]
    simpa using this

/-! ### what is taken -/
def stateAt (x : Hld) (t : Int) : Int := if x.state = 1 then if t ≥ x.until_ then 4 else x.state else x.state
def one (key : ByteArray) (t : Int) (x : Hld) : Int := if x.key = key then if stateAt x t = 1 then x.cents else if stateAt x t = 2 then x.cents else 0 else 0
def taken (key : ByteArray) (t : Int) (xs : List Hld) : Int := (xs.map (one key t)).sum
abbrev okH (x : Hld) : Prop := 1 ≤ x.cents ∧ x.cents ≤ 1000000000000
theorem one_ge {key : ByteArray} {t : Int} {x : Hld} (h : okH x) : 0 ≤ one key t x ∧ one key t x ≤ 1000000000000 := by
  obtain ⟨h1, h2⟩ := h
  unfold one
  repeat' split
  all_goals omega
theorem sum_take_step {α : Type} {f : α → Int} {xs : List α} {i : Nat} {x : α} (hx : xs[i]? = some x) : ((xs.take (i + 1)).map f).sum = ((xs.take i).map f).sum + f x := by
  rw [List.take_add_one, hx]
  show ((xs.take i ++ [x]).map f).sum = _
  simp
theorem taken_step {key : ByteArray} {t : Int} {xs : List Hld} {i : Nat} {x : Hld} (hx : xs[i]? = some x) : taken key t (xs.take (i + 1)) = taken key t (xs.take i) + one key t x := sum_take_step hx
theorem taken_bound {key : ByteArray} {t : Int} : ∀ {xs : List Hld}, (∀ x ∈ xs, okH x) → 0 ≤ taken key t xs ∧ taken key t xs ≤ xs.length * 1000000000000
  | [], _ => by simp [taken]
  | x :: xs, h => by
    have h1 := one_ge (key := key) (t := t) (h x (by simp))
    have h2 := taken_bound (key := key) (t := t) (xs := xs) fun y hy => h y (by simp [hy])
    unfold taken at h2 ⊢
    rw [List.map_cons, List.sum_cons, List.length_cons]
    omega
theorem taken_snoc (key : ByteArray) (t : Int) (xs : List Hld) (x : Hld) : taken key t (xs ++ [x]) = taken key t xs + one key t x := by simp [taken]
/-- Later, no more is taken. -/
theorem one_later {key : ByteArray} {t t' : Int} {x : Hld} (h : okH x) (ht : t ≤ t') : one key t' x ≤ one key t x := by
  obtain ⟨h1, h2⟩ := h
  unfold one stateAt
  repeat' split
  all_goals omega
theorem taken_later {key : ByteArray} {t t' : Int} (ht : t ≤ t') : ∀ {xs : List Hld}, (∀ x ∈ xs, okH x) → taken key t' xs ≤ taken key t xs
  | [], _ => by simp [taken]
  | x :: xs, h => by
    have h1 := one_later (key := key) (h x (by simp)) ht
    have h2 := taken_later ht (key := key) (xs := xs) fun y hy => h y (by simp [hy])
    unfold taken at h2 ⊢
    rw [List.map_cons, List.sum_cons, List.map_cons, List.sum_cons]
    omega
theorem sum_set_le {α : Type} {f : α → Int} {y : α} : ∀ {xs : List α} {i : Nat} {x : α}, xs[i]? = some x → f y ≤ f x → ((xs.set i y).map f).sum ≤ (xs.map f).sum
  | [], i, x, h, _ => by simp at h
  | z :: xs, 0, x, h, hl => by
    simp only [List.getElem?_cons_zero, Option.some.injEq] at h
    subst h
    rw [List.set_cons_zero, List.map_cons, List.sum_cons, List.map_cons, List.sum_cons]
    omega
  | z :: xs, i + 1, x, h, hl => by
    have := sum_set_le (xs := xs) (i := i) (by simpa using h) hl
    rw [List.set_cons_succ, List.map_cons, List.sum_cons, List.map_cons, List.sum_cons]
    omega
theorem one_turn {key : ByteArray} {t : Int} {x : Hld} {s : Int} (h : okH x) (hs : s = 3 ∨ s = 2 ∧ stateAt x t = 1) : one key t { x with state := s } ≤ one key t x := by
  have h0 := one_ge (key := key) (t := t) h
  rcases hs with rfl | ⟨rfl, hs⟩
  · have : one key t { x with state := 3 } = 0 := by unfold one stateAt; simp
    omega
  · have e1 : one key t { x with state := 2 } = if x.key = key then x.cents else 0 := by unfold one stateAt; simp
    have e2 : one key t x = if x.key = key then x.cents else 0 := by unfold one; rw [hs]; simp
    omega

/-! ### what may be spent -/
def paced (b : Bud) (t : Int) : Int :=
  if t.tdiv 1440 < b.first then 0 else if t.tdiv 1440 ≥ b.last ∨ b.pace = false then b.cents else (b.cents * (t.tdiv 1440 - b.first + 1)).tdiv (b.last - b.first + 1)
theorem paced_le {b : Bud} {t : Int} (hb : okB b) : 0 ≤ paced b t ∧ paced b t ≤ b.cents := by
  obtain ⟨h1, h2, h3, h4, h5⟩ := hb
  unfold paced
  generalize t.tdiv 1440 = d
  split
  · omega
  split
  · omega
  rename_i h6 h7
  have h8 : d < b.last := by
    rcases Int.lt_or_le d b.last with h | h
    · exact h
    · exact absurd (.inl h) h7
  have hk : 0 ≤ d - b.first + 1 := by omega
  have hm : 0 ≤ b.cents * (d - b.first + 1) := Int.mul_nonneg h1 hk
  rw [Int.tdiv_eq_ediv_of_nonneg hm]
  refine ⟨Int.ediv_nonneg hm (by omega), Int.ediv_le_of_le_mul (by omega) (Int.mul_le_mul_of_nonneg_left (by omega) h1)⟩

/-! ### a purse -/
structure Right (bs : List Bud) (hs : List Hld) (now : Int) : Prop where
  okb : ∀ b ∈ bs, okB b
  uniq : ∀ x ∈ bs, ∀ y ∈ bs, x.key = y.key → x = y
  okh : ∀ x ∈ hs, okH x
  inv : ∀ b ∈ bs, taken b.key now hs ≤ b.cents
theorem Right.later {bs : List Bud} {hs : List Hld} {now t : Int} (r : Right bs hs now) (ht : now ≤ t) : Right bs hs t :=
  ⟨r.okb, r.uniq, r.okh, fun b hb => Int.le_trans (taken_later ht r.okh) (r.inv b hb)⟩
theorem Right.start {bs : List Bud} (h : errB bs = 0) : Right bs [] 0 :=
  ⟨scanB_ok bs [] h, by simpa using scanB_inj bs [] h (by simp), by simp, fun b hb => by have := (scanB_ok bs [] h b hb).1; simpa [taken] using this⟩
theorem Right.turn {bs : List Bud} {hs : List Hld} {now t : Int} {i : Nat} {x : Hld} {s : Int} (r : Right bs hs now) (ht : now ≤ t) (hx : hs[i]? = some x) (h : s = 3 ∨ s = 2 ∧ stateAt x t = 1) : Right bs (hs.set i { x with state := s }) t := by
  have r2 := r.later ht
  have ox := r.okh x (List.mem_of_getElem? hx)
  refine ⟨r.okb, r.uniq, fun y hy => ?_, fun b hb => Int.le_trans (sum_set_le hx (one_turn ox h)) (r2.inv b hb)⟩
  rcases List.mem_or_eq_of_mem_set hy with hy | rfl
  · exact r.okh y hy
  · exact ox
theorem Right.reserve {bs : List Bud} {hs : List Hld} {now t : Int} {b : Bud} {y : Hld} (r : Right bs hs now) (ht : now ≤ t) (hb : b ∈ bs) (hk : b.key = y.key) (hy : okH y) (hc : taken y.key t hs + y.cents ≤ paced b t) : Right bs (hs ++ [y]) t := by
  have r2 := r.later ht
  refine ⟨r.okb, r.uniq, fun x hx => ?_, fun c hc' => ?_⟩
  · rcases List.mem_append.1 hx with hx | hx
    · exact r.okh x hx
    · have : x = y := by simpa using hx
      subst this; exact hy
  · rw [taken_snoc]
    have h1 := (paced_le (t := t) (r.okb b hb)).2
    have h2 := r2.inv c hc'
    by_cases e : y.key = c.key
    · have : b = c := r.uniq b hb c hc' (hk.trans e)
      subst this
      have h3 : one b.key t y ≤ y.cents := by
        obtain ⟨h3, _⟩ := hy
        unfold one
        repeat' split
        all_goals omega
      rw [e] at hc
      omega
    · have : one c.key t y = 0 := by unfold one; rw [if_neg e]
      omega

/-! ### what is answered -/
def findB (bs : List Bud) (key : ByteArray) : Option Bud := bs.find? fun b => decide (b.key = key)
theorem findB_mem {bs : List Bud} {key : ByteArray} {b : Bud} (h : findB bs key = some b) : b ∈ bs ∧ b.key = key := by
  have := List.find?_some h
  exact ⟨List.mem_of_find?_eq_some h, by simpa using this⟩
theorem findB_some {bs : List Bud} {b : Bud} (h : b ∈ bs) : ∃ c, findB bs b.key = some c := by
  have : (findB bs b.key).isSome = true := by unfold findB; rw [List.find?_isSome]; exact ⟨b, h, by simp⟩
  exact Option.isSome_iff_exists.1 this
abbrev momentP (n : Int) : Prop := 0 ≤ n ∧ n ≤ 4321439
def errR (bs : List Bud) (hs : List Hld) (now : Int) (key : ByteArray) (cents t u : Int) : Int :=
  match findB bs key with
  | none => 8
  | some b => if ¬ (1 ≤ cents ∧ cents ≤ 1000000000000) ∨ ¬ momentP t ∨ ¬ (t + 1 ≤ u ∧ u ≤ 4321440) then 1 else if t < now then 7 else if hs.length ≥ 2000 ∨ taken key t hs + cents > paced b t then 12 else 0
def errT (hs : List Hld) (now no t : Int) (may : Int → Bool) : Int :=
  match hs[(no - 1).toNat]? with
  | none => 8
  | some x => if no < 1 then 8 else if ¬ momentP t then 1 else if t < now then 7 else if may (stateAt x t) = false then 11 else 0
def leftP (bs : List Bud) (hs : List Hld) (now : Int) (key : ByteArray) (t : Int) : Int × Int :=
  match findB bs key with
  | none => (0, 8)
  | some b => if ¬ momentP t then (0, 1) else if t < now then (0, 7) else (max (paced b t - taken key t hs) 0, 0)
end Go.Proofs.YtdjancoknephnaaGreatVc
