/- Letters that were sent, gains: what is wrong with them; the letters before a gain. -/
import Derived.Test.YtadakbmoanbcgaaGreatDoorVcStrB
import Derived.Test.YtadakbmoanbcgaaGreatDoorVcRows4
set_option linter.unusedVariables false
namespace Go.Proofs.YtadakbmoanbcgaaGreatDoorVc

structure Sent where
  id : ByteArray
  person : ByteArray
  letter : ByteArray
  at_ : Int
structure Gain where
  id : ByteArray
  person : ByteArray
  at_ : Int
  cents : Int
def sentC (x : Sent) : List Cell := [.str x.id, .str x.person, .str x.letter, .int .i64 x.at_]
def gainC (x : Gain) : List Cell := [.str x.id, .str x.person, .int .i64 x.at_, .int .i64 x.cents]
theorem sentC_length (x : Sent) : (sentC x).length = 4 := rfl
theorem gainC_length (x : Gain) : (gainC x).length = 4 := rfl

abbrev moment (n : Int) : Prop := 0 ≤ n ∧ n ≤ 4321439
/-- What is wrong with letters, behind some that are right. -/
def scanS : List Sent → List Sent → Int
  | _, [] => 0
  | pre, x :: l => if isKey x.id = false then 5 else if (pre.any fun y => decide (y.id = x.id)) = true then 6 else if (isKey x.person && isKey x.letter) = false then 5 else if ¬ moment x.at_ then 1 else
    if (pre.getLast?.any fun p => decide (x.at_ < p.at_)) = true then 7 else scanS (pre ++ [x]) l
def errS (xs : List Sent) : Int := scanS [] xs
def scanG : List Gain → List Gain → Int
  | _, [] => 0
  | pre, x :: l => if isKey x.id = false then 5 else if (pre.any fun y => decide (y.id = x.id)) = true then 6 else if isKey x.person = false then 5 else if ¬ moment x.at_ then 1 else
    if ¬ (0 ≤ x.cents ∧ x.cents ≤ 1000000000000) then 1 else scanG (pre ++ [x]) l
def errG (xs : List Gain) : Int := scanG [] xs

theorem scanS_step {xs : List Sent} {i : Nat} {x : Sent} (hx : xs[i]? = some x) : scanS (xs.take i) (xs.drop i) = if isKey x.id = false then 5 else if ((xs.take i).any fun y => decide (y.id = x.id)) = true then 6 else
    if (isKey x.person && isKey x.letter) = false then 5 else if ¬ moment x.at_ then 1 else if ((xs.take i).getLast?.any fun p => decide (x.at_ < p.at_)) = true then 7 else scanS (xs.take (i + 1)) (xs.drop (i + 1)) := by
  have h1 : xs.drop i = x :: xs.drop (i + 1) := by
    obtain ⟨hi, rfl⟩ := List.getElem?_eq_some_iff.1 hx
    exact List.drop_eq_getElem_cons hi
  have h2 : xs.take (i + 1) = xs.take i ++ [x] := by rw [List.take_add_one, hx]; rfl
  rw [h1, h2]
  rfl
theorem scanG_step {xs : List Gain} {i : Nat} {x : Gain} (hx : xs[i]? = some x) : scanG (xs.take i) (xs.drop i) = if isKey x.id = false then 5 else if ((xs.take i).any fun y => decide (y.id = x.id)) = true then 6 else
    if isKey x.person = false then 5 else if ¬ moment x.at_ then 1 else if ¬ (0 ≤ x.cents ∧ x.cents ≤ 1000000000000) then 1 else scanG (xs.take (i + 1)) (xs.drop (i + 1)) := by
  have h1 : xs.drop i = x :: xs.drop (i + 1) := by
    obtain ⟨hi, rfl⟩ := List.getElem?_eq_some_iff.1 hx
    exact List.drop_eq_getElem_cons hi
  have h2 : xs.take (i + 1) = xs.take i ++ [x] := by rw [List.take_add_one, hx]; rfl
  rw [h1, h2]
  rfl
theorem take_last {α : Type} {xs : List α} {i : Nat} {p : α} (hp : xs[i - 1]? = some p) (hi : 0 < i) : (xs.take i).getLast? = some p := by
  have : i - 1 < xs.length := (List.getElem?_eq_some_iff.1 hp).1
  rw [List.getLast?_eq_getElem?, List.length_take, List.getElem?_take_of_lt (by omega)]
  have e : min i xs.length - 1 = i - 1 := by omega
  rw [e, hp]

/-- What is right is in its range. -/
theorem scanS_ok : ∀ (l pre : List Sent), scanS pre l = 0 → ∀ x ∈ l, moment x.at_
  | [], _, _, x, hx => by cases hx
  | y :: l, pre, h, x, hx => by
    simp only [scanS] at h
    split at h
    · cases h
    split at h
    · cases h
    split at h
    · cases h
    split at h
    · cases h
    rename_i hm
    split at h
    · cases h
    rcases List.mem_cons.1 hx with rfl | hx
    · exact Decidable.of_not_not hm
    · exact scanS_ok l _ h x hx
theorem errG_one {g : Gain} (h : errG [g] = 0) : moment g.at_ := by
  unfold errG at h
  simp only [scanG] at h
  split at h
  · cases h
  split at h
  · cases h
  split at h
  · cases h
  split at h
  · cases h
  rename_i hm
  exact Decidable.of_not_not hm

/-! ### the letters before a gain -/
def before (g : Gain) (w : Int) (x : Sent) : Bool := decide (x.person = g.person) && (decide (x.at_ < g.at_) && decide (g.at_ - x.at_ ≤ w))
def hits (xs : List Sent) (g : Gain) (w : Int) (k : Nat) : List Nat := (List.range k).filter fun i => (xs[i]?).any (before g w)
theorem hits_step {xs : List Sent} {g : Gain} {w : Int} {k : Nat} {x : Sent} (hx : xs[k]? = some x) : hits xs g w (k + 1) = hits xs g w k ++ if before g w x = true then [k] else [] := by
  unfold hits
  rw [List.range_succ, List.filter_append]
  congr 1
  simp only [List.filter_cons, List.filter_nil, hx, Option.any_some]
theorem hits_length (xs : List Sent) (g : Gain) (w : Int) (k : Nat) : (hits xs g w k).length ≤ k := by
  unfold hits
  have := List.length_filter_le (fun i => (xs[i]?).any (before g w)) (List.range k)
  rwa [List.length_range] at this
/-- The last twelve. -/
def pathL (xs : List Sent) (g : Gain) (w : Int) : List Nat := (hits xs g w xs.length).drop ((hits xs g w xs.length).length - 12)
end Go.Proofs.YtadakbmoanbcgaaGreatDoorVc
