/- Maps of any keys and values, as lists of entries. -/
import Derived.Test.YteldpijfienopaaGreatDoorVcRules
set_option linter.unusedSimpArgs false
set_option linter.unusedVariables false
namespace Go.Proofs.YteldpijfienopaaGreatDoorVc

section
variable {κ α : Type} [DecidableEq κ]

/-- What lies under a key. -/
def aget : List (κ × α) → κ → Option α
  | [], _ => none
  | q :: l, k => if k = q.1 then some q.2 else aget l k
/-- An entry is laid. -/
def aset : List (κ × α) → κ → α → List (κ × α)
  | [], k, x => [(k, x)]
  | q :: l, k, x => if k = q.1 then (k, x) :: l else q :: aset l k x

theorem aget_aset (l : List (κ × α)) (k : κ) (x : α) (k' : κ) : aget (aset l k x) k' = if k' = k then some x else aget l k' := by
  induction l with
  | nil => simp [aget, aset]
  | cons q l ih =>
    simp only [aset]
    by_cases h : k = q.1
    · rw [if_pos h]
      simp only [aget]
      by_cases h2 : k' = k
      · rw [if_pos h2, if_pos h2]
      · rw [if_neg h2, if_neg h2, if_neg (fun e => h2 (e.trans h.symm))]
    · rw [if_neg h]
      simp only [aget, ih]
      by_cases h2 : k' = q.1
      · rw [if_pos h2, if_pos h2, if_neg (fun e : k' = k => h (e.symm.trans h2))]
      · rw [if_neg h2, if_neg h2]
theorem aget_mem {l : List (κ × α)} {k : κ} {x : α} (h : aget l k = some x) : (k, x) ∈ l := by
  induction l with
  | nil => cases h
  | cons q l ih =>
    simp only [aget] at h
    by_cases h2 : k = q.1
    · rw [if_pos h2] at h; cases h; rw [h2]; exact List.mem_cons_self ..
    · rw [if_neg h2] at h; exact List.mem_cons_of_mem _ (ih h)
theorem aget_none {l : List (κ × α)} {k : κ} : aget l k = none ↔ k ∉ l.map (·.1) := by
  induction l with
  | nil => simp [aget]
  | cons q l ih =>
    simp only [aget, List.map_cons, List.mem_cons, not_or]
    by_cases h2 : k = q.1
    · rw [if_pos h2]; simp [h2]
    · rw [if_neg h2, ih]; simp [h2]
theorem aget_some {l : List (κ × α)} {k : κ} (h : k ∈ l.map (·.1)) : ∃ x, aget l k = some x := by
  cases hx : aget l k with
  | none => exact absurd h (aget_none.1 hx)
  | some x => exact ⟨x, rfl⟩
theorem aget_of_mem {l : List (κ × α)} (hn : (l.map (·.1)).Nodup) {k : κ} {x : α} (h : (k, x) ∈ l) : aget l k = some x := by
  induction l with
  | nil => cases h
  | cons q l ih =>
    simp only [List.map_cons, List.nodup_cons] at hn
    simp only [aget]
    rcases List.mem_cons.1 h with rfl | h
    · rw [if_pos rfl]
    · rw [if_neg (fun e => hn.1 (List.mem_map.2 ⟨_, h, e⟩)), ih hn.2 h]
theorem aset_keys (l : List (κ × α)) (k : κ) (x : α) : (aset l k x).map (·.1) = if k ∈ l.map (·.1) then l.map (·.1) else l.map (·.1) ++ [k] := by
  induction l with
  | nil => simp [aset]
  | cons q l ih =>
    simp only [aset]
    by_cases h : k = q.1
    · rw [if_pos h]; simp [h]
    · rw [if_neg h]
      simp only [List.map_cons, ih, List.mem_cons, h, false_or]
      by_cases h2 : k ∈ l.map (·.1)
      · rw [if_pos h2, if_pos h2]
      · rw [if_neg h2, if_neg h2]; rfl
theorem aset_nodup {l : List (κ × α)} (hn : (l.map (·.1)).Nodup) (k : κ) (x : α) : ((aset l k x).map (·.1)).Nodup := by
  rw [aset_keys]
  by_cases h : k ∈ l.map (·.1)
  · rw [if_pos h]; exact hn
  · rw [if_neg h]
    refine List.nodup_append.2 ⟨hn, by simp, ?_⟩
    intro a ha b hb
    simp only [List.mem_singleton] at hb
    subst hb
    exact fun e => h (e ▸ ha)
theorem aset_length (l : List (κ × α)) (k : κ) (x : α) : (aset l k x).length ≤ l.length + 1 := by
  have := congrArg List.length (aset_keys l k x)
  simp only [List.length_map] at this
  by_cases h : k ∈ l.map (·.1)
  · rw [if_pos h] at this; simp at this; omega
  · rw [if_neg h] at this; simp at this; omega

/-- The entries as the heap has them. -/
def amap (K : κ → V) (f : α → V) (l : List (κ × α)) : List (V × V) := l.map fun q => (K q.1, f q.2)
def KeyOk (K : κ → V) : Prop := ∀ a b, keyEq (K a) (K b) = some (decide (a = b))
def agetV (z : V) (f : α → V) : Option α → V × Bool
  | some x => (f x, true)
  | none => (z, false)
theorem amap_get {K : κ → V} (hK : KeyOk K) (f : α → V) (z : V) (k : κ) : ∀ l : List (κ × α), mapGet (K k) z (amap K f l) = some (agetV z f (aget l k))
  | [] => rfl
  | q :: l => by
    show mapGet (K k) z ((K q.1, f q.2) :: amap K f l) = _
    have hk := hK k q.1
    simp only [mapGet, hk, aget]
    by_cases h : k = q.1
    · rw [decide_eq_true h, if_pos h]; rfl
    · rw [decide_eq_false h, if_neg h]; exact amap_get hK f z k l
theorem amap_set {K : κ → V} (hK : KeyOk K) (f : α → V) (k : κ) (x : α) : ∀ l : List (κ × α), mapSet (K k) (f x) (amap K f l) = some (amap K f (aset l k x))
  | [] => rfl
  | q :: l => by
    show mapSet (K k) (f x) ((K q.1, f q.2) :: amap K f l) = _
    have hk := hK k q.1
    simp only [mapSet, hk, aset]
    by_cases h : k = q.1
    · rw [decide_eq_true h, if_pos h]; rfl
    · rw [decide_eq_false h, if_neg h, amap_set hK f k x l]; rfl
end

theorem keyStr : KeyOk (fun s : ByteArray => V.one (.str s)) := fun a b => rfl
theorem keyInt : KeyOk (fun n : Int => V.one (.int .i64 n)) := fun a b => rfl
theorem keyStrInt : KeyOk (fun q : ByteArray × Int => V.agg [.str q.1, .int .i64 q.2]) := fun a b => by
  show andO (some (decide (a.1 = b.1))) (andO (some (decide (a.2 = b.2))) (some true)) = _
  simp only [andO, Bool.and_true, Option.some.injEq]
  rw [← Bool.decide_and]
  exact decide_eq_decide.2 ⟨fun h => Prod.ext h.1 h.2, fun h => by rw [h]; exact ⟨rfl, rfl⟩⟩
end Go.Proofs.YteldpijfienopaaGreatDoorVc
