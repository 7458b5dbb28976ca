/- ActsCounted: cohorts, the pure law. -/
import Derived.Test.YtmjfeabnioclgaaGreatDoorVcAMap
set_option linter.unusedSimpArgs false
set_option linter.unusedVariables false
namespace Go.Proofs.YtmjfeabnioclgaaGreatDoorVc

/-- Who did something, and in which period. -/
abbrev Did := ByteArray × Int
instance decIn {α : Type} [DecidableEq α] (a : α) (l : List α) : Decidable (a ∈ l) := decidable_of_iff ((l.any fun y => decide (y = a)) = true) (by simp)

def minO : Option Int → Int → Option Int
  | none, p => some p
  | some m, p => if p < m then some p else some m
/-- The first period of somebody. -/
def minOf (A : List Did) (s : ByteArray) : Option Int := A.foldl (fun o q => if q.1 = s then minO o q.2 else o) none
theorem minOf_snoc (A : List Did) (q : Did) (s : ByteArray) : minOf (A ++ [q]) s = if q.1 = s then minO (minOf A s) q.2 else minOf A s := by
  unfold minOf; rw [List.foldl_append]; rfl
/-- What it says. -/
def IsMin (A : List Did) (s : ByteArray) : Option Int → Prop
  | none => ∀ p, (s, p) ∉ A
  | some m => (s, m) ∈ A ∧ ∀ p, (s, p) ∈ A → m ≤ p
theorem isMin_unique {A : List Did} {s : ByteArray} {o o' : Option Int} (h : IsMin A s o) (h' : IsMin A s o') : o = o' := by
  cases o with
  | none => cases o' with
    | none => rfl
    | some m => exact absurd h'.1 (h m)
  | some m => cases o' with
    | none => exact absurd h.1 (h' m)
    | some m' => rw [Int.le_antisymm (h.2 _ h'.1) (h'.2 _ h.1)]
theorem minOf_is (A : List Did) (s : ByteArray) : IsMin A s (minOf A s) := by
  obtain ⟨n, hn⟩ : ∃ n, A.length = n := ⟨_, rfl⟩
  induction n generalizing A with
  | zero => cases A with
    | nil => intro p h; cases h
    | cons _ _ => cases hn
  | succ n ih =>
    obtain ⟨B, q, rfl⟩ : ∃ B q, A = B ++ [q] := ⟨A.dropLast, A.getLast (by intro e; rw [e] at hn; cases hn), (List.dropLast_concat_getLast _).symm⟩
    have ihB := ih B (by simpa using hn)
    rw [minOf_snoc]
    by_cases hq : q.1 = s
    · rw [if_pos hq]
      have hqe : q = (s, q.2) := Prod.ext hq rfl
      cases hm : minOf B s with
      | none =>
        rw [hm] at ihB
        refine ⟨by rw [List.mem_append]; right; rw [← hqe]; simp, fun p hp => ?_⟩
        rcases List.mem_append.1 hp with hp | hp
        · exact absurd hp (ihB p)
        · rw [List.mem_singleton] at hp; rw [← hp]; exact Int.le_refl _
      | some m =>
        rw [hm] at ihB
        simp only [minO]
        by_cases hlt : q.2 < m
        · rw [if_pos hlt]
          refine ⟨by rw [List.mem_append]; right; rw [← hqe]; simp, fun p hp => ?_⟩
          rcases List.mem_append.1 hp with hp | hp
          · have := ihB.2 p hp; omega
          · rw [List.mem_singleton] at hp; rw [← hp]; exact Int.le_refl _
        · rw [if_neg hlt]
          refine ⟨List.mem_append_left _ ihB.1, fun p hp => ?_⟩
          rcases List.mem_append.1 hp with hp | hp
          · exact ihB.2 p hp
          · rw [List.mem_singleton] at hp
            have : q.2 = p := by rw [← hp]
            omega
    · rw [if_neg hq]
      have hne : ∀ p, (s, p) ∈ B ++ [q] ↔ (s, p) ∈ B := fun p => by
        rw [List.mem_append, List.mem_singleton]
        exact ⟨fun h => h.resolve_right fun e => hq (by rw [← e]), .inl⟩
      cases hm : minOf B s with
      | none => rw [hm] at ihB; exact fun p hp => ihB p ((hne p).1 hp)
      | some m => rw [hm] at ihB; exact ⟨(hne m).2 ihB.1, fun p hp => ihB.2 p ((hne p).1 hp)⟩

/-- The program's table of first periods. -/
def firsts (A : List Did) : List (ByteArray × Int) := A.foldl (fun F q => match aget F q.1 with
  | none => aset F q.1 q.2
  | some m => if q.2 < m then aset F q.1 q.2 else F) []
theorem firsts_snoc (A : List Did) (q : Did) : firsts (A ++ [q]) = match aget (firsts A) q.1 with
  | none => aset (firsts A) q.1 q.2
  | some m => if q.2 < m then aset (firsts A) q.1 q.2 else firsts A := by
  unfold firsts; rw [List.foldl_append]; rfl
theorem snoc_ind {α : Type} {P : List α → Prop} (h0 : P []) (h1 : ∀ l x, P l → P (l ++ [x])) : ∀ l, P l := by
  intro l
  obtain ⟨n, hn⟩ : ∃ n, l.length = n := ⟨_, rfl⟩
  induction n generalizing l with
  | zero => cases l with
    | nil => exact h0
    | cons _ _ => cases hn
  | succ n ih =>
    have hne : l ≠ [] := by intro e; rw [e] at hn; cases hn
    rw [← List.dropLast_concat_getLast hne]
    exact h1 _ _ (ih _ (by simp [hn]))
theorem firsts_get (A : List Did) : ∀ s, aget (firsts A) s = minOf A s := by
  refine snoc_ind (P := fun A => ∀ s, aget (firsts A) s = minOf A s) (fun s => rfl) (fun B q ih s => ?_) A
  rw [firsts_snoc, minOf_snoc, ih q.1]
  by_cases hq : q.1 = s
  · subst hq
    rw [if_pos rfl]
    cases hm : minOf B q.1 with
    | none => simp only [aget_aset, minO]; rfl
    | some m =>
      simp only [minO]
      by_cases hlt : q.2 < m
      · rw [if_pos hlt, if_pos hlt, aget_aset, if_pos rfl]
      · rw [if_neg hlt, if_neg hlt, ih, hm]
  · rw [if_neg hq]
    cases hm : minOf B q.1 with
    | none => simp only [aget_aset]; rw [if_neg (fun e => hq e.symm), ih]
    | some m =>
      simp only
      by_cases hlt : q.2 < m
      · rw [if_pos hlt, aget_aset, if_neg (fun e => hq e.symm), ih]
      · rw [if_neg hlt, ih]
theorem firsts_nodup (A : List Did) : ((firsts A).map (·.1)).Nodup := by
  refine snoc_ind (P := fun A => ((firsts A).map (·.1)).Nodup) List.nodup_nil (fun B q ih => ?_) A
  rw [firsts_snoc]
  cases aget (firsts B) q.1 with
  | none => exact aset_nodup ih _ _
  | some m =>
    simp only
    by_cases hlt : q.2 < m
    · rw [if_pos hlt]; exact aset_nodup ih _ _
    · rw [if_neg hlt]; exact ih
/-- Who did something. -/
def whoOf (A : List Did) : List ByteArray := (firsts A).map (·.1)
theorem mem_whoOf {A : List Did} {s : ByteArray} : s ∈ whoOf A ↔ ∃ p, (s, p) ∈ A := by
  have h := minOf_is A s
  constructor
  · intro hs
    obtain ⟨m, hm⟩ := aget_some hs
    rw [firsts_get] at hm
    rw [hm] at h
    exact ⟨m, h.1⟩
  · rintro ⟨p, hp⟩
    refine Decidable.of_not_not fun hn => ?_
    have := aget_none.2 hn
    rw [firsts_get] at this
    rw [this] at h
    exact h p hp

/-- How many came in period i, and did something j periods later. -/
def cohort (A : List Did) (i j : Nat) : Nat := (whoOf A).countP fun s => decide (minOf A s = some (i : Int)) && decide ((s, (i : Int) + (j : Int)) ∈ A)

/-- Counted over whatever list of the same people. -/
theorem cohort_keys {A : List Did} {K : List ByteArray} (hn : K.Nodup) (hk : ∀ s, s ∈ K ↔ ∃ p, (s, p) ∈ A) (i j : Nat) :
    K.countP (fun s => decide (minOf A s = some (i : Int)) && decide ((s, (i : Int) + (j : Int)) ∈ A)) = cohort A i j :=
  ((List.perm_ext_iff_of_nodup hn (firsts_nodup A)).2 fun s => (hk s).trans mem_whoOf.symm).countP_eq _

/-- Counted over different pairs. -/
theorem cohort_pairs {A E : List Did} (hn : E.Nodup) {many : Nat} (he : ∀ s p, (s, p) ∈ E ↔ (s, p) ∈ A ∧ ∃ m, minOf A s = some m ∧ m < many ∧ p - m < many) (i j : Nat) (hi : i < many) (hj : j < many) :
    E.countP (fun q => decide (minOf A q.1 = some (i : Int)) && decide (q.2 = (i : Int) + (j : Int))) = cohort A i j := by
  unfold cohort
  rw [List.countP_eq_length_filter, List.countP_eq_length_filter]
  have hinj : ∀ a ∈ E.filter (fun q => decide (minOf A q.1 = some (i : Int)) && decide (q.2 = (i : Int) + (j : Int))), ∀ b ∈ E.filter (fun q => decide (minOf A q.1 = some (i : Int)) && decide (q.2 = (i : Int) + (j : Int))), a.1 = b.1 → a = b := by
    intro a ha b hb hab
    simp only [List.mem_filter, Bool.and_eq_true, decide_eq_true_eq] at ha hb
    exact Prod.ext hab (ha.2.2.trans hb.2.2.symm)
  rw [← List.length_map (f := fun q : Did => q.1)]
  refine List.Perm.length_eq ((List.perm_ext_iff_of_nodup ?_ ((firsts_nodup A).filter _)).2 fun s => ?_)
  · have hnf := hn.filter (fun q => decide (minOf A q.1 = some (i : Int)) && decide (q.2 = (i : Int) + (j : Int)))
    generalize E.filter (fun q => decide (minOf A q.1 = some (i : Int)) && decide (q.2 = (i : Int) + (j : Int))) = L at hinj hnf
    induction L with
    | nil => simp
    | cons q L ih =>
      have hnf := List.nodup_cons.1 hnf
      rw [List.map_cons, List.nodup_cons]
      refine ⟨fun h => ?_, ih (fun a ha b hb => hinj a (List.mem_cons_of_mem _ ha) b (List.mem_cons_of_mem _ hb)) hnf.2⟩
      obtain ⟨r, hr, e⟩ := List.mem_map.1 h
      have := hinj r (List.mem_cons_of_mem _ hr) q (List.mem_cons_self ..) e
      exact hnf.1 (this ▸ hr)
  · rw [List.mem_filter, List.mem_map]
    simp only [List.mem_filter, Bool.and_eq_true, decide_eq_true_eq]
    constructor
    · rintro ⟨⟨s', p⟩, ⟨hE, hm, hp⟩, rfl⟩
      simp only at hm hp
      obtain ⟨hA, _⟩ := (he _ _).1 hE
      exact ⟨mem_whoOf.2 ⟨_, hA⟩, hm, hp ▸ hA⟩
    · rintro ⟨_, hm, hA⟩
      refine ⟨(s, (i : Int) + (j : Int)), ⟨(he _ _).2 ⟨hA, i, hm, by omega, by omega⟩, hm, rfl⟩, rfl⟩
end Go.Proofs.YtmjfeabnioclgaaGreatDoorVc
