/- Contracts of what SharesMade reaches: weights of letters. -/
import Derived.Test.YtohdelegimcceaaVcMaSpec1
set_option linter.unusedSimpArgs false
set_option linter.unusedVariables false
namespace Go.Proofs.YtohdelegimcceaaVc
open Go.Proofs.Try (prog)

section
variable {I : Calls} {Q : Post} {h : Heap}

theorem specRange (hI : Closed' prog Pm I) {i : Nat} {l : Sl} {zs : List Int} {t : Nat} {a b : Int} (S : Strm h i l zs t) (h1 : a ≤ b) (h2 : -1000000000 < a) (h3 : b < 1000000000)
    (hQ : ∀ v, a ≤ v → v ≤ b → Q [int v] (h.set i (strm l (t + 1)))) : I 4 [.one (.ptr (some (i, 0))), int a, int b] Q h := by
  refine hI.go _ _ (den4 I _ a b Q) ?_
  refine ifT_dec (fun h => by omega) fun _ => ?_
  have ew : IntKind.i64.wrap (IntKind.i64.wrap (b - a) + 1) = b - a + 1 := by rw [w64 (n := b - a) (by omega) (by omega), w64 (by omega) (by omega)]
  rw [ew]
  refine spec17 hI S (by omega) (by omega) fun v h4 h5 => ⟨v, rfl, ?_⟩
  rw [w64 (by omega) (by omega)]
  exact hQ _ (by omega) (by omega)

/-- What is drawn for ages. -/
theorem specAges (hI : Closed' prog Pm I) {i : Nat} {l : Sl} {zs : List Int} {t : Nat} {n : Int} (S : Strm h i l zs t) (ht : t < 1000) (h1 : 1 ≤ n) (h2 : n ≤ 4321440)
    (hQ : ∀ s' h' xs t', Strm h' i l zs t' → t' ≤ t + 100 → At h' 1 s' (ints xs) → xs.length ≤ 13 → Q [.one (.slice 1 s')] h') : I 6 [.one (.ptr (some (i, 0))), int n] Q h := by
  refine hI.go _ _ (den6 I _ n Q) ?_
  refine spec17 hI S (by decide) (by decide) fun m hm0 hm1 => ⟨m, rfl, ?_⟩
  refine loopK_intro (fun (a : Sl × Int × Int) h' k => ∃ j : Nat, (j : Int) ≤ m ∧ a.2.2 = j ∧ 14 - j = k ∧ 1 ≤ a.2.1 ∧ a.2.1 ≤ n ∧ ∃ xs, xs.length = j ∧ Owns (h.del i) h' [(1, a.1, ints xs), owS i l (t + 1 + j)]) 14
    ⟨0, by omega, rfl, rfl, h1, Int.le_refl _, [], rfl, (S.owns.next (t' := t + 1)).none_ 1⟩ ?_
  rintro ⟨s, age, y⟩ h' k ⟨j, hj, rfl, rfl, ha1, ha2, xs, hxl, o⟩
  simp only at ha1 ha2
  dsimp only [uncur]
  have hsl := o.slen (s := s) List.mem_cons_self
  rw [ints_length] at hsl
  refine ifT_dec (fun hlt => ?_) (fun hge => ?_)
  · refine appendTo_owns (m := 0) o (by rfl) (by omega) (by simp) fun b h4 o4 => ?_
    have S4 := o4.toStrm S (t' := t + 1 + j) (by simp) (by omega)
    have e4 : (n.tdiv 4) = n / 4 := by rw [Int.tdiv_eq_ediv_of_nonneg (by omega)]
    have ew : IntKind.i64.wrap (IntKind.i64.wrap (n.tdiv 4) + 1) = n / 4 + 1 := by rw [e4, w64 (n := n / 4) (by omega) (by omega), w64 (by omega) (by omega)]
    rw [ew]
    refine spec17 hI S4 (by omega) (by omega) fun v h5 h6 => ⟨v, rfl, ?_⟩
    have o5 := ((o4.perm (List.Perm.swap _ _ _)).next (t' := t + 1 + j + 1)).perm (List.Perm.swap _ _ _)
    have ea : IntKind.i64.wrap (age - v) = age - v := w64 (by omega) (by omega)
    refine ⟨14 - (j + 1), by omega, j + 1, by omega, ?_, rfl, ?_, ?_, xs ++ [age], by simp [hxl], by rw [show t + 1 + (j + 1) = t + 1 + j + 1 from rfl]; simpa [ints] using o5⟩
    · show IntKind.i64.wrap ((j : Int) + 1) = _
      rw [w64] <;> omega
    · show 1 ≤ max 1 (IntKind.i64.wrap (age - v)); omega
    · show max 1 (IntKind.i64.wrap (age - v)) ≤ n; omega
  · have S2 := o.toStrm S (t' := t + 1 + j) (by simp) (by omega)
    refine joinK_intro (fun (b : Bool) h3 => Owns (h.del i) h3 [(1, s, ints xs), owS i l (t + 1 + j + 1)] ∧ (b = true → 0 < xs.length)) ?_ ?_
    · rintro b h3 ⟨o3, hb⟩
      have S3 := o3.toStrm S (t' := t + 1 + j + 1) (by simp) (by omega)
      refine ifT_intro (fun hbt => ?_) fun _ => hQ _ _ _ _ S3 (by omega) (o3.at_ List.mem_cons_self) (by omega)
      have hpos := hb hbt
      refine spec17 hI S3 (by omega) (by omega) fun e he0 he1 => ⟨e, rfl, newK_intro fun i9 h4 hn4 he4 => ?_⟩
      have o4 := ((o3.perm (List.Perm.swap _ _ _)).next (t' := t + 1 + j + 1 + 1)).perm (List.Perm.swap _ _ _)
      have o5 := o4.mono (he4 ▸ Ext.new hn4 : Ext _ h4)
      have S5 := o5.toStrm S (t' := t + 1 + j + 1 + 1) (by simp) (by omega)
      have hne : i9 ≠ i := fun e => by subst e; rw [o4.strmCell (l := l) (t := t + 1 + j + 1 + 1) (by simp)] at hn4; cases hn4
      have hlit : At (h4.set i (strm l (t + 1 + j + 1 + 1 + 1))) 1 ⟨some (i9, 0), 3⟩ (ints [0, IntKind.i64.wrap (n + 1), 1]) := by
        refine ⟨rfl, .inr ?_⟩
        show (h4.set i _).read i9 0 3 = _
        unfold Heap.read
        rw [set_ne _ _ hne, he4, set_eq]
        rfl
      refine spec5 hI S5 hlit (by simp) (by simp) fun v _ => ⟨v, rfl, ⟨he0, he1⟩, ?_⟩
      have o6 := ((o5.perm (List.Perm.swap _ _ _)).next (t' := t + 1 + j + 1 + 1 + 1)).perm (List.Perm.swap _ _ _)
      obtain ⟨bs, hbs, cb⟩ := o6.has (s := s) (cs := ints xs) (sz := 1) List.mem_cons_self (fun e => by have := congrArg List.length e; rw [ints_length] at this; have h2 : xs.length = 0 := this; omega)
      rw [hbs]
      obtain ⟨e', rfl⟩ := Int.eq_ofNat_of_zero_le he0
      have eo : 0 + (e' : Int).toNat * 1 = e' := by simp
      refine derefK_intro rfl ?_
      rw [eo]
      refine storeK_one cb (by rw [ints_length]; omega) ?_
      rw [ints_set]
      rw [hbs] at o6
      have o7 := o6.change (n' := s.len) (sz' := 1) (cs' := ints (xs.set e' v)) (by rw [ints_length]; simp; omega)
      exact hQ _ _ _ _ (o7.toStrm S (t' := t + 1 + j + 1 + 1 + 1) (by simp) (by omega)) (by omega) (o7.at_ List.mem_cons_self) (by simp; omega)
    · intro jk hjk
      refine spec18 hI S2 (by decide) (by decide) fun b => ⟨b, rfl, ?_⟩
      have o3 := ((o.perm (List.Perm.swap _ _ _)).next (t' := t + 1 + j + 1)).perm (List.Perm.swap _ _ _)
      refine ifT_intro (fun _ => hjk _ _ ⟨o3, fun h => ?_⟩) fun _ => hjk _ _ ⟨o3, fun h => by cases h⟩
      have := of_decide_eq_true h
      omega

/-! ### weights by ages -/
def wOf (how span : Int) (n i : Nat) (age : Int) : Int :=
  if (how = 1 ∧ 0 < i) ∨ (how = 2 ∧ i + 1 < n) then 0 else if how = 4 ∧ (i = 0 ∨ i + 1 = n) ∧ 2 < n then 2 else if how = 5 then (i : Int) + 1 else if how = 6 then 2 ^ (18 - (18 * age / span).toNat) else 1

theorem part {age span : Int} (h1 : 1 ≤ age) (h2 : age ≤ span) (h3 : span ≤ 4321440) : ∃ k : Nat, k ≤ 18 ∧ 18 * age / span = k ∧ IntKind.i64.wrap ((IntKind.i64.wrap (18 * age)).tdiv span) = k := by
  have e1 : IntKind.i64.wrap (18 * age) = 18 * age := w64 (by omega) (by omega)
  have h4 : 0 ≤ 18 * age / span := Int.ediv_nonneg (by omega) (by omega)
  have h5 : 18 * age / span ≤ 18 := by
    have : 18 * age / span < 19 := Int.ediv_lt_of_lt_mul (by omega) (by omega)
    omega
  refine ⟨(18 * age / span).toNat, by omega, by omega, ?_⟩
  rw [e1, Int.tdiv_eq_ediv_of_nonneg (by omega), w64 (by omega) (by omega)]
  omega
theorem pow18 : ∀ k : Nat, k ≤ 18 → shl .i64 1 (18 - (k : Int)) = 2 ^ (18 - k) := by decide
theorem halve : ∀ k : Nat, k < 18 → IntKind.i64.wrap (((2 : Int) ^ (18 - k)).tdiv 2) = 2 ^ (18 - (k + 1)) := by decide

theorem specWeight (hI : Closed' prog Pm I) {how span age : Int} {n i : Nat} (hi : i < n) (hn : n ≤ 100) (h1 : 1 ≤ age) (h2 : age ≤ span) (h3 : span ≤ 4321440) (hQ : Q [int (wOf how span n i age)] h) :
    I 33 [int how, int span, int age, int i, int n] Q h := by
  obtain ⟨k, hk, e1, e2⟩ := part h1 h2 h3
  have en : IntKind.i64.wrap ((n : Int) - 1) = n - 1 := w64 (by omega) (by omega)
  refine hI.go _ _ (den33 I how span age i n Q) ?_
  refine joinK_intro (fun (b : Bool) h' => h' = h ∧ (b = true ↔ (i = 0 ∨ i + 1 = n))) ?_ fun j hj => ifT_dec (fun h => hj _ _ ⟨rfl, by simp; omega⟩) fun h => hj _ _ ⟨rfl, by rw [en]; simp; omega⟩
  rintro b5 h' ⟨rfl, hb5⟩
  refine joinK_intro (fun (b : Bool) h'' => h'' = h' ∧ (b = true ↔ (how = 1 ∧ 0 < i))) ?_ fun j hj => ifT_dec (fun h => hj _ _ ⟨rfl, by simp; omega⟩) fun h => hj _ _ ⟨rfl, by simp; omega⟩
  rintro b6 h'' ⟨rfl, hb6⟩
  refine joinK_intro (fun (b : Bool) h3 => h3 = h'' ∧ (b = true ↔ ((how = 1 ∧ 0 < i) ∨ (how = 2 ∧ i + 1 < n)))) ?_ ?_
  · rintro b7 h3 ⟨rfl, hb7⟩
    refine ifT_intro (fun hb => ?_) fun hb => ?_
    · have e : wOf how span n i age = 0 := by unfold wOf; rw [if_pos (hb7.1 hb)]
      rw [e] at hQ; exact hQ
    have hno : ¬ ((how = 1 ∧ 0 < i) ∨ (how = 2 ∧ i + 1 < n)) := fun h => by rw [hb7.2 h] at hb; cases hb
    refine joinK_intro (fun (b : Bool) h4 => h4 = h3 ∧ (b = true ↔ (how = 4 ∧ (i = 0 ∨ i + 1 = n) ∧ 2 < n))) ?_ ?_
    · rintro b8 h4 ⟨rfl, hb8⟩
      refine ifT_intro (fun hb => ?_) fun hb => ?_
      · have e : wOf how span n i age = 2 := by unfold wOf; rw [if_neg hno, if_pos (hb8.1 hb)]
        rw [e] at hQ; exact hQ
      have hno2 : ¬ (how = 4 ∧ (i = 0 ∨ i + 1 = n) ∧ 2 < n) := fun h => by rw [hb8.2 h] at hb; cases hb
      refine ifT_dec (fun h5 => ?_) fun h5 => ifT_dec (fun h6 => ?_) fun h6 => ?_
      · have e : wOf how span n i age = (i : Int) + 1 := by unfold wOf; rw [if_neg hno, if_neg hno2, if_pos h5]
        rw [e] at hQ
        rw [w64 (by omega) (by omega)]
        exact hQ
      · have e : wOf how span n i age = 2 ^ (18 - k) := by unfold wOf; rw [if_neg hno, if_neg hno2, if_neg h5, if_pos h6, e1]; rfl
        rw [e] at hQ
        rw [e2, w64 (n := 18 - (k : Int)) (by omega) (by omega), pow18 k hk]
        exact ⟨by omega, by omega, hQ⟩
      · have e : wOf how span n i age = 1 := by unfold wOf; rw [if_neg hno, if_neg hno2, if_neg h5, if_neg h6]
        rw [e] at hQ; exact hQ
    · intro j hj
      refine ifT_dec (fun h4 => ifT_intro (fun h5 => hj _ _ ⟨rfl, ?_⟩) fun h5 => hj _ _ ⟨rfl, ?_⟩) fun h4 => hj _ _ ⟨rfl, ?_⟩
      · have := hb5.1 h5; simp; omega
      · have : ¬ (i = 0 ∨ i + 1 = n) := fun h => by rw [hb5.2 h] at h5; cases h5
        simp; omega
      · simp; omega
  · intro j hj
    refine ifT_intro (fun h4 => hj _ _ ⟨rfl, ?_⟩) fun h4 => ?_
    · have := hb6.1 h4; rw [h4]; simp; omega
    · have h5 : ¬ (how = 1 ∧ 0 < i) := fun h => by rw [hb6.2 h] at h4; cases h4
      refine joinK_intro (fun (b : Bool) h3 => h3 = h'' ∧ (b = true ↔ (how = 2 ∧ i + 1 < n))) ?_ fun j hj => ifT_dec (fun h => hj _ _ ⟨rfl, by rw [en]; simp; omega⟩) fun h => hj _ _ ⟨rfl, by simp; omega⟩
      rintro b h3 ⟨rfl, hb⟩
      exact hj _ _ ⟨rfl, by rw [hb]; omega⟩

theorem specWeightOf (hI : Closed' prog Pm I) {how span age : Int} {n i : Nat} (hi : i < n) (hn : n ≤ 100) (h1 : 1 ≤ age) (h2 : age ≤ span) (h3 : span ≤ 4321440) (hQ : Q [int (wOf how span n i age)] h) :
    I 22 [int how, int span, int i, int n, int age] Q h := by
  obtain ⟨k, hk, e1, e2⟩ := part h1 h2 h3
  have en : IntKind.i64.wrap ((n : Int) - 1) = n - 1 := w64 (by omega) (by omega)
  refine hI.go _ _ (den22 I how span i n age Q) ?_
  refine joinK_intro (fun (b : Bool) h3 => h3 = h ∧ (b = true ↔ ((how = 1 ∧ 0 < i) ∨ (how = 2 ∧ i + 1 < n)))) ?_ ?_
  · rintro b7 h3 ⟨rfl, hb7⟩
    refine ifT_intro (fun hb => ?_) fun hb => ?_
    · have e : wOf how span n i age = 0 := by unfold wOf; rw [if_pos (hb7.1 hb)]
      rw [e] at hQ; exact hQ
    have hno : ¬ ((how = 1 ∧ 0 < i) ∨ (how = 2 ∧ i + 1 < n)) := fun h => by rw [hb7.2 h] at hb; cases hb
    refine joinK_intro (fun (b : Bool) h4 => h4 = h3 ∧ (b = true ↔ (how = 4 ∧ (i = 0 ∨ i + 1 = n) ∧ 2 < n))) ?_ ?_
    · rintro b8 h4 ⟨rfl, hb8⟩
      refine ifT_intro (fun hb => ?_) fun hb => ?_
      · have e : wOf how span n i age = 2 := by unfold wOf; rw [if_neg hno, if_pos (hb8.1 hb)]
        rw [e] at hQ; exact hQ
      have hno2 : ¬ (how = 4 ∧ (i = 0 ∨ i + 1 = n) ∧ 2 < n) := fun h => by rw [hb8.2 h] at hb; cases hb
      refine ifT_dec (fun h5 => ?_) fun h5 => ifT_dec (fun h6 => ?_) fun h6 => ?_
      · have e : wOf how span n i age = (i : Int) + 1 := by unfold wOf; rw [if_neg hno, if_neg hno2, if_pos h5]
        rw [e] at hQ
        rw [w64 (by omega) (by omega)]
        exact hQ
      · have e : wOf how span n i age = 2 ^ (18 - k) := by unfold wOf; rw [if_neg hno, if_neg hno2, if_neg h5, if_pos h6, e1]; rfl
        rw [e] at hQ
        rw [e2]
        refine ⟨by omega, loopK_intro (fun (a : Int × Int) h' m => h' = h4 ∧ ∃ j : Nat, j ≤ k ∧ a = (2 ^ (18 - j), (j : Int)) ∧ k - j = m) k ⟨rfl, 0, by omega, rfl, rfl⟩ ?_⟩
        rintro a h' m ⟨rfl, j, hj, rfl, rfl⟩
        dsimp only [uncur]
        refine ifT_dec (fun hlt => ⟨k - (j + 1), by omega, rfl, j + 1, by omega, ?_, rfl⟩) fun hge => ?_
        · rw [halve j (by omega), w64 (by omega) (by omega)]; rfl
        · have : j = k := by omega
          subst this
          exact hQ
      · have e : wOf how span n i age = 1 := by unfold wOf; rw [if_neg hno, if_neg hno2, if_neg h5, if_neg h6]
        rw [e] at hQ; exact hQ
    · intro j hj
      refine ifT_dec (fun h4 => ifT_dec (fun h5 => ifT_dec (fun h6 => hj _ _ ⟨rfl, ?_⟩) fun h6 => hj _ _ ⟨rfl, ?_⟩) fun h5 => hj _ _ ⟨rfl, ?_⟩) fun h4 => hj _ _ ⟨rfl, ?_⟩
      · simp; omega
      · rw [en]; simp; omega
      · simp; omega
      · simp; omega
  · intro j hj
    refine ifT_dec (fun h4 => ifT_dec (fun h5 => hj _ _ ⟨rfl, ?_⟩) fun h5 => ifT_dec (fun h6 => hj _ _ ⟨rfl, ?_⟩) fun h6 => hj _ _ ⟨rfl, ?_⟩) fun h4 => ifT_dec (fun h6 => hj _ _ ⟨rfl, ?_⟩) fun h6 => hj _ _ ⟨rfl, ?_⟩
    · simp; omega
    · rw [en]; simp; omega
    · simp; omega
    · rw [en]; simp; omega
    · simp; omega

end
end Go.Proofs.YtohdelegimcceaaVc
