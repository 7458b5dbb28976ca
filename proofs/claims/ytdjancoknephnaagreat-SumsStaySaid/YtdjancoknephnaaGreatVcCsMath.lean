/- Shares of cents: what is left goes to the greatest rests, of equal ones to the first. -/
set_option linter.unusedSimpArgs false
set_option linter.unusedVariables false
namespace Go.Proofs.YtdjancoknephnaaGreatShares

def at_ (l : List Nat) (i : Nat) : Nat := l.getD i 0
/-- a comes before b -/
def beats (rs : List Nat) (a b : Nat) : Bool := decide (at_ rs b < at_ rs a) || (decide (at_ rs a = at_ rs b) && decide (a < b))
theorem beats_iff {rs : List Nat} {a b : Nat} : beats rs a b = true ↔ at_ rs b < at_ rs a ∨ (at_ rs a = at_ rs b ∧ a < b) := by
  simp [beats]
theorem beats_trans {rs : List Nat} {a b c : Nat} (h1 : beats rs a b = true) (h2 : beats rs b c = true) : beats rs a c = true := by
  rw [beats_iff] at *; omega
theorem beats_irrefl (rs : List Nat) (a : Nat) : beats rs a a = false := by
  simp [beats]
theorem beats_asymm {rs : List Nat} {a b : Nat} (h1 : beats rs a b = true) : beats rs b a = false := by
  cases h : beats rs b a with
  | false => rfl
  | true => rw [beats_iff] at *; omega
theorem beats_total {rs : List Nat} {a b : Nat} (h : a ≠ b) : beats rs a b = true ∨ beats rs b a = true := by
  rw [beats_iff, beats_iff]; omega

def rank (rs : List Nat) (i : Nat) : Nat := (List.range rs.length).countP fun j => beats rs j i

theorem sorted_rank {rs ys : List Nat} (hp : ys.Perm (List.range rs.length)) (hs : ys.Pairwise (fun a b => beats rs a b = true)) {p i : Nat} (hi : ys[p]? = some i) : rank rs i = p := by
  obtain ⟨hlt, he⟩ := List.getElem?_eq_some_iff.1 hi
  have h1 : rank rs i = ys.countP (fun j => beats rs j i) := (hp.countP_eq _).symm
  have h2 : ys = ys.take p ++ i :: ys.drop (p + 1) := by
    rw [← he, List.getElem_cons_drop, List.take_append_drop]
  have h3 := hs
  rw [h2, List.pairwise_append, List.pairwise_cons] at h3
  obtain ⟨_, ⟨h4, _⟩, h5⟩ := h3
  rw [h1, h2, List.countP_append, List.countP_cons]
  have e1 : (ys.take p).countP (fun j => beats rs j i) = p := by
    rw [List.countP_eq_length.2 fun a ha => h5 a ha i (by simp), List.length_take]
    omega
  have e2 : (ys.drop (p + 1)).countP (fun j => beats rs j i) = 0 := by
    rw [List.countP_eq_zero]
    intro a ha
    rw [beats_asymm (h4 a ha)]
    simp
  have e3 : beats rs i i = false := beats_irrefl rs i
  rw [e1, e2, e3]
  simp

theorem exists_sorted (rs : List Nat) : ∃ ys : List Nat, ys.Perm (List.range rs.length) ∧ ys.Pairwise (fun a b => beats rs a b = true) := by
  have hnd : ∀ l : List Nat, l.Nodup → ∃ ys : List Nat, ys.Perm l ∧ ys.Pairwise (fun a b => beats rs a b = true) := by
    intro l
    induction l with
    | nil => exact fun _ => ⟨[], List.Perm.refl _, List.Pairwise.nil⟩
    | cons x l ih =>
      intro hn
      obtain ⟨hx, hl⟩ := List.nodup_cons.1 hn
      obtain ⟨ys, h1, h2⟩ := ih hl
      refine ⟨ys.filter (fun a => beats rs a x) ++ x :: ys.filter (fun a => !beats rs a x), ?_, ?_⟩
      · have h3 : (ys.filter (fun a => beats rs a x) ++ ys.filter (fun a => !beats rs a x)).Perm ys := List.filter_append_perm _ _
        exact List.perm_middle.trans ((h3.trans h1).cons x)
      · rw [List.pairwise_append, List.pairwise_cons]
        refine ⟨h2.filter _, ⟨fun a ha => ?_, h2.filter _⟩, fun a ha b hb => ?_⟩
        · obtain ⟨h4, h5⟩ := List.mem_filter.1 ha
          have hne : a ≠ x := fun e => hx (h1.mem_iff.1 (e ▸ h4))
          rcases beats_total (rs := rs) hne with h6 | h6
          · rw [h6] at h5; simp at h5
          · exact h6
        · obtain ⟨h4, h5⟩ := List.mem_filter.1 ha
          rcases List.mem_cons.1 hb with rfl | hb
          · exact h5
          · obtain ⟨h6, h7⟩ := List.mem_filter.1 hb
            have hne : b ≠ x := fun e => hx (h1.mem_iff.1 (e ▸ h6))
            rcases beats_total (rs := rs) hne with h8 | h8
            · rw [h8] at h7; simp at h7
            · exact beats_trans h5 h8
  exact hnd _ List.nodup_range

theorem rank_lt {rs : List Nat} {a b : Nat} (ha : a < rs.length) (hb : b < rs.length) (h : beats rs a b = true) : rank rs a < rank rs b := by
  obtain ⟨ys, h1, h2⟩ := exists_sorted rs
  obtain ⟨p, hp, hpa⟩ := List.getElem_of_mem (h1.mem_iff.2 (List.mem_range.2 ha))
  obtain ⟨q, hq, hqb⟩ := List.getElem_of_mem (h1.mem_iff.2 (List.mem_range.2 hb))
  have r1 := sorted_rank h1 h2 (show ys[p]? = some a by rw [List.getElem?_eq_getElem hp, hpa])
  have r2 := sorted_rank h1 h2 (show ys[q]? = some b by rw [List.getElem?_eq_getElem hq, hqb])
  rw [r1, r2]
  rcases Nat.lt_trichotomy p q with h3 | h3 | h3
  · exact h3
  · subst h3
    rw [hpa] at hqb
    subst hqb
    rw [beats_irrefl] at h; cases h
  · have := List.pairwise_iff_getElem.1 h2 q p hq hp h3
    rw [hqb, hpa, beats_asymm h] at this
    cases this
theorem rank_inj {rs : List Nat} {a b : Nat} (ha : a < rs.length) (hb : b < rs.length) (h : rank rs a = rank rs b) : a = b := by
  rcases Nat.decEq a b with hne | he
  · rcases beats_total (rs := rs) hne with h1 | h1
    · have := rank_lt ha hb h1; omega
    · have := rank_lt hb ha h1; omega
  · exact he
theorem rank_surj {rs : List Nat} {k : Nat} (hk : k < rs.length) : ∃ e, e < rs.length ∧ rank rs e = k := by
  obtain ⟨ys, h1, h2⟩ := exists_sorted rs
  have hlen : ys.length = rs.length := by rw [h1.length_eq, List.length_range]
  refine ⟨ys[k]'(by omega), List.mem_range.1 (h1.mem_iff.1 (List.getElem_mem _)), sorted_rank h1 h2 (List.getElem?_eq_getElem _)⟩

/-- Who has not got anything yet, and is beaten by no one of those, is the next. -/
theorem best_rank {rs : List Nat} {k b : Nat} (hk : k < rs.length) (hb : b < rs.length) (h1 : k ≤ rank rs b) (h2 : ∀ j, j < rs.length → k ≤ rank rs j → beats rs j b = false) : rank rs b = k := by
  obtain ⟨e, he, hr⟩ := rank_surj hk
  rcases Nat.decEq b e with hne | heq
  · rcases beats_total (rs := rs) hne with h3 | h3
    · have := rank_lt hb he h3; omega
    · rw [h2 e he (by omega)] at h3; cases h3
  · subst heq; exact hr

/-- What has been dealt when k of those that are left are given away. -/
def dealtK (qs rs : List Nat) (k : Nat) : List Nat := (List.range qs.length).map fun i => at_ qs i + if rank rs i < k then 1 else 0
theorem dealtK_length (qs rs : List Nat) (k : Nat) : (dealtK qs rs k).length = qs.length := by simp [dealtK]
theorem dealtK_get {qs rs : List Nat} {k i : Nat} (hi : i < qs.length) : (dealtK qs rs k)[i]? = some (at_ qs i + if rank rs i < k then 1 else 0) := by
  unfold dealtK
  rw [List.getElem?_map, List.getElem?_range hi]; rfl
theorem dealtK_zero (qs rs : List Nat) : dealtK qs rs 0 = qs := by
  apply List.ext_getElem?
  intro i
  rcases Nat.lt_or_ge i qs.length with hi | hi
  · rw [dealtK_get hi, List.getElem?_eq_getElem hi]
    simp [at_, hi]
  · rw [List.getElem?_eq_none (by rw [dealtK_length]; exact hi), List.getElem?_eq_none hi]
theorem dealtK_step {qs rs : List Nat} {k i : Nat} (hl : qs.length = rs.length) (hi : i < qs.length) (hr : rank rs i = k) : (dealtK qs rs k).set i (at_ qs i + 1) = dealtK qs rs (k + 1) := by
  apply List.ext_getElem?
  intro j
  rw [List.getElem?_set]
  rcases Nat.lt_or_ge j qs.length with hj | hj
  · split
    · rename_i h
      subst h
      rw [if_pos (by rw [dealtK_length]; exact hi), dealtK_get hi]
      simp [hr]
    · rename_i h
      rw [dealtK_get hj, dealtK_get hj]
      have : rank rs j ≠ k := fun e => h (rank_inj (rs := rs) (by omega) (by omega) (by rw [hr, e]))
      congr 2
      by_cases h1 : rank rs j < k
      · rw [if_pos h1, if_pos (by omega)]
      · rw [if_neg h1, if_neg (by omega)]
  · rw [if_neg (by omega), List.getElem?_eq_none (by rw [dealtK_length]; exact hj), List.getElem?_eq_none (by rw [dealtK_length]; exact hj)]

/-! ### quotients and rests -/
def qs (c all : Nat) (ws : List Nat) : List Nat := ws.map fun w => c * w / all
def rs (c all : Nat) (ws : List Nat) : List Nat := ws.map fun w => c * w % all
theorem sums (c all : Nat) : ∀ ws : List Nat, all * (qs c all ws).sum + (rs c all ws).sum = c * ws.sum
  | [] => by simp [qs, rs]
  | w :: ws => by
    have h1 := sums c all ws
    have h2 := Nat.div_add_mod (c * w) all
    simp only [qs, rs, List.map_cons, List.sum_cons, Nat.mul_add] at h1 ⊢
    omega
theorem rests_lt {c all : Nat} (h : 0 < all) : ∀ ws : List Nat, (rs c all ws).sum + ws.length ≤ all * ws.length
  | [] => by simp [rs]
  | w :: ws => by
    have h1 := rests_lt (c := c) h ws
    have h2 := Nat.mod_lt (c * w) h
    simp only [rs, List.map_cons, List.sum_cons, List.length_cons, Nat.mul_add] at h1 ⊢
    omega
/-- What is left: less than there are weights. -/
theorem left_ok {c : Nat} {ws : List Nat} (h : 0 < ws.sum) : (qs c ws.sum ws).sum ≤ c ∧ c - (qs c ws.sum ws).sum < ws.length := by
  have h1 := sums c ws.sum ws
  have h2 := rests_lt (c := c) h ws
  have hpos : 0 < ws.length := by
    cases ws with
    | nil => simp at h
    | cons w ws => simp
  generalize (qs c ws.sum ws).sum = s at *
  generalize (rs c ws.sum ws).sum = r at *
  generalize ws.length = n at *
  generalize ws.sum = all at *
  have h3 : s ≤ c := by
    rcases Nat.lt_or_ge c s with h4 | h4
    · have : all * (c + 1) ≤ all * s := Nat.mul_le_mul_left _ h4
      rw [Nat.mul_add, Nat.mul_comm c] at *
      omega
    · exact h4
  refine ⟨h3, ?_⟩
  rcases Nat.lt_or_ge (c - s) n with h4 | h4
  · exact h4
  · exfalso
    have h5 : all * n ≤ all * (c - s) := Nat.mul_le_mul_left _ h4
    rw [Nat.mul_sub, Nat.mul_comm all c] at h5
    omega

def shared (c : Nat) (ws : List Nat) : List Nat := dealtK (qs c ws.sum ws) (rs c ws.sum ws) (c - (qs c ws.sum ws).sum)

end Go.Proofs.YtdjancoknephnaaGreatShares
