/- Codes: what signs, sums, digits and inverses come to, in plain numbers. -/
set_option linter.unusedSimpArgs false
set_option linter.unusedVariables false
namespace Go.Proofs.YtdjancoknephnaaGreatCodes

/-! ### digits of base 31 -/
def digs : Nat → Nat → List Nat
  | 0, _ => []
  | c + 1, v => digs c (v / 31) ++ [v % 31]
def undigs (l : List Nat) : Nat := l.foldl (fun a d => a * 31 + d) 0

theorem digs_length : ∀ c v, (digs c v).length = c
  | 0, _ => rfl
  | c + 1, v => by simp [digs, digs_length c]
theorem digs_lt : ∀ c v, ∀ d ∈ digs c v, d < 31
  | 0, _, d, h => by simp [digs] at h
  | c + 1, v, d, h => by
    simp only [digs, List.mem_append, List.mem_singleton] at h
    rcases h with h | h
    · exact digs_lt c _ d h
    · omega
theorem digs_cons : ∀ j v, digs (j + 1) v = (v / 31 ^ j % 31) :: digs j v
  | 0, v => by simp [digs]
  | j + 1, v => by
    rw [digs, digs_cons j (v / 31)]
    simp only [digs, List.cons_append]
    rw [Nat.div_div_eq_div_mul, Nat.pow_succ, Nat.mul_comm 31 (31 ^ j)]
theorem undigs_snoc (l : List Nat) (d : Nat) : undigs (l ++ [d]) = undigs l * 31 + d := by simp [undigs]
theorem undigs_digs : ∀ c v, undigs (digs c v) = v % 31 ^ c
  | 0, v => by simp [digs, undigs, Nat.mod_one]
  | c + 1, v => by
    rw [digs, undigs_snoc, undigs_digs c, Nat.pow_succ, Nat.mul_comm (31 ^ c) 31, Nat.mod_mul]
    omega

theorem fold_lt : ∀ (l : List Nat) (a : Nat), (∀ d ∈ l, d < 31) → l.foldl (fun a d => a * 31 + d) a < (a + 1) * 31 ^ l.length
  | [], a, _ => by simp
  | d :: l, a, h => by
    have h1 := fold_lt l (a * 31 + d) fun e he => h e (by simp [he])
    have h2 := h d (by simp)
    have h3 : (a * 31 + d + 1) * 31 ^ l.length ≤ ((a + 1) * 31) * 31 ^ l.length := Nat.mul_le_mul_right _ (by omega)
    rw [List.foldl_cons, List.length_cons, Nat.pow_succ, Nat.mul_comm (31 ^ l.length) 31, ← Nat.mul_assoc]
    omega
theorem undigs_lt (l : List Nat) (h : ∀ d ∈ l, d < 31) : undigs l < 31 ^ l.length := by
  have := fold_lt l 0 h
  simpa [undigs] using this
theorem back {w k all : Nat} (hw : w < all) (hk : k < all) : (w + k) % all = w + k ∧ w + k < all ∨ (w + k) % all + all = w + k := by
  rcases Nat.lt_or_ge (w + k) all with h | h
  · exact .inl ⟨Nat.mod_eq_of_lt h, h⟩
  · right
    rw [Nat.mod_eq_sub_mod h, Nat.mod_eq_of_lt (by omega)]
    omega

/-! ### sums -/
def wsum (ds : List Nat) : Nat := (ds.zipIdx 1).foldl (fun a p => a + p.2 * p.1) 0
theorem wsum_snoc (l : List Nat) (d : Nat) : wsum (l ++ [d]) = wsum l + (l.length + 1) * d := by
  simp [wsum, List.zipIdx_append, Nat.add_comm 1]
theorem wsum_take (ds : List Nat) (i d : Nat) (h : ds[i]? = some d) : wsum (ds.take (i + 1)) = wsum (ds.take i) + (i + 1) * d := by
  have hlt : i < ds.length := by
    rcases Nat.lt_or_ge i ds.length with h' | h'
    · exact h'
    · rw [List.getElem?_eq_none h'] at h; cases h
  rw [List.take_add_one, h]
  show wsum (ds.take i ++ [d]) = _
  rw [wsum_snoc, List.length_take, Nat.min_eq_left (by omega)]
theorem wsum_le (ds : List Nat) (h : ∀ d ∈ ds, d < 31) : ∀ i, i ≤ ds.length → wsum (ds.take i) ≤ i * i * 31
  | 0, _ => by simp [wsum]
  | i + 1, hi => by
    have hd : ds[i]? = some ds[i] := List.getElem?_eq_getElem (by omega)
    rw [wsum_take ds i _ hd]
    have h1 := wsum_le ds h i (by omega)
    have h2 := h ds[i] (List.getElem_mem _)
    have h3 : (i + 1) * ds[i] ≤ (i + 1) * 30 := Nat.mul_le_mul_left _ (by omega)
    have h4 : (i + 1) * (i + 1) * 31 = i * i * 31 + 2 * i * 31 + 31 := by
      rw [Nat.add_mul, Nat.mul_add]; omega
    omega

theorem seal_exists : ∀ n, n < 25 → ∀ r, r < 31 → ∃ x, x < 31 ∧ (r + (n + 1) * x) % 31 = 0 := by decide
theorem seal_unique : ∀ x, x < 31 → (14 + 4 * x) % 31 = 0 → x = 12 := by decide

/-! ### the inverse -/
structure St where
  a : Int
  b : Int
  x : Int
  y : Int
def step (s : St) : St := ⟨s.b - s.b.tdiv s.a * s.a, s.a, s.y - s.b.tdiv s.a * s.x, s.x⟩
def iter : Nat → St → St
  | 0, s => s
  | n + 1, s => step (iter n s)

def start (m : Int) : St := ⟨(7919 : Int).tmod m, m, 1, 0⟩
/-- The run of a modulus: N rounds, all in small numbers; what it comes to is an inverse. -/
def runs (m : Int) (N : Nat) : Bool :=
  (List.range N).all (fun j => decide ((iter j (start m)).a ≠ 0)) && decide ((iter N (start m)).a = 0) &&
  (List.range (N + 1)).all (fun j => let s := iter j (start m); decide (s.a.natAbs < 2 ^ 60) && decide (s.b.natAbs < 2 ^ 60) && decide (s.x.natAbs < 2 ^ 60) && decide (s.y.natAbs < 2 ^ 60) &&
    decide ((s.b.tdiv s.a * s.a).natAbs < 2 ^ 60) && decide ((s.b.tdiv s.a * s.x).natAbs < 2 ^ 60) && decide ((s.b.tdiv s.a).natAbs < 2 ^ 60))


def rounds (m : Nat) : Nat := if m = 29791 then 8 else if m = 923521 then 11 else 10
def invOf (m : Nat) : Nat := (((iter (rounds m) (start m)).y.tmod m + m).tmod m).toNat
def Mods (m : Nat) : Prop := m = 29791 ∨ m = 923521 ∨ m = 25408476896404831

theorem runs_ok {m : Nat} (h : Mods m) : runs m (rounds m) = true := by
  rcases h with rfl | rfl | rfl <;> decide +kernel
theorem inv_ok {m : Nat} (h : Mods m) : 7919 * invOf m % m = 1 ∧ invOf m < m ∧ ((iter (rounds m) (start m)).y.tmod m + m).tmod m = invOf m ∧ (iter (rounds m) (start m)).y.tmod m + m < 9223372036854775808 ∧ -9223372036854775808 ≤ (iter (rounds m) (start m)).y.tmod m + m := by
  rcases h with rfl | rfl | rfl <;> decide +kernel
theorem undo {x m : Nat} (h : Mods m) : x * 7919 % m * invOf m % m = x % m := by
  have h1 := (inv_ok h).1
  rw [Nat.mod_mul_mod, Nat.mul_assoc, Nat.mul_mod, h1, Nat.mul_one, Nat.mod_mod]

end Go.Proofs.YtdjancoknephnaaGreatCodes
