/- TestsTurn: exact tests do not depend on which arm or side comes first, lie above 0 and up to 1, and are 1 of equal arms; for every input. -/
import Derived.Test.YtihnjdhjkpmggaaPTestsTurnx5
namespace Go.Proofs.Ytihnjdhjkpmggaa.Pure
open Go.RowKit Go.Proofs.Ytihnjdhjkpmggaa.PTestsTurn Go.Proofs.YtihnjdhjkpmggaaW.PrintWords Go.Proofs.YtihnjdhjkpmggaaW.PrintLast Go.Proofs.YtihnjdhjkpmggaaW.PrintMore
set_option linter.unusedVariables false
set_option linter.unusedSimpArgs false

/-! ### numbers, rounds -/
theorem w64 {n : Int} (h0 : -9223372036854775808 ≤ n) (h1 : n ≤ 9223372036854775807) : wrap64 n = n := by unfold wrap64; omega
theorem u64w {n : Int} (h0 : 0 ≤ n) (h1 : n ≤ 18446744073709551615) : IntKind.u64.wrap n = n := IntWalk.u64_in n ⟨h0, h1⟩
theorem Ev.mono_of {α : Type} {g : Nat → Option α} {r : α} (h : Ev g r) : ∃ k, g k = some r := h.rounds
theorem Ev.ifp {α : Type} {c : Prop} [Decidable c] {f g : Nat → Option α} {r : α} (hc : c) (h : Ev f r) : Ev (fun k => if c then f k else g k) r := Ev.congr (fun k => if_pos hc) h
theorem Ev.ifn {α : Type} {c : Prop} [Decidable c] {f g : Nat → Option α} {r : α} (hc : ¬ c) (h : Ev g r) : Ev (fun k => if c then f k else g k) r := Ev.congr (fun k => if_neg hc) h
theorem Ev.bind0 {α β : Type} {x : Option α} {a : α} {f : Nat → α → Option β} {r : β} (h : x = some a) (k : Ev (fun n => f n a) r) : Ev (fun n => x.bind (f n)) r := Ev.congr (fun n => by rw [h]; rfl) k
theorem Ev.some {α : Type} {a b : α} (h : a = b) : Ev (fun _ => Option.some a) b := by subst h; exact Ev.now a
/-- A function of rounds whose first round is consumed at the head. -/
theorem Ev.det {α : Type} {g : Nat → Option α} {r s : α} (h : Ev g r) (k : Ev g s) : r = s := by
  obtain ⟨K, h⟩ := h
  obtain ⟨L, k⟩ := k
  have h1 := h (max K L) (by omega)
  rw [k (max K L) (by omega)] at h1
  exact (Option.some.inj h1).symm
theorem tmod_pos {a b : Int} (hb : 0 < b) : -b < Int.tmod a b ∧ Int.tmod a b < b := by
  constructor
  · exact Int.lt_tmod_of_pos a hb
  · exact Int.tmod_lt_of_pos a hb
theorem Ev.round {α : Type} {g : Nat → Option α} {r : α} (h : Ev (fun k => g (k + 1)) r) : Ev g r := Ev.step (fun _ => rfl) h

/-! ### the stream of raw numbers -/
theorem below_ok (x n : Int) (hn : 1 ≤ n) (hn2 : n ≤ 4611686018427387904) : ∃ v, handmake_Below.f x n = some v ∧ 0 ≤ v ∧ v < n := by
  obtain ⟨h1, h2⟩ := tmod_pos (a := x) (b := n) (by omega)
  unfold handmake_Below.f
  rw [if_neg (by omega), if_neg (by omega)]
  by_cases c : Int.tmod x n < 0
  · rw [if_pos c]
    exact ⟨_, rfl, by rw [w64 (by omega) (by omega)]; omega, by rw [w64 (by omega) (by omega)]; omega⟩
  · rw [if_neg c]
    exact ⟨_, rfl, by omega, by omega⟩
theorem next_ok (l : List Int) (i n : Int) (h0 : 0 ≤ i) (h1 : i ≤ 4611686018427387904) (hn : 1 ≤ n) (hn2 : n ≤ 4611686018427387904) :
    ∃ v, handmake_Stream_Next.f l i n = some (v, i + 1) ∧ 0 ≤ v ∧ v < n := by
  unfold handmake_Stream_Next.f
  rw [w64 (n := i + 1) (by omega) (by omega)]
  by_cases c : (l.length : Int) = 0
  · rw [if_pos c]
    obtain ⟨v, hv, a, b⟩ := below_ok (wrap64 ((i + 1) * 7919)) n hn hn2
    exact ⟨v, by rw [hv]; rfl, a, b⟩
  · rw [if_neg c, show i + 1 - 1 = i by omega, w64 (n := i) (by omega) (by omega)]
    have hl : 0 < (l.length : Int) := by omega
    have e : Int.tmod i l.length = i % l.length := Int.tmod_eq_emod_of_nonneg h0
    have g0 : 0 ≤ Int.tmod i l.length := by rw [e]; exact Int.emod_nonneg _ (by omega)
    rw [if_pos g0, if_pos (tmod_pos hl).2]
    obtain ⟨u, hu, _, _⟩ := below_ok (rd l (Int.tmod i l.length)) 1073741824 (by omega) (by omega)
    rw [hu]
    obtain ⟨v, hv, a, b⟩ := below_ok (wrap64 (u + wrap64 (wrap64 (Int.tdiv i l.length) * wrap64 (7919 + Int.tmod i l.length)))) n hn hn2
    refine ⟨v, ?_, a, b⟩
    show (handmake_Below.f _ n).bind _ = _
    rw [hv]
    rfl

/-! ### greatest common divisors, fractions in lowest terms -/
theorem tmod_nat (a b : Nat) : Int.tmod (a : Int) (b : Int) = ((a % b : Nat) : Int) := by
  rw [Int.tmod_eq_emod_of_nonneg (by omega)]
  rfl
theorem ev_gcd {l : Nat → Int → Int → Option Int} (h : ∀ k x y, l (k + 1) x y = if y = 0 then some x else l k y (Int.tmod x y)) :
    ∀ (b a : Nat), Ev (fun k => l k (a : Int) (b : Int)) ((Nat.gcd a b : Nat) : Int) := by
  intro b
  induction b using Nat.strongRecOn with
  | _ b ih =>
    intro a
    refine Ev.step (fun k => h k _ _) ?_
    by_cases c : b = 0
    · subst c
      exact Ev.ifp rfl (Ev.some (by rw [Nat.gcd_zero_right]))
    · refine Ev.ifn (by omega) ?_
      rw [tmod_nat, show Nat.gcd a b = Nat.gcd b (a % b) by rw [Nat.gcd_comm, Nat.gcd_rec, Nat.gcd_comm]]
      exact ih (a % b) (Nat.mod_lt _ (by omega)) b
/-- A fraction in lowest terms. -/
def red (n d : Int) : Int × Int := (Int.tdiv (if d < 0 then -n else n) (Int.gcd n d), Int.tdiv (if d < 0 then -d else d) (Int.gcd n d))
theorem tdiv_le {a g : Int} (h0 : -4611686018427387904 ≤ a) (h1 : a ≤ 4611686018427387904) : -4611686018427387904 ≤ Int.tdiv a g ∧ Int.tdiv a g ≤ 4611686018427387904 := by
  have := Int.natAbs_tdiv_le_natAbs a g
  omega
theorem gcd_big {n d : Int} (h0 : -4611686018427387904 ≤ d) (h1 : d ≤ 4611686018427387904) (hd : d ≠ 0) : 0 < Int.gcd n d ∧ Int.gcd n d ≤ 4611686018427387904 := by
  have hp : 0 < d.natAbs := by omega
  have hl := Nat.gcd_le_right n.natAbs hp
  have hq := Nat.gcd_pos_of_pos_right n.natAbs hp
  have e : Int.gcd n d = Nat.gcd n.natAbs d.natAbs := rfl
  omega

theorem size_ok {n : Int} (h0 : -4611686018427387904 ≤ n) (h1 : n ≤ 4611686018427387904) : measure_size.f n = some ((n.natAbs : Nat) : Int) := by
  unfold measure_size.f
  by_cases c : n < 0
  · rw [if_pos c, IntKind.wrap_u64, IntKind.wrap_u64]
    congr 1
    omega
  · rw [if_neg c, IntKind.wrap_u64]
    congr 1
    omega
theorem ev_divisor (a b : Nat) : Ev (fun k => measure_divisor.f k (a : Int) (b : Int)) ((Nat.gcd a b : Nat) : Int) := ev_gcd (l := measure_divisor.l0) (fun _ _ _ => rfl) b a
theorem ev_reduce {n d : Int} (hn0 : -4611686018427387904 ≤ n) (hn1 : n ≤ 4611686018427387904) (hd0 : -4611686018427387904 ≤ d) (hd1 : d ≤ 4611686018427387904) (hd : d ≠ 0) :
    Ev (fun k => measure_reduce.f k n d) (red n d) := by
  obtain ⟨g0, g1⟩ := gcd_big (n := n) hd0 hd1 hd
  have key : ∀ n' d' : Int, n'.natAbs = n.natAbs → d'.natAbs = d.natAbs → -4611686018427387904 ≤ n' → n' ≤ 4611686018427387904 → -4611686018427387904 ≤ d' → d' ≤ 4611686018427387904 →
      Ev (fun k => (measure_size.f n').bind fun t => (measure_size.f d').bind fun u => (measure_divisor.f k t u).bind fun v => (if wrap64 v = 0 then none else some (wrap64 (Int.tdiv n' (wrap64 v)), wrap64 (Int.tdiv d' (wrap64 v))))) (Int.tdiv n' (Int.gcd n d), Int.tdiv d' (Int.gcd n d)) := by
    intro n' d' en ed a b c e
    refine Ev.bind0 (size_ok a b) (Ev.bind0 (size_ok c e) (Ev.bind (ev_divisor _ _) ?_))
    rw [en, ed, show Nat.gcd n.natAbs d.natAbs = Int.gcd n d from rfl, w64 (n := ((Int.gcd n d : Nat) : Int)) (by omega) (by omega)]
    refine Ev.ifn (by omega) (Ev.some ?_)
    have h1 := tdiv_le (g := (Int.gcd n d : Int)) a b
    have h2 := tdiv_le (g := (Int.gcd n d : Int)) c e
    rw [w64 (by omega) (by omega), w64 (by omega) (by omega)]
  unfold measure_reduce.f
  by_cases c : d < 0
  · refine Ev.ifp c ?_
    rw [w64 (n := -n) (by omega) (by omega), w64 (n := -d) (by omega) (by omega)]
    have := key (-n) (-d) (by omega) (by omega) (by omega) (by omega) (by omega) (by omega)
    unfold red
    rw [if_pos c, if_pos c]
    exact this
  · refine Ev.ifn c ?_
    have := key n d rfl rfl hn0 hn1 hd0 hd1
    unfold red
    rw [if_neg c, if_neg c]
    exact this

theorem within_ok (a b c : Int) : measure_within.f a b c = some (decide (b ≤ a ∧ a ≤ c)) := by
  unfold measure_within.f
  by_cases h : b ≤ a
  · rw [if_pos h]; simp [h]
  · rw [if_neg h]; simp [h]
/-- What Reduce returns. -/
def RedOf (a b : Int) : Int × Int × Int := if (-4611686018427387904 ≤ a ∧ a ≤ 4611686018427387904) ∧ (-4611686018427387904 ≤ b ∧ b ≤ 4611686018427387904) then (if b = 0 then (0, 0, 8) else ((red a b).1, (red a b).2, 0)) else (0, 0, 1)
theorem ev_Reduce (a b : Int) : Ev (fun k => measure_Reduce.f k a b) (RedOf a b) := by
  unfold measure_Reduce.f RedOf
  refine Ev.bind0 (within_ok _ _ _) ?_
  by_cases ca : (-4611686018427387904 ≤ a ∧ a ≤ 4611686018427387904)
  · rw [decide_eq_true ca]
    refine Ev.ifp rfl (Ev.bind0 (within_ok _ _ _) (Ev.round ?_))
    simp only [measure_Reduce.j0]
    by_cases cb : (-4611686018427387904 ≤ b ∧ b ≤ 4611686018427387904)
    · rw [decide_eq_true cb, if_pos ⟨ca, cb⟩]
      refine Ev.ifn (by simp) ?_
      by_cases c0 : b = 0
      · rw [if_pos c0]; exact Ev.ifp c0 (Ev.some rfl)
      · rw [if_neg c0]
        exact Ev.ifn c0 (Ev.bind (ev_reduce ca.1 ca.2 cb.1 cb.2 c0) (Ev.some rfl))
    · rw [decide_eq_false cb, if_neg (fun h => cb h.2)]
      exact Ev.ifp (by simp) (Ev.some rfl)
  · rw [decide_eq_false ca, if_neg (fun h => ca h.1)]
    refine Ev.ifn (by decide) (Ev.round ?_)
    simp only [measure_Reduce.j0]
    exact Ev.ifp (by simp) (Ev.some rfl)
theorem RedOf_24 : RedOf 2 4 = (1, 2, 0) := by decide

/-! ### binomials and sums -/
def bin : Nat → Nat → Nat
  | _, 0 => 1
  | 0, _ + 1 => 0
  | n + 1, k + 1 => bin n k + bin n (k + 1)
theorem bin_zero (n : Nat) : bin n 0 = 1 := by cases n <;> rfl
theorem bin_succ (n k : Nat) : bin (n + 1) (k + 1) = bin n k + bin n (k + 1) := rfl
theorem bin_gt : ∀ (n k : Nat), n < k → bin n k = 0
  | 0, k + 1, _ => rfl
  | n + 1, k + 1, h => by rw [bin_succ, bin_gt n k (by omega), bin_gt n (k + 1) (by omega)]
theorem bin_self : ∀ n : Nat, bin n n = 1
  | 0 => rfl
  | n + 1 => by rw [bin_succ, bin_self n, bin_gt n (n + 1) (by omega)]
theorem bin_pos : ∀ (n k : Nat), k ≤ n → 0 < bin n k
  | n, 0, _ => by rw [bin_zero]; omega
  | n + 1, k + 1, h => by rw [bin_succ]; have := bin_pos n k (by omega); omega
theorem bin_mul : ∀ (n k : Nat), (k + 1) * bin n (k + 1) = bin n k * (n - k)
  | 0, 0 => rfl
  | 0, k + 1 => by rw [bin_gt 0 (k + 1 + 1) (by omega)]; simp
  | n + 1, 0 => by
    have := bin_mul n 0
    rw [bin_zero] at this
    rw [bin_succ, bin_zero, bin_zero]
    omega
  | n + 1, k + 1 => by
    have h1 := bin_mul n k
    have h2 := bin_mul n (k + 1)
    have e1 : (k + 1 + 1) * (bin n (k + 1) + bin n (k + 1 + 1)) = (k + 1) * bin n (k + 1) + bin n (k + 1) + (k + 1 + 1) * bin n (k + 1 + 1) := by
      rw [Nat.mul_add, Nat.add_mul (k + 1) 1, Nat.one_mul]
    have e2 : (bin n k + bin n (k + 1)) * (n - k) = bin n k * (n - k) + bin n (k + 1) * (n - k) := Nat.add_mul _ _ _
    rw [bin_succ n (k + 1), bin_succ n k, show n + 1 - (k + 1) = n - k by omega, e1, e2, ← h1, h2]
    rcases Nat.lt_or_ge n (k + 1) with h | h
    · rw [bin_gt n (k + 1) h]
      simp
    · rw [show n - k = n - (k + 1) + 1 by omega, Nat.mul_add (bin n (k + 1)), Nat.mul_one]
      omega
theorem bin_symm : ∀ (n k : Nat), k ≤ n → bin n (n - k) = bin n k
  | n, 0, _ => by rw [Nat.sub_zero, bin_self, bin_zero]
  | n + 1, k + 1, h => by
    rw [show n + 1 - (k + 1) = n - k by omega]
    rcases Nat.lt_or_ge k n with c | c
    · obtain ⟨m, hm⟩ : ∃ m, n - k = m + 1 := ⟨n - k - 1, by omega⟩
      have h1 := bin_symm n k (by omega)
      have h2 := bin_symm n (k + 1) (by omega)
      rw [show n - (k + 1) = m by omega] at h2
      rw [hm] at h1 ⊢
      rw [bin_succ, bin_succ, h1, h2]
      omega
    · have : k = n := by omega
      subst this
      rw [Nat.sub_self, bin_zero, bin_self]
def sumTo (f : Nat → Nat) : Nat → Nat
  | 0 => 0
  | m + 1 => sumTo f m + f m
theorem sumTo_congr {f g : Nat → Nat} : ∀ {m : Nat}, (∀ i, i < m → f i = g i) → sumTo f m = sumTo g m
  | 0, _ => rfl
  | m + 1, h => by rw [sumTo, sumTo, sumTo_congr (m := m) (fun i hi => h i (by omega)), h m (by omega)]
theorem sumTo_le {f g : Nat → Nat} : ∀ {m : Nat}, (∀ i, i < m → f i ≤ g i) → sumTo f m ≤ sumTo g m
  | 0, _ => Nat.le_refl _
  | m + 1, h => by rw [sumTo, sumTo]; exact Nat.add_le_add (sumTo_le (m := m) (fun i hi => h i (by omega))) (h m (by omega))
theorem sumTo_mul (f : Nat → Nat) (c : Nat) : ∀ m : Nat, sumTo (fun i => f i * c) m = sumTo f m * c
  | 0 => by simp [sumTo]
  | m + 1 => by rw [sumTo, sumTo, sumTo_mul f c m, Nat.add_mul]
theorem sumTo_term {f : Nat → Nat} {i : Nat} : ∀ {m : Nat}, i < m → f i ≤ sumTo f m
  | m + 1, h => by
    rw [sumTo]
    rcases Nat.lt_or_ge i m with c | c
    · have := sumTo_term (f := f) c; omega
    · have : i = m := by omega
      subst this; omega
theorem sumTo_front (f : Nat → Nat) : ∀ m : Nat, sumTo f (m + 1) = f 0 + sumTo (fun i => f (i + 1)) m
  | 0 => by simp [sumTo]
  | m + 1 => by rw [sumTo, sumTo_front f m, sumTo]; omega
theorem sumTo_rev (f : Nat → Nat) : ∀ m : Nat, sumTo (fun i => f (m - i)) (m + 1) = sumTo f (m + 1)
  | 0 => by simp [sumTo]
  | m + 1 => by
    rw [sumTo_front, sumTo_congr (g := fun i => f (m - i)) (fun i _ => by show f _ = f _; congr 1; omega), sumTo_rev f m]
    show f (m + 1 - 0) + sumTo f (m + 1) = sumTo f (m + 1) + f (m + 1)
    simp only [Nat.sub_zero]
    omega
theorem sumTo_zeros {f : Nat → Nat} {m : Nat} : ∀ {n : Nat}, m ≤ n → (∀ i, m ≤ i → f i = 0) → sumTo f n = sumTo f m
  | 0, h, _ => by have : m = 0 := by omega
                  subst this; rfl
  | n + 1, h, hz => by
    rcases Nat.lt_or_ge n m with c | c
    · have : m = n + 1 := by omega
      subst this; rfl
    · rw [sumTo, sumTo_zeros c hz, hz n c]; omega
theorem sumTo_two {f : Nat → Nat} {m n : Nat} (h1 : ∀ i, m ≤ i → f i = 0) (h2 : ∀ i, n ≤ i → f i = 0) : sumTo f m = sumTo f n := by
  rcases Nat.le_total m n with h | h
  · exact (sumTo_zeros h h1).symm
  · exact sumTo_zeros h h2
theorem bin_sum : ∀ (n m : Nat), sumTo (bin n) m ≤ 2 ^ n
  | 0, 0 => by simp [sumTo]
  | 0, m + 1 => by
    rw [sumTo_front, sumTo_congr (f := fun i => bin 0 (i + 1)) (g := fun _ => 0) (fun i _ => rfl)]
    have : ∀ m, sumTo (fun _ => 0) m = 0 := fun m => by induction m with
      | zero => rfl
      | succ m ih => rw [sumTo, ih]
    rw [this]; simp [bin_zero]
  | n + 1, 0 => by simp [sumTo]
  | n + 1, m + 1 => by
    have h1 := bin_sum n m
    have h2 := bin_sum n (m + 1)
    have e : ∀ m, sumTo (fun i => bin (n + 1) (i + 1)) m = sumTo (bin n) m + sumTo (fun i => bin n (i + 1)) m := fun m => by
      induction m with
      | zero => rfl
      | succ m ih => rw [sumTo, sumTo, sumTo, ih, bin_succ]; omega
    have h3 := sumTo_front (bin n) m
    rw [bin_zero] at h3
    rw [sumTo_front, e, bin_zero, Nat.pow_succ]
    omega
theorem bin_le (n k : Nat) : bin n k ≤ 2 ^ n := Nat.le_trans (sumTo_term (f := bin n) (Nat.lt_succ_self k)) (bin_sum n (k + 1))
theorem pow60 {n : Nat} (h : n ≤ 60) : 2 ^ n ≤ 1152921504606846976 := by
  have := Nat.pow_le_pow_right (n := 2) (by omega) h
  omega
/-- The step of the code: a binomial out of the one before it, every division exact. -/
theorem bin_next {n i : Nat} (hi : i < n) : bin n i / Nat.gcd (bin n i) (i + 1) * ((n - i) / ((i + 1) / Nat.gcd (bin n i) (i + 1))) = bin n (i + 1) := by
  have hm := bin_mul n i
  have hg : 0 < Nat.gcd (bin n i) (i + 1) := Nat.gcd_pos_of_pos_right _ (by omega)
  have hc := Nat.coprime_div_gcd_div_gcd hg
  obtain ⟨o, ho⟩ := Nat.gcd_dvd_left (bin n i) (i + 1)
  obtain ⟨j, hj⟩ := Nat.gcd_dvd_right (bin n i) (i + 1)
  generalize hG : Nat.gcd (bin n i) (i + 1) = g at *
  have e1 : bin n i / g = o := by rw [ho]; exact Nat.mul_div_cancel_left _ hg
  have e2 : (i + 1) / g = j := by rw [hj]; exact Nat.mul_div_cancel_left _ hg
  rw [e1, e2] at hc ⊢
  have hj0 : 0 < j := by
    rcases Nat.eq_zero_or_pos j with h | h
    · subst h; omega
    · exact h
  have k : j * bin n (i + 1) = o * (n - i) := by
    have hm' : g * j * bin n (i + 1) = g * o * (n - i) := by rw [← hj, ← ho]; exact hm
    rw [Nat.mul_assoc, Nat.mul_assoc] at hm'
    exact Nat.eq_of_mul_eq_mul_left hg hm'
  have hd : j ∣ n - i := hc.symm.dvd_of_dvd_mul_left ⟨_, k.symm⟩
  obtain ⟨q, hq⟩ := hd
  rw [hq, Nat.mul_div_cancel_left _ hj0]
  rw [hq, Nat.mul_left_comm] at k
  exact (Nat.eq_of_mul_eq_mul_left hj0 k).symm
theorem tdiv_nat (a b : Nat) : Int.tdiv (a : Int) (b : Int) = ((a / b : Nat) : Int) := by
  rw [Int.tdiv_eq_ediv_of_nonneg (by omega)]
  rfl

def binI (n : Nat) (k : Int) : Nat := if k < 0 then 0 else bin n k.toNat
theorem ev_choose_loop (n : Nat) (hn : n ≤ 60) (m : Nat) (hm : m ≤ n) : ∀ (d i : Nat), m - i = d → i ≤ m → Ev (fun k => measure_choose.l0 k (n : Int) (bin n i : Int) (m : Int) (i : Int)) (bin n m : Int) := by
  intro d
  induction d with
  | zero =>
    intro i hd hi
    have : i = m := by omega
    subst this
    refine Ev.round ?_
    simp only [measure_choose.l0]
    exact Ev.ifn (by omega) (Ev.some rfl)
  | succ d ih =>
    intro i hd hi
    have b1 := bin_le n i
    have b2 := pow60 hn
    have hg : 0 < Nat.gcd (bin n i) (i + 1) := Nat.gcd_pos_of_pos_right _ (by omega)
    have hg2 := Nat.gcd_le_right (bin n i) (show 0 < i + 1 by omega)
    refine Ev.round ?_
    simp only [measure_choose.l0]
    refine Ev.ifp (by omega) ?_
    rw [w64 (n := (i : Int) + 1) (by omega) (by omega), u64w (n := ((bin n i : Nat) : Int)) (by omega) (by omega), u64w (n := (i : Int) + 1) (by omega) (by omega)]
    refine Ev.bind (ev_divisor (bin n i) (i + 1)) ?_
    rw [w64 (n := ((Nat.gcd (bin n i) (i + 1) : Nat) : Int)) (by omega) (by omega)]
    have q1 : (i + 1) / Nat.gcd (bin n i) (i + 1) ≤ i + 1 := Nat.div_le_self _ _
    have q0 : 0 < (i + 1) / Nat.gcd (bin n i) (i + 1) := Nat.div_pos hg2 hg
    refine Ev.ifn (by omega) ?_
    rw [show (i : Int) + 1 = ((i + 1 : Nat) : Int) by omega, tdiv_nat, tdiv_nat, w64 (n := (((i + 1) / Nat.gcd (bin n i) (i + 1) : Nat) : Int)) (by omega) (by omega)]
    refine Ev.ifn (by omega) ?_
    have q3 : bin n i / Nat.gcd (bin n i) (i + 1) ≤ bin n i := Nat.div_le_self _ _
    have q4 : (n - i) / ((i + 1) / Nat.gcd (bin n i) (i + 1)) ≤ n - i := Nat.div_le_self _ _
    have q5 : (0 : Int) ≤ ((bin n i / Nat.gcd (bin n i) (i + 1) : Nat) : Int) ∧ ((bin n i / Nat.gcd (bin n i) (i + 1) : Nat) : Int) ≤ 1152921504606846976 := ⟨Int.natCast_nonneg _, Int.ofNat_le.mpr (Nat.le_trans q3 (Nat.le_trans b1 b2))⟩
    have q6 : (0 : Int) ≤ (((n - i) / ((i + 1) / Nat.gcd (bin n i) (i + 1)) : Nat) : Int) ∧ (((n - i) / ((i + 1) / Nat.gcd (bin n i) (i + 1)) : Nat) : Int) ≤ 60 := ⟨Int.natCast_nonneg _, by exact_mod_cast Nat.le_trans q4 (show n - i ≤ 60 by omega)⟩
    have e := bin_next (n := n) (i := i) (by omega)
    have b3 := bin_le n (i + 1)
    rw [w64 (n := (n : Int) - (i : Int)) (by omega) (by omega), show (n : Int) - (i : Int) = ((n - i : Nat) : Int) by omega, tdiv_nat, w64 (n := ((bin n i / Nat.gcd (bin n i) (i + 1) : Nat) : Int)) (Int.le_trans (by decide) q5.1) (Int.le_trans q5.2 (by decide)), w64 (n := (((n - i) / ((i + 1) / Nat.gcd (bin n i) (i + 1)) : Nat) : Int)) (Int.le_trans (by decide) q6.1) (Int.le_trans q6.2 (by decide)), ← Int.natCast_mul, e, w64 (n := ((bin n (i + 1) : Nat) : Int)) (by omega) (by omega)]
    exact ih (i + 1) (by omega) (by omega)
theorem ev_choose (n : Nat) (hn : n ≤ 60) (k : Int) (h0 : -1000 ≤ k) (h1 : k ≤ 1000) : Ev (fun K => measure_choose.f K (n : Int) k) (binI n k : Int) := by
  unfold measure_choose.f binI
  by_cases c : k < 0
  · rw [if_pos c]
    refine Ev.ifp c (Ev.round ?_)
    simp only [measure_choose.j0]
    exact Ev.ifp (by simp) (Ev.some rfl)
  · rw [if_neg c]
    refine Ev.ifn c (Ev.round ?_)
    simp only [measure_choose.j0]
    by_cases d : k > n
    · rw [bin_gt n k.toNat (by omega)]
      exact Ev.ifp (by simp [d]) (Ev.some rfl)
    · refine Ev.ifn (by simp; omega) ?_
      have e : mn k (wrap64 ((n : Int) - k)) = ((min k.toNat (n - k.toNat) : Nat) : Int) := by
        rw [w64 (by omega) (by omega)]; unfold mn; omega
      rw [e]
      have := ev_choose_loop n hn (min k.toNat (n - k.toNat)) (by omega) (min k.toNat (n - k.toNat)) 0 (by omega) (by omega)
      rw [bin_zero] at this
      have f : bin n (min k.toNat (n - k.toNat)) = bin n k.toNat := by
        rcases Nat.le_total k.toNat (n - k.toNat) with g | g
        · rw [Nat.min_eq_left g]
        · rw [Nat.min_eq_right g, bin_symm n k.toNat (by omega)]
      rw [f] at this
      exact this

/-! ### exact tests -/
/-- In how many ways x of a + c fall to the first arm. -/
def ways (a b c d x : Nat) : Nat := bin (a + b) x * (if x ≤ a + c then bin (c + d) (a + c - x) else 0)
def few (a b c d : Nat) : Nat := sumTo (fun x => if ways a b c d x ≤ ways a b c d a then ways a b c d x else 0) (a + c + 1)
def allW (a b c d : Nat) : Nat := sumTo (ways a b c d) (a + c + 1)
theorem ways_le (a b c d x : Nat) : ways a b c d x ≤ bin (a + b) x * 2 ^ (c + d) := by
  unfold ways
  refine Nat.mul_le_mul_left _ ?_
  split
  · exact bin_le _ _
  · exact Nat.zero_le _
theorem ways_sum (a b c d m : Nat) : sumTo (ways a b c d) m ≤ 2 ^ (a + b + (c + d)) := by
  refine Nat.le_trans (sumTo_le (g := fun i => bin (a + b) i * 2 ^ (c + d)) (fun i _ => ways_le a b c d i)) ?_
  rw [sumTo_mul, Nat.pow_add 2 (a + b)]
  exact Nat.mul_le_mul_right _ (bin_sum _ _)
theorem few_part_le (a b c d m : Nat) : sumTo (fun x => if ways a b c d x ≤ ways a b c d a then ways a b c d x else 0) m ≤ sumTo (ways a b c d) m := sumTo_le (fun i _ => by
  show (if _ then _ else _) ≤ _
  split
  · exact Nat.le_refl _
  · exact Nat.zero_le _)
theorem few_le (a b c d : Nat) : few a b c d ≤ allW a b c d := few_part_le a b c d _
theorem ways_own (a b c d : Nat) : 0 < ways a b c d a := by
  unfold ways
  rw [if_pos (by omega)]
  exact Nat.mul_pos (bin_pos _ _ (by omega)) (bin_pos _ _ (by omega))
theorem few_pos (a b c d : Nat) : 0 < few a b c d := by
  have h := sumTo_term (f := fun x => if ways a b c d x ≤ ways a b c d a then ways a b c d x else 0) (i := a) (m := a + c + 1) (by omega)
  simp only [Nat.le_refl, if_true] at h
  exact Nat.lt_of_lt_of_le (ways_own a b c d) h
theorem ev_ways {a b c d : Nat} (hs : a + b + c + d ≤ 60) {x : Nat} (hx : x ≤ a + c) :
    Ev (fun k => measure_Exact_1.f k (x : Int) (a : Int) (b : Int) (c : Int) (d : Int)) (ways a b c d x : Int) := by
  unfold measure_Exact_1.f
  rw [w64 (n := (a : Int) + b) (by omega) (by omega), w64 (n := (c : Int) + d) (by omega) (by omega), w64 (n := (a : Int) + c) (by omega) (by omega), w64 (n := (a : Int) + c - x) (by omega) (by omega)]
  rw [show (a : Int) + b = ((a + b : Nat) : Int) by omega, show (c : Int) + d = ((c + d : Nat) : Int) by omega]
  refine Ev.bind (ev_choose (a + b) (by omega) x (by omega) (by omega)) (Ev.bind (ev_choose (c + d) (by omega) _ (by omega) (by omega)) (Ev.some ?_))
  have e : binI (a + b) x * binI (c + d) ((a : Int) + c - x) = ways a b c d x := by
    unfold binI ways
    rw [if_neg (by omega), if_neg (by omega), if_pos hx]
    congr 2
    omega
  have l := Nat.le_trans (sumTo_term (f := ways a b c d) (Nat.lt_succ_self x)) (ways_sum a b c d (x + 1))
  have p := pow60 (n := a + b + (c + d)) (by omega)
  rw [← Int.natCast_mul, e, w64 (by omega) (by omega)]
theorem ev_exact_loop {a b c d : Nat} (hs : a + b + c + d ≤ 60) : ∀ (n x : Nat), a + c + 1 - x = n → x ≤ a + c + 1 →
    Ev (fun k => measure_Exact.l0 k (ways a b c d a : Int) (sumTo (fun x => if ways a b c d x ≤ ways a b c d a then ways a b c d x else 0) x : Int) (sumTo (ways a b c d) x : Int) ((a : Int) + c + 1) (x : Int) (a : Int) (b : Int) (c : Int) (d : Int))
      ((red (few a b c d) (allW a b c d)).1, (red (few a b c d) (allW a b c d)).2, 0) := by
  intro n
  have p := pow60 (n := a + b + (c + d)) (by omega)
  induction n with
  | zero =>
    intro x hn hx
    have : x = a + c + 1 := by omega
    subst this
    have l := ways_sum a b c d (a + c + 1)
    have f1 := few_le a b c d
    have f2 := few_pos a b c d
    refine Ev.round ?_
    simp only [measure_Exact.l0]
    refine Ev.ifn (by omega) (Ev.bind (ev_reduce (n := (few a b c d : Int)) (d := (allW a b c d : Int)) ?_ ?_ ?_ ?_ ?_) (Ev.some rfl)) <;> unfold allW at * <;> omega
  | succ n ih =>
    intro x hn hx
    have l := ways_sum a b c d (x + 1)
    have f := few_part_le a b c d (x + 1)
    have s1 : sumTo (ways a b c d) (x + 1) = sumTo (ways a b c d) x + ways a b c d x := rfl
    have s2 : sumTo (fun x => if ways a b c d x ≤ ways a b c d a then ways a b c d x else 0) (x + 1) = sumTo (fun x => if ways a b c d x ≤ ways a b c d a then ways a b c d x else 0) x + (if ways a b c d x ≤ ways a b c d a then ways a b c d x else 0) := rfl
    have := ih (x + 1) (by omega) (by omega)
    refine Ev.round ?_
    simp only [measure_Exact.l0]
    refine Ev.ifp (by omega) (Ev.bind (ev_ways hs (x := x) (by omega)) ?_)
    rw [w64 (n := (x : Int) + 1) (by omega) (by omega), w64 (n := ((sumTo (ways a b c d) x : Nat) : Int) + ((ways a b c d x : Nat) : Int)) (by omega) (by omega)]
    rw [s1, s2] at this
    by_cases q : ways a b c d x ≤ ways a b c d a
    · rw [if_pos q] at this s2
      refine Ev.ifp (by omega) ?_
      rw [w64 (by omega) (by omega), ← Int.natCast_add, ← Int.natCast_add, show (x : Int) + 1 = ((x + 1 : Nat) : Int) by omega]
      exact this
    · rw [if_neg q] at this
      refine Ev.ifn (by omega) ?_
      rw [← Int.natCast_add, show (x : Int) + 1 = ((x + 1 : Nat) : Int) by omega]
      exact this
theorem w1 : wrap64 (0 + 1) = 1 := by unfold wrap64; omega
theorem w2 : wrap64 (1 + 1) = 2 := by unfold wrap64; omega
theorem w3 : wrap64 (2 + 1) = 3 := by unfold wrap64; omega
theorem w4 : wrap64 (3 + 1) = 4 := by unfold wrap64; omega
theorem ev_min4 (a b c d : Int) : Ev (fun k => slices_Min_int_int.f k [a, b, c, d]) (mn (mn (mn a b) c) d) := by
  unfold slices_Min_int_int.f
  refine Ev.ifn (by simp) (Ev.ifp (by simp) (Ev.round ?_))
  simp only [slices_Min_int_int.l0]
  refine Ev.ifp (by simp) (Ev.ifp (by simp) (Ev.round ?_))
  simp only [slices_Min_int_int.l0, w2]
  refine Ev.ifp (by simp) (Ev.ifp (by simp) (Ev.round ?_))
  simp only [slices_Min_int_int.l0, w3]
  refine Ev.ifp (by simp) (Ev.ifp (by simp) (Ev.round ?_))
  simp only [slices_Min_int_int.l0, w4]
  exact Ev.ifn (by simp) (Ev.some rfl)
theorem ev_max4 (a b c d : Int) : Ev (fun k => slices_Max_int_int.f k [a, b, c, d]) (mx (mx (mx a b) c) d) := by
  unfold slices_Max_int_int.f
  refine Ev.ifn (by simp) (Ev.ifp (by simp) (Ev.round ?_))
  simp only [slices_Max_int_int.l0]
  refine Ev.ifp (by simp) (Ev.ifp (by simp) (Ev.round ?_))
  simp only [slices_Max_int_int.l0, w2]
  refine Ev.ifp (by simp) (Ev.ifp (by simp) (Ev.round ?_))
  simp only [slices_Max_int_int.l0, w3]
  refine Ev.ifp (by simp) (Ev.ifp (by simp) (Ev.round ?_))
  simp only [slices_Max_int_int.l0, w4]
  exact Ev.ifn (by simp) (Ev.some rfl)
theorem ev_sum4 (a b c d : Int) : Ev (fun k => measure_sumOf.f k [a, b, c, d]) (wrap64 (wrap64 (wrap64 (wrap64 (0 + a) + b) + c) + d)) := by
  unfold measure_sumOf.f
  refine Ev.round ?_
  simp only [measure_sumOf.l0]
  refine Ev.ifp (by simp) (Ev.ifp (by simp) (Ev.ifp (by simp) (Ev.round ?_)))
  simp only [measure_sumOf.l0, w1]
  refine Ev.ifp (by simp) (Ev.ifp (by simp) (Ev.ifp (by simp) (Ev.round ?_)))
  simp only [measure_sumOf.l0, w2]
  refine Ev.ifp (by simp) (Ev.ifp (by simp) (Ev.ifp (by simp) (Ev.round ?_)))
  simp only [measure_sumOf.l0, w3]
  refine Ev.ifp (by simp) (Ev.ifp (by simp) (Ev.ifp (by simp) (Ev.round ?_)))
  simp only [measure_sumOf.l0, w4]
  exact Ev.ifn (by simp) (Ev.some rfl)
theorem ev_Exact {a b c d : Nat} (hs : a + b + c + d ≤ 60) :
    Ev (fun k => measure_Exact.f k (a : Int) (b : Int) (c : Int) (d : Int)) ((red (few a b c d) (allW a b c d)).1, (red (few a b c d) (allW a b c d)).2, 0) := by
  unfold measure_Exact.f
  simp only [Option.bind_some]
  refine Ev.bind (ev_min4 _ _ _ _) (Ev.ifn (by unfold mn; omega) (Ev.bind (ev_max4 _ _ _ _) (Ev.ifn (by unfold mx; omega) (Ev.bind (ev_sum4 _ _ _ _) ?_))))
  rw [w64 (n := 0 + (a : Int)) (by omega) (by omega), w64 (n := 0 + (a : Int) + b) (by omega) (by omega), w64 (n := 0 + (a : Int) + b + c) (by omega) (by omega), w64 (n := 0 + (a : Int) + b + c + d) (by omega) (by omega)]
  refine Ev.round ?_
  simp only [measure_Exact.j0]
  refine Ev.ifn (by simp; omega) (Ev.bind (ev_ways hs (x := a) (by omega)) ?_)
  rw [w64 (n := (a : Int) + c) (by omega) (by omega), w64 (n := (a : Int) + c + 1) (by omega) (by omega)]
  exact ev_exact_loop hs (a + c + 1) 0 (by omega) (by omega)

def sfew (n k : Nat) : Nat := sumTo (fun x => if bin n x ≤ bin n k then bin n x else 0) (n + 1)
theorem sfew_part (n k m : Nat) : sumTo (fun x => if bin n x ≤ bin n k then bin n x else 0) m ≤ 2 ^ n := Nat.le_trans (sumTo_le (fun i _ => by
  show (if _ then _ else _) ≤ _
  split
  · exact Nat.le_refl _
  · exact Nat.zero_le _)) (bin_sum n m)
theorem sfew_pos {n k : Nat} (h : k ≤ n) : 0 < sfew n k := by
  have e := sumTo_term (f := fun x => if bin n x ≤ bin n k then bin n x else 0) (i := k) (m := n + 1) (by omega)
  simp only [Nat.le_refl, if_true] at e
  exact Nat.lt_of_lt_of_le (bin_pos n k h) e
theorem shl_one {n : Nat} (h : n ≤ 60) : shl .i64 1 (n : Int) = ((2 ^ n : Nat) : Int) := by
  have p := pow60 h
  unfold shl
  rw [show min ((n : Int)).toNat IntKind.i64.bits = n from by show min n 64 = n; omega, Int.one_mul, IntWalk.i64_left, show (2 : Int) ^ n = ((2 ^ n : Nat) : Int) by simp, w64 (Int.le_trans (by decide) (Int.natCast_nonneg _)) (Int.le_trans (Int.ofNat_le.mpr p) (by decide))]
theorem ev_signs_loop {n kk : Nat} (hn : n ≤ 60) (hk : kk ≤ n) : ∀ (m x : Nat), n + 1 - x = m → x ≤ n + 1 →
    Ev (fun k => measure_Signs.l0 k (n : Int) (kk : Int) (sumTo (fun x => if bin n x ≤ bin n kk then bin n x else 0) x : Int) ((n : Int) + 1) (x : Int))
      ((red (sfew n kk) (2 ^ n : Nat)).1, (red (sfew n kk) (2 ^ n : Nat)).2, 0) := by
  intro m
  have p := pow60 hn
  have p0 : 0 < 2 ^ n := Nat.two_pow_pos n
  induction m with
  | zero =>
    intro x hm hx
    have : x = n + 1 := by omega
    subst this
    have l := sfew_part n kk (n + 1)
    refine Ev.round ?_
    simp only [measure_Signs.l0]
    rw [shl_one hn]
    refine Ev.ifn (by omega) (Ev.ifp (by omega) (Ev.bind (ev_reduce (n := (sfew n kk : Int)) (d := ((2 ^ n : Nat) : Int)) ?_ ?_ ?_ ?_ ?_) (Ev.some rfl))) <;> unfold sfew at * <;> omega
  | succ m ih =>
    intro x hm hx
    have l := sfew_part n kk (x + 1)
    have s2 : sumTo (fun x => if bin n x ≤ bin n kk then bin n x else 0) (x + 1) = sumTo (fun x => if bin n x ≤ bin n kk then bin n x else 0) x + (if bin n x ≤ bin n kk then bin n x else 0) := rfl
    have := ih (x + 1) (by omega) (by omega)
    refine Ev.round ?_
    simp only [measure_Signs.l0]
    have e1 := ev_choose n hn x (by omega) (by omega)
    have e2 := ev_choose n hn kk (by omega) (by omega)
    unfold binI at e1 e2
    rw [if_neg (by omega), Int.toNat_natCast] at e1 e2
    refine Ev.ifp (by omega) (Ev.bind e1 (Ev.bind e2 ?_))
    rw [w64 (n := (x : Int) + 1) (by omega) (by omega)]
    rw [s2] at this l
    by_cases q : bin n x ≤ bin n kk
    · rw [if_pos q] at this l
      refine Ev.ifp (by omega) ?_
      rw [w64 (by omega) (by omega), ← Int.natCast_add, show (x : Int) + 1 = ((x + 1 : Nat) : Int) by omega]
      exact this
    · rw [if_neg q] at this
      refine Ev.ifn (by omega) ?_
      rw [show (x : Int) + 1 = ((x + 1 : Nat) : Int) by omega]
      exact this
theorem ev_Signs {n kk : Nat} (hn : n ≤ 60) (hk : kk ≤ n) : Ev (fun k => measure_Signs.f k (n : Int) (kk : Int)) ((red (sfew n kk) (2 ^ n : Nat)).1, (red (sfew n kk) (2 ^ n : Nat)).2, 0) := by
  unfold measure_Signs.f
  refine Ev.bind0 (within_ok _ _ _) (Ev.ifp (by simp; omega) (Ev.bind0 (within_ok _ _ _) (Ev.round ?_)))
  simp only [measure_Signs.j0]
  refine Ev.ifn (by simp; omega) ?_
  rw [w64 (n := (n : Int) + 1) (by omega) (by omega)]
  exact ev_signs_loop hn hk (n + 1) 0 (by omega) (by omega)

theorem ways_swap (a b c d x : Nat) (hx : x ≤ a + c) : ways c d a b x = ways a b c d (a + c - x) := by
  unfold ways
  rw [if_pos (by omega), if_pos (by omega), show c + a - x = a + c - x by omega, show a + c - (a + c - x) = x by omega, Nat.mul_comm]
theorem all_swap (a b c d : Nat) : allW c d a b = allW a b c d := by
  unfold allW
  rw [show c + a + 1 = a + c + 1 by omega, ← sumTo_rev (ways a b c d) (a + c)]
  exact sumTo_congr (fun i hi => ways_swap a b c d i (by omega))
theorem few_swap (a b c d : Nat) : few c d a b = few a b c d := by
  unfold few
  rw [show c + a + 1 = a + c + 1 by omega, ← sumTo_rev (fun x => if ways a b c d x ≤ ways a b c d a then ways a b c d x else 0) (a + c)]
  refine sumTo_congr (fun i hi => ?_)
  show (if _ then _ else _) = (if _ then _ else _)
  rw [ways_swap a b c d i (by omega), ways_swap a b c d c (by omega), show a + c - c = a by omega]
theorem ways_turn (a b c d x : Nat) (hx : x ≤ a + b) : ways b a d c x = ways a b c d (a + b - x) := by
  have e1 : bin (b + a) x = bin (a + b) (a + b - x) := by rw [Nat.add_comm b a, bin_symm _ _ hx]
  unfold ways
  rw [e1]
  congr 1
  by_cases h1 : x ≤ b + d
  · rw [if_pos h1]
    by_cases h2 : a + b - x ≤ a + c
    · rw [if_pos h2, Nat.add_comm d c]
      have := bin_symm (c + d) (a + c - (a + b - x)) (by omega)
      rw [← this]
      congr 1
      omega
    · rw [if_neg h2, bin_gt _ _ (by omega)]
  · rw [if_neg h1]
    by_cases h2 : a + b - x ≤ a + c
    · rw [if_pos h2, bin_gt _ _ (by omega)]
    · rw [if_neg h2]
theorem ways_out1 (a b c d x : Nat) (h : a + c < x) : ways a b c d x = 0 := by
  unfold ways
  rw [if_neg (by omega), Nat.mul_zero]
theorem ways_out2 (a b c d x : Nat) (h : a + b < x) : ways a b c d x = 0 := by
  unfold ways
  rw [bin_gt _ _ h, Nat.zero_mul]
theorem all_turn (a b c d : Nat) : allW b a d c = allW a b c d := by
  unfold allW
  rw [sumTo_two (m := b + d + 1) (n := a + b + 1) (fun i hi => ways_out1 b a d c i (by omega)) (fun i hi => ways_out2 b a d c i (by omega)), sumTo_two (m := a + c + 1) (n := a + b + 1) (fun i hi => ways_out1 a b c d i (by omega)) (fun i hi => ways_out2 a b c d i (by omega)), ← sumTo_rev (ways a b c d) (a + b)]
  exact sumTo_congr (fun i hi => ways_turn a b c d i (by omega))
theorem few_turn (a b c d : Nat) : few b a d c = few a b c d := by
  have z : ∀ a b c d i, ways a b c d i = 0 → (if ways a b c d i ≤ ways a b c d a then ways a b c d i else 0) = 0 := by
    intro a b c d i h
    rw [h]
    simp
  unfold few
  rw [sumTo_two (m := b + d + 1) (n := a + b + 1) (fun i hi => z _ _ _ _ _ (ways_out1 b a d c i (by omega))) (fun i hi => z _ _ _ _ _ (ways_out2 b a d c i (by omega))), sumTo_two (m := a + c + 1) (n := a + b + 1) (fun i hi => z _ _ _ _ _ (ways_out1 a b c d i (by omega))) (fun i hi => z _ _ _ _ _ (ways_out2 a b c d i (by omega))), ← sumTo_rev (fun x => if ways a b c d x ≤ ways a b c d a then ways a b c d x else 0) (a + b)]
  refine sumTo_congr (fun i hi => ?_)
  show (if _ then _ else _) = (if _ then _ else _)
  rw [ways_turn a b c d i (by omega), ways_turn a b c d b (by omega), show a + b - b = a by omega]
/-- Binomials fall away from their middle. -/
theorem bin_concave {n k j : Nat} (hj : 0 < j) (hjk : j ≤ k) : bin n (k + 1) * bin n (j - 1) ≤ bin n k * bin n j := by
  rcases Nat.lt_or_ge n (k + 1) with h | h
  · rw [bin_gt n (k + 1) h, Nat.zero_mul]
    exact Nat.zero_le _
  · have h1 := bin_mul n k
    have h2 := bin_mul n (j - 1)
    rw [show j - 1 + 1 = j by omega, show n - (j - 1) = n - j + 1 by omega] at h2
    have hp : 0 < (k + 1) * (n - j + 1) := Nat.mul_pos (by omega) (by omega)
    refine Nat.le_of_mul_le_mul_left (c := (k + 1) * (n - j + 1)) ?_ hp
    have e1 : (k + 1) * (n - j + 1) * (bin n (k + 1) * bin n (j - 1)) = ((k + 1) * bin n (k + 1)) * (bin n (j - 1) * (n - j + 1)) := by
      rw [Nat.mul_mul_mul_comm, Nat.mul_comm (n - j + 1)]
    rw [e1, h1, ← h2]
    have e2 : bin n k * (n - k) * (j * bin n j) = ((n - k) * j) * (bin n k * bin n j) := by
      rw [Nat.mul_comm (bin n k), Nat.mul_mul_mul_comm]
    rw [e2]
    refine Nat.mul_le_mul_right _ ?_
    rw [Nat.mul_comm (k + 1)]
    exact Nat.mul_le_mul (by omega) (by omega)
theorem bin_middle (n a : Nat) : ∀ j, j ≤ a → bin n (a + j) * bin n (a - j) ≤ bin n a * bin n a
  | 0, _ => by simp
  | j + 1, h => by
    refine Nat.le_trans ?_ (bin_middle n a j (by omega))
    have := bin_concave (n := n) (k := a + j) (j := a - j) (by omega) (by omega)
    rw [show a - j - 1 = a - (j + 1) by omega] at this
    exact this
theorem few_same (a b : Nat) : few a b a b = allW a b a b := by
  unfold few allW
  refine sumTo_congr (fun x hx => ?_)
  show (if _ then _ else _) = _
  refine if_pos ?_
  unfold ways
  rw [if_pos (by omega), if_pos (by omega), show a + a - a = a by omega]
  rcases Nat.le_total a x with h | h
  · have := bin_middle (a + b) a (x - a) (by omega)
    rw [show a + (x - a) = x by omega, show a - (x - a) = a + a - x by omega] at this
    exact this
  · have := bin_middle (a + b) a (a - x) (by omega)
    rw [show a + (a - x) = a + a - x by omega, show a - (a - x) = x by omega, Nat.mul_comm] at this
    exact this
theorem red_pos {n d : Nat} (hn : 0 < n) (hd : n ≤ d) : (red n d).1 > 0 ∧ (red n d).1 ≤ (red n d).2 := by
  have e : Int.gcd (n : Int) (d : Int) = Nat.gcd n d := rfl
  have hg : 0 < Nat.gcd n d := Nat.gcd_pos_of_pos_left _ hn
  have hl := Nat.gcd_le_left d hn
  unfold red
  rw [if_neg (by omega), if_neg (by omega), e, tdiv_nat, tdiv_nat]
  have h1 := Nat.div_pos hl hg
  have h2 := Nat.div_le_div_right (c := Nat.gcd n d) hd
  exact ⟨by show (0 : Int) < _; omega, by show (_ : Int) ≤ _; omega⟩
theorem red_same {n : Nat} (hn : 0 < n) : red n n = (1, 1) := by
  have e : Int.gcd (n : Int) (n : Int) = n := Nat.gcd_self n
  unfold red
  rw [if_neg (by omega), e, tdiv_nat, Nat.div_self hn]
  rfl
theorem sfew_turn {n k : Nat} (h : k ≤ n) : sfew n (n - k) = sfew n k := by
  unfold sfew
  rw [bin_symm n k h]
theorem ev_measures : Ev (fun k => handkeep1_measures.f k) true := by
  unfold handkeep1_measures.f
  refine Ev.bind (ev_Reduce 2 4) ?_
  rw [RedOf_24]
  exact Ev.ifp rfl (Ev.some rfl)
theorem w5 : wrap64 (4 + 1) = 5 := by unfold wrap64; omega
theorem w6 : wrap64 (5 + 1) = 6 := by unfold wrap64; omega
theorem ev_last {x y z w p q : Int × Int} (h1 : x = y) (h2 : x = z) (h3 : w = (1, 1)) (h4 : p = q) (h5 : x.1 > 0) (h6 : x.1 ≤ x.2) (h7 : p.1 > 0) (h8 : p.1 ≤ p.2) :
    Ev (fun k => handkeep1_TestsTurn.l0 k [0, 0, 0, 0, 0, 0] (([0, 0, 0, 0, 0, 0] : List Int).length : Int) 0 x.1 x.2 y.1 y.2 z.1 z.2 w.1 w.2 p.1 p.2 q.1 q.2) true := by
  subst h1 h2 h3 h4
  refine Ev.round ?_
  simp only [handkeep1_TestsTurn.l0]
  refine Ev.ifp (by decide) (Ev.ifp (by decide) (Ev.ifp (by decide) (Ev.ifp (by decide) (Ev.round ?_))))
  simp only [handkeep1_TestsTurn.l0, w1]
  refine Ev.ifp (by decide) (Ev.ifp (by decide) (Ev.ifp (by decide) (Ev.ifp (by decide) (Ev.round ?_))))
  simp only [handkeep1_TestsTurn.l0, w2]
  refine Ev.ifp (by decide) (Ev.ifp (by decide) (Ev.ifp (by decide) (Ev.ifp (by decide) (Ev.round ?_))))
  simp only [handkeep1_TestsTurn.l0, w3]
  refine Ev.ifp (by decide) (Ev.ifp (by decide) (Ev.ifp (by decide) (Ev.ifp (by decide) (Ev.round ?_))))
  simp only [handkeep1_TestsTurn.l0, w4]
  refine Ev.ifp (by decide) (Ev.ifp (by decide) (Ev.ifp (by decide) (Ev.ifp (by decide) (Ev.round ?_))))
  simp only [handkeep1_TestsTurn.l0, w5]
  refine Ev.ifp (by decide) (Ev.ifp (by decide) (Ev.ifp (by decide) (Ev.ifp (by decide) (Ev.round ?_))))
  simp only [handkeep1_TestsTurn.l0, w6]
  refine Ev.ifn (by decide) (Ev.bind ev_measures (Ev.ifp rfl (Ev.ifp (by simp) (Ev.ifp (by simp) (Ev.ifp (by decide) (Ev.ifp (by simp) (Ev.ifp h5 (Ev.ifp h6 (Ev.ifp h7 (Ev.some ?_))))))))))
  exact decide_eq_true h8
theorem nat_of {v : Int} (h : 0 ≤ v) : ∃ n : Nat, v = (n : Int) := ⟨v.toNat, by omega⟩
theorem TestsTurn : handkeep1_TestsTurn.Pure := by
  intro l hm hl hw
  refine Ev.rounds (r := true) ?_
  obtain ⟨a', ha, a0, a1⟩ := next_ok l 0 15 (by omega) (by omega) (by omega) (by omega)
  obtain ⟨b', hb, b0, b1⟩ := next_ok l (0 + 1) 15 (by omega) (by omega) (by omega) (by omega)
  obtain ⟨c', hc, c0, c1⟩ := next_ok l (0 + 1 + 1) 15 (by omega) (by omega) (by omega) (by omega)
  obtain ⟨d', hd, d0, d1⟩ := next_ok l (0 + 1 + 1 + 1) 15 (by omega) (by omega) (by omega) (by omega)
  obtain ⟨n', hn, n0, n1⟩ := next_ok l (0 + 1 + 1 + 1 + 1) 61 (by omega) (by omega) (by omega) (by omega)
  obtain ⟨k', hk, k0, k1⟩ := next_ok l (0 + 1 + 1 + 1 + 1 + 1) (n' + 1) (by omega) (by omega) (by omega) (by omega)
  obtain ⟨a, rfl⟩ := nat_of a0
  obtain ⟨b, rfl⟩ := nat_of b0
  obtain ⟨c, rfl⟩ := nat_of c0
  obtain ⟨d, rfl⟩ := nat_of d0
  obtain ⟨n, rfl⟩ := nat_of n0
  obtain ⟨k, rfl⟩ := nat_of k0
  have p60 := pow60 (n := n) (by omega)
  unfold handkeep1_TestsTurn.f
  refine Ev.bind0 ha (Ev.bind0 hb (Ev.bind0 hc (Ev.bind0 hd ?_)))
  refine Ev.bind (ev_Exact (a := a) (b := b) (c := c) (d := d) (by omega)) (Ev.bind (ev_Exact (a := c) (b := d) (c := a) (d := b) (by omega)) (Ev.bind (ev_Exact (a := b) (b := a) (c := d) (d := c) (by omega)) (Ev.bind (ev_Exact (a := a) (b := b) (c := a) (d := b) (by omega)) (Ev.bind0 hn ?_))))
  have e : wrap64 ((n : Int) + 1) = (n : Int) + 1 := w64 (by omega) (by omega)
  have e2 : wrap64 ((n : Int) - (k : Int)) = ((n - k : Nat) : Int) := by rw [w64 (by omega) (by omega)]; omega
  simp only [e]
  refine Ev.bind0 hk ?_
  simp only [e2]
  refine Ev.bind (ev_Signs (n := n) (kk := k) (by omega) (by omega)) (Ev.bind (ev_Signs (n := n) (kk := n - k) (by omega) (by omega)) ?_)
  simp only [Option.bind_some]
  have rx := red_pos (few_pos a b c d) (few_le a b c d)
  have rp := red_pos (sfew_pos (n := n) (k := k) (by omega)) (show sfew n k ≤ 2 ^ n from sfew_part n k (n + 1))
  exact ev_last (x := red (few a b c d) (allW a b c d)) (y := red (few c d a b) (allW c d a b)) (z := red (few b a d c) (allW b a d c)) (w := red (few a b a b) (allW a b a b)) (p := red (sfew n k) ((2 ^ n : Nat) : Int)) (q := red (sfew n (n - k)) ((2 ^ n : Nat) : Int))
    (by rw [few_swap, all_swap]) (by rw [few_turn, all_turn]) (by rw [few_same]; exact red_same (Nat.lt_of_lt_of_le (few_pos a b a b) (few_le a b a b))) (by rw [sfew_turn (by omega)]) rx.1 rx.2 rp.1 rp.2

end Go.Proofs.Ytihnjdhjkpmggaa.Pure
