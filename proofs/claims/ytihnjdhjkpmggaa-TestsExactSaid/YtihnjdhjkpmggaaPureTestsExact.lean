/- TestsExact: Choose, Exact, Signs, Verdict and Extra are as specified, for every input. -/
import Derived.Test.YtihnjdhjkpmggaaPTestsExactx9
namespace Go.Proofs.Ytihnjdhjkpmggaa.Pure
open Go.RowKit Go.Proofs.Ytihnjdhjkpmggaa.PTestsExact Go.Proofs.YtihnjdhjkpmggaaW.PrintWords Go.Proofs.YtihnjdhjkpmggaaW.PrintLast Go.Proofs.YtihnjdhjkpmggaaW.PrintMore
set_option linter.unusedVariables false
set_option linter.unusedSimpArgs false

/-! ### numbers, rounds -/
theorem w64 {n : Int} (h0 : -9223372036854775808 ≤ n) (h1 : n ≤ 9223372036854775807) : wrap64 n = n := by unfold wrap64; omega
theorem u64w {n : Int} (h0 : 0 ≤ n) (h1 : n ≤ 18446744073709551615) : IntKind.u64.wrap n = n := IntWalk.u64_in n ⟨h0, h1⟩
theorem Ev.mono_of {α : Type} {g : Nat → Option α} {r : α} (h : Ev g r) : ∃ k, g k = some r := h.rounds
theorem Ev.ifp {α : Type} {c : Prop} [Decidable c] {f g : Nat → Option α} {r : α} (hc : c) (h : Ev f r) : Ev (fun k => if c then f k else g k) r := Ev.congr (fun k => if_pos hc) h
theorem Ev.ifn {α : Type} {c : Prop} [Decidable c] {f g : Nat → Option α} {r : α} (hc : ¬ c) (h : Ev g r) : Ev (fun k => if c then f k else g k) r := Ev.congr (fun k => if_neg hc) h
theorem Ev.bind0 {α β : Type} {x : Option α} {a : α} {f : Nat → α → Option β} {r : β} (h : x = some a) (k : Ev (fun n => f n a) r) : Ev (fun n => x.bind (f n)) r := Ev.congr (fun n => by rw [h]; rfl) k
theorem Ev.some {α : Type} {a b : α} (h : a = b) : Ev (fun _ => Option.some a) b := by subst h; exact ⟨0, fun _ _ => rfl⟩
/-- A function of rounds whose first round is consumed at the head. -/
theorem Ev.det {α : Type} {g : Nat → Option α} {r s : α} (h : Ev g r) (k : Ev g s) : r = s := by
  obtain ⟨K, h⟩ := h
  obtain ⟨L, k⟩ := k
  have h1 := h (max K L) (by omega)
  rw [k (max K L) (by omega)] at h1
  exact (Option.some.inj h1).symm
theorem tmod_pos {a b : Int} (hb : 0 < b) : -b < Int.tmod a b ∧ Int.tmod a b < b := by
  constructor
  · exact Int.lt_tmod_of_pos a hb
  · exact Int.tmod_lt_of_pos a hb
theorem Ev.round {α : Type} {g : Nat → Option α} {r : α} (h : Ev (fun k => g (k + 1)) r) : Ev g r := Ev.step (fun _ => rfl) h

/-! ### the stream of raw numbers -/
theorem below_ok (x n : Int) (hn : 1 ≤ n) (hn2 : n ≤ 4611686018427387904) : ∃ v, handmake_Below.f x n = some v ∧ 0 ≤ v ∧ v < n := by
  obtain ⟨h1, h2⟩ := tmod_pos (a := x) (b := n) (by omega)
  unfold handmake_Below.f
  rw [if_neg (by omega), if_neg (by omega)]
  by_cases c : Int.tmod x n < 0
  · rw [if_pos c]
    exact ⟨_, rfl, by rw [w64 (by omega) (by omega)]; omega, by rw [w64 (by omega) (by omega)]; omega⟩
  · rw [if_neg c]
    exact ⟨_, rfl, by omega, by omega⟩
theorem next_ok (l : List Int) (i n : Int) (h0 : 0 ≤ i) (h1 : i ≤ 4611686018427387904) (hn : 1 ≤ n) (hn2 : n ≤ 4611686018427387904) :
    ∃ v, handmake_Stream_Next.f l i n = some (v, i + 1) ∧ 0 ≤ v ∧ v < n := by
  unfold handmake_Stream_Next.f
  rw [w64 (n := i + 1) (by omega) (by omega)]
  by_cases c : (l.length : Int) = 0
  · rw [if_pos c]
    obtain ⟨v, hv, a, b⟩ := below_ok (wrap64 ((i + 1) * 7919)) n hn hn2
    exact ⟨v, by rw [hv]; rfl, a, b⟩
  · rw [if_neg c, show i + 1 - 1 = i by omega, w64 (n := i) (by omega) (by omega)]
    have hl : 0 < (l.length : Int) := by omega
    have e : Int.tmod i l.length = i % l.length := Int.tmod_eq_emod_of_nonneg h0
    have g0 : 0 ≤ Int.tmod i l.length := by rw [e]; exact Int.emod_nonneg _ (by omega)
    rw [if_pos g0, if_pos (tmod_pos hl).2]
    obtain ⟨u, hu, _, _⟩ := below_ok (rd l (Int.tmod i l.length)) 1073741824 (by omega) (by omega)
    rw [hu]
    obtain ⟨v, hv, a, b⟩ := below_ok (wrap64 (u + wrap64 (wrap64 (Int.tdiv i l.length) * wrap64 (7919 + Int.tmod i l.length)))) n hn hn2
    refine ⟨v, ?_, a, b⟩
    show (handmake_Below.f _ n).bind _ = _
    rw [hv]
    rfl

/-! ### greatest common divisors, fractions in lowest terms -/
theorem tmod_nat (a b : Nat) : Int.tmod (a : Int) (b : Int) = ((a % b : Nat) : Int) := by
  rw [Int.tmod_eq_emod_of_nonneg (by omega)]
  rfl
theorem ev_gcd {l : Nat → Int → Int → Option Int} (h : ∀ k x y, l (k + 1) x y = if y = 0 then some x else l k y (Int.tmod x y)) :
    ∀ (b a : Nat), Ev (fun k => l k (a : Int) (b : Int)) ((Nat.gcd a b : Nat) : Int) := by
  intro b
  induction b using Nat.strongRecOn with
  | _ b ih =>
    intro a
    refine Ev.step (fun k => h k _ _) ?_
    by_cases c : b = 0
    · subst c
      exact Ev.ifp rfl (Ev.some (by rw [Nat.gcd_zero_right]))
    · refine Ev.ifn (by omega) ?_
      rw [tmod_nat, show Nat.gcd a b = Nat.gcd b (a % b) by rw [Nat.gcd_comm, Nat.gcd_rec, Nat.gcd_comm]]
      exact ih (a % b) (Nat.mod_lt _ (by omega)) b
/-- A fraction in lowest terms. -/
def red (n d : Int) : Int × Int := (Int.tdiv (if d < 0 then -n else n) (Int.gcd n d), Int.tdiv (if d < 0 then -d else d) (Int.gcd n d))
theorem tdiv_le {a g : Int} (h0 : -4611686018427387904 ≤ a) (h1 : a ≤ 4611686018427387904) : -4611686018427387904 ≤ Int.tdiv a g ∧ Int.tdiv a g ≤ 4611686018427387904 := by
  have := Int.natAbs_tdiv_le_natAbs a g
  omega
theorem gcd_big {n d : Int} (h0 : -4611686018427387904 ≤ d) (h1 : d ≤ 4611686018427387904) (hd : d ≠ 0) : 0 < Int.gcd n d ∧ Int.gcd n d ≤ 4611686018427387904 := by
  have hp : 0 < d.natAbs := by omega
  have hl := Nat.gcd_le_right n.natAbs hp
  have hq := Nat.gcd_pos_of_pos_right n.natAbs hp
  have e : Int.gcd n d = Nat.gcd n.natAbs d.natAbs := rfl
  omega

theorem size_ok {n : Int} (h0 : -4611686018427387904 ≤ n) (h1 : n ≤ 4611686018427387904) : measure_size.f n = some ((n.natAbs : Nat) : Int) := by
  unfold measure_size.f
  by_cases c : n < 0
  · rw [if_pos c, IntKind.wrap_u64, IntKind.wrap_u64]
    congr 1
    omega
  · rw [if_neg c, IntKind.wrap_u64]
    congr 1
    omega
theorem ev_divisor (a b : Nat) : Ev (fun k => measure_divisor.f k (a : Int) (b : Int)) ((Nat.gcd a b : Nat) : Int) := ev_gcd (l := measure_divisor.l0) (fun _ _ _ => rfl) b a
theorem ev_reduce {n d : Int} (hn0 : -4611686018427387904 ≤ n) (hn1 : n ≤ 4611686018427387904) (hd0 : -4611686018427387904 ≤ d) (hd1 : d ≤ 4611686018427387904) (hd : d ≠ 0) :
    Ev (fun k => measure_reduce.f k n d) (red n d) := by
  obtain ⟨g0, g1⟩ := gcd_big (n := n) hd0 hd1 hd
  have key : ∀ n' d' : Int, n'.natAbs = n.natAbs → d'.natAbs = d.natAbs → -4611686018427387904 ≤ n' → n' ≤ 4611686018427387904 → -4611686018427387904 ≤ d' → d' ≤ 4611686018427387904 →
      Ev (fun k => (measure_size.f n').bind fun t => (measure_size.f d').bind fun u => (measure_divisor.f k t u).bind fun v => (if wrap64 v = 0 then none else some (wrap64 (Int.tdiv n' (wrap64 v)), wrap64 (Int.tdiv d' (wrap64 v))))) (Int.tdiv n' (Int.gcd n d), Int.tdiv d' (Int.gcd n d)) := by
    intro n' d' en ed a b c e
    refine Ev.bind0 (size_ok a b) (Ev.bind0 (size_ok c e) (Ev.bind (ev_divisor _ _) ?_))
    rw [en, ed, show Nat.gcd n.natAbs d.natAbs = Int.gcd n d from rfl, w64 (n := ((Int.gcd n d : Nat) : Int)) (by omega) (by omega)]
    refine Ev.ifn (by omega) (Ev.some ?_)
    have h1 := tdiv_le (g := (Int.gcd n d : Int)) a b
    have h2 := tdiv_le (g := (Int.gcd n d : Int)) c e
    rw [w64 (by omega) (by omega), w64 (by omega) (by omega)]
  unfold measure_reduce.f
  by_cases c : d < 0
  · refine Ev.ifp c ?_
    rw [w64 (n := -n) (by omega) (by omega), w64 (n := -d) (by omega) (by omega)]
    have := key (-n) (-d) (by omega) (by omega) (by omega) (by omega) (by omega) (by omega)
    unfold red
    rw [if_pos c, if_pos c]
    exact this
  · refine Ev.ifn c ?_
    have := key n d rfl rfl hn0 hn1 hd0 hd1
    unfold red
    rw [if_neg c, if_neg c]
    exact this

theorem within_ok (a b c : Int) : measure_within.f a b c = some (decide (b ≤ a ∧ a ≤ c)) := by
  unfold measure_within.f
  by_cases h : b ≤ a
  · rw [if_pos h]; simp [h]
  · rw [if_neg h]; simp [h]
/-- What Reduce returns. -/
def RedOf (a b : Int) : Int × Int × Int := if (-4611686018427387904 ≤ a ∧ a ≤ 4611686018427387904) ∧ (-4611686018427387904 ≤ b ∧ b ≤ 4611686018427387904) then (if b = 0 then (0, 0, 8) else ((red a b).1, (red a b).2, 0)) else (0, 0, 1)
theorem ev_Reduce (a b : Int) : Ev (fun k => measure_Reduce.f k a b) (RedOf a b) := by
  unfold measure_Reduce.f RedOf
  refine Ev.bind0 (within_ok _ _ _) ?_
  by_cases ca : (-4611686018427387904 ≤ a ∧ a ≤ 4611686018427387904)
  · rw [decide_eq_true ca]
    refine Ev.ifp rfl (Ev.bind0 (within_ok _ _ _) (Ev.round ?_))
    simp only [measure_Reduce.j0]
    by_cases cb : (-4611686018427387904 ≤ b ∧ b ≤ 4611686018427387904)
    · rw [decide_eq_true cb, if_pos ⟨ca, cb⟩]
      refine Ev.ifn (by simp) ?_
      by_cases c0 : b = 0
      · rw [if_pos c0]; exact Ev.ifp c0 (Ev.some rfl)
      · rw [if_neg c0]
        exact Ev.ifn c0 (Ev.bind (ev_reduce ca.1 ca.2 cb.1 cb.2 c0) (Ev.some rfl))
    · rw [decide_eq_false cb, if_neg (fun h => cb h.2)]
      exact Ev.ifp (by simp) (Ev.some rfl)
  · rw [decide_eq_false ca, if_neg (fun h => ca h.1)]
    refine Ev.ifn (by decide) (Ev.round ?_)
    simp only [measure_Reduce.j0]
    exact Ev.ifp (by simp) (Ev.some rfl)
theorem RedOf_24 : RedOf 2 4 = (1, 2, 0) := by decide

/-! ### products of 128 bits -/
/-- The sign of a number. -/
def sg (x : Int) : Int := if x < 0 then -1 else if x > 0 then 1 else 0
theorem cmp_ok (a b : Int) : cmp_Compare_int.f a b = some (sg (a - b)) := by
  unfold cmp_Compare_int.f cmp_isNaN_int.f sg
  simp only [Option.bind_some, bne_self_eq_false]
  by_cases h : a < b
  · simp [h, show a - b < 0 by omega]
  · by_cases h2 : a > b
    · simp [h2, show ¬ (a - b < 0) by omega, show 0 < a - b by omega, show ¬ (a < b) by omega, show b < a by omega]
    · simp [show ¬ (a - b < 0) by omega, show ¬ (0 < a - b) by omega, show ¬ (a < b) by omega, show ¬ (b < a) by omega]
theorem cmpu_ok (a b : Int) : cmp_Compare_uint64.f a b = some (sg (a - b)) := by
  unfold cmp_Compare_uint64.f cmp_isNaN_uint64.f sg
  simp only [Option.bind_some, bne_self_eq_false]
  by_cases h : a < b
  · simp [h, show a - b < 0 by omega]
  · by_cases h2 : a > b
    · simp [h2, show ¬ (a - b < 0) by omega, show 0 < a - b by omega, show ¬ (a < b) by omega, show b < a by omega]
    · simp [show ¬ (a - b < 0) by omega, show ¬ (0 < a - b) by omega, show ¬ (a < b) by omega, show ¬ (b < a) by omega]
theorem wraps_u64 (n : Int) (h₀ : 0 ≤ n) (h₁ : n < 2 ^ 64) : IntKind.u64.wrap n = n := by rw [IntKind.wrap_u64]; omega
theorem low32 (x : Int) (h0 : 0 ≤ x) (h1 : x ≤ 18446744073709551615) : Go.bits .and .u64 x 4294967295 = x % 4294967296 := by
  have := Go.bits_mask .u64 64 (by decide) wraps_u64 32 (by decide) x h0 (by omega)
  simpa using this
theorem mul_le_of {a b A B : Int} (ha0 : 0 ≤ a) (ha : a ≤ A) (hb0 : 0 ≤ b) (hb : b ≤ B) : 0 ≤ a * b ∧ a * b ≤ A * B :=
  ⟨Int.mul_nonneg ha0 hb0, Int.mul_le_mul ha hb hb0 (by omega)⟩
theorem mul64_ok {a b : Int} (ha0 : 0 ≤ a) (ha : a ≤ 18446744073709551615) (hb0 : 0 ≤ b) (hb : b ≤ 18446744073709551615) :
    bits_Mul64.f a b = some (a * b / 18446744073709551616, a * b % 18446744073709551616) := by
  obtain ⟨a1, a0, rfl, p1, p2, p3, p4⟩ : ∃ a1 a0 : Int, a = 4294967296 * a1 + a0 ∧ 0 ≤ a1 ∧ a1 ≤ 4294967295 ∧ 0 ≤ a0 ∧ a0 ≤ 4294967295 := ⟨a / 4294967296, a % 4294967296, by omega, by omega, by omega, by omega, by omega⟩
  obtain ⟨b1, b0, rfl, q1, q2, q3, q4⟩ : ∃ b1 b0 : Int, b = 4294967296 * b1 + b0 ∧ 0 ≤ b1 ∧ b1 ≤ 4294967295 ∧ 0 ≤ b0 ∧ b0 ≤ 4294967295 := ⟨b / 4294967296, b % 4294967296, by omega, by omega, by omega, by omega, by omega⟩
  have e : (4294967296 * a1 + a0) * (4294967296 * b1 + b0) = 18446744073709551616 * (a1 * b1) + 4294967296 * (a1 * b0) + 4294967296 * (a0 * b1) + a0 * b0 := by grind
  have x1 := mul_le_of p1 p2 q1 q2
  have x2 := mul_le_of p1 p2 q3 q4
  have x3 := mul_le_of p3 p4 q1 q2
  have x4 := mul_le_of p3 p4 q3 q4
  unfold bits_Mul64.f
  rw [low32 _ ha0 ha, low32 _ hb0 hb, e, show (4294967296 * a1 + a0) / 4294967296 = a1 by omega, show (4294967296 * b1 + b0) / 4294967296 = b1 by omega, show (4294967296 * a1 + a0) % 4294967296 = a0 by omega, show (4294967296 * b1 + b0) % 4294967296 = b0 by omega]
  generalize a1 * b1 = P at *
  generalize a1 * b0 = Q at *
  generalize a0 * b1 = R at *
  generalize a0 * b0 = S at *
  rw [u64w (n := S) (by omega) (by omega), u64w (n := Q) (by omega) (by omega), u64w (n := R) (by omega) (by omega), u64w (n := P) (by omega) (by omega)]
  rw [u64w (n := Q + S / 4294967296) (by omega) (by omega), low32 _ (by omega) (by omega)]
  rw [u64w (n := (Q + S / 4294967296) % 4294967296 + R) (by omega) (by omega), u64w (n := P + (Q + S / 4294967296) / 4294967296) (by omega) (by omega)]
  rw [u64w (by omega) (by omega), IntKind.wrap_u64]
  congr 2
  omega
theorem or_two (x y : Int) : Ev (fun k => cmp_Or_int.f k [x, y]) (if x ≠ 0 then x else y) := by
  have e1 : wrap64 (0 + 1) = 1 := by unfold wrap64; omega
  have e2 : wrap64 (1 + 1) = 2 := by unfold wrap64; omega
  unfold cmp_Or_int.f
  refine Ev.round ?_
  simp only [cmp_Or_int.l0]
  refine Ev.ifp (by simp) (Ev.ifp (by simp) (Ev.ifp (by simp) ?_))
  rw [e1]
  show Ev (fun k => if x = 0 then _ else _) _
  by_cases c : x = 0
  · rw [if_neg (by simp [c])]
    refine Ev.ifp c (Ev.round ?_)
    simp only [cmp_Or_int.l0]
    refine Ev.ifp (by simp) (Ev.ifp (by simp) (Ev.ifp (by simp) ?_))
    rw [e2]
    show Ev (fun k => if y = 0 then _ else _) _
    by_cases d : y = 0
    · subst d
      refine Ev.ifp rfl (Ev.round ?_)
      simp only [cmp_Or_int.l0]
      exact Ev.ifn (by simp) (Ev.some rfl)
    · exact Ev.ifn d (Ev.some rfl)
  · rw [if_pos c]
    exact Ev.ifn c (Ev.some rfl)
theorem sg_pos {x : Int} (h : 0 < x) : sg x = 1 := by unfold sg; rw [if_neg (by omega), if_pos h]
theorem sg_neg {x : Int} (h : x < 0) : sg x = -1 := by unfold sg; rw [if_pos h]
theorem sg_zero {x : Int} (h : x = 0) : sg x = 0 := by subst h; decide
theorem sg_sub_lex (A B : Int) : (if sg (A / 18446744073709551616 - B / 18446744073709551616) ≠ 0 then sg (A / 18446744073709551616 - B / 18446744073709551616) else sg (A % 18446744073709551616 - B % 18446744073709551616)) = sg (A - B) := by
  rcases Int.lt_trichotomy (A / 18446744073709551616 - B / 18446744073709551616) 0 with h | h | h
  · rw [sg_neg h, sg_neg (x := A - B) (by omega), if_pos (by decide)]
  · rw [sg_zero h]
    rcases Int.lt_trichotomy (A % 18446744073709551616 - B % 18446744073709551616) 0 with g | g | g
    · rw [sg_neg g, sg_neg (x := A - B) (by omega)]; decide
    · rw [sg_zero g, sg_zero (x := A - B) (by omega)]; decide
    · rw [sg_pos g, sg_pos (x := A - B) (by omega)]; decide
  · rw [sg_pos h, sg_pos (x := A - B) (by omega), if_pos (by decide)]
theorem ev_products {a b c d : Int} (ha0 : 0 ≤ a) (ha : a ≤ 18446744073709551615) (hb0 : 0 ≤ b) (hb : b ≤ 18446744073709551615) (hc0 : 0 ≤ c) (hc : c ≤ 18446744073709551615) (hd0 : 0 ≤ d) (hd : d ≤ 18446744073709551615) :
    Ev (fun k => measure_products.f k a b c d) (sg (a * b - c * d)) := by
  unfold measure_products.f
  refine Ev.bind0 (mul64_ok ha0 ha hb0 hb) (Ev.bind0 (mul64_ok hc0 hc hd0 hd) (Ev.bind0 (cmpu_ok _ _) (Ev.bind0 (cmpu_ok _ _) ?_)))
  refine Ev.bind (or_two _ _) (Ev.some ?_)
  exact sg_sub_lex (a * b) (c * d)

/-! ### the document's fractions -/
theorem ev_common (a b : Nat) : Ev (fun k => handref1_common.f k (a : Int) (b : Int)) ((Nat.gcd a b : Nat) : Int) := ev_gcd (l := handref1_common.l0) (fun _ _ _ => rfl) b a
theorem ev_reduced {n d : Int} (hn0 : -4611686018427387904 ≤ n) (hn1 : n ≤ 4611686018427387904) (hd0 : -4611686018427387904 ≤ d) (hd1 : d ≤ 4611686018427387904) (hd : d ≠ 0) :
    Ev (fun k => handref1_reduced.f k n d) (red n d) := by
  obtain ⟨g0, g1⟩ := gcd_big (n := n) hd0 hd1 hd
  have key : ∀ n' d' : Int, n'.natAbs = n.natAbs → d'.natAbs = d.natAbs → 0 < d' → -4611686018427387904 ≤ n' → n' ≤ 4611686018427387904 → -4611686018427387904 ≤ d' → d' ≤ 4611686018427387904 →
      Ev (fun k => (handref1_common.f k (mx n' (wrap64 (-n'))) d').bind fun t => (if t = 0 then none else some (wrap64 (Int.tdiv n' t), wrap64 (Int.tdiv d' t)))) (Int.tdiv n' (Int.gcd n d), Int.tdiv d' (Int.gcd n d)) := by
    intro n' d' en ed hp a b c e
    have m : mx n' (wrap64 (-n')) = ((n'.natAbs : Nat) : Int) := by rw [w64 (by omega) (by omega)]; unfold mx; omega
    rw [m]
    have ev := ev_common n'.natAbs d'.natAbs
    rw [show ((d'.natAbs : Nat) : Int) = d' by omega, en, ed, show Nat.gcd n.natAbs d.natAbs = Int.gcd n d from rfl, ← en] at ev
    refine Ev.bind ev (Ev.ifn (by omega) (Ev.some ?_))
    have h1 := tdiv_le (g := (Int.gcd n d : Int)) a b
    have h2 := tdiv_le (g := (Int.gcd n d : Int)) c e
    rw [w64 (by omega) (by omega), w64 (by omega) (by omega)]
  unfold handref1_reduced.f
  by_cases c : d < 0
  · refine Ev.ifp c ?_
    rw [w64 (n := -n) (by omega) (by omega), w64 (n := -d) (by omega) (by omega)]
    have := key (-n) (-d) (by omega) (by omega) (by omega) (by omega) (by omega) (by omega) (by omega)
    unfold red
    rw [if_pos c, if_pos c]
    exact this
  · refine Ev.ifn c ?_
    have := key n d rfl rfl (by omega) hn0 hn1 hd0 hd1
    unfold red
    rw [if_neg c, if_neg c]
    exact this

theorem floor_ok {a b : Int} (ha : -4611686018427387904 ≤ a ∧ a ≤ 4611686018427387904) (hb : 1 ≤ b) : handref1_floor.f a b = some (a / b) := by
  have e := Int.mul_tdiv_add_tmod a b
  obtain ⟨h1, h2⟩ := tmod_pos (a := a) (b := b) (by omega)
  have t := tdiv_le (g := b) ha.1 ha.2
  unfold handref1_floor.f
  rw [if_neg (by omega), w64 (n := Int.tdiv a b) (by omega) (by omega)]
  by_cases c : Int.tmod a b < 0
  · rw [if_pos c, w64 (by omega) (by omega)]
    have := (Int.ediv_emod_unique (a := a) (b := b) (r := Int.tmod a b + b) (q := Int.tdiv a b - 1) (by omega)).2 ⟨by rw [Int.mul_sub]; omega, by omega, by omega⟩
    rw [this.1]
  · rw [if_neg c]
    have := (Int.ediv_emod_unique (a := a) (b := b) (r := Int.tmod a b) (q := Int.tdiv a b) (by omega)).2 ⟨by omega, by omega, by omega⟩
    rw [this.1]
theorem cross_lt {a b c d : Int} (hb : 1 ≤ b) (hd : 1 ≤ d) (h : a / b < c / d) : a * d < c * b := by
  have e1 := Int.emod_add_mul_ediv a b
  have e2 := Int.emod_add_mul_ediv c d
  have m1 := Int.emod_lt_of_pos a (show 0 < b by omega)
  have m2 := Int.emod_nonneg c (show d ≠ 0 by omega)
  have h1 : b * (a / b + 1) ≤ b * (c / d) := Int.mul_le_mul_of_nonneg_left (by omega) (by omega)
  rw [Int.mul_add, Int.mul_one] at h1
  have h2 : a < b * (c / d) := by omega
  have h3 : a * d < b * (c / d) * d := Int.mul_lt_mul_of_pos_right h2 (by omega)
  have h4 : d * (c / d) * b ≤ c * b := Int.mul_le_mul_of_nonneg_right (by omega) (by omega)
  have h5 : b * (c / d) * d = d * (c / d) * b := by grind
  omega
theorem ev_CompareOf : ∀ (m : Nat) (a b c d : Int), -4611686018427387904 ≤ a ∧ a ≤ 4611686018427387904 → 1 ≤ b ∧ b ≤ 4611686018427387904 → -4611686018427387904 ≤ c ∧ c ≤ 4611686018427387904 → 1 ≤ d ∧ d ≤ 4611686018427387904 → b + d ≤ m →
    Ev (fun k => handref1_CompareOf.f k a b c d) (sg (a * d - c * b)) := by
  intro m
  induction m with
  | zero => intro a b c d _ _ _ _ h; omega
  | succ m ih =>
    intro a b c d ha hb hc hd hm
    refine Ev.round ?_
    simp only [handref1_CompareOf.f]
    refine Ev.bind0 (floor_ok ha hb.1) (Ev.bind0 (floor_ok hc hd.1) ?_)
    have e1 := Int.emod_add_mul_ediv a b
    have e2 := Int.emod_add_mul_ediv c d
    have m1 := Int.emod_lt_of_pos a (show 0 < b by omega)
    have m0 := Int.emod_nonneg a (show b ≠ 0 by omega)
    have n1 := Int.emod_lt_of_pos c (show 0 < d by omega)
    have n0 := Int.emod_nonneg c (show d ≠ 0 by omega)
    have c1 : a / b * b = b * (a / b) := Int.mul_comm _ _
    have c2 : c / d * d = d * (c / d) := Int.mul_comm _ _
    by_cases hq : a / b = c / d
    · refine Ev.ifp hq ?_
      have r1 : wrap64 (a - wrap64 (a / b * b)) = a % b := by rw [w64 (n := a / b * b) (by omega) (by omega), w64 (by omega) (by omega)]; omega
      have r2 : wrap64 (c - wrap64 (c / d * d)) = c % d := by rw [w64 (n := c / d * d) (by omega) (by omega), w64 (by omega) (by omega)]; omega
      rw [r1, r2]
      have er : a * d - c * b = a % b * d - c % d * b := by
        have : a * d = a % b * d + b * (a / b) * d := by rw [← Int.add_mul, e1]
        have : c * b = c % d * b + d * (c / d) * b := by rw [← Int.add_mul, e2]
        have : b * (a / b) * d = d * (c / d) * b := by rw [hq]; grind
        omega
      rw [er]
      by_cases z1 : a % b = 0
      · refine Ev.ifp z1 (Ev.round ?_)
        simp only [handref1_CompareOf.j0]
        refine Ev.ifp (by simp) (Ev.bind0 (cmp_ok _ _) (Ev.some ?_))
        rw [z1]
        by_cases z2 : c % d = 0
        · rw [z2, sg_zero (by omega), sg_zero (by omega)]
        · have : 0 < c % d * b := Int.mul_pos (by omega) (by omega)
          rw [sg_neg (by omega), sg_neg (by omega)]
      · refine Ev.ifn z1 (Ev.round ?_)
        simp only [handref1_CompareOf.j0]
        by_cases z2 : c % d = 0
        · refine Ev.ifp (by simp [z2]) (Ev.bind0 (cmp_ok _ _) (Ev.some ?_))
          have : 0 < a % b * d := Int.mul_pos (by omega) (by omega)
          rw [z2, sg_pos (by omega), sg_pos (by omega)]
        · refine Ev.ifn (by simp [z2]) (Ev.bind (ih d (c % d) b (a % b) ⟨by omega, by omega⟩ ⟨by omega, by omega⟩ ⟨by omega, by omega⟩ ⟨by omega, by omega⟩ (by omega)) (Ev.some ?_))
          rw [Int.mul_comm d, Int.mul_comm b]
    · refine Ev.ifn hq (Ev.bind0 (cmp_ok _ _) (Ev.some ?_))
      rcases Int.lt_or_lt_of_ne hq with h | h
      · have := cross_lt hb.1 hd.1 h
        rw [sg_neg (by omega), sg_neg (by omega)]
      · have := cross_lt hd.1 hb.1 h
        rw [sg_pos (by omega), sg_pos (by omega)]

/-! ### binomials and sums -/
def bin : Nat → Nat → Nat
  | _, 0 => 1
  | 0, _ + 1 => 0
  | n + 1, k + 1 => bin n k + bin n (k + 1)
theorem bin_zero (n : Nat) : bin n 0 = 1 := by cases n <;> rfl
theorem bin_succ (n k : Nat) : bin (n + 1) (k + 1) = bin n k + bin n (k + 1) := rfl
theorem bin_gt : ∀ (n k : Nat), n < k → bin n k = 0
  | 0, k + 1, _ => rfl
  | n + 1, k + 1, h => by rw [bin_succ, bin_gt n k (by omega), bin_gt n (k + 1) (by omega)]
theorem bin_self : ∀ n : Nat, bin n n = 1
  | 0 => rfl
  | n + 1 => by rw [bin_succ, bin_self n, bin_gt n (n + 1) (by omega)]
theorem bin_pos : ∀ (n k : Nat), k ≤ n → 0 < bin n k
  | n, 0, _ => by rw [bin_zero]; omega
  | n + 1, k + 1, h => by rw [bin_succ]; have := bin_pos n k (by omega); omega
theorem bin_mul : ∀ (n k : Nat), (k + 1) * bin n (k + 1) = bin n k * (n - k)
  | 0, 0 => rfl
  | 0, k + 1 => by rw [bin_gt 0 (k + 1 + 1) (by omega)]; simp
  | n + 1, 0 => by
    have := bin_mul n 0
    rw [bin_zero] at this
    rw [bin_succ, bin_zero, bin_zero]
    omega
  | n + 1, k + 1 => by
    have h1 := bin_mul n k
    have h2 := bin_mul n (k + 1)
    have e1 : (k + 1 + 1) * (bin n (k + 1) + bin n (k + 1 + 1)) = (k + 1) * bin n (k + 1) + bin n (k + 1) + (k + 1 + 1) * bin n (k + 1 + 1) := by
      rw [Nat.mul_add, Nat.add_mul (k + 1) 1, Nat.one_mul]
    have e2 : (bin n k + bin n (k + 1)) * (n - k) = bin n k * (n - k) + bin n (k + 1) * (n - k) := Nat.add_mul _ _ _
    rw [bin_succ n (k + 1), bin_succ n k, show n + 1 - (k + 1) = n - k by omega, e1, e2, ← h1, h2]
    rcases Nat.lt_or_ge n (k + 1) with h | h
    · rw [bin_gt n (k + 1) h]
      simp
    · rw [show n - k = n - (k + 1) + 1 by omega, Nat.mul_add (bin n (k + 1)), Nat.mul_one]
      omega
theorem bin_symm : ∀ (n k : Nat), k ≤ n → bin n (n - k) = bin n k
  | n, 0, _ => by rw [Nat.sub_zero, bin_self, bin_zero]
  | n + 1, k + 1, h => by
    rw [show n + 1 - (k + 1) = n - k by omega]
    rcases Nat.lt_or_ge k n with c | c
    · obtain ⟨m, hm⟩ : ∃ m, n - k = m + 1 := ⟨n - k - 1, by omega⟩
      have h1 := bin_symm n k (by omega)
      have h2 := bin_symm n (k + 1) (by omega)
      rw [show n - (k + 1) = m by omega] at h2
      rw [hm] at h1 ⊢
      rw [bin_succ, bin_succ, h1, h2]
      omega
    · have : k = n := by omega
      subst this
      rw [Nat.sub_self, bin_zero, bin_self]
def sumTo (f : Nat → Nat) : Nat → Nat
  | 0 => 0
  | m + 1 => sumTo f m + f m
theorem sumTo_congr {f g : Nat → Nat} : ∀ {m : Nat}, (∀ i, i < m → f i = g i) → sumTo f m = sumTo g m
  | 0, _ => rfl
  | m + 1, h => by rw [sumTo, sumTo, sumTo_congr (m := m) (fun i hi => h i (by omega)), h m (by omega)]
theorem sumTo_le {f g : Nat → Nat} : ∀ {m : Nat}, (∀ i, i < m → f i ≤ g i) → sumTo f m ≤ sumTo g m
  | 0, _ => Nat.le_refl _
  | m + 1, h => by rw [sumTo, sumTo]; exact Nat.add_le_add (sumTo_le (m := m) (fun i hi => h i (by omega))) (h m (by omega))
theorem sumTo_mul (f : Nat → Nat) (c : Nat) : ∀ m : Nat, sumTo (fun i => f i * c) m = sumTo f m * c
  | 0 => by simp [sumTo]
  | m + 1 => by rw [sumTo, sumTo, sumTo_mul f c m, Nat.add_mul]
theorem sumTo_term {f : Nat → Nat} {i : Nat} : ∀ {m : Nat}, i < m → f i ≤ sumTo f m
  | m + 1, h => by
    rw [sumTo]
    rcases Nat.lt_or_ge i m with c | c
    · have := sumTo_term (f := f) c; omega
    · have : i = m := by omega
      subst this; omega
theorem sumTo_front (f : Nat → Nat) : ∀ m : Nat, sumTo f (m + 1) = f 0 + sumTo (fun i => f (i + 1)) m
  | 0 => by simp [sumTo]
  | m + 1 => by rw [sumTo, sumTo_front f m, sumTo]; omega
theorem sumTo_rev (f : Nat → Nat) : ∀ m : Nat, sumTo (fun i => f (m - i)) (m + 1) = sumTo f (m + 1)
  | 0 => by simp [sumTo]
  | m + 1 => by
    rw [sumTo_front, sumTo_congr (g := fun i => f (m - i)) (fun i _ => by show f _ = f _; congr 1; omega), sumTo_rev f m]
    show f (m + 1 - 0) + sumTo f (m + 1) = sumTo f (m + 1) + f (m + 1)
    simp only [Nat.sub_zero]
    omega
theorem sumTo_zeros {f : Nat → Nat} {m : Nat} : ∀ {n : Nat}, m ≤ n → (∀ i, m ≤ i → f i = 0) → sumTo f n = sumTo f m
  | 0, h, _ => by have : m = 0 := by omega
                  subst this; rfl
  | n + 1, h, hz => by
    rcases Nat.lt_or_ge n m with c | c
    · have : m = n + 1 := by omega
      subst this; rfl
    · rw [sumTo, sumTo_zeros c hz, hz n c]; omega
theorem sumTo_two {f : Nat → Nat} {m n : Nat} (h1 : ∀ i, m ≤ i → f i = 0) (h2 : ∀ i, n ≤ i → f i = 0) : sumTo f m = sumTo f n := by
  rcases Nat.le_total m n with h | h
  · exact (sumTo_zeros h h1).symm
  · exact sumTo_zeros h h2
theorem bin_sum : ∀ (n m : Nat), sumTo (bin n) m ≤ 2 ^ n
  | 0, 0 => by simp [sumTo]
  | 0, m + 1 => by
    rw [sumTo_front, sumTo_congr (f := fun i => bin 0 (i + 1)) (g := fun _ => 0) (fun i _ => rfl)]
    have : ∀ m, sumTo (fun _ => 0) m = 0 := fun m => by induction m with
      | zero => rfl
      | succ m ih => rw [sumTo, ih]
    rw [this]; simp [bin_zero]
  | n + 1, 0 => by simp [sumTo]
  | n + 1, m + 1 => by
    have h1 := bin_sum n m
    have h2 := bin_sum n (m + 1)
    have e : ∀ m, sumTo (fun i => bin (n + 1) (i + 1)) m = sumTo (bin n) m + sumTo (fun i => bin n (i + 1)) m := fun m => by
      induction m with
      | zero => rfl
      | succ m ih => rw [sumTo, sumTo, sumTo, ih, bin_succ]; omega
    have h3 := sumTo_front (bin n) m
    rw [bin_zero] at h3
    rw [sumTo_front, e, bin_zero, Nat.pow_succ]
    omega
theorem bin_le (n k : Nat) : bin n k ≤ 2 ^ n := Nat.le_trans (sumTo_term (f := bin n) (Nat.lt_succ_self k)) (bin_sum n (k + 1))
theorem pow60 {n : Nat} (h : n ≤ 60) : 2 ^ n ≤ 1152921504606846976 := by
  have := Nat.pow_le_pow_right (n := 2) (by omega) h
  omega
/-- The step of the code: a binomial out of the one before it, every division exact. -/
theorem bin_next {n i : Nat} (hi : i < n) : bin n i / Nat.gcd (bin n i) (i + 1) * ((n - i) / ((i + 1) / Nat.gcd (bin n i) (i + 1))) = bin n (i + 1) := by
  have hm := bin_mul n i
  have hg : 0 < Nat.gcd (bin n i) (i + 1) := Nat.gcd_pos_of_pos_right _ (by omega)
  have hc := Nat.coprime_div_gcd_div_gcd hg
  obtain ⟨o, ho⟩ := Nat.gcd_dvd_left (bin n i) (i + 1)
  obtain ⟨j, hj⟩ := Nat.gcd_dvd_right (bin n i) (i + 1)
  generalize hG : Nat.gcd (bin n i) (i + 1) = g at *
  have e1 : bin n i / g = o := by rw [ho]; exact Nat.mul_div_cancel_left _ hg
  have e2 : (i + 1) / g = j := by rw [hj]; exact Nat.mul_div_cancel_left _ hg
  rw [e1, e2] at hc ⊢
  have hj0 : 0 < j := by
    rcases Nat.eq_zero_or_pos j with h | h
    · subst h; omega
    · exact h
  have k : j * bin n (i + 1) = o * (n - i) := by
    have hm' : g * j * bin n (i + 1) = g * o * (n - i) := by rw [← hj, ← ho]; exact hm
    rw [Nat.mul_assoc, Nat.mul_assoc] at hm'
    exact Nat.eq_of_mul_eq_mul_left hg hm'
  have hd : j ∣ n - i := hc.symm.dvd_of_dvd_mul_left ⟨_, k.symm⟩
  obtain ⟨q, hq⟩ := hd
  rw [hq, Nat.mul_div_cancel_left _ hj0]
  rw [hq, Nat.mul_left_comm] at k
  exact (Nat.eq_of_mul_eq_mul_left hj0 k).symm
theorem tdiv_nat (a b : Nat) : Int.tdiv (a : Int) (b : Int) = ((a / b : Nat) : Int) := by
  rw [Int.tdiv_eq_ediv_of_nonneg (by omega)]
  rfl

def binI (n : Nat) (k : Int) : Nat := if k < 0 then 0 else bin n k.toNat
theorem ev_choose_loop (n : Nat) (hn : n ≤ 60) (m : Nat) (hm : m ≤ n) : ∀ (d i : Nat), m - i = d → i ≤ m → Ev (fun k => measure_choose.l0 k (n : Int) (bin n i : Int) (m : Int) (i : Int)) (bin n m : Int) := by
  intro d
  induction d with
  | zero =>
    intro i hd hi
    have : i = m := by omega
    subst this
    refine Ev.round ?_
    simp only [measure_choose.l0]
    exact Ev.ifn (by omega) (Ev.some rfl)
  | succ d ih =>
    intro i hd hi
    have b1 := bin_le n i
    have b2 := pow60 hn
    have hg : 0 < Nat.gcd (bin n i) (i + 1) := Nat.gcd_pos_of_pos_right _ (by omega)
    have hg2 := Nat.gcd_le_right (bin n i) (show 0 < i + 1 by omega)
    refine Ev.round ?_
    simp only [measure_choose.l0]
    refine Ev.ifp (by omega) ?_
    rw [w64 (n := (i : Int) + 1) (by omega) (by omega), u64w (n := ((bin n i : Nat) : Int)) (by omega) (by omega), u64w (n := (i : Int) + 1) (by omega) (by omega)]
    refine Ev.bind (ev_divisor (bin n i) (i + 1)) ?_
    rw [w64 (n := ((Nat.gcd (bin n i) (i + 1) : Nat) : Int)) (by omega) (by omega)]
    have q1 : (i + 1) / Nat.gcd (bin n i) (i + 1) ≤ i + 1 := Nat.div_le_self _ _
    have q0 : 0 < (i + 1) / Nat.gcd (bin n i) (i + 1) := Nat.div_pos hg2 hg
    refine Ev.ifn (by omega) ?_
    rw [show (i : Int) + 1 = ((i + 1 : Nat) : Int) by omega, tdiv_nat, tdiv_nat, w64 (n := (((i + 1) / Nat.gcd (bin n i) (i + 1) : Nat) : Int)) (by omega) (by omega)]
    refine Ev.ifn (by omega) ?_
    have q3 : bin n i / Nat.gcd (bin n i) (i + 1) ≤ bin n i := Nat.div_le_self _ _
    have q4 : (n - i) / ((i + 1) / Nat.gcd (bin n i) (i + 1)) ≤ n - i := Nat.div_le_self _ _
    have q5 : (0 : Int) ≤ ((bin n i / Nat.gcd (bin n i) (i + 1) : Nat) : Int) ∧ ((bin n i / Nat.gcd (bin n i) (i + 1) : Nat) : Int) ≤ 1152921504606846976 := ⟨Int.natCast_nonneg _, Int.ofNat_le.mpr (Nat.le_trans q3 (Nat.le_trans b1 b2))⟩
    have q6 : (0 : Int) ≤ (((n - i) / ((i + 1) / Nat.gcd (bin n i) (i + 1)) : Nat) : Int) ∧ (((n - i) / ((i + 1) / Nat.gcd (bin n i) (i + 1)) : Nat) : Int) ≤ 60 := ⟨Int.natCast_nonneg _, by exact_mod_cast Nat.le_trans q4 (show n - i ≤ 60 by omega)⟩
    have e := bin_next (n := n) (i := i) (by omega)
    have b3 := bin_le n (i + 1)
    rw [w64 (n := (n : Int) - (i : Int)) (by omega) (by omega), show (n : Int) - (i : Int) = ((n - i : Nat) : Int) by omega, tdiv_nat, w64 (n := ((bin n i / Nat.gcd (bin n i) (i + 1) : Nat) : Int)) (Int.le_trans (by decide) q5.1) (Int.le_trans q5.2 (by decide)), w64 (n := (((n - i) / ((i + 1) / Nat.gcd (bin n i) (i + 1)) : Nat) : Int)) (Int.le_trans (by decide) q6.1) (Int.le_trans q6.2 (by decide)), ← Int.natCast_mul, e, w64 (n := ((bin n (i + 1) : Nat) : Int)) (by omega) (by omega)]
    exact ih (i + 1) (by omega) (by omega)
theorem ev_choose (n : Nat) (hn : n ≤ 60) (k : Int) (h0 : -1000 ≤ k) (h1 : k ≤ 1000) : Ev (fun K => measure_choose.f K (n : Int) k) (binI n k : Int) := by
  unfold measure_choose.f binI
  by_cases c : k < 0
  · rw [if_pos c]
    refine Ev.ifp c (Ev.round ?_)
    simp only [measure_choose.j0]
    exact Ev.ifp (by simp) (Ev.some rfl)
  · rw [if_neg c]
    refine Ev.ifn c (Ev.round ?_)
    simp only [measure_choose.j0]
    by_cases d : k > n
    · rw [bin_gt n k.toNat (by omega)]
      exact Ev.ifp (by simp [d]) (Ev.some rfl)
    · refine Ev.ifn (by simp; omega) ?_
      have e : mn k (wrap64 ((n : Int) - k)) = ((min k.toNat (n - k.toNat) : Nat) : Int) := by
        rw [w64 (by omega) (by omega)]; unfold mn; omega
      rw [e]
      have := ev_choose_loop n hn (min k.toNat (n - k.toNat)) (by omega) (min k.toNat (n - k.toNat)) 0 (by omega) (by omega)
      rw [bin_zero] at this
      have f : bin n (min k.toNat (n - k.toNat)) = bin n k.toNat := by
        rcases Nat.le_total k.toNat (n - k.toNat) with g | g
        · rw [Nat.min_eq_left g]
        · rw [Nat.min_eq_right g, bin_symm n k.toNat (by omega)]
      rw [f] at this
      exact this

/-! ### exact tests -/
/-- In how many ways x of a + c fall to the first arm. -/
def ways (a b c d x : Nat) : Nat := bin (a + b) x * (if x ≤ a + c then bin (c + d) (a + c - x) else 0)
def few (a b c d : Nat) : Nat := sumTo (fun x => if ways a b c d x ≤ ways a b c d a then ways a b c d x else 0) (a + c + 1)
def allW (a b c d : Nat) : Nat := sumTo (ways a b c d) (a + c + 1)
theorem ways_le (a b c d x : Nat) : ways a b c d x ≤ bin (a + b) x * 2 ^ (c + d) := by
  unfold ways
  refine Nat.mul_le_mul_left _ ?_
  split
  · exact bin_le _ _
  · exact Nat.zero_le _
theorem ways_sum (a b c d m : Nat) : sumTo (ways a b c d) m ≤ 2 ^ (a + b + (c + d)) := by
  refine Nat.le_trans (sumTo_le (g := fun i => bin (a + b) i * 2 ^ (c + d)) (fun i _ => ways_le a b c d i)) ?_
  rw [sumTo_mul, Nat.pow_add 2 (a + b)]
  exact Nat.mul_le_mul_right _ (bin_sum _ _)
theorem few_part_le (a b c d m : Nat) : sumTo (fun x => if ways a b c d x ≤ ways a b c d a then ways a b c d x else 0) m ≤ sumTo (ways a b c d) m := sumTo_le (fun i _ => by
  show (if _ then _ else _) ≤ _
  split
  · exact Nat.le_refl _
  · exact Nat.zero_le _)
theorem few_le (a b c d : Nat) : few a b c d ≤ allW a b c d := few_part_le a b c d _
theorem ways_own (a b c d : Nat) : 0 < ways a b c d a := by
  unfold ways
  rw [if_pos (by omega)]
  exact Nat.mul_pos (bin_pos _ _ (by omega)) (bin_pos _ _ (by omega))
theorem few_pos (a b c d : Nat) : 0 < few a b c d := by
  have h := sumTo_term (f := fun x => if ways a b c d x ≤ ways a b c d a then ways a b c d x else 0) (i := a) (m := a + c + 1) (by omega)
  simp only [Nat.le_refl, if_true] at h
  exact Nat.lt_of_lt_of_le (ways_own a b c d) h
theorem ev_ways {a b c d : Nat} (hs : a + b + c + d ≤ 60) {x : Nat} (hx : x ≤ a + c) :
    Ev (fun k => measure_Exact_1.f k (x : Int) (a : Int) (b : Int) (c : Int) (d : Int)) (ways a b c d x : Int) := by
  unfold measure_Exact_1.f
  rw [w64 (n := (a : Int) + b) (by omega) (by omega), w64 (n := (c : Int) + d) (by omega) (by omega), w64 (n := (a : Int) + c) (by omega) (by omega), w64 (n := (a : Int) + c - x) (by omega) (by omega)]
  rw [show (a : Int) + b = ((a + b : Nat) : Int) by omega, show (c : Int) + d = ((c + d : Nat) : Int) by omega]
  refine Ev.bind (ev_choose (a + b) (by omega) x (by omega) (by omega)) (Ev.bind (ev_choose (c + d) (by omega) _ (by omega) (by omega)) (Ev.some ?_))
  have e : binI (a + b) x * binI (c + d) ((a : Int) + c - x) = ways a b c d x := by
    unfold binI ways
    rw [if_neg (by omega), if_neg (by omega), if_pos hx]
    congr 2
    omega
  have l := Nat.le_trans (sumTo_term (f := ways a b c d) (Nat.lt_succ_self x)) (ways_sum a b c d (x + 1))
  have p := pow60 (n := a + b + (c + d)) (by omega)
  rw [← Int.natCast_mul, e, w64 (by omega) (by omega)]
theorem ev_exact_loop {a b c d : Nat} (hs : a + b + c + d ≤ 60) : ∀ (n x : Nat), a + c + 1 - x = n → x ≤ a + c + 1 →
    Ev (fun k => measure_Exact.l0 k (ways a b c d a : Int) (sumTo (fun x => if ways a b c d x ≤ ways a b c d a then ways a b c d x else 0) x : Int) (sumTo (ways a b c d) x : Int) ((a : Int) + c + 1) (x : Int) (a : Int) (b : Int) (c : Int) (d : Int))
      ((red (few a b c d) (allW a b c d)).1, (red (few a b c d) (allW a b c d)).2, 0) := by
  intro n
  have p := pow60 (n := a + b + (c + d)) (by omega)
  induction n with
  | zero =>
    intro x hn hx
    have : x = a + c + 1 := by omega
    subst this
    have l := ways_sum a b c d (a + c + 1)
    have f1 := few_le a b c d
    have f2 := few_pos a b c d
    refine Ev.round ?_
    simp only [measure_Exact.l0]
    refine Ev.ifn (by omega) (Ev.bind (ev_reduce (n := (few a b c d : Int)) (d := (allW a b c d : Int)) ?_ ?_ ?_ ?_ ?_) (Ev.some rfl)) <;> unfold allW at * <;> omega
  | succ n ih =>
    intro x hn hx
    have l := ways_sum a b c d (x + 1)
    have f := few_part_le a b c d (x + 1)
    have s1 : sumTo (ways a b c d) (x + 1) = sumTo (ways a b c d) x + ways a b c d x := rfl
    have s2 : sumTo (fun x => if ways a b c d x ≤ ways a b c d a then ways a b c d x else 0) (x + 1) = sumTo (fun x => if ways a b c d x ≤ ways a b c d a then ways a b c d x else 0) x + (if ways a b c d x ≤ ways a b c d a then ways a b c d x else 0) := rfl
    have := ih (x + 1) (by omega) (by omega)
    refine Ev.round ?_
    simp only [measure_Exact.l0]
    refine Ev.ifp (by omega) (Ev.bind (ev_ways hs (x := x) (by omega)) ?_)
    rw [w64 (n := (x : Int) + 1) (by omega) (by omega), w64 (n := ((sumTo (ways a b c d) x : Nat) : Int) + ((ways a b c d x : Nat) : Int)) (by omega) (by omega)]
    rw [s1, s2] at this
    by_cases q : ways a b c d x ≤ ways a b c d a
    · rw [if_pos q] at this s2
      refine Ev.ifp (by omega) ?_
      rw [w64 (by omega) (by omega), ← Int.natCast_add, ← Int.natCast_add, show (x : Int) + 1 = ((x + 1 : Nat) : Int) by omega]
      exact this
    · rw [if_neg q] at this
      refine Ev.ifn (by omega) ?_
      rw [← Int.natCast_add, show (x : Int) + 1 = ((x + 1 : Nat) : Int) by omega]
      exact this
theorem w1 : wrap64 (0 + 1) = 1 := by unfold wrap64; omega
theorem w2 : wrap64 (1 + 1) = 2 := by unfold wrap64; omega
theorem w3 : wrap64 (2 + 1) = 3 := by unfold wrap64; omega
theorem w4 : wrap64 (3 + 1) = 4 := by unfold wrap64; omega
theorem ev_min4 (a b c d : Int) : Ev (fun k => slices_Min_int_int.f k [a, b, c, d]) (mn (mn (mn a b) c) d) := by
  unfold slices_Min_int_int.f
  refine Ev.ifn (by simp) (Ev.ifp (by simp) (Ev.round ?_))
  simp only [slices_Min_int_int.l0]
  refine Ev.ifp (by simp) (Ev.ifp (by simp) (Ev.round ?_))
  simp only [slices_Min_int_int.l0, w2]
  refine Ev.ifp (by simp) (Ev.ifp (by simp) (Ev.round ?_))
  simp only [slices_Min_int_int.l0, w3]
  refine Ev.ifp (by simp) (Ev.ifp (by simp) (Ev.round ?_))
  simp only [slices_Min_int_int.l0, w4]
  exact Ev.ifn (by simp) (Ev.some rfl)
theorem ev_max4 (a b c d : Int) : Ev (fun k => slices_Max_int_int.f k [a, b, c, d]) (mx (mx (mx a b) c) d) := by
  unfold slices_Max_int_int.f
  refine Ev.ifn (by simp) (Ev.ifp (by simp) (Ev.round ?_))
  simp only [slices_Max_int_int.l0]
  refine Ev.ifp (by simp) (Ev.ifp (by simp) (Ev.round ?_))
  simp only [slices_Max_int_int.l0, w2]
  refine Ev.ifp (by simp) (Ev.ifp (by simp) (Ev.round ?_))
  simp only [slices_Max_int_int.l0, w3]
  refine Ev.ifp (by simp) (Ev.ifp (by simp) (Ev.round ?_))
  simp only [slices_Max_int_int.l0, w4]
  exact Ev.ifn (by simp) (Ev.some rfl)
theorem ev_sum4 (a b c d : Int) : Ev (fun k => measure_sumOf.f k [a, b, c, d]) (wrap64 (wrap64 (wrap64 (wrap64 (0 + a) + b) + c) + d)) := by
  unfold measure_sumOf.f
  refine Ev.round ?_
  simp only [measure_sumOf.l0]
  refine Ev.ifp (by simp) (Ev.ifp (by simp) (Ev.ifp (by simp) (Ev.round ?_)))
  simp only [measure_sumOf.l0, w1]
  refine Ev.ifp (by simp) (Ev.ifp (by simp) (Ev.ifp (by simp) (Ev.round ?_)))
  simp only [measure_sumOf.l0, w2]
  refine Ev.ifp (by simp) (Ev.ifp (by simp) (Ev.ifp (by simp) (Ev.round ?_)))
  simp only [measure_sumOf.l0, w3]
  refine Ev.ifp (by simp) (Ev.ifp (by simp) (Ev.ifp (by simp) (Ev.round ?_)))
  simp only [measure_sumOf.l0, w4]
  exact Ev.ifn (by simp) (Ev.some rfl)
theorem ev_Exact {a b c d : Nat} (hs : a + b + c + d ≤ 60) :
    Ev (fun k => measure_Exact.f k (a : Int) (b : Int) (c : Int) (d : Int)) ((red (few a b c d) (allW a b c d)).1, (red (few a b c d) (allW a b c d)).2, 0) := by
  unfold measure_Exact.f
  simp only [Option.bind_some]
  refine Ev.bind (ev_min4 _ _ _ _) (Ev.ifn (by unfold mn; omega) (Ev.bind (ev_max4 _ _ _ _) (Ev.ifn (by unfold mx; omega) (Ev.bind (ev_sum4 _ _ _ _) ?_))))
  rw [w64 (n := 0 + (a : Int)) (by omega) (by omega), w64 (n := 0 + (a : Int) + b) (by omega) (by omega), w64 (n := 0 + (a : Int) + b + c) (by omega) (by omega), w64 (n := 0 + (a : Int) + b + c + d) (by omega) (by omega)]
  refine Ev.round ?_
  simp only [measure_Exact.j0]
  refine Ev.ifn (by simp; omega) (Ev.bind (ev_ways hs (x := a) (by omega)) ?_)
  rw [w64 (n := (a : Int) + c) (by omega) (by omega), w64 (n := (a : Int) + c + 1) (by omega) (by omega)]
  exact ev_exact_loop hs (a + c + 1) 0 (by omega) (by omega)

def sfew (n k : Nat) : Nat := sumTo (fun x => if bin n x ≤ bin n k then bin n x else 0) (n + 1)
theorem sfew_part (n k m : Nat) : sumTo (fun x => if bin n x ≤ bin n k then bin n x else 0) m ≤ 2 ^ n := Nat.le_trans (sumTo_le (fun i _ => by
  show (if _ then _ else _) ≤ _
  split
  · exact Nat.le_refl _
  · exact Nat.zero_le _)) (bin_sum n m)
theorem sfew_pos {n k : Nat} (h : k ≤ n) : 0 < sfew n k := by
  have e := sumTo_term (f := fun x => if bin n x ≤ bin n k then bin n x else 0) (i := k) (m := n + 1) (by omega)
  simp only [Nat.le_refl, if_true] at e
  exact Nat.lt_of_lt_of_le (bin_pos n k h) e
theorem shl_one {n : Nat} (h : n ≤ 60) : shl .i64 1 (n : Int) = ((2 ^ n : Nat) : Int) := by
  have p := pow60 h
  unfold shl
  rw [show min ((n : Int)).toNat IntKind.i64.bits = n from by show min n 64 = n; omega, Int.one_mul, IntWalk.i64_left, show (2 : Int) ^ n = ((2 ^ n : Nat) : Int) by simp, w64 (Int.le_trans (by decide) (Int.natCast_nonneg _)) (Int.le_trans (Int.ofNat_le.mpr p) (by decide))]
theorem ev_signs_loop {n kk : Nat} (hn : n ≤ 60) (hk : kk ≤ n) : ∀ (m x : Nat), n + 1 - x = m → x ≤ n + 1 →
    Ev (fun k => measure_Signs.l0 k (n : Int) (kk : Int) (sumTo (fun x => if bin n x ≤ bin n kk then bin n x else 0) x : Int) ((n : Int) + 1) (x : Int))
      ((red (sfew n kk) (2 ^ n : Nat)).1, (red (sfew n kk) (2 ^ n : Nat)).2, 0) := by
  intro m
  have p := pow60 hn
  have p0 : 0 < 2 ^ n := Nat.two_pow_pos n
  induction m with
  | zero =>
    intro x hm hx
    have : x = n + 1 := by omega
    subst this
    have l := sfew_part n kk (n + 1)
    refine Ev.round ?_
    simp only [measure_Signs.l0]
    rw [shl_one hn]
    refine Ev.ifn (by omega) (Ev.ifp (by omega) (Ev.bind (ev_reduce (n := (sfew n kk : Int)) (d := ((2 ^ n : Nat) : Int)) ?_ ?_ ?_ ?_ ?_) (Ev.some rfl))) <;> unfold sfew at * <;> omega
  | succ m ih =>
    intro x hm hx
    have l := sfew_part n kk (x + 1)
    have s2 : sumTo (fun x => if bin n x ≤ bin n kk then bin n x else 0) (x + 1) = sumTo (fun x => if bin n x ≤ bin n kk then bin n x else 0) x + (if bin n x ≤ bin n kk then bin n x else 0) := rfl
    have := ih (x + 1) (by omega) (by omega)
    refine Ev.round ?_
    simp only [measure_Signs.l0]
    have e1 := ev_choose n hn x (by omega) (by omega)
    have e2 := ev_choose n hn kk (by omega) (by omega)
    unfold binI at e1 e2
    rw [if_neg (by omega), Int.toNat_natCast] at e1 e2
    refine Ev.ifp (by omega) (Ev.bind e1 (Ev.bind e2 ?_))
    rw [w64 (n := (x : Int) + 1) (by omega) (by omega)]
    rw [s2] at this l
    by_cases q : bin n x ≤ bin n kk
    · rw [if_pos q] at this l
      refine Ev.ifp (by omega) ?_
      rw [w64 (by omega) (by omega), ← Int.natCast_add, show (x : Int) + 1 = ((x + 1 : Nat) : Int) by omega]
      exact this
    · rw [if_neg q] at this
      refine Ev.ifn (by omega) ?_
      rw [show (x : Int) + 1 = ((x + 1 : Nat) : Int) by omega]
      exact this
theorem ev_Signs {n kk : Nat} (hn : n ≤ 60) (hk : kk ≤ n) : Ev (fun k => measure_Signs.f k (n : Int) (kk : Int)) ((red (sfew n kk) (2 ^ n : Nat)).1, (red (sfew n kk) (2 ^ n : Nat)).2, 0) := by
  unfold measure_Signs.f
  refine Ev.bind0 (within_ok _ _ _) (Ev.ifp (by simp; omega) (Ev.bind0 (within_ok _ _ _) (Ev.round ?_)))
  simp only [measure_Signs.j0]
  refine Ev.ifn (by simp; omega) ?_
  rw [w64 (n := (n : Int) + 1) (by omega) (by omega)]
  exact ev_signs_loop hn hk (n + 1) 0 (by omega) (by omega)

theorem pick_ok (l : List Int) (i : Int) (xs : List Int) (h0 : 0 ≤ i) (h1 : i ≤ 4611686018427387904) (hx : 1 ≤ xs.length) (hy : xs.length ≤ 1000) :
    ∃ v, handmake_Stream_Pick.f l i xs = some (v, i + 1) ∧ v ∈ xs := by
  obtain ⟨v, hv, a, b⟩ := next_ok l i (xs.length : Int) h0 h1 (by omega) (by omega)
  unfold handmake_Stream_Pick.f
  rw [hv]
  simp only [Option.bind_some]
  rw [if_pos a, if_pos b]
  refine ⟨_, rfl, ?_⟩
  unfold rd
  rw [List.getD_eq_getElem?_getD, List.getElem?_eq_getElem (by omega)]
  exact List.getElem_mem _
theorem flip_ok (l : List Int) (i n : Int) (h0 : 0 ≤ i) (h1 : i ≤ 1000000) (hn : 1 ≤ n) (hn2 : n ≤ 1000000) :
    ∃ v, handmake_Stream_Flip.f l i n = some (v, i + 1) := by
  obtain ⟨u, hu, a, b⟩ := next_ok l i n h0 (by omega) (by omega) (by omega)
  unfold handmake_Stream_Flip.f
  rw [hu]
  exact ⟨_, rfl⟩
theorem nat_of {v : Int} (h : 0 ≤ v) : ∃ n : Nat, v = (n : Int) := ⟨v.toNat, by omega⟩

/-! ### the document's tests -/
def prow (n : Nat) : List Int := (List.range (n + 1)).map fun i => (bin n i : Int)
def pnext (n i : Nat) : List Int := (List.range (n + 2)).map fun j => if j < i then (bin (n + 1) j : Int) else if j ≤ n then (bin n j : Int) else 1
theorem prow_len (n : Nat) : (prow n).length = n + 1 := by simp [prow]
theorem pnext_len (n i : Nat) : (pnext n i).length = n + 2 := by simp [pnext]
theorem rd_prow {n j : Nat} (h : j ≤ n) : rd (prow n) (j : Int) = (bin n j : Int) := by
  unfold rd
  rw [Int.toNat_natCast, List.getD_eq_getElem?_getD, List.getElem?_eq_getElem (by rw [prow_len]; omega)]
  simp [prow]
theorem pnext_first (n : Nat) : prow n ++ [1] = pnext n 1 := by
  refine List.ext_getElem (by simp [prow, pnext]) fun j h1 h2 => ?_
  rw [pnext_len] at h2
  simp only [pnext, List.getElem_map, List.getElem_range]
  by_cases c : j < n + 1
  · rw [List.getElem_append_left (by rw [prow_len]; exact c)]
    simp only [prow, List.getElem_map, List.getElem_range]
    by_cases d : j < 1
    · have : j = 0 := by omega
      subst this
      simp [bin_zero]
    · rw [if_neg d, if_pos (by omega)]
  · have : j = n + 1 := by omega
    subst this
    rw [if_neg (by omega), if_neg (by omega)]
    simp [prow]
theorem pnext_set {n i : Nat} (h : i ≤ n) : (pnext n i).set i (bin (n + 1) i : Int) = pnext n (i + 1) := by
  refine List.ext_getElem (by simp [pnext]) fun j h1 h2 => ?_
  rw [pnext_len] at h2
  rw [List.getElem_set]
  simp only [pnext, List.getElem_map, List.getElem_range]
  by_cases c : i = j
  · subst c
    rw [if_pos rfl, if_pos (by omega)]
  · rw [if_neg c]
    by_cases d : j < i
    · rw [if_pos d, if_pos (by omega)]
    · rw [if_neg d, if_neg (show ¬ j < i + 1 by omega)]
theorem pnext_last (n : Nat) : pnext n (n + 1) = prow (n + 1) := by
  refine List.ext_getElem (by simp [prow, pnext]) fun j h1 h2 => ?_
  rw [prow_len] at h2
  simp only [pnext, prow, List.getElem_map, List.getElem_range]
  by_cases c : j < n + 1
  · rw [if_pos c]
  · have : j = n + 1 := by omega
    subst this
    rw [if_neg (by omega), if_neg (by omega), bin_self]
    rfl
theorem ev_rows {N kk : Nat} (hN : N ≤ 60) (hk : kk ≤ N) : ∀ (m n : Nat), N - n = m → n ≤ N → Ev (fun k => handref1_ChooseOf.l0 k (kk : Int) (prow n) (N : Int) (n : Int)) (bin N kk : Int) := by
  intro m
  induction m with
  | zero =>
    intro n hm hn
    have : n = N := by omega
    subst this
    refine Ev.round ?_
    simp only [handref1_ChooseOf.l0]
    refine Ev.ifn (by omega) (Ev.ifp (by omega) (Ev.ifp (by rw [prow_len]; omega) (Ev.some ?_)))
    exact rd_prow hk
  | succ m ih =>
    intro n hm hn
    have inner : ∀ (q i : Nat), n + 1 - i = q → 1 ≤ i → i ≤ n + 1 → Ev (fun k => handref1_ChooseOf.l1 k (kk : Int) (prow n) (pnext n i) (i : Int) (N : Int) (n : Int)) (bin N kk : Int) := by
      intro q
      induction q with
      | zero =>
        intro i hq h1 hi
        have : i = n + 1 := by omega
        subst this
        refine Ev.round ?_
        simp only [handref1_ChooseOf.l1]
        refine Ev.ifn (by rw [prow_len]; omega) ?_
        rw [pnext_last, w64 (by omega) (by omega), show (n : Int) + 1 = ((n + 1 : Nat) : Int) by omega]
        exact ih (n + 1) (by omega) (by omega)
      | succ q ihq =>
        intro i hq h1 hi
        refine Ev.round ?_
        simp only [handref1_ChooseOf.l1]
        have b1 := bin_le n (i - 1)
        have b2 := bin_le n i
        have p := pow60 (n := n) (by omega)
        have e : rd (prow n) ((i : Int) - 1) = (bin n (i - 1) : Int) := by rw [show (i : Int) - 1 = ((i - 1 : Nat) : Int) by omega]; exact rd_prow (by omega)
        have s : bin (n + 1) i = bin n (i - 1) + bin n i := by
          obtain ⟨i', rfl⟩ : ∃ i', i = i' + 1 := ⟨i - 1, by omega⟩
          rfl
        rw [w64 (n := (i : Int) - 1) (by omega) (by omega), e, rd_prow (n := n) (j := i) (by omega), prow_len, pnext_len]
        refine Ev.ifp (by omega) (Ev.ifp (by omega) (Ev.ifp (by omega) (Ev.ifp (by omega) (Ev.ifp (by omega) ?_))))
        rw [w64 (n := (bin n (i - 1) : Int) + (bin n i : Int)) (by omega) (by omega), w64 (n := (i : Int) + 1) (by omega) (by omega), ← Int.natCast_add, ← s, Int.toNat_natCast, pnext_set (by omega), show (i : Int) + 1 = ((i + 1 : Nat) : Int) by omega]
        exact ihq (i + 1) (by omega) (by omega) (by omega)
    refine Ev.round ?_
    simp only [handref1_ChooseOf.l0]
    have c : slices_Clone_int_int.f (prow n) = some (prow n) := by
      unfold slices_Clone_int_int.f
      simp only [Option.bind_some]
      rw [if_pos (by rw [prow_len]; simp; omega)]
      rfl
    refine Ev.ifp (by omega) (Ev.bind0 c (Ev.ifp (by rw [prow_len]; omega) ?_))
    rw [pnext_first]
    exact inner n 1 (by omega) (by omega) (by omega)
theorem ev_ChooseOf {N kk : Nat} (hN : N ≤ 60) (hk : kk ≤ N) : Ev (fun k => handref1_ChooseOf.f k (N : Int) (kk : Int)) (bin N kk : Int) := by
  unfold handref1_ChooseOf.f
  exact ev_rows hN hk N 0 (by omega) (by omega)
theorem ev_signsOf_loop {n kk : Nat} (hn : n ≤ 60) (hk : kk ≤ n) : ∀ (m x : Nat), n + 1 - x = m → x ≤ n + 1 →
    Ev (fun k => handref1_SignsOf.l0 k (n : Int) (kk : Int) (sumTo (fun x => if bin n x ≤ bin n kk then bin n x else 0) x : Int) ((n : Int) + 1) (x : Int))
      (red (sfew n kk) (2 ^ n : Nat)) := by
  intro m
  have p := pow60 hn
  have p0 : 0 < 2 ^ n := Nat.two_pow_pos n
  induction m with
  | zero =>
    intro x hm hx
    have : x = n + 1 := by omega
    subst this
    have l := sfew_part n kk (n + 1)
    refine Ev.round ?_
    simp only [handref1_SignsOf.l0]
    rw [shl_one hn]
    refine Ev.ifn (by omega) (Ev.ifp (by omega) (Ev.bind (ev_reduced (n := (sfew n kk : Int)) (d := ((2 ^ n : Nat) : Int)) ?_ ?_ ?_ ?_ ?_) (Ev.some rfl))) <;> unfold sfew at * <;> omega
  | succ m ih =>
    intro x hm hx
    have l := sfew_part n kk (x + 1)
    have s2 : sumTo (fun x => if bin n x ≤ bin n kk then bin n x else 0) (x + 1) = sumTo (fun x => if bin n x ≤ bin n kk then bin n x else 0) x + (if bin n x ≤ bin n kk then bin n x else 0) := rfl
    have := ih (x + 1) (by omega) (by omega)
    refine Ev.round ?_
    simp only [handref1_SignsOf.l0]
    refine Ev.ifp (by omega) (Ev.bind (ev_ChooseOf hn (kk := x) (by omega)) (Ev.bind (ev_ChooseOf hn hk) ?_))
    rw [w64 (n := (x : Int) + 1) (by omega) (by omega)]
    rw [s2] at this l
    by_cases q : bin n x ≤ bin n kk
    · rw [if_pos q] at this l
      refine Ev.ifp (by omega) ?_
      rw [w64 (by omega) (by omega), ← Int.natCast_add, show (x : Int) + 1 = ((x + 1 : Nat) : Int) by omega]
      exact this
    · rw [if_neg q] at this
      refine Ev.ifn (by omega) ?_
      rw [show (x : Int) + 1 = ((x + 1 : Nat) : Int) by omega]
      exact this
theorem ev_SignsOf {n kk : Nat} (hn : n ≤ 60) (hk : kk ≤ n) : Ev (fun k => handref1_SignsOf.f k (n : Int) (kk : Int)) (red (sfew n kk) (2 ^ n : Nat)) := by
  unfold handref1_SignsOf.f
  rw [w64 (n := (n : Int) + 1) (by omega) (by omega)]
  exact ev_signsOf_loop hn hk (n + 1) 0 (by omega) (by omega)
theorem ev_waysOf {a b c d : Nat} (hs : a + b + c + d ≤ 60) {x : Nat} (hx : x ≤ a + c) :
    Ev (fun k => handref1_ExactOf_1.f k (x : Int) (a : Int) (c : Int) (b : Int) (d : Int)) (ways a b c d x : Int) := by
  have J : ∀ y : Int, Ev (fun k => handref1_ExactOf_1.j0 k (x : Int) y true (a : Int) (c : Int) (b : Int) (d : Int)) 0 := by
    intro y
    refine Ev.round ?_
    simp only [handref1_ExactOf_1.j0]
    exact Ev.ifp (by simp) (Ev.some rfl)
  unfold handref1_ExactOf_1.f
  rw [w64 (n := (a : Int) + c) (by omega) (by omega), w64 (n := (a : Int) + c - x) (by omega) (by omega), w64 (n := (a : Int) + b) (by omega) (by omega), w64 (n := (c : Int) + d) (by omega) (by omega)]
  refine Ev.ifn (by omega) (Ev.ifn (by omega) ?_)
  by_cases h1 : x ≤ a + b
  · refine Ev.ifn (by omega) ?_
    by_cases h2 : a + c - x ≤ c + d
    · rw [decide_eq_false (by omega)]
      refine Ev.round ?_
      simp only [handref1_ExactOf_1.j0]
      rw [w64 (n := (a : Int) + b) (by omega) (by omega), w64 (n := (c : Int) + d) (by omega) (by omega), show (a : Int) + b = ((a + b : Nat) : Int) by omega, show (c : Int) + d = ((c + d : Nat) : Int) by omega, show (a : Int) + c - x = ((a + c - x : Nat) : Int) by omega]
      refine Ev.ifn (by simp) (Ev.bind (ev_ChooseOf (by omega) h1) (Ev.bind (ev_ChooseOf (by omega) h2) (Ev.some ?_)))
      have e : bin (a + b) x * bin (c + d) (a + c - x) = ways a b c d x := by
        unfold ways
        rw [if_pos hx]
      have l := Nat.le_trans (sumTo_term (f := ways a b c d) (Nat.lt_succ_self x)) (ways_sum a b c d (x + 1))
      have p := pow60 (n := a + b + (c + d)) (by omega)
      rw [← Int.natCast_mul, e, w64 (by omega) (by omega)]
    · rw [decide_eq_true (by omega)]
      have : ways a b c d x = 0 := by
        unfold ways
        rw [if_pos hx, bin_gt (c + d) _ (by omega), Nat.mul_zero]
      rw [this]
      exact J _
  · have : ways a b c d x = 0 := by
      unfold ways
      rw [bin_gt (a + b) _ (by omega), Nat.zero_mul]
    rw [this]
    exact Ev.ifp (by omega) (J _)
theorem ev_exactOf_loop {a b c d : Nat} (hs : a + b + c + d ≤ 60) : ∀ (n x : Nat), a + c + 1 - x = n → x ≤ a + c + 1 →
    Ev (fun k => handref1_ExactOf.l0 k (sumTo (fun x => if ways a b c d x ≤ ways a b c d a then ways a b c d x else 0) x : Int) (sumTo (ways a b c d) x : Int) ((a : Int) + c + 1) (x : Int) (a : Int) (b : Int) (c : Int) (d : Int))
      (red (few a b c d) (allW a b c d)) := by
  intro n
  have p := pow60 (n := a + b + (c + d)) (by omega)
  induction n with
  | zero =>
    intro x hn hx
    have : x = a + c + 1 := by omega
    subst this
    have l := ways_sum a b c d (a + c + 1)
    have f1 := few_le a b c d
    have f2 := few_pos a b c d
    refine Ev.round ?_
    simp only [handref1_ExactOf.l0]
    refine Ev.ifn (by omega) (Ev.bind (ev_reduced (n := (few a b c d : Int)) (d := (allW a b c d : Int)) ?_ ?_ ?_ ?_ ?_) (Ev.some rfl)) <;> unfold allW at * <;> omega
  | succ n ih =>
    intro x hn hx
    have l := ways_sum a b c d (x + 1)
    have f := few_part_le a b c d (x + 1)
    have s1 : sumTo (ways a b c d) (x + 1) = sumTo (ways a b c d) x + ways a b c d x := rfl
    have s2 : sumTo (fun x => if ways a b c d x ≤ ways a b c d a then ways a b c d x else 0) (x + 1) = sumTo (fun x => if ways a b c d x ≤ ways a b c d a then ways a b c d x else 0) x + (if ways a b c d x ≤ ways a b c d a then ways a b c d x else 0) := rfl
    have := ih (x + 1) (by omega) (by omega)
    refine Ev.round ?_
    simp only [handref1_ExactOf.l0]
    refine Ev.ifp (by omega) (Ev.bind (ev_waysOf hs (x := x) (by omega)) (Ev.bind (ev_waysOf hs (x := a) (by omega)) ?_))
    rw [w64 (n := (x : Int) + 1) (by omega) (by omega), w64 (n := ((sumTo (ways a b c d) x : Nat) : Int) + ((ways a b c d x : Nat) : Int)) (by omega) (by omega)]
    rw [s1, s2] at this
    by_cases q : ways a b c d x ≤ ways a b c d a
    · rw [if_pos q] at this s2
      refine Ev.ifp (by omega) ?_
      rw [w64 (by omega) (by omega), ← Int.natCast_add, ← Int.natCast_add, show (x : Int) + 1 = ((x + 1 : Nat) : Int) by omega]
      exact this
    · rw [if_neg q] at this
      refine Ev.ifn (by omega) ?_
      rw [← Int.natCast_add, show (x : Int) + 1 = ((x + 1 : Nat) : Int) by omega]
      exact this
theorem ev_ExactOf {a b c d : Nat} (hs : a + b + c + d ≤ 60) : Ev (fun k => handref1_ExactOf.f k (a : Int) (b : Int) (c : Int) (d : Int)) (red (few a b c d) (allW a b c d)) := by
  unfold handref1_ExactOf.f
  rw [w64 (n := (a : Int) + c) (by omega) (by omega), w64 (n := (a : Int) + c + 1) (by omega) (by omega)]
  exact ev_exactOf_loop hs (a + c + 1) 0 (by omega) (by omega)

theorem ev_measures : Ev (fun k => handlaw1_measures.f k) true := by
  unfold handlaw1_measures.f
  refine Ev.bind (ev_Reduce 2 4) ?_
  rw [RedOf_24]
  exact Ev.ifp rfl (Ev.some rfl)
/-! #### choosing and signs -/
theorem ev_Choose (n k : Int) (hn0 : -1000 ≤ n) (hn : n ≤ 1000) (hk0 : -1000 ≤ k) (hk : k ≤ 1000) : Ev (fun K => measure_Choose.f K n k) (if (0 ≤ n ∧ n ≤ 60) ∧ (0 ≤ k ∧ k ≤ n) then ((bin n.toNat k.toNat : Int), 0) else (0, 1)) := by
  unfold measure_Choose.f
  refine Ev.bind0 (within_ok _ _ _) ?_
  by_cases c : 0 ≤ n ∧ n ≤ 60
  · rw [decide_eq_true c]
    refine Ev.ifp rfl (Ev.bind0 (within_ok _ _ _) ?_)
    by_cases d : 0 ≤ k ∧ k ≤ n
    · rw [decide_eq_true d, if_pos ⟨c, d⟩]
      have := ev_choose n.toNat (by omega) k (by omega) (by omega)
      unfold binI at this
      rw [if_neg (by omega), show ((n.toNat : Nat) : Int) = n by omega] at this
      exact Ev.ifp rfl (Ev.bind this (Ev.some rfl))
    · rw [decide_eq_false d, if_neg (fun h => d h.2)]
      exact Ev.ifn (by simp) (Ev.some rfl)
  · rw [decide_eq_false c, if_neg (fun h => c h.1)]
    exact Ev.ifn (by simp) (Ev.some rfl)
theorem ev_SignsBad {n k : Int} (h : ¬ ((0 ≤ n ∧ n ≤ 60) ∧ (0 ≤ k ∧ k ≤ n))) : Ev (fun K => measure_Signs.f K n k) (0, 0, 1) := by
  have J : Ev (fun K => measure_Signs.j0 K n k true) (0, 0, 1) := by
    refine Ev.round ?_
    simp only [measure_Signs.j0]
    exact Ev.ifp (by simp) (Ev.some rfl)
  unfold measure_Signs.f
  refine Ev.bind0 (within_ok _ _ _) ?_
  by_cases c : 0 ≤ n ∧ n ≤ 60
  · rw [decide_eq_true c]
    refine Ev.ifp rfl (Ev.bind0 (within_ok _ _ _) ?_)
    rw [decide_eq_false (fun d => h ⟨c, d⟩)]
    exact J
  · rw [decide_eq_false c]
    exact Ev.ifn (by simp) J
/-! #### what is wrong with four numbers -/
def fault4 (a b c d : Int) : Int := if a < 0 ∨ b < 0 ∨ c < 0 ∨ d < 0 then 1 else if a > 60 ∨ b > 60 ∨ c > 60 ∨ d > 60 ∨ a + b + c + d > 60 then 2 else 0
theorem ev_fault (a b c d : Int) : Ev (fun k => handref1_ExactFault.f k [a, b, c, d]) (fault4 a b c d) := by
  unfold handref1_ExactFault.f fault4
  refine Ev.round ?_
  simp only [handref1_ExactFault.l0]
  refine Ev.ifp (by simp) (Ev.ifp (by simp) (Ev.ifp (by simp) ?_))
  show Ev (fun k => if a < 0 then _ else _) _
  by_cases ha : a < 0
  · rw [if_pos (Or.inl ha)]; exact Ev.ifp ha (Ev.some rfl)
  refine Ev.ifn ha (Ev.round ?_)
  simp only [handref1_ExactFault.l0, w1]
  refine Ev.ifp (by simp) (Ev.ifp (by simp) (Ev.ifp (by simp) ?_))
  show Ev (fun k => if b < 0 then _ else _) _
  by_cases hb : b < 0
  · rw [if_pos (Or.inr (Or.inl hb))]; exact Ev.ifp hb (Ev.some rfl)
  refine Ev.ifn hb (Ev.round ?_)
  simp only [handref1_ExactFault.l0, w2]
  refine Ev.ifp (by simp) (Ev.ifp (by simp) (Ev.ifp (by simp) ?_))
  show Ev (fun k => if c < 0 then _ else _) _
  by_cases hc : c < 0
  · rw [if_pos (Or.inr (Or.inr (Or.inl hc)))]; exact Ev.ifp hc (Ev.some rfl)
  refine Ev.ifn hc (Ev.round ?_)
  simp only [handref1_ExactFault.l0, w3]
  refine Ev.ifp (by simp) (Ev.ifp (by simp) (Ev.ifp (by simp) ?_))
  show Ev (fun k => if d < 0 then _ else _) _
  by_cases hd : d < 0
  · rw [if_pos (Or.inr (Or.inr (Or.inr hd)))]; exact Ev.ifp hd (Ev.some rfl)
  refine Ev.ifn hd (Ev.round ?_)
  simp only [handref1_ExactFault.l0, w4]
  rw [if_neg (by omega)]
  refine Ev.ifn (by simp) (Ev.round ?_)
  simp only [handref1_ExactFault.l1]
  refine Ev.ifp (by simp) (Ev.ifp (by simp) (Ev.ifp (by simp) ?_))
  show Ev (fun k => if a > 60 then _ else handref1_ExactFault.l1 k (wrap64 (0 + a)) _ _ _) _
  by_cases ga : a > 60
  · exact Ev.ifp ga (Ev.some (if_pos (by omega)).symm)
  rw [w64 (n := 0 + a) (by omega) (by omega)]
  refine Ev.ifn ga (Ev.round ?_)
  simp only [handref1_ExactFault.l1, w1]
  refine Ev.ifp (by simp) (Ev.ifp (by simp) (Ev.ifp (by simp) ?_))
  show Ev (fun k => if b > 60 then _ else handref1_ExactFault.l1 k (wrap64 (0 + a + b)) _ _ _) _
  by_cases gb : b > 60
  · exact Ev.ifp gb (Ev.some (if_pos (by omega)).symm)
  rw [w64 (n := 0 + a + b) (by omega) (by omega)]
  refine Ev.ifn gb (Ev.round ?_)
  simp only [handref1_ExactFault.l1, w2]
  refine Ev.ifp (by simp) (Ev.ifp (by simp) (Ev.ifp (by simp) ?_))
  show Ev (fun k => if c > 60 then _ else handref1_ExactFault.l1 k (wrap64 (0 + a + b + c)) _ _ _) _
  by_cases gc : c > 60
  · exact Ev.ifp gc (Ev.some (if_pos (by omega)).symm)
  rw [w64 (n := 0 + a + b + c) (by omega) (by omega)]
  refine Ev.ifn gc (Ev.round ?_)
  simp only [handref1_ExactFault.l1, w3]
  refine Ev.ifp (by simp) (Ev.ifp (by simp) (Ev.ifp (by simp) ?_))
  show Ev (fun k => if d > 60 then _ else handref1_ExactFault.l1 k (wrap64 (0 + a + b + c + d)) _ _ _) _
  by_cases gd : d > 60
  · exact Ev.ifp gd (Ev.some (if_pos (by omega)).symm)
  rw [w64 (n := 0 + a + b + c + d) (by omega) (by omega)]
  refine Ev.ifn gd (Ev.round ?_)
  simp only [handref1_ExactFault.l1, w4]
  refine Ev.ifn (by simp) ?_
  by_cases g : 0 + a + b + c + d > 60
  · exact Ev.ifp g (Ev.some (if_pos (by omega)).symm)
  · exact Ev.ifn g (Ev.some (if_neg (by omega)).symm)
theorem ev_ExactBad {a b c d : Int} (h : fault4 a b c d ≠ 0) : Ev (fun k => measure_Exact.f k a b c d) (0, 0, fault4 a b c d) := by
  have J : Ev (fun k => measure_Exact.j0 k true a b c d) (0, 0, 2) := by
    refine Ev.round ?_
    simp only [measure_Exact.j0]
    exact Ev.ifp (by simp) (Ev.some rfl)
  unfold measure_Exact.f
  unfold fault4 at *
  simp only [Option.bind_some]
  refine Ev.bind (ev_min4 _ _ _ _) ?_
  by_cases hn : a < 0 ∨ b < 0 ∨ c < 0 ∨ d < 0
  · rw [if_pos hn]
    exact Ev.ifp (by unfold mn; omega) (Ev.some rfl)
  rw [if_neg hn] at h ⊢
  refine Ev.ifn (by unfold mn; omega) (Ev.bind (ev_max4 _ _ _ _) ?_)
  by_cases hm : a > 60 ∨ b > 60 ∨ c > 60 ∨ d > 60
  · rw [if_pos (by omega)]
    exact Ev.ifp (by unfold mx; omega) J
  refine Ev.ifn (by unfold mx; omega) (Ev.bind (ev_sum4 _ _ _ _) ?_)
  by_cases hs : a + b + c + d > 60
  · rw [w64 (n := 0 + a) (by omega) (by omega), w64 (n := 0 + a + b) (by omega) (by omega), w64 (n := 0 + a + b + c) (by omega) (by omega), w64 (n := 0 + a + b + c + d) (by omega) (by omega), decide_eq_true (by omega), if_pos (by omega)]
    exact J
  · rw [if_neg (by omega)] at h
    exact absurd rfl h
/-! #### verdicts -/
theorem sg_scale {g x : Int} (hg : 0 < g) : sg (g * x) = sg x := by
  rcases Int.lt_trichotomy x 0 with h | h | h
  · rw [sg_neg h, sg_neg (Int.mul_neg_of_pos_of_neg hg h)]
  · subst h; rw [Int.mul_zero]
  · rw [sg_pos h, sg_pos (Int.mul_pos hg h)]
theorem red_nat {n d : Nat} (hd : 0 < d) : ∃ g a b : Nat, 0 < g ∧ 0 < b ∧ n = g * a ∧ d = g * b ∧ red n d = ((a : Int), (b : Int)) := by
  have e : Int.gcd (n : Int) (d : Int) = Nat.gcd n d := rfl
  have hg : 0 < Nat.gcd n d := Nat.gcd_pos_of_pos_right _ hd
  refine ⟨Nat.gcd n d, n / Nat.gcd n d, d / Nat.gcd n d, hg, Nat.div_pos (Nat.gcd_le_right n hd) hg, (Nat.mul_div_cancel' (Nat.gcd_dvd_left n d)).symm, (Nat.mul_div_cancel' (Nat.gcd_dvd_right n d)).symm, ?_⟩
  unfold red
  rw [if_neg (by omega), if_neg (by omega), e, tdiv_nat, tdiv_nat]
theorem le_of_mul_pos {g a n : Nat} (hg : 0 < g) (h : n = g * a) : a ≤ n := by rw [h]; exact Nat.le_mul_of_pos_left _ hg
def verdict (a b c d level : Nat) : Int :=
  if a + b = 0 ∨ c + d = 0 ∨ sg ((few a b c d : Int) * 1000 - (level : Int) * (allW a b c d : Int)) > 0 then 0
  else if sg ((a : Int) * (c + d) - (c : Int) * (a + b)) = 1 then 1 else if sg ((a : Int) * (c + d) - (c : Int) * (a + b)) = -1 then 2 else 0
theorem ev_VerdictJ {a b c d : Nat} (hs : a + b + c + d ≤ 60) (q : Bool) : Ev (fun k => measure_Verdict.j0 k (a : Int) (b : Int) (c : Int) (d : Int) q)
    (if q = true then (0, 0) else if sg ((a : Int) * (c + d) - (c : Int) * (a + b)) = 1 then (1, 0) else if sg ((a : Int) * (c + d) - (c : Int) * (a + b)) = -1 then (2, 0) else (0, 0)) := by
  refine Ev.round ?_
  simp only [measure_Verdict.j0]
  cases q with
  | true => exact Ev.ifp rfl (Ev.some rfl)
  | false =>
    have m1 := mul_le_of (a := (a : Int)) (b := (c : Int) + d) (A := 60) (B := 60) (by omega) (by omega) (by omega) (by omega)
    have m2 := mul_le_of (a := (c : Int)) (b := (a : Int) + b) (A := 60) (B := 60) (by omega) (by omega) (by omega) (by omega)
    rw [w64 (n := (c : Int) + d) (by omega) (by omega), w64 (n := (a : Int) + b) (by omega) (by omega), w64 (n := (a : Int) * ((c : Int) + d)) (by omega) (by omega), w64 (n := (c : Int) * ((a : Int) + b)) (by omega) (by omega)]
    refine Ev.ifn (by simp) (Ev.bind0 (cmp_ok _ _) ?_)
    rw [if_neg (show ¬ (false = true) by simp)]
    by_cases c1 : sg ((a : Int) * (c + d) - (c : Int) * (a + b)) = 1
    · exact Ev.ifp c1 (Ev.some (if_pos c1).symm)
    · refine Ev.ifn c1 ?_
      by_cases c2 : sg ((a : Int) * (c + d) - (c : Int) * (a + b)) = -1
      · exact Ev.ifp c2 (Ev.some (by rw [if_neg c1, if_pos c2]))
      · exact Ev.ifn c2 (Ev.some (by rw [if_neg c1, if_neg c2]))
theorem few_bounds {a b c d : Nat} (hs : a + b + c + d ≤ 60) : 0 < few a b c d ∧ few a b c d ≤ allW a b c d ∧ allW a b c d ≤ 1152921504606846976 :=
  ⟨few_pos a b c d, few_le a b c d, Nat.le_trans (ways_sum a b c d _) (pow60 (by omega))⟩
theorem ev_Verdict {a b c d : Nat} (hs : a + b + c + d ≤ 60) (level : Int) (h0 : 0 ≤ level) (h1 : level ≤ 501) :
    Ev (fun k => measure_Verdict.f k (a : Int) (b : Int) (c : Int) (d : Int) level) (if 1 ≤ level ∧ level ≤ 500 then (verdict a b c d level.toNat, 0) else (0, 1)) := by
  obtain ⟨f0, f1, f2⟩ := few_bounds hs
  unfold measure_Verdict.f
  refine Ev.bind (ev_Exact hs) (Ev.ifp rfl (Ev.bind0 (within_ok _ _ _) ?_))
  by_cases hl : 1 ≤ level ∧ level ≤ 500
  rotate_left
  · rw [decide_eq_false hl, if_neg hl]
    exact Ev.ifn (by simp) (Ev.some rfl)
  rw [decide_eq_true hl, if_pos hl]
  refine Ev.ifp rfl ?_
  unfold verdict
  rw [w64 (n := (a : Int) + b) (by omega) (by omega), w64 (n := (c : Int) + d) (by omega) (by omega)]
  by_cases z1 : a + b = 0
  · rw [if_pos (Or.inl z1)]
    have := ev_VerdictJ hs true
    exact Ev.ifp (by omega) this
  refine Ev.ifn (by omega) ?_
  by_cases z2 : c + d = 0
  · rw [if_pos (Or.inr (Or.inl z2))]
    exact Ev.ifp (by omega) (ev_VerdictJ hs true)
  refine Ev.ifn (by omega) ?_
  obtain ⟨g, p, q, hg, hq, ep, eq_, er⟩ := red_nat (n := few a b c d) (d := allW a b c d) (by omega)
  have l1 := le_of_mul_pos hg ep
  have l2 := le_of_mul_pos hg eq_
  rw [er]
  show Ev (fun k => (measure_products.f k (IntKind.u64.wrap (p : Int)) 1000 (IntKind.u64.wrap level) (IntKind.u64.wrap (q : Int))).bind _) _
  rw [u64w (n := (p : Int)) (by omega) (by omega), u64w (n := level) (by omega) (by omega), u64w (n := (q : Int)) (by omega) (by omega)]
  refine Ev.bind (ev_products (by omega) (by omega) (by omega) (by omega) (by omega) (by omega) (by omega) (by omega)) ?_
  have s : sg ((few a b c d : Int) * 1000 - (level.toNat : Int) * (allW a b c d : Int)) = sg ((p : Int) * 1000 - level * q) := by
    rw [show (level.toNat : Int) = level by omega, ep, eq_, Int.natCast_mul, Int.natCast_mul, ← sg_scale (g := (g : Int)) (x := (p : Int) * 1000 - level * q) (by omega)]
    congr 1
    grind
  rw [s]
  have J := ev_VerdictJ hs (decide (sg ((p : Int) * 1000 - level * q) > 0))
  by_cases t : sg ((p : Int) * 1000 - level * q) > 0
  · rw [if_pos (Or.inr (Or.inr t))]
    rw [decide_eq_true t] at J ⊢
    exact J
  · rw [if_neg (by omega)]
    rw [decide_eq_false t] at J ⊢
    rw [if_neg (by simp)] at J
    split at J <;> split <;> (try split at J) <;> (try split) <;> simp_all
theorem ev_VerdictOfJ {a b c d : Nat} (hs : a + b + c + d ≤ 60) (h1 : 0 < a + b) (h2 : 0 < c + d) (q : Bool) : Ev (fun k => handref1_VerdictOf.j1 k (a : Int) (b : Int) (c : Int) (d : Int) q)
    (if q = true then (0, 0) else if sg ((a : Int) * (c + d) - (c : Int) * (a + b)) = 1 then (1, 0) else if sg ((a : Int) * (c + d) - (c : Int) * (a + b)) = -1 then (2, 0) else (0, 0)) := by
  refine Ev.round ?_
  simp only [handref1_VerdictOf.j1]
  cases q with
  | true => exact Ev.ifp rfl (Ev.some rfl)
  | false =>
    rw [w64 (n := (a : Int) + b) (by omega) (by omega), w64 (n := (c : Int) + d) (by omega) (by omega), if_neg (by simp)]
    obtain ⟨g, p, q, hg, hq, ep, eq_, er⟩ := red_nat (n := a) (d := a + b) h1
    obtain ⟨g', p', q', hg', hq', ep', eq_', er'⟩ := red_nat (n := c) (d := c + d) h2
    have l1 := le_of_mul_pos hg ep
    have l2 := le_of_mul_pos hg eq_
    have l3 := le_of_mul_pos hg' ep'
    have l4 := le_of_mul_pos hg' eq_'
    have r1 := ev_reduced (n := (a : Int)) (d := ((a + b : Nat) : Int)) (by omega) (by omega) (by omega) (by omega) (by omega)
    have r2 := ev_reduced (n := (c : Int)) (d := ((c + d : Nat) : Int)) (by omega) (by omega) (by omega) (by omega) (by omega)
    rw [er] at r1
    rw [er'] at r2
    rw [show (a : Int) + b = ((a + b : Nat) : Int) by omega, show (c : Int) + d = ((c + d : Nat) : Int) by omega]
    refine Ev.ifn (by simp) (Ev.bind r1 (Ev.bind r2 (Ev.bind (ev_CompareOf (q + q') (p : Int) (q : Int) (p' : Int) (q' : Int) (by omega) (by omega) (by omega) (by omega) (by omega)) ?_)))
    have s : sg ((a : Int) * ((c + d : Nat) : Int) - (c : Int) * ((a + b : Nat) : Int)) = sg ((p : Int) * q' - p' * q) := by
      rw [eq_, eq_']
      rw [show (a : Int) = ((g * p : Nat) : Int) by rw [← ep], show (c : Int) = ((g' * p' : Nat) : Int) by rw [← ep'], ← sg_scale (g := ((g * g' : Nat) : Int)) (x := (p : Int) * q' - p' * q) (by have := Nat.mul_pos hg hg'; omega)]
      congr 1
      simp only [Int.natCast_mul]
      grind
    rw [s]
    by_cases c1 : sg ((p : Int) * q' - p' * q) = 1
    · exact Ev.ifp c1 (Ev.some (if_pos c1).symm)
    · refine Ev.ifn c1 ?_
      by_cases c2 : sg ((p : Int) * q' - p' * q) = -1
      · exact Ev.ifp c2 (Ev.some (by rw [if_neg c1, if_pos c2]))
      · exact Ev.ifn c2 (Ev.some (by rw [if_neg c1, if_neg c2]))
theorem fault4_ok {a b c d : Nat} (hs : a + b + c + d ≤ 60) : fault4 a b c d = 0 := by
  unfold fault4
  rw [if_neg (by omega), if_neg (by omega)]
theorem ev_VerdictOf {a b c d : Nat} (hs : a + b + c + d ≤ 60) (level : Int) (h0 : 0 ≤ level) (h1 : level ≤ 501) :
    Ev (fun k => handref1_VerdictOf.f k (a : Int) (b : Int) (c : Int) (d : Int) level) (if 1 ≤ level ∧ level ≤ 500 then (verdict a b c d level.toNat, 0) else (0, 1)) := by
  obtain ⟨f0, f1, f2⟩ := few_bounds hs
  have J : Ev (fun k => handref1_VerdictOf.j0 k (a : Int) (b : Int) (c : Int) (d : Int) level true) (0, 1) := by
    refine Ev.round ?_
    simp only [handref1_VerdictOf.j0]
    exact Ev.ifp (by simp) (Ev.some rfl)
  have K : Ev (fun k => handref1_VerdictOf.j1 k (a : Int) (b : Int) (c : Int) (d : Int) true) (0, 0) := by
    refine Ev.round ?_
    simp only [handref1_VerdictOf.j1]
    exact Ev.ifp (by simp) (Ev.some rfl)
  unfold handref1_VerdictOf.f
  have F := ev_fault a b c d
  rw [fault4_ok hs] at F
  refine Ev.bind F (Ev.ifp rfl ?_)
  by_cases l1 : level < 1
  · rw [if_neg (by omega)]
    exact Ev.ifp l1 J
  refine Ev.ifn l1 ?_
  by_cases l2 : level > 500
  · rw [if_neg (by omega), decide_eq_true l2]
    exact J
  rw [if_pos (by omega), decide_eq_false l2]
  refine Ev.round ?_
  simp only [handref1_VerdictOf.j0]
  refine Ev.ifn (by simp) ?_
  unfold verdict
  rw [w64 (n := (a : Int) + b) (by omega) (by omega), w64 (n := (c : Int) + d) (by omega) (by omega)]
  by_cases z1 : a + b = 0
  · rw [if_pos (Or.inl z1)]
    exact Ev.ifp (by omega) K
  refine Ev.ifn (by omega) ?_
  by_cases z2 : c + d = 0
  · rw [if_pos (Or.inr (Or.inl z2))]
    exact Ev.ifp (by omega) K
  refine Ev.ifn (by omega) ?_
  obtain ⟨g, p, q, hg, hq, ep, eq_, er⟩ := red_nat (n := few a b c d) (d := allW a b c d) (by omega)
  obtain ⟨g', p', q', hg', hq', ep', eq_', er'⟩ := red_nat (n := level.toNat) (d := 1000) (by omega)
  have m1 := le_of_mul_pos hg ep
  have m2 := le_of_mul_pos hg eq_
  have m3 := le_of_mul_pos hg' ep'
  have m4 := le_of_mul_pos hg' eq_'
  have E1 := ev_ExactOf hs
  have E2 := ev_reduced (n := level) (d := 1000) (by omega) (by omega) (by omega) (by omega) (by omega)
  rw [er] at E1
  rw [show (level : Int) = ((level.toNat : Nat) : Int) by omega, show (1000 : Int) = ((1000 : Nat) : Int) from rfl, er'] at E2
  rw [show ((level.toNat : Nat) : Int) = level by omega] at E2
  refine Ev.bind E1 (Ev.bind E2 (Ev.bind (ev_CompareOf (q + q') (p : Int) (q : Int) (p' : Int) (q' : Int) (by omega) (by omega) (by omega) (by omega) (by omega)) ?_))
  have s : sg ((few a b c d : Int) * 1000 - (level.toNat : Int) * (allW a b c d : Int)) = sg ((p : Int) * q' - p' * q) := by
    rw [show (1000 : Int) = ((1000 : Nat) : Int) from rfl, eq_', ep, eq_]
    rw [show (level.toNat : Int) = ((g' * p' : Nat) : Int) by rw [← ep'], ← sg_scale (g := ((g * g' : Nat) : Int)) (x := (p : Int) * q' - p' * q) (by have := Nat.mul_pos hg hg'; omega)]
    congr 1
    simp only [Int.natCast_mul]
    grind
  rw [s]
  have J := ev_VerdictOfJ hs (by omega) (by omega) (decide (sg ((p : Int) * q' - p' * q) > 0))
  by_cases t : sg ((p : Int) * q' - p' * q) > 0
  · rw [if_pos (Or.inr (Or.inr t))]
    rw [decide_eq_true t] at J ⊢
    exact J
  · rw [if_neg (by omega)]
    rw [decide_eq_false t] at J ⊢
    rw [if_neg (by simp)] at J
    split at J <;> split <;> (try split at J) <;> (try split) <;> simp_all
theorem ev_VerdictBad {a b c d level : Int} (h : fault4 a b c d ≠ 0) : Ev (fun k => measure_Verdict.f k a b c d level) (0, fault4 a b c d) := by
  unfold measure_Verdict.f
  refine Ev.bind (ev_ExactBad h) ?_
  exact Ev.ifn h (Ev.some rfl)
theorem ev_VerdictOfBad {a b c d level : Int} (h : fault4 a b c d ≠ 0) : Ev (fun k => handref1_VerdictOf.f k a b c d level) (0, fault4 a b c d) := by
  unfold handref1_VerdictOf.f
  exact Ev.bind (ev_fault a b c d) (Ev.ifn h (Ev.some rfl))
/-! #### those who did it because of it -/
def extra (a b c d : Int) : Int × Int × Int := if (1 ≤ a ∧ a ≤ 1000000) ∧ (1 ≤ c ∧ c ≤ 1000000) ∧ (0 ≤ b ∧ b ≤ a) ∧ (0 ≤ d ∧ d ≤ c) then ((red (b * c - d * a) (a * c)).1, (red (b * c - d * a) (a * c)).2, 0) else (0, 0, 1)
theorem extra_nums {a b c d : Int} (h : (1 ≤ a ∧ a ≤ 1000000) ∧ (1 ≤ c ∧ c ≤ 1000000) ∧ (0 ≤ b ∧ b ≤ a) ∧ (0 ≤ d ∧ d ≤ c)) :
    wrap64 (wrap64 (b * c) - wrap64 (d * a)) = b * c - d * a ∧ wrap64 (a * c) = a * c ∧ -1000000000000 ≤ b * c - d * a ∧ b * c - d * a ≤ 1000000000000 ∧ 0 < a * c ∧ a * c ≤ 1000000000000 := by
  have m1 := mul_le_of (a := b) (b := c) (A := 1000000) (B := 1000000) (by omega) (by omega) (by omega) (by omega)
  have m2 := mul_le_of (a := d) (b := a) (A := 1000000) (B := 1000000) (by omega) (by omega) (by omega) (by omega)
  have m3 := mul_le_of (a := a) (b := c) (A := 1000000) (B := 1000000) (by omega) (by omega) (by omega) (by omega)
  have m4 : 0 < a * c := Int.mul_pos (by omega) (by omega)
  rw [w64 (n := b * c) (by omega) (by omega), w64 (n := d * a) (by omega) (by omega), w64 (n := a * c) (by omega) (by omega), w64 (n := b * c - d * a) (by omega) (by omega)]
  exact ⟨rfl, rfl, by omega, by omega, m4, by omega⟩
theorem ev_Extra (a b c d : Int) : Ev (fun k => measure_Extra.f k a b c d) (extra a b c d) := by
  unfold measure_Extra.f
  refine Ev.bind0 (within_ok _ _ _) ?_
  by_cases h1 : 1 ≤ a ∧ a ≤ 1000000
  rotate_left
  · rw [decide_eq_false h1, show extra a b c d = (0, 0, 1) from if_neg (fun h => h1 h.1)]
    exact Ev.ifn (by simp) (Ev.some rfl)
  rw [decide_eq_true h1]
  refine Ev.ifp rfl (Ev.bind0 (within_ok _ _ _) ?_)
  by_cases h2 : 1 ≤ c ∧ c ≤ 1000000
  rotate_left
  · rw [decide_eq_false h2, show extra a b c d = (0, 0, 1) from if_neg (fun h => h2 h.2.1)]
    exact Ev.ifn (by simp) (Ev.some rfl)
  rw [decide_eq_true h2]
  refine Ev.ifp rfl (Ev.bind0 (within_ok _ _ _) ?_)
  by_cases h3 : 0 ≤ b ∧ b ≤ a
  rotate_left
  · rw [decide_eq_false h3, show extra a b c d = (0, 0, 1) from if_neg (fun h => h3 h.2.2.1)]
    exact Ev.ifn (by simp) (Ev.some rfl)
  rw [decide_eq_true h3]
  refine Ev.ifp rfl (Ev.bind0 (within_ok _ _ _) ?_)
  by_cases h4 : 0 ≤ d ∧ d ≤ c
  rotate_left
  · rw [decide_eq_false h4, show extra a b c d = (0, 0, 1) from if_neg (fun h => h4 h.2.2.2)]
    exact Ev.ifn (by simp) (Ev.some rfl)
  rw [decide_eq_true h4]
  obtain ⟨e1, e2, b1, b2, b3, b4⟩ := extra_nums ⟨h1, h2, h3, h4⟩
  rw [e1, e2, show extra a b c d = _ from if_pos ⟨h1, h2, h3, h4⟩]
  exact Ev.ifp rfl (Ev.bind (ev_reduce (by omega) (by omega) (by omega) (by omega) (by omega)) (Ev.some rfl))
theorem ev_ExtraOf (a b c d : Int) : Ev (fun k => handref1_ExtraOf.f k a b c d) (extra a b c d) := by
  have bad : ¬ ((1 ≤ a ∧ a ≤ 1000000) ∧ (1 ≤ c ∧ c ≤ 1000000) ∧ (0 ≤ b ∧ b ≤ a) ∧ (0 ≤ d ∧ d ≤ c)) → extra a b c d = (0, 0, 1) := fun h => if_neg h
  unfold handref1_ExtraOf.f
  simp only [Option.bind_some]
  refine Ev.round ?_
  simp only [handref1_ExtraOf.l0]
  refine Ev.ifp (by simp) (Ev.ifp (by simp) (Ev.ifp (by simp) ?_))
  rw [w1]
  show Ev (fun k => if a < 1 then _ else if a > 1000000 then _ else if b < 0 then _ else if b > a then _ else _) _
  by_cases c1 : a < 1
  · rw [bad (by omega)]; exact Ev.ifp c1 (Ev.some rfl)
  refine Ev.ifn c1 ?_
  by_cases c2 : a > 1000000
  · rw [bad (by omega)]; exact Ev.ifp c2 (Ev.some rfl)
  refine Ev.ifn c2 ?_
  by_cases c3 : b < 0
  · rw [bad (by omega)]; exact Ev.ifp c3 (Ev.some rfl)
  refine Ev.ifn c3 ?_
  by_cases c4 : b > a
  · rw [bad (by omega)]; exact Ev.ifp c4 (Ev.some rfl)
  refine Ev.ifn c4 (Ev.round ?_)
  simp only [handref1_ExtraOf.l0]
  refine Ev.ifp (by simp) (Ev.ifp (by simp) (Ev.ifp (by simp) ?_))
  rw [w2]
  show Ev (fun k => if c < 1 then _ else if c > 1000000 then _ else if d < 0 then _ else if d > c then _ else _) _
  by_cases c5 : c < 1
  · rw [bad (by omega)]; exact Ev.ifp c5 (Ev.some rfl)
  refine Ev.ifn c5 ?_
  by_cases c6 : c > 1000000
  · rw [bad (by omega)]; exact Ev.ifp c6 (Ev.some rfl)
  refine Ev.ifn c6 ?_
  by_cases c7 : d < 0
  · rw [bad (by omega)]; exact Ev.ifp c7 (Ev.some rfl)
  refine Ev.ifn c7 ?_
  by_cases c8 : d > c
  · rw [bad (by omega)]; exact Ev.ifp c8 (Ev.some rfl)
  refine Ev.ifn c8 (Ev.round ?_)
  simp only [handref1_ExtraOf.l0]
  have hh : (1 ≤ a ∧ a ≤ 1000000) ∧ (1 ≤ c ∧ c ≤ 1000000) ∧ (0 ≤ b ∧ b ≤ a) ∧ (0 ≤ d ∧ d ≤ c) := by omega
  obtain ⟨e1, e2, b1, b2, b3, b4⟩ := extra_nums hh
  rw [e1, e2, show extra a b c d = _ from if_pos hh]
  exact Ev.ifn (by simp) (Ev.bind (ev_reduced (by omega) (by omega) (by omega) (by omega) (by omega)) (Ev.some rfl))
/-! #### the law -/
theorem ev_j3 (l : List Int) (i : Int) (h0 : 0 ≤ i) (h1 : i ≤ 100000) : Ev (fun k => handlaw1_TestsExact.j3 k false l i) true := by
  obtain ⟨a, ha, ma⟩ := pick_ok l i [1, 4, 1000, 1000000, 0, 1000001] h0 (by omega) (by simp) (by simp)
  obtain ⟨c, hc, mc⟩ := pick_ok l (i + 1) [1, 4, 999999, 0] (by omega) (by omega) (by simp) (by simp)
  simp only [List.mem_cons, List.not_mem_nil, or_false] at ma mc
  obtain ⟨b, hb, b0, b1⟩ := next_ok l (i + 1 + 1) (mx a 1 + 1) (by omega) (by omega) (by unfold mx; omega) (by unfold mx; omega)
  obtain ⟨d, hd, md⟩ := pick_ok l (i + 1 + 1 + 1) [0, c, wrap64 (c + 1), 1] (by omega) (by omega) (by simp) (by simp)
  have e : wrap64 (mx a 1 + 1) = mx a 1 + 1 := w64 (by unfold mx; omega) (by unfold mx; omega)
  refine Ev.round ?_
  simp only [handlaw1_TestsExact.j3]
  refine Ev.ifn (by simp) (Ev.bind0 ha (Ev.bind0 hc ?_))
  simp only [e]
  refine Ev.bind0 hb (Ev.bind0 hd (Ev.bind (ev_Extra a b c d) (Ev.bind (ev_ExtraOf a b c d) (Ev.bind ev_measures (Ev.ifp rfl (Ev.ifp rfl (Ev.some ?_)))))))
  simp
theorem ev_j2 (l : List Int) (i : Int) (h0 : 0 ≤ i) (h1 : i ≤ 100000) (a b c d level : Int) (hl0 : 0 ≤ level) (hl1 : level ≤ 501) : Ev (fun k => handlaw1_TestsExact.j2 k [a, b, c, d] level false l i) true := by
  refine Ev.round ?_
  simp only [handlaw1_TestsExact.j2]
  refine Ev.ifn (by simp) (Ev.ifp (by simp) (Ev.ifp (by simp) (Ev.ifp (by simp) (Ev.ifp (by simp) ?_))))
  show Ev (fun k => (measure_Verdict.f k a b c d level).bind fun bt331 => ((handref1_VerdictOf.f k a b c d level).bind fun bt337 => _)) _
  have go : ∀ r : Int × Int, Ev (fun k => measure_Verdict.f k a b c d level) r → Ev (fun k => handref1_VerdictOf.f k a b c d level) r → Ev (fun k => (measure_Verdict.f k a b c d level).bind fun bt331 => ((handref1_VerdictOf.f k a b c d level).bind fun bt337 => (if bt331.2 = bt337.2 then (handlaw1_TestsExact.j3 k (bt331.1 != bt337.1) l i) else (handlaw1_TestsExact.j3 k true l i)))) true := by
    intro r r1 r2
    refine Ev.bind r1 (Ev.bind r2 (Ev.ifp rfl ?_))
    simp only [bne_self_eq_false]
    exact ev_j3 l i h0 h1
  by_cases f : fault4 a b c d = 0
  · unfold fault4 at f
    have hn : ¬ (a < 0 ∨ b < 0 ∨ c < 0 ∨ d < 0) := fun h => by rw [if_pos h] at f; omega
    rw [if_neg hn] at f
    have hs : ¬ (a > 60 ∨ b > 60 ∨ c > 60 ∨ d > 60 ∨ a + b + c + d > 60) := fun h => by rw [if_pos h] at f; omega
    obtain ⟨a, rfl⟩ := nat_of (v := a) (by omega)
    obtain ⟨b, rfl⟩ := nat_of (v := b) (by omega)
    obtain ⟨c, rfl⟩ := nat_of (v := c) (by omega)
    obtain ⟨d, rfl⟩ := nat_of (v := d) (by omega)
    exact go _ (ev_Verdict (by omega) level hl0 hl1) (ev_VerdictOf (by omega) level hl0 hl1)
  · exact go _ (ev_VerdictBad f) (ev_VerdictOfBad f)
theorem four_ok (l : List Int) (i : Int) (h0 : 0 ≤ i) (h1 : i ≤ 100000) : ∃ a b c d j, handmake_Stream_Four.f l i = some ([a, b, c, d], j) ∧ 0 ≤ j ∧ j ≤ i + 100 := by
  obtain ⟨m, hm, mm⟩ := pick_ok l i [4, 10, 15, 16] h0 (by omega) (by simp) (by simp)
  simp only [List.mem_cons, List.not_mem_nil, or_false] at mm
  obtain ⟨a, ha, _⟩ := next_ok l (i + 1) (m + 1) (by omega) (by omega) (by omega) (by omega)
  obtain ⟨b, hb, _⟩ := next_ok l (i + 1 + 1) (m + 1) (by omega) (by omega) (by omega) (by omega)
  obtain ⟨c, hc, _⟩ := next_ok l (i + 1 + 1 + 1) (m + 1) (by omega) (by omega) (by omega) (by omega)
  obtain ⟨d, hd, _⟩ := next_ok l (i + 1 + 1 + 1 + 1) (m + 1) (by omega) (by omega) (by omega) (by omega)
  obtain ⟨f, hf⟩ := flip_ok l (i + 1 + 1 + 1 + 1 + 1) 12 (by omega) (by omega) (by omega) (by omega)
  obtain ⟨q, hq, q0, q1⟩ := next_ok l (i + 1 + 1 + 1 + 1 + 1 + 1) 4 (by omega) (by omega) (by omega) (by omega)
  obtain ⟨v, hv, _⟩ := pick_ok l (i + 1 + 1 + 1 + 1 + 1 + 1 + 1) [(-1), 60, 61, 9223372036854775807] (by omega) (by omega) (by simp) (by simp)
  have e : wrap64 (m + 1) = m + 1 := w64 (by omega) (by omega)
  unfold handmake_Stream_Four.f
  rw [hm]
  simp only [Option.bind_some, e, ha, hb, hc, hd, hf]
  cases f with
  | false =>
    rw [if_neg (by simp)]
    exact ⟨a, b, c, d, _, rfl, by omega, by omega⟩
  | true =>
    simp only [hq, hv, Option.bind_some]
    rw [if_pos trivial, if_pos q0, if_pos (by simp; omega)]
    have : q = 0 ∨ q = 1 ∨ q = 2 ∨ q = 3 := by omega
    rcases this with rfl | rfl | rfl | rfl
    · exact ⟨v, b, c, d, _, rfl, by omega, by omega⟩
    · exact ⟨a, v, c, d, _, rfl, by omega, by omega⟩
    · exact ⟨a, b, v, d, _, rfl, by omega, by omega⟩
    · exact ⟨a, b, c, v, _, rfl, by omega, by omega⟩
theorem ev_j1 (l : List Int) (i : Int) (h0 : 0 ≤ i) (h1 : i ≤ 1000) : Ev (fun k => handlaw1_TestsExact.j1 k l i) true := by
  obtain ⟨a, b, c, d, j, hf, j0, j1⟩ := four_ok l i h0 (by omega)
  obtain ⟨v, hv, mv⟩ := pick_ok l j [1, 50, 100, 500, 0, 501] j0 (by omega) (by simp) (by simp)
  simp only [List.mem_cons, List.not_mem_nil, or_false] at mv
  refine Ev.round ?_
  simp only [handlaw1_TestsExact.j1]
  refine Ev.bind0 hf (Ev.bind0 hv (Ev.ifp (by simp) (Ev.ifp (by simp) (Ev.ifp (by simp) (Ev.ifp (by simp) ?_)))))
  show Ev (fun k => (measure_Exact.f k a b c d).bind fun bt316 => ((handref1_ExactFault.f k [a, b, c, d]).bind fun t320 => (if bt316.2.2 = t320 then (if t320 = 0 then ((handref1_ExactOf.f k a b c d).bind fun bt325 => (handlaw1_TestsExact.j2 k [a, b, c, d] v (!(bt316.1 == bt325.1) || (!(bt316.2.1 == bt325.2))) l (j + 1))) else (handlaw1_TestsExact.j2 k [a, b, c, d] v false l (j + 1))) else (handlaw1_TestsExact.j2 k [a, b, c, d] v true l (j + 1))))) _
  have J2 := ev_j2 l (j + 1) (by omega) (by omega) a b c d v (by omega) (by omega)
  by_cases f : fault4 a b c d = 0
  · have F := ev_fault a b c d
    rw [f] at F
    unfold fault4 at f
    have hn : ¬ (a < 0 ∨ b < 0 ∨ c < 0 ∨ d < 0) := fun h => by rw [if_pos h] at f; omega
    rw [if_neg hn] at f
    have hs : ¬ (a > 60 ∨ b > 60 ∨ c > 60 ∨ d > 60 ∨ a + b + c + d > 60) := fun h => by rw [if_pos h] at f; omega
    obtain ⟨a, rfl⟩ := nat_of (v := a) (by omega)
    obtain ⟨b, rfl⟩ := nat_of (v := b) (by omega)
    obtain ⟨c, rfl⟩ := nat_of (v := c) (by omega)
    obtain ⟨d, rfl⟩ := nat_of (v := d) (by omega)
    refine Ev.bind (ev_Exact (by omega)) (Ev.bind F (Ev.ifp rfl (Ev.ifp rfl (Ev.bind (ev_ExactOf (by omega)) ?_))))
    simp only [beq_self_eq_true, Bool.not_true, Bool.or_self]
    exact J2
  · exact Ev.bind (ev_ExactBad f) (Ev.bind (ev_fault a b c d) (Ev.ifp rfl (Ev.ifn f J2)))
theorem TestsExact : handlaw1_TestsExact.Pure := by
  intro l hm hl hw
  refine Ev.rounds (r := true) ?_
  obtain ⟨n, hn, mn_⟩ := pick_ok l 0 [0, 1, 5, 30, 59, 60, 61, (-1)] (by omega) (by omega) (by simp) (by simp)
  obtain ⟨k, hk, mk⟩ := pick_ok l (0 + 1) [0, 1, wrap64 (Int.tdiv n 2), n, wrap64 (n + 1), (-1)] (by omega) (by omega) (by simp) (by simp)
  simp only [List.mem_cons, List.not_mem_nil, or_false] at mn_ mk
  have t : -1 ≤ Int.tdiv n 2 ∧ Int.tdiv n 2 ≤ 61 := by
    have := Int.natAbs_tdiv_le_natAbs n 2
    rcases mn_ with rfl | rfl | rfl | rfl | rfl | rfl | rfl | rfl <;> decide
  rw [w64 (n := Int.tdiv n 2) (by omega) (by omega), w64 (n := n + 1) (by omega) (by omega)] at mk
  unfold handlaw1_TestsExact.f
  refine Ev.bind0 hn (Ev.bind0 hk (Ev.bind (ev_Choose n k (by omega) (by omega) (by omega) (by omega)) ?_))
  have J1 := ev_j1 l (0 + 1 + 1) (by omega) (by omega)
  by_cases g : (0 ≤ n ∧ n ≤ 60) ∧ (0 ≤ k ∧ k ≤ n)
  · obtain ⟨n, rfl⟩ := nat_of (v := n) (by omega)
    obtain ⟨k, rfl⟩ := nat_of (v := k) (by omega)
    rw [if_pos g]
    refine Ev.bind (ev_Signs (n := n) (kk := k) (by omega) (by omega)) (Ev.ifn (by omega) (Ev.ifn (by omega) (Ev.ifn (by omega) ?_)))
    rw [decide_eq_false (by omega)]
    refine Ev.round ?_
    simp only [handlaw1_TestsExact.j0]
    refine Ev.ifn (by simp) (Ev.ifp (by simp) (Ev.ifp (by simp) (Ev.bind (ev_ChooseOf (by omega) (by omega)) (Ev.ifp (by simp) (Ev.bind (ev_SignsOf (by omega) (by omega)) (Ev.ifn (by simp) J1))))))
  · rw [if_neg g]
    have B : Ev (fun K => handlaw1_TestsExact.j0 K n k 0 1 1 true l (0 + 1 + 1) 0 0) true := by
      refine Ev.round ?_
      simp only [handlaw1_TestsExact.j0]
      exact Ev.ifp (by simp) (Ev.ifp (by simp) (Ev.ifp (by simp) J1))
    refine Ev.bind (ev_SignsBad g) ?_
    by_cases g1 : n < 0
    · exact Ev.ifp g1 B
    refine Ev.ifn g1 ?_
    by_cases g2 : n > 60
    · exact Ev.ifp g2 B
    refine Ev.ifn g2 ?_
    by_cases g3 : k < 0
    · exact Ev.ifp g3 B
    refine Ev.ifn g3 ?_
    rw [decide_eq_true (by omega)]
    exact B

end Go.Proofs.Ytihnjdhjkpmggaa.Pure
