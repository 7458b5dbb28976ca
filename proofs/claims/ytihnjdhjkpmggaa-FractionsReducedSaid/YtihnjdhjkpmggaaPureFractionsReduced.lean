/- FractionsReduced: Reduce and Compare are as specified, for every input. -/
import Derived.Test.YtihnjdhjkpmggaaPFractionsReducedx7
namespace Go.Proofs.Ytihnjdhjkpmggaa.Pure
open Go.RowKit Go.Proofs.Ytihnjdhjkpmggaa.PFractionsReduced Go.Proofs.YtihnjdhjkpmggaaW.PrintWords Go.Proofs.YtihnjdhjkpmggaaW.PrintLast Go.Proofs.YtihnjdhjkpmggaaW.PrintMore
set_option linter.unusedVariables false
set_option linter.unusedSimpArgs false

/-! ### numbers, rounds -/
theorem w64 {n : Int} (h0 : -9223372036854775808 ≤ n) (h1 : n ≤ 9223372036854775807) : wrap64 n = n := by unfold wrap64; omega
theorem u64w {n : Int} (h0 : 0 ≤ n) (h1 : n ≤ 18446744073709551615) : IntKind.u64.wrap n = n := IntWalk.u64_in n ⟨h0, h1⟩
theorem Ev.mono_of {α : Type} {g : Nat → Option α} {r : α} (h : Ev g r) : ∃ k, g k = some r := h.rounds
theorem Ev.ifp {α : Type} {c : Prop} [Decidable c] {f g : Nat → Option α} {r : α} (hc : c) (h : Ev f r) : Ev (fun k => if c then f k else g k) r := Ev.congr (fun k => if_pos hc) h
theorem Ev.ifn {α : Type} {c : Prop} [Decidable c] {f g : Nat → Option α} {r : α} (hc : ¬ c) (h : Ev g r) : Ev (fun k => if c then f k else g k) r := Ev.congr (fun k => if_neg hc) h
theorem Ev.bind0 {α β : Type} {x : Option α} {a : α} {f : Nat → α → Option β} {r : β} (h : x = some a) (k : Ev (fun n => f n a) r) : Ev (fun n => x.bind (f n)) r := Ev.congr (fun n => by rw [h]; rfl) k
theorem Ev.some {α : Type} {a b : α} (h : a = b) : Ev (fun _ => Option.some a) b := by subst h; exact Ev.now a
/-- A function of rounds whose first round is consumed at the head. -/
theorem Ev.det {α : Type} {g : Nat → Option α} {r s : α} (h : Ev g r) (k : Ev g s) : r = s := by
  obtain ⟨K, h⟩ := h
  obtain ⟨L, k⟩ := k
  have h1 := h (max K L) (by omega)
  rw [k (max K L) (by omega)] at h1
  exact (Option.some.inj h1).symm
theorem tmod_pos {a b : Int} (hb : 0 < b) : -b < Int.tmod a b ∧ Int.tmod a b < b := by
  constructor
  · exact Int.lt_tmod_of_pos a hb
  · exact Int.tmod_lt_of_pos a hb
theorem Ev.round {α : Type} {g : Nat → Option α} {r : α} (h : Ev (fun k => g (k + 1)) r) : Ev g r := Ev.step (fun _ => rfl) h

/-! ### the stream of raw numbers -/
theorem below_ok (x n : Int) (hn : 1 ≤ n) (hn2 : n ≤ 4611686018427387904) : ∃ v, handmake_Below.f x n = some v ∧ 0 ≤ v ∧ v < n := by
  obtain ⟨h1, h2⟩ := tmod_pos (a := x) (b := n) (by omega)
  unfold handmake_Below.f
  rw [if_neg (by omega), if_neg (by omega)]
  by_cases c : Int.tmod x n < 0
  · rw [if_pos c]
    exact ⟨_, rfl, by rw [w64 (by omega) (by omega)]; omega, by rw [w64 (by omega) (by omega)]; omega⟩
  · rw [if_neg c]
    exact ⟨_, rfl, by omega, by omega⟩
theorem next_ok (l : List Int) (i n : Int) (h0 : 0 ≤ i) (h1 : i ≤ 4611686018427387904) (hn : 1 ≤ n) (hn2 : n ≤ 4611686018427387904) :
    ∃ v, handmake_Stream_Next.f l i n = some (v, i + 1) ∧ 0 ≤ v ∧ v < n := by
  unfold handmake_Stream_Next.f
  rw [w64 (n := i + 1) (by omega) (by omega)]
  by_cases c : (l.length : Int) = 0
  · rw [if_pos c]
    obtain ⟨v, hv, a, b⟩ := below_ok (wrap64 ((i + 1) * 7919)) n hn hn2
    exact ⟨v, by rw [hv]; rfl, a, b⟩
  · rw [if_neg c, show i + 1 - 1 = i by omega, w64 (n := i) (by omega) (by omega)]
    have hl : 0 < (l.length : Int) := by omega
    have e : Int.tmod i l.length = i % l.length := Int.tmod_eq_emod_of_nonneg h0
    have g0 : 0 ≤ Int.tmod i l.length := by rw [e]; exact Int.emod_nonneg _ (by omega)
    rw [if_pos g0, if_pos (tmod_pos hl).2]
    obtain ⟨u, hu, _, _⟩ := below_ok (rd l (Int.tmod i l.length)) 1073741824 (by omega) (by omega)
    rw [hu]
    obtain ⟨v, hv, a, b⟩ := below_ok (wrap64 (u + wrap64 (wrap64 (Int.tdiv i l.length) * wrap64 (7919 + Int.tmod i l.length)))) n hn hn2
    refine ⟨v, ?_, a, b⟩
    show (handmake_Below.f _ n).bind _ = _
    rw [hv]
    rfl

/-! ### greatest common divisors, fractions in lowest terms -/
theorem tmod_nat (a b : Nat) : Int.tmod (a : Int) (b : Int) = ((a % b : Nat) : Int) := by
  rw [Int.tmod_eq_emod_of_nonneg (by omega)]
  rfl
theorem ev_gcd {l : Nat → Int → Int → Option Int} (h : ∀ k x y, l (k + 1) x y = if y = 0 then some x else l k y (Int.tmod x y)) :
    ∀ (b a : Nat), Ev (fun k => l k (a : Int) (b : Int)) ((Nat.gcd a b : Nat) : Int) := by
  intro b
  induction b using Nat.strongRecOn with
  | _ b ih =>
    intro a
    refine Ev.step (fun k => h k _ _) ?_
    by_cases c : b = 0
    · subst c
      exact Ev.ifp rfl (Ev.some (by rw [Nat.gcd_zero_right]))
    · refine Ev.ifn (by omega) ?_
      rw [tmod_nat, show Nat.gcd a b = Nat.gcd b (a % b) by rw [Nat.gcd_comm, Nat.gcd_rec, Nat.gcd_comm]]
      exact ih (a % b) (Nat.mod_lt _ (by omega)) b
/-- A fraction in lowest terms. -/
def red (n d : Int) : Int × Int := (Int.tdiv (if d < 0 then -n else n) (Int.gcd n d), Int.tdiv (if d < 0 then -d else d) (Int.gcd n d))
theorem tdiv_le {a g : Int} (h0 : -4611686018427387904 ≤ a) (h1 : a ≤ 4611686018427387904) : -4611686018427387904 ≤ Int.tdiv a g ∧ Int.tdiv a g ≤ 4611686018427387904 := by
  have := Int.natAbs_tdiv_le_natAbs a g
  omega
theorem gcd_big {n d : Int} (h0 : -4611686018427387904 ≤ d) (h1 : d ≤ 4611686018427387904) (hd : d ≠ 0) : 0 < Int.gcd n d ∧ Int.gcd n d ≤ 4611686018427387904 := by
  have hp : 0 < d.natAbs := by omega
  have hl := Nat.gcd_le_right n.natAbs hp
  have hq := Nat.gcd_pos_of_pos_right n.natAbs hp
  have e : Int.gcd n d = Nat.gcd n.natAbs d.natAbs := rfl
  omega

theorem size_ok {n : Int} (h0 : -4611686018427387904 ≤ n) (h1 : n ≤ 4611686018427387904) : measure_size.f n = some ((n.natAbs : Nat) : Int) := by
  unfold measure_size.f
  by_cases c : n < 0
  · rw [if_pos c, IntKind.wrap_u64, IntKind.wrap_u64]
    congr 1
    omega
  · rw [if_neg c, IntKind.wrap_u64]
    congr 1
    omega
theorem ev_divisor (a b : Nat) : Ev (fun k => measure_divisor.f k (a : Int) (b : Int)) ((Nat.gcd a b : Nat) : Int) := ev_gcd (l := measure_divisor.l0) (fun _ _ _ => rfl) b a
theorem ev_reduce {n d : Int} (hn0 : -4611686018427387904 ≤ n) (hn1 : n ≤ 4611686018427387904) (hd0 : -4611686018427387904 ≤ d) (hd1 : d ≤ 4611686018427387904) (hd : d ≠ 0) :
    Ev (fun k => measure_reduce.f k n d) (red n d) := by
  obtain ⟨g0, g1⟩ := gcd_big (n := n) hd0 hd1 hd
  have key : ∀ n' d' : Int, n'.natAbs = n.natAbs → d'.natAbs = d.natAbs → -4611686018427387904 ≤ n' → n' ≤ 4611686018427387904 → -4611686018427387904 ≤ d' → d' ≤ 4611686018427387904 →
      Ev (fun k => (measure_size.f n').bind fun t => (measure_size.f d').bind fun u => (measure_divisor.f k t u).bind fun v => (if wrap64 v = 0 then none else some (wrap64 (Int.tdiv n' (wrap64 v)), wrap64 (Int.tdiv d' (wrap64 v))))) (Int.tdiv n' (Int.gcd n d), Int.tdiv d' (Int.gcd n d)) := by
    intro n' d' en ed a b c e
    refine Ev.bind0 (size_ok a b) (Ev.bind0 (size_ok c e) (Ev.bind (ev_divisor _ _) ?_))
    rw [en, ed, show Nat.gcd n.natAbs d.natAbs = Int.gcd n d from rfl, w64 (n := ((Int.gcd n d : Nat) : Int)) (by omega) (by omega)]
    refine Ev.ifn (by omega) (Ev.some ?_)
    have h1 := tdiv_le (g := (Int.gcd n d : Int)) a b
    have h2 := tdiv_le (g := (Int.gcd n d : Int)) c e
    rw [w64 (by omega) (by omega), w64 (by omega) (by omega)]
  unfold measure_reduce.f
  by_cases c : d < 0
  · refine Ev.ifp c ?_
    rw [w64 (n := -n) (by omega) (by omega), w64 (n := -d) (by omega) (by omega)]
    have := key (-n) (-d) (by omega) (by omega) (by omega) (by omega) (by omega) (by omega)
    unfold red
    rw [if_pos c, if_pos c]
    exact this
  · refine Ev.ifn c ?_
    have := key n d rfl rfl hn0 hn1 hd0 hd1
    unfold red
    rw [if_neg c, if_neg c]
    exact this

theorem within_ok (a b c : Int) : measure_within.f a b c = some (decide (b ≤ a ∧ a ≤ c)) := by
  unfold measure_within.f
  by_cases h : b ≤ a
  · rw [if_pos h]; simp [h]
  · rw [if_neg h]; simp [h]
/-- What Reduce returns. -/
def RedOf (a b : Int) : Int × Int × Int := if (-4611686018427387904 ≤ a ∧ a ≤ 4611686018427387904) ∧ (-4611686018427387904 ≤ b ∧ b ≤ 4611686018427387904) then (if b = 0 then (0, 0, 8) else ((red a b).1, (red a b).2, 0)) else (0, 0, 1)
theorem ev_Reduce (a b : Int) : Ev (fun k => measure_Reduce.f k a b) (RedOf a b) := by
  unfold measure_Reduce.f RedOf
  refine Ev.bind0 (within_ok _ _ _) ?_
  by_cases ca : (-4611686018427387904 ≤ a ∧ a ≤ 4611686018427387904)
  · rw [decide_eq_true ca]
    refine Ev.ifp rfl (Ev.bind0 (within_ok _ _ _) (Ev.round ?_))
    simp only [measure_Reduce.j0]
    by_cases cb : (-4611686018427387904 ≤ b ∧ b ≤ 4611686018427387904)
    · rw [decide_eq_true cb, if_pos ⟨ca, cb⟩]
      refine Ev.ifn (by simp) ?_
      by_cases c0 : b = 0
      · rw [if_pos c0]; exact Ev.ifp c0 (Ev.some rfl)
      · rw [if_neg c0]
        exact Ev.ifn c0 (Ev.bind (ev_reduce ca.1 ca.2 cb.1 cb.2 c0) (Ev.some rfl))
    · rw [decide_eq_false cb, if_neg (fun h => cb h.2)]
      exact Ev.ifp (by simp) (Ev.some rfl)
  · rw [decide_eq_false ca, if_neg (fun h => ca h.1)]
    refine Ev.ifn (by decide) (Ev.round ?_)
    simp only [measure_Reduce.j0]
    exact Ev.ifp (by simp) (Ev.some rfl)
theorem RedOf_24 : RedOf 2 4 = (1, 2, 0) := by decide

/-! ### fractions compared by products of 128 bits -/
/-- A right fraction. -/
def right (n d : Int) : Prop := (-4611686018427387904 ≤ n ∧ n ≤ 4611686018427387904) ∧ (1 ≤ d ∧ d ≤ 4611686018427387904) ∧ Int.gcd n d = 1
instance (n d : Int) : Decidable (right n d) := by unfold right; infer_instance
theorem ev_isRight (n d : Int) : Ev (fun k => measure_isRight.f k n d) (decide (right n d)) := by
  unfold measure_isRight.f
  refine Ev.bind0 (within_ok _ _ _) ?_
  by_cases cn : (-4611686018427387904 ≤ n ∧ n ≤ 4611686018427387904)
  · rw [decide_eq_true cn]
    refine Ev.ifp rfl (Ev.bind0 (within_ok _ _ _) ?_)
    by_cases cd : (1 ≤ d ∧ d ≤ 4611686018427387904)
    · rw [decide_eq_true cd]
      refine Ev.ifp rfl (Ev.bind0 (size_ok cn.1 cn.2) (Ev.bind0 (size_ok (by omega) cd.2) (Ev.bind (ev_divisor _ _) (Ev.some ?_))))
      have e : right n d ↔ Int.gcd n d = 1 := ⟨fun h => h.2.2, fun h => ⟨cn, cd, h⟩⟩
      have f : Nat.gcd n.natAbs d.natAbs = Int.gcd n d := rfl
      rw [f, show decide (right n d) = decide (Int.gcd n d = 1) from decide_eq_decide.mpr e, Bool.eq_iff_iff]
      simp
      omega
    · rw [decide_eq_false cd, decide_eq_false (fun h : right n d => cd h.2.1)]
      exact Ev.ifn (by simp) (Ev.some rfl)
  · rw [decide_eq_false cn, decide_eq_false (fun h : right n d => cn h.1)]
    exact Ev.ifn (by simp) (Ev.some rfl)
/-- The sign of a number. -/
def sg (x : Int) : Int := if x < 0 then -1 else if x > 0 then 1 else 0
theorem cmp_ok (a b : Int) : cmp_Compare_int.f a b = some (sg (a - b)) := by
  unfold cmp_Compare_int.f cmp_isNaN_int.f sg
  simp only [Option.bind_some, bne_self_eq_false]
  by_cases h : a < b
  · simp [h, show a - b < 0 by omega]
  · by_cases h2 : a > b
    · simp [h2, show ¬ (a - b < 0) by omega, show 0 < a - b by omega, show ¬ (a < b) by omega, show b < a by omega]
    · simp [show ¬ (a - b < 0) by omega, show ¬ (0 < a - b) by omega, show ¬ (a < b) by omega, show ¬ (b < a) by omega]
theorem cmpu_ok (a b : Int) : cmp_Compare_uint64.f a b = some (sg (a - b)) := by
  unfold cmp_Compare_uint64.f cmp_isNaN_uint64.f sg
  simp only [Option.bind_some, bne_self_eq_false]
  by_cases h : a < b
  · simp [h, show a - b < 0 by omega]
  · by_cases h2 : a > b
    · simp [h2, show ¬ (a - b < 0) by omega, show 0 < a - b by omega, show ¬ (a < b) by omega, show b < a by omega]
    · simp [show ¬ (a - b < 0) by omega, show ¬ (0 < a - b) by omega, show ¬ (a < b) by omega, show ¬ (b < a) by omega]
theorem wraps_u64 (n : Int) (h₀ : 0 ≤ n) (h₁ : n < 2 ^ 64) : IntKind.u64.wrap n = n := by rw [IntKind.wrap_u64]; omega
theorem low32 (x : Int) (h0 : 0 ≤ x) (h1 : x ≤ 18446744073709551615) : Go.bits .and .u64 x 4294967295 = x % 4294967296 := by
  have := Go.bits_mask .u64 64 (by decide) wraps_u64 32 (by decide) x h0 (by omega)
  simpa using this
theorem mul_le_of {a b A B : Int} (ha0 : 0 ≤ a) (ha : a ≤ A) (hb0 : 0 ≤ b) (hb : b ≤ B) : 0 ≤ a * b ∧ a * b ≤ A * B :=
  ⟨Int.mul_nonneg ha0 hb0, Int.mul_le_mul ha hb hb0 (by omega)⟩
theorem mul64_ok {a b : Int} (ha0 : 0 ≤ a) (ha : a ≤ 18446744073709551615) (hb0 : 0 ≤ b) (hb : b ≤ 18446744073709551615) :
    bits_Mul64.f a b = some (a * b / 18446744073709551616, a * b % 18446744073709551616) := by
  obtain ⟨a1, a0, rfl, p1, p2, p3, p4⟩ : ∃ a1 a0 : Int, a = 4294967296 * a1 + a0 ∧ 0 ≤ a1 ∧ a1 ≤ 4294967295 ∧ 0 ≤ a0 ∧ a0 ≤ 4294967295 := ⟨a / 4294967296, a % 4294967296, by omega, by omega, by omega, by omega, by omega⟩
  obtain ⟨b1, b0, rfl, q1, q2, q3, q4⟩ : ∃ b1 b0 : Int, b = 4294967296 * b1 + b0 ∧ 0 ≤ b1 ∧ b1 ≤ 4294967295 ∧ 0 ≤ b0 ∧ b0 ≤ 4294967295 := ⟨b / 4294967296, b % 4294967296, by omega, by omega, by omega, by omega, by omega⟩
  have e : (4294967296 * a1 + a0) * (4294967296 * b1 + b0) = 18446744073709551616 * (a1 * b1) + 4294967296 * (a1 * b0) + 4294967296 * (a0 * b1) + a0 * b0 := by grind
  have x1 := mul_le_of p1 p2 q1 q2
  have x2 := mul_le_of p1 p2 q3 q4
  have x3 := mul_le_of p3 p4 q1 q2
  have x4 := mul_le_of p3 p4 q3 q4
  unfold bits_Mul64.f
  rw [low32 _ ha0 ha, low32 _ hb0 hb, e, show (4294967296 * a1 + a0) / 4294967296 = a1 by omega, show (4294967296 * b1 + b0) / 4294967296 = b1 by omega, show (4294967296 * a1 + a0) % 4294967296 = a0 by omega, show (4294967296 * b1 + b0) % 4294967296 = b0 by omega]
  generalize a1 * b1 = P at *
  generalize a1 * b0 = Q at *
  generalize a0 * b1 = R at *
  generalize a0 * b0 = S at *
  rw [u64w (n := S) (by omega) (by omega), u64w (n := Q) (by omega) (by omega), u64w (n := R) (by omega) (by omega), u64w (n := P) (by omega) (by omega)]
  rw [u64w (n := Q + S / 4294967296) (by omega) (by omega), low32 _ (by omega) (by omega)]
  rw [u64w (n := (Q + S / 4294967296) % 4294967296 + R) (by omega) (by omega), u64w (n := P + (Q + S / 4294967296) / 4294967296) (by omega) (by omega)]
  rw [u64w (by omega) (by omega), IntKind.wrap_u64]
  congr 2
  omega
theorem or_two (x y : Int) : Ev (fun k => cmp_Or_int.f k [x, y]) (if x ≠ 0 then x else y) := by
  have e1 : wrap64 (0 + 1) = 1 := by unfold wrap64; omega
  have e2 : wrap64 (1 + 1) = 2 := by unfold wrap64; omega
  unfold cmp_Or_int.f
  refine Ev.round ?_
  simp only [cmp_Or_int.l0]
  refine Ev.ifp (by simp) (Ev.ifp (by simp) (Ev.ifp (by simp) ?_))
  rw [e1]
  show Ev (fun k => if x = 0 then _ else _) _
  by_cases c : x = 0
  · rw [if_neg (by simp [c])]
    refine Ev.ifp c (Ev.round ?_)
    simp only [cmp_Or_int.l0]
    refine Ev.ifp (by simp) (Ev.ifp (by simp) (Ev.ifp (by simp) ?_))
    rw [e2]
    show Ev (fun k => if y = 0 then _ else _) _
    by_cases d : y = 0
    · subst d
      refine Ev.ifp rfl (Ev.round ?_)
      simp only [cmp_Or_int.l0]
      exact Ev.ifn (by simp) (Ev.some rfl)
    · exact Ev.ifn d (Ev.some rfl)
  · rw [if_pos c]
    exact Ev.ifn c (Ev.some rfl)
theorem sg_pos {x : Int} (h : 0 < x) : sg x = 1 := by unfold sg; rw [if_neg (by omega), if_pos h]
theorem sg_neg {x : Int} (h : x < 0) : sg x = -1 := by unfold sg; rw [if_pos h]
theorem sg_zero {x : Int} (h : x = 0) : sg x = 0 := by subst h; decide
theorem sg_sub_lex (A B : Int) : (if sg (A / 18446744073709551616 - B / 18446744073709551616) ≠ 0 then sg (A / 18446744073709551616 - B / 18446744073709551616) else sg (A % 18446744073709551616 - B % 18446744073709551616)) = sg (A - B) := by
  rcases Int.lt_trichotomy (A / 18446744073709551616 - B / 18446744073709551616) 0 with h | h | h
  · rw [sg_neg h, sg_neg (x := A - B) (by omega), if_pos (by decide)]
  · rw [sg_zero h]
    rcases Int.lt_trichotomy (A % 18446744073709551616 - B % 18446744073709551616) 0 with g | g | g
    · rw [sg_neg g, sg_neg (x := A - B) (by omega)]; decide
    · rw [sg_zero g, sg_zero (x := A - B) (by omega)]; decide
    · rw [sg_pos g, sg_pos (x := A - B) (by omega)]; decide
  · rw [sg_pos h, sg_pos (x := A - B) (by omega), if_pos (by decide)]
theorem ev_products {a b c d : Int} (ha0 : 0 ≤ a) (ha : a ≤ 18446744073709551615) (hb0 : 0 ≤ b) (hb : b ≤ 18446744073709551615) (hc0 : 0 ≤ c) (hc : c ≤ 18446744073709551615) (hd0 : 0 ≤ d) (hd : d ≤ 18446744073709551615) :
    Ev (fun k => measure_products.f k a b c d) (sg (a * b - c * d)) := by
  unfold measure_products.f
  refine Ev.bind0 (mul64_ok ha0 ha hb0 hb) (Ev.bind0 (mul64_ok hc0 hc hd0 hd) (Ev.bind0 (cmpu_ok _ _) (Ev.bind0 (cmpu_ok _ _) ?_)))
  refine Ev.bind (or_two _ _) (Ev.some ?_)
  exact sg_sub_lex (a * b) (c * d)
theorem ev_compare {a b c d : Int} (ha : -4611686018427387904 ≤ a ∧ a ≤ 4611686018427387904) (hb : 1 ≤ b ∧ b ≤ 4611686018427387904) (hc : -4611686018427387904 ≤ c ∧ c ≤ 4611686018427387904) (hd : 1 ≤ d ∧ d ≤ 4611686018427387904) :
    Ev (fun k => measure_compare.f k a b c d) (sg (a * d - c * b)) := by
  unfold measure_compare.f
  refine Ev.bind0 (cmp_ok _ _) (Ev.bind0 (cmp_ok _ _) (Ev.bind0 (cmp_ok _ _) ?_))
  have P : Ev (fun k => (measure_size.f a).bind fun t168 => ((measure_size.f d).bind fun t169 => ((measure_size.f c).bind fun t170 => ((measure_size.f b).bind fun t171 => ((measure_products.f k t168 t169 t170 t171).bind fun t172 => (if a < 0 then (some (wrap64 (-t172))) else (some t172))))))) (if a < 0 then wrap64 (-(sg (a.natAbs * d.natAbs - c.natAbs * b.natAbs))) else sg (a.natAbs * d.natAbs - c.natAbs * b.natAbs)) := by
    refine Ev.bind0 (size_ok ha.1 ha.2) (Ev.bind0 (size_ok (by omega) hd.2) (Ev.bind0 (size_ok hc.1 hc.2) (Ev.bind0 (size_ok (by omega) hb.2) (Ev.bind (ev_products (by omega) (by omega) (by omega) (by omega) (by omega) (by omega) (by omega) (by omega)) ?_))))
    by_cases h : a < 0
    · simp only [if_pos h]; exact Ev.some rfl
    · simp only [if_neg h]; exact Ev.some rfl
  have eb : (b.natAbs : Int) = b := by omega
  have ed : (d.natAbs : Int) = d := by omega
  have hw : ∀ x, wrap64 (-(sg x)) = sg (-x) := by
    intro x
    rcases Int.lt_trichotomy x 0 with h | h | h
    · rw [sg_neg h, sg_pos (x := -x) (by omega)]; unfold wrap64; omega
    · rw [sg_zero h, sg_zero (x := -x) (by omega)]; unfold wrap64; omega
    · rw [sg_pos h, sg_neg (x := -x) (by omega)]; unfold wrap64; omega
  rw [eb, ed] at P
  rcases Int.lt_trichotomy a 0 with h1 | h1 | h1 <;> rcases Int.lt_trichotomy c 0 with h2 | h2 | h2
  · have sa : sg (a - 0) = -1 := sg_neg (by omega)
    have sc : sg (c - 0) = -1 := sg_neg (by omega)
    refine Ev.ifp (by rw [sa, sc]; decide) ?_
    rw [if_pos h1, hw, show (a.natAbs : Int) = -a by omega, show (c.natAbs : Int) = -c by omega] at P
    rw [show a * d - c * b = -(-a * d - -c * b) by grind]
    exact P
  · have : a * d < 0 := Int.mul_neg_of_neg_of_pos h1 (by omega)
    have sa : sg (a - 0) = -1 := sg_neg (by omega)
    subst h2
    have sr : sg (a * d - 0 * b) = -1 := sg_neg (by omega)
    refine Ev.ifn (by rw [sa]; decide) (Ev.some ?_)
    rw [sa, sr]; decide
  · have : a * d < 0 := Int.mul_neg_of_neg_of_pos h1 (by omega)
    have : 0 < c * b := Int.mul_pos h2 (by omega)
    have sa : sg (a - 0) = -1 := sg_neg (by omega)
    have sc : sg (c - 0) = 1 := sg_pos (by omega)
    have sr : sg (a * d - c * b) = -1 := sg_neg (by omega)
    refine Ev.ifn (by rw [sa, sc]; decide) (Ev.some ?_)
    rw [sa, sc, sr]; decide
  · have : c * b < 0 := Int.mul_neg_of_neg_of_pos h2 (by omega)
    have sc : sg (c - 0) = -1 := sg_neg (by omega)
    subst h1
    have sr : sg (0 * d - c * b) = 1 := sg_pos (by omega)
    refine Ev.ifn (by rw [sc]; decide) (Ev.some ?_)
    rw [sc, sr]; decide
  · subst h1; subst h2
    refine Ev.ifp (by decide) ?_
    simpa using P
  · have : 0 < c * b := Int.mul_pos h2 (by omega)
    have sc : sg (c - 0) = 1 := sg_pos (by omega)
    subst h1
    have sr : sg (0 * d - c * b) = -1 := sg_neg (by omega)
    refine Ev.ifn (by rw [sc]; decide) (Ev.some ?_)
    rw [sc, sr]; decide
  · have : 0 < a * d := Int.mul_pos h1 (by omega)
    have : c * b < 0 := Int.mul_neg_of_neg_of_pos h2 (by omega)
    have sa : sg (a - 0) = 1 := sg_pos (by omega)
    have sc : sg (c - 0) = -1 := sg_neg (by omega)
    have sr : sg (a * d - c * b) = 1 := sg_pos (by omega)
    refine Ev.ifn (by rw [sa, sc]; decide) (Ev.some ?_)
    rw [sa, sc, sr]; decide
  · have : 0 < a * d := Int.mul_pos h1 (by omega)
    have sa : sg (a - 0) = 1 := sg_pos (by omega)
    subst h2
    have sr : sg (a * d - 0 * b) = 1 := sg_pos (by omega)
    refine Ev.ifn (by rw [sa]; decide) (Ev.some ?_)
    rw [sa, sr]; decide
  · have sa : sg (a - 0) = 1 := sg_pos (by omega)
    have sc : sg (c - 0) = 1 := sg_pos (by omega)
    refine Ev.ifp (by rw [sa, sc]; decide) ?_
    rw [if_neg (by omega), show (a.natAbs : Int) = a by omega, show (c.natAbs : Int) = c by omega] at P
    exact P
theorem ev_Compare (a b c d : Int) : Ev (fun k => measure_Compare.f k a b c d) (if right a b ∧ right c d then (sg (a * d - c * b), 0) else (0, 3)) := by
  unfold measure_Compare.f
  refine Ev.bind (ev_isRight _ _) ?_
  by_cases h1 : right a b
  · rw [decide_eq_true h1]
    refine Ev.ifp rfl (Ev.bind (ev_isRight _ _) ?_)
    by_cases h2 : right c d
    · rw [decide_eq_true h2, if_pos ⟨h1, h2⟩]
      exact Ev.ifp rfl (Ev.bind (ev_compare h1.1 h1.2.1 h2.1 h2.2.1) (Ev.some rfl))
    · rw [decide_eq_false h2, if_neg (fun h => h2 h.2)]
      exact Ev.ifn (by simp) (Ev.some rfl)
  · rw [decide_eq_false h1, if_neg (fun h => h1 h.1)]
    exact Ev.ifn (by simp) (Ev.some rfl)

/-! ### the document's fractions -/
theorem ev_common (a b : Nat) : Ev (fun k => handref1_common.f k (a : Int) (b : Int)) ((Nat.gcd a b : Nat) : Int) := ev_gcd (l := handref1_common.l0) (fun _ _ _ => rfl) b a
theorem ev_reduced {n d : Int} (hn0 : -4611686018427387904 ≤ n) (hn1 : n ≤ 4611686018427387904) (hd0 : -4611686018427387904 ≤ d) (hd1 : d ≤ 4611686018427387904) (hd : d ≠ 0) :
    Ev (fun k => handref1_reduced.f k n d) (red n d) := by
  obtain ⟨g0, g1⟩ := gcd_big (n := n) hd0 hd1 hd
  have key : ∀ n' d' : Int, n'.natAbs = n.natAbs → d'.natAbs = d.natAbs → 0 < d' → -4611686018427387904 ≤ n' → n' ≤ 4611686018427387904 → -4611686018427387904 ≤ d' → d' ≤ 4611686018427387904 →
      Ev (fun k => (handref1_common.f k (mx n' (wrap64 (-n'))) d').bind fun t => (if t = 0 then none else some (wrap64 (Int.tdiv n' t), wrap64 (Int.tdiv d' t)))) (Int.tdiv n' (Int.gcd n d), Int.tdiv d' (Int.gcd n d)) := by
    intro n' d' en ed hp a b c e
    have m : mx n' (wrap64 (-n')) = ((n'.natAbs : Nat) : Int) := by rw [w64 (by omega) (by omega)]; unfold mx; omega
    rw [m]
    have ev := ev_common n'.natAbs d'.natAbs
    rw [show ((d'.natAbs : Nat) : Int) = d' by omega, en, ed, show Nat.gcd n.natAbs d.natAbs = Int.gcd n d from rfl, ← en] at ev
    refine Ev.bind ev (Ev.ifn (by omega) (Ev.some ?_))
    have h1 := tdiv_le (g := (Int.gcd n d : Int)) a b
    have h2 := tdiv_le (g := (Int.gcd n d : Int)) c e
    rw [w64 (by omega) (by omega), w64 (by omega) (by omega)]
  unfold handref1_reduced.f
  by_cases c : d < 0
  · refine Ev.ifp c ?_
    rw [w64 (n := -n) (by omega) (by omega), w64 (n := -d) (by omega) (by omega)]
    have := key (-n) (-d) (by omega) (by omega) (by omega) (by omega) (by omega) (by omega) (by omega)
    unfold red
    rw [if_pos c, if_pos c]
    exact this
  · refine Ev.ifn c ?_
    have := key n d rfl rfl (by omega) hn0 hn1 hd0 hd1
    unfold red
    rw [if_neg c, if_neg c]
    exact this

theorem ev_ReduceOf (a b : Int) : Ev (fun k => handref1_ReduceOf.f k a b) (RedOf a b) := by
  have J : Ev (fun k => handref1_ReduceOf.j0 k a b true) (0, 0, 1) := by
    refine Ev.round ?_
    simp only [handref1_ReduceOf.j0]
    exact Ev.ifp (by simp) (Ev.some rfl)
  unfold handref1_ReduceOf.f
  by_cases c1 : a < -4611686018427387904
  · rw [show RedOf a b = (0, 0, 1) by unfold RedOf; rw [if_neg (by omega)]]
    exact Ev.ifp c1 J
  refine Ev.ifn c1 ?_
  by_cases c2 : a > 4611686018427387904
  · rw [show RedOf a b = (0, 0, 1) by unfold RedOf; rw [if_neg (by omega)]]
    exact Ev.ifp c2 J
  refine Ev.ifn c2 ?_
  by_cases c3 : b < -4611686018427387904
  · rw [show RedOf a b = (0, 0, 1) by unfold RedOf; rw [if_neg (by omega)]]
    exact Ev.ifp c3 J
  refine Ev.ifn c3 ?_
  by_cases c4 : b > 4611686018427387904
  · rw [show RedOf a b = (0, 0, 1) by unfold RedOf; rw [if_neg (by omega)], decide_eq_true c4]
    exact J
  rw [decide_eq_false c4]
  refine Ev.round ?_
  simp only [handref1_ReduceOf.j0]
  refine Ev.ifn (by simp) ?_
  unfold RedOf
  rw [if_pos (by omega)]
  by_cases c0 : b = 0
  · rw [if_pos c0]; exact Ev.ifp c0 (Ev.some rfl)
  · rw [if_neg c0]
    exact Ev.ifn c0 (Ev.bind (ev_reduced (by omega) (by omega) (by omega) (by omega) c0) (Ev.some rfl))
theorem tdiv_same {n d : Int} {g : Nat} (hd : 1 ≤ d) (hg : 0 < g) (h : Int.tdiv d g = d) : g = 1 := by
  rw [Int.tdiv_eq_ediv_of_nonneg (by omega)] at h
  rcases Nat.lt_or_ge 1 g with h1 | h1
  · exfalso
    have : d / (g : Int) < d := Int.ediv_lt_self_of_pos_of_ne_one (by omega) (by omega)
    omega
  · omega
theorem ev_FractionOf (n d : Int) : Ev (fun k => handref1_FractionOf.f k n d) (decide (right n d)) := by
  unfold handref1_FractionOf.f
  by_cases c1 : d ≥ 1
  · refine Ev.ifp c1 ?_
    by_cases c2 : d ≤ 4611686018427387904
    · refine Ev.ifp c2 ?_
      by_cases c3 : n ≥ -4611686018427387904
      · refine Ev.ifp c3 ?_
        by_cases c4 : n ≤ 4611686018427387904
        · refine Ev.ifp c4 (Ev.bind (ev_reduced (by omega) (by omega) (by omega) (by omega) (by omega)) (Ev.some ?_))
          rw [Bool.eq_iff_iff]
          simp only [Bool.and_eq_true, beq_iff_eq, decide_eq_true_eq]
          unfold red right
          rw [if_neg (by omega), if_neg (by omega)]
          have hg := (gcd_big (n := n) (d := d) (by omega) (by omega) (by omega)).1
          constructor
          · intro h
            exact ⟨⟨c3, c4⟩, ⟨c1, c2⟩, tdiv_same (n := n) (by omega) hg h.2⟩
          · intro h
            rw [h.2.2]
            exact ⟨Int.tdiv_one _, Int.tdiv_one _⟩
        · rw [decide_eq_false (fun h : right n d => c4 h.1.2)]
          exact Ev.ifn c4 (Ev.some rfl)
      · rw [decide_eq_false (fun h : right n d => c3 h.1.1)]
        exact Ev.ifn c3 (Ev.some rfl)
    · rw [decide_eq_false (fun h : right n d => c2 h.2.1.2)]
      exact Ev.ifn c2 (Ev.some rfl)
  · rw [decide_eq_false (fun h : right n d => c1 h.2.1.1)]
    exact Ev.ifn c1 (Ev.some rfl)
theorem floor_ok {a b : Int} (ha : -4611686018427387904 ≤ a ∧ a ≤ 4611686018427387904) (hb : 1 ≤ b) : handref1_floor.f a b = some (a / b) := by
  have e := Int.mul_tdiv_add_tmod a b
  obtain ⟨h1, h2⟩ := tmod_pos (a := a) (b := b) (by omega)
  have t := tdiv_le (g := b) ha.1 ha.2
  unfold handref1_floor.f
  rw [if_neg (by omega), w64 (n := Int.tdiv a b) (by omega) (by omega)]
  by_cases c : Int.tmod a b < 0
  · rw [if_pos c, w64 (by omega) (by omega)]
    have := (Int.ediv_emod_unique (a := a) (b := b) (r := Int.tmod a b + b) (q := Int.tdiv a b - 1) (by omega)).2 ⟨by rw [Int.mul_sub]; omega, by omega, by omega⟩
    rw [this.1]
  · rw [if_neg c]
    have := (Int.ediv_emod_unique (a := a) (b := b) (r := Int.tmod a b) (q := Int.tdiv a b) (by omega)).2 ⟨by omega, by omega, by omega⟩
    rw [this.1]
theorem cross_lt {a b c d : Int} (hb : 1 ≤ b) (hd : 1 ≤ d) (h : a / b < c / d) : a * d < c * b := by
  have e1 := Int.emod_add_mul_ediv a b
  have e2 := Int.emod_add_mul_ediv c d
  have m1 := Int.emod_lt_of_pos a (show 0 < b by omega)
  have m2 := Int.emod_nonneg c (show d ≠ 0 by omega)
  have h1 : b * (a / b + 1) ≤ b * (c / d) := Int.mul_le_mul_of_nonneg_left (by omega) (by omega)
  rw [Int.mul_add, Int.mul_one] at h1
  have h2 : a < b * (c / d) := by omega
  have h3 : a * d < b * (c / d) * d := Int.mul_lt_mul_of_pos_right h2 (by omega)
  have h4 : d * (c / d) * b ≤ c * b := Int.mul_le_mul_of_nonneg_right (by omega) (by omega)
  have h5 : b * (c / d) * d = d * (c / d) * b := by grind
  omega
theorem ev_CompareOf : ∀ (m : Nat) (a b c d : Int), -4611686018427387904 ≤ a ∧ a ≤ 4611686018427387904 → 1 ≤ b ∧ b ≤ 4611686018427387904 → -4611686018427387904 ≤ c ∧ c ≤ 4611686018427387904 → 1 ≤ d ∧ d ≤ 4611686018427387904 → b + d ≤ m →
    Ev (fun k => handref1_CompareOf.f k a b c d) (sg (a * d - c * b)) := by
  intro m
  induction m with
  | zero => intro a b c d _ _ _ _ h; omega
  | succ m ih =>
    intro a b c d ha hb hc hd hm
    refine Ev.round ?_
    simp only [handref1_CompareOf.f]
    refine Ev.bind0 (floor_ok ha hb.1) (Ev.bind0 (floor_ok hc hd.1) ?_)
    have e1 := Int.emod_add_mul_ediv a b
    have e2 := Int.emod_add_mul_ediv c d
    have m1 := Int.emod_lt_of_pos a (show 0 < b by omega)
    have m0 := Int.emod_nonneg a (show b ≠ 0 by omega)
    have n1 := Int.emod_lt_of_pos c (show 0 < d by omega)
    have n0 := Int.emod_nonneg c (show d ≠ 0 by omega)
    have c1 : a / b * b = b * (a / b) := Int.mul_comm _ _
    have c2 : c / d * d = d * (c / d) := Int.mul_comm _ _
    by_cases hq : a / b = c / d
    · refine Ev.ifp hq ?_
      have r1 : wrap64 (a - wrap64 (a / b * b)) = a % b := by rw [w64 (n := a / b * b) (by omega) (by omega), w64 (by omega) (by omega)]; omega
      have r2 : wrap64 (c - wrap64 (c / d * d)) = c % d := by rw [w64 (n := c / d * d) (by omega) (by omega), w64 (by omega) (by omega)]; omega
      rw [r1, r2]
      have er : a * d - c * b = a % b * d - c % d * b := by
        have : a * d = a % b * d + b * (a / b) * d := by rw [← Int.add_mul, e1]
        have : c * b = c % d * b + d * (c / d) * b := by rw [← Int.add_mul, e2]
        have : b * (a / b) * d = d * (c / d) * b := by rw [hq]; grind
        omega
      rw [er]
      by_cases z1 : a % b = 0
      · refine Ev.ifp z1 (Ev.round ?_)
        simp only [handref1_CompareOf.j0]
        refine Ev.ifp (by simp) (Ev.bind0 (cmp_ok _ _) (Ev.some ?_))
        rw [z1]
        by_cases z2 : c % d = 0
        · rw [z2, sg_zero (by omega), sg_zero (by omega)]
        · have : 0 < c % d * b := Int.mul_pos (by omega) (by omega)
          rw [sg_neg (by omega), sg_neg (by omega)]
      · refine Ev.ifn z1 (Ev.round ?_)
        simp only [handref1_CompareOf.j0]
        by_cases z2 : c % d = 0
        · refine Ev.ifp (by simp [z2]) (Ev.bind0 (cmp_ok _ _) (Ev.some ?_))
          have : 0 < a % b * d := Int.mul_pos (by omega) (by omega)
          rw [z2, sg_pos (by omega), sg_pos (by omega)]
        · refine Ev.ifn (by simp [z2]) (Ev.bind (ih d (c % d) b (a % b) ⟨by omega, by omega⟩ ⟨by omega, by omega⟩ ⟨by omega, by omega⟩ ⟨by omega, by omega⟩ (by omega)) (Ev.some ?_))
          rw [Int.mul_comm d, Int.mul_comm b]
    · refine Ev.ifn hq (Ev.bind0 (cmp_ok _ _) (Ev.some ?_))
      rcases Int.lt_or_lt_of_ne hq with h | h
      · have := cross_lt hb.1 hd.1 h
        rw [sg_neg (by omega), sg_neg (by omega)]
      · have := cross_lt hd.1 hb.1 h
        rw [sg_pos (by omega), sg_pos (by omega)]

theorem pick_ok (l : List Int) (i : Int) (xs : List Int) (h0 : 0 ≤ i) (h1 : i ≤ 4611686018427387904) (hx : 1 ≤ xs.length) (hy : xs.length ≤ 1000) :
    ∃ v, handmake_Stream_Pick.f l i xs = some (v, i + 1) ∧ v ∈ xs := by
  obtain ⟨v, hv, a, b⟩ := next_ok l i (xs.length : Int) h0 h1 (by omega) (by omega)
  unfold handmake_Stream_Pick.f
  rw [hv]
  simp only [Option.bind_some]
  rw [if_pos a, if_pos b]
  refine ⟨_, rfl, ?_⟩
  unfold rd
  rw [List.getD_eq_getElem?_getD, List.getElem?_eq_getElem (by omega)]
  exact List.getElem_mem _
theorem part_ok (l : List Int) (i : Int) (h0 : 0 ≤ i) (h1 : i ≤ 1000000) :
    ∃ v, handmake_Stream_Part.f l i = some (v, i + 2) ∧ -9223372036854775808 ≤ v ∧ v ≤ 9223372036854775807 := by
  obtain ⟨u, hu, a, b⟩ := next_ok l i 1000 h0 (by omega) (by omega) (by omega)
  unfold handmake_Stream_Part.f
  rw [hu]
  simp only [Option.bind_some]
  obtain ⟨v, hv, m⟩ := pick_ok l (i + 1) [0, 1, (-1), 2, 3, 6, (-4), 100, 4611686018427387904, (-4611686018427387904), 4611686018427387905, (-4611686018427387905), 2305843009213693953, 999999937, 1000000, 9223372036854775807, (-9223372036854775808), wrap64 (u - 500)] (by omega) (by omega) (by simp) (by simp)
  rw [hv]
  refine ⟨v, by simp only [Option.bind_some]; rw [show i + 1 + 1 = i + 2 by omega], ?_⟩
  rw [w64 (n := u - 500) (by omega) (by omega)] at m
  simp only [List.mem_cons, List.not_mem_nil, or_false] at m
  omega
theorem flip_ok (l : List Int) (i n : Int) (h0 : 0 ≤ i) (h1 : i ≤ 1000000) (hn : 1 ≤ n) (hn2 : n ≤ 1000000) :
    ∃ v, handmake_Stream_Flip.f l i n = some (v, i + 1) := by
  obtain ⟨u, hu, a, b⟩ := next_ok l i n h0 (by omega) (by omega) (by omega)
  unfold handmake_Stream_Flip.f
  rw [hu]
  exact ⟨_, rfl⟩

theorem ev_fracloop (x3 x4 : Int) (l : List Int) (i : Int) : ∀ (y x : Nat), 0 < Nat.gcd x y → ∃ r : Int × Int, Ev (fun k => handmake_Stream_Fraction.l0 k x3 x4 (x : Int) (y : Int) l i) (r.1, r.2, i) := by
  intro y
  induction y using Nat.strongRecOn with
  | _ y ih =>
    intro x hg
    by_cases c : y = 0
    · subst c
      rw [Nat.gcd_zero_right] at hg
      refine ⟨(wrap64 (Int.tdiv x3 x), wrap64 (Int.tdiv x4 x)), Ev.round ?_⟩
      simp only [handmake_Stream_Fraction.l0]
      exact Ev.ifp rfl (Ev.ifn (by omega) (Ev.some rfl))
    · obtain ⟨r, h⟩ := ih (x % y) (Nat.mod_lt _ (by omega)) y (by rw [Nat.gcd_comm, ← Nat.gcd_rec, Nat.gcd_comm]; exact hg)
      refine ⟨r, Ev.round ?_⟩
      simp only [handmake_Stream_Fraction.l0]
      refine Ev.ifn (by omega) ?_
      rw [tmod_nat]
      exact h
theorem ev_fraction (l : List Int) (i : Int) (h0 : 0 ≤ i) (h1 : i ≤ 100000) : ∃ n d, Ev (fun k => handmake_Stream_Fraction.f k l i) (n, d, i + 5) := by
  obtain ⟨a, ha, a0, a1⟩ := part_ok l i h0 (by omega)
  obtain ⟨b, hb, b0, b1⟩ := part_ok l (i + 2) (by omega) (by omega)
  obtain ⟨f, hf⟩ := flip_ok l (i + 2 + 2) 12 (by omega) (by omega) (by omega) (by omega)
  rw [show i + 2 + 2 = i + 4 by omega] at hb hf
  rw [show i + 4 + 1 = i + 5 by omega] at hf
  have key : ∀ a', -4611686018427387904 ≤ a' → a' ≤ 4611686018427387904 → ∃ n d, Ev (fun k => handmake_Stream_Fraction.j1 k a' (mx b 1) l (i + 5)) (n, d, i + 5) := by
    intro a' g0 g1
    have hb1 : 1 ≤ mn (mx b 1) 4611686018427387904 := by unfold mn mx; omega
    obtain ⟨r, hr⟩ := ev_fracloop a' (mn (mx b 1) 4611686018427387904) l (i + 5) (mn (mx b 1) 4611686018427387904).toNat a'.natAbs (Nat.gcd_pos_of_pos_right _ (by omega))
    refine ⟨r.1, r.2, Ev.round ?_⟩
    simp only [handmake_Stream_Fraction.j1]
    rw [show mx a' (wrap64 (-a')) = ((a'.natAbs : Nat) : Int) by rw [w64 (by omega) (by omega)]; unfold mx; omega]
    rw [show (((mn (mx b 1) 4611686018427387904).toNat : Nat) : Int) = mn (mx b 1) 4611686018427387904 by omega] at hr
    exact hr
  have go : ∀ (c : Bool), (c = false → -4611686018427387904 ≤ a ∧ a ≤ 4611686018427387904) → ∃ n d, Ev (fun k => handmake_Stream_Fraction.j0 k a (mx b 1) c l (i + 5)) (n, d, i + 5) := by
    intro c hc
    cases c with
    | true =>
      obtain ⟨n, d, h⟩ := key 4611686018427387904 (by omega) (by omega)
      refine ⟨n, d, Ev.round ?_⟩
      simp only [handmake_Stream_Fraction.j0]
      exact Ev.ifp (by simp) h
    | false =>
      obtain ⟨n, d, h⟩ := key a (hc rfl).1 (hc rfl).2
      refine ⟨n, d, Ev.round ?_⟩
      simp only [handmake_Stream_Fraction.j0]
      exact Ev.ifn (by simp) h
  unfold handmake_Stream_Fraction.f
  cases f with
  | true => exact ⟨a, b, Ev.bind0 ha (Ev.bind0 hb (Ev.bind0 hf (Ev.ifp rfl (Ev.some rfl))))⟩
  | false =>
    by_cases c : a > 4611686018427387904
    · obtain ⟨n, d, h⟩ := go true (by simp)
      exact ⟨n, d, Ev.bind0 ha (Ev.bind0 hb (Ev.bind0 hf (Ev.ifn (by simp) (Ev.ifp c h))))⟩
    · obtain ⟨n, d, h⟩ := go (decide (a < -4611686018427387904)) (by simp; omega)
      exact ⟨n, d, Ev.bind0 ha (Ev.bind0 hb (Ev.bind0 hf (Ev.ifn (by simp) (Ev.ifn c h))))⟩

theorem ev_measures : Ev (fun k => handlaw1_measures.f k) true := by
  unfold handlaw1_measures.f
  refine Ev.bind (ev_Reduce 2 4) ?_
  rw [RedOf_24]
  exact Ev.ifp rfl (Ev.some rfl)
theorem FractionsReduced : handlaw1_FractionsReduced.Pure := by
  intro l hm hl hw
  refine Ev.rounds (r := true) ?_
  obtain ⟨a, ha, _⟩ := part_ok l 0 (by omega) (by omega)
  obtain ⟨b, hb, _⟩ := part_ok l 2 (by omega) (by omega)
  obtain ⟨n, d, hf⟩ := ev_fraction l 4 (by omega) (by omega)
  obtain ⟨m, e, hg⟩ := ev_fraction l 9 (by omega) (by omega)
  unfold handlaw1_FractionsReduced.f
  refine Ev.bind0 ha (Ev.bind0 hb (Ev.bind (ev_Reduce a b) (Ev.bind (ev_ReduceOf a b) (Ev.ifp rfl ?_))))
  simp only [beq_self_eq_true, Bool.not_true, Bool.or_self]
  refine Ev.round ?_
  simp only [handlaw1_FractionsReduced.j0]
  refine Ev.ifn (by simp) (Ev.bind hf (Ev.bind hg (Ev.bind (ev_Compare n d m e) (Ev.bind (ev_FractionOf n d) ?_))))
  by_cases h1 : right n d
  · rw [decide_eq_true h1]
    refine Ev.ifp rfl (Ev.bind (ev_FractionOf m e) ?_)
    by_cases h2 : right m e
    · rw [decide_eq_true h2, if_pos ⟨h1, h2⟩]
      refine Ev.round ?_
      simp only [handlaw1_FractionsReduced.j1]
      refine Ev.ifn (by simp) (Ev.bind ev_measures (Ev.ifp rfl (Ev.ifp (by simp) (Ev.bind (ev_CompareOf (d + e).toNat n d m e h1.1 h1.2.1 h2.1 h2.2.1 (by omega)) (Ev.some ?_)))))
      simp
    · rw [decide_eq_false h2, if_neg (fun h => h2 h.2)]
      refine Ev.round ?_
      simp only [handlaw1_FractionsReduced.j1]
      exact Ev.ifp (by simp) (Ev.bind ev_measures (Ev.ifp rfl (Ev.some (by decide))))
  · rw [decide_eq_false h1, if_neg (fun h => h1 h.1)]
    refine Ev.ifn (by simp) (Ev.round ?_)
    simp only [handlaw1_FractionsReduced.j1]
    exact Ev.ifp (by simp) (Ev.bind ev_measures (Ev.ifp rfl (Ev.some (by decide))))

end Go.Proofs.Ytihnjdhjkpmggaa.Pure
