/- Contracts of what CodesCount reaches, part 2: products and remainders of 128 bits. -/
import Derived.Test.YtihnjdhjkpmggaaVcCcSpec1
import Derived.Test.YtihnjdhjkpmggaaVcKnuth
import Derived.Lib.Mul64
set_option linter.unusedSimpArgs false
set_option linter.unusedVariables false
namespace Go.Proofs.YtihnjdhjkpmggaaVc
open Go.Proofs.YtihnjdhjkpmggaaCodes
open Go.Proofs.Try (prog)

section
variable {I : Calls} {Q : Post} {h : Heap}

theorem shr32 (a : Nat) : shr .u64 (a : Int) 32 = ((a / 4294967296 : Nat) : Int) := shr_nat a 32 .u64 rfl (by decide)
theorem mask32 (a : Nat) (ha : a < 18446744073709551616) : IntKind.u64.wrap ((BitVec.ofInt 64 (a : Int) &&& BitVec.ofInt 64 4294967295).toNat : Int) = ((a % 4294967296 : Nat) : Int) := and_mask a ha
theorem wN (a : Nat) (ha : a < 18446744073709551616) : IntKind.u64.wrap (a : Int) = (a : Int) := wu64 (by omega) (by omega)
theorem wM (a : Nat) : IntKind.u64.wrap (a : Int) = ((a % 18446744073709551616 : Nat) : Int) := by rw [IntKind.wrap_u64]; omega
theorem mN (a b : Nat) : (a : Int) * (b : Int) = ((a * b : Nat) : Int) := (Int.natCast_mul a b).symm
theorem aN (a b : Nat) : (a : Int) + (b : Int) = ((a + b : Nat) : Int) := (Int.natCast_add a b).symm

theorem spec115 (hI : Closed' prog Pm I) {x y : Nat} (hx : x < 18446744073709551616) (hy : y < 18446744073709551616)
    (hQ : Q [u64 ((x * y / 18446744073709551616 : Nat) : Int), u64 ((x * y % 18446744073709551616 : Nat) : Int)] h) : I 115 [u64 x, u64 y] Q h := by
  refine hI.go _ _ (den115 I x y Q) ?_
  obtain ⟨bd, bt, bw, hhi⟩ := Lib.mul64_hi x y hx hy
  have ba := Lib.half_mul_le (a := x / 4294967296) (b := y / 4294967296) (by omega) (by omega)
  have bb := Lib.half_mul_le (a := x / 4294967296) (b := y % 4294967296) (by omega) (by omega)
  have bc := Lib.half_mul_le (a := x % 4294967296) (b := y / 4294967296) (by omega) (by omega)
  have ba' : x / 4294967296 * (y / 4294967296) < 18446744073709551616 := by omega
  have bb' : x / 4294967296 * (y % 4294967296) < 18446744073709551616 := by omega
  have bc' : x % 4294967296 * (y / 4294967296) < 18446744073709551616 := by omega
  have bh1 : x / 4294967296 * (y / 4294967296) + (x / 4294967296 * (y % 4294967296) + x % 4294967296 * (y % 4294967296) / 4294967296) / 4294967296 < 18446744073709551616 := by omega
  have bh : x / 4294967296 * (y / 4294967296) + (x / 4294967296 * (y % 4294967296) + x % 4294967296 * (y % 4294967296) / 4294967296) / 4294967296 + ((x / 4294967296 * (y % 4294967296) + x % 4294967296 * (y % 4294967296) / 4294967296) % 4294967296 + x % 4294967296 * (y / 4294967296)) / 4294967296 < 18446744073709551616 := by omega
  unfold vc115
  simp only [mask32 x hx, mask32 y hy, shr32, mN, aN, wN _ bd, wN _ bb', wN _ bt, mask32 _ bt, wN _ bc', wN _ bw, wN _ ba', wN _ bh1, wN _ bh, wM (x * y)]
  rw [hhi]
  exact hQ

theorem div_start {U Y : Nat} (hU : U < 18446744073709551616) : IntKind.u64.wrap ((U : Int).tdiv (Y : Int)) = ((U / Y : Nat) : Int) ∧ IntKind.u64.wrap ((U : Int) - IntKind.u64.wrap (((U / Y : Nat) : Int) * (Y : Int))) = ((U % Y : Nat) : Int) := by
  have h1 : U / Y ≤ U := Nat.div_le_self _ _
  have h2 := Nat.div_add_mod U Y
  rw [Nat.mul_comm] at h2
  constructor
  · rw [← Int.ofNat_tdiv, wN _ (by omega)]
  · rw [mN]
    generalize U / Y * Y = z at *
    rw [wN _ (by omega), wu64 (by omega) (by omega)]
    omega

/-- The remainder, where the leading zeros of the divisor are known. -/
theorem spec118 (hI : Closed' prog Pm I) {hi lo y s : Nat} (h1 : hi < y) (hlo : lo < 18446744073709551616) (hs : s < 64) (hs1 : 9223372036854775808 ≤ y * 2 ^ s) (hs2 : y * 2 ^ s < 18446744073709551616)
    (hlz : ∀ Q' h', Q' [int s] h' → I 137 [u64 y] Q' h') (hQ : Q [u64 (((hi * 18446744073709551616 + lo) / y : Nat) : Int), u64 (((hi * 18446744073709551616 + lo) % y : Nat) : Int)] h) : I 118 [u64 hi, u64 lo, u64 y] Q h := by
  refine hI.go _ _ (den118 I hi lo y Q) ?_
  have hy64 : y < 18446744073709551616 := by
    have : y * 1 ≤ y * 2 ^ s := Nat.mul_le_mul_left _ (Nat.one_le_two_pow)
    omega
  refine joinK_intro (fun _ h' => h' = h) ?_ (fun j hj => ifT_dec (fun h2 => by omega) fun _ => hj _ _ rfl)
  rintro _ h' rfl
  refine joinK_intro (fun _ h'' => h'' = h') ?_ (fun j hj => ifT_dec (fun h2 => by omega) fun _ => hj _ _ rfl)
  rintro _ h rfl
  refine ifT_dec (fun h2 => ?_) (fun h2 => ?_)
  · have e : (lo : Int).tmod (y : Int) = (((hi * 18446744073709551616 + lo) % y : Nat) : Int) := by
      have : hi = 0 := by omega
      subst this
      rw [← Int.ofNat_tmod]
      simp
    have e2 : IntKind.u64.wrap ((lo : Int).tdiv (y : Int)) = (((hi * 18446744073709551616 + lo) / y : Nat) : Int) := by
      have : hi = 0 := by omega
      subst this
      have hle : lo / y ≤ lo := Nat.div_le_self _ _
      rw [← Int.ofNat_tdiv, wN _ (by omega)]
      simp
    refine ⟨by omega, by omega, ?_⟩
    rw [e, e2]
    exact hQ
  · refine hlz _ _ ⟨_, rfl, ?_⟩
    have p0 := Nat.two_pow_pos s
    have e_s : IntKind.u64.wrap (s : Int) = (s : Int) := wN _ (by omega)
    have e_64 : IntKind.u64.wrap (64 - (s : Int)) = ((64 - s : Nat) : Int) := by rw [wu64 (by omega) (by omega)]; omega
    have hhi : hi * 2 ^ s + 2 ^ s ≤ y * 2 ^ s := by
      have : (hi + 1) * 2 ^ s ≤ y * 2 ^ s := Nat.mul_le_mul_right _ h1
      rw [Nat.add_mul] at this
      omega
    have e_y : shl .u64 (y : Int) (s : Int) = ((y * 2 ^ s : Nat) : Int) := by rw [shl_nat _ _ (by omega), Nat.mod_eq_of_lt hs2]
    have e_hi : shl .u64 (hi : Int) (s : Int) = ((hi * 2 ^ s : Nat) : Int) := by rw [shl_nat _ _ (by omega), Nat.mod_eq_of_lt (by omega)]
    have e_lo : shl .u64 (lo : Int) (s : Int) = ((lo * 2 ^ s % 18446744073709551616 : Nat) : Int) := shl_nat _ _ (by omega)
    have e_sr : shr .u64 (lo : Int) ((64 - s : Nat) : Int) = ((lo / 2 ^ (64 - s) : Nat) : Int) := shr_nat _ _ _ rfl (by omega)
    have hlow : lo / 2 ^ (64 - s) < 2 ^ s := by
      rw [Nat.div_lt_iff_lt_mul (Nat.two_pow_pos _), ← Nat.pow_add, show s + (64 - s) = 64 by omega]
      exact hlo
    have e_U : IntKind.u64.wrap ((BitVec.ofInt 64 ((hi * 2 ^ s : Nat) : Int) ||| BitVec.ofInt 64 ((lo / 2 ^ (64 - s) : Nat) : Int)).toNat : Int) = ((hi * 2 ^ s + lo / 2 ^ (64 - s) : Nat) : Int) :=
      or_parts hi (lo / 2 ^ (64 - s)) s hlow (by omega) (by omega) (by omega)
    have hfin := YtihnjdhjkpmggaaKnuth.parts hi lo s (by omega)
    have hsh := YtihnjdhjkpmggaaKnuth.shifted (hi * 18446744073709551616 + lo) y (2 ^ s) p0
    simp only [e_s, e_64, e_y, e_hi, e_lo, e_sr, e_U, shr32, mask32 _ hs2, mask32 _ (Nat.mod_lt _ (show 0 < 18446744073709551616 by decide))]
    have hUY : hi * 2 ^ s + lo / 2 ^ (64 - s) < y * 2 ^ s := by omega
    generalize hU' : hi * 2 ^ s + lo / 2 ^ (64 - s) = U at *
    generalize hL' : lo * 2 ^ s % 18446744073709551616 = L at *
    have hL : L < 18446744073709551616 := by rw [← hL']; exact Nat.mod_lt _ (by decide)
    have hpow : ∀ x : Nat, shr .u64 (x : Int) (s : Int) = ((x / 2 ^ s : Nat) : Int) := fun x => shr_nat _ _ _ rfl (by omega)
    have hsd : ∀ x, x = (hi * 18446744073709551616 + lo) * 2 ^ s % (y * 2 ^ s) → x / 2 ^ s = (hi * 18446744073709551616 + lo) % y := fun x hx => by rw [hx, hsh]
    have hqd : ∀ x, x = (hi * 18446744073709551616 + lo) * 2 ^ s / (y * 2 ^ s) → x = (hi * 18446744073709551616 + lo) / y := fun x hx => by rw [hx, Nat.mul_div_mul_right _ _ p0]
    rw [← hfin] at hsd hqd
    clear hsh hfin e_U e_sr e_lo e_hi e_y hlow hU' hL' hhi
    generalize y * 2 ^ s = Y at *
    obtain ⟨R, hR⟩ : ∃ R, (hi * 18446744073709551616 + lo) % y = R := ⟨_, rfl⟩
    obtain ⟨QN, hQN⟩ : ∃ QN, (hi * 18446744073709551616 + lo) / y = QN := ⟨_, rfl⟩
    simp only [hR] at hsd hQ
    simp only [hQN] at hqd hQ
    obtain ⟨Y1, hY1⟩ : ∃ Y1, Y / 4294967296 = Y1 := ⟨_, rfl⟩
    obtain ⟨Y0, hY0⟩ : ∃ Y0, Y % 4294967296 = Y0 := ⟨_, rfl⟩
    obtain ⟨L1, hL1⟩ : ∃ L1, L / 4294967296 = L1 := ⟨_, rfl⟩
    obtain ⟨L0, hL0⟩ : ∃ L0, L % 4294967296 = L0 := ⟨_, rfl⟩
    have hYe : Y = Y1 * 4294967296 + Y0 := by omega
    have b1 : Y1 < 4294967296 := by omega
    have b2 : 2147483648 ≤ Y1 := by omega
    have b3 : Y0 < 4294967296 := by omega
    have b4 : L1 < 4294967296 := by omega
    have b5 : L0 < 4294967296 := by omega
    rw [hY1, hY0, hL1, hL0]
    rw [hL1, hL0] at hsd hqd
    -- the words of a round
    have wr : ∀ r : Nat, r < 4294967296 → IntKind.u64.wrap ((r : Int) + (Y1 : Int)) = ((r + Y1 : Nat) : Int) := fun r hr => by rw [aN, wN _ (by omega)]
    have wq : ∀ q : Nat, 1 ≤ q → q ≤ 4294967297 → IntKind.u64.wrap ((q : Int) - 1) = ((q - 1 : Nat) : Int) := fun q h3 h4 => by rw [wu64 (by omega) (by omega)]; omega
    have wm : ∀ q : Nat, q < 4294967296 → IntKind.u64.wrap ((q : Int) * (Y0 : Int)) = ((q * Y0 : Nat) : Int) := fun q hq => by
      have : q * Y0 ≤ 4294967295 * 4294967295 := Nat.mul_le_mul (by omega) (by omega)
      rw [mN, wN _ (by omega)]
    have wl : ∀ (r u : Nat), r < 4294967296 → u < 4294967296 → IntKind.u64.wrap (IntKind.u64.wrap (4294967296 * (r : Int)) + (u : Int)) = ((4294967296 * r + u : Nat) : Int) := fun r u hr hu => by
      rw [wu64 (n := 4294967296 * (r : Int)) (by omega) (by omega), wu64 (by omega) (by omega)]; omega
    have hne : ((Y1 : Nat) : Int) ≠ 0 := by omega
    refine ⟨by omega, by omega, by omega, by omega, hne, ?_⟩
    have e_rest : ∀ (U u : Nat), IntKind.u64.wrap (IntKind.u64.wrap (IntKind.u64.wrap ((U : Int) * 4294967296) + (u : Int)) - IntKind.u64.wrap (((((U * 4294967296 + u) / Y : Nat)) : Int) * (Y : Int))) = (((U * 4294967296 + u) % Y : Nat) : Int) := fun U u => by
      rw [IntKind.wrap_u64, IntKind.wrap_u64, IntKind.wrap_u64, IntKind.wrap_u64]
      exact YtihnjdhjkpmggaaKnuth.rest U u Y (by omega) (by omega)
    refine joinK_intro (fun (q : Int) h' => h' = h ∧ q = (((U * 4294967296 + L1) / Y : Nat) : Int)) ?_ ?_
    · rintro q h' ⟨rfl, rfl⟩
      refine ⟨hne, ?_⟩
      rw [e_rest]
      have hV : (U * 4294967296 + L1) % Y < Y := Nat.mod_lt _ (by omega)
      have hW : ((U * 4294967296 + L1) % Y * 4294967296 + L0) % Y = (U * (4294967296 * 4294967296) + L1 * 4294967296 + L0) % Y := YtihnjdhjkpmggaaKnuth.two _ _ _ _ _
      have hd := hsd _ hW
      obtain ⟨V, hVe⟩ : ∃ V, (U * 4294967296 + L1) % Y = V := ⟨_, rfl⟩
      rw [hVe] at hV hW hd ⊢
      obtain ⟨e1, e2⟩ := div_start (U := V) (Y := Y1) (by omega)
      rw [e1, e2]
      have fin : ∀ q : Nat, q = (V * 4294967296 + L0) / Y → Q [u64 (IntKind.u64.wrap (IntKind.u64.wrap ((((U * 4294967296 + L1) / Y : Nat) : Int) * 4294967296) + (q : Int))), u64 (shr .u64 (IntKind.u64.wrap (IntKind.u64.wrap (IntKind.u64.wrap ((V : Int) * 4294967296) + (L0 : Int)) - IntKind.u64.wrap ((q : Int) * (Y : Int)))) (s : Int))] h' := fun q hq => by
        have hq1 : (U * 4294967296 + L1) / Y < 4294967296 := by
          rw [Nat.div_lt_iff_lt_mul (by omega), Nat.mul_comm]
          omega
        have hq2 : q < 4294967296 := by
          rw [hq, Nat.div_lt_iff_lt_mul (by omega), Nat.mul_comm]
          omega
        have hqq := hqd _ (by rw [YtihnjdhjkpmggaaKnuth.twoq 4294967296 U L1 L0 Y (by omega), hVe, ← hq])
        have hr := e_rest V L0
        rw [← hq] at hr
        rw [hr, hpow, hd]
        obtain ⟨x1, hx1⟩ : ∃ x1, (U * 4294967296 + L1) / Y = x1 := ⟨_, rfl⟩
        rw [hx1] at hq1 hqq ⊢
        have ew : IntKind.u64.wrap (IntKind.u64.wrap ((x1 : Int) * 4294967296) + (q : Int)) = (QN : Int) := by
          rw [← hqq, wu64 (n := (x1 : Int) * 4294967296) (by omega) (by omega), wu64 (by omega) (by omega)]
          omega
        rw [ew]
        exact hQ
      obtain ⟨QQ, hQQ⟩ : ∃ QQ, (V * 4294967296 + L0) / Y = QQ := ⟨_, rfl⟩
      simp only [hQQ] at fin
      rw [hYe] at hQQ hV
      refine loopK_intro (fun (a : Int × Int) h'' m => h'' = h' ∧ ∃ q r : Nat, a = ((r : Int), (q : Int)) ∧ q * Y1 + r = V ∧ r < 4294967296 ∧ QQ ≤ q ∧ q ≤ 4294967296 + 1 ∧ q = m) (V / Y1)
        ⟨rfl, V / Y1, V % Y1, rfl, by rw [Nat.mul_comm]; exact Nat.div_add_mod V Y1, by have := Nat.mod_lt V (show 0 < Y1 by omega); omega, ?_, YtihnjdhjkpmggaaKnuth.first hV (by omega) b3, rfl⟩ ?_
      · rw [← hQQ]
        have : (V * 4294967296 + L0) / (Y1 * 4294967296 + Y0) ≤ V / Y1 := by
          rw [Nat.le_div_iff_mul_le (by omega), Nat.le_iff_lt_or_eq]
          have h3 := Nat.div_mul_le_self (V * 4294967296 + L0) (Y1 * 4294967296 + Y0)
          generalize (V * 4294967296 + L0) / (Y1 * 4294967296 + Y0) = z at h3 ⊢
          rw [Nat.mul_add, ← Nat.mul_assoc] at h3
          generalize z * Y1 = w at h3 ⊢
          generalize z * Y0 = w0 at h3
          omega
        exact this
      · rintro a h'' m ⟨rfl, q, r, rfl, i1, i2, i3, i4, rfl⟩
        dsimp only [uncur]
        have step : (4294967296 ≤ q ∨ 4294967296 * r + L0 < q * Y0) → ∀ {x y : T}, (1 ≤ q → q - 1 = QQ → x h'') → (1 ≤ q → (q - 1) * Y1 + (r + Y1) = V → QQ ≤ q - 1 → q - 1 ≤ 4294967296 → r + Y1 < 4294967296 → y h'') →
            ifT (decide (IntKind.u64.wrap ((r : Int) + (Y1 : Int)) ≥ 4294967296)) x y h'' := fun hc x y hx hy => by
          obtain ⟨s1, s2, s3, s4, s5⟩ := YtihnjdhjkpmggaaKnuth.round hQQ.symm (by omega) hV b5 b3 i1 i4 hc
          rw [wr _ i2]
          exact ifT_dec (fun h3 => hx s1 (s5 (by omega))) fun h3 => hy s1 s2 s3 s4 (by omega)
        have sub1 := wq q
        refine ifT_dec (fun h3 => step (.inl (by omega)) (fun s1 s5 => ?xa) (fun s1 s2 s3 s4 s6 => ?ya)) (fun h3 => ?za)
        case xa =>
          rw [sub1 s1 (by omega)]
          exact ⟨by omega, fin _ s5⟩
        case ya =>
          rw [sub1 s1 (by omega), wr _ i2]
          exact ⟨q - 1, by omega, rfl, q - 1, r + Y1, rfl, s2, s6, s3, by omega, rfl⟩
        rw [wm q (by omega), wl r L0 i2 b5]
        refine ifT_dec (fun h4 => step (.inr (by omega)) (fun s1 s5 => ?xb) (fun s1 s2 s3 s4 s6 => ?yb)) (fun h4 => ⟨by omega, ?zb⟩)
        case zb => exact fin q (YtihnjdhjkpmggaaKnuth.stop hQQ.symm (by omega) i1 i3 (by omega))
        case xb =>
          rw [sub1 s1 (by omega)]
          exact ⟨by omega, fin _ s5⟩
        case yb =>
          rw [sub1 s1 (by omega), wr _ i2]
          exact ⟨q - 1, by omega, rfl, q - 1, r + Y1, rfl, s2, s6, s3, by omega, rfl⟩
    · intro j hj
      obtain ⟨e1, e2⟩ := div_start (U := U) (Y := Y1) (by omega)
      rw [e1, e2]
      obtain ⟨QQ, hQQ⟩ : ∃ QQ, (U * 4294967296 + L1) / Y = QQ := ⟨_, rfl⟩
      simp only [hQQ] at hj
      rw [hYe] at hQQ hUY
      refine loopK_intro (fun (a : Int × Int) h'' m => h'' = h ∧ ∃ q r : Nat, a = ((q : Int), (r : Int)) ∧ q * Y1 + r = U ∧ r < 4294967296 ∧ QQ ≤ q ∧ q ≤ 4294967296 + 1 ∧ q = m) (U / Y1)
        ⟨rfl, U / Y1, U % Y1, rfl, by rw [Nat.mul_comm]; exact Nat.div_add_mod U Y1, by have := Nat.mod_lt U (show 0 < Y1 by omega); omega, ?_, YtihnjdhjkpmggaaKnuth.first hUY (by omega) b3, rfl⟩ ?_
      · rw [← hQQ, Nat.le_div_iff_mul_le (by omega)]
        have h3 := Nat.div_mul_le_self (U * 4294967296 + L1) (Y1 * 4294967296 + Y0)
        generalize (U * 4294967296 + L1) / (Y1 * 4294967296 + Y0) = z at h3 ⊢
        rw [Nat.mul_add, ← Nat.mul_assoc] at h3
        generalize z * Y1 = w at h3 ⊢
        generalize z * Y0 = w0 at h3
        omega
      · rintro a h'' m ⟨rfl, q, r, rfl, i1, i2, i3, i4, rfl⟩
        dsimp only [uncur]
        have step : (4294967296 ≤ q ∨ 4294967296 * r + L1 < q * Y0) → ∀ {x y : T}, (1 ≤ q → q - 1 = QQ → x h'') → (1 ≤ q → (q - 1) * Y1 + (r + Y1) = U → QQ ≤ q - 1 → q - 1 ≤ 4294967296 → r + Y1 < 4294967296 → y h'') →
            ifT (decide (IntKind.u64.wrap ((r : Int) + (Y1 : Int)) ≥ 4294967296)) x y h'' := fun hc x y hx hy => by
          obtain ⟨s1, s2, s3, s4, s5⟩ := YtihnjdhjkpmggaaKnuth.round hQQ.symm (by omega) hUY b4 b3 i1 i4 hc
          rw [wr _ i2]
          exact ifT_dec (fun h3 => hx s1 (s5 (by omega))) fun h3 => hy s1 s2 s3 s4 (by omega)
        have sub1 := wq q
        refine ifT_dec (fun h3 => step (.inl (by omega)) (fun s1 s5 => ?xc) (fun s1 s2 s3 s4 s6 => ?yc)) (fun h3 => ?zc)
        case xc =>
          rw [sub1 s1 (by omega)]
          exact hj _ _ ⟨rfl, by rw [s5]⟩
        case yc =>
          rw [sub1 s1 (by omega), wr _ i2]
          exact ⟨q - 1, by omega, rfl, q - 1, r + Y1, rfl, s2, s6, s3, by omega, rfl⟩
        rw [wm q (by omega), wl r L1 i2 b4]
        refine ifT_dec (fun h4 => step (.inr (by omega)) (fun s1 s5 => ?xd) (fun s1 s2 s3 s4 s6 => ?yd)) (fun h4 => ?zd)
        case zd => exact hj _ _ ⟨rfl, by rw [YtihnjdhjkpmggaaKnuth.stop hQQ.symm (by omega) i1 i3 (by omega)]⟩
        case xd =>
          rw [sub1 s1 (by omega)]
          exact hj _ _ ⟨rfl, by rw [s5]⟩
        case yd =>
          rw [sub1 s1 (by omega), wr _ i2]
          exact ⟨q - 1, by omega, rfl, q - 1, r + Y1, rfl, s2, s6, s3, by omega, rfl⟩

end
end Go.Proofs.YtihnjdhjkpmggaaVc
