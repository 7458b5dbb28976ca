/- Division of 128 bits by 64 (math/bits.Div64): the arithmetic of one digit of 32 bits, and of the shift. -/
set_option linter.unusedSimpArgs false
set_option linter.unusedVariables false
namespace Go.Proofs.YtdjancoknephnaaGreatKnuth

section
variable {B U u y1 y0 q r : Nat}

theorem prod_eq (hi : q * y1 + r = U) : q * (y1 * B + y0) + r * B = U * B + q * y0 := by
  subst hi
  rw [Nat.mul_add, Nat.add_mul, ← Nat.mul_assoc]
  omega

/-- More than the quotient. -/
theorem over (hU : U < y1 * B + y0) (hu : u < B) (hi : q * y1 + r = U) (h : B ≤ q ∨ B * r + u < q * y0) : (U * B + u) / (y1 * B + y0) < q := by
  have hy : 0 < y1 * B + y0 := by omega
  rcases h with h | h
  · refine Nat.lt_of_lt_of_le ?_ h
    rw [Nat.div_lt_iff_lt_mul hy]
    have h1 : (U + 1) * B ≤ (y1 * B + y0) * B := Nat.mul_le_mul_right _ hU
    rw [Nat.add_mul U 1 B, Nat.mul_comm (y1 * B + y0) B] at h1
    omega
  · rw [Nat.div_lt_iff_lt_mul hy]
    have := prod_eq (B := B) (y0 := y0) hi
    rw [Nat.mul_comm B r] at h
    omega

/-- Not more than the quotient. -/
theorem under (hy : 0 < y1 * B + y0) (hi : q * y1 + r = U) (h : q * y0 ≤ B * r + u) : q ≤ (U * B + u) / (y1 * B + y0) := by
  rw [Nat.le_div_iff_mul_le hy]
  have := prod_eq (B := B) (y0 := y0) hi
  rw [Nat.mul_comm B r] at h
  omega

theorem small (h : q ≤ B) (hr : B ≤ r) (hy0 : y0 < B) : q * y0 ≤ B * r + u := by
  have h1 : q * y0 ≤ B * y0 := Nat.mul_le_mul_right _ h
  have h2 : B * y0 ≤ B * r := Nat.mul_le_mul_left _ (by omega)
  omega

theorem first (hU : U < y1 * B + y0) (hy1 : B ≤ 2 * y1) (hy0 : y0 < B) : U / y1 ≤ B + 1 := by
  have : U / y1 < B + 2 := by
    rw [Nat.div_lt_iff_lt_mul (by omega), Nat.add_mul, Nat.mul_comm B]
    omega
  omega

/-- What the shift leaves. -/
theorem shifted (N y k : Nat) (hk : 0 < k) : N * k % (y * k) / k = N % y := by
  rw [Nat.mul_mod_mul_right, Nat.mul_div_cancel _ hk]

/-- Two digits. -/
theorem two (B U u v y : Nat) : ((U * B + u) % y * B + v) % y = (U * (B * B) + u * B + v) % y := by
  rw [Nat.add_mod, Nat.mul_mod, Nat.mod_mod, ← Nat.mul_mod, ← Nat.add_mod]
  congr 1
  rw [Nat.add_mul, Nat.mul_assoc]

/-- .. and their quotients. -/
theorem twoq (B U u v y : Nat) (hy : 0 < y) : (U * (B * B) + u * B + v) / y = (U * B + u) / y * B + ((U * B + u) % y * B + v) / y := by
  have h := Nat.div_add_mod (U * B + u) y
  generalize (U * B + u) / y = q at *
  generalize (U * B + u) % y = r at *
  have h2 : (y * q + r) * B = (U * B + u) * B := by rw [h]
  rw [Nat.add_mul (y * q), Nat.mul_assoc y, Nat.add_mul (U * B), Nat.mul_assoc U] at h2
  have e : U * (B * B) + u * B + v = y * (q * B) + (r * B + v) := by omega
  rw [e, Nat.mul_add_div hy]

/-- The remainder, as it is written with numbers of 64 bits. -/
theorem rest (U u y : Nat) (hy : y ≤ 18446744073709551616) (hy0 : 0 < y) :
    ((((U : Int) * 4294967296 % 18446744073709551616) + u) % 18446744073709551616 - (((U * 4294967296 + u) / y : Nat) * (y : Int)) % 18446744073709551616) % 18446744073709551616 = (((U * 4294967296 + u) % y : Nat) : Int) := by
  have h0 : ((y * ((U * 4294967296 + u) / y) + (U * 4294967296 + u) % y : Nat) : Int) = ((U * 4294967296 + u : Nat) : Int) := by rw [Nat.div_add_mod]
  rw [Int.natCast_add, Int.natCast_mul] at h0
  have h2 : (U * 4294967296 + u) % y < y := Nat.mod_lt _ hy0
  generalize hQ : (((U * 4294967296 + u) / y : Nat) : Int) = Q at *
  generalize hR : (U * 4294967296 + u) % y = R at *
  rw [Int.mul_comm Q]
  generalize (y : Int) * Q = z at *
  clear hQ hR
  omega

/-- One round down: the invariant stays; where what is left over is large, the digit is the quotient. -/
theorem round {QQ : Nat} (hQQ : QQ = (U * B + u) / (y1 * B + y0)) (hy1 : 0 < y1) (hU : U < y1 * B + y0) (hu : u < B) (hy0 : y0 < B) (hi : q * y1 + r = U) (hq2 : q ≤ B + 1) (hc : B ≤ q ∨ B * r + u < q * y0) :
    1 ≤ q ∧ (q - 1) * y1 + (r + y1) = U ∧ QQ ≤ q - 1 ∧ q - 1 ≤ B ∧ (B ≤ r + y1 → q - 1 = QQ) := by
  have h1 := over hU hu hi hc
  rw [← hQQ] at h1
  have h2 : (q - 1) * y1 + (r + y1) = U := by
    rw [Nat.sub_mul]
    have : 1 * y1 ≤ q * y1 := Nat.mul_le_mul_right _ (by omega)
    omega
  refine ⟨by omega, h2, by omega, by omega, fun h3 => ?_⟩
  have h4 := under (B := B) (u := u) (y0 := y0) (by have := Nat.mul_pos hy1 (show 0 < B by omega); omega) h2 (small (by omega) h3 hy0)
  omega
theorem stop {QQ : Nat} (hQQ : QQ = (U * B + u) / (y1 * B + y0)) (hy : 0 < y1 * B + y0) (hi : q * y1 + r = U) (hq : QQ ≤ q) (hc : ¬ B * r + u < q * y0) : q = QQ := by
  have := under hy hi (Nat.le_of_not_lt hc)
  omega

end

/-- A number of 128 bits that is shifted, in three parts. -/
theorem parts (hi lo s : Nat) (hs : s ≤ 64) :
    (hi * 2 ^ s + lo / 2 ^ (64 - s)) * (4294967296 * 4294967296) + lo * 2 ^ s % 18446744073709551616 / 4294967296 * 4294967296 + lo * 2 ^ s % 18446744073709551616 % 4294967296 = (hi * 18446744073709551616 + lo) * 2 ^ s := by
  have e : lo / 2 ^ (64 - s) = lo * 2 ^ s / 18446744073709551616 := by
    have : (18446744073709551616 : Nat) = 2 ^ (64 - s) * 2 ^ s := by rw [← Nat.pow_add, Nat.sub_add_cancel hs]
    rw [this, Nat.mul_div_mul_right _ _ (Nat.two_pow_pos s)]
  rw [e, Nat.add_mul (hi * 18446744073709551616), Nat.mul_right_comm hi]
  generalize lo * 2 ^ s = z
  generalize hi * 2 ^ s = w
  omega

end Go.Proofs.YtdjancoknephnaaGreatKnuth
