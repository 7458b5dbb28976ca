/- Lengths of words, whatever they are. -/
import Derived.Test.YtihnjdhjkpmggaaVcCcSpec2
set_option linter.unusedSimpArgs false
set_option linter.unusedVariables false
namespace Go.Proofs.YtihnjdhjkpmggaaVc
open Go.Proofs.Try (prog)

section
variable {I : Calls} {Q : Post} {h : Heap}

theorem len8_ok : ∀ i : Nat, i < 256 → 0 ≤ byteAt len8S (i : Int) ∧ (byteAt len8S (i : Int)).toNat ≤ 8 ∧ i < 2 ^ (byteAt len8S (i : Int)).toNat ∧ (0 < i → 2 ^ (byteAt len8S (i : Int)).toNat ≤ 2 * i) := by decide +kernel

theorem len_idx {x k i L : Nat} (hi : x / 2 ^ k = i) (h1 : i < 2 ^ L) (h2 : 2 ^ L ≤ 2 * i) : x < 2 ^ (k + L) ∧ 2 ^ (k + L) ≤ 2 * x := by
  subst hi
  have p := Nat.two_pow_pos k
  constructor
  · rw [Nat.pow_add, Nat.mul_comm]
    exact (Nat.div_lt_iff_lt_mul p).1 h1
  · rw [Nat.pow_add]
    have h3 : 2 ^ k * 2 ^ L ≤ 2 ^ k * (2 * (x / 2 ^ k)) := Nat.mul_le_mul_left _ h2
    have h4 := Nat.mul_div_le x (2 ^ k)
    rw [Nat.mul_left_comm] at h3
    omega

theorem shrN (a k : Nat) (hk : k ≤ 64) : shr .u64 (a : Int) (k : Int) = ((a / 2 ^ k : Nat) : Int) := shr_nat a k .u64 rfl hk
theorem w8 {a : Nat} (h : a < 256) : IntKind.u8.wrap (a : Int) = (a : Int) := by rw [IntKind.wrap_u8]; omega

theorem spec155g (hI : Closed' prog Pm I) {x : Nat} (h0 : 0 < x) (h1 : x < 18446744073709551616) (hQ : ∀ len : Nat, len ≤ 64 → x < 2 ^ len → 2 ^ len ≤ 2 * x → Q [int len] h) : I 155 [u64 x] Q h := by
  refine hI.go _ _ (den155 I x Q) ?_
  have fin : ∀ (k i : Nat), x / 2 ^ k = i → 0 < i → i < 256 → k ≤ 56 → ∀ c : Int, c = (k : Int) → Q [int (IntKind.i64.wrap (c + IntKind.i64.wrap (byteAt len8S (i : Int))))] h := fun k i hi hp hlt hk c hc => by
    obtain ⟨a1, a2, a3, a4⟩ := len8_ok i hlt
    obtain ⟨L, hL⟩ := Int.eq_ofNat_of_zero_le a1
    rw [hL] at a2 a3 a4 ⊢
    rw [Int.toNat_natCast] at a2 a3 a4
    obtain ⟨b1, b2⟩ := len_idx hi a3 (a4 hp)
    have := hQ (k + L) (by omega) b1 b2
    rw [hc, w64 (n := (L : Int)) (by omega) (by omega), w64 (by omega) (by omega)]
    exact this
  have s16 : ∀ a : Nat, shr .u64 (a : Int) 16 = ((a / 65536 : Nat) : Int) := fun a => shrN a 16 (by decide)
  have s8 : ∀ a : Nat, shr .u64 (a : Int) 8 = ((a / 256 : Nat) : Int) := fun a => shrN a 8 (by decide)
  refine joinK_intro (fun (p : Int × Int) h' => h' = h ∧ ∃ y k : Nat, p = ((y : Int), (k : Int)) ∧ x / 2 ^ k = y ∧ 0 < y ∧ y < 4294967296 ∧ k ≤ 32) ?_ ?_
  · rintro _ h' ⟨rfl, y, k, rfl, hy, hp, hlt, hk⟩
    dsimp only [uncur]
    have dv : ∀ j, x / 2 ^ (k + j) = y / 2 ^ j := fun j => by rw [Nat.pow_add, ← Nat.div_div_eq_div_mul, hy]
    have d8 := dv 8
    have d16 := dv 16
    have d24 := dv 24
    simp only [s16, s8]
    refine ifT_dec (fun h2 => ifT_dec (fun h3 => ?_) fun h3 => ?_) fun h2 => ifT_dec (fun h3 => ?_) fun h3 => ?_
    · rw [w8 (a := y / 65536 / 256) (by omega)]
      refine ⟨⟨by omega, by show ((y / 65536 / 256 : Nat) : Int) < ((256 : Nat) : Int); omega⟩, fin (k + 24) _ (by rw [d24, Nat.div_div_eq_div_mul]) (by omega) (by omega) (by omega) _ ?_⟩
      rw [w64 (n := (k : Int) + 16) (by omega) (by omega), w64 (by omega) (by omega)]; omega
    · rw [w8 (a := y / 65536) (by omega)]
      refine ⟨⟨by omega, by show ((y / 65536 : Nat) : Int) < ((256 : Nat) : Int); omega⟩, fin (k + 16) _ d16 (by omega) (by omega) (by omega) _ ?_⟩
      rw [w64 (by omega) (by omega)]; omega
    · rw [w8 (a := y / 256) (by omega)]
      refine ⟨⟨by omega, by show ((y / 256 : Nat) : Int) < ((256 : Nat) : Int); omega⟩, fin (k + 8) _ d8 (by omega) (by omega) (by omega) _ ?_⟩
      rw [w64 (by omega) (by omega)]; omega
    · rw [w8 (a := y) (by omega)]
      exact ⟨⟨by omega, by show (y : Int) < ((256 : Nat) : Int); omega⟩, fin k _ hy hp (by omega) (by omega) _ rfl⟩
  · intro j hj
    refine ifT_dec (fun h2 => ?_) fun h2 => ?_
    · rw [shr32]
      exact hj _ _ ⟨rfl, x / 4294967296, 32, rfl, rfl, by omega, by omega, by decide⟩
    · exact hj _ _ ⟨rfl, x, 0, rfl, by simp, h0, by omega, by decide⟩

/-- A divisor of 64 bits, whatever it is. -/
theorem spec118g (hI : Closed' prog Pm I) {hi lo y : Nat} (h1 : hi < y) (hy : y < 18446744073709551616) (hlo : lo < 18446744073709551616)
    (hQ : Q [u64 (((hi * 18446744073709551616 + lo) / y : Nat) : Int), u64 (((hi * 18446744073709551616 + lo) % y : Nat) : Int)] h) : I 118 [u64 hi, u64 lo, u64 y] Q h := by
  have hlen : ∃ len : Nat, len ≤ 64 ∧ y < 2 ^ len ∧ 2 ^ len ≤ 2 * y ∧ ∀ Q' h', Q' [int (64 - len : Nat)] h' → I 137 [u64 y] Q' h' := by
    refine ⟨y.log2 + 1, ?_, Nat.lt_log2_self, ?_, fun Q' h' hq => ?_⟩
    · have := (Nat.log2_lt (k := 64) (by omega)).2 hy
      omega
    · have := Nat.log2_self_le (n := y) (by omega)
      rw [Nat.pow_succ]; omega
    · refine hI.go _ _ (den137 I y Q') ?_
      refine spec155g hI (by omega) hy fun len h2 h3 h4 => ⟨_, rfl, ?_⟩
      have e : len = y.log2 + 1 := by
        have a1 : y.log2 < len := (Nat.log2_lt (by omega)).2 h3
        have a2 : len - 1 ≤ y.log2 := by
          rw [Nat.le_log2 (by omega)]
          have : 2 ^ len = 2 ^ (len - 1) * 2 := by rw [← Nat.pow_succ]; congr 1; omega
          omega
        omega
      rw [e] at h2 ⊢
      have : IntKind.i64.wrap (64 - ((y.log2 + 1 : Nat) : Int)) = ((64 - (y.log2 + 1) : Nat) : Int) := by rw [w64 (by omega) (by omega)]; omega
      rw [this]
      exact hq
  obtain ⟨len, l1, l2, l3, l4⟩ := hlen
  have hl0 : len ≠ 0 := by rintro rfl; omega
  have p1 : y * 2 ^ (64 - len) < 2 ^ len * 2 ^ (64 - len) := Nat.mul_lt_mul_of_pos_right l2 (Nat.two_pow_pos _)
  have p2 : 2 ^ len * 2 ^ (64 - len) ≤ 2 * y * 2 ^ (64 - len) := Nat.mul_le_mul_right _ l3
  rw [← Nat.pow_add, show len + (64 - len) = 64 by omega] at p1 p2
  rw [Nat.mul_assoc] at p2
  exact spec118 hI h1 hlo (s := 64 - len) (by omega) (by omega) p1 l4 hQ

end
end Go.Proofs.YtihnjdhjkpmggaaVc
