/- Vc, part 28: bits of words. -/
import Derived.Test.YtadakbmoanbcgaaGreatDoorVcWord
set_option linter.unusedSimpArgs false
set_option linter.unusedVariables false
namespace Go.Proofs.YtadakbmoanbcgaaGreatDoorVc

theorem bv_nat (a : Nat) (ha : a < 18446744073709551616) : (BitVec.ofInt IntKind.u64.bits (a : Int)).toNat = a := by
  show (BitVec.ofInt 64 (a : Int)).toNat = a
  rw [BitVec.ofInt_natCast, BitVec.toNat_ofNat]
  exact Nat.mod_eq_of_lt ha

theorem and_mask (a : Nat) (ha : a < 18446744073709551616) :
    IntKind.u64.wrap ((BitVec.ofInt IntKind.u64.bits (a : Int) &&& BitVec.ofInt IntKind.u64.bits 4294967295).toNat : Int) = ((a % 4294967296 : Nat) : Int) := by
  rw [BitVec.toNat_and, bv_nat a ha, show (4294967295 : Int) = ((4294967295 : Nat) : Int) from rfl, bv_nat _ (by decide), show (4294967295 : Nat) = 2 ^ 32 - 1 from rfl, Nat.and_two_pow_sub_one_eq_mod]
  exact wu64 (by omega) (by omega)

theorem or_parts (a b s : Nat) (hb : b < 2 ^ s) (ha : a * 2 ^ s < 18446744073709551616) (hb' : b < 18446744073709551616) (hs : a * 2 ^ s + b < 18446744073709551616) :
    IntKind.u64.wrap ((BitVec.ofInt IntKind.u64.bits ((a * 2 ^ s : Nat) : Int) ||| BitVec.ofInt IntKind.u64.bits (b : Int)).toNat : Int) = ((a * 2 ^ s + b : Nat) : Int) := by
  rw [BitVec.toNat_or, bv_nat _ ha, bv_nat _ hb', ← Nat.shiftLeft_eq, ← Nat.shiftLeft_add_eq_or_of_lt hb, Nat.shiftLeft_eq]
  exact wu64 (by omega) (by omega)

theorem pow_cast (s : Nat) : (2 : Int) ^ s = ((2 ^ s : Nat) : Int) := by
  rw [Int.natCast_pow]; rfl
theorem shl_nat (a s : Nat) (hs : s ≤ 64) : shl .u64 (a : Int) (s : Int) = ((a * 2 ^ s % 18446744073709551616 : Nat) : Int) := by
  unfold shl
  rw [Int.toNat_natCast, show IntKind.u64.bits = 64 from rfl, Nat.min_eq_left hs, IntKind.wrap_u64, pow_cast, ← Int.natCast_mul]
  generalize a * 2 ^ s = x
  omega
theorem shr_nat (a s : Nat) (k : IntKind) (hk : k.bits = 64) (hs : s ≤ 64) : shr k (a : Int) (s : Int) = ((a / 2 ^ s : Nat) : Int) := by
  unfold shr
  rw [Int.toNat_natCast, hk, Nat.min_eq_left hs, pow_cast, Int.fdiv_eq_ediv_of_nonneg _ (Int.natCast_nonneg _), Int.natCast_ediv]

end Go.Proofs.YtadakbmoanbcgaaGreatDoorVc
