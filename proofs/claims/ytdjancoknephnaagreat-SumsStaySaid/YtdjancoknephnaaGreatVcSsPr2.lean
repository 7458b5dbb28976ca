/- Contracts, turned by a program to the numbers of this seat. -/
import Derived.Test.YtdjancoknephnaaGreatVcSsPr
import Derived.Lib.Mul64
import Derived.Test.YtdjancoknephnaaGreatVcKnuth
import Derived.Test.YtdjancoknephnaaGreatVcCsMath
import Derived.Test.YtdjancoknephnaaGreatVcCodeMath
set_option linter.unusedSimpArgs false
set_option linter.unusedVariables false
-- from PrOld2
namespace Go.Proofs.YtdjancoknephnaaGreatVc
open Go.Proofs.YtdjancoknephnaaGreatCodes
open Go.Proofs.Tryz (prog)
section
variable {I : Calls} {Q : Post} {h : Heap}
/-! ### the stream -/
/-! ### codes -/
theorem spec14 (hI : Closed' prog Pm I) (hQ : Q [boo true] h) : I 14 [] Q h := by
  refine hI.go _ _ (den14 I Q) ?_
  have e : (ByteArray.mk #[49, 50, 51]) = code [1, 2, 3] := by decide
  show I 47 [str (ByteArray.mk #[49, 50, 51])] _ h
  rw [e]
  refine spec47 hI (by decide) (by decide) (by decide) fun x h1 h2 => ⟨_, _, rfl, ?_⟩
  have hx : x = 12 := seal_unique x h1 (by rw [wsum_snoc] at h2; simpa [wsum] using h2)
  subst hx
  refine ifT_intro (fun _ => ?_) (fun h => by simp at h)
  have e2 : decide (code ([1, 2, 3] ++ [12]) = ByteArray.mk #[49, 50, 51, 67]) = true := by decide
  rw [e2]
  exact hQ
theorem pow31_le {n : Nat} (h : n ≤ 11) : 31 ^ n ≤ 25408476896404831 := by
  have : 31 ^ n ≤ 31 ^ 11 := Nat.pow_le_pow_right (by decide) h
  exact this
/-! ### looking a string up -/
end
end Go.Proofs.YtdjancoknephnaaGreatVc
-- from CcSpec2
namespace Go.Proofs.YtdjancoknephnaaGreatVc
open Go.Proofs.YtdjancoknephnaaGreatCodes
open Go.Proofs.Tryz (prog)
section
variable {I : Calls} {Q : Post} {h : Heap}
theorem spec122 (hI : Closed' prog Pm I) {x y : Nat} (hx : x < 18446744073709551616) (hy : y < 18446744073709551616)
    (hQ : Q [u64 ((x * y / 18446744073709551616 : Nat) : Int), u64 ((x * y % 18446744073709551616 : Nat) : Int)] h) : I 122 [u64 x, u64 y] Q h := by
  refine hI.go _ _ (den122 I x y Q) ?_
  obtain ⟨bd, bt, bw, hhi⟩ := Lib.mul64_hi x y hx hy
  have ba := Lib.half_mul_le (a := x / 4294967296) (b := y / 4294967296) (by omega) (by omega)
  have bb := Lib.half_mul_le (a := x / 4294967296) (b := y % 4294967296) (by omega) (by omega)
  have bc := Lib.half_mul_le (a := x % 4294967296) (b := y / 4294967296) (by omega) (by omega)
  have ba' : x / 4294967296 * (y / 4294967296) < 18446744073709551616 := by omega
  have bb' : x / 4294967296 * (y % 4294967296) < 18446744073709551616 := by omega
  have bc' : x % 4294967296 * (y / 4294967296) < 18446744073709551616 := by omega
  have bh1 : x / 4294967296 * (y / 4294967296) + (x / 4294967296 * (y % 4294967296) + x % 4294967296 * (y % 4294967296) / 4294967296) / 4294967296 < 18446744073709551616 := by omega
  have bh : x / 4294967296 * (y / 4294967296) + (x / 4294967296 * (y % 4294967296) + x % 4294967296 * (y % 4294967296) / 4294967296) / 4294967296 + ((x / 4294967296 * (y % 4294967296) + x % 4294967296 * (y % 4294967296) / 4294967296) % 4294967296 + x % 4294967296 * (y / 4294967296)) / 4294967296 < 18446744073709551616 := by omega
  unfold vc122
  simp only [mask32 x hx, mask32 y hy, shr32, mN, aN, wN _ bd, wN _ bb', wN _ bt, mask32 _ bt, wN _ bc', wN _ bw, wN _ ba', wN _ bh1, wN _ bh, wM (x * y)]
  rw [hhi]
  exact hQ
/-- The remainder, where the leading zeros of the divisor are known. -/
theorem spec123 (hI : Closed' prog Pm I) {hi lo y s : Nat} (h1 : hi < y) (hlo : lo < 18446744073709551616) (hs : s < 64) (hs1 : 9223372036854775808 ≤ y * 2 ^ s) (hs2 : y * 2 ^ s < 18446744073709551616)
    (hlz : ∀ Q' h', Q' [int s] h' → I 135 [u64 y] Q' h') (hQ : Q [u64 (((hi * 18446744073709551616 + lo) / y : Nat) : Int), u64 (((hi * 18446744073709551616 + lo) % y : Nat) : Int)] h) : I 123 [u64 hi, u64 lo, u64 y] Q h := by
  refine hI.go _ _ (den123 I hi lo y Q) ?_
  have hy64 : y < 18446744073709551616 := by
    have : y * 1 ≤ y * 2 ^ s := Nat.mul_le_mul_left _ (Nat.one_le_two_pow)
    omega
  refine joinK_intro (fun _ h' => h' = h) ?_ (fun j hj => ifT_dec (fun h2 => by omega) fun _ => hj _ _ rfl)
  rintro _ h' rfl
  refine joinK_intro (fun _ h'' => h'' = h') ?_ (fun j hj => ifT_dec (fun h2 => by omega) fun _ => hj _ _ rfl)
  rintro _ h rfl
  refine ifT_dec (fun h2 => ?_) (fun h2 => ?_)
  · have e : (lo : Int).tmod (y : Int) = (((hi * 18446744073709551616 + lo) % y : Nat) : Int) := by
      have : hi = 0 := by omega
      subst this
      rw [← Int.ofNat_tmod]
      simp
    have e2 : IntKind.u64.wrap ((lo : Int).tdiv (y : Int)) = (((hi * 18446744073709551616 + lo) / y : Nat) : Int) := by
      have : hi = 0 := by omega
      subst this
      have hle : lo / y ≤ lo := Nat.div_le_self _ _
      rw [← Int.ofNat_tdiv, wN _ (by omega)]
      simp
    refine ⟨by omega, by omega, ?_⟩
    rw [e, e2]
    exact hQ
  · refine hlz _ _ ⟨_, rfl, ?_⟩
    have p0 := Nat.two_pow_pos s
    have e_s : IntKind.u64.wrap (s : Int) = (s : Int) := wN _ (by omega)
    have e_64 : IntKind.u64.wrap (64 - (s : Int)) = ((64 - s : Nat) : Int) := by rw [wu64 (by omega) (by omega)]; omega
    have hhi : hi * 2 ^ s + 2 ^ s ≤ y * 2 ^ s := by
      have : (hi + 1) * 2 ^ s ≤ y * 2 ^ s := Nat.mul_le_mul_right _ h1
      rw [Nat.add_mul] at this
      omega
    have e_y : shl .u64 (y : Int) (s : Int) = ((y * 2 ^ s : Nat) : Int) := by rw [shl_nat _ _ (by omega), Nat.mod_eq_of_lt hs2]
    have e_hi : shl .u64 (hi : Int) (s : Int) = ((hi * 2 ^ s : Nat) : Int) := by rw [shl_nat _ _ (by omega), Nat.mod_eq_of_lt (by omega)]
    have e_lo : shl .u64 (lo : Int) (s : Int) = ((lo * 2 ^ s % 18446744073709551616 : Nat) : Int) := shl_nat _ _ (by omega)
    have e_sr : shr .u64 (lo : Int) ((64 - s : Nat) : Int) = ((lo / 2 ^ (64 - s) : Nat) : Int) := shr_nat _ _ _ rfl (by omega)
    have hlow : lo / 2 ^ (64 - s) < 2 ^ s := by
      rw [Nat.div_lt_iff_lt_mul (Nat.two_pow_pos _), ← Nat.pow_add, show s + (64 - s) = 64 by omega]
      exact hlo
    have e_U : IntKind.u64.wrap ((BitVec.ofInt 64 ((hi * 2 ^ s : Nat) : Int) ||| BitVec.ofInt 64 ((lo / 2 ^ (64 - s) : Nat) : Int)).toNat : Int) = ((hi * 2 ^ s + lo / 2 ^ (64 - s) : Nat) : Int) :=
      or_parts hi (lo / 2 ^ (64 - s)) s hlow (by omega) (by omega) (by omega)
    have hfin := YtdjancoknephnaaGreatKnuth.parts hi lo s (by omega)
    have hsh := YtdjancoknephnaaGreatKnuth.shifted (hi * 18446744073709551616 + lo) y (2 ^ s) p0
    simp only [e_s, e_64, e_y, e_hi, e_lo, e_sr, e_U, shr32, mask32 _ hs2, mask32 _ (Nat.mod_lt _ (show 0 < 18446744073709551616 by decide))]
    have hUY : hi * 2 ^ s + lo / 2 ^ (64 - s) < y * 2 ^ s := by omega
    generalize hU' : hi * 2 ^ s + lo / 2 ^ (64 - s) = U at *
    generalize hL' : lo * 2 ^ s % 18446744073709551616 = L at *
    have hL : L < 18446744073709551616 := by rw [← hL']; exact Nat.mod_lt _ (by decide)
    have hpow : ∀ x : Nat, shr .u64 (x : Int) (s : Int) = ((x / 2 ^ s : Nat) : Int) := fun x => shr_nat _ _ _ rfl (by omega)
    have hsd : ∀ x, x = (hi * 18446744073709551616 + lo) * 2 ^ s % (y * 2 ^ s) → x / 2 ^ s = (hi * 18446744073709551616 + lo) % y := fun x hx => by rw [hx, hsh]
    have hqd : ∀ x, x = (hi * 18446744073709551616 + lo) * 2 ^ s / (y * 2 ^ s) → x = (hi * 18446744073709551616 + lo) / y := fun x hx => by rw [hx, Nat.mul_div_mul_right _ _ p0]
    rw [← hfin] at hsd hqd
    clear hsh hfin e_U e_sr e_lo e_hi e_y hlow hU' hL' hhi
    generalize y * 2 ^ s = Y at *
    obtain ⟨R, hR⟩ : ∃ R, (hi * 18446744073709551616 + lo) % y = R := ⟨_, rfl⟩
    obtain ⟨QN, hQN⟩ : ∃ QN, (hi * 18446744073709551616 + lo) / y = QN := ⟨_, rfl⟩
    simp only [hR] at hsd hQ
    simp only [hQN] at hqd hQ
    obtain ⟨Y1, hY1⟩ : ∃ Y1, Y / 4294967296 = Y1 := ⟨_, rfl⟩
    obtain ⟨Y0, hY0⟩ : ∃ Y0, Y % 4294967296 = Y0 := ⟨_, rfl⟩
    obtain ⟨L1, hL1⟩ : ∃ L1, L / 4294967296 = L1 := ⟨_, rfl⟩
    obtain ⟨L0, hL0⟩ : ∃ L0, L % 4294967296 = L0 := ⟨_, rfl⟩
    have hYe : Y = Y1 * 4294967296 + Y0 := by omega
    have b1 : Y1 < 4294967296 := by omega
    have b2 : 2147483648 ≤ Y1 := by omega
    have b3 : Y0 < 4294967296 := by omega
    have b4 : L1 < 4294967296 := by omega
    have b5 : L0 < 4294967296 := by omega
    rw [hY1, hY0, hL1, hL0]
    rw [hL1, hL0] at hsd hqd
    -- the words of a round
    have wr : ∀ r : Nat, r < 4294967296 → IntKind.u64.wrap ((r : Int) + (Y1 : Int)) = ((r + Y1 : Nat) : Int) := fun r hr => by rw [aN, wN _ (by omega)]
    have wq : ∀ q : Nat, 1 ≤ q → q ≤ 4294967297 → IntKind.u64.wrap ((q : Int) - 1) = ((q - 1 : Nat) : Int) := fun q h3 h4 => by rw [wu64 (by omega) (by omega)]; omega
    have wm : ∀ q : Nat, q < 4294967296 → IntKind.u64.wrap ((q : Int) * (Y0 : Int)) = ((q * Y0 : Nat) : Int) := fun q hq => by
      have : q * Y0 ≤ 4294967295 * 4294967295 := Nat.mul_le_mul (by omega) (by omega)
      rw [mN, wN _ (by omega)]
    have wl : ∀ (r u : Nat), r < 4294967296 → u < 4294967296 → IntKind.u64.wrap (IntKind.u64.wrap (4294967296 * (r : Int)) + (u : Int)) = ((4294967296 * r + u : Nat) : Int) := fun r u hr hu => by
      rw [wu64 (n := 4294967296 * (r : Int)) (by omega) (by omega), wu64 (by omega) (by omega)]; omega
    have hne : ((Y1 : Nat) : Int) ≠ 0 := by omega
    refine ⟨by omega, by omega, by omega, by omega, hne, ?_⟩
    have e_rest : ∀ (U u : Nat), IntKind.u64.wrap (IntKind.u64.wrap (IntKind.u64.wrap ((U : Int) * 4294967296) + (u : Int)) - IntKind.u64.wrap (((((U * 4294967296 + u) / Y : Nat)) : Int) * (Y : Int))) = (((U * 4294967296 + u) % Y : Nat) : Int) := fun U u => by
      rw [IntKind.wrap_u64, IntKind.wrap_u64, IntKind.wrap_u64, IntKind.wrap_u64]
      exact YtdjancoknephnaaGreatKnuth.rest U u Y (by omega) (by omega)
    refine joinK_intro (fun (q : Int) h' => h' = h ∧ q = (((U * 4294967296 + L1) / Y : Nat) : Int)) ?_ ?_
    · rintro q h' ⟨rfl, rfl⟩
      refine ⟨hne, ?_⟩
      rw [e_rest]
      have hV : (U * 4294967296 + L1) % Y < Y := Nat.mod_lt _ (by omega)
      have hW : ((U * 4294967296 + L1) % Y * 4294967296 + L0) % Y = (U * (4294967296 * 4294967296) + L1 * 4294967296 + L0) % Y := YtdjancoknephnaaGreatKnuth.two _ _ _ _ _
      have hd := hsd _ hW
      obtain ⟨V, hVe⟩ : ∃ V, (U * 4294967296 + L1) % Y = V := ⟨_, rfl⟩
      rw [hVe] at hV hW hd ⊢
      obtain ⟨e1, e2⟩ := div_start (U := V) (Y := Y1) (by omega)
      rw [e1, e2]
      have fin : ∀ q : Nat, q = (V * 4294967296 + L0) / Y → Q [u64 (IntKind.u64.wrap (IntKind.u64.wrap ((((U * 4294967296 + L1) / Y : Nat) : Int) * 4294967296) + (q : Int))), u64 (shr .u64 (IntKind.u64.wrap (IntKind.u64.wrap (IntKind.u64.wrap ((V : Int) * 4294967296) + (L0 : Int)) - IntKind.u64.wrap ((q : Int) * (Y : Int)))) (s : Int))] h' := fun q hq => by
        have hq1 : (U * 4294967296 + L1) / Y < 4294967296 := by
          rw [Nat.div_lt_iff_lt_mul (by omega), Nat.mul_comm]
          omega
        have hq2 : q < 4294967296 := by
          rw [hq, Nat.div_lt_iff_lt_mul (by omega), Nat.mul_comm]
          omega
        have hqq := hqd _ (by rw [YtdjancoknephnaaGreatKnuth.twoq 4294967296 U L1 L0 Y (by omega), hVe, ← hq])
        have hr := e_rest V L0
        rw [← hq] at hr
        rw [hr, hpow, hd]
        obtain ⟨x1, hx1⟩ : ∃ x1, (U * 4294967296 + L1) / Y = x1 := ⟨_, rfl⟩
        rw [hx1] at hq1 hqq ⊢
        have ew : IntKind.u64.wrap (IntKind.u64.wrap ((x1 : Int) * 4294967296) + (q : Int)) = (QN : Int) := by
          rw [← hqq, wu64 (n := (x1 : Int) * 4294967296) (by omega) (by omega), wu64 (by omega) (by omega)]
          omega
        rw [ew]
        exact hQ
      obtain ⟨QQ, hQQ⟩ : ∃ QQ, (V * 4294967296 + L0) / Y = QQ := ⟨_, rfl⟩
      simp only [hQQ] at fin
      rw [hYe] at hQQ hV
      refine loopK_intro (fun (a : Int × Int) h'' m => h'' = h' ∧ ∃ q r : Nat, a = ((r : Int), (q : Int)) ∧ q * Y1 + r = V ∧ r < 4294967296 ∧ QQ ≤ q ∧ q ≤ 4294967296 + 1 ∧ q = m) (V / Y1)
        ⟨rfl, V / Y1, V % Y1, rfl, by rw [Nat.mul_comm]; exact Nat.div_add_mod V Y1, by have := Nat.mod_lt V (show 0 < Y1 by omega); omega, ?_, YtdjancoknephnaaGreatKnuth.first hV (by omega) b3, rfl⟩ ?_
      · rw [← hQQ]
        have : (V * 4294967296 + L0) / (Y1 * 4294967296 + Y0) ≤ V / Y1 := by
          rw [Nat.le_div_iff_mul_le (by omega), Nat.le_iff_lt_or_eq]
          have h3 := Nat.div_mul_le_self (V * 4294967296 + L0) (Y1 * 4294967296 + Y0)
          generalize (V * 4294967296 + L0) / (Y1 * 4294967296 + Y0) = z at h3 ⊢
          rw [Nat.mul_add, ← Nat.mul_assoc] at h3
          generalize z * Y1 = w at h3 ⊢
          generalize z * Y0 = w0 at h3
          omega
        exact this
      · rintro a h'' m ⟨rfl, q, r, rfl, i1, i2, i3, i4, rfl⟩
        dsimp only [uncur]
        have step : (4294967296 ≤ q ∨ 4294967296 * r + L0 < q * Y0) → ∀ {x y : T}, (1 ≤ q → q - 1 = QQ → x h'') → (1 ≤ q → (q - 1) * Y1 + (r + Y1) = V → QQ ≤ q - 1 → q - 1 ≤ 4294967296 → r + Y1 < 4294967296 → y h'') →
            ifT (decide (IntKind.u64.wrap ((r : Int) + (Y1 : Int)) ≥ 4294967296)) x y h'' := fun hc x y hx hy => by
          obtain ⟨s1, s2, s3, s4, s5⟩ := YtdjancoknephnaaGreatKnuth.round hQQ.symm (by omega) hV b5 b3 i1 i4 hc
          rw [wr _ i2]
          exact ifT_dec (fun h3 => hx s1 (s5 (by omega))) fun h3 => hy s1 s2 s3 s4 (by omega)
        have sub1 := wq q
        refine ifT_dec (fun h3 => step (.inl (by omega)) (fun s1 s5 => ?xa) (fun s1 s2 s3 s4 s6 => ?ya)) (fun h3 => ?za)
        case xa =>
          rw [sub1 s1 (by omega)]
          exact ⟨by omega, fin _ s5⟩
        case ya =>
          rw [sub1 s1 (by omega), wr _ i2]
          exact ⟨q - 1, by omega, rfl, q - 1, r + Y1, rfl, s2, s6, s3, by omega, rfl⟩
        rw [wm q (by omega), wl r L0 i2 b5]
        refine ifT_dec (fun h4 => step (.inr (by omega)) (fun s1 s5 => ?xb) (fun s1 s2 s3 s4 s6 => ?yb)) (fun h4 => ⟨by omega, ?zb⟩)
        case zb => exact fin q (YtdjancoknephnaaGreatKnuth.stop hQQ.symm (by omega) i1 i3 (by omega))
        case xb =>
          rw [sub1 s1 (by omega)]
          exact ⟨by omega, fin _ s5⟩
        case yb =>
          rw [sub1 s1 (by omega), wr _ i2]
          exact ⟨q - 1, by omega, rfl, q - 1, r + Y1, rfl, s2, s6, s3, by omega, rfl⟩
    · intro j hj
      obtain ⟨e1, e2⟩ := div_start (U := U) (Y := Y1) (by omega)
      rw [e1, e2]
      obtain ⟨QQ, hQQ⟩ : ∃ QQ, (U * 4294967296 + L1) / Y = QQ := ⟨_, rfl⟩
      simp only [hQQ] at hj
      rw [hYe] at hQQ hUY
      refine loopK_intro (fun (a : Int × Int) h'' m => h'' = h ∧ ∃ q r : Nat, a = ((q : Int), (r : Int)) ∧ q * Y1 + r = U ∧ r < 4294967296 ∧ QQ ≤ q ∧ q ≤ 4294967296 + 1 ∧ q = m) (U / Y1)
        ⟨rfl, U / Y1, U % Y1, rfl, by rw [Nat.mul_comm]; exact Nat.div_add_mod U Y1, by have := Nat.mod_lt U (show 0 < Y1 by omega); omega, ?_, YtdjancoknephnaaGreatKnuth.first hUY (by omega) b3, rfl⟩ ?_
      · rw [← hQQ, Nat.le_div_iff_mul_le (by omega)]
        have h3 := Nat.div_mul_le_self (U * 4294967296 + L1) (Y1 * 4294967296 + Y0)
        generalize (U * 4294967296 + L1) / (Y1 * 4294967296 + Y0) = z at h3 ⊢
        rw [Nat.mul_add, ← Nat.mul_assoc] at h3
        generalize z * Y1 = w at h3 ⊢
        generalize z * Y0 = w0 at h3
        omega
      · rintro a h'' m ⟨rfl, q, r, rfl, i1, i2, i3, i4, rfl⟩
        dsimp only [uncur]
        have step : (4294967296 ≤ q ∨ 4294967296 * r + L1 < q * Y0) → ∀ {x y : T}, (1 ≤ q → q - 1 = QQ → x h'') → (1 ≤ q → (q - 1) * Y1 + (r + Y1) = U → QQ ≤ q - 1 → q - 1 ≤ 4294967296 → r + Y1 < 4294967296 → y h'') →
            ifT (decide (IntKind.u64.wrap ((r : Int) + (Y1 : Int)) ≥ 4294967296)) x y h'' := fun hc x y hx hy => by
          obtain ⟨s1, s2, s3, s4, s5⟩ := YtdjancoknephnaaGreatKnuth.round hQQ.symm (by omega) hUY b4 b3 i1 i4 hc
          rw [wr _ i2]
          exact ifT_dec (fun h3 => hx s1 (s5 (by omega))) fun h3 => hy s1 s2 s3 s4 (by omega)
        have sub1 := wq q
        refine ifT_dec (fun h3 => step (.inl (by omega)) (fun s1 s5 => ?xc) (fun s1 s2 s3 s4 s6 => ?yc)) (fun h3 => ?zc)
        case xc =>
          rw [sub1 s1 (by omega)]
          exact hj _ _ ⟨rfl, by rw [s5]⟩
        case yc =>
          rw [sub1 s1 (by omega), wr _ i2]
          exact ⟨q - 1, by omega, rfl, q - 1, r + Y1, rfl, s2, s6, s3, by omega, rfl⟩
        rw [wm q (by omega), wl r L1 i2 b4]
        refine ifT_dec (fun h4 => step (.inr (by omega)) (fun s1 s5 => ?xd) (fun s1 s2 s3 s4 s6 => ?yd)) (fun h4 => ?zd)
        case zd => exact hj _ _ ⟨rfl, by rw [YtdjancoknephnaaGreatKnuth.stop hQQ.symm (by omega) i1 i3 (by omega)]⟩
        case xd =>
          rw [sub1 s1 (by omega)]
          exact hj _ _ ⟨rfl, by rw [s5]⟩
        case yd =>
          rw [sub1 s1 (by omega), wr _ i2]
          exact ⟨q - 1, by omega, rfl, q - 1, r + Y1, rfl, s2, s6, s3, by omega, rfl⟩
end
end Go.Proofs.YtdjancoknephnaaGreatVc
-- from CcSpec3
namespace Go.Proofs.YtdjancoknephnaaGreatVc
open Go.Proofs.YtdjancoknephnaaGreatCodes
open Go.Proofs.Tryz (prog)
section
variable {I : Calls} {Q : Post} {h : Heap}
theorem val_eq {a b : Int} (e : a = b) (hQ : Q [int a] h) : Q [int b] h := e ▸ hQ
def lz (m : Nat) : Nat := if m = 29791 then 49 else if m = 923521 then 44 else 9
theorem lz_ok {m : Nat} (h : Mods m) : lz m < 64 ∧ 9223372036854775808 ≤ m * 2 ^ lz m ∧ m * 2 ^ lz m < 18446744073709551616 ∧ m < 25408476896404832 ∧ 0 < m := by
  rcases h with rfl | rfl | rfl <;> decide +kernel
theorem spec121 (hI : Closed' prog Pm I) {m : Nat} (hm : Mods m) (hQ : Q [int ((64 - lz m : Nat) : Int)] h) : I 121 [u64 m] Q h := by
  refine hI.go _ _ (den121 I m Q) ?_
  rcases hm with rfl | rfl | rfl
  · refine joinK_intro (fun (a : Int × Int) h' => h' = h ∧ a = (29791, 0)) ?_ (fun j hj => ifT_dec (fun h => absurd h (by decide)) fun _ => hj _ _ ⟨rfl, rfl⟩)
    rintro _ _ ⟨rfl, rfl⟩
    exact ifT_dec (fun h => absurd h (by decide)) fun _ => ifT_dec (fun _ => ⟨by decide +kernel, val_eq (by decide +kernel) hQ⟩) fun h => absurd (show (29791 : Int) ≥ 256 by decide) h
  · refine joinK_intro (fun (a : Int × Int) h' => h' = h ∧ a = (923521, 0)) ?_ (fun j hj => ifT_dec (fun h => absurd h (by decide)) fun _ => hj _ _ ⟨rfl, rfl⟩)
    rintro _ _ ⟨rfl, rfl⟩
    exact ifT_dec (fun _ => ifT_dec (fun h => absurd h (by decide +kernel)) fun _ => ⟨by decide +kernel, val_eq (by decide +kernel) hQ⟩) fun h => absurd (show (923521 : Int) ≥ 65536 by decide) h
  · refine joinK_intro (fun (a : Int × Int) h' => h' = h ∧ a = (shr .u64 25408476896404831 32, 32)) ?_ (fun j hj => ifT_dec (fun _ => hj _ _ ⟨rfl, rfl⟩) fun h => absurd (show ((25408476896404831 : Nat) : Int) ≥ 4294967296 by decide) h)
    rintro _ _ ⟨rfl, rfl⟩
    exact ifT_dec (fun _ => ifT_dec (fun h => absurd h (by decide +kernel)) fun _ => ⟨by decide +kernel, val_eq (by decide +kernel) hQ⟩) fun h => absurd (show shr .u64 25408476896404831 32 ≥ 65536 by decide +kernel) h
theorem spec135 (hI : Closed' prog Pm I) {m : Nat} (hm : Mods m) (hQ : Q [int (lz m)] h) : I 135 [u64 m] Q h := by
  refine hI.go _ _ (den135 I m Q) ?_
  refine spec121 hI hm ⟨_, rfl, val_eq ?_ hQ⟩
  have := (lz_ok hm).1
  rw [w64] <;> omega
/-! ### batches -/
abbrev valOf (k all num : Nat) : Nat := (num * 7919 % all + k) % all
/-- The code of a number. -/
def IsCode (ds : List Nat) (n k num : Nat) (b : ByteArray) : Prop := ∃ x, x < 31 ∧ wsum (ds ++ digs n (valOf k (31 ^ n) num) ++ [x]) % 31 = 0 ∧ b = code (ds ++ digs n (valOf k (31 ^ n) num) ++ [x])
theorem set_mid (r : Nat) (z c : Cell) (tl : List Cell) : (List.replicate (r + 1) z ++ tl).set r c = List.replicate r z ++ c :: tl := by
  rw [List.replicate_succ', List.append_assoc, List.set_append_right _ _ (by simp)]
  simp
theorem sign_at {d : Nat} (hd : d < 31) : byteAt signS (d : Int) = ((sgn d).toNat : Int) := by
  rw [signS_eq]
  exact byteAt_code (by simp [hd])
def bytesOf (ds : List Nat) : List Cell := ds.map fun d => .int .u8 ((sgn d).toNat : Int)
end
end Go.Proofs.YtdjancoknephnaaGreatVc
-- from CsBits
namespace Go.Proofs.YtdjancoknephnaaGreatVc
open Go.Proofs.Tryz (prog)
section
variable {I : Calls} {Q : Post} {h : Heap}
theorem len8_ok : ∀ i : Nat, i < 256 → 0 ≤ byteAt len8S (i : Int) ∧ (byteAt len8S (i : Int)).toNat ≤ 8 ∧ i < 2 ^ (byteAt len8S (i : Int)).toNat ∧ (0 < i → 2 ^ (byteAt len8S (i : Int)).toNat ≤ 2 * i) := by decide +kernel
theorem len_idx {x k i L : Nat} (hi : x / 2 ^ k = i) (h1 : i < 2 ^ L) (h2 : 2 ^ L ≤ 2 * i) : x < 2 ^ (k + L) ∧ 2 ^ (k + L) ≤ 2 * x := by
  subst hi
  have p := Nat.two_pow_pos k
  constructor
  · rw [Nat.pow_add, Nat.mul_comm]
    exact (Nat.div_lt_iff_lt_mul p).1 h1
  · rw [Nat.pow_add]
    have h3 : 2 ^ k * 2 ^ L ≤ 2 ^ k * (2 * (x / 2 ^ k)) := Nat.mul_le_mul_left _ h2
    have h4 := Nat.mul_div_le x (2 ^ k)
    rw [Nat.mul_left_comm] at h3
    omega
theorem shrN (a k : Nat) (hk : k ≤ 64) : shr .u64 (a : Int) (k : Int) = ((a / 2 ^ k : Nat) : Int) := shr_nat a k .u64 rfl hk
theorem w8 {a : Nat} (h : a < 256) : IntKind.u8.wrap (a : Int) = (a : Int) := by rw [IntKind.wrap_u8]; omega
theorem spec121g (hI : Closed' prog Pm I) {x : Nat} (h0 : 0 < x) (h1 : x < 18446744073709551616) (hQ : ∀ len : Nat, len ≤ 64 → x < 2 ^ len → 2 ^ len ≤ 2 * x → Q [int len] h) : I 121 [u64 x] Q h := by
  refine hI.go _ _ (den121 I x Q) ?_
  have fin : ∀ (k i : Nat), x / 2 ^ k = i → 0 < i → i < 256 → k ≤ 56 → ∀ c : Int, c = (k : Int) → Q [int (IntKind.i64.wrap (c + IntKind.i64.wrap (byteAt len8S (i : Int))))] h := fun k i hi hp hlt hk c hc => by
    obtain ⟨a1, a2, a3, a4⟩ := len8_ok i hlt
    obtain ⟨L, hL⟩ := Int.eq_ofNat_of_zero_le a1
    rw [hL] at a2 a3 a4 ⊢
    rw [Int.toNat_natCast] at a2 a3 a4
    obtain ⟨b1, b2⟩ := len_idx hi a3 (a4 hp)
    have := hQ (k + L) (by omega) b1 b2
    rw [hc, w64 (n := (L : Int)) (by omega) (by omega), w64 (by omega) (by omega)]
    exact this
  have s16 : ∀ a : Nat, shr .u64 (a : Int) 16 = ((a / 65536 : Nat) : Int) := fun a => shrN a 16 (by decide)
  have s8 : ∀ a : Nat, shr .u64 (a : Int) 8 = ((a / 256 : Nat) : Int) := fun a => shrN a 8 (by decide)
  refine joinK_intro (fun (p : Int × Int) h' => h' = h ∧ ∃ y k : Nat, p = ((y : Int), (k : Int)) ∧ x / 2 ^ k = y ∧ 0 < y ∧ y < 4294967296 ∧ k ≤ 32) ?_ ?_
  · rintro _ h' ⟨rfl, y, k, rfl, hy, hp, hlt, hk⟩
    dsimp only [uncur]
    have dv : ∀ j, x / 2 ^ (k + j) = y / 2 ^ j := fun j => by rw [Nat.pow_add, ← Nat.div_div_eq_div_mul, hy]
    have d8 := dv 8
    have d16 := dv 16
    have d24 := dv 24
    simp only [s16, s8]
    refine ifT_dec (fun h2 => ifT_dec (fun h3 => ?_) fun h3 => ?_) fun h2 => ifT_dec (fun h3 => ?_) fun h3 => ?_
    · rw [w8 (a := y / 65536 / 256) (by omega)]
      refine ⟨⟨by omega, by show ((y / 65536 / 256 : Nat) : Int) < ((256 : Nat) : Int); omega⟩, fin (k + 24) _ (by rw [d24, Nat.div_div_eq_div_mul]) (by omega) (by omega) (by omega) _ ?_⟩
      rw [w64 (n := (k : Int) + 16) (by omega) (by omega), w64 (by omega) (by omega)]; omega
    · rw [w8 (a := y / 65536) (by omega)]
      refine ⟨⟨by omega, by show ((y / 65536 : Nat) : Int) < ((256 : Nat) : Int); omega⟩, fin (k + 16) _ d16 (by omega) (by omega) (by omega) _ ?_⟩
      rw [w64 (by omega) (by omega)]; omega
    · rw [w8 (a := y / 256) (by omega)]
      refine ⟨⟨by omega, by show ((y / 256 : Nat) : Int) < ((256 : Nat) : Int); omega⟩, fin (k + 8) _ d8 (by omega) (by omega) (by omega) _ ?_⟩
      rw [w64 (by omega) (by omega)]; omega
    · rw [w8 (a := y) (by omega)]
      exact ⟨⟨by omega, by show (y : Int) < ((256 : Nat) : Int); omega⟩, fin k _ hy hp (by omega) (by omega) _ rfl⟩
  · intro j hj
    refine ifT_dec (fun h2 => ?_) fun h2 => ?_
    · rw [shr32]
      exact hj _ _ ⟨rfl, x / 4294967296, 32, rfl, rfl, by omega, by omega, by decide⟩
    · exact hj _ _ ⟨rfl, x, 0, rfl, by simp, h0, by omega, by decide⟩
/-- A divisor of 64 bits, whatever it is. -/
theorem spec123g (hI : Closed' prog Pm I) {hi lo y : Nat} (h1 : hi < y) (hy : y < 18446744073709551616) (hlo : lo < 18446744073709551616)
    (hQ : Q [u64 (((hi * 18446744073709551616 + lo) / y : Nat) : Int), u64 (((hi * 18446744073709551616 + lo) % y : Nat) : Int)] h) : I 123 [u64 hi, u64 lo, u64 y] Q h := by
  have hlen : ∃ len : Nat, len ≤ 64 ∧ y < 2 ^ len ∧ 2 ^ len ≤ 2 * y ∧ ∀ Q' h', Q' [int (64 - len : Nat)] h' → I 135 [u64 y] Q' h' := by
    refine ⟨y.log2 + 1, ?_, Nat.lt_log2_self, ?_, fun Q' h' hq => ?_⟩
    · have := (Nat.log2_lt (k := 64) (by omega)).2 hy
      omega
    · have := Nat.log2_self_le (n := y) (by omega)
      rw [Nat.pow_succ]; omega
    · refine hI.go _ _ (den135 I y Q') ?_
      refine spec121g hI (by omega) hy fun len h2 h3 h4 => ⟨_, rfl, ?_⟩
      have e : len = y.log2 + 1 := by
        have a1 : y.log2 < len := (Nat.log2_lt (by omega)).2 h3
        have a2 : len - 1 ≤ y.log2 := by
          rw [Nat.le_log2 (by omega)]
          have : 2 ^ len = 2 ^ (len - 1) * 2 := by rw [← Nat.pow_succ]; congr 1; omega
          omega
        omega
      rw [e] at h2 ⊢
      have : IntKind.i64.wrap (64 - ((y.log2 + 1 : Nat) : Int)) = ((64 - (y.log2 + 1) : Nat) : Int) := by rw [w64 (by omega) (by omega)]; omega
      rw [this]
      exact hq
  obtain ⟨len, l1, l2, l3, l4⟩ := hlen
  have hl0 : len ≠ 0 := by rintro rfl; omega
  have p1 : y * 2 ^ (64 - len) < 2 ^ len * 2 ^ (64 - len) := Nat.mul_lt_mul_of_pos_right l2 (Nat.two_pow_pos _)
  have p2 : 2 ^ len * 2 ^ (64 - len) ≤ 2 * y * 2 ^ (64 - len) := Nat.mul_le_mul_right _ l3
  rw [← Nat.pow_add, show len + (64 - len) = 64 by omega] at p1 p2
  rw [Nat.mul_assoc] at p2
  exact spec123 hI h1 hlo (s := 64 - len) (by omega) (by omega) p1 l4 hQ
end
end Go.Proofs.YtdjancoknephnaaGreatVc
-- from CsSort
namespace Go.Proofs.YtdjancoknephnaaGreatVc
open Go.Proofs.Tryz (prog)
section
variable {I : Calls} {Q : Post} {h : Heap}
/-- What a comparison tells, whatever the row that is sorted holds. -/
def Tells (I : Calls) (h : Heap) (blk : Nat) (g : FuncId) (caps : List (Nat × Nat)) (xs : List Int) (lt : Int → Int → Bool) : Prop :=
  ∀ a b, a ∈ xs → b ∈ xs → ∀ (h' : Heap) (Q' : Post), (∀ j, j ≠ blk → h' j = h j) → (∀ c : Int, (c < 0 ↔ lt a b = true) → Q' [int c] h') → I g (int a :: int b :: caps.map fun a => .one (.ptr (some a))) Q' h'
theorem spec142 (hI : Closed' prog Pm I) {blk : Nat} {g : FuncId} {caps : List (Nat × Nat)} {xs : List Int} {lt : Int → Int → Bool} (R : Int → Int → Prop) (hb : h blk = some (.cells false (ints xs))) (hlen : xs.length < 1000)
    (hc : Tells I h blk g caps xs lt) (hR : xs.Pairwise fun a b => (lt b a = true → R b a) ∧ (lt b a = false → R a b)) (hT : ∀ a b c, a ∈ xs → b ∈ xs → c ∈ xs → R a b → R b c → R a c)
    (hQ : ∀ ys, ys.Perm xs → ys.Pairwise R → Q [] (h.set blk (.cells false (ints ys)))) :
    I 142 [.one (.slice 1 ⟨some (blk, 0), xs.length⟩), int 0, int xs.length, .one (.func (some (g, caps)))] Q h := by
  refine hI.go _ _ (den142 I _ _ _ _ Q) ?_
  have e0 : IntKind.i64.wrap ((0 : Int) + 1) = 1 := by decide
  unfold vc142
  rw [e0]
  refine loopK_intro (fun (a : Int) h' m => ∃ k : Nat, 1 ≤ k ∧ (k ≤ xs.length ∨ k = 1) ∧ a = k ∧ xs.length - k = m ∧ ∃ ys, ys.Perm (xs.take k) ∧ ys.Pairwise R ∧ h' = h.set blk (.cells false (ints (ys ++ xs.drop k)))) (xs.length - 1)
    ⟨1, by omega, .inr rfl, rfl, rfl, xs.take 1, List.Perm.refl _, ?_, by rw [List.take_append_drop, set_self hb]⟩ ?_
  · cases xs with
    | nil => exact List.Pairwise.nil
    | cons x xs => simp
  rintro a h' m ⟨k, hk1, hk2, rfl, rfl, ys, hperm, hpw, rfl⟩
  refine ifT_dec (fun hlt => ?_) (fun hge => ?_)
  · have hkl : k < xs.length := by omega
    have hx : xs[k]? = some xs[k] := List.getElem?_eq_getElem hkl
    have hxm : xs[k] ∈ xs := List.getElem_mem hkl
    generalize xs[k] = x at hx hxm
    have hyl : ys.length = k := by rw [hperm.length_eq, List.length_take]; omega
    have hysub : ∀ d ∈ ys, d ∈ xs := fun d hd => List.mem_of_mem_take (hperm.mem_iff.1 hd)
    have hyx : ∀ d ∈ ys, (lt x d = true → R x d) ∧ (lt x d = false → R d x) := fun d hd => pairwise_take hR hx d (hperm.mem_iff.1 hd)
    refine loopK_intro (fun (a : Int) h'' m => ∃ pre post, a = (pre.length : Nat) ∧ pre.length = m ∧ pre ++ post = ys ∧ (∀ d ∈ post, R x d) ∧ h'' = h.set blk (.cells false (ints (pre ++ x :: (post ++ xs.drop (k + 1)))))) k
      ⟨ys, [], by rw [hyl], hyl, by simp, by simp, by rw [drop_mid hx]; rfl⟩ ?_
    rintro a h'' m ⟨pre, post, rfl, rfl, hpp, hpost, rfl⟩
    have hpl : pre.length + post.length = k := by rw [← hyl, ← hpp, List.length_append]
    have hlenL : (pre ++ x :: (post ++ xs.drop (k + 1))).length = xs.length := by simp; omega
    refine joinK_intro (fun (b : Bool) h3 => h3 = h.set blk (.cells false (ints (pre ++ x :: (post ++ xs.drop (k + 1))))) ∧ (b = true → ∃ pre' d, pre = pre' ++ [d] ∧ lt x d = true) ∧ (b = false → pre = [] ∨ ∃ pre' d, pre = pre' ++ [d] ∧ lt x d = false)) ?_ ?_
    · rintro b h3 ⟨rfl, hb1, hb2⟩
      refine ifT_intro (fun hbt => ?_) (fun hbf => ?_)
      · obtain ⟨pre', d, rfl, hlt2⟩ := hb1 hbt
        have hd : d ∈ ys := by rw [← hpp]; simp
        simp only [List.length_append, List.length_singleton] at hpl ⊢
        have ew : IntKind.i64.wrap (((pre'.length + 1 : Nat) : Int) - 1) = (pre'.length : Int) := by rw [w64] <;> omega
        simp only [ew]
        simp only [List.append_assoc, List.singleton_append]
        have g1 : (ints (pre' ++ d :: x :: (post ++ xs.drop (k + 1))))[0 + (pre'.length : Int).toNat * 1]? = some (.int .i64 d) := by
          simp only [Int.toNat_natCast, Nat.mul_one, Nat.zero_add]
          exact ints_get (get_mid _ _ _)
        have g2 : (ints (pre' ++ d :: x :: (post ++ xs.drop (k + 1))))[0 + ((pre'.length + 1 : Nat) : Int).toNat * 1]? = some (.int .i64 x) := by
          simp only [Int.toNat_natCast, Nat.mul_one, Nat.zero_add]
          refine ints_get ?_
          simp
        refine ⟨⟨by omega, by simp; omega⟩, derefK_intro rfl ⟨_, read_cell (set_eq _ _ _) g1, ⟨by omega, by simp; omega⟩, derefK_intro rfl ⟨_, read_cell (set_eq _ _ _) g2, ⟨by omega, by simp; omega⟩, derefK_intro rfl (storeK_one (set_eq _ _ _) ?_ ⟨⟨by omega, by simp; omega⟩, derefK_intro rfl (storeK_one (set_eq _ _ _) ?_ ?_)⟩)⟩⟩⟩
        · simp [ints]
        · simp [ints]
        · refine ⟨pre'.length, by omega, pre', d :: post, rfl, rfl, by rw [← hpp]; simp, fun e he => ?_, ?_⟩
          · rcases List.mem_cons.1 he with rfl | he
            · exact (hyx _ hd).1 hlt2
            · exact hpost e he
          · rw [set_set, set_set, ints_set, ints_set]
            congr 4
            simp only [Int.toNat_natCast, Nat.mul_one, Nat.zero_add]
            have s1 : (pre' ++ d :: x :: (post ++ xs.drop (k + 1))).set (pre'.length + 1) d = pre' ++ d :: d :: (post ++ xs.drop (k + 1)) := by
              simp
            rw [s1, set_mid']
            rfl
      · refine ⟨xs.length - (k + 1), by omega, k + 1, by omega, .inl hkl, ?_, rfl, pre ++ x :: post, ?_, ?_, ?_⟩
        · rw [w64] <;> omega
        · rw [take_mid hx]
          exact (List.perm_middle.trans ((hpp ▸ hperm).cons x)).trans (List.perm_append_singleton x (xs.take k)).symm
        · refine placed (hpp ▸ hpw) ?_ hpost
          rcases hb2 hbf with rfl | ⟨pre', d, rfl, hlt2⟩
          · simp
          · have hd : d ∈ ys := by rw [← hpp]; simp
            refine before_all (post := post) (hpp ▸ hpw) (fun e he hed => ?_) ((hyx d hd).2 hlt2)
            have hey : e ∈ ys := by rw [← hpp]; simp [he]
            exact hT e d x (hysub e hey) (hysub d hd) hxm hed ((hyx d hd).2 hlt2)
        · simp
    · intro j hj
      refine ifT_dec (fun hgt => ?_) (fun hle => hj _ _ ⟨rfl, (fun h => by cases h), fun _ => .inl (List.length_eq_zero_iff.1 (by omega))⟩)
      obtain ⟨pre', d, rfl⟩ : ∃ pre' d, pre = pre' ++ [d] := ⟨pre.dropLast, pre.getLast (by intro e; subst e; simp at hgt), (List.dropLast_concat_getLast _).symm⟩
      have hd : d ∈ ys := by rw [← hpp]; simp
      simp only [List.length_append, List.length_singleton] at hpl hgt hj ⊢
      have ew : IntKind.i64.wrap (((pre'.length + 1 : Nat) : Int) - 1) = (pre'.length : Int) := by rw [w64] <;> omega
      simp only [ew]
      simp only [List.append_assoc, List.singleton_append] at hj ⊢
      have g1 : (ints (pre' ++ d :: x :: (post ++ xs.drop (k + 1))))[0 + (pre'.length : Int).toNat * 1]? = some (.int .i64 d) := by
        simp only [Int.toNat_natCast, Nat.mul_one, Nat.zero_add]
        exact ints_get (get_mid _ _ _)
      have g2 : (ints (pre' ++ d :: x :: (post ++ xs.drop (k + 1))))[0 + ((pre'.length + 1 : Nat) : Int).toNat * 1]? = some (.int .i64 x) := by
        simp only [Int.toNat_natCast, Nat.mul_one, Nat.zero_add]
        refine ints_get ?_
        simp
      refine ⟨⟨by omega, by simp; omega⟩, derefK_intro rfl ⟨_, read_cell (set_eq _ _ _) g2, ⟨by omega, by simp; omega⟩, derefK_intro rfl ⟨_, read_cell (set_eq _ _ _) g1, ?_⟩⟩⟩
      refine hc x d hxm (hysub d hd) _ _ (fun j hj => set_ne _ _ hj) fun c hcc => ⟨c, rfl, hj _ _ ⟨rfl, fun h => ⟨pre', d, rfl, hcc.1 (of_decide_eq_true h)⟩, fun h => .inr ⟨pre', d, rfl, ?_⟩⟩⟩
      cases hl : lt x d with
      | false => rfl
      | true => exact absurd (hcc.2 hl) (of_decide_eq_false h)
  · have hnl : xs.length ≤ k := by omega
    have : xs.drop k = [] := List.drop_eq_nil_of_le hnl
    rw [this, List.append_nil]
    rw [List.take_of_length_le hnl] at hperm
    exact hQ ys hperm hpw
theorem spec124 (hI : Closed' prog Pm I) {blk : Nat} {g : FuncId} {caps : List (Nat × Nat)} {xs : List Int} {lt : Int → Int → Bool} (R : Int → Int → Prop) (hb : h blk = some (.cells false (ints xs))) (hlen : xs.length < 20)
    (hc : Tells I h blk g caps xs lt) (hR : xs.Pairwise fun a b => (lt b a = true → R b a) ∧ (lt b a = false → R a b)) (hT : ∀ a b c, a ∈ xs → b ∈ xs → c ∈ xs → R a b → R b c → R a c)
    (hQ : ∀ ys, ys.Perm xs → ys.Pairwise R → Q [] (h.set blk (.cells false (ints ys)))) :
    I 124 [.one (.slice 1 ⟨some (blk, 0), xs.length⟩), .one (.func (some (g, caps)))] Q h := by
  refine hI.go _ _ (den124 I _ _ Q) ?_
  refine hI.go _ _ (den136 I _ _ _ _) ?_
  refine loopK_intro (fun (a : Int × Int) h' m => h' = h ∧ a = (0, 20)) 0 ⟨rfl, rfl⟩ ?_
  rintro a h' m ⟨rfl, rfl⟩
  refine ifT_dec (fun hle => by simp at hle; omega) fun _ => ?_
  refine spec142 hI R hb (by omega) hc hR hT fun ys h1 h2 => ⟨rfl, ?_⟩
  refine loopK_intro (fun (a : Int) h'' m => h'' = h'.set blk (.cells false (ints ys)) ∧ a = 20) 0 ⟨rfl, rfl⟩ ?_
  rintro a h'' m ⟨rfl, rfl⟩
  exact ifT_dec (fun hle => by omega) fun _ => ⟨rfl, hQ ys h1 h2⟩
end
end Go.Proofs.YtdjancoknephnaaGreatVc
-- from CsSpec1
namespace Go.Proofs.YtdjancoknephnaaGreatVc
open Go.Proofs.Tryz (prog)
def unats (l : List Nat) : List Cell := l.map fun n : Nat => .int .u64 (n : Int)
theorem unats_length (l : List Nat) : (unats l).length = l.length := by simp [unats]
theorem unats_get {xs : List Nat} {i n : Nat} (h : xs[i]? = some n) : (unats xs)[i]? = some (.int .u64 (n : Int)) := by unfold unats; rw [List.getElem?_map, h]; rfl
theorem unats_set (xs : List Nat) (i n : Nat) : (unats xs).set i (.int .u64 (n : Int)) = unats (xs.set i n) := by unfold unats; rw [List.map_set]
section
variable {I : Calls} {Q : Post} {h : Heap}
/-! ### the stream's block, among one's own -/
end
end Go.Proofs.YtdjancoknephnaaGreatVc
-- from CsSpec2
namespace Go.Proofs.YtdjancoknephnaaGreatVc
open Go.Proofs.YtdjancoknephnaaGreatShares
open Go.Proofs.Tryz (prog)
section
variable {I : Calls} {Q : Post} {h : Heap}
theorem spec137 (hI : Closed' prog Pm I) {n : Int} (hQ : Q [boo false] h) : I 137 [u64 n] Q h := by
  refine hI.go _ _ (den137 I n Q) ?_
  have e : (!decide (n = n)) = false := by simp
  unfold vc137
  rw [e]
  exact hQ
theorem spec126 (hI : Closed' prog Pm I) {a b : Int} (hQ : ∀ c, (c < 0 ↔ a < b) → Q [int c] h) : I 126 [u64 a, u64 b] Q h := by
  refine hI.go _ _ (den126 I a b Q) ?_
  refine spec137 hI ⟨_, rfl, spec137 hI ⟨_, rfl, ifT_intro (fun h => by cases h) fun _ => ifT_intro (fun h => by cases h) fun _ => ?_⟩⟩
  refine ifT_dec (fun h1 => hQ _ (by omega)) fun h1 => ifT_dec (fun h2 => hQ _ (by omega)) fun h2 => hQ _ (by omega)
/-- The comparison by what is left over. -/
theorem spec125 (hI : Closed' prog Pm I) {i : Nat} {s : Sl} {rs : List Nat} {a b x y : Nat} (hc : h i = some (.cells false [.slice 1 s])) (hs : At h 1 s (unats rs)) (ha : rs[a]? = some x) (hb : rs[b]? = some y)
    (hQ : ∀ c, (c < 0 ↔ y < x) → Q [int c] h) : I 125 [int a, int b, .one (.ptr (some (i, 0)))] Q h := by
  have hl : s.len = rs.length := by rw [hs.len1, unats_length]
  have ha1 := (List.getElem?_eq_some_iff.1 ha).1
  have hb1 := (List.getElem?_eq_some_iff.1 hb).1
  refine hI.go _ _ (den125 I a b i 0 Q) ?_
  refine ⟨s, read_cell hc rfl, ⟨by omega, by omega⟩, hs.cell (unats_get hb) fun _ _ hr => ⟨_, hr, s, read_cell hc rfl, ⟨by omega, by omega⟩, hs.cell (unats_get ha) fun _ _ hr => ⟨_, hr, ?_⟩⟩⟩
  exact spec126 hI fun c hc => ⟨c, rfl, hQ c (by omega)⟩
theorem take_succ_map {α β : Type} (f : α → β) {l : List α} {k : Nat} {x : α} (h : l[k]? = some x) : (l.map f).take (k + 1) = (l.map f).take k ++ [f x] := by
  rw [List.take_add_one, List.getElem?_map, h]; rfl
/-- The arguments of a division of 128 bits. -/
theorem mul_lt {c w all : Nat} (hc : c ≤ 1000000000000) (hw : w ≤ all) (ha : 0 < all) : c * w / 18446744073709551616 < all := by
  rw [Nat.div_lt_iff_lt_mul (by decide)]
  have h1 : c * w ≤ 1000000000000 * all := Nat.mul_le_mul hc hw
  omega
theorem mem_le_sum : ∀ {l : List Nat} {x : Nat}, x ∈ l → x ≤ l.sum
  | y :: l, x, h => by
    rw [List.sum_cons]
    rcases List.mem_cons.1 h with rfl | h
    · omega
    · have := mem_le_sum h; omega
theorem sum_le : ∀ {l : List Nat} {b : Nat}, (∀ x ∈ l, x ≤ b) → l.sum ≤ b * l.length
  | [], _, _ => by simp
  | y :: l, b, h => by
    have h1 := sum_le (l := l) fun x hx => h x (by simp [hx])
    have h2 := h y (by simp)
    rw [List.sum_cons, List.length_cons, Nat.mul_add]
    omega
theorem take_sum_le (l : List Nat) (k : Nat) : (l.take k).sum ≤ l.sum := by
  conv => rhs; rw [← List.take_append_drop k l, List.sum_append]
  omega
/-- Both words of the product, divided: quotient and rest. -/
theorem divide_word (hI : Closed' prog Pm I) {c w all : Nat} {k : Int → Int → T} (hc : c ≤ 1000000000000) (hw : w ≤ all) (ha : 0 < all) (ha2 : all < 18446744073709551616)
    (hk : k ((c * w / all : Nat) : Int) ((c * w % all : Nat) : Int) h) :
    I 123 [u64 ((c * w / 18446744073709551616 : Nat) : Int), u64 ((c * w % 18446744073709551616 : Nat) : Int), u64 (all : Int)] (fun cs h' => ∃ a : Int, ∃ b : Int, cs = [u64 a, u64 b] ∧ k a b h') h := by
  refine spec123g hI (mul_lt hc hw ha) ha2 (Nat.mod_lt _ (by decide)) ⟨_, _, rfl, ?_⟩
  have e : c * w / 18446744073709551616 * 18446744073709551616 + c * w % 18446744073709551616 = c * w := by
    rw [Nat.mul_comm]; exact Nat.div_add_mod _ _
  rw [e]
  exact hk
theorem block_at {h : Heap} {i n : Nat} {cs : List Cell} (hi : h i = some (.cells false cs)) (hn : n = cs.length) : At h 1 ⟨some (i, 0), n⟩ cs := by
  refine ⟨by simp [hn], .inr ?_⟩
  show h.read i 0 (n * 1) = _
  rw [read_block hi (by omega), List.drop_zero, List.take_of_length_le (by omega)]
theorem nats_ne {l : List Nat} (h : 0 < l.length) : nats l ≠ [] := fun e => by have := congrArg List.length e; rw [nats_length] at this; have h2 : l.length = 0 := this; omega
theorem unats_ne {l : List Nat} (h : 0 < l.length) : unats l ≠ [] := fun e => by have := congrArg List.length e; rw [unats_length] at this; have h2 : l.length = 0 := this; omega
theorem at_some {l : List Nat} {i x : Nat} (h : l[i]? = some x) : at_ l i = x := by unfold at_; rw [List.getD_eq_getElem?_getD, h]; rfl
theorem spec106 (hI : Closed' prog Pm I) {s : Sl} {c : Nat} {ws : List Nat} (hs : At h 1 s (nats ws)) (hc : c ≤ 1000000000000) (hw : ∀ w ∈ ws, w ≤ 1000000000000) (hpos : 0 < ws.sum) (hlen : ws.length < 20)
    (hQ : ∀ s' h', Ext h h' → At h' 1 s' (nats (shared c ws)) → New h s' → Q [.one (.slice 1 s')] h') : I 106 [int c, .one (.slice 1 s)] Q h := by
  have hl : s.len = ws.length := by rw [hs.len1, nats_length]
  have hsum := sum_le hw
  have hsum' : ws.sum ≤ 20000000000000 := by omega
  obtain ⟨hleft1, hleft2⟩ := left_ok (c := c) hpos
  have hn0 : 0 < ws.length := by omega
  refine hI.go _ _ (den106 I c s Q) ?_
  refine loopK_intro (fun (a : Int × Int) h' m => h' = h ∧ ∃ i : Nat, i ≤ ws.length ∧ a = ((((ws.take i).sum : Nat) : Int), (i : Int)) ∧ ws.length - i = m) ws.length ⟨rfl, 0, by omega, rfl, rfl⟩ ?_
  rintro a h' m ⟨rfl, i, hi, rfl, rfl⟩
  dsimp only [uncur]
  refine ifT_dec (fun hlt => ⟨⟨by omega, hlt⟩, ?_⟩) (fun hge => ?_)
  · have hil : i < ws.length := by omega
    have hx := List.getElem?_eq_getElem hil
    refine hs.cell (nats_get hx) fun b o hr => ⟨_, hr, ws.length - (i + 1), by omega, rfl, i + 1, by omega, ?_, rfl⟩
    have h1 : (ws.take (i + 1)).sum = (ws.take i).sum + ws[i] := by
      rw [List.take_add_one, hx]
      show (ws.take i ++ [ws[i]]).sum = _
      rw [List.sum_append]; simp
    have h2 := take_sum_le ws (i + 1)
    rw [h1] at h2 ⊢
    generalize (ws.take i).sum = y at *
    generalize ws[i] = x at *
    rw [w64 (by omega) (by omega), w64 (by omega) (by omega)]
    rfl
  have : i = ws.length := by omega
  subst this
  rw [List.take_length]
  have hQS : ∀ a, (qs c a ws).length = ws.length := fun a => by simp [qs]
  have hRS : ∀ a, (rs c a ws).length = ws.length := fun a => by simp [rs]
  obtain ⟨all, hall⟩ : ∃ all, ws.sum = all := ⟨_, rfl⟩
  refine newK_intro fun i11 h1 hn1 he1 => ?_
  have o0 : Owns h' h1 [(1, ⟨some (i11, 0), 1⟩, [.slice 1 ⟨none, 0⟩])] := he1 ▸ (Owns.nil h').new hn1 rfl
  refine loopK_intro (fun (a : Int × Sl × Sl × Int) h'' m => ∃ k : Nat, k ≤ ws.length ∧ ws.length - k = m ∧ a.2.2.2 = (k : Int) ∧ a.1 = ((c - ((qs c all ws).take k).sum : Nat) : Int) ∧ ∃ r : Sl,
      Owns h' h'' [(1, a.2.1, nats ((qs c all ws).take k)), (1, a.2.2.1, nats (List.range k)), (1, r, unats ((rs c all ws).take k)), (1, ⟨some (i11, 0), 1⟩, [.slice 1 r])]) ws.length
    ⟨0, by omega, rfl, rfl, by simp, ⟨none, 0⟩, ((o0.none_ 1).none_ 1).none_ 1⟩ ?_
  rintro ⟨left, out, order, y⟩ h2 m ⟨k, hk, rfl, rfl, hleft, r, o⟩
  simp only at hleft
  subst hleft
  dsimp only [uncur]
  rw [hall] at hleft1 hleft2 hpos hsum' ⊢
  have hqle : ∀ k, ((qs c all ws).take k).sum ≤ c := fun k => Nat.le_trans (take_sum_le _ _) (hall ▸ hleft1)
  refine ifT_dec (fun hlt => ⟨⟨by omega, hlt⟩, ?_⟩) (fun hge => ?_)
  · have hkl : k < ws.length := by omega
    have hx := List.getElem?_eq_getElem hkl
    have hwk : ws[k] ≤ all := by rw [← hall]; exact mem_le_sum (List.getElem_mem hkl)
    generalize ws[k] = w at *
    refine (o.ext.at_ hs).cell (nats_get hx) fun b o' hr => ⟨_, hr, ?_⟩
    rw [wN c (by omega), wN w (by omega), wN all (by omega)]
    refine spec122 hI (by omega) (by omega) ⟨_, _, rfl, divide_word hI hc hwk hpos (by omega) ?_⟩
    have hqk : ((qs c all ws).take (k + 1)) = (qs c all ws).take k ++ [c * w / all] := take_succ_map _ hx
    have hrk : ((rs c all ws).take (k + 1)) = (rs c all ws).take k ++ [c * w % all] := take_succ_map _ hx
    have hq1 := hqle (k + 1)
    rw [hqk, List.sum_append] at hq1
    have hq2 : [c * w / all].sum = c * w / all := by simp
    rw [hq2] at hq1
    have hvar := (o.block (sz := 1) (i := i11) (n := 1) (cs := [.slice 1 r]) (by simp)).1
    refine ⟨r, read_cell hvar rfl, ?_⟩
    have l1 := o.slen (s := out) (cs := nats ((qs c all ws).take k)) (by simp)
    have l2 := o.slen (s := order) (cs := nats (List.range k)) (by simp)
    have l3 := o.slen (s := r) (cs := unats ((rs c all ws).take k)) (by simp)
    rw [nats_length, List.length_take, hQS] at l1
    rw [nats_length, List.length_range] at l2
    rw [unats_length, List.length_take, hRS] at l3
    have ew : IntKind.i64.wrap ((c * w / all : Nat) : Int) = ((c * w / all : Nat) : Int) := by
      generalize c * w / all = q at *
      exact w64 (by omega) (by omega)
    rw [ew]
    refine appendTo_owns (m := 0) o (by rfl) (by omega) ?hw1 fun b1 h3 o3 => ?_
    case hw1 =>
      intro j hj
      have : j = i11 := by simpa using hj
      subst this
      exact .inr ⟨_, List.mem_of_getElem? (i := 2) rfl, rfl⟩
    refine appendTo_owns (m := 0) (o3.perm (List.Perm.swap _ _ _)) (by rfl) (by omega) ?hw2 fun b2 h4 o4 => ?_
    case hw2 =>
      intro j hj
      have : j = i11 := by simpa using hj
      subst this
      exact .inr ⟨_, List.mem_of_getElem? (i := 2) rfl, rfl⟩
    -- order, out, r, var
    have p1 : ∀ a b c d : Ow, [a, b, c, d].Perm [c, a, b, d] := fun a b c d => (List.Perm.cons a (List.Perm.swap c b [d])).trans (List.Perm.swap c a _)
    refine appendTo_owns (m := 0) (o4.perm (p1 _ _ _ _)) (by rfl) (by omega) (by simp) fun b3 h5 o5 => ?_
    -- r, order, out, var
    have p2 : ∀ a b c d : Ow, [a, b, c, d].Perm [d, a, b, c] := fun a b c d => List.perm_append_singleton d [a, b, c]
    have o6 := o5.perm (p2 _ _ _ _)
    refine storeK_one (o6.block List.mem_cons_self).1 (by simp) ?_
    have p3 : ∀ a b c d : Ow, [a, b, c, d].Perm [d, c, b, a] := fun a b c d => (List.reverse_perm [d, c, b, a])
    have o7 := (o6.change (n' := 1) (sz' := 1) (cs' := [Cell.slice 1 ⟨some (b3, 0), r.len + (0 + 1)⟩]) rfl).perm (p3 _ _ _ _)
    -- out, order, r, var
    have p4 : ∀ a b c d : Ow, [a, b, c, d].Perm [a, b, c, d] := fun a b c d => List.Perm.refl _
    have e_out : nats ((qs c all ws).take (k + 1)) = nats ((qs c all ws).take k) ++ [.int .i64 ((c * w / all : Nat) : Int)] := by rw [hqk]; simp [nats]
    have e_ord : nats (List.range (k + 1)) = nats (List.range k) ++ [.int .i64 (k : Int)] := by rw [List.range_succ]; simp [nats]
    have e_r : unats ((rs c all ws).take (k + 1)) = unats ((rs c all ws).take k) ++ [.int .u64 ((c * w % all : Nat) : Int)] := by rw [hrk]; simp [unats]
    refine ⟨ws.length - (k + 1), by omega, k + 1, by omega, rfl, ?_, ?_, ⟨some (b3, 0), r.len + (0 + 1)⟩, ?_⟩
    · show IntKind.i64.wrap ((k : Int) + 1) = _
      rw [w64] <;> omega
    · show IntKind.i64.wrap (_ - _) = _
      rw [hqk, List.sum_append, hq2]
      generalize c * w / all = q at *
      rw [w64 (by omega) (by omega)]
      omega
    · rw [e_out, e_ord, e_r]
      exact o7
  · have hkn : k = ws.length := by omega
    subst hkn
    have t1 : (qs c all ws).take ws.length = qs c all ws := List.take_of_length_le (by rw [hQS]; exact Nat.le_refl _)
    have t2 : (rs c all ws).take ws.length = rs c all ws := List.take_of_length_le (by rw [hRS]; exact Nat.le_refl _)
    rw [t1, t2] at o
    rw [t1]
    have l1 := o.slen (s := out) (cs := nats (qs c all ws)) (by simp)
    have l2 := o.slen (s := order) (cs := nats (List.range ws.length)) (by simp)
    have l3 := o.slen (s := r) (cs := unats (rs c all ws)) (by simp)
    rw [nats_length, hQS] at l1
    rw [nats_length, List.length_range] at l2
    rw [unats_length, hRS] at l3
    obtain ⟨bo, hbo, co⟩ := o.has (s := out) (cs := nats (qs c all ws)) (sz := 1) (by simp) (nats_ne (by rw [hQS]; exact hn0))
    obtain ⟨bd, hbd, cd⟩ := o.has (s := order) (cs := nats (List.range ws.length)) (sz := 1) (by simp) (nats_ne (by rw [List.length_range]; exact hn0))
    obtain ⟨br, hbr, cr⟩ := o.has (s := r) (cs := unats (rs c all ws)) (sz := 1) (by simp) (unats_ne (by rw [hRS]; exact hn0))
    rw [l1] at hbo
    rw [l2] at hbd
    rw [l3] at hbr
    subst hbo hbd hbr
    have cv := (o.block (sz := 1) (i := i11) (n := 1) (cs := [.slice 1 ⟨some (br, 0), ws.length⟩]) (by simp)).1
    have ne1 : bd ≠ br := o.tail.ne (q := (1, ⟨some (br, 0), ws.length⟩, unats (rs c all ws))) (by simp) rfl rfl
    have ne2 : bd ≠ i11 := o.tail.ne (q := (1, ⟨some (i11, 0), 1⟩, [.slice 1 ⟨some (br, 0), ws.length⟩])) (by simp) rfl rfl
    have hlR : ((List.range ws.length).map fun n : Nat => (n : Int)).length = ws.length := by simp
    generalize hq : qs c all ws = q at *
    generalize hr : rs c all ws = rr at *
    have hlr : rr.length = ws.length := by rw [← hr]; exact hRS all
    have hlq : q.length = ws.length := by rw [← hq]; exact hQS all
    have key := fun Q0 => spec124 (I := I) (Q := Q0) (h := h2) (blk := bd) (g := 125) (caps := [(i11, 0)]) (xs := (List.range ws.length).map fun n : Nat => (n : Int)) (lt := fun x y => decide (at_ rr y.toNat < at_ rr x.toNat)) hI
      (fun x y => beats rr x.toNat y.toNat = true) (by rw [← nats_ints]; exact cd) (by rw [hlR]; exact hlen)
    simp only [hlR] at key
    refine key _ ?_ ?_ (fun a b c _ _ _ h1 h2 => beats_trans h1 h2) fun ys hp hpw => ⟨rfl, ⟨by decide, by omega, by omega⟩, ?_⟩
    · intro a b ha hb h' Q' hsame hQ'
      obtain ⟨a', ha', rfl⟩ := List.mem_map.1 ha
      obtain ⟨b', hb', rfl⟩ := List.mem_map.1 hb
      have ha2 := List.mem_range.1 ha'
      have hb2 := List.mem_range.1 hb'
      have ga : rr[a']? = some rr[a'] := List.getElem?_eq_getElem (by omega)
      have gb : rr[b']? = some rr[b'] := List.getElem?_eq_getElem (by omega)
      refine spec125 hI (s := ⟨some (br, 0), ws.length⟩) (by rw [hsame _ (Ne.symm ne2)]; exact cv) (block_at (by rw [hsame _ (Ne.symm ne1)]; exact cr) (by rw [unats_length, hlr])) ga gb fun c hc => hQ' c ?_
      simp only [Int.toNat_natCast, decide_eq_true_eq, at_some ga, at_some gb]
      exact hc
    · rw [List.pairwise_map]
      refine List.pairwise_lt_range.imp fun {a b} hab => ?_
      simp only [Int.toNat_natCast, decide_eq_true_eq, decide_eq_false_iff_not, beats_iff]
      constructor <;> intro h <;> omega
    · obtain ⟨ys', rfl, hp'⟩ : ∃ ys' : List Nat, ys = ys'.map (fun n : Nat => (n : Int)) ∧ ys'.Perm (List.range ws.length) := by
        refine ⟨ys.map Int.toNat, ?_, ?_⟩
        · rw [List.map_map]
          conv => lhs; rw [← List.map_id ys]
          refine List.map_congr_left fun y hy => ?_
          obtain ⟨n, _, rfl⟩ := List.mem_map.1 (hp.mem_iff.1 hy)
          simp
        · have := hp.map Int.toNat
          rw [List.map_map] at this
          have e : (Int.toNat ∘ fun n : Nat => (n : Int)) = id := by funext n; simp
          rw [e, List.map_id] at this
          exact this
      rw [List.pairwise_map] at hpw
      simp only [Int.toNat_natCast] at hpw
      rw [← hlr] at hp'
      rw [Int.toNat_natCast]
      have hyl : ys'.length = ws.length := by rw [hp'.length_eq, List.length_range, hlr]
      have o2 := (o.perm (List.Perm.swap _ _ _)).change (n' := ws.length) (sz' := 1) (cs' := ints (ys'.map fun n : Nat => (n : Int))) (by rw [ints_length]; simp [hyl])
      have o3 := o2.perm (List.Perm.swap _ _ _)
      have o4 : Owns h' (h2.set bd (.cells false (ints (ys'.map fun n : Nat => (n : Int))))) [(1, ⟨some (bo, 0), ws.length⟩, nats q), (1, ⟨some (bd, 0), ws.length⟩, ints (ys'.map fun n : Nat => (n : Int)))] :=
        ⟨o3.ext, fun p hp => o3.all p (by simp at hp ⊢; rcases hp with h | h <;> simp [h]), by
          have := o3.apart
          simp only [List.pairwise_cons] at this ⊢
          exact ⟨fun a ha => this.1 a (by simp at ha ⊢; exact .inl ha), by simp⟩⟩
      have hleft : c - q.sum ≤ ws.length := by omega
      have hqs : ∀ e x, q[e]? = some x → x ≤ c := fun e x hx => by
        have := mem_le_sum (List.mem_of_getElem? hx)
        omega
      refine loopK_intro (fun (a : Int) h4 m => ∃ k : Nat, k ≤ c - q.sum ∧ a = (k : Int) ∧ c - q.sum - k = m ∧ Owns h' h4 [(1, ⟨some (bo, 0), ws.length⟩, nats (dealtK q rr k)), (1, ⟨some (bd, 0), ws.length⟩, ints (ys'.map fun n : Nat => (n : Int)))]) (c - q.sum)
        ⟨0, by omega, rfl, rfl, by rw [dealtK_zero]; exact o4⟩ ?_
      rintro a h4 m ⟨k, hk, rfl, rfl, o5⟩
      refine ifT_dec (fun hlt => ⟨⟨by omega, hlt⟩, ?_⟩) (fun hge => ?_)
      · have hkl : k < c - q.sum := by have : (k : Int) < ((c - q.sum - 0 : Nat) : Int) := hlt; omega
        have hsub := (o5.at_ (sz := 1) (s := ⟨some (bd, 0), ws.length⟩) (cs := ints (ys'.map fun n : Nat => (n : Int))) (by simp)).sub 0 (c - q.sum) (by omega) hleft
        have hy : ys'[k]? = some ys'[k] := List.getElem?_eq_getElem (by omega)
        generalize ys'[k] = e at hy
        have hel : e < ws.length := by
          have := List.mem_range.1 (hp'.mem_iff.1 (List.mem_of_getElem? hy)); omega
        have hrank := sorted_rank hp' hpw hy
        have hg : (((ints (ys'.map fun n : Nat => (n : Int))).drop (0 * 1)).take ((c - q.sum - 0) * 1))[k]? = some (.int .i64 (e : Int)) := by
          rw [List.getElem?_take, if_pos (by omega), Nat.zero_mul, List.drop_zero]
          exact ints_get (by rw [List.getElem?_map, hy]; rfl)
        refine hsub.cell hg fun b o' hr' => ⟨_, hr', ⟨by omega, by simp; omega⟩, ?_⟩
        have hqe : q[e]? = some (at_ q e) := by
          rw [List.getElem?_eq_getElem (by omega)]
          rw [at_some (List.getElem?_eq_getElem (show e < q.length by omega))]
        have hde : (dealtK q rr k)[e]? = some (at_ q e) := by rw [dealtK_get (by omega), hrank]; simp
        have hqec := hqs e _ hqe
        refine (o5.at_ List.mem_cons_self).cell (nats_get hde) fun b o' hr' => ⟨_, hr', ⟨by omega, by simp; omega⟩, derefK_intro rfl ?_⟩
        have ew : IntKind.i64.wrap ((at_ q e : Int) + 1) = ((at_ q e + 1 : Nat) : Int) := by rw [w64] <;> omega
        have eo : 0 + (e : Int).toNat * 1 = e := by simp
        rw [ew, eo]
        refine storeK_one (o5.block List.mem_cons_self).1 (by rw [nats_length, dealtK_length]; omega) ⟨c - q.sum - (k + 1), by omega, k + 1, by omega, ?_, rfl, ?_⟩
        · rw [w64] <;> omega
        · rw [nats_set, dealtK_step (by omega) (by omega) hrank]
          exact o5.change (by rw [nats_length, dealtK_length]; omega)
      · have hk2 : k = c - q.sum := by
          have : ¬ (k : Int) < ((c - q.sum - 0 : Nat) : Int) := hge
          omega
        subst hk2
        refine hQ _ _ o5.ext ?_ (o5.new_ (sz := 1) (cs := nats (dealtK q rr (c - q.sum))) (by simp))
        have := o5.at_ (sz := 1) (s := ⟨some (bo, 0), ws.length⟩) (cs := nats (dealtK q rr (c - q.sum))) (by simp)
        unfold shared
        rw [hall, hq, hr]
        exact this
end
end Go.Proofs.YtdjancoknephnaaGreatVc
