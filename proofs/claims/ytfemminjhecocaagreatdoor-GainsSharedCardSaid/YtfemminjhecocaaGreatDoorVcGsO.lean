/- Contracts, turned by a program to the numbers of this seat. Contracts, turned by a program to the numbers of this seat. -/
import Derived.Test.YtfemminjhecocaaGreatDoorVcGaLaw
import Derived.Lib.Mul64
import Derived.Test.YtfemminjhecocaaGreatDoorVcGsVc
set_option linter.unusedSimpArgs false
set_option linter.unusedVariables false
-- GsOld
-- from MaSpec1
namespace Go.Proofs.YtfemminjhecocaaGreatDoorVc
open Go.Proofs.Tryz (prog)
section
variable {I : Calls} {Q : Post} {h : Heap}
/-! ### the stream -/
/-! ### codes -/
/-! ### looking a string up -/
end
end Go.Proofs.YtfemminjhecocaaGreatDoorVc
-- from CcSpec2
namespace Go.Proofs.YtfemminjhecocaaGreatDoorVc
open Go.Proofs.Tryz (prog)
section
variable {I : Calls} {Q : Post} {h : Heap}
theorem spec142 (hI : Closed' prog Pm I) {x y : Nat} (hx : x < 18446744073709551616) (hy : y < 18446744073709551616)
    (hQ : Q [u64 ((x * y / 18446744073709551616 : Nat) : Int), u64 ((x * y % 18446744073709551616 : Nat) : Int)] h) : I 142 [u64 x, u64 y] Q h := by
  refine hI.go _ _ (den142 I x y Q) ?_
  obtain ⟨bd, bt, bw, hhi⟩ := Lib.mul64_hi x y hx hy
  have ba := Lib.half_mul_le (a := x / 4294967296) (b := y / 4294967296) (by omega) (by omega)
  have bb := Lib.half_mul_le (a := x / 4294967296) (b := y % 4294967296) (by omega) (by omega)
  have bc := Lib.half_mul_le (a := x % 4294967296) (b := y / 4294967296) (by omega) (by omega)
  have ba' : x / 4294967296 * (y / 4294967296) < 18446744073709551616 := by omega
  have bb' : x / 4294967296 * (y % 4294967296) < 18446744073709551616 := by omega
  have bc' : x % 4294967296 * (y / 4294967296) < 18446744073709551616 := by omega
  have bh1 : x / 4294967296 * (y / 4294967296) + (x / 4294967296 * (y % 4294967296) + x % 4294967296 * (y % 4294967296) / 4294967296) / 4294967296 < 18446744073709551616 := by omega
  have bh : x / 4294967296 * (y / 4294967296) + (x / 4294967296 * (y % 4294967296) + x % 4294967296 * (y % 4294967296) / 4294967296) / 4294967296 + ((x / 4294967296 * (y % 4294967296) + x % 4294967296 * (y % 4294967296) / 4294967296) % 4294967296 + x % 4294967296 * (y / 4294967296)) / 4294967296 < 18446744073709551616 := by omega
  unfold vc142
  simp only [mask32 x hx, mask32 y hy, shr32, mN, aN, wN _ bd, wN _ bb', wN _ bt, mask32 _ bt, wN _ bc', wN _ bw, wN _ ba', wN _ bh1, wN _ bh, wM (x * y)]
  rw [hhi]
  exact hQ
/-- The remainder, where the leading zeros of the divisor are known. -/
theorem spec143 (hI : Closed' prog Pm I) {hi lo y s : Nat} (h1 : hi < y) (hlo : lo < 18446744073709551616) (hs : s < 64) (hs1 : 9223372036854775808 ≤ y * 2 ^ s) (hs2 : y * 2 ^ s < 18446744073709551616)
    (hlz : ∀ Q' h', Q' [int s] h' → I 196 [u64 y] Q' h') (hQ : Q [u64 (((hi * 18446744073709551616 + lo) / y : Nat) : Int), u64 (((hi * 18446744073709551616 + lo) % y : Nat) : Int)] h) : I 143 [u64 hi, u64 lo, u64 y] Q h := by
  refine hI.go _ _ (den143 I hi lo y Q) ?_
  have hy64 : y < 18446744073709551616 := by
    have : y * 1 ≤ y * 2 ^ s := Nat.mul_le_mul_left _ (Nat.one_le_two_pow)
    omega
  refine joinK_intro (fun _ h' => h' = h) ?_ (fun j hj => ifT_dec (fun h2 => by omega) fun _ => hj _ _ rfl)
  rintro _ h' rfl
  refine joinK_intro (fun _ h'' => h'' = h') ?_ (fun j hj => ifT_dec (fun h2 => by omega) fun _ => hj _ _ rfl)
  rintro _ h rfl
  refine ifT_dec (fun h2 => ?_) (fun h2 => ?_)
  · have e : (lo : Int).tmod (y : Int) = (((hi * 18446744073709551616 + lo) % y : Nat) : Int) := by
      have : hi = 0 := by omega
      subst this
      rw [← Int.ofNat_tmod]
      simp
    have e2 : IntKind.u64.wrap ((lo : Int).tdiv (y : Int)) = (((hi * 18446744073709551616 + lo) / y : Nat) : Int) := by
      have : hi = 0 := by omega
      subst this
      have hle : lo / y ≤ lo := Nat.div_le_self _ _
      rw [← Int.ofNat_tdiv, wN _ (by omega)]
      simp
    refine ⟨by omega, by omega, ?_⟩
    rw [e, e2]
    exact hQ
  · refine hlz _ _ ⟨_, rfl, ?_⟩
    have p0 := Nat.two_pow_pos s
    have e_s : IntKind.u64.wrap (s : Int) = (s : Int) := wN _ (by omega)
    have e_64 : IntKind.u64.wrap (64 - (s : Int)) = ((64 - s : Nat) : Int) := by rw [wu64 (by omega) (by omega)]; omega
    have hhi : hi * 2 ^ s + 2 ^ s ≤ y * 2 ^ s := by
      have : (hi + 1) * 2 ^ s ≤ y * 2 ^ s := Nat.mul_le_mul_right _ h1
      rw [Nat.add_mul] at this
      omega
    have e_y : shl .u64 (y : Int) (s : Int) = ((y * 2 ^ s : Nat) : Int) := by rw [shl_nat _ _ (by omega), Nat.mod_eq_of_lt hs2]
    have e_hi : shl .u64 (hi : Int) (s : Int) = ((hi * 2 ^ s : Nat) : Int) := by rw [shl_nat _ _ (by omega), Nat.mod_eq_of_lt (by omega)]
    have e_lo : shl .u64 (lo : Int) (s : Int) = ((lo * 2 ^ s % 18446744073709551616 : Nat) : Int) := shl_nat _ _ (by omega)
    have e_sr : shr .u64 (lo : Int) ((64 - s : Nat) : Int) = ((lo / 2 ^ (64 - s) : Nat) : Int) := shr_nat _ _ _ rfl (by omega)
    have hlow : lo / 2 ^ (64 - s) < 2 ^ s := by
      rw [Nat.div_lt_iff_lt_mul (Nat.two_pow_pos _), ← Nat.pow_add, show s + (64 - s) = 64 by omega]
      exact hlo
    have e_U : IntKind.u64.wrap ((BitVec.ofInt 64 ((hi * 2 ^ s : Nat) : Int) ||| BitVec.ofInt 64 ((lo / 2 ^ (64 - s) : Nat) : Int)).toNat : Int) = ((hi * 2 ^ s + lo / 2 ^ (64 - s) : Nat) : Int) :=
      or_parts hi (lo / 2 ^ (64 - s)) s hlow (by omega) (by omega) (by omega)
    have hfin := YtfemminjhecocaaGreatDoorKnuth.parts hi lo s (by omega)
    have hsh := YtfemminjhecocaaGreatDoorKnuth.shifted (hi * 18446744073709551616 + lo) y (2 ^ s) p0
    simp only [e_s, e_64, e_y, e_hi, e_lo, e_sr, e_U, shr32, mask32 _ hs2, mask32 _ (Nat.mod_lt _ (show 0 < 18446744073709551616 by decide))]
    have hUY : hi * 2 ^ s + lo / 2 ^ (64 - s) < y * 2 ^ s := by omega
    generalize hU' : hi * 2 ^ s + lo / 2 ^ (64 - s) = U at *
    generalize hL' : lo * 2 ^ s % 18446744073709551616 = L at *
    have hL : L < 18446744073709551616 := by rw [← hL']; exact Nat.mod_lt _ (by decide)
    have hpow : ∀ x : Nat, shr .u64 (x : Int) (s : Int) = ((x / 2 ^ s : Nat) : Int) := fun x => shr_nat _ _ _ rfl (by omega)
    have hsd : ∀ x, x = (hi * 18446744073709551616 + lo) * 2 ^ s % (y * 2 ^ s) → x / 2 ^ s = (hi * 18446744073709551616 + lo) % y := fun x hx => by rw [hx, hsh]
    have hqd : ∀ x, x = (hi * 18446744073709551616 + lo) * 2 ^ s / (y * 2 ^ s) → x = (hi * 18446744073709551616 + lo) / y := fun x hx => by rw [hx, Nat.mul_div_mul_right _ _ p0]
    rw [← hfin] at hsd hqd
    clear hsh hfin e_U e_sr e_lo e_hi e_y hlow hU' hL' hhi
    generalize y * 2 ^ s = Y at *
    obtain ⟨R, hR⟩ : ∃ R, (hi * 18446744073709551616 + lo) % y = R := ⟨_, rfl⟩
    obtain ⟨QN, hQN⟩ : ∃ QN, (hi * 18446744073709551616 + lo) / y = QN := ⟨_, rfl⟩
    simp only [hR] at hsd hQ
    simp only [hQN] at hqd hQ
    obtain ⟨Y1, hY1⟩ : ∃ Y1, Y / 4294967296 = Y1 := ⟨_, rfl⟩
    obtain ⟨Y0, hY0⟩ : ∃ Y0, Y % 4294967296 = Y0 := ⟨_, rfl⟩
    obtain ⟨L1, hL1⟩ : ∃ L1, L / 4294967296 = L1 := ⟨_, rfl⟩
    obtain ⟨L0, hL0⟩ : ∃ L0, L % 4294967296 = L0 := ⟨_, rfl⟩
    have hYe : Y = Y1 * 4294967296 + Y0 := by omega
    have b1 : Y1 < 4294967296 := by omega
    have b2 : 2147483648 ≤ Y1 := by omega
    have b3 : Y0 < 4294967296 := by omega
    have b4 : L1 < 4294967296 := by omega
    have b5 : L0 < 4294967296 := by omega
    rw [hY1, hY0, hL1, hL0]
    rw [hL1, hL0] at hsd hqd
    -- the words of a round
    have wr : ∀ r : Nat, r < 4294967296 → IntKind.u64.wrap ((r : Int) + (Y1 : Int)) = ((r + Y1 : Nat) : Int) := fun r hr => by rw [aN, wN _ (by omega)]
    have wq : ∀ q : Nat, 1 ≤ q → q ≤ 4294967297 → IntKind.u64.wrap ((q : Int) - 1) = ((q - 1 : Nat) : Int) := fun q h3 h4 => by rw [wu64 (by omega) (by omega)]; omega
    have wm : ∀ q : Nat, q < 4294967296 → IntKind.u64.wrap ((q : Int) * (Y0 : Int)) = ((q * Y0 : Nat) : Int) := fun q hq => by
      have : q * Y0 ≤ 4294967295 * 4294967295 := Nat.mul_le_mul (by omega) (by omega)
      rw [mN, wN _ (by omega)]
    have wl : ∀ (r u : Nat), r < 4294967296 → u < 4294967296 → IntKind.u64.wrap (IntKind.u64.wrap (4294967296 * (r : Int)) + (u : Int)) = ((4294967296 * r + u : Nat) : Int) := fun r u hr hu => by
      rw [wu64 (n := 4294967296 * (r : Int)) (by omega) (by omega), wu64 (by omega) (by omega)]; omega
    have hne : ((Y1 : Nat) : Int) ≠ 0 := by omega
    refine ⟨by omega, by omega, by omega, by omega, hne, ?_⟩
    have e_rest : ∀ (U u : Nat), IntKind.u64.wrap (IntKind.u64.wrap (IntKind.u64.wrap ((U : Int) * 4294967296) + (u : Int)) - IntKind.u64.wrap (((((U * 4294967296 + u) / Y : Nat)) : Int) * (Y : Int))) = (((U * 4294967296 + u) % Y : Nat) : Int) := fun U u => by
      rw [IntKind.wrap_u64, IntKind.wrap_u64, IntKind.wrap_u64, IntKind.wrap_u64]
      exact YtfemminjhecocaaGreatDoorKnuth.rest U u Y (by omega) (by omega)
    refine joinK_intro (fun (q : Int) h' => h' = h ∧ q = (((U * 4294967296 + L1) / Y : Nat) : Int)) ?_ ?_
    · rintro q h' ⟨rfl, rfl⟩
      refine ⟨hne, ?_⟩
      rw [e_rest]
      have hV : (U * 4294967296 + L1) % Y < Y := Nat.mod_lt _ (by omega)
      have hW : ((U * 4294967296 + L1) % Y * 4294967296 + L0) % Y = (U * (4294967296 * 4294967296) + L1 * 4294967296 + L0) % Y := YtfemminjhecocaaGreatDoorKnuth.two _ _ _ _ _
      have hd := hsd _ hW
      obtain ⟨V, hVe⟩ : ∃ V, (U * 4294967296 + L1) % Y = V := ⟨_, rfl⟩
      rw [hVe] at hV hW hd ⊢
      obtain ⟨e1, e2⟩ := div_start (U := V) (Y := Y1) (by omega)
      rw [e1, e2]
      have fin : ∀ q : Nat, q = (V * 4294967296 + L0) / Y → Q [u64 (IntKind.u64.wrap (IntKind.u64.wrap ((((U * 4294967296 + L1) / Y : Nat) : Int) * 4294967296) + (q : Int))), u64 (shr .u64 (IntKind.u64.wrap (IntKind.u64.wrap (IntKind.u64.wrap ((V : Int) * 4294967296) + (L0 : Int)) - IntKind.u64.wrap ((q : Int) * (Y : Int)))) (s : Int))] h' := fun q hq => by
        have hq1 : (U * 4294967296 + L1) / Y < 4294967296 := by
          rw [Nat.div_lt_iff_lt_mul (by omega), Nat.mul_comm]
          omega
        have hq2 : q < 4294967296 := by
          rw [hq, Nat.div_lt_iff_lt_mul (by omega), Nat.mul_comm]
          omega
        have hqq := hqd _ (by rw [YtfemminjhecocaaGreatDoorKnuth.twoq 4294967296 U L1 L0 Y (by omega), hVe, ← hq])
        have hr := e_rest V L0
        rw [← hq] at hr
        rw [hr, hpow, hd]
        obtain ⟨x1, hx1⟩ : ∃ x1, (U * 4294967296 + L1) / Y = x1 := ⟨_, rfl⟩
        rw [hx1] at hq1 hqq ⊢
        have ew : IntKind.u64.wrap (IntKind.u64.wrap ((x1 : Int) * 4294967296) + (q : Int)) = (QN : Int) := by
          rw [← hqq, wu64 (n := (x1 : Int) * 4294967296) (by omega) (by omega), wu64 (by omega) (by omega)]
          omega
        rw [ew]
        exact hQ
      obtain ⟨QQ, hQQ⟩ : ∃ QQ, (V * 4294967296 + L0) / Y = QQ := ⟨_, rfl⟩
      simp only [hQQ] at fin
      rw [hYe] at hQQ hV
      refine loopK_intro (fun (a : Int × Int) h'' m => h'' = h' ∧ ∃ q r : Nat, a = ((r : Int), (q : Int)) ∧ q * Y1 + r = V ∧ r < 4294967296 ∧ QQ ≤ q ∧ q ≤ 4294967296 + 1 ∧ q = m) (V / Y1)
        ⟨rfl, V / Y1, V % Y1, rfl, by rw [Nat.mul_comm]; exact Nat.div_add_mod V Y1, by have := Nat.mod_lt V (show 0 < Y1 by omega); omega, ?_, YtfemminjhecocaaGreatDoorKnuth.first hV (by omega) b3, rfl⟩ ?_
      · rw [← hQQ]
        have : (V * 4294967296 + L0) / (Y1 * 4294967296 + Y0) ≤ V / Y1 := by
          rw [Nat.le_div_iff_mul_le (by omega), Nat.le_iff_lt_or_eq]
          have h3 := Nat.div_mul_le_self (V * 4294967296 + L0) (Y1 * 4294967296 + Y0)
          generalize (V * 4294967296 + L0) / (Y1 * 4294967296 + Y0) = z at h3 ⊢
          rw [Nat.mul_add, ← Nat.mul_assoc] at h3
          generalize z * Y1 = w at h3 ⊢
          generalize z * Y0 = w0 at h3
          omega
        exact this
      · rintro a h'' m ⟨rfl, q, r, rfl, i1, i2, i3, i4, rfl⟩
        dsimp only [uncur]
        have step : (4294967296 ≤ q ∨ 4294967296 * r + L0 < q * Y0) → ∀ {x y : T}, (1 ≤ q → q - 1 = QQ → x h'') → (1 ≤ q → (q - 1) * Y1 + (r + Y1) = V → QQ ≤ q - 1 → q - 1 ≤ 4294967296 → r + Y1 < 4294967296 → y h'') →
            ifT (decide (IntKind.u64.wrap ((r : Int) + (Y1 : Int)) ≥ 4294967296)) x y h'' := fun hc x y hx hy => by
          obtain ⟨s1, s2, s3, s4, s5⟩ := YtfemminjhecocaaGreatDoorKnuth.round hQQ.symm (by omega) hV b5 b3 i1 i4 hc
          rw [wr _ i2]
          exact ifT_dec (fun h3 => hx s1 (s5 (by omega))) fun h3 => hy s1 s2 s3 s4 (by omega)
        have sub1 := wq q
        refine ifT_dec (fun h3 => step (.inl (by omega)) (fun s1 s5 => ?xa) (fun s1 s2 s3 s4 s6 => ?ya)) (fun h3 => ?za)
        case xa =>
          rw [sub1 s1 (by omega)]
          exact ⟨by omega, fin _ s5⟩
        case ya =>
          rw [sub1 s1 (by omega), wr _ i2]
          exact ⟨q - 1, by omega, rfl, q - 1, r + Y1, rfl, s2, s6, s3, by omega, rfl⟩
        rw [wm q (by omega), wl r L0 i2 b5]
        refine ifT_dec (fun h4 => step (.inr (by omega)) (fun s1 s5 => ?xb) (fun s1 s2 s3 s4 s6 => ?yb)) (fun h4 => ⟨by omega, ?zb⟩)
        case zb => exact fin q (YtfemminjhecocaaGreatDoorKnuth.stop hQQ.symm (by omega) i1 i3 (by omega))
        case xb =>
          rw [sub1 s1 (by omega)]
          exact ⟨by omega, fin _ s5⟩
        case yb =>
          rw [sub1 s1 (by omega), wr _ i2]
          exact ⟨q - 1, by omega, rfl, q - 1, r + Y1, rfl, s2, s6, s3, by omega, rfl⟩
    · intro j hj
      obtain ⟨e1, e2⟩ := div_start (U := U) (Y := Y1) (by omega)
      rw [e1, e2]
      obtain ⟨QQ, hQQ⟩ : ∃ QQ, (U * 4294967296 + L1) / Y = QQ := ⟨_, rfl⟩
      simp only [hQQ] at hj
      rw [hYe] at hQQ hUY
      refine loopK_intro (fun (a : Int × Int) h'' m => h'' = h ∧ ∃ q r : Nat, a = ((q : Int), (r : Int)) ∧ q * Y1 + r = U ∧ r < 4294967296 ∧ QQ ≤ q ∧ q ≤ 4294967296 + 1 ∧ q = m) (U / Y1)
        ⟨rfl, U / Y1, U % Y1, rfl, by rw [Nat.mul_comm]; exact Nat.div_add_mod U Y1, by have := Nat.mod_lt U (show 0 < Y1 by omega); omega, ?_, YtfemminjhecocaaGreatDoorKnuth.first hUY (by omega) b3, rfl⟩ ?_
      · rw [← hQQ, Nat.le_div_iff_mul_le (by omega)]
        have h3 := Nat.div_mul_le_self (U * 4294967296 + L1) (Y1 * 4294967296 + Y0)
        generalize (U * 4294967296 + L1) / (Y1 * 4294967296 + Y0) = z at h3 ⊢
        rw [Nat.mul_add, ← Nat.mul_assoc] at h3
        generalize z * Y1 = w at h3 ⊢
        generalize z * Y0 = w0 at h3
        omega
      · rintro a h'' m ⟨rfl, q, r, rfl, i1, i2, i3, i4, rfl⟩
        dsimp only [uncur]
        have step : (4294967296 ≤ q ∨ 4294967296 * r + L1 < q * Y0) → ∀ {x y : T}, (1 ≤ q → q - 1 = QQ → x h'') → (1 ≤ q → (q - 1) * Y1 + (r + Y1) = U → QQ ≤ q - 1 → q - 1 ≤ 4294967296 → r + Y1 < 4294967296 → y h'') →
            ifT (decide (IntKind.u64.wrap ((r : Int) + (Y1 : Int)) ≥ 4294967296)) x y h'' := fun hc x y hx hy => by
          obtain ⟨s1, s2, s3, s4, s5⟩ := YtfemminjhecocaaGreatDoorKnuth.round hQQ.symm (by omega) hUY b4 b3 i1 i4 hc
          rw [wr _ i2]
          exact ifT_dec (fun h3 => hx s1 (s5 (by omega))) fun h3 => hy s1 s2 s3 s4 (by omega)
        have sub1 := wq q
        refine ifT_dec (fun h3 => step (.inl (by omega)) (fun s1 s5 => ?xc) (fun s1 s2 s3 s4 s6 => ?yc)) (fun h3 => ?zc)
        case xc =>
          rw [sub1 s1 (by omega)]
          exact hj _ _ ⟨rfl, by rw [s5]⟩
        case yc =>
          rw [sub1 s1 (by omega), wr _ i2]
          exact ⟨q - 1, by omega, rfl, q - 1, r + Y1, rfl, s2, s6, s3, by omega, rfl⟩
        rw [wm q (by omega), wl r L1 i2 b4]
        refine ifT_dec (fun h4 => step (.inr (by omega)) (fun s1 s5 => ?xd) (fun s1 s2 s3 s4 s6 => ?yd)) (fun h4 => ?zd)
        case zd => exact hj _ _ ⟨rfl, by rw [YtfemminjhecocaaGreatDoorKnuth.stop hQQ.symm (by omega) i1 i3 (by omega)]⟩
        case xd =>
          rw [sub1 s1 (by omega)]
          exact hj _ _ ⟨rfl, by rw [s5]⟩
        case yd =>
          rw [sub1 s1 (by omega), wr _ i2]
          exact ⟨q - 1, by omega, rfl, q - 1, r + Y1, rfl, s2, s6, s3, by omega, rfl⟩
end
end Go.Proofs.YtfemminjhecocaaGreatDoorVc
-- from CcSpec4
namespace Go.Proofs.YtfemminjhecocaaGreatDoorVc
open Go.Proofs.Tryz (prog)
section
variable {I : Calls} {Q : Post} {h : Heap}
end
end Go.Proofs.YtfemminjhecocaaGreatDoorVc
-- from CnSpec
namespace Go.Proofs.YtfemminjhecocaaGreatDoorVc
open Go.Proofs.Tryz (prog)
section
variable {I : Calls} {Q : Post} {h : Heap}
end
end Go.Proofs.YtfemminjhecocaaGreatDoorVc
-- from CsBits
namespace Go.Proofs.YtfemminjhecocaaGreatDoorVc
open Go.Proofs.Tryz (prog)
section
variable {I : Calls} {Q : Post} {h : Heap}
/-- A divisor of 64 bits, whatever it is. -/
theorem spec143g (hI : Closed' prog Pm I) {hi lo y : Nat} (h1 : hi < y) (hy : y < 18446744073709551616) (hlo : lo < 18446744073709551616)
    (hQ : Q [u64 (((hi * 18446744073709551616 + lo) / y : Nat) : Int), u64 (((hi * 18446744073709551616 + lo) % y : Nat) : Int)] h) : I 143 [u64 hi, u64 lo, u64 y] Q h := by
  have hlen : ∃ len : Nat, len ≤ 64 ∧ y < 2 ^ len ∧ 2 ^ len ≤ 2 * y ∧ ∀ Q' h', Q' [int (64 - len : Nat)] h' → I 196 [u64 y] Q' h' := by
    refine ⟨y.log2 + 1, ?_, Nat.lt_log2_self, ?_, fun Q' h' hq => ?_⟩
    · have := (Nat.log2_lt (k := 64) (by omega)).2 hy
      omega
    · have := Nat.log2_self_le (n := y) (by omega)
      rw [Nat.pow_succ]; omega
    · refine hI.go _ _ (den196 I y Q') ?_
      refine spec167g hI (by omega) hy fun len h2 h3 h4 => ⟨_, rfl, ?_⟩
      have e : len = y.log2 + 1 := by
        have a1 : y.log2 < len := (Nat.log2_lt (by omega)).2 h3
        have a2 : len - 1 ≤ y.log2 := by
          rw [Nat.le_log2 (by omega)]
          have : 2 ^ len = 2 ^ (len - 1) * 2 := by rw [← Nat.pow_succ]; congr 1; omega
          omega
        omega
      rw [e] at h2 ⊢
      have : IntKind.i64.wrap (64 - ((y.log2 + 1 : Nat) : Int)) = ((64 - (y.log2 + 1) : Nat) : Int) := by rw [w64 (by omega) (by omega)]; omega
      rw [this]
      exact hq
  obtain ⟨len, l1, l2, l3, l4⟩ := hlen
  have hl0 : len ≠ 0 := by rintro rfl; omega
  have p1 : y * 2 ^ (64 - len) < 2 ^ len * 2 ^ (64 - len) := Nat.mul_lt_mul_of_pos_right l2 (Nat.two_pow_pos _)
  have p2 : 2 ^ len * 2 ^ (64 - len) ≤ 2 * y * 2 ^ (64 - len) := Nat.mul_le_mul_right _ l3
  rw [← Nat.pow_add, show len + (64 - len) = 64 by omega] at p1 p2
  rw [Nat.mul_assoc] at p2
  exact spec143 hI h1 hlo (s := 64 - len) (by omega) (by omega) p1 l4 hQ
end
end Go.Proofs.YtfemminjhecocaaGreatDoorVc
-- from CsSort
namespace Go.Proofs.YtfemminjhecocaaGreatDoorVc
open Go.Proofs.Tryz (prog)
section
variable {I : Calls} {Q : Post} {h : Heap}
end
end Go.Proofs.YtfemminjhecocaaGreatDoorVc
-- from CsSpec1
namespace Go.Proofs.YtfemminjhecocaaGreatDoorVc
open Go.Proofs.Tryz (prog)
section
variable {I : Calls} {Q : Post} {h : Heap}
theorem spec65 (hI : Closed' prog Pm I) {s : Sl} {xs : List Nat} (hs : At h 1 s (nats xs)) (hlen : xs.length < 1000000) (hsum : xs.sum < 4611686018427387904) (hQ : Q [int (xs.sum : Nat)] h) : I 65 [.one (.slice 1 s)] Q h := by
  have hl : s.len = xs.length := by rw [hs.len1, nats_length]
  refine hI.go _ _ (den65 I s Q) ?_
  refine loopK_intro (fun (a : Int × Int) h' m => h' = h ∧ ∃ i : Nat, i ≤ xs.length ∧ a = ((((xs.take i).sum : Nat) : Int), (i : Int)) ∧ xs.length - i = m) xs.length ⟨rfl, 0, by omega, rfl, rfl⟩ ?_
  rintro a h' m ⟨rfl, i, hi, rfl, rfl⟩
  dsimp only [uncur]
  refine ifT_dec (fun hlt => ⟨⟨by omega, hlt⟩, ?_⟩) (fun hge => ?_)
  · have hil : i < xs.length := by omega
    have hx := List.getElem?_eq_getElem hil
    refine hs.cell (nats_get hx) fun b o hr => ⟨_, hr, xs.length - (i + 1), by omega, rfl, i + 1, by omega, ?_, rfl⟩
    have h1 : (xs.take (i + 1)).sum = (xs.take i).sum + xs[i] := by
      rw [List.take_add_one, hx]
      show (xs.take i ++ [xs[i]]).sum = _
      rw [List.sum_append]; simp
    have h2 : (xs.take (i + 1)).sum ≤ xs.sum := by
      conv => rhs; rw [← List.take_append_drop (i + 1) xs, List.sum_append]
      omega
    rw [h1] at h2 ⊢
    generalize (xs.take i).sum = y at *
    generalize xs[i] = x at *
    rw [w64 (by omega) (by omega), w64 (by omega) (by omega)]
    rfl
  · have : i = xs.length := by omega
    subst this
    rw [List.take_length]
    exact hQ
/-! ### the stream's block, among one's own -/
end
end Go.Proofs.YtfemminjhecocaaGreatDoorVc
-- from CsSpec2
namespace Go.Proofs.YtfemminjhecocaaGreatDoorVc
open Go.Proofs.YtfemminjhecocaaGreatDoorShares
open Go.Proofs.Tryz (prog)
section
variable {I : Calls} {Q : Post} {h : Heap}
/-- Both words of the product, divided: quotient and rest. -/
theorem divide_word (hI : Closed' prog Pm I) {c w all : Nat} {k : Int → Int → T} (hc : c ≤ 1000000000000) (hw : w ≤ all) (ha : 0 < all) (ha2 : all < 18446744073709551616)
    (hk : k ((c * w / all : Nat) : Int) ((c * w % all : Nat) : Int) h) :
    I 143 [u64 ((c * w / 18446744073709551616 : Nat) : Int), u64 ((c * w % 18446744073709551616 : Nat) : Int), u64 (all : Int)] (fun cs h' => ∃ a : Int, ∃ b : Int, cs = [u64 a, u64 b] ∧ k a b h') h := by
  refine spec143g hI (mul_lt hc hw ha) ha2 (Nat.mod_lt _ (by decide)) ⟨_, _, rfl, ?_⟩
  have e : c * w / 18446744073709551616 * 18446744073709551616 + c * w % 18446744073709551616 = c * w := by
    rw [Nat.mul_comm]; exact Nat.div_add_mod _ _
  rw [e]
  exact hk
end
end Go.Proofs.YtfemminjhecocaaGreatDoorVc
-- from CsSpec3
namespace Go.Proofs.YtfemminjhecocaaGreatDoorVc
open Go.Proofs.YtfemminjhecocaaGreatDoorShares
open Go.Proofs.Tryz (prog)
section
variable {I : Calls} {Q : Post} {h : Heap}
theorem spec100 (hI : Closed' prog Pm I) {s : Sl} {c : Nat} {ws : List Nat} (hs : At h 1 s (nats ws)) (hc : c ≤ 1000000000000) (hw : ∀ w ∈ ws, w ≤ 1000000000000) (hpos : 0 < ws.sum) (hlen : ws.length < 1000)
    (hQ : ∀ s' h', Ext h h' → At h' 1 s' (nats (shared c ws)) → Q [.one (.slice 1 s')] h') : I 100 [int c, .one (.slice 1 s), boo false] Q h := by
  have hl : s.len = ws.length := by rw [hs.len1, nats_length]
  have hsum := sum_le hw
  have hsum' : ws.sum ≤ 1000000000000000 := by omega
  obtain ⟨hleft1, hleft2⟩ := left_ok (c := c) hpos
  have hn0 : 0 < ws.length := by omega
  refine hI.go _ _ (den100 I c s false Q) ?_
  refine spec65 hI hs (by omega) (by omega) ⟨_, rfl, rfl, by omega, by omega, by rw [hl]; show (ws.length : Int) * ((8 : Nat) : Int) ≤ _; omega, ?_⟩
  simp only [hl, Int.toNat_natCast]
  have hQS : (qs c ws.sum ws).length = ws.length := by simp [qs]
  have hRS : (rs c ws.sum ws).length = ws.length := by simp [rs]
  have hz : ∀ k, slCells (.one (.int .i64)) k = nats (List.replicate k 0) := fun k => by
    unfold slCells nats
    rw [List.map_replicate]
    exact List.flatten_replicate_singleton
  have hz2 : ∀ k, slCells (.one (.int .u64)) k = unats (List.replicate k 0) := fun k => by
    unfold slCells unats
    rw [List.map_replicate]
    exact List.flatten_replicate_singleton
  have hz3 : ∀ k, slCells (.one .bool) k = bools (List.replicate k false) := fun k => by
    unfold slCells bools
    rw [List.map_replicate]
    exact List.flatten_replicate_singleton
  simp only [hz, hz2, hz3]
  generalize hall : ws.sum = all at *
  generalize hq : qs c all ws = q at *
  generalize hr : rs c all ws = r at *
  refine newK_intro fun i7 h1 hn1 he1 => ⟨trivial, by omega, by omega, by show (ws.length : Int) * ((8 : Nat) : Int) ≤ _; omega, newK_intro fun i9 h2 hn2 he2 => ?_⟩
  have o1 : Owns h h1 [(1, ⟨some (i7, 0), ws.length⟩, nats (List.replicate ws.length 0))] := he1 ▸ (Owns.nil h).new hn1 (by rw [nats_length]; simp)
  have o2 : Owns h h2 [(1, ⟨some (i9, 0), ws.length⟩, unats (List.replicate ws.length 0)), (1, ⟨some (i7, 0), ws.length⟩, nats (List.replicate ws.length 0))] := he2 ▸ o1.new hn2 (by rw [unats_length]; simp)
  refine loopK_intro (fun (a : Int) h' m => ∃ i : Nat, i ≤ ws.length ∧ a = (i : Int) ∧ ws.length - i = m ∧
      Owns h h' [(1, ⟨some (i9, 0), ws.length⟩, unats (r.take i ++ List.replicate (ws.length - i) 0)), (1, ⟨some (i7, 0), ws.length⟩, nats (q.take i ++ List.replicate (ws.length - i) 0))]) ws.length
    ⟨0, by omega, rfl, rfl, by simpa using o2⟩ ?_
  rintro a h' m ⟨i, hi, rfl, rfl, o⟩
  refine ifT_dec (fun hlt => ⟨⟨by omega, hlt⟩, ?_⟩) (fun hge => ?_)
  · have hil : i < ws.length := by omega
    have hx := List.getElem?_eq_getElem hil
    have hwk : ws[i] ≤ all := by rw [← hall]; exact mem_le_sum (List.getElem_mem hil)
    generalize ws[i] = w at *
    refine (o.ext.at_ hs).cell (nats_get hx) fun b o' hr' => ⟨_, hr', ?_⟩
    rw [wN c (by omega), wN w (by omega), wN all (by omega)]
    refine spec142 hI (by omega) (by omega) ⟨_, _, rfl, divide_word hI hc hwk hpos (by omega) ?_⟩
    have hqi : q.take (i + 1) = q.take i ++ [c * w / all] := by rw [← hq]; exact take_succ_map _ hx
    have hri : r.take (i + 1) = r.take i ++ [c * w % all] := by rw [← hr]; exact take_succ_map _ hx
    have hq1 : c * w / all ≤ c := by
      have h1 := mem_le_sum (l := q) (x := c * w / all) (by
        have : c * w / all ∈ q.take (i + 1) := by rw [hqi]; simp
        exact List.mem_of_mem_take this)
      omega
    have ew : IntKind.i64.wrap ((c * w / all : Nat) : Int) = ((c * w / all : Nat) : Int) := by
      generalize c * w / all = z at *
      exact w64 (by omega) (by omega)
    have eo : 0 + (i : Int).toNat * 1 = i := by simp
    have lq : (q.take i).length = i := by rw [List.length_take]; omega
    have lr : (r.take i).length = i := by rw [List.length_take]; omega
    have er : ws.length - i = (ws.length - (i + 1)) + 1 := by omega
    rw [ew, eo]
    have o3 := o.perm (List.Perm.swap _ _ _)
    refine ⟨⟨by omega, by omega⟩, storeK_one (o3.block List.mem_cons_self).1 (by rw [nats_length]; simp; omega) ⟨⟨by omega, by omega⟩, ?_⟩⟩
    have s1 : (nats (q.take i ++ List.replicate (ws.length - i) 0)).set i (.int .i64 ((c * w / all : Nat) : Int)) = nats (q.take (i + 1) ++ List.replicate (ws.length - (i + 1)) 0) := by
      rw [nats_set, hqi, er]
      have := set_fill (q.take i) (ws.length - (i + 1)) (c * w / all)
      rw [lq] at this
      rw [this]
    have s2 : (unats (r.take i ++ List.replicate (ws.length - i) 0)).set i (.int .u64 ((c * w % all : Nat) : Int)) = unats (r.take (i + 1) ++ List.replicate (ws.length - (i + 1)) 0) := by
      rw [unats_set, hri, er]
      have := set_fill (r.take i) (ws.length - (i + 1)) (c * w % all)
      rw [lr] at this
      rw [this]
    rw [s1]
    have o4 := (o3.change (n' := ws.length) (sz' := 1) (cs' := nats (q.take (i + 1) ++ List.replicate (ws.length - (i + 1)) 0)) (by rw [nats_length]; simp; omega)).perm (List.Perm.swap _ _ _)
    refine storeK_one (o4.block List.mem_cons_self).1 (by rw [unats_length]; simp; omega) ⟨ws.length - (i + 1), by omega, i + 1, by omega, by rw [w64] <;> omega, rfl, ?_⟩
    rw [s2]
    exact o4.change (by rw [unats_length]; simp; omega)
  · have : i = ws.length := by omega
    subst this
    have t1 : q.take ws.length = q := List.take_of_length_le (by omega)
    have t2 : r.take ws.length = r := List.take_of_length_le (by omega)
    rw [t1, t2] at o
    simp only [Nat.sub_self, List.replicate_zero, List.append_nil] at o
    refine ⟨trivial, by omega, by omega, by show (ws.length : Int) * ((1 : Nat) : Int) ≤ _; omega, newK_intro fun i27 h3 hn3 he3 => ?_⟩
    have o3 : Owns h h3 [(1, ⟨some (i27, 0), ws.length⟩, bools (List.replicate ws.length false)), (1, ⟨some (i9, 0), ws.length⟩, unats r), (1, ⟨some (i7, 0), ws.length⟩, nats q)] := he3 ▸ o.new hn3 (by rw [bools_length]; simp)
    refine spec65 hI (o3.at_ (sz := 1) (s := ⟨some (i7, 0), ws.length⟩) (cs := nats q) (by simp)) (by omega) (by omega) ⟨_, rfl, ?_⟩
    have ew : IntKind.i64.wrap ((c : Int) - (q.sum : Nat)) = ((c - q.sum : Nat) : Int) := by rw [w64] <;> omega
    rw [ew]
    have ne1 : i27 ≠ i9 := o3.ne (q := (1, ⟨some (i9, 0), ws.length⟩, unats r)) (by simp) rfl rfl
    have p1 : ∀ a b c : Ow, [a, b, c].Perm [c, b, a] := fun a b c => List.reverse_perm [c, b, a]
    refine loopK_intro (fun (a : Int) h' m => ∃ k : Nat, k ≤ c - q.sum ∧ a = ((c - q.sum - k : Nat) : Int) ∧ c - q.sum - k = m ∧
        Owns h h' [(1, ⟨some (i27, 0), ws.length⟩, bools (givenK r k)), (1, ⟨some (i9, 0), ws.length⟩, unats r), (1, ⟨some (i7, 0), ws.length⟩, nats (dealtK q r k))]) (c - q.sum)
      ⟨0, by omega, rfl, rfl, by rw [dealtK_zero, givenK_zero, hRS]; exact o3⟩ ?_
    rintro a h4 m ⟨k, hk, rfl, rfl, o4⟩
    refine ifT_dec (fun hlt => ?_) (fun hge => ?_)
    · have hkn : k < r.length := by omega
      have hgB := (o4.block (sz := 1) (i := i27) (n := ws.length) (cs := bools (givenK r k)) (by simp)).1
      have hgR := (o4.block (sz := 1) (i := i9) (n := ws.length) (cs := unats r) (by simp)).1
      refine loopK_intro (fun (a : Int × Int) h5 m => h5 = h4 ∧ ∃ i : Nat, i ≤ ws.length ∧ a.2 = (i : Int) ∧ ws.length - i = m ∧
          ((a.1 = -1 ∧ ∀ j, j < i → rank r j < k) ∨ ∃ b : Nat, a.1 = (b : Int) ∧ b < i ∧ k ≤ rank r b ∧ ∀ j, j < i → k ≤ rank r j → beats r j b = false)) ws.length
        ⟨rfl, 0, by omega, rfl, rfl, .inl ⟨rfl, fun j hj => by omega⟩⟩ ?_
      rintro ⟨best, y⟩ h5 m ⟨rfl, i, hi, rfl, rfl, hinv⟩
      simp only at hinv
      dsimp only [uncur]
      have wi : IntKind.i64.wrap ((i : Int) + 1) = ((i + 1 : Nat) : Int) := by rw [w64] <;> omega
      have eo : 0 + (i : Int).toNat * 1 = i := by simp
      refine ifT_dec (fun hlt2 => ?_) (fun hge2 => ?_)
      · have hil : i < r.length := by omega
        have gi : r[i]? = some (at_ r i) := by rw [List.getElem?_eq_getElem hil, at_some (List.getElem?_eq_getElem hil)]
        rw [eo, wi]
        refine ⟨⟨by omega, by omega⟩, _, read_cell hgR (unats_get gi), ⟨by omega, by omega⟩, _, read_cell hgB (bools_get (givenK_get hil)), ifT_intro (fun hng => ?_) (fun hg => ?_)⟩
        · have hri : k ≤ rank r i := by simp at hng; omega
          rcases hinv with ⟨rfl, hall'⟩ | ⟨b, rfl, hb, hbr, hbest⟩
          · refine ifT_dec (fun _ => ⟨ws.length - (i + 1), by omega, rfl, i + 1, by omega, rfl, rfl, .inr ⟨i, rfl, by omega, hri, fun j hj hjk => ?_⟩⟩) fun h => absurd (show (-1 : Int) < 0 by decide) h
            rcases Nat.lt_or_ge j i with h1 | h1
            · have := hall' j h1; omega
            · have : j = i := by omega
              subst this; exact beats_irrefl _ _
          · have hbl : b < r.length := by omega
            have gb : r[b]? = some (at_ r b) := by rw [List.getElem?_eq_getElem hbl, at_some (List.getElem?_eq_getElem hbl)]
            have eb : 0 + (b : Int).toNat * 1 = b := by simp
            refine ifT_dec (fun h => by omega) fun _ => ⟨⟨by omega, by omega⟩, _, by rw [eb]; exact read_cell hgR (unats_get gb), ?_⟩
            refine ifT_dec (fun hgt => ?_) fun hle => ifT_intro (fun h => by cases h) fun _ => ?_
            · refine ⟨ws.length - (i + 1), by omega, rfl, i + 1, by omega, rfl, rfl, .inr ⟨i, rfl, by omega, hri, fun j hj hjk => ?_⟩⟩
              rcases Nat.lt_or_ge j i with h1 | h1
              · have h2 := hbest j h1 hjk
                cases h3 : beats r j i with
                | false => rfl
                | true =>
                  have h4 : beats r j b = true := by rw [beats_iff] at h3 ⊢; omega
                  rw [h4] at h2; cases h2
              · have : j = i := by omega
                subst this; exact beats_irrefl _ _
            · refine ⟨ws.length - (i + 1), by omega, rfl, i + 1, by omega, rfl, rfl, .inr ⟨b, rfl, by omega, hbr, fun j hj hjk => ?_⟩⟩
              rcases Nat.lt_or_ge j i with h1 | h1
              · exact hbest j h1 hjk
              · have : j = i := by omega
                subst this
                cases h3 : beats r j b with
                | false => rfl
                | true => rw [beats_iff] at h3; omega
        · have hri : rank r i < k := by simpa using hg
          refine ⟨ws.length - (i + 1), by omega, rfl, i + 1, by omega, rfl, rfl, ?_⟩
          rcases hinv with ⟨rfl, hall'⟩ | ⟨b, rfl, hb, hbr, hbest⟩
          · refine .inl ⟨rfl, fun j hj => ?_⟩
            rcases Nat.lt_or_ge j i with h1 | h1
            · exact hall' j h1
            · have : j = i := by omega
              subst this; exact hri
          · refine .inr ⟨b, rfl, by omega, hbr, fun j hj hjk => ?_⟩
            rcases Nat.lt_or_ge j i with h1 | h1
            · exact hbest j h1 hjk
            · have : j = i := by omega
              subst this; omega
      · have : i = ws.length := by omega
        subst this
        obtain ⟨b, rfl, hb, hbr, hbest⟩ : ∃ b : Nat, best = (b : Int) ∧ b < ws.length ∧ k ≤ rank r b ∧ ∀ j, j < ws.length → k ≤ rank r j → beats r j b = false := by
          rcases hinv with ⟨_, hall'⟩ | hx
          · exfalso
            obtain ⟨e, he, hre⟩ := rank_surj (rs := r) hkn
            have := hall' e (by omega)
            omega
          · exact hx
        clear hinv wi eo
        have hrank : rank r b = k := best_rank hkn (by omega) hbr fun j hj hjk => hbest j (by omega) hjk
        have hqb : q[b]? = some (at_ q b) := by rw [List.getElem?_eq_getElem (by omega), at_some (List.getElem?_eq_getElem (show b < q.length by omega))]
        have hdb : (dealtK q r k)[b]? = some (at_ q b) := by rw [dealtK_get (by omega), hrank]; simp
        have hqc : at_ q b ≤ c := by
          have := mem_le_sum (List.mem_of_getElem? hqb)
          omega
        have eb : 0 + (b : Int).toNat * 1 = b := by simp
        have ew1 : IntKind.i64.wrap ((at_ q b : Int) + 1) = ((at_ q b + 1 : Nat) : Int) := by rw [w64] <;> omega
        have ew2 : IntKind.i64.wrap (((c - q.sum - k : Nat) : Int) - 1) = ((c - q.sum - (k + 1) : Nat) : Int) := by rw [w64] <;> omega
        have o5 := o4.perm (p1 _ _ _)
        rw [eb, ew2]
        refine ⟨⟨by omega, by omega⟩, _, read_cell (o5.block List.mem_cons_self).1 (nats_get hdb), ⟨by omega, by omega⟩, storeK_one (o5.block List.mem_cons_self).1 (by rw [nats_length, dealtK_length]; omega) ⟨⟨by omega, by omega⟩, ?_⟩⟩
        rw [ew1, nats_set, dealtK_step (by omega) (by omega) hrank]
        have o6 := (o5.change (n' := ws.length) (sz' := 1) (cs' := nats (dealtK q r (k + 1))) (by rw [nats_length, dealtK_length]; omega)).perm (p1 _ _ _)
        refine storeK_one (o6.block List.mem_cons_self).1 (by rw [bools_length, givenK_length]; omega) ⟨c - q.sum - (k + 1), by omega, k + 1, by omega, rfl, rfl, ?_⟩
        rw [bools_set, givenK_step (by omega) hrank]
        exact o6.change (by rw [bools_length, givenK_length]; omega)
    · have hk2 : k = c - q.sum := by omega
      subst hk2
      refine hQ _ _ o4.ext ?_
      have := o4.at_ (sz := 1) (s := ⟨some (i7, 0), ws.length⟩) (cs := nats (dealtK q r (c - q.sum))) (by simp)
      unfold shared
      rw [hall, hq, hr]
      exact this
end
end Go.Proofs.YtfemminjhecocaaGreatDoorVc
-- from SpSort
namespace Go.Proofs.YtfemminjhecocaaGreatDoorVc
open Go.Proofs.Tryz (prog)
section
variable {I : Calls} {Q : Post} {h : Heap}
end
end Go.Proofs.YtfemminjhecocaaGreatDoorVc
-- from SpSpec1
namespace Go.Proofs.YtfemminjhecocaaGreatDoorVc
open Go.Proofs.YtfemminjhecocaaGreatDoorShares
open Go.Proofs.Tryz (prog)
section
variable {I : Calls} {Q : Post} {h : Heap}
/-! ### weights -/
end
end Go.Proofs.YtfemminjhecocaaGreatDoorVc
-- from SpSpec2
namespace Go.Proofs.YtfemminjhecocaaGreatDoorVc
open Go.Proofs.YtfemminjhecocaaGreatDoorShares
open Go.Proofs.Tryz (prog)
section
variable {I : Calls} {Q : Post} {h : Heap}
end
end Go.Proofs.YtfemminjhecocaaGreatDoorVc
-- from SpSpec3
namespace Go.Proofs.YtfemminjhecocaaGreatDoorVc
open Go.Proofs.YtfemminjhecocaaGreatDoorShares
open Go.Proofs.Tryz (prog)
section
variable {I : Calls} {Q : Post} {h : Heap}
end
end Go.Proofs.YtfemminjhecocaaGreatDoorVc
-- from LaDeal
namespace Go.Proofs.YtfemminjhecocaaGreatDoorVc
open Go.Proofs.YtfemminjhecocaaGreatDoorLasts
open Go.Proofs.YtfemminjhecocaaGreatDoorShares (at_ qs rs left_ok)
open Go.Proofs.Tryz (prog)
section
variable {I : Calls} {Q : Post} {h : Heap}
theorem spec100L (hI : Closed' prog Pm I) {s : Sl} {c : Nat} {ws : List Nat} (hs : At h 1 s (nats ws)) (hc : c ≤ 1000000000000) (hw : ∀ w ∈ ws, w ≤ 1000000000000) (hpos : 0 < ws.sum) (hlen : ws.length < 1000)
    (hQ : ∀ s' h', Ext h h' → At h' 1 s' (nats (shared c ws)) → Q [.one (.slice 1 s')] h') : I 100 [int c, .one (.slice 1 s), boo true] Q h := by
  have hl : s.len = ws.length := by rw [hs.len1, nats_length]
  have hsum := sum_le hw
  have hsum' : ws.sum ≤ 1000000000000000 := by omega
  obtain ⟨hleft1, hleft2⟩ := left_ok (c := c) hpos
  have hn0 : 0 < ws.length := by omega
  refine hI.go _ _ (den100 I c s true Q) ?_
  refine spec65 hI hs (by omega) (by omega) ⟨_, rfl, rfl, by omega, by omega, by rw [hl]; show (ws.length : Int) * ((8 : Nat) : Int) ≤ _; omega, ?_⟩
  simp only [hl, Int.toNat_natCast]
  have hQS : (qs c ws.sum ws).length = ws.length := by simp [qs]
  have hRS : (rs c ws.sum ws).length = ws.length := by simp [rs]
  have hz : ∀ k, slCells (.one (.int .i64)) k = nats (List.replicate k 0) := fun k => by
    unfold slCells nats
    rw [List.map_replicate]
    exact List.flatten_replicate_singleton
  have hz2 : ∀ k, slCells (.one (.int .u64)) k = unats (List.replicate k 0) := fun k => by
    unfold slCells unats
    rw [List.map_replicate]
    exact List.flatten_replicate_singleton
  have hz3 : ∀ k, slCells (.one .bool) k = bools (List.replicate k false) := fun k => by
    unfold slCells bools
    rw [List.map_replicate]
    exact List.flatten_replicate_singleton
  simp only [hz, hz2, hz3]
  generalize hall : ws.sum = all at *
  generalize hq : qs c all ws = q at *
  generalize hr : rs c all ws = r at *
  refine newK_intro fun i7 h1 hn1 he1 => ⟨trivial, by omega, by omega, by show (ws.length : Int) * ((8 : Nat) : Int) ≤ _; omega, newK_intro fun i9 h2 hn2 he2 => ?_⟩
  have o1 : Owns h h1 [(1, ⟨some (i7, 0), ws.length⟩, nats (List.replicate ws.length 0))] := he1 ▸ (Owns.nil h).new hn1 (by rw [nats_length]; simp)
  have o2 : Owns h h2 [(1, ⟨some (i9, 0), ws.length⟩, unats (List.replicate ws.length 0)), (1, ⟨some (i7, 0), ws.length⟩, nats (List.replicate ws.length 0))] := he2 ▸ o1.new hn2 (by rw [unats_length]; simp)
  refine loopK_intro (fun (a : Int) h' m => ∃ i : Nat, i ≤ ws.length ∧ a = (i : Int) ∧ ws.length - i = m ∧
      Owns h h' [(1, ⟨some (i9, 0), ws.length⟩, unats (r.take i ++ List.replicate (ws.length - i) 0)), (1, ⟨some (i7, 0), ws.length⟩, nats (q.take i ++ List.replicate (ws.length - i) 0))]) ws.length
    ⟨0, by omega, rfl, rfl, by simpa using o2⟩ ?_
  rintro a h' m ⟨i, hi, rfl, rfl, o⟩
  refine ifT_dec (fun hlt => ⟨⟨by omega, hlt⟩, ?_⟩) (fun hge => ?_)
  · have hil : i < ws.length := by omega
    have hx := List.getElem?_eq_getElem hil
    have hwk : ws[i] ≤ all := by rw [← hall]; exact mem_le_sum (List.getElem_mem hil)
    generalize ws[i] = w at *
    refine (o.ext.at_ hs).cell (nats_get hx) fun b o' hr' => ⟨_, hr', ?_⟩
    rw [wN c (by omega), wN w (by omega), wN all (by omega)]
    refine spec142 hI (by omega) (by omega) ⟨_, _, rfl, divide_word hI hc hwk hpos (by omega) ?_⟩
    have hqi : q.take (i + 1) = q.take i ++ [c * w / all] := by rw [← hq]; exact take_succ_map _ hx
    have hri : r.take (i + 1) = r.take i ++ [c * w % all] := by rw [← hr]; exact take_succ_map _ hx
    have hq1 : c * w / all ≤ c := by
      have h1 := mem_le_sum (l := q) (x := c * w / all) (by
        have : c * w / all ∈ q.take (i + 1) := by rw [hqi]; simp
        exact List.mem_of_mem_take this)
      omega
    have ew : IntKind.i64.wrap ((c * w / all : Nat) : Int) = ((c * w / all : Nat) : Int) := by
      generalize c * w / all = z at *
      exact w64 (by omega) (by omega)
    have eo : 0 + (i : Int).toNat * 1 = i := by simp
    have lq : (q.take i).length = i := by rw [List.length_take]; omega
    have lr : (r.take i).length = i := by rw [List.length_take]; omega
    have er : ws.length - i = (ws.length - (i + 1)) + 1 := by omega
    rw [ew, eo]
    have o3 := o.perm (List.Perm.swap _ _ _)
    refine ⟨⟨by omega, by omega⟩, storeK_one (o3.block List.mem_cons_self).1 (by rw [nats_length]; simp; omega) ⟨⟨by omega, by omega⟩, ?_⟩⟩
    have s1 : (nats (q.take i ++ List.replicate (ws.length - i) 0)).set i (.int .i64 ((c * w / all : Nat) : Int)) = nats (q.take (i + 1) ++ List.replicate (ws.length - (i + 1)) 0) := by
      rw [nats_set, hqi, er]
      have := set_fill (q.take i) (ws.length - (i + 1)) (c * w / all)
      rw [lq] at this
      rw [this]
    have s2 : (unats (r.take i ++ List.replicate (ws.length - i) 0)).set i (.int .u64 ((c * w % all : Nat) : Int)) = unats (r.take (i + 1) ++ List.replicate (ws.length - (i + 1)) 0) := by
      rw [unats_set, hri, er]
      have := set_fill (r.take i) (ws.length - (i + 1)) (c * w % all)
      rw [lr] at this
      rw [this]
    rw [s1]
    have o4 := (o3.change (n' := ws.length) (sz' := 1) (cs' := nats (q.take (i + 1) ++ List.replicate (ws.length - (i + 1)) 0)) (by rw [nats_length]; simp; omega)).perm (List.Perm.swap _ _ _)
    refine storeK_one (o4.block List.mem_cons_self).1 (by rw [unats_length]; simp; omega) ⟨ws.length - (i + 1), by omega, i + 1, by omega, by rw [w64] <;> omega, rfl, ?_⟩
    rw [s2]
    exact o4.change (by rw [unats_length]; simp; omega)
  · have : i = ws.length := by omega
    subst this
    have t1 : q.take ws.length = q := List.take_of_length_le (by omega)
    have t2 : r.take ws.length = r := List.take_of_length_le (by omega)
    rw [t1, t2] at o
    simp only [Nat.sub_self, List.replicate_zero, List.append_nil] at o
    refine ⟨trivial, by omega, by omega, by show (ws.length : Int) * ((1 : Nat) : Int) ≤ _; omega, newK_intro fun i27 h3 hn3 he3 => ?_⟩
    have o3 : Owns h h3 [(1, ⟨some (i27, 0), ws.length⟩, bools (List.replicate ws.length false)), (1, ⟨some (i9, 0), ws.length⟩, unats r), (1, ⟨some (i7, 0), ws.length⟩, nats q)] := he3 ▸ o.new hn3 (by rw [bools_length]; simp)
    refine spec65 hI (o3.at_ (sz := 1) (s := ⟨some (i7, 0), ws.length⟩) (cs := nats q) (by simp)) (by omega) (by omega) ⟨_, rfl, ?_⟩
    have ew : IntKind.i64.wrap ((c : Int) - (q.sum : Nat)) = ((c - q.sum : Nat) : Int) := by rw [w64] <;> omega
    rw [ew]
    have ne1 : i27 ≠ i9 := o3.ne (q := (1, ⟨some (i9, 0), ws.length⟩, unats r)) (by simp) rfl rfl
    have p1 : ∀ a b c : Ow, [a, b, c].Perm [c, b, a] := fun a b c => List.reverse_perm [c, b, a]
    refine loopK_intro (fun (a : Int) h' m => ∃ k : Nat, k ≤ c - q.sum ∧ a = ((c - q.sum - k : Nat) : Int) ∧ c - q.sum - k = m ∧
        Owns h h' [(1, ⟨some (i27, 0), ws.length⟩, bools (givenL r k)), (1, ⟨some (i9, 0), ws.length⟩, unats r), (1, ⟨some (i7, 0), ws.length⟩, nats (dealtK q r k))]) (c - q.sum)
      ⟨0, by omega, rfl, rfl, by rw [dealtK_zero, givenL_zero, hRS]; exact o3⟩ ?_
    rintro a h4 m ⟨k, hk, rfl, rfl, o4⟩
    refine ifT_dec (fun hlt => ?_) (fun hge => ?_)
    · have hkn : k < r.length := by omega
      have hgB := (o4.block (sz := 1) (i := i27) (n := ws.length) (cs := bools (givenL r k)) (by simp)).1
      have hgR := (o4.block (sz := 1) (i := i9) (n := ws.length) (cs := unats r) (by simp)).1
      refine loopK_intro (fun (a : Int × Int) h5 m => h5 = h4 ∧ ∃ i : Nat, i ≤ ws.length ∧ a.2 = (i : Int) ∧ ws.length - i = m ∧
          ((a.1 = -1 ∧ ∀ j, j < i → rank r j < k) ∨ ∃ b : Nat, a.1 = (b : Int) ∧ b < i ∧ k ≤ rank r b ∧ ∀ j, j < i → k ≤ rank r j → beats r j b = false)) ws.length
        ⟨rfl, 0, by omega, rfl, rfl, .inl ⟨rfl, fun j hj => by omega⟩⟩ ?_
      rintro ⟨best, y⟩ h5 m ⟨rfl, i, hi, rfl, rfl, hinv⟩
      simp only at hinv
      dsimp only [uncur]
      have wi : IntKind.i64.wrap ((i : Int) + 1) = ((i + 1 : Nat) : Int) := by rw [w64] <;> omega
      have eo : 0 + (i : Int).toNat * 1 = i := by simp
      refine ifT_dec (fun hlt2 => ?_) (fun hge2 => ?_)
      · have hil : i < r.length := by omega
        have gi : r[i]? = some (at_ r i) := by rw [List.getElem?_eq_getElem hil, at_some (List.getElem?_eq_getElem hil)]
        rw [eo, wi]
        refine ⟨⟨by omega, by omega⟩, _, read_cell hgR (unats_get gi), ⟨by omega, by omega⟩, _, read_cell hgB (bools_get (givenL_get hil)), ifT_intro (fun hng => ?_) (fun hg => ?_)⟩
        · have hri : k ≤ rank r i := by simp at hng; omega
          rcases hinv with ⟨rfl, hall'⟩ | ⟨b, rfl, hb, hbr, hbest⟩
          · refine ifT_dec (fun _ => ⟨ws.length - (i + 1), by omega, rfl, i + 1, by omega, rfl, rfl, .inr ⟨i, rfl, by omega, hri, fun j hj hjk => ?_⟩⟩) fun h => absurd (show (-1 : Int) < 0 by decide) h
            rcases Nat.lt_or_ge j i with h1 | h1
            · have := hall' j h1; omega
            · have : j = i := by omega
              subst this; exact beats_irrefl _ _
          · have hbl : b < r.length := by omega
            have gb : r[b]? = some (at_ r b) := by rw [List.getElem?_eq_getElem hbl, at_some (List.getElem?_eq_getElem hbl)]
            have eb : 0 + (b : Int).toNat * 1 = b := by simp
            refine ifT_dec (fun h => by omega) fun _ => ⟨⟨by omega, by omega⟩, _, by rw [eb]; exact read_cell hgR (unats_get gb), ?_⟩
            have take : at_ r b ≤ at_ r i → (fun a' h' => ∃ m', m' < ws.length - i ∧ h' = h5 ∧ ∃ i : Nat, i ≤ ws.length ∧ a'.2 = (i : Int) ∧ ws.length - i = m' ∧
                ((a'.1 = -1 ∧ ∀ j, j < i → rank r j < k) ∨ ∃ b : Nat, a'.1 = (b : Int) ∧ b < i ∧ k ≤ rank r b ∧ ∀ j, j < i → k ≤ rank r j → beats r j b = false)) (((i : Int), ((i + 1 : Nat) : Int)) : Int × Int) h5 := fun hle => by
              refine ⟨ws.length - (i + 1), by omega, rfl, i + 1, by omega, rfl, rfl, .inr ⟨i, rfl, by omega, hri, fun j hj hjk => ?_⟩⟩
              rcases Nat.lt_or_ge j i with h1 | h1
              · have h2 := hbest j h1 hjk
                cases h3 : beats r j i with
                | false => rfl
                | true =>
                  rw [beats_iff] at h3
                  cases h6 : beats r j b with
                  | true => rw [h6] at h2; cases h2
                  | false =>
                    have h7 : ¬ (at_ r b < at_ r j ∨ (at_ r j = at_ r b ∧ b < j)) := fun h8 => by rw [beats_iff.2 h8] at h6; cases h6
                    omega
              · have : j = i := by omega
                subst this; exact beats_irrefl _ _
            refine ifT_dec (fun hgt => take (by omega)) fun hle => ifT_intro (fun _ => ⟨⟨by omega, by omega⟩, _, by rw [eb]; exact read_cell hgR (unats_get gb), ifT_dec (fun heq => take (by omega)) fun hne => ?_⟩) fun h => by cases h
            refine ⟨ws.length - (i + 1), by omega, rfl, i + 1, by omega, rfl, rfl, .inr ⟨b, rfl, by omega, hbr, fun j hj hjk => ?_⟩⟩
            rcases Nat.lt_or_ge j i with h1 | h1
            · exact hbest j h1 hjk
            · have : j = i := by omega
              subst this
              cases h3 : beats r j b with
              | false => rfl
              | true => rw [beats_iff] at h3; omega
        · have hri : rank r i < k := by simpa using hg
          refine ⟨ws.length - (i + 1), by omega, rfl, i + 1, by omega, rfl, rfl, ?_⟩
          rcases hinv with ⟨rfl, hall'⟩ | ⟨b, rfl, hb, hbr, hbest⟩
          · refine .inl ⟨rfl, fun j hj => ?_⟩
            rcases Nat.lt_or_ge j i with h1 | h1
            · exact hall' j h1
            · have : j = i := by omega
              subst this; exact hri
          · refine .inr ⟨b, rfl, by omega, hbr, fun j hj hjk => ?_⟩
            rcases Nat.lt_or_ge j i with h1 | h1
            · exact hbest j h1 hjk
            · have : j = i := by omega
              subst this; omega
      · have : i = ws.length := by omega
        subst this
        obtain ⟨b, rfl, hb, hbr, hbest⟩ : ∃ b : Nat, best = (b : Int) ∧ b < ws.length ∧ k ≤ rank r b ∧ ∀ j, j < ws.length → k ≤ rank r j → beats r j b = false := by
          rcases hinv with ⟨_, hall'⟩ | hx
          · exfalso
            obtain ⟨e, he, hre⟩ := rank_surj (rs := r) hkn
            have := hall' e (by omega)
            omega
          · exact hx
        clear hinv wi eo
        have hrank : rank r b = k := best_rank hkn (by omega) hbr fun j hj hjk => hbest j (by omega) hjk
        have hqb : q[b]? = some (at_ q b) := by rw [List.getElem?_eq_getElem (by omega), at_some (List.getElem?_eq_getElem (show b < q.length by omega))]
        have hdb : (dealtK q r k)[b]? = some (at_ q b) := by rw [dealtK_get (by omega), hrank]; simp
        have hqc : at_ q b ≤ c := by
          have := mem_le_sum (List.mem_of_getElem? hqb)
          omega
        have eb : 0 + (b : Int).toNat * 1 = b := by simp
        have ew1 : IntKind.i64.wrap ((at_ q b : Int) + 1) = ((at_ q b + 1 : Nat) : Int) := by rw [w64] <;> omega
        have ew2 : IntKind.i64.wrap (((c - q.sum - k : Nat) : Int) - 1) = ((c - q.sum - (k + 1) : Nat) : Int) := by rw [w64] <;> omega
        have o5 := o4.perm (p1 _ _ _)
        rw [eb, ew2]
        refine ⟨⟨by omega, by omega⟩, _, read_cell (o5.block List.mem_cons_self).1 (nats_get hdb), ⟨by omega, by omega⟩, storeK_one (o5.block List.mem_cons_self).1 (by rw [nats_length, dealtK_length]; omega) ⟨⟨by omega, by omega⟩, ?_⟩⟩
        rw [ew1, nats_set, dealtK_step (by omega) (by omega) hrank]
        have o6 := (o5.change (n' := ws.length) (sz' := 1) (cs' := nats (dealtK q r (k + 1))) (by rw [nats_length, dealtK_length]; omega)).perm (p1 _ _ _)
        refine storeK_one (o6.block List.mem_cons_self).1 (by rw [bools_length, givenL_length]; omega) ⟨c - q.sum - (k + 1), by omega, k + 1, by omega, rfl, rfl, ?_⟩
        rw [bools_set, givenL_step (by omega) hrank]
        exact o6.change (by rw [bools_length, givenL_length]; omega)
    · have hk2 : k = c - q.sum := by omega
      subst hk2
      refine hQ _ _ o4.ext ?_
      have := o4.at_ (sz := 1) (s := ⟨some (i7, 0), ws.length⟩) (cs := nats (dealtK q r (c - q.sum))) (by simp)
      unfold shared
      rw [hall, hq, hr]
      exact this
end
end Go.Proofs.YtfemminjhecocaaGreatDoorVc
-- from LaDivide
namespace Go.Proofs.YtfemminjhecocaaGreatDoorVc
open Go.Proofs.YtfemminjhecocaaGreatDoorLasts
open Go.Proofs.YtfemminjhecocaaGreatDoorShares (at_ qs rs left_ok)
open Go.Proofs.Tryz (prog)
section
variable {I : Calls} {Q : Post} {h : Heap}
end
end Go.Proofs.YtfemminjhecocaaGreatDoorVc
-- from MaSpec2
namespace Go.Proofs.YtfemminjhecocaaGreatDoorVc
open Go.Proofs.Tryz (prog)
section
variable {I : Calls} {Q : Post} {h : Heap}
/-! ### weights by ages -/
theorem specWeightOf (hI : Closed' prog Pm I) {how span age : Int} {n i : Nat} (hi : i < n) (hn : n ≤ 100) (h1 : 1 ≤ age) (h2 : age ≤ span) (h3 : span ≤ 4321440) (hQ : Q [int (wOf how span n i age)] h) :
    I 140 [int how, int span, int i, int n, int age] Q h := by
  obtain ⟨k, hk, e1, e2⟩ := part h1 h2 h3
  have en : IntKind.i64.wrap ((n : Int) - 1) = n - 1 := w64 (by omega) (by omega)
  refine hI.go _ _ (den140 I how span i n age Q) ?_
  refine joinK_intro (fun (b : Bool) h3 => h3 = h ∧ (b = true ↔ ((how = 1 ∧ 0 < i) ∨ (how = 2 ∧ i + 1 < n)))) ?_ ?_
  · rintro b7 h3 ⟨rfl, hb7⟩
    refine ifT_intro (fun hb => ?_) fun hb => ?_
    · have e : wOf how span n i age = 0 := by unfold wOf; rw [if_pos (hb7.1 hb)]
      rw [e] at hQ; exact hQ
    have hno : ¬ ((how = 1 ∧ 0 < i) ∨ (how = 2 ∧ i + 1 < n)) := fun h => by rw [hb7.2 h] at hb; cases hb
    refine joinK_intro (fun (b : Bool) h4 => h4 = h3 ∧ (b = true ↔ (how = 4 ∧ (i = 0 ∨ i + 1 = n) ∧ 2 < n))) ?_ ?_
    · rintro b8 h4 ⟨rfl, hb8⟩
      refine ifT_intro (fun hb => ?_) fun hb => ?_
      · have e : wOf how span n i age = 2 := by unfold wOf; rw [if_neg hno, if_pos (hb8.1 hb)]
        rw [e] at hQ; exact hQ
      have hno2 : ¬ (how = 4 ∧ (i = 0 ∨ i + 1 = n) ∧ 2 < n) := fun h => by rw [hb8.2 h] at hb; cases hb
      refine ifT_dec (fun h5 => ?_) fun h5 => ifT_dec (fun h6 => ?_) fun h6 => ?_
      · have e : wOf how span n i age = (i : Int) + 1 := by unfold wOf; rw [if_neg hno, if_neg hno2, if_pos h5]
        rw [e] at hQ
        rw [w64 (by omega) (by omega)]
        exact hQ
      · have e : wOf how span n i age = 2 ^ (18 - k) := by unfold wOf; rw [if_neg hno, if_neg hno2, if_neg h5, if_pos h6, e1]; rfl
        rw [e] at hQ
        rw [e2]
        refine ⟨by omega, loopK_intro (fun (a : Int × Int) h' m => h' = h4 ∧ ∃ j : Nat, j ≤ k ∧ a = (2 ^ (18 - j), (j : Int)) ∧ k - j = m) k ⟨rfl, 0, by omega, rfl, rfl⟩ ?_⟩
        rintro a h' m ⟨rfl, j, hj, rfl, rfl⟩
        dsimp only [uncur]
        refine ifT_dec (fun hlt => ⟨k - (j + 1), by omega, rfl, j + 1, by omega, ?_, rfl⟩) fun hge => ?_
        · rw [halve j (by omega), w64 (by omega) (by omega)]; rfl
        · have : j = k := by omega
          subst this
          exact hQ
      · have e : wOf how span n i age = 1 := by unfold wOf; rw [if_neg hno, if_neg hno2, if_neg h5, if_neg h6]
        rw [e] at hQ; exact hQ
    · intro j hj
      refine ifT_dec (fun h4 => ifT_dec (fun h5 => ifT_dec (fun h6 => hj _ _ ⟨rfl, ?_⟩) fun h6 => hj _ _ ⟨rfl, ?_⟩) fun h5 => hj _ _ ⟨rfl, ?_⟩) fun h4 => hj _ _ ⟨rfl, ?_⟩
      · simp; omega
      · rw [en]; simp; omega
      · simp; omega
      · simp; omega
  · intro j hj
    refine ifT_dec (fun h4 => ifT_dec (fun h5 => hj _ _ ⟨rfl, ?_⟩) fun h5 => ifT_dec (fun h6 => hj _ _ ⟨rfl, ?_⟩) fun h6 => hj _ _ ⟨rfl, ?_⟩) fun h4 => ifT_dec (fun h6 => hj _ _ ⟨rfl, ?_⟩) fun h6 => hj _ _ ⟨rfl, ?_⟩
    · simp; omega
    · rw [en]; simp; omega
    · simp; omega
    · rw [en]; simp; omega
    · simp; omega
end
end Go.Proofs.YtfemminjhecocaaGreatDoorVc
-- from MaSpec3
namespace Go.Proofs.YtfemminjhecocaaGreatDoorVc
open Go.Proofs.YtfemminjhecocaaGreatDoorLasts (shared)
open Go.Proofs.Tryz (prog)
section
variable {I : Calls} {Q : Post} {h : Heap}
theorem specWeights8 (hI : Closed' prog Pm I) {how span : Int} {s : Sl} {xs : List Int} (hs : At h 1 s (ints xs)) (hQe : ∀ h', Ext h h' → errA how span xs ≠ 0 → Q [.one (.slice 1 ⟨none, 0⟩), int (errA how span xs)] h')
    (hQ : errA how span xs = 0 → ∀ s' h', Ext h h' → At h' 1 s' (ints (wList how span xs)) → Q [.one (.slice 1 s'), int 0] h') : I 98 [int how, int span, .one (.slice 1 s)] Q h := by
  have hl : s.len = xs.length := by rw [hs.len1, ints_length]
  have hwl : (wList how span xs).length = xs.length := by simp [wList]
  refine hI.go _ _ (den98 I how span s Q) ?_
  have bad : ∀ h' e, Ext h h' → e ≠ 0 → errA how span xs = e → Q [.one (.slice 1 ⟨none, 0⟩), int e] h' := fun h' e hx he h1 => by rw [← h1]; exact hQe h' hx (by rw [h1]; exact he)
  refine joinK_intro (fun (b : Bool) h' => h' = h ∧ (b = true ↔ ¬ (1 ≤ how ∧ how ≤ 6))) ?_ fun j hj => ifT_dec (fun h => hj _ _ ⟨rfl, by simp; omega⟩) fun h => hj _ _ ⟨rfl, by simp; omega⟩
  rintro b h' ⟨rfl, hb⟩
  refine ifT_intro (fun hbt => bad _ 4 (Ext.refl _) (by decide) (by unfold errA; rw [if_pos (hb.1 hbt)])) fun hbf => ?_
  have g1 : 1 ≤ how ∧ how ≤ 6 := by
    by_cases h : 1 ≤ how ∧ how ≤ 6
    · exact h
    · rw [hb.2 h] at hbf; cases hbf
  refine joinK_intro (fun (b : Bool) h'' => h'' = h' ∧ (b = true ↔ ¬ (1 ≤ span ∧ span ≤ 4321440))) ?_ fun j hj => ifT_dec (fun h => hj _ _ ⟨rfl, by simp; omega⟩) fun h => hj _ _ ⟨rfl, by simp; omega⟩
  rintro b2 h'' ⟨rfl, hb2⟩
  refine ifT_intro (fun hbt => bad _ 1 (Ext.refl _) (by decide) (by unfold errA; rw [if_neg (by simpa using g1), if_pos (hb2.1 hbt)])) fun hbf2 => ?_
  have g2 : 1 ≤ span ∧ span ≤ 4321440 := by
    by_cases h : 1 ≤ span ∧ span ≤ 4321440
    · exact h
    · rw [hb2.2 h] at hbf2; cases hbf2
  rw [hl]
  refine ifT_dec (fun hgt => bad _ 2 (Ext.refl _) (by decide) ?_) fun hgt => ?_
  · unfold errA; rw [if_neg (by simpa using g1), if_neg (by simpa using g2), if_pos (by omega)]
  have e0 : errA how span xs = scan span none xs := by unfold errA; rw [if_neg (by simpa using g1), if_neg (by simpa using g2), if_neg (by omega)]
  refine loopK_intro (fun (a : Sl × Int) h3 m => ∃ i : Nat, i ≤ xs.length ∧ a.2 = (i : Int) ∧ xs.length - i = m ∧ scan span none xs = scan span (prev xs i) (xs.drop i) ∧ Own h'' h3 1 a.1 (ints ((wList how span xs).take i))) xs.length
    ⟨0, by omega, rfl, rfl, rfl, Own.nil _ _⟩ ?_
  rintro ⟨l, y⟩ h3 m ⟨i, hi, rfl, rfl, hsc, o⟩
  dsimp only [uncur]
  refine ifT_dec (fun hlt => ⟨⟨by omega, by omega⟩, ?_⟩) (fun hge => ?_)
  · have hx := List.getElem?_eq_getElem (show i < xs.length by omega)
    generalize xs[i] = x at hx
    rw [scan_step hx] at hsc
    have hs3 := o.ext.at_ hs
    refine hs3.cell (ints_get hx) fun bb o' hr => ⟨x, hr, ?_⟩
    refine joinK_intro (fun (b : Bool) h4 => h4 = h3 ∧ (b = true ↔ ¬ (1 ≤ x ∧ x ≤ span))) ?_ fun j hj => ifT_dec (fun h => hj _ _ ⟨rfl, by simp; omega⟩) fun h => hj _ _ ⟨rfl, by simp; omega⟩
    rintro b3 h4 ⟨rfl, hb3⟩
    refine ifT_intro (fun hbt => bad _ 1 o.ext (by decide) (by rw [e0, hsc, if_pos (hb3.1 hbt)])) fun hbf3 => ?_
    have gx : 1 ≤ x ∧ x ≤ span := by
      by_cases h : 1 ≤ x ∧ x ≤ span
      · exact h
      · rw [hb3.2 h] at hbf3; cases hbf3
    rw [if_neg (by simpa using gx)] at hsc
    refine joinK_intro (fun (b : Bool) h5 => h5 = h4 ∧ (b = true ↔ ((prev xs i).any fun q => decide (q < x)) = true)) ?_ ?_
    · rintro b4 h5 ⟨rfl, hb4⟩
      refine ifT_intro (fun hbt => bad _ 7 o.ext (by decide) (by rw [e0, hsc, if_pos (hb4.1 hbt)])) fun hbf4 => ?_
      rw [if_neg (fun h => by rw [hb4.2 h] at hbf4; cases hbf4)] at hsc
      refine specWeightOf hI (show i < xs.length by omega) (by omega) gx.1 gx.2 g2.2 ⟨_, rfl, ?_⟩
      have hol := o.len
      rw [ints_length, List.length_take, hwl] at hol
      change l.len * 1 = _ at hol
      refine appendTo_own (m := 0) o (by rfl) (by omega) fun s' h6 o3 hl3 => ⟨xs.length - (i + 1), by omega, i + 1, by omega, ?_, rfl, hsc, by rw [wList_take hx]; simpa [ints] using o3⟩
      show IntKind.i64.wrap ((i : Int) + 1) = _
      rw [w64] <;> omega
    · intro j hj
      refine ifT_dec (fun hpos => ?_) fun hz => hj _ _ ⟨rfl, ?_⟩
      · have wj : IntKind.i64.wrap ((i : Int) - 1) = ((i - 1 : Nat) : Int) := by rw [w64] <;> omega
        rw [wj]
        have hp := List.getElem?_eq_getElem (show i - 1 < xs.length by omega)
        generalize xs[i - 1] = p at hp
        have epr : prev xs i = some p := by unfold prev; rw [if_neg (by omega), hp]
        refine ⟨⟨by omega, by omega⟩, hs3.cell (ints_get hp) fun bb o'' hr => ⟨p, hr, hj _ _ ⟨rfl, ?_⟩⟩⟩
        rw [epr]
        simp
      · have hi0 : i = 0 := by omega
        subst hi0
        simp [prev]
  · have : i = xs.length := by omega
    subst this
    rw [List.drop_length] at hsc
    have e : errA how span xs = 0 := by rw [e0, hsc]; rfl
    have et : (wList how span xs).take xs.length = wList how span xs := List.take_of_length_le (by omega)
    rw [et] at o
    exact hQ e _ _ o.ext o.at_
end
end Go.Proofs.YtfemminjhecocaaGreatDoorVc
-- GsOld2
-- from SeSpec1
namespace Go.Proofs.YtfemminjhecocaaGreatDoorVc
open Go.Proofs.Tryz (prog)
section
variable {I : Calls} {Q : Post} {h : Heap}
/-! ### the stream -/
/-! ### codes -/
/-! ### looking a string up -/
end
end Go.Proofs.YtfemminjhecocaaGreatDoorVc
-- from CcSpec2
namespace Go.Proofs.YtfemminjhecocaaGreatDoorVc
open Go.Proofs.Tryz (prog)
section
variable {I : Calls} {Q : Post} {h : Heap}
end
end Go.Proofs.YtfemminjhecocaaGreatDoorVc
-- from CcSpec4
namespace Go.Proofs.YtfemminjhecocaaGreatDoorVc
open Go.Proofs.Tryz (prog)
section
variable {I : Calls} {Q : Post} {h : Heap}
end
end Go.Proofs.YtfemminjhecocaaGreatDoorVc
-- from CnSpec
namespace Go.Proofs.YtfemminjhecocaaGreatDoorVc
open Go.Proofs.Tryz (prog)
section
variable {I : Calls} {Q : Post} {h : Heap}
end
end Go.Proofs.YtfemminjhecocaaGreatDoorVc
-- from CsSort
namespace Go.Proofs.YtfemminjhecocaaGreatDoorVc
open Go.Proofs.Tryz (prog)
section
variable {I : Calls} {Q : Post} {h : Heap}
end
end Go.Proofs.YtfemminjhecocaaGreatDoorVc
-- from CsSpec1
namespace Go.Proofs.YtfemminjhecocaaGreatDoorVc
open Go.Proofs.Tryz (prog)
section
variable {I : Calls} {Q : Post} {h : Heap}
/-! ### the stream's block, among one's own -/
end
end Go.Proofs.YtfemminjhecocaaGreatDoorVc
-- from SpSpec1
namespace Go.Proofs.YtfemminjhecocaaGreatDoorVc
open Go.Proofs.Tryz (prog)
section
variable {I : Calls} {Q : Post} {h : Heap}
/-! ### weights -/
end
end Go.Proofs.YtfemminjhecocaaGreatDoorVc
-- from QfSpec3
namespace Go.Proofs.YtfemminjhecocaaGreatDoorVc
open Go.Proofs.Tryz (prog)
section
variable {I : Calls} {Q : Post} {h : Heap}
end
end Go.Proofs.YtfemminjhecocaaGreatDoorVc
-- from SeSpec3
namespace Go.Proofs.YtfemminjhecocaaGreatDoorVc
open Go.Proofs.Tryz (prog)
section
variable {I : Calls} {Q : Post} {h : Heap}
/-- Turned about, in place. -/
theorem spec141 (hI : Closed' prog Pm I) {blk : Nat} {xs : List Int} (hb : h blk = some (.cells false (ints xs))) (hlen : xs.length < 1000) (hQ : Q [] (h.set blk (.cells false (ints xs.reverse)))) :
    I 141 [.one (.slice 1 ⟨some (blk, 0), xs.length⟩)] Q h := by
  refine hI.go _ _ (den141 I _ Q) ?_
  have e0 : IntKind.i64.wrap (((xs.length : Nat) : Int) - 1) = ((xs.length : Nat) : Int) - 1 := by rw [w64] <;> omega
  unfold vc141
  rw [e0]
  refine loopK_intro (fun (a : Int × Int) h' m => ∃ i : Nat, 2 * i ≤ xs.length + 1 ∧ a = ((i : Int), (xs.length : Int) - 1 - i) ∧ m = xs.length - i ∧ ∃ ys : List Int, ys.length = xs.length ∧ (∀ j, j < xs.length → ys[j]? = if j < i ∨ xs.length - i ≤ j then xs[xs.length - 1 - j]? else xs[j]?) ∧ h' = h.set blk (.cells false (ints ys))) xs.length
    ⟨0, by omega, by simp, rfl, xs, rfl, fun j hj => by rw [if_neg (by omega)], (set_self hb).symm⟩ ?_
  rintro a h' m ⟨i, hi, rfl, rfl, ys, hyl, hys, rfl⟩
  dsimp only [uncur]
  refine ifT_dec (fun hlt => ⟨⟨by omega, by first | omega | (simp; omega)⟩, ?_⟩) fun hge => ?_
  · have hj0 : (xs.length : Int) - 1 - i = ((xs.length - 1 - i : Nat) : Int) := by omega
    rw [hj0]
    have h1 : i < ys.length := by omega
    have h2 : xs.length - 1 - i < ys.length := by omega
    have hy1 := List.getElem?_eq_getElem h1
    have hy2 := List.getElem?_eq_getElem h2
    generalize ys[i] = p at hy1
    generalize ys[xs.length - 1 - i] = q at hy2
    have rd : ∀ (g : Heap) (zs : List Int) (k : Nat) (v : Int), g blk = some (.cells false (ints zs)) → zs[k]? = some v → g.read blk (0 + ((k : Nat) : Int).toNat * 1) 1 = some [.int .i64 v] := fun g zs k v hg hz => by
      rw [Int.toNat_natCast, Nat.mul_one, Nat.zero_add]
      exact read_cell hg (ints_get hz)
    refine derefK_intro rfl ⟨q, rd _ _ _ _ (set_eq _ _ _) hy2, ⟨by omega, by first | omega | (simp; omega)⟩, derefK_intro rfl ⟨p, rd _ _ _ _ (set_eq _ _ _) hy1, ⟨by omega, by first | omega | (simp; omega)⟩, derefK_intro rfl ?_⟩⟩
    rw [Int.toNat_natCast, Nat.mul_one, Nat.zero_add]
    refine storeK_one (set_eq _ _ _) (by rw [ints_length]; omega) ⟨⟨by omega, by first | omega | (simp; omega)⟩, derefK_intro rfl ?_⟩
    rw [Int.toNat_natCast, Nat.mul_one, Nat.zero_add]
    refine storeK_one (set_eq _ _ _) (by rw [List.length_set, ints_length]; omega) ?_
    rw [set_set, set_set, ints_set, ints_set]
    refine ⟨xs.length - (i + 1), by omega, i + 1, by omega, ?_, rfl, (ys.set i q).set (xs.length - 1 - i) p, by simp [hyl], fun j hj => ?_, rfl⟩
    · rw [w64 (n := (i : Int) + 1) (by omega) (by omega), w64 (by omega) (by omega)]
      simp only [Prod.mk.injEq]
      omega
    · have hp := hys i (by omega)
      have hq := hys (xs.length - 1 - i) (by omega)
      rw [if_neg (by omega)] at hp hq
      rw [List.getElem?_set, List.getElem?_set]
      by_cases hj1 : j = xs.length - 1 - i
      · rw [if_pos hj1.symm, if_pos (by rw [List.length_set]; omega), if_pos (by omega), hj1]
        have e : xs.length - 1 - (xs.length - 1 - i) = i := by omega
        rw [e, ← hp, hy1]
      · rw [if_neg (fun e => hj1 e.symm)]
        by_cases hj2 : j = i
        · subst hj2
          rw [if_pos rfl, if_pos (by omega), if_pos (by omega), ← hq, hy2]
        · rw [if_neg (fun e => hj2 e.symm), hys j hj]
          by_cases hc : j < i ∨ xs.length - i ≤ j
          · rw [if_pos hc, if_pos (by omega)]
          · rw [if_neg hc, if_neg (by omega)]
  · have e : ys = xs.reverse := by
      apply List.ext_getElem?
      intro j
      rcases Nat.lt_or_ge j xs.length with hj | hj
      · rw [List.getElem?_reverse hj, hys j hj]
        by_cases hc : j < i ∨ xs.length - i ≤ j
        · rw [if_pos hc]
        · rw [if_neg hc]
          congr 1
          omega
      · rw [List.getElem?_eq_none (by omega), List.getElem?_eq_none (by rw [List.length_reverse]; exact hj)]
    rw [e]
    exact hQ
theorem spec99 (hI : Closed' prog Pm I) {s : Sl} {xs : List Sent} {g : Gain} {w : Int} (hs : At h 4 s (rows sentC xs)) (hlen : xs.length < 1000) (hm : ∀ x ∈ xs, moment x.at_) (hg : moment g.at_)
    (hQ : ∀ s' h', Ext h h' → At h' 1 s' (nats (pathL xs g w)) → Q [.one (.slice 1 s')] h') : I 99 [.one (.slice 4 s), .agg (gainC g), int w] Q h := by
  have hl : s.len = xs.length := hs.rowsLen sentC_length (by decide)
  refine hI.go _ _ (den99 I s g.id g.person g.at_ g.cents w Q) ?_
  have e0 : IntKind.i64.wrap (((s.len : Nat) : Int) - 1) = ((xs.length : Nat) : Int) - 1 := by rw [hl, w64] <;> omega
  unfold vc99
  rw [e0]
  refine loopK_intro (fun (a : Sl × Int) h'' m => ∃ c : List Nat, m ≤ xs.length ∧ a.2 = (m : Int) - 1 ∧ (hits xs g w xs.length).reverse = c ++ (hits xs g w m).reverse ∧ c.length ≤ 12 ∧ Own h h'' 1 a.1 (nats c)) xs.length
    ⟨[], by omega, rfl, rfl, by decide, Own.nil _ _⟩ ?_
  rintro ⟨l, y⟩ h2 m ⟨c, hk, rfl, hc, hcl, o⟩
  dsimp only [uncur]
  have hol := o.len
  rw [nats_length, Nat.mul_one] at hol
  change l.len = _ at hol
  -- it ends
  have fin : (m = 0 ∨ c.length = 12) → I 141 [.one (.slice 1 l)] (fun cs23 h24 => (cs23 = []) ∧ Q [.one (.slice 1 l)] h24) h2 := fun hend => by
    have hp : pathL xs g w = c.reverse := by
      have hall : hits xs g w xs.length = (hits xs g w m) ++ c.reverse := by
        have := congrArg List.reverse hc
        simpa using this
      unfold pathL
      rw [hall, List.length_append, List.length_reverse]
      rcases hend with rfl | h12
      · have : hits xs g w 0 = [] := rfl
        rw [this, List.nil_append, List.length_nil]
        have : 0 + c.length - 12 = 0 := by omega
        rw [this]; rfl
      · rw [h12, Nat.add_sub_cancel, List.drop_left]
    rcases o.lies with ⟨ha, hx⟩ | ⟨j, ha, hj, hj'⟩
    · have hc0 : c = [] := by
        have : c.length = 0 := by simpa [nats] using congrArg List.length hx
        exact List.length_eq_zero_iff.1 this
      subst hc0
      obtain ⟨la, ln⟩ := l
      simp only at ha hol
      subst ha
      subst hol
      refine hI.go _ _ (den141 I _ _) ?_
      refine loopK_intro (fun (a : Int × Int) h' m => h' = h2 ∧ a = (0, -1)) 0 ⟨rfl, rfl⟩ ?_
      rintro a h' m ⟨rfl, rfl⟩
      refine ifT_dec (fun h => by omega) fun _ => ⟨rfl, hQ _ _ o.ext ?_⟩
      rw [hp]
      exact ⟨rfl, .inl rfl⟩
    · obtain ⟨la, ln⟩ := l
      simp only at ha hol
      subst ha
      have hln : ln = (c.map fun n : Nat => (n : Int)).length := by simpa using hol
      rw [hln]
      rw [nats_ints] at hj'
      refine spec141 hI hj' (by simp; omega) ⟨rfl, hQ _ _ (o.ext.set hj) ?_⟩
      rw [hp, nats_ints, List.map_reverse]
      refine ⟨by rw [ints_length]; simp, .inr ?_⟩
      show (h2.set j _).read j 0 _ = _
      rw [read_block (set_eq _ _ _) (by rw [ints_length]; simp)]
      simp [ints, List.take_of_length_le]
  refine joinK_intro (fun (b : Bool) h'' => h'' = h2 ∧ (b = true ↔ 0 < m ∧ c.length < 12)) ?_ fun j hj => ifT_dec (fun h1 => hj _ _ ⟨rfl, by simp; omega⟩) fun h1 => hj _ _ ⟨rfl, by simp; omega⟩
  rintro b h3 ⟨rfl, hb⟩
  refine ifT_intro (fun hbt => ?_) fun hbf => fin (by
    have : ¬ (0 < m ∧ c.length < 12) := fun h => by rw [hb.2 h] at hbf; cases hbf
    omega)
  obtain ⟨h0, h12⟩ := hb.1 hbt
  have ei : (m : Int) - 1 = ((m - 1 : Nat) : Int) := by omega
  rw [ei]
  have hx := List.getElem?_eq_getElem (show m - 1 < xs.length by omega)
  have hxm : xs[m - 1] ∈ xs := List.getElem_mem _
  generalize xs[m - 1] = x at hx hxm
  have hst := hits_step (g := g) (w := w) hx
  have em : m - 1 + 1 = m := by omega
  rw [em] at hst
  have hmx := hm x hxm
  unfold moment at hmx hg
  have ed : IntKind.i64.wrap (g.at_ - x.at_) = g.at_ - x.at_ := by rw [w64] <;> omega
  have ew : IntKind.i64.wrap (((m - 1 : Nat) : Int) - 1) = ((m - 1 : Nat) : Int) - 1 := by rw [w64] <;> omega
  rw [ew]
  have no : before g w x = false → ∃ m', m' < m ∧ ∃ c : List Nat, m' ≤ xs.length ∧ ((l, ((m - 1 : Nat) : Int) - 1) : Sl × Int).2 = (m' : Int) - 1 ∧ (hits xs g w xs.length).reverse = c ++ (hits xs g w m').reverse ∧ c.length ≤ 12 ∧ Own h h3 1 ((l, ((m - 1 : Nat) : Int) - 1) : Sl × Int).1 (nats c) := fun hbb => by
    rw [hbb] at hst
    exact ⟨m - 1, by omega, c, by omega, rfl, by rw [hc, hst]; simp, hcl, o⟩
  have hsx := o.ext.at_ hs
  refine ⟨⟨by omega, by omega⟩, hsx.rowCell (j := 3) sentC_length (by decide) hx rfl fun bb o' hr => ⟨x.at_, hr, ⟨by omega, by omega⟩, hsx.rowCell (j := 1) sentC_length (by decide) hx rfl fun bb o' hr => ⟨x.person, hr, ?_⟩⟩⟩
  rw [ed]
  refine ifT_dec (fun h1 => ifT_dec (fun h4 => ifT_dec (fun h5 => ?_) fun h5 => no ?_) fun h4 => no ?_) fun h1 => no ?_
  · have hbb : before g w x = true := by
      unfold before
      have : x.at_ < g.at_ := by omega
      simp [h1, this, h5]
    rw [hbb, if_pos rfl] at hst
    refine appendTo_own (m := 0) o (by rfl) (by omega) fun s' h4 o3 hl3 => ⟨m - 1, by omega, c ++ [m - 1], by omega, rfl, by rw [hc, hst]; simp, by simp; omega, by simpa [nats] using o3⟩
  · unfold before; simp [h5]
  · unfold before
    have : ¬ x.at_ < g.at_ := by omega
    simp [this]
  · unfold before; simp [h1]
end
end Go.Proofs.YtfemminjhecocaaGreatDoorVc
