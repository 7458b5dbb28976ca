/- Contracts, turned by a program to the numbers of this seat. -/
import Derived.Test.YtohdelegimcceaaVcMaVc
import Derived.Lib.Mul64
import Derived.Test.YtohdelegimcceaaVcKnuth
import Derived.Test.YtohdelegimcceaaVcSortList
import Derived.Test.YtohdelegimcceaaVcOwns
import Derived.Test.YtohdelegimcceaaVcLaMath
set_option linter.unusedSimpArgs false
set_option linter.unusedVariables false
-- from CcSpec1
namespace Go.Proofs.YtohdelegimcceaaVc
open Go.Proofs.Try (prog)
abbrev Pm : Prim := fun _ _ _ _ => False
theorem pm_sound : Sound prog Pm := sound_none prog
abbrev int (n : Int) : V := .one (.int .i64 n)
abbrev u64 (n : Int) : V := .one (.int .u64 n)
abbrev str (s : ByteArray) : V := .one (.str s)
abbrev boo (b : Bool) : V := .one (.bool b)
def ints (zs : List Int) : List Cell := zs.map (.int .i64)
section
variable {I : Calls} {Q : Post} {h : Heap}
/-! ### the stream -/
theorem spec32 (hI : Closed' prog Pm I) {x n : Int} (h1 : 1 ≤ n) (h2 : n < 4611686018427387904) (hQ : ∀ v, 0 ≤ v → v < n → Q [int v] h) : I 32 [int x, int n] Q h := by
  refine hI.go _ _ (den32 I x n Q) ?_
  refine ifT_dec (fun h3 => by omega) (fun h3 => ⟨by omega, ifT_dec (fun h4 => ?_) (fun h4 => ?_)⟩)
  · have h5 := Int.lt_tmod_of_pos x (show 0 < n by omega)
    have h6 : IntKind.i64.wrap (x.tmod n + n) = x.tmod n + n := w64 (by omega) (by omega)
    rw [h6]
    exact hQ _ (by omega) (by omega)
  · exact hQ _ (by omega) (Int.tmod_lt_of_pos x (by omega))
/-- A stream at place i: its numbers, and how many have been asked for. -/
structure Strm (h : Heap) (i : Nat) (l : Sl) (zs : List Int) (t : Nat) : Prop where
  cell : h i = some (.cells false [.slice 1 l, .int .i64 t])
  lies : At h 1 l (ints zs)
  apart : zs = [] ∨ ∀ b o, l.a = some (b, o) → b ≠ i
  small : t < 1000000000
abbrev strm (l : Sl) (t : Nat) : Obj := .cells false [.slice 1 l, .int .i64 t]
theorem Strm.at_ {h h' : Heap} {i : Nat} {l : Sl} {zs : List Int} {t : Nat} (S : Strm h i l zs t) (hf : ∀ j o, j ≠ i → h j = some o → h' j = some o) : At h' 1 l (ints zs) := by
  refine ⟨S.lies.1, ?_⟩
  rcases S.lies.2 with h1 | h1
  · exact .inl h1
  · rcases S.apart with h2 | h2
    · left; rw [h2]; rfl
    · right
      unfold Heap.sl at h1 ⊢
      cases ha : l.a with
      | none => rw [ha] at h1; exact h1
      | some p =>
        obtain ⟨b, o⟩ := p
        rw [ha] at h1
        have hb := h2 b o ha
        unfold Heap.read at h1 ⊢
        simp only at h1 ⊢
        cases hh : h b with
        | none => rw [hh] at h1; cases h1
        | some ob => rw [hf b ob hb hh]; rw [hh] at h1; exact h1
theorem Strm.frame {h h' : Heap} {i : Nat} {l : Sl} {zs : List Int} {t t' : Nat} (S : Strm h i l zs t) (hc : h' i = some (strm l t')) (hf : ∀ j o, j ≠ i → h j = some o → h' j = some o) (ht : t' < 1000000000) : Strm h' i l zs t' :=
  ⟨hc, S.at_ hf, S.apart, ht⟩
theorem Strm.next {h : Heap} {i : Nat} {l : Sl} {zs : List Int} {t : Nat} (S : Strm h i l zs t) (ht : t + 1 < 1000000000) : Strm (h.set i (strm l (t + 1))) i l zs (t + 1) :=
  S.frame (set_eq _ _ _) (fun j o hj hh => by rw [set_ne _ _ hj]; exact hh) ht
theorem Strm.ext {h h' : Heap} {i : Nat} {l : Sl} {zs : List Int} {t : Nat} (S : Strm h i l zs t) (he : Ext h h') : Strm h' i l zs t :=
  S.frame (he _ _ S.cell) (fun j o _ hh => he _ _ hh) S.small
theorem spec17 (hI : Closed' prog Pm I) {i : Nat} {l : Sl} {zs : List Int} {t : Nat} {n : Int} (S : Strm h i l zs t) (h1 : 1 ≤ n) (h2 : n < 4611686018427387904)
    (hQ : ∀ v, 0 ≤ v → v < n → Q [int v] (h.set i (strm l (t + 1)))) : I 17 [.one (.ptr (some (i, 0))), int n] Q h := by
  have ht := S.small
  have hw : IntKind.i64.wrap ((t : Int) + 1) = ((t + 1 : Nat) : Int) := by rw [w64] <;> omega
  have hw2 : IntKind.i64.wrap (((t + 1 : Nat) : Int) - 1) = t := by rw [w64] <;> omega
  have hc' : (h.set i (strm l (t + 1))) i = some (strm l (t + 1)) := set_eq _ _ _
  have S' : At (h.set i (strm l (t + 1))) 1 l (ints zs) := S.at_ fun j o hj hh => by rw [set_ne _ _ hj]; exact hh
  have r0 : ∀ {o : Nat}, o = 0 → (h.set i (strm l (t + 1))).read i o 1 = some [.slice 1 l] := fun e => by subst e; exact read_cell hc' rfl
  have r1 : ∀ {o : Nat}, o = 1 → (h.set i (strm l (t + 1))).read i o 1 = some [.int .i64 ((t + 1 : Nat) : Int)] := fun e => by subst e; exact read_cell hc' rfl
  refine hI.go _ _ (den17 I (some (i, 0)) n Q) ?_
  refine derefK_intro rfl ⟨t, read_cell S.cell rfl, derefK_intro rfl (storeK_one S.cell (by simp) ?_)⟩
  rw [hw]
  show derefK _ _ (h.set i (strm l (t + 1)))
  refine derefK_intro rfl ⟨l, r0 rfl, ifT_dec (fun h3 => ?_) (fun h3 => ?_)⟩
  · refine derefK_intro rfl ⟨_, r1 rfl, spec32 hI h1 h2 fun v h4 h5 => ⟨v, rfl, hQ v h4 h5⟩⟩
  · have hp : 0 < (l.len : Int) := by omega
    have hm := Int.tmod_lt_of_pos (t : Int) hp
    have hm0 : 0 ≤ (t : Int).tmod l.len := Int.tmod_nonneg _ (by omega)
    refine derefK_intro rfl ⟨_, r1 rfl, derefK_intro rfl ⟨l, r0 rfl, h3, derefK_intro rfl ⟨_, r1 rfl, derefK_intro rfl ⟨l, r0 rfl, h3, derefK_intro rfl ⟨l, r0 rfl, ?_⟩⟩⟩⟩⟩
    rw [hw2]
    refine ⟨⟨hm0, hm⟩, S'.one hm0 hm fun b o c hc hr => ?_⟩
    simp only [ints, List.getElem?_map] at hc
    cases hz : zs[((t : Int).tmod l.len).toNat]? with
    | none => rw [hz] at hc; cases hc
    | some z =>
      rw [hz] at hc
      cases hc
      exact ⟨z, hr, spec32 hI (by decide) (by decide) fun w _ _ => ⟨w, rfl, spec32 hI h1 h2 fun v h4 h5 => ⟨v, rfl, hQ v h4 h5⟩⟩⟩
/-- One of some numbers. -/
theorem spec5 (hI : Closed' prog Pm I) {i : Nat} {l : Sl} {zs : List Int} {t : Nat} {s : Sl} {xs : List Int} (S : Strm h i l zs t) (hs : At (h.set i (strm l (t + 1))) 1 s (ints xs)) (h1 : xs ≠ []) (h2 : xs.length < 1000)
    (hQ : ∀ v ∈ xs, Q [int v] (h.set i (strm l (t + 1)))) : I 5 [.one (.ptr (some (i, 0))), .one (.slice 1 s)] Q h := by
  have hl : s.len = xs.length := by simpa [ints] using hs.1
  have hpos := List.length_pos_iff.2 h1
  refine hI.go _ _ (den5 I (some (i, 0)) s Q) ?_
  refine spec17 hI S (by omega) (by omega) fun v h3 h4 => ⟨v, rfl, ⟨h3, h4⟩, hs.one h3 h4 fun b o c hc hr => ?_⟩
  simp only [ints, List.getElem?_map] at hc
  cases hz : xs[v.toNat]? with
  | none => rw [hz] at hc; cases hc
  | some z =>
    rw [hz] at hc
    cases hc
    exact ⟨z, hr, hQ z (List.mem_of_getElem? hz)⟩
/-! ### codes -/
theorem pow31_le {n : Nat} (h : n ≤ 11) : 31 ^ n ≤ 25408476896404831 := by
  have : 31 ^ n ≤ 31 ^ 11 := Nat.pow_le_pow_right (by decide) h
  exact this
/-! ### looking a string up -/
def strs (l : List ByteArray) : List Cell := l.map .str
end
end Go.Proofs.YtohdelegimcceaaVc
-- from CcSpec2
namespace Go.Proofs.YtohdelegimcceaaVc
open Go.Proofs.Try (prog)
section
variable {I : Calls} {Q : Post} {h : Heap}
theorem shr32 (a : Nat) : shr .u64 (a : Int) 32 = ((a / 4294967296 : Nat) : Int) := shr_nat a 32 .u64 rfl (by decide)
theorem mask32 (a : Nat) (ha : a < 18446744073709551616) : IntKind.u64.wrap ((BitVec.ofInt 64 (a : Int) &&& BitVec.ofInt 64 4294967295).toNat : Int) = ((a % 4294967296 : Nat) : Int) := and_mask a ha
theorem wN (a : Nat) (ha : a < 18446744073709551616) : IntKind.u64.wrap (a : Int) = (a : Int) := wu64 (by omega) (by omega)
theorem wM (a : Nat) : IntKind.u64.wrap (a : Int) = ((a % 18446744073709551616 : Nat) : Int) := by rw [IntKind.wrap_u64]; omega
theorem mN (a b : Nat) : (a : Int) * (b : Int) = ((a * b : Nat) : Int) := (Int.natCast_mul a b).symm
theorem aN (a b : Nat) : (a : Int) + (b : Int) = ((a + b : Nat) : Int) := (Int.natCast_add a b).symm
theorem spec41 (hI : Closed' prog Pm I) {x y : Nat} (hx : x < 18446744073709551616) (hy : y < 18446744073709551616)
    (hQ : Q [u64 ((x * y / 18446744073709551616 : Nat) : Int), u64 ((x * y % 18446744073709551616 : Nat) : Int)] h) : I 41 [u64 x, u64 y] Q h := by
  refine hI.go _ _ (den41 I x y Q) ?_
  obtain ⟨bd, bt, bw, hhi⟩ := Lib.mul64_hi x y hx hy
  have ba := Lib.half_mul_le (a := x / 4294967296) (b := y / 4294967296) (by omega) (by omega)
  have bb := Lib.half_mul_le (a := x / 4294967296) (b := y % 4294967296) (by omega) (by omega)
  have bc := Lib.half_mul_le (a := x % 4294967296) (b := y / 4294967296) (by omega) (by omega)
  have ba' : x / 4294967296 * (y / 4294967296) < 18446744073709551616 := by omega
  have bb' : x / 4294967296 * (y % 4294967296) < 18446744073709551616 := by omega
  have bc' : x % 4294967296 * (y / 4294967296) < 18446744073709551616 := by omega
  have bh1 : x / 4294967296 * (y / 4294967296) + (x / 4294967296 * (y % 4294967296) + x % 4294967296 * (y % 4294967296) / 4294967296) / 4294967296 < 18446744073709551616 := by omega
  have bh : x / 4294967296 * (y / 4294967296) + (x / 4294967296 * (y % 4294967296) + x % 4294967296 * (y % 4294967296) / 4294967296) / 4294967296 + ((x / 4294967296 * (y % 4294967296) + x % 4294967296 * (y % 4294967296) / 4294967296) % 4294967296 + x % 4294967296 * (y / 4294967296)) / 4294967296 < 18446744073709551616 := by omega
  unfold vc41
  simp only [mask32 x hx, mask32 y hy, shr32, mN, aN, wN _ bd, wN _ bb', wN _ bt, mask32 _ bt, wN _ bc', wN _ bw, wN _ ba', wN _ bh1, wN _ bh, wM (x * y)]
  rw [hhi]
  exact hQ
theorem div_start {U Y : Nat} (hU : U < 18446744073709551616) : IntKind.u64.wrap ((U : Int).tdiv (Y : Int)) = ((U / Y : Nat) : Int) ∧ IntKind.u64.wrap ((U : Int) - IntKind.u64.wrap (((U / Y : Nat) : Int) * (Y : Int))) = ((U % Y : Nat) : Int) := by
  have h1 : U / Y ≤ U := Nat.div_le_self _ _
  have h2 := Nat.div_add_mod U Y
  rw [Nat.mul_comm] at h2
  constructor
  · rw [← Int.ofNat_tdiv, wN _ (by omega)]
  · rw [mN]
    generalize U / Y * Y = z at *
    rw [wN _ (by omega), wu64 (by omega) (by omega)]
    omega
/-- The remainder, where the leading zeros of the divisor are known. -/
theorem spec42 (hI : Closed' prog Pm I) {hi lo y s : Nat} (h1 : hi < y) (hlo : lo < 18446744073709551616) (hs : s < 64) (hs1 : 9223372036854775808 ≤ y * 2 ^ s) (hs2 : y * 2 ^ s < 18446744073709551616)
    (hlz : ∀ Q' h', Q' [int s] h' → I 46 [u64 y] Q' h') (hQ : Q [u64 (((hi * 18446744073709551616 + lo) / y : Nat) : Int), u64 (((hi * 18446744073709551616 + lo) % y : Nat) : Int)] h) : I 42 [u64 hi, u64 lo, u64 y] Q h := by
  refine hI.go _ _ (den42 I hi lo y Q) ?_
  have hy64 : y < 18446744073709551616 := by
    have : y * 1 ≤ y * 2 ^ s := Nat.mul_le_mul_left _ (Nat.one_le_two_pow)
    omega
  refine joinK_intro (fun _ h' => h' = h) ?_ (fun j hj => ifT_dec (fun h2 => by omega) fun _ => hj _ _ rfl)
  rintro _ h' rfl
  refine joinK_intro (fun _ h'' => h'' = h') ?_ (fun j hj => ifT_dec (fun h2 => by omega) fun _ => hj _ _ rfl)
  rintro _ h rfl
  refine ifT_dec (fun h2 => ?_) (fun h2 => ?_)
  · have e : (lo : Int).tmod (y : Int) = (((hi * 18446744073709551616 + lo) % y : Nat) : Int) := by
      have : hi = 0 := by omega
      subst this
      rw [← Int.ofNat_tmod]
      simp
    have e2 : IntKind.u64.wrap ((lo : Int).tdiv (y : Int)) = (((hi * 18446744073709551616 + lo) / y : Nat) : Int) := by
      have : hi = 0 := by omega
      subst this
      have hle : lo / y ≤ lo := Nat.div_le_self _ _
      rw [← Int.ofNat_tdiv, wN _ (by omega)]
      simp
    refine ⟨by omega, by omega, ?_⟩
    rw [e, e2]
    exact hQ
  · refine hlz _ _ ⟨_, rfl, ?_⟩
    have p0 := Nat.two_pow_pos s
    have e_s : IntKind.u64.wrap (s : Int) = (s : Int) := wN _ (by omega)
    have e_64 : IntKind.u64.wrap (64 - (s : Int)) = ((64 - s : Nat) : Int) := by rw [wu64 (by omega) (by omega)]; omega
    have hhi : hi * 2 ^ s + 2 ^ s ≤ y * 2 ^ s := by
      have : (hi + 1) * 2 ^ s ≤ y * 2 ^ s := Nat.mul_le_mul_right _ h1
      rw [Nat.add_mul] at this
      omega
    have e_y : shl .u64 (y : Int) (s : Int) = ((y * 2 ^ s : Nat) : Int) := by rw [shl_nat _ _ (by omega), Nat.mod_eq_of_lt hs2]
    have e_hi : shl .u64 (hi : Int) (s : Int) = ((hi * 2 ^ s : Nat) : Int) := by rw [shl_nat _ _ (by omega), Nat.mod_eq_of_lt (by omega)]
    have e_lo : shl .u64 (lo : Int) (s : Int) = ((lo * 2 ^ s % 18446744073709551616 : Nat) : Int) := shl_nat _ _ (by omega)
    have e_sr : shr .u64 (lo : Int) ((64 - s : Nat) : Int) = ((lo / 2 ^ (64 - s) : Nat) : Int) := shr_nat _ _ _ rfl (by omega)
    have hlow : lo / 2 ^ (64 - s) < 2 ^ s := by
      rw [Nat.div_lt_iff_lt_mul (Nat.two_pow_pos _), ← Nat.pow_add, show s + (64 - s) = 64 by omega]
      exact hlo
    have e_U : IntKind.u64.wrap ((BitVec.ofInt 64 ((hi * 2 ^ s : Nat) : Int) ||| BitVec.ofInt 64 ((lo / 2 ^ (64 - s) : Nat) : Int)).toNat : Int) = ((hi * 2 ^ s + lo / 2 ^ (64 - s) : Nat) : Int) :=
      or_parts hi (lo / 2 ^ (64 - s)) s hlow (by omega) (by omega) (by omega)
    have hfin := YtohdelegimcceaaKnuth.parts hi lo s (by omega)
    have hsh := YtohdelegimcceaaKnuth.shifted (hi * 18446744073709551616 + lo) y (2 ^ s) p0
    simp only [e_s, e_64, e_y, e_hi, e_lo, e_sr, e_U, shr32, mask32 _ hs2, mask32 _ (Nat.mod_lt _ (show 0 < 18446744073709551616 by decide))]
    have hUY : hi * 2 ^ s + lo / 2 ^ (64 - s) < y * 2 ^ s := by omega
    generalize hU' : hi * 2 ^ s + lo / 2 ^ (64 - s) = U at *
    generalize hL' : lo * 2 ^ s % 18446744073709551616 = L at *
    have hL : L < 18446744073709551616 := by rw [← hL']; exact Nat.mod_lt _ (by decide)
    have hpow : ∀ x : Nat, shr .u64 (x : Int) (s : Int) = ((x / 2 ^ s : Nat) : Int) := fun x => shr_nat _ _ _ rfl (by omega)
    have hsd : ∀ x, x = (hi * 18446744073709551616 + lo) * 2 ^ s % (y * 2 ^ s) → x / 2 ^ s = (hi * 18446744073709551616 + lo) % y := fun x hx => by rw [hx, hsh]
    have hqd : ∀ x, x = (hi * 18446744073709551616 + lo) * 2 ^ s / (y * 2 ^ s) → x = (hi * 18446744073709551616 + lo) / y := fun x hx => by rw [hx, Nat.mul_div_mul_right _ _ p0]
    rw [← hfin] at hsd hqd
    clear hsh hfin e_U e_sr e_lo e_hi e_y hlow hU' hL' hhi
    generalize y * 2 ^ s = Y at *
    obtain ⟨R, hR⟩ : ∃ R, (hi * 18446744073709551616 + lo) % y = R := ⟨_, rfl⟩
    obtain ⟨QN, hQN⟩ : ∃ QN, (hi * 18446744073709551616 + lo) / y = QN := ⟨_, rfl⟩
    simp only [hR] at hsd hQ
    simp only [hQN] at hqd hQ
    obtain ⟨Y1, hY1⟩ : ∃ Y1, Y / 4294967296 = Y1 := ⟨_, rfl⟩
    obtain ⟨Y0, hY0⟩ : ∃ Y0, Y % 4294967296 = Y0 := ⟨_, rfl⟩
    obtain ⟨L1, hL1⟩ : ∃ L1, L / 4294967296 = L1 := ⟨_, rfl⟩
    obtain ⟨L0, hL0⟩ : ∃ L0, L % 4294967296 = L0 := ⟨_, rfl⟩
    have hYe : Y = Y1 * 4294967296 + Y0 := by omega
    have b1 : Y1 < 4294967296 := by omega
    have b2 : 2147483648 ≤ Y1 := by omega
    have b3 : Y0 < 4294967296 := by omega
    have b4 : L1 < 4294967296 := by omega
    have b5 : L0 < 4294967296 := by omega
    rw [hY1, hY0, hL1, hL0]
    rw [hL1, hL0] at hsd hqd
    -- the words of a round
    have wr : ∀ r : Nat, r < 4294967296 → IntKind.u64.wrap ((r : Int) + (Y1 : Int)) = ((r + Y1 : Nat) : Int) := fun r hr => by rw [aN, wN _ (by omega)]
    have wq : ∀ q : Nat, 1 ≤ q → q ≤ 4294967297 → IntKind.u64.wrap ((q : Int) - 1) = ((q - 1 : Nat) : Int) := fun q h3 h4 => by rw [wu64 (by omega) (by omega)]; omega
    have wm : ∀ q : Nat, q < 4294967296 → IntKind.u64.wrap ((q : Int) * (Y0 : Int)) = ((q * Y0 : Nat) : Int) := fun q hq => by
      have : q * Y0 ≤ 4294967295 * 4294967295 := Nat.mul_le_mul (by omega) (by omega)
      rw [mN, wN _ (by omega)]
    have wl : ∀ (r u : Nat), r < 4294967296 → u < 4294967296 → IntKind.u64.wrap (IntKind.u64.wrap (4294967296 * (r : Int)) + (u : Int)) = ((4294967296 * r + u : Nat) : Int) := fun r u hr hu => by
      rw [wu64 (n := 4294967296 * (r : Int)) (by omega) (by omega), wu64 (by omega) (by omega)]; omega
    have hne : ((Y1 : Nat) : Int) ≠ 0 := by omega
    refine ⟨by omega, by omega, by omega, by omega, hne, ?_⟩
    have e_rest : ∀ (U u : Nat), IntKind.u64.wrap (IntKind.u64.wrap (IntKind.u64.wrap ((U : Int) * 4294967296) + (u : Int)) - IntKind.u64.wrap (((((U * 4294967296 + u) / Y : Nat)) : Int) * (Y : Int))) = (((U * 4294967296 + u) % Y : Nat) : Int) := fun U u => by
      rw [IntKind.wrap_u64, IntKind.wrap_u64, IntKind.wrap_u64, IntKind.wrap_u64]
      exact YtohdelegimcceaaKnuth.rest U u Y (by omega) (by omega)
    refine joinK_intro (fun (q : Int) h' => h' = h ∧ q = (((U * 4294967296 + L1) / Y : Nat) : Int)) ?_ ?_
    · rintro q h' ⟨rfl, rfl⟩
      refine ⟨hne, ?_⟩
      rw [e_rest]
      have hV : (U * 4294967296 + L1) % Y < Y := Nat.mod_lt _ (by omega)
      have hW : ((U * 4294967296 + L1) % Y * 4294967296 + L0) % Y = (U * (4294967296 * 4294967296) + L1 * 4294967296 + L0) % Y := YtohdelegimcceaaKnuth.two _ _ _ _ _
      have hd := hsd _ hW
      obtain ⟨V, hVe⟩ : ∃ V, (U * 4294967296 + L1) % Y = V := ⟨_, rfl⟩
      rw [hVe] at hV hW hd ⊢
      obtain ⟨e1, e2⟩ := div_start (U := V) (Y := Y1) (by omega)
      rw [e1, e2]
      have fin : ∀ q : Nat, q = (V * 4294967296 + L0) / Y → Q [u64 (IntKind.u64.wrap (IntKind.u64.wrap ((((U * 4294967296 + L1) / Y : Nat) : Int) * 4294967296) + (q : Int))), u64 (shr .u64 (IntKind.u64.wrap (IntKind.u64.wrap (IntKind.u64.wrap ((V : Int) * 4294967296) + (L0 : Int)) - IntKind.u64.wrap ((q : Int) * (Y : Int)))) (s : Int))] h' := fun q hq => by
        have hq1 : (U * 4294967296 + L1) / Y < 4294967296 := by
          rw [Nat.div_lt_iff_lt_mul (by omega), Nat.mul_comm]
          omega
        have hq2 : q < 4294967296 := by
          rw [hq, Nat.div_lt_iff_lt_mul (by omega), Nat.mul_comm]
          omega
        have hqq := hqd _ (by rw [YtohdelegimcceaaKnuth.twoq 4294967296 U L1 L0 Y (by omega), hVe, ← hq])
        have hr := e_rest V L0
        rw [← hq] at hr
        rw [hr, hpow, hd]
        obtain ⟨x1, hx1⟩ : ∃ x1, (U * 4294967296 + L1) / Y = x1 := ⟨_, rfl⟩
        rw [hx1] at hq1 hqq ⊢
        have ew : IntKind.u64.wrap (IntKind.u64.wrap ((x1 : Int) * 4294967296) + (q : Int)) = (QN : Int) := by
          rw [← hqq, wu64 (n := (x1 : Int) * 4294967296) (by omega) (by omega), wu64 (by omega) (by omega)]
          omega
        rw [ew]
        exact hQ
      obtain ⟨QQ, hQQ⟩ : ∃ QQ, (V * 4294967296 + L0) / Y = QQ := ⟨_, rfl⟩
      simp only [hQQ] at fin
      rw [hYe] at hQQ hV
      refine loopK_intro (fun (a : Int × Int) h'' m => h'' = h' ∧ ∃ q r : Nat, a = ((r : Int), (q : Int)) ∧ q * Y1 + r = V ∧ r < 4294967296 ∧ QQ ≤ q ∧ q ≤ 4294967296 + 1 ∧ q = m) (V / Y1)
        ⟨rfl, V / Y1, V % Y1, rfl, by rw [Nat.mul_comm]; exact Nat.div_add_mod V Y1, by have := Nat.mod_lt V (show 0 < Y1 by omega); omega, ?_, YtohdelegimcceaaKnuth.first hV (by omega) b3, rfl⟩ ?_
      · rw [← hQQ]
        have : (V * 4294967296 + L0) / (Y1 * 4294967296 + Y0) ≤ V / Y1 := by
          rw [Nat.le_div_iff_mul_le (by omega), Nat.le_iff_lt_or_eq]
          have h3 := Nat.div_mul_le_self (V * 4294967296 + L0) (Y1 * 4294967296 + Y0)
          generalize (V * 4294967296 + L0) / (Y1 * 4294967296 + Y0) = z at h3 ⊢
          rw [Nat.mul_add, ← Nat.mul_assoc] at h3
          generalize z * Y1 = w at h3 ⊢
          generalize z * Y0 = w0 at h3
          omega
        exact this
      · rintro a h'' m ⟨rfl, q, r, rfl, i1, i2, i3, i4, rfl⟩
        dsimp only [uncur]
        have step : (4294967296 ≤ q ∨ 4294967296 * r + L0 < q * Y0) → ∀ {x y : T}, (1 ≤ q → q - 1 = QQ → x h'') → (1 ≤ q → (q - 1) * Y1 + (r + Y1) = V → QQ ≤ q - 1 → q - 1 ≤ 4294967296 → r + Y1 < 4294967296 → y h'') →
            ifT (decide (IntKind.u64.wrap ((r : Int) + (Y1 : Int)) ≥ 4294967296)) x y h'' := fun hc x y hx hy => by
          obtain ⟨s1, s2, s3, s4, s5⟩ := YtohdelegimcceaaKnuth.round hQQ.symm (by omega) hV b5 b3 i1 i4 hc
          rw [wr _ i2]
          exact ifT_dec (fun h3 => hx s1 (s5 (by omega))) fun h3 => hy s1 s2 s3 s4 (by omega)
        have sub1 := wq q
        refine ifT_dec (fun h3 => step (.inl (by omega)) (fun s1 s5 => ?xa) (fun s1 s2 s3 s4 s6 => ?ya)) (fun h3 => ?za)
        case xa =>
          rw [sub1 s1 (by omega)]
          exact ⟨by omega, fin _ s5⟩
        case ya =>
          rw [sub1 s1 (by omega), wr _ i2]
          exact ⟨q - 1, by omega, rfl, q - 1, r + Y1, rfl, s2, s6, s3, by omega, rfl⟩
        rw [wm q (by omega), wl r L0 i2 b5]
        refine ifT_dec (fun h4 => step (.inr (by omega)) (fun s1 s5 => ?xb) (fun s1 s2 s3 s4 s6 => ?yb)) (fun h4 => ⟨by omega, ?zb⟩)
        case zb => exact fin q (YtohdelegimcceaaKnuth.stop hQQ.symm (by omega) i1 i3 (by omega))
        case xb =>
          rw [sub1 s1 (by omega)]
          exact ⟨by omega, fin _ s5⟩
        case yb =>
          rw [sub1 s1 (by omega), wr _ i2]
          exact ⟨q - 1, by omega, rfl, q - 1, r + Y1, rfl, s2, s6, s3, by omega, rfl⟩
    · intro j hj
      obtain ⟨e1, e2⟩ := div_start (U := U) (Y := Y1) (by omega)
      rw [e1, e2]
      obtain ⟨QQ, hQQ⟩ : ∃ QQ, (U * 4294967296 + L1) / Y = QQ := ⟨_, rfl⟩
      simp only [hQQ] at hj
      rw [hYe] at hQQ hUY
      refine loopK_intro (fun (a : Int × Int) h'' m => h'' = h ∧ ∃ q r : Nat, a = ((q : Int), (r : Int)) ∧ q * Y1 + r = U ∧ r < 4294967296 ∧ QQ ≤ q ∧ q ≤ 4294967296 + 1 ∧ q = m) (U / Y1)
        ⟨rfl, U / Y1, U % Y1, rfl, by rw [Nat.mul_comm]; exact Nat.div_add_mod U Y1, by have := Nat.mod_lt U (show 0 < Y1 by omega); omega, ?_, YtohdelegimcceaaKnuth.first hUY (by omega) b3, rfl⟩ ?_
      · rw [← hQQ, Nat.le_div_iff_mul_le (by omega)]
        have h3 := Nat.div_mul_le_self (U * 4294967296 + L1) (Y1 * 4294967296 + Y0)
        generalize (U * 4294967296 + L1) / (Y1 * 4294967296 + Y0) = z at h3 ⊢
        rw [Nat.mul_add, ← Nat.mul_assoc] at h3
        generalize z * Y1 = w at h3 ⊢
        generalize z * Y0 = w0 at h3
        omega
      · rintro a h'' m ⟨rfl, q, r, rfl, i1, i2, i3, i4, rfl⟩
        dsimp only [uncur]
        have step : (4294967296 ≤ q ∨ 4294967296 * r + L1 < q * Y0) → ∀ {x y : T}, (1 ≤ q → q - 1 = QQ → x h'') → (1 ≤ q → (q - 1) * Y1 + (r + Y1) = U → QQ ≤ q - 1 → q - 1 ≤ 4294967296 → r + Y1 < 4294967296 → y h'') →
            ifT (decide (IntKind.u64.wrap ((r : Int) + (Y1 : Int)) ≥ 4294967296)) x y h'' := fun hc x y hx hy => by
          obtain ⟨s1, s2, s3, s4, s5⟩ := YtohdelegimcceaaKnuth.round hQQ.symm (by omega) hUY b4 b3 i1 i4 hc
          rw [wr _ i2]
          exact ifT_dec (fun h3 => hx s1 (s5 (by omega))) fun h3 => hy s1 s2 s3 s4 (by omega)
        have sub1 := wq q
        refine ifT_dec (fun h3 => step (.inl (by omega)) (fun s1 s5 => ?xc) (fun s1 s2 s3 s4 s6 => ?yc)) (fun h3 => ?zc)
        case xc =>
          rw [sub1 s1 (by omega)]
          exact hj _ _ ⟨rfl, by rw [s5]⟩
        case yc =>
          rw [sub1 s1 (by omega), wr _ i2]
          exact ⟨q - 1, by omega, rfl, q - 1, r + Y1, rfl, s2, s6, s3, by omega, rfl⟩
        rw [wm q (by omega), wl r L1 i2 b4]
        refine ifT_dec (fun h4 => step (.inr (by omega)) (fun s1 s5 => ?xd) (fun s1 s2 s3 s4 s6 => ?yd)) (fun h4 => ?zd)
        case zd => exact hj _ _ ⟨rfl, by rw [YtohdelegimcceaaKnuth.stop hQQ.symm (by omega) i1 i3 (by omega)]⟩
        case xd =>
          rw [sub1 s1 (by omega)]
          exact hj _ _ ⟨rfl, by rw [s5]⟩
        case yd =>
          rw [sub1 s1 (by omega), wr _ i2]
          exact ⟨q - 1, by omega, rfl, q - 1, r + Y1, rfl, s2, s6, s3, by omega, rfl⟩
end
end Go.Proofs.YtohdelegimcceaaVc
-- from CcSpec4
namespace Go.Proofs.YtohdelegimcceaaVc
open Go.Proofs.Try (prog)
section
variable {I : Calls} {Q : Post} {h : Heap}
theorem full_ok {ds gs : List Nat} {n x : Nat} (hds : ∀ d ∈ ds, d < 31) (hg : ∀ d ∈ gs, d < 31) (hx : x < 31) : ∀ d ∈ ds ++ gs ++ [x], d < 31 := fun d hd => by
  rcases List.mem_append.1 hd with hd | hd
  · rcases List.mem_append.1 hd with hd | hd
    · exact hds d hd
    · exact hg d hd
  · have : d = x := by simpa using hd
    omega
theorem Strm.make {h : Heap} {i : Nat} {l : Sl} {zs : List Int} (hs : At h 1 l (ints zs)) (hi : h i = none) : Strm (h.set i (strm l 0)) i l zs 0 := by
  refine ⟨set_eq _ _ _, (Ext.new hi).at_ hs, ?_, by decide⟩
  rcases hs.2 with h1 | h1
  · left; simpa [ints] using h1
  · right
    rintro b o ha rfl
    unfold Heap.sl at h1
    rw [ha] at h1
    simp only [Heap.read, hi] at h1
    cases h1
end
end Go.Proofs.YtohdelegimcceaaVc
-- from CnSpec
namespace Go.Proofs.YtohdelegimcceaaVc
open Go.Proofs.Try (prog)
section
variable {I : Calls} {Q : Post} {h : Heap}
theorem spec18 (hI : Closed' prog Pm I) {i : Nat} {l : Sl} {zs : List Int} {t : Nat} {n : Int} (S : Strm h i l zs t) (h1 : 1 ≤ n) (h2 : n < 4611686018427387904)
    (hQ : ∀ b, Q [boo b] (h.set i (strm l (t + 1)))) : I 18 [.one (.ptr (some (i, 0))), int n] Q h := by
  refine hI.go _ _ (den18 I (some (i, 0)) n Q) ?_
  exact spec17 hI S h1 h2 fun v _ _ => ⟨v, rfl, hQ _⟩
theorem encode_size (n : Int) : (Utf8.encode n).size ≤ 4 := by
  unfold Utf8.encode
  simp only
  repeat' split
  all_goals first | exact (show (1 : Nat) ≤ 4 by decide) | exact (show (2 : Nat) ≤ 4 by decide) | exact (show (3 : Nat) ≤ 4 by decide) | exact (show (4 : Nat) ≤ 4 by decide)
theorem extract_le (s : ByteArray) (a b : Nat) : (s.extract a b).size ≤ s.size := by
  rw [ByteArray.size_extract]; omega
theorem nonempty_size {s : ByteArray} (h : s ≠ ⟨#[]⟩) : 0 < s.size := by
  rcases Nat.eq_zero_or_pos s.size with h1 | h1
  · exfalso
    apply h
    obtain ⟨⟨l⟩⟩ := s
    cases l with
    | nil => rfl
    | cons x l => simp [ByteArray.size] at h1
  · exact h1
end
end Go.Proofs.YtohdelegimcceaaVc
-- from CsBits
namespace Go.Proofs.YtohdelegimcceaaVc
open Go.Proofs.Try (prog)
section
variable {I : Calls} {Q : Post} {h : Heap}
theorem len8_ok : ∀ i : Nat, i < 256 → 0 ≤ byteAt len8S (i : Int) ∧ (byteAt len8S (i : Int)).toNat ≤ 8 ∧ i < 2 ^ (byteAt len8S (i : Int)).toNat ∧ (0 < i → 2 ^ (byteAt len8S (i : Int)).toNat ≤ 2 * i) := by decide +kernel
theorem len_idx {x k i L : Nat} (hi : x / 2 ^ k = i) (h1 : i < 2 ^ L) (h2 : 2 ^ L ≤ 2 * i) : x < 2 ^ (k + L) ∧ 2 ^ (k + L) ≤ 2 * x := by
  subst hi
  have p := Nat.two_pow_pos k
  constructor
  · rw [Nat.pow_add, Nat.mul_comm]
    exact (Nat.div_lt_iff_lt_mul p).1 h1
  · rw [Nat.pow_add]
    have h3 : 2 ^ k * 2 ^ L ≤ 2 ^ k * (2 * (x / 2 ^ k)) := Nat.mul_le_mul_left _ h2
    have h4 := Nat.mul_div_le x (2 ^ k)
    rw [Nat.mul_left_comm] at h3
    omega
theorem shrN (a k : Nat) (hk : k ≤ 64) : shr .u64 (a : Int) (k : Int) = ((a / 2 ^ k : Nat) : Int) := shr_nat a k .u64 rfl hk
theorem w8 {a : Nat} (h : a < 256) : IntKind.u8.wrap (a : Int) = (a : Int) := by rw [IntKind.wrap_u8]; omega
theorem spec56g (hI : Closed' prog Pm I) {x : Nat} (h0 : 0 < x) (h1 : x < 18446744073709551616) (hQ : ∀ len : Nat, len ≤ 64 → x < 2 ^ len → 2 ^ len ≤ 2 * x → Q [int len] h) : I 56 [u64 x] Q h := by
  refine hI.go _ _ (den56 I x Q) ?_
  have fin : ∀ (k i : Nat), x / 2 ^ k = i → 0 < i → i < 256 → k ≤ 56 → ∀ c : Int, c = (k : Int) → Q [int (IntKind.i64.wrap (c + IntKind.i64.wrap (byteAt len8S (i : Int))))] h := fun k i hi hp hlt hk c hc => by
    obtain ⟨a1, a2, a3, a4⟩ := len8_ok i hlt
    obtain ⟨L, hL⟩ := Int.eq_ofNat_of_zero_le a1
    rw [hL] at a2 a3 a4 ⊢
    rw [Int.toNat_natCast] at a2 a3 a4
    obtain ⟨b1, b2⟩ := len_idx hi a3 (a4 hp)
    have := hQ (k + L) (by omega) b1 b2
    rw [hc, w64 (n := (L : Int)) (by omega) (by omega), w64 (by omega) (by omega)]
    exact this
  have s16 : ∀ a : Nat, shr .u64 (a : Int) 16 = ((a / 65536 : Nat) : Int) := fun a => shrN a 16 (by decide)
  have s8 : ∀ a : Nat, shr .u64 (a : Int) 8 = ((a / 256 : Nat) : Int) := fun a => shrN a 8 (by decide)
  refine joinK_intro (fun (p : Int × Int) h' => h' = h ∧ ∃ y k : Nat, p = ((y : Int), (k : Int)) ∧ x / 2 ^ k = y ∧ 0 < y ∧ y < 4294967296 ∧ k ≤ 32) ?_ ?_
  · rintro _ h' ⟨rfl, y, k, rfl, hy, hp, hlt, hk⟩
    dsimp only [uncur]
    have dv : ∀ j, x / 2 ^ (k + j) = y / 2 ^ j := fun j => by rw [Nat.pow_add, ← Nat.div_div_eq_div_mul, hy]
    have d8 := dv 8
    have d16 := dv 16
    have d24 := dv 24
    simp only [s16, s8]
    refine ifT_dec (fun h2 => ifT_dec (fun h3 => ?_) fun h3 => ?_) fun h2 => ifT_dec (fun h3 => ?_) fun h3 => ?_
    · rw [w8 (a := y / 65536 / 256) (by omega)]
      refine ⟨⟨by omega, by show ((y / 65536 / 256 : Nat) : Int) < ((256 : Nat) : Int); omega⟩, fin (k + 24) _ (by rw [d24, Nat.div_div_eq_div_mul]) (by omega) (by omega) (by omega) _ ?_⟩
      rw [w64 (n := (k : Int) + 16) (by omega) (by omega), w64 (by omega) (by omega)]; omega
    · rw [w8 (a := y / 65536) (by omega)]
      refine ⟨⟨by omega, by show ((y / 65536 : Nat) : Int) < ((256 : Nat) : Int); omega⟩, fin (k + 16) _ d16 (by omega) (by omega) (by omega) _ ?_⟩
      rw [w64 (by omega) (by omega)]; omega
    · rw [w8 (a := y / 256) (by omega)]
      refine ⟨⟨by omega, by show ((y / 256 : Nat) : Int) < ((256 : Nat) : Int); omega⟩, fin (k + 8) _ d8 (by omega) (by omega) (by omega) _ ?_⟩
      rw [w64 (by omega) (by omega)]; omega
    · rw [w8 (a := y) (by omega)]
      exact ⟨⟨by omega, by show (y : Int) < ((256 : Nat) : Int); omega⟩, fin k _ hy hp (by omega) (by omega) _ rfl⟩
  · intro j hj
    refine ifT_dec (fun h2 => ?_) fun h2 => ?_
    · rw [shr32]
      exact hj _ _ ⟨rfl, x / 4294967296, 32, rfl, rfl, by omega, by omega, by decide⟩
    · exact hj _ _ ⟨rfl, x, 0, rfl, by simp, h0, by omega, by decide⟩
/-- A divisor of 64 bits, whatever it is. -/
theorem spec42g (hI : Closed' prog Pm I) {hi lo y : Nat} (h1 : hi < y) (hy : y < 18446744073709551616) (hlo : lo < 18446744073709551616)
    (hQ : Q [u64 (((hi * 18446744073709551616 + lo) / y : Nat) : Int), u64 (((hi * 18446744073709551616 + lo) % y : Nat) : Int)] h) : I 42 [u64 hi, u64 lo, u64 y] Q h := by
  have hlen : ∃ len : Nat, len ≤ 64 ∧ y < 2 ^ len ∧ 2 ^ len ≤ 2 * y ∧ ∀ Q' h', Q' [int (64 - len : Nat)] h' → I 46 [u64 y] Q' h' := by
    refine ⟨y.log2 + 1, ?_, Nat.lt_log2_self, ?_, fun Q' h' hq => ?_⟩
    · have := (Nat.log2_lt (k := 64) (by omega)).2 hy
      omega
    · have := Nat.log2_self_le (n := y) (by omega)
      rw [Nat.pow_succ]; omega
    · refine hI.go _ _ (den46 I y Q') ?_
      refine spec56g hI (by omega) hy fun len h2 h3 h4 => ⟨_, rfl, ?_⟩
      have e : len = y.log2 + 1 := by
        have a1 : y.log2 < len := (Nat.log2_lt (by omega)).2 h3
        have a2 : len - 1 ≤ y.log2 := by
          rw [Nat.le_log2 (by omega)]
          have : 2 ^ len = 2 ^ (len - 1) * 2 := by rw [← Nat.pow_succ]; congr 1; omega
          omega
        omega
      rw [e] at h2 ⊢
      have : IntKind.i64.wrap (64 - ((y.log2 + 1 : Nat) : Int)) = ((64 - (y.log2 + 1) : Nat) : Int) := by rw [w64 (by omega) (by omega)]; omega
      rw [this]
      exact hq
  obtain ⟨len, l1, l2, l3, l4⟩ := hlen
  have hl0 : len ≠ 0 := by rintro rfl; omega
  have p1 : y * 2 ^ (64 - len) < 2 ^ len * 2 ^ (64 - len) := Nat.mul_lt_mul_of_pos_right l2 (Nat.two_pow_pos _)
  have p2 : 2 ^ len * 2 ^ (64 - len) ≤ 2 * y * 2 ^ (64 - len) := Nat.mul_le_mul_right _ l3
  rw [← Nat.pow_add, show len + (64 - len) = 64 by omega] at p1 p2
  rw [Nat.mul_assoc] at p2
  exact spec42 hI h1 hlo (s := 64 - len) (by omega) (by omega) p1 l4 hQ
end
end Go.Proofs.YtohdelegimcceaaVc
-- from CsSort
namespace Go.Proofs.YtohdelegimcceaaVc
open Go.Proofs.Try (prog)
section
variable {I : Calls} {Q : Post} {h : Heap}
theorem ints_get {xs : List Int} {i : Nat} {x : Int} (h : xs[i]? = some x) : (ints xs)[i]? = some (.int .i64 x) := by
  unfold ints; rw [List.getElem?_map, h]; rfl
theorem ints_set (xs : List Int) (i : Nat) (x : Int) : (ints xs).set i (.int .i64 x) = ints (xs.set i x) := by
  unfold ints; rw [List.map_set]
theorem ints_length (xs : List Int) : (ints xs).length = xs.length := by simp [ints]
theorem set_self {h : Heap} {i : Nat} {o : Obj} (hi : h i = some o) : h.set i o = h := by
  funext j
  unfold Heap.set
  by_cases hj : j = i
  · subst hj; simp [hi]
  · simp [hj]
/-- What a comparison tells, whatever the row that is sorted holds. -/
def Tells (I : Calls) (h : Heap) (blk : Nat) (g : FuncId) (caps : List (Nat × Nat)) (xs : List Int) (lt : Int → Int → Bool) : Prop :=
  ∀ a b, a ∈ xs → b ∈ xs → ∀ (h' : Heap) (Q' : Post), (∀ j, j ≠ blk → h' j = h j) → (∀ c : Int, (c < 0 ↔ lt a b = true) → Q' [int c] h') → I g (int a :: int b :: caps.map fun a => .one (.ptr (some a))) Q' h'
theorem spec47 (hI : Closed' prog Pm I) {blk : Nat} {g : FuncId} {caps : List (Nat × Nat)} {xs : List Int} {lt : Int → Int → Bool} (R : Int → Int → Prop) (hb : h blk = some (.cells false (ints xs))) (hlen : xs.length < 1000)
    (hc : Tells I h blk g caps xs lt) (hR : xs.Pairwise fun a b => (lt b a = true → R b a) ∧ (lt b a = false → R a b)) (hT : ∀ a b c, a ∈ xs → b ∈ xs → c ∈ xs → R a b → R b c → R a c)
    (hQ : ∀ ys, ys.Perm xs → ys.Pairwise R → Q [] (h.set blk (.cells false (ints ys)))) :
    I 47 [.one (.slice 1 ⟨some (blk, 0), xs.length⟩), int 0, int xs.length, .one (.func (some (g, caps)))] Q h := by
  refine hI.go _ _ (den47 I _ _ _ _ Q) ?_
  have e0 : IntKind.i64.wrap ((0 : Int) + 1) = 1 := by decide
  unfold vc47
  rw [e0]
  refine loopK_intro (fun (a : Int) h' m => ∃ k : Nat, 1 ≤ k ∧ (k ≤ xs.length ∨ k = 1) ∧ a = k ∧ xs.length - k = m ∧ ∃ ys, ys.Perm (xs.take k) ∧ ys.Pairwise R ∧ h' = h.set blk (.cells false (ints (ys ++ xs.drop k)))) (xs.length - 1)
    ⟨1, by omega, .inr rfl, rfl, rfl, xs.take 1, List.Perm.refl _, ?_, by rw [List.take_append_drop, set_self hb]⟩ ?_
  · cases xs with
    | nil => exact List.Pairwise.nil
    | cons x xs => simp
  rintro a h' m ⟨k, hk1, hk2, rfl, rfl, ys, hperm, hpw, rfl⟩
  refine ifT_dec (fun hlt => ?_) (fun hge => ?_)
  · have hkl : k < xs.length := by omega
    have hx : xs[k]? = some xs[k] := List.getElem?_eq_getElem hkl
    have hxm : xs[k] ∈ xs := List.getElem_mem hkl
    generalize xs[k] = x at hx hxm
    have hyl : ys.length = k := by rw [hperm.length_eq, List.length_take]; omega
    have hysub : ∀ d ∈ ys, d ∈ xs := fun d hd => List.mem_of_mem_take (hperm.mem_iff.1 hd)
    have hyx : ∀ d ∈ ys, (lt x d = true → R x d) ∧ (lt x d = false → R d x) := fun d hd => pairwise_take hR hx d (hperm.mem_iff.1 hd)
    refine loopK_intro (fun (a : Int) h'' m => ∃ pre post, a = (pre.length : Nat) ∧ pre.length = m ∧ pre ++ post = ys ∧ (∀ d ∈ post, R x d) ∧ h'' = h.set blk (.cells false (ints (pre ++ x :: (post ++ xs.drop (k + 1)))))) k
      ⟨ys, [], by rw [hyl], hyl, by simp, by simp, by rw [drop_mid hx]; rfl⟩ ?_
    rintro a h'' m ⟨pre, post, rfl, rfl, hpp, hpost, rfl⟩
    have hpl : pre.length + post.length = k := by rw [← hyl, ← hpp, List.length_append]
    have hlenL : (pre ++ x :: (post ++ xs.drop (k + 1))).length = xs.length := by simp; omega
    refine joinK_intro (fun (b : Bool) h3 => h3 = h.set blk (.cells false (ints (pre ++ x :: (post ++ xs.drop (k + 1))))) ∧ (b = true → ∃ pre' d, pre = pre' ++ [d] ∧ lt x d = true) ∧ (b = false → pre = [] ∨ ∃ pre' d, pre = pre' ++ [d] ∧ lt x d = false)) ?_ ?_
    · rintro b h3 ⟨rfl, hb1, hb2⟩
      refine ifT_intro (fun hbt => ?_) (fun hbf => ?_)
      · obtain ⟨pre', d, rfl, hlt2⟩ := hb1 hbt
        have hd : d ∈ ys := by rw [← hpp]; simp
        simp only [List.length_append, List.length_singleton] at hpl ⊢
        have ew : IntKind.i64.wrap (((pre'.length + 1 : Nat) : Int) - 1) = (pre'.length : Int) := by rw [w64] <;> omega
        simp only [ew]
        simp only [List.append_assoc, List.singleton_append]
        have g1 : (ints (pre' ++ d :: x :: (post ++ xs.drop (k + 1))))[0 + (pre'.length : Int).toNat * 1]? = some (.int .i64 d) := by
          simp only [Int.toNat_natCast, Nat.mul_one, Nat.zero_add]
          exact ints_get (get_mid _ _ _)
        have g2 : (ints (pre' ++ d :: x :: (post ++ xs.drop (k + 1))))[0 + ((pre'.length + 1 : Nat) : Int).toNat * 1]? = some (.int .i64 x) := by
          simp only [Int.toNat_natCast, Nat.mul_one, Nat.zero_add]
          refine ints_get ?_
          simp
        refine ⟨⟨by omega, by simp; omega⟩, derefK_intro rfl ⟨_, read_cell (set_eq _ _ _) g1, ⟨by omega, by simp; omega⟩, derefK_intro rfl ⟨_, read_cell (set_eq _ _ _) g2, ⟨by omega, by simp; omega⟩, derefK_intro rfl (storeK_one (set_eq _ _ _) ?_ ⟨⟨by omega, by simp; omega⟩, derefK_intro rfl (storeK_one (set_eq _ _ _) ?_ ?_)⟩)⟩⟩⟩
        · simp [ints]
        · simp [ints]
        · refine ⟨pre'.length, by omega, pre', d :: post, rfl, rfl, by rw [← hpp]; simp, fun e he => ?_, ?_⟩
          · rcases List.mem_cons.1 he with rfl | he
            · exact (hyx _ hd).1 hlt2
            · exact hpost e he
          · rw [set_set, set_set, ints_set, ints_set]
            congr 4
            simp only [Int.toNat_natCast, Nat.mul_one, Nat.zero_add]
            have s1 : (pre' ++ d :: x :: (post ++ xs.drop (k + 1))).set (pre'.length + 1) d = pre' ++ d :: d :: (post ++ xs.drop (k + 1)) := by
              simp
            rw [s1, set_mid']
            rfl
      · refine ⟨xs.length - (k + 1), by omega, k + 1, by omega, .inl hkl, ?_, rfl, pre ++ x :: post, ?_, ?_, ?_⟩
        · rw [w64] <;> omega
        · rw [take_mid hx]
          exact (List.perm_middle.trans ((hpp ▸ hperm).cons x)).trans (List.perm_append_singleton x (xs.take k)).symm
        · refine placed (hpp ▸ hpw) ?_ hpost
          rcases hb2 hbf with rfl | ⟨pre', d, rfl, hlt2⟩
          · simp
          · have hd : d ∈ ys := by rw [← hpp]; simp
            refine before_all (post := post) (hpp ▸ hpw) (fun e he hed => ?_) ((hyx d hd).2 hlt2)
            have hey : e ∈ ys := by rw [← hpp]; simp [he]
            exact hT e d x (hysub e hey) (hysub d hd) hxm hed ((hyx d hd).2 hlt2)
        · simp
    · intro j hj
      refine ifT_dec (fun hgt => ?_) (fun hle => hj _ _ ⟨rfl, (fun h => by cases h), fun _ => .inl (List.length_eq_zero_iff.1 (by omega))⟩)
      obtain ⟨pre', d, rfl⟩ : ∃ pre' d, pre = pre' ++ [d] := ⟨pre.dropLast, pre.getLast (by intro e; subst e; simp at hgt), (List.dropLast_concat_getLast _).symm⟩
      have hd : d ∈ ys := by rw [← hpp]; simp
      simp only [List.length_append, List.length_singleton] at hpl hgt hj ⊢
      have ew : IntKind.i64.wrap (((pre'.length + 1 : Nat) : Int) - 1) = (pre'.length : Int) := by rw [w64] <;> omega
      simp only [ew]
      simp only [List.append_assoc, List.singleton_append] at hj ⊢
      have g1 : (ints (pre' ++ d :: x :: (post ++ xs.drop (k + 1))))[0 + (pre'.length : Int).toNat * 1]? = some (.int .i64 d) := by
        simp only [Int.toNat_natCast, Nat.mul_one, Nat.zero_add]
        exact ints_get (get_mid _ _ _)
      have g2 : (ints (pre' ++ d :: x :: (post ++ xs.drop (k + 1))))[0 + ((pre'.length + 1 : Nat) : Int).toNat * 1]? = some (.int .i64 x) := by
        simp only [Int.toNat_natCast, Nat.mul_one, Nat.zero_add]
        refine ints_get ?_
        simp
      refine ⟨⟨by omega, by simp; omega⟩, derefK_intro rfl ⟨_, read_cell (set_eq _ _ _) g2, ⟨by omega, by simp; omega⟩, derefK_intro rfl ⟨_, read_cell (set_eq _ _ _) g1, ?_⟩⟩⟩
      refine hc x d hxm (hysub d hd) _ _ (fun j hj => set_ne _ _ hj) fun c hcc => ⟨c, rfl, hj _ _ ⟨rfl, fun h => ⟨pre', d, rfl, hcc.1 (of_decide_eq_true h)⟩, fun h => .inr ⟨pre', d, rfl, ?_⟩⟩⟩
      cases hl : lt x d with
      | false => rfl
      | true => exact absurd (hcc.2 hl) (of_decide_eq_false h)
  · have hnl : xs.length ≤ k := by omega
    have : xs.drop k = [] := List.drop_eq_nil_of_le hnl
    rw [this, List.append_nil]
    rw [List.take_of_length_le hnl] at hperm
    exact hQ ys hperm hpw
end
end Go.Proofs.YtohdelegimcceaaVc
-- from CsSpec1
namespace Go.Proofs.YtohdelegimcceaaVc
open Go.Proofs.Try (prog)
def nats (l : List Nat) : List Cell := l.map fun n : Nat => .int .i64 (n : Int)
def unats (l : List Nat) : List Cell := l.map fun n : Nat => .int .u64 (n : Int)
theorem nats_ints (l : List Nat) : nats l = ints (l.map fun n : Nat => (n : Int)) := by simp [nats, ints, List.map_map, Function.comp_def]
theorem nats_length (l : List Nat) : (nats l).length = l.length := by simp [nats]
theorem unats_length (l : List Nat) : (unats l).length = l.length := by simp [unats]
theorem nats_get {xs : List Nat} {i n : Nat} (h : xs[i]? = some n) : (nats xs)[i]? = some (.int .i64 (n : Int)) := by unfold nats; rw [List.getElem?_map, h]; rfl
theorem unats_get {xs : List Nat} {i n : Nat} (h : xs[i]? = some n) : (unats xs)[i]? = some (.int .u64 (n : Int)) := by unfold unats; rw [List.getElem?_map, h]; rfl
theorem nats_set (xs : List Nat) (i n : Nat) : (nats xs).set i (.int .i64 (n : Int)) = nats (xs.set i n) := by unfold nats; rw [List.map_set]
theorem unats_set (xs : List Nat) (i n : Nat) : (unats xs).set i (.int .u64 (n : Int)) = unats (xs.set i n) := by unfold unats; rw [List.map_set]
section
variable {I : Calls} {Q : Post} {h : Heap}
/-- A cell is read of a slice. -/
theorem At.cell {s : Sl} {xs : List Cell} {i : Nat} {c : Cell} {f : Nat → Nat → T} (hs : At h 1 s xs) (hx : xs[i]? = some c) (hk : ∀ b o, h.read b (o + (i : Int).toNat * 1) 1 = some [c] → f b o h) : derefK s.a f h := by
  have hlt : i < xs.length := (List.getElem?_eq_some_iff.1 hx).1
  have hl := hs.1
  refine hs.one (i := (i : Int)) (by omega) (by omega) fun b o c' hc hr => ?_
  rw [Int.toNat_natCast] at hc
  rw [hx] at hc
  cases hc
  exact hk b o hr
theorem At.len1 {s : Sl} {xs : List Cell} (hs : At h 1 s xs) : s.len = xs.length := by simpa using hs.1
theorem spec28 (hI : Closed' prog Pm I) {s : Sl} {xs : List Nat} (hs : At h 1 s (nats xs)) (hlen : xs.length < 1000000) (hsum : xs.sum < 4611686018427387904) (hQ : Q [int (xs.sum : Nat)] h) : I 28 [.one (.slice 1 s)] Q h := by
  have hl : s.len = xs.length := by rw [hs.len1, nats_length]
  refine hI.go _ _ (den28 I s Q) ?_
  refine loopK_intro (fun (a : Int × Int) h' m => h' = h ∧ ∃ i : Nat, i ≤ xs.length ∧ a = ((((xs.take i).sum : Nat) : Int), (i : Int)) ∧ xs.length - i = m) xs.length ⟨rfl, 0, by omega, rfl, rfl⟩ ?_
  rintro a h' m ⟨rfl, i, hi, rfl, rfl⟩
  dsimp only [uncur]
  refine ifT_dec (fun hlt => ⟨⟨by omega, hlt⟩, ?_⟩) (fun hge => ?_)
  · have hil : i < xs.length := by omega
    have hx := List.getElem?_eq_getElem hil
    refine hs.cell (nats_get hx) fun b o hr => ⟨_, hr, xs.length - (i + 1), by omega, rfl, i + 1, by omega, ?_, rfl⟩
    have h1 : (xs.take (i + 1)).sum = (xs.take i).sum + xs[i] := by
      rw [List.take_add_one, hx]
      show (xs.take i ++ [xs[i]]).sum = _
      rw [List.sum_append]; simp
    have h2 : (xs.take (i + 1)).sum ≤ xs.sum := by
      conv => rhs; rw [← List.take_append_drop (i + 1) xs, List.sum_append]
      omega
    rw [h1] at h2 ⊢
    generalize (xs.take i).sum = y at *
    generalize xs[i] = x at *
    rw [w64 (by omega) (by omega), w64 (by omega) (by omega)]
    rfl
  · have : i = xs.length := by omega
    subst this
    rw [List.take_length]
    exact hQ
theorem spec9 (hI : Closed' prog Pm I) {s t : Sl} {zs : List Int} (hs : At h 1 s (ints zs)) (ht : At h 1 t (ints zs)) (hlen : zs.length < 1000000) (hQ : Q [boo true] h) : I 9 [.one (.slice 1 s), .one (.slice 1 t)] Q h := by
  have h1 : s.len = zs.length := by rw [hs.len1, ints_length]
  have h2 : t.len = zs.length := by rw [ht.len1, ints_length]
  refine hI.go _ _ (den9 I s t Q) ?_
  refine ifT_intro (fun h => by rw [h1, h2] at h; simp at h) fun _ => ?_
  refine loopK_intro (fun (a : Int) h' m => h' = h ∧ ∃ i : Nat, i ≤ zs.length ∧ a = i ∧ zs.length - i = m) zs.length ⟨rfl, 0, by omega, rfl, rfl⟩ ?_
  rintro a h' m ⟨rfl, i, hi, rfl, rfl⟩
  refine ifT_dec (fun hlt => ⟨⟨by omega, hlt⟩, ?_⟩) (fun hge => hQ)
  have hx := List.getElem?_eq_getElem (show i < zs.length by omega)
  refine hs.cell (ints_get hx) fun b o hr => ⟨_, hr, ⟨by omega, by omega⟩, ht.cell (ints_get hx) fun b o hr => ⟨_, hr, ifT_intro (fun h => by simp at h) fun _ => ⟨zs.length - (i + 1), by omega, rfl, i + 1, by omega, ?_, rfl⟩⟩⟩
  rw [w64] <;> omega
/-! ### the stream's block, among one's own -/
abbrev owS (i : Nat) (l : Sl) (t : Nat) : Ow := (1, ⟨some (i, 0), 2⟩, [.slice 1 l, .int .i64 t])
theorem Strm.owns {i : Nat} {l : Sl} {zs : List Int} {t : Nat} (S : Strm h i l zs t) : Owns (h.del i) h [owS i l t] := by
  refine ⟨fun j o hj => ?_, fun p hp => ?_, by simp⟩
  · by_cases e : j = i
    · subst e; simp [Heap.del] at hj
    · rw [del_ne _ e] at hj; exact hj
  · have : p = owS i l t := by simpa using hp
    subst this
    exact ⟨rfl, .inr ⟨i, rfl, by simp [Heap.del], S.cell⟩⟩
theorem Owns.toStrm {h' : Heap} {L : List Ow} {i : Nat} {l : Sl} {zs : List Int} {t t' : Nat} (S : Strm h i l zs t) (o : Owns (h.del i) h' L) (hm : owS i l t' ∈ L) (ht : t' < 1000000000) : Strm h' i l zs t' :=
  S.frame (o.block hm).1 (fun j x hj hx => o.ext _ _ (by rw [del_ne _ hj]; exact hx)) ht
theorem Owns.strmCell {h' : Heap} {L : List Ow} {i : Nat} {l : Sl} {t : Nat} (o : Owns h h' L) (hm : owS i l t ∈ L) : h' i = some (strm l t) := (o.block hm).1
theorem Owns.next {h' : Heap} {L : List Ow} {i : Nat} {l : Sl} {t t' : Nat} (o : Owns h h' (owS i l t :: L)) : Owns h (h'.set i (strm l t')) (owS i l t' :: L) := o.change rfl
theorem Owns.slen {h' : Heap} {L : List Ow} {s : Sl} {cs : List Cell} (o : Owns h h' L) (hm : (1, s, cs) ∈ L) : s.len = cs.length := by
  have := (o.all _ hm).1; simpa using this
theorem Owns.sl {h' : Heap} {L : List Ow} {s : Sl} {cs : List Cell} (o : Owns h h' L) (hm : (1, s, cs) ∈ L) : h'.sl 1 s = some cs := by
  obtain ⟨h1, h2 | ⟨k, h2, _, h3⟩⟩ := o.all _ hm
  · simp only at h2; unfold Heap.sl; rw [h2.1, h2.2]
  · simp only at h1 h2 h3
    unfold Heap.sl
    rw [h2]
    show h'.read k 0 (s.len * 1) = _
    rw [read_block h3 (by omega), h1, List.drop_zero, List.take_length]
theorem Owns.has {h' : Heap} {L : List Ow} {s : Sl} {cs : List Cell} {sz : Nat} (o : Owns h h' L) (hm : (sz, s, cs) ∈ L) (hne : cs ≠ []) : ∃ i, s = ⟨some (i, 0), s.len⟩ ∧ h' i = some (.cells false cs) := by
  obtain ⟨h1, h2 | ⟨k, h2, _, h3⟩⟩ := o.all _ hm
  · exact absurd h2.2 hne
  · obtain ⟨a, n⟩ := s
    simp only at h2
    subst h2
    exact ⟨k, rfl, h3⟩
end
end Go.Proofs.YtohdelegimcceaaVc
-- from CsSpec2
namespace Go.Proofs.YtohdelegimcceaaVc
open Go.Proofs.YtohdelegimcceaaShares
open Go.Proofs.Try (prog)
section
variable {I : Calls} {Q : Post} {h : Heap}
theorem take_succ_map {α β : Type} (f : α → β) {l : List α} {k : Nat} {x : α} (h : l[k]? = some x) : (l.map f).take (k + 1) = (l.map f).take k ++ [f x] := by
  rw [List.take_add_one, List.getElem?_map, h]; rfl
/-- The arguments of a division of 128 bits. -/
theorem mul_lt {c w all : Nat} (hc : c ≤ 1000000000000) (hw : w ≤ all) (ha : 0 < all) : c * w / 18446744073709551616 < all := by
  rw [Nat.div_lt_iff_lt_mul (by decide)]
  have h1 : c * w ≤ 1000000000000 * all := Nat.mul_le_mul hc hw
  omega
theorem mem_le_sum : ∀ {l : List Nat} {x : Nat}, x ∈ l → x ≤ l.sum
  | y :: l, x, h => by
    rw [List.sum_cons]
    rcases List.mem_cons.1 h with rfl | h
    · omega
    · have := mem_le_sum h; omega
theorem sum_le : ∀ {l : List Nat} {b : Nat}, (∀ x ∈ l, x ≤ b) → l.sum ≤ b * l.length
  | [], _, _ => by simp
  | y :: l, b, h => by
    have h1 := sum_le (l := l) fun x hx => h x (by simp [hx])
    have h2 := h y (by simp)
    rw [List.sum_cons, List.length_cons, Nat.mul_add]
    omega
theorem take_sum_le (l : List Nat) (k : Nat) : (l.take k).sum ≤ l.sum := by
  conv => rhs; rw [← List.take_append_drop k l, List.sum_append]
  omega
/-- Both words of the product, divided: quotient and rest. -/
theorem divide_word (hI : Closed' prog Pm I) {c w all : Nat} {k : Int → Int → T} (hc : c ≤ 1000000000000) (hw : w ≤ all) (ha : 0 < all) (ha2 : all < 18446744073709551616)
    (hk : k ((c * w / all : Nat) : Int) ((c * w % all : Nat) : Int) h) :
    I 42 [u64 ((c * w / 18446744073709551616 : Nat) : Int), u64 ((c * w % 18446744073709551616 : Nat) : Int), u64 (all : Int)] (fun cs h' => ∃ a : Int, ∃ b : Int, cs = [u64 a, u64 b] ∧ k a b h') h := by
  refine spec42g hI (mul_lt hc hw ha) ha2 (Nat.mod_lt _ (by decide)) ⟨_, _, rfl, ?_⟩
  have e : c * w / 18446744073709551616 * 18446744073709551616 + c * w % 18446744073709551616 = c * w := by
    rw [Nat.mul_comm]; exact Nat.div_add_mod _ _
  rw [e]
  exact hk
theorem block_at {h : Heap} {i n : Nat} {cs : List Cell} (hi : h i = some (.cells false cs)) (hn : n = cs.length) : At h 1 ⟨some (i, 0), n⟩ cs := by
  refine ⟨by simp [hn], .inr ?_⟩
  show h.read i 0 (n * 1) = _
  rw [read_block hi (by omega), List.drop_zero, List.take_of_length_le (by omega)]
theorem Owns.ne {h0 h : Heap} {p q : Ow} {l : List Ow} {i j : Nat} (o : Owns h0 h (p :: l)) (hq : q ∈ l) (hi : p.2.1.a = some (i, 0)) (hj : q.2.1.a = some (j, 0)) : i ≠ j := fun e => by
  subst e; exact (List.pairwise_cons.1 o.apart).1 q hq i hi hj
theorem nats_ne {l : List Nat} (h : 0 < l.length) : nats l ≠ [] := fun e => by have := congrArg List.length e; rw [nats_length] at this; have h2 : l.length = 0 := this; omega
theorem unats_ne {l : List Nat} (h : 0 < l.length) : unats l ≠ [] := fun e => by have := congrArg List.length e; rw [unats_length] at this; have h2 : l.length = 0 := this; omega
theorem at_some {l : List Nat} {i x : Nat} (h : l[i]? = some x) : at_ l i = x := by unfold at_; rw [List.getD_eq_getElem?_getD, h]; rfl
end
end Go.Proofs.YtohdelegimcceaaVc
-- from CsSpec3
namespace Go.Proofs.YtohdelegimcceaaVc
open Go.Proofs.YtohdelegimcceaaShares
open Go.Proofs.Try (prog)
def bools (l : List Bool) : List Cell := l.map .bool
theorem bools_length (l : List Bool) : (bools l).length = l.length := by simp [bools]
theorem bools_get {xs : List Bool} {i : Nat} {b : Bool} (h : xs[i]? = some b) : (bools xs)[i]? = some (.bool b) := by unfold bools; rw [List.getElem?_map, h]; rfl
theorem bools_set (xs : List Bool) (i : Nat) (b : Bool) : (bools xs).set i (.bool b) = bools (xs.set i b) := by unfold bools; rw [List.map_set]
def givenK (rs : List Nat) (k : Nat) : List Bool := (List.range rs.length).map fun i => decide (rank rs i < k)
theorem givenK_length (rs : List Nat) (k : Nat) : (givenK rs k).length = rs.length := by simp [givenK]
theorem givenK_get {rs : List Nat} {k i : Nat} (hi : i < rs.length) : (givenK rs k)[i]? = some (decide (rank rs i < k)) := by
  unfold givenK; rw [List.getElem?_map, List.getElem?_range hi]; rfl
theorem givenK_zero (rs : List Nat) : givenK rs 0 = List.replicate rs.length false := by
  apply List.ext_getElem?
  intro i
  rcases Nat.lt_or_ge i rs.length with hi | hi
  · rw [givenK_get hi, List.getElem?_replicate, if_pos hi]; simp
  · rw [List.getElem?_eq_none (by rw [givenK_length]; exact hi), List.getElem?_eq_none (by simpa using hi)]
theorem givenK_step {rs : List Nat} {k i : Nat} (hi : i < rs.length) (hr : rank rs i = k) : (givenK rs k).set i true = givenK rs (k + 1) := by
  apply List.ext_getElem?
  intro j
  rw [List.getElem?_set]
  rcases Nat.lt_or_ge j rs.length with hj | hj
  · split
    · rename_i h
      subst h
      rw [if_pos (by rw [givenK_length]; exact hi), givenK_get hi]
      simp [hr]
    · rename_i h
      rw [givenK_get hj, givenK_get hj]
      have : rank rs j ≠ k := fun e => h (rank_inj (rs := rs) hi hj (by rw [hr, e]))
      congr 1
      rw [decide_eq_decide]
      omega
  · rw [if_neg (by omega), List.getElem?_eq_none (by rw [givenK_length]; exact hj), List.getElem?_eq_none (by rw [givenK_length]; exact hj)]
theorem set_fill (A : List Nat) (m v : Nat) : (A ++ List.replicate (m + 1) 0).set A.length v = (A ++ [v]) ++ List.replicate m 0 := by
  rw [List.replicate_succ, set_mid']; simp
section
variable {I : Calls} {Q : Post} {h : Heap}
theorem spec30 (hI : Closed' prog Pm I) {s : Sl} {c : Nat} {ws : List Nat} (hs : At h 1 s (nats ws)) (hc : c ≤ 1000000000000) (hw : ∀ w ∈ ws, w ≤ 1000000000000) (hpos : 0 < ws.sum) (hlen : ws.length < 1000)
    (hQ : ∀ s' h', Ext h h' → At h' 1 s' (nats (shared c ws)) → Q [.one (.slice 1 s')] h') : I 30 [int c, .one (.slice 1 s), boo false] Q h := by
  have hl : s.len = ws.length := by rw [hs.len1, nats_length]
  have hsum := sum_le hw
  have hsum' : ws.sum ≤ 1000000000000000 := by omega
  obtain ⟨hleft1, hleft2⟩ := left_ok (c := c) hpos
  have hn0 : 0 < ws.length := by omega
  refine hI.go _ _ (den30 I c s false Q) ?_
  refine spec28 hI hs (by omega) (by omega) ⟨_, rfl, rfl, by omega, by omega, by rw [hl]; show (ws.length : Int) * ((8 : Nat) : Int) ≤ _; omega, ?_⟩
  simp only [hl, Int.toNat_natCast]
  have hQS : (qs c ws.sum ws).length = ws.length := by simp [qs]
  have hRS : (rs c ws.sum ws).length = ws.length := by simp [rs]
  have hz : ∀ k, slCells (.one (.int .i64)) k = nats (List.replicate k 0) := fun k => by
    unfold slCells nats
    rw [List.map_replicate]
    exact List.flatten_replicate_singleton
  have hz2 : ∀ k, slCells (.one (.int .u64)) k = unats (List.replicate k 0) := fun k => by
    unfold slCells unats
    rw [List.map_replicate]
    exact List.flatten_replicate_singleton
  have hz3 : ∀ k, slCells (.one .bool) k = bools (List.replicate k false) := fun k => by
    unfold slCells bools
    rw [List.map_replicate]
    exact List.flatten_replicate_singleton
  simp only [hz, hz2, hz3]
  generalize hall : ws.sum = all at *
  generalize hq : qs c all ws = q at *
  generalize hr : rs c all ws = r at *
  refine newK_intro fun i7 h1 hn1 he1 => ⟨trivial, by omega, by omega, by show (ws.length : Int) * ((8 : Nat) : Int) ≤ _; omega, newK_intro fun i9 h2 hn2 he2 => ?_⟩
  have o1 : Owns h h1 [(1, ⟨some (i7, 0), ws.length⟩, nats (List.replicate ws.length 0))] := he1 ▸ (Owns.nil h).new hn1 (by rw [nats_length]; simp)
  have o2 : Owns h h2 [(1, ⟨some (i9, 0), ws.length⟩, unats (List.replicate ws.length 0)), (1, ⟨some (i7, 0), ws.length⟩, nats (List.replicate ws.length 0))] := he2 ▸ o1.new hn2 (by rw [unats_length]; simp)
  refine loopK_intro (fun (a : Int) h' m => ∃ i : Nat, i ≤ ws.length ∧ a = (i : Int) ∧ ws.length - i = m ∧
      Owns h h' [(1, ⟨some (i9, 0), ws.length⟩, unats (r.take i ++ List.replicate (ws.length - i) 0)), (1, ⟨some (i7, 0), ws.length⟩, nats (q.take i ++ List.replicate (ws.length - i) 0))]) ws.length
    ⟨0, by omega, rfl, rfl, by simpa using o2⟩ ?_
  rintro a h' m ⟨i, hi, rfl, rfl, o⟩
  refine ifT_dec (fun hlt => ⟨⟨by omega, hlt⟩, ?_⟩) (fun hge => ?_)
  · have hil : i < ws.length := by omega
    have hx := List.getElem?_eq_getElem hil
    have hwk : ws[i] ≤ all := by rw [← hall]; exact mem_le_sum (List.getElem_mem hil)
    generalize ws[i] = w at *
    refine (o.ext.at_ hs).cell (nats_get hx) fun b o' hr' => ⟨_, hr', ?_⟩
    rw [wN c (by omega), wN w (by omega), wN all (by omega)]
    refine spec41 hI (by omega) (by omega) ⟨_, _, rfl, divide_word hI hc hwk hpos (by omega) ?_⟩
    have hqi : q.take (i + 1) = q.take i ++ [c * w / all] := by rw [← hq]; exact take_succ_map _ hx
    have hri : r.take (i + 1) = r.take i ++ [c * w % all] := by rw [← hr]; exact take_succ_map _ hx
    have hq1 : c * w / all ≤ c := by
      have h1 := mem_le_sum (l := q) (x := c * w / all) (by
        have : c * w / all ∈ q.take (i + 1) := by rw [hqi]; simp
        exact List.mem_of_mem_take this)
      omega
    have ew : IntKind.i64.wrap ((c * w / all : Nat) : Int) = ((c * w / all : Nat) : Int) := by
      generalize c * w / all = z at *
      exact w64 (by omega) (by omega)
    have eo : 0 + (i : Int).toNat * 1 = i := by simp
    have lq : (q.take i).length = i := by rw [List.length_take]; omega
    have lr : (r.take i).length = i := by rw [List.length_take]; omega
    have er : ws.length - i = (ws.length - (i + 1)) + 1 := by omega
    rw [ew, eo]
    have o3 := o.perm (List.Perm.swap _ _ _)
    refine ⟨⟨by omega, by omega⟩, storeK_one (o3.block List.mem_cons_self).1 (by rw [nats_length]; simp; omega) ⟨⟨by omega, by omega⟩, ?_⟩⟩
    have s1 : (nats (q.take i ++ List.replicate (ws.length - i) 0)).set i (.int .i64 ((c * w / all : Nat) : Int)) = nats (q.take (i + 1) ++ List.replicate (ws.length - (i + 1)) 0) := by
      rw [nats_set, hqi, er]
      have := set_fill (q.take i) (ws.length - (i + 1)) (c * w / all)
      rw [lq] at this
      rw [this]
    have s2 : (unats (r.take i ++ List.replicate (ws.length - i) 0)).set i (.int .u64 ((c * w % all : Nat) : Int)) = unats (r.take (i + 1) ++ List.replicate (ws.length - (i + 1)) 0) := by
      rw [unats_set, hri, er]
      have := set_fill (r.take i) (ws.length - (i + 1)) (c * w % all)
      rw [lr] at this
      rw [this]
    rw [s1]
    have o4 := (o3.change (n' := ws.length) (sz' := 1) (cs' := nats (q.take (i + 1) ++ List.replicate (ws.length - (i + 1)) 0)) (by rw [nats_length]; simp; omega)).perm (List.Perm.swap _ _ _)
    refine storeK_one (o4.block List.mem_cons_self).1 (by rw [unats_length]; simp; omega) ⟨ws.length - (i + 1), by omega, i + 1, by omega, by rw [w64] <;> omega, rfl, ?_⟩
    rw [s2]
    exact o4.change (by rw [unats_length]; simp; omega)
  · have : i = ws.length := by omega
    subst this
    have t1 : q.take ws.length = q := List.take_of_length_le (by omega)
    have t2 : r.take ws.length = r := List.take_of_length_le (by omega)
    rw [t1, t2] at o
    simp only [Nat.sub_self, List.replicate_zero, List.append_nil] at o
    refine ⟨trivial, by omega, by omega, by show (ws.length : Int) * ((1 : Nat) : Int) ≤ _; omega, newK_intro fun i27 h3 hn3 he3 => ?_⟩
    have o3 : Owns h h3 [(1, ⟨some (i27, 0), ws.length⟩, bools (List.replicate ws.length false)), (1, ⟨some (i9, 0), ws.length⟩, unats r), (1, ⟨some (i7, 0), ws.length⟩, nats q)] := he3 ▸ o.new hn3 (by rw [bools_length]; simp)
    refine spec28 hI (o3.at_ (sz := 1) (s := ⟨some (i7, 0), ws.length⟩) (cs := nats q) (by simp)) (by omega) (by omega) ⟨_, rfl, ?_⟩
    have ew : IntKind.i64.wrap ((c : Int) - (q.sum : Nat)) = ((c - q.sum : Nat) : Int) := by rw [w64] <;> omega
    rw [ew]
    have ne1 : i27 ≠ i9 := o3.ne (q := (1, ⟨some (i9, 0), ws.length⟩, unats r)) (by simp) rfl rfl
    have p1 : ∀ a b c : Ow, [a, b, c].Perm [c, b, a] := fun a b c => List.reverse_perm [c, b, a]
    refine loopK_intro (fun (a : Int) h' m => ∃ k : Nat, k ≤ c - q.sum ∧ a = ((c - q.sum - k : Nat) : Int) ∧ c - q.sum - k = m ∧
        Owns h h' [(1, ⟨some (i27, 0), ws.length⟩, bools (givenK r k)), (1, ⟨some (i9, 0), ws.length⟩, unats r), (1, ⟨some (i7, 0), ws.length⟩, nats (dealtK q r k))]) (c - q.sum)
      ⟨0, by omega, rfl, rfl, by rw [dealtK_zero, givenK_zero, hRS]; exact o3⟩ ?_
    rintro a h4 m ⟨k, hk, rfl, rfl, o4⟩
    refine ifT_dec (fun hlt => ?_) (fun hge => ?_)
    · have hkn : k < r.length := by omega
      have hgB := (o4.block (sz := 1) (i := i27) (n := ws.length) (cs := bools (givenK r k)) (by simp)).1
      have hgR := (o4.block (sz := 1) (i := i9) (n := ws.length) (cs := unats r) (by simp)).1
      refine loopK_intro (fun (a : Int × Int) h5 m => h5 = h4 ∧ ∃ i : Nat, i ≤ ws.length ∧ a.2 = (i : Int) ∧ ws.length - i = m ∧
          ((a.1 = -1 ∧ ∀ j, j < i → rank r j < k) ∨ ∃ b : Nat, a.1 = (b : Int) ∧ b < i ∧ k ≤ rank r b ∧ ∀ j, j < i → k ≤ rank r j → beats r j b = false)) ws.length
        ⟨rfl, 0, by omega, rfl, rfl, .inl ⟨rfl, fun j hj => by omega⟩⟩ ?_
      rintro ⟨best, y⟩ h5 m ⟨rfl, i, hi, rfl, rfl, hinv⟩
      simp only at hinv
      dsimp only [uncur]
      have wi : IntKind.i64.wrap ((i : Int) + 1) = ((i + 1 : Nat) : Int) := by rw [w64] <;> omega
      have eo : 0 + (i : Int).toNat * 1 = i := by simp
      refine ifT_dec (fun hlt2 => ?_) (fun hge2 => ?_)
      · have hil : i < r.length := by omega
        have gi : r[i]? = some (at_ r i) := by rw [List.getElem?_eq_getElem hil, at_some (List.getElem?_eq_getElem hil)]
        rw [eo, wi]
        refine ⟨⟨by omega, by omega⟩, _, read_cell hgR (unats_get gi), ⟨by omega, by omega⟩, _, read_cell hgB (bools_get (givenK_get hil)), ifT_intro (fun hng => ?_) (fun hg => ?_)⟩
        · have hri : k ≤ rank r i := by simp at hng; omega
          rcases hinv with ⟨rfl, hall'⟩ | ⟨b, rfl, hb, hbr, hbest⟩
          · refine ifT_dec (fun _ => ⟨ws.length - (i + 1), by omega, rfl, i + 1, by omega, rfl, rfl, .inr ⟨i, rfl, by omega, hri, fun j hj hjk => ?_⟩⟩) fun h => absurd (show (-1 : Int) < 0 by decide) h
            rcases Nat.lt_or_ge j i with h1 | h1
            · have := hall' j h1; omega
            · have : j = i := by omega
              subst this; exact beats_irrefl _ _
          · have hbl : b < r.length := by omega
            have gb : r[b]? = some (at_ r b) := by rw [List.getElem?_eq_getElem hbl, at_some (List.getElem?_eq_getElem hbl)]
            have eb : 0 + (b : Int).toNat * 1 = b := by simp
            refine ifT_dec (fun h => by omega) fun _ => ⟨⟨by omega, by omega⟩, _, by rw [eb]; exact read_cell hgR (unats_get gb), ?_⟩
            refine ifT_dec (fun hgt => ?_) fun hle => ifT_intro (fun h => by cases h) fun _ => ?_
            · refine ⟨ws.length - (i + 1), by omega, rfl, i + 1, by omega, rfl, rfl, .inr ⟨i, rfl, by omega, hri, fun j hj hjk => ?_⟩⟩
              rcases Nat.lt_or_ge j i with h1 | h1
              · have h2 := hbest j h1 hjk
                cases h3 : beats r j i with
                | false => rfl
                | true =>
                  have h4 : beats r j b = true := by rw [beats_iff] at h3 ⊢; omega
                  rw [h4] at h2; cases h2
              · have : j = i := by omega
                subst this; exact beats_irrefl _ _
            · refine ⟨ws.length - (i + 1), by omega, rfl, i + 1, by omega, rfl, rfl, .inr ⟨b, rfl, by omega, hbr, fun j hj hjk => ?_⟩⟩
              rcases Nat.lt_or_ge j i with h1 | h1
              · exact hbest j h1 hjk
              · have : j = i := by omega
                subst this
                cases h3 : beats r j b with
                | false => rfl
                | true => rw [beats_iff] at h3; omega
        · have hri : rank r i < k := by simpa using hg
          refine ⟨ws.length - (i + 1), by omega, rfl, i + 1, by omega, rfl, rfl, ?_⟩
          rcases hinv with ⟨rfl, hall'⟩ | ⟨b, rfl, hb, hbr, hbest⟩
          · refine .inl ⟨rfl, fun j hj => ?_⟩
            rcases Nat.lt_or_ge j i with h1 | h1
            · exact hall' j h1
            · have : j = i := by omega
              subst this; exact hri
          · refine .inr ⟨b, rfl, by omega, hbr, fun j hj hjk => ?_⟩
            rcases Nat.lt_or_ge j i with h1 | h1
            · exact hbest j h1 hjk
            · have : j = i := by omega
              subst this; omega
      · have : i = ws.length := by omega
        subst this
        obtain ⟨b, rfl, hb, hbr, hbest⟩ : ∃ b : Nat, best = (b : Int) ∧ b < ws.length ∧ k ≤ rank r b ∧ ∀ j, j < ws.length → k ≤ rank r j → beats r j b = false := by
          rcases hinv with ⟨_, hall'⟩ | hx
          · exfalso
            obtain ⟨e, he, hre⟩ := rank_surj (rs := r) hkn
            have := hall' e (by omega)
            omega
          · exact hx
        clear hinv wi eo
        have hrank : rank r b = k := best_rank hkn (by omega) hbr fun j hj hjk => hbest j (by omega) hjk
        have hqb : q[b]? = some (at_ q b) := by rw [List.getElem?_eq_getElem (by omega), at_some (List.getElem?_eq_getElem (show b < q.length by omega))]
        have hdb : (dealtK q r k)[b]? = some (at_ q b) := by rw [dealtK_get (by omega), hrank]; simp
        have hqc : at_ q b ≤ c := by
          have := mem_le_sum (List.mem_of_getElem? hqb)
          omega
        have eb : 0 + (b : Int).toNat * 1 = b := by simp
        have ew1 : IntKind.i64.wrap ((at_ q b : Int) + 1) = ((at_ q b + 1 : Nat) : Int) := by rw [w64] <;> omega
        have ew2 : IntKind.i64.wrap (((c - q.sum - k : Nat) : Int) - 1) = ((c - q.sum - (k + 1) : Nat) : Int) := by rw [w64] <;> omega
        have o5 := o4.perm (p1 _ _ _)
        rw [eb, ew2]
        refine ⟨⟨by omega, by omega⟩, _, read_cell (o5.block List.mem_cons_self).1 (nats_get hdb), ⟨by omega, by omega⟩, storeK_one (o5.block List.mem_cons_self).1 (by rw [nats_length, dealtK_length]; omega) ⟨⟨by omega, by omega⟩, ?_⟩⟩
        rw [ew1, nats_set, dealtK_step (by omega) (by omega) hrank]
        have o6 := (o5.change (n' := ws.length) (sz' := 1) (cs' := nats (dealtK q r (k + 1))) (by rw [nats_length, dealtK_length]; omega)).perm (p1 _ _ _)
        refine storeK_one (o6.block List.mem_cons_self).1 (by rw [bools_length, givenK_length]; omega) ⟨c - q.sum - (k + 1), by omega, k + 1, by omega, rfl, rfl, ?_⟩
        rw [bools_set, givenK_step (by omega) hrank]
        exact o6.change (by rw [bools_length, givenK_length]; omega)
    · have hk2 : k = c - q.sum := by omega
      subst hk2
      refine hQ _ _ o4.ext ?_
      have := o4.at_ (sz := 1) (s := ⟨some (i7, 0), ws.length⟩) (cs := nats (dealtK q r (c - q.sum))) (by simp)
      unfold shared
      rw [hall, hq, hr]
      exact this
end
end Go.Proofs.YtohdelegimcceaaVc
-- from SpSort
namespace Go.Proofs.YtohdelegimcceaaVc
open Go.Proofs.Try (prog)
section
variable {I : Calls} {Q : Post} {h : Heap}
/-- The row that is sorted holds ys; all else is as it was, or new. -/
def PSt (h : Heap) (blk : Nat) (ys : List Int) (h' : Heap) : Prop := h' blk = some (.cells false (ints ys)) ∧ ∀ j o, j ≠ blk → h j = some o → h' j = some o
theorem PSt.ext {h h1 h2 : Heap} {blk : Nat} {ys : List Int} (p : PSt h blk ys h1) (he : Ext h1 h2) : PSt h blk ys h2 := ⟨he _ _ p.1, fun j o hj hx => he _ _ (p.2 j o hj hx)⟩
theorem PSt.set {h h1 : Heap} {blk : Nat} {ys zs : List Int} (p : PSt h blk ys h1) : PSt h blk zs (h1.set blk (.cells false (ints zs))) := ⟨set_eq _ _ _, fun j o hj hx => by rw [set_ne _ _ hj]; exact p.2 j o hj hx⟩
/-- What a comparison tells, whatever the row that is sorted holds. -/
def TellsE (I : Calls) (h : Heap) (blk : Nat) (g : FuncId) (caps : List (Nat × Nat)) (xs : List Int) (lt : Int → Int → Bool) : Prop :=
  ∀ a b, a ∈ xs → b ∈ xs → ∀ (h' : Heap) (Q' : Post), (∃ ys, PSt h blk ys h') → (∀ (c : Int) h'', Ext h' h'' → (c < 0 ↔ lt a b = true) → Q' [int c] h'') → I g (int a :: int b :: caps.map fun a => .one (.ptr (some a))) Q' h'
theorem spec47e (hI : Closed' prog Pm I) {blk : Nat} {g : FuncId} {caps : List (Nat × Nat)} {xs : List Int} {lt : Int → Int → Bool} (R : Int → Int → Prop) (hb : h blk = some (.cells false (ints xs))) (hlen : xs.length < 1000)
    (hc : TellsE I h blk g caps xs lt) (hR : xs.Pairwise fun a b => (lt b a = true → R b a) ∧ (lt b a = false → R a b)) (hT : ∀ a b c, a ∈ xs → b ∈ xs → c ∈ xs → R a b → R b c → R a c)
    (hQ : ∀ ys h', ys.Perm xs → ys.Pairwise R → PSt h blk ys h' → Q [] h') :
    I 47 [.one (.slice 1 ⟨some (blk, 0), xs.length⟩), int 0, int xs.length, .one (.func (some (g, caps)))] Q h := by
  refine hI.go _ _ (den47 I _ _ _ _ Q) ?_
  have e0 : IntKind.i64.wrap ((0 : Int) + 1) = 1 := by decide
  unfold vc47
  rw [e0]
  refine loopK_intro (fun (a : Int) h' m => ∃ k : Nat, 1 ≤ k ∧ (k ≤ xs.length ∨ k = 1) ∧ a = k ∧ xs.length - k = m ∧ ∃ ys, ys.Perm (xs.take k) ∧ ys.Pairwise R ∧ PSt h blk (ys ++ xs.drop k) h') (xs.length - 1)
    ⟨1, by omega, .inr rfl, rfl, rfl, xs.take 1, List.Perm.refl _, ?_, by rw [List.take_append_drop]; exact ⟨hb, fun _ _ _ h => h⟩⟩ ?_
  · cases xs with
    | nil => exact List.Pairwise.nil
    | cons x xs => simp
  rintro a h' m ⟨k, hk1, hk2, rfl, rfl, ys, hperm, hpw, hst⟩
  refine ifT_dec (fun hlt => ?_) (fun hge => ?_)
  · have hkl : k < xs.length := by omega
    have hx : xs[k]? = some xs[k] := List.getElem?_eq_getElem hkl
    have hxm : xs[k] ∈ xs := List.getElem_mem hkl
    generalize xs[k] = x at hx hxm
    have hyl : ys.length = k := by rw [hperm.length_eq, List.length_take]; omega
    have hysub : ∀ d ∈ ys, d ∈ xs := fun d hd => List.mem_of_mem_take (hperm.mem_iff.1 hd)
    have hyx : ∀ d ∈ ys, (lt x d = true → R x d) ∧ (lt x d = false → R d x) := fun d hd => pairwise_take hR hx d (hperm.mem_iff.1 hd)
    refine loopK_intro (fun (a : Int) h'' m => ∃ pre post, a = (pre.length : Nat) ∧ pre.length = m ∧ pre ++ post = ys ∧ (∀ d ∈ post, R x d) ∧ PSt h blk (pre ++ x :: (post ++ xs.drop (k + 1))) h'') k
      ⟨ys, [], by rw [hyl], hyl, by simp, by simp, by rw [drop_mid hx] at hst; exact hst⟩ ?_
    rintro a h'' m ⟨pre, post, rfl, rfl, hpp, hpost, hs2⟩
    have hpl : pre.length + post.length = k := by rw [← hyl, ← hpp, List.length_append]
    have hlenL : (pre ++ x :: (post ++ xs.drop (k + 1))).length = xs.length := by simp; omega
    refine joinK_intro (fun (b : Bool) h3 => PSt h blk (pre ++ x :: (post ++ xs.drop (k + 1))) h3 ∧ (b = true → ∃ pre' d, pre = pre' ++ [d] ∧ lt x d = true) ∧ (b = false → pre = [] ∨ ∃ pre' d, pre = pre' ++ [d] ∧ lt x d = false)) ?_ ?_
    · rintro b h3 ⟨hs3, hb1, hb2⟩
      refine ifT_intro (fun hbt => ?_) (fun hbf => ?_)
      · obtain ⟨pre', d, rfl, hlt2⟩ := hb1 hbt
        have hd : d ∈ ys := by rw [← hpp]; simp
        simp only [List.length_append, List.length_singleton] at hpl ⊢
        have ew : IntKind.i64.wrap (((pre'.length + 1 : Nat) : Int) - 1) = (pre'.length : Int) := by rw [w64] <;> omega
        simp only [ew]
        simp only [List.append_assoc, List.singleton_append] at hs3
        have g1 : (ints (pre' ++ d :: x :: (post ++ xs.drop (k + 1))))[0 + (pre'.length : Int).toNat * 1]? = some (.int .i64 d) := by
          simp only [Int.toNat_natCast, Nat.mul_one, Nat.zero_add]
          exact ints_get (get_mid _ _ _)
        have g2 : (ints (pre' ++ d :: x :: (post ++ xs.drop (k + 1))))[0 + ((pre'.length + 1 : Nat) : Int).toNat * 1]? = some (.int .i64 x) := by
          simp only [Int.toNat_natCast, Nat.mul_one, Nat.zero_add]
          refine ints_get ?_
          simp
        refine ⟨⟨by omega, by simp; omega⟩, derefK_intro rfl ⟨_, read_cell hs3.1 g1, ⟨by omega, by simp; omega⟩, derefK_intro rfl ⟨_, read_cell hs3.1 g2, ⟨by omega, by simp; omega⟩, derefK_intro rfl (storeK_one hs3.1 ?_ ⟨⟨by omega, by simp; omega⟩, derefK_intro rfl (storeK_one (set_eq _ _ _) ?_ ?_)⟩)⟩⟩⟩
        · simp [ints]
        · simp [ints]
        · refine ⟨pre'.length, by omega, pre', d :: post, rfl, rfl, by rw [← hpp]; simp, fun e he => ?_, ?_⟩
          · rcases List.mem_cons.1 he with rfl | he
            · exact (hyx _ hd).1 hlt2
            · exact hpost e he
          · rw [set_set, ints_set, ints_set]
            simp only [Int.toNat_natCast, Nat.mul_one, Nat.zero_add]
            have s1 : (pre' ++ d :: x :: (post ++ xs.drop (k + 1))).set (pre'.length + 1) d = pre' ++ d :: d :: (post ++ xs.drop (k + 1)) := by
              simp
            rw [s1, set_mid']
            exact hs3.set
      · refine ⟨xs.length - (k + 1), by omega, k + 1, by omega, .inl hkl, ?_, rfl, pre ++ x :: post, ?_, ?_, ?_⟩
        · rw [w64] <;> omega
        · rw [take_mid hx]
          exact (List.perm_middle.trans ((hpp ▸ hperm).cons x)).trans (List.perm_append_singleton x (xs.take k)).symm
        · refine placed (hpp ▸ hpw) ?_ hpost
          rcases hb2 hbf with rfl | ⟨pre', d, rfl, hlt2⟩
          · simp
          · have hd : d ∈ ys := by rw [← hpp]; simp
            refine before_all (post := post) (hpp ▸ hpw) (fun e he hed => ?_) ((hyx d hd).2 hlt2)
            have hey : e ∈ ys := by rw [← hpp]; simp [he]
            exact hT e d x (hysub e hey) (hysub d hd) hxm hed ((hyx d hd).2 hlt2)
        · simpa using hs3
    · intro j hj
      refine ifT_dec (fun hgt => ?_) (fun hle => hj _ _ ⟨hs2, (fun h => by cases h), fun _ => .inl (List.length_eq_zero_iff.1 (by omega))⟩)
      obtain ⟨pre', d, rfl⟩ : ∃ pre' d, pre = pre' ++ [d] := ⟨pre.dropLast, pre.getLast (by intro e; subst e; simp at hgt), (List.dropLast_concat_getLast _).symm⟩
      have hd : d ∈ ys := by rw [← hpp]; simp
      simp only [List.length_append, List.length_singleton] at hpl hgt hj ⊢
      have ew : IntKind.i64.wrap (((pre'.length + 1 : Nat) : Int) - 1) = (pre'.length : Int) := by rw [w64] <;> omega
      simp only [ew]
      simp only [List.append_assoc, List.singleton_append] at hj hs2
      have g1 : (ints (pre' ++ d :: x :: (post ++ xs.drop (k + 1))))[0 + (pre'.length : Int).toNat * 1]? = some (.int .i64 d) := by
        simp only [Int.toNat_natCast, Nat.mul_one, Nat.zero_add]
        exact ints_get (get_mid _ _ _)
      have g2 : (ints (pre' ++ d :: x :: (post ++ xs.drop (k + 1))))[0 + ((pre'.length + 1 : Nat) : Int).toNat * 1]? = some (.int .i64 x) := by
        simp only [Int.toNat_natCast, Nat.mul_one, Nat.zero_add]
        refine ints_get ?_
        simp
      refine ⟨⟨by omega, by simp; omega⟩, derefK_intro rfl ⟨_, read_cell hs2.1 g2, ⟨by omega, by simp; omega⟩, derefK_intro rfl ⟨_, read_cell hs2.1 g1, ?_⟩⟩⟩
      refine hc x d hxm (hysub d hd) _ _ ⟨_, hs2⟩ fun c h4 he hcc => ⟨c, rfl, hj _ _ ⟨hs2.ext he, fun h => ⟨pre', d, rfl, hcc.1 (of_decide_eq_true h)⟩, fun h => .inr ⟨pre', d, rfl, ?_⟩⟩⟩
      cases hl : lt x d with
      | false => rfl
      | true => exact absurd (hcc.2 hl) (of_decide_eq_false h)
  · have hnl : xs.length ≤ k := by omega
    have : xs.drop k = [] := List.drop_eq_nil_of_le hnl
    rw [this, List.append_nil] at hst
    rw [List.take_of_length_le hnl] at hperm
    exact hQ ys h' hperm hpw hst
theorem spec37 (hI : Closed' prog Pm I) {blk : Nat} {g : FuncId} {caps : List (Nat × Nat)} {xs : List Int} {lt : Int → Int → Bool} (R : Int → Int → Prop) (hb : h blk = some (.cells false (ints xs))) (h0 : 0 < xs.length) (hlen : xs.length ≤ 12)
    (hc : TellsE I h blk g caps xs lt) (hR : xs.Pairwise fun a b => (lt b a = true → R b a) ∧ (lt b a = false → R a b)) (hT : ∀ a b c, a ∈ xs → b ∈ xs → c ∈ xs → R a b → R b c → R a c)
    (hQ : ∀ ys h', ys.Perm xs → ys.Pairwise R → PSt h blk ys h' → Q [] h') :
    I 37 [.one (.slice 1 ⟨some (blk, 0), xs.length⟩), .one (.func (some (g, caps)))] Q h := by
  refine hI.go _ _ (den37 I _ _ Q) ?_
  show I 44 [u64 (IntKind.u64.wrap (xs.length : Nat))] _ h
  rw [wN _ (by omega)]
  refine hI.go _ _ (den44 I _ _) ?_
  refine spec56g hI h0 (by omega) fun len _ _ _ => ⟨_, rfl, _, rfl, ?_⟩
  refine hI.go _ _ (den43 I _ _ _ _ _ _) ?_
  refine loopK_intro (fun (a : Int × Int × Int × Bool × Bool) h' m => h' = h ∧ a = (0, (xs.length : Int), (len : Int), true, true)) 0 ⟨rfl, rfl⟩ ?_
  rintro a h' m ⟨rfl, rfl⟩
  dsimp only [uncur]
  have ew : IntKind.i64.wrap ((xs.length : Int) - 0) = xs.length := by rw [w64] <;> omega
  rw [ew]
  exact ifT_dec (fun _ => spec47e hI R hb (by omega) hc hR hT fun ys h2 h3 h4 h5 => ⟨rfl, rfl, hQ ys h2 h3 h4 h5⟩) fun hle => by omega
end
end Go.Proofs.YtohdelegimcceaaVc
-- from SpSpec1
namespace Go.Proofs.YtohdelegimcceaaVc
open Go.Proofs.YtohdelegimcceaaShares
open Go.Proofs.Try (prog)
section
variable {I : Calls} {Q : Post} {h : Heap}
theorem spec20 (hI : Closed' prog Pm I) {n a b : Int} (hQ : Q [boo (decide (a ≤ n) && decide (n ≤ b))] h) : I 20 [int n, int a, int b] Q h := by
  refine hI.go _ _ (den20 I n a b Q) ?_
  refine ifT_dec (fun h1 => ?_) (fun h1 => ?_)
  · simpa [h1] using hQ
  · simpa [h1] using hQ
theorem spec34 (hI : Closed' prog Pm I) {a b : Nat} (hQ : Q [u64 (Nat.gcd a b : Nat)] h) : I 34 [u64 a, u64 b] Q h := by
  refine hI.go _ _ (den34 I a b Q) ?_
  refine loopK_intro (fun (p : Int × Int) h' m => h' = h ∧ ∃ x y : Nat, p = ((x : Int), (y : Int)) ∧ y = m ∧ Nat.gcd x y = Nat.gcd a b) b ⟨rfl, a, b, rfl, rfl, rfl⟩ ?_
  rintro p h' m ⟨rfl, x, y, rfl, rfl, hg⟩
  dsimp only [uncur]
  refine ifT_intro (fun h1 => ?_) fun h1 => ?_
  · have h2 : ¬ (y : Int) = 0 := by simpa using h1
    refine ⟨h2, x % y, Nat.mod_lt _ (by omega), rfl, y, x % y, by rw [Int.ofNat_tmod], rfl, ?_⟩
    rw [← hg, Nat.gcd_comm x y, Nat.gcd_rec y x, Nat.gcd_comm]
  · have h2 : y = 0 := by have : (y : Int) = 0 := by simpa using h1
                          omega
    subst h2
    rw [Nat.gcd_zero_right] at hg
    subst hg
    exact hQ
theorem spec35 (hI : Closed' prog Pm I) {n : Nat} (h1 : n < 4611686018427387904) (hQ : Q [u64 n] h) : I 35 [int n] Q h := by
  refine hI.go _ _ (den35 I n Q) ?_
  refine ifT_dec (fun h2 => by omega) fun _ => ?_
  rw [wN n (by omega)]
  exact hQ
abbrev frac (a b : Int) : V := .agg [.int .i64 a, .int .i64 b]
theorem spec25 (hI : Closed' prog Pm I) {a b : Nat} (h1 : a < 4611686018427387904) (h2 : b < 4611686018427387904) (h3 : 0 < b) (hQ : Q [frac (a / Nat.gcd a b : Nat) (b / Nat.gcd a b : Nat)] h) : I 25 [int a, int b] Q h := by
  refine hI.go _ _ (den25 I a b Q) ?_
  refine joinK_intro (fun (p : Int × Int) h' => h' = h ∧ p = ((a : Int), (b : Int))) ?_ fun j hj => ifT_dec (fun h => by omega) fun _ => hj _ _ ⟨rfl, rfl⟩
  rintro p h' ⟨rfl, rfl⟩
  dsimp only [uncur]
  have hg1 : 0 < Nat.gcd a b := Nat.gcd_pos_of_pos_right _ h3
  have hg2 : Nat.gcd a b ≤ b := Nat.gcd_le_right _ h3
  refine spec35 hI h1 ⟨_, rfl, spec35 hI h2 ⟨_, rfl, spec34 hI ⟨_, rfl, ?_⟩⟩⟩
  generalize Nat.gcd a b = g at *
  have e1 : IntKind.i64.wrap (g : Int) = g := w64 (by omega) (by omega)
  have la : a / g ≤ a := Nat.div_le_self _ _
  have lb : b / g ≤ b := Nat.div_le_self _ _
  have e2 : IntKind.i64.wrap ((a : Int).tdiv g) = (a / g : Nat) := by rw [← Int.ofNat_tdiv]; generalize a / g = z at *; exact w64 (by omega) (by omega)
  have e3 : IntKind.i64.wrap ((b : Int).tdiv g) = (b / g : Nat) := by rw [← Int.ofNat_tdiv]; generalize b / g = z at *; exact w64 (by omega) (by omega)
  rw [e1, e2, e3]
  exact ⟨by omega, by omega, hQ⟩
theorem sum_step {xs : List Nat} {i : Nat} (h : i < xs.length) : (xs.take (i + 1)).sum = (xs.take i).sum + xs[i] := by
  rw [List.take_add_one, List.getElem?_eq_getElem h]
  show (xs.take i ++ [xs[i]]).sum = _
  rw [List.sum_append]; simp
theorem spec24 (hI : Closed' prog Pm I) {s : Sl} {xs : List Nat} (hs : At h 1 s (nats xs)) (hlen : xs.length < 1000000) (hsum : xs.sum < 4611686018427387904) (hQ : Q [int (xs.sum : Nat)] h) : I 24 [.one (.slice 1 s)] Q h := by
  have hl : s.len = xs.length := by rw [hs.len1, nats_length]
  refine hI.go _ _ (den24 I s Q) ?_
  refine loopK_intro (fun (a : Int × Int) h' m => h' = h ∧ ∃ i : Nat, i ≤ xs.length ∧ a = ((((xs.take i).sum : Nat) : Int), (i : Int)) ∧ xs.length - i = m) xs.length ⟨rfl, 0, by omega, rfl, rfl⟩ ?_
  rintro a h' m ⟨rfl, i, hi, rfl, rfl⟩
  dsimp only [uncur]
  refine ifT_dec (fun hlt => ⟨⟨by omega, hlt⟩, ?_⟩) (fun hge => ?_)
  · have hil : i < xs.length := by omega
    refine hs.cell (nats_get (List.getElem?_eq_getElem hil)) fun b o hr => ⟨_, hr, xs.length - (i + 1), by omega, rfl, i + 1, by omega, ?_, rfl⟩
    have h2 := take_sum_le xs (i + 1)
    rw [sum_step hil] at h2 ⊢
    generalize (xs.take i).sum = y at *
    generalize xs[i] = x at *
    rw [w64 (by omega) (by omega), w64 (by omega) (by omega)]
    rfl
  · have : i = xs.length := by omega
    subst this
    rw [List.take_length]
    exact hQ
/-! ### weights -/
abbrev okW (w : Int) : Prop := 0 ≤ w ∧ w ≤ 1000000
def errW (xs : List Int) : Int := if 12 < xs.length then 2 else if ∃ w ∈ xs, ¬ okW w then 1 else if ∀ w ∈ xs, w = 0 then 8 else 0
structure RightW (xs : List Int) (ws : List Nat) : Prop where
  xs : xs = ws.map fun n : Nat => (n : Int)
  ws1 : ∀ w ∈ ws, w ≤ 1000000
  pos : 0 < ws.sum
  len : ws.length ≤ 12
theorem spec23 (hI : Closed' prog Pm I) {s : Sl} {xs : List Int} (hs : At h 1 s (ints xs)) (hQe : errW xs ≠ 0 → Q [int (errW xs)] h) (hQ : errW xs = 0 → RightW xs (xs.map Int.toNat) → Q [int 0] h) : I 23 [.one (.slice 1 s)] Q h := by
  have hl : s.len = xs.length := by rw [hs.len1, ints_length]
  refine hI.go _ _ (den23 I s Q) ?_
  unfold vc23
  rw [hl]
  refine ifT_dec (fun hgt => ?_) fun hgt => ?_
  · have e : errW xs = 2 := by unfold errW; rw [if_pos (by omega)]
    rw [e] at hQe
    exact hQe (by decide)
  have e0 : errW xs = if ∃ w ∈ xs, ¬ okW w then 1 else if ∀ w ∈ xs, w = 0 then 8 else 0 := by unfold errW; rw [if_neg (by omega)]
  refine loopK_intro (fun (a : Int) h'' m => h'' = h ∧ ∃ i : Nat, i ≤ xs.length ∧ a = (i : Int) ∧ xs.length - i = m ∧ ∀ w ∈ xs.take i, okW w) xs.length
    ⟨rfl, 0, by omega, rfl, rfl, by simp⟩ ?_
  rintro a h'' m ⟨rfl, i, hi, rfl, rfl, hall⟩
  refine ifT_dec (fun hlt => ⟨⟨by omega, by omega⟩, ?_⟩) (fun hge => ?_)
  · have hx := List.getElem?_eq_getElem (show i < xs.length by omega)
    have hxm : xs[i] ∈ xs := List.getElem_mem _
    generalize xs[i] = x at hx hxm
    have htk : xs.take (i + 1) = xs.take i ++ [x] := by rw [List.take_add_one, hx]; rfl
    refine hs.cell (ints_get hx) fun bb o hr => ⟨x, hr, spec20 hI ⟨_, rfl, ifT_intro (fun hb => ?_) fun hb => ?_⟩⟩
    · have hno : ¬ okW x := by simp at hb; unfold okW; omega
      have e : errW xs = 1 := by rw [e0, if_pos ⟨x, hxm, hno⟩]
      rw [e] at hQe
      exact hQe (by decide)
    · have hyx : okW x := by simp at hb; unfold okW; omega
      refine ⟨xs.length - (i + 1), by omega, rfl, i + 1, by omega, by rw [w64] <;> omega, rfl, fun w hw => ?_⟩
      rw [htk] at hw
      rcases List.mem_append.1 hw with hw | hw
      · exact hall w hw
      · have : w = x := by simpa using hw
        rw [this]; exact hyx
  · have : i = xs.length := by omega
    subst this
    rw [List.take_length] at hall
    have hno : ¬ ∃ w ∈ xs, ¬ okW w := fun ⟨w, hw, h⟩ => h (hall w hw)
    have hxs : xs = (xs.map Int.toNat).map fun n : Nat => (n : Int) := by
      rw [List.map_map]
      conv => lhs; rw [← List.map_id xs]
      refine List.map_congr_left fun y hy => ?_
      have := hall y hy
      exact (Int.toNat_of_nonneg this.1).symm
    have hs' := hs
    rw [hxs, ← nats_ints] at hs'
    have hb1 : ∀ w ∈ xs.map Int.toNat, w ≤ 1000000 := fun w hw => by
      obtain ⟨y, hy, rfl⟩ := List.mem_map.1 hw
      have := hall y hy
      omega
    have hb2 := sum_le hb1
    rw [List.length_map] at hb2
    refine spec24 hI hs' (by simp; omega) (by omega) ⟨_, rfl, ?_⟩
    refine ifT_dec (fun hz => ?_) fun hz => ?_
    · have hz' : ∀ w ∈ xs, w = 0 := fun w hw => by
        have h5 := mem_le_sum (List.mem_map.2 ⟨w, hw, rfl⟩ : w.toNat ∈ xs.map Int.toNat)
        have := hall w hw
        omega
      have e : errW xs = 8 := by rw [e0, if_neg hno, if_pos hz']
      rw [e] at hQe
      exact hQe (by decide)
    · have hnz : ¬ ∀ w ∈ xs, w = 0 := fun h => by
        apply hz
        have : (xs.map Int.toNat).sum ≤ 0 * (xs.map Int.toNat).length := sum_le fun w hw => by
          obtain ⟨y, hy, rfl⟩ := List.mem_map.1 hw
          rw [h y hy]; exact Nat.le_refl _
        omega
      have e : errW xs = 0 := by rw [e0, if_neg hno, if_neg hnz]
      exact hQ e ⟨hxs, hb1, by omega, by simp; omega⟩
/-- What is drawn for weights. -/
theorem spec10 (hI : Closed' prog Pm I) {i : Nat} {l : Sl} {zs : List Int} {t : Nat} (S : Strm h i l zs t) (ht : t < 1000)
    (hQ : ∀ s' h' xs, At h' 1 s' (ints xs) → xs.length ≤ 100 → Q [.one (.slice 1 s')] h') : I 10 [.one (.ptr (some (i, 0)))] Q h := by
  refine hI.go _ _ (den10 I _ Q) ?_
  refine spec17 hI S (by decide) (by decide) fun n hn0 hn1 => ⟨n, rfl, ?_⟩
  refine loopK_intro (fun (a : Sl × Int) h' m => ∃ j : Nat, (j : Int) ≤ n ∧ a.2 = j ∧ 14 - j = m ∧ ∃ xs, xs.length = j ∧ Owns (h.del i) h' [(1, a.1, ints xs), owS i l (t + 1 + j)]) 14
    ⟨0, by omega, rfl, rfl, [], rfl, (S.owns.next (t' := t + 1)).none_ 1⟩ ?_
  rintro ⟨s, y⟩ h' m ⟨j, hj, rfl, rfl, xs, hxl, o⟩
  dsimp only [uncur]
  refine ifT_dec (fun hlt => ?_) (fun hge => ?_)
  · refine newK_intro fun i9 h2 hn2 he2 => ?_
    have o2 : Owns (h.del i) h2 _ := o.mono (he2 ▸ Ext.new hn2)
    have S2 := o2.toStrm S (t' := t + 1 + j) (by simp) (by omega)
    have hne : i9 ≠ i := fun e => by subst e; rw [o.strmCell (l := l) (t := t + 1 + j) (by simp)] at hn2; cases hn2
    have hlit : At (h2.set i (strm l (t + 1 + j + 1))) 1 ⟨some (i9, 0), 7⟩ (ints [0, 1, 1, 2, 3, 262144, 1000000]) := by
      refine ⟨rfl, .inr ?_⟩
      show (h2.set i _).read i9 0 7 = _
      unfold Heap.read
      rw [set_ne _ _ hne, he2, set_eq]
      rfl
    refine spec5 hI S2 hlit (by decide) (by decide) fun v hv => ⟨v, rfl, ?_⟩
    have o3 := ((o2.perm (List.Perm.swap _ _ _)).next (t' := t + 1 + j + 1)).perm (List.Perm.swap _ _ _)
    refine appendTo_owns (m := 0) o3 (by rfl) ?_ (by simp) fun b h4 o4 => ⟨14 - (j + 1), by omega, j + 1, by omega, ?_, rfl, xs ++ [v], by simp [hxl], by rw [show t + 1 + (j + 1) = t + 1 + j + 1 from rfl]; simpa [ints] using o4⟩
    · have := o.slen (s := s) List.mem_cons_self
      rw [ints_length] at this
      omega
    · show IntKind.i64.wrap ((j : Int) + 1) = _
      rw [w64] <;> omega
  · have S2 := o.toStrm S (t' := t + 1 + j) (by simp) (by omega)
    refine spec18 hI S2 (by decide) (by decide) fun b => ⟨b, rfl, ?_⟩
    have o3 := ((o.perm (List.Perm.swap _ _ _)).next (t' := t + 1 + j + 1)).perm (List.Perm.swap _ _ _)
    refine ifT_intro (fun _ => ?_) fun _ => hQ _ _ _ (o3.at_ List.mem_cons_self) (by omega)
    refine newK_intro fun i9 h4 hn4 he4 => ?_
    have o4 := o3.mono (he4 ▸ Ext.new hn4 : Ext _ h4)
    have S4 := o4.toStrm S (t' := t + 1 + j + 1) (by simp) (by omega)
    have hne : i9 ≠ i := fun e => by subst e; rw [o3.strmCell (l := l) (t := t + 1 + j + 1) (by simp)] at hn4; cases hn4
    have hlit : At (h4.set i (strm l (t + 1 + j + 1 + 1))) 1 ⟨some (i9, 0), 2⟩ (ints [-1, 1000001]) := by
      refine ⟨rfl, .inr ?_⟩
      show (h4.set i _).read i9 0 2 = _
      unfold Heap.read
      rw [set_ne _ _ hne, he4, set_eq]
      rfl
    refine spec5 hI S4 hlit (by decide) (by decide) fun v hv => ⟨v, rfl, ?_⟩
    have o5 := ((o4.perm (List.Perm.swap _ _ _)).next (t' := t + 1 + j + 1 + 1)).perm (List.Perm.swap _ _ _)
    have hsl := o.slen (s := s) List.mem_cons_self
    rw [ints_length] at hsl
    refine appendTo_owns (m := 0) o5 (by rfl) (by omega) (by simp) fun b h6 o6 => hQ _ _ (xs ++ [v]) ?_ (by simp; omega)
    have := o6.at_ List.mem_cons_self
    simpa [ints] using this
end
end Go.Proofs.YtohdelegimcceaaVc
-- from SpSpec2
namespace Go.Proofs.YtohdelegimcceaaVc
open Go.Proofs.YtohdelegimcceaaShares
open Go.Proofs.Try (prog)
section
variable {I : Calls} {Q : Post} {h : Heap}
theorem spec45 (hI : Closed' prog Pm I) {n : Int} (hQ : Q [boo false] h) : I 45 [int n] Q h := by
  refine hI.go _ _ (den45 I n Q) ?_
  have e : (!decide (n = n)) = false := by simp
  unfold vc45
  rw [e]
  exact hQ
theorem spec40 (hI : Closed' prog Pm I) {a b : Int} (hQ : ∀ c, (c < 0 ↔ a < b) → (c = 0 ↔ a = b) → Q [int c] h) : I 40 [int a, int b] Q h := by
  refine hI.go _ _ (den40 I a b Q) ?_
  refine spec45 hI ⟨_, rfl, spec45 hI ⟨_, rfl, ifT_intro (fun h => by cases h) fun _ => ifT_intro (fun h => by cases h) fun _ => ?_⟩⟩
  refine ifT_dec (fun h1 => hQ _ (by omega) (by omega)) fun h1 => ifT_dec (fun h2 => hQ _ (by omega) (by omega)) fun h2 => hQ _ (by omega) (by omega)
theorem spec39 (hI : Closed' prog Pm I) {s : Sl} {x y : Int} (hs : At h 1 s (ints [x, y])) (hQ : Q [int (if x = 0 then y else x)] h) : I 39 [.one (.slice 1 s)] Q h := by
  have hl : s.len = 2 := by rw [hs.len1]; rfl
  refine hI.go _ _ (den39 I s Q) ?_
  refine loopK_intro (fun (a : Int) h' m => h' = h ∧ ((a = 0 ∧ m = 2) ∨ (a = 1 ∧ m = 1 ∧ x = 0) ∨ (a = 2 ∧ m = 0 ∧ x = 0 ∧ y = 0))) 2 ⟨rfl, .inl ⟨rfl, rfl⟩⟩ ?_
  rintro a h' m ⟨rfl, ⟨rfl, rfl⟩ | ⟨rfl, rfl, hx⟩ | ⟨rfl, rfl, hx, hy⟩⟩
  · refine ifT_dec (fun hlt => ⟨⟨by omega, hlt⟩, ?_⟩) fun hge => by omega
    refine hs.cell (i := 0) (c := .int .i64 x) rfl fun b o hr => ⟨_, hr, ifT_intro (fun h1 => ?_) fun h1 => ⟨1, by omega, rfl, .inr (.inl ⟨by decide, rfl, by simpa using h1⟩)⟩⟩
    have h2 : x ≠ 0 := by simpa using h1
    rw [if_neg h2] at hQ
    exact hQ
  · refine ifT_dec (fun hlt => ⟨⟨by omega, hlt⟩, ?_⟩) fun hge => by omega
    rw [if_pos hx] at hQ
    refine hs.cell (i := 1) (c := .int .i64 y) rfl fun b o hr => ⟨_, hr, ifT_intro (fun h1 => hQ) fun h1 => ⟨0, by omega, rfl, .inr (.inr ⟨by decide, rfl, hx, by simpa using h1⟩)⟩⟩
  · refine ifT_dec (fun hlt => by omega) fun hge => ?_
    rw [if_pos hx, hy] at hQ
    exact hQ
/-- The comparison: greater rests first, of equal ones the last. -/
theorem spec38 (hI : Closed' prog Pm I) {i3 i5 i11 : Nat} {s : Sl} {ws : List Nat} {c all a b x y : Nat} (h3 : h i3 = some (.cells false [.int .i64 c])) (h5 : h i5 = some (.cells false [.slice 1 s])) (h11 : h i11 = some (.cells false [.int .i64 all]))
    (hs : At h 1 s (nats ws)) (hc : c ≤ 1000000000000) (hw : ∀ w ∈ ws, w ≤ 1000000) (hall : 0 < all) (ha : ws[a]? = some x) (hb : ws[b]? = some y)
    (hQ : ∀ r h', Ext h h' → (r < 0 ↔ (c * y % all < c * x % all ∨ (c * y % all = c * x % all ∧ b < a))) → Q [int r] h') :
    I 38 [int a, int b, .one (.ptr (some (i3, 0))), .one (.ptr (some (i5, 0))), .one (.ptr (some (i11, 0)))] Q h := by
  have hl : s.len = ws.length := by rw [hs.len1, nats_length]
  have ha1 := (List.getElem?_eq_some_iff.1 ha).1
  have hb1 := (List.getElem?_eq_some_iff.1 hb).1
  have hx := hw x (List.mem_of_getElem? ha)
  have hy := hw y (List.mem_of_getElem? hb)
  have m1 : c * x ≤ 1000000000000 * 1000000 := Nat.mul_le_mul hc hx
  have m2 : c * y ≤ 1000000000000 * 1000000 := Nat.mul_le_mul hc hy
  have e1 : (IntKind.i64.wrap ((c : Int) * x)).tmod all = (c * x % all : Nat) := by rw [mN, w64 (by omega) (by omega), ← Int.ofNat_tmod]
  have e2 : (IntKind.i64.wrap ((c : Int) * y)).tmod all = (c * y % all : Nat) := by rw [mN, w64 (by omega) (by omega), ← Int.ofNat_tmod]
  refine hI.go _ _ (den38 I a b i3 0 i5 0 i11 0 Q) ?_
  refine ⟨_, read_cell h3 rfl, _, read_cell h5 rfl, ⟨by omega, by omega⟩, hs.cell (nats_get hb) fun _ _ hr => ⟨_, hr, _, read_cell h11 rfl, by omega, _, read_cell h3 rfl, _, read_cell h5 rfl, ⟨by omega, by omega⟩, hs.cell (nats_get ha) fun _ _ hr => ⟨_, hr, _, read_cell h11 rfl, by omega, ?_⟩⟩⟩
  rw [e1, e2]
  refine spec40 hI fun r1 hr1 hr1' => ⟨_, rfl, spec40 hI fun r2 hr2 hr2' => ⟨_, rfl, newK_intro fun i29 h2 hn he => ?_⟩⟩
  have hlit : At h2 1 ⟨some (i29, 0), 2⟩ (ints [r1, r2]) := block_at (by rw [he, set_eq]; rfl) rfl
  refine spec39 hI hlit ⟨_, rfl, hQ _ _ (he ▸ Ext.new hn) ?_⟩
  generalize c * y % all = u at *
  generalize c * x % all = v at *
  split <;> omega
theorem sum_set : ∀ (l : List Nat) (i x v : Nat), l[i]? = some x → (l.set i v).sum + x = l.sum + v
  | [], i, _, _, h => by simp at h
  | y :: l, 0, x, v, h => by
    simp only [List.getElem?_cons_zero, Option.some.injEq] at h
    subst h
    simp only [List.set_cons_zero, List.sum_cons]; omega
  | y :: l, i + 1, x, v, h => by
    have := sum_set l i x v (by simpa using h)
    simp only [List.set_cons_succ, List.sum_cons]; omega
theorem spec29 (hI : Closed' prog Pm I) {s : Sl} {c : Nat} {ws : List Nat} (hs : At h 1 s (nats ws)) (hc : c ≤ 1000000000000) (hw : ∀ w ∈ ws, w ≤ 1000000) (hpos : 0 < ws.sum) (hlen : ws.length ≤ 12)
    (hQ : ∀ s' h' xs, Ext h h' → At h' 1 s' (nats xs) → xs.length = ws.length → xs.sum = c → Q [.one (.slice 1 s')] h') : I 29 [int c, .one (.slice 1 s)] Q h := by
  have hl : s.len = ws.length := by rw [hs.len1, nats_length]
  have hsum := sum_le hw
  obtain ⟨hleft1, hleft2⟩ := left_ok (c := c) hpos
  have hn0 : 0 < ws.length := by omega
  have hQS : ∀ a, (qs c a ws).length = ws.length := fun a => by simp [qs]
  refine hI.go _ _ (den29 I c s Q) ?_
  refine newK_intro fun i3 h1 hn1 he1 => newK_intro fun i5 h2 hn2 he2 => ?_
  have o1 : Owns h h1 [(1, ⟨some (i3, 0), 1⟩, [.int .i64 (c : Int)])] := he1 ▸ (Owns.nil h).new hn1 rfl
  have o2 : Owns h h2 [(1, ⟨some (i5, 0), 1⟩, [.slice 1 s]), (1, ⟨some (i3, 0), 1⟩, [.int .i64 (c : Int)])] := he2 ▸ o1.new hn2 rfl
  refine ⟨s, read_cell (o2.block (sz := 1) (n := 1) (cs := [.slice 1 s]) (by simp)).1 rfl, spec24 hI (o2.ext.at_ hs) (by omega) (by omega) ⟨_, rfl, newK_intro fun i11 h3 hn3 he3 => ?_⟩⟩
  obtain ⟨all, hall⟩ : ∃ all, ws.sum = all := ⟨_, rfl⟩
  rw [hall] at hleft1 hleft2 hpos hsum ⊢
  have o3 : Owns h h3 [(1, ⟨some (i11, 0), 1⟩, [.int .i64 0]), (1, ⟨some (i5, 0), 1⟩, [.slice 1 s]), (1, ⟨some (i3, 0), 1⟩, [.int .i64 (c : Int)])] := he3 ▸ o2.new hn3 rfl
  refine storeK_one (o3.block List.mem_cons_self).1 (by simp) ?_
  have o4 := o3.change (n' := 1) (sz' := 1) (cs' := [.int .i64 (all : Int)]) rfl
  refine ⟨_, read_cell (o4.block (sz := 1) (n := 1) (i := i3) (cs := [.int .i64 (c : Int)]) (by simp)).1 rfl, s, read_cell (o4.block (sz := 1) (n := 1) (i := i5) (cs := [.slice 1 s]) (by simp)).1 rfl, ?_⟩
  have hqle : ∀ k, ((qs c all ws).take k).sum ≤ c := fun k => Nat.le_trans (take_sum_le _ _) hleft1
  refine loopK_intro (fun (a : Int × Sl × Sl × Int) h'' m => ∃ k : Nat, k ≤ ws.length ∧ ws.length - k = m ∧ a.2.2.2 = (k : Int) ∧ a.1 = ((c - ((qs c all ws).take k).sum : Nat) : Int) ∧
      Owns h h'' [(1, a.2.1, nats ((qs c all ws).take k)), (1, a.2.2.1, nats (List.range k)), (1, ⟨some (i11, 0), 1⟩, [.int .i64 (all : Int)]), (1, ⟨some (i5, 0), 1⟩, [.slice 1 s]), (1, ⟨some (i3, 0), 1⟩, [.int .i64 (c : Int)])]) ws.length
    ⟨0, by omega, rfl, rfl, by simp, (o4.none_ 1).none_ 1⟩ ?_
  rintro ⟨left, out, order, y⟩ h5 m ⟨k, hk, rfl, rfl, hleft, o⟩
  simp only at hleft
  subst hleft
  dsimp only [uncur]
  have c3 := (o.block (sz := 1) (n := 1) (i := i3) (cs := [.int .i64 (c : Int)]) (by simp)).1
  have c5 := (o.block (sz := 1) (n := 1) (i := i5) (cs := [.slice 1 s]) (by simp)).1
  have c11 := (o.block (sz := 1) (n := 1) (i := i11) (cs := [.int .i64 (all : Int)]) (by simp)).1
  refine ifT_dec (fun hlt => ⟨⟨by omega, hlt⟩, ?_⟩) (fun hge => ?_)
  · have hkl : k < ws.length := by omega
    have hx := List.getElem?_eq_getElem hkl
    have hwk := hw ws[k] (List.getElem_mem hkl)
    generalize ws[k] = w at *
    refine (o.ext.at_ hs).cell (nats_get hx) fun b o' hr => ⟨_, hr, _, read_cell c3 rfl, _, read_cell c11 rfl, by omega, ?_⟩
    have hqk : ((qs c all ws).take (k + 1)) = (qs c all ws).take k ++ [c * w / all] := take_succ_map _ hx
    have hq1 := hqle (k + 1)
    rw [hqk, List.sum_append] at hq1
    have hq2 : [c * w / all].sum = c * w / all := by simp
    rw [hq2] at hq1
    have m1 : c * w ≤ 1000000000000 * 1000000 := Nat.mul_le_mul hc hwk
    have ew : IntKind.i64.wrap ((IntKind.i64.wrap ((c : Int) * w)).tdiv all) = ((c * w / all : Nat) : Int) := by
      rw [mN, w64 (n := ((c * w : Nat) : Int)) (by omega) (by omega), ← Int.ofNat_tdiv]
      generalize c * w / all = q at *
      exact w64 (by omega) (by omega)
    rw [ew]
    have l1 := o.slen (s := out) (cs := nats ((qs c all ws).take k)) (by simp)
    have l2 := o.slen (s := order) (cs := nats (List.range k)) (by simp)
    rw [nats_length, List.length_take, hQS] at l1
    rw [nats_length, List.length_range] at l2
    have e_out : nats ((qs c all ws).take (k + 1)) = nats ((qs c all ws).take k) ++ [.int .i64 ((c * w / all : Nat) : Int)] := by rw [hqk]; simp [nats]
    have e_ord : nats (List.range (k + 1)) = nats (List.range k) ++ [.int .i64 (k : Int)] := by rw [List.range_succ]; simp [nats]
    refine appendTo_owns (m := 0) o (by rfl) (by omega) (by simp) fun b1 h6 o6 => ?_
    refine appendTo_owns (m := 0) (o6.perm (List.Perm.swap _ _ _)) (by rfl) (by omega) (by simp) fun b2 h7 o7 => ?_
    have o8 := o7.perm (List.Perm.swap _ _ _)
    rw [← e_out, ← e_ord] at o8
    have hg : (nats ((qs c all ws).take (k + 1)))[k]? = some (.int .i64 ((c * w / all : Nat) : Int)) := by
      refine nats_get ?_
      rw [hqk, List.getElem?_append_right (by rw [List.length_take]; omega), List.length_take, hQS, Nat.min_eq_left (by omega), Nat.sub_self]
      rfl
    refine ⟨⟨by omega, by show (k : Int) < ((out.len + (0 + 1) : Nat) : Int); omega⟩, (o8.at_ List.mem_cons_self).cell hg fun b o' hr' => ⟨_, hr', ws.length - (k + 1), by omega, k + 1, by omega, rfl, ?_, ?_, o8⟩⟩
    · show IntKind.i64.wrap ((k : Int) + 1) = _
      rw [w64] <;> omega
    · show IntKind.i64.wrap (_ - _) = _
      rw [hqk, List.sum_append, hq2]
      generalize c * w / all = q at *
      rw [w64 (by omega) (by omega)]
      omega
  · have hkn : k = ws.length := by omega
    subst hkn
    have t1 : (qs c all ws).take ws.length = qs c all ws := List.take_of_length_le (by rw [hQS]; exact Nat.le_refl _)
    rw [t1] at o ⊢
    have l1 := o.slen (s := out) (cs := nats (qs c all ws)) (by simp)
    have l2 := o.slen (s := order) (cs := nats (List.range ws.length)) (by simp)
    rw [nats_length, hQS] at l1
    rw [nats_length, List.length_range] at l2
    obtain ⟨bo, hbo, co⟩ := o.has (s := out) (cs := nats (qs c all ws)) (sz := 1) (by simp) (nats_ne (by rw [hQS]; exact hn0))
    obtain ⟨bd, hbd, cd⟩ := o.has (s := order) (cs := nats (List.range ws.length)) (sz := 1) (by simp) (nats_ne (by rw [List.length_range]; exact hn0))
    rw [l1] at hbo
    rw [l2] at hbd
    subst hbo hbd
    have ne0 : bo ≠ bd := o.ne (q := (1, ⟨some (bd, 0), ws.length⟩, nats (List.range ws.length))) (by simp) rfl rfl
    have ne1 : bd ≠ i11 := o.tail.ne (q := (1, ⟨some (i11, 0), 1⟩, [.int .i64 (all : Int)])) (by simp) rfl rfl
    have ne2 : bd ≠ i5 := o.tail.ne (q := (1, ⟨some (i5, 0), 1⟩, [.slice 1 s])) (by simp) rfl rfl
    have ne3 : bd ≠ i3 := o.tail.ne (q := (1, ⟨some (i3, 0), 1⟩, [.int .i64 (c : Int)])) (by simp) rfl rfl
    have hbn : h bd = none := by
      obtain ⟨_, h2 | ⟨k, h2, h3, _⟩⟩ := o.all (1, ⟨some (bd, 0), ws.length⟩, nats (List.range ws.length)) (by simp)
      · simp at h2
      · cases h2; exact h3
    have hbn' : h bo = none := by
      obtain ⟨_, h2 | ⟨k, h2, h3, _⟩⟩ := o.all (1, ⟨some (bo, 0), ws.length⟩, nats (qs c all ws)) (by simp)
      · simp at h2
      · cases h2; exact h3
    have hlR : ((List.range ws.length).map fun n : Nat => (n : Int)).length = ws.length := by simp
    have hext : ∀ ys h', PSt h5 bd ys h' → Ext h h' := fun ys h' p j x hj => p.2 j x (fun e => by subst e; rw [hbn] at hj; cases hj) (o.ext _ _ hj)
    have key := fun Q0 => spec37 (I := I) (Q := Q0) (h := h5) (blk := bd) (g := 38) (caps := [(i3, 0), (i5, 0), (i11, 0)]) (xs := (List.range ws.length).map fun n : Nat => (n : Int))
      (lt := fun x y => decide (c * at_ ws y.toNat % all < c * at_ ws x.toNat % all ∨ (c * at_ ws y.toNat % all = c * at_ ws x.toNat % all ∧ y.toNat < x.toNat))) hI (fun _ _ => True) (by rw [← nats_ints]; exact cd) (by rw [hlR]; exact hn0) (by rw [hlR]; exact hlen)
    simp only [hlR] at key
    refine key _ ?_ ?_ (fun _ _ _ _ _ _ _ _ => trivial) fun ys h6 hp _ hst => ⟨rfl, ⟨by decide, by omega, by omega⟩, ?_⟩
    · rintro a b ha hb h' Q' ⟨ys, p⟩ hQ'
      obtain ⟨a', ha', rfl⟩ := List.mem_map.1 ha
      obtain ⟨b', hb', rfl⟩ := List.mem_map.1 hb
      have ha2 := List.mem_range.1 ha'
      have hb2 := List.mem_range.1 hb'
      have ga : ws[a']? = some ws[a'] := List.getElem?_eq_getElem ha2
      have gb : ws[b']? = some ws[b'] := List.getElem?_eq_getElem hb2
      refine spec38 hI (p.2 _ _ (Ne.symm ne3) c3) (p.2 _ _ (Ne.symm ne2) c5) (p.2 _ _ (Ne.symm ne1) c11) ((hext _ _ p).at_ hs) hc hw hpos ga gb fun r h'' he hr => hQ' r h'' he ?_
      simp only [Int.toNat_natCast, decide_eq_true_eq, at_some ga, at_some gb]
      exact hr
    · rw [List.pairwise_map]
      exact List.pairwise_lt_range.imp fun _ => ⟨fun _ => trivial, fun _ => trivial⟩
    · rw [Int.toNat_natCast]
      have hyl : ys.length = ws.length := by rw [hp.length_eq, hlR]
      have o6 : Owns h h6 [(1, ⟨some (bo, 0), ws.length⟩, nats (qs c all ws)), (1, ⟨some (bd, 0), ws.length⟩, ints ys)] := by
        refine ⟨hext _ _ hst, fun q hq => ?_, ?_⟩
        · have hq' : q = (1, ⟨some (bo, 0), ws.length⟩, nats (qs c all ws)) ∨ q = (1, ⟨some (bd, 0), ws.length⟩, ints ys) := by simpa using hq
          rcases hq' with rfl | rfl
          · exact ⟨by rw [nats_length, hQS]; simp, .inr ⟨bo, rfl, hbn', hst.2 _ _ ne0 co⟩⟩
          · exact ⟨by rw [ints_length, hyl]; simp, .inr ⟨bd, rfl, hbn, hst.1⟩⟩
        · simp only [List.pairwise_cons]
          refine ⟨fun q hq i hi hi2 => ?_, by simp⟩
          have : q = (1, ⟨some (bd, 0), ws.length⟩, ints ys) := by simpa using hq
          subst this
          cases hi
          cases hi2
          exact ne0 rfl
      generalize hq : qs c all ws = q at *
      have hlq : q.length = ws.length := by rw [← hq]; exact hQS all
      refine loopK_intro (fun (a : Int) h4 m => ∃ k : Nat, k ≤ c - q.sum ∧ a = (k : Int) ∧ c - q.sum - k = m ∧ ∃ xs : List Nat, xs.length = ws.length ∧ xs.sum = q.sum + k ∧ Owns h h4 [(1, ⟨some (bo, 0), ws.length⟩, nats xs), (1, ⟨some (bd, 0), ws.length⟩, ints ys)]) (c - q.sum)
        ⟨0, by omega, rfl, rfl, q, hlq, rfl, o6⟩ ?_
      rintro a h4 m ⟨k, hk, rfl, rfl, xs, hxl, hxs, o7⟩
      refine ifT_dec (fun hlt => ⟨⟨by omega, hlt⟩, ?_⟩) (fun hge => ?_)
      · have hkl : k < c - q.sum := by have : (k : Int) < ((c - q.sum - 0 : Nat) : Int) := hlt; omega
        have hsub := (o7.at_ (sz := 1) (s := ⟨some (bd, 0), ws.length⟩) (cs := ints ys) (by simp)).sub 0 (c - q.sum) (by omega) (show c - q.sum ≤ ws.length by omega)
        have hy : ys[k]? = some ys[k] := List.getElem?_eq_getElem (by omega)
        obtain ⟨e, he, hee⟩ := List.mem_map.1 (hp.mem_iff.1 (List.getElem_mem (show k < ys.length by omega)))
        have hel := List.mem_range.1 he
        rw [← hee] at hy
        have hg : (((ints ys).drop (0 * 1)).take ((c - q.sum - 0) * 1))[k]? = some (.int .i64 (e : Int)) := by
          rw [List.getElem?_take, if_pos (by omega), Nat.zero_mul, List.drop_zero]
          exact ints_get hy
        have hxe : xs[e]? = some xs[e] := List.getElem?_eq_getElem (by omega)
        have hxm := mem_le_sum (List.getElem_mem (show e < xs.length by omega))
        generalize xs[e] = x at hxe hxm
        have hset := sum_set xs e x (x + 1) hxe
        have ew : IntKind.i64.wrap ((x : Int) + 1) = ((x + 1 : Nat) : Int) := by rw [w64] <;> omega
        have eo : 0 + (e : Int).toNat * 1 = e := by simp
        refine hsub.cell hg fun b o' hr' => ⟨_, hr', ⟨by omega, by simp; omega⟩, (o7.at_ List.mem_cons_self).cell (nats_get hxe) fun b o' hr' => ⟨_, hr', ⟨by omega, by simp; omega⟩, derefK_intro rfl ?_⟩⟩
        rw [ew, eo]
        refine storeK_one (o7.block List.mem_cons_self).1 (by rw [nats_length]; omega) ⟨c - q.sum - (k + 1), by omega, k + 1, by omega, ?_, rfl, xs.set e (x + 1), by simp [hxl], by omega, ?_⟩
        · rw [w64] <;> omega
        · rw [nats_set]
          exact o7.change (by rw [nats_length]; simp [hxl])
      · have hk2 : k = c - q.sum := by
          have : ¬ (k : Int) < ((c - q.sum - 0 : Nat) : Int) := hge
          omega
        exact hQ _ _ xs o7.ext (o7.at_ List.mem_cons_self) hxl (by omega)
end
end Go.Proofs.YtohdelegimcceaaVc
-- from SpSpec3
namespace Go.Proofs.YtohdelegimcceaaVc
open Go.Proofs.YtohdelegimcceaaShares
open Go.Proofs.Try (prog)
/-- Two cells an element. -/
def twos (ps : List (Int × Int)) : List Cell := ps.flatMap fun p => [.int .i64 p.1, .int .i64 p.2]
theorem twos_length : ∀ ps, (twos ps).length = ps.length * 2
  | [] => rfl
  | p :: ps => by
    have := twos_length ps
    unfold twos at *
    rw [List.flatMap_cons, List.length_append, this]
    simp; omega
theorem twos_get : ∀ (ps : List (Int × Int)) (i : Nat) (a b : Int), ps[i]? = some (a, b) → ((twos ps).drop (i * 2)).take 2 = [.int .i64 a, .int .i64 b]
  | [], i, _, _, h => by simp at h
  | p :: ps, 0, a, b, h => by
    simp only [List.getElem?_cons_zero, Option.some.injEq] at h
    subst h
    simp [twos]
  | p :: ps, i + 1, a, b, h => by
    have := twos_get ps i a b (by simpa using h)
    unfold twos at *
    rw [List.flatMap_cons, show (i + 1) * 2 = i * 2 + 2 by omega]
    rw [List.drop_append]
    simpa using this
section
variable {I : Calls} {Q : Post} {h : Heap}
theorem At.two {s : Sl} {ps : List (Int × Int)} {i : Nat} {a b : Int} {f : Nat → Nat → T} (hs : At h 2 s (twos ps)) (hx : ps[i]? = some (a, b)) (hk : ∀ bb o, h.read bb (o + (i : Int).toNat * 2) 2 = some [.int .i64 a, .int .i64 b] → f bb o h) : derefK s.a f h := by
  have hlt : i < ps.length := (List.getElem?_eq_some_iff.1 hx).1
  obtain ⟨bb, o, ha, hr⟩ := hs.lies (by rw [twos_length]; omega)
  refine derefK_intro ha (hk bb o ?_)
  rw [Int.toNat_natCast, read_part hr (by rw [twos_length]; omega), twos_get ps i a b hx]
theorem spec14 (hI : Closed' prog Pm I) {s : Sl} {c : Nat} {xs : List Int} (hs : At h 1 s (ints xs)) (hc : c ≤ 1000000000000)
    (hQe : errW xs ≠ 0 → Q [.one (.slice 1 ⟨none, 0⟩), int (errW xs)] h) (hQ : errW xs = 0 → RightW xs (xs.map Int.toNat) → ∀ s' h' ys, Ext h h' → At h' 1 s' (nats ys) → ys.length = xs.length → ys.sum = c → Q [.one (.slice 1 s'), int 0] h') :
    I 14 [int c, .one (.slice 1 s)] Q h := by
  refine hI.go _ _ (den14 I c s Q) ?_
  refine spec20 hI ⟨_, rfl, ifT_intro (fun hb => by simp at hb; omega) fun _ => ?_⟩
  refine spec23 hI hs (fun he => ⟨_, rfl, ifT_intro (fun _ => hQe he) fun h => by simp [he] at h⟩) fun he R => ⟨_, rfl, ifT_intro (fun h => by simp at h) fun _ => ?_⟩
  have hs' := hs
  rw [R.xs, ← nats_ints] at hs'
  exact spec29 hI hs' hc R.ws1 R.pos R.len fun s' h' ys h1 h2 h3 h4 => ⟨_, rfl, hQ he R _ _ ys h1 h2 (by rw [h3]; simp) h4⟩
/-- The fractions of weights. -/
def fracs (all : Nat) (ws : List Nat) : List (Int × Int) := ws.map fun w => (((w / Nat.gcd w all : Nat) : Int), ((all / Nat.gcd w all : Nat) : Int))
theorem spec11 (hI : Closed' prog Pm I) {s : Sl} {xs : List Int} (hs : At h 1 s (ints xs))
    (hQe : errW xs ≠ 0 → Q [.one (.slice 2 ⟨none, 0⟩), int (errW xs)] h) (hQ : errW xs = 0 → RightW xs (xs.map Int.toNat) → ∀ s' h', Ext h h' → At h' 2 s' (twos (fracs (xs.map Int.toNat).sum (xs.map Int.toNat))) → Q [.one (.slice 2 s'), int 0] h') :
    I 11 [.one (.slice 1 s)] Q h := by
  refine hI.go _ _ (den11 I s Q) ?_
  refine spec23 hI hs (fun he => ⟨_, rfl, ifT_intro (fun _ => hQe he) fun h => by simp [he] at h⟩) fun he R => ⟨_, rfl, ifT_intro (fun h => by simp at h) fun _ => ?_⟩
  have hs' := hs
  rw [R.xs, ← nats_ints] at hs'
  have hQ' := hQ he R
  obtain ⟨_, r1, r2, r3⟩ := R
  generalize xs.map Int.toNat = ws at *
  have hl : s.len = ws.length := by rw [hs'.len1, nats_length]
  have hsum := sum_le r1
  refine spec24 hI hs' (by omega) (by omega) ⟨_, rfl, ?_⟩
  generalize hall : ws.sum = all at *
  refine loopK_intro (fun (a : Sl × Int) h'' m => ∃ k : Nat, k ≤ ws.length ∧ ws.length - k = m ∧ a.2 = (k : Int) ∧ Own h h'' 2 a.1 (twos (fracs all (ws.take k)))) ws.length
    ⟨0, by omega, rfl, rfl, Own.nil _ _⟩ ?_
  rintro ⟨l, y⟩ h2 m ⟨k, hk, rfl, rfl, o⟩
  dsimp only [uncur]
  refine ifT_dec (fun hlt => ⟨⟨by omega, hlt⟩, ?_⟩) (fun hge => ?_)
  · have hkl : k < ws.length := by omega
    have hx := List.getElem?_eq_getElem hkl
    have hwk := r1 ws[k] (List.getElem_mem hkl)
    generalize ws[k] = w at *
    refine (o.ext.at_ hs').cell (nats_get hx) fun b o' hr => ⟨_, hr, spec25 hI (by omega) (by omega) r2 ⟨_, _, rfl, ?_⟩⟩
    have hol := o.len
    rw [twos_length] at hol
    have hfl : (fracs all (ws.take k)).length = k := by simp [fracs]; omega
    rw [hfl] at hol
    change l.len * 2 = k * 2 at hol
    have e1 : twos (fracs all (ws.take (k + 1))) = twos (fracs all (ws.take k)) ++ [.int .i64 ((w / Nat.gcd w all : Nat) : Int), .int .i64 ((all / Nat.gcd w all : Nat) : Int)] := by
      have : ws.take (k + 1) = ws.take k ++ [w] := by rw [List.take_add_one, hx]; rfl
      rw [this]
      simp [twos, fracs]
    refine appendTo_own (m := 0) o (by rfl) (by omega) fun s' h3 o3 hl3 => ⟨ws.length - (k + 1), by omega, k + 1, by omega, rfl, ?_, by rw [e1]; exact o3⟩
    show IntKind.i64.wrap ((k : Int) + 1) = _
    rw [w64] <;> omega
  · have : k = ws.length := by omega
    subst this
    rw [List.take_length] at o
    exact hQ' _ _ o.ext o.at_
end
end Go.Proofs.YtohdelegimcceaaVc
-- from LaDeal
namespace Go.Proofs.YtohdelegimcceaaVc
open Go.Proofs.YtohdelegimcceaaLasts
open Go.Proofs.YtohdelegimcceaaShares (at_ qs rs left_ok)
open Go.Proofs.Try (prog)
def givenL (rs : List Nat) (k : Nat) : List Bool := (List.range rs.length).map fun i => decide (rank rs i < k)
theorem givenL_length (rs : List Nat) (k : Nat) : (givenL rs k).length = rs.length := by simp [givenL]
theorem givenL_get {rs : List Nat} {k i : Nat} (hi : i < rs.length) : (givenL rs k)[i]? = some (decide (rank rs i < k)) := by
  unfold givenL; rw [List.getElem?_map, List.getElem?_range hi]; rfl
theorem givenL_zero (rs : List Nat) : givenL rs 0 = List.replicate rs.length false := by
  apply List.ext_getElem?
  intro i
  rcases Nat.lt_or_ge i rs.length with hi | hi
  · rw [givenL_get hi, List.getElem?_replicate, if_pos hi]; simp
  · rw [List.getElem?_eq_none (by rw [givenL_length]; exact hi), List.getElem?_eq_none (by simpa using hi)]
theorem givenL_step {rs : List Nat} {k i : Nat} (hi : i < rs.length) (hr : rank rs i = k) : (givenL rs k).set i true = givenL rs (k + 1) := by
  apply List.ext_getElem?
  intro j
  rw [List.getElem?_set]
  rcases Nat.lt_or_ge j rs.length with hj | hj
  · split
    · rename_i h
      subst h
      rw [if_pos (by rw [givenL_length]; exact hi), givenL_get hi]
      simp [hr]
    · rename_i h
      rw [givenL_get hj, givenL_get hj]
      have : rank rs j ≠ k := fun e => h (rank_inj (rs := rs) hi hj (by rw [hr, e]))
      congr 1
      rw [decide_eq_decide]
      omega
  · rw [if_neg (by omega), List.getElem?_eq_none (by rw [givenL_length]; exact hj), List.getElem?_eq_none (by rw [givenL_length]; exact hj)]
section
variable {I : Calls} {Q : Post} {h : Heap}
theorem spec30L (hI : Closed' prog Pm I) {s : Sl} {c : Nat} {ws : List Nat} (hs : At h 1 s (nats ws)) (hc : c ≤ 1000000000000) (hw : ∀ w ∈ ws, w ≤ 1000000000000) (hpos : 0 < ws.sum) (hlen : ws.length < 1000)
    (hQ : ∀ s' h', Ext h h' → At h' 1 s' (nats (shared c ws)) → Q [.one (.slice 1 s')] h') : I 30 [int c, .one (.slice 1 s), boo true] Q h := by
  have hl : s.len = ws.length := by rw [hs.len1, nats_length]
  have hsum := sum_le hw
  have hsum' : ws.sum ≤ 1000000000000000 := by omega
  obtain ⟨hleft1, hleft2⟩ := left_ok (c := c) hpos
  have hn0 : 0 < ws.length := by omega
  refine hI.go _ _ (den30 I c s true Q) ?_
  refine spec28 hI hs (by omega) (by omega) ⟨_, rfl, rfl, by omega, by omega, by rw [hl]; show (ws.length : Int) * ((8 : Nat) : Int) ≤ _; omega, ?_⟩
  simp only [hl, Int.toNat_natCast]
  have hQS : (qs c ws.sum ws).length = ws.length := by simp [qs]
  have hRS : (rs c ws.sum ws).length = ws.length := by simp [rs]
  have hz : ∀ k, slCells (.one (.int .i64)) k = nats (List.replicate k 0) := fun k => by
    unfold slCells nats
    rw [List.map_replicate]
    exact List.flatten_replicate_singleton
  have hz2 : ∀ k, slCells (.one (.int .u64)) k = unats (List.replicate k 0) := fun k => by
    unfold slCells unats
    rw [List.map_replicate]
    exact List.flatten_replicate_singleton
  have hz3 : ∀ k, slCells (.one .bool) k = bools (List.replicate k false) := fun k => by
    unfold slCells bools
    rw [List.map_replicate]
    exact List.flatten_replicate_singleton
  simp only [hz, hz2, hz3]
  generalize hall : ws.sum = all at *
  generalize hq : qs c all ws = q at *
  generalize hr : rs c all ws = r at *
  refine newK_intro fun i7 h1 hn1 he1 => ⟨trivial, by omega, by omega, by show (ws.length : Int) * ((8 : Nat) : Int) ≤ _; omega, newK_intro fun i9 h2 hn2 he2 => ?_⟩
  have o1 : Owns h h1 [(1, ⟨some (i7, 0), ws.length⟩, nats (List.replicate ws.length 0))] := he1 ▸ (Owns.nil h).new hn1 (by rw [nats_length]; simp)
  have o2 : Owns h h2 [(1, ⟨some (i9, 0), ws.length⟩, unats (List.replicate ws.length 0)), (1, ⟨some (i7, 0), ws.length⟩, nats (List.replicate ws.length 0))] := he2 ▸ o1.new hn2 (by rw [unats_length]; simp)
  refine loopK_intro (fun (a : Int) h' m => ∃ i : Nat, i ≤ ws.length ∧ a = (i : Int) ∧ ws.length - i = m ∧
      Owns h h' [(1, ⟨some (i9, 0), ws.length⟩, unats (r.take i ++ List.replicate (ws.length - i) 0)), (1, ⟨some (i7, 0), ws.length⟩, nats (q.take i ++ List.replicate (ws.length - i) 0))]) ws.length
    ⟨0, by omega, rfl, rfl, by simpa using o2⟩ ?_
  rintro a h' m ⟨i, hi, rfl, rfl, o⟩
  refine ifT_dec (fun hlt => ⟨⟨by omega, hlt⟩, ?_⟩) (fun hge => ?_)
  · have hil : i < ws.length := by omega
    have hx := List.getElem?_eq_getElem hil
    have hwk : ws[i] ≤ all := by rw [← hall]; exact mem_le_sum (List.getElem_mem hil)
    generalize ws[i] = w at *
    refine (o.ext.at_ hs).cell (nats_get hx) fun b o' hr' => ⟨_, hr', ?_⟩
    rw [wN c (by omega), wN w (by omega), wN all (by omega)]
    refine spec41 hI (by omega) (by omega) ⟨_, _, rfl, divide_word hI hc hwk hpos (by omega) ?_⟩
    have hqi : q.take (i + 1) = q.take i ++ [c * w / all] := by rw [← hq]; exact take_succ_map _ hx
    have hri : r.take (i + 1) = r.take i ++ [c * w % all] := by rw [← hr]; exact take_succ_map _ hx
    have hq1 : c * w / all ≤ c := by
      have h1 := mem_le_sum (l := q) (x := c * w / all) (by
        have : c * w / all ∈ q.take (i + 1) := by rw [hqi]; simp
        exact List.mem_of_mem_take this)
      omega
    have ew : IntKind.i64.wrap ((c * w / all : Nat) : Int) = ((c * w / all : Nat) : Int) := by
      generalize c * w / all = z at *
      exact w64 (by omega) (by omega)
    have eo : 0 + (i : Int).toNat * 1 = i := by simp
    have lq : (q.take i).length = i := by rw [List.length_take]; omega
    have lr : (r.take i).length = i := by rw [List.length_take]; omega
    have er : ws.length - i = (ws.length - (i + 1)) + 1 := by omega
    rw [ew, eo]
    have o3 := o.perm (List.Perm.swap _ _ _)
    refine ⟨⟨by omega, by omega⟩, storeK_one (o3.block List.mem_cons_self).1 (by rw [nats_length]; simp; omega) ⟨⟨by omega, by omega⟩, ?_⟩⟩
    have s1 : (nats (q.take i ++ List.replicate (ws.length - i) 0)).set i (.int .i64 ((c * w / all : Nat) : Int)) = nats (q.take (i + 1) ++ List.replicate (ws.length - (i + 1)) 0) := by
      rw [nats_set, hqi, er]
      have := set_fill (q.take i) (ws.length - (i + 1)) (c * w / all)
      rw [lq] at this
      rw [this]
    have s2 : (unats (r.take i ++ List.replicate (ws.length - i) 0)).set i (.int .u64 ((c * w % all : Nat) : Int)) = unats (r.take (i + 1) ++ List.replicate (ws.length - (i + 1)) 0) := by
      rw [unats_set, hri, er]
      have := set_fill (r.take i) (ws.length - (i + 1)) (c * w % all)
      rw [lr] at this
      rw [this]
    rw [s1]
    have o4 := (o3.change (n' := ws.length) (sz' := 1) (cs' := nats (q.take (i + 1) ++ List.replicate (ws.length - (i + 1)) 0)) (by rw [nats_length]; simp; omega)).perm (List.Perm.swap _ _ _)
    refine storeK_one (o4.block List.mem_cons_self).1 (by rw [unats_length]; simp; omega) ⟨ws.length - (i + 1), by omega, i + 1, by omega, by rw [w64] <;> omega, rfl, ?_⟩
    rw [s2]
    exact o4.change (by rw [unats_length]; simp; omega)
  · have : i = ws.length := by omega
    subst this
    have t1 : q.take ws.length = q := List.take_of_length_le (by omega)
    have t2 : r.take ws.length = r := List.take_of_length_le (by omega)
    rw [t1, t2] at o
    simp only [Nat.sub_self, List.replicate_zero, List.append_nil] at o
    refine ⟨trivial, by omega, by omega, by show (ws.length : Int) * ((1 : Nat) : Int) ≤ _; omega, newK_intro fun i27 h3 hn3 he3 => ?_⟩
    have o3 : Owns h h3 [(1, ⟨some (i27, 0), ws.length⟩, bools (List.replicate ws.length false)), (1, ⟨some (i9, 0), ws.length⟩, unats r), (1, ⟨some (i7, 0), ws.length⟩, nats q)] := he3 ▸ o.new hn3 (by rw [bools_length]; simp)
    refine spec28 hI (o3.at_ (sz := 1) (s := ⟨some (i7, 0), ws.length⟩) (cs := nats q) (by simp)) (by omega) (by omega) ⟨_, rfl, ?_⟩
    have ew : IntKind.i64.wrap ((c : Int) - (q.sum : Nat)) = ((c - q.sum : Nat) : Int) := by rw [w64] <;> omega
    rw [ew]
    have ne1 : i27 ≠ i9 := o3.ne (q := (1, ⟨some (i9, 0), ws.length⟩, unats r)) (by simp) rfl rfl
    have p1 : ∀ a b c : Ow, [a, b, c].Perm [c, b, a] := fun a b c => List.reverse_perm [c, b, a]
    refine loopK_intro (fun (a : Int) h' m => ∃ k : Nat, k ≤ c - q.sum ∧ a = ((c - q.sum - k : Nat) : Int) ∧ c - q.sum - k = m ∧
        Owns h h' [(1, ⟨some (i27, 0), ws.length⟩, bools (givenL r k)), (1, ⟨some (i9, 0), ws.length⟩, unats r), (1, ⟨some (i7, 0), ws.length⟩, nats (dealtK q r k))]) (c - q.sum)
      ⟨0, by omega, rfl, rfl, by rw [dealtK_zero, givenL_zero, hRS]; exact o3⟩ ?_
    rintro a h4 m ⟨k, hk, rfl, rfl, o4⟩
    refine ifT_dec (fun hlt => ?_) (fun hge => ?_)
    · have hkn : k < r.length := by omega
      have hgB := (o4.block (sz := 1) (i := i27) (n := ws.length) (cs := bools (givenL r k)) (by simp)).1
      have hgR := (o4.block (sz := 1) (i := i9) (n := ws.length) (cs := unats r) (by simp)).1
      refine loopK_intro (fun (a : Int × Int) h5 m => h5 = h4 ∧ ∃ i : Nat, i ≤ ws.length ∧ a.2 = (i : Int) ∧ ws.length - i = m ∧
          ((a.1 = -1 ∧ ∀ j, j < i → rank r j < k) ∨ ∃ b : Nat, a.1 = (b : Int) ∧ b < i ∧ k ≤ rank r b ∧ ∀ j, j < i → k ≤ rank r j → beats r j b = false)) ws.length
        ⟨rfl, 0, by omega, rfl, rfl, .inl ⟨rfl, fun j hj => by omega⟩⟩ ?_
      rintro ⟨best, y⟩ h5 m ⟨rfl, i, hi, rfl, rfl, hinv⟩
      simp only at hinv
      dsimp only [uncur]
      have wi : IntKind.i64.wrap ((i : Int) + 1) = ((i + 1 : Nat) : Int) := by rw [w64] <;> omega
      have eo : 0 + (i : Int).toNat * 1 = i := by simp
      refine ifT_dec (fun hlt2 => ?_) (fun hge2 => ?_)
      · have hil : i < r.length := by omega
        have gi : r[i]? = some (at_ r i) := by rw [List.getElem?_eq_getElem hil, at_some (List.getElem?_eq_getElem hil)]
        rw [eo, wi]
        refine ⟨⟨by omega, by omega⟩, _, read_cell hgR (unats_get gi), ⟨by omega, by omega⟩, _, read_cell hgB (bools_get (givenL_get hil)), ifT_intro (fun hng => ?_) (fun hg => ?_)⟩
        · have hri : k ≤ rank r i := by simp at hng; omega
          rcases hinv with ⟨rfl, hall'⟩ | ⟨b, rfl, hb, hbr, hbest⟩
          · refine ifT_dec (fun _ => ⟨ws.length - (i + 1), by omega, rfl, i + 1, by omega, rfl, rfl, .inr ⟨i, rfl, by omega, hri, fun j hj hjk => ?_⟩⟩) fun h => absurd (show (-1 : Int) < 0 by decide) h
            rcases Nat.lt_or_ge j i with h1 | h1
            · have := hall' j h1; omega
            · have : j = i := by omega
              subst this; exact beats_irrefl _ _
          · have hbl : b < r.length := by omega
            have gb : r[b]? = some (at_ r b) := by rw [List.getElem?_eq_getElem hbl, at_some (List.getElem?_eq_getElem hbl)]
            have eb : 0 + (b : Int).toNat * 1 = b := by simp
            refine ifT_dec (fun h => by omega) fun _ => ⟨⟨by omega, by omega⟩, _, by rw [eb]; exact read_cell hgR (unats_get gb), ?_⟩
            have take : at_ r b ≤ at_ r i → (fun a' h' => ∃ m', m' < ws.length - i ∧ h' = h5 ∧ ∃ i : Nat, i ≤ ws.length ∧ a'.2 = (i : Int) ∧ ws.length - i = m' ∧
                ((a'.1 = -1 ∧ ∀ j, j < i → rank r j < k) ∨ ∃ b : Nat, a'.1 = (b : Int) ∧ b < i ∧ k ≤ rank r b ∧ ∀ j, j < i → k ≤ rank r j → beats r j b = false)) (((i : Int), ((i + 1 : Nat) : Int)) : Int × Int) h5 := fun hle => by
              refine ⟨ws.length - (i + 1), by omega, rfl, i + 1, by omega, rfl, rfl, .inr ⟨i, rfl, by omega, hri, fun j hj hjk => ?_⟩⟩
              rcases Nat.lt_or_ge j i with h1 | h1
              · have h2 := hbest j h1 hjk
                cases h3 : beats r j i with
                | false => rfl
                | true =>
                  rw [beats_iff] at h3
                  cases h6 : beats r j b with
                  | true => rw [h6] at h2; cases h2
                  | false =>
                    have h7 : ¬ (at_ r b < at_ r j ∨ (at_ r j = at_ r b ∧ b < j)) := fun h8 => by rw [beats_iff.2 h8] at h6; cases h6
                    omega
              · have : j = i := by omega
                subst this; exact beats_irrefl _ _
            refine ifT_dec (fun hgt => take (by omega)) fun hle => ifT_intro (fun _ => ⟨⟨by omega, by omega⟩, _, by rw [eb]; exact read_cell hgR (unats_get gb), ifT_dec (fun heq => take (by omega)) fun hne => ?_⟩) fun h => by cases h
            refine ⟨ws.length - (i + 1), by omega, rfl, i + 1, by omega, rfl, rfl, .inr ⟨b, rfl, by omega, hbr, fun j hj hjk => ?_⟩⟩
            rcases Nat.lt_or_ge j i with h1 | h1
            · exact hbest j h1 hjk
            · have : j = i := by omega
              subst this
              cases h3 : beats r j b with
              | false => rfl
              | true => rw [beats_iff] at h3; omega
        · have hri : rank r i < k := by simpa using hg
          refine ⟨ws.length - (i + 1), by omega, rfl, i + 1, by omega, rfl, rfl, ?_⟩
          rcases hinv with ⟨rfl, hall'⟩ | ⟨b, rfl, hb, hbr, hbest⟩
          · refine .inl ⟨rfl, fun j hj => ?_⟩
            rcases Nat.lt_or_ge j i with h1 | h1
            · exact hall' j h1
            · have : j = i := by omega
              subst this; exact hri
          · refine .inr ⟨b, rfl, by omega, hbr, fun j hj hjk => ?_⟩
            rcases Nat.lt_or_ge j i with h1 | h1
            · exact hbest j h1 hjk
            · have : j = i := by omega
              subst this; omega
      · have : i = ws.length := by omega
        subst this
        obtain ⟨b, rfl, hb, hbr, hbest⟩ : ∃ b : Nat, best = (b : Int) ∧ b < ws.length ∧ k ≤ rank r b ∧ ∀ j, j < ws.length → k ≤ rank r j → beats r j b = false := by
          rcases hinv with ⟨_, hall'⟩ | hx
          · exfalso
            obtain ⟨e, he, hre⟩ := rank_surj (rs := r) hkn
            have := hall' e (by omega)
            omega
          · exact hx
        clear hinv wi eo
        have hrank : rank r b = k := best_rank hkn (by omega) hbr fun j hj hjk => hbest j (by omega) hjk
        have hqb : q[b]? = some (at_ q b) := by rw [List.getElem?_eq_getElem (by omega), at_some (List.getElem?_eq_getElem (show b < q.length by omega))]
        have hdb : (dealtK q r k)[b]? = some (at_ q b) := by rw [dealtK_get (by omega), hrank]; simp
        have hqc : at_ q b ≤ c := by
          have := mem_le_sum (List.mem_of_getElem? hqb)
          omega
        have eb : 0 + (b : Int).toNat * 1 = b := by simp
        have ew1 : IntKind.i64.wrap ((at_ q b : Int) + 1) = ((at_ q b + 1 : Nat) : Int) := by rw [w64] <;> omega
        have ew2 : IntKind.i64.wrap (((c - q.sum - k : Nat) : Int) - 1) = ((c - q.sum - (k + 1) : Nat) : Int) := by rw [w64] <;> omega
        have o5 := o4.perm (p1 _ _ _)
        rw [eb, ew2]
        refine ⟨⟨by omega, by omega⟩, _, read_cell (o5.block List.mem_cons_self).1 (nats_get hdb), ⟨by omega, by omega⟩, storeK_one (o5.block List.mem_cons_self).1 (by rw [nats_length, dealtK_length]; omega) ⟨⟨by omega, by omega⟩, ?_⟩⟩
        rw [ew1, nats_set, dealtK_step (by omega) (by omega) hrank]
        have o6 := (o5.change (n' := ws.length) (sz' := 1) (cs' := nats (dealtK q r (k + 1))) (by rw [nats_length, dealtK_length]; omega)).perm (p1 _ _ _)
        refine storeK_one (o6.block List.mem_cons_self).1 (by rw [bools_length, givenL_length]; omega) ⟨c - q.sum - (k + 1), by omega, k + 1, by omega, rfl, rfl, ?_⟩
        rw [bools_set, givenL_step (by omega) hrank]
        exact o6.change (by rw [bools_length, givenL_length]; omega)
    · have hk2 : k = c - q.sum := by omega
      subst hk2
      refine hQ _ _ o4.ext ?_
      have := o4.at_ (sz := 1) (s := ⟨some (i7, 0), ws.length⟩) (cs := nats (dealtK q r (c - q.sum))) (by simp)
      unfold shared
      rw [hall, hq, hr]
      exact this
end
end Go.Proofs.YtohdelegimcceaaVc
-- from LaDivide
namespace Go.Proofs.YtohdelegimcceaaVc
open Go.Proofs.YtohdelegimcceaaLasts
open Go.Proofs.YtohdelegimcceaaShares (at_ qs rs left_ok)
open Go.Proofs.Try (prog)
section
variable {I : Calls} {Q : Post} {h : Heap}
theorem spec29L (hI : Closed' prog Pm I) {s : Sl} {c : Nat} {ws : List Nat} (hs : At h 1 s (nats ws)) (hc : c ≤ 1000000000000) (hw : ∀ w ∈ ws, w ≤ 1000000) (hpos : 0 < ws.sum) (hlen : ws.length ≤ 12)
    (hQ : ∀ s' h', Ext h h' → At h' 1 s' (nats (shared c ws)) → Q [.one (.slice 1 s')] h') : I 29 [int c, .one (.slice 1 s)] Q h := by
  have hl : s.len = ws.length := by rw [hs.len1, nats_length]
  have hsum := sum_le hw
  obtain ⟨hleft1, hleft2⟩ := left_ok (c := c) hpos
  have hn0 : 0 < ws.length := by omega
  have hQS : ∀ a, (qs c a ws).length = ws.length := fun a => by simp [qs]
  refine hI.go _ _ (den29 I c s Q) ?_
  refine newK_intro fun i3 h1 hn1 he1 => newK_intro fun i5 h2 hn2 he2 => ?_
  have o1 : Owns h h1 [(1, ⟨some (i3, 0), 1⟩, [.int .i64 (c : Int)])] := he1 ▸ (Owns.nil h).new hn1 rfl
  have o2 : Owns h h2 [(1, ⟨some (i5, 0), 1⟩, [.slice 1 s]), (1, ⟨some (i3, 0), 1⟩, [.int .i64 (c : Int)])] := he2 ▸ o1.new hn2 rfl
  refine ⟨s, read_cell (o2.block (sz := 1) (n := 1) (cs := [.slice 1 s]) (by simp)).1 rfl, spec24 hI (o2.ext.at_ hs) (by omega) (by omega) ⟨_, rfl, newK_intro fun i11 h3 hn3 he3 => ?_⟩⟩
  obtain ⟨all, hall⟩ : ∃ all, ws.sum = all := ⟨_, rfl⟩
  rw [hall] at hleft1 hleft2 hpos hsum ⊢
  have o3 : Owns h h3 [(1, ⟨some (i11, 0), 1⟩, [.int .i64 0]), (1, ⟨some (i5, 0), 1⟩, [.slice 1 s]), (1, ⟨some (i3, 0), 1⟩, [.int .i64 (c : Int)])] := he3 ▸ o2.new hn3 rfl
  refine storeK_one (o3.block List.mem_cons_self).1 (by simp) ?_
  have o4 := o3.change (n' := 1) (sz' := 1) (cs' := [.int .i64 (all : Int)]) rfl
  refine ⟨_, read_cell (o4.block (sz := 1) (n := 1) (i := i3) (cs := [.int .i64 (c : Int)]) (by simp)).1 rfl, s, read_cell (o4.block (sz := 1) (n := 1) (i := i5) (cs := [.slice 1 s]) (by simp)).1 rfl, ?_⟩
  have hqle : ∀ k, ((qs c all ws).take k).sum ≤ c := fun k => Nat.le_trans (take_sum_le _ _) hleft1
  refine loopK_intro (fun (a : Int × Sl × Sl × Int) h'' m => ∃ k : Nat, k ≤ ws.length ∧ ws.length - k = m ∧ a.2.2.2 = (k : Int) ∧ a.1 = ((c - ((qs c all ws).take k).sum : Nat) : Int) ∧
      Owns h h'' [(1, a.2.1, nats ((qs c all ws).take k)), (1, a.2.2.1, nats (List.range k)), (1, ⟨some (i11, 0), 1⟩, [.int .i64 (all : Int)]), (1, ⟨some (i5, 0), 1⟩, [.slice 1 s]), (1, ⟨some (i3, 0), 1⟩, [.int .i64 (c : Int)])]) ws.length
    ⟨0, by omega, rfl, rfl, by simp, (o4.none_ 1).none_ 1⟩ ?_
  rintro ⟨left, out, order, y⟩ h5 m ⟨k, hk, rfl, rfl, hleft, o⟩
  simp only at hleft
  subst hleft
  dsimp only [uncur]
  have c3 := (o.block (sz := 1) (n := 1) (i := i3) (cs := [.int .i64 (c : Int)]) (by simp)).1
  have c5 := (o.block (sz := 1) (n := 1) (i := i5) (cs := [.slice 1 s]) (by simp)).1
  have c11 := (o.block (sz := 1) (n := 1) (i := i11) (cs := [.int .i64 (all : Int)]) (by simp)).1
  refine ifT_dec (fun hlt => ⟨⟨by omega, hlt⟩, ?_⟩) (fun hge => ?_)
  · have hkl : k < ws.length := by omega
    have hx := List.getElem?_eq_getElem hkl
    have hwk := hw ws[k] (List.getElem_mem hkl)
    generalize ws[k] = w at *
    refine (o.ext.at_ hs).cell (nats_get hx) fun b o' hr => ⟨_, hr, _, read_cell c3 rfl, _, read_cell c11 rfl, by omega, ?_⟩
    have hqk : ((qs c all ws).take (k + 1)) = (qs c all ws).take k ++ [c * w / all] := take_succ_map _ hx
    have hq1 := hqle (k + 1)
    rw [hqk, List.sum_append] at hq1
    have hq2 : [c * w / all].sum = c * w / all := by simp
    rw [hq2] at hq1
    have m1 : c * w ≤ 1000000000000 * 1000000 := Nat.mul_le_mul hc hwk
    have ew : IntKind.i64.wrap ((IntKind.i64.wrap ((c : Int) * w)).tdiv all) = ((c * w / all : Nat) : Int) := by
      rw [mN, w64 (n := ((c * w : Nat) : Int)) (by omega) (by omega), ← Int.ofNat_tdiv]
      generalize c * w / all = q at *
      exact w64 (by omega) (by omega)
    rw [ew]
    have l1 := o.slen (s := out) (cs := nats ((qs c all ws).take k)) (by simp)
    have l2 := o.slen (s := order) (cs := nats (List.range k)) (by simp)
    rw [nats_length, List.length_take, hQS] at l1
    rw [nats_length, List.length_range] at l2
    have e_out : nats ((qs c all ws).take (k + 1)) = nats ((qs c all ws).take k) ++ [.int .i64 ((c * w / all : Nat) : Int)] := by rw [hqk]; simp [nats]
    have e_ord : nats (List.range (k + 1)) = nats (List.range k) ++ [.int .i64 (k : Int)] := by rw [List.range_succ]; simp [nats]
    refine appendTo_owns (m := 0) o (by rfl) (by omega) (by simp) fun b1 h6 o6 => ?_
    refine appendTo_owns (m := 0) (o6.perm (List.Perm.swap _ _ _)) (by rfl) (by omega) (by simp) fun b2 h7 o7 => ?_
    have o8 := o7.perm (List.Perm.swap _ _ _)
    rw [← e_out, ← e_ord] at o8
    have hg : (nats ((qs c all ws).take (k + 1)))[k]? = some (.int .i64 ((c * w / all : Nat) : Int)) := by
      refine nats_get ?_
      rw [hqk, List.getElem?_append_right (by rw [List.length_take]; omega), List.length_take, hQS, Nat.min_eq_left (by omega), Nat.sub_self]
      rfl
    refine ⟨⟨by omega, by show (k : Int) < ((out.len + (0 + 1) : Nat) : Int); omega⟩, (o8.at_ List.mem_cons_self).cell hg fun b o' hr' => ⟨_, hr', ws.length - (k + 1), by omega, k + 1, by omega, rfl, ?_, ?_, o8⟩⟩
    · show IntKind.i64.wrap ((k : Int) + 1) = _
      rw [w64] <;> omega
    · show IntKind.i64.wrap (_ - _) = _
      rw [hqk, List.sum_append, hq2]
      generalize c * w / all = q at *
      rw [w64 (by omega) (by omega)]
      omega
  · have hkn : k = ws.length := by omega
    subst hkn
    have t1 : (qs c all ws).take ws.length = qs c all ws := List.take_of_length_le (by rw [hQS]; exact Nat.le_refl _)
    rw [t1] at o ⊢
    have l1 := o.slen (s := out) (cs := nats (qs c all ws)) (by simp)
    have l2 := o.slen (s := order) (cs := nats (List.range ws.length)) (by simp)
    rw [nats_length, hQS] at l1
    rw [nats_length, List.length_range] at l2
    obtain ⟨bo, hbo, co⟩ := o.has (s := out) (cs := nats (qs c all ws)) (sz := 1) (by simp) (nats_ne (by rw [hQS]; exact hn0))
    obtain ⟨bd, hbd, cd⟩ := o.has (s := order) (cs := nats (List.range ws.length)) (sz := 1) (by simp) (nats_ne (by rw [List.length_range]; exact hn0))
    rw [l1] at hbo
    rw [l2] at hbd
    subst hbo hbd
    have ne0 : bo ≠ bd := o.ne (q := (1, ⟨some (bd, 0), ws.length⟩, nats (List.range ws.length))) (by simp) rfl rfl
    have ne1 : bd ≠ i11 := o.tail.ne (q := (1, ⟨some (i11, 0), 1⟩, [.int .i64 (all : Int)])) (by simp) rfl rfl
    have ne2 : bd ≠ i5 := o.tail.ne (q := (1, ⟨some (i5, 0), 1⟩, [.slice 1 s])) (by simp) rfl rfl
    have ne3 : bd ≠ i3 := o.tail.ne (q := (1, ⟨some (i3, 0), 1⟩, [.int .i64 (c : Int)])) (by simp) rfl rfl
    have hbn : h bd = none := by
      obtain ⟨_, h2 | ⟨k, h2, h3, _⟩⟩ := o.all (1, ⟨some (bd, 0), ws.length⟩, nats (List.range ws.length)) (by simp)
      · simp at h2
      · cases h2; exact h3
    have hbn' : h bo = none := by
      obtain ⟨_, h2 | ⟨k, h2, h3, _⟩⟩ := o.all (1, ⟨some (bo, 0), ws.length⟩, nats (qs c all ws)) (by simp)
      · simp at h2
      · cases h2; exact h3
    have hlR : ((List.range ws.length).map fun n : Nat => (n : Int)).length = ws.length := by simp
    have hext : ∀ ys h', PSt h5 bd ys h' → Ext h h' := fun ys h' p j x hj => p.2 j x (fun e => by subst e; rw [hbn] at hj; cases hj) (o.ext _ _ hj)
    have key := fun Q0 => spec37 (I := I) (Q := Q0) (h := h5) (blk := bd) (g := 38) (caps := [(i3, 0), (i5, 0), (i11, 0)]) (xs := (List.range ws.length).map fun n : Nat => (n : Int))
      (lt := fun x y => beats (rs c all ws) x.toNat y.toNat) hI (fun x y => beats (rs c all ws) x.toNat y.toNat = true) (by rw [← nats_ints]; exact cd) (by rw [hlR]; exact hn0) (by rw [hlR]; exact hlen)
    simp only [hlR] at key
    refine key _ ?_ ?_ (fun a b c _ _ _ h1 h2 => beats_trans h1 h2) fun ys h6 hp hpw hst => ⟨rfl, ⟨by decide, by omega, by omega⟩, ?_⟩
    · rintro a b ha hb h' Q' ⟨ys, p⟩ hQ'
      obtain ⟨a', ha', rfl⟩ := List.mem_map.1 ha
      obtain ⟨b', hb', rfl⟩ := List.mem_map.1 hb
      have ha2 := List.mem_range.1 ha'
      have hb2 := List.mem_range.1 hb'
      have ga : ws[a']? = some ws[a'] := List.getElem?_eq_getElem ha2
      have gb : ws[b']? = some ws[b'] := List.getElem?_eq_getElem hb2
      refine spec38 hI (p.2 _ _ (Ne.symm ne3) c3) (p.2 _ _ (Ne.symm ne2) c5) (p.2 _ _ (Ne.symm ne1) c11) ((hext _ _ p).at_ hs) hc hw hpos ga gb fun r h'' he hr => hQ' r h'' he ?_
      have ra : at_ (rs c all ws) a' = c * ws[a'] % all := at_some (by unfold rs; rw [List.getElem?_map, ga]; rfl)
      have rb : at_ (rs c all ws) b' = c * ws[b'] % all := at_some (by unfold rs; rw [List.getElem?_map, gb]; rfl)
      simp only [Int.toNat_natCast, beats_iff, ra, rb]
      rw [hr]
      constructor <;> rintro (h | ⟨h, h'⟩)
      · exact .inl h
      · exact .inr ⟨h.symm, h'⟩
      · exact .inl h
      · exact .inr ⟨h.symm, h'⟩
    · rw [List.pairwise_map]
      refine List.pairwise_lt_range.imp fun {a b} hab => ?_
      simp only [Int.toNat_natCast]
      refine ⟨fun h => h, fun h => ?_⟩
      rcases beats_total (rs := rs c all ws) (show a ≠ b by omega) with h1 | h1
      · exact h1
      · rw [h1] at h; cases h
    · rw [Int.toNat_natCast]
      have hyl : ys.length = ws.length := by rw [hp.length_eq, hlR]
      have o6 : Owns h h6 [(1, ⟨some (bo, 0), ws.length⟩, nats (qs c all ws)), (1, ⟨some (bd, 0), ws.length⟩, ints ys)] := by
        refine ⟨hext _ _ hst, fun q hq => ?_, ?_⟩
        · have hq' : q = (1, ⟨some (bo, 0), ws.length⟩, nats (qs c all ws)) ∨ q = (1, ⟨some (bd, 0), ws.length⟩, ints ys) := by simpa using hq
          rcases hq' with rfl | rfl
          · exact ⟨by rw [nats_length, hQS]; simp, .inr ⟨bo, rfl, hbn', hst.2 _ _ ne0 co⟩⟩
          · exact ⟨by rw [ints_length, hyl]; simp, .inr ⟨bd, rfl, hbn, hst.1⟩⟩
        · simp only [List.pairwise_cons]
          refine ⟨fun q hq i hi hi2 => ?_, by simp⟩
          have : q = (1, ⟨some (bd, 0), ws.length⟩, ints ys) := by simpa using hq
          subst this
          cases hi
          cases hi2
          exact ne0 rfl
      have hRS : (rs c all ws).length = ws.length := by simp [rs]
      generalize hq : qs c all ws = q at *
      generalize hr : rs c all ws = rr at *
      have hlq : q.length = ws.length := by rw [← hq]; exact hQS all
      obtain ⟨ys', rfl, hp'⟩ : ∃ ys' : List Nat, ys = ys'.map (fun n : Nat => (n : Int)) ∧ ys'.Perm (List.range ws.length) := by
        refine ⟨ys.map Int.toNat, ?_, ?_⟩
        · rw [List.map_map]
          conv => lhs; rw [← List.map_id ys]
          refine List.map_congr_left fun y hy => ?_
          obtain ⟨n, _, rfl⟩ := List.mem_map.1 (hp.mem_iff.1 hy)
          simp
        · have := hp.map Int.toNat
          rw [List.map_map] at this
          have e : (Int.toNat ∘ fun n : Nat => (n : Int)) = id := by funext n; simp
          rw [e, List.map_id] at this
          exact this
      rw [List.pairwise_map] at hpw
      simp only [Int.toNat_natCast] at hpw
      rw [← hRS] at hp'
      have hyl' : ys'.length = ws.length := by rw [hp'.length_eq, List.length_range, hRS]
      have hleft : c - q.sum ≤ ws.length := by omega
      have hqs : ∀ e x, q[e]? = some x → x ≤ c := fun e x hx => by
        have := mem_le_sum (List.mem_of_getElem? hx)
        omega
      refine loopK_intro (fun (a : Int) h4 m => ∃ k : Nat, k ≤ c - q.sum ∧ a = (k : Int) ∧ c - q.sum - k = m ∧ Owns h h4 [(1, ⟨some (bo, 0), ws.length⟩, nats (dealtK q rr k)), (1, ⟨some (bd, 0), ws.length⟩, ints (ys'.map fun n : Nat => (n : Int)))]) (c - q.sum)
        ⟨0, by omega, rfl, rfl, by rw [dealtK_zero]; exact o6⟩ ?_
      rintro a h4 m ⟨k, hk, rfl, rfl, o5⟩
      refine ifT_dec (fun hlt => ⟨⟨by omega, hlt⟩, ?_⟩) (fun hge => ?_)
      · have hkl : k < c - q.sum := by have : (k : Int) < ((c - q.sum - 0 : Nat) : Int) := hlt; omega
        have hsub := (o5.at_ (sz := 1) (s := ⟨some (bd, 0), ws.length⟩) (cs := ints (ys'.map fun n : Nat => (n : Int))) (by simp)).sub 0 (c - q.sum) (by omega) hleft
        have hy : ys'[k]? = some ys'[k] := List.getElem?_eq_getElem (by omega)
        generalize ys'[k] = e at hy
        have hel : e < ws.length := by
          have := List.mem_range.1 (hp'.mem_iff.1 (List.mem_of_getElem? hy)); omega
        have hrank := sorted_rank hp' hpw hy
        have hg : (((ints (ys'.map fun n : Nat => (n : Int))).drop (0 * 1)).take ((c - q.sum - 0) * 1))[k]? = some (.int .i64 (e : Int)) := by
          rw [List.getElem?_take, if_pos (by omega), Nat.zero_mul, List.drop_zero]
          exact ints_get (by rw [List.getElem?_map, hy]; rfl)
        refine hsub.cell hg fun b o' hr' => ⟨_, hr', ⟨by omega, by simp; omega⟩, ?_⟩
        have hqe : q[e]? = some (at_ q e) := by
          rw [List.getElem?_eq_getElem (by omega)]
          rw [at_some (List.getElem?_eq_getElem (show e < q.length by omega))]
        have hde : (dealtK q rr k)[e]? = some (at_ q e) := by rw [dealtK_get (by omega), hrank]; simp
        have hqec := hqs e _ hqe
        refine (o5.at_ List.mem_cons_self).cell (nats_get hde) fun b o' hr' => ⟨_, hr', ⟨by omega, by simp; omega⟩, derefK_intro rfl ?_⟩
        have ew : IntKind.i64.wrap ((at_ q e : Int) + 1) = ((at_ q e + 1 : Nat) : Int) := by rw [w64] <;> omega
        have eo : 0 + (e : Int).toNat * 1 = e := by simp
        rw [ew, eo]
        refine storeK_one (o5.block List.mem_cons_self).1 (by rw [nats_length, dealtK_length]; omega) ⟨c - q.sum - (k + 1), by omega, k + 1, by omega, ?_, rfl, ?_⟩
        · rw [w64] <;> omega
        · rw [nats_set, dealtK_step (by omega) (by omega) hrank]
          exact o5.change (by rw [nats_length, dealtK_length]; omega)
      · have hk2 : k = c - q.sum := by
          have : ¬ (k : Int) < ((c - q.sum - 0 : Nat) : Int) := hge
          omega
        subst hk2
        refine hQ _ _ o5.ext ?_
        have := o5.at_ (sz := 1) (s := ⟨some (bo, 0), ws.length⟩) (cs := nats (dealtK q rr (c - q.sum))) (by simp)
        unfold shared
        rw [hall, hq, hr]
        exact this
end
end Go.Proofs.YtohdelegimcceaaVc
