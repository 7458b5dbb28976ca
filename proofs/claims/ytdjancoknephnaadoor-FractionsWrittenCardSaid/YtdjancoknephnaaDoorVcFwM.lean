/- Contracts of what FractionsWritten reaches, part 2: a number's decimal text. Contracts of what FractionsWritten reaches, part 3: FormatUint, Itoa. Contracts of what FractionsWritten reaches, part 4: Itoa of a number that is not negative. Contracts of what FractionsWritten reaches, part 5: is it a right fraction? -/
import Derived.Test.YtdjancoknephnaaDoorVcFwOld2
set_option linter.unusedSimpArgs false
set_option linter.unusedVariables false
-- FwSpec2
namespace Go.Proofs.YtdjancoknephnaaDoorVc
open Go.Proofs.Tryd (prog)

/-- The table of the powers of ten. -/
def pows : List Cell := (List.range 20).map fun k => .int .u64 ((10 ^ k : Nat) : Int)
/-- The table lies where the program's variable 2 is. -/
def PowsAt (h : Heap) : Prop := ∃ q i ro, GlobIn h q 2 i ∧ h i = some (.cells ro pows)
theorem PowsAt.ext {h h' : Heap} (p : PowsAt h) (he : Ext h h') : PowsAt h' := by
  obtain ⟨q, i, ro, ⟨f, hq, hf⟩, hi⟩ := p
  exact ⟨q, i, ro, ⟨f, he _ _ hq, hf⟩, he _ _ hi⟩
theorem pows_get {k : Nat} (hk : k < 20) : pows[k]? = some (.int .u64 ((10 ^ k : Nat) : Int)) := by simp [pows, hk]
theorem log10_ok : ∀ b : Fin 65, b.val * 78913 / 2 ^ 18 < 20 ∧ 2 ^ b.val ≤ 10 ^ (b.val * 78913 / 2 ^ 18 + 1) ∧ (b.val = 0 ∨ 10 ^ (b.val * 78913 / 2 ^ 18 - 1) ≤ 2 ^ (b.val - 1)) := by decide +kernel

section
variable {I : Calls} {Q : Post} {h : Heap}
theorem spec98 (hI : Closed' prog Pm I) {b : Nat} (hb : b ≤ 64) (hQ : Q [int ((b * 78913 / 2 ^ 18 : Nat) : Int)] h) : I 98 [int b] Q h := by
  refine hI.go _ _ (den98 I b Q) ?_
  unfold vc98
  have e : IntKind.i64.wrap ((b : Int) * 78913) = ((b * 78913 : Nat) : Int) := by rw [w64] <;> omega
  have e2 := shr_nat (b * 78913) 18 .i64 rfl (by omega)
  rw [e]
  have e3 : shr IntKind.i64 ((b * 78913 : Nat) : Int) 18 = ((b * 78913 / 2 ^ 18 : Nat) : Int) := e2
  rw [e3]
  exact hQ
theorem spec99 (hI : Closed' prog Pm I) {b : Bool} (hQ : Q [int (if b then 1 else 0)] h) : I 99 [.one (.bool b)] Q h := by
  refine hI.go _ _ (den99 I b Q) ?_
  cases b <;> exact hQ
/-- How many digits a number has. -/
theorem spec83 (hI : Closed' prog Pm I) {u : Nat} (hp : PowsAt h) (h0 : 0 < u) (h1 : u < 18446744073709551616) (hQ : ∀ len : Nat, len ≤ 20 → u < 10 ^ len → 10 ^ (len - 1) ≤ u → Q [int len] h) : I 83 [u64 u] Q h := by
  refine hI.go _ _ (den83 I u Q) ?_
  refine spec81g hI h0 h1 fun b hb hub hbu => ⟨_, rfl, spec98 hI hb ⟨_, rfl, ?_⟩⟩
  obtain ⟨hd20, hle, hlo⟩ := log10_ok ⟨b, by omega⟩
  simp only at hd20 hle hlo
  have hb0 : b ≠ 0 := fun e => by subst e; omega
  have hlo := hlo.resolve_left hb0
  have hb2 : 2 ^ (b - 1) ≤ u := by
    have : 2 ^ b = 2 * 2 ^ (b - 1) := by rw [show b = (b - 1) + 1 by omega, Nat.pow_succ]; simp; omega
    omega
  generalize hd : b * 78913 / 2 ^ 18 = d at hd20 hle hlo ⊢
  obtain ⟨q, i, ro, hg, hi⟩ := hp
  refine ⟨⟨by omega, by omega⟩, q, i, hg, ((10 ^ d : Nat) : Int), ?_, ?_⟩
  · exact read_cell hi (by simpa using pows_get hd20)
  · refine spec99 hI ⟨_, rfl, ?_⟩
    by_cases hge : (u : Int) ≥ ((10 ^ d : Nat) : Int)
    · have hge' : 10 ^ d ≤ u := by omega
      have e : IntKind.i64.wrap ((d : Int) + (if decide ((u : Int) ≥ ((10 ^ d : Nat) : Int)) = true then 1 else 0)) = ((d + 1 : Nat) : Int) := by
        rw [if_pos (by simpa using hge)]
        rw [w64] <;> omega
      rw [e]
      exact hQ _ (by omega) (by omega) (by simpa using hge')
    · have e : IntKind.i64.wrap ((d : Int) + (if decide ((u : Int) ≥ ((10 ^ d : Nat) : Int)) = true then 1 else 0)) = ((d : Nat) : Int) := by
        rw [if_neg (by simpa using hge)]
        rw [w64] <;> omega
      rw [e]
      exact hQ _ (by omega) (by omega) (by omega)
end
end Go.Proofs.YtdjancoknephnaaDoorVc
-- FwSpec3
namespace Go.Proofs.YtdjancoknephnaaDoorVc
open Go.Proofs.Tryd (prog)

/-- The last `len` digits as a text. -/
def decs (u len : Nat) : ByteArray := ⟨((List.range len).map fun k => UInt8.ofNat (48 + u / 10 ^ (len - 1 - k) % 10)).toArray⟩
theorem decs_cells (u len : Nat) : byteCells (decs u len) = digs u len := by
  simp only [byteCells, decs, digs, List.map_map]
  apply List.map_congr_left
  intro k _
  simp only [Function.comp, digit, Cell.int.injEq, true_and]
  rw [UInt8.toNat_ofNat_of_lt' (by simp [UInt8.size]; omega)]
theorem decs_size (u len : Nat) : (decs u len).size = len := by simp [decs, ByteArray.size]
theorem small_ok : ∀ n : Fin 100, (n.val < 10 → (⟨#[48, 49, 50, 51, 52, 53, 54, 55, 56, 57, 97, 98, 99, 100, 101, 102, 103, 104, 105, 106, 107, 108, 109, 110, 111, 112, 113, 114, 115, 116, 117, 118, 119, 120, 121, 122]⟩ : ByteArray).extract n.val (n.val + 1) = decs n.val 1) ∧
    smalls.extract (n.val * 2) (n.val * 2 + 2) = decs n.val 2 := by decide +kernel
/-- So many digits has the number. -/
def Digits (u len : Nat) : Prop := 1 ≤ len ∧ len ≤ 20 ∧ u < 10 ^ len ∧ (len = 1 ∨ 10 ^ (len - 1) ≤ u)
theorem Digits.same {u a b : Nat} (ha : Digits u a) (hb : Digits u b) : a = b := by
  obtain ⟨a1, _, a2, a3⟩ := ha
  obtain ⟨b1, _, b2, b3⟩ := hb
  rcases Nat.lt_trichotomy a b with h | h | h
  · rcases b3 with h3 | h3
    · omega
    · have := Nat.pow_le_pow_right (n := 10) (by omega) (by omega : a ≤ b - 1)
      omega
  · exact h
  · rcases a3 with h3 | h3
    · omega
    · have := Nat.pow_le_pow_right (n := 10) (by omega) (by omega : b ≤ a - 1)
      omega

section
variable {I : Calls} {Q : Post} {h : Heap}
theorem spec82 (hI : Closed' prog Pm I) {u : Nat} (hu : u < 100) (hQ : ∀ len, Digits u len → Q [str (decs u len)] h) : I 82 [int u] Q h := by
  refine hI.go _ _ (den82 I u Q) ?_
  obtain ⟨h1, h2⟩ := small_ok ⟨u, hu⟩
  simp only at h1 h2
  refine ifT_dec (fun h3 => ?_) fun h3 => ?_
  · have e : IntKind.i64.wrap ((u : Int) + 1) = ((u + 1 : Nat) : Int) := by rw [w64] <;> omega
    rw [e]
    refine ⟨⟨by omega, by omega, by omega⟩, ?_⟩
    have := hQ 1 ⟨by omega, by omega, by omega, .inl rfl⟩
    rw [← h1 (by omega)] at this
    exact this
  · have e : IntKind.i64.wrap ((u : Int) * 2) = ((u * 2 : Nat) : Int) := by rw [w64] <;> omega
    have e2 : IntKind.i64.wrap (((u * 2 : Nat) : Int) + 2) = ((u * 2 + 2 : Nat) : Int) := by rw [w64] <;> omega
    rw [e, e2]
    refine ⟨⟨by omega, by omega, by omega⟩, ?_⟩
    have := hQ 2 ⟨by omega, by omega, by omega, .inr (by omega)⟩
    rw [← h2] at this
    exact this

theorem zeros24 {h : Heap} {i o len u : Nat} {cs : List Cell} (hl : o + len ≤ cs.length) (hh : h i = some (.cells false (cs.take o ++ digs u len ++ cs.drop (o + len)))) :
    h.sl 1 ⟨some (i, o), len⟩ = some (byteCells (decs u len)) := by
  rw [decs_cells]
  show h.read i o (len * 1) = _
  rw [Nat.mul_one, read_block hh (by simp [digs_len]; omega), List.append_assoc, List.drop_append_of_le_length (by simp; omega), List.drop_eq_nil_of_le (by simp; omega), List.nil_append, List.take_append_of_le_length (by simp [digs_len]), List.take_of_length_le (by simp [digs_len])]

/-- FormatUint, in base 10. -/
theorem spec58 (hI : Closed' prog Pm I) {u : Nat} (hp : PowsAt h) (h1 : u < 18446744073709551616) (hQ : ∀ len h', Ext h h' → Digits u len → Q [str (decs u len)] h') : I 58 [u64 u, int 10] Q h := by
  refine hI.go _ _ (den58 I u 10 Q) ?_
  refine ifT_dec (fun _ => ?_) fun h => absurd rfl h
  refine ifT_dec (fun h2 => ?_) fun h2 => ?_
  · rw [show IntKind.i64.wrap (u : Int) = (u : Int) by rw [w64] <;> omega]
    exact spec82 hI (by omega) fun len hd => ⟨_, rfl, hQ len _ (Ext.refl _) hd⟩
  · refine newK_intro fun i h' hi hh => ?_
    have he : Ext h h' := hh ▸ Ext.new hi
    refine spec83 hI (hp.ext he) (by omega) h1 fun len hl hlt hge => ⟨_, rfl, ⟨by omega, by omega, by omega⟩, ?_, ?_⟩
    · exact ⟨false, _, by rw [hh, set_eq], by simp⟩
    have e : ((len : Int)).toNat - 0 = len := by omega
    rw [e]
    refine spec84 (fun A F hd hF => hI.go _ _ hd hF) (cs := List.replicate 24 (.int .u8 0)) (by rw [hh, set_eq]; rfl) (by simp; omega) (by omega) hlt h1 ?_
    refine ⟨rfl, ⟨by omega, by omega, by omega⟩, ⟨false, _, set_eq _ _ _, by simp [digs_len]; omega⟩, decs u len, ?_, ?_⟩
    · exact zeros24 (by simp; omega) (set_eq _ _ _)
    · refine hQ len _ ?_ ⟨?_, by omega, hlt, .inr hge⟩
      · rw [hh, set_set]
        exact Ext.new hi
      · rcases Nat.eq_zero_or_pos len with e | e
        · subst e; simp at hlt; omega
        · exact e
theorem spec28 (hI : Closed' prog Pm I) {u : Nat} (hp : PowsAt h) (h1 : u < 18446744073709551616) (hQ : ∀ len h', Ext h h' → Digits u len → Q [str (decs u len)] h') : I 28 [u64 u, int 10] Q h := by
  refine hI.go _ _ (den28 I u 10 Q) ?_
  exact spec58 hI hp h1 fun len h' he hd => ⟨_, rfl, hQ len h' he hd⟩
end
end Go.Proofs.YtdjancoknephnaaDoorVc
-- FwSpec4
namespace Go.Proofs.YtdjancoknephnaaDoorVc
open Go.Proofs.Tryd (prog)
section
variable {I : Calls} {Q : Post} {h : Heap}
theorem spec91 (hI : Closed' prog Pm I) {u : Nat} (hp : PowsAt h) (h1 : u < 9223372036854775808) (hQ : ∀ len h', Ext h h' → Digits u len → Q [str (decs u len)] h') : I 91 [int u, int 10] Q h := by
  refine hI.go _ _ (den91 I u 10 Q) ?_
  refine ifT_dec (fun _ => ?_) fun h => absurd rfl h
  refine joinK_intro (fun b h' => h' = h ∧ b = decide ((u : Int) < 100)) ?_ fun j hj => ?_
  · rintro _ h' ⟨rfl, rfl⟩
    refine ifT_dec (fun h2 => ?_) fun h2 => ?_
    · exact spec82 hI (by omega) fun len hd => ⟨_, rfl, hQ len _ (Ext.refl _) hd⟩
    · refine newK_intro fun i h2 hi hh => ?_
      have he : Ext h' h2 := hh ▸ Ext.new hi
      refine joinK_intro (fun x h3 => h3 = h2 ∧ x = ((u : Nat) : Int)) ?_ fun j hj => ?_
      · rintro _ h3 ⟨rfl, rfl⟩
        refine spec83 hI (hp.ext he) (by omega) (by omega) fun len hl hlt hge => ?_
        have e0 : IntKind.i64.wrap (1 + (len : Int)) = ((1 + len : Nat) : Int) := by rw [w64] <;> omega
        have e : ((1 + len : Nat) : Int).toNat - 1 = len := by omega
        have hl0 : 1 ≤ len := by
          rcases Nat.eq_zero_or_pos len with e | e
          · subst e; simp at hlt; omega
          · exact e
        refine ⟨_, rfl, ?_⟩
        rw [e0, e]
        refine ⟨⟨by omega, by omega, by omega⟩, ⟨false, _, by rw [hh, set_eq], by simp⟩, ?_⟩
        refine spec84 (fun A F hd hF => hI.go _ _ hd hF) (cs := List.replicate 24 (.int .u8 0)) (by rw [hh, set_eq]; rfl) (by simp; omega) (by omega) hlt (by omega) ?_
        refine ⟨rfl, ifT_dec (fun h => by omega) fun _ => ?_⟩
        refine ⟨⟨by omega, by omega, by omega⟩, ⟨false, _, set_eq _ _ _, by simp [digs_len]; omega⟩, decs u len, ?_, ?_⟩
        · exact zeros24 (by simp; omega) (set_eq _ _ _)
        · refine hQ len _ ?_ ⟨hl0, by omega, hlt, .inr hge⟩
          rw [hh, set_set]
          exact Ext.new hi
      · refine ifT_dec (fun h => by omega) fun _ => hj _ _ ⟨rfl, by rw [wu64] <;> omega⟩
  · refine ifT_dec (fun _ => hj _ _ ⟨rfl, rfl⟩) fun h => by omega
theorem spec66 (hI : Closed' prog Pm I) {u : Nat} (hp : PowsAt h) (h1 : u < 9223372036854775808) (hQ : ∀ len h', Ext h h' → Digits u len → Q [str (decs u len)] h') : I 66 [int u] Q h := by
  refine hI.go _ _ (den66 I u Q) ?_
  exact spec91 hI hp h1 fun len h' he hd => ⟨_, rfl, hQ len h' he hd⟩
theorem spec31 (hI : Closed' prog Pm I) {u : Nat} (hp : PowsAt h) (h1 : u < 9223372036854775808) (hQ : ∀ len h', Ext h h' → Digits u len → Q [str (decs u len)] h') : I 31 [int u] Q h := by
  refine hI.go _ _ (den31 I u Q) ?_
  exact spec66 hI hp h1 fun len h' he hd => ⟨_, rfl, hQ len h' he hd⟩
end
end Go.Proofs.YtdjancoknephnaaDoorVc
-- FwSpec5
namespace Go.Proofs.YtdjancoknephnaaDoorVc
open Go.Proofs.Tryd (prog)
/-- A right fraction. -/
def RightF (n d : Int) : Prop := (-4611686018427387904 ≤ n ∧ n ≤ 4611686018427387904) ∧ (1 ≤ d ∧ d ≤ 4611686018427387904) ∧ Nat.gcd n.natAbs d.natAbs = 1
instance (n d : Int) : Decidable (RightF n d) := by unfold RightF; infer_instance
section
variable {I : Calls} {Q : Post} {h : Heap}
theorem spec24i (hI : Closed' prog Pm I) {n : Int} (h1 : -4611686018427387904 ≤ n) (h2 : n ≤ 4611686018427387904) (hQ : Q [u64 (n.natAbs : Nat)] h) : I 24 [int n] Q h := by
  refine hI.go _ _ (den24 I n Q) ?_
  refine ifT_dec (fun h3 => ?_) fun h3 => ?_
  · rw [show IntKind.u64.wrap (0 - IntKind.u64.wrap n) = ((n.natAbs : Nat) : Int) by rw [IntKind.wrap_u64, IntKind.wrap_u64]; omega]
    exact hQ
  · rw [show IntKind.u64.wrap n = ((n.natAbs : Nat) : Int) by rw [IntKind.wrap_u64]; omega]
    exact hQ
theorem spec22 (hI : Closed' prog Pm I) {n d : Int} (hQ : Q [boo (decide (RightF n d))] h) : I 22 [frac n d] Q h := by
  refine hI.go _ _ (den22 I n d Q) ?_
  refine spec25 hI ⟨_, rfl, ifT_intro (fun e => ?_) fun e => ?_⟩
  · have e : -4611686018427387904 ≤ n ∧ n ≤ 4611686018427387904 := by simpa using e
    refine spec25 hI ⟨_, rfl, ifT_intro (fun e2 => ?_) fun e2 => ?_⟩
    · have e2 : 1 ≤ d ∧ d ≤ 4611686018427387904 := by simpa using e2
      refine spec24i hI e.1 e.2 ⟨_, rfl, spec24i hI (by omega) e2.2 ⟨_, rfl, spec54 hI ⟨_, rfl, ?_⟩⟩⟩
      have e3 : decide (((Nat.gcd n.natAbs d.natAbs : Nat) : Int) = 1) = decide (RightF n d) := decide_eq_decide.2 ⟨fun h => ⟨e, e2, by omega⟩, fun h => by have := h.2.2; omega⟩
      rw [e3]
      exact hQ
    · have e3 : decide (RightF n d) = false := decide_eq_false fun h => by
        have := h.2.1
        simp [this.1, this.2] at e2
      rw [e3] at hQ
      exact hQ
  · have e3 : decide (RightF n d) = false := decide_eq_false fun h => by
      have := h.1
      simp [this.1, this.2] at e
    rw [e3] at hQ
    exact hQ
theorem spec90 (hI : Closed' prog Pm I) {a b : Nat} (hQ : Q [int (Nat.gcd a b : Nat)] h) : I 90 [int a, int b] Q h := by
  refine hI.go _ _ (den90 I a b Q) ?_
  refine loopK_intro (fun (p : Int × Int) h' m => h' = h ∧ ∃ x y : Nat, p = ((x : Int), (y : Int)) ∧ y = m ∧ Nat.gcd x y = Nat.gcd a b) b ⟨rfl, a, b, rfl, rfl, rfl⟩ ?_
  rintro p h' m ⟨rfl, x, y, rfl, rfl, hg⟩
  dsimp only [uncur]
  refine ifT_intro (fun h1 => ?_) fun h1 => ?_
  · have h2 : ¬ (y : Int) = 0 := by simpa using h1
    refine ⟨h2, x % y, Nat.mod_lt _ (by omega), rfl, y, x % y, by rw [Int.ofNat_tmod], rfl, ?_⟩
    rw [← hg, Nat.gcd_comm x y, Nat.gcd_rec y x, Nat.gcd_comm]
  · have h2 : y = 0 := by have : (y : Int) = 0 := by simpa using h1
                          omega
    subst h2
    rw [Nat.gcd_zero_right] at hg
    subst hg
    exact hQ
theorem spec65 (hI : Closed' prog Pm I) {n d : Int} (h1 : -4611686018427387904 ≤ n) (h2 : n ≤ 4611686018427387904) (h3 : 1 ≤ d) (h4 : d ≤ 4611686018427387904)
    (hQ : Q [frac (n.tdiv (Nat.gcd n.natAbs d.natAbs : Nat)) (d.tdiv (Nat.gcd n.natAbs d.natAbs : Nat))] h) : I 65 [int n, int d] Q h := by
  refine hI.go _ _ (den65 I n d Q) ?_
  refine joinK_intro (fun p h' => h' = h ∧ p = (n, d)) ?_ fun j hj => ifT_dec (fun h => by omega) fun _ => hj _ _ ⟨rfl, rfl⟩
  rintro p h' ⟨rfl, rfl⟩
  dsimp only [uncur]
  have e1 : max n (IntKind.i64.wrap (0 - n)) = ((n.natAbs : Nat) : Int) := by rw [w64] <;> omega
  have e2 : d = ((d.natAbs : Nat) : Int) := by omega
  rw [e1]
  have hg0 : 0 < Nat.gcd n.natAbs d.natAbs := Nat.gcd_pos_of_pos_right _ (by omega)
  have key := spec90 hI (Q := fun cs5 => fun h6 => ∃ n7 : Int, (cs5 = [V.one (Cell.int IntKind.i64 n7)]) ∧ (n7 ≠ 0) ∧ (n7 ≠ 0) ∧
      Q [V.agg [Cell.int IntKind.i64 (IntKind.i64.wrap (n.tdiv n7)), Cell.int IntKind.i64 (IntKind.i64.wrap (d.tdiv n7))]] h6) (a := n.natAbs) (b := d.natAbs) (h := h') ?_
  · rw [← e2] at key
    exact key
  · refine ⟨_, rfl, by omega, by omega, ?_⟩
    generalize Nat.gcd n.natAbs d.natAbs = g at hg0 hQ ⊢
    have b1 : (n.tdiv (g : Int)).natAbs ≤ n.natAbs := by rw [Int.natAbs_tdiv]; exact Nat.div_le_self _ _
    have b2 : (d.tdiv (g : Int)).natAbs ≤ d.natAbs := by rw [Int.natAbs_tdiv]; exact Nat.div_le_self _ _
    rw [w64 (n := n.tdiv (g : Int)) (by omega) (by omega), w64 (n := d.tdiv (g : Int)) (by omega) (by omega)]
    exact hQ
theorem spec30 (hI : Closed' prog Pm I) {n d : Int} (hQ : Q [boo (decide (RightF n d))] h) : I 30 [frac n d] Q h := by
  refine hI.go _ _ (den30 I n d Q) ?_
  have no_ : ¬ RightF n d → Q [boo false] h := fun hn => by rw [decide_eq_false hn] at hQ; exact hQ
  refine ifT_dec (fun h1 => ifT_dec (fun h2 => ifT_dec (fun h3 => ifT_dec (fun h4 => ?_) fun h4 => no_ fun h => h4 h.1.2) fun h3 => no_ fun h => h3 h.1.1) fun h2 => no_ fun h => h2 h.2.1.2) fun h1 => no_ fun h => h1 h.2.1.1
  refine spec65 hI h3 h4 h1 h2 ⟨_, _, rfl, ?_⟩
  have e : (decide (n.tdiv ((Nat.gcd n.natAbs d.natAbs : Nat) : Int) = n) && decide (d.tdiv ((Nat.gcd n.natAbs d.natAbs : Nat) : Int) = d)) = decide (RightF n d) := by
    rw [← Bool.decide_and]
    refine decide_eq_decide.2 ⟨fun h => ⟨⟨h3, h4⟩, ⟨h1, h2⟩, ?_⟩, fun h => by rw [h.2.2]; simp⟩
    have hd := congrArg Int.natAbs h.2
    rw [Int.natAbs_tdiv] at hd
    simp only [Int.natAbs_natCast] at hd
    have hg0 : 0 < Nat.gcd n.natAbs d.natAbs := Nat.gcd_pos_of_pos_right _ (by omega)
    rcases Nat.lt_or_ge 1 (Nat.gcd n.natAbs d.natAbs) with hg | hg
    · exact absurd hd (Nat.ne_of_lt (Nat.div_lt_self (by omega : 0 < d.natAbs) hg))
    · omega
  rw [e]
  exact hQ
end
end Go.Proofs.YtdjancoknephnaaDoorVc
