/- Contracts of what FractionsWritten reaches, part 6: products compared. Contracts of what FractionsWritten reaches, part 7: the stream's fractions. Contracts of what FractionsWritten reaches, part 8: Percent. Contracts of what FractionsWritten reaches, part 9: PercentOf. FractionsWritten: the law's own function. -/
import Derived.Test.YtdjancoknephnaaDoorVcFwM
set_option linter.unusedSimpArgs false
set_option linter.unusedVariables false
-- FwSpec6
namespace Go.Proofs.YtdjancoknephnaaDoorVc
open Go.Proofs.Tryd (prog)
section
variable {I : Calls} {Q : Post} {h : Heap}
theorem spec80 (hI : Closed' prog Pm I) {n : Int} (hQ : Q [boo false] h) : I 80 [u64 n] Q h := by
  refine hI.go _ _ (den80 I n Q) ?_
  have e : (!decide (n = n)) = false := by simp
  unfold vc80
  rw [e]
  exact hQ
theorem spec56 (hI : Closed' prog Pm I) {a b : Int} (hQ : ∀ c, (c < 0 ↔ a < b) → (c = 0 ↔ a = b) → Q [int c] h) : I 56 [u64 a, u64 b] Q h := by
  refine hI.go _ _ (den56 I a b Q) ?_
  refine spec80 hI ⟨_, rfl, spec80 hI ⟨_, rfl, ifT_intro (fun h => by cases h) fun _ => ifT_intro (fun h => by cases h) fun _ => ?_⟩⟩
  refine ifT_dec (fun h1 => hQ _ (by omega) (by omega)) fun h1 => ifT_dec (fun h2 => hQ _ (by omega) (by omega)) fun h2 => hQ _ (by omega) (by omega)
theorem spec55 (hI : Closed' prog Pm I) {i : Nat} {x y : Int} (hi : h i = some (.cells false [.int .i64 x, .int .i64 y])) (hQ : Q [int (if x = 0 then y else x)] h) : I 55 [.one (.slice 1 ⟨some (i, 0), 2⟩)] Q h := by
  refine hI.go _ _ (den55 I _ Q) ?_
  refine loopK_intro (fun (a : Int) h' m => h' = h ∧ ((a = 0 ∧ m = 2) ∨ (a = 1 ∧ m = 1 ∧ x = 0) ∨ (a = 2 ∧ m = 0 ∧ x = 0 ∧ y = 0))) 2 ⟨rfl, .inl ⟨rfl, rfl⟩⟩ ?_
  rintro a h' m ⟨rfl, ⟨rfl, rfl⟩ | ⟨rfl, rfl, hx⟩ | ⟨rfl, rfl, hx, hy⟩⟩
  · refine ifT_dec (fun hlt => ⟨⟨by omega, hlt⟩, ?_⟩) fun hge => absurd (show (0 : Int) < ((2 : Nat) : Int) by omega) hge
    refine derefK_intro rfl ⟨x, read_cell hi rfl, ifT_intro (fun h1 => ?_) fun h1 => ⟨1, by omega, rfl, .inr (.inl ⟨by decide, rfl, by simpa using h1⟩)⟩⟩
    have h2 : x ≠ 0 := by simpa using h1
    rw [if_neg h2] at hQ
    exact hQ
  · refine ifT_dec (fun hlt => ⟨⟨by omega, hlt⟩, ?_⟩) fun hge => absurd (show (1 : Int) < ((2 : Nat) : Int) by omega) hge
    rw [if_pos hx] at hQ
    refine derefK_intro rfl ⟨y, read_cell hi rfl, ifT_intro (fun h1 => hQ) fun h1 => ⟨0, by omega, rfl, .inr (.inr ⟨by decide, rfl, hx, by simpa using h1⟩)⟩⟩
  · refine ifT_dec (fun hlt => absurd hlt (show ¬ (2 : Int) < ((2 : Nat) : Int) by omega)) fun hge => ?_
    rw [if_pos hx, hy] at hQ
    exact hQ
theorem spec23 (hI : Closed' prog Pm I) {x y z w : Nat} (hx : x < 18446744073709551616) (hy : y < 18446744073709551616) (hz : z < 18446744073709551616) (hw : w < 18446744073709551616)
    (hQ : ∀ c h', Ext h h' → (c > 0 ↔ z * w < x * y) → Q [int c] h') : I 23 [u64 x, u64 y, u64 z, u64 w] Q h := by
  refine hI.go _ _ (den23 I x y z w Q) ?_
  refine spec26 hI hx hy ⟨_, _, rfl, spec26 hI hz hw ⟨_, _, rfl, ?_⟩⟩
  refine spec56 hI fun c1 a1 a2 => ⟨_, rfl, spec56 hI fun c2 b1 b2 => ⟨_, rfl, newK_intro fun i h' hi hh => ?_⟩⟩
  refine spec55 hI (by rw [hh, set_eq]) ⟨_, rfl, hQ _ _ (hh ▸ Ext.new hi) ?_⟩
  generalize x * y = p at *
  generalize z * w = q at *
  have e1 := Nat.div_add_mod p 18446744073709551616
  have e2 := Nat.div_add_mod q 18446744073709551616
  split <;> omega
end
end Go.Proofs.YtdjancoknephnaaDoorVc
-- FwSpec7
namespace Go.Proofs.YtdjancoknephnaaDoorVc
open Go.Proofs.Tryd (prog)
section
variable {I : Calls} {Q : Post} {h : Heap}
theorem spec20 (hI : Closed' prog Pm I) {i : Nat} {l : Sl} {zs : List Int} {t : Nat} (S : Strm h i l zs t) (ht : t + 2 < 1000000000)
    (hQ : ∀ v h', Strm h' i l zs (t + 2) → (∀ j o, j ≠ i → h j = some o → h' j = some o) → Q [int v] h') : I 20 [.one (.ptr (some (i, 0)))] Q h := by
  refine hI.go _ _ (den20 I _ Q) ?_
  refine spec21 hI S (by omega) (by omega) fun v _ _ => ⟨_, rfl, newK_intro fun k h2 hk hh => ?_⟩
  have hki : k ≠ i := fun e => by subst e; rw [set_eq] at hk; cases hk
  have S2 : Strm h2 i l zs (t + 1) := (S.next (by omega)).ext (hh ▸ Ext.new hk)
  refine spec33 hI S2 (xs := [0, 1, -1, 2, 3, 6, -4, 100, 4611686018427387904, -4611686018427387904, 4611686018427387905, -4611686018427387905, 2305843009213693953, 999999937, 1000000, 9223372036854775807, -9223372036854775808, IntKind.i64.wrap (v - 500)])
    ⟨rfl, .inr ?_⟩ (by simp) (by simp) fun w _ => ⟨_, rfl, hQ _ _ (S2.next (by omega)) fun j o hj ho => ?_⟩
  · have hb : ∀ o', (h2.set i o') k = some (.cells false (ints [0, 1, -1, 2, 3, 6, -4, 100, 4611686018427387904, -4611686018427387904, 4611686018427387905, -4611686018427387905, 2305843009213693953, 999999937, 1000000, 9223372036854775807, -9223372036854775808, IntKind.i64.wrap (v - 500)])) := fun o' => by
      rw [set_ne _ _ hki, hh, set_eq]
      rfl
    exact read_block (hb _) (o := 0) (n := 18) (by simp [ints])
  · have hjk : j ≠ k := fun e => by subst e; rw [set_ne _ _ hj, ho] at hk; cases hk
    rw [set_ne _ _ hj, hh, set_ne _ _ hjk, set_ne _ _ hj]
    exact ho
theorem spec5 (hI : Closed' prog Pm I) {i : Nat} {l : Sl} {zs : List Int} {t : Nat} (S : Strm h i l zs t) (ht : t + 5 < 1000000000)
    (hQ : ∀ n d h', Strm h' i l zs (t + 5) → (∀ j o, j ≠ i → h j = some o → h' j = some o) → Q [frac n d] h') : I 5 [.one (.ptr (some (i, 0)))] Q h := by
  refine hI.go _ _ (den5 I _ Q) ?_
  refine spec20 hI S (by omega) fun n h1 S1 f1 => ⟨_, rfl, spec20 hI S1 (by omega) fun d h2 S2 f2 => ⟨_, rfl, ?_⟩⟩
  refine spec17 hI S2 (by omega) (by omega) fun b => ⟨_, rfl, ?_⟩
  have S3 := S2.next (by omega)
  have f3 : ∀ j o, j ≠ i → h j = some o → (h2.set i (strm l (t + 2 + 2 + 1))) j = some o := fun j o hj ho => by rw [set_ne _ _ hj]; exact f2 j o hj (f1 j o hj ho)
  generalize h2.set i (strm l (t + 2 + 2 + 1)) = h3 at S3 f3 ⊢
  have fin : ∀ n d, Q [frac n d] h3 := fun n d => hQ n d h3 S3 f3
  refine ifT_intro (fun _ => fin _ _) fun _ => ?_
  refine joinK_intro (fun x h' => h' = h3 ∧ (x = false → -4611686018427387904 ≤ n ∧ n ≤ 4611686018427387904)) ?_ fun j hj => ?_
  · rintro x h' ⟨rfl, hx⟩
    refine joinK_intro (fun x h'' => h'' = h' ∧ (-4611686018427387904 ≤ x ∧ x ≤ 4611686018427387904)) ?_ fun j hj => ?_
    · rintro x h'' ⟨rfl, hx1, hx2⟩
      refine loopK_intro (fun (p : Int × Int) h' m => h' = h'' ∧ ∃ x y : Nat, p = ((x : Int), (y : Int)) ∧ y = m ∧ (0 < x ∨ 0 < y)) (min (max d 1) 4611686018427387904).natAbs
        ⟨rfl, x.natAbs, (min (max d 1) 4611686018427387904).natAbs, ?_, rfl, .inr (by omega)⟩ ?_
      · rw [Prod.mk.injEq]
        refine ⟨?_, by omega⟩
        rw [w64] <;> omega
      · rintro p h' m ⟨rfl, a, b, rfl, rfl, hab⟩
        dsimp only [uncur]
        refine ifT_intro (fun h1 => ?_) fun h1 => ?_
        · have h2 : ¬ (b : Int) = 0 := by simpa using h1
          exact ⟨h2, a % b, Nat.mod_lt _ (by omega), rfl, b, a % b, by rw [Int.ofNat_tmod], rfl, .inl (by omega)⟩
        · have h2 : (b : Int) = 0 := by simpa using h1
          exact ⟨by omega, by omega, fin _ _⟩
    · exact ifT_intro (fun _ => hj _ _ ⟨rfl, by decide, by decide⟩) fun e => hj _ _ ⟨rfl, hx e⟩
  · refine ifT_dec (fun _ => hj _ _ ⟨rfl, fun e => by cases e⟩) fun e1 => hj _ _ ⟨rfl, fun e => ?_⟩
    have e2 : ¬ n < -4611686018427387904 := by simpa using e
    omega
end
end Go.Proofs.YtdjancoknephnaaDoorVc
-- FwSpec8
namespace Go.Proofs.YtdjancoknephnaaDoorVc
open Go.Proofs.Tryd (prog)
abbrev zeroS : ByteArray := { data := #[48] }
/-- So many zeros in front. -/
def pad : Nat → ByteArray → ByteArray
  | 0, s => s
  | k + 1, s => zeroS ++ pad k s
theorem pad_rep : ∀ (k : Nat) (s : ByteArray), repS zeroS k ++ s = pad k s
  | 0, s => by simp [repS, pad]
  | k + 1, s => by rw [repS, pad, ByteArray.append_assoc, pad_rep k s]
theorem pad_size : ∀ (k : Nat) (s : ByteArray), (pad k s).size = k + s.size
  | 0, s => by simp [pad]
  | k + 1, s => by rw [pad, ByteArray.size_append, pad_size k s]; show 1 + _ = _; omega
/-- The dot before the last places. -/
def dotted (p : Nat) (s : ByteArray) : ByteArray := if 0 < p then s.extract 0 (s.size - p) ++ { data := #[46] } ++ s.extract (s.size - p) s.size else s
def ptext (n : Int) (p q len : Nat) : ByteArray := if n < 0 ∧ q ≠ 0 then { data := #[45] } ++ dotted p (pad (p + 1 - len) (decs q len)) else dotted p (pad (p + 1 - len) (decs q len))
def qOf (n d : Int) (p : Nat) : Nat := n.natAbs * (100 * 10 ^ p) / d.natAbs + (if d.natAbs ≤ 2 * (n.natAbs * (100 * 10 ^ p) % d.natAbs) then 1 else 0)
def errF (n d p : Int) : Int := if ¬ RightF n d then 3 else if d.natAbs * 1000000 < n.natAbs then 2 else if ¬ (0 ≤ p ∧ p ≤ 6) then 1 else 0
section
variable {I : Calls} {Q : Post} {h : Heap}
theorem signed {n : Int} {q : Nat} {t : ByteArray} (ht : t.size ≤ 1000) (hQ : Q [str (if n < 0 ∧ q ≠ 0 then { data := #[45] } ++ t else t), int 0] h) :
    ifT (decide (n < 0)) (ifT (!decide ((q : Int) = 0)) (fun h51 => 1 + t.size ≤ 9223372036854775807 ∧ Q [V.one (Cell.str ({ data := #[45] } ++ t)), V.one (Cell.int IntKind.i64 0)] h51)
      (Q [V.one (Cell.str t), V.one (Cell.int IntKind.i64 0)])) (Q [V.one (Cell.str t), V.one (Cell.int IntKind.i64 0)]) h := by
  refine ifT_dec (fun h1 => ifT_intro (fun h2 => ?_) fun h2 => ?_) fun h1 => ?_
  · have h2 : ¬ (q : Int) = 0 := by simpa using h2
    rw [if_pos ⟨h1, by omega⟩] at hQ
    exact ⟨by omega, hQ⟩
  · have h2 : (q : Int) = 0 := by simpa using h2
    rw [if_neg (fun e => e.2 (by omega))] at hQ
    exact hQ
  · rw [if_neg (fun e => h1 e.1)] at hQ
    exact hQ
theorem pow_le6 : ∀ p : Fin 7, 100 * 10 ^ p.val ≤ 100000000 := by decide
theorem spec7 (hI : Closed' prog Pm I) {n d p : Int} (hp : PowsAt h) (hE : errF n d p ≠ 0 → ∀ h', Ext h h' → Q [str { data := #[] }, int (errF n d p)] h')
    (hQ : errF n d p = 0 → ∀ len h', Ext h h' → Digits (qOf n d p.toNat) len → Q [str (ptext n p.toNat (qOf n d p.toNat) len), int 0] h') : I 7 [frac n d, int p] Q h := by
  refine hI.go _ _ (den7 I n d p Q) ?_
  refine spec22 hI ⟨_, rfl, ifT_intro (fun e => ?_) fun e => ?_⟩
  · have e : ¬ RightF n d := by simpa using e
    have e3 : errF n d p = 3 := by unfold errF; rw [if_pos e]
    rw [e3] at hE
    exact hE (by decide) _ (Ext.refl _)
  have r : RightF n d := by simpa using e
  obtain ⟨⟨n1, n2⟩, ⟨d1, d2⟩, _⟩ := id r
  refine spec24i hI n1 n2 ⟨_, rfl, spec24i hI (by omega) d2 ⟨_, rfl, ?_⟩⟩
  refine spec23 hI (x := n.natAbs) (y := 1) (z := d.natAbs) (w := 1000000) (by omega) (by omega) (by omega) (by omega) fun c h1 x1 hc => ⟨_, rfl, ?_⟩
  refine ifT_dec (fun e2 => ?_) fun e2 => ?_
  · have e3 : errF n d p = 2 := by unfold errF; rw [if_neg (fun h => h r), if_pos (by have := hc.1 e2; omega)]
    rw [e3] at hE
    exact hE (by decide) _ x1
  have e2' : ¬ d.natAbs * 1000000 < n.natAbs := fun hh => e2 (hc.2 (by omega))
  refine spec25 hI ⟨_, rfl, ifT_intro (fun e4 => ?_) fun e4 => ?_⟩
  · have e4 : ¬ (0 ≤ p ∧ p ≤ 6) := fun h => by simp [h.1, h.2] at e4
    have e3 : errF n d p = 1 := by unfold errF; rw [if_neg (fun h => h r), if_neg e2', if_pos e4]
    rw [e3] at hE
    exact hE (by decide) _ x1
  have e4 : 0 ≤ p ∧ p ≤ 6 := by simpa using e4
  have e0 : errF n d p = 0 := by unfold errF; rw [if_neg (fun h => h r), if_neg e2', if_neg (fun h => h e4)]
  have hQ := hQ e0
  obtain ⟨m, rfl⟩ : ∃ m : Nat, p = (m : Int) := ⟨p.toNat, by omega⟩
  simp only [Int.toNat_natCast] at hQ
  have hm6 : m ≤ 6 := by omega
  refine loopK_intro (fun (x : Int × Int) h' k => h' = h1 ∧ ∃ j : Nat, j ≤ m ∧ x = (((100 * 10 ^ j : Nat) : Int), (j : Int)) ∧ k = m - j) m ⟨rfl, 0, by omega, rfl, rfl⟩ ?_
  rintro x h' k ⟨rfl, j, hj, rfl, rfl⟩
  have hj8 := pow_le6 ⟨j, by omega⟩
  simp only at hj8
  dsimp only [uncur]
  refine ifT_dec (fun hlt => ?_) fun hge => ?_
  · refine ⟨m - (j + 1), by omega, rfl, j + 1, by omega, ?_, rfl⟩
    have a1 : IntKind.u64.wrap (((100 * 10 ^ j : Nat) : Int) * 10) = ((100 * 10 ^ (j + 1) : Nat) : Int) := by
      rw [wu64 (by omega) (by omega), Nat.pow_succ]; omega
    have a2 : IntKind.i64.wrap ((j : Int) + 1) = ((j + 1 : Nat) : Int) := by rw [w64] <;> omega
    rw [a1, a2]
  obtain rfl : j = m := by omega
  unfold qOf at hQ
  generalize 100 * 10 ^ j = sc at hj8 hQ ⊢
  refine spec24i hI n1 n2 ⟨_, rfl, ?_⟩
  refine spec26 hI (x := n.natAbs) (y := sc) (by omega) (by omega) ⟨_, _, rfl, spec24i hI (by omega) d2 ⟨_, rfl, ?_⟩⟩
  have hX : n.natAbs * sc ≤ d.natAbs * 1000000 * 100000000 := Nat.mul_le_mul (by omega) hj8
  generalize n.natAbs * sc = X at hX hQ ⊢
  refine spec27g hI (y := d.natAbs) (by omega) (by omega) (by omega) ⟨_, _, rfl, spec24i hI (by omega) d2 ⟨_, rfl, ?_⟩⟩
  rw [show X / 18446744073709551616 * 18446744073709551616 + X % 18446744073709551616 = X by omega]
  have hq : X / d.natAbs ≤ 100000000000000 := by
    rw [Nat.mul_assoc] at hX
    exact Nat.div_le_of_le_mul hX
  have hr : X % d.natAbs < d.natAbs := Nat.mod_lt _ (by omega)
  refine joinK_intro (fun x h'' => h'' = h' ∧ x = ((X / d.natAbs + (if d.natAbs ≤ 2 * (X % d.natAbs) then 1 else 0) : Nat) : Int)) ?_ fun j hj => ?_
  · generalize hqq : X / d.natAbs + (if d.natAbs ≤ 2 * (X % d.natAbs) then 1 else 0) = q at hQ ⊢
    have hq2 : q ≤ 100000000000001 := by rw [← hqq]; split <;> omega
    rintro x h'' ⟨rfl, rfl⟩
    refine spec28 hI (hp.ext x1) (by omega) fun len h2 x2 dg => ⟨_, rfl, ?_⟩
    have hl := dg.1
    have hl2 := dg.2.1
    have hsz := decs_size q len
    have e5 : max (IntKind.i64.wrap (IntKind.i64.wrap ((j : Int) + 1) - ((decs q len).size : Int))) 0 = ((j + 1 - len : Nat) : Int) := by
      rw [hsz, w64 (n := (j : Int) + 1) (by omega) (by omega), w64 (by omega) (by omega)]; omega
    rw [e5]
    refine hI.prim _ _ _ _ ⟨rfl, zeroS, j + 1 - len, by omega, rfl, by decide, fun h3 x3 => ⟨_, rfl, ?_⟩⟩
    rw [pad_rep]
    have hQ := hQ len h3 ((x1.trans x2).trans x3) dg
    unfold ptext dotted at hQ
    have hps := pad_size (j + 1 - len) (decs q len)
    rw [hsz] at hps
    have hrs : (repS zeroS (j + 1 - len)).size + (decs q len).size = (pad (j + 1 - len) (decs q len)).size := by rw [← pad_rep, ByteArray.size_append]
    generalize pad (j + 1 - len) (decs q len) = s at hQ hps hrs ⊢
    refine ⟨by omega, ?_⟩
    have e6 : IntKind.i64.wrap ((s.size : Int) - (j : Int)) = ((s.size - j : Nat) : Int) := by rw [w64] <;> omega
    rw [e6]
    simp only [Int.toNat_natCast]
    have ex1 : (s.extract 0 (s.size - j)).size = s.size - j := by simp [ByteArray.size_extract]
    have ex2 : (s.extract (s.size - j) s.size).size = j := by simp [ByteArray.size_extract]; omega
    have ex3 : ({ data := #[46] } : ByteArray).size = 1 := rfl
    refine ifT_dec (fun h50 => ?_) fun h50 => ?_
    · have hj0 : 0 < j := by omega
      simp only [if_pos hj0] at hQ
      refine ⟨⟨by omega, by omega, by omega⟩, by omega, ⟨by omega, by omega, by omega⟩, by rw [ByteArray.size_append]; omega, ?_⟩
      exact signed (by rw [ByteArray.size_append, ByteArray.size_append]; omega) hQ
    · have hj0 : ¬ 0 < j := by omega
      simp only [if_neg hj0] at hQ
      exact signed (by omega) hQ
  · clear hQ
    generalize X / d.natAbs = A at hq hj ⊢
    generalize X % d.natAbs = B at hr hj ⊢
    have w1 : IntKind.u64.wrap (2 * (B : Int)) = ((2 * B : Nat) : Int) := by rw [wu64] <;> omega
    rw [w1]
    refine ifT_dec (fun hh => ?_) fun hh => ?_
    · refine hj _ _ ⟨rfl, ?_⟩
      rw [if_pos (by omega), wu64 (by omega) (by omega)]
      rfl
    · refine hj _ _ ⟨rfl, ?_⟩
      rw [if_neg (by omega)]
      rfl
end
end Go.Proofs.YtdjancoknephnaaDoorVc
-- FwSpec9
namespace Go.Proofs.YtdjancoknephnaaDoorVc
open Go.Proofs.Tryd (prog)
theorem digit_step (Y D : Nat) (hD : 0 < D) : Y * 10 / D = Y / D * 10 + Y % D * 10 / D ∧ Y * 10 % D = Y % D * 10 % D := by
  have e : Y * 10 = D * (Y / D * 10) + Y % D * 10 := by
    have := Nat.div_add_mod Y D
    rw [← Nat.mul_assoc, ← Nat.add_mul, this]
  exact ⟨by rw [e, Nat.mul_add_div hD], by rw [e, Nat.mul_add_mod]⟩
theorem large_iff (N D : Nat) (hD : 0 < D) : D * 1000000 < N ↔ (1000000 < N / D ∨ (N / D = 1000000 ∧ 0 < N % D)) := by
  have e := Nat.div_add_mod N D
  rcases Nat.lt_trichotomy (N / D) 1000000 with h | h | h
  · have := (Nat.div_lt_iff_lt_mul hD).1 h
    rw [Nat.mul_comm] at this
    constructor <;> intro _ <;> omega
  · rw [h] at e
    constructor <;> intro _ <;> omega
  · have := (Nat.le_div_iff_mul_le hD).1 (show 1000001 ≤ N / D by omega)
    constructor <;> intro _ <;> omega
section
variable {I : Calls} {Q : Post} {h : Heap}
theorem signed2 {n : Int} {q : Nat} {t : ByteArray} (ht : t.size ≤ 1000) (hQ : Q [str (if n < 0 ∧ q ≠ 0 then { data := #[45] } ++ t else t), int 0] h) :
    ifT (decide (n < 0)) (ifT (decide ((q : Int) > 0)) (fun h51 => 1 + t.size ≤ 9223372036854775807 ∧ Q [V.one (Cell.str ({ data := #[45] } ++ t)), V.one (Cell.int IntKind.i64 0)] h51)
      (Q [V.one (Cell.str t), V.one (Cell.int IntKind.i64 0)])) (Q [V.one (Cell.str t), V.one (Cell.int IntKind.i64 0)]) h := by
  refine ifT_dec (fun h1 => ifT_dec (fun h2 => ?_) fun h2 => ?_) fun h1 => ?_
  · rw [if_pos ⟨h1, by omega⟩] at hQ
    exact ⟨by omega, hQ⟩
  · rw [if_neg (fun e => e.2 (by omega))] at hQ
    exact hQ
  · rw [if_neg (fun e => h1 e.1)] at hQ
    exact hQ
theorem spec8 (hI : Closed' prog Pm I) {n d p : Int} (hp : PowsAt h) (hE : errF n d p ≠ 0 → ∀ h', Ext h h' → Q [str { data := #[] }, int (errF n d p)] h')
    (hQ : errF n d p = 0 → ∀ len h', Ext h h' → Digits (qOf n d p.toNat) len → Q [str (ptext n p.toNat (qOf n d p.toNat) len), int 0] h') : I 8 [frac n d, int p] Q h := by
  refine hI.go _ _ (den8 I n d p Q) ?_
  refine spec30 hI ⟨_, rfl, ifT_intro (fun e => ?_) fun e => ?_⟩
  · have e : ¬ RightF n d := by simpa using e
    have e3 : errF n d p = 3 := by unfold errF; rw [if_pos e]
    rw [e3] at hE
    exact hE (by decide) _ (Ext.refl _)
  have r : RightF n d := by simpa using e
  obtain ⟨⟨n1, n2⟩, ⟨d1, d2⟩, _⟩ := id r
  have eN : max n (IntKind.i64.wrap (0 - n)) = ((n.natAbs : Nat) : Int) := by rw [w64] <;> omega
  obtain ⟨D, rfl⟩ : ∃ D : Nat, d = (D : Int) := ⟨d.toNat, by omega⟩
  have hD : 0 < D := by omega
  simp only [eN]
  have hDa : (D : Int).natAbs = D := rfl
  have eL := large_iff n.natAbs D hD
  have eq1 : IntKind.i64.wrap (((n.natAbs : Nat) : Int).tdiv (D : Int)) = ((n.natAbs / D : Nat) : Int) := by
    have := Nat.div_le_self n.natAbs D
    rw [tdivN]
    generalize n.natAbs / D = A at *
    rw [w64] <;> omega
  have eq2 : ((n.natAbs : Nat) : Int).tmod (D : Int) = ((n.natAbs % D : Nat) : Int) := tmodN _ _
  simp only [eq1, eq2]
  refine joinK_intro (fun x h' => h' = h ∧ x = decide (D * 1000000 < n.natAbs)) ?_ fun j hj => ?_
  · rintro x h' ⟨rfl, rfl⟩
    refine ifT_dec (fun e2 => ?_) fun e2 => ?_
    · have e3 : errF n D p = 2 := by unfold errF; rw [if_neg (fun h => h r)]; exact if_pos e2
      rw [e3] at hE
      exact hE (by decide) _ (Ext.refl _)
    refine joinK_intro (fun x h'' => h'' = h' ∧ x = decide (¬ (0 ≤ p ∧ p ≤ 6))) ?_ fun j hj => ?_
    · rintro x h'' ⟨rfl, rfl⟩
      refine ifT_dec (fun e4 => ?_) fun e4 => ?_
      · have e3 : errF n D p = 1 := by unfold errF; rw [if_neg (fun h => h r)]; exact (if_neg e2).trans (if_pos e4)
        rw [e3] at hE
        exact hE (by decide) _ (Ext.refl _)
      have e4 : 0 ≤ p ∧ p ≤ 6 := Decidable.not_not.1 e4
      have e0 : errF n D p = 0 := by unfold errF; rw [if_neg (fun h => h r)]; exact (if_neg e2).trans (if_neg (fun h => h e4))
      have hQ := hQ e0
      obtain ⟨m, rfl⟩ : ∃ m : Nat, p = (m : Int) := ⟨p.toNat, by omega⟩
      simp only [Int.toNat_natCast] at hQ
      have hm6 : m ≤ 6 := by omega
      have hw2 : IntKind.i64.wrap ((m : Int) + 2) = ((m + 2 : Nat) : Int) := by rw [w64] <;> omega
      refine ⟨by omega, by omega, ?_⟩
      rw [hw2]
      refine loopK_intro (fun (x : Int × Int × Int) h' k => h' = h'' ∧ ∃ i : Nat, i ≤ m + 2 ∧ x = (((n.natAbs * 10 ^ i / D : Nat) : Int), ((n.natAbs * 10 ^ i % D : Nat) : Int), (i : Int)) ∧ k = m + 2 - i) (m + 2)
        ⟨rfl, 0, by omega, by simp, rfl⟩ ?_
      rintro x h' k ⟨rfl, i, hi, rfl, rfl⟩
      dsimp only [uncur]
      have hrD : n.natAbs * 10 ^ i % D < D := Nat.mod_lt _ hD
      have hpow : 10 ^ i ≤ 100000000 := Nat.pow_le_pow_right (n := 10) (by omega) (by omega : i ≤ 8)
      have hX : n.natAbs * 10 ^ i ≤ D * 1000000 * 100000000 := Nat.mul_le_mul (by omega) hpow
      have hA : n.natAbs * 10 ^ i / D ≤ 100000000000000 := by
        rw [Nat.mul_assoc] at hX
        exact Nat.div_le_of_le_mul hX
      obtain ⟨s1, s2⟩ := digit_step (n.natAbs * 10 ^ i) D hD
      refine ifT_dec (fun hlt => ?_) fun hge => ?_
      · rw [Nat.mul_assoc, ← Nat.pow_succ] at s1 s2
        have hlt : i < m + 2 := by omega
        have hi1 : IntKind.i64.wrap ((i : Int) + 1) = ((i + 1 : Nat) : Int) := by rw [w64] <;> omega
        have hA' : n.natAbs * 10 ^ (i + 1) / D ≤ 100000000000000 := by
          have hpow : 10 ^ (i + 1) ≤ 100000000 := Nat.pow_le_pow_right (n := 10) (by omega) (by omega : i + 1 ≤ 8)
          have hX : n.natAbs * 10 ^ (i + 1) ≤ D * 1000000 * 100000000 := Nat.mul_le_mul (by omega) hpow
          rw [Nat.mul_assoc] at hX
          exact Nat.div_le_of_le_mul hX
        have hr2 : n.natAbs * 10 ^ (i + 1) % D < D := Nat.mod_lt _ hD
        generalize hA2 : n.natAbs * 10 ^ (i + 1) / D = A' at s1 hA' ⊢
        generalize hB2 : n.natAbs * 10 ^ (i + 1) % D = B' at s2 hr2 ⊢
        generalize n.natAbs * 10 ^ i / D = A at s1 hA ⊢
        generalize n.natAbs * 10 ^ i % D = B at s1 s2 hrD ⊢
        rw [wu64 (n := (B : Int)) (by omega) (by omega), wu64 (n := (D : Int)) (by omega) (by omega)]
        refine spec26 hI (x := B) (y := 10) (by omega) (by omega) ⟨_, _, rfl, ?_⟩
        refine spec27g hI (y := D) (by omega) (by omega) (by omega) ⟨_, _, rfl, ?_⟩
        rw [show B * 10 / 18446744073709551616 * 18446744073709551616 + B * 10 % 18446744073709551616 = B * 10 by omega, ← s2]
        generalize B * 10 / D = C at s1 ⊢
        refine ⟨m + 2 - (i + 1), by omega, rfl, i + 1, by omega, ?_, rfl⟩
        have c1 : IntKind.i64.wrap ((A : Int) * 10) = ((A * 10 : Nat) : Int) := by rw [w64] <;> omega
        have c2 : IntKind.i64.wrap (C : Int) = (C : Int) := by rw [w64] <;> omega
        have c3 : IntKind.i64.wrap (((A * 10 : Nat) : Int) + (C : Int)) = (A' : Int) := by rw [w64] <;> omega
        have c4 : IntKind.i64.wrap (B' : Int) = (B' : Int) := by rw [w64] <;> omega
        rw [c1, c2, c3, c4, hi1, hA2, hB2]
      obtain rfl : i = m + 2 := by omega
      have hsc : 10 ^ (m + 2) = 100 * 10 ^ m := by rw [Nat.pow_add, Nat.mul_comm]
      rw [hsc] at hrD hX hA ⊢
      unfold qOf at hQ
      rw [hDa] at hQ
      generalize n.natAbs * (100 * 10 ^ m) = X at hrD hX hA hQ ⊢
      refine joinK_intro (fun x h'' => h'' = h' ∧ x = ((X / D + (if D ≤ 2 * (X % D) then 1 else 0) : Nat) : Int)) ?_ fun j hj => ?_
      · generalize hqq : X / D + (if D ≤ 2 * (X % D) then 1 else 0) = q at hQ ⊢
        have hq2 : q ≤ 100000000000001 := by rw [← hqq]; split <;> omega
        rintro x h'' ⟨rfl, rfl⟩
        refine spec31 hI hp (by omega) fun len h2 x2 dg => ⟨_, rfl, ?_⟩
        have hl := dg.1
        have hl2 := dg.2.1
        have hsz := decs_size q len
        have hw1 : IntKind.i64.wrap ((m : Int) + 1) = ((m + 1 : Nat) : Int) := by rw [w64] <;> omega
        rw [hw1]
        refine loopK_intro (fun (s : ByteArray) h' c => h' = h2 ∧ ∃ k : Nat, k ≤ m + 1 - len ∧ s = pad k (decs q len) ∧ c = m + 1 - len - k) (m + 1 - len) ⟨rfl, 0, by omega, rfl, rfl⟩ ?_
        rintro s h' c ⟨rfl, k, hk, rfl, rfl⟩
        have hps := pad_size k (decs q len)
        rw [hsz] at hps
        refine ifT_dec (fun hlt => ?_) fun hge => ?_
        · exact ⟨by omega, m + 1 - len - (k + 1), by omega, rfl, k + 1, by omega, rfl, rfl⟩
        obtain rfl : k = m + 1 - len := by omega
        have hQ := hQ len h' x2 dg
        unfold ptext dotted at hQ
        generalize pad (m + 1 - len) (decs q len) = s at hQ hps ⊢
        have e6 : m ≤ s.size → IntKind.i64.wrap ((s.size : Int) - (m : Int)) = ((s.size - m : Nat) : Int) := fun _ => by rw [w64] <;> omega
        rw [e6 (by omega)]
        simp only [Int.toNat_natCast]
        have ex1 : (s.extract 0 (s.size - m)).size = s.size - m := by simp [ByteArray.size_extract]
        have ex2 : (s.extract (s.size - m) s.size).size = m := by simp [ByteArray.size_extract]; omega
        have ex3 : ({ data := #[46] } : ByteArray).size = 1 := rfl
        refine ifT_dec (fun h50 => ?_) fun h50 => ?_
        · have hj0 : 0 < m := by omega
          simp only [if_pos hj0] at hQ
          refine ⟨⟨by omega, by omega, by omega⟩, by omega, ⟨by omega, by omega, by omega⟩, by rw [ByteArray.size_append]; omega, ?_⟩
          exact signed2 (by rw [ByteArray.size_append, ByteArray.size_append]; omega) hQ
        · have hj0 : ¬ 0 < m := by omega
          simp only [if_neg hj0] at hQ
          exact signed2 (by omega) hQ
      · clear hQ
        generalize X / D = A at hA hj ⊢
        generalize X % D = B at hrD hj ⊢
        have w0 : IntKind.u64.wrap (B : Int) = (B : Int) := by rw [wu64] <;> omega
        have w1 : IntKind.u64.wrap ((B : Int) * 2) = ((2 * B : Nat) : Int) := by rw [wu64] <;> omega
        have w2 : IntKind.u64.wrap (D : Int) = (D : Int) := by rw [wu64] <;> omega
        rw [w0, w1, w2]
        refine ifT_dec (fun hh => ?_) fun hh => ?_
        · refine hj _ _ ⟨rfl, ?_⟩
          rw [if_pos (by omega), w64 (by omega) (by omega)]
          rfl
        · refine hj _ _ ⟨rfl, ?_⟩
          rw [if_neg (by omega)]
          rfl
    · refine ifT_dec (fun hh => hj _ _ ⟨rfl, ?_⟩) fun hh => hj _ _ ⟨rfl, ?_⟩
      · simp; omega
      · exact decide_eq_decide.2 ⟨fun h1 h2 => by omega, fun h1 => by omega⟩
  · generalize n.natAbs / D = A at eL hj ⊢
    generalize n.natAbs % D = B at eL hj ⊢
    refine ⟨by omega, ifT_dec (fun h1 => hj _ _ ⟨rfl, ?_⟩) fun h1 => ⟨by omega, ifT_dec (fun h2 => ⟨by omega, hj _ _ ⟨rfl, ?_⟩⟩) fun h2 => hj _ _ ⟨rfl, ?_⟩⟩⟩
    · exact (decide_eq_true (eL.2 (.inl (by omega)))).symm
    · exact decide_eq_decide.2 ⟨fun h3 => eL.2 (.inr ⟨by omega, by omega⟩), fun h3 => by have := eL.1 h3; omega⟩
    · exact (decide_eq_false fun h3 => by have := eL.1 h3; omega).symm
end
end Go.Proofs.YtdjancoknephnaaDoorVc
-- FwLaw
namespace Go.Proofs.YtdjancoknephnaaDoorVc
open Go.Proofs.Tryd (prog)
section
variable {I : Calls} {Q : Post} {h : Heap}
theorem PowsAt.keep {h h' : Heap} {i : Nat} (p : PowsAt h) (hi : h i = none ∨ ∃ l t, h i = some (strm l t)) (hf : ∀ j o, j ≠ i → h j = some o → h' j = some o) : PowsAt h' := by
  obtain ⟨q, b, ro, ⟨f, hq, hg⟩, hb⟩ := p
  refine ⟨q, b, ro, ⟨f, hf _ _ (fun e => ?_) hq, hg⟩, hf _ _ (fun e => ?_) hb⟩
  · subst e
    rcases hi with hi | ⟨l, t, hi⟩ <;> rw [hi] at hq <;> cases hq
  · subst e
    rcases hi with hi | ⟨l, t, hi⟩
    · rw [hi] at hb; cases hb
    · rw [hi] at hb; cases hb
theorem spec3 (hI : Closed' prog Pm I) {s : Sl} {zs : List Int} (hs : At h 1 s (ints zs)) (hp : PowsAt h) : I 3 [.one (.slice 1 s)] tru h := by
  refine hI.go _ _ (den3 I s tru) ?_
  refine newK_intro fun i h1 hi hh => ?_
  have he : Ext h h1 := hh ▸ Ext.new hi
  have ap : zs = [] ∨ ∀ b o, s.a = some (b, o) → b ≠ i := by
    rcases hs.2 with h2 | h2
    · left
      simpa [ints] using h2
    · right
      intro b o ha e
      subst e
      unfold Heap.sl at h2
      rw [ha] at h2
      simp [Heap.read, hi] at h2
  have S : Strm h1 i s zs 0 := ⟨by rw [hh, set_eq]; rfl, he.at_ hs, ap, by omega⟩
  refine spec5 hI S (by omega) fun n d h2 S2 f2 => ⟨_, _, rfl, ?_⟩
  have hp2 : PowsAt h2 := (hp.ext he).keep (i := i) (.inr ⟨s, 0, by rw [hh, set_eq]; rfl⟩) f2
  refine spec6 hI S2 (by omega) (by omega) (by omega) fun p _ _ => ⟨_, rfl, ?_⟩
  have hp3 : PowsAt (h2.set i (strm s (0 + 5 + 1))) := hp2.keep (i := i) (.inr ⟨s, _, S2.cell⟩) fun j o hj ho => by rw [set_ne _ _ hj]; exact ho
  have done : ∀ (t : ByteArray) (e : Int) h', I 9 [] (fun cs19 => fun h20 => ∃ b21 : Bool, (cs19 = [V.one (Cell.bool b21)]) ∧
      (ifT b21 (ifT (decide (e = e)) (tru [V.one (Cell.bool (decide (t = t)))]) (tru [V.one (Cell.bool false)])) (tru [V.one (Cell.bool false)])) h20) h' := fun t e h' =>
    spec9 hI ⟨_, rfl, ifT_intro (fun _ => ifT_dec (fun _ => by simp [tru]) fun h => absurd rfl h) fun h => by cases h⟩
  refine spec7 hI hp3 (fun hne h4 x4 => ⟨_, _, rfl, ?_⟩) fun h0 len h4 x4 dg => ⟨_, _, rfl, ?_⟩
  · refine spec8 hI (hp3.ext x4) (fun _ h5 x5 => ⟨_, _, rfl, done _ _ _⟩) fun h0 => absurd h0 hne
  · refine spec8 hI (hp3.ext x4) (fun hne => absurd h0 hne) fun _ len2 h5 x5 dg2 => ⟨_, _, rfl, ?_⟩
    rw [dg2.same dg]
    exact done _ _ _
end
end Go.Proofs.YtdjancoknephnaaDoorVc
