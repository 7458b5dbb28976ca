/- Contracts: comparing and sorting offers; the pieces of a basket, repeated and sorted. Contracts: the pieces of a basket, repeated and sorted. -/
import Derived.Test.YtfemminjhecocaaGreatVcPrOld2
import Derived.Test.YtfemminjhecocaaGreatVcPrMath
import Derived.Test.YtfemminjhecocaaGreatVcSortGen2
set_option linter.unusedSimpArgs false
set_option linter.unusedVariables false
-- PrSpec1
namespace Go.Proofs.YtfemminjhecocaaGreatVc
open Go.Proofs.Tryz (prog)
open Go.Proofs.YtfemminjhecocaaGreatShares

abbrev offK : VK := .agg [.str, .int .i64, .int .i64, .int .i64, .slice 1, .int .i64, .int .i64, .str, .bool, .int .i64, .int .i64, .int .i64]
abbrev pcK : VK := .agg [.int .i64, .int .i64]
theorem den78g (I : Calls) (l0 : Sl) (n1 n2 : Int) (p3 : Option (Nat × List (Nat × Nat))) (Q : Post) : vc78 I l0 n1 n2 p3 Q = insF offK I l0 n1 n2 p3 Q := by kernel_rfl
theorem den105g (I : Calls) (l0 : Sl) (n1 n2 : Int) (p3 : Option (Nat × List (Nat × Nat))) (Q : Post) : vc105 I l0 n1 n2 p3 Q = insF pcK I l0 n1 n2 p3 Q := by kernel_rfl
theorem den94g (I : Calls) (l0 : Sl) (n1 : Int) (p3 : Option (Nat × List (Nat × Nat))) (Q : Post) : vc94 I l0 n1 p3 Q = stabF pcK I 105 106 l0 n1 p3 Q := by kernel_rfl
theorem den106g (I : Calls) (l0 : Sl) (n1 n2 n3 : Int) (p3 : Option (Nat × List (Nat × Nat))) (Q : Post) : vc106 I l0 n1 n2 n3 p3 Q = symF pcK I 110 106 l0 n1 n2 n3 p3 Q := by kernel_rfl
theorem den110g (I : Calls) (l0 : Sl) (n1 n2 n3 : Int) (p3 : Option (Nat × List (Nat × Nat))) (Q : Post) : vc110 I l0 n1 n2 n3 p3 Q = rotF pcK I 112 l0 n1 n2 n3 p3 Q := by kernel_rfl
theorem den112g (I : Calls) (l0 : Sl) (n1 n2 n3 : Int) (p3 : Option (Nat × List (Nat × Nat))) (Q : Post) : vc112 I l0 n1 n2 n3 p3 Q = swapF pcK l0 n1 n2 n3 Q := by kernel_rfl

theorem bytes_lt : ∀ x y : List UInt8, Op.bytesLess x y = decide (x < y)
  | [], [] => by simp [Op.bytesLess]
  | _ :: _, [] => by simp [Op.bytesLess]
  | [], _ :: _ => by simp [Op.bytesLess]
  | a :: x, b :: y => by
    rw [Op.bytesLess, bytes_lt x y]
    simp only [List.cons_lt_cons_iff]
    by_cases h1 : a < b <;> by_cases h2 : a = b <;> by_cases h3 : x < y <;> simp [h1, h2, h3]

/-! ### the order of offers -/
def ltO (a b : Offr) : Bool := decide (a.order < b.order ∨ (a.order = b.order ∧ a.key.toList < b.key.toList))
def leO (a b : Offr) : Prop := ltO b a = false
theorem leO_iff {a b : Offr} : leO a b ↔ a.order < b.order ∨ (a.order = b.order ∧ ¬ b.key.toList < a.key.toList) := by
  unfold leO ltO
  rw [decide_eq_false_iff_not]
  constructor
  · intro h
    rcases Int.lt_trichotomy a.order b.order with h1 | h1 | h1
    · exact .inl h1
    · exact .inr ⟨h1, fun h2 => h (.inr ⟨h1.symm, h2⟩)⟩
    · exact absurd (.inl h1) h
  · rintro (h | ⟨h, h'⟩) (h2 | ⟨h2, h3⟩)
    · omega
    · omega
    · omega
    · exact h' h3
theorem leO_trans (a b c : Offr) (h1 : leO a b) (h2 : leO b c) : leO a c := by
  rw [leO_iff] at *
  rcases h1 with h1 | ⟨h1, h1'⟩ <;> rcases h2 with h2 | ⟨h2, h2'⟩
  · exact .inl (by omega)
  · exact .inl (by omega)
  · exact .inl (by omega)
  · exact .inr ⟨by omega, List.not_lt.2 (List.le_trans (List.not_lt.1 h1') (List.not_lt.1 h2'))⟩
theorem ltO_asymm {a b : Offr} (h : ltO b a = true) : leO b a := by
  rw [leO_iff]
  unfold ltO at h
  rcases of_decide_eq_true h with h | ⟨h, h'⟩
  · exact .inl h
  · exact .inr ⟨h, List.not_lt.2 (List.le_of_lt h')⟩

section
variable {I : Calls} {Q : Post} {h : Heap}
theorem spec42 (hI : Closed' prog Pm I) {n : Int} (hQ : Q [boo false] h) : I 42 [int n] Q h := by
  refine hI.go _ _ (den42 I n Q) ?_
  unfold vc42; simpa using hQ
theorem spec71 (hI : Closed' prog Pm I) {n : ByteArray} (hQ : Q [boo false] h) : I 71 [str n] Q h := by
  refine hI.go _ _ (den71 I n Q) ?_
  unfold vc71; simpa using hQ
theorem spec27 (hI : Closed' prog Pm I) {a b : Int} (hQ : ∀ c, (c < 0 ↔ a < b) → (c = 0 ↔ a = b) → Q [int c] h) : I 27 [int a, int b] Q h := by
  refine hI.go _ _ (den27 I a b Q) ?_
  refine spec42 hI ⟨false, rfl, spec42 hI ⟨false, rfl, ?_⟩⟩
  show ifT _ _ _ _
  refine ifT_dec (fun h1 => hQ _ (by omega) (by omega)) fun h1 => ifT_dec (fun h2 => hQ _ (by omega) (by omega)) fun h2 => hQ _ (by omega) (by omega)
theorem spec55 (hI : Closed' prog Pm I) {a b : ByteArray} (hQ : ∀ c, (c < 0 ↔ a.toList < b.toList) → (c = 0 → ¬ a.toList < b.toList ∧ ¬ b.toList < a.toList) → Q [int c] h) : I 55 [str a, str b] Q h := by
  refine hI.go _ _ (den55 I a b Q) ?_
  refine spec71 hI ⟨false, rfl, spec71 hI ⟨false, rfl, ?_⟩⟩
  show ifT _ _ _ _
  rw [bytes_lt]
  refine ifT_dec (fun h1 => hQ _ (by simp [h1]) (by simp)) fun h1 => ifT_intro (fun h2 => hQ _ (by simp [h1]) (by simp)) fun h2 => hQ _ (by simp [h1]) fun _ => ⟨h1, ?_⟩
  simp only [Bool.not_eq_false', Bool.or_eq_true, decide_eq_true_eq] at h2
  rcases h2 with h2 | h2
  · exact absurd h2 h1
  · rw [h2]; exact List.lt_irrefl _
theorem spec26 (hI : Closed' prog Pm I) {i : Nat} {a b : Int} (hc : h i = some (.cells false [.int .i64 a, .int .i64 b])) (hQ : Q [int (if a = 0 then b else a)] h) : I 26 [.one (.slice 1 ⟨some (i, 0), 2⟩)] Q h := by
  refine hI.go _ _ (den26 I ⟨some (i, 0), 2⟩ Q) ?_
  refine loopK_intro (fun (n : Int) h' m => h' = h ∧ ((n = 0 ∧ m = 3) ∨ (n = 1 ∧ m = 2 ∧ a = 0) ∨ (n = 2 ∧ m = 1 ∧ a = 0 ∧ b = 0))) 3 ⟨rfl, .inl ⟨rfl, rfl⟩⟩ ?_
  rintro n h' m ⟨rfl, ⟨rfl, rfl⟩ | ⟨rfl, rfl, rfl⟩ | ⟨rfl, rfl, rfl, rfl⟩⟩
  · refine ifT_dec (fun _ => ⟨⟨by decide, by show (0:Int) < ((2:Nat):Int); decide⟩, a, read_cell hc rfl, ?_⟩) fun h1 => absurd (show (0:Int) < ((2:Nat):Int) by decide) h1
    refine ifT_intro (fun h2 => ?_) fun h2 => ?_
    · rw [if_neg (nd h2)] at hQ; exact hQ
    · have : a = 0 := Decidable.of_not_not (nd' h2)
      exact ⟨2, by omega, rfl, .inr (.inl ⟨by decide, rfl, this⟩)⟩
  · refine ifT_dec (fun _ => ⟨⟨by decide, by show (1:Int) < ((2:Nat):Int); decide⟩, b, read_cell hc rfl, ?_⟩) fun h1 => absurd (show (1:Int) < ((2:Nat):Int) by decide) h1
    refine ifT_intro (fun h2 => ?_) fun h2 => ?_
    · rw [if_pos rfl] at hQ; exact hQ
    · have : b = 0 := Decidable.of_not_not (nd' h2)
      exact ⟨1, by omega, rfl, .inr (.inr ⟨by decide, rfl, rfl, this⟩)⟩
  · refine ifT_dec (fun h1 => absurd h1 (show ¬ (2:Int) < ((2:Nat):Int) by decide)) fun _ => ?_
    rw [if_pos rfl] at hQ; exact hQ
theorem spec54 (hI : Closed' prog Pm I) {x y : Offr} (hQ : ∀ (c : Int) h', Ext h h' → (c < 0 ↔ ltO x y = true) → Q [int c] h') : I 54 [.agg (offC x), .agg (offC y)] Q h := by
  refine hI.go _ _ (den54 I x.key x.kind x.a x.b x.tg x.least x.most x.group x.alone x.order x.from_ x.to_ y.key y.kind y.a y.b y.tg y.least y.most y.group y.alone y.order y.from_ y.to_ Q) ?_
  refine spec27 hI fun c h1 h2 => ⟨c, rfl, spec55 hI fun d h3 h4 => ⟨d, rfl, newK_intro fun i h' hn he => ?_⟩⟩
  refine spec26 hI (a := c) (b := d) (by rw [he, set_eq]) ⟨_, rfl, hQ _ _ (he ▸ Ext.new hn) ?_⟩
  unfold ltO
  rw [decide_eq_true_eq]
  by_cases hc : c = 0
  · rw [if_pos hc, h3]
    have := h2.1 hc
    constructor
    · intro h; exact .inr ⟨this, h⟩
    · rintro (h | ⟨_, h⟩)
      · omega
      · exact h
  · rw [if_neg hc, h1]
    constructor
    · intro h; exact .inl h
    · rintro (h | ⟨h, _⟩)
      · exact h
      · exact absurd (h2.2 h) hc
theorem off_tells (hI : Closed' prog Pm I) (blk : Nat) : TellsG I h blk 54 [] (fun x : Offr => V.agg (offC x)) (fun _ => True) ltO := fun a b _ _ h' Q' _ hq => spec54 hI fun c h'' he hc => hq c h'' he hc
theorem off_fits (x : Offr) : offK.fits (.agg (offC x)) := by simp [VK.fits, fitsAll, offC, Kd.fits]

theorem insF_none {vk : VK} {s : Sl} {n1 n2 : Int} {p : Option (FuncId × List (Nat × Nat))} (h1 : 0 ≤ n1) (h2 : n2 ≤ n1 + 1) (h3 : n1 < 1000000000) (hQ : Q [] h) : insF vk I s n1 n2 p Q h := by
  unfold insF
  refine loopK_intro (fun (n : Int) h' m => h' = h ∧ n = n1 + 1) 0 ⟨rfl, w64 (by omega) (by omega)⟩ ?_
  rintro n h' m ⟨rfl, rfl⟩
  exact ifT_dec (fun h4 => by omega) fun _ => hQ
theorem spec87s (hI : Closed' prog Pm I) {x : Nat} (h1 : x < 256) (hQ : ∀ n, Q [int n] h) : I 87 [u64 x] Q h := by
  refine hI.go _ _ (den87 I x Q) ?_
  refine joinK_intro (fun (p : Int × Int) h' => h' = h ∧ p = ((x : Int), 0)) ?_ fun j hj => ifT_dec (fun h2 => by omega) fun _ => hj _ _ ⟨rfl, rfl⟩
  rintro _ h' ⟨rfl, rfl⟩
  dsimp only [uncur]
  refine ifT_dec (fun h2 => by omega) fun _ => ifT_dec (fun h2 => by omega) fun _ => ?_
  rw [w8 h1]
  exact ⟨⟨by omega, by show (x : Int) < ((256 : Nat) : Int); omega⟩, hQ _⟩
theorem spec70 (hI : Closed' prog Pm I) {x : Nat} (h1 : x < 256) (hQ : ∀ n, Q [int n] h) : I 70 [u64 x] Q h := by
  refine hI.go _ _ (den70 I x Q) ?_
  exact spec87s hI h1 fun n => ⟨n, rfl, hQ n⟩
theorem spec78 (hI : Closed' prog Pm I) {s : Sl} {n1 n2 : Int} {p : Option (FuncId × List (Nat × Nat))} (hQ : insF offK I s n1 n2 p Q h) : I 78 [.one (.slice 12 s), int n1, int n2, .one (.func p)] Q h := by
  refine hI.go _ _ (den78 I s n1 n2 p Q) ?_
  rw [den78g]; exact hQ
theorem spec69 (hI : Closed' prog Pm I) {s : Sl} {n : Nat} {n3 : Int} {p : Option (FuncId × List (Nat × Nat))} (hn : n ≤ 12) (hQ : insF offK I s 0 n p (fun cs h => cs = [] ∧ Q [] h) h) : I 69 [.one (.slice 12 s), int 0, int n, int n3, .one (.func p)] Q h := by
  refine hI.go _ _ (den69 I s 0 n n3 p Q) ?_
  refine loopK_intro (fun (a : Int × Int × Int × Bool × Bool) h' m => h' = h ∧ a = (0, (n : Int), n3, true, true)) 0 ⟨rfl, rfl⟩ ?_
  rintro _ h' m ⟨rfl, rfl⟩
  dsimp only [uncur]
  have e : IntKind.i64.wrap ((n : Int) - 0) = (n : Int) := by rw [w64] <;> omega
  rw [e]
  exact ifT_dec (fun _ => spec78 hI hQ) fun h1 => by omega
theorem spec53 (hI : Closed' prog Pm I) {s : Sl} {p : Option (FuncId × List (Nat × Nat))} (hn : s.len ≤ 12) (hQ : insF offK I s 0 s.len p (fun cs h => cs = [] ∧ cs = [] ∧ Q [] h) h) : I 53 [.one (.slice 12 s), .one (.func p)] Q h := by
  refine hI.go _ _ (den53 I s p Q) ?_
  unfold vc53
  rw [wN _ (by omega)]
  refine spec70 hI (by omega) fun n => ⟨n, rfl, spec69 hI hn ?_⟩
  have e : (fun (cs : List V) (h : Heap) => cs = [] ∧ cs = [] ∧ Q [] h) = fun (cs : List V) (h : Heap) => cs = [] ∧ ([] : List V) = [] ∧ Q [] h := by
    funext cs h; simp
  rw [e] at hQ
  exact hQ
/-- Offers in their order. -/
theorem spec37 (hI : Closed' prog Pm I) {h0 : Heap} {L : List Ow} {s : Sl} {xs : List Offr} (o : Owns h0 h L) (hl : s.len = xs.length) (hsl : h.sl 12 s = some (rows offC xs)) (hlen : xs.length ≤ 12)
    (hQ : ∀ s' ys h', ys.Perm xs → ys.Pairwise leO → Owns h0 h' ((12, s', rows offC ys) :: L) → Q [.one (.slice 12 s')] h') : I 37 [.one (.slice 12 s)] Q h := by
  refine hI.go _ _ (den37 I s Q) ?_
  refine hI.go _ _ (den52 I s _) ?_
  refine ifT_intro (fun h1 => ⟨_, rfl, spec53 hI (by decide) (insF_none (by decide) (by decide) (by decide) ⟨rfl, rfl, rfl, ?_⟩)⟩) fun h1 => ⟨rows offC xs, hsl, by omega, newK_intro fun i h' hn he => ⟨_, rfl, ?_⟩⟩
  · have ha : s.a = none := by simpa using h1
    have hx : xs = [] := by
      unfold Heap.sl at hsl
      rw [ha] at hsl
      simp only at hsl
      cases xs with
      | nil => rfl
      | cons x xs => simp [rows, offC] at hsl
    subst hx
    exact hQ _ [] h (List.Perm.refl _) .nil (o.none_ 12)
  · have o1 : Owns h0 h' ((12, ⟨some (i, 0), s.len⟩, rows offC xs) :: L) := he ▸ o.new hn (by rw [rows_length offC_length, hl])
    refine spec53 hI (by show s.len ≤ 12; omega) (ins_spec off_fits (v := fun x => V.agg (offC x)) (blk := i) (h := h') (P := []) (xs := xs) (S := []) (mem := fun _ => True) (lt := ltO) leO rfl (by simpa using hl) (by rw [he, set_eq]; simp [rws, rows, V.cells]) rfl (by show (s.len : Int) = _; rw [hl]; simp) (by show s.len < 1000000000; omega) (fun _ _ => trivial) (off_tells hI i) ?_ (fun a b c _ _ _ h1 h2 => leO_trans a b c h1 h2) fun ys h2 hp hpw hps => ⟨rfl, rfl, rfl, ?_⟩)
    · exact List.pairwise_of_forall fun a b => ⟨fun h => ltO_asymm h, fun h => h⟩
    · refine hQ _ ys h2 hp hpw ?_
      have hps' : PSg h' i (fun x => V.agg (offC x)) ys h2 := by simpa using hps
      exact Owns.psg (vk := offK) off_fits (xs := xs) o1 hps' hp.length_eq
end
end Go.Proofs.YtfemminjhecocaaGreatVc
-- PrSpec2
namespace Go.Proofs.YtfemminjhecocaaGreatVc
open Go.Proofs.Tryz (prog)
open Go.Proofs.YtfemminjhecocaaGreatShares
def pcC (x : Pc) : List Cell := [.int .i64 (x.1 : Int), .int .i64 (x.2 : Int)]
theorem pcC_length (x : Pc) : (pcC x).length = 2 := rfl
theorem pc_fits (x : Pc) : pcK.fits (.agg (pcC x)) := by simp [VK.fits, fitsAll, pcC, Kd.fits]
section
variable {I : Calls} {Q : Post} {h : Heap}
theorem spec93 (hI : Closed' prog Pm I) {x y : Nat} (hx : x < 18446744073709551616) (hy : y < 18446744073709551616) (hQ : Q [u64 ((x * y / 18446744073709551616 : Nat) : Int), u64 ((x * y % 18446744073709551616 : Nat) : Int)] h) : I 93 [u64 x, u64 y] Q h := by
  refine hI.go _ _ (den93 I x y Q) ?_
  exact spec88 hI hx hy ⟨_, _, rfl, hQ⟩
theorem spec74 (hI : Closed' prog Pm I) {i n : Nat} {x : Pc} (hc : h i = some (.cells false (pcC x))) (h1 : 1 ≤ n) (h2 : n ≤ 1000)
    (hQ : ∀ i' h', Ext h h' → h' i' = some (.cells false (rows pcC (List.replicate n x))) → Q [.one (.slice 2 ⟨some (i', 0), n⟩)] h') : I 74 [.one (.slice 2 ⟨some (i, 0), 1⟩), int n] Q h := by
  refine hI.go _ _ (den74 I _ n Q) ?_
  refine joinK_intro (fun (_ : PUnit) h' => h' = h) ?_ fun j hj => ifT_dec (fun h1 => by omega) fun _ => hj _ _ rfl
  rintro _ h' rfl
  dsimp only
  rw [wN n (by omega), wN 1 (by omega)]
  refine spec93 hI (by omega) (by omega) ⟨_, _, rfl, ?_⟩
  have e1 : 1 * n / 18446744073709551616 = 0 := by omega
  have e2 : 1 * n % 18446744073709551616 = n := by omega
  have e3 : IntKind.i64.wrap (n : Int) = (n : Int) := w64 (by omega) (by omega)
  rw [e1, e2, e3]
  refine joinK_intro (fun (b : Bool) h2 => h2 = h' ∧ b = false) ?_ fun j hj => ifT_dec (fun h1 => by omega) fun _ => hj _ _ ⟨rfl, by simp; omega⟩
  rintro _ h2 ⟨rfl, rfl⟩
  refine joinK_intro (fun (_ : PUnit) h3 => h3 = h2) ?_ fun j hj => hj _ _ rfl
  rintro _ h3 rfl
  rw [Int.toNat_natCast]
  refine ⟨rfl, by omega, by omega, by show (n : Int) * ((16 : Nat) : Int) ≤ _; omega, newK_intro fun i2 h4 hn he => ⟨pcC x, ?_, ?_⟩⟩
  · have : h4 i = some (.cells false (pcC x)) := by
      rw [he, set_ne _ _ (fun e => by subst e; rw [hn] at hc; cases hc)]; exact hc
    show h4.read i 0 (1 * 2) = _
    rw [read_block this (by show 0 + 1 * 2 ≤ 2; decide)]; rfl
  have hz : (slCells (VK.agg [Kd.int IntKind.i64, Kd.int IntKind.i64]) n).length = n * 2 := by
    simp [slCells, List.length_flatten]
  obtain ⟨zs, hzs⟩ : ∃ zs, slCells (VK.agg [Kd.int IntKind.i64, Kd.int IntKind.i64]) n = zs := ⟨_, rfl⟩
  rw [hzs] at he hz
  have hm1 : min 1 n = 1 := by omega
  show storeK [] i2 0 (List.take (min 1 n * 2) (pcC x)) _ h4
  rw [hm1]
  have x4 : Ext h3 h4 := he ▸ Ext.new hn
  refine ⟨zs, by rw [he, set_eq], by rw [hz]; show 0 + 2 ≤ _; omega, ?_⟩
  show loopK _ _ _
  rw [updCells_splice (by rw [hz]; show 0 + 2 ≤ _; omega)]
  refine loopK_intro (fun (a : Int) h5 m => ∃ k rest, 1 ≤ k ∧ k ≤ n ∧ a = (k : Int) ∧ m = n - k ∧ rest.length = (n - k) * 2 ∧ h5 = h3.set i2 (.cells false (rows pcC (List.replicate k x) ++ rest))) (n - 1)
    ⟨1, zs.drop 2, by omega, h1, rfl, rfl, by rw [List.length_drop, hz]; omega, by rw [he, set_set]; rfl⟩ ?_
  rintro a h5 m ⟨k, rest, hk1, hk2, rfl, rfl, hrl, rfl⟩
  have hrep : (rows pcC (List.replicate k x)).length = k * 2 := by rw [rows_length pcC_length, List.length_replicate]
  refine ifT_dec (fun hlt => ⟨⟨by omega, by omega, by omega⟩, ⟨by omega, by omega, by omega⟩, rows pcC (List.replicate k x), ?_, ?_⟩) fun hge => ?_
  · show Heap.read _ i2 (0 + 0 * 2) ((Int.toNat (k : Int) - 0) * 2) = _
    rw [read_block (set_eq _ _ _) (by rw [List.length_append, hrep, Int.toNat_natCast]; omega), Int.toNat_natCast]
    show some (List.take ((k - 0) * 2) (List.drop 0 _)) = _
    rw [List.drop_zero, Nat.sub_zero, ← hrep, List.take_left]
  · rw [Int.toNat_natCast, Nat.sub_zero, rows_take pcC_length, List.take_replicate]
    have hm : min (min k (n - k)) k = min k (n - k) := by omega
    rw [hm]
    obtain ⟨j, hj⟩ : ∃ j, min k (n - k) = j := ⟨_, rfl⟩
    rw [hj]
    have hjl : (rows pcC (List.replicate j x)).length = j * 2 := by rw [rows_length pcC_length, List.length_replicate]
    have hle : 0 + k * 2 + (rows pcC (List.replicate j x)).length ≤ (rows pcC (List.replicate k x) ++ rest).length := by rw [List.length_append, hrep, hjl, hrl]; omega
    refine ⟨_, set_eq _ _ _, hle, ?_⟩
    show _
    rw [updCells_splice hle, set_set]
    refine ⟨n - (k + j), by omega, k + j, rest.drop (j * 2), by omega, by omega, by rw [w64 (by omega) (by omega)]; omega, rfl, by rw [List.length_drop, hrl]; omega, ?_⟩
    congr 2
    unfold splice
    rw [Nat.zero_add, ← hrep, List.take_left, ← List.drop_drop, List.drop_left, hjl, ← List.replicate_append_replicate, rows_append]
  · have hk : k = n := by omega
    subst hk
    have hr0 : rest = [] := List.length_eq_zero_iff.1 (by rw [hrl]; omega)
    subst hr0
    refine hQ i2 _ (Ext.new hn) (by rw [set_eq, List.append_nil])
theorem spec76 (hI : Closed' prog Pm I) {x y : Pc} (hQ : ∀ c, (c < 0 ↔ y.2 < x.2) → Q [int c] h) : I 76 [.agg (pcC x), .agg (pcC y)] Q h := by
  refine hI.go _ _ (den76 I x.1 x.2 y.1 y.2 Q) ?_
  exact spec27 hI fun c h1 _ => ⟨c, rfl, hQ c (h1.trans Int.ofNat_lt)⟩
def ltP (x y : Pc) : Bool := decide (y.2 < x.2)
theorem pc_tells (hI : Closed' prog Pm I) (blk : Nat) : TellsG I h blk 76 [] (fun x : Pc => V.agg (pcC x)) (fun _ => True) ltP := fun a b _ _ h' Q' _ hq => spec76 hI fun c hc => hq c h' (Ext.refl _) (by unfold ltP; rw [decide_eq_true_eq]; exact hc)
/-- The pieces are sorted. -/
theorem spec75 (hI : Closed' prog Pm I) {h0 : Heap} {s : Sl} {xs : List Pc} {L : List Ow} (o : Owns h0 h ((2, s, rows pcC xs) :: L)) (hlen : xs.length < 100000) (hord : xs.Pairwise fun a b => a.1 ≤ b.1)
    (hQ : ∀ h', Owns h0 h' ((2, s, rows pcC (sorted xs)) :: L) → Q [] h') : I 75 [.one (.slice 2 s), .one (.func (some (76, [])))] Q h := by
  refine hI.go _ _ (den75 I s _ Q) ?_
  refine hI.go _ _ (den94 I s _ _ _) ?_
  rw [den94g]
  have hl : s.len = xs.length := (o.at_ List.mem_cons_self).rowsLen pcC_length (by decide)
  have h105 : ∀ a b Q h, insF pcK I s a b (some (76, [])) Q h → I 105 [.one (.slice 2 s), ii a, ii b, fp (some (76, []))] Q h := fun a b Q h hq => hI.go _ _ (den105 I s a b _ Q) (by rw [den105g]; exact hq)
  have h112 : ∀ a b n Q h, swapF pcK s a b n Q h → I 112 [.one (.slice 2 s), ii a, ii b, ii n, fp (some (76, []))] Q h := fun a b n Q h hq => hI.go _ _ (den112 I s a b n _ Q) (by rw [den112g]; exact hq)
  have h110 : ∀ a m b Q h, rotF pcK I 112 s a m b (some (76, [])) Q h → I 110 [.one (.slice 2 s), ii a, ii m, ii b, fp (some (76, []))] Q h := fun a m b Q h hq => hI.go _ _ (den110 I s a m b _ Q) (by rw [den110g]; exact hq)
  have h106 : ∀ a m b Q h, symF pcK I 110 106 s a m b (some (76, [])) Q h → I 106 [.one (.slice 2 s), ii a, ii m, ii b, fp (some (76, []))] Q h := fun a m b Q h hq => hI.go _ _ (den106 I s a m b _ Q) (by rw [den106g]; exact hq)
  obtain ⟨ho1, ho2 | ⟨blk, ho2, ho3, ho4⟩⟩ := o.all _ List.mem_cons_self
  · have hx : xs = [] := by
      have := congrArg List.length ho2.2
      simp only [rows_length pcC_length, List.length_nil] at this
      exact List.length_eq_zero_iff.1 (by omega)
    subst hx
    have h0l : s.len = 0 := hl
    have done : Q [] h := hQ h (by simpa [sorted] using o)
    unfold stabF
    rw [h0l]
    refine loopK_intro (fun (a : Int × Int) h' m => h' = h ∧ a = (0, 20)) 0 ⟨rfl, rfl⟩ ?_
    rintro _ h' m ⟨rfl, rfl⟩
    dsimp only [uncur]
    refine ifT_dec (fun h1 => absurd h1 (by decide)) fun _ => h105 _ _ _ _ (insF_none (by decide) (by decide) (by decide) ⟨rfl, ?_⟩)
    refine loopK_intro (fun (a : Int) h2 m => h2 = h' ∧ a = 20) 0 ⟨rfl, rfl⟩ ?_
    rintro _ h2 m ⟨rfl, rfl⟩
    exact ifT_dec (fun h1 => absurd h1 (by decide)) fun _ => ⟨rfl, done⟩
  · refine stab_spec pc_fits (v := fun x => V.agg (pcC x)) (blk := blk) (mem := fun _ => True) (lt := ltP) (fun a b => pcLe a b = true) h105 h110 h112 h106 ho2 (by omega) hl ho4 (by rw [hl]) (fun a b c _ _ _ => pcLe_trans a b c) (fun _ _ => trivial) (pc_tells hI blk) ?_ fun Z h' hp hs hps => ⟨rfl, hQ h' ?_⟩
    · refine hord.imp fun {a b} hab => ?_
      unfold Xrel ltP pcLe
      simp only [decide_eq_true_eq, decide_eq_false_iff_not]
      omega
    · have e := sorted_eq hp hs
      subst e
      have e2 : s = ⟨some (blk, 0), s.len⟩ := by cases s; simp only at ho2; rw [ho2]
      have o2 : Owns h0 h ((pcK.kds.length, ⟨some (blk, 0), s.len⟩, rws (fun x : Pc => V.agg (pcC x)) xs) :: L) := by
        rw [← e2]; exact o
      have := o2.psg pc_fits hps hp.length_eq
      rw [e2]; exact this
end
end Go.Proofs.YtfemminjhecocaaGreatVc
