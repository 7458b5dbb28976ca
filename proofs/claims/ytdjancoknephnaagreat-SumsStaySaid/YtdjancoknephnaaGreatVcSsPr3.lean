/- Contracts, turned by a program to the numbers of this seat. -/
import Derived.Test.YtdjancoknephnaaGreatVcSsPr2
import Derived.Test.YtdjancoknephnaaGreatVcPrMath
import Derived.Test.YtdjancoknephnaaGreatVcSortGen2
set_option linter.unusedSimpArgs false
set_option linter.unusedVariables false
-- from PrSpecA
namespace Go.Proofs.YtdjancoknephnaaGreatVc
open Go.Proofs.Tryz (prog)
open Go.Proofs.YtdjancoknephnaaGreatShares
abbrev offK : VK := .agg [.str, .int .i64, .int .i64, .int .i64, .slice 1, .int .i64, .int .i64, .str, .bool, .int .i64, .int .i64, .int .i64]
abbrev pcK : VK := .agg [.int .i64, .int .i64]
theorem den112g (I : Calls) (l0 : Sl) (n1 n2 : Int) (p3 : Option (Nat × List (Nat × Nat))) (Q : Post) : vc112 I l0 n1 n2 p3 Q = insF offK I l0 n1 n2 p3 Q := by kernel_rfl
theorem den139g (I : Calls) (l0 : Sl) (n1 n2 : Int) (p3 : Option (Nat × List (Nat × Nat))) (Q : Post) : vc139 I l0 n1 n2 p3 Q = insF pcK I l0 n1 n2 p3 Q := by kernel_rfl
theorem den128g (I : Calls) (l0 : Sl) (n1 : Int) (p3 : Option (Nat × List (Nat × Nat))) (Q : Post) : vc128 I l0 n1 p3 Q = stabF pcK I 139 140 l0 n1 p3 Q := by kernel_rfl
theorem den140g (I : Calls) (l0 : Sl) (n1 n2 n3 : Int) (p3 : Option (Nat × List (Nat × Nat))) (Q : Post) : vc140 I l0 n1 n2 n3 p3 Q = symF pcK I 144 140 l0 n1 n2 n3 p3 Q := by kernel_rfl
theorem den144g (I : Calls) (l0 : Sl) (n1 n2 n3 : Int) (p3 : Option (Nat × List (Nat × Nat))) (Q : Post) : vc144 I l0 n1 n2 n3 p3 Q = rotF pcK I 146 l0 n1 n2 n3 p3 Q := by kernel_rfl
theorem den146g (I : Calls) (l0 : Sl) (n1 n2 n3 : Int) (p3 : Option (Nat × List (Nat × Nat))) (Q : Post) : vc146 I l0 n1 n2 n3 p3 Q = swapF pcK l0 n1 n2 n3 Q := by kernel_rfl
theorem bytes_lt : ∀ x y : List UInt8, Op.bytesLess x y = decide (x < y)
  | [], [] => by simp [Op.bytesLess]
  | _ :: _, [] => by simp [Op.bytesLess]
  | [], _ :: _ => by simp [Op.bytesLess]
  | a :: x, b :: y => by
    rw [Op.bytesLess, bytes_lt x y]
    simp only [List.cons_lt_cons_iff]
    by_cases h1 : a < b <;> by_cases h2 : a = b <;> by_cases h3 : x < y <;> simp [h1, h2, h3]
/-! ### the order of offers -/
def ltO (a b : Offr) : Bool := decide (a.order < b.order ∨ (a.order = b.order ∧ a.key.toList < b.key.toList))
def leO (a b : Offr) : Prop := ltO b a = false
theorem leO_iff {a b : Offr} : leO a b ↔ a.order < b.order ∨ (a.order = b.order ∧ ¬ b.key.toList < a.key.toList) := by
  unfold leO ltO
  rw [decide_eq_false_iff_not]
  constructor
  · intro h
    rcases Int.lt_trichotomy a.order b.order with h1 | h1 | h1
    · exact .inl h1
    · exact .inr ⟨h1, fun h2 => h (.inr ⟨h1.symm, h2⟩)⟩
    · exact absurd (.inl h1) h
  · rintro (h | ⟨h, h'⟩) (h2 | ⟨h2, h3⟩)
    · omega
    · omega
    · omega
    · exact h' h3
theorem leO_trans (a b c : Offr) (h1 : leO a b) (h2 : leO b c) : leO a c := by
  rw [leO_iff] at *
  rcases h1 with h1 | ⟨h1, h1'⟩ <;> rcases h2 with h2 | ⟨h2, h2'⟩
  · exact .inl (by omega)
  · exact .inl (by omega)
  · exact .inl (by omega)
  · exact .inr ⟨by omega, List.not_lt.2 (List.le_trans (List.not_lt.1 h1') (List.not_lt.1 h2'))⟩
theorem ltO_asymm {a b : Offr} (h : ltO b a = true) : leO b a := by
  rw [leO_iff]
  unfold ltO at h
  rcases of_decide_eq_true h with h | ⟨h, h'⟩
  · exact .inl h
  · exact .inr ⟨h, List.not_lt.2 (List.le_of_lt h')⟩
section
variable {I : Calls} {Q : Post} {h : Heap}
theorem spec104 (hI : Closed' prog Pm I) {n : Int} (hQ : Q [boo false] h) : I 104 [int n] Q h := by
  refine hI.go _ _ (den104 I n Q) ?_
  unfold vc104; simpa using hQ
theorem spec79 (hI : Closed' prog Pm I) {n : ByteArray} (hQ : Q [boo false] h) : I 79 [str n] Q h := by
  refine hI.go _ _ (den79 I n Q) ?_
  unfold vc79; simpa using hQ
theorem spec91 (hI : Closed' prog Pm I) {a b : Int} (hQ : ∀ c, (c < 0 ↔ a < b) → (c = 0 ↔ a = b) → Q [int c] h) : I 91 [int a, int b] Q h := by
  refine hI.go _ _ (den91 I a b Q) ?_
  refine spec104 hI ⟨false, rfl, spec104 hI ⟨false, rfl, ?_⟩⟩
  show ifT _ _ _ _
  refine ifT_dec (fun h1 => hQ _ (by omega) (by omega)) fun h1 => ifT_dec (fun h2 => hQ _ (by omega) (by omega)) fun h2 => hQ _ (by omega) (by omega)
theorem spec54 (hI : Closed' prog Pm I) {a b : ByteArray} (hQ : ∀ c, (c < 0 ↔ a.toList < b.toList) → (c = 0 → ¬ a.toList < b.toList ∧ ¬ b.toList < a.toList) → Q [int c] h) : I 54 [str a, str b] Q h := by
  refine hI.go _ _ (den54 I a b Q) ?_
  refine spec79 hI ⟨false, rfl, spec79 hI ⟨false, rfl, ?_⟩⟩
  show ifT _ _ _ _
  rw [bytes_lt]
  refine ifT_dec (fun h1 => hQ _ (by simp [h1]) (by simp)) fun h1 => ifT_intro (fun h2 => hQ _ (by simp [h1]) (by simp)) fun h2 => hQ _ (by simp [h1]) fun _ => ⟨h1, ?_⟩
  simp only [Bool.not_eq_false', Bool.or_eq_true, decide_eq_true_eq] at h2
  rcases h2 with h2 | h2
  · exact absurd h2 h1
  · rw [h2]; exact List.lt_irrefl _
theorem spec90 (hI : Closed' prog Pm I) {i : Nat} {a b : Int} (hc : h i = some (.cells false [.int .i64 a, .int .i64 b])) (hQ : Q [int (if a = 0 then b else a)] h) : I 90 [.one (.slice 1 ⟨some (i, 0), 2⟩)] Q h := by
  refine hI.go _ _ (den90 I ⟨some (i, 0), 2⟩ Q) ?_
  refine loopK_intro (fun (n : Int) h' m => h' = h ∧ ((n = 0 ∧ m = 3) ∨ (n = 1 ∧ m = 2 ∧ a = 0) ∨ (n = 2 ∧ m = 1 ∧ a = 0 ∧ b = 0))) 3 ⟨rfl, .inl ⟨rfl, rfl⟩⟩ ?_
  rintro n h' m ⟨rfl, ⟨rfl, rfl⟩ | ⟨rfl, rfl, rfl⟩ | ⟨rfl, rfl, rfl, rfl⟩⟩
  · refine ifT_dec (fun _ => ⟨⟨by decide, by show (0:Int) < ((2:Nat):Int); decide⟩, a, read_cell hc rfl, ?_⟩) fun h1 => absurd (show (0:Int) < ((2:Nat):Int) by decide) h1
    refine ifT_intro (fun h2 => ?_) fun h2 => ?_
    · rw [if_neg (nd h2)] at hQ; exact hQ
    · have : a = 0 := Decidable.of_not_not (nd' h2)
      exact ⟨2, by omega, rfl, .inr (.inl ⟨by decide, rfl, this⟩)⟩
  · refine ifT_dec (fun _ => ⟨⟨by decide, by show (1:Int) < ((2:Nat):Int); decide⟩, b, read_cell hc rfl, ?_⟩) fun h1 => absurd (show (1:Int) < ((2:Nat):Int) by decide) h1
    refine ifT_intro (fun h2 => ?_) fun h2 => ?_
    · rw [if_pos rfl] at hQ; exact hQ
    · have : b = 0 := Decidable.of_not_not (nd' h2)
      exact ⟨1, by omega, rfl, .inr (.inr ⟨by decide, rfl, rfl, this⟩)⟩
  · refine ifT_dec (fun h1 => absurd h1 (show ¬ (2:Int) < ((2:Nat):Int) by decide)) fun _ => ?_
    rw [if_pos rfl] at hQ; exact hQ
theorem spec89 (hI : Closed' prog Pm I) {x y : Offr} (hQ : ∀ (c : Int) h', Ext h h' → (c < 0 ↔ ltO x y = true) → Q [int c] h') : I 89 [.agg (offC x), .agg (offC y)] Q h := by
  refine hI.go _ _ (den89 I x.key x.kind x.a x.b x.tg x.least x.most x.group x.alone x.order x.from_ x.to_ y.key y.kind y.a y.b y.tg y.least y.most y.group y.alone y.order y.from_ y.to_ Q) ?_
  refine spec91 hI fun c h1 h2 => ⟨c, rfl, spec54 hI fun d h3 h4 => ⟨d, rfl, newK_intro fun i h' hn he => ?_⟩⟩
  refine spec90 hI (a := c) (b := d) (by rw [he, set_eq]) ⟨_, rfl, hQ _ _ (he ▸ Ext.new hn) ?_⟩
  unfold ltO
  rw [decide_eq_true_eq]
  by_cases hc : c = 0
  · rw [if_pos hc, h3]
    have := h2.1 hc
    constructor
    · intro h; exact .inr ⟨this, h⟩
    · rintro (h | ⟨_, h⟩)
      · omega
      · exact h
  · rw [if_neg hc, h1]
    constructor
    · intro h; exact .inl h
    · rintro (h | ⟨h, _⟩)
      · exact h
      · exact absurd (h2.2 h) hc
theorem off_tells (hI : Closed' prog Pm I) (blk : Nat) : TellsG I h blk 89 [] (fun x : Offr => V.agg (offC x)) (fun _ => True) ltO := fun a b _ _ h' Q' _ hq => spec89 hI fun c h'' he hc => hq c h'' he hc
theorem off_fits (x : Offr) : offK.fits (.agg (offC x)) := by simp [VK.fits, fitsAll, offC, Kd.fits]
theorem insF_none {vk : VK} {s : Sl} {n1 n2 : Int} {p : Option (FuncId × List (Nat × Nat))} (h1 : 0 ≤ n1) (h2 : n2 ≤ n1 + 1) (h3 : n1 < 1000000000) (hQ : Q [] h) : insF vk I s n1 n2 p Q h := by
  unfold insF
  refine loopK_intro (fun (n : Int) h' m => h' = h ∧ n = n1 + 1) 0 ⟨rfl, w64 (by omega) (by omega)⟩ ?_
  rintro n h' m ⟨rfl, rfl⟩
  exact ifT_dec (fun h4 => by omega) fun _ => hQ
theorem spec121s (hI : Closed' prog Pm I) {x : Nat} (h1 : x < 256) (hQ : ∀ n, Q [int n] h) : I 121 [u64 x] Q h := by
  refine hI.go _ _ (den121 I x Q) ?_
  refine joinK_intro (fun (p : Int × Int) h' => h' = h ∧ p = ((x : Int), 0)) ?_ fun j hj => ifT_dec (fun h2 => by omega) fun _ => hj _ _ ⟨rfl, rfl⟩
  rintro _ h' ⟨rfl, rfl⟩
  dsimp only [uncur]
  refine ifT_dec (fun h2 => by omega) fun _ => ifT_dec (fun h2 => by omega) fun _ => ?_
  rw [w8 h1]
  exact ⟨⟨by omega, by show (x : Int) < ((256 : Nat) : Int); omega⟩, hQ _⟩
theorem spec103 (hI : Closed' prog Pm I) {x : Nat} (h1 : x < 256) (hQ : ∀ n, Q [int n] h) : I 103 [u64 x] Q h := by
  refine hI.go _ _ (den103 I x Q) ?_
  exact spec121s hI h1 fun n => ⟨n, rfl, hQ n⟩
theorem spec112 (hI : Closed' prog Pm I) {s : Sl} {n1 n2 : Int} {p : Option (FuncId × List (Nat × Nat))} (hQ : insF offK I s n1 n2 p Q h) : I 112 [.one (.slice 12 s), int n1, int n2, .one (.func p)] Q h := by
  refine hI.go _ _ (den112 I s n1 n2 p Q) ?_
  rw [den112g]; exact hQ
theorem spec102 (hI : Closed' prog Pm I) {s : Sl} {n : Nat} {n3 : Int} {p : Option (FuncId × List (Nat × Nat))} (hn : n ≤ 12) (hQ : insF offK I s 0 n p (fun cs h => cs = [] ∧ Q [] h) h) : I 102 [.one (.slice 12 s), int 0, int n, int n3, .one (.func p)] Q h := by
  refine hI.go _ _ (den102 I s 0 n n3 p Q) ?_
  refine loopK_intro (fun (a : Int × Int × Int × Bool × Bool) h' m => h' = h ∧ a = (0, (n : Int), n3, true, true)) 0 ⟨rfl, rfl⟩ ?_
  rintro _ h' m ⟨rfl, rfl⟩
  dsimp only [uncur]
  have e : IntKind.i64.wrap ((n : Int) - 0) = (n : Int) := by rw [w64] <;> omega
  rw [e]
  exact ifT_dec (fun _ => spec112 hI hQ) fun h1 => by omega
theorem spec88 (hI : Closed' prog Pm I) {s : Sl} {p : Option (FuncId × List (Nat × Nat))} (hn : s.len ≤ 12) (hQ : insF offK I s 0 s.len p (fun cs h => cs = [] ∧ cs = [] ∧ Q [] h) h) : I 88 [.one (.slice 12 s), .one (.func p)] Q h := by
  refine hI.go _ _ (den88 I s p Q) ?_
  unfold vc88
  rw [wN _ (by omega)]
  refine spec103 hI (by omega) fun n => ⟨n, rfl, spec102 hI hn ?_⟩
  have e : (fun (cs : List V) (h : Heap) => cs = [] ∧ cs = [] ∧ Q [] h) = fun (cs : List V) (h : Heap) => cs = [] ∧ ([] : List V) = [] ∧ Q [] h := by
    funext cs h; simp
  rw [e] at hQ
  exact hQ
/-- Offers in their order. -/
theorem spec60 (hI : Closed' prog Pm I) {h0 : Heap} {L : List Ow} {s : Sl} {xs : List Offr} (o : Owns h0 h L) (hl : s.len = xs.length) (hsl : h.sl 12 s = some (rows offC xs)) (hlen : xs.length ≤ 12)
    (hQ : ∀ s' ys h', ys.Perm xs → ys.Pairwise leO → Owns h0 h' ((12, s', rows offC ys) :: L) → Q [.one (.slice 12 s')] h') : I 60 [.one (.slice 12 s)] Q h := by
  refine hI.go _ _ (den60 I s Q) ?_
  refine hI.go _ _ (den87 I s _) ?_
  refine ifT_intro (fun h1 => ⟨_, rfl, spec88 hI (by decide) (insF_none (by decide) (by decide) (by decide) ⟨rfl, rfl, rfl, ?_⟩)⟩) fun h1 => ⟨rows offC xs, hsl, by omega, newK_intro fun i h' hn he => ⟨_, rfl, ?_⟩⟩
  · have ha : s.a = none := by simpa using h1
    have hx : xs = [] := by
      unfold Heap.sl at hsl
      rw [ha] at hsl
      simp only at hsl
      cases xs with
      | nil => rfl
      | cons x xs => simp [rows, offC] at hsl
    subst hx
    exact hQ _ [] h (List.Perm.refl _) .nil (o.none_ 12)
  · have o1 : Owns h0 h' ((12, ⟨some (i, 0), s.len⟩, rows offC xs) :: L) := he ▸ o.new hn (by rw [rows_length offC_length, hl])
    refine spec88 hI (by show s.len ≤ 12; omega) (ins_spec off_fits (v := fun x => V.agg (offC x)) (blk := i) (h := h') (P := []) (xs := xs) (S := []) (mem := fun _ => True) (lt := ltO) leO rfl (by simpa using hl) (by rw [he, set_eq]; simp [rws, rows, V.cells]) rfl (by show (s.len : Int) = _; rw [hl]; simp) (by show s.len < 1000000000; omega) (fun _ _ => trivial) (off_tells hI i) ?_ (fun a b c _ _ _ h1 h2 => leO_trans a b c h1 h2) fun ys h2 hp hpw hps => ⟨rfl, rfl, rfl, ?_⟩)
    · exact List.pairwise_of_forall fun a b => ⟨fun h => ltO_asymm h, fun h => h⟩
    · refine hQ _ ys h2 hp hpw ?_
      have hps' : PSg h' i (fun x => V.agg (offC x)) ys h2 := by simpa using hps
      exact Owns.psg (vk := offK) off_fits (xs := xs) o1 hps' hp.length_eq
end
end Go.Proofs.YtdjancoknephnaaGreatVc
-- PrSpec2
namespace Go.Proofs.YtdjancoknephnaaGreatVc
open Go.Proofs.Tryz (prog)
open Go.Proofs.YtdjancoknephnaaGreatShares
def pcC (x : Pc) : List Cell := [.int .i64 (x.1 : Int), .int .i64 (x.2 : Int)]
theorem pcC_length (x : Pc) : (pcC x).length = 2 := rfl
theorem pc_fits (x : Pc) : pcK.fits (.agg (pcC x)) := by simp [VK.fits, fitsAll, pcC, Kd.fits]
section
variable {I : Calls} {Q : Post} {h : Heap}
theorem spec127 (hI : Closed' prog Pm I) {x y : Nat} (hx : x < 18446744073709551616) (hy : y < 18446744073709551616) (hQ : Q [u64 ((x * y / 18446744073709551616 : Nat) : Int), u64 ((x * y % 18446744073709551616 : Nat) : Int)] h) : I 127 [u64 x, u64 y] Q h := by
  refine hI.go _ _ (den127 I x y Q) ?_
  exact spec122 hI hx hy ⟨_, _, rfl, hQ⟩
theorem spec107 (hI : Closed' prog Pm I) {i n : Nat} {x : Pc} (hc : h i = some (.cells false (pcC x))) (h1 : 1 ≤ n) (h2 : n ≤ 1000)
    (hQ : ∀ i' h', Ext h h' → h' i' = some (.cells false (rows pcC (List.replicate n x))) → Q [.one (.slice 2 ⟨some (i', 0), n⟩)] h') : I 107 [.one (.slice 2 ⟨some (i, 0), 1⟩), int n] Q h := by
  refine hI.go _ _ (den107 I _ n Q) ?_
  refine joinK_intro (fun (_ : PUnit) h' => h' = h) ?_ fun j hj => ifT_dec (fun h1 => by omega) fun _ => hj _ _ rfl
  rintro _ h' rfl
  dsimp only
  rw [wN n (by omega), wN 1 (by omega)]
  refine spec127 hI (by omega) (by omega) ⟨_, _, rfl, ?_⟩
  have e1 : 1 * n / 18446744073709551616 = 0 := by omega
  have e2 : 1 * n % 18446744073709551616 = n := by omega
  have e3 : IntKind.i64.wrap (n : Int) = (n : Int) := w64 (by omega) (by omega)
  rw [e1, e2, e3]
  refine joinK_intro (fun (b : Bool) h2 => h2 = h' ∧ b = false) ?_ fun j hj => ifT_dec (fun h1 => by omega) fun _ => hj _ _ ⟨rfl, by simp; omega⟩
  rintro _ h2 ⟨rfl, rfl⟩
  refine joinK_intro (fun (_ : PUnit) h3 => h3 = h2) ?_ fun j hj => hj _ _ rfl
  rintro _ h3 rfl
  rw [Int.toNat_natCast]
  refine ⟨rfl, by omega, by omega, by show (n : Int) * ((16 : Nat) : Int) ≤ _; omega, newK_intro fun i2 h4 hn he => ⟨pcC x, ?_, ?_⟩⟩
  · have : h4 i = some (.cells false (pcC x)) := by
      rw [he, set_ne _ _ (fun e => by subst e; rw [hn] at hc; cases hc)]; exact hc
    show h4.read i 0 (1 * 2) = _
    rw [read_block this (by show 0 + 1 * 2 ≤ 2; decide)]; rfl
  have hz : (slCells (VK.agg [Kd.int IntKind.i64, Kd.int IntKind.i64]) n).length = n * 2 := by
    simp [slCells, List.length_flatten]
  obtain ⟨zs, hzs⟩ : ∃ zs, slCells (VK.agg [Kd.int IntKind.i64, Kd.int IntKind.i64]) n = zs := ⟨_, rfl⟩
  rw [hzs] at he hz
  have hm1 : min 1 n = 1 := by omega
  show storeK [] i2 0 (List.take (min 1 n * 2) (pcC x)) _ h4
  rw [hm1]
  have x4 : Ext h3 h4 := he ▸ Ext.new hn
  refine ⟨zs, by rw [he, set_eq], by rw [hz]; show 0 + 2 ≤ _; omega, ?_⟩
  show loopK _ _ _
  rw [updCells_splice (by rw [hz]; show 0 + 2 ≤ _; omega)]
  refine loopK_intro (fun (a : Int) h5 m => ∃ k rest, 1 ≤ k ∧ k ≤ n ∧ a = (k : Int) ∧ m = n - k ∧ rest.length = (n - k) * 2 ∧ h5 = h3.set i2 (.cells false (rows pcC (List.replicate k x) ++ rest))) (n - 1)
    ⟨1, zs.drop 2, by omega, h1, rfl, rfl, by rw [List.length_drop, hz]; omega, by rw [he, set_set]; rfl⟩ ?_
  rintro a h5 m ⟨k, rest, hk1, hk2, rfl, rfl, hrl, rfl⟩
  have hrep : (rows pcC (List.replicate k x)).length = k * 2 := by rw [rows_length pcC_length, List.length_replicate]
  refine ifT_dec (fun hlt => ⟨⟨by omega, by omega, by omega⟩, ⟨by omega, by omega, by omega⟩, rows pcC (List.replicate k x), ?_, ?_⟩) fun hge => ?_
  · show Heap.read _ i2 (0 + 0 * 2) ((Int.toNat (k : Int) - 0) * 2) = _
    rw [read_block (set_eq _ _ _) (by rw [List.length_append, hrep, Int.toNat_natCast]; omega), Int.toNat_natCast]
    show some (List.take ((k - 0) * 2) (List.drop 0 _)) = _
    rw [List.drop_zero, Nat.sub_zero, ← hrep, List.take_left]
  · rw [Int.toNat_natCast, Nat.sub_zero, rows_take pcC_length, List.take_replicate]
    have hm : min (min k (n - k)) k = min k (n - k) := by omega
    rw [hm]
    obtain ⟨j, hj⟩ : ∃ j, min k (n - k) = j := ⟨_, rfl⟩
    rw [hj]
    have hjl : (rows pcC (List.replicate j x)).length = j * 2 := by rw [rows_length pcC_length, List.length_replicate]
    have hle : 0 + k * 2 + (rows pcC (List.replicate j x)).length ≤ (rows pcC (List.replicate k x) ++ rest).length := by rw [List.length_append, hrep, hjl, hrl]; omega
    refine ⟨_, set_eq _ _ _, hle, ?_⟩
    show _
    rw [updCells_splice hle, set_set]
    refine ⟨n - (k + j), by omega, k + j, rest.drop (j * 2), by omega, by omega, by rw [w64 (by omega) (by omega)]; omega, rfl, by rw [List.length_drop, hrl]; omega, ?_⟩
    congr 2
    unfold splice
    rw [Nat.zero_add, ← hrep, List.take_left, ← List.drop_drop, List.drop_left, hjl, ← List.replicate_append_replicate, rows_append]
  · have hk : k = n := by omega
    subst hk
    have hr0 : rest = [] := List.length_eq_zero_iff.1 (by rw [hrl]; omega)
    subst hr0
    refine hQ i2 _ (Ext.new hn) (by rw [set_eq, List.append_nil])
theorem spec109 (hI : Closed' prog Pm I) {x y : Pc} (hQ : ∀ c, (c < 0 ↔ y.2 < x.2) → Q [int c] h) : I 109 [.agg (pcC x), .agg (pcC y)] Q h := by
  refine hI.go _ _ (den109 I x.1 x.2 y.1 y.2 Q) ?_
  exact spec91 hI fun c h1 _ => ⟨c, rfl, hQ c (h1.trans Int.ofNat_lt)⟩
def ltP (x y : Pc) : Bool := decide (y.2 < x.2)
theorem pc_tells (hI : Closed' prog Pm I) (blk : Nat) : TellsG I h blk 109 [] (fun x : Pc => V.agg (pcC x)) (fun _ => True) ltP := fun a b _ _ h' Q' _ hq => spec109 hI fun c hc => hq c h' (Ext.refl _) (by unfold ltP; rw [decide_eq_true_eq]; exact hc)
/-- The pieces are sorted. -/
theorem spec108 (hI : Closed' prog Pm I) {h0 : Heap} {s : Sl} {xs : List Pc} {L : List Ow} (o : Owns h0 h ((2, s, rows pcC xs) :: L)) (hlen : xs.length < 100000) (hord : xs.Pairwise fun a b => a.1 ≤ b.1)
    (hQ : ∀ h', Owns h0 h' ((2, s, rows pcC (sorted xs)) :: L) → Q [] h') : I 108 [.one (.slice 2 s), .one (.func (some (109, [])))] Q h := by
  refine hI.go _ _ (den108 I s _ Q) ?_
  refine hI.go _ _ (den128 I s _ _ _) ?_
  rw [den128g]
  have hl : s.len = xs.length := (o.at_ List.mem_cons_self).rowsLen pcC_length (by decide)
  have h105 : ∀ a b Q h, insF pcK I s a b (some (109, [])) Q h → I 139 [.one (.slice 2 s), ii a, ii b, fp (some (109, []))] Q h := fun a b Q h hq => hI.go _ _ (den139 I s a b _ Q) (by rw [den139g]; exact hq)
  have h112 : ∀ a b n Q h, swapF pcK s a b n Q h → I 146 [.one (.slice 2 s), ii a, ii b, ii n, fp (some (109, []))] Q h := fun a b n Q h hq => hI.go _ _ (den146 I s a b n _ Q) (by rw [den146g]; exact hq)
  have h110 : ∀ a m b Q h, rotF pcK I 146 s a m b (some (109, [])) Q h → I 144 [.one (.slice 2 s), ii a, ii m, ii b, fp (some (109, []))] Q h := fun a m b Q h hq => hI.go _ _ (den144 I s a m b _ Q) (by rw [den144g]; exact hq)
  have h106 : ∀ a m b Q h, symF pcK I 144 140 s a m b (some (109, [])) Q h → I 140 [.one (.slice 2 s), ii a, ii m, ii b, fp (some (109, []))] Q h := fun a m b Q h hq => hI.go _ _ (den140 I s a m b _ Q) (by rw [den140g]; exact hq)
  obtain ⟨ho1, ho2 | ⟨blk, ho2, ho3, ho4⟩⟩ := o.all _ List.mem_cons_self
  · have hx : xs = [] := by
      have := congrArg List.length ho2.2
      simp only [rows_length pcC_length, List.length_nil] at this
      exact List.length_eq_zero_iff.1 (by omega)
    subst hx
    have h0l : s.len = 0 := hl
    have done : Q [] h := hQ h (by simpa [sorted] using o)
    unfold stabF
    rw [h0l]
    refine loopK_intro (fun (a : Int × Int) h' m => h' = h ∧ a = (0, 20)) 0 ⟨rfl, rfl⟩ ?_
    rintro _ h' m ⟨rfl, rfl⟩
    dsimp only [uncur]
    refine ifT_dec (fun h1 => absurd h1 (by decide)) fun _ => h105 _ _ _ _ (insF_none (by decide) (by decide) (by decide) ⟨rfl, ?_⟩)
    refine loopK_intro (fun (a : Int) h2 m => h2 = h' ∧ a = 20) 0 ⟨rfl, rfl⟩ ?_
    rintro _ h2 m ⟨rfl, rfl⟩
    exact ifT_dec (fun h1 => absurd h1 (by decide)) fun _ => ⟨rfl, done⟩
  · refine stab_spec pc_fits (v := fun x => V.agg (pcC x)) (blk := blk) (mem := fun _ => True) (lt := ltP) (fun a b => pcLe a b = true) h105 h110 h112 h106 ho2 (by omega) hl ho4 (by rw [hl]) (fun a b c _ _ _ => pcLe_trans a b c) (fun _ _ => trivial) (pc_tells hI blk) ?_ fun Z h' hp hs hps => ⟨rfl, hQ h' ?_⟩
    · refine hord.imp fun {a b} hab => ?_
      unfold Xrel ltP pcLe
      simp only [decide_eq_true_eq, decide_eq_false_iff_not]
      omega
    · have e := sorted_eq hp hs
      subst e
      have e2 : s = ⟨some (blk, 0), s.len⟩ := by cases s; simp only at ho2; rw [ho2]
      have o2 : Owns h0 h ((pcK.kds.length, ⟨some (blk, 0), s.len⟩, rws (fun x : Pc => V.agg (pcC x)) xs) :: L) := by
        rw [← e2]; exact o
      have := o2.psg pc_fits hps hp.length_eq
      rw [e2]; exact this
end
end Go.Proofs.YtdjancoknephnaaGreatVc
-- from PrSpecB
namespace Go.Proofs.YtdjancoknephnaaGreatVc
open Go.Proofs.Tryz (prog)
open Go.Proofs.YtdjancoknephnaaGreatShares
abbrev prC (l1 : Sl) (ship0 : Int) (sl : Sl) (ship : Int) : List Cell := [.slice 4 l1, .int .i64 ship0, .slice 1 sl, .int .i64 ship]
/-- A pricer: a basket; what is left of its lines. -/
structure Pr (h : Heap) (ip : Nat) (l1 : Sl) (xs : List Itm) (ship0 : Int) (sl : Sl) (left : List Nat) (ship : Int) : Prop where
  cell : h ip = some (.cells false (prC l1 ship0 sl ship))
  its : Itms h l1 xs
  at_ : At h 1 sl (nats left)
  len : left.length = xs.length
/-- What is known of a basket's items. -/
structure OkL (xs : List Itm) : Prop where
  ok : ∀ x ∈ xs, okI x
  few : xs.length ≤ 4
  tg : ∀ x ∈ xs, x.tags.length < 1000
section
variable {I : Calls} {Q : Post} {h : Heap} {ip : Nat} {l1 sl : Sl} {xs : List Itm} {ship0 ship : Int} {left : List Nat}
theorem Pr.ext {h' : Heap} (p : Pr h ip l1 xs ship0 sl left ship) (x : Ext h h') : Pr h' ip l1 xs ship0 sl left ship := ⟨x _ _ p.cell, x.itms p.its, x.at_ p.at_, p.len⟩
theorem Pr.sllen (p : Pr h ip l1 xs ship0 sl left ship) : sl.len = xs.length := by rw [p.at_.len1, nats_length, p.len]
theorem spec105 (hI : Closed' prog Pm I) {s : Sl} {ws : List Nat} {g : Nat} (hs : At h 1 s (nats ws)) (hg : g ≤ 1000000000000) (hw : ∀ w ∈ ws, w ≤ 1000000000000) (hlen : ws.length < 20)
    (hQ : ∀ s' h', Ext h h' → At h' 1 s' (nats (mostF ws g)) → (s' = s ∨ New h s') → Q [.one (.slice 1 s')] h') : I 105 [.one (.slice 1 s), int g] Q h := by
  have hl : s.len = ws.length := by rw [hs.len1, nats_length]
  have hsum := sum_le hw
  have hsum' : ws.sum ≤ 20000000000000 := by omega
  refine hI.go _ _ (den105 I s g Q) ?_
  refine loopK_intro (fun (a : Int × Int) h' m => h' = h ∧ ∃ i : Nat, i ≤ ws.length ∧ a = ((((ws.take i).sum : Nat) : Int), (i : Int)) ∧ ws.length - i = m) ws.length ⟨rfl, 0, by omega, rfl, rfl⟩ ?_
  rintro a h' m ⟨rfl, i, hi, rfl, rfl⟩
  dsimp only [uncur]
  refine ifT_dec (fun hlt => ⟨⟨by omega, hlt⟩, ?_⟩) (fun hge => ?_)
  · have hil : i < ws.length := by omega
    refine hs.cell (nats_get (List.getElem?_eq_getElem hil)) fun b o hr => ⟨_, hr, ws.length - (i + 1), by omega, rfl, i + 1, by omega, ?_, rfl⟩
    have h1 := sum_step hil
    have h2 := take_sum_le ws (i + 1)
    rw [h1] at h2 ⊢
    generalize (ws.take i).sum = y at *
    generalize ws[i] = x at *
    rw [w64 (by omega) (by omega), w64 (by omega) (by omega)]
    rfl
  have : i = ws.length := by omega
  subst this
  rw [List.take_length]
  refine ifT_dec (fun h1 => ?_) fun h1 => ifT_dec (fun h2 => ?_) fun h2 => ?_
  · exact hQ s h' (Ext.refl _) (by unfold mostF; rw [if_pos (.inl (by omega))]; exact hs) (.inl rfl)
  · exact hQ s h' (Ext.refl _) (by unfold mostF; rw [if_pos (.inr (by omega))]; exact hs) (.inl rfl)
  · exact spec106 hI hs hg hw (by omega) hlen fun s' h2 e a nw => ⟨s', rfl, hQ s' h2 e (by unfold mostF; rw [if_neg (by omega)]; exact a) (.inr nw)⟩
theorem zipM_step {ms : List Bool} {l : List Nat} {f : Nat → Nat} {i : Nat} {m : Bool} {n : Nat} (hm : ms[i]? = some m) (hl : l[i]? = some n) (k : Nat) (hk : k + (i + 1) = l.length) (hlen : ms.length = l.length) :
    ((zipM ms l f).take i ++ List.replicate (k + 1) 0).set i (cond m (f n) 0) = (zipM ms l f).take (i + 1) ++ List.replicate k 0 := by
  have hz : (zipM ms l f).length = l.length := zipM_length hlen f
  have h1 : (zipM ms l f)[i]? = some (cond m (f n) 0) := by
    unfold zipM
    rw [List.getElem?_zipWith, hm, hl]
  have h2 : ((zipM ms l f).take i).length = i := by rw [List.length_take]; omega
  rw [List.set_append, if_neg (by omega), h2, Nat.sub_self, List.replicate_succ, List.set_cons_zero, List.take_add_one, h1]
  simp
theorem zipM_none {ms : List Bool} {l : List Nat} {f : Nat → Nat} {i : Nat} {n : Nat} (hm : ms[i]? = some false) (hl : l[i]? = some n) (k : Nat) (hk : k + (i + 1) = l.length) (hlen : ms.length = l.length) :
    (zipM ms l f).take i ++ List.replicate (k + 1) 0 = (zipM ms l f).take (i + 1) ++ List.replicate k 0 := by
  have hz : (zipM ms l f).length = l.length := zipM_length hlen f
  have h1 : (zipM ms l f)[i]? = some 0 := by
    unfold zipM
    rw [List.getElem?_zipWith, hm, hl]; rfl
  rw [List.replicate_succ, List.take_add_one, h1]
  simp
theorem zeros_nats (n : Nat) : slCells (VK.one (Kd.int IntKind.i64)) n = nats (List.replicate n 0) := by
  unfold slCells nats
  induction n with
  | zero => rfl
  | succ n ih => rw [List.replicate_succ, List.replicate_succ, List.flatten_cons, ih]; rfl
theorem ms_get {o : Offr} {k : Nat} {x : Itm} (hx : xs[k]? = some x) : (xs.map (matchB o))[k]? = some (matchB o x) := by rw [List.getElem?_map, hx]; rfl
/-- What the walk over the lines keeps, for a percentage and for an amount. -/
theorem spec92 (hI : Closed' prog Pm I) {o : Offr} (hp : Pr h ip l1 xs ship0 sl left ship) (hx : OkL xs) (ho : OkO o) (hk : o.kind = 1) (hot : At h 1 o.tg (strs o.tags)) (hotl : o.tags.length < 1000) (hle : ∀ n ∈ left, n ≤ 1000000000)
    (hQ : ∀ s' h', Ext h h' → At h' 1 s' (nats (percF (xs.map (matchB o)) left o.a.toNat o.most.toNat)) → New h s' → Q [.one (.slice 1 s')] h') : I 92 [.one (.ptr (some (ip, 0))), .agg (offC o)] Q h := by
  have hsl := hp.sllen
  have hfew := hx.few
  have hil := hp.its.len
  obtain ⟨ham, _, _, hm0, hm1, _, _⟩ := ho.n
  have ha : 1 ≤ o.a ∧ o.a ≤ 100 := by
    rcases ham with h1 | h1 | h1 <;> omega
  refine hI.go _ _ (den92 I (some (ip, 0)) o.key o.kind o.a o.b o.tg o.least o.most o.group o.alone o.order o.from_ o.to_ Q) ?_
  refine ⟨sl, read_cell hp.cell rfl, rfl, by omega, by omega, by show (sl.len : Int) * ((8 : Nat) : Int) ≤ _; omega, newK_intro fun i2 h1 hn he => ?_⟩
  rw [Int.toNat_natCast, zeros_nats] at he
  have o1 : Owns h h1 [(1, ⟨some (i2, 0), sl.len⟩, nats (List.replicate sl.len 0))] := he ▸ (Owns.nil h).new hn (by simp [nats_length])
  have hp1 := hp.ext o1.ext
  refine ⟨sl, read_cell hp1.cell rfl, ?_⟩
  obtain ⟨f, hf⟩ : ∃ f : Nat → Nat, f = fun n => n * o.a.toNat / 100 := ⟨_, rfl⟩
  obtain ⟨ms, hms⟩ : ∃ ms, xs.map (matchB o) = ms := ⟨_, rfl⟩
  have hml : ms.length = left.length := by rw [← hms, List.length_map, hp.len]
  refine loopK_intro (fun (a : Int) h' m => ∃ k : Nat, k ≤ xs.length ∧ a = (k : Int) ∧ m = xs.length - k ∧ Owns h h' [(1, ⟨some (i2, 0), sl.len⟩, nats ((zipM ms left f).take k ++ List.replicate m 0))]) xs.length
    ⟨0, by omega, rfl, rfl, by rw [List.take_zero, List.nil_append, ← hsl]; exact o1⟩ ?_
  rintro a h2 m ⟨k, hk1, rfl, rfl, o2⟩
  have hp2 := hp.ext o2.ext
  refine ifT_dec (fun hlt => ⟨⟨by omega, hlt⟩, ?_⟩) fun hge => ?_
  · have hkl : k < xs.length := by omega
    have hxk := List.getElem?_eq_getElem hkl
    generalize xs[k] = x at hxk
    have hkl2 : k < left.length := by rw [hp.len]; exact hkl
    obtain ⟨n, hnk, hnb⟩ : ∃ n, left[k]? = some n ∧ n ≤ 1000000000 := ⟨left[k], List.getElem?_eq_getElem hkl2, hle _ (List.getElem_mem hkl2)⟩
    have hxm := List.mem_of_getElem? hxk
    refine hp2.at_.cell (nats_get hnk) fun b of hr => ⟨_, hr, ⟨l1, read_cell hp2.cell rfl, ⟨by omega, by omega⟩, ?_⟩⟩
    refine hp2.its.at_.row itmC_length (by decide) hxk fun b2 of2 hr2 => ⟨x.key, x.cents, x.many, x.tg, hr2, ?_⟩
    refine spec59 hI (o := o) (x := x) (o2.ext.at_ hot) (hp2.its.tg x hxm) hotl (hx.tg x hxm) fun h3 e3 => ⟨matchB o x, rfl, ?_⟩
    have o3 := o2.mono e3
    have hmk : ms[k]? = some (matchB o x) := by rw [← hms]; exact ms_get hxk
    have em : xs.length - k = (xs.length - (k + 1)) + 1 := by omega
    have ek : IntKind.i64.wrap ((k : Int) + 1) = ((k + 1 : Nat) : Int) := by rw [w64] <;> omega
    rw [em] at o3
    rw [ek]
    have hz : (zipM ms left f).length = left.length := zipM_length hml f
    refine ifT_intro (fun hb => ⟨⟨by omega, by show (k : Int) < ((sl.len : Int).toNat : Int); omega⟩, ?_⟩) fun hb => ?_
    · rw [hb] at hmk
      refine storeK_one (o3.block List.mem_cons_self).1 (by rw [nats_length, List.length_append, List.length_take, List.length_replicate, Int.toNat_natCast, hz, hp.len]; omega) ⟨xs.length - (k + 1), by omega, k + 1, by omega, rfl, rfl, ?_⟩
      have ev : IntKind.i64.wrap ((IntKind.i64.wrap ((n : Int) * o.a)).tdiv 100) = ((f n : Nat) : Int) := by
        obtain ⟨A, hA⟩ := Int.eq_ofNat_of_zero_le (show 0 ≤ o.a by omega)
        rw [hf, hA]
        dsimp only
        rw [Int.toNat_natCast]
        have hA2 : A ≤ 100 := by omega
        have hmul : n * A ≤ 1000000000 * 100 := Nat.mul_le_mul hnb hA2
        rw [mN, w64 (n := ((n * A : Nat) : Int)) (by omega) (by omega)]
        have : ((n * A : Nat) : Int).tdiv 100 = ((n * A / 100 : Nat) : Int) := by rw [Int.ofNat_tdiv]; rfl
        rw [this, w64 (by omega) (by omega)]
      rw [ev, Nat.zero_add, Int.toNat_natCast, Nat.mul_one, nats_set, show f n = cond true (f n) 0 from rfl, zipM_step hmk hnk _ (by rw [hp.len]; omega) hml]
      refine o3.change ?_
      rw [nats_length, List.length_append, List.length_take, List.length_replicate, hz, hp.len]; omega
    · rw [hb] at hmk
      rw [zipM_none hmk hnk _ (by rw [hp.len]; omega) hml] at o3
      exact ⟨xs.length - (k + 1), by omega, k + 1, by omega, rfl, rfl, o3⟩
  · have hkn : k = xs.length := by omega
    subst hkn
    rw [Nat.sub_self, List.replicate_zero, List.append_nil, List.take_of_length_le (by rw [zipM_length hml f, hp.len]; exact Nat.le_refl _)] at o2
    rw [Int.toNat_natCast]
    obtain ⟨g, hg⟩ := Int.eq_ofNat_of_zero_le hm0
    have hz : (zipM ms left f).length = left.length := zipM_length hml f
    rw [hg]
    refine spec105 hI (o2.at_ List.mem_cons_self) (by omega) (fun w hw => ?_) (by rw [hz, hp.len]; omega) fun s' h3 e3 a3 nw => ⟨s', rfl, hQ s' h3 (o2.ext.trans e3) ?_ (nw.elim (fun e => e ▸ New.blk hn) fun nw => nw.of_ext o2.ext)⟩
    · obtain ⟨j, hj, rfl⟩ := List.mem_iff_getElem.1 hw
      rw [hz] at hj
      have h5 := zipM_under hml (f := f) (fun n => by rw [hf]; dsimp only; have : n * o.a.toNat ≤ n * 100 := Nat.mul_le_mul_left n (by omega); omega)
      have h6 := h5.2 j (by rw [hz]; exact hj)
      rw [at_some (List.getElem?_eq_getElem (by rw [hz]; exact hj)), at_some (List.getElem?_eq_getElem hj)] at h6
      have h7 := hle _ (List.getElem_mem hj)
      omega
    · rw [hms]
      unfold percF
      rw [← hf, hg, Int.toNat_natCast]; exact a3
theorem take_sum_step {l : List Nat} {k n : Nat} (h : l[k]? = some n) : (l.take (k + 1)).sum = (l.take k).sum + n := by
  rw [List.take_add_one, h, List.sum_append]; simp
theorem min_nat {a b : Nat} : min (a : Int) (b : Int) = ((min a b : Nat) : Int) := by omega
theorem spec93 (hI : Closed' prog Pm I) {o : Offr} (hp : Pr h ip l1 xs ship0 sl left ship) (hx : OkL xs) (ho : OkO o) (hk : o.kind = 2) (hot : At h 1 o.tg (strs o.tags)) (hotl : o.tags.length < 1000) (hle : ∀ n ∈ left, n ≤ 1000000000)
    (hQ : ∀ s' h', Ext h h' → At h' 1 s' (nats (amtF (xs.map (matchB o)) left o.a.toNat o.most.toNat)) → New h s' → Q [.one (.slice 1 s')] h') : I 93 [.one (.ptr (some (ip, 0))), .agg (offC o)] Q h := by
  have hsl := hp.sllen
  have hfew := hx.few
  have hil := hp.its.len
  obtain ⟨ham, _, _, hm0, hm1, _, _⟩ := ho.n
  have ha : 1 ≤ o.a ∧ o.a ≤ 1000000000000 := by
    rcases ham with h1 | h1 | h1 <;> omega
  refine hI.go _ _ (den93 I (some (ip, 0)) o.key o.kind o.a o.b o.tg o.least o.most o.group o.alone o.order o.from_ o.to_ Q) ?_
  refine ⟨sl, read_cell hp.cell rfl, rfl, by omega, by omega, by show (sl.len : Int) * ((8 : Nat) : Int) ≤ _; omega, newK_intro fun i2 h1 hn he => ?_⟩
  rw [Int.toNat_natCast, zeros_nats] at he
  have o1 : Owns h h1 [(1, ⟨some (i2, 0), sl.len⟩, nats (List.replicate sl.len 0))] := he ▸ (Owns.nil h).new hn (by simp [nats_length])
  have hp1 := hp.ext o1.ext
  refine ⟨sl, read_cell hp1.cell rfl, ?_⟩
  obtain ⟨ms, hms⟩ : ∃ ms, xs.map (matchB o) = ms := ⟨_, rfl⟩
  have hml : ms.length = left.length := by rw [← hms, List.length_map, hp.len]
  have hz : (zipM ms left id).length = left.length := zipM_length hml id
  have hle2 : ∀ w ∈ zipM ms left id, w ≤ 1000000000 := fun w hw => by
    obtain ⟨j, hj, rfl⟩ := List.mem_iff_getElem.1 hw
    rw [hz] at hj
    have h6 := (zipM_under hml (f := id) (fun n => Nat.le_refl _)).2 j (by rw [hz]; exact hj)
    rw [at_some (List.getElem?_eq_getElem (by rw [hz]; exact hj)), at_some (List.getElem?_eq_getElem hj)] at h6
    have h7 := hle _ (List.getElem_mem hj)
    omega
  have hsum := sum_le hle2
  have hzl : (zipM ms left id).length ≤ 4 := by rw [hz, hp.len]; exact hfew
  refine loopK_intro (fun (a : Int × Int) h' m => ∃ k : Nat, k ≤ xs.length ∧ a = (((((zipM ms left id).take k).sum : Nat) : Int), (k : Int)) ∧ m = xs.length - k ∧ Owns h h' [(1, ⟨some (i2, 0), sl.len⟩, nats ((zipM ms left id).take k ++ List.replicate m 0))]) xs.length
    ⟨0, by omega, rfl, rfl, by rw [List.take_zero, List.nil_append, ← hsl]; exact o1⟩ ?_
  rintro a h2 m ⟨k, hk1, rfl, rfl, o2⟩
  dsimp only [uncur]
  have hp2 := hp.ext o2.ext
  refine ifT_dec (fun hlt => ⟨⟨by omega, hlt⟩, ?_⟩) fun hge => ?_
  · have hkl : k < xs.length := by omega
    have hxk := List.getElem?_eq_getElem hkl
    generalize xs[k] = x at hxk
    have hkl2 : k < left.length := by rw [hp.len]; exact hkl
    obtain ⟨n, hnk, hnb⟩ : ∃ n, left[k]? = some n ∧ n ≤ 1000000000 := ⟨left[k], List.getElem?_eq_getElem hkl2, hle _ (List.getElem_mem hkl2)⟩
    have hxm := List.mem_of_getElem? hxk
    refine hp2.at_.cell (nats_get hnk) fun b of hr => ⟨_, hr, ⟨l1, read_cell hp2.cell rfl, ⟨by omega, by omega⟩, ?_⟩⟩
    refine hp2.its.at_.row itmC_length (by decide) hxk fun b2 of2 hr2 => ⟨x.key, x.cents, x.many, x.tg, hr2, ?_⟩
    refine spec59 hI (o := o) (x := x) (o2.ext.at_ hot) (hp2.its.tg x hxm) hotl (hx.tg x hxm) fun h3 e3 => ⟨matchB o x, rfl, ?_⟩
    have o3 := o2.mono e3
    have hmk : ms[k]? = some (matchB o x) := by rw [← hms]; exact ms_get hxk
    have em : xs.length - k = (xs.length - (k + 1)) + 1 := by omega
    have ek : IntKind.i64.wrap ((k : Int) + 1) = ((k + 1 : Nat) : Int) := by rw [w64] <;> omega
    rw [em] at o3
    rw [ek]
    have hts := take_sum_le (zipM ms left id) k
    have hzk : (zipM ms left id)[k]? = some (cond (matchB o x) n 0) := by
      unfold zipM
      rw [List.getElem?_zipWith, hmk, hnk]; rfl
    have hst := take_sum_step hzk
    refine ifT_intro (fun hb => ⟨⟨by omega, by show (k : Int) < ((sl.len : Int).toNat : Int); omega⟩, ?_⟩) fun hb => ?_
    · rw [hb] at hmk hst
      refine storeK_one (o3.block List.mem_cons_self).1 (by rw [nats_length, List.length_append, List.length_take, List.length_replicate, Int.toNat_natCast, hz, hp.len]; omega) ⟨xs.length - (k + 1), by omega, k + 1, by omega, ?_, rfl, ?_⟩
      · rw [hst]
        show (_, _) = (_, _)
        congr 1
        show IntKind.i64.wrap _ = (((_ + n : Nat)) : Int)
        rw [w64 (by omega) (by omega)]; omega
      rw [Nat.zero_add, Int.toNat_natCast, Nat.mul_one, nats_set, show n = cond true (id n) 0 from rfl, zipM_step hmk hnk _ (by rw [hp.len]; omega) hml]
      refine o3.change ?_
      rw [nats_length, List.length_append, List.length_take, List.length_replicate, hz, hp.len]; omega
    · rw [hb] at hmk hst
      rw [zipM_none hmk hnk _ (by rw [hp.len]; omega) hml] at o3
      refine ⟨xs.length - (k + 1), by omega, k + 1, by omega, ?_, rfl, o3⟩
      rw [hst]; rfl
  · have hkn : k = xs.length := by omega
    subst hkn
    rw [Nat.sub_self, List.replicate_zero, List.append_nil, List.take_of_length_le (by rw [hz, hp.len]; exact Nat.le_refl _)] at o2
    rw [List.take_of_length_le (by rw [hz, hp.len]; exact Nat.le_refl _), Int.toNat_natCast]
    obtain ⟨g, hg⟩ := Int.eq_ofNat_of_zero_le hm0
    obtain ⟨A, hA⟩ := Int.eq_ofNat_of_zero_le (show 0 ≤ o.a by omega)
    rw [hms, hg, hA] at hQ
    rw [hg, hA]
    simp only [Int.toNat_natCast] at hQ
    unfold amtF at hQ
    obtain ⟨ws, hws⟩ : ∃ ws, zipM ms left id = ws := ⟨_, rfl⟩
    rw [hws] at hQ o2 hle2 hsum hzl ⊢
    have hat := o2.at_ List.mem_cons_self
    have fin : ∀ c : Nat, ws.sum ≠ 0 → c = capN g (min A ws.sum) → I 106 [int c, .one (.slice 1 ⟨some (i2, 0), sl.len⟩)] (fun cs h' => ∃ l : Sl, cs = [.one (.slice 1 l)] ∧ Q [.one (.slice 1 l)] h') h2 := fun c hne hc => by
      refine spec106 hI hat (by rw [hc]; unfold capN; split <;> omega) (fun w hw => by have := hle2 w hw; omega) (by omega) (by omega) fun s' h3 e3 a3 nw => ⟨s', rfl, hQ s' h3 (o2.ext.trans e3) ?_ (nw.of_ext o2.ext)⟩
      rw [if_neg hne, ← hc]; exact a3
    have zero : ws.sum = 0 → Q [.one (.slice 1 ⟨some (i2, 0), sl.len⟩)] h2 := fun h0 => hQ _ h2 o2.ext (by rw [if_pos h0]; exact hat) (New.blk hn)
    refine ifT_intro (fun h5 => ifT_dec (fun h6 => zero (by omega)) fun h6 => ?_) fun h5 => ifT_dec (fun h6 => zero (by omega)) fun h6 => ?_
    · have hg0 : (g : Int) ≠ 0 := nd h5
      have e : min (min (A : Int) ((ws.sum : Nat) : Int)) (g : Int) = ((min (min A ws.sum) g : Nat) : Int) := by omega
      show I 106 _ _ _
      rw [e]
      exact fin _ (by omega) (by unfold capN; rw [if_neg (by omega)])
    · have hg0 : (g : Int) = 0 := Decidable.of_not_not (nd' h5)
      have e : min (A : Int) ((ws.sum : Nat) : Int) = ((min A ws.sum : Nat) : Int) := by omega
      show I 106 _ _ _
      rw [e]
      exact fin _ (by omega) (by unfold capN; rw [if_pos (by omega)])
end
end Go.Proofs.YtdjancoknephnaaGreatVc
-- PrSpec4
namespace Go.Proofs.YtdjancoknephnaaGreatVc
open Go.Proofs.Tryz (prog)
open Go.Proofs.YtdjancoknephnaaGreatShares
theorem pcs_succ (ms : List Bool) (ks left : List Nat) (n : Nat) : pcs ms ks left (n + 1) = pcs ms ks left n ++ pcsAt ms ks left n := by
  unfold pcs; rw [List.range_succ, List.flatMap_append]; simp
theorem pcsAt_mem {ms : List Bool} {ks left : List Nat} {i : Nat} {x : Pc} (h : x ∈ pcsAt ms ks left i) : ∃ k n, ms[i]? = some true ∧ ks[i]? = some k ∧ left[i]? = some n ∧ x = (i, n / k) := by
  unfold pcsAt at h
  split at h
  · rename_i k n h1 h2 h3
    exact ⟨k, n, h1, h2, h3, List.eq_of_mem_replicate h⟩
  · cases h
theorem pcsAt_length {ms : List Bool} {ks left : List Nat} {i : Nat} (hk : ∀ k ∈ ks, k ≤ 100) : (pcsAt ms ks left i).length ≤ 100 := by
  unfold pcsAt
  split
  · rename_i k n h1 h2 h3
    rw [List.length_replicate]; exact hk k (List.mem_of_getElem? h2)
  · simp
theorem pcs_ok {ms : List Bool} {ks left : List Nat} (hk : ∀ k ∈ ks, k ≤ 100) (hl : ∀ n ∈ left, n ≤ 1000000000) : ∀ n, (∀ x ∈ pcs ms ks left n, x.1 < n ∧ x.2 ≤ 1000000000) ∧ (pcs ms ks left n).Pairwise (fun a b => a.1 ≤ b.1) ∧ (pcs ms ks left n).length ≤ 100 * n
  | 0 => by simp [pcs]
  | n + 1 => by
    obtain ⟨h1, h2, h3⟩ := pcs_ok hk hl n (ms := ms)
    have h4 := pcsAt_length (ms := ms) (left := left) (i := n) hk
    have h5 : ∀ x ∈ pcsAt ms ks left n, x.1 = n ∧ x.2 ≤ 1000000000 := fun x hx => by
      obtain ⟨k, m, _, _, hm, rfl⟩ := pcsAt_mem hx
      exact ⟨rfl, Nat.le_trans (Nat.div_le_self m k) (hl m (List.mem_of_getElem? hm))⟩
    rw [pcs_succ]
    refine ⟨fun x hx => ?_, List.pairwise_append.2 ⟨h2, ?_, fun x hx y hy => ?_⟩, by rw [List.length_append]; omega⟩
    · rcases List.mem_append.1 hx with hx | hx
      · have := h1 x hx; omega
      · have := h5 x hx; omega
    · rw [List.pairwise_iff_getElem]
      intro i j hi hj _
      have e1 := (h5 _ (List.getElem_mem hi)).1
      have e2 := (h5 _ (List.getElem_mem hj)).1
      omega
    · have e1 := (h1 x hx).1
      have e2 := (h5 y hy).1
      omega
theorem sorted_perm (l : List Pc) : (sorted l).Perm l := List.mergeSort_perm l pcLe
theorem giveAll_append (out : List Nat) (a b : List Pc) : giveAll out (a ++ b) = giveAll (giveAll out a) b := by simp [giveAll]
theorem at_get' {l : List Nat} {i : Nat} (h : i < l.length) : l[i]? = some (at_ l i) := at_get h
theorem give_bound {out : List Nat} {x : Pc} {B : Nat} (h : ∀ i, at_ out i ≤ B) (hx : x.1 < out.length) (i : Nat) : at_ (give out x) i ≤ B + x.2 := by
  by_cases hi : i < out.length
  · rw [give_at hi]
    have := h i
    split <;> omega
  · have : at_ (give out x) i = 0 := by
      unfold at_
      rw [List.getD_eq_getElem?_getD, List.getElem?_eq_none (by rw [give_length]; omega)]; rfl
    omega
section
variable {I : Calls} {Q : Post} {h : Heap} {ip : Nat} {l1 sl : Sl} {xs : List Itm} {ship0 ship : Int} {left : List Nat}
theorem spec94 (hI : Closed' prog Pm I) {o : Offr} (hp : Pr h ip l1 xs ship0 sl left ship) (hx : OkL xs) (ho : OkO o) (hk : o.kind = 3) (hot : At h 1 o.tg (strs o.tags)) (hotl : o.tags.length < 1000) (hle : ∀ n ∈ left, n ≤ 1000000000)
    (hQ : ∀ s' h', Ext h h' → At h' 1 s' (nats (freeF (xs.map (matchB o)) (xs.map fun x => x.many.toNat) left o.a.toNat o.b.toNat o.most.toNat)) → New h s' → Q [.one (.slice 1 s')] h') : I 94 [.one (.ptr (some (ip, 0))), .agg (offC o)] Q h := by
  have hsl := hp.sllen
  have hfew := hx.few
  have hil := hp.its.len
  obtain ⟨ham, _, _, hm0, hm1, _, _⟩ := ho.n
  have ha : 1 ≤ o.a ∧ o.a ≤ 20 ∧ 1 ≤ o.b ∧ o.b ≤ 20 := by
    rcases ham with h1 | h1 | h1 <;> omega
  obtain ⟨g, hg⟩ := Int.eq_ofNat_of_zero_le hm0
  obtain ⟨A, hA⟩ := Int.eq_ofNat_of_zero_le (show 0 ≤ o.a by omega)
  obtain ⟨B, hB⟩ := Int.eq_ofNat_of_zero_le (show 0 ≤ o.b by omega)
  obtain ⟨ms, hms⟩ : ∃ ms, xs.map (matchB o) = ms := ⟨_, rfl⟩
  obtain ⟨ks, hks⟩ : ∃ ks, xs.map (fun x => x.many.toNat) = ks := ⟨_, rfl⟩
  have hksb : ∀ k ∈ ks, k ≤ 100 := fun k hk => by
    rw [← hks] at hk
    obtain ⟨x, hx2, rfl⟩ := List.mem_map.1 hk
    have := hx.ok x hx2
    omega
  refine hI.go _ _ (den94 I (some (ip, 0)) o.key o.kind o.a o.b o.tg o.least o.most o.group o.alone o.order o.from_ o.to_ Q) ?_
  refine ⟨l1, read_cell hp.cell rfl, ?_⟩
  refine loopK_intro (fun (a : Sl × Int) h' m => ∃ k : Nat, k ≤ xs.length ∧ a.2 = (k : Int) ∧ m = xs.length - k ∧ Owns h h' [(2, a.1, rows pcC (pcs ms ks left k))]) xs.length
    ⟨0, by omega, rfl, rfl, (Owns.nil h).none_ 2⟩ ?_
  rintro ⟨lz, y⟩ h2 m ⟨k, hk1, rfl, rfl, o2⟩
  dsimp only [uncur] at o2 ⊢
  have hp2 := hp.ext o2.ext
  obtain ⟨hpk1, hpk2, hpk3⟩ := pcs_ok (ms := ms) hksb hle k
  have hlz : lz.len = (pcs ms ks left k).length := (o2.at_ List.mem_cons_self).rowsLen pcC_length (by decide)
  refine ifT_dec (fun hlt => ⟨⟨by omega, hlt⟩, ?_⟩) fun hge => ?_
  · have hkl : k < xs.length := by omega
    have hxk := List.getElem?_eq_getElem hkl
    generalize xs[k] = x at hxk
    have hkl2 : k < left.length := by rw [hp.len]; exact hkl
    obtain ⟨n, hnk, hnb⟩ : ∃ n, left[k]? = some n ∧ n ≤ 1000000000 := ⟨left[k], List.getElem?_eq_getElem hkl2, hle _ (List.getElem_mem hkl2)⟩
    have hxm := List.mem_of_getElem? hxk
    have hok := hx.ok x hxm
    have hmk : ms[k]? = some (matchB o x) := by rw [← hms]; exact ms_get hxk
    have hkk : ks[k]? = some x.many.toNat := by rw [← hks, List.getElem?_map, hxk]; rfl
    have ek : IntKind.i64.wrap ((k : Int) + 1) = ((k + 1 : Nat) : Int) := by rw [w64] <;> omega
    rw [ek]
    refine hp2.its.at_.row itmC_length (by decide) hxk fun b2 of2 hr2 => ⟨x.key, x.cents, x.many, x.tg, hr2, ?_⟩
    refine spec59 hI (o := o) (x := x) (o2.ext.at_ hot) (hp2.its.tg x hxm) hotl (hx.tg x hxm) fun h3 e3 => ⟨matchB o x, rfl, ?_⟩
    have o3 := o2.mono e3
    have hp3 := hp.ext o3.ext
    refine ifT_intro (fun hb => ?_) fun hb => ?_
    · rw [hb] at hmk
      refine ⟨sl, read_cell hp3.cell rfl, ⟨by omega, by omega⟩, ?_⟩
      refine hp3.at_.cell (nats_get hnk) fun b of hr => ⟨_, hr, by omega, newK_intro fun i4 h4 hn4 he4 => ?_⟩
      obtain ⟨M, hM⟩ : ∃ M : Nat, x.many = ((M + 1 : Nat) : Int) := ⟨x.many.toNat - 1, by omega⟩
      have hM2 : M < 100 := by omega
      have ev : IntKind.i64.wrap ((n : Int).tdiv x.many) = ((n / (M + 1) : Nat) : Int) := by
        rw [hM]
        have : (n : Int).tdiv ((M + 1 : Nat) : Int) = ((n / (M + 1) : Nat) : Int) := by rw [Int.ofNat_tdiv]
        rw [this]
        have hq := Nat.div_le_self n (M + 1)
        generalize n / (M + 1) = q at hq
        exact w64 (by omega) (by omega)
      rw [ev] at he4
      rw [hM]
      have x4 : Ext h3 h4 := he4 ▸ Ext.new hn4
      refine spec107 hI (x := (k, n / (M + 1))) (by rw [he4, set_eq]; rfl) (by omega) (by omega) fun i5 h5 e5 c5 => ⟨_, rfl, rows pcC (List.replicate (M + 1) (k, n / (M + 1))), ?_, ?_⟩
      · show h5.read i5 0 ((M + 1) * 2) = _
        have hl5 : (rows pcC (List.replicate (M + 1) (k, n / (M + 1)))).length = (M + 1) * 2 := by rw [rows_length pcC_length, List.length_replicate]
        rw [read_block c5 (by omega), ← hl5, List.drop_zero, List.take_length]
      · show appendTo [] 2 16 lz (M + 1) _ _ _
        refine appendTo_owns (o3.mono (x4.trans e5)) (by rw [rows_length pcC_length, List.length_replicate]) (by omega) (by simp) fun j h6 o6 => ⟨xs.length - (k + 1), by omega, k + 1, by omega, rfl, rfl, ?_⟩
        have e : pcs ms ks left (k + 1) = pcs ms ks left k ++ List.replicate (M + 1) (k, n / (M + 1)) := by
          rw [pcs_succ]
          congr 1
          unfold pcsAt
          have : x.many.toNat = M + 1 := by omega
          rw [this] at hkk
          rw [hmk, hkk, hnk]
        rw [e, rows_append]; exact o6
    · rw [hb] at hmk
      have e : pcs ms ks left (k + 1) = pcs ms ks left k := by
        rw [pcs_succ]
        unfold pcsAt
        rw [hmk]; simp
      exact ⟨xs.length - (k + 1), by omega, k + 1, by omega, rfl, rfl, by rw [e]; exact o3⟩
  · have hkn : k = xs.length := by omega
    subst hkn
    rw [hms, hks, hg, hA, hB] at hQ
    simp only [Int.toNat_natCast] at hQ
    rw [hg, hA, hB]
    refine spec108 hI o2 (by omega) hpk2 fun h3 o3 => ⟨rfl, ?_⟩
    have hp3 := hp.ext o3.ext
    unfold freeF at hQ
    rw [hp.len] at hQ
    obtain ⟨Z, hZ⟩ : ∃ Z, sorted (pcs ms ks left xs.length) = Z := ⟨_, rfl⟩
    rw [hZ] at o3 hQ
    have hZp : Z.Perm (pcs ms ks left xs.length) := hZ ▸ sorted_perm _
    have hZ1 : ∀ x ∈ Z, x.1 < xs.length ∧ x.2 ≤ 1000000000 := fun x hx => hpk1 x (hZp.mem_iff.1 hx)
    have hZ2 : Z.length ≤ 400 := by rw [hZp.length_eq]; omega
    refine ⟨sl, read_cell hp3.cell rfl, rfl, by omega, by omega, by show (sl.len : Int) * ((8 : Nat) : Int) ≤ _; omega, newK_intro fun i4 h4 hn4 he4 => ?_⟩
    rw [Int.toNat_natCast, zeros_nats, hsl] at he4
    have o4 : Owns h h4 [(1, ⟨some (i4, 0), xs.length⟩, nats (List.replicate xs.length 0)), (2, lz, rows pcC Z)] := he4 ▸ o3.new hn4 (by simp [nats_length])
    have eab : IntKind.i64.wrap ((A : Int) + (B : Int)) = ((A + B : Nat) : Int) := by rw [w64] <;> omega
    rw [eab, Int.toNat_natCast, hsl]
    simp only [Int.toNat_natCast]
    refine loopK_intro (fun (a : Sl) h' fuel => ∃ z out, (∀ h'', At h'' 2 lz (rows pcC Z) → At h'' 2 a (rows pcC z)) ∧ z.length ≤ fuel ∧ (∀ x ∈ z, x ∈ Z) ∧ z.length ≤ Z.length ∧ out.length = xs.length ∧ (∀ i, at_ out i ≤ (Z.length - z.length) * 1000000000) ∧ giveAll out (freeOf A B fuel z) = giveAll (List.replicate xs.length 0) (freeOf A B Z.length Z) ∧
        Owns h h' [(1, ⟨some (i4, 0), xs.length⟩, nats out), (2, lz, rows pcC Z)]) Z.length
      ⟨Z, List.replicate xs.length 0, fun _ h => h, Nat.le_refl _, fun _ h => h, Nat.le_refl _, by simp, fun i => by unfold at_; rw [List.getD_eq_getElem?_getD, List.getElem?_replicate]; split <;> simp, rfl, o4⟩ ?_
    rintro a h5 fuel ⟨z, out, hz1, hz2, hz3, hz4, hz5, hz6, hz7, o5⟩
    have hal : a.len = z.length := (hz1 h5 (o5.at_ (List.mem_cons_of_mem _ List.mem_cons_self))).rowsLen pcC_length (by decide)
    refine ifT_dec (fun hge => ⟨⟨by omega, by omega, by omega⟩, ?_⟩) fun hlt => ?_
    · have hab : A + B ≤ z.length := by omega
      obtain ⟨fu, rfl⟩ : ∃ fu, fuel = fu + 1 := ⟨fuel - 1, by omega⟩
      simp only [freeOf, if_pos hab] at hz7
      obtain ⟨w, hw⟩ : ∃ w, (z.take (A + B)).drop A = w := ⟨_, rfl⟩
      have hwl : w.length = B := by rw [← hw, List.length_drop, List.length_take]; omega
      have hwm : ∀ x ∈ w, x ∈ Z := fun x hx => hz3 x (by rw [← hw] at hx; exact List.mem_of_mem_take (List.mem_of_mem_drop hx))
      have hsub : ∀ h'', At h'' 2 lz (rows pcC Z) → At h'' 2 (a.sub 2 A (A + B)) (rows pcC w) := fun h'' hh => by
        have := (hz1 h'' hh).sub A (A + B) (by omega) (by omega)
        rw [rows_drop pcC_length, rows_take pcC_length] at this
        rw [← hw, List.drop_take]
        exact this
      have hwl2 : (a.sub 2 A (A + B)).len = B := by show A + B - A = B; omega
      rw [hw, giveAll_append] at hz7
      refine loopK_intro (fun (y : Int) h' m => ∃ t : Nat, t ≤ B ∧ y = (t : Int) ∧ m = B - t ∧ (giveAll out (w.take t)).length = xs.length ∧ (∀ i, at_ (giveAll out (w.take t)) i ≤ (Z.length - z.length + t) * 1000000000) ∧ Owns h h' [(1, ⟨some (i4, 0), xs.length⟩, nats (giveAll out (w.take t))), (2, lz, rows pcC Z)]) B
        ⟨0, by omega, rfl, rfl, by rw [List.take_zero]; exact hz5, by rw [List.take_zero]; exact hz6, by rw [List.take_zero]; exact o5⟩ ?_
      rintro y h6 m ⟨t, ht1, rfl, rfl, hol, hob, o6⟩
      refine ifT_dec (fun hlt => ⟨⟨by omega, hlt⟩, ?_⟩) fun hge2 => ?_
      · have htl : t < w.length := by omega
        have hpt := List.getElem?_eq_getElem htl
        generalize w[t] = x at hpt
        have hxZ := hZ1 x (hwm x (List.mem_of_getElem? hpt))
        refine (hsub h6 (o6.at_ (List.mem_cons_of_mem _ List.mem_cons_self))).row pcC_length (by decide) hpt fun bb of hr => ⟨x.1, x.2, hr, ⟨by omega, by omega⟩, ((at_ (giveAll out (w.take t)) x.1 : Nat) : Int), ?_, ⟨by omega, by omega⟩, ?_⟩
        · have hc := (o6.block List.mem_cons_self).1
          have := read_cell hc (nats_get (at_get (l := giveAll out (w.take t)) (i := x.1) (by rw [hol]; exact hxZ.1)))
          rw [Nat.zero_add, Int.toNat_natCast, Nat.mul_one]; exact this
        · have et : w.take (t + 1) = w.take t ++ [x] := by rw [List.take_add_one, hpt]; rfl
          have eg : giveAll out (w.take (t + 1)) = give (giveAll out (w.take t)) x := by rw [et, giveAll_append]; rfl
          have hb1 := hob x.1
          have hb2 := give_bound hob (by rw [hol]; exact hxZ.1) (x := x)
          refine storeK_one (o6.block List.mem_cons_self).1 (by rw [nats_length, hol, Int.toNat_natCast]; omega) ⟨B - (t + 1), by omega, t + 1, by omega, by rw [w64 (by omega) (by omega)]; rfl, rfl, by rw [eg, give_length, hol], fun i => by rw [eg]; have := hb2 i; omega, ?_⟩
          have ev : IntKind.i64.wrap (((at_ (giveAll out (w.take t)) x.1 : Nat) : Int) + ((x.2 : Nat) : Int)) = ((at_ (giveAll out (w.take t)) x.1 + x.2 : Nat) : Int) := by
            rw [w64 (by omega) (by omega)]; omega
          rw [ev, Nat.zero_add, Int.toNat_natCast, Nat.mul_one, nats_set]
          have e2 : (giveAll out (w.take t)).set x.1 (at_ (giveAll out (w.take t)) x.1 + x.2) = giveAll out (w.take (t + 1)) := by rw [eg]; rfl
          rw [e2]
          exact o6.change (by rw [nats_length, eg, give_length, hol]; omega)
      · have htB : t = B := by omega
        subst htB
        rw [List.take_of_length_le (by omega)] at hol hob o6
        refine ⟨⟨by omega, by omega, by omega⟩, fu, by omega, z.drop (A + t), giveAll out w, fun h'' hh => ?_, by rw [List.length_drop]; omega, fun x hx => hz3 x (List.mem_of_mem_drop hx), by rw [List.length_drop]; omega, hol, fun i => ?_, hz7, o6⟩
        · have := (hz1 h'' hh).sub (A + t) a.len (by omega) (Nat.le_refl _)
          rw [rows_drop pcC_length, rows_take pcC_length, List.take_of_length_le (by rw [List.length_drop]; omega)] at this
          exact this
        · have := hob i
          rw [List.length_drop]
          refine Nat.le_trans this (Nat.mul_le_mul_right _ (by omega))
    · have hfin : freeOf A B fuel z = [] := by
        cases fuel with
        | zero => rfl
        | succ f => simp only [freeOf]; rw [if_neg (by omega)]
      rw [hfin] at hz7
      have hz8 : out = giveAll (List.replicate xs.length 0) (freeOf A B Z.length Z) := hz7
      rw [← hz8] at hQ
      refine spec105 hI (o5.at_ List.mem_cons_self) (by omega) (fun v hv => ?_) (by omega) fun s' h6 e6 a6 nw => ⟨s', rfl, hQ s' h6 (o5.ext.trans e6) a6 (nw.elim (fun e => e ▸ o5.new_ List.mem_cons_self) fun nw => nw.of_ext o5.ext)⟩
      obtain ⟨j, hj, rfl⟩ := List.mem_iff_getElem.1 hv
      have := hz6 j
      rw [at_some (List.getElem?_eq_getElem hj)] at this
      have : (Z.length - z.length) * 1000000000 ≤ 400 * 1000000000 := Nat.mul_le_mul_right _ (by omega)
      omega
end
end Go.Proofs.YtdjancoknephnaaGreatVc
-- from PrSpecC
namespace Go.Proofs.YtdjancoknephnaaGreatVc
open Go.Proofs.Tryz (prog)
open Go.Proofs.YtdjancoknephnaaGreatShares
theorem At.set_new {h h' : Heap} {s : Sl} {cs : List Cell} {b : Nat} {X : Obj} (a : At h' 1 s cs) (n : New h s) (hb : h b ≠ none) : At (h'.set b X) 1 s cs := by
  refine ⟨a.1, a.2.imp id fun h1 => ?_⟩
  unfold Heap.sl at h1 ⊢
  cases ha : s.a with
  | none => rw [ha] at h1; exact h1
  | some p =>
    obtain ⟨j, o⟩ := p
    rw [ha] at h1
    have hj := n j o ha
    simp only at h1 ⊢
    unfold Heap.read at h1 ⊢
    rw [set_ne _ _ (fun e => by subst e; exact hb hj)]
    exact h1
theorem lose_step {left cuts : List Nat} (hc : cuts.length = left.length) {k n c : Nat} (hn : left[k]? = some n) (hk : cuts[k]? = some c) :
    ((lose left cuts).take k ++ left.drop k)[k]? = some n ∧ ((lose left cuts).take k ++ left.drop k).set k (n - c) = (lose left cuts).take (k + 1) ++ left.drop (k + 1) := by
  have hl := lose_length hc
  obtain ⟨hk1, rfl⟩ := List.getElem?_eq_some_iff.1 hn
  have h1 : ((lose left cuts).take k).length = k := by rw [List.length_take]; omega
  have h2 : (lose left cuts)[k]? = some (left[k] - c) := by
    unfold lose
    rw [List.getElem?_zipWith, hn, hk]
  constructor
  · rw [List.getElem?_append_right (by omega), h1, Nat.sub_self, List.getElem?_drop, Nat.add_zero, hn]
  · rw [List.set_append, if_neg (by omega), h1, Nat.sub_self, List.drop_eq_getElem_cons hk1, List.set_cons_zero, List.take_add_one, h2]
    simp
section
variable {I : Calls} {Q : Post} {h h0 : Heap} {ip : Nat} {l1 sl : Sl} {xs : List Itm} {ship0 : Int} {ship : Nat} {left : List Nat} {L : List Ow}
abbrev owPr (ip : Nat) (l1 : Sl) (ship0 : Int) (sl : Sl) (ship : Nat) : Ow := (4, ⟨some (ip, 0), 1⟩, prC l1 ship0 sl ship)
theorem spec61 (hI : Closed' prog Pm I) {o : Offr} (o0 : Owns h0 h (owPr ip l1 ship0 sl ship :: (1, sl, nats left) :: L)) (its : Itms h0 l1 xs) (hlen : left.length = xs.length) (hx : OkL xs) (ho : OkO o) (hot : At h0 1 o.tg (strs o.tags)) (hotl : o.tags.length < 1000)
    (hle : ∀ n ∈ left, n ≤ 1000000000) (hship : ship ≤ 1000000000000)
    (hQ : ∀ h', Owns h0 h' (owPr ip l1 ship0 sl (applyF xs o left ship).2.1 :: (1, sl, nats (applyF xs o left ship).1) :: L) → Q [int (((applyF xs o left ship).2.2 : Nat) : Int)] h') : I 61 [.one (.ptr (some (ip, 0))), .agg (offC o)] Q h := by
  have hp : Pr h ip l1 xs ship0 sl left ship := ⟨(o0.block List.mem_cons_self).1, o0.ext.itms its, o0.at_ (by simp), hlen⟩
  have hot1 := o0.ext.at_ hot
  have hfew := hx.few
  have hil := hp.its.len
  have hcu := cutsF_under ho (ms := xs.map (matchB o)) (left := left) (by rw [List.length_map, hlen]) (ks := xs.map fun x => x.many.toNat)
  refine hI.go _ _ (den61 I (some (ip, 0)) o.key o.kind o.a o.b o.tg o.least o.most o.group o.alone o.order o.from_ o.to_ Q) ?_
  obtain ⟨J, hJ⟩ : ∃ J : Sl → T, ∀ l h', J l h' ↔ (o.kind ≠ 4 ∧ Ext h h' ∧ New h l ∧ At h' 1 l (nats (cutsF o (xs.map (matchB o)) (xs.map fun x => x.many.toNat) left))) := ⟨fun l h' => _, fun _ _ => Iff.rfl⟩
  refine joinK_intro J ?_ fun j hj => ?_
  · intro l h' hj0
    obtain ⟨hk, e, nw, hat⟩ := (hJ l h').1 hj0
    obtain ⟨cuts, hcuts⟩ : ∃ cuts, cutsF o (xs.map (matchB o)) (xs.map fun x => x.many.toNat) left = cuts := ⟨_, rfl⟩
    unfold applyF at hQ
    rw [if_neg hk] at hQ
    rw [hcuts] at hat hcu hQ
    have hcl : cuts.length = left.length := hcu.1
    have hll : l.len = cuts.length := by rw [hat.len1, nats_length]
    have o1 := o0.mono e
    have hcb : ∀ c ∈ cuts, c ≤ 1000000000 := fun c hc => by
      obtain ⟨j, hj, rfl⟩ := List.mem_iff_getElem.1 hc
      have h6 := hcu.2 j hj
      rw [at_some (List.getElem?_eq_getElem hj), at_some (List.getElem?_eq_getElem (hcl ▸ hj))] at h6
      have h7 := hle _ (List.getElem_mem (hcl ▸ hj))
      omega
    have hsum := sum_le hcb
    refine loopK_intro (fun (a : Int × Int) h' m => ∃ k : Nat, k ≤ cuts.length ∧ a = ((((cuts.take k).sum : Nat) : Int), (k : Int)) ∧ m = cuts.length - k ∧ At h' 1 l (nats cuts) ∧ Owns h0 h' (owPr ip l1 ship0 sl ship :: (1, sl, nats ((lose left cuts).take k ++ left.drop k)) :: L)) cuts.length
      ⟨0, by omega, rfl, rfl, hat, by rw [List.take_zero, List.drop_zero, List.nil_append]; exact o1⟩ ?_
    rintro a h2 m ⟨k, hk1, rfl, rfl, hat2, o2⟩
    dsimp only [uncur]
    refine ifT_dec (fun hlt => ⟨⟨by omega, hlt⟩, ?_⟩) fun hge => ?_
    · have hkl : k < cuts.length := by omega
      have hkl2 : k < left.length := by omega
      obtain ⟨c, hck, hcb1⟩ : ∃ c, cuts[k]? = some c ∧ c ≤ 1000000000 := ⟨cuts[k], List.getElem?_eq_getElem hkl, hcb _ (List.getElem_mem hkl)⟩
      obtain ⟨n, hnk, hnb⟩ : ∃ n, left[k]? = some n ∧ n ≤ 1000000000 := ⟨left[k], List.getElem?_eq_getElem hkl2, hle _ (List.getElem_mem hkl2)⟩
      have hcn : c ≤ n := by
        have := hcu.2 k hkl
        rwa [at_some hck, at_some hnk] at this
      obtain ⟨hs1, hs2⟩ := lose_step hcl hnk hck
      have hl3 : ((lose left cuts).take k ++ left.drop k).length = left.length := by rw [List.length_append, List.length_take, lose_length hcl, List.length_drop]; omega
      have hsll : sl.len = left.length := by
        have := o2.slen (s := sl) (cs := nats ((lose left cuts).take k ++ left.drop k)) (by simp)
        rw [nats_length, hl3] at this; exact this
      obtain ⟨b, hb, cb⟩ := o2.has (s := sl) (cs := nats ((lose left cuts).take k ++ left.drop k)) (sz := 1) (by simp) (nats_ne (by omega))
      have hbh : h b ≠ none := by
        obtain ⟨b', hb', cb'⟩ := o0.has (s := sl) (cs := nats left) (sz := 1) (by simp) (nats_ne (by omega))
        rw [hb] at hb'
        cases hb'
        rw [cb']; simp
      refine hat2.cell (nats_get hck) fun bb of hr => ⟨_, hr, ⟨sl, read_cell (o2.block List.mem_cons_self).1 rfl, ⟨by omega, by omega⟩, ?_⟩⟩
      refine (o2.at_ (sz := 1) (s := sl) (by simp)).cell (nats_get hs1) fun bb of hr => ⟨_, hr, ⟨by omega, by omega⟩, ?_⟩
      have ha : sl.a = some (b, 0) := by rw [hb]
      refine derefK_intro ha ?_
      have ev : IntKind.i64.wrap ((n : Int) - (c : Int)) = ((n - c : Nat) : Int) := by rw [w64 (by omega) (by omega)]; omega
      rw [ev]
      refine storeK_one cb (by rw [nats_length, hl3, Int.toNat_natCast]; omega) ⟨cuts.length - (k + 1), by omega, k + 1, by omega, ?_, rfl, ?_, ?_⟩
      · have h1 := take_sum_step hck
        have h2 := take_sum_le cuts (k + 1)
        rw [h1] at h2 ⊢
        generalize (cuts.take k).sum = y at *
        rw [w64 (by omega) (by omega), w64 (by omega) (by omega)]
        rfl
      · exact hat2.set_new nw hbh
      · rw [Nat.zero_add, Int.toNat_natCast, Nat.mul_one, nats_set, hs2]
        have o3 := o2.perm (List.Perm.swap _ _ _)
        rw [hb] at o3 ⊢
        have o4 := o3.change (n' := sl.len) (sz' := 1) (cs' := nats ((lose left cuts).take (k + 1) ++ left.drop (k + 1))) (by rw [nats_length, ← hs2, List.length_set, hl3]; omega)
        exact o4.perm (List.Perm.swap _ _ _)
    · have hkn : k = cuts.length := by omega
      subst hkn
      rw [List.take_of_length_le (by rw [lose_length hcl]; omega), List.drop_of_length_le (by omega), List.append_nil] at o2
      rw [List.take_length]
      exact hQ h2 o2
  refine ifT_dec (fun h1 => ?_) fun h1 => ?_
  · refine spec92 hI hp hx ho h1 hot1 hotl hle fun s' h' e a nw => ⟨s', rfl, hj _ _ ((hJ _ _).2 ⟨by omega, e, nw, ?_⟩)⟩
    unfold cutsF
    rw [if_pos h1]; exact a
  · refine joinK_intro J hj fun j2 hj2 => ?_
    refine ifT_dec (fun h2 => ?_) fun h2 => ?_
    · refine spec93 hI hp hx ho h2 hot1 hotl hle fun s' h' e a nw => ⟨s', rfl, hj2 _ _ ((hJ _ _).2 ⟨by omega, e, nw, ?_⟩)⟩
      unfold cutsF
      rw [if_neg h1, if_pos h2]; exact a
    refine ifT_dec (fun h3 => ?_) fun h3 => ?_
    · refine spec94 hI hp hx ho h3 hot1 hotl hle fun s' h' e a nw => ⟨s', rfl, hj2 _ _ ((hJ _ _).2 ⟨by omega, e, nw, ?_⟩)⟩
      unfold cutsF
      rw [if_neg h1, if_neg h2]; exact a
    · have hk : o.kind = 4 := by have := ho.kind; omega
      obtain ⟨ham, _, _, hm0, hm1, _, _⟩ := ho.n
      have ha : 1 ≤ o.a ∧ o.a ≤ 1000000000000 := by
        rcases ham with h1 | h1 | h1 <;> omega
      obtain ⟨g, hg⟩ := Int.eq_ofNat_of_zero_le hm0
      obtain ⟨A, hA⟩ := Int.eq_ofNat_of_zero_le (show 0 ≤ o.a by omega)
      unfold applyF at hQ
      rw [if_pos hk, hg, hA] at hQ
      simp only [Int.toNat_natCast] at hQ
      rw [hg, hA]
      refine ⟨(ship : Int), read_cell hp.cell rfl, ?_⟩
      refine joinK_intro (fun (n : Int) h' => h' = h ∧ n = ((capN g (min A ship) : Nat) : Int)) ?_ fun j3 hj3 => ifT_intro (fun h4 => hj3 _ _ ⟨rfl, ?_⟩) fun h4 => hj3 _ _ ⟨rfl, ?_⟩
      · rintro _ h' ⟨rfl, rfl⟩
        refine ⟨(ship : Int), read_cell hp.cell rfl, ?_⟩
        have hc : capN g (min A ship) ≤ ship := by unfold capN; split <;> omega
        have ev : IntKind.i64.wrap ((ship : Int) - ((capN g (min A ship) : Nat) : Int)) = ((ship - capN g (min A ship) : Nat) : Int) := by rw [w64 (by omega) (by omega)]; omega
        rw [ev]
        refine storeK_one hp.cell (by show 0 + 3 < 4; decide) (hQ _ ?_)
        exact o0.change rfl
      · have := nd h4
        unfold capN; rw [if_neg (by omega)]; omega
      · have := nd' h4
        unfold capN; rw [if_pos (by omega)]; omega
end
end Go.Proofs.YtdjancoknephnaaGreatVc
-- PrSpec6
namespace Go.Proofs.YtdjancoknephnaaGreatVc
open Go.Proofs.Tryz (prog)
open Go.Proofs.YtdjancoknephnaaGreatShares
def cutC (x : ByteArray × Nat) : List Cell := [.str x.1, .int .i64 (x.2 : Int)]
theorem cutC_length (x : ByteArray × Nat) : (cutC x).length = 2 := rfl
theorem applyAll_snoc (items : List Itm) (o : Offr) : ∀ (l : List Offr) (left : List Nat) (ship : Nat) (cuts : List (ByteArray × Nat)),
    applyAll items (l ++ [o]) left ship cuts = ((applyF items o (applyAll items l left ship cuts).1 (applyAll items l left ship cuts).2.1).1, (applyF items o (applyAll items l left ship cuts).1 (applyAll items l left ship cuts).2.1).2.1,
      (applyAll items l left ship cuts).2.2 ++ [(o.key, (applyF items o (applyAll items l left ship cuts).1 (applyAll items l left ship cuts).2.1).2.2)])
  | [], left, ship, cuts => rfl
  | x :: l, left, ship, cuts => by
    simp only [List.cons_append, applyAll]
    exact applyAll_snoc items o l _ _ _
theorem line_le {x : Itm} (h : okI x) : 0 ≤ x.cents * x.many ∧ x.cents * x.many ≤ 1000000000 :=
  ⟨Int.mul_nonneg h.1 (by omega), Int.le_trans (Int.mul_le_mul h.2.1 h.2.2.2 (by omega) (by decide)) (by decide)⟩
theorem under_le {a b : List Nat} {B : Nat} (u : Under a b) (h : ∀ n ∈ b, n ≤ B) : ∀ n ∈ a, n ≤ B := fun n hn => by
  obtain ⟨j, hj, rfl⟩ := List.mem_iff_getElem.1 hn
  have h6 := u.2 j hj
  have hj2 : j < b.length := u.1 ▸ hj
  rw [at_some (List.getElem?_eq_getElem hj), at_some (List.getElem?_eq_getElem hj2)] at h6
  have h7 := h _ (List.getElem_mem hj2)
  omega
theorem lines0_le {xs : List Itm} (h : ∀ x ∈ xs, okI x) : ∀ n ∈ lines0 xs, n ≤ 1000000000 := fun n hn => by
  obtain ⟨x, hx, rfl⟩ := List.mem_map.1 hn
  have := line_le (h x hx)
  omega
theorem OwnB.base {h h1 h2 : Heap} {p : Ow} (w : OwnB h1 h2 p) (e : Ext h h1) : OwnB h h2 p := by
  obtain ⟨a, b | ⟨i, b, c, d⟩⟩ := w
  · exact ⟨a, .inl b⟩
  · refine ⟨a, .inr ⟨i, b, ?_, d⟩⟩
    cases hh : h i with
    | none => rfl
    | some o => rw [e _ _ hh] at c; cases c
section
variable {I : Calls} {Q : Post} {h : Heap} {l1 : Sl} {xs : List Itm}
theorem spec36 (hI : Closed' prog Pm I) {s : Sl} {os : List Offr} (hs : Offs h s os) (hsl : h.sl 12 s = some (rows offC os)) (hlen : os.length ≤ 12) (hok : ∀ o ∈ os, OkO o) (htl : ∀ o ∈ os, o.tags.length < 1000) (its : Itms h l1 xs) (hx : OkL xs) {ship : Nat} (hship : ship ≤ 1000000000000)
    (hQ : ∀ s1 s2 zs h', Ext h h' → zs.Perm os → zs.Pairwise leO → At h' 1 s1 (nats (applyAll xs zs (lines0 xs) ship []).1) → OwnB h h' (1, s1, nats (applyAll xs zs (lines0 xs) ship []).1) → At h' 2 s2 (rows cutC (applyAll xs zs (lines0 xs) ship []).2.2) →
      Q [.agg [.slice 1 s1, .int .i64 ((applyAll xs zs (lines0 xs) ship []).2.1 : Nat), .slice 2 s2, .int .i64 (((applyAll xs zs (lines0 xs) ship []).1.sum + (applyAll xs zs (lines0 xs) ship []).2.1 : Nat) : Int)]] h') : I 36 [.one (.slice 12 s), .agg [.slice 4 l1, .int .i64 (ship : Int)]] Q h := by
  have hfew := hx.few
  have hil := its.len
  refine hI.go _ _ (den36 I s l1 ship Q) ?_
  refine newK_intro fun ip h1 hn1 he1 => ?_
  have o1 : Owns h h1 [owPr ip l1 ship ⟨none, 0⟩ ship] := he1 ▸ (Owns.nil h).new hn1 rfl
  refine loopK_intro (fun (a : Int) h' m => ∃ k sl, k ≤ xs.length ∧ a = ((k : Nat) : Int) ∧ m = xs.length - k ∧ Owns h h' [(1, sl, nats ((lines0 xs).take k)), owPr ip l1 ship sl ship]) xs.length
    ⟨0, ⟨none, 0⟩, by omega, rfl, rfl, o1.none_ 1⟩ ?_
  have hll : (lines0 xs).length = xs.length := by simp [lines0]
  rintro a h2 m ⟨k, sl, hk1, rfl, rfl, o2⟩
  refine ifT_dec (fun hlt => ⟨⟨by omega, hlt⟩, ?_⟩) fun hge => ?_
  · have hkl : k < xs.length := by omega
    have hxk := List.getElem?_eq_getElem hkl
    generalize xs[k] = x at hxk
    have hok2 := line_le (hx.ok x (List.mem_of_getElem? hxk))
    have hsll : sl.len = k := by
      have := o2.slen (s := sl) (cs := nats ((lines0 xs).take k)) (by simp)
      rw [nats_length, List.length_take, hll] at this; omega
    refine (o2.ext.itms its).at_.row itmC_length (by decide) hxk fun b of hr => ⟨x.key, x.cents, x.many, x.tg, hr, sl, read_cell (o2.block (List.mem_cons_of_mem _ List.mem_cons_self)).1 rfl, ?_⟩
    refine appendTo_owns (m := 0) o2 rfl (by omega) (by simp) fun j h3 o3 => ?_
    have o4 := o3.perm (List.Perm.swap _ _ _)
    refine storeK_one (o4.block List.mem_cons_self).1 (by show 2 < 4; decide) ⟨xs.length - (k + 1), by omega, k + 1, ⟨some (j, 0), sl.len + (0 + 1)⟩, by omega, by rw [w64 (by omega) (by omega)]; rfl, rfl, ?_⟩
    have e : nats ((lines0 xs).take (k + 1)) = nats ((lines0 xs).take k) ++ [.int .i64 (IntKind.i64.wrap (x.cents * x.many))] := by
      have h5 : (lines0 xs)[k]? = some (x.cents * x.many).toNat := by unfold lines0; rw [List.getElem?_map, hxk]; rfl
      rw [List.take_add_one, h5, w64 (by omega) (by omega)]
      unfold nats
      rw [List.map_append]
      simp
      omega
    rw [e]
    exact (o4.change (n' := 1) (sz' := 4) (cs' := prC l1 ship ⟨some (j, 0), sl.len + (0 + 1)⟩ ship) rfl).perm (List.Perm.swap _ _ _)
  have hkn : k = xs.length := by omega
  subst hkn
  rw [List.take_of_length_le (by omega)] at o2
  refine spec60 hI o2 hs.len (o2.ext.sl hsl) hlen fun s3 zs h3 hzp hzs o3 => ⟨s3, rfl, ?_⟩
  have hzl : zs.length = os.length := hzp.length_eq
  have hs3 : s3.len = zs.length := (o3.at_ List.mem_cons_self).rowsLen offC_length (by decide)
  have hzo : ∀ o ∈ zs, o ∈ os := fun o ho => hzp.mem_iff.1 ho
  have hall := fun k => applyAll_under (items := xs) (zs.take k) (lines0 xs) ship [] (fun o ho => hok o (hzo o (List.mem_of_mem_take ho))) hll
  have hl0 := lines0_le hx.ok
  refine loopK_intro (fun (a : (Sl × Int × Sl × Int × PUnit) × Int) h' m => ∃ k, k ≤ zs.length ∧ a.2 = ((k : Nat) : Int) ∧ m = zs.length - k ∧ Owns h h' (owPr ip l1 ship sl (applyAll xs (zs.take k) (lines0 xs) ship []).2.1 :: (1, sl, nats (applyAll xs (zs.take k) (lines0 xs) ship []).1) :: [(2, a.1.2.2.1, rows cutC (applyAll xs (zs.take k) (lines0 xs) ship []).2.2), (12, s3, rows offC zs)])) zs.length
    ⟨0, by omega, rfl, rfl, ?_⟩ ?_
  · rw [List.take_zero]
    refine (o3.none_ 2).perm ?_
    -- cuts, s3, left, pr  →  pr, left, cuts, s3
    exact (List.perm_append_comm (l₁ := [(2, ⟨none, 0⟩, []), (12, s3, rows offC zs)]) (l₂ := [(1, sl, nats (lines0 xs)), owPr ip l1 ship sl ship])).trans (List.Perm.swap _ _ _)
  rintro ⟨⟨a1, a2, lc, a4, u⟩, y⟩ h4 m ⟨k, hk1, rfl, rfl, o4⟩
  dsimp only [uncur] at o4 ⊢
  obtain ⟨hu1, hu2, hu3, hu4⟩ := hall k
  have hr1 := under_le hu1 hl0
  have hr0 : (applyAll xs (zs.take k) (lines0 xs) ship []).1.length = xs.length := hu1.1.trans hll
  refine ifT_dec (fun hlt => ⟨⟨by omega, hlt⟩, ?_⟩) fun hge => ?_
  · have hkl : k < zs.length := by omega
    have hok3 := List.getElem?_eq_getElem hkl
    generalize zs[k] = o at hok3
    have hom := hzo o (List.mem_of_getElem? hok3)
    have et : zs.take (k + 1) = zs.take k ++ [o] := by rw [List.take_add_one, hok3]; rfl
    obtain ⟨hv1, hv2, hv3, hv4⟩ := hall (k + 1)
    rw [et, applyAll_snoc] at hv1 hv2 hv3 hv4
    refine (o4.at_ (sz := 12) (s := s3) (cs := rows offC zs) (by simp)).row offC_length (by decide) hok3 fun b of hr => ⟨o.key, o.kind, o.a, o.b, o.tg, o.least, o.most, o.group, o.alone, o.order, o.from_, o.to_, hr, ?_⟩
    refine spec61 hI o4 its hr0 hx (hok o hom) (hs.tg o hom) (htl o hom) hr1 (by omega) fun h5 o5 => ⟨_, rfl, ?_⟩
    have p1 : ∀ a b c d : Ow, [a, b, c, d].Perm [c, a, b, d] := fun a b c d => (List.Perm.cons a (List.Perm.swap c b [d])).trans (List.Perm.swap c a _)
    have o6 := o5.perm (p1 _ _ _ _)
    have hlc : lc.len = k := by
      have := (o6.at_ List.mem_cons_self).rowsLen cutC_length (by decide)
      rw [this, hu4, List.length_take]; simp; omega
    refine appendTo_owns (m := 0) o6 rfl (by omega) (by simp) fun j h6 o7 => ⟨zs.length - (k + 1), by omega, k + 1, by omega, by show IntKind.i64.wrap _ = _; rw [w64 (by omega) (by omega)]; rfl, rfl, ?_⟩
    rw [et, applyAll_snoc]
    have p2 : ∀ a b c d : Ow, [a, b, c, d].Perm [b, c, a, d] := fun a b c d => (List.Perm.swap b a _).trans (List.Perm.cons b (List.Perm.swap c a [d]))
    rw [rows_append]
    exact o7.perm (p2 _ _ _ _)
  · have hkn : k = zs.length := by omega
    subst hkn
    rw [List.take_length] at o4 hu1 hu2 hu3 hu4 hr1 hr0
    obtain ⟨r, hr⟩ : ∃ r, applyAll xs zs (lines0 xs) ship [] = r := ⟨_, rfl⟩
    rw [hr] at o4 hu1 hu2 hu3 hu4 hr1 hr0
    obtain ⟨left, sh, cuts⟩ := r
    simp only at o4 hu1 hu2 hu3 hu4 hr1 hr0
    have hc := (o4.block List.mem_cons_self).1
    have hsum := sum_le hr1
    rw [hr0] at hsum
    refine ⟨sl, read_cell hc rfl, (sh : Int), read_cell hc rfl, (sh : Int), read_cell hc rfl, sl, read_cell hc rfl, ?_⟩
    have hat := o4.at_ (sz := 1) (s := sl) (cs := nats left) (by simp)
    have hsll : sl.len = left.length := by rw [hat.len1, nats_length]
    refine loopK_intro (fun (a : (Sl × Int × Sl × Int × PUnit) × Int) h' m => h' = h4 ∧ ∃ k u, k ≤ left.length ∧ a = ((sl, (sh : Int), lc, (((left.take k).sum + sh : Nat) : Int), u), ((k : Nat) : Int)) ∧ m = left.length - k) left.length
      ⟨rfl, 0, (), by omega, by simp, rfl⟩ ?_
    rintro _ h5 m ⟨rfl, k, u, hk2, rfl, rfl⟩
    dsimp only [uncur]
    have hts := take_sum_le left k
    refine ifT_dec (fun hlt => ⟨⟨by omega, hlt⟩, ?_⟩) fun hge2 => ?_
    · have hkl : k < left.length := by omega
      have hnk := List.getElem?_eq_getElem hkl
      have hnb := hr1 _ (List.getElem_mem hkl)
      generalize left[k] = n at hnk hnb
      refine hat.cell (nats_get hnk) fun bb of hrd => ⟨_, hrd, left.length - (k + 1), by omega, rfl, k + 1, (), by omega, ?_, rfl⟩
      have h1 := take_sum_step hnk
      rw [h1]
      rw [w64 (by omega) (by omega), w64 (by omega) (by omega)]
      congr 5
      omega
    · have : k = left.length := by omega
      subst this
      rw [List.take_length]
      have := hQ sl lc zs h5 o4.ext hzp hzs (by rw [hr]; exact hat) (by rw [hr]; exact o4.all _ (by simp)) (by rw [hr]; exact o4.at_ (by simp))
      rw [hr] at this
      exact this
end
end Go.Proofs.YtdjancoknephnaaGreatVc
-- PrSpec7
namespace Go.Proofs.YtdjancoknephnaaGreatVc
open Go.Proofs.Tryz (prog)
open Go.Proofs.YtdjancoknephnaaGreatShares
theorem scanO_tags : ∀ (l pre : List Offr), scanO pre l = 0 → ∀ x ∈ l, x.tags.length ≤ 10
  | [], _, _, x, hx => by cases hx
  | y :: l, pre, h, x, hx => by
    simp only [scanO] at h
    split at h
    · cases h
    split at h
    · cases h
    split at h
    · cases h
    split at h
    · cases h
    split at h
    · cases h
    split at h
    · cases h
    split at h
    · rename_i h6; exact absurd h h6
    rename_i h6
    split at h
    · cases h
    rcases List.mem_cons.1 hx with rfl | hx
    · have h6 : errTg x.tags = 0 := Decidable.of_not_not h6
      unfold errTg at h6
      split at h6
      · cases h6
      · omega
    · exact scanO_tags l _ h x hx
theorem errO_tags {xs : List Offr} (h : errO xs = 0) : ∀ x ∈ xs, x.tags.length < 1000 := by
  unfold errO at h
  split at h
  · cases h
  · exact fun x hx => Nat.lt_of_le_of_lt (scanO_tags xs [] h x hx) (by decide)
/-- What is answered of a price that is asked for. -/
def errP (os : List Offr) (xs : List Itm) (ship t : Int) : Int := if errA os xs ship t ≠ 0 then errA os xs ship t else if togP os.length [] os = false then 16 else if (os.any fun o => decide (fitsF o xs ship t ≠ 0)) = true then 11 else 0
theorem errP_A {os : List Offr} {xs : List Itm} {ship t : Int} (h : errP os xs ship t = 0) : errA os xs ship t = 0 := by
  unfold errP at h
  split at h
  · assumption
  · rename_i h1; exact Decidable.of_not_not h1
section
variable {I : Calls} {Q : Post} {h : Heap}
theorem spec33c (hI : Closed' prog Pm I) {s : Sl} {ys : List Offr} {g : FuncId} {caps : List (Nat × Nat)} {p : Offr → Bool} (hs : At h 12 s (rows offC ys)) (hlen : ys.length < 1000)
    (hg : ∀ y ∈ ys, ∀ h1 Q', Ext h h1 → (∀ h2, Ext h1 h2 → Q' [boo (p y)] h2) → I g (.agg (offC y) :: caps.map fun a => .one (.ptr (some a))) Q' h1) (hQ : ∀ h', Ext h h' → Q [boo (ys.any p)] h') : I 33 [.one (.slice 12 s), .one (.func (some (g, caps)))] Q h := by
  refine hI.go _ _ (den33 I s _ _) ?_
  have hl : s.len = ys.length := hs.rowsLen offC_length (by decide)
  refine hI.go _ _ (den58 I s _ _) ?_
  refine loopK_intro (fun (a : Int) h' m => Ext h h' ∧ ∃ j : Nat, j ≤ ys.length ∧ a = j ∧ ys.length - j = m ∧ ∀ z ∈ ys.take j, p z = false) ys.length ⟨Ext.refl h, 0, by omega, rfl, rfl, by simp⟩ ?_
  rintro a h' m ⟨e, j, hj, rfl, rfl, hno⟩
  refine ifT_dec (fun hlt => ⟨⟨by omega, hlt⟩, ?_⟩) (fun hge => ?_)
  · have hx := List.getElem?_eq_getElem (show j < ys.length by omega)
    generalize ys[j] = y at hx
    refine (e.at_ hs).row offC_length (by decide) hx fun bb o hr => ⟨y.key, y.kind, y.a, y.b, y.tg, y.least, y.most, y.group, y.alone, y.order, y.from_, y.to_, hr, ?_⟩
    refine hg y (List.mem_of_getElem? hx) _ _ e fun h2 e2 => ⟨_, rfl, ifT_intro (fun h1 => ⟨_, rfl, ?_⟩) fun h1 => ?_⟩
    · have e3 : ys.any p = true := List.any_eq_true.2 ⟨y, List.mem_of_getElem? hx, h1⟩
      have e4 : decide ((j : Int) ≥ 0) = true := by simp
      have := hQ h2 (e.trans e2)
      rw [e3] at this; rw [e4]; exact this
    · refine ⟨ys.length - (j + 1), by omega, e.trans e2, j + 1, by omega, by rw [w64] <;> omega, rfl, fun z hz => ?_⟩
      rw [List.take_add_one, hx] at hz
      rcases List.mem_append.1 hz with hz | hz
      · exact hno z hz
      · have : z = y := by simpa using hz
        rw [this]; exact h1
  · have : j = ys.length := by omega
    subst this
    rw [List.take_length] at hno
    have e3 : ys.any p = false := by
      cases h2 : ys.any p with
      | false => rfl
      | true => obtain ⟨y, hy, h3⟩ := List.any_eq_true.1 h2; rw [hno y hy] at h3; cases h3
    have := hQ h' e
    rw [e3] at this
    exact ⟨_, rfl, this⟩
theorem spec34 (hI : Closed' prog Pm I) {o : Offr} {s : Sl} {xs : List Itm} {ship t : Int} {i5 i7 : Nat} (h5 : h i5 = some (.cells false [.slice 4 s, .int .i64 ship])) (h7 : h i7 = some (.cells false [.int .i64 t])) (ho : OkO o) (ht : At h 1 o.tg (strs o.tags)) (hotl : o.tags.length < 1000) (hs : Itms h s xs) (hx : OkL xs)
    (hQ : ∀ h', Ext h h' → Q [boo (decide (fitsF o xs ship t ≠ 0))] h') : I 34 [.agg (offC o), .one (.ptr (some (i5, 0))), .one (.ptr (some (i7, 0)))] Q h := by
  refine hI.go _ _ (den34 I o.key o.kind o.a o.b o.tg o.least o.most o.group o.alone o.order o.from_ o.to_ i5 0 i7 0 Q) ?_
  refine ⟨s, ship, ?_, t, read_cell h7 rfl, spec35 hI ho ht hotl hs hx.ok (by have := hx.few; omega) hx.tg fun h' e => ⟨_, rfl, ?_⟩⟩
  · rw [read_block h5 (by show 0 + 2 ≤ 2; decide)]; rfl
  · have := hQ h' e
    rw [show decide (fitsF o xs ship t ≠ 0) = !decide (fitsF o xs ship t = 0) by simp] at this
    exact this
theorem spec9 (hI : Closed' prog Pm I) {s l1 : Sl} {os : List Offr} {xs : List Itm} {ship t : Int} (hs : Offs h s os) (hsl : h.sl 12 s = some (rows offC os)) (hlen : os.length ≤ 12) (its : Itms h l1 xs) (hfew : xs.length ≤ 4)
    (hbad : ∀ h', Ext h h' → errP os xs ship t ≠ 0 → Q [.agg [.slice 1 ⟨none, 0⟩, .int .i64 0, .slice 2 ⟨none, 0⟩, .int .i64 0], int (errP os xs ship t)] h')
    (hQ : ∀ s1 s2 zs h', errP os xs ship t = 0 → Ext h h' → zs.Perm os → zs.Pairwise leO → At h' 1 s1 (nats (applyAll xs zs (lines0 xs) ship.toNat []).1) → OwnB h h' (1, s1, nats (applyAll xs zs (lines0 xs) ship.toNat []).1) → At h' 2 s2 (rows cutC (applyAll xs zs (lines0 xs) ship.toNat []).2.2) →
      Q [.agg [.slice 1 s1, .int .i64 ((applyAll xs zs (lines0 xs) ship.toNat []).2.1 : Nat), .slice 2 s2, .int .i64 (((applyAll xs zs (lines0 xs) ship.toNat []).1.sum + (applyAll xs zs (lines0 xs) ship.toNat []).2.1 : Nat) : Int)], int 0] h') : I 9 [.one (.slice 12 s), .agg [.slice 4 l1, .int .i64 ship], int t] Q h := by
  refine hI.go _ _ (den9 I s l1 ship t Q) ?_
  refine newK_intro fun i5 h1 hn1 he1 => newK_intro fun i7 h2 hn2 he2 => ?_
  have e1 : Ext h h1 := he1 ▸ Ext.new hn1
  have e12 : Ext h1 h2 := he2 ▸ Ext.new hn2
  have e2 := e1.trans e12
  have c5 : h2 i5 = some (.cells false [.slice 4 l1, .int .i64 ship]) := e12 _ _ (by rw [he1, set_eq])
  have c7 : h2 i7 = some (.cells false [.int .i64 t]) := by rw [he2, set_eq]
  refine ⟨l1, ship, by rw [read_block c5 (by show 0 + 2 ≤ 2; decide)]; rfl, t, read_cell c7 rfl, ?_⟩
  refine spec31 hI (e2.offs hs) (e2.itms its) fun h3 e23 => ⟨_, rfl, ifT_intro (fun hA => ?_) fun hA => ?_⟩
  · have hA := nd hA
    have e : errP os xs ship t = errA os xs ship t := by unfold errP; rw [if_pos hA]
    have := hbad h3 (e2.trans e23) (by rw [e]; exact hA)
    rw [e] at this; exact this
  have hA : errA os xs ship t = 0 := Decidable.of_not_not (nd' hA)
  have e3 := e2.trans e23
  have hA' := hA
  obtain ⟨hA1, hA2, hA3⟩ := errA_ok hA'
  refine spec32 hI (e3.offs hs) (by omega) fun h4 e4 => ⟨_, rfl, ifT_intro (fun hT => ?_) fun hT => ?_⟩
  · have hT := nb hT
    have e : errP os xs ship t = 16 := by unfold errP; rw [if_neg (by rw [hA]; simp), if_pos hT]
    have := hbad h4 (e3.trans e4) (by rw [e]; decide)
    rw [e] at this; exact this
  have hT := nb' hT
  have e34 := e3.trans e4
  have e24 : Ext h2 h4 := e23.trans e4
  obtain ⟨hO1, hO2⟩ := errO_ok hA1
  obtain ⟨hK1, hK2, hK3, hK4⟩ := errK_ok hA2
  have hL : OkL xs := ⟨hK2, hfew, errK_tags hA2⟩
  have htags : ∀ o ∈ os, o.tags.length < 1000 := errO_tags hA1
  refine spec33c hI (caps := [(i5, 0), (i7, 0)]) (p := fun o => decide (fitsF o xs ship t ≠ 0)) (e34.offs hs).at_ (by omega) (fun y hy h5 Q' e5 hq => ?_) fun h5 e5 => ⟨_, rfl, ifT_intro (fun hF => ?_) fun hF => ?_⟩
  · exact spec34 hI (e5 _ _ (e24 _ _ c5)) (e5 _ _ (e24 _ _ c7)) (hO2 y hy) ((e34.trans e5).at_ (hs.tg y hy)) (htags y hy) ((e34.trans e5).itms its) hL hq
  · have e : errP os xs ship t = 11 := by unfold errP; rw [if_neg (by rw [hA]; simp), if_neg (by rw [hT]; simp), if_pos hF]
    have := hbad h5 (e34.trans e5) (by rw [e]; decide)
    rw [e] at this; exact this
  · have e : errP os xs ship t = 0 := by unfold errP; rw [if_neg (by rw [hA]; simp), if_neg (by rw [hT]; simp), if_neg (by rw [hF]; simp)]
    have e45 := e34.trans e5
    refine ⟨l1, ship, by rw [read_block (e5 _ _ (e24 _ _ c5)) (by show 0 + 2 ≤ 2; decide)]; rfl, ?_⟩
    obtain ⟨sh, hsh⟩ := Int.eq_ofNat_of_zero_le hK3
    rw [hsh] at hQ ⊢
    refine spec36 hI (e45.offs hs) (e45.sl hsl) hlen hO2 htags (e45.itms its) hL (by omega) fun s1 s2 zs h6 e6 hp hz a1 aw a2 => ⟨_, _, _, _, rfl, hQ s1 s2 zs h6 (hsh ▸ e) (e45.trans e6) hp hz a1 (aw.base e45) a2⟩
end
end Go.Proofs.YtdjancoknephnaaGreatVc
