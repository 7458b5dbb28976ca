/- The best choice of offers: offers in their order, chosen offers, choices by the bits of a number. Plain Lean. Contracts, turned by a program to the numbers of this seat. -/
import Derived.Test.YtdjancoknephnaaGreatVcSsPr3
set_option linter.unusedSimpArgs false
set_option linter.unusedVariables false
-- SsBbM
namespace Go.Proofs.YtdjancoknephnaaGreatVc
open Go.Proofs.YtdjancoknephnaaGreatShares

/-! ### the order is one -/
def leOB (a b : Offr) : Bool := !ltO b a
theorem leOB_iff {a b : Offr} : leOB a b = true ↔ leO a b := by unfold leOB leO; simp
def sortO (l : List Offr) : List Offr := l.mergeSort leOB
theorem leO_total (a b : Offr) : (leOB a b || leOB b a) = true := by
  rw [Bool.or_eq_true, leOB_iff, leOB_iff]
  cases h : ltO b a with
  | false => exact .inl h
  | true => exact .inr (ltO_asymm h)
theorem keys_eq {a b : ByteArray} (h : a.toList = b.toList) : a = b := by
  rw [ByteArray.toList_eq, ByteArray.toList_eq] at h
  exact bl_inj h
theorem leO_antisymm {a b : Offr} (h1 : leO a b) (h2 : leO b a) : a.key = b.key := by
  rw [leO_iff] at h1 h2
  rcases h1 with h1 | ⟨h1, h1'⟩ <;> rcases h2 with h2 | ⟨h2, h2'⟩
  · omega
  · omega
  · omega
  · exact keys_eq (List.le_antisymm (List.not_lt.1 h1') (List.not_lt.1 h2'))
abbrev Distinct (l : List Offr) : Prop := l.Pairwise fun a b => a.key ≠ b.key
theorem sortO_eq {os zs : List Offr} (hd : Distinct os) (hp : zs.Perm os) (hs : zs.Pairwise leO) : zs = sortO os := by
  have hd2 : Distinct zs := (hp.pairwise_iff (fun h => fun e => h e.symm)).2 hd
  refine List.Perm.eq_of_pairwise (le := leO) (fun a b ha hb h1 h2 => ?_) hs ?_ (hp.trans (List.mergeSort_perm os leOB).symm)
  · have hk := leO_antisymm h1 h2
    have hb' : b ∈ zs := hp.mem_iff.2 ((List.mergeSort_perm os leOB).mem_iff.1 hb)
    obtain ⟨i, hi, rfl⟩ := List.mem_iff_getElem.1 ha
    obtain ⟨j, hj, rfl⟩ := List.mem_iff_getElem.1 hb'
    rcases Nat.lt_trichotomy i j with h | h | h
    · exact absurd hk (List.pairwise_iff_getElem.1 hd2 i j hi hj h)
    · subst h; rfl
    · exact absurd hk.symm (List.pairwise_iff_getElem.1 hd2 j i hj hi h)
  · have := List.pairwise_mergeSort (le := leOB) (fun a b c h1 h2 => leOB_iff.2 (leO_trans a b c (leOB_iff.1 h1) (leOB_iff.1 h2))) leO_total os
    exact this.imp fun h => leOB_iff.1 h

/-! ### some of the offers -/
theorem scanO_sub : ∀ {l' l : List Offr}, l'.Sublist l → ∀ {pre' pre : List Offr}, (∀ y ∈ pre', y ∈ pre) → scanO pre l = 0 → scanO pre' l' = 0 := by
  intro l' l hsub
  induction hsub with
  | slnil => intros; rfl
  | @cons l1 l2 x _ ih =>
    intro pre' pre hpre h
    refine ih (pre := pre ++ [x]) (fun y hy => List.mem_append_left _ (hpre y hy)) ?_
    simp only [scanO] at h
    split at h
    · cases h
    split at h
    · cases h
    split at h
    · cases h
    split at h
    · cases h
    split at h
    · cases h
    split at h
    · cases h
    split at h
    · rename_i h6; exact absurd h h6
    split at h
    · cases h
    exact h
  | @cons_cons l1 l2 x _ ih =>
    intro pre' pre hpre h
    simp only [scanO] at h ⊢
    split at h
    · cases h
    rename_i h1
    rw [if_neg h1]
    split at h
    · cases h
    rename_i h2
    rw [if_neg (fun h => h2 (by
      obtain ⟨y, hy, h3⟩ := List.any_eq_true.1 h
      exact List.any_eq_true.2 ⟨y, hpre y hy, h3⟩))]
    split at h
    · cases h
    rename_i h3
    rw [if_neg h3]
    split at h
    · cases h
    rename_i h4
    rw [if_neg h4]
    split at h
    · cases h
    rename_i h5
    rw [if_neg h5]
    split at h
    · cases h
    rename_i h6
    rw [if_neg h6]
    split at h
    · rename_i h6; exact absurd h h6
    rename_i h7
    rw [if_neg h7]
    split at h
    · cases h
    rename_i h8
    rw [if_neg h8]
    refine ih (fun y hy => ?_) h
    rcases List.mem_append.1 hy with hy | hy
    · exact List.mem_append_left _ (hpre y hy)
    · exact List.mem_append_right _ hy
theorem errO_sub {l' l : List Offr} (hs : l'.Sublist l) (h : errO l = 0) : errO l' = 0 := by
  have hl := hs.length_le
  unfold errO at h ⊢
  split at h
  · cases h
  rw [if_neg (by omega)]
  exact scanO_sub hs (by simp) h
theorem errA_sub {l' l : List Offr} {xs : List Itm} {ship t : Int} (hs : l'.Sublist l) (h : errA l xs ship t = 0) : errA l' xs ship t = 0 := by
  obtain ⟨h1, h2, h3⟩ := errA_ok h
  unfold errA
  rw [if_neg (by rw [errO_sub hs h1]; simp), if_neg (by rw [h2]; simp), if_neg (by simpa using h3)]
theorem errO_distinct {l : List Offr} (h : errO l = 0) : Distinct l := by
  unfold errO at h
  split at h
  · cases h
  · simpa using scanO_keys l [] h .nil
def pickO (os : List Offr) (l : List Nat) : List Offr := l.filterMap fun i => os[i]?
theorem pickO_snoc {os : List Offr} {l : List Nat} {i : Nat} {x : Offr} (h : os[i]? = some x) : pickO os (l ++ [i]) = pickO os l ++ [x] := by
  unfold pickO; rw [List.filterMap_append]; simp [h]
theorem pickO_take (os : List Offr) : ∀ n, n ≤ os.length → pickO os (List.range n) = os.take n
  | 0, _ => by simp [pickO]
  | n + 1, h => by
    rw [List.range_succ, pickO_snoc (List.getElem?_eq_getElem (show n < os.length by omega)), pickO_take os n (by omega), List.take_add_one, List.getElem?_eq_getElem (show n < os.length by omega)]
    rfl
theorem pickO_range (os : List Offr) : pickO os (List.range os.length) = os := by rw [pickO_take os _ (Nat.le_refl _), List.take_length]
theorem pickO_sub {os : List Offr} {l : List Nat} (h : l.Sublist (List.range os.length)) : (pickO os l).Sublist os := by
  have := h.filterMap (fun i => os[i]?)
  have e := pickO_range os
  unfold pickO at e
  rw [e] at this
  exact this
theorem pickO_length {os : List Offr} : ∀ {l : List Nat}, (∀ i ∈ l, i < os.length) → (pickO os l).length = l.length
  | [], _ => rfl
  | i :: l, h => by
    have hi := h i (by simp)
    have ih := pickO_length (os := os) (l := l) fun j hj => h j (by simp [hj])
    unfold pickO at ih ⊢
    rw [List.filterMap_cons, List.getElem?_eq_getElem hi]
    simp [ih]
/-! ### choices by bits -/
def sel : Nat → List Nat → List Nat
  | _, [] => []
  | m, u :: U => if m % 2 = 1 then u :: sel (m / 2) U else sel (m / 2) U
theorem sel_sub : ∀ (m : Nat) (U : List Nat), (sel m U).Sublist U
  | _, [] => List.Sublist.refl _
  | m, u :: U => by
    unfold sel
    split
    · exact (sel_sub _ U).cons_cons u
    · exact (sel_sub _ U).cons u
theorem sel_step : ∀ (m k : Nat) (U : List Nat) {u : Nat}, U[k]? = some u → sel m (U.take (k + 1)) = sel m (U.take k) ++ (if m / 2 ^ k % 2 = 1 then [u] else [])
  | m, k, [], u, h => by simp at h
  | m, 0, v :: U, u, h => by
    simp only [List.getElem?_cons_zero, Option.some.injEq] at h
    subst h
    simp only [List.take_succ_cons, List.take_zero, sel, Nat.pow_zero, Nat.div_one, List.nil_append]
  | m, k + 1, v :: U, u, h => by
    have ih := sel_step (m / 2) k U (by simpa using h)
    rw [List.take_succ_cons, List.take_succ_cons]
    simp only [sel]
    rw [ih]
    have e : m / 2 / 2 ^ k = m / 2 ^ (k + 1) := by rw [Nat.div_div_eq_div_mul, Nat.pow_succ, Nat.mul_comm]
    rw [e]
    by_cases h2 : m % 2 = 1
    · rw [if_pos h2, if_pos h2]; rfl
    · rw [if_neg h2, if_neg h2]
theorem sel_all : ∀ {O U : List Nat}, O.Sublist U → ∃ m, m < 2 ^ U.length ∧ sel m U = O := by
  intro O U h
  induction h with
  | slnil => exact ⟨0, by simp, rfl⟩
  | @cons l1 l2 a _ ih =>
    obtain ⟨m, h1, h2⟩ := ih
    refine ⟨2 * m, by rw [List.length_cons, Nat.pow_succ]; omega, ?_⟩
    unfold sel
    rw [if_neg (by omega), show 2 * m / 2 = m by omega]; exact h2
  | @cons_cons l1 l2 a _ ih =>
    obtain ⟨m, h1, h2⟩ := ih
    refine ⟨2 * m + 1, by rw [List.length_cons, Nat.pow_succ]; omega, ?_⟩
    unfold sel
    rw [if_pos (by omega), show (2 * m + 1) / 2 = m by omega, h2]
theorem sel_zero : ∀ U : List Nat, sel 0 U = []
  | [] => rfl
  | u :: U => by unfold sel; rw [if_neg (by decide)]; exact sel_zero U

/-! ### prices -/
def priceF (xs : List Itm) (os : List Offr) (ship : Nat) : List Nat × Nat × List (ByteArray × Nat) := applyAll xs (sortO os) (lines0 xs) ship []
def totF (xs : List Itm) (os : List Offr) (ship : Nat) : Nat := (priceF xs os ship).1.sum + (priceF xs os ship).2.1
/-- A price and a length are not above others. -/
def leT (a b : Nat × Nat) : Prop := a.1 < b.1 ∨ (a.1 = b.1 ∧ a.2 ≤ b.2)
theorem leT.refl (a : Nat × Nat) : leT a a := .inr ⟨rfl, Nat.le_refl _⟩
theorem leT.trans {a b c : Nat × Nat} (h1 : leT a b) (h2 : leT b c) : leT a c := by
  unfold leT at *; omega
end Go.Proofs.YtdjancoknephnaaGreatVc
-- SsBb
-- from BbSpec
namespace Go.Proofs.YtdjancoknephnaaGreatVc
open Go.Proofs.Tryz (prog)
open Go.Proofs.YtdjancoknephnaaGreatShares
def fnz : List Int → Int
  | [] => 0
  | a :: l => if a ≠ 0 then a else fnz l
section
variable {I : Calls} {Q : Post} {h : Heap}
theorem spec37 (hI : Closed' prog Pm I) {s t : Sl} {a : List Nat} (hs : At h 1 s (nats a)) (ht : At h 1 t (nats a)) (hlen : a.length < 1000) (hQ : Q [boo true] h) : I 37 [.one (.slice 1 s), .one (.slice 1 t)] Q h := by
  have hl : s.len = a.length := by rw [hs.len1, nats_length]
  have hl2 : t.len = a.length := by rw [ht.len1, nats_length]
  refine hI.go _ _ (den37 I s t Q) ?_
  refine ifT_intro (fun h1 => absurd (by rw [hl, hl2]) (nd h1)) fun _ => ?_
  refine loopK_intro (fun (n : Int) h' m => h' = h ∧ ∃ i : Nat, i ≤ a.length ∧ n = (i : Int) ∧ m = a.length - i) a.length ⟨rfl, 0, by omega, rfl, rfl⟩ ?_
  rintro n h' m ⟨rfl, i, hi, rfl, rfl⟩
  refine ifT_dec (fun hlt => ⟨⟨by omega, hlt⟩, ?_⟩) fun hge => hQ
  have hx := List.getElem?_eq_getElem (show i < a.length by omega)
  refine hs.cell (nats_get hx) fun bb o hr => ⟨_, hr, ⟨by omega, by omega⟩, ?_⟩
  refine ht.cell (nats_get hx) fun bb o hr => ⟨_, hr, ifT_intro (fun h1 => absurd rfl (nd h1)) fun h4 => ?_⟩
  exact ⟨a.length - (i + 1), by omega, rfl, i + 1, by omega, by rw [w64 (by omega) (by omega)]; rfl, rfl⟩
theorem spec38 (hI : Closed' prog Pm I) {s t : Sl} {a : List (ByteArray × Nat)} (hs : At h 2 s (rows cutC a)) (ht : At h 2 t (rows cutC a)) (hlen : a.length < 1000) (hQ : Q [boo true] h) : I 38 [.one (.slice 2 s), .one (.slice 2 t)] Q h := by
  have hl : s.len = a.length := hs.rowsLen cutC_length (by decide)
  have hl2 : t.len = a.length := ht.rowsLen cutC_length (by decide)
  refine hI.go _ _ (den38 I s t Q) ?_
  refine ifT_intro (fun h1 => absurd (by rw [hl, hl2]) (nd h1)) fun _ => ?_
  refine loopK_intro (fun (n : Int) h' m => h' = h ∧ ∃ i : Nat, i ≤ a.length ∧ n = (i : Int) ∧ m = a.length - i) a.length ⟨rfl, 0, by omega, rfl, rfl⟩ ?_
  rintro n h' m ⟨rfl, i, hi, rfl, rfl⟩
  refine ifT_dec (fun hlt => ⟨⟨by omega, hlt⟩, ?_⟩) fun hge => hQ
  have hx := List.getElem?_eq_getElem (show i < a.length by omega)
  refine hs.row cutC_length (by decide) hx fun bb o hr => ⟨_, _, hr, ⟨by omega, by omega⟩, ?_⟩
  refine ht.row cutC_length (by decide) hx fun bb o hr => ⟨_, _, hr, ?_⟩
  refine ifT_intro (fun h1 => absurd h1 (by simp)) fun h4 => ?_
  exact ⟨a.length - (i + 1), by omega, rfl, i + 1, by omega, by rw [w64 (by omega) (by omega)]; rfl, rfl⟩
theorem spec10 (hI : Closed' prog Pm I) {s1 s2 t1 t2 : Sl} {a : List Nat} {c : List (ByteArray × Nat)} {n m : Int} (h1 : At h 1 s1 (nats a)) (h2 : At h 1 t1 (nats a)) (h3 : At h 2 s2 (rows cutC c)) (h4 : At h 2 t2 (rows cutC c)) (hl1 : a.length < 1000) (hl2 : c.length < 1000)
    (hQ : Q [boo true] h) : I 10 [.agg [.slice 1 s1, .int .i64 n, .slice 2 s2, .int .i64 m], .agg [.slice 1 t1, .int .i64 n, .slice 2 t2, .int .i64 m]] Q h := by
  refine hI.go _ _ (den10 I s1 n s2 m t1 n t2 m Q) ?_
  refine spec37 hI h1 h2 hl1 ⟨_, rfl, ifT_intro (fun _ => ifT_dec (fun _ => ?_) fun h => absurd rfl h) fun h => by cases h⟩
  refine spec38 hI h3 h4 hl2 ⟨_, rfl, ifT_intro (fun _ => ?_) fun h => by cases h⟩
  simpa using hQ
end
end Go.Proofs.YtdjancoknephnaaGreatVc
-- BbSpec2
namespace Go.Proofs.YtdjancoknephnaaGreatVc
open Go.Proofs.Tryz (prog)
open Go.Proofs.YtdjancoknephnaaGreatShares
theorem At.blk {h : Heap} {k b o : Nat} {s : Sl} {xs : List Cell} (hs : At h k s xs) (hne : 0 < xs.length) (ha : s.a = some (b, o)) : h b ≠ none := by
  obtain ⟨b', o', ha', hr⟩ := hs.lies hne
  rw [ha] at ha'
  cases ha'
  intro hb
  unfold Heap.read at hr
  rw [hb] at hr
  cases hr
theorem At.rowB {α : Type} {f : α → List Cell} {k : Nat} {h : Heap} (hf : ∀ a, (f a).length = k) (hk : 0 < k) {s : Sl} {xs : List α} {i : Nat} {a : α} {g : Nat → Nat → T} (hs : At h k s (rows f xs)) (hx : xs[i]? = some a)
    (hg : ∀ bb o, s.a = some (bb, o) → h.read bb (o + (i : Int).toNat * k) k = some (f a) → g bb o h) : derefK s.a g h := by
  have hlt : i < xs.length := (List.getElem?_eq_some_iff.1 hx).1
  have hpos : 0 < xs.length * k := Nat.mul_pos (by omega) hk
  obtain ⟨bb, o, ha, hr⟩ := hs.lies (by rw [rows_length hf]; exact hpos)
  refine derefK_intro ha (hg bb o ha ?_)
  have hle : i * k + k ≤ xs.length * k := by
    have := Nat.mul_le_mul_right k (show i + 1 ≤ xs.length by omega)
    rw [Nat.add_mul] at this; omega
  rw [Int.toNat_natCast, read_part hr (by rw [rows_length hf]; exact hle), rows_get hf hx]
theorem shl_ok : ∀ n : Nat, n < 11 → shl .i64 1 (n : Int) = ((2 ^ n : Nat) : Int) := by decide +kernel
theorem pow_ok : ∀ n : Nat, n < 11 → 2 ^ n ≤ 1024 := by decide
theorem bit_and (a : Nat) (ha : a < 18446744073709551616) : IntKind.i64.wrap (((BitVec.ofInt 64 (a : Int) &&& BitVec.ofInt 64 1).toNat : Nat) : Int) = ((a % 2 : Nat) : Int) := by
  have h1 : (BitVec.ofInt 64 (a : Int)).toNat = a := bv_nat a ha
  have h2 : (BitVec.ofInt 64 (1 : Int)).toNat = 1 := by decide
  rw [BitVec.toNat_and, h1, h2, Nat.and_one_is_mod]
  exact w64 (by omega) (by omega)
theorem less_T {a b : Nat × Nat} {c1 c2 c3 : Int} (h1 : c1 < 0 ↔ (a.1 : Int) < (b.1 : Int)) (h2 : c1 = 0 ↔ (a.1 : Int) = (b.1 : Int)) (h3 : c2 < 0 ↔ (a.2 : Int) < (b.2 : Int)) (h4 : c2 = 0 ↔ (a.2 : Int) = (b.2 : Int)) :
    (fnz [c1, c2, c3] < 0 → leT a b) ∧ (¬ fnz [c1, c2, c3] < 0 → leT b a) := by
  unfold leT
  simp only [fnz]
  by_cases e1 : c1 = 0 <;> by_cases e2 : c2 = 0 <;> by_cases e3 : c3 = 0 <;> simp only [e1, e2, e3, ne_eq, not_true_eq_false, not_false_eq_true, if_true, if_false] <;> constructor <;> intro h <;> omega
section
variable {I : Calls} {Q : Post} {h : Heap} {l1 : Sl} {xs : List Itm}
/-- The price, and the lines are one's own. -/
theorem spec9q (hI : Closed' prog Pm I) {s l1 : Sl} {os : List Offr} {xs : List Itm} {ship t : Int} (hs : Offs h s os) (hsl : h.sl 12 s = some (rows offC os)) (hlen : os.length ≤ 12) (its : Itms h l1 xs) (hfew : xs.length ≤ 4)
    (hbad : ∀ h', Ext h h' → errP os xs ship t ≠ 0 → Q [.agg [.slice 1 ⟨none, 0⟩, .int .i64 0, .slice 2 ⟨none, 0⟩, .int .i64 0], int (errP os xs ship t)] h')
    (hQ : ∀ s1 s2 h', errP os xs ship t = 0 → Ext h h' → At h' 1 s1 (nats (priceF xs os ship.toNat).1) → OwnB h h' (1, s1, nats (priceF xs os ship.toNat).1) → At h' 2 s2 (rows cutC (priceF xs os ship.toNat).2.2) →
      Q [.agg [.slice 1 s1, .int .i64 ((priceF xs os ship.toNat).2.1 : Nat), .slice 2 s2, .int .i64 ((totF xs os ship.toNat : Nat) : Int)], int 0] h') : I 9 [.one (.slice 12 s), .agg [.slice 4 l1, .int .i64 ship], int t] Q h := by
  refine spec9 hI hs hsl hlen its hfew hbad fun s1 s2 zs h' he e hp hz a1 aw a2 => ?_
  have := sortO_eq (errO_distinct (errA_ok (errP_A he)).1) hp hz
  subst this
  exact hQ s1 s2 h' he e a1 aw a2
end
end Go.Proofs.YtdjancoknephnaaGreatVc
