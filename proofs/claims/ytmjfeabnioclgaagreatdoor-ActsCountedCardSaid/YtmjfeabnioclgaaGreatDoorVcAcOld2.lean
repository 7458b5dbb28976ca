/- Contracts, turned by a program to the numbers of this seat. -/
import Derived.Test.YtmjfeabnioclgaaGreatDoorVcAcSt2
import Derived.Test.YtmjfeabnioclgaaGreatDoorVcLaMath
import Derived.Test.YtmjfeabnioclgaaGreatDoorVcCsMath
import Derived.Test.YtmjfeabnioclgaaGreatDoorVcKnuth
import Derived.Test.YtmjfeabnioclgaaGreatDoorVcCmpW
import Derived.Test.YtmjfeabnioclgaaGreatDoorVcSortGen
import Derived.Lib.Mul64
import Derived.Test.YtmjfeabnioclgaaGreatDoorVcGridB
import Derived.Test.YtmjfeabnioclgaaGreatDoorVcCoMath
set_option linter.unusedSimpArgs false
set_option linter.unusedVariables false
-- from GaOld
namespace Go.Proofs.YtmjfeabnioclgaaGreatDoorVc
open Go.Proofs.Tryz (prog)
 
section
variable {I : Calls} {Q : Post} {h : Heap}
/-! ### the stream -/
/-! ### codes -/
/-! ### looking a string up -/
end
end Go.Proofs.YtmjfeabnioclgaaGreatDoorVc
-- from CcSpec2
namespace Go.Proofs.YtmjfeabnioclgaaGreatDoorVc
open Go.Proofs.Tryz (prog)
section
variable {I : Calls} {Q : Post} {h : Heap}
end
end Go.Proofs.YtmjfeabnioclgaaGreatDoorVc
-- from CcSpec4
namespace Go.Proofs.YtmjfeabnioclgaaGreatDoorVc
open Go.Proofs.Tryz (prog)
section
variable {I : Calls} {Q : Post} {h : Heap}
end
end Go.Proofs.YtmjfeabnioclgaaGreatDoorVc
-- from CnSpec
namespace Go.Proofs.YtmjfeabnioclgaaGreatDoorVc
open Go.Proofs.Tryz (prog)
section
variable {I : Calls} {Q : Post} {h : Heap}
end
end Go.Proofs.YtmjfeabnioclgaaGreatDoorVc
-- from CsSort
namespace Go.Proofs.YtmjfeabnioclgaaGreatDoorVc
open Go.Proofs.Tryz (prog)
section
variable {I : Calls} {Q : Post} {h : Heap}
end
end Go.Proofs.YtmjfeabnioclgaaGreatDoorVc
-- from CsSpec1
namespace Go.Proofs.YtmjfeabnioclgaaGreatDoorVc
open Go.Proofs.Tryz (prog)
section
variable {I : Calls} {Q : Post} {h : Heap}
/-! ### the stream's block, among one's own -/
end
end Go.Proofs.YtmjfeabnioclgaaGreatDoorVc
-- from SpSpec1
namespace Go.Proofs.YtmjfeabnioclgaaGreatDoorVc
open Go.Proofs.Tryz (prog)
section
variable {I : Calls} {Q : Post} {h : Heap}
/-! ### weights -/
end
end Go.Proofs.YtmjfeabnioclgaaGreatDoorVc
-- from QfSpec3
namespace Go.Proofs.YtmjfeabnioclgaaGreatDoorVc
open Go.Proofs.Tryz (prog)
section
variable {I : Calls} {Q : Post} {h : Heap}
end
end Go.Proofs.YtmjfeabnioclgaaGreatDoorVc
-- from SeKey
namespace Go.Proofs.YtmjfeabnioclgaaGreatDoorVc
open Go.Proofs.Tryz (prog)
section
variable {I : Calls} {Q : Post} {h : Heap}
theorem spec88 (hI : Closed' prog Pm I) {n a b : Int} (hQ : Q [boo (decide (a ≤ n) && decide (n ≤ b))] h) : I 88 [int n, int a, int b] Q h := by
  refine hI.go _ _ (den88 I n a b Q) ?_
  refine ifT_dec (fun h1 => ?_) (fun h1 => ?_)
  · simpa [h1] using hQ
  · simpa [h1] using hQ
/-! ### strings.Trim -/
theorem spec104 (hI : Closed' prog Pm I) {c : ByteArray} (hc : ∀ b ∈ bl c, b.toNat < 128) (hl : c.size < 1000) (hQ : ∀ h', Ext h h' → Q [.agg (setC (inC (bl c))), boo true] h') : I 104 [str c] Q h := by
  refine hI.go _ _ (den104 I c Q) ?_
  refine newK_intro fun i2 h2 hn2 he2 => ?_
  refine loopK_intro (fun (a : Int) h' m => ∃ i : Nat, i ≤ c.size ∧ a = i ∧ m = c.size - i ∧ h' = h.set i2 (.cells false (setC (inC ((bl c).take i))))) c.size ⟨0, by omega, rfl, rfl, by rw [he2]; rw [← setC_none]; rfl⟩ ?_
  rintro a h' m ⟨i, hi, rfl, rfl, rfl⟩
  refine ifT_dec (fun hlt => ⟨⟨by omega, hlt⟩, ?_⟩) (fun hge => ?_)
  · have hlt' : i < (bl c).length := by rw [← bl_size]; omega
    have hb := List.getElem?_eq_getElem hlt'
    have hbm := hc _ (List.getElem_mem hlt')
    generalize (bl c)[i] = b at hb hbm
    rw [byteAt_bl hb]
    refine ifT_dec (fun h1 => by omega) fun h1 => ⟨⟨by omega, by omega⟩, ?_⟩
    rw [Int.toNat_natCast, Nat.mul_one, Nat.zero_add]
    refine storeK_one (set_eq _ _ _) (by rw [setC_length]; omega) ⟨c.size - (i + 1), by omega, i + 1, by omega, by rw [w64] <;> omega, rfl, ?_⟩
    rw [set_set]
    congr 2
    refine setC_set _ _ (by omega) fun n => ?_
    unfold inC
    rw [List.take_add_one, hb]
    show (((bl c).take i) ++ [b]).any _ = _
    rw [List.any_append]
    simp only [List.any_cons, List.any_nil, Bool.or_false]
    rw [Bool.or_comm]
    congr 1
    rw [decide_eq_decide]
    omega
  · have : i = c.size := by omega
    subst this
    rw [bl_size, List.take_length]
    have hr : ∀ h0 : Heap, h0 i2 = some (.cells false (setC (inC (bl c)))) → h0.read i2 0 256 = some (setC (inC (bl c))) := fun h0 hh => by
      rw [read_block hh (by rw [setC_length]; omega), List.drop_zero, List.take_of_length_le (by rw [setC_length]; omega)]
    refine exCells_in (setC_fits (inC (bl c))) ⟨hr _ (set_eq _ _ _), storeK_whole (set_eq _ _ _) rfl ?_⟩
    refine exCells_in (setC_fits (inC (bl c))) ⟨hr _ (set_eq _ _ _), ?_⟩
    rw [set_set]
    exact hQ _ (Ext.new hn2)
theorem spec109 (hI : Closed' prog Pm I) {i : Nat} {S : Nat → Bool} {b : UInt8} (hi : h i = some (.cells false (setC S))) (hQ : Q [boo (S b.toNat)] h) : I 109 [.one (.ptr (some (i, 0))), u8 b] Q h := by
  refine hI.go _ _ (den109 I _ _ Q) ?_
  have hb := b.toNat_lt
  refine derefK_intro rfl ⟨⟨by omega, by omega⟩, S b.toNat, ?_, hQ⟩
  rw [Int.toNat_natCast, Nat.mul_one, Nat.zero_add]
  exact read_cell hi (setC_get _ (by omega))
/-- From the right: what is left ends in a sign that is not of the set. -/
theorem spec106 (hI : Closed' prog Pm I) {i : Nat} {S : Nat → Bool} {s : ByteArray} (hi : h i = some (.cells false (setC S))) (hl : s.size < 1000)
    (hQ : ∀ m, m ≤ s.size → (∀ j b, m ≤ j → (bl s)[j]? = some b → S b.toNat = true) → (∀ b, 0 < m → (bl s)[m - 1]? = some b → S b.toNat = false) → ∀ t, bl t = (bl s).take m → Q [str t] h) : I 106 [str s, .one (.ptr (some (i, 0)))] Q h := by
  refine hI.go _ _ (den106 I s _ Q) ?_
  refine loopK_intro (fun (a : ByteArray) h' m => h' = h ∧ m ≤ s.size ∧ bl a = (bl s).take m ∧ ∀ j b, m ≤ j → (bl s)[j]? = some b → S b.toNat = true) s.size ⟨rfl, by omega, by rw [bl_size, List.take_length], fun j b hj hb => by
    rw [List.getElem?_eq_none (by rw [← bl_size]; omega)] at hb; cases hb⟩ ?_
  rintro a h' m ⟨rfl, hm, ha, hall⟩
  have hsz : a.size = m := by rw [bl_size, ha, List.length_take, ← bl_size]; omega
  refine ifT_dec (fun hlt => ⟨⟨?_, ?_⟩, ?_⟩) (fun hge => ?_)
  · rw [w64] <;> omega
  · rw [w64] <;> omega
  · have hm1 : m - 1 < (bl s).length := by rw [← bl_size]; omega
    have hb := List.getElem?_eq_getElem hm1
    generalize (bl s)[m - 1] = b at hb
    have hb' : (bl a)[m - 1]? = some b := by rw [ha, List.getElem?_take_of_lt (by omega)]; exact hb
    have ew : IntKind.i64.wrap ((a.size : Int) - 1) = ((m - 1 : Nat) : Int) := by rw [w64] <;> omega
    rw [ew, byteAt_bl hb']
    refine spec109 hI hi ⟨_, rfl, ifT_intro (fun h1 => ?_) fun h1 => ⟨⟨by decide, by omega, by omega⟩, m - 1, by omega, rfl, by omega, ?_, fun j b' hj hb2 => ?_⟩⟩
    · exact hQ m hm hall (fun b2 _ hb2 => by rw [hb] at hb2; cases hb2; simpa using h1) a ha
    · rw [bl_extract, ha, Int.toNat_natCast, List.drop_zero, List.take_take]
      congr 1
      omega
    · rcases Nat.lt_or_ge j m with h2 | h2
      · have : j = m - 1 := by omega
        subst this
        rw [hb] at hb2
        cases hb2
        simpa using h1
      · exact hall j b' h2 hb2
  · have : m = 0 := by omega
    subst this
    exact hQ 0 hm hall (fun _ h => by omega) a ha
/-- From the left: nothing is left just where all signs are of the set. -/
theorem spec105 (hI : Closed' prog Pm I) {i : Nat} {S : Nat → Bool} {s : ByteArray} (hi : h i = some (.cells false (setC S))) (hl : s.size < 1000)
    (hQ : ∀ t, (bl t = [] ↔ ∀ b ∈ bl s, S b.toNat = true) → Q [str t] h) : I 105 [str s, .one (.ptr (some (i, 0)))] Q h := by
  refine hI.go _ _ (den105 I s _ Q) ?_
  refine loopK_intro (fun (a : ByteArray) h' m => h' = h ∧ a.size = m ∧ m < 1000 ∧ ((∀ b ∈ bl a, S b.toNat = true) ↔ ∀ b ∈ bl s, S b.toNat = true)) s.size ⟨rfl, rfl, hl, Iff.rfl⟩ ?_
  rintro a h' m ⟨rfl, hm, hm2, hall⟩
  refine ifT_dec (fun hlt => ⟨⟨by decide, by omega⟩, ?_⟩) (fun hge => ?_)
  · cases ha : bl a with
    | nil => rw [bl_size, ha] at hlt; simp at hlt
    | cons b l =>
      have hb : (bl a)[0]? = some b := by rw [ha]; rfl
      have e0 : byteAt a 0 = (b.toNat : Int) := byteAt_bl hb
      rw [e0]
      rw [ha] at hall
      refine spec109 hI hi ⟨_, rfl, ifT_intro (fun h1 => ?_) fun h1 => ⟨⟨by decide, by omega, by omega⟩, m - 1, by omega, rfl, ?_, by omega, ?_⟩⟩
      · have h1' : S b.toNat = false := by simpa using h1
        refine hQ a ⟨fun h => by (rw [ha] at h; cases h), fun h => ?_⟩
        have := hall.2 h b (by simp)
        rw [h1'] at this; cases this
      · rw [bl_size, bl_extract, ha]
        have : (b :: l).length = m := by rw [← ha, ← bl_size]; exact hm
        simp at this ⊢
        omega
      · rw [← hall, bl_extract, ha, Int.toNat_natCast]
        have hl' : (b :: l).length = a.size := by rw [← ha, ← bl_size]
        have e : ((b :: l).drop 1).take (a.size - 1) = l := by
          simp only [List.drop_succ_cons, List.drop_zero]
          exact List.take_of_length_le (by simp at hl'; omega)
        rw [e]
        have h1' : S b.toNat = true := by simpa using h1
        constructor
        · intro h2 b' hb'
          rcases List.mem_cons.1 hb' with rfl | hb'
          · exact h1'
          · exact h2 b' hb'
        · intro h2 b' hb'
          exact h2 b' (by simp [hb'])
  · have h0 : bl a = [] := List.length_eq_zero_iff.1 (by rw [← bl_size]; omega)
    rw [h0] at hall
    exact hQ a ⟨fun _ => hall.1 (by simp), fun _ => h0⟩
theorem spec89 (hI : Closed' prog Pm I) {s c : ByteArray} (hc : ∀ b ∈ bl c, b.toNat < 128) (hcl : c.size < 1000) (hc2 : 2 ≤ c.size) (hs : s.size < 1000) (hs0 : 0 < s.size)
    (hQ : ∀ h', Ext h h' → Q [boo ((bl s).all fun b => inC (bl c) b.toNat)] h') : I 89 [str s, str c] Q h := by
  refine hI.go _ _ (den89 I s c Q) ?_
  refine hI.go _ _ (den99 I s c _) ?_
  have hsn : s ≠ ⟨#[]⟩ := fun e => by rw [e] at hs0; exact absurd hs0 (by decide)
  have hcn : c ≠ ⟨#[]⟩ := fun e => by rw [e] at hc2; exact absurd hc2 (by decide)
  refine joinK_intro (fun (b : Bool) h' => h' = h ∧ b = false) ?_ fun j hj => ifT_dec (fun h => absurd h hsn) fun _ => hj _ _ ⟨rfl, by simpa using hcn⟩
  rintro _ h' ⟨rfl, rfl⟩
  refine ifT_intro (fun h => by cases h) fun _ => ?_
  refine joinK_intro (fun (b : Bool) h'' => h'' = h' ∧ b = false) ?_ fun j hj => ifT_dec (fun h => by omega) fun _ => hj _ _ ⟨rfl, rfl⟩
  rintro _ h'' ⟨rfl, rfl⟩
  refine ifT_intro (fun h => by cases h) fun _ => ?_
  refine spec104 hI hc hcl fun h3 x3 => exCells_in (setC_fits (inC (bl c))) ⟨true, rfl, newK_intro fun i4 h4 hn4 he4 => ?_⟩
  have x4 : Ext h3 h4 := he4 ▸ Ext.new hn4
  refine storeK_whole (cs := List.replicate 256 (.bool false)) (by rw [he4, set_eq]) (by rw [setC_length, List.length_replicate]) ?_
  rw [he4, set_set]
  have x5 : Ext h'' (h3.set i4 (.cells false (setC (inC (bl c))))) := x3.trans (Ext.new hn4)
  have hi := set_eq h3 i4 (.cells false (setC (inC (bl c))))
  refine ifT_intro (fun _ => ?_) fun h => by cases h
  refine spec106 hI hi hs fun m hm hm1 hm2 t ht => ⟨_, rfl, ?_⟩
  refine spec105 hI hi (by rw [bl_size, ht, List.length_take, ← bl_size]; omega) fun r hr => ⟨_, rfl, _, rfl, ?_⟩
  have e : decide (r = (⟨#[]⟩ : ByteArray)) = (bl s).all fun b => inC (bl c) b.toNat := by
    rw [Bool.eq_iff_iff, decide_eq_true_iff, List.all_eq_true, bl_nil, hr]
    constructor
    · intro h1 b hb
      obtain ⟨j, hj, rfl⟩ := List.getElem_of_mem hb
      rcases Nat.lt_or_ge j m with h2 | h2
      · refine h1 _ ?_
        rw [ht]
        exact List.mem_of_getElem? (by rw [List.getElem?_take_of_lt h2]; exact List.getElem?_eq_getElem hj)
      · exact hm1 j _ h2 (List.getElem?_eq_getElem hj)
    · intro h1 b hb
      rw [ht] at hb
      exact h1 b (List.mem_of_mem_take hb)
  show Q [boo (decide (r = (⟨#[]⟩ : ByteArray)))] _
  rw [e]
  exact hQ _ x5
theorem spec48 (hI : Closed' prog Pm I) {s : ByteArray} (hQ : ∀ h', Ext h h' → Q [boo (isKey s)] h') : I 48 [str s] Q h := by
  refine hI.go _ _ (den48 I s Q) ?_
  refine hI.go _ _ (den65 I s _) ?_
  unfold isKey at hQ
  have hsz := bl_size s
  refine spec88 hI ⟨_, rfl, ifT_intro (fun hb => ?_) fun hb => ?_⟩
  · have hb' : 1 ≤ s.size ∧ s.size ≤ 40 := by simp at hb; omega
    cases hl : bl s with
    | nil =>
      rw [hl] at hsz
      have : s.size = 0 := hsz
      omega
    | cons b l =>
      rw [hl] at hQ
      have e1 : decide (l.length + 1 ≤ 40) = true := by rw [hl] at hsz; simp at hsz ⊢; omega
      simp only [isKeyL, e1, Bool.true_and] at hQ
      have eb : b.toNat.toUInt8 = b := by simp
      have hx : bl (s.extract 0 1) = [b] := by rw [bl_extract, hl]; rfl
      refine ⟨⟨by decide, by decide, by omega⟩, ?_⟩
      refine spec89 hI (c := smallsS) (by decide) (by decide) (by decide) (by rw [bl_size, hx]; simp) (by rw [bl_size, hx]; simp) fun h1 x1 => ⟨_, rfl, ?_⟩
      have e2 : ((bl (s.extract 0 1)).all fun b => inC (bl smallsS) b.toNat) = smallB b := by
        rw [hx]
        simp only [List.all_cons, List.all_nil, Bool.and_true]
        rw [smalls_in _ b.toNat_lt, eb]
      rw [e2]
      refine ifT_intro (fun h2 => ?_) fun h2 => ?_
      · refine spec89 hI (c := keysS) (by decide) (by decide) (by decide) (by omega) (by omega) fun h3 x3 => ⟨_, rfl, _, rfl, ?_⟩
        have e3 : ((bl s).all fun b => inC (bl keysS) b.toNat) = (b :: l).all keyB := by
          rw [← hl]
          congr 1
          funext x
          rw [keys_in _ x.toNat_lt]
          simp
        show Q [boo ((bl s).all fun b => inC (bl keysS) b.toNat)] _
        rw [e3]
        rw [h2] at hQ
        simpa using hQ _ (x1.trans x3)
      · rw [h2] at hQ
        exact ⟨_, rfl, by simpa using hQ _ x1⟩
  · have hb' : ¬ (1 ≤ s.size ∧ s.size ≤ 40) := fun h => by
      have : (decide ((1 : Int) ≤ (s.size : Int)) && decide ((s.size : Int) ≤ 40)) = true := by simp; omega
      rw [this] at hb; cases hb
    have e : isKeyL (bl s) = false := by
      cases hl : bl s with
      | nil => rfl
      | cons b l =>
        have : decide (l.length + 1 ≤ 40) = false := by rw [hl] at hsz; simp at hsz ⊢; omega
        simp only [isKeyL, this, Bool.false_and]
    rw [e] at hQ
    exact ⟨_, rfl, hQ _ (Ext.refl _)⟩
end
end Go.Proofs.YtmjfeabnioclgaaGreatDoorVc
-- from SeSpec2
namespace Go.Proofs.YtmjfeabnioclgaaGreatDoorVc
open Go.Proofs.Tryz (prog)
section
variable {I : Calls} {Q : Post} {h : Heap}
theorem spec32 (hI : Closed' prog Pm I) {n : Int} (hQ : Q [boo (decide (moment n))] h) : I 32 [int n] Q h := by
  refine hI.go _ _ (den32 I n Q) ?_
  refine ifT_dec (fun h1 => ?_) fun h1 => ?_
  · have e : decide (n < 4321440) = decide (moment n) := by rw [decide_eq_decide]; unfold moment; omega
    rw [e]; exact hQ
  · have e : decide (moment n) = false := by simp only [decide_eq_false_iff_not]; unfold moment; omega
    rw [e] at hQ; exact hQ
/-! ### the answer's -/
theorem spec50 (hI : Closed' prog Pm I) {i : Nat} {x y : Sent} (hi : h i = some (.cells false (sentC x))) (hQ : Q [boo (decide (y.id = x.id))] h) :
    I 50 [.agg (sentC y), .one (.ptr (some (i, 0)))] Q h := by
  refine hI.go _ _ (den50 I y.id y.person y.letter y.at_ i 0 Q) ?_
  exact ⟨x.id, read_cell hi rfl, hQ⟩
theorem spec49 (hI : Closed' prog Pm I) {s : Sl} {ys : List Sent} {i : Nat} {x : Sent} (hs : At h 4 s (rows sentC ys)) (hlen : ys.length < 1000) (hi : h i = some (.cells false (sentC x))) (hQ : Q [boo (ys.any fun y => decide (y.id = x.id))] h) :
    I 49 [.one (.slice 4 s), .one (.func (some (50, [(i, 0)])))] Q h := by
  have hl : s.len = ys.length := hs.rowsLen sentC_length (by decide)
  refine hI.go _ _ (den49 I s _ Q) ?_
  refine hI.go _ _ (den30 I s _ _) ?_
  refine loopK_intro (fun (a : Int) h' m => h' = h ∧ ∃ j : Nat, j ≤ ys.length ∧ a = j ∧ ys.length - j = m ∧ ((ys.take j).any fun y => decide (y.id = x.id)) = false) ys.length ⟨rfl, 0, by omega, rfl, rfl, rfl⟩ ?_
  rintro a h' m ⟨rfl, j, hj, rfl, rfl, hno⟩
  refine ifT_dec (fun hlt => ⟨⟨by omega, hlt⟩, ?_⟩) (fun hge => ?_)
  · have hy := List.getElem?_eq_getElem (show j < ys.length by omega)
    generalize ys[j] = y at hy
    refine hs.row sentC_length (by decide) hy fun bb o hr => ⟨y.id, y.person, y.letter, y.at_, hr, ?_⟩
    refine spec50 hI hi ⟨_, rfl, ifT_intro (fun h1 => ⟨_, rfl, ?_⟩) fun h1 => ?_⟩
    · have e : (ys.any fun y => decide (y.id = x.id)) = true := List.any_eq_true.2 ⟨y, List.mem_of_getElem? hy, h1⟩
      rw [e] at hQ
      have e2 : decide ((j : Int) ≥ 0) = true := by simp
      rw [e2]; exact hQ
    · refine ⟨ys.length - (j + 1), by omega, rfl, j + 1, by omega, by rw [w64] <;> omega, rfl, ?_⟩
      rw [any_take_step hy, hno, h1]; rfl
  · have : j = ys.length := by omega
    subst this
    rw [List.take_length] at hno
    rw [hno] at hQ
    exact ⟨_, rfl, hQ⟩
theorem spec29 (hI : Closed' prog Pm I) {s : Sl} {xs : List Sent} (hs : At h 4 s (rows sentC xs)) (hlen : xs.length < 1000) (hQ : ∀ h', Ext h h' → Q [int (errS xs)] h') : I 29 [.one (.slice 4 s)] Q h := by
  have hl : s.len = xs.length := hs.rowsLen sentC_length (by decide)
  refine hI.go _ _ (den29 I s Q) ?_
  unfold vc29
  rw [hl]
  refine ifT_dec (fun h => by omega) fun _ => ?_
  refine loopK_intro (fun (a : Int) h' m => Ext h h' ∧ ∃ i : Nat, i ≤ xs.length ∧ a = i ∧ xs.length - i = m ∧ errS xs = scanS (xs.take i) (xs.drop i)) xs.length
    ⟨Ext.refl _, 0, by omega, rfl, rfl, rfl⟩ ?_
  rintro a h' m ⟨x', i, hi, rfl, rfl, hsc⟩
  refine ifT_dec (fun hlt => ⟨⟨by omega, by omega⟩, ?_⟩) (fun hge => ?_)
  · have hx := List.getElem?_eq_getElem (show i < xs.length by omega)
    generalize xs[i] = x at hx
    rw [scanS_step hx] at hsc
    refine (x'.at_ hs).row sentC_length (by decide) hx fun bb o hr => ⟨x.id, x.person, x.letter, x.at_, hr, ?_⟩
    refine newK_intro fun i11 h2 hn2 he2 => ?_
    refine storeK_whole (cs := [.str .empty, .str .empty, .str .empty, .int .i64 0]) (by rw [he2, set_eq]) rfl ?_
    rw [he2, set_set]
    have x2 : Ext h (h'.set i11 (.cells false (sentC x))) := x'.trans (Ext.new hn2)
    have hc := set_eq h' i11 (.cells false (sentC x))
    obtain ⟨g, hg⟩ : ∃ g, g = h'.set i11 (.cells false (sentC x)) := ⟨_, rfl⟩
    rw [← hg] at x2 hc
    rw [show h'.set i11 (.cells false [.str x.id, .str x.person, .str x.letter, .int .i64 x.at_]) = g from hg.symm]
    have bad : ∀ e (g' : Heap), Ext h g' → errS xs = e → Q [int e] g' := fun e g' hg he => by rw [← he]; exact hQ _ hg
    refine ⟨x.id, read_cell hc rfl, spec48 hI fun g1 x1 => ⟨_, rfl, ifT_intro (fun h1 => bad 5 _ (x2.trans x1) (by rw [hsc, if_pos (nb h1)])) fun h1 => ?_⟩⟩
    rw [if_neg (by rw [nb' h1]; simp)] at hsc
    have hsub : At g1 4 (s.sub 4 0 i) (rows sentC (xs.take i)) := by
      have := At.sub ((x2.trans x1).at_ hs) 0 i (by omega) (by omega)
      rw [Nat.zero_mul, List.drop_zero, Nat.sub_zero, rows_take sentC_length] at this
      exact this
    refine ⟨⟨by decide, by omega, by omega⟩, ?_⟩
    rw [Int.toNat_natCast]
    refine spec49 hI hsub (by rw [List.length_take]; omega) (x1 _ _ hc) ⟨_, rfl, ifT_intro (fun h2 => bad 6 _ (x2.trans x1) (by rw [hsc, if_pos h2])) fun h2 => ?_⟩
    rw [if_neg (by rw [h2]; simp)] at hsc
    have hc1 := x1 _ _ hc
    refine joinK_intro (fun (b : Bool) g' => Ext g1 g' ∧ (b = true ↔ (isKey x.person && isKey x.letter) = false)) ?_ fun j hj => ⟨x.person, read_cell hc1 rfl, spec48 hI fun g2 x3 => ⟨_, rfl, ifT_intro (fun h3 => hj _ _ ⟨x3, by simp [nb h3]⟩) fun h3 =>
      ⟨x.letter, read_cell (x3 _ _ hc1) rfl, spec48 hI fun g3 x4 => ⟨_, rfl, hj _ _ ⟨x3.trans x4, by simp [nb' h3]⟩⟩⟩⟩⟩
    rintro b g2 ⟨x3, hb⟩
    have xx := (x2.trans x1).trans x3
    refine ifT_intro (fun h3 => bad 5 _ xx (by rw [hsc, if_pos (hb.1 h3)])) fun h3 => ?_
    rw [if_neg (fun h => by rw [hb.2 h] at h3; cases h3)] at hsc
    have hc2 := x3 _ _ hc1
    refine ⟨x.at_, read_cell hc2 rfl, spec32 hI ⟨_, rfl, ifT_intro (fun h4 => bad 1 _ xx (by rw [hsc, if_pos (nd h4)])) fun h4 => ?_⟩⟩
    rw [if_neg (nd' h4)] at hsc
    have ew : IntKind.i64.wrap ((i : Int) + 1) = ((i + 1 : Nat) : Int) := by rw [w64] <;> omega
    rw [ew]
    refine ifT_dec (fun hpos => ?_) fun hz => ?_
    · have wj : IntKind.i64.wrap ((i : Int) - 1) = ((i - 1 : Nat) : Int) := by rw [w64] <;> omega
      rw [wj]
      have hp := List.getElem?_eq_getElem (show i - 1 < xs.length by omega)
      generalize xs[i - 1] = p at hp
      rw [take_last hp (by omega), Option.any_some] at hsc
      refine ⟨x.at_, read_cell hc2 rfl, ⟨by omega, by omega⟩, (xx.at_ hs).rowCell (j := 3) sentC_length (by decide) hp rfl fun bb o hr => ⟨p.at_, hr, ifT_dec (fun h5 => bad 7 _ xx (by rw [hsc, if_pos (by simpa using h5)])) fun h5 => ?_⟩⟩
      rw [if_neg (by simpa using h5)] at hsc
      exact ⟨xs.length - (i + 1), by omega, xx, i + 1, by omega, rfl, rfl, hsc⟩
    · have hi0 : i = 0 := by omega
      subst hi0
      exact ⟨xs.length - (0 + 1), by omega, xx, 0 + 1, by omega, rfl, rfl, by rw [hsc]; simp⟩
  · have : i = xs.length := by omega
    subst this
    rw [List.drop_length] at hsc
    have e : errS xs = 0 := by rw [hsc]; rfl
    rw [← e]
    exact hQ _ x'
end
end Go.Proofs.YtmjfeabnioclgaaGreatDoorVc
-- from SeSpec3
namespace Go.Proofs.YtmjfeabnioclgaaGreatDoorVc
open Go.Proofs.Tryz (prog)
section
variable {I : Calls} {Q : Post} {h : Heap}
end
end Go.Proofs.YtmjfeabnioclgaaGreatDoorVc
-- from SeSpec4
namespace Go.Proofs.YtmjfeabnioclgaaGreatDoorVc
open Go.Proofs.Tryz (prog)
section
variable {I : Calls} {Q : Post} {h : Heap}
section
variable {hb : Heap} {i : Nat} {l : Sl} {zs : List Int} {t0 : Nat}
end
end
end Go.Proofs.YtmjfeabnioclgaaGreatDoorVc
-- from GaOld2
namespace Go.Proofs.YtmjfeabnioclgaaGreatDoorVc
open Go.Proofs.Tryz (prog)
section
variable {I : Calls} {Q : Post} {h : Heap}
/-! ### the stream -/
/-! ### codes -/
theorem pow31_le {n : Nat} (h : n ≤ 11) : 31 ^ n ≤ 25408476896404831 := by
  have : 31 ^ n ≤ 31 ^ 11 := Nat.pow_le_pow_right (by decide) h
  exact this
/-! ### looking a string up -/
end
end Go.Proofs.YtmjfeabnioclgaaGreatDoorVc
-- from CcSpec2
namespace Go.Proofs.YtmjfeabnioclgaaGreatDoorVc
open Go.Proofs.Tryz (prog)
section
variable {I : Calls} {Q : Post} {h : Heap}
end
end Go.Proofs.YtmjfeabnioclgaaGreatDoorVc
-- from CcSpec4
namespace Go.Proofs.YtmjfeabnioclgaaGreatDoorVc
open Go.Proofs.Tryz (prog)
section
variable {I : Calls} {Q : Post} {h : Heap}
end
end Go.Proofs.YtmjfeabnioclgaaGreatDoorVc
-- from CnSpec
namespace Go.Proofs.YtmjfeabnioclgaaGreatDoorVc
open Go.Proofs.Tryz (prog)
section
variable {I : Calls} {Q : Post} {h : Heap}
end
end Go.Proofs.YtmjfeabnioclgaaGreatDoorVc
-- from CsBits
namespace Go.Proofs.YtmjfeabnioclgaaGreatDoorVc
open Go.Proofs.Tryz (prog)
section
variable {I : Calls} {Q : Post} {h : Heap}
theorem len_idx {x k i L : Nat} (hi : x / 2 ^ k = i) (h1 : i < 2 ^ L) (h2 : 2 ^ L ≤ 2 * i) : x < 2 ^ (k + L) ∧ 2 ^ (k + L) ≤ 2 * x := by
  subst hi
  have p := Nat.two_pow_pos k
  constructor
  · rw [Nat.pow_add, Nat.mul_comm]
    exact (Nat.div_lt_iff_lt_mul p).1 h1
  · rw [Nat.pow_add]
    have h3 : 2 ^ k * 2 ^ L ≤ 2 ^ k * (2 * (x / 2 ^ k)) := Nat.mul_le_mul_left _ h2
    have h4 := Nat.mul_div_le x (2 ^ k)
    rw [Nat.mul_left_comm] at h3
    omega
theorem shrN (a k : Nat) (hk : k ≤ 64) : shr .u64 (a : Int) (k : Int) = ((a / 2 ^ k : Nat) : Int) := shr_nat a k .u64 rfl hk
theorem w8 {a : Nat} (h : a < 256) : IntKind.u8.wrap (a : Int) = (a : Int) := by rw [IntKind.wrap_u8]; omega
end
end Go.Proofs.YtmjfeabnioclgaaGreatDoorVc
-- from CsSort
namespace Go.Proofs.YtmjfeabnioclgaaGreatDoorVc
open Go.Proofs.Tryz (prog)
section
variable {I : Calls} {Q : Post} {h : Heap}
/-- What a comparison tells, whatever the row that is sorted holds. -/
def Tells (I : Calls) (h : Heap) (blk : Nat) (g : FuncId) (caps : List (Nat × Nat)) (xs : List Int) (lt : Int → Int → Bool) : Prop :=
  ∀ a b, a ∈ xs → b ∈ xs → ∀ (h' : Heap) (Q' : Post), (∀ j, j ≠ blk → h' j = h j) → (∀ c : Int, (c < 0 ↔ lt a b = true) → Q' [int c] h') → I g (int a :: int b :: caps.map fun a => .one (.ptr (some a))) Q' h'
end
end Go.Proofs.YtmjfeabnioclgaaGreatDoorVc
-- from CsSpec1
namespace Go.Proofs.YtmjfeabnioclgaaGreatDoorVc
open Go.Proofs.Tryz (prog)
def unats (l : List Nat) : List Cell := l.map fun n : Nat => .int .u64 (n : Int)
theorem unats_length (l : List Nat) : (unats l).length = l.length := by simp [unats]
theorem unats_get {xs : List Nat} {i n : Nat} (h : xs[i]? = some n) : (unats xs)[i]? = some (.int .u64 (n : Int)) := by unfold unats; rw [List.getElem?_map, h]; rfl
theorem unats_set (xs : List Nat) (i n : Nat) : (unats xs).set i (.int .u64 (n : Int)) = unats (xs.set i n) := by unfold unats; rw [List.map_set]
section
variable {I : Calls} {Q : Post} {h : Heap}
/-! ### the stream's block, among one's own -/
end
end Go.Proofs.YtmjfeabnioclgaaGreatDoorVc
-- from CsSpec2
namespace Go.Proofs.YtmjfeabnioclgaaGreatDoorVc
open Go.Proofs.YtmjfeabnioclgaaGreatDoorShares
open Go.Proofs.Tryz (prog)
section
variable {I : Calls} {Q : Post} {h : Heap}
theorem take_succ_map {α β : Type} (f : α → β) {l : List α} {k : Nat} {x : α} (h : l[k]? = some x) : (l.map f).take (k + 1) = (l.map f).take k ++ [f x] := by
  rw [List.take_add_one, List.getElem?_map, h]; rfl
/-- The arguments of a division of 128 bits. -/
theorem mul_lt {c w all : Nat} (hc : c ≤ 1000000000000) (hw : w ≤ all) (ha : 0 < all) : c * w / 18446744073709551616 < all := by
  rw [Nat.div_lt_iff_lt_mul (by decide)]
  have h1 : c * w ≤ 1000000000000 * all := Nat.mul_le_mul hc hw
  omega
theorem mem_le_sum : ∀ {l : List Nat} {x : Nat}, x ∈ l → x ≤ l.sum
  | y :: l, x, h => by
    rw [List.sum_cons]
    rcases List.mem_cons.1 h with rfl | h
    · omega
    · have := mem_le_sum h; omega
theorem sum_le : ∀ {l : List Nat} {b : Nat}, (∀ x ∈ l, x ≤ b) → l.sum ≤ b * l.length
  | [], _, _ => by simp
  | y :: l, b, h => by
    have h1 := sum_le (l := l) fun x hx => h x (by simp [hx])
    have h2 := h y (by simp)
    rw [List.sum_cons, List.length_cons, Nat.mul_add]
    omega
theorem take_sum_le (l : List Nat) (k : Nat) : (l.take k).sum ≤ l.sum := by
  conv => rhs; rw [← List.take_append_drop k l, List.sum_append]
  omega
theorem block_at {h : Heap} {i n : Nat} {cs : List Cell} (hi : h i = some (.cells false cs)) (hn : n = cs.length) : At h 1 ⟨some (i, 0), n⟩ cs := by
  refine ⟨by simp [hn], .inr ?_⟩
  show h.read i 0 (n * 1) = _
  rw [read_block hi (by omega), List.drop_zero, List.take_of_length_le (by omega)]
theorem nats_ne {l : List Nat} (h : 0 < l.length) : nats l ≠ [] := fun e => by have := congrArg List.length e; rw [nats_length] at this; have h2 : l.length = 0 := this; omega
theorem unats_ne {l : List Nat} (h : 0 < l.length) : unats l ≠ [] := fun e => by have := congrArg List.length e; rw [unats_length] at this; have h2 : l.length = 0 := this; omega
theorem at_some {l : List Nat} {i x : Nat} (h : l[i]? = some x) : at_ l i = x := by unfold at_; rw [List.getD_eq_getElem?_getD, h]; rfl
end
end Go.Proofs.YtmjfeabnioclgaaGreatDoorVc
-- from CsSpec3
namespace Go.Proofs.YtmjfeabnioclgaaGreatDoorVc
open Go.Proofs.YtmjfeabnioclgaaGreatDoorShares
open Go.Proofs.Tryz (prog)
def bools (l : List Bool) : List Cell := l.map .bool
theorem bools_length (l : List Bool) : (bools l).length = l.length := by simp [bools]
theorem bools_get {xs : List Bool} {i : Nat} {b : Bool} (h : xs[i]? = some b) : (bools xs)[i]? = some (.bool b) := by unfold bools; rw [List.getElem?_map, h]; rfl
theorem bools_set (xs : List Bool) (i : Nat) (b : Bool) : (bools xs).set i (.bool b) = bools (xs.set i b) := by unfold bools; rw [List.map_set]
def givenK (rs : List Nat) (k : Nat) : List Bool := (List.range rs.length).map fun i => decide (rank rs i < k)
theorem givenK_length (rs : List Nat) (k : Nat) : (givenK rs k).length = rs.length := by simp [givenK]
theorem givenK_get {rs : List Nat} {k i : Nat} (hi : i < rs.length) : (givenK rs k)[i]? = some (decide (rank rs i < k)) := by
  unfold givenK; rw [List.getElem?_map, List.getElem?_range hi]; rfl
theorem givenK_zero (rs : List Nat) : givenK rs 0 = List.replicate rs.length false := by
  apply List.ext_getElem?
  intro i
  rcases Nat.lt_or_ge i rs.length with hi | hi
  · rw [givenK_get hi, List.getElem?_replicate, if_pos hi]; simp
  · rw [List.getElem?_eq_none (by rw [givenK_length]; exact hi), List.getElem?_eq_none (by simpa using hi)]
theorem givenK_step {rs : List Nat} {k i : Nat} (hi : i < rs.length) (hr : rank rs i = k) : (givenK rs k).set i true = givenK rs (k + 1) := by
  apply List.ext_getElem?
  intro j
  rw [List.getElem?_set]
  rcases Nat.lt_or_ge j rs.length with hj | hj
  · split
    · rename_i h
      subst h
      rw [if_pos (by rw [givenK_length]; exact hi), givenK_get hi]
      simp [hr]
    · rename_i h
      rw [givenK_get hj, givenK_get hj]
      have : rank rs j ≠ k := fun e => h (rank_inj (rs := rs) hi hj (by rw [hr, e]))
      congr 1
      rw [decide_eq_decide]
      omega
  · rw [if_neg (by omega), List.getElem?_eq_none (by rw [givenK_length]; exact hj), List.getElem?_eq_none (by rw [givenK_length]; exact hj)]
theorem set_fill (A : List Nat) (m v : Nat) : (A ++ List.replicate (m + 1) 0).set A.length v = (A ++ [v]) ++ List.replicate m 0 := by
  rw [List.replicate_succ, set_mid']; simp
section
variable {I : Calls} {Q : Post} {h : Heap}
end
end Go.Proofs.YtmjfeabnioclgaaGreatDoorVc
-- from SpSort
namespace Go.Proofs.YtmjfeabnioclgaaGreatDoorVc
open Go.Proofs.Tryz (prog)
section
variable {I : Calls} {Q : Post} {h : Heap}
/-- The row that is sorted holds ys; all else is as it was, or new. -/
def PSt (h : Heap) (blk : Nat) (ys : List Int) (h' : Heap) : Prop := h' blk = some (.cells false (ints ys)) ∧ ∀ j o, j ≠ blk → h j = some o → h' j = some o
theorem PSt.ext {h h1 h2 : Heap} {blk : Nat} {ys : List Int} (p : PSt h blk ys h1) (he : Ext h1 h2) : PSt h blk ys h2 := ⟨he _ _ p.1, fun j o hj hx => he _ _ (p.2 j o hj hx)⟩
theorem PSt.set {h h1 : Heap} {blk : Nat} {ys zs : List Int} (p : PSt h blk ys h1) : PSt h blk zs (h1.set blk (.cells false (ints zs))) := ⟨set_eq _ _ _, fun j o hj hx => by rw [set_ne _ _ hj]; exact p.2 j o hj hx⟩
/-- What a comparison tells, whatever the row that is sorted holds. -/
def TellsE (I : Calls) (h : Heap) (blk : Nat) (g : FuncId) (caps : List (Nat × Nat)) (xs : List Int) (lt : Int → Int → Bool) : Prop :=
  ∀ a b, a ∈ xs → b ∈ xs → ∀ (h' : Heap) (Q' : Post), (∃ ys, PSt h blk ys h') → (∀ (c : Int) h'', Ext h' h'' → (c < 0 ↔ lt a b = true) → Q' [int c] h'') → I g (int a :: int b :: caps.map fun a => .one (.ptr (some a))) Q' h'
end
end Go.Proofs.YtmjfeabnioclgaaGreatDoorVc
-- from SpSpec1
namespace Go.Proofs.YtmjfeabnioclgaaGreatDoorVc
open Go.Proofs.YtmjfeabnioclgaaGreatDoorShares
open Go.Proofs.Tryz (prog)
section
variable {I : Calls} {Q : Post} {h : Heap}
/-! ### weights -/
abbrev okW (w : Int) : Prop := 0 ≤ w ∧ w ≤ 1000000
def errW (xs : List Int) : Int := if 12 < xs.length then 2 else if ∃ w ∈ xs, ¬ okW w then 1 else if ∀ w ∈ xs, w = 0 then 8 else 0
end
end Go.Proofs.YtmjfeabnioclgaaGreatDoorVc
-- from SpSpec2
namespace Go.Proofs.YtmjfeabnioclgaaGreatDoorVc
open Go.Proofs.YtmjfeabnioclgaaGreatDoorShares
open Go.Proofs.Tryz (prog)
section
variable {I : Calls} {Q : Post} {h : Heap}
theorem sum_set : ∀ (l : List Nat) (i x v : Nat), l[i]? = some x → (l.set i v).sum + x = l.sum + v
  | [], i, _, _, h => by simp at h
  | y :: l, 0, x, v, h => by
    simp only [List.getElem?_cons_zero, Option.some.injEq] at h
    subst h
    simp only [List.set_cons_zero, List.sum_cons]; omega
  | y :: l, i + 1, x, v, h => by
    have := sum_set l i x v (by simpa using h)
    simp only [List.set_cons_succ, List.sum_cons]; omega
end
end Go.Proofs.YtmjfeabnioclgaaGreatDoorVc
-- from SpSpec3
namespace Go.Proofs.YtmjfeabnioclgaaGreatDoorVc
open Go.Proofs.YtmjfeabnioclgaaGreatDoorShares
open Go.Proofs.Tryz (prog)
/-- Two cells an element. -/
def twos (ps : List (Int × Int)) : List Cell := ps.flatMap fun p => [.int .i64 p.1, .int .i64 p.2]
theorem twos_length : ∀ ps, (twos ps).length = ps.length * 2
  | [] => rfl
  | p :: ps => by
    have := twos_length ps
    unfold twos at *
    rw [List.flatMap_cons, List.length_append, this]
    simp; omega
theorem twos_get : ∀ (ps : List (Int × Int)) (i : Nat) (a b : Int), ps[i]? = some (a, b) → ((twos ps).drop (i * 2)).take 2 = [.int .i64 a, .int .i64 b]
  | [], i, _, _, h => by simp at h
  | p :: ps, 0, a, b, h => by
    simp only [List.getElem?_cons_zero, Option.some.injEq] at h
    subst h
    simp [twos]
  | p :: ps, i + 1, a, b, h => by
    have := twos_get ps i a b (by simpa using h)
    unfold twos at *
    rw [List.flatMap_cons, show (i + 1) * 2 = i * 2 + 2 by omega]
    rw [List.drop_append]
    simpa using this
section
variable {I : Calls} {Q : Post} {h : Heap}
theorem At.two {s : Sl} {ps : List (Int × Int)} {i : Nat} {a b : Int} {f : Nat → Nat → T} (hs : At h 2 s (twos ps)) (hx : ps[i]? = some (a, b)) (hk : ∀ bb o, h.read bb (o + (i : Int).toNat * 2) 2 = some [.int .i64 a, .int .i64 b] → f bb o h) : derefK s.a f h := by
  have hlt : i < ps.length := (List.getElem?_eq_some_iff.1 hx).1
  obtain ⟨bb, o, ha, hr⟩ := hs.lies (by rw [twos_length]; omega)
  refine derefK_intro ha (hk bb o ?_)
  rw [Int.toNat_natCast, read_part hr (by rw [twos_length]; omega), twos_get ps i a b hx]
/-- The fractions of weights. -/
def fracs (all : Nat) (ws : List Nat) : List (Int × Int) := ws.map fun w => (((w / Nat.gcd w all : Nat) : Int), ((all / Nat.gcd w all : Nat) : Int))
end
end Go.Proofs.YtmjfeabnioclgaaGreatDoorVc
-- from LaDeal
namespace Go.Proofs.YtmjfeabnioclgaaGreatDoorVc
open Go.Proofs.YtmjfeabnioclgaaGreatDoorLasts
open Go.Proofs.YtmjfeabnioclgaaGreatDoorShares (at_ qs rs left_ok)
open Go.Proofs.Tryz (prog)
def givenL (rs : List Nat) (k : Nat) : List Bool := (List.range rs.length).map fun i => decide (rank rs i < k)
theorem givenL_length (rs : List Nat) (k : Nat) : (givenL rs k).length = rs.length := by simp [givenL]
theorem givenL_get {rs : List Nat} {k i : Nat} (hi : i < rs.length) : (givenL rs k)[i]? = some (decide (rank rs i < k)) := by
  unfold givenL; rw [List.getElem?_map, List.getElem?_range hi]; rfl
theorem givenL_zero (rs : List Nat) : givenL rs 0 = List.replicate rs.length false := by
  apply List.ext_getElem?
  intro i
  rcases Nat.lt_or_ge i rs.length with hi | hi
  · rw [givenL_get hi, List.getElem?_replicate, if_pos hi]; simp
  · rw [List.getElem?_eq_none (by rw [givenL_length]; exact hi), List.getElem?_eq_none (by simpa using hi)]
theorem givenL_step {rs : List Nat} {k i : Nat} (hi : i < rs.length) (hr : rank rs i = k) : (givenL rs k).set i true = givenL rs (k + 1) := by
  apply List.ext_getElem?
  intro j
  rw [List.getElem?_set]
  rcases Nat.lt_or_ge j rs.length with hj | hj
  · split
    · rename_i h
      subst h
      rw [if_pos (by rw [givenL_length]; exact hi), givenL_get hi]
      simp [hr]
    · rename_i h
      rw [givenL_get hj, givenL_get hj]
      have : rank rs j ≠ k := fun e => h (rank_inj (rs := rs) hi hj (by rw [hr, e]))
      congr 1
      rw [decide_eq_decide]
      omega
  · rw [if_neg (by omega), List.getElem?_eq_none (by rw [givenL_length]; exact hj), List.getElem?_eq_none (by rw [givenL_length]; exact hj)]
section
variable {I : Calls} {Q : Post} {h : Heap}
end
end Go.Proofs.YtmjfeabnioclgaaGreatDoorVc
-- from LaDivide
namespace Go.Proofs.YtmjfeabnioclgaaGreatDoorVc
open Go.Proofs.YtmjfeabnioclgaaGreatDoorLasts
open Go.Proofs.YtmjfeabnioclgaaGreatDoorShares (at_ qs rs left_ok)
open Go.Proofs.Tryz (prog)
section
variable {I : Calls} {Q : Post} {h : Heap}
end
end Go.Proofs.YtmjfeabnioclgaaGreatDoorVc
-- from MaSpec2
namespace Go.Proofs.YtmjfeabnioclgaaGreatDoorVc
open Go.Proofs.Tryz (prog)
section
variable {I : Calls} {Q : Post} {h : Heap}
theorem specRange (hI : Closed' prog Pm I) {i : Nat} {l : Sl} {zs : List Int} {t : Nat} {a b : Int} (S : Strm h i l zs t) (h1 : a ≤ b) (h2 : -1000000000 < a) (h3 : b < 1000000000)
    (hQ : ∀ v, a ≤ v → v ≤ b → Q [int v] (h.set i (strm l (t + 1)))) : I 14 [.one (.ptr (some (i, 0))), int a, int b] Q h := by
  refine hI.go _ _ (den14 I _ a b Q) ?_
  refine ifT_dec (fun h => by omega) fun _ => ?_
  have ew : IntKind.i64.wrap (IntKind.i64.wrap (b - a) + 1) = b - a + 1 := by rw [w64 (n := b - a) (by omega) (by omega), w64 (by omega) (by omega)]
  rw [ew]
  refine spec18 hI S (by omega) (by omega) fun v h4 h5 => ⟨v, rfl, ?_⟩
  rw [w64 (by omega) (by omega)]
  exact hQ _ (by omega) (by omega)
/-! ### weights by ages -/
def wOf (how span : Int) (n i : Nat) (age : Int) : Int :=
  if (how = 1 ∧ 0 < i) ∨ (how = 2 ∧ i + 1 < n) then 0 else if how = 4 ∧ (i = 0 ∨ i + 1 = n) ∧ 2 < n then 2 else if how = 5 then (i : Int) + 1 else if how = 6 then 2 ^ (18 - (18 * age / span).toNat) else 1
theorem part {age span : Int} (h1 : 1 ≤ age) (h2 : age ≤ span) (h3 : span ≤ 4321440) : ∃ k : Nat, k ≤ 18 ∧ 18 * age / span = k ∧ IntKind.i64.wrap ((IntKind.i64.wrap (18 * age)).tdiv span) = k := by
  have e1 : IntKind.i64.wrap (18 * age) = 18 * age := w64 (by omega) (by omega)
  have h4 : 0 ≤ 18 * age / span := Int.ediv_nonneg (by omega) (by omega)
  have h5 : 18 * age / span ≤ 18 := by
    have : 18 * age / span < 19 := Int.ediv_lt_of_lt_mul (by omega) (by omega)
    omega
  refine ⟨(18 * age / span).toNat, by omega, by omega, ?_⟩
  rw [e1, Int.tdiv_eq_ediv_of_nonneg (by omega), w64 (by omega) (by omega)]
  omega
theorem pow18 : ∀ k : Nat, k ≤ 18 → shl .i64 1 (18 - (k : Int)) = 2 ^ (18 - k) := by decide
theorem halve : ∀ k : Nat, k < 18 → IntKind.i64.wrap (((2 : Int) ^ (18 - k)).tdiv 2) = 2 ^ (18 - (k + 1)) := by decide
end
end Go.Proofs.YtmjfeabnioclgaaGreatDoorVc
-- from MaSpec3
namespace Go.Proofs.YtmjfeabnioclgaaGreatDoorVc
open Go.Proofs.YtmjfeabnioclgaaGreatDoorLasts (shared)
open Go.Proofs.Tryz (prog)
/-- What is wrong with ages. -/
def scan (span : Int) : Option Int → List Int → Int
  | _, [] => 0
  | p, a :: l => if ¬ (1 ≤ a ∧ a ≤ span) then 1 else if (p.any fun q => decide (q < a)) = true then 7 else scan span (some a) l
def errA (how span : Int) (xs : List Int) : Int := if ¬ (1 ≤ how ∧ how ≤ 6) then 4 else if ¬ (1 ≤ span ∧ span ≤ 4321440) then 1 else if 12 < xs.length then 2 else scan span none xs
def prev (xs : List Int) (i : Nat) : Option Int := if i = 0 then none else xs[i - 1]?
def wList (how span : Int) (xs : List Int) : List Int := (List.range xs.length).map fun i => wOf how span xs.length i (xs.getD i 0)
theorem getD_of {xs : List Int} {i : Nat} {x : Int} (h : xs[i]? = some x) : xs.getD i 0 = x := by rw [List.getD_eq_getElem?_getD, h]; rfl
theorem scan_step {span : Int} {xs : List Int} {i : Nat} {x : Int} (hx : xs[i]? = some x) : scan span (prev xs i) (xs.drop i) = if ¬ (1 ≤ x ∧ x ≤ span) then 1 else if ((prev xs i).any fun q => decide (q < x)) = true then 7 else scan span (prev xs (i + 1)) (xs.drop (i + 1)) := by
  rw [drop_mid hx]
  show (if _ then _ else _) = _
  have : prev xs (i + 1) = some x := by unfold prev; simp [hx]
  rw [this]
theorem wList_take {how span : Int} {xs : List Int} {k : Nat} {x : Int} (hx : xs[k]? = some x) : (wList how span xs).take (k + 1) = (wList how span xs).take k ++ [wOf how span xs.length k x] := by
  have hlt : k < xs.length := (List.getElem?_eq_some_iff.1 hx).1
  unfold wList
  rw [take_succ_map (fun i => wOf how span xs.length i (xs.getD i 0)) (List.getElem?_range hlt), getD_of hx]
section
variable {I : Calls} {Q : Post} {h : Heap}
end
end Go.Proofs.YtmjfeabnioclgaaGreatDoorVc
-- from GsOld
namespace Go.Proofs.YtmjfeabnioclgaaGreatDoorVc
open Go.Proofs.Tryz (prog)
section
variable {I : Calls} {Q : Post} {h : Heap}
/-! ### the stream -/
/-! ### codes -/
/-! ### looking a string up -/
end
end Go.Proofs.YtmjfeabnioclgaaGreatDoorVc
-- from CcSpec2
namespace Go.Proofs.YtmjfeabnioclgaaGreatDoorVc
open Go.Proofs.Tryz (prog)
section
variable {I : Calls} {Q : Post} {h : Heap}
end
end Go.Proofs.YtmjfeabnioclgaaGreatDoorVc
-- from CcSpec4
namespace Go.Proofs.YtmjfeabnioclgaaGreatDoorVc
open Go.Proofs.Tryz (prog)
section
variable {I : Calls} {Q : Post} {h : Heap}
end
end Go.Proofs.YtmjfeabnioclgaaGreatDoorVc
-- from CnSpec
namespace Go.Proofs.YtmjfeabnioclgaaGreatDoorVc
open Go.Proofs.Tryz (prog)
section
variable {I : Calls} {Q : Post} {h : Heap}
end
end Go.Proofs.YtmjfeabnioclgaaGreatDoorVc
-- from CsBits
namespace Go.Proofs.YtmjfeabnioclgaaGreatDoorVc
open Go.Proofs.Tryz (prog)
section
variable {I : Calls} {Q : Post} {h : Heap}
end
end Go.Proofs.YtmjfeabnioclgaaGreatDoorVc
-- from CsSort
namespace Go.Proofs.YtmjfeabnioclgaaGreatDoorVc
open Go.Proofs.Tryz (prog)
section
variable {I : Calls} {Q : Post} {h : Heap}
end
end Go.Proofs.YtmjfeabnioclgaaGreatDoorVc
-- from CsSpec1
namespace Go.Proofs.YtmjfeabnioclgaaGreatDoorVc
open Go.Proofs.Tryz (prog)
section
variable {I : Calls} {Q : Post} {h : Heap}
/-! ### the stream's block, among one's own -/
end
end Go.Proofs.YtmjfeabnioclgaaGreatDoorVc
-- from CsSpec2
namespace Go.Proofs.YtmjfeabnioclgaaGreatDoorVc
open Go.Proofs.YtmjfeabnioclgaaGreatDoorShares
open Go.Proofs.Tryz (prog)
section
variable {I : Calls} {Q : Post} {h : Heap}
end
end Go.Proofs.YtmjfeabnioclgaaGreatDoorVc
-- from CsSpec3
namespace Go.Proofs.YtmjfeabnioclgaaGreatDoorVc
open Go.Proofs.YtmjfeabnioclgaaGreatDoorShares
open Go.Proofs.Tryz (prog)
section
variable {I : Calls} {Q : Post} {h : Heap}
end
end Go.Proofs.YtmjfeabnioclgaaGreatDoorVc
-- from SpSort
namespace Go.Proofs.YtmjfeabnioclgaaGreatDoorVc
open Go.Proofs.Tryz (prog)
section
variable {I : Calls} {Q : Post} {h : Heap}
end
end Go.Proofs.YtmjfeabnioclgaaGreatDoorVc
-- from SpSpec1
namespace Go.Proofs.YtmjfeabnioclgaaGreatDoorVc
open Go.Proofs.YtmjfeabnioclgaaGreatDoorShares
open Go.Proofs.Tryz (prog)
section
variable {I : Calls} {Q : Post} {h : Heap}
/-! ### weights -/
end
end Go.Proofs.YtmjfeabnioclgaaGreatDoorVc
-- from SpSpec2
namespace Go.Proofs.YtmjfeabnioclgaaGreatDoorVc
open Go.Proofs.YtmjfeabnioclgaaGreatDoorShares
open Go.Proofs.Tryz (prog)
section
variable {I : Calls} {Q : Post} {h : Heap}
end
end Go.Proofs.YtmjfeabnioclgaaGreatDoorVc
-- from SpSpec3
namespace Go.Proofs.YtmjfeabnioclgaaGreatDoorVc
open Go.Proofs.YtmjfeabnioclgaaGreatDoorShares
open Go.Proofs.Tryz (prog)
section
variable {I : Calls} {Q : Post} {h : Heap}
end
end Go.Proofs.YtmjfeabnioclgaaGreatDoorVc
-- from LaDeal
namespace Go.Proofs.YtmjfeabnioclgaaGreatDoorVc
open Go.Proofs.YtmjfeabnioclgaaGreatDoorLasts
open Go.Proofs.YtmjfeabnioclgaaGreatDoorShares (at_ qs rs left_ok)
open Go.Proofs.Tryz (prog)
section
variable {I : Calls} {Q : Post} {h : Heap}
end
end Go.Proofs.YtmjfeabnioclgaaGreatDoorVc
-- from LaDivide
namespace Go.Proofs.YtmjfeabnioclgaaGreatDoorVc
open Go.Proofs.YtmjfeabnioclgaaGreatDoorLasts
open Go.Proofs.YtmjfeabnioclgaaGreatDoorShares (at_ qs rs left_ok)
open Go.Proofs.Tryz (prog)
section
variable {I : Calls} {Q : Post} {h : Heap}
end
end Go.Proofs.YtmjfeabnioclgaaGreatDoorVc
-- from MaSpec2
namespace Go.Proofs.YtmjfeabnioclgaaGreatDoorVc
open Go.Proofs.Tryz (prog)
section
variable {I : Calls} {Q : Post} {h : Heap}
/-! ### weights by ages -/
end
end Go.Proofs.YtmjfeabnioclgaaGreatDoorVc
-- from MaSpec3
namespace Go.Proofs.YtmjfeabnioclgaaGreatDoorVc
open Go.Proofs.YtmjfeabnioclgaaGreatDoorLasts (shared)
open Go.Proofs.Tryz (prog)
section
variable {I : Calls} {Q : Post} {h : Heap}
end
end Go.Proofs.YtmjfeabnioclgaaGreatDoorVc
-- from GsOld2
namespace Go.Proofs.YtmjfeabnioclgaaGreatDoorVc
open Go.Proofs.Tryz (prog)
section
variable {I : Calls} {Q : Post} {h : Heap}
/-! ### the stream -/
/-! ### codes -/
/-! ### looking a string up -/
end
end Go.Proofs.YtmjfeabnioclgaaGreatDoorVc
-- from CcSpec2
namespace Go.Proofs.YtmjfeabnioclgaaGreatDoorVc
open Go.Proofs.Tryz (prog)
section
variable {I : Calls} {Q : Post} {h : Heap}
end
end Go.Proofs.YtmjfeabnioclgaaGreatDoorVc
-- from CcSpec4
namespace Go.Proofs.YtmjfeabnioclgaaGreatDoorVc
open Go.Proofs.Tryz (prog)
section
variable {I : Calls} {Q : Post} {h : Heap}
end
end Go.Proofs.YtmjfeabnioclgaaGreatDoorVc
-- from CnSpec
namespace Go.Proofs.YtmjfeabnioclgaaGreatDoorVc
open Go.Proofs.Tryz (prog)
section
variable {I : Calls} {Q : Post} {h : Heap}
end
end Go.Proofs.YtmjfeabnioclgaaGreatDoorVc
-- from CsSort
namespace Go.Proofs.YtmjfeabnioclgaaGreatDoorVc
open Go.Proofs.Tryz (prog)
section
variable {I : Calls} {Q : Post} {h : Heap}
end
end Go.Proofs.YtmjfeabnioclgaaGreatDoorVc
-- from CsSpec1
namespace Go.Proofs.YtmjfeabnioclgaaGreatDoorVc
open Go.Proofs.Tryz (prog)
section
variable {I : Calls} {Q : Post} {h : Heap}
/-! ### the stream's block, among one's own -/
end
end Go.Proofs.YtmjfeabnioclgaaGreatDoorVc
-- from SpSpec1
namespace Go.Proofs.YtmjfeabnioclgaaGreatDoorVc
open Go.Proofs.Tryz (prog)
section
variable {I : Calls} {Q : Post} {h : Heap}
/-! ### weights -/
end
end Go.Proofs.YtmjfeabnioclgaaGreatDoorVc
-- from QfSpec3
namespace Go.Proofs.YtmjfeabnioclgaaGreatDoorVc
open Go.Proofs.Tryz (prog)
section
variable {I : Calls} {Q : Post} {h : Heap}
end
end Go.Proofs.YtmjfeabnioclgaaGreatDoorVc
-- from SeSpec3
namespace Go.Proofs.YtmjfeabnioclgaaGreatDoorVc
open Go.Proofs.Tryz (prog)
section
variable {I : Calls} {Q : Post} {h : Heap}
end
end Go.Proofs.YtmjfeabnioclgaaGreatDoorVc
-- from GsSpec1
namespace Go.Proofs.YtmjfeabnioclgaaGreatDoorVc
open Go.Proofs.YtmjfeabnioclgaaGreatDoorLasts
open Go.Proofs.Tryz (prog)
theorem cmp_bytes : ∀ a b : List UInt8, (Lib.compareBytes a b < 0 ↔ a < b) ∧ (Lib.compareBytes a b = 0 → a = b)
  | [], [] => by simp [Lib.compareBytes]
  | [], _ :: _ => by simp [Lib.compareBytes]
  | _ :: _, [] => by simp [Lib.compareBytes]
  | x :: a, y :: b => by
    obtain ⟨h1, h2⟩ := cmp_bytes a b
    unfold Lib.compareBytes
    simp only [List.cons_lt_cons_iff]
    by_cases e1 : x < y
    · rw [if_pos e1]; simp [e1]
    · rw [if_neg e1]
      by_cases e2 : y < x
      · rw [if_pos e2]
        have : ¬ x = y := fun e => by subst e; exact e1 e2
        simp [e1, this]
      · rw [if_neg e2]
        have : x = y := UInt8.le_antisymm (UInt8.not_lt.1 e2) (UInt8.not_lt.1 e1)
        subst this
        rw [h1]
        refine ⟨?_, fun h => by rw [h2 h]⟩
        simp [UInt8.lt_irrefl]
/-- The letters that a stream draws. -/
def LS : List ByteArray := [⟨#[104, 101, 108, 108, 111]⟩, ⟨#[110, 101, 119, 115]⟩, ⟨#[111, 102, 102, 101, 114]⟩, ⟨#[]⟩, ⟨#[75, 101, 121]⟩, ⟨#[49, 97]⟩, ⟨#[88]⟩]
theorem inLS' {v : ByteArray} (h : v ∈ [(⟨#[104, 101, 108, 108, 111]⟩ : ByteArray), ⟨#[110, 101, 119, 115]⟩, ⟨#[111, 102, 102, 101, 114]⟩] ∨ v ∈ [(⟨#[]⟩ : ByteArray), ⟨#[75, 101, 121]⟩, ⟨#[49, 97]⟩]) : v ∈ LS := by
  unfold LS
  simp only [List.mem_cons, List.not_mem_nil, or_false] at h ⊢
  rcases h with (h | h | h) | (h | h | h) <;> simp [h]
theorem inLS {v : ByteArray} (h : v ∈ [(⟨#[]⟩ : ByteArray), ⟨#[88]⟩]) : v ∈ LS := by
  unfold LS
  simp only [List.mem_cons, List.not_mem_nil, or_false] at h ⊢
  rcases h with h | h <;> simp [h]
section
variable {I : Calls} {Q : Post} {h : Heap}
section
variable {hb : Heap} {i : Nat} {l : Sl} {zs : List Int} {t0 : Nat}
theorem spec19L (hI : Closed' prog Pm I) (S0 : Strm hb i l zs t0) {t : Nat} {L : List Ow} (o : Owns (hb.del i) h (owS i l t :: L)) (ht : t < 100000) {s : Sl} {xs : List ByteArray} (hs : ∀ ob, At (h.set i ob) 1 s (strs xs)) (h1 : xs ≠ []) (h2 : xs.length < 1000)
    (hQ : ∀ v t' h', (v ∈ xs ∨ v ∈ [(⟨#[]⟩ : ByteArray), ⟨#[75, 101, 121]⟩, ⟨#[49, 97]⟩]) → t' ≤ t + 2 → Owns (hb.del i) h' (owS i l t' :: L) → Q [str v] h') : I 19 [.one (.ptr (some (i, 0))), .one (.slice 1 s)] Q h := by
  refine hI.go _ _ (den19 I (some (i, 0)) s Q) ?_
  have S := o.toStrm S0 (t' := t) (by simp) (by omega)
  refine spec20 hI S (by decide) (by decide) fun b => ⟨b, rfl, ?_⟩
  have o1 := o.next (t' := t + 1)
  refine ifT_intro (fun _ => ?_) fun _ => ?_
  · refine newK_intro fun i7 h3 hn3 he3 => ?_
    have hne := o1.lit_ne hn3
    have o2 := o1.mono (he3 ▸ Ext.new hn3 : Ext _ h3)
    have S2 := o2.toStrm S0 (t' := t + 1) (by simp) (by omega)
    refine spec21 hI (xs := [⟨#[]⟩, ⟨#[75, 101, 121]⟩, ⟨#[49, 97]⟩]) S2 (lit_atC hne he3 rfl) (by simp) (by simp) fun v hv => ⟨v, rfl, hQ v _ _ (.inr hv) (by omega) (o2.next (t' := t + 1 + 1))⟩
  · have S1 := o1.toStrm S0 (t' := t + 1) (by simp) (by omega)
    refine spec21 hI S1 (by rw [set_set]; exact hs _) h1 h2 fun v hv => ⟨v, rfl, hQ v _ _ (.inl hv) (by omega) (o1.next (t' := t + 1 + 1))⟩
theorem spec4L (hI : Closed' prog Pm I) (S0 : Strm hb i l zs t0) {t : Nat} {L : List Ow} (o : Owns (hb.del i) h (owS i l t :: L)) (ht : t < 1000)
    (hQ : ∀ s' h' xs t', Owns (hb.del i) h' (owS i l t' :: (4, s', rows sentC xs) :: L) → t' ≤ t + 1000 → xs.length ≤ 30 → (∀ x ∈ xs, x.letter ∈ LS) → Q [.one (.slice 4 s')] h') : I 4 [.one (.ptr (some (i, 0))), int 20] Q h := by
  refine hI.go _ _ (den4 I (some (i, 0)) 20 Q) ?_
  have S := o.toStrm S0 (t' := t) (by simp) (by omega)
  have ew : IntKind.i64.wrap ((20 : Int) + 1) = 21 := by decide
  unfold vc4
  rw [ew]
  refine spec18 hI S (by decide) (by decide) fun n hn0 hn1 => ⟨n, rfl, ?_⟩
  refine loopK_intro (fun (a : Sl × Int × Int) h' m => ∃ j t' : Nat, (j : Int) ≤ n ∧ a.2.2 = j ∧ 30 - j = m ∧ t' ≤ t + 1 + 5 * j ∧ ∃ xs : List Sent, xs.length = j ∧ (∀ x ∈ xs, x.letter ∈ LS) ∧ Owns (hb.del i) h' (owS i l t' :: (4, a.1, rows sentC xs) :: L)) 30
    ⟨0, t + 1, by omega, rfl, rfl, by omega, [], rfl, (fun x hx => by cases hx), ((o.next (t' := t + 1)).none_ 4).perm (List.Perm.swap _ _ _)⟩ ?_
  rintro ⟨s, age, y⟩ h' m ⟨j, t', hj, rfl, rfl, ht', xs, hxl, hLS, o⟩
  dsimp only [uncur]
  have hal : s.len = xs.length := (o.at_ (s := s) (by simp)).rowsLen sentC_length (by decide)
  refine ifT_dec (fun hlt => ?_) (fun hge => ?_)
  · refine newK_intro fun i2 h2 hn2 he2 => ?_
    have hne2 := o.lit_ne hn2
    have o2 := o.mono (he2 ▸ Ext.new hn2 : Ext _ h2)
    refine spec6 hI (xs := [0, 1, 10, 100]) (o2.toStrm S0 (t' := t') (by simp) (by omega)) (lit_at hne2 he2 rfl) (by simp) (by simp) fun v _ => ⟨v, rfl, ?_⟩
    have o3 := o2.next (t' := t' + 1)
    have hes := encode_size (IntKind.i32.wrap (IntKind.i64.wrap (97 + (j : Int))))
    refine ⟨by omega, newK_intro fun i4 h4 hn4 he4 => ?_⟩
    have hne4 := o3.lit_ne hn4
    have o4 := o3.mono (he4 ▸ Ext.new hn4 : Ext _ h4)
    refine spec19 hI S0 o4 (by omega) (xs := [⟨#[97, 110, 110]⟩, ⟨#[98, 111]⟩]) (fun ob => lit_atC hne4 he4 rfl) (by simp) (by simp) fun p t5 h5 ht5 o5 => ⟨p, rfl, newK_intro fun i6 h6 hn6 he6 => ?_⟩
    have hne6 := o5.lit_ne hn6
    have o6 := o5.mono (he6 ▸ Ext.new hn6 : Ext _ h6)
    refine spec19L hI S0 o6 (by omega) (xs := [⟨#[104, 101, 108, 108, 111]⟩, ⟨#[110, 101, 119, 115]⟩, ⟨#[111, 102, 102, 101, 114]⟩]) (fun ob => lit_atC hne6 he6 rfl) (by simp) (by simp) fun q t7 h7 hq ht7 o7 => ⟨q, rfl, ?_⟩
    refine appendTo_owns (m := 0) (o7.perm (List.Perm.swap _ _ _)) (by rfl) (by omega) (by simp) fun b h8 o8 => ⟨30 - (j + 1), by omega, j + 1, t7, by omega, ?_, rfl, by omega, xs ++ [⟨(⟨#[115]⟩ : ByteArray) ++ Utf8.encode (IntKind.i32.wrap (IntKind.i64.wrap (97 + (j : Int)))), p, q, IntKind.i64.wrap (age + v)⟩], by simp [hxl], ?_, ?_⟩
    · show IntKind.i64.wrap ((j : Int) + 1) = _
      rw [w64] <;> omega
    · intro y hy
      rcases List.mem_append.1 hy with hy | hy
      · exact hLS y hy
      · have := List.mem_singleton.1 hy; subst this; exact inLS' hq
    · have := o8.perm (List.Perm.swap _ _ _)
      rw [rows_append]
      simpa [rows, sentC] using this
  · have S2 := o.toStrm S0 (t' := t') (by simp) (by omega)
    refine joinK_intro (fun (b : Bool) h3 => Owns (hb.del i) h3 (owS i l (t' + 1) :: (4, s, rows sentC xs) :: L) ∧ (b = true → 0 < xs.length)) ?_ ?_
    · rintro b h3 ⟨o3, hbp⟩
      refine ifT_intro (fun hbt => ?_) fun _ => hQ _ _ _ _ o3 (by omega) (by omega) hLS
      have hpos := hbp hbt
      have S3 := o3.toStrm S0 (t' := t' + 1) (by simp) (by omega)
      refine spec18 hI S3 (by omega) (by omega) fun e he0 he1 => ⟨e, rfl, ⟨he0, he1⟩, ?_⟩
      obtain ⟨e, rfl⟩ := Int.eq_ofNat_of_zero_le he0
      have o4 := o3.next (t' := t' + 1 + 1)
      obtain ⟨bs, hbs, _⟩ := o4.has (s := s) (cs := rows sentC xs) (sz := 4) (by simp) (fun h => by have := congrArg List.length h; rw [rows_length sentC_length] at this; simp at this; omega)
      rw [hbs] at o4 ⊢
      refine derefK_intro rfl ?_
      refine spec18 hI (o4.toStrm S0 (t' := t' + 1 + 1) (by simp) (by omega)) (by decide) (by decide) fun c hc0 hc1 => ⟨c, rfl, ?_⟩
      have o5 := o4.next (t' := t' + 1 + 1 + 1)
      have hx := List.getElem?_eq_getElem (show e < xs.length by omega)
      generalize xs[e] = x at hx
      -- one cell of one letter is turned
      have fin : ∀ (j2 : Nat) (c2 : Cell) (x' : Sent) (h9 : Heap) (t9 : Nat), j2 < 4 → x'.letter ∈ LS → (sentC x).set j2 c2 = sentC x' → t9 ≤ t' + 4 → Owns (hb.del i) h9 (owS i l t9 :: (4, ⟨some (bs, 0), s.len⟩, rows sentC xs) :: L) → storeK [] bs (0 + ((e : Nat) : Int).toNat * 4 + j2) [c2] (Q [.one (.slice 4 ⟨some (bs, 0), s.len⟩)]) h9 := by
        intro j2 c2 x' h9 t9 hj2 hxl' hset ht9 o9
        have o10 := o9.perm (List.Perm.swap _ _ _)
        have hcell := (o10.block List.mem_cons_self).1
        have hrl := rows_length sentC_length xs
        rw [Int.toNat_natCast, Nat.zero_add]
        refine storeK_one hcell (by rw [hrl]; omega) ?_
        rw [rows_set sentC_length hx hj2 hset]
        have o11 := (o10.change (n' := s.len) (sz' := 4) (cs' := rows sentC (xs.set e x')) (by rw [rows_length sentC_length]; simp; omega)).perm (List.Perm.swap _ _ _)
        refine hQ _ _ _ _ o11 (by omega) (by simp; omega) fun y hy => ?_
        rcases List.mem_or_eq_of_mem_set hy with hy | rfl
        · exact hLS y hy
        · exact hxl'
      refine ifT_dec (fun h1 => ?_) fun h1 => ifT_dec (fun h2 => ?_) fun h2 => ?_
      · refine newK_intro fun i6 h6 hn6 he6 => ?_
        have hne6 := o5.lit_ne hn6
        have o6 := o5.mono (he6 ▸ Ext.new hn6 : Ext _ h6)
        refine spec21 hI (xs := [⟨#[]⟩, ⟨#[115, 97]⟩, ⟨#[83]⟩]) (o6.toStrm S0 (t' := t' + 1 + 1 + 1) (by simp) (by omega)) (lit_atC hne6 he6 rfl) (by simp) (by simp) fun v _ => ⟨v, rfl, ?_⟩
        exact fin 0 (.str v) { x with id := v } _ (t' + 1 + 1 + 1 + 1) (by decide) (hLS x (List.mem_of_getElem? hx)) rfl (by omega) o6.next
      · refine newK_intro fun i6 h6 hn6 he6 => ?_
        have hne6 := o5.lit_ne hn6
        have o6 := o5.mono (he6 ▸ Ext.new hn6 : Ext _ h6)
        refine spec6 hI (xs := [-1, 4321440, 0]) (o6.toStrm S0 (t' := t' + 1 + 1 + 1) (by simp) (by omega)) (lit_at hne6 he6 rfl) (by simp) (by simp) fun v _ => ⟨v, rfl, ?_⟩
        exact fin 3 (.int .i64 v) { x with at_ := v } _ (t' + 1 + 1 + 1 + 1) (by decide) (hLS x (List.mem_of_getElem? hx)) rfl (by omega) o6.next
      · refine newK_intro fun i6 h6 hn6 he6 => ?_
        have hne6 := o5.lit_ne hn6
        have o6 := o5.mono (he6 ▸ Ext.new hn6 : Ext _ h6)
        refine spec21 hI (xs := [⟨#[]⟩, ⟨#[88]⟩]) (o6.toStrm S0 (t' := t' + 1 + 1 + 1) (by simp) (by omega)) (lit_atC hne6 he6 rfl) (by simp) (by simp) fun v hv => ⟨v, rfl, ?_⟩
        exact fin 2 (.str v) { x with letter := v } _ (t' + 1 + 1 + 1 + 1) (by decide) (inLS hv) rfl (by omega) o6.next
    · intro jk hjk
      refine spec20 hI S2 (by decide) (by decide) fun b => ⟨b, rfl, ?_⟩
      have o3 := o.next (t' := t' + 1)
      refine ifT_intro (fun _ => hjk _ _ ⟨o3, fun h => ?_⟩) fun _ => hjk _ _ ⟨o3, fun h => by cases h⟩
      have := of_decide_eq_true h
      omega
end
theorem insF_none {vk : VK} {s : Sl} {n1 n2 : Int} {p : Option (FuncId × List (Nat × Nat))} (h1 : 0 ≤ n1) (h2 : n2 ≤ n1 + 1) (h3 : n1 < 1000000000) (hQ : Q [] h) : insF vk I s n1 n2 p Q h := by
  unfold insF
  refine loopK_intro (fun (n : Int) h' m => h' = h ∧ n = n1 + 1) 0 ⟨rfl, w64 (by omega) (by omega)⟩ ?_
  rintro n h' m ⟨rfl, rfl⟩
  exact ifT_dec (fun h4 => by omega) fun _ => hQ
theorem spec75s (hI : Closed' prog Pm I) {x : Nat} (h1 : x < 256) (hQ : ∀ n, Q [int n] h) : I 75 [u64 x] Q h := by
  refine hI.go _ _ (den75 I x Q) ?_
  refine joinK_intro (fun (p : Int × Int) h' => h' = h ∧ p = ((x : Int), 0)) ?_ fun j hj => ifT_dec (fun h2 => by omega) fun _ => hj _ _ ⟨rfl, rfl⟩
  rintro _ h' ⟨rfl, rfl⟩
  dsimp only [uncur]
  refine ifT_dec (fun h2 => by omega) fun _ => ifT_dec (fun h2 => by omega) fun _ => ?_
  rw [w8 h1]
  exact ⟨⟨by omega, by show (x : Int) < ((256 : Nat) : Int); omega⟩, hQ _⟩
theorem spec53 (hI : Closed' prog Pm I) {x : Nat} (h1 : x < 256) (hQ : ∀ n, Q [int n] h) : I 53 [u64 x] Q h := by
  refine hI.go _ _ (den53 I x Q) ?_
  exact spec75s hI h1 fun n => ⟨n, rfl, hQ n⟩
end
end Go.Proofs.YtmjfeabnioclgaaGreatDoorVc
