/- Contracts about keys: of the program, and of the document's answer (strings.Trim at a set of ASCII signs). -/
import Derived.Test.YtihnjdhjkpmggaaDoorVcSeSpec1
import Derived.Test.YtihnjdhjkpmggaaDoorVcStrB
set_option linter.unusedSimpArgs false
set_option linter.unusedVariables false
namespace Go.Proofs.YtihnjdhjkpmggaaDoorVc
open Go.Proofs.Tryd (prog)

section
variable {I : Calls} {Q : Post} {h : Heap}

theorem spec79 (hI : Closed' prog Pm I) {n a b : Int} (hQ : Q [boo (decide (a ≤ n) && decide (n ≤ b))] h) : I 79 [int n, int a, int b] Q h := by
  refine hI.go _ _ (den79 I n a b Q) ?_
  refine ifT_dec (fun h1 => ?_) (fun h1 => ?_)
  · simpa [h1] using hQ
  · simpa [h1] using hQ
theorem spec95 (hI : Closed' prog Pm I) {n a b : Int} (hQ : Q [boo (decide (a ≤ n) && decide (n ≤ b))] h) : I 95 [int n, int a, int b] Q h := by
  refine hI.go _ _ (den95 I n a b Q) ?_
  refine ifT_dec (fun h1 => ?_) (fun h1 => ?_)
  · simpa [h1] using hQ
  · simpa [h1] using hQ
abbrev u8 (b : UInt8) : V := .one (.int .u8 (b.toNat : Int))
theorem spec80 (hI : Closed' prog Pm I) {b : UInt8} (hQ : Q [boo (smallB b)] h) : I 80 [u8 b] Q h := by
  refine hI.go _ _ (den80 I _ Q) ?_
  unfold smallB at hQ
  refine ifT_dec (fun h1 => ?_) (fun h1 => ?_)
  · have e : decide (97 ≤ b.toNat) = true := by simp; omega
    rw [e, Bool.true_and] at hQ
    have e2 : decide ((b.toNat : Int) ≤ 122) = decide (b.toNat ≤ 122) := by rw [decide_eq_decide]; omega
    rw [e2]; exact hQ
  · have e : decide (97 ≤ b.toNat) = false := by simp; omega
    rw [e, Bool.false_and] at hQ
    exact hQ
theorem spec83 (hI : Closed' prog Pm I) {b : UInt8} (hQ : Q [boo (digitB b)] h) : I 83 [u8 b] Q h := by
  refine hI.go _ _ (den83 I _ Q) ?_
  unfold digitB at hQ
  refine ifT_dec (fun h1 => ?_) (fun h1 => ?_)
  · have e : decide (48 ≤ b.toNat) = true := by simp; omega
    rw [e, Bool.true_and] at hQ
    have e2 : decide ((b.toNat : Int) ≤ 57) = decide (b.toNat ≤ 57) := by rw [decide_eq_decide]; omega
    rw [e2]; exact hQ
  · have e : decide (48 ≤ b.toNat) = false := by simp; omega
    rw [e, Bool.false_and] at hQ
    exact hQ
theorem spec82 (hI : Closed' prog Pm I) {b : UInt8} (hQ : Q [boo (keyB b)] h) : I 82 [u8 b] Q h := by
  refine hI.go _ _ (den82 I _ Q) ?_
  unfold keyB at hQ
  refine spec80 hI ⟨_, rfl, ifT_intro (fun h1 => ?_) fun h1 => spec83 hI ⟨_, rfl, ifT_intro (fun h2 => ?_) fun h2 => ifT_dec (fun h3 => ?_) fun h3 => ?_⟩⟩
  · rw [h1] at hQ; simpa using hQ
  · rw [h1, h2] at hQ; simpa using hQ
  · have e : decide (b.toNat = 45) = true := by simp; omega
    rw [h1, h2, e] at hQ; simpa using hQ
  · have e : decide (b.toNat = 45) = false := by simp; omega
    rw [h1, h2, e] at hQ
    have e2 : decide ((b.toNat : Int) = 95) = decide (b.toNat = 95) := by rw [decide_eq_decide]; omega
    rw [e2]; simpa using hQ
theorem all_take_step {l : List UInt8} {p : UInt8 → Bool} {i : Nat} {b : UInt8} (hb : l[i]? = some b) : (l.take (i + 1)).all p = ((l.take i).all p && p b) := by
  rw [List.take_add_one, hb]
  show (l.take i ++ [b]).all p = _
  rw [List.all_append]; simp
theorem spec81 (hI : Closed' prog Pm I) {s : ByteArray} (hl : s.size < 1000) (hQ : Q [boo ((bl s).all keyB)] h) : I 81 [str s, .one (.func (some (82, [])))] Q h := by
  refine hI.go _ _ (den81 I s _ Q) ?_
  refine loopK_intro (fun (a : Int) h' m => h' = h ∧ ∃ i : Nat, i ≤ s.size ∧ a = i ∧ m = s.size - i ∧ ((bl s).take i).all keyB = true) s.size ⟨rfl, 0, by omega, rfl, rfl, rfl⟩ ?_
  rintro a h' m ⟨rfl, i, hi, rfl, rfl, hall⟩
  refine ifT_dec (fun hlt => ⟨⟨by omega, hlt⟩, ?_⟩) (fun hge => ?_)
  · have hlt' : i < (bl s).length := by rw [← bl_size]; omega
    have hb := List.getElem?_eq_getElem hlt'
    generalize (bl s)[i] = b at hb
    rw [byteAt_bl hb]
    refine spec82 hI ⟨_, rfl, ifT_intro (fun h1 => ?_) fun h1 => ?_⟩
    · have e : (bl s).all keyB = false := by
        rw [List.all_eq_false]
        exact ⟨b, List.mem_of_getElem? hb, by simpa using h1⟩
      rw [e] at hQ; exact hQ
    · refine ⟨s.size - (i + 1), by omega, rfl, i + 1, by omega, by rw [w64] <;> omega, rfl, ?_⟩
      rw [all_take_step hb, hall]
      simpa using h1
  · have : i = s.size := by omega
    subst this
    rw [bl_size, List.take_length] at hall
    rw [hall] at hQ
    exact hQ
theorem spec43 (hI : Closed' prog Pm I) {s : ByteArray} (hQ : Q [boo (isKey s)] h) : I 43 [str s] Q h := by
  refine hI.go _ _ (den43 I s Q) ?_
  unfold isKey at hQ
  have hsz := bl_size s
  refine spec79 hI ⟨_, rfl, ifT_intro (fun hb => ?_) fun hb => ?_⟩
  · have hb' : 1 ≤ s.size ∧ s.size ≤ 40 := by simp at hb; omega
    cases hl : bl s with
    | nil =>
      rw [hl] at hsz
      have : s.size = 0 := hsz
      omega
    | cons b l =>
      have h0 : (bl s)[0]? = some b := by rw [hl]; rfl
      have e0 := byteAt_bl h0
      rw [hl] at hQ
      have e1 : decide (l.length + 1 ≤ 40) = true := by rw [hl] at hsz; simp at hsz ⊢; omega
      refine ⟨⟨by decide, by omega⟩, ?_⟩
      have e0' : byteAt s 0 = (b.toNat : Int) := e0
      rw [e0']
      simp only [isKeyL, e1, Bool.true_and] at hQ
      refine spec80 hI ⟨_, rfl, ifT_intro (fun h1 => ?_) fun h1 => ?_⟩
      · rw [h1, Bool.true_and, ← hl] at hQ
        exact spec81 hI (by omega) ⟨_, rfl, hQ⟩
      · rw [h1, Bool.false_and] at hQ
        exact hQ
  · have hb' : ¬ (1 ≤ s.size ∧ s.size ≤ 40) := fun h => by
      have : (decide ((1 : Int) ≤ (s.size : Int)) && decide ((s.size : Int) ≤ 40)) = true := by simp; omega
      rw [this] at hb; cases hb
    have e : isKeyL (bl s) = false := by
      cases hl : bl s with
      | nil => rfl
      | cons b l =>
        have : decide (l.length + 1 ≤ 40) = false := by rw [hl] at hsz; simp at hsz ⊢; omega
        simp only [isKeyL, this, Bool.false_and]
    rw [e] at hQ
    exact hQ

/-! ### strings.Trim -/
theorem storeK_whole {i : Nat} {cs ns : List Cell} {k : T} (hi : h i = some (.cells false cs)) (hl : ns.length = cs.length) (hk : k (h.set i (.cells false ns))) : storeK [] i 0 ns k h := by
  have e : updCells cs 0 ns = ns := by
    rw [updCells_eq cs 0 ns (by omega)]
    unfold splice
    simp [hl]
  refine ⟨cs, hi, by omega, ?_⟩
  show k (h.set i (.cells false (updCells cs 0 ns)))
  rw [e]
  exact hk

theorem spec105 (hI : Closed' prog Pm I) {c : ByteArray} (hc : ∀ b ∈ bl c, b.toNat < 128) (hl : c.size < 1000) (hQ : ∀ h', Ext h h' → Q [.agg (setC (inC (bl c))), boo true] h') : I 105 [str c] Q h := by
  refine hI.go _ _ (den105 I c Q) ?_
  refine newK_intro fun i2 h2 hn2 he2 => ?_
  refine loopK_intro (fun (a : Int) h' m => ∃ i : Nat, i ≤ c.size ∧ a = i ∧ m = c.size - i ∧ h' = h.set i2 (.cells false (setC (inC ((bl c).take i))))) c.size ⟨0, by omega, rfl, rfl, by rw [he2]; rw [← setC_none]; rfl⟩ ?_
  rintro a h' m ⟨i, hi, rfl, rfl, rfl⟩
  refine ifT_dec (fun hlt => ⟨⟨by omega, hlt⟩, ?_⟩) (fun hge => ?_)
  · have hlt' : i < (bl c).length := by rw [← bl_size]; omega
    have hb := List.getElem?_eq_getElem hlt'
    have hbm := hc _ (List.getElem_mem hlt')
    generalize (bl c)[i] = b at hb hbm
    rw [byteAt_bl hb]
    refine ifT_dec (fun h1 => by omega) fun h1 => ⟨⟨by omega, by omega⟩, ?_⟩
    rw [Int.toNat_natCast, Nat.mul_one, Nat.zero_add]
    refine storeK_one (set_eq _ _ _) (by rw [setC_length]; omega) ⟨c.size - (i + 1), by omega, i + 1, by omega, by rw [w64] <;> omega, rfl, ?_⟩
    rw [set_set]
    congr 2
    refine setC_set _ _ (by omega) fun n => ?_
    unfold inC
    rw [List.take_add_one, hb]
    show (((bl c).take i) ++ [b]).any _ = _
    rw [List.any_append]
    simp only [List.any_cons, List.any_nil, Bool.or_false]
    rw [Bool.or_comm]
    congr 1
    rw [decide_eq_decide]
    omega
  · have : i = c.size := by omega
    subst this
    rw [bl_size, List.take_length]
    have hr : ∀ h0 : Heap, h0 i2 = some (.cells false (setC (inC (bl c)))) → h0.read i2 0 256 = some (setC (inC (bl c))) := fun h0 hh => by
      rw [read_block hh (by rw [setC_length]; omega), List.drop_zero, List.take_of_length_le (by rw [setC_length]; omega)]
    refine exCells_in (setC_fits (inC (bl c))) ⟨hr _ (set_eq _ _ _), storeK_whole (set_eq _ _ _) rfl ?_⟩
    refine exCells_in (setC_fits (inC (bl c))) ⟨hr _ (set_eq _ _ _), ?_⟩
    rw [set_set]
    exact hQ _ (Ext.new hn2)

theorem spec111 (hI : Closed' prog Pm I) {i : Nat} {S : Nat → Bool} {b : UInt8} (hi : h i = some (.cells false (setC S))) (hQ : Q [boo (S b.toNat)] h) : I 111 [.one (.ptr (some (i, 0))), u8 b] Q h := by
  refine hI.go _ _ (den111 I _ _ Q) ?_
  have hb := b.toNat_lt
  refine derefK_intro rfl ⟨⟨by omega, by omega⟩, S b.toNat, ?_, hQ⟩
  rw [Int.toNat_natCast, Nat.mul_one, Nat.zero_add]
  exact read_cell hi (setC_get _ (by omega))

/-- From the right: what is left ends in a sign that is not of the set. -/
theorem spec107 (hI : Closed' prog Pm I) {i : Nat} {S : Nat → Bool} {s : ByteArray} (hi : h i = some (.cells false (setC S))) (hl : s.size < 1000)
    (hQ : ∀ m, m ≤ s.size → (∀ j b, m ≤ j → (bl s)[j]? = some b → S b.toNat = true) → (∀ b, 0 < m → (bl s)[m - 1]? = some b → S b.toNat = false) → ∀ t, bl t = (bl s).take m → Q [str t] h) : I 107 [str s, .one (.ptr (some (i, 0)))] Q h := by
  refine hI.go _ _ (den107 I s _ Q) ?_
  refine loopK_intro (fun (a : ByteArray) h' m => h' = h ∧ m ≤ s.size ∧ bl a = (bl s).take m ∧ ∀ j b, m ≤ j → (bl s)[j]? = some b → S b.toNat = true) s.size ⟨rfl, by omega, by rw [bl_size, List.take_length], fun j b hj hb => by
    rw [List.getElem?_eq_none (by rw [← bl_size]; omega)] at hb; cases hb⟩ ?_
  rintro a h' m ⟨rfl, hm, ha, hall⟩
  have hsz : a.size = m := by rw [bl_size, ha, List.length_take, ← bl_size]; omega
  refine ifT_dec (fun hlt => ⟨⟨?_, ?_⟩, ?_⟩) (fun hge => ?_)
  · rw [w64] <;> omega
  · rw [w64] <;> omega
  · have hm1 : m - 1 < (bl s).length := by rw [← bl_size]; omega
    have hb := List.getElem?_eq_getElem hm1
    generalize (bl s)[m - 1] = b at hb
    have hb' : (bl a)[m - 1]? = some b := by rw [ha, List.getElem?_take_of_lt (by omega)]; exact hb
    have ew : IntKind.i64.wrap ((a.size : Int) - 1) = ((m - 1 : Nat) : Int) := by rw [w64] <;> omega
    rw [ew, byteAt_bl hb']
    refine spec111 hI hi ⟨_, rfl, ifT_intro (fun h1 => ?_) fun h1 => ⟨⟨by decide, by omega, by omega⟩, m - 1, by omega, rfl, by omega, ?_, fun j b' hj hb2 => ?_⟩⟩
    · exact hQ m hm hall (fun b2 _ hb2 => by rw [hb] at hb2; cases hb2; simpa using h1) a ha
    · rw [bl_extract, ha, Int.toNat_natCast, List.drop_zero, List.take_take]
      congr 1
      omega
    · rcases Nat.lt_or_ge j m with h2 | h2
      · have : j = m - 1 := by omega
        subst this
        rw [hb] at hb2
        cases hb2
        simpa using h1
      · exact hall j b' h2 hb2
  · have : m = 0 := by omega
    subst this
    exact hQ 0 hm hall (fun _ h => by omega) a ha

/-- From the left: nothing is left just where all signs are of the set. -/
theorem spec106 (hI : Closed' prog Pm I) {i : Nat} {S : Nat → Bool} {s : ByteArray} (hi : h i = some (.cells false (setC S))) (hl : s.size < 1000)
    (hQ : ∀ t, (bl t = [] ↔ ∀ b ∈ bl s, S b.toNat = true) → Q [str t] h) : I 106 [str s, .one (.ptr (some (i, 0)))] Q h := by
  refine hI.go _ _ (den106 I s _ Q) ?_
  refine loopK_intro (fun (a : ByteArray) h' m => h' = h ∧ a.size = m ∧ m < 1000 ∧ ((∀ b ∈ bl a, S b.toNat = true) ↔ ∀ b ∈ bl s, S b.toNat = true)) s.size ⟨rfl, rfl, hl, Iff.rfl⟩ ?_
  rintro a h' m ⟨rfl, hm, hm2, hall⟩
  refine ifT_dec (fun hlt => ⟨⟨by decide, by omega⟩, ?_⟩) (fun hge => ?_)
  · cases ha : bl a with
    | nil => rw [bl_size, ha] at hlt; simp at hlt
    | cons b l =>
      have hb : (bl a)[0]? = some b := by rw [ha]; rfl
      have e0 : byteAt a 0 = (b.toNat : Int) := byteAt_bl hb
      rw [e0]
      rw [ha] at hall
      refine spec111 hI hi ⟨_, rfl, ifT_intro (fun h1 => ?_) fun h1 => ⟨⟨by decide, by omega, by omega⟩, m - 1, by omega, rfl, ?_, by omega, ?_⟩⟩
      · have h1' : S b.toNat = false := by simpa using h1
        refine hQ a ⟨fun h => by (rw [ha] at h; cases h), fun h => ?_⟩
        have := hall.2 h b (by simp)
        rw [h1'] at this; cases this
      · rw [bl_size, bl_extract, ha]
        have : (b :: l).length = m := by rw [← ha, ← bl_size]; exact hm
        simp at this ⊢
        omega
      · rw [← hall, bl_extract, ha, Int.toNat_natCast]
        have hl' : (b :: l).length = a.size := by rw [← ha, ← bl_size]
        have e : ((b :: l).drop 1).take (a.size - 1) = l := by
          simp only [List.drop_succ_cons, List.drop_zero]
          exact List.take_of_length_le (by simp at hl'; omega)
        rw [e]
        have h1' : S b.toNat = true := by simpa using h1
        constructor
        · intro h2 b' hb'
          rcases List.mem_cons.1 hb' with rfl | hb'
          · exact h1'
          · exact h2 b' hb'
        · intro h2 b' hb'
          exact h2 b' (by simp [hb'])
  · have h0 : bl a = [] := List.length_eq_zero_iff.1 (by rw [← bl_size]; omega)
    rw [h0] at hall
    exact hQ a ⟨fun _ => hall.1 (by simp), fun _ => h0⟩

theorem spec96 (hI : Closed' prog Pm I) {s c : ByteArray} (hc : ∀ b ∈ bl c, b.toNat < 128) (hcl : c.size < 1000) (hc2 : 2 ≤ c.size) (hs : s.size < 1000) (hs0 : 0 < s.size)
    (hQ : ∀ h', Ext h h' → Q [boo ((bl s).all fun b => inC (bl c) b.toNat)] h') : I 96 [str s, str c] Q h := by
  refine hI.go _ _ (den96 I s c Q) ?_
  refine hI.go _ _ (den101 I s c _) ?_
  have hsn : s ≠ ⟨#[]⟩ := fun e => by rw [e] at hs0; exact absurd hs0 (by decide)
  have hcn : c ≠ ⟨#[]⟩ := fun e => by rw [e] at hc2; exact absurd hc2 (by decide)
  refine joinK_intro (fun (b : Bool) h' => h' = h ∧ b = false) ?_ fun j hj => ifT_dec (fun h => absurd h hsn) fun _ => hj _ _ ⟨rfl, by simpa using hcn⟩
  rintro _ h' ⟨rfl, rfl⟩
  refine ifT_intro (fun h => by cases h) fun _ => ?_
  refine joinK_intro (fun (b : Bool) h'' => h'' = h' ∧ b = false) ?_ fun j hj => ifT_dec (fun h => by omega) fun _ => hj _ _ ⟨rfl, rfl⟩
  rintro _ h'' ⟨rfl, rfl⟩
  refine ifT_intro (fun h => by cases h) fun _ => ?_
  refine spec105 hI hc hcl fun h3 x3 => exCells_in (setC_fits (inC (bl c))) ⟨true, rfl, newK_intro fun i4 h4 hn4 he4 => ?_⟩
  have x4 : Ext h3 h4 := he4 ▸ Ext.new hn4
  refine storeK_whole (cs := List.replicate 256 (.bool false)) (by rw [he4, set_eq]) (by rw [setC_length, List.length_replicate]) ?_
  rw [he4, set_set]
  have x5 : Ext h'' (h3.set i4 (.cells false (setC (inC (bl c))))) := x3.trans (Ext.new hn4)
  have hi := set_eq h3 i4 (.cells false (setC (inC (bl c))))
  refine ifT_intro (fun _ => ?_) fun h => by cases h
  refine spec107 hI hi hs fun m hm hm1 hm2 t ht => ⟨_, rfl, ?_⟩
  refine spec106 hI hi (by rw [bl_size, ht, List.length_take, ← bl_size]; omega) fun r hr => ⟨_, rfl, _, rfl, ?_⟩
  have e : decide (r = (⟨#[]⟩ : ByteArray)) = (bl s).all fun b => inC (bl c) b.toNat := by
    rw [Bool.eq_iff_iff, decide_eq_true_iff, List.all_eq_true, bl_nil, hr]
    constructor
    · intro h1 b hb
      obtain ⟨j, hj, rfl⟩ := List.getElem_of_mem hb
      rcases Nat.lt_or_ge j m with h2 | h2
      · refine h1 _ ?_
        rw [ht]
        exact List.mem_of_getElem? (by rw [List.getElem?_take_of_lt h2]; exact List.getElem?_eq_getElem hj)
      · exact hm1 j _ h2 (List.getElem?_eq_getElem hj)
    · intro h1 b hb
      rw [ht] at hb
      exact h1 b (List.mem_of_mem_take hb)
  show Q [boo (decide (r = (⟨#[]⟩ : ByteArray)))] _
  rw [e]
  exact hQ _ x5

def smallsS : ByteArray := ⟨#[97, 98, 99, 100, 101, 102, 103, 104, 105, 106, 107, 108, 109, 110, 111, 112, 113, 114, 115, 116, 117, 118, 119, 120, 121, 122]⟩
def keysS : ByteArray := ⟨#[97, 98, 99, 100, 101, 102, 103, 104, 105, 106, 107, 108, 109, 110, 111, 112, 113, 114, 115, 116, 117, 118, 119, 120, 121, 122, 48, 49, 50, 51, 52, 53, 54, 55, 56, 57, 45, 95]⟩
theorem smalls_in : ∀ n : Nat, n < 256 → inC (bl smallsS) n = smallB n.toUInt8 := by decide +kernel
theorem keys_in : ∀ n : Nat, n < 256 → inC (bl keysS) n = keyB n.toUInt8 := by decide +kernel

theorem spec45 (hI : Closed' prog Pm I) {s : ByteArray} (hQ : ∀ h', Ext h h' → Q [boo (isKey s)] h') : I 45 [str s] Q h := by
  refine hI.go _ _ (den45 I s Q) ?_
  refine hI.go _ _ (den84 I s _) ?_
  unfold isKey at hQ
  have hsz := bl_size s
  refine spec95 hI ⟨_, rfl, ifT_intro (fun hb => ?_) fun hb => ?_⟩
  · have hb' : 1 ≤ s.size ∧ s.size ≤ 40 := by simp at hb; omega
    cases hl : bl s with
    | nil =>
      rw [hl] at hsz
      have : s.size = 0 := hsz
      omega
    | cons b l =>
      rw [hl] at hQ
      have e1 : decide (l.length + 1 ≤ 40) = true := by rw [hl] at hsz; simp at hsz ⊢; omega
      simp only [isKeyL, e1, Bool.true_and] at hQ
      have eb : b.toNat.toUInt8 = b := by simp
      have hx : bl (s.extract 0 1) = [b] := by rw [bl_extract, hl]; rfl
      refine ⟨⟨by decide, by decide, by omega⟩, ?_⟩
      refine spec96 hI (c := smallsS) (by decide) (by decide) (by decide) (by rw [bl_size, hx]; simp) (by rw [bl_size, hx]; simp) fun h1 x1 => ⟨_, rfl, ?_⟩
      have e2 : ((bl (s.extract 0 1)).all fun b => inC (bl smallsS) b.toNat) = smallB b := by
        rw [hx]
        simp only [List.all_cons, List.all_nil, Bool.and_true]
        rw [smalls_in _ b.toNat_lt, eb]
      rw [e2]
      refine ifT_intro (fun h2 => ?_) fun h2 => ?_
      · refine spec96 hI (c := keysS) (by decide) (by decide) (by decide) (by omega) (by omega) fun h3 x3 => ⟨_, rfl, _, rfl, ?_⟩
        have e3 : ((bl s).all fun b => inC (bl keysS) b.toNat) = (b :: l).all keyB := by
          rw [← hl]
          congr 1
          funext x
          rw [keys_in _ x.toNat_lt]
          simp
        show Q [boo ((bl s).all fun b => inC (bl keysS) b.toNat)] _
        rw [e3]
        rw [h2] at hQ
        simpa using hQ _ (x1.trans x3)
      · rw [h2] at hQ
        exact ⟨_, rfl, by simpa using hQ _ x1⟩
  · have hb' : ¬ (1 ≤ s.size ∧ s.size ≤ 40) := fun h => by
      have : (decide ((1 : Int) ≤ (s.size : Int)) && decide ((s.size : Int) ≤ 40)) = true := by simp; omega
      rw [this] at hb; cases hb
    have e : isKeyL (bl s) = false := by
      cases hl : bl s with
      | nil => rfl
      | cons b l =>
        have : decide (l.length + 1 ≤ 40) = false := by rw [hl] at hsz; simp at hsz ⊢; omega
        simp only [isKeyL, this, Bool.false_and]
    rw [e] at hQ
    exact ⟨_, rfl, hQ _ (Ext.refl _)⟩

end
end Go.Proofs.YtihnjdhjkpmggaaDoorVc
