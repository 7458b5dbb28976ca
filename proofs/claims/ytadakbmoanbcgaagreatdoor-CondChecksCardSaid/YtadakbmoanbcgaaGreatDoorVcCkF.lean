/- What is a key, as the document says it. What the document answers of conditions: CondFault is what the checks answer. What the document answers of conditions: CondFault is what the checks answer (the second part). What is drawn: a condition that is spoiled. CondChecks: the law's function answers true. -/
import Derived.Test.YtadakbmoanbcgaaGreatDoorVcCkVc
import Derived.Test.YtadakbmoanbcgaaGreatDoorVcCkN
import Derived.Test.YtadakbmoanbcgaaGreatDoorVcCoRef
set_option linter.unusedSimpArgs false
set_option linter.unusedVariables false
-- CkFKey
namespace Go.Proofs.YtadakbmoanbcgaaGreatDoorVc
open Go.Proofs.Tryz (prog)
section
variable {Pm : Prim} {I : Calls} {Q : Post} {h : Heap}
theorem spec78 (hI : Closed' prog Pm I) {n a b : Int} (hQ : Q [boo (decide (a ≤ n) && decide (n ≤ b))] h) : I 78 [int n, int a, int b] Q h := by
  refine hI.go _ _ (den78 I n a b Q) ?_
  refine ifT_dec (fun h1 => ?_) (fun h1 => ?_)
  · simpa [h1] using hQ
  · simpa [h1] using hQ
/-! ### strings.Trim -/
theorem spec161 (hI : Closed' prog Pm I) {c : ByteArray} (hc : ∀ b ∈ bl c, b.toNat < 128) (hl : c.size < 1000) (hQ : ∀ h', Ext h h' → Q [.agg (setC (inC (bl c))), boo true] h') : I 161 [str c] Q h := by
  refine hI.go _ _ (den161 I c Q) ?_
  refine newK_intro fun i2 h2 hn2 he2 => ?_
  refine loopK_intro (fun (a : Int) h' m => ∃ i : Nat, i ≤ c.size ∧ a = i ∧ m = c.size - i ∧ h' = h.set i2 (.cells false (setC (inC ((bl c).take i))))) c.size ⟨0, by omega, rfl, rfl, by rw [he2]; rw [← setC_none]; rfl⟩ ?_
  rintro a h' m ⟨i, hi, rfl, rfl, rfl⟩
  refine ifT_dec (fun hlt => ⟨⟨by omega, hlt⟩, ?_⟩) (fun hge => ?_)
  · have hlt' : i < (bl c).length := by rw [← bl_size]; omega
    have hb := List.getElem?_eq_getElem hlt'
    have hbm := hc _ (List.getElem_mem hlt')
    generalize (bl c)[i] = b at hb hbm
    rw [byteAt_bl hb]
    refine ifT_dec (fun h1 => by omega) fun h1 => ⟨⟨by omega, by omega⟩, ?_⟩
    rw [Int.toNat_natCast, Nat.mul_one, Nat.zero_add]
    refine storeK_one (set_eq _ _ _) (by rw [setC_length]; omega) ⟨c.size - (i + 1), by omega, i + 1, by omega, by rw [w64] <;> omega, rfl, ?_⟩
    rw [set_set]
    congr 2
    refine setC_set _ _ (by omega) fun n => ?_
    unfold inC
    rw [List.take_add_one, hb]
    show (((bl c).take i) ++ [b]).any _ = _
    rw [List.any_append]
    simp only [List.any_cons, List.any_nil, Bool.or_false]
    rw [Bool.or_comm]
    congr 1
    rw [decide_eq_decide]
    omega
  · have : i = c.size := by omega
    subst this
    rw [bl_size, List.take_length]
    have hr : ∀ h0 : Heap, h0 i2 = some (.cells false (setC (inC (bl c)))) → h0.read i2 0 256 = some (setC (inC (bl c))) := fun h0 hh => by
      rw [read_block hh (by rw [setC_length]; omega), List.drop_zero, List.take_of_length_le (by rw [setC_length]; omega)]
    refine exCells_in (setC_fits (inC (bl c))) ⟨hr _ (set_eq _ _ _), storeK_whole (set_eq _ _ _) rfl ?_⟩
    refine exCells_in (setC_fits (inC (bl c))) ⟨hr _ (set_eq _ _ _), ?_⟩
    rw [set_set]
    exact hQ _ (Ext.new hn2)
theorem spec180 (hI : Closed' prog Pm I) {i : Nat} {S : Nat → Bool} {b : UInt8} (hi : h i = some (.cells false (setC S))) (hQ : Q [boo (S b.toNat)] h) : I 180 [.one (.ptr (some (i, 0))), u8 b] Q h := by
  refine hI.go _ _ (den180 I _ _ Q) ?_
  have hb := b.toNat_lt
  refine derefK_intro rfl ⟨⟨by omega, by omega⟩, S b.toNat, ?_, hQ⟩
  rw [Int.toNat_natCast, Nat.mul_one, Nat.zero_add]
  exact read_cell hi (setC_get _ (by omega))
/-- From the right: what is left ends in a sign that is not of the set. -/
theorem spec163 (hI : Closed' prog Pm I) {i : Nat} {S : Nat → Bool} {s : ByteArray} (hi : h i = some (.cells false (setC S))) (hl : s.size < 1000)
    (hQ : ∀ m, m ≤ s.size → (∀ j b, m ≤ j → (bl s)[j]? = some b → S b.toNat = true) → (∀ b, 0 < m → (bl s)[m - 1]? = some b → S b.toNat = false) → ∀ t, bl t = (bl s).take m → Q [str t] h) : I 163 [str s, .one (.ptr (some (i, 0)))] Q h := by
  refine hI.go _ _ (den163 I s _ Q) ?_
  refine loopK_intro (fun (a : ByteArray) h' m => h' = h ∧ m ≤ s.size ∧ bl a = (bl s).take m ∧ ∀ j b, m ≤ j → (bl s)[j]? = some b → S b.toNat = true) s.size ⟨rfl, by omega, by rw [bl_size, List.take_length], fun j b hj hb => by
    rw [List.getElem?_eq_none (by rw [← bl_size]; omega)] at hb; cases hb⟩ ?_
  rintro a h' m ⟨rfl, hm, ha, hall⟩
  have hsz : a.size = m := by rw [bl_size, ha, List.length_take, ← bl_size]; omega
  refine ifT_dec (fun hlt => ⟨⟨?_, ?_⟩, ?_⟩) (fun hge => ?_)
  · rw [w64] <;> omega
  · rw [w64] <;> omega
  · have hm1 : m - 1 < (bl s).length := by rw [← bl_size]; omega
    have hb := List.getElem?_eq_getElem hm1
    generalize (bl s)[m - 1] = b at hb
    have hb' : (bl a)[m - 1]? = some b := by rw [ha, List.getElem?_take_of_lt (by omega)]; exact hb
    have ew : IntKind.i64.wrap ((a.size : Int) - 1) = ((m - 1 : Nat) : Int) := by rw [w64] <;> omega
    rw [ew, byteAt_bl hb']
    refine spec180 hI hi ⟨_, rfl, ifT_intro (fun h1 => ?_) fun h1 => ⟨⟨by decide, by omega, by omega⟩, m - 1, by omega, rfl, by omega, ?_, fun j b' hj hb2 => ?_⟩⟩
    · exact hQ m hm hall (fun b2 _ hb2 => by rw [hb] at hb2; cases hb2; simpa using h1) a ha
    · rw [bl_extract, ha, Int.toNat_natCast, List.drop_zero, List.take_take]
      congr 1
      omega
    · rcases Nat.lt_or_ge j m with h2 | h2
      · have : j = m - 1 := by omega
        subst this
        rw [hb] at hb2
        cases hb2
        simpa using h1
      · exact hall j b' h2 hb2
  · have : m = 0 := by omega
    subst this
    exact hQ 0 hm hall (fun _ h => by omega) a ha
/-- From the left: nothing is left just where all signs are of the set. -/
theorem spec162 (hI : Closed' prog Pm I) {i : Nat} {S : Nat → Bool} {s : ByteArray} (hi : h i = some (.cells false (setC S))) (hl : s.size < 1000)
    (hQ : ∀ t, (bl t = [] ↔ ∀ b ∈ bl s, S b.toNat = true) → Q [str t] h) : I 162 [str s, .one (.ptr (some (i, 0)))] Q h := by
  refine hI.go _ _ (den162 I s _ Q) ?_
  refine loopK_intro (fun (a : ByteArray) h' m => h' = h ∧ a.size = m ∧ m < 1000 ∧ ((∀ b ∈ bl a, S b.toNat = true) ↔ ∀ b ∈ bl s, S b.toNat = true)) s.size ⟨rfl, rfl, hl, Iff.rfl⟩ ?_
  rintro a h' m ⟨rfl, hm, hm2, hall⟩
  refine ifT_dec (fun hlt => ⟨⟨by decide, by omega⟩, ?_⟩) (fun hge => ?_)
  · cases ha : bl a with
    | nil => rw [bl_size, ha] at hlt; simp at hlt
    | cons b l =>
      have hb : (bl a)[0]? = some b := by rw [ha]; rfl
      have e0 : byteAt a 0 = (b.toNat : Int) := byteAt_bl hb
      rw [e0]
      rw [ha] at hall
      refine spec180 hI hi ⟨_, rfl, ifT_intro (fun h1 => ?_) fun h1 => ⟨⟨by decide, by omega, by omega⟩, m - 1, by omega, rfl, ?_, by omega, ?_⟩⟩
      · have h1' : S b.toNat = false := by simpa using h1
        refine hQ a ⟨fun h => by (rw [ha] at h; cases h), fun h => ?_⟩
        have := hall.2 h b (by simp)
        rw [h1'] at this; cases this
      · rw [bl_size, bl_extract, ha]
        have : (b :: l).length = m := by rw [← ha, ← bl_size]; exact hm
        simp at this ⊢
        omega
      · rw [← hall, bl_extract, ha, Int.toNat_natCast]
        have hl' : (b :: l).length = a.size := by rw [← ha, ← bl_size]
        have e : ((b :: l).drop 1).take (a.size - 1) = l := by
          simp only [List.drop_succ_cons, List.drop_zero]
          exact List.take_of_length_le (by simp at hl'; omega)
        rw [e]
        have h1' : S b.toNat = true := by simpa using h1
        constructor
        · intro h2 b' hb'
          rcases List.mem_cons.1 hb' with rfl | hb'
          · exact h1'
          · exact h2 b' hb'
        · intro h2 b' hb'
          exact h2 b' (by simp [hb'])
  · have h0 : bl a = [] := List.length_eq_zero_iff.1 (by rw [← bl_size]; omega)
    rw [h0] at hall
    exact hQ a ⟨fun _ => hall.1 (by simp), fun _ => h0⟩
theorem spec134 (hI : Closed' prog Pm I) {s c : ByteArray} (hc : ∀ b ∈ bl c, b.toNat < 128) (hcl : c.size < 1000) (hc2 : 2 ≤ c.size) (hs : s.size < 1000) (hs0 : 0 < s.size)
    (hQ : ∀ h', Ext h h' → Q [boo ((bl s).all fun b => inC (bl c) b.toNat)] h') : I 134 [str s, str c] Q h := by
  refine hI.go _ _ (den134 I s c Q) ?_
  refine hI.go _ _ (den149 I s c _) ?_
  have hsn : s ≠ ⟨#[]⟩ := fun e => by rw [e] at hs0; exact absurd hs0 (by decide)
  have hcn : c ≠ ⟨#[]⟩ := fun e => by rw [e] at hc2; exact absurd hc2 (by decide)
  refine joinK_intro (fun (b : Bool) h' => h' = h ∧ b = false) ?_ fun j hj => ifT_dec (fun h => absurd h hsn) fun _ => hj _ _ ⟨rfl, by simpa using hcn⟩
  rintro _ h' ⟨rfl, rfl⟩
  refine ifT_intro (fun h => by cases h) fun _ => ?_
  refine joinK_intro (fun (b : Bool) h'' => h'' = h' ∧ b = false) ?_ fun j hj => ifT_dec (fun h => by omega) fun _ => hj _ _ ⟨rfl, rfl⟩
  rintro _ h'' ⟨rfl, rfl⟩
  refine ifT_intro (fun h => by cases h) fun _ => ?_
  refine spec161 hI hc hcl fun h3 x3 => exCells_in (setC_fits (inC (bl c))) ⟨true, rfl, newK_intro fun i4 h4 hn4 he4 => ?_⟩
  have x4 : Ext h3 h4 := he4 ▸ Ext.new hn4
  refine storeK_whole (cs := List.replicate 256 (.bool false)) (by rw [he4, set_eq]) (by rw [setC_length, List.length_replicate]) ?_
  rw [he4, set_set]
  have x5 : Ext h'' (h3.set i4 (.cells false (setC (inC (bl c))))) := x3.trans (Ext.new hn4)
  have hi := set_eq h3 i4 (.cells false (setC (inC (bl c))))
  refine ifT_intro (fun _ => ?_) fun h => by cases h
  refine spec163 hI hi hs fun m hm hm1 hm2 t ht => ⟨_, rfl, ?_⟩
  refine spec162 hI hi (by rw [bl_size, ht, List.length_take, ← bl_size]; omega) fun r hr => ⟨_, rfl, _, rfl, ?_⟩
  have e : decide (r = (⟨#[]⟩ : ByteArray)) = (bl s).all fun b => inC (bl c) b.toNat := by
    rw [Bool.eq_iff_iff, decide_eq_true_iff, List.all_eq_true, bl_nil, hr]
    constructor
    · intro h1 b hb
      obtain ⟨j, hj, rfl⟩ := List.getElem_of_mem hb
      rcases Nat.lt_or_ge j m with h2 | h2
      · refine h1 _ ?_
        rw [ht]
        exact List.mem_of_getElem? (by rw [List.getElem?_take_of_lt h2]; exact List.getElem?_eq_getElem hj)
      · exact hm1 j _ h2 (List.getElem?_eq_getElem hj)
    · intro h1 b hb
      rw [ht] at hb
      exact h1 b (List.mem_of_mem_take hb)
  show Q [boo (decide (r = (⟨#[]⟩ : ByteArray)))] _
  rw [e]
  exact hQ _ x5
theorem spec76 (hI : Closed' prog Pm I) {s : ByteArray} (hQ : ∀ h', Ext h h' → Q [boo (isKey s)] h') : I 76 [str s] Q h := by
  refine hI.go _ _ (den76 I s Q) ?_
  refine hI.go _ _ (den110 I s _) ?_
  unfold isKey at hQ
  have hsz := bl_size s
  refine spec78 hI ⟨_, rfl, ifT_intro (fun hb => ?_) fun hb => ?_⟩
  · have hb' : 1 ≤ s.size ∧ s.size ≤ 40 := by simp at hb; omega
    cases hl : bl s with
    | nil =>
      rw [hl] at hsz
      have : s.size = 0 := hsz
      omega
    | cons b l =>
      rw [hl] at hQ
      have e1 : decide (l.length + 1 ≤ 40) = true := by rw [hl] at hsz; simp at hsz ⊢; omega
      simp only [isKeyL, e1, Bool.true_and] at hQ
      have eb : b.toNat.toUInt8 = b := by simp
      have hx : bl (s.extract 0 1) = [b] := by rw [bl_extract, hl]; rfl
      refine ⟨⟨by decide, by decide, by omega⟩, ?_⟩
      refine spec134 hI (c := smallsS) (by decide) (by decide) (by decide) (by rw [bl_size, hx]; simp) (by rw [bl_size, hx]; simp) fun h1 x1 => ⟨_, rfl, ?_⟩
      have e2 : ((bl (s.extract 0 1)).all fun b => inC (bl smallsS) b.toNat) = smallB b := by
        rw [hx]
        simp only [List.all_cons, List.all_nil, Bool.and_true]
        rw [smalls_in _ b.toNat_lt, eb]
      rw [e2]
      refine ifT_intro (fun h2 => ?_) fun h2 => ?_
      · refine spec134 hI (c := keysS) (by decide) (by decide) (by decide) (by omega) (by omega) fun h3 x3 => ⟨_, rfl, _, rfl, ?_⟩
        have e3 : ((bl s).all fun b => inC (bl keysS) b.toNat) = (b :: l).all keyB := by
          rw [← hl]
          congr 1
          funext x
          rw [keys_in _ x.toNat_lt]
          simp
        show Q [boo ((bl s).all fun b => inC (bl keysS) b.toNat)] _
        rw [e3]
        rw [h2] at hQ
        simpa using hQ _ (x1.trans x3)
      · rw [h2] at hQ
        exact ⟨_, rfl, by simpa using hQ _ x1⟩
  · have hb' : ¬ (1 ≤ s.size ∧ s.size ≤ 40) := fun h => by
      have : (decide ((1 : Int) ≤ (s.size : Int)) && decide ((s.size : Int) ≤ 40)) = true := by simp; omega
      rw [this] at hb; cases hb
    have e : isKeyL (bl s) = false := by
      cases hl : bl s with
      | nil => rfl
      | cons b l =>
        have : decide (l.length + 1 ≤ 40) = false := by rw [hl] at hsz; simp at hsz ⊢; omega
        simp only [isKeyL, this, Bool.false_and]
    rw [e] at hQ
    exact ⟨_, rfl, hQ _ (Ext.refl _)⟩
end
end Go.Proofs.YtadakbmoanbcgaaGreatDoorVc
-- CkFSpec1
namespace Go.Proofs.YtadakbmoanbcgaaGreatDoorVc
open Go.Proofs.Tryz (prog)
def wordsT : ByteArray := ⟨#[97, 108, 108, 32, 110, 111, 110, 101, 32, 97, 110, 100, 32, 111, 114, 32, 110, 111, 116, 32, 104, 97, 115, 32, 105, 110, 32, 98, 101, 103, 105, 110, 115, 32, 99, 111, 110, 116, 97, 105, 110, 115, 32, 99, 111, 117, 110, 116, 32, 115, 117, 109, 32, 115, 105, 110, 99, 101, 32, 116, 104, 101, 110, 32, 119, 104, 101, 114, 101, 32, 119, 105, 116, 104, 105, 110, 32, 100, 97, 121, 115, 32, 104, 111, 117, 114, 115, 32, 109, 105, 110, 117, 116, 101, 115, 32, 121, 101, 115, 32, 110, 111]⟩
/-- What else is asked of the shelf's functions. -/
structure LibJ (I : Calls) (T : Heap → Prop) : Prop where
  dec : ∀ {s : ByteArray} {Q : Post} {h : Heap}, T h → s ≠ tE → Q [.one (.int .i32 ((Lib.decodeL (bl s)).1 : Nat)), int ((Lib.decodeL (bl s)).2 : Nat)] h → I 112 [str s] Q h
  fields : ∀ {Q : Post} {h : Heap}, T h → (∀ sl h', Ext h h' → At h' 1 sl (strs words) → Q [.one (.slice 1 sl)] h') → I 111 [str wordsT] Q h
def usesT (k : Int) : ByteArray := nthS [Cell.str ByteArray.empty, Cell.str { data := #[] }, Cell.str { data := #[] }, Cell.str { data := #[] }, Cell.str { data := #[] }, Cell.str { data := #[] }, Cell.str { data := #[110] }, Cell.str { data := #[110, 115] }, Cell.str { data := #[110] }, Cell.str { data := #[110] }, Cell.str { data := #[110] }, Cell.str { data := #[110, 115, 119, 105, 109] }, Cell.str { data := #[110, 102, 115, 119, 105, 109] }, Cell.str { data := #[110, 115, 119, 109] }, Cell.str { data := #[110, 102, 105] }] k
/-- The letters tell what the kind uses. -/
def usesOk (k : Int) : Bool := match useOf k with
  | none => true
  | some u => decide ((usesT k).size ≤ 1000) && (conS (usesT k) ⟨#[110]⟩ == u.n) && (conS (usesT k) ⟨#[102]⟩ == u.f) && (conS (usesT k) ⟨#[115]⟩ == u.s) && (conS (usesT k) ⟨#[119]⟩ == u.w) && (conS (usesT k) ⟨#[105]⟩ == u.i) && (conS (usesT k) ⟨#[109]⟩ == u.m)
theorem uses_is : ∀ k : Nat, k < 15 → usesOk (k : Int) = true := by decide +kernel
theorem useOf_range {k : Int} {u : Use} (h : useOf k = some u) : 1 ≤ k ∧ k ≤ 14 := by
  unfold useOf at h
  repeat' (first
    | (split at h
       · rename_i e; omega)
    | cases h)
theorem useOf_some {k : Int} (h1 : 1 ≤ k) (h2 : k ≤ 14) : ∃ u, useOf k = some u := by
  unfold useOf
  repeat' (first
    | exact ⟨_, rfl⟩
    | split)
  omega
structure UseIs (k : Int) (u : Use) : Prop where
  sz : (usesT k).size ≤ 1000000
  n : conS (usesT k) ⟨#[110]⟩ = u.n
  f : conS (usesT k) ⟨#[102]⟩ = u.f
  s : conS (usesT k) ⟨#[115]⟩ = u.s
  w : conS (usesT k) ⟨#[119]⟩ = u.w
  i : conS (usesT k) ⟨#[105]⟩ = u.i
  m : conS (usesT k) ⟨#[109]⟩ = u.m
theorem UseIs.of {k : Int} {u : Use} (h : useOf k = some u) : UseIs k u := by
  obtain ⟨h1, h2⟩ := useOf_range h
  obtain ⟨n, rfl⟩ : ∃ n : Nat, k = n := ⟨k.toNat, by omega⟩
  have := uses_is n (by omega)
  unfold usesOk at this
  rw [h] at this
  simp only [Bool.and_eq_true, beq_iff_eq, decide_eq_true_eq] at this
  obtain ⟨⟨⟨⟨⟨⟨a, b⟩, c⟩, d⟩, e⟩, f⟩, g⟩ := this
  exact ⟨by omega, b, c, d, e, f, g⟩
/-- The first that is wrong with values. -/
def firstV : List Val → Int
  | [] => 0
  | v :: l => if errV v ≠ 0 then errV v else firstV l
theorem firstV_at {l : List Val} {i : Nat} {v : Val} (hx : l[i]? = some v) : firstV (l.drop i) = if errV v ≠ 0 then errV v else firstV (l.drop (i + 1)) := by
  obtain ⟨hi, rfl⟩ := List.getElem?_eq_some_iff.1 hx
  rw [List.drop_eq_getElem_cons hi]; rfl
theorem errVs_plain {k : Int} (hk : ¬ (k = 9 ∨ k = 10)) : ∀ l : List Val, errVs k l = firstV l
  | [] => rfl
  | v :: l => by
    unfold errVs firstV
    rw [errVs_plain hk l]
    by_cases e : errV v ≠ 0
    · rw [if_pos e, if_pos e]
    · rw [if_neg e, if_neg e, if_neg (fun a => hk a.1)]
theorem errVs_one {k : Int} (hk : k = 9 ∨ k = 10) (v : Val) : errVs k [v] = if firstV [v] ≠ 0 then firstV [v] else if v.kind ≠ 1 then 10 else 0 := by
  unfold errVs firstV
  by_cases e : errV v ≠ 0
  · simp only [if_pos e]
  · simp only [if_neg e]
    unfold firstV errVs
    by_cases e2 : v.kind ≠ 1
    · rw [if_pos ⟨hk, e2⟩, if_neg (by decide), if_pos e2]
    · rw [if_neg (fun a => e2 a.2), if_neg (by decide), if_neg e2]
theorem signNo_in (s : ByteArray) : (decide (signNo s ≥ 0)) = !decide (signNo s < 0) := by
  rw [Bool.eq_iff_iff]
  simp
theorem word_idx (s : ByteArray) : decide (idxS s words 0 ≥ 0) = wordB s := by
  have gen : ∀ (l : List ByteArray) (k : Nat), decide (idxS s l k ≥ 0) = l.any fun w => decide (s = w) := fun l => by
    induction l with
    | nil => intro k; rfl
    | cons x l ih =>
      intro k
      unfold idxS
      by_cases e : s = x
      · rw [if_pos e, List.any_cons, decide_eq_true e, Bool.true_or]
        exact decide_eq_true (by omega)
      · rw [if_neg e, List.any_cons, decide_eq_false e, Bool.false_or]
        exact ih _
  exact gen words 0
section
variable {Pm : Prim} {I : Calls} {TT : Heap → Prop} {Q : Post} {h : Heap}
theorem spec49 (hI : Closed' prog Pm I) {k : Int} (h1 : 0 ≤ k) (h2 : k < 15) (hQ : Q [str (usesT k)] h) : I 49 [int k] Q h := by
  exact hI.go _ _ (den49 I k Q) ⟨⟨h1, h2⟩, hQ⟩
theorem spec74 (hI : Closed' prog Pm I) {k : Int} {u : Use} (hu : useOf k = some u) (hQ : Q [int u.al, int u.ah, int u.vl, int u.vh] h) : I 74 [int k] Q h := by
  obtain ⟨h1, h2⟩ := useOf_range hu
  refine hI.go _ _ (den74 I k Q) ?_
  refine joinK_intro (fun (b : Bool) g => h = g ∧ b = decide (k = 3 ∨ k = 4)) ?_ fun jk hjk => ifT_dec (fun e => hjk _ _ ⟨rfl, by simp [e]⟩) fun e => hjk _ _ ⟨rfl, by simp [e]⟩
  rintro b _ ⟨rfl, rfl⟩
  unfold useOf at hu
  repeat' (first
    | (split at hu
       · rename_i e
         cases hu
         first
           | (rw [decide_eq_true e]; exact hQ)
           | (rw [decide_eq_false (by omega)]
              refine ifT_intro (fun e => by cases e) fun _ => ?_
              repeat' (first | exact hQ | (refine ifT_dec (fun _ => ?_) fun _ => ?_ <;> first | exact hQ | (exfalso; omega) | skip)))
           | (rcases e with rfl | rfl <;> exact hQ))
    | cases hu)
theorem spec54 (hI : Closed' prog Pm I) (hQ : ∀ sl h', Ext h h' → At h' 1 sl (strs sgs) → Q [.one (.slice 1 sl)] h') : I 54 [] Q h := by
  refine hI.go _ _ (den54 I Q) ?_
  refine newK_intro fun i h1 hn he => hQ _ _ (he ▸ Ext.new hn) ⟨rfl, .inr ?_⟩
  show h1.read i 0 (6 * 1) = _
  rw [he, read_block (Heap.set_same ..) (show 0 + 6 * 1 ≤ 6 by decide)]; rfl
theorem spec53 (hI : Closed' prog Pm I) {sl : Sl} {xs : List ByteArray} {x : ByteArray} (hs : At h 1 sl (strs xs)) (hl : xs.length < 1000000) (hQ : Q [boo (decide (idxS x xs 0 ≥ 0))] h) : I 53 [.one (.slice 1 sl), str x] Q h := by
  refine hI.go _ _ (den53 I sl x Q) ?_
  exact spec71 hI hs hl ⟨_, rfl, hQ⟩
/-- Is it a sign? -/
theorem spec_sign (hI : Closed' prog Pm I) {x : ByteArray} {F : Bool → T} (hQ : ∀ h', Ext h h' → F (!decide (signNo x < 0)) h') : I 54 [] (fun cs g => ∃ l : Sl, cs = [.one (.slice 1 l)] ∧ I 53 [.one (.slice 1 l), str x] (fun cs g => ∃ b : Bool, cs = [boo b] ∧ F b g) g) h :=
  spec54 hI fun sl h' x1 hs => ⟨_, rfl, spec53 hI hs (by decide) ⟨_, rfl, by show F (decide (signNo x ≥ 0)) h'; rw [signNo_in]; exact hQ h' x1⟩⟩
theorem spec52 (hI : Closed' prog Pm I) (hJ : LibJ I TT) (hE : ∀ {h h' : Heap}, Ext h h' → TT h → TT h') (hT : TT h) {s : ByteArray} (hQ : ∀ h', Ext h h' → Q [boo (nameB s)] h') : I 52 [str s] Q h := by
  refine hI.go _ _ (den52 I s Q) ?_
  unfold nameB at hQ
  refine spec76 hI fun h1 x1 => ⟨_, rfl, ifT_intro (fun e => ?_) fun e => ?_⟩
  · rw [e] at hQ
    refine hI.go _ _ (den77 I _) ?_
    refine hJ.fields (hE x1 hT) fun sl h2 x2 hs => ⟨_, rfl, _, rfl, spec53 hI hs (by decide) ⟨_, rfl, ?_⟩⟩
    rw [word_idx]
    have := hQ _ (x1.trans x2)
    rw [Bool.true_and] at this; exact this
  · rw [e] at hQ
    exact hQ _ x1
/-- The points of a text. -/
theorem spec79 (hI : Closed' prog Pm I) (hJ : LibJ I TT) (hE : ∀ {h h' : Heap}, Ext h h' → TT h → TT h') (hT : TT h) {s : ByteArray} (hl : s.size < 1000) (hQ : ∀ sl h', Ext h h' → At h' 1 sl (ints (ptsL s.size (bl s))) → Q [.one (.slice 1 sl)] h') : I 79 [str s] Q h := by
  refine hI.go _ _ (den79 I s Q) ?_
  refine loopK_intro (fun (p : ByteArray × Sl) g m => ∃ (t : ByteArray) (sl : Sl) (P : List Int) (f : Nat), p = (t, sl) ∧ t.size = m ∧ t.size ≤ s.size ∧ t.size ≤ f ∧ Owns h g [(1, sl, ints P)] ∧ ptsL s.size (bl s) = P ++ ptsL f (bl t) ∧ P.length + t.size ≤ s.size) s.size
    ⟨s, ⟨none, 0⟩, [], s.size, rfl, rfl, by omega, by omega, (Owns.nil h).none_ 1, rfl, by simp⟩ ?_
  intro p g m hp
  obtain ⟨t, sl, P, f, hp, hm, ht, hf, o, hP, hPl⟩ := hp
  subst hp
  subst hm
  dsimp only [uncur]
  refine ifT_intro (fun e => ?_) fun e => ?_
  · have hne : t ≠ tE := nd e
    have hbl : bl t ≠ [] := fun h => hne (bl_nil.2 h)
    have h0 : 0 < (bl t).length := List.length_pos_iff.2 hbl
    have hw := Lib.decodeL_width (bl t)
    have hle := Lib.decodeL_le (bl t) hbl
    have hru := Lib.decodeL_rune (bl t)
    have hsz := bl_size t
    have hsl : sl.len = P.length := by have := (o.all _ List.mem_cons_self).1; simpa [ints_length] using this
    refine hJ.dec (hE o.ext hT) hne ⟨_, _, rfl, ?_⟩
    refine joinK_intro (fun (b : Bool) g' => g = g' ∧ b = decide ((Lib.decodeL (bl t)).1 = 65533 ∧ (Lib.decodeL (bl t)).2 = 1)) ?_ fun jk hjk => ifT_dec (fun e1 => hjk _ _ ⟨rfl, ?_⟩) fun e1 => hjk _ _ ⟨rfl, ?_⟩
    case refine_2 =>
      rw [decide_eq_decide]
      omega
    case refine_3 =>
      symm
      rw [decide_eq_false_iff_not]
      omega
    rintro b _ ⟨rfl, hb⟩
    obtain ⟨f', rfl⟩ : ∃ f', f = f' + 1 := ⟨f - 1, by omega⟩
    have hstep : ptsL (f' + 1) (bl t) = (if (Lib.decodeL (bl t)).1 = 65533 ∧ (Lib.decodeL (bl t)).2 = 1 then -1 - (((bl t).getD 0 0).toNat : Int) else ((Lib.decodeL (bl t)).1 : Int)) :: ptsL f' ((bl t).drop (Lib.decodeL (bl t)).2) := by
      conv => lhs; unfold ptsL
      rw [if_neg hbl]
    have hx : bl (t.extract ((Lib.decodeL (bl t)).2 : Int).toNat (t.size : Int).toNat) = (bl t).drop (Lib.decodeL (bl t)).2 := by
      rw [bl_extract]
      simp only [Int.toNat_natCast]
      rw [List.take_of_length_le (by rw [List.length_drop]; omega)]
    have hxs : (t.extract ((Lib.decodeL (bl t)).2 : Int).toNat (t.size : Int).toNat).size = t.size - (Lib.decodeL (bl t)).2 := by
      rw [bl_size, hx, List.length_drop, ← hsz]
    have next : ∀ (p : Int) j g2, Owns h g2 [(1, ⟨some (j, 0), sl.len + (0 + 1)⟩, ints P ++ [.int .i64 p])] → p = (if (Lib.decodeL (bl t)).1 = 65533 ∧ (Lib.decodeL (bl t)).2 = 1 then -1 - (((bl t).getD 0 0).toNat : Int) else ((Lib.decodeL (bl t)).1 : Int)) →
        ∃ m', m' < t.size ∧ ∃ (t' : ByteArray) (sl' : Sl) (P : List Int) (f : Nat), (t.extract ((Lib.decodeL (bl t)).2 : Int).toNat (t.size : Int).toNat, (⟨some (j, 0), sl.len + (0 + 1)⟩ : Sl)) = (t', sl') ∧ t'.size = m' ∧ t'.size ≤ s.size ∧ t'.size ≤ f ∧ Owns h g2 [(1, sl', ints P)] ∧ ptsL s.size (bl s) = P ++ ptsL f (bl t') ∧ P.length + t'.size ≤ s.size := fun p j g2 o2 hp =>
      ⟨_, by omega, _, _, P ++ [p], f', rfl, hxs, by omega, by omega, by simpa [ints] using o2, by rw [hP, hstep, hx, ← hp]; simp, by simp; omega⟩
    refine ifT_intro (fun e1 => ⟨⟨by decide, by omega⟩, ?_⟩) fun e1 => ?_
    · rw [e1] at hb
      have hb := of_decide_eq_true hb.symm
      have hb0 : byteAt t 0 = (((bl t).getD 0 0).toNat : Int) := by
        have hg : (bl t)[0]? = some ((bl t).getD 0 0) := by rw [List.getD_eq_getElem?_getD, List.getElem?_eq_getElem h0]; rfl
        exact byteAt_bl (i := 0) hg
      have hlt := ((bl t).getD 0 0).toNat_lt
      rw [hb0, show IntKind.i64.wrap (((bl t).getD 0 0).toNat : Int) = (((bl t).getD 0 0).toNat : Int) by rw [w64] <;> omega, show IntKind.i64.wrap (-1 - (((bl t).getD 0 0).toNat : Int)) = -1 - (((bl t).getD 0 0).toNat : Int) by rw [w64] <;> omega]
      refine appendTo_owns (m := 0) o (by rfl) (by omega) (by simp) fun j g2 o2 => ⟨⟨by omega, by omega, by omega⟩, next _ j g2 o2 (by rw [if_pos hb])⟩
    · rw [e1] at hb
      have hb := of_decide_eq_false hb.symm
      rw [show IntKind.i64.wrap ((Lib.decodeL (bl t)).1 : Int) = ((Lib.decodeL (bl t)).1 : Int) by rw [w64] <;> omega]
      refine appendTo_owns (m := 0) o (by rfl) (by omega) (by simp) fun j g2 o2 => ⟨⟨by omega, by omega, by omega⟩, next _ j g2 o2 (by rw [if_neg hb])⟩
  · have he : t = tE := Decidable.of_not_not (nd' e)
    subst he
    have : ptsL f (bl tE) = [] := by
      cases f with
      | zero => rfl
      | succ f => unfold ptsL; rfl
    rw [this, List.append_nil] at hP
    refine hQ sl g o.ext ?_
    rw [hP]
    exact o.at_ (by simp)
/-- What is wrong with a value. -/
theorem spec55 (hI : Closed' prog Pm I) (hJ : LibJ I TT) (hE : ∀ {h h' : Heap}, Ext h h' → TT h → TT h') (hT : TT h) {v : Val} (hQ : ∀ h', Ext h h' → Q [int (errV v)] h') : I 55 [.agg (valC v)] Q h := by
  refine hI.go _ _ (den55 I v.kind v.text v.num Q) ?_
  unfold errV at hQ
  refine spec78 hI ⟨_, rfl, ifT_intro (fun e => ?_) fun e => ?_⟩
  · have hk : ¬ (1 ≤ v.kind ∧ v.kind ≤ 4) := by simp at e; omega
    have h4 := hQ h (Ext.refl _)
    rw [if_neg (by omega)] at h4
    have : boundsV v.kind = none := by unfold boundsV; rw [if_neg (by omega), if_neg (by omega), if_neg (by omega)]
    rw [this] at h4; exact h4
  have hk : 1 ≤ v.kind ∧ v.kind ≤ 4 := by simp at e; omega
  refine ifT_dec (fun e1 => ?_) fun e1 => ?_
  · simp only [if_pos e1] at hQ
    refine ifT_intro (fun e2 => ?_) fun e2 => ?_
    · have := hQ h (Ext.refl _)
      rw [if_pos (nd e2)] at this; exact this
    simp only [if_neg (nd' e2)] at hQ
    unfold errT at hQ
    refine ifT_dec (fun e3 => ?_) fun e3 => ?_
    · have := hQ h (Ext.refl _)
      rw [if_pos (by omega)] at this; exact this
    simp only [if_neg (show ¬ 200 < v.text.size by omega)] at hQ
    refine spec79 hI hJ hE hT (by omega) fun sl h1 x1 hs => ⟨_, rfl, ?_⟩
    have hb := pts_bad v.text.size v.text.size (bl v.text) (by rw [← bl_size]; omega) (by rw [← bl_size]; omega)
    have hval : validS v.text = Lib.validGoD v.text.size (bl v.text) := rfl
    rw [← hval] at hb
    have hPl := pts_len v.text.size (bl v.text)
    generalize ptsL v.text.size (bl v.text) = P at hs hb hPl
    have ls : sl.len = P.length := by rw [hs.len1, ints_length]
    have bad : P.any badP = true → Q [int 3] h1 := fun hbad => by
      have h3 := hQ h1 x1
      by_cases v1 : validS v.text = false
      · rw [if_pos v1] at h3; exact h3
      · rw [if_neg v1] at h3
        have v2 : (bl v.text).all plainB = false := by
          cases hp : (bl v.text).all plainB with
          | false => rfl
          | true =>
            have := hb.2 ⟨by simpa using v1, hp⟩
            rw [hbad] at this; cases this
        rw [if_pos v2] at h3; exact h3
    refine loopK_intro (fun (n : Int) g m => h1 = g ∧ ∃ k : Nat, k ≤ P.length ∧ n = k ∧ P.length - k = m ∧ (P.take k).any badP = false) P.length ⟨rfl, 0, by omega, rfl, rfl, rfl⟩ ?_
    rintro n g m ⟨rfl, k, hk2, rfl, rfl, hall⟩
    refine ifT_dec (fun hlt => ⟨⟨by omega, hlt⟩, ?_⟩) fun hge => ?_
    · have hx := List.getElem?_eq_getElem (show k < P.length by omega)
      have hxm := List.mem_of_getElem? hx
      generalize P[k] = p at hx hxm
      have hit : badP p = true → Q [int 3] h1 := fun hp => bad (List.any_eq_true.2 ⟨p, hxm, hp⟩)
      refine hs.cell (ints_get hx) fun bb oo hr => ⟨p, hr, ifT_dec (fun e4 => hit (by unfold badP; simp [e4])) fun e4 => ifT_dec (fun e5 => hit (by unfold badP; simp [e5])) fun e5 => ?_⟩
      refine ⟨P.length - (k + 1), by omega, rfl, k + 1, by omega, by rw [w64] <;> omega, rfl, ?_⟩
      rw [any_take_step hx, hall]
      unfold badP
      simp [e4, e5]
    · obtain rfl : k = P.length := by omega
      rw [List.take_length] at hall
      obtain ⟨v1, v2⟩ := hb.1 hall
      have := hQ h1 x1
      rw [if_neg (by rw [v1]; decide), if_neg (by rw [v2]; decide)] at this
      exact this
  simp only [if_neg e1] at hQ
  have hk' : v.kind = 2 ∨ v.kind = 3 ∨ v.kind = 4 := by omega
  refine ifT_intro (fun e2 => ?_) fun e2 => ⟨⟨by omega, by omega⟩, ⟨by omega, by omega⟩, ?_⟩
  · have := hQ h (Ext.refl _)
    rcases hk' with e | e | e <;> rw [e] at this <;> simp only [boundsV] at this <;> simpa [nd e2] using this
  have htx : v.text = tE := Decidable.of_not_not (nd' e2)
  have fin : ∀ a b : Int, boundsV v.kind = some (a, b) → I 78 [int v.num, int a, int b] (fun cs g => ∃ b6 : Bool, cs = [boo b6] ∧ ifT (!b6) (Q [int 1]) (Q [int 0]) g) h := fun a b hb => by
    have := hQ h (Ext.refl _)
    rw [hb] at this
    simp only [htx, ne_eq, not_true_eq_false, if_false] at this
    refine spec78 hI ⟨_, rfl, ifT_intro (fun e => ?_) fun e => ?_⟩
    · rw [if_neg (by simp at e; omega)] at this; exact this
    · rw [if_pos (by simp at e; omega)] at this; exact this
  rcases hk' with e | e | e
  · rw [e]; exact fin _ _ (by rw [e]; rfl)
  · rw [e]; exact fin _ _ (by rw [e]; rfl)
  · rw [e]; exact fin _ _ (by rw [e]; rfl)
end
end Go.Proofs.YtadakbmoanbcgaaGreatDoorVc
-- CkFSpec2
namespace Go.Proofs.YtadakbmoanbcgaaGreatDoorVc
open Go.Proofs.Tryz (prog)
section
variable {Pm : Prim} {I : Calls} {TT : Heap → Prop} {Q : Post} {h : Heap}
set_option maxHeartbeats 4000000 in
/-- Is it formed wrongly? -/
theorem spec50 (hI : Closed' prog Pm I) (hL : LibI I TT) (hT : TT h) {c : CT} {u : Use} {sv sw sa : Sl} (hu : useOf c.kind = some u) (lv : sv.len = c.vals.length) (lw : sw.len = c.whs.length) (la : sa.len = c.args.length) (hQ : Q [boo (!formedB c u)] h) :
    I 50 [.agg (condC c sv sw sa)] Q h := by
  refine hI.go _ _ (den50 I c.kind c.name c.field c.sign sv sw c.within c.num sa Q) ?_
  obtain ⟨r1, r2⟩ := useOf_range hu
  obtain ⟨usz, un, uf, us, uw, ui, um⟩ := UseIs.of hu
  refine spec49 hI (by omega) (by omega) ⟨_, rfl, spec74 hI hu ⟨_, _, _, _, rfl, ?_⟩⟩
  generalize usesT c.kind = t at *
  refine joinK_intro (fun (b : Bool) g => h = g ∧ b = spare u c.name c.field c.sign c.within c.num) ?_ fun jk hjk => ?_
  case refine_2 =>
    have asks : ∀ (x : ByteArray) {F : Bool → T}, F (conS t x) h → I 51 [str t, str x] (fun cs g => ∃ b : Bool, cs = [boo b] ∧ F b g) h := fun x F hF => hL.has hT usz ⟨_, rfl, hF⟩
    unfold spare at hjk
    refine hL.has hT usz ⟨_, rfl, ?_⟩
    rw [un]
    repeat' (first
      | (refine hL.has hT usz ⟨_, rfl, ?_⟩; first | rw [uf] | rw [us] | rw [ui] | rw [um])
      | exact hjk _ _ ⟨rfl, by simp_all⟩
      | refine ifT_intro (fun _ => ?_) fun _ => ?_)
  rintro b _ ⟨rfl, rfl⟩
  refine hL.has hT usz ⟨_, rfl, ?_⟩
  rw [uw]
  refine joinK_intro (fun (n : Int) g => h = g ∧ n = if u.w then 5 else 0) ?_ fun jk hjk => ifT_intro (fun e => hjk _ _ ⟨rfl, by rw [e]; rfl⟩) fun e => hjk _ _ ⟨rfl, by rw [e]; rfl⟩
  rintro n _ ⟨rfl, rfl⟩
  unfold formedB at hQ
  have tru : (!(!spare u c.name c.field c.sign c.within c.num && (decide (u.vl ≤ (c.vals.length : Int)) && decide ((c.vals.length : Int) ≤ u.vh)) && (decide (u.al ≤ (c.args.length : Int)) && decide ((c.args.length : Int) ≤ u.ah)) && (decide ((c.whs.length : Int) = 0) || (u.w && decide ((c.whs.length : Int) ≤ 5))))) = true → Q [boo true] h := fun e => by rw [e] at hQ; exact hQ
  refine ifT_intro (fun e => tru (by rw [e]; rfl)) fun e1 => ifT_dec (fun e => tru (by simp; omega)) fun e2 => ifT_dec (fun e => tru (by simp; omega)) fun e3 => ifT_dec (fun e => tru (by simp; omega)) fun e4 => ifT_dec (fun e => tru (by simp; omega)) fun e5 => ?_
  have e : decide ((sw.len : Int) > if u.w then 5 else 0) = (!(!spare u c.name c.field c.sign c.within c.num && (decide (u.vl ≤ (c.vals.length : Int)) && decide ((c.vals.length : Int) ≤ u.vh)) && (decide (u.al ≤ (c.args.length : Int)) && decide ((c.args.length : Int) ≤ u.ah)) && (decide ((c.whs.length : Int) = 0) || (u.w && decide ((c.whs.length : Int) ≤ 5))))) := by
    have d1 : decide (u.vl ≤ (c.vals.length : Int)) = true := decide_eq_true (by omega)
    have d2 : decide ((c.vals.length : Int) ≤ u.vh) = true := decide_eq_true (by omega)
    have d3 : decide (u.al ≤ (c.args.length : Int)) = true := decide_eq_true (by omega)
    have d4 : decide ((c.args.length : Int) ≤ u.ah) = true := decide_eq_true (by omega)
    have hw : (sw.len : Int) = (c.whs.length : Int) := by omega
    rw [e1, d1, d2, d3, d4, hw]
    cases u.w with
    | false =>
      by_cases h0 : (c.whs.length : Int) = 0
      · have g1 : decide ((c.whs.length : Int) > if false = true then 5 else 0) = false := decide_eq_false (by simp only [Bool.false_eq_true, if_false]; omega)
        rw [g1, decide_eq_true h0]; rfl
      · have g1 : decide ((c.whs.length : Int) > if false = true then 5 else 0) = true := decide_eq_true (by simp only [Bool.false_eq_true, if_false]; omega)
        rw [g1, decide_eq_false h0]; rfl
    | true =>
      by_cases h0 : (c.whs.length : Int) ≤ 5
      · have g1 : decide ((c.whs.length : Int) > if true = true then 5 else 0) = false := decide_eq_false (by simp only [if_true]; omega)
        rw [g1, decide_eq_true h0]; simp
      · have g1 : decide ((c.whs.length : Int) > if true = true then 5 else 0) = true := decide_eq_true (by simp only [if_true]; omega)
        have g2 : decide ((c.whs.length : Int) = 0) = false := decide_eq_false (by omega)
        rw [g1, decide_eq_false h0, g2]; rfl
  rw [← e] at hQ
  exact hQ
/-- How large a condition is. -/
theorem spec23 (hI : Closed' prog Pm I) : ∀ (N : Nat) (c : CT) (cs : List Cell) (Q : Post), c.size ≤ N → c.size < 1000000 → CondAt h c cs → Q [int c.size, int c.deep] h → I 23 [.agg cs] Q h := by
  intro N
  induction N with
  | zero => intro c cs Q hN; have := c.one_le; omega
  | succ N ih =>
    intro c cs Q hN hs hc hQ
    obtain ⟨sv, sw, sa, rfl, hv, hw, rs, ha, has⟩ := hc.parts
    refine hI.go _ _ (den23 I c.kind c.name c.field c.sign sv sw c.within c.num sa Q) ?_
    have hsz := c.size_eq
    have hdp := c.deep_eq
    have hal := args_le c.args
    have hdl : c.deep ≤ c.size := deep_size c
    obtain ⟨hlr, h9⟩ := has.len
    have hla : sa.len = c.args.length := by
      have := ha.1
      rw [flat9 h9] at this; omega
    refine loopK_intro (fun (p : Int × Int × Int) g m => h = g ∧ ∃ k : Nat, k ≤ c.args.length ∧ p = (((1 + sizes (c.args.take k) : Nat) : Int), ((1 + deeps (c.args.take k) : Nat) : Int), (k : Int)) ∧ c.args.length - k = m) c.args.length ⟨rfl, 0, by omega, by simp [sizes, deeps], rfl⟩ ?_
    rintro p g m ⟨rfl, k, hk, rfl, rfl⟩
    dsimp only [uncur]
    refine ifT_dec (fun hlt => ⟨⟨by omega, hlt⟩, ?_⟩) fun hge => ?_
    · have hx := List.getElem?_eq_getElem (show k < c.args.length by omega)
      generalize c.args[k] = a at hx
      have ham := List.mem_of_getElem? hx
      have hsa := size_mem ham
      have hs1 := sizes_take_le c.args k
      have hd1 := deeps_take_le c.args k
      have hda := deep_size a
      refine has.row ha hx fun b o r hca hr => ?_
      obtain ⟨sv2, sw2, sa2, rfl, _⟩ := hca.parts
      refine ⟨a.kind, a.name, a.field, a.sign, sv2, sw2, a.within, a.num, sa2, hr, ih a (condC a sv2 sw2 sa2) _ (by omega) (by omega) hca ⟨_, _, rfl, ?_⟩⟩
      refine ⟨c.args.length - (k + 1), by omega, rfl, k + 1, by omega, ?_, rfl⟩
      rw [sizes_take hx, deeps_take hx]
      have w1 : IntKind.i64.wrap (((1 + sizes (c.args.take k) : Nat) : Int) + (a.size : Int)) = ((1 + (sizes (c.args.take k) + a.size) : Nat) : Int) := by rw [w64] <;> omega
      have w2 : IntKind.i64.wrap ((a.deep : Int) + 1) = (a.deep : Int) + 1 := by rw [w64] <;> omega
      have w3 : IntKind.i64.wrap ((k : Int) + 1) = ((k + 1 : Nat) : Int) := by rw [w64] <;> omega
      have w4 : max ((1 + deeps (c.args.take k) : Nat) : Int) ((a.deep : Int) + 1) = ((1 + max (deeps (c.args.take k)) a.deep : Nat) : Int) := by omega
      rw [w1, w2, w3, w4]
    · have : k = c.args.length := by omega
      subst this
      rw [List.take_length, ← hsz, ← hdp]
      exact hQ
/-- .. with the comparisons of a condition. -/
theorem spec24 (hI : Closed' prog Pm I) (hL : LibI I TT) (hJ : LibJ I TT) : ∀ (N : Nat) (c : CT) (cs : List Cell) (h : Heap) (Q : Post), c.size ≤ N → c.size < 1000000 → c.narrow → TT h → CondAt h c cs → (∀ h', Ext h h' → Q [int (trE errN c)] h') → I 24 [.agg cs] Q h := by
  have hE : ∀ {h h' : Heap}, Ext h h' → TT h → TT h' := fun x t => hL.ext x t
  intro N
  induction N with
  | zero => intro c cs h Q hN; have := c.one_le; omega
  | succ N ih =>
    intro c cs h Q hN hs hn hT hc hQ
    obtain ⟨sv, sw, sa, rfl, hv, hw, rs, ha, has⟩ := hc.parts
    refine hI.go _ _ (den24 I c.kind c.name c.field c.sign sv sw c.within c.num sa Q) ?_
    rw [trE_eq] at hQ
    have lv := hv.rowsLen valC_length (by decide)
    have lw := hw.rowsLen whrC_length (by decide)
    have hsz := c.size_eq
    have hal := args_le c.args
    obtain ⟨n1, n2, _⟩ := (c.narrow_eq).1 hn
    obtain ⟨hlr, h9⟩ := has.len
    have hla : sa.len = c.args.length := by
      have := ha.1
      rw [flat9 h9] at this; omega
    -- what is wrong with the condition itself
    have own : ∀ (g : Heap) (k : Int), Ext h g → errN c = k → k ≠ 0 → Q [int k] g := fun g k x e hk => by
      have := hQ g x
      rw [e, if_pos hk] at this; exact this
    refine joinK_intro (fun (b : Bool) g => h = g ∧ b = decide (c.kind < 1 ∨ c.kind > 14)) ?_ fun jk hjk => ifT_dec (fun e => hjk _ _ ⟨rfl, by simp [e]⟩) fun e => hjk _ _ ⟨rfl, by simp; omega⟩
    rintro b _ ⟨rfl, rfl⟩
    refine ifT_dec (fun e => own h 4 (Ext.refl _) ?_ (by decide)) fun e => ?_
    · unfold errN
      cases hu : useOf c.kind with
      | none => rfl
      | some u => have := useOf_range hu; omega
    obtain ⟨u, hu⟩ := useOf_some (k := c.kind) (by omega) (by omega)
    obtain ⟨usz, un, uf, us, uw, ui, um⟩ := UseIs.of hu
    have hErr : errN c = if formedB c u = false then 3 else if (u.n && !nameB c.name || u.f && !nameB c.field) = true then 5 else if (u.s && decide (signNo c.sign < 0)) = true then 4
      else if errVs c.kind c.vals ≠ 0 then errVs c.kind c.vals else if errWs c.whs ≠ 0 then errWs c.whs
      else if ¬ (0 ≤ c.within ∧ c.within ≤ 4321440) then 1 else if ¬ ((boundsN c.kind).1 ≤ c.num ∧ c.num ≤ (boundsN c.kind).2) then 1 else 0 := by unfold errN; rw [hu]
    refine spec49 hI (by omega) (by omega) ⟨_, rfl, ?_⟩
    generalize usesT c.kind = t at *
    refine spec50 hI hL hT (c := c) hu lv lw hla ⟨_, rfl, ifT_intro (fun e1 => own h 3 (Ext.refl _) (by rw [hErr, if_pos (by simpa using e1)]) (by decide)) fun e1 => ?_⟩
    have hform : formedB c u = true := by simpa using e1
    rw [if_neg (by rw [hform]; decide)] at hErr
    refine joinK_intro (fun (b : Bool) g => Ext h g ∧ b = (u.n && !nameB c.name)) ?_ fun jk hjk => ?_
    case refine_2 =>
      refine hL.has hT usz ⟨_, rfl, ifT_intro (fun e => spec52 hI hJ hE hT fun g x => ⟨_, rfl, hjk _ _ ⟨x, ?_⟩⟩) fun e => hjk _ _ ⟨Ext.refl _, ?_⟩⟩
      · rw [un] at e; rw [e]; rfl
      · rw [un] at e; rw [e]; rfl
    rintro b1 g1 ⟨x1, hb1⟩
    have hT1 := hE x1 hT
    refine joinK_intro (fun (b : Bool) g => Ext h g ∧ b = (u.n && !nameB c.name || u.f && !nameB c.field)) ?_ fun jk hjk => ?_
    case refine_2 =>
      refine ifT_intro (fun e => hjk _ _ ⟨x1, ?_⟩) fun e => ?_
      · rw [← hb1, e]; rfl
      refine joinK_intro (fun (b : Bool) g => Ext h g ∧ b = (u.f && !nameB c.field)) (fun b g hb => hjk _ _ ⟨hb.1, by rw [← hb1, e, hb.2]; rfl⟩) fun j2 hj2 => ?_
      refine hL.has hT1 usz ⟨_, rfl, ifT_intro (fun e => spec52 hI hJ hE hT1 fun g x => ⟨_, rfl, hj2 _ _ ⟨x1.trans x, ?_⟩⟩) fun e => hj2 _ _ ⟨x1, ?_⟩⟩
      · rw [uf] at e; rw [e]; rfl
      · rw [uf] at e; rw [e]; rfl
    rintro b2 g2 ⟨x2, hb2⟩
    have hT2 := hE x2 hT
    rw [← hb2] at hErr
    refine ifT_intro (fun e => own g2 5 x2 (by rw [hErr, if_pos e]) (by decide)) fun e2 => ?_
    rw [if_neg (by rw [e2]; decide)] at hErr
    refine joinK_intro (fun (b : Bool) g => Ext h g ∧ b = (u.s && decide (signNo c.sign < 0))) ?_ fun jk hjk => ?_
    case refine_2 =>
      refine hL.has hT2 usz ⟨_, rfl, ifT_intro (fun e => spec_sign hI fun g x => hjk _ _ ⟨x2.trans x, ?_⟩) fun e => hjk _ _ ⟨x2, ?_⟩⟩
      · rw [us] at e; rw [e]; simp
      · rw [us] at e; rw [e]; rfl
    rintro b3 g3 ⟨x3, hb3⟩
    have hT3 := hE x3 hT
    rw [← hb3] at hErr
    refine ifT_intro (fun e => own g3 4 x3 (by rw [hErr, if_pos e]) (by decide)) fun e3 => ?_
    rw [if_neg (by rw [e3]; decide)] at hErr
    -- the values
    have hVs : (c.kind = 9 ∨ c.kind = 10) → ∃ v, c.vals = [v] := fun hk => by
      unfold formedB at hform
      simp only [Bool.and_eq_true, decide_eq_true_eq] at hform
      have hl := hform.1.1.2
      have : u.vl = 1 ∧ u.vh = 1 := by
        unfold useOf at hu
        rcases hk with e | e <;> rw [e] at hu <;> simp at hu <;> subst hu <;> exact ⟨rfl, rfl⟩
      obtain ⟨h1, h2⟩ := this
      rw [h1, h2] at hl
      exact List.length_eq_one_iff.1 (by omega)
    have hV1 : firstV c.vals ≠ 0 → errVs c.kind c.vals = firstV c.vals := fun e => by
      by_cases hk : c.kind = 9 ∨ c.kind = 10
      · obtain ⟨v, hv⟩ := hVs hk
        rw [hv] at e ⊢
        rw [errVs_one hk, if_pos e]
      · exact errVs_plain hk _
    refine loopK_intro (fun (n : Int) g m => Ext h g ∧ ∃ k : Nat, k ≤ c.vals.length ∧ n = k ∧ c.vals.length - k = m ∧ firstV c.vals = firstV (c.vals.drop k)) c.vals.length ⟨x3, 0, by omega, rfl, rfl, rfl⟩ ?_
    rintro n g4 m ⟨x4, k, hk, rfl, rfl, he⟩
    have hT4 := hE x4 hT
    refine ifT_dec (fun hlt => ⟨⟨by omega, hlt⟩, ?_⟩) fun hge => ?_
    · have hx := List.getElem?_eq_getElem (show k < c.vals.length by omega)
      generalize c.vals[k] = v at hx
      rw [firstV_at hx] at he
      refine (x4.at_ hv).row valC_length (by decide) hx fun bb oo hr => ⟨v.kind, v.text, v.num, hr, spec55 hI hJ hE hT4 (v := v) fun g5 x5 => ⟨_, rfl, ifT_intro (fun e => ?_) fun e => ?_⟩⟩
      · have e := nd e
        rw [if_pos e] at he
        refine own g5 _ (x4.trans x5) ?_ e
        rw [hErr, hV1 (by rw [he]; exact e), if_pos (by rw [he]; exact e), he]
      · rw [if_neg (nd' e)] at he
        exact ⟨c.vals.length - (k + 1), by omega, x4.trans x5, k + 1, by omega, by rw [w64] <;> omega, rfl, he⟩
    obtain rfl : k = c.vals.length := by omega
    rw [List.drop_length] at he
    have he0 : firstV c.vals = 0 := he
    refine joinK_intro (fun (b : Bool) g => g4 = g ∧ errVs c.kind c.vals = if b then 10 else 0) ?_ fun jk hjk => ?_
    case refine_2 =>
      have one : (c.kind = 9 ∨ c.kind = 10) → ((0 : Int) ≤ 0 ∧ 0 < (sv.len : Int)) ∧ derefK sv.a (fun i o g => ∃ n86 : Int, (g.read i (o + 0 + 0) 1 = some [Cell.int IntKind.i64 n86]) ∧ jk (!decide (n86 = 1)) g) g4 := fun hk => by
        obtain ⟨v, hv1⟩ := hVs hk
        have hx : c.vals[0]? = some v := by rw [hv1]; rfl
        have hl1 : c.vals.length = 1 := by rw [hv1]; rfl
        refine ⟨⟨by decide, by omega⟩, (x4.at_ hv).rowCell (i := 0) (j := 0) valC_length (by decide) hx (c := .int .i64 v.kind) rfl fun bb oo hr => ⟨v.kind, by simpa using hr, hjk _ _ ⟨rfl, ?_⟩⟩⟩
        rw [hv1] at he0 ⊢
        rw [errVs_one hk, he0, if_neg (by decide)]
        by_cases e : v.kind = 1
        · simp [e]
        · simp [e]
      refine ifT_dec (fun e => one (.inl e)) fun e9 => ifT_dec (fun e => one (.inr e)) fun e10 => hjk _ _ ⟨rfl, ?_⟩
      rw [errVs_plain (by omega), he0]; rfl
    rintro b5 _ ⟨rfl, hb5⟩
    rw [hb5] at hErr
    refine ifT_intro (fun e => own g4 10 x4 (by rw [hErr, e]; rfl) (by decide)) fun e5 => ?_
    rw [e5] at hErr
    simp only [Bool.false_eq_true, if_false, ne_eq, not_true_eq_false] at hErr
    -- the comparisons of fields of events
    refine loopK_intro (fun (n : Int) g m => Ext h g ∧ ∃ k : Nat, k ≤ c.whs.length ∧ n = k ∧ c.whs.length - k = m ∧ errWs c.whs = errWs (c.whs.drop k)) c.whs.length ⟨x4, 0, by omega, rfl, rfl, rfl⟩ ?_
    rintro n g5 m ⟨x5, k, hk, rfl, rfl, hew⟩
    have hT5 := hE x5 hT
    refine ifT_dec (fun hlt => ⟨⟨by omega, hlt⟩, ?_⟩) fun hge => ?_
    · have hx := List.getElem?_eq_getElem (show k < c.whs.length by omega)
      generalize c.whs[k] = w at hx
      rw [errWs_at hx] at hew
      have wrong : ∀ (g : Heap) (z : Int), Ext h g → errW w = z → z ≠ 0 → Q [int z] g := fun g z x e hz => by
        rw [e, if_pos hz] at hew
        exact own g z x (by rw [hErr, hew, if_pos hz]) hz
      refine (x5.at_ hw).row whrC_length (by decide) hx fun bb oo hr => ⟨w.field, w.sign, w.val.kind, w.val.text, w.val.num, hr, ?_⟩
      refine spec52 hI hJ hE hT5 fun g6 x6 => ⟨_, rfl, ifT_intro (fun e => wrong g6 5 (x5.trans x6) (by unfold errW; rw [if_pos (by simpa using e)]) (by decide)) fun e6 => ?_⟩
      have hnm : ¬ nameB w.field = false := by simpa using e6
      refine spec_sign hI fun g7 x7 => ifT_intro (fun e => wrong g7 4 ((x5.trans x6).trans x7) (by unfold errW; rw [if_neg hnm, if_pos (by simpa using e)]) (by decide)) fun e7 => ?_
      have hsg : ¬ signNo w.sign < 0 := by simpa using e7
      have hwv : errW w = errV w.val := by unfold errW; rw [if_neg hnm, if_neg hsg]
      refine spec55 hI hJ hE (hE x7 (hE x6 hT5)) (v := w.val) fun g8 x8 => ⟨_, rfl, ifT_intro (fun e => wrong g8 _ (((x5.trans x6).trans x7).trans x8) hwv (nd e)) fun e => ?_⟩
      rw [hwv, if_neg (nd' e)] at hew
      exact ⟨c.whs.length - (k + 1), by omega, ((x5.trans x6).trans x7).trans x8, k + 1, by omega, by rw [w64] <;> omega, rfl, hew⟩
    obtain rfl : k = c.whs.length := by omega
    rw [List.drop_length] at hew
    have hew0 : errWs c.whs = 0 := hew
    rw [hew0] at hErr
    simp only [if_neg (show ¬ (0 : Int) ≠ 0 by decide)] at hErr
    -- the numbers
    refine joinK_intro (fun (p : Int × Int) g => g5 = g ∧ p = boundsN c.kind) ?_ fun jk hjk => ifT_dec (fun e => hjk _ _ ⟨rfl, by unfold boundsN; rw [if_pos e]⟩) fun e => hjk _ _ ⟨rfl, by unfold boundsN; rw [if_neg e]⟩
    rintro ⟨lo, hi2⟩ _ ⟨rfl, hb⟩
    rw [← hb] at hErr
    dsimp only [uncur] at hErr ⊢
    refine joinK_intro (fun (b : Bool) g => g5 = g ∧ errN c = if b then 1 else 0) ?_ fun jk hjk => ?_
    case refine_2 =>
      refine ifT_dec (fun e => hjk _ _ ⟨rfl, by rw [hErr, if_pos (show ¬ (0 ≤ c.within ∧ c.within ≤ 4321440) by omega)]; rfl⟩) fun e1 => ifT_dec (fun e => hjk _ _ ⟨rfl, by rw [hErr, if_pos (show ¬ (0 ≤ c.within ∧ c.within ≤ 4321440) by omega)]; rfl⟩) fun e2 => ?_
      rw [if_neg (show ¬ ¬ (0 ≤ c.within ∧ c.within ≤ 4321440) by omega)] at hErr
      refine ifT_dec (fun e => hjk _ _ ⟨rfl, by rw [hErr, if_pos (show ¬ (lo ≤ c.num ∧ c.num ≤ hi2) by omega)]; rfl⟩) fun e3 => hjk _ _ ⟨rfl, ?_⟩
      by_cases e4 : c.num > hi2
      · rw [decide_eq_true e4, hErr, if_pos (show ¬ (lo ≤ c.num ∧ c.num ≤ hi2) by omega)]; rfl
      · rw [decide_eq_false e4, hErr, if_neg (show ¬ ¬ (lo ≤ c.num ∧ c.num ≤ hi2) by omega)]; rfl
    rintro b9 _ ⟨rfl, hb9⟩
    refine ifT_intro (fun e => own g5 1 x5 (by rw [hb9, e]; rfl) (by decide)) fun e9 => ?_
    rw [e9] at hb9
    have hE0 : errN c = 0 := hb9
    rw [hE0] at hQ
    simp only [if_neg (show ¬ (0 : Int) ≠ 0 by decide)] at hQ
    -- those within
    refine loopK_intro (fun (n : Int) g m => Ext h g ∧ ∃ k : Nat, k ≤ c.args.length ∧ n = k ∧ c.args.length - k = m ∧ trsE errN c.args = trsE errN (c.args.drop k)) c.args.length ⟨x5, 0, by omega, rfl, rfl, rfl⟩ ?_
    rintro n g6 m ⟨x6, k, hk, rfl, rfl, het⟩
    refine ifT_dec (fun hlt => ⟨⟨by omega, hlt⟩, ?_⟩) fun hge => ?_
    · have hx := List.getElem?_eq_getElem (show k < c.args.length by omega)
      generalize c.args[k] = a at hx
      have ham := List.mem_of_getElem? hx
      have hsa := size_mem ham
      rw [trsE_at hx] at het
      refine (CondsAt.ext x6 has).row (x6.at_ ha) hx fun b o r hca hr => ?_
      obtain ⟨sv2, sw2, sa2, rfl, _⟩ := hca.parts
      refine ⟨a.kind, a.name, a.field, a.sign, sv2, sw2, a.within, a.num, sa2, hr, ih a (condC a sv2 sw2 sa2) g6 _ (by omega) (by omega) (CT.narrow_arg hn ham) (hE x6 hT) hca fun g7 x7 => ⟨_, rfl, ifT_intro (fun e => ?_) fun e => ?_⟩⟩
      · have := hQ _ (x6.trans x7)
        rw [het, if_pos (nd e)] at this; exact this
      · rw [if_neg (nd' e)] at het
        exact ⟨c.args.length - (k + 1), by omega, x6.trans x7, k + 1, by omega, by rw [w64] <;> omega, rfl, het⟩
    · obtain rfl : k = c.args.length := by omega
      have := hQ _ x6
      rw [het, List.drop_length] at this; exact this
/-- What the document answers of a condition. -/
theorem spec9 (hI : Closed' prog Pm I) (hL : LibI I TT) (hJ : LibJ I TT) (hT : TT h) {c : CT} {cs : List Cell} (hc : CondAt h c cs) (hs : c.size < 1000000) (hn : c.narrow) (hQ : ∀ h', Ext h h' → Q [int (errCond c)] h') : I 9 [.agg cs] Q h := by
  obtain ⟨sv, sw, sa, rfl, _⟩ := hc.parts
  refine hI.go _ _ (den9 I c.kind c.name c.field c.sign sv sw c.within c.num sa Q) ?_
  unfold errCond at hQ
  refine spec23 hI c.size c (condC c sv sw sa) _ (Nat.le_refl _) hs hc ⟨_, _, rfl, ifT_dec (fun e => ?_) fun e => ifT_dec (fun e2 => ?_) fun e2 => ?_⟩
  · have := hQ h (Ext.refl _)
    rw [if_pos (by omega)] at this; exact this
  · have := hQ h (Ext.refl _)
    rw [if_pos (by omega)] at this; exact this
  · simp only [if_neg (show ¬ (300 < c.size ∨ 20 < c.deep) by omega)] at hQ
    exact spec24 hI hL hJ c.size c (condC c sv sw sa) h _ (Nat.le_refl _) hs hn hT hc fun h1 x1 => ⟨_, rfl, hQ h1 x1⟩
end
end Go.Proofs.YtadakbmoanbcgaaGreatDoorVc
-- CkFSpec3
namespace Go.Proofs.YtadakbmoanbcgaaGreatDoorVc
open Go.Proofs.Tryz (prog)
/-- A slice is cloned: one's own. -/
theorem cloneO {h0 h : Heap} {L : List Ow} {sz bytes : Nat} {s : Sl} {cs : List Cell} (o : Owns h0 h L) (a : AtS h sz s cs) (hb : s.len * bytes ≤ 140737488355328) {F : Sl → T} (hF : ∀ s' h', Ext h h' → Owns h0 h' ((sz, s', cs) :: L) → F s' h') :
    ifT s.a.isNone (F ⟨none, 0⟩) (fun h1 => ∃ cs2 : List Cell, h1.sl sz s = some cs2 ∧ s.len * bytes ≤ 140737488355328 ∧ newK (.cells false cs2) (fun i3 => fun h4 => F ⟨some (i3, 0), s.len⟩ h4) h1) h := by
  refine ifT_intro (fun e => ?_) fun e => ⟨cs, a.sl, hb, newK_intro fun i h1 hn he => ?_⟩
  · have hsl := a.sl
    unfold Heap.sl at hsl
    cases ha : s.a with
    | some p => rw [ha] at e; cases e
    | none =>
      rw [ha] at hsl
      cases hsl
      exact hF _ h (Ext.refl h) (o.none_ sz)
  · have o1 := o.new (i := i) (sz := sz) (n := s.len) (cs := cs) hn a.len
    rw [← he] at o1
    exact hF _ h1 (he ▸ Ext.new hn) o1
theorem flat9_set {rs : List (List Cell)} (h9 : ∀ r ∈ rs, r.length = 9) {r' : List Cell} (hr : r'.length = 9) : ∀ {k : Nat}, k < rs.length → splice rs.flatten (k * 9) r' = (rs.set k r').flatten := by
  induction rs with
  | nil => intro k hk; simp at hk
  | cons r rs ih =>
    intro k hk
    have hr9 := h9 r (by simp)
    unfold splice
    cases k with
    | zero =>
      simp only [Nat.zero_mul, List.take_zero, List.nil_append, Nat.zero_add, List.set_cons_zero, List.flatten_cons, hr]
      rw [List.drop_append_of_le_length (by omega), List.drop_eq_nil_of_le (by omega), List.nil_append]
    | succ k =>
      have := ih (fun x hx => h9 x (by simp [hx])) (k := k) (by simpa using hk)
      unfold splice at this
      simp only [List.flatten_cons, List.set_cons_succ, hr] at this ⊢
      rw [← this]
      have e1 : (k + 1) * 9 = r.length + k * 9 := by omega
      have e2 : (k + 1) * 9 + 9 = r.length + (k * 9 + 9) := by omega
      rw [e2, e1, List.take_length_add_append, List.drop_length_add_append]
      simp [hr]
theorem CondsAt.setAt {h : Heap} {c : CT} {r : List Cell} (hc : CondAt h c r) : ∀ {al : List CT} {rs : List (List Cell)} {k : Nat}, CondsAt h al rs → CondsAt h (al.set k c) (rs.set k r)
  | [], [], k, H => by simpa using H
  | a :: al, q :: rs, 0, H => by
    unfold CondsAt at H
    show CondsAt h (c :: al) (r :: rs)
    unfold CondsAt
    exact ⟨hc, H.2⟩
  | a :: al, q :: rs, k + 1, H => by
    unfold CondsAt at H
    show CondsAt h (a :: al.set k c) (q :: rs.set k r)
    unfold CondsAt
    exact ⟨H.1, CondsAt.setAt hc H.2⟩
  | [], _ :: _, _, H => by unfold CondsAt at H; exact H.elim
  | _ :: _, [], _, H => by unfold CondsAt at H; exact H.elim
theorem sizes_set {c a : CT} {al : List CT} {k : Nat} (hx : al[k]? = some a) : sizes (al.set k c) + a.size = sizes al + c.size := by
  induction al generalizing k with
  | nil => simp at hx
  | cons b al ih =>
    cases k with
    | zero => simp at hx; subst hx; simp only [List.set_cons_zero, sizes]; omega
    | succ k =>
      have := ih (k := k) (by simpa using hx)
      simp only [List.set_cons_succ, sizes]; omega
theorem narrows_set {c : CT} (hc : c.narrow) : ∀ {al : List CT} {k : Nat}, narrows al → narrows (al.set k c)
  | [], _, h => by simpa using h
  | a :: al, 0, h => by
    unfold narrows at h
    show narrows (c :: al)
    unfold narrows
    exact ⟨hc, h.2⟩
  | a :: al, k + 1, h => by
    unfold narrows at h
    show narrows (a :: al.set k c)
    unfold narrows
    exact ⟨h.1, narrows_set hc h.2⟩
theorem trsE_mem {e : CT → Int} {a : CT} : ∀ {al : List CT}, trsE e al = 0 → a ∈ al → trE e a = 0
  | b :: al, h, hm => by
    rw [trsE] at h
    by_cases e1 : trE e b ≠ 0
    · rw [if_pos e1] at h; exact absurd h e1
    · rw [if_neg e1] at h
      rcases List.mem_cons.1 hm with rfl | hm
      · exact Decidable.of_not_not e1
      · exact trsE_mem h hm
  | [], _, hm => by cases hm
theorem tr_args {c a : CT} (h : trE errN c = 0) (ha : a ∈ c.args) : trE errN a = 0 := by
  rw [trE_eq] at h
  by_cases e : errN c ≠ 0
  · rw [if_pos e] at h; exact absurd h e
  · rw [if_neg e] at h; exact trsE_mem h ha
/-- A right condition has few values. -/
theorem tr_few {c : CT} (h : trE errN c = 0) : c.vals.length ≤ 50 ∧ c.whs.length ≤ 5 := by
  have h0 : errN c = 0 := by
    rw [trE_eq] at h
    by_cases e : errN c ≠ 0
    · rw [if_pos e] at h; exact absurd h e
    · exact Decidable.of_not_not e
  obtain ⟨u, hu, f1, _⟩ := errN_parts h0
  unfold formedB at f1
  simp only [Bool.and_eq_true, Bool.or_eq_true, decide_eq_true_eq] at f1
  have hv : u.vh ≤ 50 := by
    unfold useOf at hu
    repeat' (first
      | (split at hu
         · cases hu; decide)
      | cases hu)
  obtain ⟨⟨⟨_, hv1, hv2⟩, _⟩, hw1⟩ := f1
  refine ⟨by omega, ?_⟩
  rcases hw1 with hw1 | ⟨_, hw1⟩ <;> omega
/-- Asked of strings.Repeat. -/
def RepI (I : Calls) (T : Heap → Prop) : Prop := ∀ {n : Int} {Q : Post} {h : Heap}, T h → (n = 40 ∨ n = 41) → (∀ s h', Ext h h' → Q [str s] h') → I 16 [str ⟨#[110]⟩, int n] Q h
/-- What is spoiled is a condition still. -/
structure SpoilC (c c' : CT) : Prop where
  size : c'.size ≤ c.size + 20
  nar : c'.narrow
section
variable {Pm : Prim} {I : Calls} {i : Nat} {l : Sl} {zs : List Int} {TT : Heap → Prop}
theorem Up.later {B h h1 h2 h3 : Heap} (e : Ext B h) (x : ∀ j, h1 j = none → h j = none) (y : ∀ j o, h1 j = none → h2 j = some o → h3 j = some o) : Ext (Up B h1 h2) (Up B h h3) := fun j o hj => by
  cases h1j : h1 j with
  | none =>
    rw [Up.in_ h1j] at hj
    rw [Up.in_ (x j h1j)]; exact y j o h1j hj
  | some z =>
    rw [Up.out h1j] at hj
    rw [Up.out (e _ _ hj)]; exact hj
theorem spec14o (hI : Closed' prog Pm I) {Q : Post} {h0 h : Heap} {L : List Ow} {s : Sl} {cs : List Cell} (o : Owns h0 h L) (a : AtS h 9 s cs) (hb : s.len < 1000000) (hQ : ∀ s' h', Ext h h' → Owns h0 h' ((9, s', cs) :: L) → Q [.one (.slice 9 s')] h') : I 14 [.one (.slice 9 s)] Q h :=
  hI.go _ _ (den14 I s Q) (cloneO (bytes := 144) (F := fun s => Q [.one (.slice 9 s)]) o a (by omega) hQ)
theorem spec17o (hI : Closed' prog Pm I) {Q : Post} {h0 h : Heap} {L : List Ow} {s : Sl} {cs : List Cell} (o : Owns h0 h L) (a : AtS h 3 s cs) (hb : s.len < 1000000) (hQ : ∀ s' h', Ext h h' → Owns h0 h' ((3, s', cs) :: L) → Q [.one (.slice 3 s')] h') : I 17 [.one (.slice 3 s)] Q h :=
  hI.go _ _ (den17 I s Q) (cloneO (bytes := 32) (F := fun s => Q [.one (.slice 3 s)]) o a (by omega) hQ)
theorem spec18o (hI : Closed' prog Pm I) {Q : Post} {h0 h : Heap} {L : List Ow} {s : Sl} {cs : List Cell} (o : Owns h0 h L) (a : AtS h 5 s cs) (hb : s.len < 1000000) (hQ : ∀ s' h', Ext h h' → Owns h0 h' ((5, s', cs) :: L) → Q [.one (.slice 5 s')] h') : I 18 [.one (.slice 5 s)] Q h :=
  hI.go _ _ (den18 I s Q) (cloneO (bytes := 64) (F := fun s => Q [.one (.slice 5 s)]) o a (by omega) hQ)
theorem spoil_g (hI : Closed' prog Pm I) (hE : ∀ {h h' : Heap}, Ext h h' → TT h → TT h') (hR : RepI I TT) : ∀ (N : Nat) (c : CT) (r : List Cell) (h B : Heap) (t : Nat) (Q : Post), c.size ≤ N → c.size < 1000 → c.narrow → trE errN c = 0 → TT (h.del i) → Strm h i l zs t → t + 10 * c.size + 30 < 800000000 → Ext B (h.del i) → CondAt B c r →
    (∀ c' r' h', Gn i l zs h t (10 * c.size + 30) h' → CondAt (Up B h h') c' r' → SpoilC c c' → Q [.agg r'] h') → I 6 [.one (.ptr (some (i, 0))), .agg r] Q h := by
  intro N
  induction N with
  | zero => intro c r h B t Q hN; have := c.one_le; omega
  | succ N ih =>
    intro c r h B t Q hN hs hn htr hT S ht xB hc hQ
    obtain ⟨sv, sw, sa, rfl, hv, hw, rs, ha, has⟩ := hc.partsS
    have hsz := c.size_eq
    have hal := args_le c.args
    obtain ⟨n1, n2, n3⟩ := (c.narrow_eq).1 hn
    obtain ⟨few1, few2⟩ := tr_few htr
    obtain ⟨hlr, h9⟩ := has.len
    have hla : sa.len = c.args.length := by
      have := ha.1
      rw [flat9 h9] at this; omega
    have hi0 : (h.del i) i = none := Heap.del_same ..
    have xBh : Ext B h := xB.trans (ext_del h i)
    refine hI.go _ _ (den6 I (some (i, 0)) c.kind c.name c.field c.sign sv sw c.within c.num sa Q) ?_
    refine joinK_intro (fun (b : Bool) g => (b = true → 0 < c.args.length) ∧ Gn i l zs h t 1 g) ?_ fun jk hjk => ?_
    case refine_2 =>
      refine ifT_dec (fun e => ?_) fun e => hjk _ _ ⟨(fun e => by cases e), (Gn.refl S).weak (by omega)⟩
      exact flip_g hI S (by omega) (by decide) (by decide) fun b h1 g1 => hjk _ _ ⟨fun _ => by omega, g1⟩
    rintro b h1 ⟨hb, g1⟩
    obtain ⟨t1, ht1, o1⟩ := S.owns.gn hi0 g1
    have x1 : Ext (h.del i) h1 := o1.ext
    have strm : ∀ {g : Heap} {t' : Nat} {L : List Ow}, Owns (h.del i) g (owS i l t' :: L) → t' ≤ t + 100 → Strm g i l zs t' := fun o ht => o.toStrm S (by simp) (by omega)
    have S1 := strm o1 (by omega)
    have hT1 : TT h1 := hE x1 hT
    -- what is there, at the end
    have parts : ∀ {g : Heap}, AtS (Up B h g) 3 sv (rows valC c.vals) ∧ AtS (Up B h g) 5 sw (rows whrC c.whs) ∧ AtS (Up B h g) 9 sa rs.flatten ∧ CondsAt (Up B h g) c.args rs := fun {g} => by
      have e : Ext B (Up B h g) := Up.base xBh
      exact ⟨hv.ext e, hw.ext e, ha.ext e, CondsAt.ext e has⟩
    have mine : ∀ {g : Heap} {t' : Nat} {L : List Ow} {sz : Nat} {s : Sl} {cs : List Cell}, Owns (h.del i) g (owS i l t' :: L) → (sz, s, cs) ∈ L → AtS (Up B h g) sz s cs := fun o hm => (Nw.atOwnS o hm).ext Up.nw
    refine ifT_intro (fun e => ?_) fun e => ?_
    · -- one within
      have hpos := hb e
      refine spec14o hI o1 ((ha.ext xB).ext x1) (by omega) fun s' h2 x2 o2 => ⟨_, rfl, ?_⟩
      have o2 := o2.swp
      have S2 := strm o2 (by omega)
      have ls' : s'.len = c.args.length := by
        have := (o2.all (9, s', rs.flatten) (by simp)).1
        simp only at this
        rw [flat9 h9] at this; omega
      refine next_g hI S2 (by omega) (by omega) (by omega) fun v h3 hv0 hv1 g3 => ⟨⟨hv0, hv1⟩, ?_⟩
      obtain ⟨t3, ht3, o3⟩ := o2.gn hi0 g3
      have S3 := strm o3 (by omega)
      obtain ⟨k, rfl⟩ : ∃ k : Nat, v = k := ⟨v.toNat, by omega⟩
      have hx := List.getElem?_eq_getElem (show k < c.args.length by omega)
      generalize c.args[k] = a at hx
      have ham := List.mem_of_getElem? hx
      have hsa := size_mem ham
      have xh3 : Ext (h.del i) (h3.del i) := fun j o hj => by
        have hne : j ≠ i := fun e => by rw [e, hi0] at hj; cases hj
        rw [Heap.del_ne _ hne]; exact o3.ext _ _ hj
      refine CondsAt.row2 has (o3.at_ (sz := 9) (s := s') (cs := rs.flatten) (by simp)) hx fun b o r2 hca hr2 hrd => ?_
      obtain ⟨sv2, sw2, sa2, rfl, _⟩ := hca.parts
      refine ⟨a.kind, a.name, a.field, a.sign, sv2, sw2, a.within, a.num, sa2, hrd, ?_⟩
      refine ih a (condC a sv2 sw2 sa2) h3 B t3 _ (by omega) (by omega) (CT.narrow_arg hn ham) (tr_args htr ham) (hE xh3 hT) S3 (by omega) (xB.trans xh3) hca fun c' r' h4 g4 hc' sp => ?_
      obtain ⟨sv3, sw3, sa3, rfl, _⟩ := hc'.parts
      refine ⟨_, _, _, _, _, _, _, _, _, rfl, ⟨hv0, hv1⟩, ?_⟩
      obtain ⟨t4, ht4, o4⟩ := o3.gn hi0 g4
      have own4 := o4.all (9, s', rs.flatten) (by simp)
      rcases own4.2 with ⟨z1, z2⟩ | ⟨j, z1, z2, z3⟩
      · simp only at z2
        have := flat9 h9
        rw [z2] at this
        simp at this
        omega
      simp only at z1 z3
      obtain ⟨sa', sl'⟩ := s'
      simp only at z1 ls'
      subst z1
      have hv1' : (k : Int) < (sl' : Int) := hv1
      have hkl : k < rs.length := by omega
      have hfl := flat9 h9
      refine derefK_intro rfl ?_
      refine ⟨rs.flatten, z3, by show 0 + (k : Int).toNat * 9 + 9 ≤ rs.flatten.length; simp only [Int.toNat_natCast]; omega, ?_⟩
      have hupd : updCells rs.flatten (0 + (k : Int).toNat * 9) (condC c' sv3 sw3 sa3) = (rs.set k (condC c' sv3 sw3 sa3)).flatten := by
        rw [updCells_eq _ _ _ (by rw [condC_length]; simp only [Int.toNat_natCast]; omega)]
        simp only [Int.toNat_natCast, Nat.zero_add]
        exact flat9_set h9 (condC_length _ _ _ _) hkl
      show Q _ (h4.set j (.cells false (updCells rs.flatten (0 + (k : Int).toNat * 9) (condC c' sv3 sw3 sa3))))
      rw [hupd]
      have h9' : ∀ r ∈ rs.set k (condC c' sv3 sw3 sa3), r.length = 9 := fun r hr => by
        rcases List.mem_or_eq_of_mem_set hr with h | h
        · exact h9 r h
        · rw [h]; rfl
      have o5 := (o4.swp.change (n' := sl') (sz' := 9) (cs' := (rs.set k (condC c' sv3 sw3 sa3)).flatten) (by rw [flat9 h9', List.length_set]; omega)).swp
      have hji : h3 j = some (.cells false rs.flatten) := (o3.block (i := j) (n := sl') (sz := 9) (cs := rs.flatten) (by simp)).1
      refine hQ (.mk c.kind c.name c.field c.sign c.vals c.whs c.within c.num (c.args.set k c')) _ _ (Owns.toGn S o5 (by omega) (by omega)) ?_ ⟨?_, ?_⟩
      · refine CondAt.make (c := .mk c.kind c.name c.field c.sign c.vals c.whs c.within c.num (c.args.set k c')) (rs := rs.set k (condC c' sv3 sw3 sa3)) parts.1 parts.2.1 (mine o5 (by simp)) ?_
        refine CondsAt.setAt ?_ parts.2.2.2
        refine CondAt.ext (Up.later xBh (dom_del S3 xh3) fun x y hx3 hy => ?_) hc'
        have : x ≠ j := fun e => by rw [e, hji] at hx3; cases hx3
        rw [set_ne _ _ this]; exact hy
      · have := sizes_set (c := c') hx
        have := sp.size
        simp only [CT.size] at *
        omega
      · rw [CT.narrow_eq]
        exact ⟨n1, n2, narrows_set sp.nar n3⟩
    -- one that is spoiled itself
    refine next_g hI S1 (by omega) (by decide) (by decide) fun v h2 hv0 hv1 g2 => ?_
    obtain ⟨t2, ht2, o2⟩ := o1.gn hi0 g2
    have S2 := strm o2 (by omega)
    have xh2 : Ext (h.del i) h2 := o2.ext
    have hT2 : TT h2 := hE xh2 hT
    have keep : ∀ (kd : Int) (nm fd sg : ByteArray) (wi nu : Int) {g : Heap} {k : Nat}, Gn i l zs h2 t2 k g → k ≤ 10 → Q [.agg [.int .i64 kd, .str nm, .str fd, .str sg, .slice 3 sv, .slice 5 sw, .int .i64 wi, .int .i64 nu, .slice 9 sa]] g := fun kd nm fd sg wi nu g k gg hk => by
      obtain ⟨t', ht', o'⟩ := o2.gn hi0 gg
      refine hQ (.mk kd nm fd sg c.vals c.whs wi nu c.args) _ g (Owns.toGn S o' (by omega) (by omega)) (CondAt.make (c := .mk kd nm fd sg c.vals c.whs wi nu c.args) parts.1 parts.2.1 parts.2.2.1 parts.2.2.2) ⟨?_, ?_⟩
      · simp only [CT.size]; omega
      · rw [CT.narrow_eq]; exact ⟨n1, n2, n3⟩
    refine ifT_dec (fun _ => ?_) fun _ => ifT_dec (fun _ => ?_) fun _ => ifT_dec (fun _ => ?_) fun _ => ifT_dec (fun _ => ?_) fun _ => ifT_dec (fun _ => ?_) fun _ => ifT_dec (fun _ => ?_) fun _ => ifT_dec (fun _ => ?_) fun _ => ifT_dec (fun _ => ?_) fun _ => ?_
    · exact rng_g hI S2 (by omega) (by decide) (by decide) (by decide) fun v g _ _ gg => keep _ _ _ _ _ _ gg (by decide)
    · refine hR hT2 (.inl rfl) fun a h3 x3 => ⟨_, rfl, hR (hE x3 hT2) (.inr rfl) fun b h4 x4 => ⟨_, rfl, ?_⟩⟩
      exact one_g hI (S2.ext (x3.trans x4)) (by omega) [⟨#[]⟩, ⟨#[65, 103, 101]⟩, ⟨#[97, 110, 100]⟩, ⟨#[119, 105, 116, 104, 105, 110]⟩, a, b] (by simp) (by simp) fun v _ g gg => keep _ _ _ _ _ _ (Gn.trans (k := 0) (x3.trans x4).del (by omega) gg) (by decide)
    · exact one_g hI S2 (by omega) [⟨#[]⟩, ⟨#[120]⟩, ⟨#[110, 111]⟩] (by simp) (by simp) fun v _ g gg => keep _ _ _ _ _ _ gg (by decide)
    · exact one_g hI S2 (by omega) [⟨#[]⟩, ⟨#[61, 61]⟩, ⟨#[60]⟩] (by simp) (by simp) fun v _ g gg => keep _ _ _ _ _ _ gg (by decide)
    · -- a value more
      have lv : sv.len = c.vals.length := (hv.at_).rowsLen valC_length (by decide)
      refine spec17o hI o2 ((hv.ext xB).ext xh2) (by omega) fun s' h3 x3 o3 => ⟨_, rfl, ?_⟩
      have o3 := o3.swp
      refine rng_g hI (strm o3 (by omega)) (by omega) (by decide) (by decide) (by decide) fun kd h4 _ _ g4 => ?_
      obtain ⟨t4, ht4, o4⟩ := o3.gn hi0 g4
      refine one_g hI (strm o4 (by omega)) (by omega) [⟨#[]⟩, ⟨#[120]⟩] (by simp) (by simp) fun tx _ h5 g5 => ?_
      obtain ⟨t5, ht5, o5⟩ := o4.gn hi0 g5
      refine next_g hI (strm o5 (by omega)) (by omega) (by decide) (by decide) fun nu h6 _ _ g6 => ?_
      obtain ⟨t6, ht6, o6⟩ := o5.gn hi0 g6
      have hs' : s'.len = c.vals.length := by
        have := (o6.all (3, s', rows valC c.vals) (by simp)).1
        simp only [rows_length valC_length] at this
        omega
      refine appendTo_owns (m := 0) o6.swp (by rfl) (by omega) (by simp) fun j h7 o7 => ?_
      have o7 := o7.swp
      refine hQ (.mk c.kind c.name c.field c.sign (c.vals ++ [⟨kd, tx, nu⟩]) c.whs c.within c.num c.args) _ h7 (Owns.toGn S o7 (by omega) (by omega)) (CondAt.make (c := .mk c.kind c.name c.field c.sign (c.vals ++ [⟨kd, tx, nu⟩]) c.whs c.within c.num c.args) (sv := ⟨some (j, 0), s'.len + (0 + 1)⟩) ?_ parts.2.1 parts.2.2.1 parts.2.2.2) ⟨?_, ?_⟩
      · show AtS _ 3 _ (rows valC (c.vals ++ [⟨kd, tx, nu⟩]))
        rw [rows_append]
        exact mine o7 (by simp [rows, valC])
      · simp only [CT.size]; omega
      · rw [CT.narrow_eq]
        exact ⟨by show (c.vals ++ [_]).length < 1000000; rw [List.length_append, List.length_singleton]; omega, n2, n3⟩
    · exact pick_g hI S2 (by omega) [-1, 4321440, 4321441, 5] (by simp) (by simp) fun v _ g gg => keep _ _ _ _ _ _ gg (by decide)
    · exact pick_g hI S2 (by omega) [-1, 4321440, 4321441, 5000000000000000, 5000000000000001] (by simp) (by simp) fun v _ g gg => keep _ _ _ _ _ _ gg (by decide)
    · -- a comparison more
      have lw : sw.len = c.whs.length := (hw.at_).rowsLen whrC_length (by decide)
      refine spec18o hI o2 ((hw.ext xB).ext xh2) (by omega) fun s' h3 x3 o3 => ⟨_, rfl, ?_⟩
      have o3 := o3.swp
      refine one_g hI (strm o3 (by omega)) (by omega) [⟨#[99, 101, 110, 116, 115]⟩, ⟨#[]⟩, ⟨#[105, 110]⟩] (by simp) (by simp) fun fd _ h4 g4 => ?_
      obtain ⟨t4, ht4, o4⟩ := o3.gn hi0 g4
      refine one_g hI (strm o4 (by omega)) (by omega) [⟨#[61]⟩, ⟨#[126]⟩] (by simp) (by simp) fun sg _ h5 g5 => ?_
      obtain ⟨t5, ht5, o5⟩ := o4.gn hi0 g5
      refine rng_g hI (strm o5 (by omega)) (by omega) (by decide) (by decide) (by decide) fun kd h6 _ _ g6 => ?_
      obtain ⟨t6, ht6, o6⟩ := o5.gn hi0 g6
      have hs' : s'.len = c.whs.length := by
        have := (o6.all (5, s', rows whrC c.whs) (by simp)).1
        simp only [rows_length whrC_length] at this
        omega
      refine appendTo_owns (m := 0) o6.swp (by rfl) (by omega) (by simp) fun j h7 o7 => ?_
      have o7 := o7.swp
      refine hQ (.mk c.kind c.name c.field c.sign c.vals (c.whs ++ [⟨fd, sg, ⟨kd, ByteArray.empty, 0⟩⟩]) c.within c.num c.args) _ h7 (Owns.toGn S o7 (by omega) (by omega)) (CondAt.make (c := .mk c.kind c.name c.field c.sign c.vals (c.whs ++ [⟨fd, sg, ⟨kd, ByteArray.empty, 0⟩⟩]) c.within c.num c.args) (sw := ⟨some (j, 0), s'.len + (0 + 1)⟩) parts.1 ?_ parts.2.2.1 parts.2.2.2) ⟨?_, ?_⟩
      · show AtS _ 5 _ (rows whrC (c.whs ++ [⟨fd, sg, ⟨kd, ByteArray.empty, 0⟩⟩]))
        rw [rows_append]
        exact mine o7 (by simp [rows, whrC])
      · simp only [CT.size]; omega
      · rw [CT.narrow_eq]
        exact ⟨n1, by show (c.whs ++ [_]).length < 1000000; rw [List.length_append, List.length_singleton]; omega, n3⟩
    · -- not not ..
      refine pick_g hI S2 (by omega) [1, 19, 20] (by simp) (by simp) fun v hv h3 g3 => ?_
      have hv20 : 0 ≤ v ∧ v ≤ 20 := by simp at hv; omega
      obtain ⟨t3, ht3, o3⟩ := o2.gn hi0 g3
      refine loopK_intro (fun p g m => ∃ (k : Nat) (d : CT) (dv dw da : Sl), (k : Int) ≤ v ∧ p = ((d.kind, d.name, d.field, d.sign, dv, dw, d.within, d.num, da, ()), (k : Int)) ∧ v.toNat - k = m ∧ Gn i l zs h t (10 * c.size + 30) g ∧ CondAt (Up B h g) d (condC d dv dw da) ∧ d.size ≤ c.size + k ∧ d.narrow) v.toNat
        ⟨0, c, sv, sw, sa, by omega, rfl, rfl, Owns.toGn S o3 (by omega) (by omega), CondAt.make parts.1 parts.2.1 parts.2.2.1 parts.2.2.2, by omega, hn⟩ ?_
      intro p g m hp
      obtain ⟨k, d, dv, dw, da, hk, hp, hm, gg, hd, hds, hdn⟩ := hp
      subst hp
      subst hm
      dsimp only [uncur]
      refine ifT_dec (fun hlt => ?_) fun hge => hQ d _ g gg hd ⟨by omega, hdn⟩
      refine newK_intro fun j g' hj he => ?_
      have x : Ext g g' := he ▸ Ext.new hj
      obtain ⟨t', S', e', b'⟩ := gg
      have hjh : h j = none := dom_del S' e' j hj
      refine ⟨v.toNat - (k + 1), by omega, k + 1, mkC 5 [d], ⟨none, 0⟩, ⟨none, 0⟩, ⟨some (j, 0), 1⟩, by omega, by rw [show IntKind.i64.wrap ((k : Int) + 1) = ((k + 1 : Nat) : Int) by rw [w64] <;> omega]; rfl, rfl, ⟨t', S'.ext x, e'.trans x.del, b'⟩, ?_, ?_, ?_⟩
      · refine CondAt.make (c := mkC 5 [d]) (rs := [condC d dv dw da]) (AtS.nil _ _) (AtS.nil _ _) ⟨rfl, ?_⟩ (CondsAt.one (CondAt.ext (Up.more x) hd))
        show (Up B h g').read j 0 (1 * 9) = _
        rw [read_block (cs := condC d dv dw da) (ro := false) (by rw [Up.in_ hjh, he]; exact Heap.set_same ..) (show 0 + 1 * 9 ≤ 9 by decide)]
        rfl
      · simp only [mkC, CT.size, sizes]; omega
      · rw [CT.narrow_eq]
        refine ⟨show 0 < 1000000 by decide, show 0 < 1000000 by decide, ?_⟩
        show narrows [d]
        unfold narrows
        exact ⟨hdn, by unfold narrows; trivial⟩
end
end Go.Proofs.YtadakbmoanbcgaaGreatDoorVc
-- CkLaw
namespace Go.Proofs.YtadakbmoanbcgaaGreatDoorVc
open Go.Proofs.Tryz (prog)
section
variable {Pm : Prim} {I : Calls} {h : Heap} {TT : Heap → Prop}
theorem spec3 (hI : Closed' prog Pm I) (hL : LibI I TT) (hJ : LibJ I TT) (hR : RepI I TT) (hT : TT h) {s : Sl} {zs : List Int} (hs : At h 1 s (ints zs)) : I 3 [.one (.slice 1 s)] tru h := by
  refine hI.go _ _ (den3 I s tru) ?_
  refine newK_intro fun i h1 hn1 he1 => ?_
  have S1 : Strm h1 i s zs 0 := he1 ▸ Strm.make hs hn1
  have d1 : h1.del i = h := by rw [he1]; exact set_del0 hn1
  refine cond_g hI 3 (by decide) S1 (by decide) fun c r h2 g2 hc2 gc => ?_
  obtain ⟨sv, sw, sa, rfl, _⟩ := hc2.parts
  refine ⟨_, _, _, _, _, _, _, _, _, rfl, ?_⟩
  obtain ⟨t2, S2, x2, b2⟩ := g2
  have hc2 := CondAt.ext (nw_del S1 x2) hc2
  have kg : Kg 3 = 2930 := by decide
  have hsz : c.size ≤ 187 := by have := gc.size; simp [Zg] at this; omega
  refine flip_g hI S2 (by omega) (by decide) (by decide) fun b h3 g3 => ?_
  obtain ⟨t3, S3, x3, b3⟩ := g3
  have e3 : Ext h (h3.del i) := by rw [← d1]; exact x2.trans x3
  have hc3 := CondAt.ext x3 hc2
  refine joinK_intro (fun p g => ∃ (d : CT) (dv dw da : Sl), p = (d.kind, d.name, d.field, d.sign, dv, dw, d.within, d.num, da, ()) ∧ CondAt g d (condC d dv dw da) ∧ d.size < 1000000 ∧ d.narrow ∧ TT g) ?_ fun jk hjk => ?_
  case refine_2 =>
    refine ifT_intro (fun _ => ?_) fun _ => hjk _ _ ⟨c, sv, sw, sa, rfl, CondAt.ext (ext_del h3 i) hc3, by omega, gc.nar, hL.ext (e3.trans (ext_del h3 i)) hT⟩
    refine spoil_g hI (fun x t => hL.ext x t) hR c.size c (condC c sv sw sa) h3 (h3.del i) t3 _ (Nat.le_refl _) (by omega) gc.nar gc.err (hL.ext e3 hT) S3 (by omega) (Ext.refl _) hc3 fun d r' h4 g4 hd sp => ?_
    obtain ⟨dv, dw, da, rfl, _⟩ := hd.parts
    obtain ⟨t4, S4, x4, b4⟩ := g4
    refine ⟨_, _, _, _, _, _, _, _, _, rfl, hjk _ _ ⟨d, dv, dw, da, rfl, CondAt.ext (fun j y hy => ?_) hd, by have := sp.size; omega, sp.nar, hL.ext ((e3.trans x4).trans (ext_del h4 i)) hT⟩⟩
    cases hj : h3 j with
    | none => rw [Up.in_ hj] at hy; exact hy
    | some z =>
      rw [Up.out hj] at hy
      exact ext_del h4 i j y (x4 _ _ hy)
  rintro p g ⟨d, dv, dw, da, rfl, hd, hds, hdn, hTg⟩
  dsimp only [uncur]
  refine spec7 hI hL hTg fun g1 y1 => ⟨_, rfl, ifT_intro (fun _ => ?_) fun e => by cases e⟩
  refine spec8 hI hL (hL.ext y1 hTg) (cs := condC d dv dw da) (CondAt.ext y1 hd) hds hdn fun g2 y2 => ⟨_, rfl, ?_⟩
  refine spec9 hI hL hJ (hL.ext (y1.trans y2) hTg) (cs := condC d dv dw da) (CondAt.ext (y1.trans y2) hd) hds hdn fun g3 y3 => ⟨_, rfl, ?_⟩
  rw [decide_eq_true rfl]
  rfl
end
end Go.Proofs.YtadakbmoanbcgaaGreatDoorVc
