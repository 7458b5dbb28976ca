/- Cells: what is told of them, their order, how they are folded. -/
import Derived.Test.YtfemminjhecocaaVcFoVc
import Derived.Test.YtfemminjhecocaaVcSortGen2
set_option linter.unusedSimpArgs false
set_option linter.unusedVariables false
namespace Go.Proofs.YtfemminjhecocaaVc
open Go.Proofs.Try (prog)

structure Cel where
  kl : Sl
  keys : List ByteArray
  many : Int
  cents : Int
def celC (x : Cel) : List Cell := [.slice 1 x.kl, .int .i64 x.many, .int .i64 x.cents]
theorem celC_length (x : Cel) : (celC x).length = 3 := rfl
structure Cels (h : Heap) (s : Sl) (xs : List Cel) : Prop where
  at_ : At h 3 s (rows celC xs)
  keys : ∀ x ∈ xs, At h 1 x.kl (strs x.keys)
theorem Cels.len {h : Heap} {s : Sl} {xs : List Cel} (o : Cels h s xs) : s.len = xs.length := o.at_.rowsLen celC_length (by decide)
theorem Ext.cels {h h' : Heap} (x : Ext h h') {s : Sl} {xs : List Cel} (o : Cels h s xs) : Cels h' s xs := ⟨x.at_ o.at_, fun y hy => x.at_ (o.keys y hy)⟩

/-! ### the order of strings, and of lists of them -/
theorem bytes_lt : ∀ x y : List UInt8, Op.bytesLess x y = decide (x < y)
  | [], [] => by simp [Op.bytesLess]
  | _ :: _, [] => by simp [Op.bytesLess]
  | [], _ :: _ => by simp [Op.bytesLess]
  | a :: x, b :: y => by
    rw [Op.bytesLess, bytes_lt x y]
    simp only [List.cons_lt_cons_iff]
    by_cases h1 : a < b <;> by_cases h2 : a = b <;> by_cases h3 : x < y <;> simp [h1, h2, h3]
theorem toList_inj {a b : ByteArray} (h : a.toList = b.toList) : a = b := by
  rw [ByteArray.toList_eq, ByteArray.toList_eq] at h
  exact bl_inj h

abbrev KeyL := List (List UInt8)
def keyL (l : List ByteArray) : KeyL := l.map ByteArray.toList
theorem keyL_inj : ∀ {a b : List ByteArray}, keyL a = keyL b → a = b
  | [], [], _ => rfl
  | x :: a, y :: b, h => by
    simp only [keyL, List.map_cons, List.cons.injEq] at h
    rw [toList_inj h.1, keyL_inj (show keyL a = keyL b from h.2)]
  | [], _ :: _, h => by simp [keyL] at h
  | _ :: _, [], h => by simp [keyL] at h

def cmpS (a b : ByteArray) : Int := if a.toList < b.toList then -1 else if a = b then 0 else 1
def cmpL : List ByteArray → List ByteArray → Int
  | [], [] => 0
  | [], _ :: _ => -1
  | _ :: _, [] => 1
  | a :: x, b :: y => if cmpS a b = 0 then cmpL x y else cmpS a b
theorem cmpS_zero {a b : ByteArray} : cmpS a b = 0 ↔ a = b := by
  unfold cmpS
  split
  · rename_i h
    constructor
    · intro e; omega
    · rintro rfl; exact absurd h (List.lt_irrefl _)
  · split
    · rename_i h; simp [h]
    · rename_i h; simp [h]
theorem cmpS_neg {a b : ByteArray} : cmpS a b < 0 ↔ a.toList < b.toList := by
  unfold cmpS
  split
  · rename_i h; simp [h]
  · rename_i h
    split <;> simp [h]
theorem cmpL_zero : ∀ {a b : List ByteArray}, cmpL a b = 0 ↔ a = b
  | [], [] => by simp [cmpL]
  | [], _ :: _ => by simp [cmpL]
  | _ :: _, [] => by simp [cmpL]
  | a :: x, b :: y => by
    unfold cmpL
    split
    · rename_i h; rw [cmpS_zero] at h; subst h; rw [cmpL_zero]; simp
    · rename_i h; rw [cmpS_zero] at h; constructor
      · intro e; exact absurd (cmpS_zero.1 e) h
      · intro e; cases e; exact absurd rfl h
theorem cmpL_neg : ∀ {a b : List ByteArray}, cmpL a b < 0 ↔ keyL a < keyL b
  | [], [] => by simp [cmpL, keyL]
  | [], _ :: _ => by simp [cmpL, keyL]
  | _ :: _, [] => by simp [cmpL, keyL]
  | a :: x, b :: y => by
    unfold cmpL
    have ih := cmpL_neg (a := x) (b := y)
    simp only [keyL, List.map_cons, List.cons_lt_cons_iff] at ih ⊢
    split
    · rename_i h; rw [cmpS_zero] at h; subst h; rw [ih]; simp [List.lt_irrefl]
    · rename_i h
      rw [cmpS_neg]
      rw [cmpS_zero] at h
      constructor
      · intro e; exact .inl e
      · rintro (e | ⟨e, _⟩)
        · exact e
        · exact absurd (toList_inj e) h

/-- How cells are sorted. -/
def ltC (a b : Cel) : Bool := decide (cmpL a.keys b.keys < 0)
def leC (a b : Cel) : Prop := ltC b a = false
theorem leC_iff {a b : Cel} : leC a b ↔ ¬ keyL b.keys < keyL a.keys := by unfold leC ltC; rw [decide_eq_false_iff_not, cmpL_neg]
theorem leC_trans {a b c : Cel} (h1 : leC a b) (h2 : leC b c) : leC a c := by
  rw [leC_iff] at *
  rw [List.not_lt] at *
  exact List.le_trans h1 h2
theorem ltC_asymm {a b : Cel} (h : ltC b a = true) : leC b a := by
  unfold ltC at h
  rw [decide_eq_true_eq, cmpL_neg] at h
  rw [leC_iff]
  exact List.lt_asymm h
/-! ### the checks -/
def fullB (c : Cel) : Bool := (decide (0 ≤ c.many) && decide (c.many ≤ 1000000)) && (decide (-1000000000000 ≤ c.cents) && decide (c.cents ≤ 1000000000000))
theorem fullB_iff {c : Cel} : fullB c = true ↔ (0 ≤ c.many ∧ c.many ≤ 1000000) ∧ (-1000000000000 ≤ c.cents ∧ c.cents ≤ 1000000000000) := by simp [fullB]
def notUp (p : Option (List ByteArray)) (c : Cel) : Bool := match p with
  | some q => decide (cmpL c.keys q ≤ 0)
  | none => false
def errC1 (n : Nat) (p : Option (List ByteArray)) (c : Cel) : Int :=
  if c.keys.length ≠ n ∨ 6 < c.keys.length then 3 else if (c.keys.any fun s => !isKey s) = true then 5 else if notUp p c = true then 7 else if fullB c = false then 1 else 0
def scanC (n : Nat) : Option (List ByteArray) → List Cel → Int
  | _, [] => 0
  | p, c :: l => if errC1 n p c ≠ 0 then errC1 n p c else scanC n (some c.keys) l
def pvC (xs : List Cel) (i : Nat) : Option (List ByteArray) := if i = 0 then none else xs[i - 1]?.map (·.keys)
def dimN : List Cel → Nat
  | [] => 6
  | c :: _ => c.keys.length
def errC (xs : List Cel) : Int := if 2000 < xs.length then 2 else scanC (dimN xs) none xs
theorem scanC_at {n : Nat} {xs : List Cel} {i : Nat} {c : Cel} (hx : xs[i]? = some c) :
    scanC n (pvC xs i) (xs.drop i) = if errC1 n (pvC xs i) c ≠ 0 then errC1 n (pvC xs i) c else scanC n (pvC xs (i + 1)) (xs.drop (i + 1)) := by
  obtain ⟨hi, rfl⟩ := List.getElem?_eq_some_iff.1 hx
  rw [List.drop_eq_getElem_cons hi]
  show (if _ then _ else _) = _
  have : pvC xs (i + 1) = some xs[i].keys := by simp [pvC, hx]
  rw [this]
theorem scanC_ok {n : Nat} : ∀ {xs : List Cel} {p : Option (List ByteArray)}, scanC n p xs = 0 → ∀ c ∈ xs, c.keys.length = n ∧ n ≤ 6 ∧ (c.keys.any fun s => !isKey s) = false ∧ fullB c = true
  | [], _, _, c, hc => by cases hc
  | x :: xs, p, h, c, hc => by
    unfold scanC at h
    by_cases h0 : errC1 n p x = 0
    · rw [if_neg (by simp [h0])] at h
      rcases List.mem_cons.1 hc with rfl | hc
      · unfold errC1 at h0
        split at h0
        · cases h0
        · rename_i h1
          split at h0
          · cases h0
          · rename_i h2
            split at h0
            · cases h0
            · split at h0
              · cases h0
              · rename_i h3
                exact ⟨by omega, by omega, by simpa using h2, by simpa using h3⟩
      · exact scanC_ok h c hc
    · rw [if_pos h0] at h; exact absurd h h0
theorem scanC_zero {n : Nat} : ∀ {xs : List Cel} {p : Option (List ByteArray)}, (∀ c ∈ xs, c.keys.length = n ∧ n ≤ 6 ∧ (c.keys.any fun s => !isKey s) = false ∧ fullB c = true) →
    xs.Pairwise (fun a b => keyL a.keys < keyL b.keys) → (∀ q, p = some q → ∀ c ∈ xs, keyL q < keyL c.keys) → scanC n p xs = 0
  | [], _, _, _, _ => rfl
  | x :: xs, p, h1, h2, h3 => by
    obtain ⟨h4, h5⟩ := List.pairwise_cons.1 h2
    obtain ⟨a1, a2, a3, a4⟩ := h1 x (by simp)
    have hu : notUp p x = false := by
      cases p with
      | none => rfl
      | some q =>
        have h6 := h3 q rfl x (by simp)
        unfold notUp
        simp only [decide_eq_false_iff_not]
        intro h7
        have h8 : ¬ cmpL x.keys q < 0 := fun h => List.lt_asymm h6 (cmpL_neg.1 h)
        have h9 : cmpL x.keys q = 0 := by omega
        rw [cmpL_zero.1 h9] at h6
        exact List.lt_irrefl _ h6
    have h0 : errC1 n p x = 0 := by
      unfold errC1
      rw [if_neg (by omega), if_neg (by simp [a3]), if_neg (by simp [hu]), if_neg (by simp [a4])]
    unfold scanC
    rw [if_neg (by simp [h0])]
    exact scanC_zero (fun c hc => h1 c (by simp [hc])) h5 fun q hq c hc => by cases hq; exact h4 c hc

/-! ### what is kept -/
def errK1 (d : Nat) (p : Option Int) (k : Int) : Int := if ¬ (0 ≤ k ∧ k ≤ (d : Int) - 1) then 1 else match p with
  | some q => if k ≤ q then 7 else 0
  | none => 0
def scanK (d : Nat) : Option Int → List Int → Int
  | _, [] => 0
  | p, k :: l => if errK1 d p k ≠ 0 then errK1 d p k else scanK d (some k) l
def pvK (ks : List Int) (i : Nat) : Option Int := if i = 0 then none else ks[i - 1]?
theorem scanK_at {d : Nat} {ks : List Int} {i : Nat} {k : Int} (hx : ks[i]? = some k) :
    scanK d (pvK ks i) (ks.drop i) = if errK1 d (pvK ks i) k ≠ 0 then errK1 d (pvK ks i) k else scanK d (pvK ks (i + 1)) (ks.drop (i + 1)) := by
  obtain ⟨hi, rfl⟩ := List.getElem?_eq_some_iff.1 hx
  rw [List.drop_eq_getElem_cons hi]
  show (if _ then _ else _) = _
  have : pvK ks (i + 1) = some ks[i] := by simp [pvK, hx]
  rw [this]
theorem scanK_ok {d : Nat} : ∀ {ks : List Int} {p : Option Int}, scanK d p ks = 0 → ∀ k ∈ ks, 0 ≤ k ∧ k < (d : Int)
  | [], _, _, k, hk => by cases hk
  | x :: ks, p, h, k, hk => by
    unfold scanK at h
    by_cases h0 : errK1 d p x = 0
    · rw [if_neg (by simp [h0])] at h
      rcases List.mem_cons.1 hk with rfl | hk
      · unfold errK1 at h0
        split at h0
        · cases h0
        · rename_i h1; omega
      · exact scanK_ok h k hk
    · rw [if_pos h0] at h; exact absurd h h0
def errF (xs : List Cel) (keep : List Int) : Int := if errC xs ≠ 0 then errC xs else scanK (dimN xs) none keep
def prK (keep : List Int) (c : Cel) : List ByteArray := keep.map fun k => c.keys.getD k.toNat ⟨#[]⟩

/-! ### adding up -/
def addC (out : List Cel) (c : Cel) : List Cel := match out.getLast? with
  | some l => if l.keys = c.keys then out.dropLast ++ [⟨l.kl, l.keys, l.many + c.many, l.cents + c.cents⟩] else out ++ [c]
  | none => [c]
def mergeC (ys : List Cel) : List Cel := ys.foldl addC []
abbrev pc (c : Cel) : List ByteArray × Int × Int := (c.keys, c.many, c.cents)
def FoldOf (xs : List Cel) (keep : List Int) (out : List Cel) : Prop := ∃ ps ys : List Cel, ps.map pc = xs.map (fun c => (prK keep c, c.many, c.cents)) ∧ ys.Perm ps ∧ ys.Pairwise leC ∧ out = mergeC ys

theorem last_cases (out : List Cel) : out = [] ∨ ∃ P l, out = P ++ [l] := by
  rcases List.eq_nil_or_concat out with h | ⟨P, l, h⟩
  · exact .inl h
  · exact .inr ⟨P, l, by simpa using h⟩
theorem addC_nil (c : Cel) : addC [] c = [c] := rfl
theorem addC_eq {P : List Cel} {l c : Cel} (h : l.keys = c.keys) : addC (P ++ [l]) c = P ++ [⟨l.kl, l.keys, l.many + c.many, l.cents + c.cents⟩] := by
  simp [addC, h]
theorem addC_ne {P : List Cel} {l c : Cel} (h : l.keys ≠ c.keys) : addC (P ++ [l]) c = P ++ [l] ++ [c] := by
  simp [addC, h]
theorem sum_perm : ∀ {a b : List Int}, a.Perm b → a.sum = b.sum := fun h => by
  induction h with
  | nil => rfl
  | cons x _ ih => simp [ih]
  | swap x y l => simp only [List.sum_cons]; omega
  | trans _ _ h1 h2 => exact h1.trans h2
def manyS (l : List Cel) : Int := (l.map (·.many)).sum
def centsS (l : List Cel) : Int := (l.map (·.cents)).sum
theorem manyS_append (a b : List Cel) : manyS (a ++ b) = manyS a + manyS b := by simp [manyS, List.sum_append]
theorem centsS_append (a b : List Cel) : centsS (a ++ b) = centsS a + centsS b := by simp [centsS, List.sum_append]
theorem manyS_one (a : Cel) : manyS [a] = a.many := by simp [manyS]
theorem centsS_one (a : Cel) : centsS [a] = a.cents := by simp [centsS]
theorem addC_sums (out : List Cel) (c : Cel) : manyS (addC out c) = manyS out + c.many ∧ centsS (addC out c) = centsS out + c.cents := by
  rcases last_cases out with rfl | ⟨P, l, rfl⟩
  · rw [addC_nil]; simp [manyS, centsS]
  · by_cases h : l.keys = c.keys
    · rw [addC_eq h]; simp only [manyS_append, centsS_append, manyS_one, centsS_one]; omega
    · rw [addC_ne h]; simp only [manyS_append, centsS_append, manyS_one, centsS_one]; exact ⟨trivial, trivial⟩
theorem foldC_sums : ∀ (ys out : List Cel), manyS (ys.foldl addC out) = manyS out + manyS ys ∧ centsS (ys.foldl addC out) = centsS out + centsS ys
  | [], out => by simp [manyS, centsS]
  | y :: ys, out => by
    have h1 := addC_sums out y
    have h2 := foldC_sums ys (addC out y)
    have h3 : manyS (y :: ys) = y.many + manyS ys := by simp [manyS]
    have h4 : centsS (y :: ys) = y.cents + centsS ys := by simp [centsS]
    rw [List.foldl_cons]
    omega
theorem addC_mem {out : List Cel} {c d : Cel} (hd : d ∈ addC out c) : d.keys = c.keys ∧ d.kl = c.kl ∨ ∃ x ∈ out, d.keys = x.keys ∧ d.kl = x.kl := by
  rcases last_cases out with rfl | ⟨P, l, rfl⟩
  · rw [addC_nil] at hd; have := List.mem_singleton.1 hd; subst this; exact .inl ⟨rfl, rfl⟩
  · by_cases h : l.keys = c.keys
    · rw [addC_eq h] at hd
      rcases List.mem_append.1 hd with hd | hd
      · exact .inr ⟨d, by simp [hd], rfl, rfl⟩
      · have := List.mem_singleton.1 hd; subst this; exact .inr ⟨l, by simp, rfl, rfl⟩
    · rw [addC_ne h] at hd
      rcases List.mem_append.1 hd with hd | hd
      · exact .inr ⟨d, hd, rfl, rfl⟩
      · have := List.mem_singleton.1 hd; subst this; exact .inl ⟨rfl, rfl⟩
theorem foldC_mem : ∀ {ys out : List Cel} {d : Cel}, d ∈ ys.foldl addC out → (∃ y ∈ ys, d.keys = y.keys ∧ d.kl = y.kl) ∨ ∃ x ∈ out, d.keys = x.keys ∧ d.kl = x.kl
  | [], out, d, hd => .inr ⟨d, hd, rfl, rfl⟩
  | y :: ys, out, d, hd => by
    rw [List.foldl_cons] at hd
    rcases foldC_mem hd with ⟨z, hz, h1⟩ | ⟨x, hx, h1⟩
    · exact .inl ⟨z, by simp [hz], h1⟩
    · rcases addC_mem hx with ⟨h2, h3⟩ | ⟨w, hw, h2, h3⟩
      · exact .inl ⟨y, by simp, h1.1.trans h2, h1.2.trans h3⟩
      · exact .inr ⟨w, hw, h1.1.trans h2, h1.2.trans h3⟩
theorem addC_len (out : List Cel) (c : Cel) : (addC out c).length ≤ out.length + 1 ∧ 0 < (addC out c).length := by
  rcases last_cases out with rfl | ⟨P, l, rfl⟩
  · simp [addC_nil]
  · by_cases h : l.keys = c.keys
    · rw [addC_eq h]; simp
    · rw [addC_ne h]; simp
theorem foldC_len : ∀ (ys out : List Cel), (ys.foldl addC out).length ≤ out.length + ys.length ∧ (0 < out.length + ys.length → 0 < (ys.foldl addC out).length)
  | [], out => by simp
  | y :: ys, out => by
    have h1 := addC_len out y
    have h2 := foldC_len ys (addC out y)
    rw [List.foldl_cons, List.length_cons]
    exact ⟨by omega, fun _ => h2.2 (by omega)⟩
abbrev UpC (l : List Cel) : Prop := l.Pairwise fun a b => keyL a.keys < keyL b.keys
theorem lt_of_le_ne {a c : Cel} (h1 : leC a c) (h2 : a.keys ≠ c.keys) : keyL a.keys < keyL c.keys := by
  rw [leC_iff] at h1
  rcases Decidable.em (keyL a.keys < keyL c.keys) with h3 | h3
  · exact h3
  · exact absurd (keyL_inj (List.le_antisymm (List.not_lt.1 h1) (List.not_lt.1 h3))) h2
theorem addC_up {out : List Cel} {c : Cel} (h : UpC out) (hl : ∀ a ∈ out, leC a c) : UpC (addC out c) := by
  rcases last_cases out with rfl | ⟨P, l, rfl⟩
  · rw [addC_nil]; exact List.pairwise_singleton _ _
  · obtain ⟨h1, _, h3⟩ := List.pairwise_append.1 h
    by_cases hk : l.keys = c.keys
    · rw [addC_eq hk]
      refine List.pairwise_append.2 ⟨h1, List.pairwise_singleton _ _, fun a ha b hb => ?_⟩
      have := List.mem_singleton.1 hb; subst this
      exact h3 a ha l (by simp)
    · rw [addC_ne hk]
      have hlc : keyL l.keys < keyL c.keys := lt_of_le_ne (hl l (by simp)) hk
      refine List.pairwise_append.2 ⟨h, List.pairwise_singleton _ _, fun a ha b hb => ?_⟩
      have := List.mem_singleton.1 hb; subst this
      rcases List.mem_append.1 ha with ha | ha
      · exact List.lt_trans (h3 a ha l (by simp)) hlc
      · have := List.mem_singleton.1 ha; subst this; exact hlc
theorem leC_keys {a b c : Cel} (h : leC a c) (hk : b.keys = a.keys) : leC b c := by rw [leC_iff] at *; rw [hk]; exact h
theorem foldC_up : ∀ {ys out : List Cel}, UpC out → ys.Pairwise leC → (∀ a ∈ out, ∀ y ∈ ys, leC a y) → UpC (ys.foldl addC out)
  | [], out, h, _, _ => h
  | y :: ys, out, h, hp, ha => by
    obtain ⟨h1, h2⟩ := List.pairwise_cons.1 hp
    rw [List.foldl_cons]
    refine foldC_up (addC_up h fun a ha' => ha a ha' y (by simp)) h2 fun d hd z hz => ?_
    rcases addC_mem hd with ⟨h3, _⟩ | ⟨x, hx, h3, _⟩
    · exact leC_keys (h1 z hz) h3
    · exact leC_keys (ha x hx z (by simp [hz])) h3

theorem FoldOf.facts {xs : List Cel} {keep : List Int} {out : List Cel} (f : FoldOf xs keep out) :
    manyS out = manyS xs ∧ centsS out = centsS xs ∧ UpC out ∧ (∀ c ∈ out, ∃ x ∈ xs, c.keys = prK keep x) ∧ out.length ≤ xs.length ∧ (xs ≠ [] → out ≠ []) := by
  obtain ⟨ps, ys, hps, hperm, hpw, rfl⟩ := f
  have hl : ps.length = xs.length := by have := congrArg List.length hps; simpa using this
  have hyl : ys.length = xs.length := hperm.length_eq.trans hl
  have hm : manyS ys = manyS xs := by
    have h1 : manyS ys = manyS ps := by unfold manyS; exact sum_perm (hperm.map _)
    have h2 := congrArg (List.map fun p : List ByteArray × Int × Int => p.2.1) hps
    simp only [List.map_map, Function.comp_def] at h2
    rw [h1]; unfold manyS; rw [show (ps.map fun x => x.many) = _ from h2]
  have hc : centsS ys = centsS xs := by
    have h1 : centsS ys = centsS ps := by unfold centsS; exact sum_perm (hperm.map _)
    have h2 := congrArg (List.map fun p : List ByteArray × Int × Int => p.2.2) hps
    simp only [List.map_map, Function.comp_def] at h2
    rw [h1]; unfold centsS; rw [show (ps.map fun x => x.cents) = _ from h2]
  have hs := foldC_sums ys []
  have hn := foldC_len ys []
  refine ⟨?_, ?_, foldC_up List.Pairwise.nil hpw (fun _ h => by cases h), fun c hc' => ?_, ?_, fun hne e => ?_⟩
  · have := hs.1; simp only [manyS, List.map_nil, List.sum_nil, Int.zero_add] at this ⊢; exact this.trans hm
  · have := hs.2; simp only [centsS, List.map_nil, List.sum_nil, Int.zero_add] at this ⊢; exact this.trans hc
  · rcases foldC_mem hc' with ⟨y, hy, hk, _⟩ | ⟨x, hx, _⟩
    · have hyp : y ∈ ps := hperm.mem_iff.1 hy
      have h1 : pc y ∈ ps.map pc := List.mem_map_of_mem hyp
      rw [hps, List.mem_map] at h1
      obtain ⟨x, hx, h2⟩ := h1
      exact ⟨x, hx, by rw [hk]; exact (congrArg Prod.fst h2).symm⟩
    · cases hx
  · have := hn.1; simp only [List.length_nil] at this; unfold mergeC; omega
  · have : 0 < xs.length := List.length_pos_iff.2 hne
    have := hn.2 (by simp only [List.length_nil]; omega)
    unfold mergeC at e
    rw [e] at this
    cases this
end Go.Proofs.YtfemminjhecocaaVc
