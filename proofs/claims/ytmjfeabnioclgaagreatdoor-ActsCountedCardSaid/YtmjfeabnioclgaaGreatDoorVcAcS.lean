/- ActsCounted: what is wrong with acts; how many different ones. ActsCounted: the program's cohorts. Rules for a range over a map whose entries are known. ActsCounted: the document's cohorts. ActsCounted: the document's cohorts, all of them. ActsCounted: strings sorted, and how many different ones there are. ActsCounted: how many different ones, by both sides. ActsCounted: the document's rows, the parts. ActsCounted: the document's rows. ActsCounted: the document's rows, all of it. -/
import Derived.Test.YtmjfeabnioclgaaGreatDoorVcAcOld2
import Derived.Test.YtmjfeabnioclgaaGreatDoorVcOwns
import Derived.Test.YtmjfeabnioclgaaGreatDoorVcGridB
import Derived.Sort.Walk0
set_option linter.unusedSimpArgs false
set_option linter.unusedVariables false
-- AcSpec1
namespace Go.Proofs.YtmjfeabnioclgaaGreatDoorVc
open Go.Proofs.Tryz (prog)
/-- What is wrong with an act. -/
def badAct (a : Act) : Int := if isKey a.sent = false then 5 else if ¬ (1 ≤ a.kind ∧ a.kind ≤ 4) then 4 else if ¬ moment a.at_ then 1 else 0
def actsErr : List Act → Int
  | [] => 0
  | a :: l => if badAct a ≠ 0 then badAct a else actsErr l
theorem actsErr_step {xs : List Act} {i : Nat} {x : Act} (hx : xs[i]? = some x) : actsErr (xs.drop i) = if badAct x ≠ 0 then badAct x else actsErr (xs.drop (i + 1)) := by
  rw [drop_mid hx]; rfl
theorem actsErr_ok : ∀ {l : List Act}, actsErr l = 0 → ∀ a ∈ l, badAct a = 0
  | a :: l, h, x, hx => by
    unfold actsErr at h
    by_cases hb : badAct a ≠ 0
    · rw [if_pos hb] at h; exact absurd h hb
    · rw [if_neg hb] at h
      rcases List.mem_cons.1 hx with rfl | hx
      · exact Decidable.of_not_not hb
      · exact actsErr_ok h x hx
  | [], _, x, hx => by cases hx
theorem badAct_ok {a : Act} (h : badAct a = 0) : isKey a.sent = true ∧ (1 ≤ a.kind ∧ a.kind ≤ 4) ∧ moment a.at_ := by
  unfold badAct at h
  by_cases h1 : isKey a.sent = false
  · rw [if_pos h1] at h; cases h
  · rw [if_neg h1] at h
    by_cases h2 : 1 ≤ a.kind ∧ a.kind ≤ 4
    · rw [if_neg (fun c => c h2)] at h
      by_cases h3 : moment a.at_
      · exact ⟨by simpa using h1, h2, h3⟩
      · rw [if_pos h3] at h; cases h
    · rw [if_pos h2] at h; cases h

section
variable {I : Calls} {Q : Post} {h : Heap}
theorem spec39 (hI : Closed' prog Pm I) {s : Sl} {xs : List Act} (ha : At h 3 s (rows actC xs)) (hl : xs.length < 1000) (hQ : Q [int (actsErr xs)] h) : I 39 [.one (.slice 3 s)] Q h := by
  have l1 := ha.rowsLen actC_length (by decide)
  refine hI.go _ _ (den39 I s Q) ?_
  refine ifT_dec (fun h1 => by omega) fun _ => ?_
  refine loopK_intro (fun (n : Int) h' m => h' = h ∧ ∃ i : Nat, i ≤ xs.length ∧ n = i ∧ xs.length - i = m ∧ actsErr xs = actsErr (xs.drop i)) xs.length ⟨rfl, 0, by omega, rfl, rfl, rfl⟩ ?_
  rintro n h' m ⟨rfl, i, hi, rfl, rfl, he⟩
  refine ifT_dec (fun hlt => ⟨⟨by omega, hlt⟩, ?_⟩) fun hge => ?_
  · have hx := List.getElem?_eq_getElem (show i < xs.length by omega)
    generalize xs[i] = x at hx
    rw [actsErr_step hx] at he
    refine ha.row actC_length (by decide) hx fun bb o hr => ⟨x.sent, x.kind, x.at_, hr, spec44 hI ⟨_, rfl, ifT_intro (fun h1 => ?_) fun h1 => spec23 hI ⟨_, rfl, ifT_intro (fun h2 => ?_) fun h2 => spec24 hI ⟨_, rfl, ifT_intro (fun h3 => ?_) fun h3 => ?_⟩⟩⟩⟩
    · have e : badAct x = 5 := by unfold badAct; rw [if_pos (by simpa using h1)]
      rw [e] at he; rw [he] at hQ; exact hQ
    · have e : badAct x = 4 := by
        unfold badAct; rw [if_neg (by simp at h1; simp [h1]), if_pos (nd h2)]
      rw [e] at he; rw [he] at hQ; exact hQ
    · have e : badAct x = 1 := by
        unfold badAct; rw [if_neg (by simp at h1; simp [h1]), if_neg (nd' h2), if_pos (nd h3)]
      rw [e] at he; rw [he] at hQ; exact hQ
    · have e : badAct x = 0 := by
        unfold badAct; rw [if_neg (by simp at h1; simp [h1]), if_neg (nd' h2), if_neg (nd' h3)]
      rw [e] at he
      exact ⟨xs.length - (i + 1), by omega, rfl, i + 1, by omega, by rw [w64] <;> omega, rfl, he⟩
  · rw [List.drop_eq_nil_of_le (by omega)] at he
    rw [he] at hQ; exact hQ
theorem spec40 (hI : Closed' prog Pm I) {s : Sl} {xs : List Act} (ha : At h 3 s (rows actC xs)) (hl : xs.length < 1000) (hQ : ∀ h', Ext h h' → Q [int (actsErr xs)] h') : I 40 [.one (.slice 3 s)] Q h := by
  have l1 := ha.rowsLen actC_length (by decide)
  refine hI.go _ _ (den40 I s Q) ?_
  refine ifT_dec (fun h1 => by omega) fun _ => ?_
  refine loopK_intro (fun (n : Int) h' m => Ext h h' ∧ ∃ i : Nat, i ≤ xs.length ∧ n = i ∧ xs.length - i = m ∧ actsErr xs = actsErr (xs.drop i)) xs.length ⟨Ext.refl h, 0, by omega, rfl, rfl, rfl⟩ ?_
  rintro n h' m ⟨e0, i, hi, rfl, rfl, he⟩
  refine ifT_dec (fun hlt => ⟨⟨by omega, hlt⟩, ?_⟩) fun hge => ?_
  · have hx := List.getElem?_eq_getElem (show i < xs.length by omega)
    generalize xs[i] = x at hx
    rw [actsErr_step hx] at he
    refine (e0.at_ ha).row actC_length (by decide) hx fun bb o hr => ⟨x.sent, x.kind, x.at_, hr, spec48 hI fun h2 e2 => ⟨_, rfl, ifT_intro (fun h1 => ?_) fun h1 => ?_⟩⟩
    · have e : badAct x = 5 := by unfold badAct; rw [if_pos (by simpa using h1)]
      rw [e] at he; rw [he] at hQ; exact hQ _ (e0.trans e2)
    have k1 : ¬ isKey x.sent = false := by simp at h1; simp [h1]
    refine joinK_intro (fun (b : Bool) g => g = h2 ∧ b = !decide (1 ≤ x.kind ∧ x.kind ≤ 4)) ?_ ?_
    · rintro b g ⟨rfl, rfl⟩
      refine ifT_intro (fun h3 => ?_) fun h3 => spec32 hI ⟨_, rfl, ifT_intro (fun h4 => ?_) fun h4 => ?_⟩
      · have e : badAct x = 4 := by unfold badAct; rw [if_neg k1, if_pos (nd h3)]
        rw [e] at he; rw [he] at hQ; exact hQ _ (e0.trans e2)
      · have e : badAct x = 1 := by unfold badAct; rw [if_neg k1, if_neg (nd' h3), if_pos (nd h4)]
        rw [e] at he; rw [he] at hQ; exact hQ _ (e0.trans e2)
      · have e : badAct x = 0 := by unfold badAct; rw [if_neg k1, if_neg (nd' h3), if_neg (nd' h4)]
        rw [e] at he
        exact ⟨xs.length - (i + 1), by omega, e0.trans e2, i + 1, by omega, by rw [w64] <;> omega, rfl, he⟩
    · intro j hj
      refine ifT_dec (fun h3 => hj _ _ ⟨rfl, ?_⟩) fun h3 => hj _ _ ⟨rfl, ?_⟩
      · have : ¬ (1 ≤ x.kind ∧ x.kind ≤ 4) := by omega
        simp only [this, decide_false, Bool.not_false]
      · by_cases h4 : x.kind > 4
        · have : ¬ (1 ≤ x.kind ∧ x.kind ≤ 4) := by omega
          simp only [this, h4, decide_false, Bool.not_false, decide_true]
        · have : 1 ≤ x.kind ∧ x.kind ≤ 4 := by omega
          simp only [this, h4, decide_false, decide_true, and_self, Bool.not_true]
  · rw [List.drop_eq_nil_of_le (by omega)] at he
    rw [he] at hQ; exact hQ _ e0
/-- Two lists of ints. -/
theorem spec13 (hI : Closed' prog Pm I) {s t : Sl} {xs : List Int} (ha : At h 1 s (cI xs)) (hb : At h 1 t (cI xs)) (hl : xs.length < 1000000) (hQ : Q [boo true] h) : I 13 [.one (.slice 1 s), .one (.slice 1 t)] Q h := by
  have l1 : s.len = xs.length := by have := ha.1; simpa using this
  have l2 : t.len = xs.length := by have := hb.1; simpa using this
  refine hI.go _ _ (den13 I s t Q) ?_
  refine ifT_intro (fun h1 => absurd (show (s.len : Int) = t.len by omega) (nd h1)) fun _ => ?_
  refine loopK_intro (fun (n : Int) h' m => h' = h ∧ ∃ i : Nat, i ≤ xs.length ∧ n = i ∧ xs.length - i = m) xs.length ⟨rfl, 0, by omega, rfl, rfl⟩ ?_
  rintro n h' m ⟨rfl, i, hi, rfl, rfl⟩
  refine ifT_dec (fun hlt => ⟨⟨by omega, hlt⟩, ?_⟩) fun hge => hQ
  have hx := List.getElem?_eq_getElem (show i < xs.length by omega)
  generalize xs[i] = x at hx
  have hg : ∀ c, (cI xs)[(i : Int).toNat]? = some c → c = .int .i64 x := fun c hc => by
    rw [Int.toNat_natCast, List.getElem?_map, hx] at hc; cases hc; rfl
  refine ha.one (by omega) hlt fun b o c hc hr => ?_
  rw [hg c hc] at hr
  refine ⟨x, hr, ⟨by omega, by omega⟩, hb.one (i := (i : Int)) (by omega) (by omega) fun b2 o2 c2 hc2 hr2 => ?_⟩
  rw [hg c2 hc2] at hr2
  exact ⟨x, hr2, ifT_intro (fun h1 => absurd rfl (nd h1)) fun _ => ⟨xs.length - (i + 1), by omega, rfl, i + 1, by omega, by rw [w64] <;> omega, rfl⟩⟩
theorem spec12 (hI : Closed' prog Pm I) {s t : Sl} {gs : List (List Int)} (ha : LieN h s gs) (hb : LieN h t gs) (hl : gs.length < 1000000) (hg : ∀ g ∈ gs, g.length < 1000000) (hQ : Q [boo true] h) :
    I 12 [.one (.slice 1 s), .one (.slice 1 t), .one (.func (some (13, [])))] Q h := by
  obtain ⟨ps, hp1, hp2, hp3⟩ := ha.ex
  obtain ⟨qs, hq1, hq2, hq3⟩ := hb.ex
  have lp : ps.length = gs.length := by rw [← hp1, List.length_map]
  have lq : qs.length = gs.length := by rw [← hq1, List.length_map]
  have l1 : s.len = gs.length := by have := hp2.1; simp at this; omega
  have l2 : t.len = gs.length := by have := hq2.1; simp at this; omega
  refine hI.go _ _ (den12 I s t _ Q) ?_
  refine ifT_intro (fun h1 => absurd (show (s.len : Int) = t.len by omega) (nd h1)) fun _ => ?_
  refine loopK_intro (fun (n : Int) h' m => h' = h ∧ ∃ i : Nat, i ≤ gs.length ∧ n = i ∧ gs.length - i = m) gs.length ⟨rfl, 0, by omega, rfl, rfl⟩ ?_
  rintro n h' m ⟨rfl, i, hi, rfl, rfl⟩
  refine ifT_dec (fun hlt => ⟨⟨by omega, hlt⟩, ?_⟩) fun hge => hQ
  obtain ⟨p, hx⟩ : ∃ p, ps[i]? = some p := ⟨_, List.getElem?_eq_getElem (show i < ps.length by omega)⟩
  obtain ⟨q, hy⟩ : ∃ q, qs[i]? = some q := ⟨_, List.getElem?_eq_getElem (show i < qs.length by omega)⟩
  have hpm := List.mem_of_getElem? hx
  have hqm := List.mem_of_getElem? hy
  have hpq : p.2 = q.2 := by
    have h1 : gs[i]? = some p.2 := by rw [← hp1, List.getElem?_map, hx]; rfl
    have h2 : gs[i]? = some q.2 := by rw [← hq1, List.getElem?_map, hy]; rfl
    rw [h1] at h2; exact Option.some.inj h2
  have hgm : p.2 ∈ gs := by rw [← hp1]; exact List.mem_map_of_mem hpm
  refine hp2.one (by omega) hlt fun b o c hc hr => ?_
  rw [Int.toNat_natCast, List.getElem?_map, hx] at hc
  cases hc
  refine ⟨p.1, hr, ⟨by omega, by omega⟩, hq2.one (i := (i : Int)) (by omega) (by omega) fun b2 o2 c2 hc2 hr2 => ?_⟩
  rw [Int.toNat_natCast, List.getElem?_map, hy] at hc2
  cases hc2
  refine ⟨q.1, hr2, ?_⟩
  show I 13 _ _ _
  refine spec13 hI (xs := p.2) (hp3 p hpm) (by rw [hpq]; exact hq3 q hqm) (hg _ hgm) ⟨_, rfl, ifT_intro (fun h1 => by cases h1) fun _ => ⟨gs.length - (i + 1), by omega, rfl, i + 1, by omega, by rw [w64] <;> omega, rfl⟩⟩
/-- Two lists of rows. -/
theorem spec9 (hI : Closed' prog Pm I) {s t : Sl} {xs : List RowS} (ha : At h 6 s (rows rowC xs)) (hb : At h 6 t (rows rowC xs)) (hl : xs.length < 1000000) (hQ : Q [boo true] h) : I 9 [.one (.slice 6 s), .one (.slice 6 t)] Q h := by
  have l1 := ha.rowsLen rowC_length (by decide)
  have l2 := hb.rowsLen rowC_length (by decide)
  refine hI.go _ _ (den9 I s t Q) ?_
  refine ifT_intro (fun h1 => absurd (show (s.len : Int) = t.len by omega) (nd h1)) fun _ => ?_
  refine loopK_intro (fun (n : Int) h' m => h' = h ∧ ∃ i : Nat, i ≤ xs.length ∧ n = i ∧ xs.length - i = m) xs.length ⟨rfl, 0, by omega, rfl, rfl⟩ ?_
  rintro n h' m ⟨rfl, i, hi, rfl, rfl⟩
  refine ifT_dec (fun hlt => ⟨⟨by omega, hlt⟩, ?_⟩) fun hge => hQ
  have hx := List.getElem?_eq_getElem (show i < xs.length by omega)
  generalize xs[i] = x at hx
  refine ha.row rowC_length (by decide) hx fun bb o hr => ⟨x.letter, x.sent, x.opened, x.clicked, x.bought, x.left, hr, ⟨by omega, by omega⟩, hb.row rowC_length (by decide) hx fun bb o hr => ⟨x.letter, x.sent, x.opened, x.clicked, x.bought, x.left, hr, ?_⟩⟩
  refine ifT_intro (fun h1 => by simp at h1) fun _ => ⟨xs.length - (i + 1), by omega, rfl, i + 1, by omega, by rw [w64] <;> omega, rfl⟩
end
end Go.Proofs.YtmjfeabnioclgaaGreatDoorVc
-- AcSpec2
namespace Go.Proofs.YtmjfeabnioclgaaGreatDoorVc
open Go.Proofs.Tryz (prog)
def dids (xs : List Act) (len : Int) : List Did := xs.map fun a => (a.sent, a.at_.tdiv len)
def errC (xs : List Act) (len many : Int) : Int := if actsErr xs ≠ 0 then actsErr xs else if ¬ ((1 ≤ len ∧ len ≤ 4321440) ∧ (1 ≤ many ∧ many ≤ 60)) then 1 else 0
def gridOf (A : List Did) (n : Nat) : List (List Int) := (List.range n).map fun i => (List.range n).map fun j => ((cohort A i j : Nat) : Int)
theorem gridOf_length (A : List Did) (n : Nat) : (gridOf A n).length = n := by simp [gridOf]
theorem gridOf_rows (A : List Did) (n : Nat) : ∀ g ∈ gridOf A n, g.length = n := by
  intro g hg
  obtain ⟨i, _, rfl⟩ := List.mem_map.1 hg
  simp
abbrev kStr (s : ByteArray) : V := .one (.str s)
abbrev kInt (n : Int) : V := .one (.int .i64 n)
abbrev kBoo (b : Bool) : V := .one (.bool b)
abbrev kDid (q : Did) : V := .agg [.str q.1, .int .i64 q.2]
/-- Pairs that were seen. -/
def seenD (E : List Did) : List (V × V) := amap kDid kBoo (E.map fun e => (e, true))
theorem aget_true (E : List Did) (e : Did) : aget (E.map fun e => (e, true)) e = if e ∈ E then some true else none := by
  induction E with
  | nil => rfl
  | cons q E ih =>
    simp only [List.map_cons, aget, ih, List.mem_cons]
    by_cases h : e = q
    · rw [if_pos h, if_pos (.inl h)]
    · rw [if_neg h]
      by_cases h2 : e ∈ E
      · rw [if_pos h2, if_pos (.inr h2)]
      · rw [if_neg h2, if_neg (fun c => c.elim h h2)]
theorem aset_true {E : List Did} {e : Did} (h : e ∉ E) : aset (E.map fun e => (e, true)) e true = (E ++ [e]).map fun e => (e, true) := by
  induction E with
  | nil => rfl
  | cons q E ih =>
    simp only [List.mem_cons, not_or] at h
    simp only [List.map_cons, aset, if_neg h.1, ih h.2, List.cons_append]
theorem seenD_get (E : List Did) (e : Did) : mapGet (kDid e) (kBoo false) (seenD E) = some (kBoo (decide (e ∈ E)), decide (e ∈ E)) := by
  rw [seenD, amap_get keyStrInt, aget_true]
  by_cases h : e ∈ E
  · rw [if_pos h, decide_eq_true h]; rfl
  · rw [if_neg h, decide_eq_false h]; rfl
theorem seenD_set {E : List Did} {e : Did} (h : e ∉ E) : mapSet (kDid e) (kBoo true) (seenD E) = some (seenD (E ++ [e])) := by
  rw [seenD, amap_set keyStrInt, aset_true h]; rfl
theorem per_range {a len : Int} (h : moment a) (h1 : 1 ≤ len) : 0 ≤ a.tdiv len ∧ a.tdiv len ≤ 4321439 ∧ IntKind.i64.wrap (a.tdiv len) = a.tdiv len := by
  unfold moment at h
  have h0 := Int.tdiv_nonneg h.1 (show 0 ≤ len by omega)
  have h2 : a.tdiv len ≤ a := by
    rw [Int.tdiv_eq_ediv_of_nonneg h.1]
    exact Int.ediv_le_self _ h.1
  exact ⟨h0, by omega, w64 (by omega) (by omega)⟩
/-- A count that goes up by one. -/
theorem countP_snoc {α : Type} (p : α → Bool) (l : List α) (x : α) : (l ++ [x]).countP p = l.countP p + if p x then 1 else 0 := by
  rw [List.countP_append, List.countP_singleton]
def hitD (A : List Did) (i j : Nat) (q : Did) : Bool := decide (minOf A q.1 = some (i : Int)) && decide (q.2 = (i : Int) + (j : Int))
def rowD (A E : List Did) (n i : Nat) : List Int := (List.range n).map fun j => ((E.countP (hitD A i j) : Nat) : Int)
theorem rowD_length (A E : List Did) (n i : Nat) : (rowD A E n i).length = n := by simp [rowD]
theorem rowD_get {A E : List Did} {n i j : Nat} (h : j < n) : (rowD A E n i)[j]? = some ((E.countP (hitD A i j) : Nat) : Int) := by
  unfold rowD; rw [List.getElem?_map, List.getElem?_range h]; rfl
theorem rowD_snoc {A E : List Did} {n i m p : Nat} {s : ByteArray} (hm : minOf A s = some (m : Int)) (hp : p < n) :
    rowD A (E ++ [(s, (m : Int) + (p : Int))]) n i = if i = m then (rowD A E n i).set p (((E.countP (hitD A i p) : Nat) : Int) + 1) else rowD A E n i := by
  have hh : ∀ j, hitD A i j (s, (m : Int) + (p : Int)) = decide (i = m ∧ j = p) := fun j => by
    unfold hitD
    simp only [hm, Option.some.injEq]
    rw [← Bool.decide_and]
    exact decide_eq_decide.2 ⟨fun h => ⟨by omega, by omega⟩, fun h => ⟨by omega, by omega⟩⟩
  by_cases hi : i = m
  · rw [if_pos hi]
    refine List.ext_getElem? fun j => ?_
    by_cases hj : j < n
    · rw [rowD_get hj, countP_snoc, hh]
      by_cases hjp : j = p
      · subst hjp
        rw [List.getElem?_set_self (by rw [rowD_length]; exact hj)]
        simp [hi]
      · rw [List.getElem?_set_ne (fun e => hjp e.symm), rowD_get hj]
        simp [hjp]
    · rw [List.getElem?_eq_none (by rw [rowD_length]; omega), List.getElem?_eq_none (by rw [List.length_set, rowD_length]; omega)]
  · rw [if_neg hi]
    unfold rowD
    refine List.map_congr_left fun j _ => ?_
    rw [countP_snoc, hh]
    simp [hi]

section
variable {I : Calls} {Q : Post} {h : Heap}
theorem spec10 (hI : Closed' prog Pm I) {s : Sl} {xs : List Act} {len many : Int} (ha : At h 3 s (rows actC xs)) (hl : xs.length < 1000)
    (hbad : errC xs len many ≠ 0 → Q [.one (.slice 1 ⟨none, 0⟩), int (errC xs len many)] h)
    (hQ : errC xs len many = 0 → ∀ s' h', Ext h h' → LieN h' s' (gridOf (dids xs len) many.toNat) → Q [.one (.slice 1 s'), int 0] h') : I 10 [.one (.slice 3 s), int len, int many] Q h := by
  have l1 := ha.rowsLen actC_length (by decide)
  refine hI.go _ _ (den10 I s len many Q) ?_
  refine spec39 hI ha hl ⟨_, rfl, ifT_intro (fun hb => ?_) fun hb => ?_⟩
  · have e : errC xs len many = actsErr xs := by unfold errC; rw [if_pos (nd hb)]
    rw [e] at hbad; exact hbad (nd hb)
  have hA : actsErr xs = 0 := Decidable.of_not_not (nd' hb)
  have eC : errC xs len many = if ¬ ((1 ≤ len ∧ len ≤ 4321440) ∧ (1 ≤ many ∧ many ≤ 60)) then 1 else 0 := by unfold errC; rw [if_neg (fun c => c hA)]
  refine joinK_intro (fun (b : Bool) g => g = h ∧ b = !decide ((1 ≤ len ∧ len ≤ 4321440) ∧ (1 ≤ many ∧ many ≤ 60))) ?_ ?_
  case refine_2 =>
    intro j hj
    refine spec25 hI ⟨_, rfl, ifT_intro (fun h1 => hj _ _ ⟨rfl, ?_⟩) fun h1 => spec25 hI ⟨_, rfl, hj _ _ ⟨rfl, ?_⟩⟩⟩
    · have : ¬ (1 ≤ len ∧ len ≤ 4321440) := fun c => by simp [c.1, c.2] at h1
      simp [this]
    · have : 1 ≤ len ∧ len ≤ 4321440 := by simpa using h1
      by_cases c : 1 ≤ many ∧ many ≤ 60
      · simp [this, c]
      · simp only [this, c, and_false, decide_false, Bool.not_false]
        have : ¬ (1 ≤ many) ∨ ¬ (many ≤ 60) := by omega
        rcases this with h2 | h2 <;> simp [h2]
  rintro b g ⟨rfl, rfl⟩
  refine ifT_intro (fun hb => ?_) fun hb => ?_
  · rw [eC, if_pos (nd hb)] at hbad; exact hbad (by decide)
  obtain ⟨⟨hl1, hl2⟩, hm1, hm2⟩ := Decidable.of_not_not (nd' hb)
  rw [eC, if_neg (fun c => c ⟨⟨hl1, hl2⟩, hm1, hm2⟩)] at hQ
  have hQ := hQ rfl
  clear hbad eC hb
  have hok := fun a hm => badAct_ok (actsErr_ok hA a hm)
  obtain ⟨A, hAd⟩ : ∃ A, dids xs len = A := ⟨_, rfl⟩
  have hAl : A.length = xs.length := by rw [← hAd, dids, List.length_map]
  have hAt : ∀ k : Nat, ∀ x : Act, xs[k]? = some x → A.take (k + 1) = A.take k ++ [(x.sent, x.at_.tdiv len)] := fun k x hx => by
    rw [List.take_add_one, ← hAd, dids, List.getElem?_map, hx]; rfl
  rw [hAd] at hQ
  -- who came when
  refine newK_intro fun i9 h1 hn1 he1 => ?_
  refine loopK_intro (fun (a : Int) h' m => ∃ k : Nat, k ≤ xs.length ∧ a = (k : Int) ∧ xs.length - k = m ∧ h' = g.set i9 (.map (amap kStr kInt (firsts (A.take k))))) xs.length ⟨0, by omega, rfl, rfl, he1⟩ ?_
  rintro a h' m ⟨k, hk, rfl, rfl, rfl⟩
  have ek : Ext g (g.set i9 (.map (amap kStr kInt (firsts (A.take k))))) := Ext.new hn1
  refine ifT_dec (fun hlt => ⟨⟨by omega, hlt⟩, ?_⟩) fun hge => ?_
  · have hx := List.getElem?_eq_getElem (show k < xs.length by omega)
    have hxm := List.getElem_mem (show k < xs.length by omega)
    generalize xs[k] = x at hx hxm
    obtain ⟨p1, p2, p3⟩ := per_range (hok x hxm).2.2 hl1
    refine (ek.at_ ha).row actC_length (by decide) hx fun bb o hr => ⟨x.sent, x.kind, x.at_, hr, by omega, ?_⟩
    have hg := amap_get keyStr kInt (kInt 0) x.sent (firsts (A.take k))
    have hs := amap_set keyStr kInt x.sent (x.at_.tdiv len) (firsts (A.take k))
    have hf := firsts_snoc (A.take k) (x.sent, x.at_.tdiv len)
    rw [← hAt k x hx] at hf
    have fin : ∀ h'', h'' = g.set i9 (.map (amap kStr kInt (firsts (A.take (k + 1))))) → ∃ m', m' < xs.length - k ∧ ∃ k' : Nat, k' ≤ xs.length ∧ IntKind.i64.wrap ((k : Int) + 1) = (k' : Int) ∧ xs.length - k' = m' ∧ h'' = g.set i9 (.map (amap kStr kInt (firsts (A.take k')))) := fun h'' e =>
      ⟨xs.length - (k + 1), by omega, k + 1, by omega, by rw [w64] <;> omega, rfl, e⟩
    rw [p3]
    cases hag : aget (firsts (A.take k)) x.sent with
    | none =>
      rw [hag] at hg hf
      refine ⟨0, false, ⟨_, mapOf_some (set_eq _ _ _), hg⟩, ifT_intro (fun _ => mapK_in (set_eq _ _ _) hs (fin _ ?_)) fun h => by cases h⟩
      rw [set_set]
      simp only at hf
      rw [hf]
    | some m0 =>
      rw [hag] at hg hf
      simp only at hf
      refine ⟨m0, true, ⟨_, mapOf_some (set_eq _ _ _), hg⟩, ifT_intro (fun h => by cases h) fun _ => ifT_dec (fun hlt => mapK_in (set_eq _ _ _) hs (fin _ ?_)) fun hge => fin _ ?_⟩
      · rw [set_set, hf, if_pos hlt]
      · rw [hf, if_neg hge]
  obtain rfl : k = xs.length := by omega
  have htA : A.take xs.length = A := by rw [← hAl, List.take_length]
  rw [htA] at ek ⊢
  obtain ⟨h2, hh2⟩ : ∃ h2, g.set i9 (.map (amap kStr kInt (firsts A))) = h2 := ⟨_, rfl⟩
  have hF : h2 i9 = some (.map (amap kStr kInt (firsts A))) := by rw [← hh2, set_eq]
  rw [hh2] at ek ⊢
  clear hn1 he1 hh2
  -- the rows
  obtain ⟨n, hn⟩ : ∃ n : Nat, many = (n : Int) := ⟨many.toNat, by omega⟩
  subst hn
  rw [Int.toNat_natCast] at hQ ⊢
  refine ⟨rfl, by omega, by omega, by omega, newK_intro fun i25 h3 hn3 he3 => ?_⟩
  have o3 := gridNew (L := []) (Owns.nil h2) hn3 (n := n)
  rw [← he3] at o3
  refine loopK_intro (fun (a : Int) h' m => ∃ k : Nat, k ≤ n ∧ a = (k : Int) ∧ n - k = m ∧ ∃ ps : List (Sl × List Int), ps.length = n ∧ Owns h2 h' ((1, ⟨some (i25, 0), n⟩, slN ps) :: (owN ps ++ [])) ∧ ∀ q, q < k → ∃ j, ps[q]? = some (⟨some (j, 0), n⟩, List.replicate n 0)) n
    ⟨0, by omega, rfl, by omega, _, by simp, o3, fun q hq => by omega⟩ ?_
  rintro a h' m ⟨k, hk, rfl, rfl, ps, hpl, o, hrow⟩
  refine ifT_dec (fun hlt => ⟨rfl, by omega, by omega, by omega, newK_intro fun i29 h4 hn4 he4 => ⟨⟨by omega, hlt⟩, ?_⟩⟩) fun hge => ?_
  · have hkn : k < n := by omega
    obtain ⟨p, hp⟩ : ∃ p, ps[k]? = some p := ⟨_, List.getElem?_eq_getElem (by omega)⟩
    have o4 := gridPut (i := i29) (m := n) (g := List.replicate n 0) o hp hpl hn4 (by simp)
    have ec : slCells (VK.one (Kd.int .i64)) n = cI (List.replicate n 0) := by rw [slCellsN, cI, List.map_replicate]; rfl
    rw [ec] at he4
    have hb25 : h4 i25 = some (.cells false (slN ps)) := by
      have := (o.block List.mem_cons_self).1
      rw [he4, set_ne _ _ (fun e => by subst e; rw [hn4] at this; cases this)]; exact this
    rw [Int.toNat_natCast, Nat.mul_one, Nat.zero_add]
    refine storeK_one hb25 (by simp; omega) ?_
    rw [← he4] at o4
    refine ⟨n - (k + 1), by omega, k + 1, by omega, by rw [w64] <;> omega, rfl, _, by rw [List.length_set, hpl], o4, fun q hq => ?_⟩
    by_cases e : q = k
    · subst e
      exact ⟨i29, by rw [List.getElem?_set_self (by omega)]⟩
    · rw [List.getElem?_set_ne (fun c => e c.symm)]
      exact hrow q (by omega)
  obtain rfl : k = n := by omega
  clear o3 he3 hn3 h3 h1
  -- each pair once
  refine newK_intro fun i32 h5 hn5 he5 => ?_
  have h2n : h2 i32 = none := by
    cases c : h2 i32 with
    | none => rfl
    | some x => have := o.ext _ _ c; rw [hn5] at this; cases this
  have o5 := o.mono (he5 ▸ Ext.new hn5 : Ext h' h5)
  have hm5 : h5 i32 = some (.map (seenD [])) := by rw [he5, set_eq]; rfl
  have hmn : ∀ x ∈ xs, ∃ m0 : Nat, minOf A x.sent = some (m0 : Int) ∧ ∃ d : Nat, x.at_.tdiv len = (m0 : Int) + (d : Int) := fun x hx => by
    have hxA : (x.sent, x.at_.tdiv len) ∈ A := by rw [← hAd]; exact List.mem_map.2 ⟨x, hx, rfl⟩
    have hi := minOf_is A x.sent
    cases hm : minOf A x.sent with
    | none => rw [hm] at hi; exact absurd hxA (hi _)
    | some m0 =>
      rw [hm] at hi
      have h0 := hi.2 _ hxA
      have hm0 : 0 ≤ m0 := by
        have := hi.1
        rw [← hAd] at this
        obtain ⟨y, hy, e⟩ := List.mem_map.1 this
        have : y.at_.tdiv len = m0 := congrArg Prod.snd e
        rw [← this]
        exact (per_range (hok y hy).2.2 hl1).1
      exact ⟨m0.toNat, by rw [Int.toNat_of_nonneg hm0], (x.at_.tdiv len - m0).toNat, by omega⟩
  refine loopK_intro (fun (a : Int) h' m => ∃ k' : Nat, k' ≤ xs.length ∧ a = (k' : Int) ∧ xs.length - k' = m ∧ ∃ (E : List Did) (ps : List (Sl × List Int)), (E.Nodup ∧ E.length ≤ k') ∧ (∀ s p, (s, p) ∈ E ↔ (s, p) ∈ A.take k' ∧ ∃ m, minOf A s = some m ∧ m < (k : Int) ∧ p - m < (k : Int)) ∧
      h' i32 = some (.map (seenD E)) ∧ ps.length = k ∧ Owns h2 h' ((1, ⟨some (i25, 0), k⟩, slN ps) :: (owN ps ++ [])) ∧ ∀ q, q < k → ∃ j, ps[q]? = some (⟨some (j, 0), k⟩, rowD A E k q)) xs.length
    ⟨0, by omega, rfl, rfl, [], ps, ⟨List.nodup_nil, by simp⟩, by simp, hm5, hpl, o5, fun q hq => ?_⟩ ?_
  · obtain ⟨j, hj⟩ := hrow q hq
    refine ⟨j, hj.trans ?_⟩
    have : rowD A [] k q = List.replicate k 0 := by
      unfold rowD
      simp only [List.countP_nil]
      exact List.ext_getElem (by simp) fun i h1 h2 => by simp
    rw [this]
  clear hrow o o5 hm5 hpl he5 hn5
  rintro a g5 m ⟨k', hk', rfl, rfl, E, ps, ⟨hEn, hEl⟩, hE, hm5, hpl, o, hrow⟩
  refine ifT_dec (fun hlt => ⟨⟨by omega, hlt⟩, ?_⟩) fun hge => ?_
  · have hx := List.getElem?_eq_getElem (show k' < xs.length by omega)
    have hxm := List.getElem_mem (show k' < xs.length by omega)
    generalize xs[k'] = x at hx hxm
    obtain ⟨p1, p2, p3⟩ := per_range (hok x hxm).2.2 hl1
    obtain ⟨m0, hm0, d, hd⟩ := hmn x hxm
    have htk := hAt k' x hx
    have e5 := ek.trans o.ext
    refine (e5.at_ ha).row actC_length (by decide) hx fun bb oo hr => ⟨x.sent, x.kind, x.at_, hr, by omega, (m0 : Int), true, ⟨_, mapOf_some (o.ext _ _ hF), ?_⟩, ?_⟩
    · rw [amap_get keyStr, firsts_get, hm0]; rfl
    rw [p3, hd, w64 (n := (m0 : Int) + (d : Int) - (m0 : Int)) (by omega) (by omega)]
    have hdd : (m0 : Int) + (d : Int) - (m0 : Int) = (d : Int) := by omega
    rw [hdd]
    rw [hd] at htk
    have stepE : ∀ h'' E' ps', (E'.Nodup ∧ E'.length ≤ k' + 1) → (∀ s p, (s, p) ∈ E' ↔ (s, p) ∈ A.take (k' + 1) ∧ ∃ m, minOf A s = some m ∧ m < (k : Int) ∧ p - m < (k : Int)) → h'' i32 = some (.map (seenD E')) → ps'.length = k →
        Owns h2 h'' ((1, ⟨some (i25, 0), k⟩, slN ps') :: (owN ps' ++ [])) → (∀ q, q < k → ∃ j, ps'[q]? = some (⟨some (j, 0), k⟩, rowD A E' k q)) →
        ∃ m', m' < xs.length - k' ∧ ∃ k2 : Nat, k2 ≤ xs.length ∧ IntKind.i64.wrap ((k' : Int) + 1) = (k2 : Int) ∧ xs.length - k2 = m' ∧ ∃ (E : List Did) (ps : List (Sl × List Int)), (E.Nodup ∧ E.length ≤ k2) ∧ (∀ s p, (s, p) ∈ E ↔ (s, p) ∈ A.take k2 ∧ ∃ m, minOf A s = some m ∧ m < (k : Int) ∧ p - m < (k : Int)) ∧
          h'' i32 = some (.map (seenD E)) ∧ ps.length = k ∧ Owns h2 h'' ((1, ⟨some (i25, 0), k⟩, slN ps) :: (owN ps ++ [])) ∧ ∀ q, q < k → ∃ j, ps[q]? = some (⟨some (j, 0), k⟩, rowD A E k q) :=
      fun h'' E' ps' a1 a2 a3 a4 a5 a6 => ⟨xs.length - (k' + 1), by omega, k' + 1, by omega, by rw [w64] <;> omega, rfl, E', ps', a1, a2, a3, a4, a5, a6⟩
    refine joinK_intro (fun (b : Bool) g => g = g5 ∧ b = (decide ((x.sent, (m0 : Int) + (d : Int)) ∈ E) || (decide ((m0 : Int) ≥ (k : Int)) || decide ((d : Int) ≥ (k : Int))))) ?_ ?_
    case refine_2 =>
      intro j hj
      refine ⟨_, _, ⟨_, mapOf_some hm5, seenD_get E (x.sent, (m0 : Int) + (d : Int))⟩, ifT_intro (fun h1 => hj _ _ ⟨rfl, by rw [h1]; rfl⟩) fun h1 => ifT_intro (fun h3 => hj _ _ ⟨rfl, by rw [h1, h3]; rfl⟩) fun h3 => hj _ _ ⟨rfl, by rw [h1, h3]; rfl⟩⟩
    rintro b g6 ⟨rfl, rfl⟩
    refine ifT_intro (fun hb => stepE _ E ps ⟨hEn, by omega⟩ (fun s p => ?_) hm5 hpl o hrow) fun hb => ?_
    · rw [hE, htk, List.mem_append, List.mem_singleton]
      refine ⟨fun ⟨c1, c2⟩ => ⟨.inl c1, c2⟩, fun ⟨c1, m, c2, c3, c4⟩ => ⟨?_, m, c2, c3, c4⟩⟩
      rcases c1 with c1 | c1
      · exact c1
      · cases c1
        rw [hm0] at c2; cases c2
        have h1 : ¬ ((m0 : Int) ≥ (k : Int)) := by omega
        have h2 : ¬ ((d : Int) ≥ (k : Int)) := by omega
        simp only [h1, h2, decide_false, Bool.or_false, decide_eq_true_eq] at hb
        exact ((hE _ _).1 hb).1
    have hb' : (x.sent, (m0 : Int) + (d : Int)) ∉ E ∧ ¬ ((m0 : Int) ≥ (k : Int)) ∧ ¬ ((d : Int) ≥ (k : Int)) := by
      simpa [Bool.or_eq_false_iff] using hb
    obtain ⟨hnE, hmk, hdk⟩ := hb'
    obtain ⟨j, hj⟩ := hrow m0 (by omega)
    refine mapK_in hm5 (seenD_set hnE) ?_
    have o6 := o.setMap (es' := seenD (E ++ [(x.sent, (m0 : Int) + (d : Int))])) h2n hm5
    have hblk := (o6.block List.mem_cons_self).1
    refine ⟨⟨by omega, by omega⟩, ⟨some (j, 0), k⟩, ?_, ⟨by omega, by show (d : Int) < (k : Int); omega⟩, derefK_intro rfl ⟨((E.countP (hitD A m0 d) : Nat) : Int), ?_, ⟨by omega, by show (d : Int) < (k : Int); omega⟩, derefK_intro rfl ?_⟩⟩
    · rw [Int.toNat_natCast, Nat.mul_one, Nat.zero_add]
      refine read_cell hblk ?_
      rw [List.getElem?_map, hj]; rfl
    · obtain ⟨c1, c2⟩ := gridSet (c := d) (x := 0) o6 hj (by rw [rowD_length]; omega)
      rw [Int.toNat_natCast, Nat.mul_one, Nat.zero_add]
      refine read_cell c1 ?_
      rw [List.getElem?_map, rowD_get (by omega)]; rfl
    · obtain ⟨c1, c2⟩ := gridSet (c := d) (x := ((E.countP (hitD A m0 d) : Nat) : Int) + 1) o6 hj (by rw [rowD_length]; omega)
      rw [Int.toNat_natCast, Nat.mul_one, Nat.zero_add]
      have hcl : E.countP (hitD A m0 d) ≤ E.length := List.countP_le_length
      rw [w64 (n := ((E.countP (hitD A m0 d) : Nat) : Int) + 1) (by omega) (by omega)]
      refine storeK_one c1 (by simp [rowD_length]; omega) ?_
      refine stepE _ (E ++ [(x.sent, (m0 : Int) + (d : Int))]) _ ⟨List.nodup_append.2 ⟨hEn, by simp, fun a ha b hb => ?_⟩, by simp; omega⟩ (fun s p => ?_) ?_ ?_ c2 fun q hq => ?_
      · rw [List.mem_singleton.1 hb]; exact fun e => hnE (e ▸ ha)
      · rw [List.mem_append, List.mem_singleton, hE, htk, List.mem_append, List.mem_singleton]
        constructor
        · rintro (⟨c3, c4⟩ | c3)
          · exact ⟨.inl c3, c4⟩
          · cases c3
            exact ⟨.inr rfl, (m0 : Int), hm0, by omega, by omega⟩
        · rintro ⟨c3 | c3, c4⟩
          · exact .inl ⟨c3, c4⟩
          · exact .inr c3
      · have hne : i32 ≠ j := fun e => by subst e; rw [set_eq] at c1; cases c1
        rw [set_ne _ _ hne, set_eq]
      · rw [List.length_set, hpl]
      · rw [rowD_snoc hm0 (by omega)]
        by_cases e : q = m0
        · subst e
          rw [if_pos rfl]
          exact ⟨j, by rw [List.getElem?_set_self (by omega)]⟩
        · rw [if_neg e, List.getElem?_set_ne (fun c => e c.symm)]
          exact hrow q hq
  obtain rfl : k' = xs.length := by omega
  rw [htA] at hE
  refine hQ _ _ (ek.trans o.ext) (gridLie o ?_)
  refine List.ext_getElem? fun q => ?_
  by_cases hq : q < k
  · obtain ⟨j, hj⟩ := hrow q hq
    rw [List.getElem?_map, hj]
    unfold gridOf
    rw [List.getElem?_map, List.getElem?_range hq]
    show some _ = some _
    congr 1
    unfold rowD
    refine List.map_congr_left fun c hc => ?_
    exact congrArg (fun z : Nat => (z : Int)) (cohort_pairs hEn hE q c hq (List.mem_range.1 hc))
  · rw [List.getElem?_eq_none (by simp; omega), List.getElem?_eq_none (by rw [gridOf_length]; omega)]
end
end Go.Proofs.YtmjfeabnioclgaaGreatDoorVc
-- RangeB
namespace Go.Proofs.YtmjfeabnioclgaaGreatDoorVc
theorem stamped_of {α : Type} (φ : α → V × V) : ∀ (dm : List α) (fs : List ((V × V) × Nat)), fs.map (·.1) = dm.map φ → ∃ fc : List (α × Nat), fs = fc.map (fun q => (φ q.1, q.2)) ∧ fc.map (·.1) = dm
  | [], [], _ => ⟨[], rfl, rfl⟩
  | a :: dm, f :: fs, h => by
    simp only [List.map_cons, List.cons.injEq] at h
    obtain ⟨fc, h1, h2⟩ := stamped_of φ dm fs h.2
    refine ⟨(a, f.2) :: fc, ?_, by simp [h2]⟩
    rw [List.map_cons, ← h1, ← h.1]
  | [], _ :: _, h => by simp at h
  | _ :: _, [], h => by simp at h
def leftC {α : Type} (fc : List (α × Nat)) (seen : List Nat) : List (α × Nat) := fc.filter fun q => !seen.contains q.2
theorem leftC_nil {α : Type} (fc : List (α × Nat)) : leftC fc [] = fc := by unfold leftC; simp
theorem leftF_map {α : Type} (φ : α → V × V) (fc : List (α × Nat)) (seen : List Nat) : leftF (fc.map fun q => (φ q.1, q.2)) seen = (leftC fc seen).map fun q => (φ q.1, q.2) := by
  unfold leftF leftC
  rw [List.filter_map]
  rfl
theorem perm_out {α : Type} : ∀ {l : List (α × Nat)} {q : α × Nat}, (l.map (·.2)).Nodup → q ∈ l → l.Perm (q :: l.filter fun r => !decide (r.2 = q.2))
  | a :: l, q, hn, hq => by
    simp only [List.map_cons, List.nodup_cons] at hn
    rcases List.mem_cons.1 hq with rfl | hq
    · rw [List.filter_cons]
      simp only [decide_true, Bool.not_true, Bool.false_eq_true, if_false]
      have : l.filter (fun r => !decide (r.2 = q.2)) = l := List.filter_eq_self.2 fun r hr => by
        simp only [Bool.not_eq_true', decide_eq_false_iff_not]
        exact fun e => hn.1 (e ▸ List.mem_map_of_mem hr)
      rw [this]
    · have hne : ¬ a.2 = q.2 := fun e => hn.1 (e ▸ List.mem_map_of_mem hq)
      rw [List.filter_cons]
      simp only [hne, decide_false, Bool.not_false, if_true]
      exact ((perm_out hn.2 hq).cons a).trans (List.Perm.swap _ _ _)
theorem left_step {α : Type} {fc : List (α × Nat)} {seen : List Nat} {q : α × Nat} (hn : (fc.map (·.2)).Nodup) (hq : q ∈ leftC fc seen) : (leftC fc seen).Perm (q :: leftC fc (seen ++ [q.2])) := by
  have e : leftC fc (seen ++ [q.2]) = (leftC fc seen).filter fun r => !decide (r.2 = q.2) := by
    unfold leftC
    rw [List.filter_filter]
    refine List.filter_congr fun r _ => ?_
    simp [List.contains_eq_mem]
    rw [Bool.eq_iff_iff]
    simp [and_comm]
  rw [e]
  refine perm_out ?_ hq
  unfold leftC
  exact List.Nodup.sublist (List.Sublist.map _ List.filter_sublist) hn

/-- An object that is nobody's changes. -/
theorem Owns.setAny {h0 h : Heap} {L : List Ow} {i : Nat} {o' : Obj} (o : Owns h0 h L) (hb : h0 i = none) (hi : ∀ cs, h i ≠ some (.cells false cs)) : Owns h0 (h.set i o') L where
  ext j x hx := by
    have : j ≠ i := fun e => by subst e; rw [hb] at hx; cases hx
    rw [set_ne _ _ this]; exact o.ext _ _ hx
  all p hp := by
    obtain ⟨b1, b2 | ⟨k, b2, b3, b4⟩⟩ := o.all p hp
    · exact ⟨b1, .inl b2⟩
    · have : k ≠ i := fun e => by subst e; exact hi _ b4
      exact ⟨b1, .inr ⟨k, b2, b3, by rw [set_ne _ _ this]; exact b4⟩⟩
  apart := o.apart
section
variable {α : Type} {φ : α → V × V} {h : Heap} {m j ck : Nat} {fc : List (α × Nat)} {seen : List Nat}
abbrev fcF (φ : α → V × V) (fc : List (α × Nat)) : List ((V × V) × Nat) := fc.map fun q => (φ q.1, q.2)
theorem nextK_in (hj : h j = some (.iter m seen ck)) (hm : h m = some (.mapF (fcF φ fc) ck)) (hn : (fc.map (·.2)).Nodup) {kEnd : T} {kOne : V → V → T}
    (hEnd : leftC fc seen = [] → kEnd (h.set m (.map ((fc.map (·.1)).map φ))))
    (hOne : ∀ q, q ∈ fc → (leftC fc seen).Perm (q :: leftC fc (seen ++ [q.2])) → kOne (φ q.1).1 (φ q.1).2 (h.set j (.iter m (seen ++ [q.2]) ck))) : nextK j kEnd kOne h := by
  refine ⟨m, _, ck, seen, hj, hm, fun hnil => ?_, fun e he => ?_⟩
  · rw [leftF_map φ] at hnil
    have := hEnd (by simpa using hnil)
    have e : (fcF φ fc).map (·.1) = (fc.map (·.1)).map φ := by simp [fcF]
    rw [e]; exact this
  · rw [leftF_map φ] at he
    obtain ⟨q, hq, rfl⟩ := List.mem_map.1 he
    exact hOne q (List.mem_filter.1 hq).1 (left_step hn hq)
theorem entryK_in {q : α × Nat} (hj : h j = some (.iter m (seen ++ [q.2]) ck)) (hm : h m = some (.mapF (fcF φ fc) ck)) (hq : q ∈ fc) {k : V → V → T} (hk : k (φ q.1).1 (φ q.1).2 h) : entryK j k h :=
  ⟨m, _, ck, seen, (φ q.1, q.2), hj, hm, List.mem_map_of_mem (f := fun q : α × Nat => (φ q.1, q.2)) hq, hk⟩
theorem rangeK_in {dm : List α} (hm : h m = some (.map (dm.map φ))) {k : Nat → T}
    (hk : ∀ (fc : List (α × Nat)) (ck j : Nat), fc.map (·.1) = dm → (fc.map (·.2)).Nodup → h j = none → j ≠ m → k j ((h.set m (.mapF (fcF φ fc) ck)).set j (.iter m [] ck))) : rangeK m k h := by
  refine ⟨_, hm, fun fs ck hfs hnd j hj => ?_⟩
  obtain ⟨fc, rfl, hfc⟩ := stamped_of φ dm fs hfs
  exact hk fc ck j hfc (by rw [List.map_map] at hnd; exact hnd) hj (fun e => by subst e; rw [hm] at hj; cases hj)
end
end Go.Proofs.YtmjfeabnioclgaaGreatDoorVc
namespace Go.Proofs.YtmjfeabnioclgaaGreatDoorVc
/-- append, and what else stands there. -/
theorem appendTo_keep2 {h0 h : Heap} {l : List Ow} {sz bytes : Nat} {s : Sl} {xs : List Cell} {m : Nat} {new : List Cell} {k : Sl → T} (o : Owns h0 h ((sz, s, xs) :: l)) (hm : (m + 1) * sz = new.length) (hb : (s.len + (m + 1)) * bytes ≤ 140737488355328)
    (hk : ∀ j h', (∀ i x, h i = some x → (∀ cs, x ≠ .cells false cs) → h' i = some x) → Owns h0 h' ((sz, ⟨some (j, 0), s.len + (m + 1)⟩, xs ++ new) :: l) → k ⟨some (j, 0), s.len + (m + 1)⟩ h') : appendTo [] sz bytes s (m + 1) new k h := by
  let B : Heap := fun i => match h i with
    | some (.cells false _) => h0 i
    | o => o
  have hB : ∀ i x, h i = some x → (∀ cs, x ≠ .cells false cs) → B i = some x := fun i x hx hn => by
    show (match h i with | some (.cells false _) => h0 i | o => o) = some x
    rw [hx]
    split
    · rename_i cs e; cases e; exact absurd rfl (hn cs)
    · rfl
  have e0 : Ext B h := fun i x hx => by
    have hx' : (match h i with | some (.cells false _) => h0 i | o => o) = some x := hx
    split at hx'
    · exact o.ext _ _ hx'
    · exact hx'
  have e1 : Ext h0 B := fun i x hx => by
    have := o.ext _ _ hx
    show (match h i with | some (.cells false _) => h0 i | o => o) = some x
    split
    · exact hx
    · rename_i c
      rw [this]
  have oB : Owns B h ((sz, s, xs) :: l) := ⟨e0, fun p hp => by
    obtain ⟨b1, b2 | ⟨i, b2, b3, b4⟩⟩ := o.all p hp
    · exact ⟨b1, .inl b2⟩
    · refine ⟨b1, .inr ⟨i, b2, ?_, b4⟩⟩
      show (match h i with | some (.cells false _) => h0 i | o => o) = none
      rw [b4]; exact b3, o.apart⟩
  refine appendTo_owns oB hm hb (by simp) fun j h' o' => hk j h' (fun i x hx hn => o'.ext _ _ (hB i x hx hn)) ⟨e1.trans o'.ext, fun p hp => ?_, o'.apart⟩
  obtain ⟨b1, b2 | ⟨i, b2, b3, b4⟩⟩ := o'.all p hp
  · exact ⟨b1, .inl b2⟩
  · exact ⟨b1, .inr ⟨i, b2, e1.none b3, b4⟩⟩
end Go.Proofs.YtmjfeabnioclgaaGreatDoorVc
-- AcSpec3
namespace Go.Proofs.YtmjfeabnioclgaaGreatDoorVc
open Go.Proofs.Tryz (prog)
/-- The periods of somebody, each once. -/
def perOf (B : List Did) (s : ByteArray) : List Int := B.foldl (fun l q => if q.1 = s then (if q.2 ∈ l then l else l ++ [q.2]) else l) []
theorem perOf_snoc (B : List Did) (q : Did) (s : ByteArray) : perOf (B ++ [q]) s = if q.1 = s then (if q.2 ∈ perOf B s then perOf B s else perOf B s ++ [q.2]) else perOf B s := by
  unfold perOf; rw [List.foldl_append]; rfl
theorem mem_perOf (B : List Did) (s : ByteArray) (p : Int) : p ∈ perOf B s ↔ (s, p) ∈ B := by
  refine snoc_ind (P := fun B => p ∈ perOf B s ↔ (s, p) ∈ B) (by simp [perOf]) (fun B q ih => ?_) B
  rw [perOf_snoc, List.mem_append, List.mem_singleton]
  by_cases hq : q.1 = s
  · rw [if_pos hq]
    have e : (s, p) = q ↔ p = q.2 := ⟨fun h => by rw [← h], fun h => Prod.ext hq.symm h⟩
    by_cases hm : q.2 ∈ perOf B s
    · rw [if_pos hm, ih, e]
      exact ⟨.inl, fun h => h.elim id fun h => by rw [← ih, h]; exact hm⟩
    · rw [if_neg hm, List.mem_append, List.mem_singleton, ih, e]
  · rw [if_neg hq, ih]
    exact ⟨.inl, fun h => h.resolve_right fun h => hq (by rw [← h])⟩
def perM (l : List Int) : List (V × V) := amap kInt kBoo (l.map fun p => (p, true))
theorem agetI (l : List Int) (p : Int) : aget (l.map fun p => (p, true)) p = if p ∈ l then some true else none := by
  induction l with
  | nil => rfl
  | cons q l ih =>
    simp only [List.map_cons, aget, ih, List.mem_cons]
    by_cases h : p = q
    · rw [if_pos h, if_pos (.inl h)]
    · rw [if_neg h]
      by_cases h2 : p ∈ l
      · rw [if_pos h2, if_pos (.inr h2)]
      · rw [if_neg h2, if_neg (fun c => c.elim h h2)]
theorem asetI (l : List Int) (p : Int) : aset (l.map fun p => (p, true)) p true = (if p ∈ l then l else l ++ [p]).map fun p => (p, true) := by
  induction l with
  | nil => rfl
  | cons q l ih =>
    simp only [List.map_cons, aset, List.mem_cons]
    by_cases h : p = q
    · rw [if_pos h, if_pos (.inl h), h]; rfl
    · rw [if_neg h, ih]
      by_cases h2 : p ∈ l
      · rw [if_pos h2, if_pos (.inr h2)]; rfl
      · rw [if_neg h2, if_neg (fun c => c.elim h h2)]; rfl
theorem perM_get (l : List Int) (p : Int) : mapGet (kInt p) (kBoo false) (perM l) = some (kBoo (decide (p ∈ l)), decide (p ∈ l)) := by
  rw [perM, amap_get keyInt, agetI]
  by_cases h : p ∈ l
  · rw [if_pos h, decide_eq_true h]; rfl
  · rw [if_neg h, decide_eq_false h]; rfl
theorem perM_set (l : List Int) (p : Int) : mapSet (kInt p) (kBoo true) (perM l) = some (perM (if p ∈ l then l else l ++ [p])) := by
  rw [perM, amap_set keyInt, asetI]; rfl
abbrev kMap (b : Nat) : V := .one (.map (some b))
/-- Who did something, and where the periods stand. -/
structure Whos (g : Heap) (i : Nat) (B : List Did) (D : List (ByteArray × Nat)) : Prop where
  nod : (D.map (·.1)).Nodup
  nodB : (D.map (·.2)).Nodup
  keys : ∀ s, s ∈ D.map (·.1) ↔ ∃ p, (s, p) ∈ B
  new : ∀ e ∈ D, g e.2 = none ∧ e.2 ≠ i
  few : D.length ≤ B.length
structure WhosAt (h : Heap) (i : Nat) (B : List Did) (D : List (ByteArray × Nat)) : Prop where
  top : h i = some (.map (amap kStr kMap D))
  per : ∀ e ∈ D, h e.2 = some (.map (perM (perOf B e.1)))
theorem WhosAt.keep {h h' : Heap} {i : Nat} {B : List Did} {D : List (ByteArray × Nat)} (w : WhosAt h i B D) (hk : ∀ j es, h j = some (.map es) → h' j = some (.map es)) : WhosAt h' i B D := ⟨hk _ _ w.top, fun e he => hk _ _ (w.per e he)⟩
def rowN (n : Nat) (R : Nat → Nat) : List Int := (List.range n).map fun c => ((R c : Nat) : Int)
theorem rowN_length (n : Nat) (R : Nat → Nat) : (rowN n R).length = n := by simp [rowN]
theorem rowN_get {n : Nat} {R : Nat → Nat} {c : Nat} (h : c < n) : (rowN n R)[c]? = some ((R c : Nat) : Int) := by
  unfold rowN; rw [List.getElem?_map, List.getElem?_range h]; rfl
theorem rowN_set {n : Nat} {R : Nat → Nat} {c x : Nat} : (rowN n R).set c ((x : Nat) : Int) = rowN n (fun d => if d = c then x else R d) := by
  refine List.ext_getElem? fun j => ?_
  by_cases hj : j < n
  · rw [rowN_get hj]
    by_cases hjc : j = c
    · subst hjc
      rw [List.getElem?_set_self (by rw [rowN_length]; exact hj), if_pos rfl]
    · rw [List.getElem?_set_ne (fun e => hjc e.symm), rowN_get hj, if_neg hjc]
  · rw [List.getElem?_eq_none (by rw [List.length_set, rowN_length]; omega), List.getElem?_eq_none (by rw [rowN_length]; omega)]
theorem rowN_congr {n : Nat} {R R' : Nat → Nat} (h : ∀ c, c < n → R c = R' c) : rowN n R = rowN n R' := by
  unfold rowN
  exact List.map_congr_left fun c hc => by rw [h c (List.mem_range.1 hc)]
def hitS (A : List Did) (i c : Nat) (s : ByteArray) : Bool := decide (minOf A s = some (i : Int)) && decide ((s, (i : Int) + (c : Int)) ∈ A)
/-- A grid of whose rows one is being counted. -/
structure Grid (g h : Heap) (b n k : Nat) (A : List Did) (ps : List (Sl × List Int)) : Prop where
  len : ps.length = n
  own : Owns g h ((1, ⟨some (b, 0), n⟩, slN ps) :: (owN ps ++ []))
  row : ∀ q, q < k → ∃ j, ps[q]? = some (⟨some (j, 0), n⟩, rowN n (cohort A q))

section
variable {I : Calls} {Q : Post} {h : Heap}
/-- One row: the range over those who did something. -/
theorem cohort_row {g : Heap} {i9 i34 n k : Nat} {A : List Did} {D : List (ByteArray × Nat)} (W : Whos g i9 A D) (hA : ∀ q ∈ A, 0 ≤ q.2 ∧ q.2 ≤ 4321439) (hAl : A.length < 1000) (hn : n ≤ 60) (hk : k < n)
    {ps : List (Sl × List Int)} {h : Heap} (w : WhosAt h i9 A D) (G : Grid g h i34 n k A ps) (hg9 : g i9 = none) (hr : ∃ j, ps[k]? = some (⟨some (j, 0), n⟩, rowN n (fun _ => 0))) {K : T}
    (hK : ∀ h' ps', WhosAt h' i9 A D → Grid g h' i34 n (k + 1) A ps' → K h') :
    (rangeK i9 (fun i41 => loopK (A := PUnit) ()
                    (fun x42 => fun x43 => fun h44 => 
                    (nextK i41
                      K
                      (fun x45 => fun x46 => fun h47 => 
                      ∃ s48 : ByteArray, ∃ p49 : Option Nat, (x45 = V.one (Cell.str s48)) ∧
                      (x46 = V.one (Cell.map p49)) ∧
                      (entryK i41 (fun x50 => fun x51 => fun h52 => 
                      ∃ s53 : ByteArray, ∃ p54 : Option Nat, (x50 = V.one (Cell.str s53)) ∧
                      (x51 = V.one (Cell.map p54)) ∧
                      (rangeO p54 (fun i55 => loopK (A := Int) 4321440
                        (fun x56 => fun n57 => fun h58 => 
                        (nextK i55
                          (loopK (A := Int) 0
                            (fun x59 => fun n60 => ifT (decide (n60 < (n : Int)))
                              (joinK (A := Bool)
                                (fun b61 => ifT b61
                                  (fun h62 =>
                                  ((0 ≤ (k : Int)) ∧
                                  (k : Int) < (↑n : Int)) ∧
                                  ∃ l63 : Sl, (h62.read i34 (0 + (k : Int).toNat * 1) 1 = some [Cell.slice 1 l63]) ∧
                                  ((0 ≤ n60) ∧
                                  n60 < (↑l63.len : Int)) ∧
                                  (derefK l63.a (fun i64 => fun i65 => fun h66 =>
                                  ∃ n67 : Int, (h66.read i64 (i65 + n60.toNat * 1) 1 = some [Cell.int IntKind.i64 n67]) ∧
                                  ((0 ≤ n60) ∧
                                  n60 < (↑l63.len : Int)) ∧
                                  (derefK l63.a (fun i68 => fun i69 => fun h70 => 
                                  (storeK [] i68 (i69 + n60.toNat * 1) [Cell.int IntKind.i64 (IntKind.i64.wrap (n67 + 1))] (x59 (IntKind.i64.wrap (n60 + 1)))) h70)) h66)) h62)
                                  (x59 (IntKind.i64.wrap (n60 + 1))))
                                (fun x71 => ifT (decide (n57 = (k : Int)))
                                  (fun h72 =>
                                  ∃ b73 : Bool, ∃ b74 : Bool, (∃ cs75 : List (V × V), (mapOf h72 p54 = some cs75) ∧
                                  mapGet (V.one (Cell.int IntKind.i64 (IntKind.i64.wrap ((k : Int) + n60)))) (V.one (Cell.bool false)) cs75 = some (V.one (Cell.bool b73), b74)) ∧
                                  x71 b73 h72)
                                  (x71 false)))
                              (x42 ())))
                          (fun x76 => fun x77 => fun h78 => 
                          ∃ n79 : Int, ∃ b80 : Bool, (x76 = V.one (Cell.int IntKind.i64 n79)) ∧
                          (x77 = V.one (Cell.bool b80)) ∧
                          (entryK i55 (fun x81 => fun x82 => fun h83 => 
                          ∃ n84 : Int, ∃ b85 : Bool, (x81 = V.one (Cell.int IntKind.i64 n84)) ∧
                          (x82 = V.one (Cell.bool b85)) ∧
                          x56 (min n57 n84) h83)) h78)) h58))) h52)) h47)) h44))) h := by
  refine rangeK_in (φ := fun e : ByteArray × Nat => (kStr e.1, kMap e.2)) (dm := D) w.top fun fc ck j hfc hnd hj hjm => ?_
  have hDl : ∀ e ∈ D, e.2 ≠ i9 ∧ e.2 ≠ j := fun e he => ⟨(W.new e he).2, fun c => by have := w.per e he; rw [c, hj] at this; cases this⟩
  have hgj : g j = none := by
    cases c : g j with
    | none => rfl
    | some x => have := G.own.ext _ _ c; rw [hj] at this; cases this
  -- the heap while the range runs
  let J : Heap → List Nat → (Nat → Nat) → Prop := fun h' seen R => h' i9 = some (.mapF (fcF (fun e : ByteArray × Nat => (kStr e.1, kMap e.2)) fc) ck) ∧ h' j = some (.iter i9 seen ck) ∧ (∀ e ∈ D, h' e.2 = some (.map (perM (perOf A e.1)))) ∧
    ∃ ps', ps'.length = n ∧ Owns g h' ((1, ⟨some (i34, 0), n⟩, slN ps') :: (owN ps' ++ [])) ∧ (∀ q, q < k → ∃ j, ps'[q]? = some (⟨some (j, 0), n⟩, rowN n (cohort A q))) ∧ ∃ j, ps'[k]? = some (⟨some (j, 0), n⟩, rowN n R)
  have J0 : J ((h.set i9 (.mapF (fcF (fun e : ByteArray × Nat => (kStr e.1, kMap e.2)) fc) ck)).set j (.iter i9 [] ck)) [] (fun _ => 0) := by
    refine ⟨by rw [set_ne _ _ (fun e => hjm e.symm), set_eq], set_eq _ _ _, fun e he => ?_, ps, G.len, ?_, G.row, hr⟩
    · rw [set_ne _ _ (hDl e he).2, set_ne _ _ (hDl e he).1]; exact w.per e he
    · refine (G.own.setAny hg9 fun cs c => ?_).setAny hgj fun cs c => ?_
      · rw [w.top] at c; cases c
      · rw [set_ne _ _ hjm, hj] at c; cases c
  refine loopK_intro (fun (_ : PUnit) h' m => ∃ (Dn : List (ByteArray × Nat)) (seen : List Nat), (Dn ++ (leftC fc seen).map (·.1)).Perm D ∧ m = (leftC fc seen).length ∧ J h' seen (fun c => Dn.countP fun e => hitS A k c e.1)) fc.length
    ⟨[], [], by rw [leftC_nil]; simp [hfc], by rw [leftC_nil], J0⟩ ?_
  rintro _ h' m ⟨Dn, seen, hperm, rfl, J1, J2, J3, ps', J4, J5, J6, jr, J7⟩
  refine nextK_in J2 J1 hnd (fun hnil => ?_) fun q hq hst => ?_
  · rw [hnil] at hperm
    simp only [List.map_nil, List.append_nil] at hperm
    rw [hfc]
    refine hK _ ps' ⟨set_eq _ _ _, fun e he => by rw [set_ne _ _ (hDl e he).1]; exact J3 e he⟩ ⟨J4, J5.setAny hg9 fun cs c => (by rw [J1] at c; cases c), fun q hq => ?_⟩
    by_cases e : q = k
    · subst e
      refine ⟨jr, J7.trans ?_⟩
      have : rowN n (fun c => Dn.countP fun e => hitS A q c e.1) = rowN n (cohort A q) := rowN_congr fun c hc => by
        rw [hperm.countP_eq, ← cohort_keys W.nod (fun s => W.keys s) q c, List.countP_map]
        rfl
      rw [this]
    · exact J6 q (by omega)
  obtain ⟨⟨s, b⟩, stq⟩ := q
  have hqD : (s, b) ∈ D := by rw [← hfc]; exact List.mem_map.2 ⟨_, hq, rfl⟩
  have hjb := (hDl _ hqD).2
  have h9b := (hDl _ hqD).1
  simp only at hjb h9b
  refine ⟨s, some b, rfl, rfl, entryK_in (φ := fun e : ByteArray × Nat => (kStr e.1, kMap e.2)) (set_eq _ _ _) (by rw [set_ne _ _ (fun e => hjm e.symm)]; exact J1) hq ⟨s, some b, rfl, rfl, ?_⟩⟩
  have hper := J3 _ hqD
  simp only at hper
  have o1 := J5.setAny (o' := .iter i9 (seen ++ [stq]) ck) hgj fun cs c => by rw [J2] at c; cases c
  obtain ⟨h1, hh1⟩ : ∃ h1, h'.set j (.iter i9 (seen ++ [stq]) ck) = h1 := ⟨_, rfl⟩
  rw [hh1] at o1 ⊢
  have K1 : h1 i9 = some (.mapF (fcF (fun e : ByteArray × Nat => (kStr e.1, kMap e.2)) fc) ck) := by rw [← hh1, set_ne _ _ (fun e => hjm e.symm)]; exact J1
  have K2 : h1 j = some (.iter i9 (seen ++ [stq]) ck) := by rw [← hh1, set_eq]
  have K3 : ∀ e ∈ D, h1 e.2 = some (.map (perM (perOf A e.1))) := fun e he => by rw [← hh1, set_ne _ _ (hDl e he).2]; exact J3 e he
  -- the first period
  refine rangeK_in (φ := fun p : Int × Bool => (kInt p.1, kBoo p.2)) (dm := (perOf A s).map fun p => (p, true)) (K3 _ hqD) fun fc2 ck2 j2 hfc2 hnd2 hj2 hj2b => ?_
  have hgb : g b = none := (W.new _ hqD).1
  have hgj2 : g j2 = none := by
    cases c : g j2 with
    | none => rfl
    | some x => have := o1.ext _ _ c; rw [hj2] at this; cases this
  have hj29 : j2 ≠ i9 := fun e => by subst e; rw [K1] at hj2; cases hj2
  have hj2j : j2 ≠ j := fun e => by subst e; rw [K2] at hj2; cases hj2
  have hj2D : ∀ e ∈ D, e.2 ≠ j2 := fun e he c => by have := K3 e he; rw [c, hj2] at this; cases this
  have hbD : ∀ e ∈ D, e.2 = b → e = (s, b) := fun e he c => by
    obtain ⟨x, hx, ex⟩ := List.mem_iff_getElem.1 he
    obtain ⟨y, hy, ey⟩ := List.mem_iff_getElem.1 hqD
    have : x = y := (List.getElem_inj W.nodB (i := x) (j := y) (h₀ := by simpa using hx) (h₁ := by simpa using hy)).1 (by simp [ex, ey, c])
    subst this; rw [← ex, ← ey]
  refine loopK_intro (fun (mn : Int) h2 m => ∃ (Pn : List Int) (sn : List Nat), (Pn ++ (leftC fc2 sn).map (fun q => q.1.1)).Perm (perOf A s) ∧ m = (leftC fc2 sn).length ∧ (∀ p ∈ Pn, mn ≤ p) ∧ (mn = 4321440 ∨ mn ∈ Pn) ∧
      h2 = (h1.set b (.mapF (fcF (fun p : Int × Bool => (kInt p.1, kBoo p.2)) fc2) ck2)).set j2 (.iter b sn ck2)) fc2.length
    ⟨[], [], by rw [leftC_nil, List.nil_append, show fc2.map (fun q => q.1.1) = (fc2.map (·.1)).map (·.1) by simp, hfc2, List.map_map]; exact List.Perm.of_eq (List.map_id' _), by rw [leftC_nil], by simp, .inl rfl, rfl⟩ ?_
  rintro mn _ m ⟨Pn, sn, hperm2, rfl, hmn, hmo, rfl⟩
  refine nextK_in (set_eq _ _ _) (by rw [set_ne _ _ (fun e => hj2b e.symm), set_eq]) hnd2 (fun hnil2 => ?_) fun q2 hq2 hst2 => ?_
  case refine_2 =>
    obtain ⟨⟨p, bt⟩, st2⟩ := q2
    refine ⟨p, bt, rfl, rfl, entryK_in (φ := fun p : Int × Bool => (kInt p.1, kBoo p.2)) (set_eq _ _ _) (by rw [set_set, set_ne _ _ (fun e => hj2b e.symm), set_eq]) hq2 ⟨p, bt, rfl, rfl, ?_⟩⟩
    have hlen : (leftC fc2 sn).length = (leftC fc2 (sn ++ [st2])).length + 1 := by rw [hst2.length_eq]; rfl
    refine ⟨(leftC fc2 (sn ++ [st2])).length, by omega, Pn ++ [p], sn ++ [st2], ?_, rfl, fun x hx => ?_, ?_, by rw [set_set]⟩
    · refine List.Perm.trans ?_ hperm2
      rw [List.append_assoc]
      exact (List.Perm.append_left Pn (hst2.map (fun q : (Int × Bool) × Nat => q.1.1))).symm
    · rcases List.mem_append.1 hx with hx | hx
      · have := hmn x hx; omega
      · rw [List.mem_singleton.1 hx]; omega
    · rw [List.mem_append, List.mem_singleton]
      by_cases c : p ≤ mn
      · right; right; omega
      · have : min mn p = mn := by omega
        rw [this]
        exact hmo.imp id .inl
  rw [hnil2] at hperm2
  simp only [List.map_nil, List.append_nil] at hperm2
  have hmin : minOf A s = some mn := by
    obtain ⟨p, hp⟩ := (W.keys s).1 (List.mem_map.2 ⟨_, hqD, rfl⟩)
    have hpm := hperm2.mem_iff.2 ((mem_perOf A s p).2 hp)
    have hle := hmn p hpm
    have hin : mn ∈ Pn := hmo.resolve_left fun e => by have := hA _ hp; simp only at this; omega
    exact isMin_unique (minOf_is A s) ⟨(mem_perOf A s mn).1 (hperm2.mem_iff.1 hin), fun p' hp' => hmn p' (hperm2.mem_iff.2 ((mem_perOf A s p').2 hp'))⟩
  -- the heap behind the inner range
  have o2 := (o1.setAny (o' := .mapF (fcF (fun p : Int × Bool => (kInt p.1, kBoo p.2)) fc2) ck2) hgb fun cs c => (by rw [K3 _ hqD] at c; cases c)).setAny (o' := .iter b sn ck2) hgj2 fun cs c => (by rw [set_ne _ _ hj2b, hj2] at c; cases c)
  have o3 := o2.setAny (i := b) (o' := .map ((fc2.map (·.1)).map fun p : Int × Bool => (kInt p.1, kBoo p.2))) hgb fun cs c => (by rw [set_ne _ _ (fun e => hj2b e.symm), set_eq] at c; cases c)
  obtain ⟨h3, hh3⟩ : ∃ h3, (((h1.set b (.mapF (fcF (fun p : Int × Bool => (kInt p.1, kBoo p.2)) fc2) ck2)).set j2 (.iter b sn ck2)).set b (.map ((fc2.map (·.1)).map fun p : Int × Bool => (kInt p.1, kBoo p.2)))) = h3 := ⟨_, rfl⟩
  have M1 : h3 i9 = some (.mapF (fcF (fun e : ByteArray × Nat => (kStr e.1, kMap e.2)) fc) ck) := by rw [← hh3, set_ne _ _ (fun e => h9b e.symm), set_ne _ _ (fun e => hj29 e.symm), set_ne _ _ (fun e => h9b e.symm)]; exact K1
  have M2 : h3 j = some (.iter i9 (seen ++ [stq]) ck) := by rw [← hh3, set_ne _ _ (fun e => hjb e.symm), set_ne _ _ (fun e => hj2j e.symm), set_ne _ _ (fun e => hjb e.symm)]; exact K2
  have M3 : ∀ e ∈ D, h3 e.2 = some (.map (perM (perOf A e.1))) := fun e he => by
    by_cases c : e.2 = b
    · obtain rfl := hbD e he c
      rw [← hh3, set_eq, hfc2]; rfl
    · rw [← hh3, set_ne _ _ c, set_ne _ _ (hj2D e he), set_ne _ _ c]; exact K3 e he
  rw [hh3] at o3 ⊢
  clear o2 o1 hh3 hh1 hper K1 K2 K3 J1 J2 J3 J5 hperm2 hmo hmn hnd2 hfc2 hj2 hnil2
  -- the row
  refine loopK_intro (fun (a : Int) h4 m => ∃ c : Nat, c ≤ n ∧ a = (c : Int) ∧ n - c = m ∧ J h4 (seen ++ [stq]) (fun d => (Dn.countP fun e => hitS A k d e.1) + if d < c ∧ hitS A k d s = true then 1 else 0)) n
    ⟨0, by omega, rfl, rfl, M1, M2, M3, ps', J4, o3, J6, jr, J7.trans (by
      rw [rowN_congr (R' := fun d => (Dn.countP fun e => hitS A k d e.1) + if d < 0 ∧ hitS A k d s = true then 1 else 0) fun d _ => by rw [if_neg (fun c => by omega), Nat.add_zero]])⟩ ?_
  rintro a h4 m ⟨c, hc, rfl, rfl, N1, N2, N3, ps2, N4, N5, N6, jr2, N7⟩
  refine ifT_dec (fun hlt => ?_) fun hge => ?_
  · have hcn : c < n := by omega
    have hw : IntKind.i64.wrap ((k : Int) + (c : Int)) = (k : Int) + (c : Int) := by rw [w64] <;> omega
    have hcount : Dn.countP (fun e => hitS A k c e.1) ≤ 1000000000 := by
      have h1 : Dn.countP (fun e => hitS A k c e.1) ≤ Dn.length := List.countP_le_length
      have h2 := hperm.length_eq
      rw [List.length_append] at h2
      have h3 := W.few
      omega
    refine joinK_intro (fun (b : Bool) g4 => g4 = h4 ∧ b = hitS A k c s) ?_ ?_
    case refine_2 =>
      intro jj hjj
      refine ifT_dec (fun e => ?_) fun e => hjj _ _ ⟨rfl, ?_⟩
      · refine ⟨_, _, ⟨_, mapOf_some (N3 _ hqD), by rw [hw]; exact perM_get _ _⟩, hjj _ _ ⟨rfl, ?_⟩⟩
        unfold hitS
        rw [hmin, e]
        simp only [decide_true, Bool.true_and]
        exact decide_eq_decide.2 (mem_perOf A s _)
      · unfold hitS
        rw [hmin]
        have : ¬ (some mn = some (k : Int)) := fun c => e (Option.some.inj c)
        simp [this]
    rintro bb g4 ⟨rfl, rfl⟩
    have nxt : ∀ d, d < n → ((Dn.countP fun e => hitS A k d e.1) + if d < c + 1 ∧ hitS A k d s = true then 1 else 0) = if d = c then (Dn.countP fun e => hitS A k c e.1) + (if hitS A k c s = true then 1 else 0) else (Dn.countP fun e => hitS A k d e.1) + if d < c ∧ hitS A k d s = true then 1 else 0 := fun d _ => by
      by_cases e : d = c
      · subst e
        rw [if_pos rfl]
        by_cases hh : hitS A k d s = true
        · rw [if_pos ⟨by omega, hh⟩, if_pos hh]
        · rw [if_neg (fun x => hh x.2), if_neg hh]
      · rw [if_neg e]
        by_cases hh : hitS A k d s = true
        · by_cases hd : d < c
          · rw [if_pos ⟨by omega, hh⟩, if_pos ⟨hd, hh⟩]
          · rw [if_neg (fun x => by omega), if_neg (fun x => hd x.1)]
        · rw [if_neg (fun x => hh x.2), if_neg (fun x => hh x.2)]
    refine ifT_intro (fun hb => ?_) fun hb => ?_
    · have hblk := (N5.block List.mem_cons_self).1
      have hR : (Dn.countP fun e => hitS A k c e.1) + (if c < c ∧ hitS A k c s = true then 1 else 0) = Dn.countP fun e => hitS A k c e.1 := by rw [if_neg (fun x => by omega), Nat.add_zero]
      obtain ⟨c1, c2⟩ := gridSet (c := c) (x := (((Dn.countP fun e => hitS A k c e.1) + 1 : Nat) : Int)) N5 N7 (by rw [rowN_length]; exact hcn)
      refine ⟨⟨by omega, by omega⟩, ⟨some (jr2, 0), n⟩, ?_, ⟨by omega, by show (c : Int) < (n : Int); omega⟩, derefK_intro rfl ⟨((Dn.countP (fun e => hitS A k c e.1) : Nat) : Int), ?_, ⟨by omega, by show (c : Int) < (n : Int); omega⟩, derefK_intro rfl ?_⟩⟩
      · rw [Int.toNat_natCast, Nat.mul_one, Nat.zero_add]
        refine read_cell hblk ?_
        rw [List.getElem?_map, N7]; rfl
      · rw [Int.toNat_natCast, Nat.mul_one, Nat.zero_add]
        refine read_cell c1 ?_
        rw [List.getElem?_map, rowN_get hcn, hR]; rfl
      · rw [Int.toNat_natCast, Nat.mul_one, Nat.zero_add]
        rw [w64 (n := ((Dn.countP (fun e => hitS A k c e.1) : Nat) : Int) + 1) (by omega) (by omega)]
        refine storeK_one c1 (by simp [rowN_length]; omega) ?_
        have hne : ∀ i x, g4 i = some x → (∀ cs, x ≠ .cells false cs) → i ≠ jr2 := fun i x hx hnx e => by subst e; rw [c1] at hx; cases hx; exact hnx _ rfl
        refine ⟨n - (c + 1), by omega, c + 1, by omega, by rw [w64] <;> omega, rfl, ?_, ?_, fun e he => ?_, _, by rw [List.length_set, N4], c2, fun q hq => ?_, jr2, ?_⟩
        · rw [set_ne _ _ (hne _ _ N1 (fun cs => by simp))]; exact N1
        · rw [set_ne _ _ (hne _ _ N2 (fun cs => by simp))]; exact N2
        · rw [set_ne _ _ (hne _ _ (N3 e he) (fun cs => by simp))]; exact N3 e he
        · rw [List.getElem?_set_ne (by omega)]; exact N6 q hq
        · rw [List.getElem?_set_self (by omega), rowN_set]
          congr 2
          refine rowN_congr fun d hd => ?_
          rw [nxt d hd]
          by_cases e : d = c
          · rw [if_pos e, if_pos e, if_pos hb]
          · rw [if_neg e, if_neg e]
    · refine ⟨n - (c + 1), by omega, c + 1, by omega, by rw [w64] <;> omega, rfl, N1, N2, N3, ps2, N4, N5, N6, jr2, N7.trans ?_⟩
      congr 2
      refine rowN_congr fun d hd => ?_
      rw [nxt d hd]
      by_cases e : d = c
      · subst e
        rw [if_pos rfl, if_neg (fun x => by omega), if_neg (by rw [hb]; decide)]
      · rw [if_neg e]
  have hcn : c = n := by omega
  subst hcn
  have hlen : (leftC fc seen).length = (leftC fc (seen ++ [stq])).length + 1 := by rw [hst.length_eq]; rfl
  refine ⟨(leftC fc (seen ++ [stq])).length, by omega, Dn ++ [(s, b)], seen ++ [stq], ?_, rfl, N1, N2, N3, ps2, N4, N5, N6, jr2, N7.trans ?_⟩
  · refine List.Perm.trans ?_ hperm
    rw [List.append_assoc]
    exact (List.Perm.append_left Dn (hst.map (·.1))).symm
  · congr 2
    refine rowN_congr fun d hd => ?_
    rw [countP_snoc]
    by_cases hh : hitS A k d s = true
    · rw [if_pos ⟨hd, hh⟩, if_pos hh]
    · rw [if_neg (fun x => hh x.2), if_neg hh]
end
end Go.Proofs.YtmjfeabnioclgaaGreatDoorVc
-- AcSpec4
namespace Go.Proofs.YtmjfeabnioclgaaGreatDoorVc
open Go.Proofs.Tryz (prog)
theorem aset_new {κ α : Type} [DecidableEq κ] {l : List (κ × α)} {k : κ} {x : α} (h : aget l k = none) : aset l k x = l ++ [(k, x)] := by
  induction l with
  | nil => rfl
  | cons q l ih =>
    simp only [aget] at h
    by_cases e : k = q.1
    · rw [if_pos e] at h; cases h
    · rw [if_neg e] at h
      simp only [aset, if_neg e, ih h, List.cons_append]
theorem Whos.fresh {g h : Heap} {i i2 : Nat} {B : List Did} {D : List (ByteArray × Nat)} {s : ByteArray} {p : Int} (W : Whos g i B D) (w : WhosAt h i B D) (hs : aget D s = none) (hx : Ext g h) (hi2 : h i2 = none) : Whos g i (B ++ [(s, p)]) (D ++ [(s, i2)]) where
  nod := by
    rw [List.map_append]
    refine List.nodup_append.2 ⟨W.nod, by simp, fun a ha b hb => ?_⟩
    have hb' : b = s := List.mem_singleton.1 hb
    intro e
    rw [hb'] at e
    rw [e] at ha
    exact aget_none.1 hs ha
  nodB := by
    rw [List.map_append]
    refine List.nodup_append.2 ⟨W.nodB, by simp, fun a ha b hb => ?_⟩
    obtain ⟨e, he, rfl⟩ := List.mem_map.1 ha
    rw [List.mem_singleton.1 hb]
    intro c
    have := w.per e he
    have c' : e.2 = i2 := c
    rw [c', hi2] at this; cases this
  keys s' := by
    rw [List.map_append, List.mem_append, W.keys]
    simp only [List.map_cons, List.map_nil, List.mem_singleton, List.mem_append]
    constructor
    · rintro (⟨p', h⟩ | rfl)
      · exact ⟨p', .inl h⟩
      · exact ⟨p, .inr rfl⟩
    · rintro ⟨p', h | h⟩
      · exact .inl ⟨p', h⟩
      · cases h; exact .inr rfl
  new e he := by
    rcases List.mem_append.1 he with he | he
    · exact W.new e he
    · rw [List.mem_singleton.1 he]
      refine ⟨?_, fun c => ?_⟩
      · cases c : g i2 with
        | none => rfl
        | some x => have := hx _ _ c; rw [hi2] at this; cases this
      · have c' : i2 = i := c
        rw [c', w.top] at hi2; cases hi2
  few := by simp; exact W.few
theorem Whos.old {g : Heap} {i b : Nat} {B : List Did} {D : List (ByteArray × Nat)} {s : ByteArray} {p : Int} (W : Whos g i B D) (hs : (s, b) ∈ D) : Whos g i (B ++ [(s, p)]) D where
  nod := W.nod
  nodB := W.nodB
  keys s' := by
    rw [W.keys]
    constructor
    · rintro ⟨p', h⟩; exact ⟨p', List.mem_append_left _ h⟩
    · rintro ⟨p', h⟩
      rcases List.mem_append.1 h with h | h
      · exact ⟨p', h⟩
      · cases List.mem_singleton.1 h
        exact (W.keys _).1 (List.mem_map.2 ⟨_, hs, rfl⟩)
  new := W.new
  few := by have := W.few; simp; omega
theorem rowN_zero (n : Nat) : rowN n (fun _ => 0) = List.replicate n 0 := by
  unfold rowN
  exact List.ext_getElem (by simp) fun i h1 h2 => by simp

section
variable {I : Calls} {Q : Post} {h : Heap}
theorem spec11 (hI : Closed' prog Pm I) {s : Sl} {xs : List Act} {len many : Int} (ha : At h 3 s (rows actC xs)) (hl : xs.length < 1000)
    (hbad : ∀ h', Ext h h' → errC xs len many ≠ 0 → Q [.one (.slice 1 ⟨none, 0⟩), int (errC xs len many)] h')
    (hQ : errC xs len many = 0 → ∀ s' h', Ext h h' → LieN h' s' (gridOf (dids xs len) many.toNat) → Q [.one (.slice 1 s'), int 0] h') : I 11 [.one (.slice 3 s), int len, int many] Q h := by
  refine hI.go _ _ (den11 I s len many Q) ?_
  refine spec40 hI ha hl fun g e1 => ⟨_, rfl, ifT_intro (fun hb => ?_) fun hb => ?_⟩
  · have e : errC xs len many = actsErr xs := by unfold errC; rw [if_pos (nd hb)]
    have := hbad g e1 (by rw [e]; exact nd hb)
    rw [e] at this; exact this
  have hA : actsErr xs = 0 := Decidable.of_not_not (nd' hb)
  have eC : errC xs len many = if ¬ ((1 ≤ len ∧ len ≤ 4321440) ∧ (1 ≤ many ∧ many ≤ 60)) then 1 else 0 := by unfold errC; rw [if_neg (fun c => c hA)]
  have ha1 := e1.at_ ha
  refine joinK_intro (fun (b : Bool) g' => g' = g ∧ b = !decide ((1 ≤ len ∧ len ≤ 4321440) ∧ (1 ≤ many ∧ many ≤ 60))) ?_ ?_
  case refine_2 =>
    intro j hj
    refine ifT_dec (fun c => hj _ _ ⟨rfl, ?_⟩) fun c => ifT_dec (fun c2 => hj _ _ ⟨rfl, ?_⟩) fun c2 => ifT_dec (fun c3 => hj _ _ ⟨rfl, ?_⟩) fun c3 => hj _ _ ⟨rfl, ?_⟩
    · rw [decide_eq_false (by omega)]; rfl
    · rw [decide_eq_false (by omega)]; rfl
    · rw [decide_eq_false (by omega)]; rfl
    · by_cases c4 : many > 60
      · rw [decide_eq_true c4, decide_eq_false (by omega)]; rfl
      · rw [decide_eq_false c4, decide_eq_true (by omega)]; rfl
  rintro b g' ⟨rfl, rfl⟩
  refine ifT_intro (fun hb => ?_) fun hb => ?_
  · have := hbad g' e1 (by rw [eC, if_pos (nd hb)]; decide)
    rw [eC, if_pos (nd hb)] at this; exact this
  obtain ⟨⟨hl1, hl2⟩, hm1, hm2⟩ := Decidable.of_not_not (nd' hb)
  rw [eC, if_neg (fun c => c ⟨⟨hl1, hl2⟩, hm1, hm2⟩)] at hQ
  have hQ := hQ rfl
  clear hbad eC hb
  have l1 := ha1.rowsLen actC_length (by decide)
  have hok := fun a hm => badAct_ok (actsErr_ok hA a hm)
  obtain ⟨A, hAd⟩ : ∃ A, dids xs len = A := ⟨_, rfl⟩
  have hAl : A.length = xs.length := by rw [← hAd, dids, List.length_map]
  have hAt : ∀ k : Nat, ∀ x : Act, xs[k]? = some x → A.take (k + 1) = A.take k ++ [(x.sent, x.at_.tdiv len)] := fun k x hx => by
    rw [List.take_add_one, ← hAd, dids, List.getElem?_map, hx]; rfl
  have hAr : ∀ q ∈ A, 0 ≤ q.2 ∧ q.2 ≤ 4321439 := fun q hq => by
    rw [← hAd] at hq
    obtain ⟨x, hx, rfl⟩ := List.mem_map.1 hq
    exact ⟨(per_range (hok x hx).2.2 hl1).1, (per_range (hok x hx).2.2 hl1).2.1⟩
  rw [hAd] at hQ
  refine newK_intro fun i9 h2 hn2 he2 => ?_
  refine loopK_intro (fun (a : Int) h' m => ∃ k : Nat, k ≤ xs.length ∧ a = (k : Int) ∧ xs.length - k = m ∧ Ext g' h' ∧ ∃ D, Whos g' i9 (A.take k) D ∧ WhosAt h' i9 (A.take k) D) xs.length
    ⟨0, by omega, rfl, rfl, he2 ▸ Ext.new hn2, [], ⟨by simp, by simp, by simp, by simp, by simp⟩, ⟨by rw [he2, set_eq]; rfl, by simp⟩⟩ ?_
  rintro a h' m ⟨k, hk, rfl, rfl, ex, D, W, w⟩
  refine ifT_dec (fun hlt => ⟨⟨by omega, hlt⟩, ?_⟩) fun hge => ?_
  · have hx := List.getElem?_eq_getElem (show k < xs.length by omega)
    have hxm := List.getElem_mem (show k < xs.length by omega)
    generalize xs[k] = x at hx hxm
    obtain ⟨p1, p2, p3⟩ := per_range (hok x hxm).2.2 hl1
    have htk := hAt k x hx
    have fin : ∀ h'' D', Ext g' h'' → Whos g' i9 (A.take (k + 1)) D' → WhosAt h'' i9 (A.take (k + 1)) D' → ∃ m', m' < xs.length - k ∧ ∃ k2 : Nat, k2 ≤ xs.length ∧ IntKind.i64.wrap ((k : Int) + 1) = (k2 : Int) ∧ xs.length - k2 = m' ∧ Ext g' h'' ∧ ∃ D, Whos g' i9 (A.take k2) D ∧ WhosAt h'' i9 (A.take k2) D :=
      fun h'' D' a1 a2 a3 => ⟨xs.length - (k + 1), by omega, k + 1, by omega, by rw [w64] <;> omega, rfl, a1, D', a2, a3⟩
    rw [htk] at fin
    refine (ex.at_ ha1).row actC_length (by decide) hx fun bb o hr => ⟨x.sent, x.kind, x.at_, hr, ?_⟩
    have hg := amap_get keyStr kMap (.one (.map none)) x.sent D
    rw [p3]
    cases hag : aget D x.sent with
    | none =>
      rw [hag] at hg
      refine ⟨none, false, ⟨_, mapOf_some w.top, hg⟩, ifT_intro (fun _ => ?_) fun h => by cases h⟩
      refine newK_intro fun i23 h4 hn4 he4 => ?_
      have hne : i23 ≠ i9 := fun c => by rw [c, w.top] at hn4; cases hn4
      have t4 : h4 i9 = some (.map (amap kStr kMap D)) := by rw [he4, set_ne _ _ (fun c => hne c.symm)]; exact w.top
      have W2 := W.fresh (p := x.at_.tdiv len) w hag ex hn4
      have hs := amap_set keyStr kMap x.sent i23 D
      refine mapK_in t4 hs ?_
      rw [aset_new hag]
      have hg2 := amap_get keyStr kMap (.one (.map none)) x.sent (D ++ [(x.sent, i23)])
      have hag2 : aget (D ++ [(x.sent, i23)]) x.sent = some i23 := aget_of_mem W2.nod (by simp)
      rw [hag2] at hg2
      refine ⟨some i23, true, ⟨_, mapOf_some (set_eq _ _ _), hg2⟩, by omega, ?_⟩
      have h23 : (h4.set i9 (.map (amap kStr kMap (D ++ [(x.sent, i23)])))) i23 = some (.map (perM [])) := by rw [set_ne _ _ hne, he4, set_eq]; rfl
      refine mapK_in h23 (perM_set [] (x.at_.tdiv len)) (fin _ _ ?_ W2 ⟨?_, fun e he => ?_⟩)
      · have g9 : g' i9 = none := hn2
        have g23 : g' i23 = none := (W2.new (x.sent, i23) (by simp)).1
        exact ((ex.trans (he4 ▸ Ext.new hn4)).set g9).set g23
      · rw [set_ne _ _ (fun c => hne c.symm), set_eq]
      · rw [perOf_snoc]
        rcases List.mem_append.1 he with he | he
        · have hne2 : ¬ x.sent = e.1 := fun c => aget_none.1 hag (c ▸ List.mem_map.2 ⟨e, he, rfl⟩)
          have he23 : e.2 ≠ i23 := fun c => by have := w.per e he; rw [c, hn4] at this; cases this
          rw [if_neg hne2, set_ne _ _ he23, set_ne _ _ (W.new e he).2, he4, set_ne _ _ he23]
          exact w.per e he
        · rw [List.mem_singleton.1 he]
          have hnil : perOf (A.take k) x.sent = [] := by
            refine List.eq_nil_iff_forall_not_mem.2 fun p hp => ?_
            exact aget_none.1 hag ((W.keys _).2 ⟨p, (mem_perOf _ _ _).1 hp⟩)
          rw [if_pos rfl, hnil, set_eq]
    | some b =>
      rw [hag] at hg
      have hsb : (x.sent, b) ∈ D := aget_mem hag
      have hb9 := (W.new _ hsb).2
      refine ⟨some b, true, ⟨_, mapOf_some w.top, hg⟩, ifT_intro (fun h => by cases h) fun _ => ⟨some b, true, ⟨_, mapOf_some w.top, hg⟩, by omega, ?_⟩⟩
      refine mapK_in (w.per _ hsb) (perM_set _ _) (fin _ D (ex.set (W.new _ hsb).1) (W.old hsb) ⟨?_, fun e he => ?_⟩)
      · rw [set_ne _ _ (fun c => hb9 c.symm)]; exact w.top
      · rw [perOf_snoc]
        by_cases c : x.sent = e.1
        · have : e = (x.sent, b) := by
            have h1 := aget_of_mem W.nod (show (e.1, e.2) ∈ D from he)
            rw [← c, hag] at h1
            exact Prod.ext c.symm (Option.some.inj h1).symm
          subst this
          rw [if_pos rfl, set_eq]
        · have hne : e.2 ≠ b := fun c2 => c (by
            obtain ⟨y, hy, ey⟩ := List.mem_iff_getElem.1 he
            obtain ⟨z, hz, ez⟩ := List.mem_iff_getElem.1 hsb
            have : y = z := (List.getElem_inj W.nodB (i := y) (j := z) (h₀ := by simpa using hy) (h₁ := by simpa using hz)).1 (by simp [ey, ez, c2])
            subst this; rw [← ey, ez])
          rw [if_neg c, set_ne _ _ hne]; exact w.per e he
  obtain rfl : k = xs.length := by omega
  have htA : A.take xs.length = A := by rw [← hAl, List.take_length]
  rw [htA] at W w
  -- the rows
  obtain ⟨n, hn⟩ : ∃ n : Nat, many = (n : Int) := ⟨many.toNat, by omega⟩
  subst hn
  rw [Int.toNat_natCast] at hQ ⊢
  refine ⟨rfl, by omega, by omega, by omega, newK_intro fun i34 h3 hn3 he3 => ?_⟩
  have o3 := gridNew (L := []) (⟨ex, (fun p hp => by cases hp), List.Pairwise.nil⟩ : Owns g' h' []) hn3 (n := n)
  rw [← he3] at o3
  have w3 : WhosAt h3 i9 A D := w.keep fun j es hj => by rw [he3, set_ne _ _ (fun c => by rw [c, hn3] at hj; cases hj)]; exact hj
  refine loopK_intro (fun (a : Int) h' m => ∃ k : Nat, k ≤ n ∧ a = (k : Int) ∧ n - k = m ∧ ∃ ps : List (Sl × List Int), WhosAt h' i9 A D ∧ Grid g' h' i34 n k A ps) n
    ⟨0, by omega, rfl, by omega, _, w3, ⟨by simp, o3, fun q hq => by omega⟩⟩ ?_
  rintro a h5 m ⟨k, hk, rfl, rfl, ps, w5, G⟩
  refine ifT_dec (fun hlt => ⟨rfl, by omega, by omega, by omega, newK_intro fun i38 h6 hn6 he6 => ⟨⟨by omega, hlt⟩, ?_⟩⟩) fun hge => ?_
  · have hkn : k < n := by omega
    obtain ⟨p, hp⟩ : ∃ p, ps[k]? = some p := ⟨_, List.getElem?_eq_getElem (by have := G.len; omega)⟩
    have o4 := gridPut (i := i38) (m := n) (g := List.replicate n 0) G.own hp G.len hn6 (by simp)
    have ec : slCells (VK.one (Kd.int .i64)) n = cI (List.replicate n 0) := by rw [slCellsN, cI, List.map_replicate]; rfl
    rw [ec] at he6
    have hb34 : h6 i34 = some (.cells false (slN ps)) := by
      have := (G.own.block List.mem_cons_self).1
      rw [he6, set_ne _ _ (fun e => by subst e; rw [hn6] at this; cases this)]; exact this
    have hlen := G.len
    rw [show (0 : Nat) + (k : Int).toNat * 1 = k by simp]
    refine storeK_one hb34 (by simp; omega) ?_
    rw [← he6] at o4
    have w6 : WhosAt (h6.set i34 (.cells false ((slN ps).set k (.slice 1 ⟨some (i38, 0), n⟩)))) i9 A D := w5.keep fun j es hj => by
      have h1 : j ≠ i38 := fun c => by rw [c, hn6] at hj; cases hj
      have h2 : j ≠ i34 := fun c => by rw [c, (G.own.block List.mem_cons_self).1] at hj; cases hj
      rw [set_ne _ _ h2, he6, set_ne _ _ h1]; exact hj
    have G6 : Grid g' (h6.set i34 (.cells false ((slN ps).set k (.slice 1 ⟨some (i38, 0), n⟩)))) i34 n k A (ps.set k (⟨some (i38, 0), n⟩, List.replicate n 0)) := ⟨by rw [List.length_set, G.len], o4, fun q hq => by
      rw [List.getElem?_set_ne (by omega)]; exact G.row q hq⟩
    have hfit := cohort_row W hAr (by omega) (by omega) hkn w6 G6 hn2 ⟨i38, by rw [List.getElem?_set_self (by omega), rowN_zero]⟩ (K := fun h'' => ∃ m', m' < n - k ∧ ∃ k2 : Nat, k2 ≤ n ∧ IntKind.i64.wrap ((k : Int) + 1) = (k2 : Int) ∧ n - k2 = m' ∧ ∃ ps : List (Sl × List Int), WhosAt h'' i9 A D ∧ Grid g' h'' i34 n k2 A ps)
      fun h'' ps' a1 a2 => ⟨n - (k + 1), by omega, k + 1, by omega, by rw [w64] <;> omega, rfl, ps', a1, a2⟩
    simpa using hfit
  obtain rfl : k = n := by omega
  refine hQ _ _ (e1.trans G.own.ext) (gridLie G.own ?_)
  refine List.ext_getElem? fun q => ?_
  by_cases hq : q < k
  · obtain ⟨j, hj⟩ := G.row q hq
    rw [List.getElem?_map, hj]
    unfold gridOf
    rw [List.getElem?_map, List.getElem?_range hq]
    rfl
  · have := G.len
    rw [List.getElem?_eq_none (by simp; omega), List.getElem?_eq_none (by rw [gridOf_length]; omega)]
end
end Go.Proofs.YtmjfeabnioclgaaGreatDoorVc
-- AcSpec5
namespace Go.Proofs.YtmjfeabnioclgaaGreatDoorVc
open Go.Proofs.Tryz (prog)
/-! ### different ones -/
def dist (l : List ByteArray) : List ByteArray := l.foldl (fun d s => if s ∈ d then d else d ++ [s]) []
theorem dist_snoc (l : List ByteArray) (s : ByteArray) : dist (l ++ [s]) = if s ∈ dist l then dist l else dist l ++ [s] := by unfold dist; rw [List.foldl_append]; rfl
theorem mem_dist (l : List ByteArray) (s : ByteArray) : s ∈ dist l ↔ s ∈ l := by
  refine snoc_ind (P := fun l => s ∈ dist l ↔ s ∈ l) (by simp [dist]) (fun l x ih => ?_) l
  rw [dist_snoc, List.mem_append, List.mem_singleton]
  by_cases h : x ∈ dist l
  · rw [if_pos h, ih]
    refine ⟨.inl, fun c => c.elim id fun c => ?_⟩
    rw [← ih, c]; exact h
  · rw [if_neg h, List.mem_append, List.mem_singleton, ih]
theorem dist_nodup (l : List ByteArray) : (dist l).Nodup := by
  refine snoc_ind (P := fun l => (dist l).Nodup) List.nodup_nil (fun l x ih => ?_) l
  rw [dist_snoc]
  by_cases h : x ∈ dist l
  · rw [if_pos h]; exact ih
  · rw [if_neg h]
    refine List.nodup_append.2 ⟨ih, by simp, fun a ha b hb e => h ?_⟩
    rw [← List.mem_singleton.1 hb, ← e]; exact ha
theorem dist_perm {l l' : List ByteArray} (h : l.Perm l') : (dist l).length = (dist l').length :=
  ((List.perm_ext_iff_of_nodup (dist_nodup l) (dist_nodup l')).2 fun s => by rw [mem_dist, mem_dist, h.mem_iff]).length_eq
theorem dist_len (l : List ByteArray) : (dist l).length ≤ l.length := by
  refine snoc_ind (P := fun l => (dist l).length ≤ l.length) (by simp [dist]) (fun l x ih => ?_) l
  rw [dist_snoc]
  by_cases h : x ∈ dist l
  · rw [if_pos h]; simp; omega
  · rw [if_neg h]; simp; omega
abbrev leB (a b : ByteArray) : Prop := bl a ≤ bl b
/-- In a sorted row: those that differ from the one before. -/
def adj (ys : List ByteArray) : Nat → Nat
  | 0 => 0
  | k + 1 => adj ys k + if k ≠ 0 ∧ ys[k]? = ys[k - 1]? then 0 else 1
theorem adj_dist {ys : List ByteArray} (hs : ys.Pairwise leB) : ∀ k, k ≤ ys.length → adj ys k = (dist (ys.take k)).length
  | 0, _ => rfl
  | k + 1, hk => by
    have hx := List.getElem?_eq_getElem (show k < ys.length by omega)
    have ih := adj_dist hs k (by omega)
    rw [take_mid hx, dist_snoc]
    show adj ys k + _ = _
    rw [ih]
    have key : (k ≠ 0 ∧ ys[k]? = ys[k - 1]?) ↔ ys[k] ∈ dist (ys.take k) := by
      rw [mem_dist]
      constructor
      · rintro ⟨h0, he⟩
        have hy := List.getElem?_eq_getElem (show k - 1 < ys.length by omega)
        rw [hx, hy] at he
        have e := Option.some.inj he
        rw [e, List.mem_take_iff_getElem]
        exact ⟨k - 1, by omega, rfl⟩
      · intro hm
        rw [List.mem_take_iff_getElem] at hm
        obtain ⟨i, hi, e⟩ := hm
        have h0 : k ≠ 0 := by omega
        refine ⟨h0, ?_⟩
        have hy := List.getElem?_eq_getElem (show k - 1 < ys.length by omega)
        rw [hx, hy]
        congr 1
        refine bl_inj (List.le_antisymm ?_ ?_)
        · rw [← e]
          by_cases c : i = k - 1
          · subst c; exact List.le_refl _
          · exact List.pairwise_iff_getElem.1 hs i (k - 1) (by omega) (by omega) (by omega)
        · exact List.pairwise_iff_getElem.1 hs (k - 1) k (by omega) (by omega) (by omega)
    by_cases c : ys[k] ∈ dist (ys.take k)
    · rw [if_pos c, if_pos (key.2 c)]; rfl
    · rw [if_neg c, if_neg (fun x => c (key.1 x))]; simp

/-! ### the sort -/
def strK : VK := .one .str
theorem str_fits (a : ByteArray) : strK.fits (V.one (.str a)) := trivial
theorem rws_str (xs : List ByteArray) : rws (fun s : ByteArray => V.one (.str s)) xs = xs.map Cell.str := by
  unfold rws rows
  induction xs with
  | nil => rfl
  | cons x xs ih => simp only [V.cells, List.flatMap_cons, List.map_cons] at ih ⊢; rw [ih]; rfl
/-- A comparison of another kind. -/
def insO (vk : VK) (C : V → V → (Bool → T) → T) (s : Sl) (n1 n2 : Int) (Q : Post) : T :=
  loopK (A := Int) (IntKind.i64.wrap (n1 + 1))
    (fun x4 => fun n5 => ifT (decide (n5 < n2))
      (loopK (A := Int) n5
        (fun x6 => fun n7 => joinK (A := Bool)
          (fun b8 => ifT b8
            (ldK vk s (IntKind.i64.wrap (n7 - 1)) fun a => ldK vk s n7 fun b => stK vk s n7 a (stK vk s (IntKind.i64.wrap (n7 - 1)) b (x6 (IntKind.i64.wrap (n7 - 1)))))
            (x4 (IntKind.i64.wrap (n5 + 1))))
          (fun x25 => ifT (decide (n7 > n1))
            (ldK vk s n7 fun a => ldK vk s (IntKind.i64.wrap (n7 - 1)) fun b => C a b x25)
            (x25 false))))
      (Q []))
def lessC (I : Calls) (n : FuncId) (a b : V) (x : Bool → T) : T := fun h => I n [a, b] (fun cs h' => ∃ b36 : Bool, (cs = [V.one (Cell.bool b36)]) ∧ x b36 h') h
def lessI (I : Calls) (n : FuncId) : Calls := fun _ args Q h => I n args (fun cs h' => ∃ b : Bool, cs = [V.one (Cell.bool b)] ∧ Q [.one (.int .i64 (if b then -1 else 0))] h') h
theorem less_eq (I : Calls) (n : FuncId) : lessC I n = fun a b x => cmpK (lessI I n) (some (0, [])) a b fun m => x (decide (m < 0)) := by
  funext a b x h
  show I n [a, b] _ h = I n [a, b] _ h
  congr 1
  funext cs h'
  refine propext ⟨fun ⟨c, h1, h2⟩ => ⟨c, h1, _, rfl, ?_⟩, fun ⟨c, h1, m, h2, h3⟩ => ⟨c, h1, ?_⟩⟩
  · cases c <;> simpa using h2
  · cases h2; cases c <;> simpa using h3
section
variable {I : Calls} {Q : Post} {h : Heap}
theorem den79g (I : Calls) (s : Sl) (n1 n2 : Int) (Q : Post) : vc79 I s n1 n2 Q = insO strK (lessC I 85) s n1 n2 Q := by kernel_rfl
theorem ord_eq (I : Calls) (s : Sl) (n1 n2 : Int) (Q : Post) : vc79 I s n1 n2 Q = insF strK (lessI I 85) s n1 n2 (some (0, [])) Q := by
  rw [den79g, less_eq]; rfl
theorem spec98 (hI : Closed' prog Pm I) {s : ByteArray} (hQ : Q [boo false] h) : I 98 [str s] Q h := by
  refine hI.go _ _ (den98 I s Q) ?_
  show Q [boo (!decide (s = s))] h
  rw [decide_eq_true rfl]; exact hQ
theorem spec85 (hI : Closed' prog Pm I) {s t : ByteArray} (hQ : Q [boo (decide (bl s < bl t))] h) : I 85 [str s, str t] Q h := by
  refine hI.go _ _ (den85 I s t Q) ?_
  refine spec98 hI ⟨_, rfl, ifT_intro (fun h => by cases h) fun _ => ?_⟩
  rw [Go.Proofs.bytesLess_eq, ByteArray.toList_eq, ByteArray.toList_eq]
  exact hQ
theorem spec64 (hI : Closed' prog Pm I) {s : Sl} {n : Nat} {n3 : Int} (hn : n ≤ 12) (hQ : vc79 I s 0 n (fun cs h => cs = [] ∧ Q [] h) h) : I 64 [.one (.slice 1 s), int 0, int n, int n3] Q h := by
  refine hI.go _ _ (den64 I s 0 n n3 Q) ?_
  refine loopK_intro (fun (a : Int × Int × Int × Bool × Bool) h' m => h' = h ∧ a = (0, (n : Int), n3, true, true)) 0 ⟨rfl, rfl⟩ ?_
  rintro _ h' m ⟨rfl, rfl⟩
  dsimp only [uncur]
  have e : IntKind.i64.wrap ((n : Int) - 0) = (n : Int) := by rw [w64] <;> omega
  rw [e]
  exact ifT_dec (fun _ => hI.go _ _ (den79 I s 0 n _) hQ) fun h1 => by omega
theorem sortS46 (hI : Closed' prog Pm I) {h0 : Heap} {s : Sl} {xs : List ByteArray} {L : List Ow} (o : Owns h0 h ((1, s, xs.map Cell.str) :: L)) (hl12 : xs.length ≤ 12)
    (hQ : ∀ (ys : List ByteArray) h', ys.Perm xs → ys.Pairwise leB → Owns h0 h' ((1, s, ys.map Cell.str) :: L) → Q [] h') : I 46 [.one (.slice 1 s)] Q h := by
  have hl : s.len = xs.length := by have := o.slen List.mem_cons_self; simpa using this
  refine hI.go _ _ (den46 I s Q) ?_
  unfold vc46
  rw [wN _ (by omega)]
  refine spec53 hI (by omega) fun n => ⟨n, rfl, spec64 hI (by omega) ?_⟩
  rw [ord_eq]
  obtain ⟨ho1, ho2 | ⟨blk, ho2, ho3, ho4⟩⟩ := o.all _ List.mem_cons_self
  · have hx : xs = [] := by
      have := congrArg List.length ho2.2
      simpa using this
    subst hx
    have h0l : s.len = 0 := hl
    rw [h0l]
    exact insF_none (by decide) (by decide) (by decide) ⟨rfl, rfl, hQ [] h (List.Perm.refl _) List.Pairwise.nil o⟩
  · have e2 : s = ⟨some (blk, 0), s.len⟩ := by cases s; simp only at ho2; rw [ho2]
    refine ins_spec str_fits (v := fun x => V.one (.str x)) (P := []) (S := []) (xs := xs) (blk := blk) (mem := fun _ => True) (lt := fun a b => decide (bl a < bl b)) leB ho2 (by rw [hl]; simp) (by rw [List.append_nil, List.nil_append, rws_str]; exact ho4) rfl (by rw [hl]; simp) (by omega) (fun _ _ => trivial) ?_ ?_ (fun a b c _ _ _ => List.le_trans) fun ys h' hp hpw hps => ⟨rfl, rfl, hQ ys h' hp hpw ?_⟩
    · intro a b _ _ h' Q' _ hq
      show I 85 [str a, str b] _ h'
      refine spec85 hI ⟨_, rfl, ?_⟩
      by_cases c : bl a < bl b
      · rw [decide_eq_true c]; exact hq (-1) h' (Ext.refl _) ⟨fun _ => decide_eq_true c, fun _ => by decide⟩
      · rw [decide_eq_false c]; exact hq 0 h' (Ext.refl _) ⟨fun h => absurd h (by decide), fun h => absurd (of_decide_eq_true h) c⟩
    · exact List.pairwise_of_forall fun a b => ⟨fun h1 => List.le_of_lt (of_decide_eq_true h1), fun h1 => List.not_lt.1 (of_decide_eq_false h1)⟩
    · rw [List.append_nil, List.nil_append] at hps
      have o3 : Owns h0 h ((strK.kds.length, ⟨some (blk, 0), s.len⟩, rws (fun x : ByteArray => V.one (.str x)) xs) :: L) := by
        have : Owns h0 h ((1, ⟨some (blk, 0), s.len⟩, xs.map Cell.str) :: L) := by rw [← e2]; exact o
        rw [rws_str]; exact this
      have := o3.psg str_fits hps hp.length_eq
      rw [rws_str] at this
      rw [e2]; exact this
/-- Those that differ from the one before are left. -/
theorem spec56 (hI : Closed' prog Pm I) {h0 : Heap} {s : Sl} {ys : List ByteArray} {L : List Ow} (o : Owns h0 h ((1, s, ys.map Cell.str) :: L)) (hl : ys.length < 1000)
    (hQ : ∀ r h', Ext h0 h' → r.len = adj ys ys.length → Q [.one (.slice 1 r)] h') : I 56 [.one (.slice 1 s)] Q h := by
  have hsl : s.len = ys.length := by have := o.slen List.mem_cons_self; simpa using this
  refine hI.go _ _ (den56 I s Q) ?_
  have adjk : ∀ k, k < ys.length → adj ys (k + 1) = adj ys k + if k ≠ 0 ∧ ys[k]? = ys[k - 1]? then 0 else 1 := fun k _ => rfl
  refine ifT_dec (fun h1 => hQ s h o.ext ?_) fun h1 => ?_
  · rw [hsl]
    have : ys.length = 0 ∨ ys.length = 1 := by omega
    rcases this with e | e <;> rw [e]
    · rfl
    · rfl
  obtain ⟨blk, hsa, hb0, hblk⟩ : ∃ blk, s.a = some (blk, 0) ∧ h0 blk = none ∧ h blk = some (.cells false (ys.map Cell.str)) := by
    obtain ⟨ho1, ho2 | ⟨blk, ho2, ho3, ho4⟩⟩ := o.all _ List.mem_cons_self
    · have := congrArg List.length ho2.2
      simp only [List.length_map, List.length_nil] at this; omega
    · exact ⟨blk, ho2, ho3, ho4⟩
  have rd : ∀ {h' : Heap} {zs : List ByteArray} {i : Nat} {y : ByteArray}, h' blk = some (.cells false (zs.map Cell.str)) → zs[i]? = some y → h'.read blk i 1 = some [.str y] := fun hh hy => read_cell hh (by rw [List.getElem?_map, hy]; rfl)
  refine loopK_intro (fun (n : Int) h' m => h' = h ∧ ∃ k : Nat, 1 ≤ k ∧ k ≤ ys.length ∧ n = (k : Int) ∧ ys.length - k = m ∧ adj ys k = k) (ys.length - 1) ⟨rfl, 1, by omega, by omega, rfl, rfl, by simp [adj]⟩ ?_
  rintro n h' m ⟨rfl, k, hk1, hk2, rfl, rfl, hadj⟩
  refine ifT_dec (fun hlt => ?_) fun hge => ?_
  · have hkl : k < ys.length := by omega
    obtain ⟨y, hy⟩ : ∃ y, ys[k]? = some y := ⟨_, List.getElem?_eq_getElem hkl⟩
    obtain ⟨z, hz⟩ : ∃ z, ys[k - 1]? = some z := ⟨_, List.getElem?_eq_getElem (by omega)⟩
    have ew : IntKind.i64.wrap ((k : Int) - 1) = ((k - 1 : Nat) : Int) := by rw [w64] <;> omega
    rw [ew]
    refine ⟨⟨by omega, hlt⟩, derefK_intro hsa ⟨y, by rw [show (0 : Nat) + (k : Int).toNat * 1 = k by simp]; exact rd hblk hy, ⟨by omega, by omega⟩, derefK_intro hsa ⟨z, by rw [show (0 : Nat) + ((k - 1 : Nat) : Int).toNat * 1 = k - 1 by simp]; exact rd hblk hz, ?_⟩⟩⟩
    have hak := adjk k hkl
    rw [hy, hz] at hak
    refine ifT_dec (fun e => ?_) fun e => ?_
    · -- the second loop
      subst e
      rw [if_pos ⟨by omega, rfl⟩, Nat.add_zero] at hak
      have e1 : ((s.len : Nat) : Int).toNat = s.len := Int.toNat_natCast _
      have e2 : (k : Int).toNat = k := Int.toNat_natCast _
      rw [e1, e2]
      have esub : (s.sub 1 k s.len) = ⟨some (blk, k), s.len - k⟩ := by unfold Sl.sub; rw [hsa]; simp
      rw [esub]
      refine ⟨⟨by omega, by omega, by omega⟩, ?_⟩
      refine loopK_intro (fun (a : Int × Int) g m => ∃ (q w : Nat) (zs : List ByteArray), a = ((w : Int), (q : Int)) ∧ 1 ≤ q ∧ k + q ≤ ys.length ∧ ys.length - (k + q) = m ∧ w = adj ys (k + q) ∧ w < k + q ∧ k ≤ w ∧ zs.length = ys.length ∧ (∀ i, k + q - 1 ≤ i → zs[i]? = ys[i]?) ∧ Owns h0 g ((1, s, zs.map Cell.str) :: L)) (ys.length - (k + 1))
        ⟨1, k, ys, rfl, by omega, by omega, rfl, by omega, by omega, by omega, rfl, fun _ _ => rfl, o⟩ ?_
      rintro _ g m ⟨q, w, zs, rfl, hq1, hq2, rfl, hw, hwl, hkw, hzl, hzs, og⟩
      dsimp only [uncur]
      have hgb : g blk = some (.cells false (zs.map Cell.str)) := by
        obtain ⟨_, ho2 | ⟨b2, ho2, _, ho4⟩⟩ := og.all _ List.mem_cons_self
        · simp only at ho2; rw [hsa] at ho2; cases ho2.1
        · simp only at ho2; rw [hsa] at ho2; cases ho2; exact ho4
      refine ifT_dec (fun hlt2 => ?_) fun hge2 => ?_
      · have hql : k + q < ys.length := by omega
        obtain ⟨y2, hy2⟩ : ∃ y, ys[k + q]? = some y := ⟨_, List.getElem?_eq_getElem hql⟩
        obtain ⟨z2, hz2⟩ : ∃ z, ys[k + q - 1]? = some z := ⟨_, List.getElem?_eq_getElem (by omega)⟩
        have ew2 : IntKind.i64.wrap ((q : Int) - 1) = ((q - 1 : Nat) : Int) := by rw [w64] <;> omega
        have hak2 := adjk (k + q) hql
        rw [hy2, hz2] at hak2
        rw [ew2]
        refine ⟨⟨by omega, hlt2⟩, derefK_intro rfl ⟨y2, by rw [show k + (q : Int).toNat * 1 = k + q by simp]; exact rd hgb (by rw [hzs _ (by omega)]; exact hy2), ⟨by omega, by show ((q - 1 : Nat) : Int) < ((s.len - k : Nat) : Int); omega⟩, derefK_intro rfl ⟨z2, by rw [show k + ((q - 1 : Nat) : Int).toNat * 1 = k + q - 1 by rw [Int.toNat_natCast]; omega]; exact rd hgb (by rw [hzs _ (by omega)]; exact hz2), ?_⟩⟩⟩
        have wq : IntKind.i64.wrap ((q : Int) + 1) = ((q + 1 : Nat) : Int) := by rw [w64] <;> omega
        refine ifT_intro (fun hne => ?_) fun heq => ?_
        · have hne' : ¬ y2 = z2 := nd hne
          rw [if_neg (fun x => hne' (Option.some.inj x.2))] at hak2
          refine ⟨⟨by omega, hlt2⟩, derefK_intro rfl ⟨y2, by rw [show k + (q : Int).toNat * 1 = k + q by simp]; exact rd hgb (by rw [hzs _ (by omega)]; exact hy2), ⟨by omega, by omega⟩, derefK_intro hsa ?_⟩⟩
          rw [show (0 : Nat) + (w : Int).toNat * 1 = w by simp]
          refine storeK_one hgb (by simp; omega) ?_
          have es : s = ⟨some (blk, 0), s.len⟩ := by cases s; simp only at hsa; rw [hsa]
          have og' : Owns h0 g ((1, ⟨some (blk, 0), s.len⟩, zs.map Cell.str) :: L) := by rw [← es]; exact og
          have oc := og'.change (n' := s.len) (sz' := 1) (cs' := (zs.map Cell.str).set w (.str y2)) (by simp; omega)
          rw [← es] at oc
          rw [wq]
          have ww : IntKind.i64.wrap ((w : Int) + 1) = ((w + 1 : Nat) : Int) := by rw [w64] <;> omega
          rw [ww]
          refine ⟨ys.length - (k + (q + 1)), by omega, q + 1, w + 1, zs.set w y2, rfl, by omega, by omega, rfl, by rw [hw]; exact hak2.symm, by omega, by omega, by rw [List.length_set, hzl], fun i hi => ?_, ?_⟩
          · rw [List.getElem?_set_ne (by omega)]; exact hzs i (by omega)
          · have : (zs.set w y2).map Cell.str = (zs.map Cell.str).set w (.str y2) := by rw [List.map_set]
            rw [this]; exact oc
        · have he : y2 = z2 := Decidable.of_not_not (nd' heq)
          rw [he, if_pos ⟨by omega, rfl⟩, Nat.add_zero] at hak2
          rw [wq]
          exact ⟨ys.length - (k + (q + 1)), by omega, q + 1, w, zs, rfl, by omega, by omega, rfl, by rw [hw]; exact hak2.symm, by omega, by omega, hzl, fun i hi => hzs i (by omega), og⟩
      · have hqe : k + q = ys.length := by
          have : ((q : Nat) : Int) ≥ ((s.len - k : Nat) : Int) := by
            have := hge2; omega
          omega
        have e4 : (w : Int).toNat = w := Int.toNat_natCast _
        rw [e4]
        have esub2 : (s.sub 1 w s.len) = ⟨some (blk, w), s.len - w⟩ := by unfold Sl.sub; rw [hsa]; simp
        rw [esub2]
        refine ⟨⟨by omega, by omega, by omega⟩, ⟨_, hgb, ?_, ?_⟩⟩
        · rw [slCellsN]; simp; omega
        · have es : s = ⟨some (blk, 0), s.len⟩ := by cases s; simp only at hsa; rw [hsa]
          refine ⟨⟨by omega, by omega, by omega⟩, hQ _ _ ?_ ?_⟩
          · refine og.ext.set ?_
            exact hb0
          · show (s.sub 1 0 w).len = _
            unfold Sl.sub
            rw [← hqe, ← hw]; simp
    · rw [if_neg (fun x => e (Option.some.inj x.2)), hadj] at hak
      exact ⟨ys.length - (k + 1), by omega, rfl, k + 1, by omega, by omega, by rw [w64] <;> omega, rfl, hak⟩
  · obtain rfl : k = ys.length := by omega
    exact hQ s _ o.ext (by rw [hsl, hadj])
end
end Go.Proofs.YtmjfeabnioclgaaGreatDoorVc
-- AcSpec6
namespace Go.Proofs.YtmjfeabnioclgaaGreatDoorVc
open Go.Proofs.Tryz (prog)
def inU (kind f t : Int) (a : Act) : Bool := decide (a.kind = kind) && (decide (f ≤ a.at_) && decide (a.at_ < t))
def uniqL (xs : List Act) (kind f t : Int) : List ByteArray := (xs.filter (inU kind f t)).map (·.sent)
theorem uniqL_step {xs : List Act} {k : Nat} {x : Act} {kind f t : Int} (hx : xs[k]? = some x) : uniqL (xs.take (k + 1)) kind f t = if inU kind f t x = true then uniqL (xs.take k) kind f t ++ [x.sent] else uniqL (xs.take k) kind f t := by
  unfold uniqL
  rw [take_mid hx, List.filter_append, List.map_append]
  by_cases h : inU kind f t x = true
  · rw [if_pos h]; simp [h]
  · rw [if_neg h]; simp [h]
theorem uniqL_len (xs : List Act) (kind f t : Int) : (uniqL xs kind f t).length ≤ xs.length := by
  unfold uniqL; rw [List.length_map]; exact List.length_filter_le _ _
def errU (xs : List Act) (kind f t : Int) : Int := if actsErr xs ≠ 0 then actsErr xs else if ¬ (1 ≤ kind ∧ kind ≤ 4) then 4 else if ¬ (0 ≤ f ∧ f ≤ t ∧ t ≤ 4321440) then 1 else 0
def setS (l : List ByteArray) : List (V × V) := amap kStr kBoo (l.map fun p => (p, true))
theorem asetS (l : List ByteArray) (p : ByteArray) : aset (l.map fun p => (p, true)) p true = (if p ∈ l then l else l ++ [p]).map fun p => (p, true) := by
  induction l with
  | nil => rfl
  | cons q l ih =>
    simp only [List.map_cons, aset, List.mem_cons]
    by_cases h : p = q
    · rw [if_pos h, if_pos (.inl h), h]; rfl
    · rw [if_neg h, ih]
      by_cases h2 : p ∈ l
      · rw [if_pos h2, if_pos (.inr h2)]; rfl
      · rw [if_neg h2, if_neg (fun c => c.elim h h2)]; rfl
theorem setS_dist (l : List ByteArray) (s : ByteArray) : mapSet (kStr s) (kBoo true) (setS (dist l)) = some (setS (dist (l ++ [s]))) := by
  rw [setS, amap_set keyStr, asetS, dist_snoc]; rfl
theorem setS_length (l : List ByteArray) : (setS l).length = l.length := by simp [setS, amap]

section
variable {I : Calls} {Q : Post} {h : Heap}
theorem spec15 (hI : Closed' prog Pm I) {s : Sl} {xs : List Act} {kind f t : Int} (ha : At h 3 s (rows actC xs)) (hl : xs.length < 1000)
    (hbad : errU xs kind f t ≠ 0 → Q [int 0, int (errU xs kind f t)] h)
    (hQ : errU xs kind f t = 0 → ∀ h', Ext h h' → Q [int (dist (uniqL xs kind f t)).length, int 0] h') : I 15 [.one (.slice 3 s), int kind, .agg [.int .i64 f, .int .i64 t]] Q h := by
  have l1 := ha.rowsLen actC_length (by decide)
  refine hI.go _ _ (den15 I s kind f t Q) ?_
  refine spec39 hI ha hl ⟨_, rfl, ifT_intro (fun hb => ?_) fun hb => spec23 hI ⟨_, rfl, ifT_intro (fun hb2 => ?_) fun hb2 => ?_⟩⟩
  · have e : errU xs kind f t = actsErr xs := by unfold errU; rw [if_pos (nd hb)]
    rw [e] at hbad; exact hbad (nd hb)
  · have e : errU xs kind f t = 4 := by unfold errU; rw [if_neg (nd' hb), if_pos (nd hb2)]
    rw [e] at hbad; exact hbad (by decide)
  have eU : errU xs kind f t = if ¬ (0 ≤ f ∧ f ≤ t ∧ t ≤ 4321440) then 1 else 0 := by unfold errU; rw [if_neg (nd' hb), if_neg (nd' hb2)]
  refine joinK_intro (fun (b : Bool) g => g = h ∧ b = !decide (0 ≤ f ∧ f ≤ t ∧ t ≤ 4321440)) ?_ ?_
  case refine_2 =>
    intro j hj
    refine ifT_dec (fun c => hj _ _ ⟨rfl, ?_⟩) fun c => ifT_dec (fun c2 => hj _ _ ⟨rfl, ?_⟩) fun c2 => hj _ _ ⟨rfl, ?_⟩
    · rw [decide_eq_false (by omega)]; rfl
    · rw [decide_eq_false (by omega)]; rfl
    · by_cases c4 : t > 4321440
      · rw [decide_eq_true c4, decide_eq_false (by omega)]; rfl
      · rw [decide_eq_false c4, decide_eq_true (by omega)]; rfl
  rintro b g ⟨rfl, rfl⟩
  refine ifT_intro (fun hb => ?_) fun hb => ?_
  · rw [eU, if_pos (nd hb)] at hbad; exact hbad (by decide)
  rw [eU, if_neg (nd' hb)] at hQ
  have hQ := hQ rfl
  refine newK_intro fun i14 h1 hn1 he1 => ?_
  refine loopK_intro (fun (a : Int) h' m => ∃ k : Nat, k ≤ xs.length ∧ a = (k : Int) ∧ xs.length - k = m ∧ h' = g.set i14 (.map (setS (dist (uniqL (xs.take k) kind f t))))) xs.length ⟨0, by omega, rfl, rfl, he1⟩ ?_
  rintro a h' m ⟨k, hk, rfl, rfl, rfl⟩
  have ek : Ext g (g.set i14 (.map (setS (dist (uniqL (xs.take k) kind f t))))) := Ext.new hn1
  refine ifT_dec (fun hlt => ⟨⟨by omega, hlt⟩, ?_⟩) fun hge => ?_
  · have hx := List.getElem?_eq_getElem (show k < xs.length by omega)
    generalize xs[k] = x at hx
    have hu := uniqL_step (kind := kind) (f := f) (t := t) hx
    have fin : ∀ h'', h'' = g.set i14 (.map (setS (dist (uniqL (xs.take (k + 1)) kind f t)))) → ∃ m', m' < xs.length - k ∧ ∃ k' : Nat, k' ≤ xs.length ∧ IntKind.i64.wrap ((k : Int) + 1) = (k' : Int) ∧ xs.length - k' = m' ∧ h'' = g.set i14 (.map (setS (dist (uniqL (xs.take k') kind f t)))) := fun h'' e =>
      ⟨xs.length - (k + 1), by omega, k + 1, by omega, by rw [w64] <;> omega, rfl, e⟩
    rw [hu] at fin
    refine (ek.at_ ha).row actC_length (by decide) hx fun bb o hr => ⟨x.sent, x.kind, x.at_, hr, ?_⟩
    refine ifT_dec (fun c1 => ifT_dec (fun c2 => ifT_dec (fun c3 => ?_) fun c3 => ?_) fun c2 => ?_) fun c1 => ?_
    · rw [if_pos (by unfold inU; simp [c1, c2, c3])] at fin
      exact mapK_in (set_eq _ _ _) (setS_dist _ _) (fin _ (by rw [set_set]))
    · rw [if_neg (by unfold inU; simp [c1, c2, c3])] at fin
      exact fin _ rfl
    · rw [if_neg (by unfold inU; simp [c1, c2])] at fin
      exact fin _ rfl
    · rw [if_neg (by unfold inU; simp [c1])] at fin
      exact fin _ rfl
  obtain rfl : k = xs.length := by omega
  rw [List.take_length]
  rw [List.take_length] at ek
  refine ⟨((dist (uniqL xs kind f t)).length : Nat), true, ⟨_, mapOf_some (set_eq _ _ _), by rw [setS_length]⟩, hQ _ ek⟩
theorem spec55 (hI : Closed' prog Pm I) {h0 : Heap} {s : Sl} {cs : List Cell} {L : List Ow} (o : Owns h0 h ((1, s, cs) :: L)) (hl : cs.length < 1000)
    (hQ : ∀ r h', Owns h0 h' ((1, r, cs) :: (1, s, cs) :: L) → Q [.one (.slice 1 r)] h') : I 55 [.one (.slice 1 s)] Q h := by
  have hsl : s.len = cs.length := by have := o.slen List.mem_cons_self; omega
  refine hI.go _ _ (den55 I s Q) ?_
  refine ifT_intro (fun h1 => ?_) fun h1 => ?_
  · have hcs : cs = [] := by
      obtain ⟨_, ho2 | ⟨b2, ho2, _⟩⟩ := o.all _ List.mem_cons_self
      · exact ho2.2
      · simp only at ho2; rw [ho2] at h1; cases h1
    have := o.none_ 1
    rw [hcs] at hQ this
    exact hQ _ h this
  · have hat := o.at_ List.mem_cons_self
    have hsl2 : h.sl 1 s = some cs := by
      rcases hat.2 with e | e
      · obtain ⟨_, ho2 | ⟨b2, ho2, _, ho4⟩⟩ := o.all _ List.mem_cons_self
        · simp only at ho2; rw [ho2.1] at h1; cases h1
        · simp only at ho2 ho4
          unfold Heap.sl
          rw [ho2]
          show h.read b2 0 _ = _
          rw [read_block ho4 (by omega), List.drop_zero, List.take_of_length_le (by omega)]
      · exact e
    refine ⟨cs, hsl2, by omega, newK_intro fun i3 h3 hn3 he3 => ?_⟩
    have o2 := o.new (i := i3) (sz := 1) (n := s.len) (cs := cs) hn3 (by omega)
    rw [← he3] at o2
    exact hQ _ _ o2
theorem spec41 (hI : Closed' prog Pm I) {h0 : Heap} {s : Sl} {xs : List ByteArray} {L : List Ow} (o : Owns h0 h ((1, s, xs.map Cell.str) :: L)) (hl12 : xs.length ≤ 12)
    (hQ : ∀ r h', Ext h0 h' → r.len = (dist xs).length → Q [.one (.slice 1 r)] h') : I 41 [.one (.slice 1 s)] Q h := by
  refine hI.go _ _ (den41 I s Q) ?_
  refine spec55 hI o (by simp; omega) fun r h1 o1 => ⟨r, rfl, sortS46 hI o1 hl12 fun ys h2 hp hs o2 => ⟨rfl, spec56 hI o2 (by rw [hp.length_eq]; omega) fun r2 h3 e3 hr2 => ⟨r2, rfl, hQ r2 h3 e3 ?_⟩⟩⟩
  rw [hr2, adj_dist hs _ (Nat.le_refl _), List.take_length, dist_perm hp]
theorem spec16 (hI : Closed' prog Pm I) {s : Sl} {xs : List Act} {kind f t : Int} (ha : At h 3 s (rows actC xs)) (hl : xs.length ≤ 12)
    (hbad : ∀ h', Ext h h' → errU xs kind f t ≠ 0 → Q [int 0, int (errU xs kind f t)] h')
    (hQ : errU xs kind f t = 0 → ∀ h', Ext h h' → Q [int (dist (uniqL xs kind f t)).length, int 0] h') : I 16 [.one (.slice 3 s), int kind, .agg [.int .i64 f, .int .i64 t]] Q h := by
  refine hI.go _ _ (den16 I s kind f t Q) ?_
  refine spec40 hI ha (by omega) fun g e1 => ⟨_, rfl, ifT_intro (fun hb => ?_) fun hb => ?_⟩
  · have e : errU xs kind f t = actsErr xs := by unfold errU; rw [if_pos (nd hb)]
    have := hbad g e1 (by rw [e]; exact nd hb)
    rw [e] at this; exact this
  have ha1 := e1.at_ ha
  have l1 := ha1.rowsLen actC_length (by decide)
  refine joinK_intro (fun (b : Bool) g' => g' = g ∧ b = !decide (1 ≤ kind ∧ kind ≤ 4)) ?_ ?_
  case refine_2 =>
    intro j hj
    refine ifT_dec (fun c => hj _ _ ⟨rfl, ?_⟩) fun c => hj _ _ ⟨rfl, ?_⟩
    · rw [decide_eq_false (by omega)]; rfl
    · by_cases c4 : kind > 4
      · rw [decide_eq_true c4, decide_eq_false (by omega)]; rfl
      · rw [decide_eq_false c4, decide_eq_true (by omega)]; rfl
  rintro b g' ⟨rfl, rfl⟩
  refine ifT_intro (fun hb2 => ?_) fun hb2 => ?_
  · have e : errU xs kind f t = 4 := by unfold errU; rw [if_neg (nd' hb), if_pos (nd hb2)]
    have := hbad g' e1 (by rw [e]; decide)
    rw [e] at this; exact this
  have eU : errU xs kind f t = if ¬ (0 ≤ f ∧ f ≤ t ∧ t ≤ 4321440) then 1 else 0 := by unfold errU; rw [if_neg (nd' hb), if_neg (nd' hb2)]
  refine joinK_intro (fun (b : Bool) g => g = g' ∧ b = !decide (0 ≤ f ∧ f ≤ t ∧ t ≤ 4321440)) ?_ ?_
  case refine_2 =>
    intro j hj
    refine ifT_dec (fun c => hj _ _ ⟨rfl, ?_⟩) fun c => ifT_dec (fun c2 => hj _ _ ⟨rfl, ?_⟩) fun c2 => hj _ _ ⟨rfl, ?_⟩
    · rw [decide_eq_false (by omega)]; rfl
    · rw [decide_eq_false (by omega)]; rfl
    · by_cases c4 : t > 4321440
      · rw [decide_eq_true c4, decide_eq_false (by omega)]; rfl
      · rw [decide_eq_false c4, decide_eq_true (by omega)]; rfl
  rintro b g ⟨rfl, rfl⟩
  refine ifT_intro (fun hb3 => ?_) fun hb3 => ?_
  · have := hbad g e1 (by rw [eU, if_pos (nd hb3)]; decide)
    rw [eU, if_pos (nd hb3)] at this; exact this
  rw [eU, if_neg (nd' hb3)] at hQ
  have hQ := hQ rfl
  refine loopK_intro (fun (a : Sl × Int) h' m => ∃ k : Nat, k ≤ xs.length ∧ a.2 = (k : Int) ∧ xs.length - k = m ∧ Owns g h' [(1, a.1, (uniqL (xs.take k) kind f t).map Cell.str)]) xs.length ⟨0, by omega, rfl, rfl, (Owns.nil g).none_ 1⟩ ?_
  rintro ⟨l, a⟩ h' m ⟨k, hk, ra, rfl, o⟩
  dsimp only [uncur] at ra o ⊢
  subst ra
  refine ifT_dec (fun hlt => ⟨⟨by omega, hlt⟩, ?_⟩) fun hge => ?_
  · have hx := List.getElem?_eq_getElem (show k < xs.length by omega)
    generalize xs[k] = x at hx
    have hu := uniqL_step (kind := kind) (f := f) (t := t) hx
    have hll : l.len = (uniqL (xs.take k) kind f t).length := by have := o.slen List.mem_cons_self; simpa using this
    have hul := uniqL_len (xs.take k) kind f t
    rw [List.length_take] at hul
    have fin : ∀ l' h'', Owns g h'' [(1, l', (uniqL (xs.take (k + 1)) kind f t).map Cell.str)] → ∃ m', m' < xs.length - k ∧ ∃ k' : Nat, k' ≤ xs.length ∧ (l', IntKind.i64.wrap ((k : Int) + 1)).2 = (k' : Int) ∧ xs.length - k' = m' ∧ Owns g h'' [(1, (l', IntKind.i64.wrap ((k : Int) + 1)).1, (uniqL (xs.take k') kind f t).map Cell.str)] := fun l' h'' e =>
      ⟨xs.length - (k + 1), by omega, k + 1, by omega, by show IntKind.i64.wrap ((k : Int) + 1) = _; rw [w64] <;> omega, rfl, e⟩
    rw [hu] at fin
    refine (o.ext.at_ ha1).row actC_length (by decide) hx fun bb oo hr => ⟨x.sent, x.kind, x.at_, hr, ?_⟩
    refine ifT_dec (fun c1 => ifT_dec (fun c2 => ifT_dec (fun c3 => ?_) fun c3 => ?_) fun c2 => ?_) fun c1 => ?_
    · rw [if_pos (by unfold inU; simp only [c1, decide_true, Bool.true_and, Bool.and_eq_true, decide_eq_true_eq]; omega)] at fin
      refine appendTo_owns (m := 0) o rfl (by omega) (by simp) fun j h2 o2 => fin _ _ ?_
      rw [List.map_append]; exact o2
    · rw [if_neg (by unfold inU; simp [c3])] at fin
      exact fin _ _ o
    · rw [if_neg (by unfold inU; simp only [Bool.and_eq_true, decide_eq_true_eq]; omega)] at fin
      exact fin _ _ o
    · rw [if_neg (by unfold inU; simp [c1])] at fin
      exact fin _ _ o
  obtain rfl : k = xs.length := by omega
  rw [List.take_length] at o
  have hul := uniqL_len xs kind f t
  exact spec41 hI o (by omega) fun r h2 e2 hr => ⟨r, rfl, by rw [hr]; exact hQ h2 (e1.trans e2)⟩
end
end Go.Proofs.YtmjfeabnioclgaaGreatDoorVc
-- AcSpec7
namespace Go.Proofs.YtmjfeabnioclgaaGreatDoorVc
open Go.Proofs.Tryz (prog)
/-! ### what was done with one letter -/
def didH (x : Sent) (span : Int) (a : Act) : Bool := decide (a.sent = x.id) && decide (a.at_ ≤ x.at_ + span)
def didL (x : Sent) (span : Int) (acs : List Act) : List (Int × Bool) := acs.foldl (fun M a => aset M a.kind ((aget M a.kind).getD false || didH x span a)) []
theorem didL_snoc (x : Sent) (span : Int) (acs : List Act) (a : Act) : didL x span (acs ++ [a]) = aset (didL x span acs) a.kind ((aget (didL x span acs) a.kind).getD false || didH x span a) := by
  unfold didL; rw [List.foldl_append]; rfl
theorem didL_get (x : Sent) (span : Int) (acs : List Act) (k : Int) : (aget (didL x span acs) k).getD false = acs.any fun a => decide (a.kind = k) && didH x span a := by
  refine snoc_ind (P := fun acs => (aget (didL x span acs) k).getD false = acs.any fun a => decide (a.kind = k) && didH x span a) rfl (fun l a ih => ?_) acs
  rw [didL_snoc, aget_aset, List.any_append, ← ih]
  by_cases h : k = a.kind
  · rw [if_pos h]; simp [h]
  · have h2 : ¬ a.kind = k := fun e => h e.symm
    rw [if_neg h]; simp [h2]
theorem idx_iff {xs : List Sent} (hp : xs.Pairwise (fun a b => a.id ≠ b.id)) {s : ByteArray} {i : Nat} {x : Sent} (hx : xs[i]? = some x) : idx s xs = some i ↔ s = x.id := by
  constructor
  · intro h
    obtain ⟨y, h1, h2⟩ := idx_some h
    rw [hx] at h1; cases h1; exact h2.symm
  · rintro rfl
    induction xs generalizing i with
    | nil => simp at hx
    | cons y l ih =>
      rw [List.pairwise_cons] at hp
      cases i with
      | zero => simp at hx; subst hx; simp [idx]
      | succ i =>
        simp only [List.getElem?_cons_succ] at hx
        have hne : y.id ≠ x.id := hp.1 x (List.mem_of_getElem? hx)
        simp only [idx, if_neg hne, ih hp.2 hx, Option.map_some]
theorem didL_F {xs : List Sent} (hp : xs.Pairwise (fun a b => a.id ≠ b.id)) {acs : List Act} {span : Int} {i k : Nat} {x : Sent} (hx : xs[i]? = some x) : (aget (didL x span acs) (k : Int)).getD false = didF xs acs span i k := by
  rw [didL_get]
  unfold didF
  congr 1
  funext a
  unfold hit didH
  rw [atS_some hx, Bool.eq_iff_iff]
  simp only [Bool.and_eq_true, decide_eq_true_eq, idx_iff hp hx]
  constructor
  · rintro ⟨h1, h2, h3⟩; exact ⟨h2, h1, by omega⟩
  · rintro ⟨h1, h2, h3⟩; exact ⟨h2, h1, by omega⟩
/-- The table of rows. -/
theorem aset_fn {α : Type} {L : ByteArray} {y : α} {F G : ByteArray → α} (hG : G L = y) : ∀ {ls : List ByteArray}, ls.Nodup → (∀ l ∈ ls, l ≠ L → G l = F l) → aset (ls.map fun l => (l, F l)) L y = (addL ls L).map fun l => (l, G l)
  | [], _, _ => by simp [aset, addL, hG]
  | l :: ls, hn, hne => by
    rw [List.nodup_cons] at hn
    simp only [List.map_cons, aset]
    by_cases e : L = l
    · subst e
      have ht : ls.map (fun l => (l, F l)) = ls.map fun l => (l, G l) := List.map_congr_left fun l hl => by rw [hne l (List.mem_cons_of_mem _ hl) (fun e => hn.1 (e ▸ hl))]
      rw [if_pos rfl, ht]
      have : addL (L :: ls) L = L :: ls := by unfold addL; rw [if_pos (List.mem_cons_self ..)]
      rw [this, List.map_cons, hG]
    · have ih := aset_fn (F := F) hG hn.2 fun l hl => hne l (List.mem_cons_of_mem _ hl)
      rw [if_neg e, ih]
      have h1 := hne l (List.mem_cons_self ..) (fun c => e c.symm)
      unfold addL
      by_cases hm : L ∈ ls
      · rw [if_pos hm, if_pos (List.mem_cons_of_mem _ hm), List.map_cons, h1]
      · rw [if_neg hm, if_neg (fun c => (List.mem_cons.1 c).elim e hm), List.cons_append, List.map_cons, h1]
theorem aget_fn {α : Type} {F : ByteArray → α} (L : ByteArray) : ∀ ls : List ByteArray, aget (ls.map fun l => (l, F l)) L = if L ∈ ls then some (F L) else none
  | [] => rfl
  | l :: ls => by
    simp only [List.map_cons, aget, aget_fn L ls, List.mem_cons]
    by_cases e : L = l
    · rw [if_pos e, if_pos (.inl e), e]
    · rw [if_neg e]
      by_cases hm : L ∈ ls
      · rw [if_pos hm, if_pos (.inr hm)]
      · rw [if_neg hm, if_neg (fun c => c.elim e hm)]

/-! ### the sort of rows -/
def rowK : VK := .agg [.str, .int .i64, .int .i64, .int .i64, .int .i64, .int .i64]
theorem row_fits (r : RowS) : rowK.fits (V.agg (rowC r)) := ⟨trivial, rfl, rfl, rfl, rfl, rfl, trivial⟩
def ltR (a b : RowS) : Bool := decide (bl a.letter < bl b.letter)
def leR (a b : RowS) : Prop := bl a.letter ≤ bl b.letter
section
variable {I : Calls} {Q : Post} {h : Heap}
theorem spec54 (hI : Closed' prog Pm I) {a b : ByteArray} (hQ : ∀ c, (c < 0 ↔ bl a < bl b) → Q [int c] h) : I 54 [str a, str b] Q h := by
  refine hI.go _ _ (den54 I a b Q) ?_
  refine hI.prim _ _ _ _ (.inr ⟨rfl, a, b, rfl, ⟨_, rfl, hQ _ (cmp_bytes _ _).1⟩⟩)
theorem spec37 (hI : Closed' prog Pm I) {x y : RowS} (hQ : ∀ c, (c < 0 ↔ ltR x y = true) → Q [int c] h) : I 37 [.agg (rowC x), .agg (rowC y)] Q h := by
  refine hI.go _ _ (den37 I x.letter x.sent x.opened x.clicked x.bought x.left y.letter y.sent y.opened y.clicked y.bought y.left Q) ?_
  refine hI.go _ _ (den38 I x.letter y.letter _) ?_
  exact spec54 hI fun c h1 => ⟨c, rfl, ⟨c, rfl, hQ c (by unfold ltR; rw [decide_eq_true_eq]; exact h1)⟩⟩
theorem den66g (I : Calls) (s : Sl) (n1 n2 : Int) (p : Option (FuncId × List (Nat × Nat))) (Q : Post) : vc66 I s n1 n2 p Q = insF rowK I s n1 n2 p Q := by kernel_rfl
theorem spec52 (hI : Closed' prog Pm I) {s : Sl} {n : Nat} {n3 : Int} {p : Option (FuncId × List (Nat × Nat))} (hn : n ≤ 12) (hQ : insF rowK I s 0 n p (fun cs h => cs = [] ∧ Q [] h) h) : I 52 [.one (.slice 6 s), int 0, int n, int n3, .one (.func p)] Q h := by
  refine hI.go _ _ (den52 I s 0 n n3 p Q) ?_
  refine loopK_intro (fun (a : Int × Int × Int × Bool × Bool) h' m => h' = h ∧ a = (0, (n : Int), n3, true, true)) 0 ⟨rfl, rfl⟩ ?_
  rintro _ h' m ⟨rfl, rfl⟩
  dsimp only [uncur]
  have e : IntKind.i64.wrap ((n : Int) - 0) = (n : Int) := by rw [w64] <;> omega
  rw [e]
  exact ifT_dec (fun _ => hI.go _ _ (den66 I s 0 n p _) (by rw [den66g]; exact hQ)) fun h1 => by omega
theorem sort36 (hI : Closed' prog Pm I) {h0 : Heap} {s : Sl} {xs : List RowS} {L : List Ow} (o : Owns h0 h ((6, s, rows rowC xs) :: L)) (hl12 : xs.length ≤ 12)
    (hQ : ∀ (ys : List RowS) h', ys.Perm xs → ys.Pairwise leR → Owns h0 h' ((6, s, rows rowC ys) :: L) → Q [] h') : I 36 [.one (.slice 6 s), .one (.func (some (37, [])))] Q h := by
  have hl : s.len = xs.length := (o.at_ List.mem_cons_self).rowsLen rowC_length (by decide)
  refine hI.go _ _ (den36 I s _ Q) ?_
  unfold vc36
  rw [wN _ (by omega)]
  refine spec53 hI (by omega) fun n => ⟨n, rfl, spec52 hI (by omega) ?_⟩
  obtain ⟨ho1, ho2 | ⟨blk, ho2, ho3, ho4⟩⟩ := o.all _ List.mem_cons_self
  · have hx : xs = [] := by
      have := congrArg List.length ho2.2
      simp only [rows_length rowC_length, List.length_nil] at this
      exact List.length_eq_zero_iff.1 (by omega)
    subst hx
    have h0l : s.len = 0 := hl
    rw [h0l]
    exact insF_none (by decide) (by decide) (by decide) ⟨rfl, rfl, hQ [] h (List.Perm.refl _) List.Pairwise.nil o⟩
  · have e2 : s = ⟨some (blk, 0), s.len⟩ := by cases s; simp only at ho2; rw [ho2]
    refine ins_spec row_fits (v := fun x => V.agg (rowC x)) (P := []) (S := []) (xs := xs) (blk := blk) (mem := fun _ => True) (lt := ltR) leR ho2 (by rw [hl]; simp) (by rw [List.append_nil]; exact ho4) rfl (by rw [hl]; simp) (by omega) (fun _ _ => trivial) ?_ ?_ (fun a b c _ _ _ => List.le_trans) fun ys h' hp hpw hps => ⟨rfl, rfl, hQ ys h' hp hpw ?_⟩
    · intro a b _ _ h' Q' _ hq
      exact spec37 hI fun c hc => hq c h' (Ext.refl _) hc
    · exact List.pairwise_of_forall fun a b => ⟨fun h1 => List.le_of_lt (of_decide_eq_true h1), fun h1 => List.not_lt.1 (of_decide_eq_false h1)⟩
    · rw [List.append_nil, List.nil_append] at hps
      have o3 : Owns h0 h ((rowK.kds.length, ⟨some (blk, 0), s.len⟩, rws (fun x : RowS => V.agg (rowC x)) xs) :: L) := by
        have : Owns h0 h ((6, ⟨some (blk, 0), s.len⟩, rows rowC xs) :: L) := by rw [← e2]; exact o
        exact this
      have := o3.psg row_fits hps hp.length_eq
      rw [e2]; exact this

/-! ### the closures -/
theorem spec31 (hI : Closed' prog Pm I) {y : Sent} {i : Nat} {a : Act} (hi : h i = some (.cells false (actC a))) (hQ : Q [boo (decide (y.id = a.sent))] h) : I 31 [.agg (sentC y), .one (.ptr (some (i, 0)))] Q h := by
  refine hI.go _ _ (den31 I y.id y.person y.letter y.at_ i 0 Q) ?_
  exact ⟨a.sent, read_cell hi rfl, hQ⟩
/-- Which letter an act is of. -/
theorem spec30 (hI : Closed' prog Pm I) {s : Sl} {xs : List Sent} {i : Nat} {a : Act} (hs : At h 4 s (rows sentC xs)) (hlen : xs.length < 1000) (hi : h i = some (.cells false (actC a)))
    (hQ : Q [int (match idx a.sent xs with | some k => (k : Int) | none => -1)] h) : I 30 [.one (.slice 4 s), .one (.func (some (31, [(i, 0)])))] Q h := by
  have l1 := hs.rowsLen sentC_length (by decide)
  refine hI.go _ _ (den30 I s _ Q) ?_
  refine loopK_intro (fun (n : Int) h' m => h' = h ∧ ∃ k : Nat, k ≤ xs.length ∧ n = k ∧ xs.length - k = m ∧ idx a.sent xs = (idx a.sent (xs.drop k)).map (· + k)) xs.length ⟨rfl, 0, by omega, rfl, rfl, by simp⟩ ?_
  rintro n h' m ⟨rfl, k, hk, rfl, rfl, he⟩
  refine ifT_dec (fun hlt => ⟨⟨by omega, hlt⟩, ?_⟩) fun hge => ?_
  · have hx := List.getElem?_eq_getElem (show k < xs.length by omega)
    generalize xs[k] = x at hx
    rw [drop_mid hx] at he
    simp only [idx] at he
    refine hs.row sentC_length (by decide) hx fun bb o hr => ⟨x.id, x.person, x.letter, x.at_, hr, ?_⟩
    show I 31 _ _ _
    refine spec31 hI (y := x) hi ⟨_, rfl, ifT_dec (fun e => ?_) fun e => ?_⟩
    · rw [if_pos e] at he
      rw [he] at hQ
      simpa using hQ
    · rw [if_neg e, Option.map_map] at he
      refine ⟨xs.length - (k + 1), by omega, rfl, k + 1, by omega, by rw [w64] <;> omega, rfl, ?_⟩
      rw [he]
      congr 1
      funext z
      show z + 1 + k = z + (k + 1)
      omega
  · rw [List.drop_eq_nil_of_le (by omega)] at he
    rw [he] at hQ
    exact hQ
/-- A place that leads to the map of what was done. -/
structure DidAt (h : Heap) (i m : Nat) (M : List (Int × Bool)) : Prop where
  at_ : h i = some (.cells false [.map (some m)])
  map : h m = some (.map (amap kInt kBoo M))
theorem DidAt.ext {h h' : Heap} {i m : Nat} {M : List (Int × Bool)} (d : DidAt h i m M) (e : Ext h h') : DidAt h' i m M := ⟨e _ _ d.at_, e _ _ d.map⟩
theorem bool_get (M : List (Int × Bool)) (k : Int) : ∃ b2, mapGet (kInt k) (kBoo false) (amap kInt kBoo M) = some (kBoo ((aget M k).getD false), b2) := by
  rw [amap_get keyInt]
  cases aget M k with
  | none => exact ⟨false, rfl⟩
  | some b => exact ⟨true, rfl⟩
theorem spec35 (hI : Closed' prog Pm I) {i m : Nat} {M : List (Int × Bool)} {k : Int} (d : DidAt h i m M) (hQ : Q [boo ((aget M k).getD false)] h) : I 35 [int k, .one (.ptr (some (i, 0)))] Q h := by
  refine hI.go _ _ (den35 I k i 0 Q) ?_
  obtain ⟨b2, hg⟩ := bool_get M k
  exact ⟨some m, read_cell d.at_ rfl, _, b2, ⟨_, mapOf_some d.map, hg⟩, hQ⟩
theorem spec34 (hI : Closed' prog Pm I) {i m : Nat} {M : List (Int × Bool)} {s : Sl} {ks : List Int} (hs : At h 1 s (cI ks)) (hl : ks.length < 1000) (d : DidAt h i m M) (hQ : Q [boo (ks.any fun k => (aget M k).getD false)] h) :
    I 34 [.one (.slice 1 s), .one (.func (some (35, [(i, 0)])))] Q h := by
  have l1 : s.len = ks.length := by have := hs.1; simpa using this
  refine hI.go _ _ (den34 I s _ Q) ?_
  refine hI.go _ _ (den51 I s _ _) ?_
  refine loopK_intro (fun (n : Int) h' m => h' = h ∧ ∃ k : Nat, k ≤ ks.length ∧ n = k ∧ ks.length - k = m ∧ (ks.any fun k => (aget M k).getD false) = ((ks.drop k).any fun k => (aget M k).getD false)) ks.length ⟨rfl, 0, by omega, rfl, rfl, rfl⟩ ?_
  rintro n h' m' ⟨rfl, k, hk, rfl, rfl, he⟩
  refine ifT_dec (fun hlt => ⟨⟨by omega, hlt⟩, ?_⟩) fun hge => ?_
  · have hx := List.getElem?_eq_getElem (show k < ks.length by omega)
    generalize ks[k] = x at hx
    rw [drop_mid hx, List.any_cons] at he
    refine hs.one (by omega) hlt fun b o c hc hr => ?_
    rw [Int.toNat_natCast, List.getElem?_map, hx] at hc
    cases hc
    refine ⟨x, hr, ?_⟩
    show I 35 _ _ _
    refine spec35 hI d ⟨_, rfl, ifT_intro (fun e => ⟨_, rfl, ?_⟩) fun e => ?_⟩
    · rw [e, Bool.true_or] at he
      rw [he] at hQ
      show Q [boo (decide ((k : Int) ≥ 0))] _
      rw [decide_eq_true (by omega)]; exact hQ
    · rw [e, Bool.false_or] at he
      exact ⟨ks.length - (k + 1), by omega, rfl, k + 1, by omega, by rw [w64] <;> omega, rfl, he⟩
  · rw [List.drop_eq_nil_of_le (by omega)] at he
    rw [he] at hQ
    exact ⟨_, rfl, hQ⟩
/-- One number of a row goes up, or not. -/
theorem spec33 (hI : Closed' prog Pm I) {b o i m : Nat} {M : List (Int × Bool)} {cs : List Cell} {n : Nat} {s : Sl} {ks : List Int} (hb : h b = some (.cells false cs)) (hc : cs[o]? = some (.int .i64 n)) (hn : n < 1000) (hs : At h 1 s (cI ks)) (hl : ks.length < 1000) (d : DidAt h i m M)
    (hQ : ∀ h', h' = h.set b (.cells false (cs.set o (.int .i64 ((n + b2n (ks.any fun k => (aget M k).getD false) : Nat) : Int)))) → Q [] h') : I 33 [.one (.ptr (some (b, o))), .one (.slice 1 s), .one (.ptr (some (i, 0)))] Q h := by
  refine hI.go _ _ (den33 I (some (b, o)) s i 0 Q) ?_
  refine spec34 hI hs hl d ⟨_, rfl, ifT_intro (fun e => ?_) fun e => hQ _ ?_⟩
  · rw [e] at hQ
    refine derefK_intro rfl ⟨(n : Int), read_cell hb hc, derefK_intro rfl ?_⟩
    refine storeK_one hb (List.getElem?_eq_some_iff.1 hc).1 ?_
    rw [w64 (by omega) (by omega)]
    exact hQ _ rfl
  · rw [e]
    obtain ⟨h1, h2⟩ := List.getElem?_eq_some_iff.1 hc
    have : cs.set o (.int .i64 ((n + b2n false : Nat) : Int)) = cs := by
      show cs.set o (.int .i64 ((n : Nat) : Int)) = cs
      rw [← h2, List.set_getElem_self]
    rw [this]
    funext j
    by_cases e : j = b
    · subst e; rw [set_eq]; exact hb
    · rw [set_ne _ _ e]
end
end Go.Proofs.YtmjfeabnioclgaaGreatDoorVc
-- AcSpec8
namespace Go.Proofs.YtmjfeabnioclgaaGreatDoorVc
open Go.Proofs.Tryz (prog)
abbrev kRow (r : RowS) : V := .agg (rowC r)
def rowsM (xs : List Sent) (D : Nat → Nat → Bool) (n : Nat) : List (ByteArray × RowS) := (lets (xs.take n)).map fun L => (L, rowF xs D n L)
theorem rowsM_step {xs : List Sent} {D : Nat → Nat → Bool} {n : Nat} {x : Sent} (hx : xs[n]? = some x) : aset (rowsM xs D n) x.letter (bump (rowF xs D n x.letter) (D n)) = rowsM xs D (n + 1) := by
  unfold rowsM
  rw [take_mid hx, lets_snoc]
  exact aset_fn (rowF_hit hx) (lets_nodup _ _ rfl) fun l _ hne => rowF_miss hx fun e => hne e.symm
theorem rowsM_get {xs : List Sent} {D : Nat → Nat → Bool} {n : Nat} (L : ByteArray) :
    ∃ s0 b, mapGet (kStr L) (.agg [.str .empty, .int .i64 0, .int .i64 0, .int .i64 0, .int .i64 0, .int .i64 0]) (amap kStr kRow (rowsM xs D n)) =
      some (.agg [.str s0, .int .i64 (rowF xs D n L).sent, .int .i64 (rowF xs D n L).opened, .int .i64 (rowF xs D n L).clicked, .int .i64 (rowF xs D n L).bought, .int .i64 (rowF xs D n L).left], b) := by
  rw [amap_get keyStr, rowsM, aget_fn]
  by_cases h : L ∈ lets (xs.take n)
  · rw [if_pos h]; exact ⟨L, true, rfl⟩
  · rw [if_neg h]
    have : rowF xs D n L = ⟨L, 0, 0, 0, 0, 0⟩ := rowF_none fun x hx e => h ((lets_mem _ _ rfl L).2 ⟨x, hx, e⟩)
    rw [this]; exact ⟨.empty, false, rfl⟩
theorem rowF_small {xs : List Sent} {D : Nat → Nat → Bool} {n : Nat} {L : ByteArray} : (rowF xs D n L).sent ≤ n ∧ (rowF xs D n L).opened ≤ n ∧ (rowF xs D n L).clicked ≤ n ∧ (rowF xs D n L).bought ≤ n ∧ (rowF xs D n L).left ≤ n := ⟨cnt_le, cnt_le, cnt_le, cnt_le, cnt_le⟩

section
variable {I : Calls} {Q : Post} {h : Heap}
/-- The rows are gathered and sorted. -/
theorem rows_out (hI : Closed' prog Pm I) {g : Heap} {i41 : Nat} {xs : List Sent} {D : Nat → Nat → Bool} {n : Nat} (hl : xs.length ≤ 12) (hg : g i41 = none) (ex : Ext g h) (hm : h i41 = some (.map (amap kStr kRow (rowsM xs D n)))) {K : Sl → T}
    (hK : ∀ s' h' (ys : List RowS), Ext g h' → ys.Perm ((lets (xs.take n)).map (rowF xs D n)) → ys.Pairwise leR → At h' 6 s' (rows rowC ys) → K s' h') :
                    (rangeK i41 (fun i111 => loopK (A := Sl) ({ a := none, len := 0 })
                      (fun x112 => fun l113 => fun h114 => 
                      (nextK i111
                        (fun h115 =>
                        I 36 [V.one (Cell.slice 6 l113), V.one (Cell.func (some (37, [])))]
                          (fun cs116 => fun h117 => 
                          (cs116 = []) ∧
                          K l113 h117) h115)
                        (fun x118 => fun x119 => fun h120 => 
                        ∃ s121 : ByteArray, ∃ s122 : ByteArray, ∃ n123 : Int, ∃ n124 : Int, ∃ n125 : Int, ∃ n126 : Int, ∃ n127 : Int, (x118 = V.one (Cell.str s121)) ∧
                        (x119 = V.agg [Cell.str s122, Cell.int IntKind.i64 n123, Cell.int IntKind.i64 n124, Cell.int IntKind.i64 n125, Cell.int IntKind.i64 n126, Cell.int IntKind.i64 n127]) ∧
                        (entryK i111 (fun x128 => fun x129 => fun h130 => 
                        ∃ s131 : ByteArray, ∃ s132 : ByteArray, ∃ n133 : Int, ∃ n134 : Int, ∃ n135 : Int, ∃ n136 : Int, ∃ n137 : Int, (x128 = V.one (Cell.str s131)) ∧
                        (x129 = V.agg [Cell.str s132, Cell.int IntKind.i64 n133, Cell.int IntKind.i64 n134, Cell.int IntKind.i64 n135, Cell.int IntKind.i64 n136, Cell.int IntKind.i64 n137]) ∧
                        (appendTo [] 6 56 l113 1 [Cell.str s132, Cell.int IntKind.i64 n133, Cell.int IntKind.i64 n134, Cell.int IntKind.i64 n135, Cell.int IntKind.i64 n136, Cell.int IntKind.i64 n137] (fun l138 => fun h139 => 
                        x112 l138 h139)) h130)) h120)) h114))) h := by
  have hll := lets_length (xs.take n)
  rw [List.length_take] at hll
  refine rangeK_in (φ := fun e : ByteArray × RowS => (kStr e.1, kRow e.2)) (dm := rowsM xs D n) hm fun fc ck j hfc hnd hj hjm => ?_
  have hgj : g j = none := ex.none hj
  have o0 : Owns g h [] := ⟨ex, (fun p hp => by cases hp), List.Pairwise.nil⟩
  have o1 := ((o0.setAny (o' := .mapF (fcF (fun e : ByteArray × RowS => (kStr e.1, kRow e.2)) fc) ck) hg fun cs c => (by rw [hm] at c; cases c)).setAny (i := j) (o' := .iter i41 [] ck) hgj fun cs c => (by rw [set_ne _ _ hjm, hj] at c; cases c)).none_ 6
  refine loopK_intro (fun (l : Sl) h' m => ∃ (Dn : List (ByteArray × RowS)) (seen : List Nat), (Dn ++ (leftC fc seen).map (·.1)).Perm (rowsM xs D n) ∧ m = (leftC fc seen).length ∧ h' i41 = some (.mapF (fcF (fun e : ByteArray × RowS => (kStr e.1, kRow e.2)) fc) ck) ∧ h' j = some (.iter i41 seen ck) ∧
      Owns g h' [(6, l, rows rowC (Dn.map (·.2)))]) fc.length
    ⟨[], [], by rw [leftC_nil]; simp [hfc], by rw [leftC_nil], by rw [set_ne _ _ (fun e => hjm e.symm), set_eq], set_eq _ _ _, o1⟩ ?_
  rintro l h' m ⟨Dn, seen, hperm, rfl, J1, J2, o⟩
  have hDl : Dn.length ≤ 12 := by
    have := hperm.length_eq
    simp only [List.length_append, rowsM, List.length_map] at this
    omega
  refine nextK_in J2 J1 hnd (fun hnil => ?_) fun q hq hst => ?_
  · rw [hnil] at hperm
    simp only [List.map_nil, List.append_nil] at hperm
    have o2 := o.setAny (i := i41) (o' := .map ((fc.map (·.1)).map fun e : ByteArray × RowS => (kStr e.1, kRow e.2))) hg fun cs c => (by rw [J1] at c; cases c)
    refine sort36 hI o2 (by rw [List.length_map]; exact hDl) fun ys h2 hp hs o3 => ⟨rfl, hK l h2 ys o3.ext (hp.trans ?_) hs (o3.at_ List.mem_cons_self)⟩
    have := hperm.map (fun e : ByteArray × RowS => e.2)
    refine this.trans (List.Perm.of_eq ?_)
    unfold rowsM
    rw [List.map_map]; rfl
  · obtain ⟨⟨L, r⟩, st⟩ := q
    have hll2 : l.len = Dn.length := by have := (o.at_ List.mem_cons_self).rowsLen rowC_length (by decide); simpa using this
    have o2 := o.setAny (i := j) (o' := .iter i41 (seen ++ [st]) ck) hgj fun cs c => (by rw [J2] at c; cases c)
    refine ⟨L, r.letter, r.sent, r.opened, r.clicked, r.bought, r.left, rfl, rfl, entryK_in (φ := fun e : ByteArray × RowS => (kStr e.1, kRow e.2)) (set_eq _ _ _) (by rw [set_ne _ _ (fun e => hjm e.symm)]; exact J1) hq ⟨L, r.letter, r.sent, r.opened, r.clicked, r.bought, r.left, rfl, rfl, ?_⟩⟩
    have hlen : (leftC fc seen).length = (leftC fc (seen ++ [st])).length + 1 := by rw [hst.length_eq]; rfl
    have K1 : (h'.set j (.iter i41 (seen ++ [st]) ck)) i41 = some (.mapF (fcF (fun e : ByteArray × RowS => (kStr e.1, kRow e.2)) fc) ck) := by rw [set_ne _ _ (fun e => hjm e.symm)]; exact J1
    refine appendTo_keep2 (m := 0) o2 rfl (by omega) fun k h2 hk o3 => ?_
    have hke : ∀ i x, (h'.set j (.iter i41 (seen ++ [st]) ck)) i = some x → (∀ cs, x ≠ .cells false cs) → h2 i = some x := hk
    refine ⟨(leftC fc (seen ++ [st])).length, by omega, Dn ++ [(L, r)], seen ++ [st], ?_, rfl, hke _ _ K1 (fun cs c => by cases c), hke _ _ (set_eq _ _ _) (fun cs c => by cases c), ?_⟩
    · refine List.Perm.trans ?_ hperm
      rw [List.append_assoc]
      exact (List.Perm.append_left Dn (hst.map (·.1))).symm
    · have e : rows rowC ((Dn ++ [(L, r)]).map (·.2)) = rows rowC (Dn.map (·.2)) ++ rowC r := by simp [rows]
      rw [e]; exact o3
end
end Go.Proofs.YtmjfeabnioclgaaGreatDoorVc
-- AcSpec9
namespace Go.Proofs.YtmjfeabnioclgaaGreatDoorVc
open Go.Proofs.Tryz (prog)
theorem storeK_in {h : Heap} {i o : Nat} {cs new : List Cell} {k : T} (hb : h i = some (.cells false cs)) (hl : o + new.length ≤ cs.length) (hk : ∀ h', h' = h.set i (.cells false (updCells cs o new)) → k h') : storeK [] i o new k h := ⟨cs, hb, hl, hk _ rfl⟩
/-- What stands while one letter is looked at. -/
structure Wk (g h : Heap) (i41 i60 i66 i68 : Nat) (es : List (V × V)) (cs : List Cell) (M : List (Int × Bool)) : Prop where
  ext : Ext g h
  top : h i41 = some (.map es)
  row : h i60 = some (.cells false cs)
  did : DidAt h i68 i66 M
theorem Wk.later {g h h' : Heap} {i41 i60 i66 i68 : Nat} {es : List (V × V)} {cs : List Cell} {M : List (Int × Bool)} (w : Wk g h i41 i60 i66 i68 es cs M) (e : Ext h h') : Wk g h' i41 i60 i66 i68 es cs M := ⟨w.ext.trans e, e _ _ w.top, e _ _ w.row, w.did.ext e⟩
theorem Wk.count {g h : Heap} {i41 i60 i66 i68 : Nat} {es : List (V × V)} {cs : List Cell} {M : List (Int × Bool)} (w : Wk g h i41 i60 i66 i68 es cs M) (hg : g i60 = none) (cs' : List Cell) (hne : cs ≠ [.map (some i66)]) : Wk g (h.set i60 (.cells false cs')) i41 i60 i66 i68 es cs' M where
  ext := w.ext.set hg
  top := by rw [set_ne _ _ (fun e => by have := w.top; rw [e, w.row] at this; cases this)]; exact w.top
  row := set_eq _ _ _
  did := ⟨by rw [set_ne _ _ (fun e => by have := w.did.at_; rw [e, w.row] at this; cases this; exact hne rfl)]; exact w.did.at_, by rw [set_ne _ _ (fun e => by have := w.did.map; rw [e, w.row] at this; cases this)]; exact w.did.map⟩

section
variable {I : Calls} {Q : Post} {h : Heap}
theorem spec8 (hI : Closed' prog Pm I) {s1 s2 : Sl} {xs : List Sent} {acs : List Act} {span : Int} (hs : At h 4 s1 (rows sentC xs)) (ha : At h 3 s2 (rows actC acs)) (hxl : xs.length ≤ 12) (hal : acs.length ≤ 9)
    (hbad : ∀ h', Ext h h' → errT xs acs ≠ 0 → Q [.one (.slice 6 ⟨none, 0⟩), int (errT xs acs)] h')
    (hbad1 : ∀ h', Ext h h' → errT xs acs = 0 → ¬ (0 ≤ span ∧ span ≤ 4321440) → Q [.one (.slice 6 ⟨none, 0⟩), int 1] h')
    (hQ : ∀ (s' : Sl) (ys : List RowS) h', errT xs acs = 0 → (0 ≤ span ∧ span ≤ 4321440) → Ext h h' → ys.Perm ((lets xs).map (rowF xs (didF xs acs span) xs.length)) → ys.Pairwise leR → At h' 6 s' (rows rowC ys) → Q [.one (.slice 6 s'), int 0] h') :
    I 8 [.one (.slice 4 s1), .one (.slice 3 s2), int span] Q h := by
  have hl1 : s1.len = xs.length := hs.rowsLen sentC_length (by decide)
  have hl2 : s2.len = acs.length := ha.rowsLen actC_length (by decide)
  refine hI.go _ _ (den8 I s1 s2 span Q) ?_
  refine spec29 hI hs (by omega) fun g e1 => ⟨_, rfl, ifT_intro (fun hb => ?_) fun hb => ?_⟩
  · have e : errT xs acs = errS xs := by unfold errT; rw [if_pos (nd hb)]
    have := hbad g e1 (by rw [e]; exact nd hb)
    rw [e] at this; exact this
  have hS : errS xs = 0 := Decidable.of_not_not (nd' hb)
  have eT : errT xs acs = scanA xs acs := by unfold errT; rw [if_neg (by rw [hS]; simp)]
  obtain ⟨hk1, hk2⟩ := errS_facts hS
  have hmom := scanS_ok xs [] hS
  have hs1 := e1.at_ hs
  have ha1 := e1.at_ ha
  refine ifT_dec (fun h9 => by omega) fun _ => ?_
  -- what is wrong with the acts
  refine loopK_intro (fun (a : Int) h' m => Ext g h' ∧ ∃ k : Nat, k ≤ acs.length ∧ a = (k : Int) ∧ m = acs.length - k ∧ scanA xs (acs.drop k) = scanA xs acs) acs.length ⟨Ext.refl g, 0, by omega, rfl, rfl, rfl⟩ ?_
  rintro a h' m ⟨ex, k, hk, rfl, rfl, hsc⟩
  refine ifT_dec (fun hlt => ⟨⟨by omega, hlt⟩, ?_⟩) fun hge => ?_
  · have hx := List.getElem?_eq_getElem (show k < acs.length by omega)
    have hd := List.drop_eq_getElem_cons (show k < acs.length by omega)
    generalize acs[k] = a at hx hd
    rw [hd] at hsc
    simp only [scanA] at hsc
    refine (ex.at_ ha1).row actC_length (by decide) hx fun bb oo hr => ⟨a.sent, a.kind, a.at_, hr, ?_⟩
    refine newK_intro fun i16 h2 hn2 he2 => ?_
    refine storeK_in (he2 ▸ set_eq _ _ _) (by simp) fun h3 he3 => ?_
    have hg16 := ex.none hn2
    have ex3 : Ext g h3 := by rw [he3, he2]; exact (ex.set hg16).set hg16
    have h16 : h3 i16 = some (.cells false (actC a)) := by rw [he3, set_eq]; rfl
    have bad : ∀ h5, Ext g h5 → ∀ e : Int, scanA xs acs = e → e ≠ 0 → Q [.one (.slice 6 ⟨none, 0⟩), int e] h5 := fun h5 e5 e he hne => by
      have := hbad h5 (e1.trans e5) (by rw [eT, he]; exact hne)
      rw [eT, he] at this; exact this
    refine spec30 hI (ex3.at_ hs1) (by omega) h16 ⟨_, rfl, ?_⟩
    cases hi : idx a.sent xs with
    | none =>
      rw [hi] at hsc
      exact ifT_dec (fun _ => bad _ ex3 8 hsc.symm (by decide)) fun h9 => absurd (show (-1 : Int) < 0 by decide) h9
    | some q =>
      rw [hi] at hsc
      simp only at hsc
      obtain ⟨x, hxq, hxid⟩ := idx_some hi
      have hql : q < xs.length := (List.getElem?_eq_some_iff.1 hxq).1
      refine ifT_dec (fun h9 => by simp only at h9; omega) fun _ => ?_
      refine joinK_intro (fun (b : Bool) g' => g' = h3 ∧ b = !decide (1 ≤ a.kind ∧ a.kind ≤ 4)) ?_ ?_
      case refine_2 =>
        intro j hj
        refine ⟨a.kind, read_cell h16 rfl, ifT_dec (fun c => hj _ _ ⟨rfl, ?_⟩) fun c => ⟨a.kind, read_cell h16 rfl, hj _ _ ⟨rfl, ?_⟩⟩⟩
        · rw [decide_eq_false (by omega)]; rfl
        · by_cases c4 : a.kind > 4
          · rw [decide_eq_true c4, decide_eq_false (by omega)]; rfl
          · rw [decide_eq_false c4, decide_eq_true (by omega)]; rfl
      rintro b g' ⟨rfl, rfl⟩
      refine ifT_intro (fun hb => ?_) fun hb => ?_
      · rw [if_pos (nd hb)] at hsc; exact bad _ ex3 4 hsc.symm (by decide)
      rw [if_neg (nd' hb)] at hsc
      refine ⟨a.at_, read_cell h16 rfl, spec32 hI ⟨_, rfl, ifT_intro (fun h9 => ?_) fun h9 => ?_⟩⟩
      · rw [if_pos (nd h9)] at hsc; exact bad _ ex3 1 hsc.symm (by decide)
      rw [if_neg (nd' h9)] at hsc
      refine ⟨a.at_, read_cell h16 rfl, ⟨by show (0 : Int) ≤ (q : Int); omega, by show (q : Int) < (s1.len : Int); omega⟩, ?_⟩
      refine (ex3.at_ hs1).rowCell (f := sentC) sentC_length (by decide) hxq (j := 3) (c := .int .i64 x.at_) rfl fun bb oo hr => ⟨x.at_, hr, ifT_dec (fun h9 => ?_) fun h9 => ?_⟩
      · rw [atS_some hxq, if_pos h9] at hsc; exact bad _ ex3 7 hsc.symm (by decide)
      rw [atS_some hxq, if_neg h9] at hsc
      exact ⟨acs.length - (k + 1), by omega, ex3, k + 1, by omega, by rw [w64 (by omega) (by omega)]; rfl, rfl, hsc⟩
  have hkn : k = acs.length := by omega
  subst hkn
  rw [List.drop_of_length_le (Nat.le_refl _)] at hsc
  have hA : scanA xs acs = 0 := hsc.symm
  have hE : errT xs acs = 0 := by rw [eT, hA]
  have hok := scanA_ok hA
  refine joinK_intro (fun (b : Bool) g' => g' = h' ∧ b = !decide (0 ≤ span ∧ span ≤ 4321440)) ?_ ?_
  case refine_2 =>
    intro j hj
    refine ifT_dec (fun c => hj _ _ ⟨rfl, ?_⟩) fun c => hj _ _ ⟨rfl, ?_⟩
    · rw [decide_eq_false (by omega)]; rfl
    · by_cases c4 : span > 4321440
      · rw [decide_eq_true c4, decide_eq_false (by omega)]; rfl
      · rw [decide_eq_false c4, decide_eq_true (by omega)]; rfl
  rintro b g' ⟨rfl, rfl⟩
  refine ifT_intro (fun hb => hbad1 _ (e1.trans ex) hE (nd hb)) fun hb => ?_
  have hsp : 0 ≤ span ∧ span ≤ 4321440 := Decidable.of_not_not (nd' hb)
  clear hbad hbad1 hb hsc hge
  have hs2 := ex.at_ hs1
  have ha2 := ex.at_ ha1
  have ex0 := e1.trans ex
  obtain ⟨D, hD⟩ : ∃ D, didF xs acs span = D := ⟨_, rfl⟩
  rw [hD] at hQ
  -- the letters
  refine newK_intro fun i41 h2 hn2 he2 => ?_
  refine loopK_intro (fun (a : Int) h3 m => ∃ n : Nat, n ≤ xs.length ∧ a = (n : Int) ∧ xs.length - n = m ∧ Ext g' h3 ∧ h3 i41 = some (.map (amap kStr kRow (rowsM xs D n)))) xs.length
    ⟨0, by omega, rfl, rfl, he2 ▸ Ext.new hn2, by rw [he2, set_eq]; rfl⟩ ?_
  rintro a h3 m ⟨n, hn, rfl, rfl, e3, top⟩
  refine ifT_dec (fun hlt => ⟨⟨by omega, hlt⟩, ?_⟩) fun hge => ?_
  · have hx := List.getElem?_eq_getElem (show n < xs.length by omega)
    have hxm := List.getElem_mem (show n < xs.length by omega)
    generalize xs[n] = x at hx hxm
    refine (e3.at_ hs2).row sentC_length (by decide) hx fun bb oo hr => ⟨x.id, x.person, x.letter, x.at_, hr, ?_⟩
    obtain ⟨s0, b0, hget⟩ := rowsM_get (xs := xs) (D := D) (n := n) x.letter
    obtain ⟨z1, z2, z3, z4, z5⟩ := rowF_small (xs := xs) (D := D) (n := n) (L := x.letter)
    obtain ⟨r, hrr⟩ : ∃ r, rowF xs D n x.letter = r := ⟨_, rfl⟩
    have hstep := rowsM_step (D := D) hx
    rw [hrr] at hget hstep z1 z2 z3 z4 z5
    refine ⟨s0, (r.sent : Int), (r.opened : Int), (r.clicked : Int), (r.bought : Int), (r.left : Int), b0, ⟨_, mapOf_some top, hget⟩, ?_⟩
    refine newK_intro fun i60 h4 hn4 he4 => ?_
    have g60 := e3.none hn4
    refine storeK_in (he4 ▸ set_eq _ _ _) (by simp) fun h5 he5 => ?_
    have c5 : h5 i60 = some (.cells false [.str s0, .int .i64 r.sent, .int .i64 r.opened, .int .i64 r.clicked, .int .i64 r.bought, .int .i64 r.left]) := by rw [he5, set_eq]; rfl
    refine ⟨(r.sent : Int), read_cell c5 rfl, storeK_in c5 (by simp) fun h6 he6 => ?_⟩
    have c6 : h6 i60 = some (.cells false [.str x.letter, .int .i64 r.sent, .int .i64 r.opened, .int .i64 r.clicked, .int .i64 r.bought, .int .i64 r.left]) := by rw [he6, set_eq]; rfl
    refine storeK_in c6 (by simp) fun h7 he7 => ?_
    have ws : IntKind.i64.wrap ((r.sent : Int) + 1) = ((r.sent + 1 : Nat) : Int) := by rw [w64] <;> omega
    rw [ws] at he7
    have c7 : h7 i60 = some (.cells false [.str x.letter, .int .i64 ((r.sent + 1 : Nat) : Int), .int .i64 r.opened, .int .i64 r.clicked, .int .i64 r.bought, .int .i64 r.left]) := by rw [he7, set_eq]; rfl
    have ne41 : i41 ≠ i60 := fun e => by rw [e, hn4] at top; cases top
    have t7 : h7 i41 = some (.map (amap kStr kRow (rowsM xs D n))) := by rw [he7, he6, he5, he4]; simp only [set_ne _ _ ne41]; exact top
    have e7 : Ext g' h7 := by rw [he7, he6, he5, he4]; exact (((e3.set g60).set g60).set g60).set g60
    refine newK_intro fun i66 h8 hn8 he8 => newK_intro fun i68 h9 hn9 he9 => ?_
    have e9 : Ext h7 h9 := (he8 ▸ Ext.new hn8 : Ext h7 h8).trans (he9 ▸ Ext.new hn9)
    refine storeK_in (he9 ▸ set_eq _ _ _) (by simp) fun h10 he10 => ?_
    have h7n : h7 i68 = none := (he8 ▸ Ext.new hn8 : Ext h7 h8).none hn9
    have e10 : Ext h7 h10 := by rw [he10]; exact e9.set h7n
    have h8m : h8 i66 = some (.map []) := by rw [he8, set_eq]
    have ne68 : i66 ≠ i68 := fun e => by rw [← e, h8m] at hn9; cases hn9
    have W : Wk g' h10 i41 i60 i66 i68 (amap kStr kRow (rowsM xs D n)) [.str x.letter, .int .i64 ((r.sent + 1 : Nat) : Int), .int .i64 r.opened, .int .i64 r.clicked, .int .i64 r.bought, .int .i64 r.left] (didL x span (acs.take 0)) :=
      ⟨e7.trans e10, e10 _ _ t7, e10 _ _ c7, ⟨by rw [he10, set_eq]; rfl, by rw [he10, set_ne _ _ ne68, he9, set_ne _ _ ne68]; exact h8m⟩⟩
    have g66 : g' i66 = none := e7.none hn8
    have ne41b : i41 ≠ i66 := fun e => by rw [e, hn8] at t7; cases t7
    clear he10 he9 he8 he7 he6 he5 he4 hn9 hn8 hn4 e9 e10 c5 c6 c7 h8m
    -- what was done
    refine loopK_intro (fun (a : Int) hh m => ∃ k : Nat, k ≤ acs.length ∧ a = (k : Int) ∧ acs.length - k = m ∧ Wk g' hh i41 i60 i66 i68 (amap kStr kRow (rowsM xs D n)) [.str x.letter, .int .i64 ((r.sent + 1 : Nat) : Int), .int .i64 r.opened, .int .i64 r.clicked, .int .i64 r.bought, .int .i64 r.left] (didL x span (acs.take k))) acs.length
      ⟨0, by omega, rfl, rfl, W⟩ ?_
    clear W
    rintro a hh m ⟨k, hk, rfl, rfl, W⟩
    refine ifT_dec (fun hlt => ⟨⟨by omega, hlt⟩, ?_⟩) fun hge => ?_
    · have hxa := List.getElem?_eq_getElem (show k < acs.length by omega)
      have hxam := List.getElem_mem (show k < acs.length by omega)
      generalize acs[k] = a at hxa hxam
      have hmx := hmom x hxm
      have hwx : IntKind.i64.wrap (x.at_ + span) = x.at_ + span := by
        unfold moment at hmx
        rw [w64] <;> omega
      obtain ⟨b2, hgb⟩ := bool_get (didL x span (acs.take k)) a.kind
      have hsn := didL_snoc x span (acs.take k) a
      rw [← take_mid hxa] at hsn
      refine (W.ext.at_ ha2).row actC_length (by decide) hxa fun bb oo hr => ⟨a.sent, a.kind, a.at_, hr, some i66, read_cell W.did.at_ rfl, some i66, read_cell W.did.at_ rfl, _, b2, ⟨_, mapOf_some W.did.map, hgb⟩, ?_⟩
      have fin : ∀ b : Bool, b = ((aget (didL x span (acs.take k)) a.kind).getD false || didH x span a) → mapK [] (some i66) (kInt a.kind) (kBoo b) (fun hh' => ∃ m', m' < acs.length - k ∧ ∃ k2 : Nat, k2 ≤ acs.length ∧ IntKind.i64.wrap ((k : Int) + 1) = (k2 : Int) ∧ acs.length - k2 = m' ∧ Wk g' hh' i41 i60 i66 i68 (amap kStr kRow (rowsM xs D n)) [.str x.letter, .int .i64 ((r.sent + 1 : Nat) : Int), .int .i64 r.opened, .int .i64 r.clicked, .int .i64 r.bought, .int .i64 r.left] (didL x span (acs.take k2))) hh := fun b hbe => by
        refine mapK_in W.did.map (amap_set keyInt kBoo a.kind b _) ⟨acs.length - (k + 1), by omega, k + 1, by omega, by rw [w64] <;> omega, rfl, ?_⟩
        rw [hsn, ← hbe]
        refine ⟨W.ext.set g66, ?_, ?_, ⟨?_, set_eq _ _ _⟩⟩
        · rw [set_ne _ _ ne41b]; exact W.top
        · rw [set_ne _ _ (fun e => by have := W.row; rw [e, W.did.map] at this; cases this)]; exact W.row
        · rw [set_ne _ _ (fun e => by have := W.did.at_; rw [e, W.did.map] at this; cases this)]; exact W.did.at_
      refine ifT_intro (fun hb => fin true (by rw [hb]; rfl)) fun hb => ifT_dec (fun he => ?_) fun he => fin false (by rw [hb]; unfold didH; simp [he])
      rw [hwx]
      exact fin _ (by rw [hb]; unfold didH; simp [he])
    obtain rfl : k = acs.length := by omega
    rw [List.take_length] at W
    have dF : ∀ k : Nat, (aget (didL x span acs) (k : Int)).getD false = D n k := fun k => by rw [didL_F hk2 hx, hD]
    -- the counts
    refine newK_intro fun i88 q1 hq1 hqe1 => ?_
    have W1 := W.later (hqe1 ▸ Ext.new hq1)
    have k1 : At q1 1 ⟨some (i88, 0), 3⟩ (cI [1, 2, 3]) := ⟨rfl, .inr (by show q1.read i88 0 3 = _; rw [read_block (hqe1 ▸ set_eq _ _ _) (by simp)]; rfl)⟩
    refine spec33 hI W1.row (o := 2) (n := r.opened) rfl (by omega) k1 (by simp) W1.did fun q2 hq2 => ⟨rfl, ?_⟩
    have any4 : (([4] : List Int).any fun k => (aget (didL x span acs) k).getD false) = D n 4 := by
      show ((aget (didL x span acs) 4).getD false || false) = _
      rw [show (aget (didL x span acs) (4 : Int)).getD false = D n 4 from dF 4, Bool.or_false]
    have any3 : (([3] : List Int).any fun k => (aget (didL x span acs) k).getD false) = D n 3 := by
      show ((aget (didL x span acs) 3).getD false || false) = _
      rw [show (aget (didL x span acs) (3 : Int)).getD false = D n 3 from dF 3, Bool.or_false]
    have any2 : (([2, 3] : List Int).any fun k => (aget (didL x span acs) k).getD false) = (D n 2 || D n 3) := by
      rw [List.any_cons, any3, show (aget (didL x span acs) (2 : Int)).getD false = D n 2 from dF 2]
    have any1 : (([1, 2, 3] : List Int).any fun k => (aget (didL x span acs) k).getD false) = (D n 1 || (D n 2 || D n 3)) := by
      rw [List.any_cons, any2, show (aget (didL x span acs) (1 : Int)).getD false = D n 1 from dF 1]
    rw [any1] at hq2
    have W2 : Wk g' q2 i41 i60 i66 i68 (amap kStr kRow (rowsM xs D n)) [.str x.letter, .int .i64 ((r.sent + 1 : Nat) : Int), .int .i64 ((r.opened + b2n (D n 1 || (D n 2 || D n 3)) : Nat) : Int), .int .i64 r.clicked, .int .i64 r.bought, .int .i64 r.left] (didL x span acs) := by
      rw [hq2]; exact W1.count g60 _ (by simp)
    clear W1 W hq2 hqe1 k1
    refine newK_intro fun i92 q3 hq3 hqe3 => ?_
    have W3 := W2.later (hqe3 ▸ Ext.new hq3)
    have k3 : At q3 1 ⟨some (i92, 0), 2⟩ (cI [2, 3]) := ⟨rfl, .inr (by show q3.read i92 0 2 = _; rw [read_block (hqe3 ▸ set_eq _ _ _) (by simp)]; rfl)⟩
    refine spec33 hI W3.row (o := 3) (n := r.clicked) rfl (by omega) k3 (by simp) W3.did fun q4 hq4 => ⟨rfl, ?_⟩
    rw [any2] at hq4
    have W4 : Wk g' q4 i41 i60 i66 i68 (amap kStr kRow (rowsM xs D n)) [.str x.letter, .int .i64 ((r.sent + 1 : Nat) : Int), .int .i64 ((r.opened + b2n (D n 1 || (D n 2 || D n 3)) : Nat) : Int), .int .i64 ((r.clicked + b2n (D n 2 || D n 3) : Nat) : Int), .int .i64 r.bought, .int .i64 r.left] (didL x span acs) := by
      rw [hq4]; exact W3.count g60 _ (by simp)
    clear W3 W2 hq4 hqe3 k3 hq3
    refine newK_intro fun i96 q5 hq5 hqe5 => ?_
    have W5 := W4.later (hqe5 ▸ Ext.new hq5)
    have k5 : At q5 1 ⟨some (i96, 0), 1⟩ (cI [3]) := ⟨rfl, .inr (by show q5.read i96 0 1 = _; rw [read_block (hqe5 ▸ set_eq _ _ _) (by simp)]; rfl)⟩
    refine spec33 hI W5.row (o := 4) (n := r.bought) rfl (by omega) k5 (by simp) W5.did fun q6 hq6 => ⟨rfl, ?_⟩
    rw [any3] at hq6
    have W6 : Wk g' q6 i41 i60 i66 i68 (amap kStr kRow (rowsM xs D n)) [.str x.letter, .int .i64 ((r.sent + 1 : Nat) : Int), .int .i64 ((r.opened + b2n (D n 1 || (D n 2 || D n 3)) : Nat) : Int), .int .i64 ((r.clicked + b2n (D n 2 || D n 3) : Nat) : Int), .int .i64 ((r.bought + b2n (D n 3) : Nat) : Int), .int .i64 r.left] (didL x span acs) := by
      rw [hq6]; exact W5.count g60 _ (by simp)
    clear W5 W4 hq6 hqe5 k5 hq5
    refine newK_intro fun i100 q7 hq7 hqe7 => ?_
    have W7 := W6.later (hqe7 ▸ Ext.new hq7)
    have k7 : At q7 1 ⟨some (i100, 0), 1⟩ (cI [4]) := ⟨rfl, .inr (by show q7.read i100 0 1 = _; rw [read_block (hqe7 ▸ set_eq _ _ _) (by simp)]; rfl)⟩
    refine spec33 hI W7.row (o := 5) (n := r.left) rfl (by omega) k7 (by simp) W7.did fun q8 hq8 => ⟨rfl, ?_⟩
    rw [any4] at hq8
    have W8 : Wk g' q8 i41 i60 i66 i68 (amap kStr kRow (rowsM xs D n)) [.str x.letter, .int .i64 ((r.sent + 1 : Nat) : Int), .int .i64 ((r.opened + b2n (D n 1 || (D n 2 || D n 3)) : Nat) : Int), .int .i64 ((r.clicked + b2n (D n 2 || D n 3) : Nat) : Int), .int .i64 ((r.bought + b2n (D n 3) : Nat) : Int), .int .i64 ((r.left + b2n (D n 4) : Nat) : Int)] (didL x span acs) := by
      rw [hq8]; exact W7.count g60 _ (by simp)
    clear W7 W6 hq8 hqe7 k7 hq7
    refine ⟨x.letter, _, _, _, _, _, by rw [read_block W8.row (by simp)]; rfl, ?_⟩
    have hlet : r.letter = x.letter := by rw [← hrr]; rfl
    have hset := amap_set keyStr kRow x.letter (bump r (D n)) (rowsM xs D n)
    have hbr : kRow (bump r (D n)) = .agg [.str x.letter, .int .i64 ((r.sent + 1 : Nat) : Int), .int .i64 ((r.opened + b2n (D n 1 || (D n 2 || D n 3)) : Nat) : Int), .int .i64 ((r.clicked + b2n (D n 2 || D n 3) : Nat) : Int), .int .i64 ((r.bought + b2n (D n 3) : Nat) : Int), .int .i64 ((r.left + b2n (D n 4) : Nat) : Int)] := by
      show V.agg (rowC (bump r (D n))) = _
      unfold bump rowC
      rw [hlet]
    rw [hbr] at hset
    refine mapK_in W8.top hset ⟨xs.length - (n + 1), by omega, n + 1, by omega, by rw [w64] <;> omega, rfl, W8.ext.set hn2, ?_⟩
    rw [set_eq, hstep]
  obtain rfl : n = xs.length := by omega
  refine rows_out hI (by omega) hn2 e3 top fun s' hh ys ee hp hw hat => ?_
  rw [List.take_length] at hp
  exact hQ s' ys hh hE hsp (ex0.trans ee) hp hw hat
end
end Go.Proofs.YtmjfeabnioclgaaGreatDoorVc
