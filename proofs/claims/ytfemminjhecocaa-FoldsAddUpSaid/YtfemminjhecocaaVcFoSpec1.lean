/- Contracts: comparing lists of strings, cells; the checks of cells. -/
import Derived.Test.YtfemminjhecocaaVcFoMath
set_option linter.unusedSimpArgs false
set_option linter.unusedVariables false
namespace Go.Proofs.YtfemminjhecocaaVc
open Go.Proofs.Try (prog)
section
variable {I : Calls} {Q : Post} {h : Heap}
abbrev sls (k : Nat) (s : Sl) : V := .one (.slice k s)
theorem strs_len {s : Sl} {xs : List ByteArray} (hs : At h 1 s (strs xs)) : s.len = xs.length := by have := hs.1; simpa [strs] using this
theorem At.strRow {s : Sl} {xs : List ByteArray} {i : Nat} {x : ByteArray} {f : Nat → Nat → T} (hs : At h 1 s (strs xs)) (hx : xs[i]? = some x)
    (hk : ∀ b o, h.read b (o + (i : Int).toNat * 1) 1 = some [.str x] → f b o h) : derefK s.a f h :=
  hs.cell (c := .str x) (by unfold strs; rw [List.getElem?_map, hx]; rfl) hk
theorem spec60 (hI : Closed' prog Pm I) {n : ByteArray} (hQ : Q [boo false] h) : I 60 [str n] Q h := by
  refine hI.go _ _ (den60 I n Q) ?_
  unfold vc60; simpa using hQ
theorem spec45 (hI : Closed' prog Pm I) {a b : ByteArray} (hQ : Q [int (cmpS a b)] h) : I 45 [str a, str b] Q h := by
  refine hI.go _ _ (den45 I a b Q) ?_
  refine spec60 hI ⟨false, rfl, spec60 hI ⟨false, rfl, ?_⟩⟩
  show ifT _ _ _ _
  rw [bytes_lt]
  unfold cmpS at hQ
  refine ifT_dec (fun h1 => ?_) fun h1 => ifT_intro (fun h2 => ?_) fun h2 => ?_
  · rw [if_pos h1] at hQ; exact hQ
  · rw [if_neg h1, if_neg (fun e => by simp [e] at h2)] at hQ; exact hQ
  · have : a = b := by
      simp only [Bool.not_eq_false', Bool.or_eq_true, decide_eq_true_eq] at h2
      exact h2.resolve_left h1
    rw [if_neg h1, if_pos this] at hQ; exact hQ
theorem cmpL_at {a b : List ByteArray} {i : Nat} {x y : ByteArray} (hx : a[i]? = some x) (hy : b[i]? = some y) : cmpL (a.drop i) (b.drop i) = if cmpS x y = 0 then cmpL (a.drop (i + 1)) (b.drop (i + 1)) else cmpS x y := by
  obtain ⟨h1, rfl⟩ := List.getElem?_eq_some_iff.1 hx
  obtain ⟨h2, rfl⟩ := List.getElem?_eq_some_iff.1 hy
  rw [List.drop_eq_getElem_cons h1, List.drop_eq_getElem_cons h2]
  rfl
theorem spec30 (hI : Closed' prog Pm I) {s t : Sl} {a b : List ByteArray} (ha : At h 1 s (strs a)) (hb : At h 1 t (strs b)) (hl : a.length < 1000000) (hQ : Q [int (cmpL a b)] h) : I 30 [sls 1 s, sls 1 t] Q h := by
  refine hI.go _ _ (den30 I s t Q) ?_
  have l1 := strs_len ha
  have l2 := strs_len hb
  refine loopK_intro (fun (n : Int) h' m => h' = h ∧ ∃ i : Nat, i ≤ a.length ∧ i ≤ b.length ∧ n = i ∧ a.length - i = m ∧ cmpL a b = cmpL (a.drop i) (b.drop i)) a.length ⟨rfl, 0, by omega, by omega, rfl, rfl, rfl⟩ ?_
  rintro n h' m ⟨rfl, i, hi, hi2, rfl, rfl, he⟩
  refine ifT_dec (fun hlt => ⟨⟨by omega, hlt⟩, ?_⟩) fun hge => ?_
  · have hx := List.getElem?_eq_getElem (show i < a.length by omega)
    generalize a[i] = x at hx
    refine ha.strRow hx fun bb o hr => ⟨x, hr, ifT_dec (fun h1 => ?_) fun h1 => ⟨⟨by omega, by omega⟩, ?_⟩⟩
    · have : i = b.length := by omega
      rw [he, this, List.drop_length] at hQ
      have e : a.drop b.length ≠ [] := fun e => by have := congrArg List.length e; simp at this; omega
      revert hQ e
      cases a.drop b.length with
      | nil => intro _ e; exact absurd rfl e
      | cons z l => intro hQ _; exact hQ
    · have hy := List.getElem?_eq_getElem (show i < b.length by omega)
      generalize b[i] = y at hy
      refine hb.strRow hy fun bb o hr => ⟨y, hr, spec45 hI ⟨_, rfl, ifT_intro (fun h2 => ?_) fun h2 => ?_⟩⟩
      · rw [he, cmpL_at hx hy, if_neg (nd h2)] at hQ; exact hQ
      · rw [cmpL_at hx hy, if_pos (Decidable.of_not_not (nd' h2))] at he
        exact ⟨a.length - (i + 1), by omega, rfl, i + 1, by omega, by omega, by rw [w64] <;> omega, rfl, he⟩
  · have : i = a.length := by omega
    subst this
    rw [he, List.drop_length] at hQ
    refine ifT_dec (fun h1 => ?_) fun h1 => ?_
    · have e : b.drop a.length ≠ [] := fun e => by have := congrArg List.length e; simp at this; omega
      revert hQ e
      cases b.drop a.length with
      | nil => intro _ e; exact absurd rfl e
      | cons z l => intro hQ _; exact hQ
    · have : b.drop a.length = [] := List.drop_eq_nil_of_le (by omega)
      rw [this] at hQ; exact hQ
theorem spec29 (hI : Closed' prog Pm I) {x y : Cel} (hx : At h 1 x.kl (strs x.keys)) (hy : At h 1 y.kl (strs y.keys)) (hl : x.keys.length < 1000000) (hQ : Q [int (cmpL x.keys y.keys)] h) : I 29 [.agg (celC x), .agg (celC y)] Q h := by
  refine hI.go _ _ (den29 I x.kl x.many x.cents y.kl y.many y.cents Q) ?_
  exact spec30 hI hx hy hl ⟨_, rfl, hQ⟩
theorem spec31 (hI : Closed' prog Pm I) {s t : Sl} {a b : List ByteArray} (ha : At h 1 s (strs a)) (hb : At h 1 t (strs b)) (hl : a.length < 1000000) (hQ : Q [boo (decide (a = b))] h) : I 31 [sls 1 s, sls 1 t] Q h := by
  refine hI.go _ _ (den31 I s t Q) ?_
  have l1 := strs_len ha
  have l2 := strs_len hb
  have no : a ≠ b → Q [boo false] h := fun h1 => by rw [decide_eq_false h1] at hQ; exact hQ
  refine ifT_intro (fun h1 => no fun e => nd h1 (by rw [l1, l2, e])) fun h1 => ?_
  have hll : a.length = b.length := by have := Decidable.of_not_not (nd' h1); omega
  refine loopK_intro (fun (n : Int) h' m => h' = h ∧ ∃ i : Nat, i ≤ a.length ∧ n = i ∧ a.length - i = m ∧ a.take i = b.take i) a.length ⟨rfl, 0, by omega, rfl, rfl, rfl⟩ ?_
  rintro n h' m ⟨rfl, i, hi, rfl, rfl, he⟩
  refine ifT_dec (fun hlt => ⟨⟨by omega, hlt⟩, ?_⟩) fun hge => ?_
  · have hx := List.getElem?_eq_getElem (show i < a.length by omega)
    generalize a[i] = x at hx
    have hy := List.getElem?_eq_getElem (show i < b.length by omega)
    generalize b[i] = y at hy
    refine ha.strRow hx fun bb o hr => ⟨x, hr, ⟨by omega, by omega⟩, hb.strRow hy fun bb o hr => ⟨y, hr, ifT_intro (fun h2 => no fun e => nd h2 ?_) fun h2 => ?_⟩⟩
    · rw [e, hy] at hx; exact (Option.some.inj hx).symm
    · have e : x = y := Decidable.of_not_not (nd' h2)
      refine ⟨a.length - (i + 1), by omega, rfl, i + 1, by omega, by rw [w64] <;> omega, rfl, ?_⟩
      rw [take_snoc hx, take_snoc hy, he, e]
  · have : i = a.length := by omega
    subst this
    rw [List.take_length, hll, List.take_length] at he
    rw [decide_eq_true he] at hQ; exact hQ
theorem spec36 (hI : Closed' prog Pm I) {x y : Cel} (hx : At h 1 x.kl (strs x.keys)) (hy : At h 1 y.kl (strs y.keys)) (hl : x.keys.length < 1000000) (hQ : Q [boo (decide (pc x = pc y))] h) : I 36 [.agg (celC x), .agg (celC y)] Q h := by
  refine hI.go _ _ (den36 I x.kl x.many x.cents y.kl y.many y.cents Q) ?_
  refine spec31 hI hx hy hl ⟨_, rfl, ifT_dec (fun h1 => ifT_dec (fun h2 => ?_) fun h2 => ?_) fun h1 => ?_⟩
  · have : decide (pc x = pc y) = decide (x.cents = y.cents) := by simp [pc, h1, h2]
    rw [this] at hQ; exact hQ
  · have : decide (pc x = pc y) = false := by simp [pc, h1, h2]
    rw [this] at hQ; exact hQ
  · have : decide (pc x = pc y) = false := by simp [pc, h1]
    rw [this] at hQ; exact hQ
theorem spec12 (hI : Closed' prog Pm I) {s t : Sl} {a b : List Cel} (ha : Cels h s a) (hb : Cels h t b) (hl : a.length < 1000000) (hk : ∀ x ∈ a, x.keys.length < 1000000) (hQ : Q [boo (decide (a.map pc = b.map pc))] h) : I 12 [sls 3 s, sls 3 t] Q h := by
  refine hI.go _ _ (den12 I s t Q) ?_
  refine hI.go _ _ (den35 I s t (some (36, [])) _) ?_
  have l1 := ha.len
  have l2 := hb.len
  have no : a.map pc ≠ b.map pc → Q [boo false] h := fun h1 => by rw [decide_eq_false h1] at hQ; exact hQ
  refine ifT_intro (fun h1 => ⟨_, rfl, no fun e => nd h1 ?_⟩) fun h1 => ?_
  · have := congrArg List.length e; simp at this; rw [l1, l2, this]
  have hll : a.length = b.length := by have := Decidable.of_not_not (nd' h1); omega
  refine loopK_intro (fun (n : Int) h' m => h' = h ∧ ∃ i : Nat, i ≤ a.length ∧ n = i ∧ a.length - i = m ∧ (a.map pc).take i = (b.map pc).take i) a.length ⟨rfl, 0, by omega, rfl, rfl, rfl⟩ ?_
  rintro n h' m ⟨rfl, i, hi, rfl, rfl, he⟩
  refine ifT_dec (fun hlt => ⟨⟨by omega, hlt⟩, ?_⟩) fun hge => ?_
  · have hx := List.getElem?_eq_getElem (show i < a.length by omega)
    generalize a[i] = x at hx
    have hy := List.getElem?_eq_getElem (show i < b.length by omega)
    generalize b[i] = y at hy
    have hx' : (a.map pc)[i]? = some (pc x) := by rw [List.getElem?_map, hx]; rfl
    have hy' : (b.map pc)[i]? = some (pc y) := by rw [List.getElem?_map, hy]; rfl
    refine ha.at_.row celC_length (by decide) hx fun bb o hr => ⟨x.kl, x.many, x.cents, hr, ⟨by omega, by omega⟩, hb.at_.row celC_length (by decide) hy fun bb o hr => ⟨y.kl, y.many, y.cents, hr, ?_⟩⟩
    refine spec36 hI (x := x) (y := y) (ha.keys x (List.mem_of_getElem? hx)) (hb.keys y (List.mem_of_getElem? hy)) (hk x (List.mem_of_getElem? hx)) ⟨_, rfl, ifT_intro (fun h2 => ?_) fun h2 => ?_⟩
    · refine ⟨_, rfl, no fun e => nd h2 ?_⟩
      rw [e, hy'] at hx'; exact (Option.some.inj hx').symm
    · have e : pc x = pc y := Decidable.of_not_not (nd' h2)
      refine ⟨a.length - (i + 1), by omega, rfl, i + 1, by omega, by rw [w64] <;> omega, rfl, ?_⟩
      rw [take_snoc hx', take_snoc hy', he, e]
  · have : i = a.length := by omega
    subst this
    rw [List.take_of_length_le (by simp), List.take_of_length_le (by simp; omega)] at he
    rw [decide_eq_true he] at hQ; exact ⟨_, rfl, hQ⟩
theorem spec34 (hI : Closed' prog Pm I) {x : Cel} (hQ : Q [boo (fullB x)] h) : I 34 [.agg (celC x)] Q h := by
  refine hI.go _ _ (den34 I x.kl x.many x.cents Q) ?_
  unfold fullB at hQ
  refine spec22 hI ⟨_, rfl, ifT_intro (fun h1 => spec22 hI ⟨_, rfl, ?_⟩) fun h1 => ?_⟩
  · rw [h1, Bool.true_and] at hQ; exact hQ
  · rw [h1, Bool.false_and] at hQ; exact hQ
theorem spec33 (hI : Closed' prog Pm I) {x : Cel} (hQ : Q [boo (!fullB x)] h) : I 33 [.agg (celC x)] Q h := by
  refine hI.go _ _ (den33 I x.kl x.many x.cents Q) ?_
  exact spec34 hI ⟨_, rfl, hQ⟩
theorem spec32 (hI : Closed' prog Pm I) {s : Sl} {a : List Cel} (ha : At h 3 s (rows celC a)) (hl : a.length < 1000000) (hQ : Q [boo (a.any fun c => !fullB c)] h) : I 32 [sls 3 s, .one (.func (some (33, [])))] Q h := by
  refine hI.go _ _ (den32 I s (some (33, [])) Q) ?_
  refine hI.go _ _ (den46 I s (some (33, [])) _) ?_
  have l1 := ha.rowsLen celC_length (by decide)
  refine loopK_intro (fun (n : Int) h' m => h' = h ∧ ∃ i : Nat, i ≤ a.length ∧ n = i ∧ a.length - i = m ∧ ((a.take i).any fun c => !fullB c) = false) a.length ⟨rfl, 0, by omega, rfl, rfl, rfl⟩ ?_
  rintro n h' m ⟨rfl, i, hi, rfl, rfl, he⟩
  refine ifT_dec (fun hlt => ⟨⟨by omega, hlt⟩, ?_⟩) fun hge => ?_
  · have hx := List.getElem?_eq_getElem (show i < a.length by omega)
    generalize a[i] = x at hx
    refine ha.row celC_length (by decide) hx fun bb o hr => ⟨x.kl, x.many, x.cents, hr, spec33 hI (x := x) ⟨_, rfl, ifT_intro (fun h2 => ⟨_, rfl, ?_⟩) fun h2 => ?_⟩⟩
    · have e : (a.any fun c => !fullB c) = true := List.any_eq_true.2 ⟨x, List.mem_of_getElem? hx, h2⟩
      rw [e] at hQ
      rw [decide_eq_true (show (i : Int) ≥ 0 by omega)]; exact hQ
    · refine ⟨a.length - (i + 1), by omega, rfl, i + 1, by omega, by rw [w64] <;> omega, rfl, ?_⟩
      rw [any_take_step hx, he, h2]; rfl
  · have : i = a.length := by omega
    subst this
    rw [List.take_length] at he
    rw [he] at hQ
    exact ⟨_, rfl, hQ⟩
theorem spec43 (hI : Closed' prog Pm I) {s : ByteArray} (hQ : Q [boo (!isKey s)] h) : I 43 [str s] Q h := by
  refine hI.go _ _ (den43 I s Q) ?_
  exact spec37 hI ⟨_, rfl, hQ⟩
theorem spec42 (hI : Closed' prog Pm I) {s : Sl} {a : List ByteArray} (ha : At h 1 s (strs a)) (hl : a.length < 1000000) (hQ : Q [boo (a.any fun c => !isKey c)] h) : I 42 [sls 1 s, .one (.func (some (43, [])))] Q h := by
  refine hI.go _ _ (den42 I s (some (43, [])) Q) ?_
  refine hI.go _ _ (den57 I s (some (43, [])) _) ?_
  have l1 := strs_len ha
  refine loopK_intro (fun (n : Int) h' m => h' = h ∧ ∃ i : Nat, i ≤ a.length ∧ n = i ∧ a.length - i = m ∧ ((a.take i).any fun c => !isKey c) = false) a.length ⟨rfl, 0, by omega, rfl, rfl, rfl⟩ ?_
  rintro n h' m ⟨rfl, i, hi, rfl, rfl, he⟩
  refine ifT_dec (fun hlt => ⟨⟨by omega, hlt⟩, ?_⟩) fun hge => ?_
  · have hx := List.getElem?_eq_getElem (show i < a.length by omega)
    generalize a[i] = x at hx
    refine ha.strRow hx fun bb o hr => ⟨x, hr, spec43 hI ⟨_, rfl, ifT_intro (fun h2 => ⟨_, rfl, ?_⟩) fun h2 => ?_⟩⟩
    · have e : (a.any fun c => !isKey c) = true := List.any_eq_true.2 ⟨x, List.mem_of_getElem? hx, h2⟩
      rw [e] at hQ
      rw [decide_eq_true (show (i : Int) ≥ 0 by omega)]; exact hQ
    · refine ⟨a.length - (i + 1), by omega, rfl, i + 1, by omega, by rw [w64] <;> omega, rfl, ?_⟩
      rw [any_take_step hx, he, h2]; rfl
  · have : i = a.length := by omega
    subst this
    rw [List.take_length] at he
    rw [he] at hQ
    exact ⟨_, rfl, hQ⟩
/-- CheckCells. -/
theorem spec27 (hI : Closed' prog Pm I) {s : Sl} {xs : List Cel} (hx : Cels h s xs) (hl : xs.length < 1000000) (hk : ∀ x ∈ xs, x.keys.length < 1000000) (hQ : Q [int (errC xs)] h) : I 27 [sls 3 s] Q h := by
  refine hI.go _ _ (den27 I s Q) ?_
  have l1 := hx.len
  unfold errC at hQ
  refine ifT_dec (fun h1 => ?_) fun h1 => ?_
  · rw [if_pos (by omega)] at hQ; exact hQ
  rw [if_neg (by omega)] at hQ
  refine loopK_intro (fun (n : Int) h' m => h' = h ∧ ∃ i : Nat, i ≤ xs.length ∧ n = i ∧ xs.length - i = m ∧ scanC (dimN xs) none xs = scanC (dimN xs) (pvC xs i) (xs.drop i)) xs.length ⟨rfl, 0, by omega, rfl, rfl, rfl⟩ ?_
  rintro n h' m ⟨rfl, i, hi, rfl, rfl, he⟩
  refine ifT_dec (fun hlt => ⟨⟨by omega, hlt⟩, ?_⟩) fun hge => ?_
  · have hc := List.getElem?_eq_getElem (show i < xs.length by omega)
    generalize xs[i] = c at hc
    have hcm := List.mem_of_getElem? hc
    have hkl := strs_len (hx.keys c hcm)
    have hd : ∃ c0, xs[0]? = some c0 ∧ dimN xs = c0.keys.length := by
      cases xs with
      | nil => simp at hc
      | cons c0 l => exact ⟨c0, rfl, rfl⟩
    obtain ⟨c0, hc0, hd⟩ := hd
    have hkl0 := strs_len (hx.keys c0 (List.mem_of_getElem? hc0))
    rw [scanC_at hc] at he
    refine hx.at_.row celC_length (by decide) hc fun bb o hr => ⟨c.kl, c.many, c.cents, hr, ?_⟩
    have fin : ∀ e : Int, errC1 (dimN xs) (pvC xs i) c = e → e ≠ 0 → Q [int e] h' := fun e h1 h2 => by
      rw [he, if_pos (by rw [h1]; exact h2), h1] at hQ; exact hQ
    refine joinK_intro (fun (b : Bool) h2 => h2 = h' ∧ b = decide (c.keys.length ≠ dimN xs ∨ 6 < c.keys.length)) ?_ fun jk hjk => ⟨⟨by omega, by omega⟩, hx.at_.rowCell celC_length (by decide) (i := 0) (j := 0) (c := .slice 1 c0.kl) hc0 rfl fun bb o hr => ⟨c0.kl, ?_, ifT_intro (fun h2 => hjk _ _ ⟨rfl, ?_⟩) fun h2 => hjk _ _ ⟨rfl, ?_⟩⟩⟩
    case refine_2 => simpa using hr
    case refine_3 =>
      have := nd h2
      exact (decide_eq_true (.inl (by omega))).symm
    case refine_4 =>
      have := Decidable.of_not_not (nd' h2)
      rw [decide_eq_decide]; omega
    rintro b g ⟨rfl, rfl⟩
    refine ifT_dec (fun h2 => fin 3 (by unfold errC1; rw [if_pos h2]) (by decide)) fun h2 => ?_
    refine spec42 hI (hx.keys c hcm) (hk c hcm) ⟨_, rfl, ifT_intro (fun h3 => fin 5 (by unfold errC1; rw [if_neg h2, if_pos h3]) (by decide)) fun h3 => ?_⟩
    refine joinK_intro (fun (b : Bool) h2 => h2 = g ∧ b = notUp (pvC xs i) c) ?_ fun jk hjk => ifT_dec (fun h4 => ?_) fun h4 => hjk _ _ ⟨rfl, ?_⟩
    case refine_2 =>
      have ew : IntKind.i64.wrap ((i : Int) - 1) = ((i - 1 : Nat) : Int) := by rw [w64] <;> omega
      rw [ew]
      have hc1 := List.getElem?_eq_getElem (show i - 1 < xs.length by omega)
      generalize xs[i - 1] = c1 at hc1
      refine ⟨⟨by omega, by omega⟩, hx.at_.rowCell celC_length (by decide) (j := 0) (c := .slice 1 c1.kl) hc1 rfl fun bb o hr => ⟨c1.kl, hr, spec30 hI (hx.keys c hcm) (hx.keys c1 (List.mem_of_getElem? hc1)) (hk c hcm) ⟨_, rfl, hjk _ _ ⟨rfl, ?_⟩⟩⟩⟩
      unfold pvC
      rw [if_neg (by omega), hc1]
      rfl
    case refine_3 =>
      have : i = 0 := by omega
      subst this; rfl
    rintro b g2 ⟨rfl, rfl⟩
    refine ifT_intro (fun h4 => fin 7 (by unfold errC1; rw [if_neg h2, if_neg (by rw [h3]; decide), if_pos h4]) (by decide)) fun h4 => ?_
    refine spec34 hI (x := c) ⟨_, rfl, ifT_intro (fun h5 => fin 1 (by unfold errC1; rw [if_neg h2, if_neg (by rw [h3]; decide), if_neg (by rw [h4]; decide), if_pos (nb h5)]) (by decide)) fun h5 => ?_⟩
    have h0 : errC1 (dimN xs) (pvC xs i) c = 0 := by unfold errC1; rw [if_neg h2, if_neg (by rw [h3]; decide), if_neg (by rw [h4]; decide), if_neg (by rw [nb' h5]; decide)]
    rw [if_neg (by rw [h0]; decide)] at he
    exact ⟨xs.length - (i + 1), by omega, rfl, i + 1, by omega, by rw [w64] <;> omega, rfl, he⟩
  · have : i = xs.length := by omega
    subst this
    rw [he, List.drop_length] at hQ
    exact hQ
end
end Go.Proofs.YtfemminjhecocaaVc
