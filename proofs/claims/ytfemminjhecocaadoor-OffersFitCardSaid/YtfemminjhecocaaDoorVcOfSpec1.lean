/- Contracts of what OffersFit reaches: what is wrong with offers and baskets. -/
import Derived.Test.YtfemminjhecocaaDoorVcOfVc
import Derived.Test.YtfemminjhecocaaDoorVcOfMath
set_option linter.unusedSimpArgs false
set_option linter.unusedVariables false
namespace Go.Proofs.YtfemminjhecocaaDoorVc
open Go.Proofs.Tryd (prog)

theorem nw {a b n : Int} (h : (!(decide (a ≤ n) && decide (n ≤ b))) = true) : ¬ (a ≤ n ∧ n ≤ b) := fun ⟨h1, h2⟩ => by simp [h1, h2] at h
theorem nw' {a b n : Int} (h : (!(decide (a ≤ n) && decide (n ≤ b))) = false) : a ≤ n ∧ n ≤ b := by
  simp only [Bool.not_eq_false', Bool.and_eq_true, decide_eq_true_eq] at h
  exact h
theorem nwi {a b n : Int} : (!(decide (a ≤ n) && decide (n ≤ b))) = true ↔ ¬ (a ≤ n ∧ n ≤ b) := ⟨nw, fun h => by
  cases h2 : (!(decide (a ≤ n) && decide (n ≤ b))) with
  | true => rfl
  | false => exact absurd (nw' h2) h⟩

/-- A row of strings is read. -/
theorem At.strRow {h : Heap} {s : Sl} {xs : List ByteArray} {i : Nat} {x : ByteArray} {f : Nat → Nat → T} (hs : At h 1 s (strs xs)) (hx : xs[i]? = some x)
    (hk : ∀ b o, h.read b (o + (i : Int).toNat * 1) 1 = some [.str x] → f b o h) : derefK s.a f h := by
  have hl : s.len = xs.length := by have := hs.1; simpa [strs] using this
  have hi : i < xs.length := (List.getElem?_eq_some_iff.1 hx).1
  refine hs.one (i := (i : Int)) (by omega) (by omega) fun b o c hc hr => hk b o ?_
  rw [Int.toNat_natCast] at hc
  have : c = .str x := by
    unfold strs at hc
    rw [List.getElem?_map, hx] at hc
    exact (Option.some.inj hc).symm
  subst this
  exact hr
/-- Offers, items in memory. -/
structure Offs (h : Heap) (s : Sl) (xs : List Offr) : Prop where
  at_ : At h 12 s (rows offC xs)
  tg : ∀ x ∈ xs, At h 1 x.tg (strs x.tags)
theorem Offs.len {h : Heap} {s : Sl} {xs : List Offr} (o : Offs h s xs) : s.len = xs.length := o.at_.rowsLen offC_length (by decide)
theorem Ext.offs {h h' : Heap} (x : Ext h h') {s : Sl} {xs : List Offr} (o : Offs h s xs) : Offs h' s xs := ⟨x.at_ o.at_, fun y hy => x.at_ (o.tg y hy)⟩
structure Itms (h : Heap) (s : Sl) (xs : List Itm) : Prop where
  at_ : At h 4 s (rows itmC xs)
  tg : ∀ x ∈ xs, At h 1 x.tg (strs x.tags)
theorem Itms.len {h : Heap} {s : Sl} {xs : List Itm} (o : Itms h s xs) : s.len = xs.length := o.at_.rowsLen itmC_length (by decide)
theorem Ext.itms {h h' : Heap} (x : Ext h h') {s : Sl} {xs : List Itm} (o : Itms h s xs) : Itms h' s xs := ⟨x.at_ o.at_, fun y hy => x.at_ (o.tg y hy)⟩

/-! ### the document's table of amounts -/
def mostM : List (V × V) := [(.one (.int .i64 1), .one (.int .i64 100)), (.one (.int .i64 2), .one (.int .i64 1000000000000)), (.one (.int .i64 4), .one (.int .i64 1000000000000)), (.one (.int .i64 3), .one (.int .i64 20))]
def mostK (k : Int) : Int := if k = 1 then 100 else if k = 2 then 1000000000000 else if k = 4 then 1000000000000 else if k = 3 then 20 else 0
def lowK (k : Int) : Int := if k = 3 then 1 else 0
def highK (k : Int) : Int := if k = 3 then 20 else 0
theorem most_get (k : Int) : ∃ b, mapGet (.one (.int .i64 k)) (.one (.int .i64 0)) mostM = some (.one (.int .i64 (mostK k)), b) := by
  unfold mostK mostM
  simp only [mapGet, keyEq, eqKind, if_true]
  by_cases h1 : k = 1
  · simp [h1]
  by_cases h2 : k = 2
  · simp [h2]
  by_cases h3 : k = 4
  · simp [h3]
  by_cases h4 : k = 3
  · simp [h4]
  · simp [h1, h2, h3, h4]
theorem mostK_zero (k : Int) : mostK k = 0 ↔ ¬ (1 ≤ k ∧ k ≤ 4) := by
  unfold mostK
  repeat' split
  all_goals omega
theorem okN_iff {x : Offr} (h : 1 ≤ x.kind ∧ x.kind ≤ 4) : okN x ↔ (1 ≤ x.a ∧ x.a ≤ mostK x.kind ∧ lowK x.kind ≤ x.b ∧ x.b ≤ highK x.kind) ∧ 0 ≤ x.least ∧ x.least ≤ 1000000000000 ∧ 0 ≤ x.most ∧ x.most ≤ 1000000000000 ∧ 0 ≤ x.order ∧ x.order ≤ 1000 := by
  unfold okN okAm mostK lowK highK
  repeat' split
  all_goals omega

section
variable {I : Calls} {Q : Post} {h : Heap}
theorem spec119 (hI : Closed' prog Pm I) {s : Sl} {ys : List Offr} {g : FuncId} {i : Nat} {p : Offr → Bool} (hs : At h 12 s (rows offC ys)) (hlen : ys.length < 1000)
    (hg : ∀ y Q', Q' [boo (p y)] h → I g [.agg (offC y), .one (.ptr (some (i, 0)))] Q' h)
    (hn : (∀ y ∈ ys, p y = false) → Q [int (-1)] h) (hy : ∀ (j : Nat) y, ys[j]? = some y → p y = true → (∀ z ∈ ys.take j, p z = false) → Q [int j] h) : I 119 [.one (.slice 12 s), .one (.func (some (g, [(i, 0)])))] Q h := by
  have hl : s.len = ys.length := hs.rowsLen offC_length (by decide)
  refine hI.go _ _ (den119 I s _ _) ?_
  refine loopK_intro (fun (a : Int) h' m => h' = h ∧ ∃ j : Nat, j ≤ ys.length ∧ a = j ∧ ys.length - j = m ∧ ∀ z ∈ ys.take j, p z = false) ys.length ⟨rfl, 0, by omega, rfl, rfl, by simp⟩ ?_
  rintro a h' m ⟨rfl, j, hj, rfl, rfl, hno⟩
  refine ifT_dec (fun hlt => ⟨⟨by omega, hlt⟩, ?_⟩) (fun hge => ?_)
  · have hx := List.getElem?_eq_getElem (show j < ys.length by omega)
    generalize ys[j] = y at hx
    refine hs.row offC_length (by decide) hx fun bb o hr => ⟨y.key, y.kind, y.a, y.b, y.tg, y.least, y.most, y.group, y.alone, y.order, y.from_, y.to_, hr, ?_⟩
    refine hg y _ ⟨_, rfl, ifT_intro (fun h1 => hy j y hx h1 hno) fun h1 => ?_⟩
    refine ⟨ys.length - (j + 1), by omega, rfl, j + 1, by omega, by rw [w64] <;> omega, rfl, fun z hz => ?_⟩
    rw [List.take_add_one, hx] at hz
    rcases List.mem_append.1 hz with hz | hz
    · exact hno z hz
    · have : z = y := by simpa using hz
      rw [this]; exact h1
  · have : j = ys.length := by omega
    subst this
    rw [List.take_length] at hno
    exact hn hno
theorem spec76 (hI : Closed' prog Pm I) {s : Sl} {ys : List Offr} {g : FuncId} {i : Nat} {p : Offr → Bool} (hs : At h 12 s (rows offC ys)) (hlen : ys.length < 1000)
    (hg : ∀ y Q', Q' [boo (p y)] h → I g [.agg (offC y), .one (.ptr (some (i, 0)))] Q' h) (hQ : Q [boo (ys.any p)] h) : I 76 [.one (.slice 12 s), .one (.func (some (g, [(i, 0)])))] Q h := by
  refine hI.go _ _ (den76 I s _ _) ?_
  refine spec119 hI hs hlen hg (fun hn => ⟨_, rfl, ?_⟩) fun j y hx h1 _ => ⟨_, rfl, ?_⟩
  · have e : ys.any p = false := by
      cases h2 : ys.any p with
      | false => rfl
      | true => obtain ⟨y, hy, h3⟩ := List.any_eq_true.1 h2; rw [hn y hy] at h3; cases h3
    rw [e] at hQ; exact hQ
  · have e : ys.any p = true := List.any_eq_true.2 ⟨y, List.mem_of_getElem? hx, h1⟩
    have e2 : decide ((j : Int) ≥ 0) = true := by simp
    rw [e] at hQ; rw [e2]; exact hQ
theorem spec79 (hI : Closed' prog Pm I) {i : Nat} {x y : Offr} (hi : h i = some (.cells false (offC x))) (hQ : Q [boo (decide (y.key = x.key))] h) : I 79 [.agg (offC y), .one (.ptr (some (i, 0)))] Q h := by
  refine hI.go _ _ (den79 I y.key y.kind y.a y.b y.tg y.least y.most y.group y.alone y.order y.from_ y.to_ i 0 Q) ?_
  exact ⟨x.key, read_cell hi rfl, hQ⟩
theorem spec77 (hI : Closed' prog Pm I) {i : Nat} {x y : Offr} (hi : h i = some (.cells false (offC x))) (hQ : Q [boo (decide (y.key = x.key))] h) : I 77 [.agg (offC y), .one (.ptr (some (i, 0)))] Q h := by
  refine hI.go _ _ (den77 I y.key y.kind y.a y.b y.tg y.least y.most y.group y.alone y.order y.from_ y.to_ i 0 Q) ?_
  exact ⟨x.key, read_cell hi rfl, hQ⟩
theorem spec120 (hI : Closed' prog Pm I) {s : Sl} {ys : List Itm} {g : FuncId} {i : Nat} {p : Itm → Bool} (hs : At h 4 s (rows itmC ys)) (hlen : ys.length < 1000)
    (hg : ∀ y Q', Q' [boo (p y)] h → I g [.agg (itmC y), .one (.ptr (some (i, 0)))] Q' h)
    (hn : (∀ y ∈ ys, p y = false) → Q [int (-1)] h) (hy : ∀ (j : Nat) y, ys[j]? = some y → p y = true → (∀ z ∈ ys.take j, p z = false) → Q [int j] h) : I 120 [.one (.slice 4 s), .one (.func (some (g, [(i, 0)])))] Q h := by
  have hl : s.len = ys.length := hs.rowsLen itmC_length (by decide)
  refine hI.go _ _ (den120 I s _ _) ?_
  refine loopK_intro (fun (a : Int) h' m => h' = h ∧ ∃ j : Nat, j ≤ ys.length ∧ a = j ∧ ys.length - j = m ∧ ∀ z ∈ ys.take j, p z = false) ys.length ⟨rfl, 0, by omega, rfl, rfl, by simp⟩ ?_
  rintro a h' m ⟨rfl, j, hj, rfl, rfl, hno⟩
  refine ifT_dec (fun hlt => ⟨⟨by omega, hlt⟩, ?_⟩) (fun hge => ?_)
  · have hx := List.getElem?_eq_getElem (show j < ys.length by omega)
    generalize ys[j] = y at hx
    refine hs.row itmC_length (by decide) hx fun bb o hr => ⟨y.key, y.cents, y.many, y.tg, hr, ?_⟩
    refine hg y _ ⟨_, rfl, ifT_intro (fun h1 => hy j y hx h1 hno) fun h1 => ?_⟩
    refine ⟨ys.length - (j + 1), by omega, rfl, j + 1, by omega, by rw [w64] <;> omega, rfl, fun z hz => ?_⟩
    rw [List.take_add_one, hx] at hz
    rcases List.mem_append.1 hz with hz | hz
    · exact hno z hz
    · have : z = y := by simpa using hz
      rw [this]; exact h1
  · have : j = ys.length := by omega
    subst this
    rw [List.take_length] at hno
    exact hn hno
theorem spec82 (hI : Closed' prog Pm I) {s : Sl} {ys : List Itm} {g : FuncId} {i : Nat} {p : Itm → Bool} (hs : At h 4 s (rows itmC ys)) (hlen : ys.length < 1000)
    (hg : ∀ y Q', Q' [boo (p y)] h → I g [.agg (itmC y), .one (.ptr (some (i, 0)))] Q' h) (hQ : Q [boo (ys.any p)] h) : I 82 [.one (.slice 4 s), .one (.func (some (g, [(i, 0)])))] Q h := by
  refine hI.go _ _ (den82 I s _ _) ?_
  refine spec120 hI hs hlen hg (fun hn => ⟨_, rfl, ?_⟩) fun j y hx h1 _ => ⟨_, rfl, ?_⟩
  · have e : ys.any p = false := by
      cases h2 : ys.any p with
      | false => rfl
      | true => obtain ⟨y, hy, h3⟩ := List.any_eq_true.1 h2; rw [hn y hy] at h3; cases h3
    rw [e] at hQ; exact hQ
  · have e : ys.any p = true := List.any_eq_true.2 ⟨y, List.mem_of_getElem? hx, h1⟩
    have e2 : decide ((j : Int) ≥ 0) = true := by simp
    rw [e] at hQ; rw [e2]; exact hQ
theorem spec83 (hI : Closed' prog Pm I) {i : Nat} {x y : Itm} (hi : h i = some (.cells false (itmC x))) (hQ : Q [boo (decide (y.key = x.key))] h) : I 83 [.agg (itmC y), .one (.ptr (some (i, 0)))] Q h := by
  refine hI.go _ _ (den83 I y.key y.cents y.many y.tg i 0 Q) ?_
  exact ⟨x.key, read_cell hi rfl, hQ⟩
theorem spec84 (hI : Closed' prog Pm I) {i : Nat} {x y : Itm} (hi : h i = some (.cells false (itmC x))) (hQ : Q [boo (decide (y.key = x.key))] h) : I 84 [.agg (itmC y), .one (.ptr (some (i, 0)))] Q h := by
  refine hI.go _ _ (den84 I y.key y.cents y.many y.tg i 0 Q) ?_
  exact ⟨x.key, read_cell hi rfl, hQ⟩

theorem spec80 (hI : Closed' prog Pm I) {x : Offr} (hQ : Q [boo (decide (okAm x))] h) : I 80 [.agg (offC x)] Q h := by
  refine hI.go _ _ (den80 I x.key x.kind x.a x.b x.tg x.least x.most x.group x.alone x.order x.from_ x.to_ Q) ?_
  have fin : ∀ b : Bool, (b = true ↔ okAm x) → Q [boo b] h := fun b hb => by
    have : b = decide (okAm x) := by rw [Bool.eq_iff_iff, hb]; simp
    rw [this]; exact hQ
  have nx {a b n : Int} (h : (decide (a ≤ n) && decide (n ≤ b)) = true) : a ≤ n ∧ n ≤ b := by simpa using h
  have nx' {a b n : Int} (h : (decide (a ≤ n) && decide (n ≤ b)) = false) : ¬ (a ≤ n ∧ n ≤ b) := fun ⟨h1, h2⟩ => by simp [h1, h2] at h
  refine ifT_dec (fun h1 => ?_) fun h1 => ifT_dec (fun h2 => ?_) fun h2 => ?_
  · refine joinK_intro (fun (b : Bool) h' => h' = h ∧ (b = true ↔ okAm x)) (fun b h' ⟨e, hb⟩ => by subst e; exact fin b hb) fun j hj => spec59 hI ⟨_, rfl, ifT_intro (fun h3 => hj _ _ ⟨rfl, ?_⟩) fun h3 => hj _ _ ⟨rfl, ?_⟩⟩
    · have := nx h3; simp only [decide_eq_true_eq]; unfold okAm; omega
    · have := nx' h3; simp only [Bool.false_eq_true, false_iff]; unfold okAm; omega
  · refine joinK_intro (fun (b : Bool) h' => h' = h ∧ (b = true ↔ okAm x)) (fun b h' ⟨e, hb⟩ => by subst e; exact fin b hb) fun j hj => spec59 hI ⟨_, rfl, ifT_intro (fun h3 => spec59 hI ⟨_, rfl, hj _ _ ⟨rfl, ?_⟩⟩) fun h3 => hj _ _ ⟨rfl, ?_⟩⟩
    · have := nx h3; simp only [Bool.and_eq_true, decide_eq_true_eq]; unfold okAm; omega
    · have := nx' h3; simp only [Bool.false_eq_true, false_iff]; unfold okAm; omega
  · refine spec59 hI ⟨_, rfl, ifT_intro (fun h3 => fin _ ?_) fun h3 => fin _ ?_⟩
    · have := nx h3; simp only [decide_eq_true_eq]; unfold okAm; omega
    · have := nx' h3; simp only [Bool.false_eq_true, false_iff]; unfold okAm; omega
/-! ### tags -/
theorem spec81 (hI : Closed' prog Pm I) {s : Sl} {xs : List ByteArray} (hs : At h 1 s (strs xs)) (hQ : ∀ h', Ext h h' → Q [int (errTg xs)] h') : I 81 [.one (.slice 1 s)] Q h := by
  have hl : s.len = xs.length := by have := hs.1; simpa [strs] using this
  refine hI.go _ _ (den81 I s Q) ?_
  unfold vc81
  rw [hl]
  refine ifT_dec (fun h1 => ?_) fun h1 => ?_
  · have e : errTg xs = 2 := if_pos (by omega)
    rw [← e]; exact hQ _ (Ext.refl _)
  have e0 : errTg xs = scanT none xs := if_neg (by omega)
  have bad : ∀ e (g' : Heap), Ext h g' → errTg xs = e → Q [int e] g' := fun e g' hg he => by rw [← he]; exact hQ _ hg
  refine loopK_intro (fun (a : Int) h' m => Ext h h' ∧ ∃ i : Nat, i ≤ xs.length ∧ a = i ∧ xs.length - i = m ∧ errTg xs = scanT (prevOf xs i) (xs.drop i)) xs.length ⟨Ext.refl _, 0, by omega, rfl, rfl, e0⟩ ?_
  rintro a h' m ⟨x', i, hi, rfl, rfl, hsc⟩
  refine ifT_dec (fun hlt => ⟨⟨by omega, by omega⟩, ?_⟩) (fun hge => ?_)
  · have hx := List.getElem?_eq_getElem (show i < xs.length by omega)
    generalize xs[i] = x at hx
    rw [scanT_step hx] at hsc
    refine (x'.at_ hs).strRow hx fun bb o hr => ⟨x, hr, spec57 hI ⟨_, rfl, ifT_intro (fun h1 => bad 5 _ x' (by rw [hsc, if_pos (nb h1)])) fun h1 => ?_⟩⟩
    rw [if_neg (by rw [nb' h1]; simp)] at hsc
    have next : badPrev (prevOf xs i) x = false → Ext h h' ∧ ∃ j : Nat, j ≤ xs.length ∧ IntKind.i64.wrap ((i : Int) + 1) = j ∧ xs.length - j = xs.length - (i + 1) ∧ errTg xs = scanT (prevOf xs j) (xs.drop j) := fun hb => by
      rw [if_neg (by rw [hb]; simp)] at hsc
      exact ⟨x', i + 1, by omega, by rw [w64] <;> omega, rfl, hsc⟩
    refine ifT_dec (fun hpos => ?_) fun hz => ⟨xs.length - (i + 1), by omega, next ?_⟩
    · obtain ⟨k, rfl⟩ : ∃ k, i = k + 1 := ⟨i - 1, by omega⟩
      have hp := List.getElem?_eq_getElem (show k < xs.length by omega)
      generalize xs[k] = p at hp
      have ep : prevOf xs (k + 1) = some p := by unfold prevOf; rw [if_neg (by omega)]; exact hp
      have ew : IntKind.i64.wrap (((k + 1 : Nat) : Int) - 1) = (k : Int) := by rw [w64] <;> omega
      rw [ew]
      refine ⟨⟨by omega, by omega⟩, (x'.at_ hs).strRow hp fun bb o hr => ⟨p, hr, ifT_intro (fun h2 => bad 7 _ x' (by rw [hsc, if_pos]; rw [ep]; exact h2)) fun h2 => ⟨xs.length - (k + 1 + 1), by omega, next (by rw [ep]; exact h2)⟩⟩⟩
    · have : i = 0 := by omega
      subst this; rfl
  · have : i = xs.length := by omega
    subst this
    rw [List.drop_length] at hsc
    exact bad 0 _ x' (by rw [hsc]; rfl)
theorem spec78 (hI : Closed' prog Pm I) {s : Sl} {xs : List ByteArray} (hs : At h 1 s (strs xs)) (hQ : ∀ h', Ext h h' → Q [int (errTg xs)] h') : I 78 [.one (.slice 1 s)] Q h := by
  have hl : s.len = xs.length := by have := hs.1; simpa [strs] using this
  refine hI.go _ _ (den78 I s Q) ?_
  unfold vc78
  rw [hl]
  refine ifT_dec (fun h1 => ?_) fun h1 => ?_
  · have e : errTg xs = 2 := if_pos (by omega)
    rw [← e]; exact hQ _ (Ext.refl _)
  have e0 : errTg xs = scanT none xs := if_neg (by omega)
  have bad : ∀ e (g' : Heap), Ext h g' → errTg xs = e → Q [int e] g' := fun e g' hg he => by rw [← he]; exact hQ _ hg
  refine loopK_intro (fun (a : Int) h' m => Ext h h' ∧ ∃ i : Nat, i ≤ xs.length ∧ a = i ∧ xs.length - i = m ∧ errTg xs = scanT (prevOf xs i) (xs.drop i)) xs.length ⟨Ext.refl _, 0, by omega, rfl, rfl, e0⟩ ?_
  rintro a h' m ⟨x', i, hi, rfl, rfl, hsc⟩
  refine ifT_dec (fun hlt => ⟨⟨by omega, by omega⟩, ?_⟩) (fun hge => ?_)
  · have hx := List.getElem?_eq_getElem (show i < xs.length by omega)
    generalize xs[i] = x at hx
    rw [scanT_step hx] at hsc
    refine (x'.at_ hs).strRow hx fun bb o hr => ⟨x, hr, spec54 hI fun g x1 => ⟨_, rfl, ifT_intro (fun h1 => bad 5 _ (x'.trans x1) (by rw [hsc, if_pos (nb h1)])) fun h1 => ?_⟩⟩
    have x' := x'.trans x1
    rw [if_neg (by rw [nb' h1]; simp)] at hsc
    have next : badPrev (prevOf xs i) x = false → Ext h g ∧ ∃ j : Nat, j ≤ xs.length ∧ IntKind.i64.wrap ((i : Int) + 1) = j ∧ xs.length - j = xs.length - (i + 1) ∧ errTg xs = scanT (prevOf xs j) (xs.drop j) := fun hb => by
      rw [if_neg (by rw [hb]; simp)] at hsc
      exact ⟨x', i + 1, by omega, by rw [w64] <;> omega, rfl, hsc⟩
    refine ifT_dec (fun hpos => ?_) fun hz => ⟨xs.length - (i + 1), by omega, next ?_⟩
    · obtain ⟨k, rfl⟩ : ∃ k, i = k + 1 := ⟨i - 1, by omega⟩
      have hp := List.getElem?_eq_getElem (show k < xs.length by omega)
      generalize xs[k] = p at hp
      have ep : prevOf xs (k + 1) = some p := by unfold prevOf; rw [if_neg (by omega)]; exact hp
      have ew : IntKind.i64.wrap (((k + 1 : Nat) : Int) - 1) = (k : Int) := by rw [w64] <;> omega
      rw [ew]
      refine ⟨⟨by omega, by omega⟩, (x'.at_ hs).strRow hp fun bb o hr => ⟨p, hr, ifT_intro (fun h2 => bad 7 _ x' (by rw [hsc, if_pos]; rw [ep]; exact h2)) fun h2 => ⟨xs.length - (k + 1 + 1), by omega, next (by rw [ep]; exact h2)⟩⟩⟩
    · have : i = 0 := by omega
      subst this; rfl
  · have : i = xs.length := by omega
    subst this
    rw [List.drop_length] at hsc
    exact bad 0 _ x' (by rw [hsc]; rfl)
/-! ### offers -/
theorem spec35 (hI : Closed' prog Pm I) {s : Sl} {xs : List Offr} (hs : Offs h s xs) (hQ : ∀ h', Ext h h' → Q [int (errO xs)] h') : I 35 [.one (.slice 12 s)] Q h := by
  have hl := hs.len
  refine hI.go _ _ (den35 I s Q) ?_
  unfold vc35
  rw [hl]
  refine ifT_dec (fun h1 => ?_) fun h1 => ?_
  · have e : errO xs = 2 := if_pos (by omega)
    rw [← e]; exact hQ _ (Ext.refl _)
  have e0 : errO xs = scanO [] xs := if_neg (by omega)
  have bad : ∀ e (g' : Heap), Ext h g' → errO xs = e → Q [int e] g' := fun e g' hg he => by rw [← he]; exact hQ _ hg
  refine loopK_intro (fun (a : Int) h' m => Ext h h' ∧ ∃ i : Nat, i ≤ xs.length ∧ a = i ∧ xs.length - i = m ∧ errO xs = scanO (xs.take i) (xs.drop i)) xs.length ⟨Ext.refl _, 0, by omega, rfl, rfl, e0⟩ ?_
  rintro a h' m ⟨x', i, hi, rfl, rfl, hsc⟩
  refine ifT_dec (fun hlt => ⟨⟨by omega, by omega⟩, ?_⟩) (fun hge => ?_)
  · have hx := List.getElem?_eq_getElem (show i < xs.length by omega)
    generalize xs[i] = x at hx
    have hxm := List.mem_of_getElem? hx
    rw [scanO_step hx] at hsc
    refine (x'.at_ hs.at_).row offC_length (by decide) hx fun bb o hr => ⟨x.key, x.kind, x.a, x.b, x.tg, x.least, x.most, x.group, x.alone, x.order, x.from_, x.to_, hr, ?_⟩
    refine newK_intro fun i19 h2 hn2 he2 => ?_
    refine storeK_whole (cs := [.str .empty, .int .i64 0, .int .i64 0, .int .i64 0, .slice 1 ⟨none, 0⟩, .int .i64 0, .int .i64 0, .str .empty, .bool false, .int .i64 0, .int .i64 0, .int .i64 0]) (by rw [he2, set_eq]) rfl ?_
    rw [he2, set_set]
    have xx : Ext h (h'.set i19 (.cells false (offC x))) := x'.trans (Ext.new hn2)
    have hc := set_eq h' i19 (.cells false (offC x))
    obtain ⟨g, hg⟩ : ∃ g, g = h'.set i19 (.cells false (offC x)) := ⟨_, rfl⟩
    rw [← hg] at xx hc
    rw [show h'.set i19 (.cells false [.str x.key, .int .i64 x.kind, .int .i64 x.a, .int .i64 x.b, .slice 1 x.tg, .int .i64 x.least, .int .i64 x.most, .str x.group, .bool x.alone, .int .i64 x.order, .int .i64 x.from_, .int .i64 x.to_]) = g from hg.symm]
    refine ⟨x.key, read_cell hc rfl, spec57 hI ⟨_, rfl, ifT_intro (fun h1 => bad 5 _ xx (by rw [hsc, if_pos (nb h1)])) fun h1 => ?_⟩⟩
    rw [if_neg (by rw [nb' h1]; simp)] at hsc
    have hsub : At g 12 (s.sub 12 0 i) (rows offC (xs.take i)) := by
      have := At.sub (xx.at_ hs.at_) 0 i (by omega) (by omega)
      rw [Nat.zero_mul, List.drop_zero, Nat.sub_zero, rows_take offC_length] at this
      exact this
    refine ⟨⟨by decide, by omega, by omega⟩, ?_⟩
    rw [Int.toNat_natCast]
    refine spec76 hI (p := fun y => decide (y.key = x.key)) hsub (by rw [List.length_take]; omega) (fun y Q' hq => spec79 hI hc hq) ⟨_, rfl, ifT_intro (fun h2 => bad 6 _ xx (by rw [hsc, if_pos h2])) fun h2 => ?_⟩
    rw [if_neg (by rw [h2]; simp)] at hsc
    refine ⟨x.kind, read_cell hc rfl, spec59 hI ⟨_, rfl, ifT_intro (fun h3 => bad 4 _ xx (by rw [hsc, if_pos (nw h3)])) fun h3 => ?_⟩⟩
    have h3' := nw' h3
    rw [if_neg (fun h => h h3')] at hsc
    refine joinK_intro (fun (b : Bool) h'' => h'' = g ∧ (b = true ↔ ¬ okN x)) ?_ fun j hj => ⟨x.key, x.kind, x.a, x.b, x.tg, x.least, x.most, x.group, x.alone, x.order, x.from_, x.to_, by rw [read_block hc (show 0 + 12 ≤ (offC x).length from Nat.le_refl 12)]; rfl, spec80 hI (x := x) ⟨_, rfl, ifT_intro (fun h4 => hj _ _ ⟨rfl, by have := nd h4; simp only [true_iff]; exact fun h => this h.1⟩) fun h4 => ⟨x.least, read_cell hc rfl, spec59 hI ⟨_, rfl, ifT_intro (fun h5 => hj _ _ ⟨rfl, by have := nw h5; simp only [true_iff]; exact fun h => this ⟨h.2.1, h.2.2.1⟩⟩) fun h5 => ⟨x.most, read_cell hc rfl, spec59 hI ⟨_, rfl, ifT_intro (fun h6 => hj _ _ ⟨rfl, by have := nw h6; simp only [true_iff]; exact fun h => this ⟨h.2.2.2.1, h.2.2.2.2.1⟩⟩) fun h6 => ⟨x.order, read_cell hc rfl, spec59 hI ⟨_, rfl, hj _ _ ⟨rfl, ?_⟩⟩⟩⟩⟩⟩⟩⟩⟩
    case refine_2 =>
      have h4 := Decidable.of_not_not (nd' h4)
      have h5 := nw' h5
      have h6 := nw' h6
      rw [nwi]
      exact ⟨fun h hn => h ⟨hn.2.2.2.2.2.1, hn.2.2.2.2.2.2⟩, fun h h2 => h ⟨h4, h5.1, h5.2, h6.1, h6.2, h2.1, h2.2⟩⟩
    rintro b g2 ⟨rfl, hb⟩
    refine ifT_intro (fun h4 => bad 1 _ xx (by rw [hsc, if_pos (hb.1 h4)])) fun h4 => ?_
    have hokN : okN x := Decidable.of_not_not fun h => by rw [hb.2 h] at h4; cases h4
    rw [if_neg (fun h => h hokN)] at hsc
    refine joinK_intro (fun (b : Bool) h'' => h'' = g2 ∧ (b = true ↔ ¬ okT x)) ?_ fun j hj => ⟨x.from_, read_cell hc rfl, spec60 hI ⟨_, rfl, ifT_intro (fun h5 => hj _ _ ⟨rfl, by have := nd h5; simp only [true_iff]; unfold okT; unfold momentP at this; omega⟩) fun h5 => ⟨x.to_, read_cell hc rfl, x.from_, read_cell hc rfl, spec59 hI ⟨_, rfl, hj _ _ ⟨rfl, ?_⟩⟩⟩⟩⟩
    case refine_2 =>
      have h5 : momentP x.from_ := Decidable.of_not_not (nd' h5)
      unfold momentP at h5
      rw [nwi, w64 (by omega) (by omega)]
      unfold okT; omega
    rintro b g3 ⟨rfl, hb2⟩
    refine ifT_intro (fun h5 => bad 1 _ xx (by rw [hsc, if_pos (hb2.1 h5)])) fun h5 => ?_
    have hokT : okT x := Decidable.of_not_not fun h => by rw [hb2.2 h] at h5; cases h5
    rw [if_neg (fun h => h hokT)] at hsc
    refine joinK_intro (fun (b : Bool) h'' => Ext g3 h'' ∧ (b = true ↔ (x.group ≠ ⟨#[]⟩ ∧ isKey x.group = false))) ?_ fun j hj => ⟨x.group, read_cell hc rfl, ifT_intro (fun h6 => ⟨x.group, read_cell hc rfl, spec57 hI ⟨_, rfl, hj _ _ ⟨Ext.refl _, by have := nd h6; simp [this]⟩⟩⟩) fun h6 => hj _ _ ⟨Ext.refl _, by have := Decidable.of_not_not (nd' h6); simp [this]⟩⟩
    rintro b g4 ⟨x4, hb3⟩
    have xx := xx.trans x4
    have hc := x4 _ _ hc
    refine ifT_intro (fun h6 => bad 5 _ xx (by rw [hsc, if_pos (hb3.1 h6)])) fun h6 => ?_
    rw [if_neg (fun h => by rw [hb3.2 h] at h6; cases h6)] at hsc
    refine ⟨x.tg, read_cell hc rfl, spec81 hI (xx.at_ (hs.tg x hxm)) fun g5 x5 => ⟨_, rfl, ifT_intro (fun h7 => bad _ _ (xx.trans x5) (by rw [hsc, if_pos (nd h7)])) fun h7 => ?_⟩⟩
    have xx := xx.trans x5
    have hc := x5 _ _ hc
    rw [if_neg (nd' h7)] at hsc
    have htl : x.tg.len = x.tags.length := by have := (hs.tg x hxm).1; simpa [strs] using this
    have next : ¬ (x.tags.length > 0 ∧ x.kind = 4) → ∃ m', m' < xs.length - i ∧ (Ext h g5 ∧ ∃ j : Nat, j ≤ xs.length ∧ IntKind.i64.wrap ((i : Int) + 1) = j ∧ xs.length - j = m' ∧ errO xs = scanO (xs.take j) (xs.drop j)) := fun hn => by
      rw [if_neg hn] at hsc
      exact ⟨xs.length - (i + 1), by omega, xx, i + 1, by omega, by rw [w64] <;> omega, rfl, hsc⟩
    refine ⟨x.tg, read_cell hc rfl, ifT_dec (fun h8 => ⟨x.kind, read_cell hc rfl, ifT_dec (fun h9 => bad 3 _ xx (by rw [hsc, if_pos ⟨by omega, h9⟩])) fun h9 => next fun h => h9 h.2⟩) fun h8 => next fun h => by omega⟩
  · have : i = xs.length := by omega
    subst this
    rw [List.drop_length] at hsc
    exact bad 0 _ x' (by rw [hsc]; rfl)
theorem spec34 (hI : Closed' prog Pm I) {s : Sl} {xs : List Offr} (hs : Offs h s xs) (hQ : ∀ h', Ext h h' → Q [int (errO xs)] h') : I 34 [.one (.slice 12 s)] Q h := by
  have hl := hs.len
  refine hI.go _ _ (den34 I s Q) ?_
  unfold vc34
  rw [hl]
  refine ifT_dec (fun h1 => ?_) fun h1 => ?_
  · have e : errO xs = 2 := if_pos (by omega)
    rw [← e]; exact hQ _ (Ext.refl _)
  have e0 : errO xs = scanO [] xs := if_neg (by omega)
  have bad : ∀ e (g' : Heap), Ext h g' → errO xs = e → Q [int e] g' := fun e g' hg he => by rw [← he]; exact hQ _ hg
  refine loopK_intro (fun (a : Int) h' m => Ext h h' ∧ ∃ i : Nat, i ≤ xs.length ∧ a = i ∧ xs.length - i = m ∧ errO xs = scanO (xs.take i) (xs.drop i)) xs.length ⟨Ext.refl _, 0, by omega, rfl, rfl, e0⟩ ?_
  rintro a h' m ⟨x', i, hi, rfl, rfl, hsc⟩
  refine ifT_dec (fun hlt => ⟨⟨by omega, by omega⟩, ?_⟩) (fun hge => ?_)
  · have hx := List.getElem?_eq_getElem (show i < xs.length by omega)
    generalize xs[i] = x at hx
    have hxm := List.mem_of_getElem? hx
    rw [scanO_step hx] at hsc
    refine (x'.at_ hs.at_).row offC_length (by decide) hx fun bb o hr => ⟨x.key, x.kind, x.a, x.b, x.tg, x.least, x.most, x.group, x.alone, x.order, x.from_, x.to_, hr, ?_⟩
    refine newK_intro fun i19 h2 hn2 he2 => ?_
    refine storeK_whole (cs := [.str .empty, .int .i64 0, .int .i64 0, .int .i64 0, .slice 1 ⟨none, 0⟩, .int .i64 0, .int .i64 0, .str .empty, .bool false, .int .i64 0, .int .i64 0, .int .i64 0]) (by rw [he2, set_eq]) rfl ?_
    rw [he2, set_set]
    have xx : Ext h (h'.set i19 (.cells false (offC x))) := x'.trans (Ext.new hn2)
    have hc := set_eq h' i19 (.cells false (offC x))
    obtain ⟨g, hg⟩ : ∃ g, g = h'.set i19 (.cells false (offC x)) := ⟨_, rfl⟩
    rw [← hg] at xx hc
    rw [show h'.set i19 (.cells false [.str x.key, .int .i64 x.kind, .int .i64 x.a, .int .i64 x.b, .slice 1 x.tg, .int .i64 x.least, .int .i64 x.most, .str x.group, .bool x.alone, .int .i64 x.order, .int .i64 x.from_, .int .i64 x.to_]) = g from hg.symm]
    refine newK_intro fun i22 h3 hn3 he3 => ?_
    subst he3
    have hne : i22 ≠ i19 := fun e => by subst e; rw [hc] at hn3; cases hn3
    refine mapK_intro (es' := [(.one (.int .i64 1), .one (.int .i64 100))]) (set_eq _ _ _) rfl ?_
    refine mapK_intro (es' := [(.one (.int .i64 1), .one (.int .i64 100)), (.one (.int .i64 2), .one (.int .i64 1000000000000))]) (set_eq _ _ _) rfl ?_
    refine mapK_intro (es' := [(.one (.int .i64 1), .one (.int .i64 100)), (.one (.int .i64 2), .one (.int .i64 1000000000000)), (.one (.int .i64 4), .one (.int .i64 1000000000000))]) (set_eq _ _ _) rfl ?_
    refine mapK_intro (es' := mostM) (set_eq _ _ _) rfl ?_
    rw [set_set, set_set, set_set, set_set]
    have xx : Ext h (g.set i22 (.map mostM)) := xx.trans (Ext.new hn3)
    have hm := set_eq g i22 (.map mostM)
    have hc : (g.set i22 (.map mostM)) i19 = some (.cells false (offC x)) := by rw [set_ne _ _ hne.symm]; exact hc
    generalize g.set i22 (.map mostM) = g1 at xx hm hc
    obtain ⟨b30, hb30⟩ := most_get x.kind
    refine ⟨x.kind, read_cell hc rfl, mostK x.kind, b30, ⟨mostM, mapOf_some hm, hb30⟩, x.kind, read_cell hc rfl, ?_⟩
    refine joinK_intro (fun (p : Int × Int) h'' => h'' = g1 ∧ p = (lowK x.kind, highK x.kind)) ?_ fun j hj => ifT_dec (fun h => hj _ _ ⟨rfl, by unfold lowK highK; rw [if_pos h, if_pos h]⟩) fun h => hj _ _ ⟨rfl, by unfold lowK highK; rw [if_neg h, if_neg h]⟩
    rintro ⟨_, _⟩ g2 ⟨rfl, hp⟩
    cases hp
    dsimp only [uncur]
    refine ⟨x.key, read_cell hc rfl, spec54 hI fun g1 x1 => ⟨_, rfl, ifT_intro (fun h1 => bad 5 _ (xx.trans x1) (by rw [hsc, if_pos (nb h1)])) fun h1 => ?_⟩⟩
    have xx := xx.trans x1
    have hc := x1 _ _ hc
    rw [if_neg (by rw [nb' h1]; simp)] at hsc
    have hsub : At g1 12 (s.sub 12 0 i) (rows offC (xs.take i)) := by
      have := At.sub (xx.at_ hs.at_) 0 i (by omega) (by omega)
      rw [Nat.zero_mul, List.drop_zero, Nat.sub_zero, rows_take offC_length] at this
      exact this
    refine ⟨⟨by decide, by omega, by omega⟩, ?_⟩
    rw [Int.toNat_natCast]
    refine spec76 hI (p := fun y => decide (y.key = x.key)) hsub (by rw [List.length_take]; omega) (fun y Q' hq => spec77 hI hc hq) ⟨_, rfl, ifT_intro (fun h2 => bad 6 _ xx (by rw [hsc, if_pos h2])) fun h2 => ?_⟩
    rw [if_neg (by rw [h2]; simp)] at hsc
    refine ifT_dec (fun h3 => bad 4 _ xx (by rw [hsc, if_pos]; exact (mostK_zero _).1 h3)) fun h3 => ?_
    have h3' : 1 ≤ x.kind ∧ x.kind ≤ 4 := Decidable.of_not_not fun h => h3 ((mostK_zero _).2 h)
    rw [if_neg (fun h => h h3')] at hsc
    have hN := okN_iff h3'
    refine joinK_intro (fun (b : Bool) h'' => h'' = g1 ∧ (b = true ↔ ¬ okN x)) ?_ fun j hj => ⟨x.a, read_cell hc rfl, ifT_dec (fun h4 => hj _ _ ⟨rfl, by rw [hN]; simp only [true_iff]; omega⟩) fun h4 => ⟨x.a, read_cell hc rfl, ifT_dec (fun h5 => hj _ _ ⟨rfl, by rw [hN]; simp only [true_iff]; omega⟩) fun h5 => ⟨x.b, read_cell hc rfl, ifT_dec (fun h6 => hj _ _ ⟨rfl, by rw [hN]; simp only [true_iff]; omega⟩) fun h6 => ⟨x.b, read_cell hc rfl, ifT_dec (fun h7 => hj _ _ ⟨rfl, by rw [hN]; simp only [true_iff]; omega⟩) fun h7 => ⟨x.least, read_cell hc rfl, ifT_dec (fun h8 => hj _ _ ⟨rfl, by rw [hN]; simp only [true_iff]; omega⟩) fun h8 => ⟨x.least, read_cell hc rfl, ifT_dec (fun h9 => hj _ _ ⟨rfl, by rw [hN]; simp only [true_iff]; omega⟩) fun h9 => ⟨x.most, read_cell hc rfl, ifT_dec (fun h10 => hj _ _ ⟨rfl, by rw [hN]; simp only [true_iff]; omega⟩) fun h10 => ⟨x.most, read_cell hc rfl, ifT_dec (fun h11 => hj _ _ ⟨rfl, by rw [hN]; simp only [true_iff]; omega⟩) fun h11 => ⟨x.order, read_cell hc rfl, ifT_dec (fun h12 => hj _ _ ⟨rfl, by rw [hN]; simp only [true_iff]; omega⟩) fun h12 => ⟨x.order, read_cell hc rfl, hj _ _ ⟨rfl, by rw [hN]; simp only [decide_eq_true_eq]; omega⟩⟩⟩⟩⟩⟩⟩⟩⟩⟩⟩
    rintro b g2 ⟨rfl, hb⟩
    refine ifT_intro (fun h4 => bad 1 _ xx (by rw [hsc, if_pos (hb.1 h4)])) fun h4 => ?_
    have hokN : okN x := Decidable.of_not_not fun h => by rw [hb.2 h] at h4; cases h4
    rw [if_neg (fun h => h hokN)] at hsc
    refine joinK_intro (fun (b : Bool) h'' => h'' = g2 ∧ (b = true ↔ ¬ okT x)) ?_ fun j hj => ⟨x.from_, read_cell hc rfl, spec11 hI ⟨_, rfl, ifT_intro (fun h5 => hj _ _ ⟨rfl, by have := nd h5; simp only [true_iff]; unfold okT; omega⟩) fun h5 => ⟨x.to_, read_cell hc rfl, x.from_, read_cell hc rfl, ifT_dec (fun h6 => hj _ _ ⟨rfl, by simp only [true_iff]; unfold okT; omega⟩) fun h6 => ⟨x.to_, read_cell hc rfl, hj _ _ ⟨rfl, by have h5 := Decidable.of_not_not (nd' h5); simp only [decide_eq_true_eq]; unfold okT; omega⟩⟩⟩⟩⟩
    rintro b g3 ⟨rfl, hb2⟩
    refine ifT_intro (fun h5 => bad 1 _ xx (by rw [hsc, if_pos (hb2.1 h5)])) fun h5 => ?_
    have hokT : okT x := Decidable.of_not_not fun h => by rw [hb2.2 h] at h5; cases h5
    rw [if_neg (fun h => h hokT)] at hsc
    refine joinK_intro (fun (b : Bool) h'' => Ext g3 h'' ∧ (b = true ↔ (x.group ≠ ⟨#[]⟩ ∧ isKey x.group = false))) ?_ fun j hj => ⟨x.group, read_cell hc rfl, ifT_intro (fun h6 => ⟨x.group, read_cell hc rfl, spec54 hI fun g4 x4 => ⟨_, rfl, hj _ _ ⟨x4, by have := nd h6; simp [this]⟩⟩⟩) fun h6 => hj _ _ ⟨Ext.refl _, by have := Decidable.of_not_not (nd' h6); simp [this]⟩⟩
    rintro b g4 ⟨x4, hb3⟩
    have xx := xx.trans x4
    have hc := x4 _ _ hc
    refine ifT_intro (fun h6 => bad 5 _ xx (by rw [hsc, if_pos (hb3.1 h6)])) fun h6 => ?_
    rw [if_neg (fun h => by rw [hb3.2 h] at h6; cases h6)] at hsc
    refine ⟨x.tg, read_cell hc rfl, spec78 hI (xx.at_ (hs.tg x hxm)) fun g5 x5 => ⟨_, rfl, ifT_intro (fun h7 => bad _ _ (xx.trans x5) (by rw [hsc, if_pos (nd h7)])) fun h7 => ?_⟩⟩
    have xx := xx.trans x5
    have hc := x5 _ _ hc
    rw [if_neg (nd' h7)] at hsc
    have htl : x.tg.len = x.tags.length := by have := (hs.tg x hxm).1; simpa [strs] using this
    have next : ¬ (x.tags.length > 0 ∧ x.kind = 4) → ∃ m', m' < xs.length - i ∧ (Ext h g5 ∧ ∃ j : Nat, j ≤ xs.length ∧ IntKind.i64.wrap ((i : Int) + 1) = j ∧ xs.length - j = m' ∧ errO xs = scanO (xs.take j) (xs.drop j)) := fun hn => by
      rw [if_neg hn] at hsc
      exact ⟨xs.length - (i + 1), by omega, xx, i + 1, by omega, by rw [w64] <;> omega, rfl, hsc⟩
    refine ⟨x.tg, read_cell hc rfl, ifT_dec (fun h8 => ⟨x.kind, read_cell hc rfl, ifT_dec (fun h9 => bad 3 _ xx (by rw [hsc, if_pos ⟨by omega, h9⟩])) fun h9 => next fun h => h9 h.2⟩) fun h8 => next fun h => by omega⟩
  · have : i = xs.length := by omega
    subst this
    rw [List.drop_length] at hsc
    exact bad 0 _ x' (by rw [hsc]; rfl)
/-! ### baskets -/
theorem spec36 (hI : Closed' prog Pm I) {s : Sl} {xs : List Itm} {ship : Int} (hs : Itms h s xs) (hQ : ∀ h', Ext h h' → Q [int (errK xs ship)] h') : I 36 [.agg [.slice 4 s, .int .i64 ship]] Q h := by
  have hl := hs.len
  refine hI.go _ _ (den36 I s ship Q) ?_
  unfold vc36
  rw [hl]
  refine ifT_dec (fun h1 => ?_) fun h1 => ?_
  · have e : errK xs ship = 2 := if_pos (by omega)
    rw [← e]; exact hQ _ (Ext.refl _)
  have e0 : errK xs ship = if scanI [] xs ≠ 0 then scanI [] xs else if ¬ (0 ≤ ship ∧ ship ≤ 1000000000000) then 1 else 0 := if_neg (by omega)
  have bad : ∀ e (g' : Heap), Ext h g' → e ≠ 0 → scanI [] xs = e → Q [int e] g' := fun e g' hg hne he => by
    rw [he, if_pos hne] at e0
    rw [← e0]; exact hQ _ hg
  refine loopK_intro (fun (a : Int) h' m => Ext h h' ∧ ∃ i : Nat, i ≤ xs.length ∧ a = i ∧ xs.length - i = m ∧ scanI [] xs = scanI (xs.take i) (xs.drop i)) xs.length ⟨Ext.refl _, 0, by omega, rfl, rfl, rfl⟩ ?_
  rintro a h' m ⟨x', i, hi, rfl, rfl, hsc⟩
  refine ifT_dec (fun hlt => ⟨⟨by omega, by omega⟩, ?_⟩) (fun hge => ?_)
  · have hx := List.getElem?_eq_getElem (show i < xs.length by omega)
    generalize xs[i] = x at hx
    have hxm := List.mem_of_getElem? hx
    rw [scanI_step hx] at hsc
    refine (x'.at_ hs.at_).row itmC_length (by decide) hx fun bb o hr => ⟨x.key, x.cents, x.many, x.tg, hr, ?_⟩
    refine newK_intro fun i19 h2 hn2 he2 => ?_
    refine storeK_whole (cs := [.str .empty, .int .i64 0, .int .i64 0, .slice 1 ⟨none, 0⟩]) (by rw [he2, set_eq]) rfl ?_
    rw [he2, set_set]
    have xx : Ext h (h'.set i19 (.cells false (itmC x))) := x'.trans (Ext.new hn2)
    have hc := set_eq h' i19 (.cells false (itmC x))
    obtain ⟨g, hg⟩ : ∃ g, g = h'.set i19 (.cells false (itmC x)) := ⟨_, rfl⟩
    rw [← hg] at xx hc
    rw [show h'.set i19 (.cells false [.str x.key, .int .i64 x.cents, .int .i64 x.many, .slice 1 x.tg]) = g from hg.symm]
    refine ⟨x.key, read_cell hc rfl, spec57 hI ⟨_, rfl, ifT_intro (fun h1 => bad 5 _ xx (by decide) (by rw [hsc, if_pos (nb h1)])) fun h1 => ?_⟩⟩
    rw [if_neg (by rw [nb' h1]; simp)] at hsc
    have hsub : At g 4 (s.sub 4 0 i) (rows itmC (xs.take i)) := by
      have := At.sub (xx.at_ hs.at_) 0 i (by omega) (by omega)
      rw [Nat.zero_mul, List.drop_zero, Nat.sub_zero, rows_take itmC_length] at this
      exact this
    refine ⟨⟨by decide, by omega, by omega⟩, ?_⟩
    rw [Int.toNat_natCast]
    refine spec82 hI (p := fun y => decide (y.key = x.key)) hsub (by rw [List.length_take]; omega) (fun y Q' hq => spec83 hI hc hq) ⟨_, rfl, ifT_intro (fun h2 => bad 6 _ xx (by decide) (by rw [hsc, if_pos h2])) fun h2 => ?_⟩
    rw [if_neg (by rw [h2]; simp)] at hsc
    refine joinK_intro (fun (b : Bool) h'' => h'' = g ∧ (b = true ↔ ¬ okI x)) ?_ fun j hj => ⟨x.cents, read_cell hc rfl, spec59 hI ⟨_, rfl, ifT_intro (fun h5 => hj _ _ ⟨rfl, by have := nw h5; simp only [true_iff]; unfold okI; omega⟩) fun h5 => ⟨x.many, read_cell hc rfl, spec59 hI ⟨_, rfl, hj _ _ ⟨rfl, by have := nw' h5; rw [nwi]; unfold okI; omega⟩⟩⟩⟩⟩
    rintro b g2 ⟨rfl, hb⟩
    refine ifT_intro (fun h4 => bad 1 _ xx (by decide) (by rw [hsc, if_pos (hb.1 h4)])) fun h4 => ?_
    have hok : okI x := Decidable.of_not_not fun h => by rw [hb.2 h] at h4; cases h4
    rw [if_neg (fun h => h hok)] at hsc
    refine ⟨x.tg, read_cell hc rfl, spec81 hI (xx.at_ (hs.tg x hxm)) fun g5 x5 => ⟨_, rfl, ifT_intro (fun h7 => bad _ _ (xx.trans x5) (nd h7) (by rw [hsc, if_pos (nd h7)])) fun h7 => ?_⟩⟩
    rw [if_neg (nd' h7)] at hsc
    exact ⟨xs.length - (i + 1), by omega, xx.trans x5, i + 1, by omega, by rw [w64] <;> omega, rfl, hsc⟩
  · have : i = xs.length := by omega
    subst this
    rw [List.drop_length] at hsc
    have hz : scanI [] xs = 0 := by rw [hsc]; rfl
    rw [if_neg (fun h => h hz)] at e0
    refine spec59 hI ⟨_, rfl, ifT_intro (fun h1 => ?_) fun h1 => ?_⟩
    · rw [if_pos (nw h1)] at e0; rw [← e0]; exact hQ _ x'
    · rw [if_neg (fun h => h (nw' h1))] at e0; rw [← e0]; exact hQ _ x'
theorem spec37 (hI : Closed' prog Pm I) {s : Sl} {xs : List Itm} {ship : Int} (hs : Itms h s xs) (hQ : ∀ h', Ext h h' → Q [int (errK xs ship)] h') : I 37 [.agg [.slice 4 s, .int .i64 ship]] Q h := by
  have hl := hs.len
  refine hI.go _ _ (den37 I s ship Q) ?_
  unfold vc37
  rw [hl]
  refine ifT_dec (fun h1 => ?_) fun h1 => ?_
  · have e : errK xs ship = 2 := if_pos (by omega)
    rw [← e]; exact hQ _ (Ext.refl _)
  have e0 : errK xs ship = if scanI [] xs ≠ 0 then scanI [] xs else if ¬ (0 ≤ ship ∧ ship ≤ 1000000000000) then 1 else 0 := if_neg (by omega)
  have bad : ∀ e (g' : Heap), Ext h g' → e ≠ 0 → scanI [] xs = e → Q [int e] g' := fun e g' hg hne he => by
    rw [he, if_pos hne] at e0
    rw [← e0]; exact hQ _ hg
  refine loopK_intro (fun (a : Int) h' m => Ext h h' ∧ ∃ i : Nat, i ≤ xs.length ∧ a = i ∧ xs.length - i = m ∧ scanI [] xs = scanI (xs.take i) (xs.drop i)) xs.length ⟨Ext.refl _, 0, by omega, rfl, rfl, rfl⟩ ?_
  rintro a h' m ⟨x', i, hi, rfl, rfl, hsc⟩
  refine ifT_dec (fun hlt => ⟨⟨by omega, by omega⟩, ?_⟩) (fun hge => ?_)
  · have hx := List.getElem?_eq_getElem (show i < xs.length by omega)
    generalize xs[i] = x at hx
    have hxm := List.mem_of_getElem? hx
    rw [scanI_step hx] at hsc
    refine (x'.at_ hs.at_).row itmC_length (by decide) hx fun bb o hr => ⟨x.key, x.cents, x.many, x.tg, hr, ?_⟩
    refine newK_intro fun i19 h2 hn2 he2 => ?_
    refine storeK_whole (cs := [.str .empty, .int .i64 0, .int .i64 0, .slice 1 ⟨none, 0⟩]) (by rw [he2, set_eq]) rfl ?_
    rw [he2, set_set]
    have xx : Ext h (h'.set i19 (.cells false (itmC x))) := x'.trans (Ext.new hn2)
    have hc := set_eq h' i19 (.cells false (itmC x))
    obtain ⟨g, hg⟩ : ∃ g, g = h'.set i19 (.cells false (itmC x)) := ⟨_, rfl⟩
    rw [← hg] at xx hc
    rw [show h'.set i19 (.cells false [.str x.key, .int .i64 x.cents, .int .i64 x.many, .slice 1 x.tg]) = g from hg.symm]
    refine ⟨x.key, read_cell hc rfl, spec54 hI fun g1 x1 => ⟨_, rfl, ifT_intro (fun h1 => bad 5 _ (xx.trans x1) (by decide) (by rw [hsc, if_pos (nb h1)])) fun h1 => ?_⟩⟩
    have xx := xx.trans x1
    have hc := x1 _ _ hc
    rw [if_neg (by rw [nb' h1]; simp)] at hsc
    have hsub : At g1 4 (s.sub 4 0 i) (rows itmC (xs.take i)) := by
      have := At.sub (xx.at_ hs.at_) 0 i (by omega) (by omega)
      rw [Nat.zero_mul, List.drop_zero, Nat.sub_zero, rows_take itmC_length] at this
      exact this
    refine ⟨⟨by decide, by omega, by omega⟩, ?_⟩
    rw [Int.toNat_natCast]
    refine spec82 hI (p := fun y => decide (y.key = x.key)) hsub (by rw [List.length_take]; omega) (fun y Q' hq => spec84 hI hc hq) ⟨_, rfl, ifT_intro (fun h2 => bad 6 _ xx (by decide) (by rw [hsc, if_pos h2])) fun h2 => ?_⟩
    rw [if_neg (by rw [h2]; simp)] at hsc
    refine joinK_intro (fun (b : Bool) h'' => h'' = g1 ∧ (b = true ↔ ¬ okI x)) ?_ fun j hj => ⟨x.cents, read_cell hc rfl, ifT_dec (fun h4 => hj _ _ ⟨rfl, by simp only [true_iff]; unfold okI; omega⟩) fun h4 => ⟨x.cents, read_cell hc rfl, ifT_dec (fun h5 => hj _ _ ⟨rfl, by simp only [true_iff]; unfold okI; omega⟩) fun h5 => ⟨x.many, read_cell hc rfl, ifT_dec (fun h6 => hj _ _ ⟨rfl, by simp only [true_iff]; unfold okI; omega⟩) fun h6 => ⟨x.many, read_cell hc rfl, hj _ _ ⟨rfl, by simp only [decide_eq_true_eq]; unfold okI; omega⟩⟩⟩⟩⟩
    rintro b g2 ⟨rfl, hb⟩
    refine ifT_intro (fun h4 => bad 1 _ xx (by decide) (by rw [hsc, if_pos (hb.1 h4)])) fun h4 => ?_
    have hok : okI x := Decidable.of_not_not fun h => by rw [hb.2 h] at h4; cases h4
    rw [if_neg (fun h => h hok)] at hsc
    refine ⟨x.tg, read_cell hc rfl, spec78 hI (xx.at_ (hs.tg x hxm)) fun g5 x5 => ⟨_, rfl, ifT_intro (fun h7 => bad _ _ (xx.trans x5) (nd h7) (by rw [hsc, if_pos (nd h7)])) fun h7 => ?_⟩⟩
    rw [if_neg (nd' h7)] at hsc
    exact ⟨xs.length - (i + 1), by omega, xx.trans x5, i + 1, by omega, by rw [w64] <;> omega, rfl, hsc⟩
  · have : i = xs.length := by omega
    subst this
    rw [List.drop_length] at hsc
    have hz : scanI [] xs = 0 := by rw [hsc]; rfl
    rw [if_neg (fun h => h hz)] at e0
    refine ifT_dec (fun h1 => ?_) fun h1 => ifT_dec (fun h2 => ?_) fun h2 => ?_
    · rw [if_pos (by omega)] at e0; rw [← e0]; exact hQ _ x'
    · rw [if_pos (by omega)] at e0; rw [← e0]; exact hQ _ x'
    · rw [if_neg (by omega)] at e0; rw [← e0]; exact hQ _ x'
end
end Go.Proofs.YtfemminjhecocaaDoorVc
