/- Contracts of what SentChecks reaches: the checks of both sides. -/
import Derived.Test.YtihnjdhjkpmggaaDoorVcSeKey
import Derived.Test.YtihnjdhjkpmggaaDoorVcSeMath
set_option linter.unusedSimpArgs false
set_option linter.unusedVariables false
namespace Go.Proofs.YtihnjdhjkpmggaaDoorVc
open Go.Proofs.Tryd (prog)

section
variable {I : Calls} {Q : Post} {h : Heap}

theorem spec44 (hI : Closed' prog Pm I) {n : Int} (hQ : Q [boo (decide (moment n))] h) : I 44 [int n] Q h := by
  refine hI.go _ _ (den44 I n Q) ?_
  refine spec49 hI ⟨_, rfl, ?_⟩
  have e : (decide ((0 : Int) ≤ n) && decide (n ≤ 4321439)) = decide (moment n) := by simp [moment]
  rw [← e] at hQ
  exact hQ
theorem spec48 (hI : Closed' prog Pm I) {n : Int} (hQ : Q [boo (decide (moment n))] h) : I 48 [int n] Q h := by
  refine hI.go _ _ (den48 I n Q) ?_
  refine ifT_dec (fun h1 => ?_) fun h1 => ?_
  · have e : decide (n < 4321440) = decide (moment n) := by rw [decide_eq_decide]; unfold moment; omega
    rw [e]; exact hQ
  · have e : decide (moment n) = false := by simp only [decide_eq_false_iff_not]; unfold moment; omega
    rw [e] at hQ; exact hQ

theorem seenS (xs : List Sent) (i : Nat) (s : ByteArray) : (((xs.take i).map (·.id)).any fun y => decide (y = s)) = ((xs.take i).any fun y => decide (y.id = s)) := by
  rw [List.any_map]; rfl
theorem seenG (xs : List Gain) (i : Nat) (s : ByteArray) : (((xs.take i).map (·.id)).any fun y => decide (y = s)) = ((xs.take i).any fun y => decide (y.id = s)) := by
  rw [List.any_map]; rfl
theorem nb {b : Bool} (h : (!b) = true) : b = false := by simpa using h
theorem nb' {b : Bool} (h : (!b) = false) : b = true := by simpa using h
theorem nd {p : Prop} [Decidable p] (h : (!decide p) = true) : ¬ p := by simpa using h
theorem nd' {p : Prop} [Decidable p] (h : (!decide p) = false) : ¬ ¬ p := by simpa using h

theorem spec8 (hI : Closed' prog Pm I) {s : Sl} {xs : List Sent} (hs : At h 4 s (rows sentC xs)) (hlen : xs.length < 1000) (hQ : ∀ h', Ext h h' → Q [int (errS xs)] h') : I 8 [.one (.slice 4 s)] Q h := by
  have hl : s.len = xs.length := hs.rowsLen sentC_length (by decide)
  refine hI.go _ _ (den8 I s Q) ?_
  unfold vc8
  rw [hl]
  refine ifT_dec (fun h => by omega) fun _ => newK_intro fun i2 h2 hn2 he2 => ?_
  refine loopK_intro (fun (a : Int) h' m => ∃ i : Nat, i ≤ xs.length ∧ a = i ∧ xs.length - i = m ∧ h' = h.set i2 (.map (seen ((xs.take i).map (·.id)))) ∧ errS xs = scanS (xs.take i) (xs.drop i)) xs.length
    ⟨0, by omega, rfl, rfl, by rw [he2]; rfl, rfl⟩ ?_
  rintro a h' m ⟨i, hi, rfl, rfl, rfl, hsc⟩
  have x' : Ext h (h.set i2 (.map (seen ((xs.take i).map (·.id))))) := Ext.new hn2
  have hm := mapOf_some (set_eq h i2 (.map (seen ((xs.take i).map (·.id)))))
  have hs' := x'.at_ hs
  refine ifT_dec (fun hlt => ⟨⟨by omega, by omega⟩, ?_⟩) (fun hge => ?_)
  · have hx := List.getElem?_eq_getElem (show i < xs.length by omega)
    generalize xs[i] = x at hx
    rw [scanS_step hx] at hsc
    have bad : ∀ e, errS xs = e → Q [int e] (h.set i2 (.map (seen ((xs.take i).map (·.id))))) := fun e he => by rw [← he]; exact hQ _ x'
    refine hs'.row sentC_length (by decide) hx fun bb o hr => ⟨x.id, x.person, x.letter, x.at_, hr, ?_⟩
    refine spec43 hI ⟨_, rfl, ifT_intro (fun h1 => bad 5 (by rw [hsc, if_pos (nb h1)])) fun h1 => ?_⟩
    rw [if_neg (by rw [nb' h1]; simp)] at hsc
    refine ⟨_, _, ⟨_, hm, seen_get x.id _⟩, ?_⟩
    rw [seenS]
    refine ifT_intro (fun h2 => bad 6 (by rw [hsc, if_pos h2])) fun h2 => ?_
    rw [if_neg (by rw [h2]; simp)] at hsc
    refine joinK_intro (fun (b : Bool) h'' => h'' = h.set i2 (.map (seen ((xs.take i).map (·.id)))) ∧ (b = true ↔ (isKey x.person && isKey x.letter) = false)) ?_ fun j hj => spec43 hI ⟨_, rfl, ifT_intro (fun h3 => hj _ _ ⟨rfl, by simp [nb h3]⟩) fun h3 =>
      spec43 hI ⟨_, rfl, hj _ _ ⟨rfl, by simp [nb' h3]⟩⟩⟩
    rintro b h'' ⟨rfl, hb⟩
    refine ifT_intro (fun h3 => bad 5 (by rw [hsc, if_pos (hb.1 h3)])) fun h3 => ?_
    rw [if_neg (fun h => by rw [hb.2 h] at h3; cases h3)] at hsc
    refine spec44 hI ⟨_, rfl, ifT_intro (fun h4 => bad 1 (by rw [hsc, if_pos (nd h4)])) fun h4 => ?_⟩
    rw [if_neg (nd' h4)] at hsc
    have ew : IntKind.i64.wrap ((i : Int) + 1) = ((i + 1 : Nat) : Int) := by rw [w64] <;> omega
    rw [ew]
    have go : errS xs = scanS (xs.take (i + 1)) (xs.drop (i + 1)) → mapK [] (some i2) (.one (.str x.id)) (.one (.bool true)) (fun h'' => ∃ m', m' < xs.length - i ∧ ∃ j : Nat, j ≤ xs.length ∧ ((i + 1 : Nat) : Int) = j ∧ xs.length - j = m' ∧ h'' = h.set i2 (.map (seen ((xs.take j).map (·.id)))) ∧ errS xs = scanS (xs.take j) (xs.drop j)) (h.set i2 (.map (seen ((xs.take i).map (·.id))))) := fun hsc => by
      refine mapK_intro (set_eq _ _ _) (seen_set x.id _ (by rw [seenS]; exact h2)) ⟨xs.length - (i + 1), by omega, i + 1, by omega, rfl, rfl, ?_, hsc⟩
      rw [set_set]
      congr 2
      rw [List.take_add_one, hx]
      simp [seen]
    refine ifT_dec (fun hpos => ?_) fun hz => ?_
    · have wj : IntKind.i64.wrap ((i : Int) - 1) = ((i - 1 : Nat) : Int) := by rw [w64] <;> omega
      rw [wj]
      have hp := List.getElem?_eq_getElem (show i - 1 < xs.length by omega)
      generalize xs[i - 1] = p at hp
      rw [take_last hp (by omega), Option.any_some] at hsc
      refine ⟨⟨by omega, by omega⟩, hs'.rowCell (j := 3) sentC_length (by decide) hp rfl fun bb o hr => ⟨p.at_, hr, ifT_dec (fun h5 => bad 7 (by rw [hsc, if_pos (by simpa using h5)])) fun h5 => ?_⟩⟩
      rw [if_neg (by simpa using h5)] at hsc
      exact go hsc
    · have hi0 : i = 0 := by omega
      subst hi0
      exact go (by rw [hsc]; simp)
  · have : i = xs.length := by omega
    subst this
    rw [List.drop_length] at hsc
    have e : errS xs = 0 := by rw [hsc]; rfl
    rw [← e]
    exact hQ _ x'

theorem spec10 (hI : Closed' prog Pm I) {s : Sl} {xs : List Gain} (hs : At h 4 s (rows gainC xs)) (hlen : xs.length < 1000) (hQ : ∀ h', Ext h h' → Q [int (errG xs)] h') : I 10 [.one (.slice 4 s)] Q h := by
  have hl : s.len = xs.length := hs.rowsLen gainC_length (by decide)
  refine hI.go _ _ (den10 I s Q) ?_
  unfold vc10
  rw [hl]
  refine ifT_dec (fun h => by omega) fun _ => newK_intro fun i2 h2 hn2 he2 => ?_
  refine loopK_intro (fun (a : Int) h' m => ∃ i : Nat, i ≤ xs.length ∧ a = i ∧ xs.length - i = m ∧ h' = h.set i2 (.map (seen ((xs.take i).map (·.id)))) ∧ errG xs = scanG (xs.take i) (xs.drop i)) xs.length
    ⟨0, by omega, rfl, rfl, by rw [he2]; rfl, rfl⟩ ?_
  rintro a h' m ⟨i, hi, rfl, rfl, rfl, hsc⟩
  have x' : Ext h (h.set i2 (.map (seen ((xs.take i).map (·.id))))) := Ext.new hn2
  have hm := mapOf_some (set_eq h i2 (.map (seen ((xs.take i).map (·.id)))))
  have hs' := x'.at_ hs
  refine ifT_dec (fun hlt => ⟨⟨by omega, by omega⟩, ?_⟩) (fun hge => ?_)
  · have hx := List.getElem?_eq_getElem (show i < xs.length by omega)
    generalize xs[i] = x at hx
    rw [scanG_step hx] at hsc
    have bad : ∀ e, errG xs = e → Q [int e] (h.set i2 (.map (seen ((xs.take i).map (·.id))))) := fun e he => by rw [← he]; exact hQ _ x'
    refine hs'.row gainC_length (by decide) hx fun bb o hr => ⟨x.id, x.person, x.at_, x.cents, hr, ?_⟩
    refine spec43 hI ⟨_, rfl, ifT_intro (fun h1 => bad 5 (by rw [hsc, if_pos (nb h1)])) fun h1 => ?_⟩
    rw [if_neg (by rw [nb' h1]; simp)] at hsc
    refine ⟨_, _, ⟨_, hm, seen_get x.id _⟩, ?_⟩
    rw [seenG]
    refine ifT_intro (fun h2 => bad 6 (by rw [hsc, if_pos h2])) fun h2 => ?_
    rw [if_neg (by rw [h2]; simp)] at hsc
    refine spec43 hI ⟨_, rfl, ifT_intro (fun h3 => bad 5 (by rw [hsc, if_pos (nb h3)])) fun h3 => ?_⟩
    rw [if_neg (by rw [nb' h3]; simp)] at hsc
    refine spec44 hI ⟨_, rfl, ifT_intro (fun h4 => bad 1 (by rw [hsc, if_pos (nd h4)])) fun h4 => ?_⟩
    rw [if_neg (nd' h4)] at hsc
    have ew : IntKind.i64.wrap ((i : Int) + 1) = ((i + 1 : Nat) : Int) := by rw [w64] <;> omega
    rw [ew]
    refine spec49 hI ⟨_, rfl, ifT_intro (fun h5 => bad 1 (by rw [hsc, if_pos]; simp at h5; omega)) fun h5 => ?_⟩
    rw [if_neg (by simp at h5; omega)] at hsc
    refine mapK_intro (set_eq _ _ _) (seen_set x.id _ (by rw [seenG]; exact h2)) ⟨xs.length - (i + 1), by omega, i + 1, by omega, rfl, rfl, ?_, hsc⟩
    rw [set_set]
    congr 2
    rw [List.take_add_one, hx]
    simp [seen]
  · have : i = xs.length := by omega
    subst this
    rw [List.drop_length] at hsc
    have e : errG xs = 0 := by rw [hsc]; rfl
    rw [← e]
    exact hQ _ x'

/-! ### the answer's -/
theorem spec47 (hI : Closed' prog Pm I) {i : Nat} {x y : Sent} (hi : h i = some (.cells false (sentC x))) (hQ : Q [boo (decide (y.id = x.id))] h) :
    I 47 [.agg (sentC y), .one (.ptr (some (i, 0)))] Q h := by
  refine hI.go _ _ (den47 I y.id y.person y.letter y.at_ i 0 Q) ?_
  exact ⟨x.id, read_cell hi rfl, hQ⟩
theorem spec51 (hI : Closed' prog Pm I) {i : Nat} {x y : Gain} (hi : h i = some (.cells false (gainC x))) (hQ : Q [boo (decide (y.id = x.id))] h) :
    I 51 [.agg (gainC y), .one (.ptr (some (i, 0)))] Q h := by
  refine hI.go _ _ (den51 I y.id y.person y.at_ y.cents i 0 Q) ?_
  exact ⟨x.id, read_cell hi rfl, hQ⟩
theorem any_take_step {α : Type} {l : List α} {p : α → Bool} {i : Nat} {b : α} (hb : l[i]? = some b) : (l.take (i + 1)).any p = ((l.take i).any p || p b) := by
  rw [List.take_add_one, hb]
  show (l.take i ++ [b]).any p = _
  rw [List.any_append]; simp
theorem spec46 (hI : Closed' prog Pm I) {s : Sl} {ys : List Sent} {i : Nat} {x : Sent} (hs : At h 4 s (rows sentC ys)) (hlen : ys.length < 1000) (hi : h i = some (.cells false (sentC x))) (hQ : Q [boo (ys.any fun y => decide (y.id = x.id))] h) :
    I 46 [.one (.slice 4 s), .one (.func (some (47, [(i, 0)])))] Q h := by
  have hl : s.len = ys.length := hs.rowsLen sentC_length (by decide)
  refine hI.go _ _ (den46 I s _ Q) ?_
  refine hI.go _ _ (den85 I s _ _) ?_
  refine loopK_intro (fun (a : Int) h' m => h' = h ∧ ∃ j : Nat, j ≤ ys.length ∧ a = j ∧ ys.length - j = m ∧ ((ys.take j).any fun y => decide (y.id = x.id)) = false) ys.length ⟨rfl, 0, by omega, rfl, rfl, rfl⟩ ?_
  rintro a h' m ⟨rfl, j, hj, rfl, rfl, hno⟩
  refine ifT_dec (fun hlt => ⟨⟨by omega, hlt⟩, ?_⟩) (fun hge => ?_)
  · have hy := List.getElem?_eq_getElem (show j < ys.length by omega)
    generalize ys[j] = y at hy
    refine hs.row sentC_length (by decide) hy fun bb o hr => ⟨y.id, y.person, y.letter, y.at_, hr, ?_⟩
    refine spec47 hI hi ⟨_, rfl, ifT_intro (fun h1 => ⟨_, rfl, ?_⟩) fun h1 => ?_⟩
    · have e : (ys.any fun y => decide (y.id = x.id)) = true := List.any_eq_true.2 ⟨y, List.mem_of_getElem? hy, h1⟩
      rw [e] at hQ
      have e2 : decide ((j : Int) ≥ 0) = true := by simp
      rw [e2]; exact hQ
    · refine ⟨ys.length - (j + 1), by omega, rfl, j + 1, by omega, by rw [w64] <;> omega, rfl, ?_⟩
      rw [any_take_step hy, hno, h1]; rfl
  · have : j = ys.length := by omega
    subst this
    rw [List.take_length] at hno
    rw [hno] at hQ
    exact ⟨_, rfl, hQ⟩
theorem spec50 (hI : Closed' prog Pm I) {s : Sl} {ys : List Gain} {i : Nat} {x : Gain} (hs : At h 4 s (rows gainC ys)) (hlen : ys.length < 1000) (hi : h i = some (.cells false (gainC x))) (hQ : Q [boo (ys.any fun y => decide (y.id = x.id))] h) :
    I 50 [.one (.slice 4 s), .one (.func (some (51, [(i, 0)])))] Q h := by
  have hl : s.len = ys.length := hs.rowsLen gainC_length (by decide)
  refine hI.go _ _ (den50 I s _ Q) ?_
  refine hI.go _ _ (den86 I s _ _) ?_
  refine loopK_intro (fun (a : Int) h' m => h' = h ∧ ∃ j : Nat, j ≤ ys.length ∧ a = j ∧ ys.length - j = m ∧ ((ys.take j).any fun y => decide (y.id = x.id)) = false) ys.length ⟨rfl, 0, by omega, rfl, rfl, rfl⟩ ?_
  rintro a h' m ⟨rfl, j, hj, rfl, rfl, hno⟩
  refine ifT_dec (fun hlt => ⟨⟨by omega, hlt⟩, ?_⟩) (fun hge => ?_)
  · have hy := List.getElem?_eq_getElem (show j < ys.length by omega)
    generalize ys[j] = y at hy
    refine hs.row gainC_length (by decide) hy fun bb o hr => ⟨y.id, y.person, y.at_, y.cents, hr, ?_⟩
    refine spec51 hI hi ⟨_, rfl, ifT_intro (fun h1 => ⟨_, rfl, ?_⟩) fun h1 => ?_⟩
    · have e : (ys.any fun y => decide (y.id = x.id)) = true := List.any_eq_true.2 ⟨y, List.mem_of_getElem? hy, h1⟩
      rw [e] at hQ
      have e2 : decide ((j : Int) ≥ 0) = true := by simp
      rw [e2]; exact hQ
    · refine ⟨ys.length - (j + 1), by omega, rfl, j + 1, by omega, by rw [w64] <;> omega, rfl, ?_⟩
      rw [any_take_step hy, hno, h1]; rfl
  · have : j = ys.length := by omega
    subst this
    rw [List.take_length] at hno
    rw [hno] at hQ
    exact ⟨_, rfl, hQ⟩

theorem spec9 (hI : Closed' prog Pm I) {s : Sl} {xs : List Sent} (hs : At h 4 s (rows sentC xs)) (hlen : xs.length < 1000) (hQ : ∀ h', Ext h h' → Q [int (errS xs)] h') : I 9 [.one (.slice 4 s)] Q h := by
  have hl : s.len = xs.length := hs.rowsLen sentC_length (by decide)
  refine hI.go _ _ (den9 I s Q) ?_
  unfold vc9
  rw [hl]
  refine ifT_dec (fun h => by omega) fun _ => ?_
  refine loopK_intro (fun (a : Int) h' m => Ext h h' ∧ ∃ i : Nat, i ≤ xs.length ∧ a = i ∧ xs.length - i = m ∧ errS xs = scanS (xs.take i) (xs.drop i)) xs.length
    ⟨Ext.refl _, 0, by omega, rfl, rfl, rfl⟩ ?_
  rintro a h' m ⟨x', i, hi, rfl, rfl, hsc⟩
  refine ifT_dec (fun hlt => ⟨⟨by omega, by omega⟩, ?_⟩) (fun hge => ?_)
  · have hx := List.getElem?_eq_getElem (show i < xs.length by omega)
    generalize xs[i] = x at hx
    rw [scanS_step hx] at hsc
    refine (x'.at_ hs).row sentC_length (by decide) hx fun bb o hr => ⟨x.id, x.person, x.letter, x.at_, hr, ?_⟩
    refine newK_intro fun i11 h2 hn2 he2 => ?_
    refine storeK_whole (cs := [.str .empty, .str .empty, .str .empty, .int .i64 0]) (by rw [he2, set_eq]) rfl ?_
    rw [he2, set_set]
    have x2 : Ext h (h'.set i11 (.cells false (sentC x))) := x'.trans (Ext.new hn2)
    have hc := set_eq h' i11 (.cells false (sentC x))
    obtain ⟨g, hg⟩ : ∃ g, g = h'.set i11 (.cells false (sentC x)) := ⟨_, rfl⟩
    rw [← hg] at x2 hc
    rw [show h'.set i11 (.cells false [.str x.id, .str x.person, .str x.letter, .int .i64 x.at_]) = g from hg.symm]
    have bad : ∀ e (g' : Heap), Ext h g' → errS xs = e → Q [int e] g' := fun e g' hg he => by rw [← he]; exact hQ _ hg
    refine ⟨x.id, read_cell hc rfl, spec45 hI fun g1 x1 => ⟨_, rfl, ifT_intro (fun h1 => bad 5 _ (x2.trans x1) (by rw [hsc, if_pos (nb h1)])) fun h1 => ?_⟩⟩
    rw [if_neg (by rw [nb' h1]; simp)] at hsc
    have hsub : At g1 4 (s.sub 4 0 i) (rows sentC (xs.take i)) := by
      have := At.sub ((x2.trans x1).at_ hs) 0 i (by omega) (by omega)
      rw [Nat.zero_mul, List.drop_zero, Nat.sub_zero, rows_take sentC_length] at this
      exact this
    refine ⟨⟨by decide, by omega, by omega⟩, ?_⟩
    rw [Int.toNat_natCast]
    refine spec46 hI hsub (by rw [List.length_take]; omega) (x1 _ _ hc) ⟨_, rfl, ifT_intro (fun h2 => bad 6 _ (x2.trans x1) (by rw [hsc, if_pos h2])) fun h2 => ?_⟩
    rw [if_neg (by rw [h2]; simp)] at hsc
    have hc1 := x1 _ _ hc
    refine joinK_intro (fun (b : Bool) g' => Ext g1 g' ∧ (b = true ↔ (isKey x.person && isKey x.letter) = false)) ?_ fun j hj => ⟨x.person, read_cell hc1 rfl, spec45 hI fun g2 x3 => ⟨_, rfl, ifT_intro (fun h3 => hj _ _ ⟨x3, by simp [nb h3]⟩) fun h3 =>
      ⟨x.letter, read_cell (x3 _ _ hc1) rfl, spec45 hI fun g3 x4 => ⟨_, rfl, hj _ _ ⟨x3.trans x4, by simp [nb' h3]⟩⟩⟩⟩⟩
    rintro b g2 ⟨x3, hb⟩
    have xx := (x2.trans x1).trans x3
    refine ifT_intro (fun h3 => bad 5 _ xx (by rw [hsc, if_pos (hb.1 h3)])) fun h3 => ?_
    rw [if_neg (fun h => by rw [hb.2 h] at h3; cases h3)] at hsc
    have hc2 := x3 _ _ hc1
    refine ⟨x.at_, read_cell hc2 rfl, spec48 hI ⟨_, rfl, ifT_intro (fun h4 => bad 1 _ xx (by rw [hsc, if_pos (nd h4)])) fun h4 => ?_⟩⟩
    rw [if_neg (nd' h4)] at hsc
    have ew : IntKind.i64.wrap ((i : Int) + 1) = ((i + 1 : Nat) : Int) := by rw [w64] <;> omega
    rw [ew]
    refine ifT_dec (fun hpos => ?_) fun hz => ?_
    · have wj : IntKind.i64.wrap ((i : Int) - 1) = ((i - 1 : Nat) : Int) := by rw [w64] <;> omega
      rw [wj]
      have hp := List.getElem?_eq_getElem (show i - 1 < xs.length by omega)
      generalize xs[i - 1] = p at hp
      rw [take_last hp (by omega), Option.any_some] at hsc
      refine ⟨x.at_, read_cell hc2 rfl, ⟨by omega, by omega⟩, (xx.at_ hs).rowCell (j := 3) sentC_length (by decide) hp rfl fun bb o hr => ⟨p.at_, hr, ifT_dec (fun h5 => bad 7 _ xx (by rw [hsc, if_pos (by simpa using h5)])) fun h5 => ?_⟩⟩
      rw [if_neg (by simpa using h5)] at hsc
      exact ⟨xs.length - (i + 1), by omega, xx, i + 1, by omega, rfl, rfl, hsc⟩
    · have hi0 : i = 0 := by omega
      subst hi0
      exact ⟨xs.length - (0 + 1), by omega, xx, 0 + 1, by omega, rfl, rfl, by rw [hsc]; simp⟩
  · have : i = xs.length := by omega
    subst this
    rw [List.drop_length] at hsc
    have e : errS xs = 0 := by rw [hsc]; rfl
    rw [← e]
    exact hQ _ x'

theorem spec11 (hI : Closed' prog Pm I) {s : Sl} {xs : List Gain} (hs : At h 4 s (rows gainC xs)) (hlen : xs.length < 1000) (hQ : ∀ h', Ext h h' → Q [int (errG xs)] h') : I 11 [.one (.slice 4 s)] Q h := by
  have hl : s.len = xs.length := hs.rowsLen gainC_length (by decide)
  refine hI.go _ _ (den11 I s Q) ?_
  unfold vc11
  rw [hl]
  refine ifT_dec (fun h => by omega) fun _ => ?_
  refine loopK_intro (fun (a : Int) h' m => Ext h h' ∧ ∃ i : Nat, i ≤ xs.length ∧ a = i ∧ xs.length - i = m ∧ errG xs = scanG (xs.take i) (xs.drop i)) xs.length
    ⟨Ext.refl _, 0, by omega, rfl, rfl, rfl⟩ ?_
  rintro a h' m ⟨x', i, hi, rfl, rfl, hsc⟩
  refine ifT_dec (fun hlt => ⟨⟨by omega, by omega⟩, ?_⟩) (fun hge => ?_)
  · have hx := List.getElem?_eq_getElem (show i < xs.length by omega)
    generalize xs[i] = x at hx
    rw [scanG_step hx] at hsc
    refine (x'.at_ hs).row gainC_length (by decide) hx fun bb o hr => ⟨x.id, x.person, x.at_, x.cents, hr, ?_⟩
    refine newK_intro fun i11 h2 hn2 he2 => ?_
    refine storeK_whole (cs := [.str .empty, .str .empty, .int .i64 0, .int .i64 0]) (by rw [he2, set_eq]) rfl ?_
    rw [he2, set_set]
    have x2 : Ext h (h'.set i11 (.cells false (gainC x))) := x'.trans (Ext.new hn2)
    have hc := set_eq h' i11 (.cells false (gainC x))
    obtain ⟨g, hg⟩ : ∃ g, g = h'.set i11 (.cells false (gainC x)) := ⟨_, rfl⟩
    rw [← hg] at x2 hc
    rw [show h'.set i11 (.cells false [.str x.id, .str x.person, .int .i64 x.at_, .int .i64 x.cents]) = g from hg.symm]
    have bad : ∀ e (g' : Heap), Ext h g' → errG xs = e → Q [int e] g' := fun e g' hg he => by rw [← he]; exact hQ _ hg
    refine ⟨x.id, read_cell hc rfl, spec45 hI fun g1 x1 => ⟨_, rfl, ifT_intro (fun h1 => bad 5 _ (x2.trans x1) (by rw [hsc, if_pos (nb h1)])) fun h1 => ?_⟩⟩
    rw [if_neg (by rw [nb' h1]; simp)] at hsc
    have hsub : At g1 4 (s.sub 4 0 i) (rows gainC (xs.take i)) := by
      have := At.sub ((x2.trans x1).at_ hs) 0 i (by omega) (by omega)
      rw [Nat.zero_mul, List.drop_zero, Nat.sub_zero, rows_take gainC_length] at this
      exact this
    refine ⟨⟨by decide, by omega, by omega⟩, ?_⟩
    rw [Int.toNat_natCast]
    refine spec50 hI hsub (by rw [List.length_take]; omega) (x1 _ _ hc) ⟨_, rfl, ifT_intro (fun h2 => bad 6 _ (x2.trans x1) (by rw [hsc, if_pos h2])) fun h2 => ?_⟩
    rw [if_neg (by rw [h2]; simp)] at hsc
    have hc1 := x1 _ _ hc
    refine ⟨x.person, read_cell hc1 rfl, spec45 hI fun g2 x3 => ⟨_, rfl, ifT_intro (fun h3 => bad 5 _ ((x2.trans x1).trans x3) (by rw [hsc, if_pos (nb h3)])) fun h3 => ?_⟩⟩
    rw [if_neg (by rw [nb' h3]; simp)] at hsc
    have xx := (x2.trans x1).trans x3
    have hc2 := x3 _ _ hc1
    refine ⟨x.at_, read_cell hc2 rfl, spec48 hI ⟨_, rfl, ifT_intro (fun h4 => bad 1 _ xx (by rw [hsc, if_pos (nd h4)])) fun h4 => ?_⟩⟩
    rw [if_neg (nd' h4)] at hsc
    have ew : IntKind.i64.wrap ((i : Int) + 1) = ((i + 1 : Nat) : Int) := by rw [w64] <;> omega
    rw [ew]
    refine ⟨x.cents, read_cell hc2 rfl, ifT_dec (fun h5 => bad 1 _ xx (by rw [hsc, if_pos]; omega)) fun h5 => ⟨x.cents, read_cell hc2 rfl, ifT_dec (fun h6 => bad 1 _ xx (by rw [hsc, if_pos]; omega)) fun h6 => ?_⟩⟩
    rw [if_neg (by omega)] at hsc
    exact ⟨xs.length - (i + 1), by omega, xx, i + 1, by omega, rfl, rfl, hsc⟩
  · have : i = xs.length := by omega
    subst this
    rw [List.drop_length] at hsc
    have e : errG xs = 0 := by rw [hsc]; rfl
    rw [← e]
    exact hQ _ x'

end
end Go.Proofs.YtihnjdhjkpmggaaDoorVc
