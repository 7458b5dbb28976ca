/- Contracts of what OffersFit reaches: which offers fit, which go together. -/
import Derived.Test.YtfemminjhecocaaDoorVcOfSpec1
set_option linter.unusedSimpArgs false
set_option linter.unusedVariables false
namespace Go.Proofs.YtfemminjhecocaaDoorVc
open Go.Proofs.Tryd (prog)

/-- What is wrong with offers, a basket and a moment. -/
def errA (os : List Offr) (xs : List Itm) (ship t : Int) : Int := if errO os ≠ 0 then errO os else if errK xs ship ≠ 0 then errK xs ship else if ¬ momentP t then 1 else 0
theorem errA_ok {os : List Offr} {xs : List Itm} {ship t : Int} (h : errA os xs ship t = 0) : errO os = 0 ∧ errK xs ship = 0 ∧ momentP t := by
  unfold errA at h
  split at h
  · rename_i h1; exact absurd h h1
  rename_i h1
  split at h
  · rename_i h2; exact absurd h h2
  rename_i h2
  split at h
  · cases h
  rename_i h3
  exact ⟨Decidable.of_not_not h1, Decidable.of_not_not h2, Decidable.of_not_not h3⟩

section
variable {I : Calls} {Q : Post} {h : Heap}
/-- cmp.Or of two. -/
theorem spec42 (hI : Closed' prog Pm I) {s : Sl} {a b : Int} (hs : At h 1 s (ints [a, b])) (hQ : Q [int (if a = 0 then b else a)] h) : I 42 [.one (.slice 1 s)] Q h := by
  have hl : s.len = 2 := by rw [hs.len1, ints_length]; rfl
  refine hI.go _ _ (den42 I s Q) ?_
  unfold vc42
  rw [hl]
  refine loopK_intro (fun (x : Int) h' m => h' = h ∧ ∃ i : Nat, i ≤ 2 ∧ x = i ∧ m = 2 - i ∧ (0 < i → a = 0) ∧ (1 < i → b = 0)) 2 ⟨rfl, 0, by omega, rfl, rfl, by simp, by simp⟩ ?_
  rintro x h' m ⟨rfl, i, hi, rfl, rfl, h1, h2⟩
  refine ifT_dec (fun hlt => ⟨⟨by omega, hlt⟩, ?_⟩) fun hge => ?_
  · have hi2 : i = 0 ∨ i = 1 := by omega
    rcases hi2 with rfl | rfl
    · refine hs.cell (i := 0) (ints_get (x := a) rfl) fun bb o hr => ⟨a, hr, ifT_intro (fun h3 => ?_) fun h3 => ?_⟩
      · rw [if_neg (nd h3)] at hQ; exact hQ
      · exact ⟨1, by omega, rfl, 1, by omega, rfl, rfl, fun _ => Decidable.of_not_not (nd' h3), by simp⟩
    · have ha := h1 (by omega)
      rw [if_pos ha] at hQ
      refine hs.cell (i := 1) (ints_get (x := b) rfl) fun bb o hr => ⟨b, hr, ifT_intro (fun h3 => hQ) fun h3 => ?_⟩
      exact ⟨0, by omega, rfl, 2, by omega, rfl, rfl, fun _ => ha, fun _ => Decidable.of_not_not (nd' h3)⟩
  · have : i = 2 := by omega
    subst this
    have ha := h1 (by omega)
    have hb := h2 (by omega)
    rw [if_pos ha, hb] at hQ
    exact hQ

theorem spec137 (hI : Closed' prog Pm I) {s : Sl} {xs : List ByteArray} {n : ByteArray} (hs : At h 1 s (strs xs)) (hlen : xs.length < 1000) (hQ : ∀ k : Int, (0 ≤ k ↔ (xs.any fun t => decide (t = n)) = true) → Q [int k] h) : I 137 [.one (.slice 1 s), str n] Q h := by
  refine hI.go _ _ (den137 I s n Q) ?_
  have hl : s.len = xs.length := by have := hs.1; simpa [strs] using this
  refine loopK_intro (fun (a : Int) h' m => h' = h ∧ ∃ i : Nat, i ≤ xs.length ∧ a = i ∧ xs.length - i = m ∧ ((xs.take i).any fun t => decide (t = n)) = false) xs.length ⟨rfl, 0, by omega, rfl, rfl, by simp⟩ ?_
  rintro a h' m ⟨rfl, i, hi, rfl, rfl, hno⟩
  refine ifT_dec (fun hlt => ⟨⟨by omega, by omega⟩, ?_⟩) (fun hge => ?_)
  · have hx := List.getElem?_eq_getElem (show i < xs.length by omega)
    generalize xs[i] = x at hx
    refine hs.strRow hx fun b o hr => ⟨x, hr, ifT_dec (fun he => hQ _ ⟨fun _ => List.any_eq_true.2 ⟨x, List.mem_of_getElem? hx, by simp [he]⟩, fun _ => by omega⟩) fun he => ⟨xs.length - (i + 1), by omega, rfl, i + 1, by omega, by rw [w64] <;> omega, rfl, ?_⟩⟩
    rw [List.take_add_one, hx]
    show ((xs.take i ++ [x]).any _) = false
    rw [List.any_append, hno]
    have : ¬ x = n := fun e => he e.symm
    simp [this]
  · have : i = xs.length := by omega
    subst this
    rw [List.take_length] at hno
    exact hQ _ ⟨fun h => by omega, fun h => by rw [hno] at h; cases h⟩
theorem spec123 (hI : Closed' prog Pm I) {s : Sl} {xs : List ByteArray} {n : ByteArray} (hs : At h 1 s (strs xs)) (hlen : xs.length < 1000) (hQ : Q [boo (xs.any fun t => decide (t = n))] h) : I 123 [.one (.slice 1 s), str n] Q h := by
  refine hI.go _ _ (den123 I s n Q) ?_
  refine spec137 hI hs hlen fun k hk => ⟨k, rfl, ?_⟩
  have : decide (k ≥ 0) = (xs.any fun t => decide (t = n)) := by rw [Bool.eq_iff_iff, ← hk]; simp
  rw [this]; exact hQ
theorem spec124 (hI : Closed' prog Pm I) {s : Sl} {xs : List ByteArray} {g : FuncId} {i : Nat} {p : ByteArray → Bool} (hs : At h 1 s (strs xs)) (hlen : xs.length < 1000)
    (hg : ∀ y Q', Q' [boo (p y)] h → I g [str y, .one (.ptr (some (i, 0)))] Q' h) (hQ : ∀ k : Int, (0 ≤ k ↔ xs.any p = true) → Q [int k] h) : I 124 [.one (.slice 1 s), .one (.func (some (g, [(i, 0)])))] Q h := by
  refine hI.go _ _ (den124 I s _ Q) ?_
  have hl : s.len = xs.length := by have := hs.1; simpa [strs] using this
  refine loopK_intro (fun (a : Int) h' m => h' = h ∧ ∃ i : Nat, i ≤ xs.length ∧ a = i ∧ xs.length - i = m ∧ (xs.take i).any p = false) xs.length ⟨rfl, 0, by omega, rfl, rfl, by simp⟩ ?_
  rintro a h' m ⟨rfl, i, hi, rfl, rfl, hno⟩
  refine ifT_dec (fun hlt => ⟨⟨by omega, by omega⟩, ?_⟩) (fun hge => ?_)
  · have hx := List.getElem?_eq_getElem (show i < xs.length by omega)
    generalize xs[i] = x at hx
    refine hs.strRow hx fun b o hr => ⟨x, hr, hg x _ ⟨_, rfl, ifT_intro (fun he => hQ _ ⟨fun _ => List.any_eq_true.2 ⟨x, List.mem_of_getElem? hx, he⟩, fun _ => by omega⟩) fun he => ⟨xs.length - (i + 1), by omega, rfl, i + 1, by omega, by rw [w64] <;> omega, rfl, ?_⟩⟩⟩
    rw [List.take_add_one, hx]
    show ((xs.take i ++ [x]).any _) = false
    rw [List.any_append, hno]
    simp [he]
  · have : i = xs.length := by omega
    subst this
    rw [List.take_length] at hno
    exact hQ _ ⟨fun h => by omega, fun h => by rw [hno] at h; cases h⟩
theorem spec89 (hI : Closed' prog Pm I) {s : Sl} {xs : List ByteArray} {g : FuncId} {i : Nat} {p : ByteArray → Bool} (hs : At h 1 s (strs xs)) (hlen : xs.length < 1000)
    (hg : ∀ y Q', Q' [boo (p y)] h → I g [str y, .one (.ptr (some (i, 0)))] Q' h) (hQ : Q [boo (xs.any p)] h) : I 89 [.one (.slice 1 s), .one (.func (some (g, [(i, 0)])))] Q h := by
  refine hI.go _ _ (den89 I s _ Q) ?_
  refine spec124 hI hs hlen hg fun k hk => ⟨k, rfl, ?_⟩
  have : decide (k ≥ 0) = xs.any p := by rw [Bool.eq_iff_iff, ← hk]; simp
  rw [this]; exact hQ
theorem spec136 (hI : Closed' prog Pm I) {s : ByteArray} {x : Itm} {i : Nat} (hi : h i = some (.cells false (itmC x))) (ht : At h 1 x.tg (strs x.tags)) (hlen : x.tags.length < 1000) (hQ : Q [boo (x.tags.any fun t => decide (t = s))] h) : I 136 [str s, .one (.ptr (some (i, 0)))] Q h := by
  refine hI.go _ _ (den136 I s i 0 Q) ?_
  exact ⟨x.tg, read_cell hi rfl, spec123 hI ht hlen ⟨_, rfl, hQ⟩⟩
theorem spec121 (hI : Closed' prog Pm I) {o : Offr} {x : Itm} (ho : At h 1 o.tg (strs o.tags)) (hx : At h 1 x.tg (strs x.tags)) (hol : o.tags.length < 1000) (hxl : x.tags.length < 1000) (hQ : ∀ h', Ext h h' → Q [boo (matchB o x)] h') : I 121 [.agg (offC o), .agg (itmC x)] Q h := by
  refine hI.go _ _ (den121 I o.key o.kind o.a o.b o.tg o.least o.most o.group o.alone o.order o.from_ o.to_ x.key x.cents x.many x.tg Q) ?_
  refine newK_intro fun i17 h2 hn2 he2 => ?_
  have x2 : Ext h h2 := he2 ▸ Ext.new hn2
  have hc : h2 i17 = some (.cells false (itmC x)) := by rw [he2, set_eq]; rfl
  have hl : o.tg.len = o.tags.length := by have := ho.1; simpa [strs] using this
  refine ifT_dec (fun h1 => ?_) fun h1 => ?_
  · have e : matchB o x = true := by
      have : o.tags = [] := List.length_eq_zero_iff.1 (by omega)
      unfold matchB; rw [this]; rfl
    have := hQ _ x2
    rw [e] at this; exact this
  · have e : matchB o x = o.tags.any fun s => x.tags.any fun t => decide (t = s) := by
      unfold matchB
      have : o.tags.isEmpty = false := by
        cases h2 : o.tags with
        | nil => rw [h2] at hl; simp at hl; omega
        | cons a l => rfl
      rw [this]; rfl
    have hq := hQ _ x2
    rw [e] at hq
    exact spec89 hI (p := fun s => x.tags.any fun t => decide (t = s)) (x2.at_ ho) hol (fun y Q' hq' => spec136 hI hc (x2.at_ hx) hxl hq') ⟨_, rfl, hq⟩
theorem spec122 (hI : Closed' prog Pm I) {s : ByteArray} {x : Itm} {i : Nat} (hi : h i = some (.cells false (itmC x))) (ht : At h 1 x.tg (strs x.tags)) (hlen : x.tags.length < 1000) (hQ : Q [boo (x.tags.any fun t => decide (t = s))] h) : I 122 [str s, .one (.ptr (some (i, 0)))] Q h := by
  refine hI.go _ _ (den122 I s i 0 Q) ?_
  exact ⟨x.tg, read_cell hi rfl, spec123 hI ht hlen ⟨_, rfl, hQ⟩⟩
theorem spec88 (hI : Closed' prog Pm I) {o : Offr} {x : Itm} (ho : At h 1 o.tg (strs o.tags)) (hx : At h 1 x.tg (strs x.tags)) (hol : o.tags.length < 1000) (hxl : x.tags.length < 1000) (hQ : ∀ h', Ext h h' → Q [boo (matchB o x)] h') : I 88 [.agg (offC o), .agg (itmC x)] Q h := by
  refine hI.go _ _ (den88 I o.key o.kind o.a o.b o.tg o.least o.most o.group o.alone o.order o.from_ o.to_ x.key x.cents x.many x.tg Q) ?_
  refine newK_intro fun i17 h2 hn2 he2 => ?_
  have x2 : Ext h h2 := he2 ▸ Ext.new hn2
  have hc : h2 i17 = some (.cells false (itmC x)) := by rw [he2, set_eq]; rfl
  have hl : o.tg.len = o.tags.length := by have := ho.1; simpa [strs] using this
  refine ifT_dec (fun h1 => ?_) fun h1 => ?_
  · have e : matchB o x = true := by
      have : o.tags = [] := List.length_eq_zero_iff.1 (by omega)
      unfold matchB; rw [this]; rfl
    have := hQ _ x2
    rw [e] at this; exact this
  · have e : matchB o x = o.tags.any fun s => x.tags.any fun t => decide (t = s) := by
      unfold matchB
      have : o.tags.isEmpty = false := by
        cases h2 : o.tags with
        | nil => rw [h2] at hl; simp at hl; omega
        | cons a l => rfl
      rw [this]; rfl
    have hq := hQ _ x2
    rw [e] at hq
    exact spec89 hI (p := fun s => x.tags.any fun t => decide (t = s)) (x2.at_ ho) hol (fun y Q' hq' => spec122 hI hc (x2.at_ hx) hxl hq') ⟨_, rfl, hq⟩
theorem spec87 (hI : Closed' prog Pm I) {o : Offr} {s : Sl} {xs : List Itm} {ship t : Int} (ho : OkO o) (ht : At h 1 o.tg (strs o.tags)) (hotl : o.tags.length < 1000) (hs : Itms h s xs) (hxs : ∀ x ∈ xs, okI x) (hxl : xs.length ≤ 50) (hxt : ∀ x ∈ xs, x.tags.length < 1000) (hQ : ∀ h', Ext h h' → Q [int (fitsF o xs ship t)] h') : I 87 [.agg (offC o), .agg [.slice 4 s, .int .i64 ship], int t] Q h := by
  have hl := hs.len
  refine hI.go _ _ (den87 I o.key o.kind o.a o.b o.tg o.least o.most o.group o.alone o.order o.from_ o.to_ s ship t Q) ?_
  refine loopK_intro (fun (a : Int × Int) h' m => Ext h h' ∧ ∃ i : Nat, i ≤ xs.length ∧ a = (allF o (xs.take i), (i : Int)) ∧ xs.length - i = m) xs.length ⟨Ext.refl _, 0, by omega, rfl, rfl⟩ ?_
  rintro a h' m ⟨x', i, hi, rfl, rfl⟩
  dsimp only [uncur]
  refine ifT_dec (fun hlt => ⟨⟨by omega, hlt⟩, ?_⟩) (fun hge => ?_)
  · have hx := List.getElem?_eq_getElem (show i < xs.length by omega)
    generalize xs[i] = x at hx
    have hxm := List.mem_of_getElem? hx
    have hst := allF_step (o := o) hx
    have hb := allF_bound (o := o) (xs := xs.take i) fun y hy => hxs y (List.mem_of_mem_take hy)
    have hin := inF_ge (o := o) (hxs x hxm)
    have hlen : (xs.take i).length ≤ 50 := by rw [List.length_take]; omega
    have hok := hxs x hxm
    have hmul : 0 ≤ x.cents * x.many ∧ x.cents * x.many ≤ 1000000000 := by
      obtain ⟨h1, h2, h3, h4⟩ := hok
      exact ⟨Int.mul_nonneg h1 (by omega), Int.le_trans (Int.mul_le_mul h2 h4 (by omega) (by decide)) (by decide)⟩
    have ew : IntKind.i64.wrap ((i : Int) + 1) = ((i + 1 : Nat) : Int) := by rw [w64] <;> omega
    have em : IntKind.i64.wrap (x.cents * x.many) = x.cents * x.many := by rw [w64] <;> omega
    have es : IntKind.i64.wrap (allF o (xs.take i) + x.cents * x.many) = allF o (xs.take i) + x.cents * x.many := by rw [w64] <;> omega
    have go : ∀ (v : Int) (g : Heap), Ext h g → allF o (xs.take (i + 1)) = v → ∃ m', m' < xs.length - i ∧ Ext h g ∧ ∃ j : Nat, j ≤ xs.length ∧ (v, IntKind.i64.wrap ((i : Int) + 1)) = (allF o (xs.take j), (j : Int)) ∧ xs.length - j = m' := fun v g hg hv => ⟨xs.length - (i + 1), by omega, hg, i + 1, by omega, by rw [ew, hv], rfl⟩
    refine (x'.at_ hs.at_).row itmC_length (by decide) hx fun bb oo hr => ⟨x.key, x.cents, x.many, x.tg, hr, ?_⟩
    rw [em, es]
    refine ifT_dec (fun hk => ?_) fun hk => spec121 hI ((x'.at_ ht)) (x'.at_ (hs.tg x hxm)) (by omega) (hxt x hxm) fun g xg => ⟨_, rfl, ifT_intro (fun hm => go _ g (x'.trans xg) (by rw [hst]; unfold inF; rw [if_pos hm])) fun hm => go _ g (x'.trans xg) (by rw [hst]; unfold inF; rw [if_neg (by rw [hm]; simp), Int.add_zero])⟩
    · refine go _ h' x' ?_
      have hm : matchB o x = true := by unfold matchB; rw [ho.ship hk]; rfl
      rw [hst]; unfold inF; rw [if_pos hm]
  · have : i = xs.length := by omega
    subst this
    rw [List.take_length]
    refine joinK_intro (fun (b : Bool) h'' => h'' = h' ∧ b = (if o.kind = 4 then decide (ship = 0) else decide (allF o xs = 0))) ?_ fun j hj => ifT_dec (fun hk => hj _ _ ⟨rfl, by rw [if_pos hk]⟩) fun hk => hj _ _ ⟨rfl, by rw [if_neg hk]⟩
    rintro b h'' ⟨rfl, hb⟩
    have hq := hQ _ x'
    unfold fitsF at hq
    rw [← hb] at hq
    refine ifT_dec (fun h1 => ?_) fun h1 => ifT_dec (fun h2 => ?_) fun h2 => ifT_intro (fun h3 => ?_) fun h3 => ifT_dec (fun h4 => ?_) fun h4 => ?_
    · rw [if_pos h1] at hq; exact hq
    · rw [if_neg h1, if_pos h2] at hq; exact hq
    · rw [if_neg h1, if_neg h2, if_pos h3] at hq; exact hq
    · rw [if_neg h1, if_neg h2, if_neg (by rw [h3]; simp), if_pos h4] at hq; exact hq
    · rw [if_neg h1, if_neg h2, if_neg (by rw [h3]; simp), if_neg h4] at hq; exact hq
theorem spec43 (hI : Closed' prog Pm I) {o : Offr} {s : Sl} {xs : List Itm} {ship t : Int} (ho : OkO o) (ht : At h 1 o.tg (strs o.tags)) (hotl : o.tags.length < 1000) (hs : Itms h s xs) (hxs : ∀ x ∈ xs, okI x) (hxl : xs.length ≤ 50) (hxt : ∀ x ∈ xs, x.tags.length < 1000) (hQ : ∀ h', Ext h h' → Q [int (fitsF o xs ship t)] h') : I 43 [.agg (offC o), .agg [.slice 4 s, .int .i64 ship], int t] Q h := by
  have hl := hs.len
  refine hI.go _ _ (den43 I o.key o.kind o.a o.b o.tg o.least o.most o.group o.alone o.order o.from_ o.to_ s ship t Q) ?_
  refine loopK_intro (fun (a : Int × Int) h' m => Ext h h' ∧ ∃ i : Nat, i ≤ xs.length ∧ a = (allF o (xs.take i), (i : Int)) ∧ xs.length - i = m) xs.length ⟨Ext.refl _, 0, by omega, rfl, rfl⟩ ?_
  rintro a h' m ⟨x', i, hi, rfl, rfl⟩
  dsimp only [uncur]
  refine ifT_dec (fun hlt => ⟨⟨by omega, hlt⟩, ?_⟩) (fun hge => ?_)
  · have hx := List.getElem?_eq_getElem (show i < xs.length by omega)
    generalize xs[i] = x at hx
    have hxm := List.mem_of_getElem? hx
    have hst := allF_step (o := o) hx
    have hb := allF_bound (o := o) (xs := xs.take i) fun y hy => hxs y (List.mem_of_mem_take hy)
    have hin := inF_ge (o := o) (hxs x hxm)
    have hlen : (xs.take i).length ≤ 50 := by rw [List.length_take]; omega
    have hok := hxs x hxm
    have hmul : 0 ≤ x.cents * x.many ∧ x.cents * x.many ≤ 1000000000 := by
      obtain ⟨h1, h2, h3, h4⟩ := hok
      exact ⟨Int.mul_nonneg h1 (by omega), Int.le_trans (Int.mul_le_mul h2 h4 (by omega) (by decide)) (by decide)⟩
    have ew : IntKind.i64.wrap ((i : Int) + 1) = ((i + 1 : Nat) : Int) := by rw [w64] <;> omega
    have em : IntKind.i64.wrap (x.cents * x.many) = x.cents * x.many := by rw [w64] <;> omega
    have es : IntKind.i64.wrap (allF o (xs.take i) + x.cents * x.many) = allF o (xs.take i) + x.cents * x.many := by rw [w64] <;> omega
    have go : ∀ (v : Int) (g : Heap), Ext h g → allF o (xs.take (i + 1)) = v → ∃ m', m' < xs.length - i ∧ Ext h g ∧ ∃ j : Nat, j ≤ xs.length ∧ (v, IntKind.i64.wrap ((i : Int) + 1)) = (allF o (xs.take j), (j : Int)) ∧ xs.length - j = m' := fun v g hg hv => ⟨xs.length - (i + 1), by omega, hg, i + 1, by omega, by rw [ew, hv], rfl⟩
    refine (x'.at_ hs.at_).row itmC_length (by decide) hx fun bb oo hr => ⟨x.key, x.cents, x.many, x.tg, hr, ?_⟩
    rw [em, es]
    refine spec88 hI ((x'.at_ ht)) (x'.at_ (hs.tg x hxm)) (by omega) (hxt x hxm) fun g xg => ⟨_, rfl, ifT_intro (fun hm => go _ g (x'.trans xg) (by rw [hst]; unfold inF; rw [if_pos hm])) fun hm => go _ g (x'.trans xg) (by rw [hst]; unfold inF; rw [if_neg (by rw [hm]; simp), Int.add_zero])⟩
  · have : i = xs.length := by omega
    subst this
    rw [List.take_length]
    refine joinK_intro (fun (b : Bool) h'' => h'' = h' ∧ b = (if o.kind = 4 then decide (ship = 0) else decide (allF o xs = 0))) ?_ fun j hj => ifT_dec (fun hk => hj _ _ ⟨rfl, by rw [if_pos hk]⟩) fun hk => hj _ _ ⟨rfl, by rw [if_neg hk]⟩
    rintro b h'' ⟨rfl, hb⟩
    have hq := hQ _ x'
    unfold fitsF at hq
    rw [← hb] at hq
    refine ifT_dec (fun h1 => ?_) fun h1 => ifT_dec (fun h2 => ?_) fun h2 => ifT_intro (fun h3 => ?_) fun h3 => ifT_dec (fun h4 => ?_) fun h4 => ?_
    · rw [if_pos h1] at hq; exact hq
    · rw [if_neg h1, if_pos h2] at hq; exact hq
    · rw [if_neg h1, if_neg h2, if_pos h3] at hq; exact hq
    · rw [if_neg h1, if_neg h2, if_neg (by rw [h3]; simp), if_pos h4] at hq; exact hq
    · rw [if_neg h1, if_neg h2, if_neg (by rw [h3]; simp), if_neg h4] at hq; exact hq

/-! ### together -/
theorem grp_any {pre : List Offr} {x : Offr} (hne : x.group ≠ ⟨#[]⟩) : (pre.any fun y => grpB y x) = hasS (pre.map (·.group)) x.group := by
  unfold hasS grpB
  rw [List.any_map]
  have : decide (x.group ≠ ⟨#[]⟩) = true := decide_eq_true hne
  simp only [this, Bool.true_and]
  rfl
theorem grp_none {pre : List Offr} {x : Offr} (he : x.group = ⟨#[]⟩) : (pre.any fun y => grpB y x) = false := by
  unfold grpB
  simp [he]
theorem spec85 (hI : Closed' prog Pm I) {s : Sl} {xs : List Offr} (hs : Offs h s xs) (hlen : xs.length < 1000) (hQ : ∀ h', Ext h h' → Q [boo (togP xs.length [] xs)] h') : I 85 [.one (.slice 12 s)] Q h := by
  have hl := hs.len
  refine hI.go _ _ (den85 I s Q) ?_
  refine newK_intro fun i2 h2 hn2 he2 => ?_
  refine loopK_intro (fun (a : Int) h' m => ∃ (i : Nat) (es : List (V × V)), i ≤ xs.length ∧ a = i ∧ xs.length - i = m ∧ togP xs.length [] xs = togP xs.length (xs.take i) (xs.drop i) ∧ h' = h.set i2 (.map es) ∧ SetOf es ((xs.take i).map (·.group))) xs.length
    ⟨0, [], by omega, rfl, rfl, rfl, he2, SetOf.nil⟩ ?_
  rintro a h' m ⟨i, es, hi, rfl, rfl, htog, rfl, hset⟩
  have x' : Ext h (h.set i2 (.map es)) := Ext.new hn2
  have fin : ∀ b : Bool, togP xs.length [] xs = b → Q [boo b] (h.set i2 (.map es)) := fun b hb => by rw [← hb]; exact hQ _ x'
  refine ifT_dec (fun hlt => ⟨⟨by omega, hlt⟩, ?_⟩) (fun hge => ?_)
  · have hx := List.getElem?_eq_getElem (show i < xs.length by omega)
    generalize xs[i] = x at hx
    rw [togP_step hx] at htog
    obtain ⟨es', hes', hset'⟩ := hset.set x.group
    have go : ¬ ((x.alone = true ∧ xs.length > 1) ∨ ((xs.take i).any fun y => grpB y x) = true) → mapK [] (some i2) (.one (.str x.group)) (.one (.bool true)) (fun h' => ∃ m', m' < xs.length - i ∧ ∃ (j : Nat) (es : List (V × V)), j ≤ xs.length ∧ IntKind.i64.wrap ((i : Int) + 1) = j ∧ xs.length - j = m' ∧ togP xs.length [] xs = togP xs.length (xs.take j) (xs.drop j) ∧ h' = h.set i2 (.map es) ∧ SetOf es ((xs.take j).map (·.group))) (h.set i2 (.map es)) := fun hn => by
      rw [if_neg hn] at htog
      refine mapK_intro (set_eq _ _ _) hes' ⟨xs.length - (i + 1), by omega, i + 1, es', by omega, by rw [w64] <;> omega, rfl, htog, by rw [set_set], ?_⟩
      have : (xs.take (i + 1)).map (·.group) = (xs.take i).map (·.group) ++ [x.group] := by
        rw [List.take_add_one, hx]; simp
      rw [this]; exact hset'
    refine (x'.at_ hs.at_).row offC_length (by decide) hx fun bb o hr => ⟨x.key, x.kind, x.a, x.b, x.tg, x.least, x.most, x.group, x.alone, x.order, x.from_, x.to_, hr, ?_⟩
    have mid : ¬ (x.alone = true ∧ xs.length > 1) → ifT (!decide (x.group = ⟨#[]⟩))
          (fun h21 => ∃ b22 : Bool, ∃ b23 : Bool, (∃ cs24 : List (V × V), (mapOf h21 (some i2) = some cs24) ∧ mapGet (V.one (Cell.str x.group)) (V.one (Cell.bool false)) cs24 = some (V.one (Cell.bool b22), b23)) ∧
            (ifT b22 (Q [V.one (Cell.bool false)]) (fun h25 => (mapK [] (some i2) (V.one (Cell.str x.group)) (V.one (Cell.bool true)) (fun h' => ∃ m', m' < xs.length - i ∧ ∃ (j : Nat) (es : List (V × V)), j ≤ xs.length ∧ IntKind.i64.wrap ((i : Int) + 1) = j ∧ xs.length - j = m' ∧ togP xs.length [] xs = togP xs.length (xs.take j) (xs.drop j) ∧ h' = h.set i2 (.map es) ∧ SetOf es ((xs.take j).map (·.group)))) h25)) h21)
          (fun h26 => (mapK [] (some i2) (V.one (Cell.str x.group)) (V.one (Cell.bool true)) (fun h' => ∃ m', m' < xs.length - i ∧ ∃ (j : Nat) (es : List (V × V)), j ≤ xs.length ∧ IntKind.i64.wrap ((i : Int) + 1) = j ∧ xs.length - j = m' ∧ togP xs.length [] xs = togP xs.length (xs.take j) (xs.drop j) ∧ h' = h.set i2 (.map es) ∧ SetOf es ((xs.take j).map (·.group)))) h26) (h.set i2 (.map es)) := fun hna => by
      refine ifT_intro (fun hg => ?_) fun hg => ?_
      · have hga := grp_any (pre := xs.take i) (nd hg)
        refine ⟨_, _, ⟨es, mapOf_some (set_eq _ _ _), hset.get x.group⟩, ifT_intro (fun hb => fin false ?_) fun hb => go fun h => ?_⟩
        · rw [htog, if_pos (.inr (by rw [hga]; exact hb))]
        · rcases h with h | h
          · exact hna h
          · rw [hga, hb] at h; cases h
      · refine go fun h => ?_
        rcases h with h | h
        · exact hna h
        · rw [grp_none (Decidable.of_not_not (nd' hg))] at h; cases h
    refine ifT_intro (fun ha => ifT_dec (fun h1 => fin false (by rw [htog, if_pos (.inl ⟨ha, by omega⟩)])) fun h1 => mid fun h => by omega) fun ha => mid fun h => by rw [ha] at h; cases h.1
  · have : i = xs.length := by omega
    subst this
    rw [List.drop_length] at htog
    exact fin true (by rw [htog]; rfl)
theorem notB_of {a x : Offr} : notB a x = true ↔ x.alone = true ∨ a.alone = true ∨ (x.group ≠ ⟨#[]⟩ ∧ x.group = a.group) := by
  unfold notB grpB
  simp only [Bool.or_eq_true, Bool.and_eq_true, decide_eq_true_eq]
  constructor
  · rintro ((h | h) | ⟨h1, h2⟩)
    · exact .inl h
    · exact .inr (.inl h)
    · exact .inr (.inr ⟨h1, h2.symm⟩)
  · rintro (h | h | ⟨h1, h2⟩)
    · exact .inl (.inl h)
    · exact .inl (.inr h)
    · exact .inr ⟨h1, h2.symm⟩
theorem spec39 (hI : Closed' prog Pm I) {s : Sl} {xs : List Offr} (hs : Offs h s xs) (hlen : xs.length < 1000) (hQ : Q [boo (togB [] xs)] h) : I 39 [.one (.slice 12 s)] Q h := by
  have hl := hs.len
  refine hI.go _ _ (den39 I s Q) ?_
  refine loopK_intro (fun (a : Int) h' m => h' = h ∧ ∃ i : Nat, i ≤ xs.length ∧ a = i ∧ xs.length - i = m ∧ togB [] xs = togB (xs.take i) (xs.drop i)) xs.length ⟨rfl, 0, by omega, rfl, rfl, rfl⟩ ?_
  rintro a h' m ⟨rfl, i, hi, rfl, rfl, htog⟩
  have fin : ∀ b : Bool, togB [] xs = b → Q [boo b] h' := fun b hb => by rw [← hb]; exact hQ
  refine ifT_dec (fun hlt => ⟨⟨by omega, hlt⟩, ?_⟩) (fun hge => ?_)
  · have hx := List.getElem?_eq_getElem (show i < xs.length by omega)
    generalize xs[i] = x at hx
    rw [togB_step hx] at htog
    refine hs.at_.row offC_length (by decide) hx fun bb o hr => ⟨x.key, x.kind, x.a, x.b, x.tg, x.least, x.most, x.group, x.alone, x.order, x.from_, x.to_, hr, ⟨by decide, by omega, by omega⟩, ?_⟩
    rw [Int.toNat_natCast]
    have hsub : At h' 12 (s.sub 12 0 i) (rows offC (xs.take i)) := by
      have := At.sub hs.at_ 0 i (by omega) (by omega)
      rw [Nat.zero_mul, List.drop_zero, Nat.sub_zero, rows_take offC_length] at this
      exact this
    have hsl : (s.sub 12 0 i).len = i := by have := hsub.rowsLen offC_length (by decide); rw [List.length_take] at this; omega
    rw [hsl]
    have hpl : (xs.take i).length = i := by rw [List.length_take]; omega
    generalize hpre : xs.take i = pre at *
    refine loopK_intro (fun (a : Int) h'' m' => h'' = h' ∧ ∃ j : Nat, j ≤ i ∧ a = j ∧ i - j = m' ∧ ∀ y ∈ pre.take j, notB y x = false) i ⟨rfl, 0, by omega, rfl, rfl, by simp⟩ ?_
    rintro a h'' m' ⟨rfl, j, hj, rfl, rfl, hno⟩
    refine ifT_dec (fun hlt2 => ⟨⟨by omega, hlt2⟩, ?_⟩) (fun hge2 => ?_)
    · have hy := List.getElem?_eq_getElem (show j < pre.length by omega)
      generalize pre[j] = y at hy
      have yes : notB y x = true → togB [] xs = false := fun hn => by rw [htog, if_pos (List.any_eq_true.2 ⟨y, List.mem_of_getElem? hy, hn⟩)]
      have go : notB y x = false → ∃ m'', m'' < i - j ∧ h'' = h'' ∧ ∃ k : Nat, k ≤ i ∧ IntKind.i64.wrap ((j : Int) + 1) = k ∧ i - k = m'' ∧ ∀ y ∈ pre.take k, notB y x = false := fun hn => ⟨i - (j + 1), by omega, rfl, j + 1, by omega, by rw [w64] <;> omega, rfl, fun z hz => by
        rw [List.take_add_one, hy] at hz
        rcases List.mem_append.1 hz with hz | hz
        · exact hno z hz
        · have : z = y := by simpa using hz
          rw [this]; exact hn⟩
      have neg : ¬ (x.alone = true ∨ y.alone = true ∨ (x.group ≠ ⟨#[]⟩ ∧ x.group = y.group)) → notB y x = false := fun h => by
        cases e : notB y x with
        | false => rfl
        | true => exact absurd (notB_of.1 e) h
      refine hsub.row offC_length (by decide) hy fun bb o hr => ⟨y.key, y.kind, y.a, y.b, y.tg, y.least, y.most, y.group, y.alone, y.order, y.from_, y.to_, hr, ?_⟩
      refine ifT_intro (fun h1 => fin false (yes (notB_of.2 (.inl h1)))) fun h1 => ifT_intro (fun h2 => fin false (yes (notB_of.2 (.inr (.inl h2))))) fun h2 => ifT_intro (fun h3 => ifT_dec (fun h4 => fin false (yes (notB_of.2 (.inr (.inr ⟨nd h3, h4⟩))))) fun h4 => go (neg ?_)) fun h3 => go (neg ?_)
      · rw [h1, h2]; rintro (h | h | h)
        · cases h
        · cases h
        · exact h4 h.2
      · rw [h1, h2]; rintro (h | h | h)
        · cases h
        · cases h
        · exact nd' h3 h.1
    · have hji : j = i := by omega
      subst hji
      rw [List.take_of_length_le (by omega)] at hno
      rw [if_neg (fun h => by obtain ⟨y, hy, hn⟩ := List.any_eq_true.1 h; rw [hno y hy] at hn; cases hn)] at htog
      exact ⟨xs.length - (j + 1), by omega, rfl, j + 1, by omega, by rw [w64] <;> omega, rfl, htog⟩
  · have : i = xs.length := by omega
    subst this
    rw [List.drop_length] at htog
    exact fin true (by rw [htog]; rfl)
theorem spec38 (hI : Closed' prog Pm I) {s : Sl} {xs : List Offr} (hs : Offs h s xs) (hQe : errO xs ≠ 0 → ∀ h', Ext h h' → Q [boo false, int (errO xs)] h') (hQ : errO xs = 0 → ∀ h', Ext h h' → Q [boo (togB [] xs), int 0] h') : I 38 [.one (.slice 12 s)] Q h := by
  refine hI.go _ _ (den38 I s Q) ?_
  refine spec35 hI hs fun h1 x1 => ⟨_, rfl, ifT_intro (fun h2 => hQe (nd h2) _ x1) fun h2 => ?_⟩
  have he := Decidable.of_not_not (nd' h2)
  refine spec85 hI (x1.offs hs) (by have := (errO_ok he).1; omega) fun h3 x3 => ⟨_, rfl, ?_⟩
  rw [tog_same]
  exact hQ he _ (x1.trans x3)
theorem spec86 (hI : Closed' prog Pm I) {s t : Sl} {os : List Offr} {xs : List Itm} {ship at_ : Int} (ho : Offs h s os) (hx : Itms h t xs) (hQ : ∀ h', Ext h h' → Q [int (errA os xs ship at_)] h') : I 86 [.one (.slice 12 s), .agg [.slice 4 t, .int .i64 ship], int at_] Q h := by
  refine hI.go _ _ (den86 I s t ship at_ Q) ?_
  have bad : ∀ e (g' : Heap), Ext h g' → errA os xs ship at_ = e → Q [int e] g' := fun e g' hg he => by rw [← he]; exact hQ _ hg
  refine spec35 hI ho fun h1 x1 => ⟨_, rfl, ifT_intro (fun h2 => bad _ _ x1 (if_pos (nd h2))) fun h2 => spec36 hI (x1.itms hx) fun h3 x3 => ⟨_, rfl, ifT_intro (fun h4 => bad _ _ (x1.trans x3) ?_) fun h4 => spec60 hI ⟨_, rfl, ifT_intro (fun h5 => bad _ _ (x1.trans x3) ?_) fun h5 => bad _ _ (x1.trans x3) ?_⟩⟩⟩
  · unfold errA; rw [if_neg (nd' h2), if_pos (nd h4)]
  · unfold errA; rw [if_neg (nd' h2), if_neg (nd' h4), if_pos (nd h5)]
  · unfold errA; rw [if_neg (nd' h2), if_neg (nd' h4), if_neg (nd' h5)]
theorem tagl {x : Offr} (h : errO [x] = 0) : x.tags.length < 1000 := by
  have h1 : scanO [] [x] = 0 := by unfold errO at h; rwa [if_neg (by simp)] at h
  simp only [scanO] at h1
  split at h1
  · cases h1
  split at h1
  · cases h1
  split at h1
  · cases h1
  split at h1
  · cases h1
  split at h1
  · cases h1
  split at h1
  · cases h1
  split at h1
  · rename_i h6; exact absurd h1 h6
  rename_i h6
  have h7 : errTg x.tags = 0 := Decidable.of_not_not h6
  unfold errTg at h7
  split at h7
  · cases h7
  · omega
theorem scanI_tags : ∀ (l pre : List Itm), scanI pre l = 0 → ∀ x ∈ l, x.tags.length ≤ 10
  | [], _, _, x, hx => by cases hx
  | y :: l, pre, h, x, hx => by
    simp only [scanI] at h
    split at h
    · cases h
    split at h
    · cases h
    split at h
    · cases h
    split at h
    · rename_i h6; exact absurd h h6
    rename_i h6
    rcases List.mem_cons.1 hx with rfl | hx
    · have h7 : errTg x.tags = 0 := Decidable.of_not_not h6
      unfold errTg at h7
      split at h7
      · cases h7
      · omega
    · exact scanI_tags l _ h x hx
theorem errK_tags {xs : List Itm} {ship : Int} (h : errK xs ship = 0) : ∀ x ∈ xs, x.tags.length < 1000 := by
  unfold errK at h
  split at h
  · cases h
  split at h
  · rename_i h6; exact absurd h h6
  rename_i h6
  exact fun x hx => by have := scanI_tags xs [] (Decidable.of_not_not h6) x hx; omega
theorem box_offs {i : Nat} {o : Offr} {h h' : Heap} (hn : h i = none) (he : h' = h.set i (.cells false (offC o))) (ht : At h 1 o.tg (strs o.tags)) : Offs h' ⟨some (i, 0), 1⟩ [o] := by
  refine ⟨⟨rfl, .inr ?_⟩, fun x hx => ?_⟩
  · show h'.read i 0 12 = _
    rw [read_block (ro := false) (cs := offC o) (by rw [he, set_eq]) (show 0 + 12 ≤ (offC o).length from Nat.le_refl 12)]
    simp [rows]
    rfl
  · have : x = o := by simpa using hx
    subst this
    exact (he ▸ Ext.new hn : Ext h h').at_ ht
theorem spec41 (hI : Closed' prog Pm I) {o : Offr} {t : Sl} {xs : List Itm} {ship at_ : Int} (ho : At h 1 o.tg (strs o.tags)) (hx : Itms h t xs)
    (hQe : errA [o] xs ship at_ ≠ 0 → ∀ h', Ext h h' → Q [int 0, int (errA [o] xs ship at_)] h') (hQ : errA [o] xs ship at_ = 0 → ∀ h', Ext h h' → Q [int (fitsF o xs ship at_), int 0] h') : I 41 [.agg (offC o), .agg [.slice 4 t, .int .i64 ship], int at_] Q h := by
  refine hI.go _ _ (den41 I o.key o.kind o.a o.b o.tg o.least o.most o.group o.alone o.order o.from_ o.to_ t ship at_ Q) ?_
  refine newK_intro fun i16 h2 hn2 he2 => ?_
  have x2 : Ext h h2 := he2 ▸ Ext.new hn2
  refine spec86 hI (box_offs hn2 he2 ho) (x2.itms hx) fun h3 x3 => ⟨_, rfl, ifT_intro (fun h4 => hQe (nd h4) _ (x2.trans x3)) fun h4 => ?_⟩
  have he := Decidable.of_not_not (nd' h4)
  obtain ⟨e1, e2, e3⟩ := errA_ok he
  obtain ⟨k1, k2, k3, k4⟩ := errK_ok e2
  have xx := x2.trans x3
  exact spec87 hI ((errO_ok e1).2 o (by simp)) (xx.at_ ho) (tagl e1) (xx.itms hx) k2 k1 (errK_tags e2) fun h5 x5 => ⟨_, rfl, hQ he _ (xx.trans x5)⟩
end
end Go.Proofs.YtfemminjhecocaaDoorVc
