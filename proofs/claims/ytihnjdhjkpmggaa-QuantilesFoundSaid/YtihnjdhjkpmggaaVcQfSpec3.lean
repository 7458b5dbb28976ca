/- Contracts of what QuantilesFound reaches: quantiles of both sides, and the law. -/
import Derived.Test.YtihnjdhjkpmggaaVcQfSpec2
import Derived.Test.YtihnjdhjkpmggaaVcQfMath
set_option linter.unusedSimpArgs false
set_option linter.unusedVariables false
namespace Go.Proofs.YtihnjdhjkpmggaaVc
open Go.Proofs.YtihnjdhjkpmggaaQuant
open Go.Proofs.Try (prog)

section
variable {I : Calls} {Q : Post} {h : Heap}

theorem spec104 (hI : Closed' prog Pm I) {i : Nat} {s : Sl} {xs : List Int} (hi : h i = some (.cells false [.slice 1 s])) (hs : At h 1 s (ints xs)) (h0 : 0 < xs.length) (hlen : xs.length ≤ 12)
    (hQ : ∀ s' h' ys, Ext h h' → At h' 1 s' (ints ys) → ys.Perm xs → ys.Pairwise (· ≤ ·) → Q [.one (.slice 1 s')] h') : I 104 [.one (.func (some (131, [(i, 0)])))] Q h := by
  refine hI.go _ _ (den104 I _ Q) ?_
  refine hI.go _ _ (den129 I _ _) ?_
  refine hI.prim _ _ _ _ ⟨rfl, i, s, xs, rfl, hi, hs, by omega, fun s' h' o => ⟨_, rfl, _, rfl, ?_⟩⟩
  rcases o.lies with ⟨_, hx⟩ | ⟨j, ha, hj, hj'⟩
  · have : xs.length = 0 := by simpa using congrArg List.length hx
    omega
  · have hl := o.len
    obtain ⟨sa, n⟩ := s'
    simp only at ha
    subst ha
    have hn : n = xs.length := by simpa using hl
    subst hn
    refine spec130 hI hj' h0 hlen fun ys hp hpw => ⟨rfl, hQ _ _ ys (o.ext.set hj) ⟨?_, .inr ?_⟩ hp hpw⟩
    · rw [ints_length, hp.length_eq]; simp
    · show (h'.set j _).read j 0 _ = _
      rw [read_block (set_eq _ _ _) (by rw [ints_length, hp.length_eq]; simp)]
      simp [ints, hp.length_eq, List.take_of_length_le]

def qErr (n : Nat) (num den : Int) : Int := if n = 0 then 8 else if ¬ ((1 ≤ den ∧ den ≤ 1000) ∧ 0 ≤ num ∧ num ≤ den) then 1 else 0

theorem spec52 (hI : Closed' prog Pm I) {s : Sl} {xs : List Int} {num den : Int} (hs : At h 1 s (ints xs)) (hlen : xs.length ≤ 12)
    (hQe : qErr xs.length num den ≠ 0 → Q [int 0, int (qErr xs.length num den)] h) (hQ : qErr xs.length num den = 0 → ∀ v h', Ext h h' → Least xs num.toNat den.toNat v → Q [int v, int 0] h') :
    I 52 [.one (.slice 1 s), int num, int den] Q h := by
  have hl : s.len = xs.length := by rw [hs.len1, ints_length]
  refine hI.go _ _ (den52 I s num den Q) ?_
  unfold vc52
  rw [hl]
  refine ifT_dec (fun h => by omega) fun _ => ifT_dec (fun hz => ?_) fun hz => ?_
  · have e : qErr xs.length num den = 8 := by unfold qErr; rw [if_pos (by omega)]
    rw [e] at hQe
    exact hQe (by decide)
  have e0 : qErr xs.length num den = if ¬ ((1 ≤ den ∧ den ≤ 1000) ∧ 0 ≤ num ∧ num ≤ den) then 1 else 0 := by unfold qErr; rw [if_neg (by omega)]
  rw [e0] at hQe hQ
  refine joinK_intro (fun (b : Bool) h' => h' = h ∧ (b = true ↔ ¬ ((1 ≤ den ∧ den ≤ 1000) ∧ 0 ≤ num ∧ num ≤ den))) ?_ fun j hj =>
    spec65 hI ⟨_, rfl, ifT_intro (fun hb => hj _ _ ⟨rfl, by simp at hb; simp; omega⟩) fun hb => spec65 hI ⟨_, rfl, hj _ _ ⟨rfl, by simp at hb; simp; omega⟩⟩⟩
  rintro b h' ⟨rfl, hb⟩
  refine ifT_intro (fun hbt => ?_) fun hbf => ?_
  · rw [if_pos (hb.1 hbt)] at hQe
    exact hQe (by decide)
  have g : (1 ≤ den ∧ den ≤ 1000) ∧ 0 ≤ num ∧ num ≤ den := by
    by_cases h : (1 ≤ den ∧ den ≤ 1000) ∧ 0 ≤ num ∧ num ≤ den
    · exact h
    · rw [hb.2 h] at hbf; cases hbf
  rw [if_neg (fun h => h g)] at hQ
  obtain ⟨den, rfl⟩ := Int.eq_ofNat_of_zero_le (show 0 ≤ den by omega)
  obtain ⟨num, rfl⟩ := Int.eq_ofNat_of_zero_le g.2.1
  refine hI.go _ _ (den105 I s _) ?_
  refine newK_intro fun i2 h2 hn2 he2 => ⟨_, rfl, ?_⟩
  have x2 : Ext h' h2 := he2 ▸ Ext.new hn2
  refine spec104 hI (h := h2) (by rw [he2, set_eq]) (x2.at_ hs) (by omega) hlen fun s' h3 ys x3 a3 hp hpw => ⟨s', rfl, by omega, ?_⟩
  have hnl := need_le (num := num) (den := den) (n := xs.length) (by omega) (by omega) (by omega)
  have hm1 : num * xs.length ≤ 1000 * 12 := Nat.mul_le_mul (by omega) hlen
  have ei : IntKind.i64.wrap (max (IntKind.i64.wrap ((IntKind.i64.wrap (IntKind.i64.wrap (IntKind.i64.wrap ((num : Int) * ((xs.length : Nat) : Int)) + (den : Int)) - 1)).tdiv (den : Int))) 1 - 1) = ((need num den xs.length - 1 : Nat) : Int) := by
    have e1 : (num : Int) * ((xs.length : Nat) : Int) = ((num * xs.length : Nat) : Int) := by simp
    rw [e1]
    unfold need at *
    generalize num * xs.length = a at *
    rw [w64 (n := (a : Int)) (by omega) (by omega), w64 (n := (a : Int) + den) (by omega) (by omega), w64 (n := (a : Int) + den - 1) (by omega) (by omega)]
    have e2 : (a : Int) + den - 1 = ((a + den - 1 : Nat) : Int) := by omega
    rw [e2, ← Int.ofNat_tdiv]
    have h5 : (a + den - 1) / den ≤ a + den - 1 := Nat.div_le_self _ _
    generalize (a + den - 1) / den = q at *
    rw [w64 (n := (q : Int)) (by omega) (by omega), w64 (by omega) (by omega)]
    omega
  rw [ei]
  have hyl := hp.length_eq
  have hl3 : s'.len = ys.length := by rw [a3.len1, ints_length]
  have hx := List.getElem?_eq_getElem (show need num den xs.length - 1 < ys.length by unfold need at *; omega)
  generalize ys[need num den xs.length - 1]'_ = v at hx
  have h1n : 1 ≤ need num den xs.length := by unfold need; omega
  refine ⟨⟨by omega, by omega⟩, a3.cell (ints_get hx) fun bb o hr => ⟨v, hr, ?_⟩⟩
  have := hQ (by simp) v h3 (x2.trans x3) (least_of_sorted hp hpw (by omega) (by omega) (by omega) hx)
  simpa using this

theorem cnt_step {xs : List Int} {k : Nat} {x e : Int} (hx : xs[k]? = some x) : cnt (xs.take (k + 1)) e = cnt (xs.take k) e + if x ≤ e then 1 else 0 := by
  unfold cnt
  rw [List.take_add_one, hx]
  show List.countP _ (xs.take k ++ [x]) = _
  rw [List.countP_append]
  simp [List.countP_cons]

theorem spec53 (hI : Closed' prog Pm I) {s : Sl} {xs : List Int} {num den : Int} (hs : At h 1 s (ints xs)) (hlen : xs.length ≤ 12)
    (hQe : qErr xs.length num den ≠ 0 → Q [int 0, int (qErr xs.length num den)] h) (hQ : qErr xs.length num den = 0 → ∀ v, (∀ u, Least xs num.toNat den.toNat u → u = v) → Q [int v, int 0] h) :
    I 53 [.one (.slice 1 s), int num, int den] Q h := by
  have hl : s.len = xs.length := by rw [hs.len1, ints_length]
  refine hI.go _ _ (den53 I s num den Q) ?_
  unfold vc53
  rw [hl]
  refine ifT_dec (fun h => by omega) fun _ => ifT_dec (fun hz => ?_) fun hz => ?_
  · have e : qErr xs.length num den = 8 := by unfold qErr; rw [if_pos (by omega)]
    rw [e] at hQe
    exact hQe (by decide)
  have e0 : qErr xs.length num den = if ¬ ((1 ≤ den ∧ den ≤ 1000) ∧ 0 ≤ num ∧ num ≤ den) then 1 else 0 := by unfold qErr; rw [if_neg (by omega)]
  rw [e0] at hQe hQ
  refine joinK_intro (fun (b : Bool) h' => h' = h ∧ (b = true ↔ ¬ ((1 ≤ den ∧ den ≤ 1000) ∧ 0 ≤ num ∧ num ≤ den))) ?_ fun j hj =>
    ifT_dec (fun h => hj _ _ ⟨rfl, by simp; omega⟩) fun h => ifT_dec (fun h => hj _ _ ⟨rfl, by simp; omega⟩) fun h => ifT_dec (fun h => hj _ _ ⟨rfl, by simp; omega⟩) fun h => hj _ _ ⟨rfl, by simp; omega⟩
  rintro b h' ⟨rfl, hb⟩
  refine ifT_intro (fun hbt => ?_) fun hbf => ?_
  · rw [if_pos (hb.1 hbt)] at hQe
    exact hQe (by decide)
  have g : (1 ≤ den ∧ den ≤ 1000) ∧ 0 ≤ num ∧ num ≤ den := by
    by_cases h : (1 ≤ den ∧ den ≤ 1000) ∧ 0 ≤ num ∧ num ≤ den
    · exact h
    · rw [hb.2 h] at hbf; cases hbf
  rw [if_neg (fun h => h g)] at hQ
  obtain ⟨den, rfl⟩ := Int.eq_ofNat_of_zero_le (show 0 ≤ den by omega)
  obtain ⟨num, rfl⟩ := Int.eq_ofNat_of_zero_le g.2.1
  have hm1 : num * xs.length ≤ 1000 * 12 := Nat.mul_le_mul (by omega) hlen
  have ea : IntKind.i64.wrap ((num : Int) * ((xs.length : Nat) : Int)) = ((num * xs.length : Nat) : Int) := by
    have e1 : (num : Int) * ((xs.length : Nat) : Int) = ((num * xs.length : Nat) : Int) := by simp
    rw [e1]
    generalize num * xs.length = a at *
    exact w64 (by omega) (by omega)
  refine loopK_intro (fun (a : Bool × Int × Int) h'' m => h'' = h' ∧ ∃ i : Nat, i ≤ xs.length ∧ a.2.2 = (i : Int) ∧ xs.length - i = m ∧ (a.1 = true → a.2.1 ∈ xs ∧ num * xs.length ≤ cnt xs a.2.1 * den) ∧
      (∀ e ∈ xs.take i, num * xs.length ≤ cnt xs e * den → a.1 = true ∧ a.2.1 ≤ e)) xs.length ⟨rfl, 0, by omega, rfl, rfl, (fun h => by cases h), by simp⟩ ?_
  rintro ⟨fd, best, y⟩ h'' m ⟨rfl, i, hi, rfl, rfl, hq1, hq2⟩
  dsimp only [uncur]
  simp only at hq1 hq2
  refine ifT_dec (fun hlt => ⟨⟨by omega, by omega⟩, ?_⟩) (fun hge => ?_)
  · have hx := List.getElem?_eq_getElem (show i < xs.length by omega)
    have hxm : xs[i] ∈ xs := List.getElem_mem _
    generalize xs[i] = x at hx hxm
    have htk : xs.take (i + 1) = xs.take i ++ [x] := by rw [List.take_add_one, hx]; rfl
    refine hs.cell (ints_get hx) fun bb o hr => ⟨x, hr, ?_⟩
    refine loopK_intro (fun (a : Int × Int) h3 m => h3 = h'' ∧ ∃ k : Nat, k ≤ xs.length ∧ a = (((cnt (xs.take k) x : Nat) : Int), (k : Int)) ∧ xs.length - k = m) xs.length ⟨rfl, 0, by omega, rfl, rfl⟩ ?_
    rintro a h3 m ⟨rfl, k, hk, rfl, rfl⟩
    dsimp only [uncur]
    have hck := cnt_le (xs.take k) x
    rw [List.length_take] at hck
    refine ifT_dec (fun hlt2 => ⟨⟨by omega, by omega⟩, ?_⟩) (fun hge2 => ?_)
    · have hz := List.getElem?_eq_getElem (show k < xs.length by omega)
      generalize xs[k] = z at hz
      have hst := cnt_step (e := x) hz
      refine hs.cell (ints_get hz) fun bb o hr => ⟨z, hr, ifT_dec (fun hle => ?_) fun hgt => ?_⟩
      · rw [if_pos hle] at hst
        refine ⟨xs.length - (k + 1), by omega, rfl, k + 1, by omega, ?_, rfl⟩
        rw [hst]
        generalize cnt (xs.take k) x = c at *
        rw [w64 (by omega) (by omega), w64 (by omega) (by omega)]
        rfl
      · rw [if_neg (by omega)] at hst
        refine ⟨xs.length - (k + 1), by omega, rfl, k + 1, by omega, ?_, rfl⟩
        rw [hst]
        rw [w64 (by omega) (by omega)]
        rfl
    · have : k = xs.length := by omega
      subst this
      rw [List.take_length] at hck ⊢
      have hm2 : cnt xs x * den ≤ 12 * 1000 := Nat.mul_le_mul (by omega) (by omega)
      have eb : IntKind.i64.wrap (((cnt xs x : Nat) : Int) * (den : Int)) = ((cnt xs x * den : Nat) : Int) := by
        have e1 : ((cnt xs x : Nat) : Int) * (den : Int) = ((cnt xs x * den : Nat) : Int) := by simp
        rw [e1]
        generalize cnt xs x * den = a at *
        exact w64 (by omega) (by omega)
      have ei : IntKind.i64.wrap ((i : Int) + 1) = ((i + 1 : Nat) : Int) := by rw [w64] <;> omega
      rw [ea, eb, ei]
      refine ifT_dec (fun hok => ?_) fun hno => ?_
      · have hok' : num * xs.length ≤ cnt xs x * den := by omega
        have take : ∀ h4 : (fd = true → x < best), _ := fun h4 => (⟨xs.length - (i + 1), by omega, rfl, i + 1, by omega, rfl, rfl, fun _ => ⟨hxm, hok'⟩, fun e he hq => by
          rw [htk] at he
          rcases List.mem_append.1 he with he | he
          · have := hq2 e he hq
            have := h4 this.1
            exact ⟨rfl, by show x ≤ e; omega⟩
          · have : e = x := by simpa using he
            exact ⟨rfl, by show x ≤ e; omega⟩⟩ :
          ∃ m', m' < xs.length - i ∧ (fun (a : Bool × Int × Int) h'' m => h'' = h3 ∧ ∃ i : Nat, i ≤ xs.length ∧ a.2.2 = (i : Int) ∧ xs.length - i = m ∧ (a.1 = true → a.2.1 ∈ xs ∧ num * xs.length ≤ cnt xs a.2.1 * den) ∧
            (∀ e ∈ xs.take i, num * xs.length ≤ cnt xs e * den → a.1 = true ∧ a.2.1 ≤ e)) (true, x, ((i + 1 : Nat) : Int)) h3 m')
        refine ifT_intro (fun hf => take fun h => by rw [h] at hf; cases hf) fun hf => ifT_dec (fun hlt3 => take fun _ => hlt3) fun hge3 => ?_
        have hft : fd = true := by cases fd <;> simp at hf ⊢
        refine ⟨xs.length - (i + 1), by omega, rfl, i + 1, by omega, rfl, rfl, hq1, fun e he hq => ?_⟩
        rw [htk] at he
        rcases List.mem_append.1 he with he | he
        · exact hq2 e he hq
        · have : e = x := by simpa using he
          exact ⟨hft, by show best ≤ e; omega⟩
      · refine ⟨xs.length - (i + 1), by omega, rfl, i + 1, by omega, rfl, rfl, hq1, fun e he hq => ?_⟩
        rw [htk] at he
        rcases List.mem_append.1 he with he | he
        · exact hq2 e he hq
        · have : e = x := by simpa using he
          subst this
          omega
  · have : i = xs.length := by omega
    subst this
    rw [List.take_length] at hq2
    have := hQ (by simp) best fun u hu => by
      simp only [Int.toNat_natCast] at hu
      obtain ⟨h1, h2⟩ := hq2 u hu.mem hu.ok
      obtain ⟨h3, h4⟩ := hq1 h1
      exact Int.le_antisymm (hu.least _ h3 h4) h2
    exact this

theorem spec22 (hI : Closed' prog Pm I) (hQ : Q [boo true] h) : I 22 [] Q h := by
  refine hI.go _ _ (den22 I Q) ?_
  refine hI.go _ _ (den17 I 2 4 _) ?_
  refine joinK_intro (fun (b : Bool) h' => h' = h ∧ b = false) ?_ ?_
  · rintro _ h' ⟨rfl, rfl⟩
    refine ifT_intro (fun h => by cases h) fun _ => ifT_dec (fun h => absurd h (by decide)) fun _ => ?_
    refine spec64 hI (a := 2) (b := 4) (by decide) (by decide) (by decide) ⟨_, _, rfl, _, _, _, rfl, ?_⟩
    refine ifT_dec (fun _ => ?_) fun h => absurd rfl h
    have e : (decide (((2 / Nat.gcd 2 4 : Nat) : Int) = 1) && decide (((4 / Nat.gcd 2 4 : Nat) : Int) = 2)) = true := by decide
    rw [e]
    exact hQ
  · intro j hj
    refine spec65 hI ⟨_, rfl, ifT_intro (fun h => by simp at h) fun _ => spec65 hI ⟨_, rfl, hj _ _ ⟨rfl, by decide⟩⟩⟩

/-- A literal lies where it was put, whatever becomes of the stream. -/
theorem lit_at {h h0 : Heap} {i j n : Nat} {o : Obj} {xs : List Int} (hne : j ≠ i) (he : h = h0.set j (.cells false (ints xs))) (hn : n = xs.length) : At (h.set i o) 1 ⟨some (j, 0), n⟩ (ints xs) := by
  refine ⟨by rw [ints_length]; simp [hn], .inr ?_⟩
  show (h.set i o).read j 0 (n * 1) = _
  unfold Heap.read
  rw [set_ne _ _ hne, he, set_eq]
  subst hn
  simp [ints, List.take_of_length_le]

/-- The law. -/
theorem spec10 (hI : Closed' prog Pm I) {s : Sl} {zs : List Int} (hs : At h 1 s (ints zs)) : I 10 [.one (.slice 1 s)] tru h := by
  refine hI.go _ _ (den10 I s tru) ?_
  refine newK_intro fun i2 h1 hn1 he1 => ?_
  have S0 : Strm h1 i2 s zs 0 := he1 ▸ Strm.make hs hn1
  refine spec12 hI S0 (by decide) (by decide) fun n hn0 hn1 => ⟨n, rfl, ?_⟩
  refine loopK_intro (fun (a : Sl × Int) h' m => ∃ j : Nat, (j : Int) ≤ n ∧ a.2 = j ∧ 14 - j = m ∧ ∃ xs, xs.length = j ∧ Owns (h1.del i2) h' [(1, a.1, ints xs), owS i2 s (1 + 2 * j)]) 14
    ⟨0, by omega, rfl, rfl, [], rfl, (S0.owns.next (t' := 1)).none_ 1⟩ ?_
  rintro ⟨l, y⟩ h' m ⟨j, hj, rfl, rfl, xs, hxl, o⟩
  dsimp only [uncur]
  have hsl := o.slen (s := l) List.mem_cons_self
  rw [ints_length] at hsl
  have S2 := o.toStrm S0 (t' := 1 + 2 * j) (by simp) (by omega)
  refine ifT_dec (fun hlt => ?_) (fun hge => ?_)
  · refine spec12 hI S2 (by decide) (by decide) fun w hw0 hw1 => ⟨w, rfl, ?_⟩
    have o3 := ((o.perm (List.Perm.swap _ _ _)).next (t' := 1 + 2 * j + 1)).perm (List.Perm.swap _ _ _)
    refine newK_intro fun i9 h4 hn4 he4 => ?_
    have o4 := o3.mono (he4 ▸ Ext.new hn4 : Ext _ h4)
    have S4 := o4.toStrm S0 (t' := 1 + 2 * j + 1) (by simp) (by omega)
    have hne : i9 ≠ i2 := fun e => by subst e; rw [o3.strmCell (l := s) (t := 1 + 2 * j + 1) (by simp)] at hn4; cases hn4
    refine spec30 hI (xs := [0, 1, 5, -5, 9223372036854775807, -9223372036854775808, w]) S4 (lit_at hne he4 rfl) (by simp) (by simp) fun v _ => ⟨v, rfl, ?_⟩
    have o5 := ((o4.perm (List.Perm.swap _ _ _)).next (t' := 1 + 2 * j + 1 + 1)).perm (List.Perm.swap _ _ _)
    refine appendTo_owns (m := 0) o5 (by rfl) (by omega) (by simp) fun b h6 o6 => ⟨14 - (j + 1), by omega, j + 1, by omega, ?_, rfl, xs ++ [v], by simp [hxl], by rw [show 1 + 2 * (j + 1) = 1 + 2 * j + 1 + 1 by omega]; simpa [ints] using o6⟩
    show IntKind.i64.wrap ((j : Int) + 1) = _
    rw [w64] <;> omega
  · refine newK_intro fun i9 h4 hn4 he4 => ?_
    have o4 := o.mono (he4 ▸ Ext.new hn4 : Ext _ h4)
    have S4 := o4.toStrm S0 (t' := 1 + 2 * j) (by simp) (by omega)
    have hne : i9 ≠ i2 := fun e => by subst e; rw [o.strmCell (l := s) (t := 1 + 2 * j) (by simp)] at hn4; cases hn4
    refine spec30 hI (xs := [1, 2, 3, 4, 100, 1000, 0, 1001]) S4 (lit_at hne he4 rfl) (by simp) (by simp) fun den hden => ⟨den, rfl, ?_⟩
    have o5 := ((o4.perm (List.Perm.swap _ _ _)).next (t' := 1 + 2 * j + 1)).perm (List.Perm.swap _ _ _)
    refine newK_intro fun i10 h6 hn6 he6 => ?_
    have o6 := o5.mono (he6 ▸ Ext.new hn6 : Ext _ h6)
    have S6 := o6.toStrm S0 (t' := 1 + 2 * j + 1) (by simp) (by omega)
    have hne2 : i10 ≠ i2 := fun e => by subst e; rw [o5.strmCell (l := s) (t := 1 + 2 * j + 1) (by simp)] at hn6; cases hn6
    refine spec30 hI (xs := [0, 1, IntKind.i64.wrap (den.tdiv 2), den, IntKind.i64.wrap (den + 1), -1]) S6 (lit_at hne2 he6 rfl) (by simp) (by simp) fun num hnum => ⟨num, rfl, ?_⟩
    have o7 := ((o6.perm (List.Perm.swap _ _ _)).next (t' := 1 + 2 * j + 1 + 1)).perm (List.Perm.swap _ _ _)
    have a7 := o7.at_ (s := l) List.mem_cons_self
    refine spec52 hI a7 (by omega) (fun he => ⟨_, _, rfl, ?_⟩) fun he v h8 x8 hv => ⟨_, _, rfl, ?_⟩
    · refine spec53 hI a7 (by omega) (fun _ => ⟨_, _, rfl, ?_⟩) fun he' => absurd he' he
      exact spec22 hI ⟨_, rfl, ifT_intro (fun _ => ifT_dec (fun _ => by simp [tru]) fun h => absurd rfl h) fun h => by cases h⟩
    · refine spec53 hI (x8.at_ a7) (by omega) (fun he' => absurd he he') fun _ u hu => ⟨_, _, rfl, ?_⟩
      have := hu v hv
      subst this
      exact spec22 hI ⟨_, rfl, ifT_intro (fun _ => ifT_dec (fun _ => by simp [tru]) fun h => absurd rfl h) fun h => by cases h⟩

end
end Go.Proofs.YtihnjdhjkpmggaaVc
