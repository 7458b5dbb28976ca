/- Contracts of what SentChecks reaches: the letters before a gain. -/
import Derived.Test.YtihnjdhjkpmggaaDoorVcSeSpec2
set_option linter.unusedSimpArgs false
set_option linter.unusedVariables false
namespace Go.Proofs.YtihnjdhjkpmggaaDoorVc
open Go.Proofs.Tryd (prog)

theorem take_snoc {α : Type} {l : List α} {k : Nat} {x : α} (h : l[k]? = some x) : l.take (k + 1) = l.take k ++ [x] := by rw [List.take_add_one, h]; rfl

section
variable {I : Calls} {Q : Post} {h : Heap}

/-- cmp.Or of two. -/
theorem spec15 (hI : Closed' prog Pm I) {s : Sl} {a b : Int} (hs : At h 1 s (ints [a, b])) (hQ : Q [int (if a = 0 then b else a)] h) : I 15 [.one (.slice 1 s)] Q h := by
  have hl : s.len = 2 := by rw [hs.len1, ints_length]; rfl
  refine hI.go _ _ (den15 I s Q) ?_
  unfold vc15
  rw [hl]
  refine loopK_intro (fun (x : Int) h' m => h' = h ∧ ∃ i : Nat, i ≤ 2 ∧ x = i ∧ m = 2 - i ∧ (0 < i → a = 0) ∧ (1 < i → b = 0)) 2 ⟨rfl, 0, by omega, rfl, rfl, by simp, by simp⟩ ?_
  rintro x h' m ⟨rfl, i, hi, rfl, rfl, h1, h2⟩
  refine ifT_dec (fun hlt => ⟨⟨by omega, hlt⟩, ?_⟩) fun hge => ?_
  · have hi2 : i = 0 ∨ i = 1 := by omega
    rcases hi2 with rfl | rfl
    · refine hs.cell (i := 0) (ints_get (x := a) rfl) fun bb o hr => ⟨a, hr, ifT_intro (fun h3 => ?_) fun h3 => ?_⟩
      · rw [if_neg (nd h3)] at hQ; exact hQ
      · exact ⟨1, by omega, rfl, 1, by omega, rfl, rfl, fun _ => Decidable.of_not_not (nd' h3), by simp⟩
    · have ha := h1 (by omega)
      rw [if_pos ha] at hQ
      refine hs.cell (i := 1) (ints_get (x := b) rfl) fun bb o hr => ⟨b, hr, ifT_intro (fun h3 => hQ) fun h3 => ?_⟩
      exact ⟨0, by omega, rfl, 2, by omega, rfl, rfl, fun _ => ha, fun _ => Decidable.of_not_not (nd' h3)⟩
  · have : i = 2 := by omega
    subst this
    have ha := h1 (by omega)
    have hb := h2 (by omega)
    rw [if_pos ha, hb] at hQ
    exact hQ

theorem bef {g : Gain} {w : Int} {x : Sent} (b1 : Bool) : before g w x = b1 → before g w x = b1 := id

theorem spec53 (hI : Closed' prog Pm I) {s : Sl} {xs : List Sent} {g : Gain} {w : Int} (hs : At h 4 s (rows sentC xs)) (hlen : xs.length < 1000) (hm : ∀ x ∈ xs, moment x.at_) (hg : moment g.at_)
    (hQ : ∀ s' h', Ext h h' → At h' 1 s' (nats (pathL xs g w)) → Q [.one (.slice 1 s')] h') : I 53 [.one (.slice 4 s), .agg (gainC g), int w] Q h := by
  have hl : s.len = xs.length := hs.rowsLen sentC_length (by decide)
  refine hI.go _ _ (den53 I s g.id g.person g.at_ g.cents w Q) ?_
  refine loopK_intro (fun (a : Sl × Int) h'' m => ∃ k : Nat, k ≤ xs.length ∧ xs.length - k = m ∧ a.2 = (k : Int) ∧ Own h h'' 1 a.1 (nats (hits xs g w k))) xs.length
    ⟨0, by omega, rfl, rfl, Own.nil _ _⟩ ?_
  rintro ⟨l, y⟩ h2 m ⟨k, hk, rfl, rfl, o⟩
  dsimp only [uncur]
  have hol := o.len
  rw [nats_length, Nat.mul_one] at hol
  change l.len = _ at hol
  have hhl := hits_length xs g w k
  refine ifT_dec (fun hlt => ⟨⟨by omega, hlt⟩, ?_⟩) fun hge => ?_
  · have hx := List.getElem?_eq_getElem (show k < xs.length by omega)
    have hxm : xs[k] ∈ xs := List.getElem_mem _
    generalize xs[k] = x at hx hxm
    have hst := hits_step (g := g) (w := w) hx
    have hmx := hm x hxm
    unfold moment at hmx hg
    have ew : IntKind.i64.wrap ((k : Int) + 1) = ((k + 1 : Nat) : Int) := by rw [w64] <;> omega
    have ed : IntKind.i64.wrap (g.at_ - x.at_) = g.at_ - x.at_ := by rw [w64] <;> omega
    rw [ew]
    have no : before g w x = false → ∃ m', m' < xs.length - k ∧ ∃ j : Nat, j ≤ xs.length ∧ xs.length - j = m' ∧ ((l, ((k + 1 : Nat) : Int)) : Sl × Int).2 = (j : Int) ∧ Own h h2 1 ((l, ((k + 1 : Nat) : Int)) : Sl × Int).1 (nats (hits xs g w j)) := fun hb => by
      rw [hb] at hst
      exact ⟨xs.length - (k + 1), by omega, k + 1, by omega, rfl, rfl, by rw [hst]; simpa using o⟩
    refine (o.ext.at_ hs).row sentC_length (by decide) hx fun bb o' hr => ⟨x.id, x.person, x.letter, x.at_, hr, ?_⟩
    rw [ed]
    refine ifT_dec (fun h1 => ifT_dec (fun h3 => ifT_dec (fun h4 => ?_) fun h4 => no ?_) fun h3 => no ?_) fun h1 => no ?_
    · have hb : before g w x = true := by unfold before; simp [h1, h3, h4]
      rw [hb, if_pos rfl] at hst
      refine appendTo_own (m := 0) o (by rfl) (by omega) fun s' h3 o3 hl3 => ⟨xs.length - (k + 1), by omega, k + 1, by omega, rfl, rfl, by rw [hst]; simpa [nats] using o3⟩
    · unfold before; simp [h4]
    · unfold before; simp [h3]
    · unfold before; simp [h1]
  · have hkk : k = xs.length := by omega
    subst hkk
    have hol' : l.len = (hits xs g w xs.length).length := hol
    have ew : max (IntKind.i64.wrap ((l.len : Int) - 12)) 0 = ((l.len - 12 : Nat) : Int) := by
      have hb : l.len ≤ 1000 := by omega
      rw [w64 (n := (l.len : Int) - 12) (by omega) (by omega)]
      omega
    show ((0 ≤ max (IntKind.i64.wrap ((l.len : Int) - 12)) 0) ∧ (max (IntKind.i64.wrap ((l.len : Int) - 12)) 0 ≤ (l.len : Int)) ∧ (l.len : Int) ≤ (l.len : Int)) ∧ Q [.one (.slice 1 (l.sub 1 (max (IntKind.i64.wrap ((l.len : Int) - 12)) 0).toNat ((l.len : Int)).toNat))] h2
    rw [ew]
    refine ⟨⟨by omega, by omega, by omega⟩, hQ _ _ o.ext ?_⟩
    rw [Int.toNat_natCast, Int.toNat_natCast]
    have o' : Own h h2 1 l (nats (hits xs g w xs.length)) := o
    have := At.sub o'.at_ (l.len - 12) l.len (by omega) (by omega)
    rw [Nat.mul_one, Nat.mul_one] at this
    rw [List.take_of_length_le (by rw [List.length_drop, nats_length]; omega)] at this
    have e : (nats (hits xs g w xs.length)).drop (l.len - 12) = nats (pathL xs g w) := by
      unfold pathL nats
      rw [← List.map_drop, hol]
    rw [e] at this
    exact this

/-- Turned about, in place. -/
theorem spec55 (hI : Closed' prog Pm I) {blk : Nat} {xs : List Int} (hb : h blk = some (.cells false (ints xs))) (hlen : xs.length < 1000) (hQ : Q [] (h.set blk (.cells false (ints xs.reverse)))) :
    I 55 [.one (.slice 1 ⟨some (blk, 0), xs.length⟩)] Q h := by
  refine hI.go _ _ (den55 I _ Q) ?_
  have e0 : IntKind.i64.wrap (((xs.length : Nat) : Int) - 1) = ((xs.length : Nat) : Int) - 1 := by rw [w64] <;> omega
  unfold vc55
  rw [e0]
  refine loopK_intro (fun (a : Int × Int) h' m => ∃ i : Nat, 2 * i ≤ xs.length + 1 ∧ a = ((i : Int), (xs.length : Int) - 1 - i) ∧ m = xs.length - i ∧ ∃ ys : List Int, ys.length = xs.length ∧ (∀ j, j < xs.length → ys[j]? = if j < i ∨ xs.length - i ≤ j then xs[xs.length - 1 - j]? else xs[j]?) ∧ h' = h.set blk (.cells false (ints ys))) xs.length
    ⟨0, by omega, by simp, rfl, xs, rfl, fun j hj => by rw [if_neg (by omega)], (set_self hb).symm⟩ ?_
  rintro a h' m ⟨i, hi, rfl, rfl, ys, hyl, hys, rfl⟩
  dsimp only [uncur]
  refine ifT_dec (fun hlt => ⟨⟨by omega, by first | omega | (simp; omega)⟩, ?_⟩) fun hge => ?_
  · have hj0 : (xs.length : Int) - 1 - i = ((xs.length - 1 - i : Nat) : Int) := by omega
    rw [hj0]
    have h1 : i < ys.length := by omega
    have h2 : xs.length - 1 - i < ys.length := by omega
    have hy1 := List.getElem?_eq_getElem h1
    have hy2 := List.getElem?_eq_getElem h2
    generalize ys[i] = p at hy1
    generalize ys[xs.length - 1 - i] = q at hy2
    have rd : ∀ (g : Heap) (zs : List Int) (k : Nat) (v : Int), g blk = some (.cells false (ints zs)) → zs[k]? = some v → g.read blk (0 + ((k : Nat) : Int).toNat * 1) 1 = some [.int .i64 v] := fun g zs k v hg hz => by
      rw [Int.toNat_natCast, Nat.mul_one, Nat.zero_add]
      exact read_cell hg (ints_get hz)
    refine derefK_intro rfl ⟨q, rd _ _ _ _ (set_eq _ _ _) hy2, ⟨by omega, by first | omega | (simp; omega)⟩, derefK_intro rfl ⟨p, rd _ _ _ _ (set_eq _ _ _) hy1, ⟨by omega, by first | omega | (simp; omega)⟩, derefK_intro rfl ?_⟩⟩
    rw [Int.toNat_natCast, Nat.mul_one, Nat.zero_add]
    refine storeK_one (set_eq _ _ _) (by rw [ints_length]; omega) ⟨⟨by omega, by first | omega | (simp; omega)⟩, derefK_intro rfl ?_⟩
    rw [Int.toNat_natCast, Nat.mul_one, Nat.zero_add]
    refine storeK_one (set_eq _ _ _) (by rw [List.length_set, ints_length]; omega) ?_
    rw [set_set, set_set, ints_set, ints_set]
    refine ⟨xs.length - (i + 1), by omega, i + 1, by omega, ?_, rfl, (ys.set i q).set (xs.length - 1 - i) p, by simp [hyl], fun j hj => ?_, rfl⟩
    · rw [w64 (n := (i : Int) + 1) (by omega) (by omega), w64 (by omega) (by omega)]
      simp only [Prod.mk.injEq]
      omega
    · have hp := hys i (by omega)
      have hq := hys (xs.length - 1 - i) (by omega)
      rw [if_neg (by omega)] at hp hq
      rw [List.getElem?_set, List.getElem?_set]
      by_cases hj1 : j = xs.length - 1 - i
      · rw [if_pos hj1.symm, if_pos (by rw [List.length_set]; omega), if_pos (by omega), hj1]
        have e : xs.length - 1 - (xs.length - 1 - i) = i := by omega
        rw [e, ← hp, hy1]
      · rw [if_neg (fun e => hj1 e.symm)]
        by_cases hj2 : j = i
        · subst hj2
          rw [if_pos rfl, if_pos (by omega), if_pos (by omega), ← hq, hy2]
        · rw [if_neg (fun e => hj2 e.symm), hys j hj]
          by_cases hc : j < i ∨ xs.length - i ≤ j
          · rw [if_pos hc, if_pos (by omega)]
          · rw [if_neg hc, if_neg (by omega)]
  · have e : ys = xs.reverse := by
      apply List.ext_getElem?
      intro j
      rcases Nat.lt_or_ge j xs.length with hj | hj
      · rw [List.getElem?_reverse hj, hys j hj]
        by_cases hc : j < i ∨ xs.length - i ≤ j
        · rw [if_pos hc]
        · rw [if_neg hc]
          congr 1
          omega
      · rw [List.getElem?_eq_none (by omega), List.getElem?_eq_none (by rw [List.length_reverse]; exact hj)]
    rw [e]
    exact hQ

theorem spec18 (hI : Closed' prog Pm I) {s : Sl} {xs : List Sent} {g : Gain} {w : Int} (hs : At h 4 s (rows sentC xs)) (hlen : xs.length < 1000) (hm : ∀ x ∈ xs, moment x.at_) (hg : moment g.at_)
    (hQ : ∀ s' h', Ext h h' → At h' 1 s' (nats (pathL xs g w)) → Q [.one (.slice 1 s')] h') : I 18 [.one (.slice 4 s), .agg (gainC g), int w] Q h := by
  have hl : s.len = xs.length := hs.rowsLen sentC_length (by decide)
  refine hI.go _ _ (den18 I s g.id g.person g.at_ g.cents w Q) ?_
  have e0 : IntKind.i64.wrap (((s.len : Nat) : Int) - 1) = ((xs.length : Nat) : Int) - 1 := by rw [hl, w64] <;> omega
  unfold vc18
  rw [e0]
  refine loopK_intro (fun (a : Sl × Int) h'' m => ∃ c : List Nat, m ≤ xs.length ∧ a.2 = (m : Int) - 1 ∧ (hits xs g w xs.length).reverse = c ++ (hits xs g w m).reverse ∧ c.length ≤ 12 ∧ Own h h'' 1 a.1 (nats c)) xs.length
    ⟨[], by omega, rfl, rfl, by decide, Own.nil _ _⟩ ?_
  rintro ⟨l, y⟩ h2 m ⟨c, hk, rfl, hc, hcl, o⟩
  dsimp only [uncur]
  have hol := o.len
  rw [nats_length, Nat.mul_one] at hol
  change l.len = _ at hol
  -- it ends
  have fin : (m = 0 ∨ c.length = 12) → I 55 [.one (.slice 1 l)] (fun cs23 h24 => (cs23 = []) ∧ Q [.one (.slice 1 l)] h24) h2 := fun hend => by
    have hp : pathL xs g w = c.reverse := by
      have hall : hits xs g w xs.length = (hits xs g w m) ++ c.reverse := by
        have := congrArg List.reverse hc
        simpa using this
      unfold pathL
      rw [hall, List.length_append, List.length_reverse]
      rcases hend with rfl | h12
      · have : hits xs g w 0 = [] := rfl
        rw [this, List.nil_append, List.length_nil]
        have : 0 + c.length - 12 = 0 := by omega
        rw [this]; rfl
      · rw [h12, Nat.add_sub_cancel, List.drop_left]
    rcases o.lies with ⟨ha, hx⟩ | ⟨j, ha, hj, hj'⟩
    · have hc0 : c = [] := by
        have : c.length = 0 := by simpa [nats] using congrArg List.length hx
        exact List.length_eq_zero_iff.1 this
      subst hc0
      obtain ⟨la, ln⟩ := l
      simp only at ha hol
      subst ha
      subst hol
      refine hI.go _ _ (den55 I _ _) ?_
      refine loopK_intro (fun (a : Int × Int) h' m => h' = h2 ∧ a = (0, -1)) 0 ⟨rfl, rfl⟩ ?_
      rintro a h' m ⟨rfl, rfl⟩
      refine ifT_dec (fun h => by omega) fun _ => ⟨rfl, hQ _ _ o.ext ?_⟩
      rw [hp]
      exact ⟨rfl, .inl rfl⟩
    · obtain ⟨la, ln⟩ := l
      simp only at ha hol
      subst ha
      have hln : ln = (c.map fun n : Nat => (n : Int)).length := by simpa using hol
      rw [hln]
      rw [nats_ints] at hj'
      refine spec55 hI hj' (by simp; omega) ⟨rfl, hQ _ _ (o.ext.set hj) ?_⟩
      rw [hp, nats_ints, List.map_reverse]
      refine ⟨by rw [ints_length]; simp, .inr ?_⟩
      show (h2.set j _).read j 0 _ = _
      rw [read_block (set_eq _ _ _) (by rw [ints_length]; simp)]
      simp [ints, List.take_of_length_le]
  refine joinK_intro (fun (b : Bool) h'' => h'' = h2 ∧ (b = true ↔ 0 < m ∧ c.length < 12)) ?_ fun j hj => ifT_dec (fun h1 => hj _ _ ⟨rfl, by simp; omega⟩) fun h1 => hj _ _ ⟨rfl, by simp; omega⟩
  rintro b h3 ⟨rfl, hb⟩
  refine ifT_intro (fun hbt => ?_) fun hbf => fin (by
    have : ¬ (0 < m ∧ c.length < 12) := fun h => by rw [hb.2 h] at hbf; cases hbf
    omega)
  obtain ⟨h0, h12⟩ := hb.1 hbt
  have ei : (m : Int) - 1 = ((m - 1 : Nat) : Int) := by omega
  rw [ei]
  have hx := List.getElem?_eq_getElem (show m - 1 < xs.length by omega)
  have hxm : xs[m - 1] ∈ xs := List.getElem_mem _
  generalize xs[m - 1] = x at hx hxm
  have hst := hits_step (g := g) (w := w) hx
  have em : m - 1 + 1 = m := by omega
  rw [em] at hst
  have hmx := hm x hxm
  unfold moment at hmx hg
  have ed : IntKind.i64.wrap (g.at_ - x.at_) = g.at_ - x.at_ := by rw [w64] <;> omega
  have ew : IntKind.i64.wrap (((m - 1 : Nat) : Int) - 1) = ((m - 1 : Nat) : Int) - 1 := by rw [w64] <;> omega
  rw [ew]
  have no : before g w x = false → ∃ m', m' < m ∧ ∃ c : List Nat, m' ≤ xs.length ∧ ((l, ((m - 1 : Nat) : Int) - 1) : Sl × Int).2 = (m' : Int) - 1 ∧ (hits xs g w xs.length).reverse = c ++ (hits xs g w m').reverse ∧ c.length ≤ 12 ∧ Own h h3 1 ((l, ((m - 1 : Nat) : Int) - 1) : Sl × Int).1 (nats c) := fun hbb => by
    rw [hbb] at hst
    exact ⟨m - 1, by omega, c, by omega, rfl, by rw [hc, hst]; simp, hcl, o⟩
  have hsx := o.ext.at_ hs
  refine ⟨⟨by omega, by omega⟩, hsx.rowCell (j := 3) sentC_length (by decide) hx rfl fun bb o' hr => ⟨x.at_, hr, ⟨by omega, by omega⟩, hsx.rowCell (j := 1) sentC_length (by decide) hx rfl fun bb o' hr => ⟨x.person, hr, ?_⟩⟩⟩
  rw [ed]
  refine ifT_dec (fun h1 => ifT_dec (fun h4 => ifT_dec (fun h5 => ?_) fun h5 => no ?_) fun h4 => no ?_) fun h1 => no ?_
  · have hbb : before g w x = true := by
      unfold before
      have : x.at_ < g.at_ := by omega
      simp [h1, this, h5]
    rw [hbb, if_pos rfl] at hst
    refine appendTo_own (m := 0) o (by rfl) (by omega) fun s' h4 o3 hl3 => ⟨m - 1, by omega, c ++ [m - 1], by omega, rfl, by rw [hc, hst]; simp, by simp; omega, by simpa [nats] using o3⟩
  · unfold before; simp [h5]
  · unfold before
    have : ¬ x.at_ < g.at_ := by omega
    simp [this]
  · unfold before; simp [h1]

/-- What is wrong with what is asked for. -/
def errP (xs : List Sent) (g : Gain) (w : Int) : Int := if errS xs ≠ 0 then errS xs else if errG [g] ≠ 0 then errG [g] else if ¬ (1 ≤ w ∧ w ≤ 4321440) then 1 else 0

theorem one_at {g : Gain} {i : Nat} (hn : h i = none) : At (h.set i (.cells false (gainC g))) 4 ⟨some (i, 0), 1⟩ (rows gainC [g]) := by
  refine ⟨rfl, .inr ?_⟩
  show (h.set i _).read i 0 _ = _
  rw [read_block (set_eq _ _ _) (by simp [gainC])]
  rfl

theorem spec14 (hI : Closed' prog Pm I) {s : Sl} {xs : List Sent} {g : Gain} {w : Int} (hs : At h 4 s (rows sentC xs)) (hlen : xs.length < 1000)
    (hQe : ∀ h', Ext h h' → errP xs g w ≠ 0 → Q [.one (.slice 1 ⟨none, 0⟩), int (errP xs g w)] h')
    (hQ : errP xs g w = 0 → (∀ x ∈ xs, moment x.at_) → moment g.at_ → ∀ s' h', Ext h h' → At h' 1 s' (nats (pathL xs g w)) → Q [.one (.slice 1 s'), int 0] h') : I 14 [.one (.slice 4 s), .agg (gainC g), int w] Q h := by
  refine hI.go _ _ (den14 I s g.id g.person g.at_ g.cents w Q) ?_
  refine spec8 hI hs hlen fun h1 x1 => ⟨_, rfl, ifT_intro (fun he => ?_) fun he => ?_⟩
  · have he := nd he
    have e : errP xs g w = errS xs := by unfold errP; rw [if_pos he]
    have := hQe h1 x1 (by rw [e]; exact he)
    rwa [e] at this
  have heS : errS xs = 0 := Decidable.of_not_not (nd' he)
  refine newK_intro fun i2 h2 hn2 he2 => ?_
  subst he2
  have x2 : Ext h (h1.set i2 (.cells false (gainC g))) := x1.trans (Ext.new hn2)
  refine spec10 hI (one_at hn2) (by simp) fun h3 x3 => ⟨_, rfl, ifT_intro (fun he3 => ?_) fun he3 => ?_⟩
  · have he3 := nd he3
    have e : errP xs g w = errG [g] := by unfold errP; rw [if_neg (by omega), if_pos he3]
    have := hQe h3 (x2.trans x3) (by rw [e]; exact he3)
    rwa [e] at this
  have heG : errG [g] = 0 := Decidable.of_not_not (nd' he3)
  refine spec49 hI ⟨_, rfl, ifT_intro (fun hb => ?_) fun hb => ?_⟩
  · have e : errP xs g w = 1 := by unfold errP; rw [if_neg (by omega), if_neg (by omega), if_pos]; simp at hb; omega
    have := hQe h3 (x2.trans x3) (by rw [e]; decide)
    rwa [e] at this
  have e : errP xs g w = 0 := by unfold errP; rw [if_neg (by omega), if_neg (by omega), if_neg]; simp at hb; omega
  have hm := scanS_ok xs [] heS
  have hg := errG_one heG
  exact spec53 hI ((x2.trans x3).at_ hs) hlen hm hg fun s' h4 x4 a4 => ⟨_, rfl, hQ e hm hg _ _ ((x2.trans x3).trans x4) a4⟩

end
end Go.Proofs.YtihnjdhjkpmggaaDoorVc
