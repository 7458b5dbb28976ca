/- Contracts of what PursesKept reaches beyond PursesHold: the document's purse. -/
import Derived.Test.YtfemminjhecocaaDoorVcPkOld
set_option linter.unusedSimpArgs false
set_option linter.unusedVariables false
namespace Go.Proofs.YtfemminjhecocaaDoorVc
open Go.Proofs.Tryd (prog)

theorem Owns.rot2 {h0 h : Heap} {a b c d e : Ow} {L : List Ow} (o : Owns h0 h (a :: b :: c :: d :: e :: L)) : Owns h0 h (d :: e :: a :: b :: c :: L) := o.perm ((List.perm_append_comm (l₁ := [a, b, c]) (l₂ := [d, e])).append_right L)
theorem Owns.rot2' {h0 h : Heap} {a b c d e : Ow} {L : List Ow} (o : Owns h0 h (d :: e :: a :: b :: c :: L)) : Owns h0 h (a :: b :: c :: d :: e :: L) := o.perm ((List.perm_append_comm (l₁ := [d, e]) (l₂ := [a, b, c])).append_right L)

/-- What Paced answers. -/
def pacR (b : Bud) (t : Int) : Int × Int := if errB [b] ≠ 0 then (0, errB [b]) else if ¬ momentP t then (0, 1) else (paced b t, 0)
theorem errB_one {b : Bud} (h : errB [b] = 0) : okB b := scanB_ok [b] [] h b (by simp)

section
variable {I : Calls} {Q : Post} {h : Heap}
theorem spec11p (hI : Closed' prog Pm I) {n : Int} (hQ : Q [boo (decide (momentP n))] h) : I 11 [int n] Q h := spec11 hI hQ
theorem spec75 (hI : Closed' prog Pm I) {x : Hld} {t : Int} (hQ : Q [int (stateAt x t)] h) : I 75 [.agg (hldC x), int t] Q h := by
  refine hI.go _ _ (den75 I x.no x.key x.cents x.at_ x.until_ x.state t Q) ?_
  unfold stateAt at hQ
  refine ifT_dec (fun h1 => ifT_dec (fun h2 => ?_) fun h2 => ?_) fun h1 => ?_
  · rw [if_pos h1, if_pos h2] at hQ; exact hQ
  · rw [if_pos h1, if_neg h2] at hQ; exact hQ
  · rw [if_neg h1] at hQ; exact hQ
theorem spec12 (hI : Closed' prog Pm I) {b : Bud} {t : Int} (hb : okB b) (ht : momentP t) (hQ : Q [int (paced b t)] h) : I 12 [.agg (budC b), int t] Q h := by
  refine hI.go _ _ (den12 I b.key b.cents b.first b.last b.pace t Q) ?_
  have hp := paced_le (t := t) hb
  obtain ⟨h1, h2, h3, h4, h5⟩ := hb
  obtain ⟨h6, h7⟩ := ht
  have hd : 0 ≤ t.tdiv 1440 ∧ t.tdiv 1440 ≤ 3001 := by
    rw [Int.tdiv_eq_ediv_of_nonneg h6]; omega
  have ew : IntKind.i64.wrap (t.tdiv 1440) = t.tdiv 1440 := w64 (by omega) (by omega)
  unfold vc12
  rw [ew]
  unfold paced at hQ hp
  generalize t.tdiv 1440 = d at *
  refine ifT_dec (fun h8 => ?_) fun h8 => ?_
  · rw [if_pos h8] at hQ; exact hQ
  rw [if_neg h8] at hQ hp
  have fin : ∀ x : Bool, (x = true ↔ (d ≥ b.last ∨ b.pace = false)) → ifT x (Q [int b.cents]) (fun h7 => (IntKind.i64.wrap (IntKind.i64.wrap (b.last - b.first) + 1) ≠ 0) ∧ Q [int (IntKind.i64.wrap ((IntKind.i64.wrap (b.cents * IntKind.i64.wrap (IntKind.i64.wrap (d - b.first) + 1))).tdiv (IntKind.i64.wrap (IntKind.i64.wrap (b.last - b.first) + 1))))] h7) h := fun x hx => by
    refine ifT_intro (fun h9 => ?_) fun h9 => ?_
    · rw [if_pos (hx.1 h9)] at hQ; exact hQ
    · have hn : ¬ (d ≥ b.last ∨ b.pace = false) := fun h => by rw [hx.2 h] at h9; cases h9
      rw [if_neg hn] at hQ hp
      have h10 : d < b.last := by
        rcases Int.lt_or_le d b.last with h | h
        · exact h
        · exact absurd (.inl h) hn
      have e1 : IntKind.i64.wrap (IntKind.i64.wrap (b.last - b.first) + 1) = b.last - b.first + 1 := by rw [w64 (n := b.last - b.first) (by omega) (by omega), w64 (by omega) (by omega)]
      have e2 : IntKind.i64.wrap (IntKind.i64.wrap (d - b.first) + 1) = d - b.first + 1 := by rw [w64 (n := d - b.first) (by omega) (by omega), w64 (by omega) (by omega)]
      rw [e1, e2]
      have hm0 : 0 ≤ b.cents * (d - b.first + 1) := Int.mul_nonneg h1 (by omega)
      have hm1 : b.cents * (d - b.first + 1) ≤ 1000000000000 * 3001 := Int.mul_le_mul h2 (by omega) (by omega) (by decide)
      rw [w64 (n := b.cents * (d - b.first + 1)) (by omega) (by omega)]
      rw [w64 (by omega) (by omega)]
      exact ⟨by omega, hQ⟩
  refine joinK_intro (fun (x : Bool) h' => h' = h ∧ (x = true ↔ (d ≥ b.last ∨ b.pace = false))) (fun x h' ⟨hh, hx⟩ => by subst hh; exact fin x hx) fun j hj => ifT_dec (fun h9 => hj _ _ ⟨rfl, by simp [h9]⟩) fun h9 => hj _ _ ⟨rfl, by simp; omega⟩
theorem spec117 (hI : Closed' prog Pm I) {i : Nat} {k : ByteArray} {y : Bud} (hi : h i = some (.cells false [.str k])) (hQ : Q [boo (decide (y.key = k))] h) : I 117 [.agg (budC y), .one (.ptr (some (i, 0)))] Q h := by
  refine hI.go _ _ (den117 I y.key y.cents y.first y.last y.pace i 0 Q) ?_
  exact ⟨k, read_cell hi rfl, hQ⟩
theorem spec68 (hI : Closed' prog Pm I) {p : Nat} {sb sh : Sl} {now : Int} {hs : List Hld} {key : ByteArray} {t : Int} (hp : h p = some (.cells false [.slice 5 sb, .slice 6 sh, .int .i64 now])) (ha : At h 6 sh (rows hldC hs)) (hk : ∀ x ∈ hs, okH x) (hlen : hs.length ≤ 2000)
    (hQ : Q [int (taken key t hs)] h) : I 68 [.one (.ptr (some (p, 0))), str key, int t] Q h := by
  have hl : sh.len = hs.length := ha.rowsLen hldC_length (by decide)
  refine hI.go _ _ (den68 I _ key t Q) ?_
  refine derefK_intro rfl ⟨sh, read_cell hp rfl, ?_⟩
  refine loopK_intro (fun (a : Int × Int) h' m => h' = h ∧ ∃ i : Nat, i ≤ hs.length ∧ a = (taken key t (hs.take i), (i : Int)) ∧ hs.length - i = m) hs.length ⟨rfl, 0, by omega, rfl, rfl⟩ ?_
  rintro a h' m ⟨rfl, i, hi, rfl, rfl⟩
  dsimp only [uncur]
  refine ifT_dec (fun hlt => ⟨⟨by omega, hlt⟩, ?_⟩) (fun hge => ?_)
  · have hx := List.getElem?_eq_getElem (show i < hs.length by omega)
    have hxm : hs[i] ∈ hs := List.getElem_mem _
    generalize hs[i] = x at hx hxm
    have hst := taken_step (key := key) (t := t) hx
    have hb := taken_bound (key := key) (t := t) (xs := hs.take i) fun y hy => hk y (List.mem_of_mem_take hy)
    rw [List.length_take] at hb
    obtain ⟨hx1, hx2⟩ := hk x hxm
    have ew : IntKind.i64.wrap ((i : Int) + 1) = ((i + 1 : Nat) : Int) := by rw [w64] <;> omega
    have hmin : min i hs.length = i := by omega
    rw [hmin] at hb
    have es : IntKind.i64.wrap (taken key t (hs.take i) + x.cents) = taken key t (hs.take i) + x.cents := by rw [w64] <;> omega
    have go : ∀ v : Int, v = taken key t (hs.take (i + 1)) → ∃ m', m' < hs.length - i ∧ h' = h' ∧ ∃ j : Nat, j ≤ hs.length ∧ (v, IntKind.i64.wrap ((i : Int) + 1)) = (taken key t (hs.take j), (j : Int)) ∧ hs.length - j = m' := fun v hv => ⟨hs.length - (i + 1), by omega, rfl, i + 1, by omega, by rw [hv, ew], rfl⟩
    unfold one at hst
    refine ha.row hldC_length (by decide) hx fun bb o hr => ⟨x.no, x.key, x.cents, x.at_, x.until_, x.state, hr, spec75 hI ⟨_, rfl, ifT_dec (fun h1 => ifT_dec (fun h2 => ?_) fun h2 => ifT_dec (fun h3 => ?_) fun h3 => ?_) fun h1 => ?_⟩⟩
    · rw [if_pos h1, if_pos h2] at hst; rw [es]; exact go _ hst.symm
    · rw [if_pos h1, if_neg h2, if_pos h3] at hst; rw [es]; exact go _ hst.symm
    · rw [if_pos h1, if_neg h2, if_neg h3] at hst; exact go _ (by omega)
    · rw [if_neg h1] at hst; exact go _ (by omega)
  · have : i = hs.length := by omega
    subst this
    rw [List.take_length]
    exact hQ
/-- The budget of a key. -/
theorem spec67 (hI : Closed' prog Pm I) {p : Nat} {sb sh : Sl} {now : Int} {bs : List Bud} {key : ByteArray} (hp : h p = some (.cells false [.slice 5 sb, .slice 6 sh, .int .i64 now])) (ha : At h 5 sb (rows budC bs)) (hlen : bs.length < 1000)
    (hn : ∀ h', Ext h h' → findB bs key = none → Q [.agg (budC ⟨.empty, 0, 0, 0, false⟩), boo false] h') (hy : ∀ b h', Ext h h' → findB bs key = some b → Q [.agg (budC b), boo true] h') : I 67 [.one (.ptr (some (p, 0))), str key] Q h := by
  have hl : sb.len = bs.length := ha.rowsLen budC_length (by decide)
  refine hI.go _ _ (den67 I _ key Q) ?_
  refine newK_intro fun i2 h2 hn2 he2 => ?_
  have x2 : Ext h h2 := he2 ▸ Ext.new hn2
  have hp2 := x2 _ _ hp
  have ha2 := x2.at_ ha
  have hc : h2 i2 = some (.cells false [.str key]) := by rw [he2, set_eq]
  refine derefK_intro rfl ⟨sb, read_cell hp2 rfl, ?_⟩
  refine spec108 hI (p := fun y => decide (y.key = key)) ha2 hlen (fun y Q' hq => spec117 hI hc hq) (fun h3 => ⟨_, rfl, ifT_dec (fun _ => hn _ x2 ?_) fun h => by omega⟩) fun j y hx h3 h4 => ⟨_, rfl, ifT_dec (fun h => by omega) fun _ => ?_⟩
  · unfold findB; rw [List.find?_eq_none]
    intro y hy
    have := h3 y hy
    simpa using this
  · have hj : j < bs.length := (List.getElem?_eq_some_iff.1 hx).1
    have hf : findB bs key = some y := by
      unfold findB
      have e : bs = bs.take j ++ y :: bs.drop (j + 1) := by
        obtain ⟨hi, rfl⟩ := List.getElem?_eq_some_iff.1 hx
        rw [← List.drop_eq_getElem_cons hi, List.take_append_drop]
      rw [e, List.find?_append]
      have e2 : (bs.take j).find? (fun b => decide (b.key = key)) = none := by
        rw [List.find?_eq_none]; intro z hz; have := h4 z hz; simpa using this
      rw [e2, Option.none_or, List.find?_cons, h3]
    refine derefK_intro rfl ⟨sb, read_cell hp2 rfl, ⟨by omega, by omega⟩, ha2.row budC_length (by decide) hx fun bb o hr => ⟨y.key, y.cents, y.first, y.last, y.pace, hr, hy y _ x2 hf⟩⟩
theorem spec27 (hI : Closed' prog Pm I) {p : Nat} {sb sh : Sl} {now : Int} {bs : List Bud} {hs : List Hld} {key : ByteArray} {t : Int} (hp : h p = some (.cells false [.slice 5 sb, .slice 6 sh, .int .i64 now])) (ha : At h 5 sb (rows budC bs)) (hah : At h 6 sh (rows hldC hs)) (hlen : bs.length < 1000)
    (hob : ∀ b ∈ bs, okB b) (hk : ∀ x ∈ hs, okH x) (hlen2 : hs.length ≤ 2000) (hQ : ∀ h', Ext h h' → Q [int (leftF bs hs now key t).1, int (leftF bs hs now key t).2] h') : I 27 [.one (.ptr (some (p, 0))), str key, int t] Q h := by
  refine hI.go _ _ (den27 I _ key t Q) ?_
  refine spec67 hI hp ha hlen (fun h' x' hf => ⟨_, _, _, _, _, _, rfl, ifT_intro (fun _ => ?_) fun h => by cases h⟩) fun b h' x' hf => ⟨_, _, _, _, _, _, rfl, ifT_intro (fun h => by cases h) fun _ => ?_⟩
  · have := hQ h' x'
    unfold leftF at this; rw [hf] at this; exact this
  · have hq := hQ h' x'
    unfold leftF at hq; rw [hf] at hq
    simp only at hq
    refine spec11p hI ⟨_, rfl, ifT_intro (fun h1 => ?_) fun h1 => ?_⟩
    · rw [if_pos (nd h1)] at hq; exact hq
    rw [if_neg (nd' h1)] at hq
    have hp' := x' _ _ hp
    refine derefK_intro rfl ⟨now, read_cell hp' rfl, ifT_dec (fun h2 => ?_) fun h2 => ?_⟩
    · rw [if_pos h2] at hq; exact hq
    rw [if_neg h2] at hq
    have hb := hob b (findB_mem hf).1
    refine spec12 hI hb (Decidable.of_not_not (nd' h1)) ⟨_, rfl, spec68 hI hp' (x'.at_ hah) hk hlen2 ⟨_, rfl, ?_⟩⟩
    have h3 := paced_le (t := t) hb
    have h4 := taken_bound (key := key) (t := t) hk
    obtain ⟨_, h5, _⟩ := hb
    rw [w64 (by omega) (by omega)]
    exact hq

/-- A row of ints has an element. -/
theorem spec135 (hI : Closed' prog Pm I) {s : Sl} {xs : List Int} {n : Int} (hs : At h 1 s (ints xs)) (hlen : xs.length < 1000) (hQ : ∀ k : Int, (0 ≤ k ↔ n ∈ xs) → Q [int k] h) : I 135 [.one (.slice 1 s), int n] Q h := by
  refine hI.go _ _ (den135 I s n Q) ?_
  have hl : s.len = xs.length := by have := hs.1; simpa [ints] using this
  refine loopK_intro (fun (a : Int) h' m => h' = h ∧ ∃ i : Nat, i ≤ xs.length ∧ a = i ∧ xs.length - i = m ∧ n ∉ xs.take i) xs.length ⟨rfl, 0, by omega, rfl, rfl, by simp⟩ ?_
  rintro a h' m ⟨rfl, i, hi, rfl, rfl, hno⟩
  refine ifT_dec (fun hlt => ⟨⟨by omega, by omega⟩, ?_⟩) (fun hge => ?_)
  · have hx := List.getElem?_eq_getElem (show i < xs.length by omega)
    generalize hxx : xs[i] = x at hx
    refine hs.one (i := (i : Int)) (by omega) (by omega) fun b o c hc hr => ?_
    rw [Int.toNat_natCast] at hc
    have : c = .int .i64 x := by
      unfold ints at hc; rw [List.getElem?_map, hx] at hc
      exact (Option.some.inj hc).symm
    subst this
    refine ⟨x, hr, ifT_dec (fun he => hQ _ ⟨fun _ => he ▸ List.mem_of_getElem? hx, fun _ => by omega⟩) fun he => ⟨xs.length - (i + 1), by omega, rfl, i + 1, by omega, by rw [w64] <;> omega, rfl, ?_⟩⟩
    rw [List.take_add_one, hx]
    simp only [Option.toList_some, List.mem_append, List.mem_singleton]
    exact fun h => h.elim hno he
  · have : i = xs.length := by omega
    subst this
    rw [List.take_length] at hno
    exact hQ _ ⟨fun h => by omega, fun h => absurd h hno⟩
theorem spec118 (hI : Closed' prog Pm I) {s : Sl} {xs : List Int} {n : Int} (hs : At h 1 s (ints xs)) (hlen : xs.length < 1000) (hQ : Q [boo (decide (n ∈ xs))] h) : I 118 [.one (.slice 1 s), int n] Q h := by
  refine hI.go _ _ (den118 I s n Q) ?_
  refine spec135 hI hs hlen fun k hk => ⟨k, rfl, ?_⟩
  have : decide (k ≥ 0) = decide (n ∈ xs) := by rw [decide_eq_decide]; exact hk
  rw [this]; exact hQ

/-- Two rows of holds that are the same. -/
theorem spec28 (hI : Closed' prog Pm I) {s s' : Sl} {xs : List Hld} (hs : At h 6 s (rows hldC xs)) (hs' : At h 6 s' (rows hldC xs)) (hlen : xs.length < 10000) (hQ : Q [boo true] h) : I 28 [.one (.slice 6 s), .one (.slice 6 s')] Q h := by
  refine hI.go _ _ (den28 I s s' Q) ?_
  have hl : s.len = xs.length := hs.rowsLen hldC_length (by decide)
  have hl' : s'.len = xs.length := hs'.rowsLen hldC_length (by decide)
  refine ifT_intro (fun h => absurd (by rw [hl, hl']) (nd h)) fun _ => ?_
  refine loopK_intro (fun (a : Int) h' m => h' = h ∧ ∃ i : Nat, i ≤ xs.length ∧ a = i ∧ xs.length - i = m) xs.length ⟨rfl, 0, by omega, rfl, rfl⟩ ?_
  rintro a h' m ⟨rfl, i, hi, rfl, rfl⟩
  refine ifT_dec (fun hlt => ⟨⟨by omega, by omega⟩, ?_⟩) (fun hge => hQ)
  have hx := List.getElem?_eq_getElem (show i < xs.length by omega)
  generalize xs[i] = x at hx
  refine hs.row hldC_length (by decide) hx fun bb o hr => ⟨x.no, x.key, x.cents, x.at_, x.until_, x.state, hr, ⟨by omega, by omega⟩, ?_⟩
  refine hs'.row hldC_length (by decide) hx fun bb o hr => ⟨x.no, x.key, x.cents, x.at_, x.until_, x.state, hr, ?_⟩
  exact ifT_intro (fun h => by simp at h) fun _ => ⟨xs.length - (i + 1), by omega, rfl, i + 1, by omega, by rw [w64] <;> omega, rfl⟩

theorem spec10 (hI : Closed' prog Pm I) {b : Bud} {t : Int} (hQ : ∀ h', Ext h h' → Q [int (pacR b t).1, int (pacR b t).2] h') : I 10 [.agg (budC b), int t] Q h := by
  refine hI.go _ _ (den10 I b.key b.cents b.first b.last b.pace t Q) ?_
  refine newK_intro fun i7 h8 hn8 he8 => ?_
  have x8 : Ext h h8 := he8 ▸ Ext.new hn8
  have hat : At h8 5 ⟨some (i7, 0), 1⟩ (rows budC [b]) := by
    refine ⟨rfl, .inr ?_⟩
    show h8.read i7 0 5 = _
    rw [read_block (ro := false) (cs := budC b) (by rw [he8, set_eq]; rfl) (by simp [budC])]
    simp [rows, budC]
  refine spec8 hI hat (by simp) fun h10 x10 => ⟨_, rfl, ifT_intro (fun h1 => ?_) fun h1 => ?_⟩
  · have := hQ _ (x8.trans x10)
    unfold pacR at this
    rw [if_pos (nd h1)] at this
    exact this
  have h1' : errB [b] = 0 := Decidable.of_not_not (nd' h1)
  refine spec60 hI ⟨_, rfl, ifT_intro (fun h2 => ?_) fun h2 => ?_⟩
  · have := hQ _ (x8.trans x10)
    unfold pacR at this
    rw [if_neg (nd' h1), if_pos (nd h2)] at this
    exact this
  · have := hQ _ (x8.trans x10)
    unfold pacR at this
    rw [if_neg (nd' h1), if_neg (nd' h2)] at this
    exact spec61 hI (errB_one h1') (Decidable.of_not_not (nd' h2)) ⟨_, rfl, this⟩
end

section
variable {I : Calls} {Q : Post} {h h0 : Heap}
/-- The holds, as they are now. -/
theorem spec30 (hI : Closed' prog Pm I) {p : Nat} {sb sh : Sl} {now : Int} {hs : List Hld} {L : List Ow} (o : Owns h0 h L) (hp : owP p sb sh now ∈ L) (hh : (6, sh, rows hldC hs) ∈ L) (hlen : hs.length ≤ 2000)
    (hQ : ∀ s' h', Owns h0 h' ((6, s', rows hldC (hs.map fun x => { x with state := stateAt x now })) :: L) → Q [.one (.slice 6 s')] h') : I 30 [.one (.ptr (some (p, 0)))] Q h := by
  refine hI.go _ _ (den30 I _ Q) ?_
  refine derefK_intro rfl ⟨sh, read_cell (o.block hp).1 rfl, spec73 hI o hh (by omega) fun l7 h6 o6 => ⟨l7, rfl, ?_⟩⟩
  have hl7 : l7.len = hs.length := (o6.at_ List.mem_cons_self).rowsLen hldC_length (by decide)
  refine loopK_intro (fun (a : Int) h' m => ∃ i : Nat, i ≤ hs.length ∧ a = i ∧ hs.length - i = m ∧ Owns h0 h' ((6, l7, rows hldC ((hs.take i).map (fun x : Hld => { x with state := stateAt x now }) ++ hs.drop i)) :: L)) hs.length
    ⟨0, by omega, rfl, rfl, by simpa using o6⟩ ?_
  rintro a h' m ⟨i, hi, rfl, rfl, o⟩
  refine ifT_dec (fun hlt => ⟨⟨by omega, hlt⟩, ?_⟩) (fun hge => ?_)
  · have hx := List.getElem?_eq_getElem (show i < hs.length by omega)
    generalize hs[i] = x at hx
    have hy := mapSet_get (f := fun x : Hld => { x with state := stateAt x now }) hx
    have hst := mapSet_step (f := fun x : Hld => { x with state := stateAt x now }) hx
    have hyl : ((hs.take i).map (fun x : Hld => { x with state := stateAt x now }) ++ hs.drop i).length = hs.length := by simp; omega
    generalize (hs.take i).map (fun x : Hld => { x with state := stateAt x now }) ++ hs.drop i = ys at *
    have hrl := rows_length hldC_length ys
    obtain ⟨bl, hbl, _⟩ := o.has (s := l7) (cs := rows hldC ys) (sz := 6) (by simp) (fun e => by rw [e] at hrl; simp at hrl; omega)
    have hla : l7.a = some (bl, 0) := by rw [hbl]
    refine (o.at_ List.mem_cons_self).row hldC_length (by decide) hy fun bb oo hr => ⟨x.no, x.key, x.cents, x.at_, x.until_, x.state, hr, derefK_intro rfl ⟨now, read_cell (o.block (List.mem_cons_of_mem _ hp)).1 rfl, spec75 hI ⟨_, rfl, ⟨by omega, by omega⟩, derefK_intro hla ?_⟩⟩⟩
    rw [hbl] at o
    rw [Int.toNat_natCast, Nat.zero_add]
    refine storeK_one (o.block List.mem_cons_self).1 (by rw [hrl]; omega) ?_
    rw [rows_set (b := { x with state := stateAt x now }) hldC_length hy (by decide) rfl, hst]
    have o2 := o.change (n' := l7.len) (sz' := 6) (cs' := rows hldC ((hs.take (i + 1)).map (fun x : Hld => { x with state := stateAt x now }) ++ hs.drop (i + 1))) (by rw [rows_length hldC_length]; simp; omega)
    rw [← hbl] at o2
    exact ⟨hs.length - (i + 1), by omega, i + 1, by omega, by rw [w64] <;> omega, rfl, o2⟩
  · have : i = hs.length := by omega
    subst this
    refine hQ _ _ ?_
    simpa using o

theorem spec15 (hI : Closed' prog Pm I) {s : Sl} {xs : List Bud} {L : List Ow} (o : Owns h0 h L) (hm : (5, s, rows budC xs) ∈ L) (hlen : xs.length ≤ 50)
    (hQ : ∀ p sb h', Owns h0 h' (owP p sb ⟨none, 0⟩ 0 :: (6, ⟨none, 0⟩, rows hldC []) :: (5, sb, rows budC xs) :: L) → Q [.one (.ptr (some (p, 0)))] h') : I 15 [.one (.slice 5 s)] Q h := by
  refine hI.go _ _ (den15 I s Q) ?_
  refine spec62 hI o hm (by omega) fun sb h3 o3 => ⟨sb, rfl, newK_intro fun i9 h9 hn9 he9 => ?_⟩
  subst he9
  exact hQ i9 sb _ ((o3.new hn9 rfl).none_ 6).swp

theorem spec21 (hI : Closed' prog Pm I) {p : Nat} {sb sh : Sl} {now : Int} {bs : List Bud} {hs : List Hld} {L : List Ow} {key : ByteArray} {cents t u : Int} (o : Owns h0 h (owP p sb sh now :: (6, sh, rows hldC hs) :: L)) (hb : (5, sb, rows budC bs) ∈ L) (hlen : bs.length < 1000)
    (hob : ∀ b ∈ bs, okB b) (hk : ∀ x ∈ hs, okH x) (hlen2 : hs.length ≤ 2000) (hlen3 : hs.length ≤ 1000)
    (hQe : errR bs hs now key cents t u ≠ 0 → ∀ h', Owns h0 h' (owP p sb sh now :: (6, sh, rows hldC hs) :: L) → Q [int 0, int (errR bs hs now key cents t u)] h')
    (hQ : errR bs hs now key cents t u = 0 → ∀ sh' h', Owns h0 h' (owP p sb sh' t :: (6, sh', rows hldC (hs ++ [⟨(hs.length : Int) + 1, key, cents, t, u, 1⟩])) :: L) → Q [int ((hs.length : Int) + 1), int 0] h') :
    I 21 [.one (.ptr (some (p, 0))), str key, int cents, int t, int u] Q h := by
  refine hI.go _ _ (den21 I _ key cents t u Q) ?_
  have hl : sh.len = hs.length := (o.at_ (s := sh) (by simp)).rowsLen hldC_length (by decide)
  have hm5 : (5, sb, rows budC bs) ∈ owP p sb sh now :: (6, sh, rows hldC hs) :: L := by simp [hb]
  refine spec67 hI (o.block List.mem_cons_self).1 (o.at_ hm5) hlen (fun h' x' hf => ⟨_, _, _, _, _, _, rfl, ifT_intro (fun _ => ?_) fun h => by cases h⟩) fun b h' x' hf => ⟨_, _, _, _, _, _, rfl, ifT_intro (fun h => by cases h) fun _ => ?_⟩
  · have e : errR bs hs now key cents t u = 8 := by unfold errR; rw [hf]
    have := hQe (by rw [e]; decide) h' (o.mono x')
    rwa [e] at this
  have o' := o.mono x'
  have hc := (o'.block List.mem_cons_self).1
  have eR : errR bs hs now key cents t u = if ¬ (1 ≤ cents ∧ cents ≤ 1000000000000) ∨ ¬ momentP t ∨ ¬ (t + 1 ≤ u ∧ u ≤ 4321440) then 1 else if t < now then 7 else if hs.length ≥ 2000 ∨ taken key t hs + cents > paced b t then 12 else 0 := by unfold errR; rw [hf]
  have bad : ∀ e : Int, errR bs hs now key cents t u = e → e ≠ 0 → Q [int 0, int e] h' := fun e he hne => by
    have := hQe (by rw [he]; exact hne) h' o'
    rwa [he] at this
  refine joinK_intro (fun (x : Bool) h'' => h'' = h' ∧ (x = true ↔ (¬ (1 ≤ cents ∧ cents ≤ 1000000000000) ∨ ¬ momentP t ∨ ¬ (t + 1 ≤ u ∧ u ≤ 4321440)))) ?_ fun j hj => ifT_dec (fun h1 => hj _ _ ⟨rfl, by simp; omega⟩) fun h1 => ifT_dec (fun h1' => hj _ _ ⟨rfl, by simp; omega⟩) fun h1' => spec11p hI ⟨_, rfl, ifT_intro (fun h2 => hj _ _ ⟨rfl, by simp at h2 ⊢; omega⟩) fun h2 => ifT_dec (fun h3 => hj _ _ ⟨rfl, by simp; omega⟩) fun h3 => hj _ _ ⟨rfl, ?_⟩⟩
  case refine_2 =>
    have h4 : momentP t := Decidable.of_not_not (nd' h2)
    simp
    omega
  rintro x h'' ⟨rfl, hx⟩
  refine ifT_intro (fun h1 => bad 1 (by rw [eR, if_pos (hx.1 h1)]) (by decide)) fun h1 => ?_
  have hnx : ¬ (¬ (1 ≤ cents ∧ cents ≤ 1000000000000) ∨ ¬ momentP t ∨ ¬ (t + 1 ≤ u ∧ u ≤ 4321440)) := fun h => by rw [hx.2 h] at h1; cases h1
  rw [if_neg hnx] at eR
  have hcents : 1 ≤ cents ∧ cents ≤ 1000000000000 := by omega
  have hmt : momentP t := by omega
  refine derefK_intro rfl ⟨now, read_cell hc rfl, ifT_dec (fun h2 => bad 7 (by rw [eR, if_pos h2]) (by decide)) fun h2 => ?_⟩
  rw [if_neg h2] at eR
  have hbb := hob b (findB_mem hf).1
  refine joinK_intro (fun (x : Bool) h1 => h1 = h'' ∧ (x = true ↔ (hs.length ≥ 2000 ∨ taken key t hs + cents > paced b t))) ?_ fun j hj => derefK_intro rfl ⟨sh, read_cell hc rfl, ifT_dec (fun h3 => by omega) fun h3 => spec68 hI hc (o'.at_ (by simp)) hk hlen2 ⟨_, rfl, spec12 hI hbb hmt ⟨_, rfl, hj _ _ ⟨rfl, ?_⟩⟩⟩⟩
  case refine_2 =>
    have h4 := taken_bound (key := key) (t := t) hk
    rw [w64 (by omega) (by omega)]
    simp
    omega
  rintro x h1 ⟨rfl, hx⟩
  refine ifT_intro (fun h3 => bad 12 (by rw [eR, if_pos (hx.1 h3)]) (by decide)) fun h3 => ?_
  have hnx2 : ¬ (hs.length ≥ 2000 ∨ taken key t hs + cents > paced b t) := fun h => by rw [hx.2 h] at h3; cases h3
  rw [if_neg hnx2] at eR
  refine derefK_intro rfl (storeK_one hc (by simp) ?_)
  have o2 := o'.change (n' := 1) (sz' := 3) (cs' := [.slice 5 sb, .slice 6 sh, .int .i64 t]) rfl
  show derefK _ _ (h1.set p (.cells false [.slice 5 sb, .slice 6 sh, .int .i64 t]))
  have hc2 := (o2.block List.mem_cons_self).1
  refine derefK_intro rfl ⟨sh, read_cell hc2 rfl, derefK_intro rfl ⟨sh, read_cell hc2 rfl, ?_⟩⟩
  refine appendTo_owns (m := 0) o2.swp (by rfl) (by omega) (by simp) fun bn h8 o8 => ?_
  have o9 := o8.swp
  refine derefK_intro rfl (storeK_one (o9.block List.mem_cons_self).1 (by simp) ?_)
  have ew : IntKind.i64.wrap ((sh.len : Int) + 1) = (hs.length : Int) + 1 := by rw [hl, w64] <;> omega
  have o10 := o9.change (n' := 1) (sz' := 3) (cs' := [.slice 5 sb, .slice 6 ⟨some (bn, 0), sh.len + (0 + 1)⟩, .int .i64 t]) rfl
  rw [ew] at o10
  refine derefK_intro rfl ⟨⟨some (bn, 0), sh.len + (0 + 1)⟩, read_cell (o10.block List.mem_cons_self).1 rfl, ?_⟩
  have ew2 : (((sh.len + (0 + 1) : Nat)) : Int) = (hs.length : Int) + 1 := by rw [hl]; omega
  show Q [int (((sh.len + (0 + 1) : Nat)) : Int), int 0] _
  rw [ew2]
  refine hQ eR ⟨some (bn, 0), sh.len + (0 + 1)⟩ _ ?_
  rw [rows_append]
  simpa [rows, hldC] using o10

theorem spec71 (hI : Closed' prog Pm I) {p : Nat} {sb sh : Sl} {now : Int} {hs : List Hld} {L : List Ow} {no t to : Int} {xs : List Int} {may : Int → Bool} {sx : Sl} (o : Owns h0 h (owP p sb sh now :: (6, sh, rows hldC hs) :: L)) (hlen2 : hs.length ≤ 2000)
    (hx : (1, sx, ints xs) ∈ L) (hxl : xs.length < 1000) (hg : ∀ n, may n = decide (n ∈ xs))
    (hQe : errT hs now no t may ≠ 0 → Q [int (errT hs now no t may)] h)
    (hQ : errT hs now no t may = 0 → now ≤ t → momentP t → ∀ x, hs[(no - 1).toNat]? = some x → may (stateAt x t) = true → ∀ h', Owns h0 h' (owP p sb sh t :: (6, sh, rows hldC (hs.set (no - 1).toNat { x with state := to })) :: L) → Q [int 0] h') :
    I 71 [.one (.ptr (some (p, 0))), int no, int t, int to, .one (.slice 1 sx)] Q h := by
  refine hI.go _ _ (den71 I _ no t to _ Q) ?_
  have hl : sh.len = hs.length := (o.at_ (s := sh) (by simp)).rowsLen hldC_length (by decide)
  have hc := (o.block List.mem_cons_self).1
  have bad : ∀ e : Int, errT hs now no t may = e → e ≠ 0 → Q [int e] h := fun e he hne => by
    have := hQe (by rw [he]; exact hne)
    rwa [he] at this
  refine joinK_intro (fun (x : Bool) h'' => h'' = h ∧ (x = true ↔ ¬ (1 ≤ no ∧ no ≤ sh.len))) ?_ fun j hj => ifT_dec (fun h1 => hj _ _ ⟨rfl, by simp; omega⟩) fun h1 => derefK_intro rfl ⟨sh, read_cell hc rfl, hj _ _ ⟨rfl, by simp; omega⟩⟩
  rintro x h'' ⟨rfl, hxx⟩
  refine ifT_intro (fun h1 => bad 8 ?_ (by decide)) fun h1 => ?_
  · unfold errT
    have h1 : ¬ (1 ≤ no ∧ no ≤ sh.len) := hxx.1 h1
    split
    · rfl
    · rename_i x hx
      have := (List.getElem?_eq_some_iff.1 hx).1
      rw [if_pos (by omega)]
  have h1 : 1 ≤ no ∧ no ≤ sh.len := Decidable.of_not_not fun h => by rw [hxx.2 h] at h1; cases h1
  have hx' := List.getElem?_eq_getElem (show (no - 1).toNat < hs.length by omega)
  generalize hs[(no - 1).toNat] = x at hx'
  have eT : errT hs now no t may = if ¬ momentP t then 1 else if t < now then 7 else if may (stateAt x t) = false then 11 else 0 := by unfold errT; rw [hx']; exact if_neg (by omega)
  have ew : IntKind.i64.wrap (no - 1) = (((no - 1).toNat : Nat) : Int) := by rw [w64 (by omega) (by omega)]; omega
  refine spec11p hI ⟨_, rfl, ifT_intro (fun h2 => bad 1 (by rw [eT, if_pos (nd h2)]) (by decide)) fun h2 => ?_⟩
  rw [if_neg (nd' h2)] at eT
  refine derefK_intro rfl ⟨now, read_cell hc rfl, ifT_dec (fun h3 => bad 7 (by rw [eT, if_pos h3]) (by decide)) fun h3 => ?_⟩
  rw [if_neg h3] at eT
  rw [ew]
  have hlt : (no - 1).toNat < hs.length := by omega
  refine derefK_intro rfl ⟨sh, read_cell hc rfl, ⟨by omega, by omega⟩, (o.at_ (s := sh) (by simp)).row hldC_length (by decide) hx' fun bb oo hr => ⟨x.no, x.key, x.cents, x.at_, x.until_, x.state, hr, spec75 hI ⟨_, rfl, ?_⟩⟩⟩
  refine spec118 hI (o.at_ (show (1, sx, ints xs) ∈ owP p sb sh now :: (6, sh, rows hldC hs) :: L by simp [hx])) hxl ⟨_, rfl, ?_⟩
  rw [← hg]
  refine ifT_intro (fun h4 => bad 11 (by rw [eT, if_pos (nb h4)]) (by decide)) fun h4 => ?_
  rw [if_neg (by rw [nb' h4]; simp)] at eT
  refine derefK_intro rfl (storeK_one hc (by simp) ?_)
  have o2 := o.change (n' := 1) (sz' := 3) (cs' := [.slice 5 sb, .slice 6 sh, .int .i64 t]) rfl
  show derefK _ _ (h''.set p (.cells false [.slice 5 sb, .slice 6 sh, .int .i64 t]))
  have hc2 := (o2.block List.mem_cons_self).1
  have hrl := rows_length hldC_length hs
  have o3 := o2.swp
  obtain ⟨bl, hbl, _⟩ := o3.has (s := sh) (cs := rows hldC hs) (sz := 6) (by simp) (fun e => by rw [e] at hrl; simp at hrl; omega)
  have hla : sh.a = some (bl, 0) := by rw [hbl]
  refine derefK_intro rfl ⟨sh, read_cell hc2 rfl, ⟨by omega, by omega⟩, derefK_intro hla ?_⟩
  generalize hn : (no - 1).toNat = k at *
  rw [Int.toNat_natCast, Nat.zero_add]
  have o4 : Owns h0 (h''.set p (.cells false [.slice 5 sb, .slice 6 sh, .int .i64 t])) ((6, ⟨some (bl, 0), sh.len⟩, rows hldC hs) :: owP p sb sh t :: L) := by rw [← hbl]; exact o3
  refine storeK_one (o4.block List.mem_cons_self).1 (by rw [hrl]; omega) ?_
  rw [rows_set (b := { x with state := to }) hldC_length hx' (by decide) rfl]
  have o5 := o4.change (n' := sh.len) (sz' := 6) (cs' := rows hldC (hs.set k { x with state := to })) (by rw [rows_length hldC_length]; simp; omega)
  rw [← hbl] at o5
  exact hQ eT (by omega) (Decidable.of_not_not (nd' h2)) x hx' (nb' h4) _ o5.swp
theorem spec23 (hI : Closed' prog Pm I) {p : Nat} {sb sh : Sl} {now : Int} {hs : List Hld} {L : List Ow} {no t : Int} (o : Owns h0 h (owP p sb sh now :: (6, sh, rows hldC hs) :: L)) (hlen2 : hs.length ≤ 2000)
    (hQe : errT hs now no t (fun n => decide (n = 1)) ≠ 0 → ∀ h', Owns h0 h' (owP p sb sh now :: (6, sh, rows hldC hs) :: L) → Q [int (errT hs now no t (fun n => decide (n = 1)))] h')
    (hQ : errT hs now no t (fun n => decide (n = 1)) = 0 → ∀ x, hs[(no - 1).toNat]? = some x → ∀ h', Owns h0 h' (owP p sb sh t :: (6, sh, rows hldC (hs.set (no - 1).toNat { x with state := 2 })) :: L) → Q [int 0] h') :
    I 23 [.one (.ptr (some (p, 0))), int no, int t] Q h := by
  refine hI.go _ _ (den23 I _ no t Q) ?_
  refine newK_intro fun i4 h5 hn5 he5 => ?_
  subst he5
  have o5 := (o.new (sz := 1) (n := 1) (cs := ints [1]) hn5 rfl).rot
  refine spec71 hI (xs := [1]) (may := fun n => decide (n = 1)) (L := (1, ⟨some (i4, 0), 1⟩, ints [1]) :: L) (o5.perm (List.Perm.cons _ (List.Perm.cons _ (List.Perm.refl _)))) hlen2 (by simp) (by simp) (fun n => by simp) (fun he => ⟨_, rfl, hQe he _ o5.rot'.tail⟩) fun he _ _ x hx _ h6 o6 => ⟨_, rfl, hQ he x hx _ o6.rot'.tail⟩
theorem spec25 (hI : Closed' prog Pm I) {p : Nat} {sb sh : Sl} {now : Int} {hs : List Hld} {L : List Ow} {no t : Int} (o : Owns h0 h (owP p sb sh now :: (6, sh, rows hldC hs) :: L)) (hlen2 : hs.length ≤ 2000)
    (hQe : errT hs now no t (fun n => decide (n = 1 ∨ n = 2)) ≠ 0 → ∀ h', Owns h0 h' (owP p sb sh now :: (6, sh, rows hldC hs) :: L) → Q [int (errT hs now no t (fun n => decide (n = 1 ∨ n = 2)))] h')
    (hQ : errT hs now no t (fun n => decide (n = 1 ∨ n = 2)) = 0 → ∀ x, hs[(no - 1).toNat]? = some x → ∀ h', Owns h0 h' (owP p sb sh t :: (6, sh, rows hldC (hs.set (no - 1).toNat { x with state := 3 })) :: L) → Q [int 0] h') :
    I 25 [.one (.ptr (some (p, 0))), int no, int t] Q h := by
  refine hI.go _ _ (den25 I _ no t Q) ?_
  refine newK_intro fun i4 h5 hn5 he5 => ?_
  subst he5
  have o5 := (o.new (sz := 1) (n := 2) (cs := ints [1, 2]) hn5 rfl).rot
  refine spec71 hI (xs := [1, 2]) (may := fun n => decide (n = 1 ∨ n = 2)) (L := (1, ⟨some (i4, 0), 2⟩, ints [1, 2]) :: L) o5 hlen2 (by simp) (by simp) (fun n => by simp) (fun he => ⟨_, rfl, hQe he _ o5.rot'.tail⟩) fun he _ _ x hx _ h6 o6 => ⟨_, rfl, hQ he x hx _ o6.rot'.tail⟩
theorem spec22 (hI : Closed' prog Pm I) {p : Nat} {sb sh : Sl} {now : Int} {hs : List Hld} {L : List Ow} {no t : Int} (o : Owns h0 h (owP p sb sh now :: (6, sh, rows hldC hs) :: L)) (hlen2 : hs.length ≤ 2000)
    (hQe : errT hs now no t (fun n => decide (n = 1)) ≠ 0 → Q [int (errT hs now no t (fun n => decide (n = 1)))] h)
    (hQ : errT hs now no t (fun n => decide (n = 1)) = 0 → now ≤ t → momentP t → ∀ x, hs[(no - 1).toNat]? = some x → ∀ h', Owns h0 h' (owP p sb sh t :: (6, sh, rows hldC (hs.set (no - 1).toNat { x with state := 2 })) :: L) → Q [int 0] h') :
    I 22 [.one (.ptr (some (p, 0))), int no, int t] Q h := by
  refine hI.go _ _ (den22 I _ no t _) ?_
  exact spec69 hI (may := fun n => decide (n = 1)) o hlen2 (fun n Q' h' hq => spec70 hI hq) (fun he => ⟨_, rfl, hQe he⟩) fun he h1 h2 x hx _ h6 o6 => ⟨_, rfl, hQ he h1 h2 x hx _ o6⟩
theorem spec24 (hI : Closed' prog Pm I) {p : Nat} {sb sh : Sl} {now : Int} {hs : List Hld} {L : List Ow} {no t : Int} (o : Owns h0 h (owP p sb sh now :: (6, sh, rows hldC hs) :: L)) (hlen2 : hs.length ≤ 2000)
    (hQe : errT hs now no t (fun n => decide (n = 1 ∨ n = 2)) ≠ 0 → Q [int (errT hs now no t (fun n => decide (n = 1 ∨ n = 2)))] h)
    (hQ : errT hs now no t (fun n => decide (n = 1 ∨ n = 2)) = 0 → now ≤ t → momentP t → ∀ x, hs[(no - 1).toNat]? = some x → ∀ h', Owns h0 h' (owP p sb sh t :: (6, sh, rows hldC (hs.set (no - 1).toNat { x with state := 3 })) :: L) → Q [int 0] h') :
    I 24 [.one (.ptr (some (p, 0))), int no, int t] Q h := by
  refine hI.go _ _ (den24 I _ no t _) ?_
  exact spec69 hI (may := fun n => decide (n = 1 ∨ n = 2)) o hlen2 (fun n Q' h' hq => spec72 hI hq) (fun he => ⟨_, rfl, hQe he⟩) fun he h1 h2 x hx _ h6 o6 => ⟨_, rfl, hQ he h1 h2 x hx _ o6⟩
end
end Go.Proofs.YtfemminjhecocaaDoorVc
