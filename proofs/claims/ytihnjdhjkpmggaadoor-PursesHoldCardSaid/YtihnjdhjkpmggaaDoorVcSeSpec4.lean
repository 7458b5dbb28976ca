/- Contracts of what SentChecks reaches: what is drawn, and the law. -/
import Derived.Test.YtihnjdhjkpmggaaDoorVcSeSpec3
set_option linter.unusedSimpArgs false
set_option linter.unusedVariables false
namespace Go.Proofs.YtihnjdhjkpmggaaDoorVc
open Go.Proofs.Tryd (prog)

theorem encode_size (n : Int) : (Utf8.encode n).size ≤ 4 := by
  unfold Utf8.encode
  simp only
  repeat' split
  all_goals first | exact (show (1 : Nat) ≤ 4 by decide) | exact (show (2 : Nat) ≤ 4 by decide) | exact (show (3 : Nat) ≤ 4 by decide) | exact (show (4 : Nat) ≤ 4 by decide)

section
variable {I : Calls} {Q : Post} {h : Heap}

theorem Owns.ne {h0 h : Heap} {p q : Ow} {l : List Ow} {i j : Nat} (o : Owns h0 h (p :: l)) (hq : q ∈ l) (hi : p.2.1.a = some (i, 0)) (hj : q.2.1.a = some (j, 0)) : i ≠ j := fun e => by
  subst e; exact (List.pairwise_cons.1 o.apart).1 q hq i hi hj

theorem lit_atC {h h0 : Heap} {i j n : Nat} {o : Obj} {cs : List Cell} (hne : j ≠ i) (he : h = h0.set j (.cells false cs)) (hn : n = cs.length) : At (h.set i o) 1 ⟨some (j, 0), n⟩ cs := by
  refine ⟨by simp [hn], .inr ?_⟩
  show (h.set i o).read j 0 (n * 1) = _
  unfold Heap.read
  rw [set_ne _ _ hne, he, set_eq]
  subst hn
  simp

theorem spec42 (hI : Closed' prog Pm I) {i : Nat} {l : Sl} {zs : List Int} {t : Nat} {s : Sl} {xs : List ByteArray} (S : Strm h i l zs t) (hs : At (h.set i (strm l (t + 1))) 1 s (strs xs)) (h1 : xs ≠ []) (h2 : xs.length < 1000)
    (hQ : ∀ v ∈ xs, Q [str v] (h.set i (strm l (t + 1)))) : I 42 [.one (.ptr (some (i, 0))), .one (.slice 1 s)] Q h := by
  have hl : s.len = xs.length := by simpa [strs] using hs.1
  have hpos := List.length_pos_iff.2 h1
  refine hI.go _ _ (den42 I (some (i, 0)) s Q) ?_
  refine spec12 hI S (by omega) (by omega) fun v h3 h4 => ⟨v, rfl, ⟨h3, h4⟩, hs.one h3 h4 fun b o c hc hr => ?_⟩
  simp only [strs, List.getElem?_map] at hc
  cases hz : xs[v.toNat]? with
  | none => rw [hz] at hc; cases hc
  | some z =>
    rw [hz] at hc
    cases hc
    exact ⟨z, hr, hQ z (List.mem_of_getElem? hz)⟩

section
variable {hb : Heap} {i : Nat} {l : Sl} {zs : List Int} {t0 : Nat}

/-- A new literal is not the stream's block. -/
theorem Owns.lit_ne {h : Heap} {t j : Nat} {L : List Ow} (o : Owns (hb.del i) h (owS i l t :: L)) (hn : h j = none) : j ≠ i := fun e => by
  subst e; rw [o.strmCell (l := l) (t := t) (by simp)] at hn; cases hn

theorem spec40 (hI : Closed' prog Pm I) (S0 : Strm hb i l zs t0) {t : Nat} {L : List Ow} (o : Owns (hb.del i) h (owS i l t :: L)) (ht : t < 100000) {s : Sl} {xs : List ByteArray} (hs : ∀ ob, At (h.set i ob) 1 s (strs xs)) (h1 : xs ≠ []) (h2 : xs.length < 1000)
    (hQ : ∀ v t' h', t' ≤ t + 2 → Owns (hb.del i) h' (owS i l t' :: L) → Q [str v] h') : I 40 [.one (.ptr (some (i, 0))), .one (.slice 1 s)] Q h := by
  refine hI.go _ _ (den40 I (some (i, 0)) s Q) ?_
  have S := o.toStrm S0 (t' := t) (by simp) (by omega)
  refine spec41 hI S (by decide) (by decide) fun b => ⟨b, rfl, ?_⟩
  have o1 := o.next (t' := t + 1)
  refine ifT_intro (fun _ => ?_) fun _ => ?_
  · refine newK_intro fun i7 h3 hn3 he3 => ?_
    have hne := o1.lit_ne hn3
    have o2 := o1.mono (he3 ▸ Ext.new hn3 : Ext _ h3)
    have S2 := o2.toStrm S0 (t' := t + 1) (by simp) (by omega)
    refine spec42 hI (xs := [⟨#[]⟩, ⟨#[75, 101, 121]⟩, ⟨#[49, 97]⟩]) S2 (lit_atC hne he3 rfl) (by simp) (by simp) fun v _ => ⟨v, rfl, hQ v _ _ (by omega) (o2.next (t' := t + 1 + 1))⟩
  · have S1 := o1.toStrm S0 (t' := t + 1) (by simp) (by omega)
    refine spec42 hI S1 (by rw [set_set]; exact hs _) h1 h2 fun v _ => ⟨v, rfl, hQ v _ _ (by omega) (o1.next (t' := t + 1 + 1))⟩

theorem spec6 (hI : Closed' prog Pm I) (S0 : Strm hb i l zs t0) {t : Nat} {L : List Ow} (o : Owns (hb.del i) h (owS i l t :: L)) (ht : t < 1000)
    (hQ : ∀ s' h' xs t', Owns (hb.del i) h' (owS i l t' :: (4, s', rows sentC xs) :: L) → t' ≤ t + 1000 → xs.length ≤ 30 → Q [.one (.slice 4 s')] h') : I 6 [.one (.ptr (some (i, 0))), int 20] Q h := by
  refine hI.go _ _ (den6 I (some (i, 0)) 20 Q) ?_
  have S := o.toStrm S0 (t' := t) (by simp) (by omega)
  have ew : IntKind.i64.wrap ((20 : Int) + 1) = 21 := by decide
  unfold vc6
  rw [ew]
  refine spec12 hI S (by decide) (by decide) fun n hn0 hn1 => ⟨n, rfl, ?_⟩
  refine loopK_intro (fun (a : Sl × Int × Int) h' m => ∃ j t' : Nat, (j : Int) ≤ n ∧ a.2.2 = j ∧ 30 - j = m ∧ t' ≤ t + 1 + 5 * j ∧ ∃ xs : List Sent, xs.length = j ∧ Owns (hb.del i) h' (owS i l t' :: (4, a.1, rows sentC xs) :: L)) 30
    ⟨0, t + 1, by omega, rfl, rfl, by omega, [], rfl, ((o.next (t' := t + 1)).none_ 4).perm (List.Perm.swap _ _ _)⟩ ?_
  rintro ⟨s, age, y⟩ h' m ⟨j, t', hj, rfl, rfl, ht', xs, hxl, o⟩
  dsimp only [uncur]
  have hal : s.len = xs.length := (o.at_ (s := s) (by simp)).rowsLen sentC_length (by decide)
  refine ifT_dec (fun hlt => ?_) (fun hge => ?_)
  · refine newK_intro fun i2 h2 hn2 he2 => ?_
    have hne2 := o.lit_ne hn2
    have o2 := o.mono (he2 ▸ Ext.new hn2 : Ext _ h2)
    refine spec13 hI (xs := [0, 1, 10, 100]) (o2.toStrm S0 (t' := t') (by simp) (by omega)) (lit_at hne2 he2 rfl) (by simp) (by simp) fun v _ => ⟨v, rfl, ?_⟩
    have o3 := o2.next (t' := t' + 1)
    have hes := encode_size (IntKind.i32.wrap (IntKind.i64.wrap (97 + (j : Int))))
    refine ⟨by omega, newK_intro fun i4 h4 hn4 he4 => ?_⟩
    have hne4 := o3.lit_ne hn4
    have o4 := o3.mono (he4 ▸ Ext.new hn4 : Ext _ h4)
    refine spec40 hI S0 o4 (by omega) (xs := [⟨#[97, 110, 110]⟩, ⟨#[98, 111]⟩]) (fun ob => lit_atC hne4 he4 rfl) (by simp) (by simp) fun p t5 h5 ht5 o5 => ⟨p, rfl, newK_intro fun i6 h6 hn6 he6 => ?_⟩
    have hne6 := o5.lit_ne hn6
    have o6 := o5.mono (he6 ▸ Ext.new hn6 : Ext _ h6)
    refine spec40 hI S0 o6 (by omega) (xs := [⟨#[104, 101, 108, 108, 111]⟩, ⟨#[110, 101, 119, 115]⟩, ⟨#[111, 102, 102, 101, 114]⟩]) (fun ob => lit_atC hne6 he6 rfl) (by simp) (by simp) fun q t7 h7 ht7 o7 => ⟨q, rfl, ?_⟩
    refine appendTo_owns (m := 0) (o7.perm (List.Perm.swap _ _ _)) (by rfl) (by omega) (by simp) fun b h8 o8 => ⟨30 - (j + 1), by omega, j + 1, t7, by omega, ?_, rfl, by omega, xs ++ [⟨(⟨#[115]⟩ : ByteArray) ++ Utf8.encode (IntKind.i32.wrap (IntKind.i64.wrap (97 + (j : Int)))), p, q, IntKind.i64.wrap (age + v)⟩], by simp [hxl], ?_⟩
    · show IntKind.i64.wrap ((j : Int) + 1) = _
      rw [w64] <;> omega
    · have := o8.perm (List.Perm.swap _ _ _)
      rw [rows_append]
      simpa [rows, sentC] using this
  · have S2 := o.toStrm S0 (t' := t') (by simp) (by omega)
    refine joinK_intro (fun (b : Bool) h3 => Owns (hb.del i) h3 (owS i l (t' + 1) :: (4, s, rows sentC xs) :: L) ∧ (b = true → 0 < xs.length)) ?_ ?_
    · rintro b h3 ⟨o3, hbp⟩
      refine ifT_intro (fun hbt => ?_) fun _ => hQ _ _ _ _ o3 (by omega) (by omega)
      have hpos := hbp hbt
      have S3 := o3.toStrm S0 (t' := t' + 1) (by simp) (by omega)
      refine spec12 hI S3 (by omega) (by omega) fun e he0 he1 => ⟨e, rfl, ⟨he0, he1⟩, ?_⟩
      obtain ⟨e, rfl⟩ := Int.eq_ofNat_of_zero_le he0
      have o4 := o3.next (t' := t' + 1 + 1)
      obtain ⟨bs, hbs, _⟩ := o4.has (s := s) (cs := rows sentC xs) (sz := 4) (by simp) (fun h => by have := congrArg List.length h; rw [rows_length sentC_length] at this; simp at this; omega)
      rw [hbs] at o4 ⊢
      refine derefK_intro rfl ?_
      refine spec12 hI (o4.toStrm S0 (t' := t' + 1 + 1) (by simp) (by omega)) (by decide) (by decide) fun c hc0 hc1 => ⟨c, rfl, ?_⟩
      have o5 := o4.next (t' := t' + 1 + 1 + 1)
      have hx := List.getElem?_eq_getElem (show e < xs.length by omega)
      generalize xs[e] = x at hx
      -- one cell of one letter is turned
      have fin : ∀ (j2 : Nat) (c2 : Cell) (x' : Sent) (h9 : Heap) (t9 : Nat), j2 < 4 → (sentC x).set j2 c2 = sentC x' → t9 ≤ t' + 4 → Owns (hb.del i) h9 (owS i l t9 :: (4, ⟨some (bs, 0), s.len⟩, rows sentC xs) :: L) → storeK [] bs (0 + ((e : Nat) : Int).toNat * 4 + j2) [c2] (Q [.one (.slice 4 ⟨some (bs, 0), s.len⟩)]) h9 := by
        intro j2 c2 x' h9 t9 hj2 hset ht9 o9
        have o10 := o9.perm (List.Perm.swap _ _ _)
        have hcell := (o10.block List.mem_cons_self).1
        have hrl := rows_length sentC_length xs
        rw [Int.toNat_natCast, Nat.zero_add]
        refine storeK_one hcell (by rw [hrl]; omega) ?_
        rw [rows_set sentC_length hx hj2 hset]
        have o11 := (o10.change (n' := s.len) (sz' := 4) (cs' := rows sentC (xs.set e x')) (by rw [rows_length sentC_length]; simp; omega)).perm (List.Perm.swap _ _ _)
        exact hQ _ _ _ _ o11 (by omega) (by simp; omega)
      refine ifT_dec (fun h1 => ?_) fun h1 => ifT_dec (fun h2 => ?_) fun h2 => ?_
      · refine newK_intro fun i6 h6 hn6 he6 => ?_
        have hne6 := o5.lit_ne hn6
        have o6 := o5.mono (he6 ▸ Ext.new hn6 : Ext _ h6)
        refine spec42 hI (xs := [⟨#[]⟩, ⟨#[115, 97]⟩, ⟨#[83]⟩]) (o6.toStrm S0 (t' := t' + 1 + 1 + 1) (by simp) (by omega)) (lit_atC hne6 he6 rfl) (by simp) (by simp) fun v _ => ⟨v, rfl, ?_⟩
        exact fin 0 (.str v) { x with id := v } _ (t' + 1 + 1 + 1 + 1) (by decide) rfl (by omega) o6.next
      · refine newK_intro fun i6 h6 hn6 he6 => ?_
        have hne6 := o5.lit_ne hn6
        have o6 := o5.mono (he6 ▸ Ext.new hn6 : Ext _ h6)
        refine spec13 hI (xs := [-1, 4321440, 0]) (o6.toStrm S0 (t' := t' + 1 + 1 + 1) (by simp) (by omega)) (lit_at hne6 he6 rfl) (by simp) (by simp) fun v _ => ⟨v, rfl, ?_⟩
        exact fin 3 (.int .i64 v) { x with at_ := v } _ (t' + 1 + 1 + 1 + 1) (by decide) rfl (by omega) o6.next
      · refine newK_intro fun i6 h6 hn6 he6 => ?_
        have hne6 := o5.lit_ne hn6
        have o6 := o5.mono (he6 ▸ Ext.new hn6 : Ext _ h6)
        refine spec42 hI (xs := [⟨#[]⟩, ⟨#[88]⟩]) (o6.toStrm S0 (t' := t' + 1 + 1 + 1) (by simp) (by omega)) (lit_atC hne6 he6 rfl) (by simp) (by simp) fun v _ => ⟨v, rfl, ?_⟩
        exact fin 2 (.str v) { x with letter := v } _ (t' + 1 + 1 + 1 + 1) (by decide) rfl (by omega) o6.next
    · intro jk hjk
      refine spec41 hI S2 (by decide) (by decide) fun b => ⟨b, rfl, ?_⟩
      have o3 := o.next (t' := t' + 1)
      refine ifT_intro (fun _ => hjk _ _ ⟨o3, fun h => ?_⟩) fun _ => hjk _ _ ⟨o3, fun h => by cases h⟩
      have := of_decide_eq_true h
      omega

theorem spec7 (hI : Closed' prog Pm I) (S0 : Strm hb i l zs t0) {t : Nat} {L : List Ow} (o : Owns (hb.del i) h (owS i l t :: L)) (ht : t < 10000)
    (hQ : ∀ s' h' xs t', Owns (hb.del i) h' (owS i l t' :: (4, s', rows gainC xs) :: L) → t' ≤ t + 1000 → xs.length ≤ 30 → Q [.one (.slice 4 s')] h') : I 7 [.one (.ptr (some (i, 0)))] Q h := by
  refine hI.go _ _ (den7 I (some (i, 0)) Q) ?_
  have S := o.toStrm S0 (t' := t) (by simp) (by omega)
  refine spec12 hI S (by decide) (by decide) fun n hn0 hn1 => ⟨n, rfl, ?_⟩
  refine loopK_intro (fun (a : Sl × Int) h' m => ∃ j t' : Nat, (j : Int) ≤ n ∧ a.2 = j ∧ 30 - j = m ∧ t' ≤ t + 1 + 5 * j ∧ ∃ xs : List Gain, xs.length = j ∧ Owns (hb.del i) h' (owS i l t' :: (4, a.1, rows gainC xs) :: L)) 30
    ⟨0, t + 1, by omega, rfl, rfl, by omega, [], rfl, ((o.next (t' := t + 1)).none_ 4).perm (List.Perm.swap _ _ _)⟩ ?_
  rintro ⟨s, y⟩ h' m ⟨j, t', hj, rfl, rfl, ht', xs, hxl, o⟩
  dsimp only [uncur]
  have hal : s.len = xs.length := (o.at_ (s := s) (by simp)).rowsLen gainC_length (by decide)
  refine ifT_dec (fun hlt => ?_) (fun hge => ?_)
  · have hes := encode_size (IntKind.i32.wrap (IntKind.i64.wrap (97 + (j : Int))))
    refine ⟨by omega, newK_intro fun i4 h4 hn4 he4 => ?_⟩
    have hne4 := o.lit_ne hn4
    have o4 := o.mono (he4 ▸ Ext.new hn4 : Ext _ h4)
    refine spec40 hI S0 o4 (by omega) (xs := [⟨#[97, 110, 110]⟩, ⟨#[97, 110, 110]⟩, ⟨#[98, 111]⟩, ⟨#[99, 121]⟩]) (fun ob => lit_atC hne4 he4 rfl) (by simp) (by simp) fun p t5 h5 ht5 o5 => ⟨p, rfl, ?_⟩
    refine spec12 hI (o5.toStrm S0 (t' := t5) (by simp) (by omega)) (by decide) (by decide) fun v hv0 hv1 => ⟨v, rfl, newK_intro fun i6 h6 hn6 he6 => ?_⟩
    have o5' := o5.next (t' := t5 + 1)
    have hne6 := o5'.lit_ne hn6
    have o6 := o5'.mono (he6 ▸ Ext.new hn6 : Ext _ h6)
    refine spec13 hI (xs := [0, 1, 99, 100, 1000, 1000000000000]) (o6.toStrm S0 (t' := t5 + 1) (by simp) (by omega)) (lit_at hne6 he6 rfl) (by simp) (by simp) fun q _ => ⟨q, rfl, ?_⟩
    have o7 := o6.next (t' := t5 + 1 + 1)
    refine appendTo_owns (m := 0) (o7.perm (List.Perm.swap _ _ _)) (by rfl) (by omega) (by simp) fun b h8 o8 => ⟨30 - (j + 1), by omega, j + 1, t5 + 1 + 1, by omega, ?_, rfl, by omega, xs ++ [⟨(⟨#[103]⟩ : ByteArray) ++ Utf8.encode (IntKind.i32.wrap (IntKind.i64.wrap (97 + (j : Int)))), p, v, q⟩], by simp [hxl], ?_⟩
    · show IntKind.i64.wrap ((j : Int) + 1) = _
      rw [w64] <;> omega
    · have := o8.perm (List.Perm.swap _ _ _)
      rw [rows_append]
      simpa [rows, gainC] using this
  · have S2 := o.toStrm S0 (t' := t') (by simp) (by omega)
    refine joinK_intro (fun (b : Bool) h3 => Owns (hb.del i) h3 (owS i l (t' + 1) :: (4, s, rows gainC xs) :: L) ∧ (b = true → 0 < xs.length)) ?_ ?_
    · rintro b h3 ⟨o3, hbp⟩
      refine ifT_intro (fun hbt => ?_) fun _ => hQ _ _ _ _ o3 (by omega) (by omega)
      have hpos := hbp hbt
      have S3 := o3.toStrm S0 (t' := t' + 1) (by simp) (by omega)
      refine spec12 hI S3 (by omega) (by omega) fun e he0 he1 => ⟨e, rfl, ⟨he0, he1⟩, ?_⟩
      obtain ⟨e, rfl⟩ := Int.eq_ofNat_of_zero_le he0
      have o4 := o3.next (t' := t' + 1 + 1)
      obtain ⟨bs, hbs, hcs⟩ := o4.has (s := s) (cs := rows gainC xs) (sz := 4) (by simp) (fun h => by have := congrArg List.length h; rw [rows_length gainC_length] at this; simp at this; omega)
      rw [hbs] at o4 ⊢
      refine derefK_intro rfl ?_
      have hx := List.getElem?_eq_getElem (show e < xs.length by omega)
      generalize xs[e] = x at hx
      have hne : i ≠ bs := o4.ne (q := (4, ⟨some (bs, 0), s.len⟩, rows gainC xs)) (by simp) rfl rfl
      rw [Int.toNat_natCast, Nat.zero_add]
      have rd : ∀ (j2 : Nat) (c2 : Cell), (gainC x)[j2]? = some c2 → (h3.set i (strm l (t' + 1 + 1))).read bs (e * 4 + j2) 1 = some [c2] := fun j2 c2 hc2 => read_cell hcs (rows_cell gainC_length hx hc2)
      refine ⟨x.id, rd 0 _ rfl, x.at_, rd 2 _ rfl, newK_intro fun i6 h6 hn6 he6 => ?_⟩
      have hne6 := o4.lit_ne hn6
      have o6 := o4.mono (he6 ▸ Ext.new hn6 : Ext _ h6)
      refine spec42 hI (xs := [⟨#[]⟩, ⟨#[103, 97]⟩, x.id]) (o6.toStrm S0 (t' := t' + 1 + 1) (by simp) (by omega)) (lit_atC hne6 he6 rfl) (by simp) (by simp) fun v _ => ⟨set_ne _ _ hne.symm, v, rfl, newK_intro fun i7 h7 hn7 he7 => ?_⟩
      have o6' := o6.next (t' := t' + 1 + 1 + 1)
      have hne7 := o6'.lit_ne hn7
      have o7 := o6'.mono (he7 ▸ Ext.new hn7 : Ext _ h7)
      refine spec13 hI (xs := [-1, 1000000000001, 5]) (o7.toStrm S0 (t' := t' + 1 + 1 + 1) (by simp) (by omega)) (lit_at hne7 he7 rfl) (by simp) (by simp) fun u _ => ⟨set_ne _ _ hne.symm, u, rfl, newK_intro fun i8 h8 hn8 he8 => ?_⟩
      have o7' := o7.next (t' := t' + 1 + 1 + 1 + 1)
      have hne8 := o7'.lit_ne hn8
      have o8 := o7'.mono (he8 ▸ Ext.new hn8 : Ext _ h8)
      refine spec13 hI (xs := [-1, x.at_, 4321440]) (o8.toStrm S0 (t' := t' + 1 + 1 + 1 + 1) (by simp) (by omega)) (lit_at hne8 he8 rfl) (by simp) (by simp) fun r _ => ⟨r, rfl, ?_⟩
      have o9 := (o8.next (t' := t' + 1 + 1 + 1 + 1 + 1)).perm (List.Perm.swap _ _ _)
      have hrl := rows_length gainC_length xs
      have hrl2 : ∀ ys : List Gain, ys.length = xs.length → e * 4 + 3 < (rows gainC ys).length := fun ys hy => by rw [rows_length gainC_length, hy]; omega
      refine storeK_one (o9.block List.mem_cons_self).1 (by have := hrl2 xs rfl; omega) ?_
      rw [rows_set (b := { x with id := v }) gainC_length hx (by decide) rfl]
      have hx1 : (xs.set e { x with id := v })[e]? = some { x with id := v } := by rw [List.getElem?_set_self (by omega)]
      have o10 := o9.change (n' := s.len) (sz' := 4) (cs' := rows gainC (xs.set e { x with id := v })) (by rw [rows_length gainC_length]; simp; omega)
      refine storeK_one (o10.block List.mem_cons_self).1 (by have := hrl2 (xs.set e { x with id := v }) (by simp); omega) ?_
      rw [rows_set (b := { x with id := v, cents := u }) gainC_length hx1 (by decide) rfl]
      have hx2 : ((xs.set e { x with id := v }).set e { x with id := v, cents := u })[e]? = some { x with id := v, cents := u } := by rw [List.getElem?_set_self (by simp; omega)]
      have o11 := o10.change (n' := s.len) (sz' := 4) (cs' := rows gainC ((xs.set e { x with id := v }).set e { x with id := v, cents := u })) (by rw [rows_length gainC_length]; simp; omega)
      refine storeK_one (o11.block List.mem_cons_self).1 (by have := hrl2 ((xs.set e { x with id := v }).set e { x with id := v, cents := u }) (by simp); omega) ?_
      rw [rows_set (b := { x with id := v, cents := u, at_ := r }) gainC_length hx2 (by decide) rfl]
      have o12 := (o11.change (n' := s.len) (sz' := 4) (cs' := rows gainC (((xs.set e { x with id := v }).set e { x with id := v, cents := u }).set e { x with id := v, cents := u, at_ := r })) (by rw [rows_length gainC_length]; simp; omega)).perm (List.Perm.swap _ _ _)
      exact hQ _ _ _ _ o12 (by omega) (by simp; omega)
    · intro jk hjk
      refine spec41 hI S2 (by decide) (by decide) fun b => ⟨b, rfl, ?_⟩
      have o3 := o.next (t' := t' + 1)
      refine ifT_intro (fun _ => hjk _ _ ⟨o3, fun h => ?_⟩) fun _ => hjk _ _ ⟨o3, fun h => by cases h⟩
      have := of_decide_eq_true h
      omega
end

end
end Go.Proofs.YtihnjdhjkpmggaaDoorVc
