/- Contracts of what OffersFit reaches: the offers and the basket that are drawn. -/
import Derived.Test.YtfemminjhecocaaDoorVcOfSpec2
set_option linter.unusedSimpArgs false
set_option linter.unusedVariables false
namespace Go.Proofs.YtfemminjhecocaaDoorVc
open Go.Proofs.Tryd (prog)

/-- Tags lie in memory that is one's own, or there are none. -/
def tgIn (T : List Ow) (s : Sl) (tags : List ByteArray) : Prop := (s = ⟨none, 0⟩ ∧ tags = []) ∨ (1, s, strs tags) ∈ T
theorem tgIn.mono {T U : List Ow} {s : Sl} {tags : List ByteArray} (h : tgIn T s tags) (hs : ∀ p ∈ T, p ∈ U) : tgIn U s tags := h.imp id fun h => hs _ h
theorem tgIn.at_ {h0 h : Heap} {T M : List Ow} {s : Sl} {tags : List ByteArray} (o : Owns h0 h M) (ht : tgIn T s tags) (hs : ∀ p ∈ T, p ∈ M) : At h 1 s (strs tags) := by
  rcases ht with ⟨rfl, rfl⟩ | ht
  · exact ⟨rfl, .inl rfl⟩
  · exact o.at_ (hs _ ht)
def slC (ps : List (Sl × List ByteArray)) : List Cell := ps.map fun p => .slice 1 p.1

section
variable {I : Calls} {Q : Post} {h hb : Heap} {i : Nat} {l : Sl} {zs : List Int} {t0 : Nat}

/-- A literal of ints, and one of them is drawn. -/
theorem pick_lit (hI : Closed' prog Pm I) (S0 : Strm hb i l zs t0) {t : Nat} {L : List Ow} (o : Owns (hb.del i) h (owS i l t :: L)) (ht : t < 900000000) (xs : List Int) (h1 : xs ≠ []) (h2 : xs.length < 1000) {F : Int → T}
    (hF : ∀ v ∈ xs, ∀ h', Owns (hb.del i) h' (owS i l (t + 1) :: L) → F v h') :
    newK (.cells false (ints xs)) (fun i6 => fun h7 => I 9 [.one (.ptr (some (i, 0))), .one (.slice 1 ⟨some (i6, 0), xs.length⟩)] (fun cs h9 => ∃ n : Int, cs = [int n] ∧ F n h9) h7) h := by
  refine newK_intro fun i6 h7 hn he => ?_
  have hne := o.lit_ne hn
  have o2 := o.mono (he ▸ Ext.new hn : Ext _ h7)
  exact spec9 hI (xs := xs) (o2.toStrm S0 (t' := t) (by simp) (by omega)) (lit_at hne he rfl) h1 h2 fun v hv => ⟨v, rfl, hF v hv _ o2.next⟩
theorem one_lit (hI : Closed' prog Pm I) (S0 : Strm hb i l zs t0) {t : Nat} {L : List Ow} (o : Owns (hb.del i) h (owS i l t :: L)) (ht : t < 900000000) (xs : List ByteArray) (h1 : xs ≠ []) (h2 : xs.length < 1000) {F : ByteArray → T}
    (hF : ∀ v ∈ xs, ∀ h', Owns (hb.del i) h' (owS i l (t + 1) :: L) → F v h') :
    newK (.cells false (strs xs)) (fun i6 => fun h7 => I 53 [.one (.ptr (some (i, 0))), .one (.slice 1 ⟨some (i6, 0), xs.length⟩)] (fun cs h9 => ∃ n : ByteArray, cs = [str n] ∧ F n h9) h7) h := by
  refine newK_intro fun i6 h7 hn he => ?_
  have hne := o.lit_ne hn
  have o2 := o.mono (he ▸ Ext.new hn : Ext _ h7)
  exact spec53 hI (xs := xs) (o2.toStrm S0 (t' := t) (by simp) (by omega)) (lit_atC hne he (by rw [strs, List.length_map])) h1 h2 fun v hv => ⟨v, rfl, hF v hv _ o2.next⟩
/-- One of some rows of tags is drawn. -/
theorem pick_tags (hI : Closed' prog Pm I) (S0 : Strm hb i l zs t0) {t : Nat} {T L : List Ow} {i4 n : Nat} {ps : List (Sl × List ByteArray)} (o : Owns (hb.del i) h (owS i l t :: (1, ⟨some (i4, 0), n⟩, slC ps) :: (T ++ L))) (ht : t < 900000000)
    (hn : n = ps.length) (hn0 : 0 < n) (hn1 : n < 1000) (hp : ∀ p ∈ ps, tgIn T p.1 p.2) {F : Sl → YtfemminjhecocaaDoorVc.T} (hF : ∀ sl tags h', tgIn T sl tags → Owns (hb.del i) h' (owS i l (t + 1) :: (T ++ L)) → F sl h') :
    I 16 [.one (.ptr (some (i, 0))), int (n : Int)] (fun cs h9 => ∃ v : Int, cs = [int v] ∧ ((0 ≤ v) ∧ v < (n : Int)) ∧ ∃ sl : Sl, h9.read i4 (0 + v.toNat * 1) 1 = some [.slice 1 sl] ∧ F sl h9) h := by
  refine spec16 hI (o.toStrm S0 (t' := t) (by simp) (by omega)) (by omega) (by omega) fun v h0 h1 => ⟨v, rfl, ⟨h0, h1⟩, ?_⟩
  obtain ⟨v, rfl⟩ := Int.eq_ofNat_of_zero_le h0
  have hx := List.getElem?_eq_getElem (show v < ps.length by omega)
  generalize ps[v] = p at hx
  have o2 := o.next (t' := t + 1)
  refine ⟨p.1, ?_, hF p.1 p.2 _ (hp p (List.mem_of_getElem? hx)) (o2.swp.tail)⟩
  rw [Int.toNat_natCast, Nat.zero_add, Nat.mul_one]
  exact read_cell (o2.block (sz := 1) (i := i4) (n := n) (cs := slC ps) (by simp)).1 (by unfold slC; rw [List.getElem?_map, hx]; rfl)

/-- An offer. -/
theorem spec40 (hI : Closed' prog Pm I) (S0 : Strm hb i l zs t0) {t : Nat} {L : List Ow} (o : Owns (hb.del i) h (owS i l t :: L)) (ht : t < 800000000) {key : ByteArray}
    (hQ : ∀ (x : Offr) (T : List Ow) t' h', Owns (hb.del i) h' (owS i l t' :: (T ++ L)) → tgIn T x.tg x.tags → t' ≤ t + 20 → x.key = key → Q [.agg (offC x)] h') : I 40 [.one (.ptr (some (i, 0))), str key] Q h := by
  refine hI.go _ _ (den40 I (some (i, 0)) key Q) ?_
  refine spec19 hI (o.toStrm S0 (t' := t) (by simp) (by omega)) (by decide) (by decide) (by decide) fun kd _ _ => ⟨kd, rfl, ?_⟩
  refine pick_lit hI S0 (o.next (t' := t + 1)) (by omega) [0, 0, 1, 2] (by simp) (by simp) fun ord _ h2 o2 => ?_
  refine pick_lit hI S0 o2 (by omega) [0, 0, 0, 60] (by simp) (by simp) fun fr _ h3 o3 => ?_
  refine pick_lit hI S0 o3 (by omega) [50, 100, 4321440, 4321440] (by simp) (by simp) fun to _ h4 o4 => ?_
  refine joinK_intro (fun p h' => ∃ t', t' ≤ t + 6 ∧ p.1 = key ∧ p.2.2.2.2.1 = ⟨none, 0⟩ ∧ Owns (hb.del i) h' (owS i l t' :: L)) ?_ ?_
  case refine_2 =>
    intro j hj
    refine ifT_dec (fun _ => ?_) fun _ => ?_
    · exact pick_lit hI S0 o4 (by omega) [1, 10, 33, 50, 100] (by simp) (by simp) fun v _ h5 o5 => hj _ _ ⟨_, by omega, rfl, rfl, o5⟩
    refine joinK_intro (fun p h' => ∃ t', t' ≤ t + 6 ∧ p.1 = key ∧ p.2.2.2.2.1 = ⟨none, 0⟩ ∧ Owns (hb.del i) h' (owS i l t' :: L)) ?_ fun j2 hj2 => ifT_dec (fun _ => ?_) fun _ => ?_
    · rintro ⟨a1, a2, a3, a4, a5, a6, a7, a8, a9, a10, a11, a12, u⟩ h5 hh
      exact hj _ _ hh
    · refine spec19 hI (o4.toStrm S0 (t' := t + 1 + 1 + 1 + 1) (by simp) (by omega)) (by decide) (by decide) (by decide) fun a _ _ => ⟨a, rfl, ?_⟩
      have o5 := o4.next (t' := t + 1 + 1 + 1 + 1 + 1)
      refine spec19 hI (o5.toStrm S0 (t' := t + 1 + 1 + 1 + 1 + 1) (by simp) (by omega)) (by decide) (by decide) (by decide) fun b _ _ => ⟨b, rfl, hj2 _ _ ⟨_, by omega, rfl, rfl, o5.next (t' := t + 1 + 1 + 1 + 1 + 1 + 1)⟩⟩
    · exact pick_lit hI S0 o4 (by omega) [1, 100, 500, 5000, 1000000000000] (by simp) (by simp) fun v _ h5 o5 => hj2 _ _ ⟨_, by omega, rfl, rfl, o5⟩
  rintro ⟨a1, a2, a3, a4, a5, a6, a7, a8, a9, a10, a11, a12, u⟩ h5 ⟨t5, ht5, hk, htg, o5⟩
  obtain rfl : a1 = key := hk
  obtain rfl : a5 = ⟨none, 0⟩ := htg
  dsimp only [uncur]
  refine joinK_intro (fun (b : Bool) h' => ∃ t', t' ≤ t5 + 1 ∧ Owns (hb.del i) h' (owS i l t' :: L)) ?_ fun j hj => ifT_intro (fun _ => spec17 hI (o5.toStrm S0 (t' := t5) (by simp) (by omega)) (by decide) (by decide) fun b => ⟨b, rfl, hj _ _ ⟨_, Nat.le_refl _, o5.next⟩⟩) fun _ => hj _ _ ⟨t5, by omega, o5⟩
  rintro b h6 ⟨t6, ht6, o6⟩
  refine joinK_intro (fun p h' => ∃ t' T tags, t' ≤ t6 + 1 ∧ p.1 = a1 ∧ tgIn T p.2.2.2.2.1 tags ∧ Owns (hb.del i) h' (owS i l t' :: (T ++ L))) ?_ ?_
  case refine_2 =>
    intro j hj
    refine ifT_intro (fun _ => ?_) fun _ => hj _ _ ⟨t6, [], [], by omega, rfl, .inl ⟨rfl, rfl⟩, o6⟩
    refine newK_intro fun i1 g1 hn1 he1 => newK_intro fun i2 g2 hn2 he2 => newK_intro fun i3 g3 hn3 he3 => newK_intro fun i4 g4 hn4 he4 => ?_
    subst he1 he2 he3 he4
    have q1 := (o6.new (sz := 1) (n := 1) (cs := strs [⟨#[104, 97, 116]⟩]) hn1 rfl).swp
    have q2 := (q1.new (sz := 1) (n := 2) (cs := strs [⟨#[99, 97, 112]⟩, ⟨#[104, 97, 116]⟩]) hn2 rfl).swp
    have q3 := (q2.new (sz := 1) (n := 1) (cs := strs [⟨#[115, 104, 111, 101]⟩]) hn3 rfl).swp
    have q4 := (q3.new (sz := 1) (n := 3) (cs := slC [(⟨some (i1, 0), 1⟩, [⟨#[104, 97, 116]⟩]), (⟨some (i2, 0), 2⟩, [⟨#[99, 97, 112]⟩, ⟨#[104, 97, 116]⟩]), (⟨some (i3, 0), 1⟩, [⟨#[115, 104, 111, 101]⟩])]) hn4 rfl).swp
    exact pick_tags hI S0 (T := [(1, ⟨some (i3, 0), 1⟩, strs [⟨#[115, 104, 111, 101]⟩]), (1, ⟨some (i2, 0), 2⟩, strs [⟨#[99, 97, 112]⟩, ⟨#[104, 97, 116]⟩]), (1, ⟨some (i1, 0), 1⟩, strs [⟨#[104, 97, 116]⟩])]) (L := L) q4 (by omega) rfl (by decide) (by decide) (by simp [tgIn]) fun sl tags h7 htg o7 => hj _ _ ⟨_, _, tags, Nat.le_refl _, rfl, htg, o7⟩
  rintro ⟨b1, b2, b3, b4, b5, b6, b7, b8, b9, b10, b11, b12, u⟩ h7 ⟨t7, T, tags, ht7, hk, htg, o7⟩
  obtain rfl : b1 = a1 := hk
  simp only at htg
  dsimp only [uncur]
  refine pick_lit hI S0 o7 (by omega) [0, 0, 0, 500, 3000] (by simp) (by simp) fun least _ h8 o8 => ?_
  refine pick_lit hI S0 o8 (by omega) [0, 0, 0, 100, 333] (by simp) (by simp) fun most _ h9 o9 => ?_
  refine spec17 hI (o9.toStrm S0 (t' := t7 + 1 + 1) (by simp) (by omega)) (by decide) (by decide) fun fl => ⟨fl, rfl, ?_⟩
  have o10 := o9.next (t' := t7 + 1 + 1 + 1)
  refine joinK_intro (fun p h' => ∃ t', t' ≤ t7 + 4 ∧ p.1 = b1 ∧ p.2.2.2.2.1 = b5 ∧ Owns (hb.del i) h' (owS i l t' :: (T ++ L))) ?_ fun j hj => ifT_intro (fun _ => one_lit hI S0 o10 (by omega) [⟨#[103, 49]⟩, ⟨#[103, 50]⟩] (by simp) (by simp) fun v _ h11 o11 => hj _ _ ⟨_, by omega, rfl, rfl, o11⟩) fun _ => hj _ _ ⟨_, by omega, rfl, rfl, o10⟩
  rintro ⟨c1, c2, c3, c4, c5, c6, c7, c8, c9, c10, c11, c12, u⟩ h11 ⟨t11, ht11, hk, htg2, o11⟩
  obtain rfl : c1 = b1 := hk
  obtain rfl : c5 = b5 := htg2
  dsimp only [uncur]
  refine spec17 hI (o11.toStrm S0 (t' := t11) (by simp) (by omega)) (by decide) (by decide) fun al => ⟨al, rfl, ?_⟩
  exact hQ ⟨c1, c2, c3, c4, c5, c6, c7, c8, al, c10, c11, c12, tags⟩ T _ _ (o11.next (t' := t11 + 1)) htg (by omega) rfl


/-- A cell of a row of structs is written. -/
theorem store_row {α : Type} {f : α → List Cell} {k : Nat} (hf : ∀ a, (f a).length = k) {h0 h : Heap} {L : List Ow} {bs n e j : Nat} {xs : List α} {x x' : α} {c : Cell} {K : T} (o : Owns h0 h ((k, ⟨some (bs, 0), n⟩, rows f xs) :: L)) (hx : xs[e]? = some x) (hj : j < k)
    (hc : (f x).set j c = f x') (hK : ∀ h', Owns h0 h' ((k, ⟨some (bs, 0), n⟩, rows f (xs.set e x')) :: L) → K h') : storeK [] bs (0 + ((e : Nat) : Int).toNat * k + j) [c] K h := by
  have he : e < xs.length := (List.getElem?_eq_some_iff.1 hx).1
  have hle : e * k + k ≤ xs.length * k := by
    have := Nat.mul_le_mul_right k (show e + 1 ≤ xs.length by omega)
    rw [Nat.add_mul] at this; omega
  rw [Int.toNat_natCast, Nat.zero_add]
  refine storeK_one (o.block List.mem_cons_self).1 (by rw [rows_length hf]; omega) ?_
  rw [rows_set hf hx hj hc]
  refine hK _ (o.change ?_)
  have := (o.all _ List.mem_cons_self).1
  simp only at this
  rw [this, rows_length hf, rows_length hf]; simp

/-- Offers that are drawn. -/
theorem spec31 (hI : Closed' prog Pm I) (S0 : Strm hb i l zs t0) {t : Nat} {L : List Ow} {n1 : Int} (o : Owns (hb.del i) h (owS i l t :: L)) (ht : t < 100000) (hn0 : 0 ≤ n1) (hn1 : n1 ≤ 13)
    (hQ : ∀ s' xs T t' h', Owns (hb.del i) h' (owS i l t' :: (12, s', rows offC xs) :: (T ++ L)) → (∀ x ∈ xs, tgIn T x.tg x.tags) → (xs.length : Int) ≤ n1 → t' ≤ t + 500 → Q [.one (.slice 12 s')] h') : I 31 [.one (.ptr (some (i, 0))), int n1] Q h := by
  refine hI.go _ _ (den31 I (some (i, 0)) n1 Q) ?_
  have ew0 : IntKind.i64.wrap (n1 + 1) = n1 + 1 := by rw [w64] <;> omega
  unfold vc31
  rw [ew0]
  refine spec16 hI (o.toStrm S0 (t' := t) (by simp) (by omega)) (by omega) (by omega) fun n hn2 hn3 => ⟨n, rfl, ?_⟩
  have o1 := o.next (t' := t + 1)
  refine loopK_intro (fun (a : Sl × Int) h' m => ∃ (j t' : Nat) (T : List Ow) (xs : List Offr), (j : Int) ≤ n ∧ a.2 = j ∧ 14 - j = m ∧ t' ≤ t + 1 + 21 * j ∧ xs.length = j ∧ (∀ x ∈ xs, tgIn T x.tg x.tags) ∧ Owns (hb.del i) h' (owS i l t' :: (12, a.1, rows offC xs) :: (T ++ L))) 14
    ⟨0, t + 1, [], [], by omega, rfl, rfl, by omega, rfl, by simp, (o1.none_ 12).swp⟩ ?_
  rintro ⟨s, y⟩ h' m ⟨j, t', T, xs, hj, rfl, rfl, ht', hxl, htg, o⟩
  dsimp only [uncur] at o ⊢
  have hal : s.len = xs.length := (o.at_ (s := s) (by simp)).rowsLen offC_length (by decide)
  refine ifT_dec (fun hlt => ?_) (fun hge => ?_)
  · have hes := encode_size (IntKind.i32.wrap (IntKind.i64.wrap (97 + (j : Int))))
    refine ⟨by omega, spec40 hI S0 o (by omega) fun x T2 t2 h2 o2 hx ht2 _ => ⟨_, _, _, _, _, _, _, _, _, _, _, _, rfl, ?_⟩⟩
    have o3 : Owns (hb.del i) h2 (owS i l t2 :: (12, s, rows offC xs) :: ((T2 ++ T) ++ L)) := by
      rw [List.append_assoc]
      exact o2.perm (List.Perm.cons _ List.perm_middle)
    refine appendTo_owns (m := 0) o3.swp (by rfl) (by omega) (by simp) fun bn h8 o8 => ⟨14 - (j + 1), by omega, j + 1, t2, T2 ++ T, xs ++ [x], by omega, by rw [w64] <;> omega, rfl, by omega, by simp [hxl], fun y hy => ?_, ?_⟩
    · rcases List.mem_append.1 hy with hy | hy
      · exact (htg y hy).mono fun p hp => List.mem_append_right _ hp
      · have : y = x := by simpa using hy
        subst this
        exact hx.mono fun p hp => List.mem_append_left _ hp
    · rw [rows_append]
      have := o8.swp
      simpa [rows, offC] using this
  · have fin : ∀ (s' : Sl) (ys : List Offr) (T' : List Ow) (t9 : Nat) (h9 : Heap), ys.length = xs.length → t9 ≤ t' + 10 → (∀ x ∈ ys, tgIn T' x.tg x.tags) → Owns (hb.del i) h9 (owS i l t9 :: (12, s', rows offC ys) :: (T' ++ L)) → Q [.one (.slice 12 s')] h9 := fun s' ys T' t9 h9 hy ht9 hg o9 => hQ s' ys T' t9 h9 o9 hg (by omega) (by omega)
    refine joinK_intro (fun (b : Bool) h3 => Owns (hb.del i) h3 (owS i l (t' + 1) :: (12, s, rows offC xs) :: (T ++ L)) ∧ (b = true → 0 < xs.length)) ?_ ?_
    · rintro b h3 ⟨o3, hbp⟩
      refine ifT_intro (fun hbt => ?_) fun _ => fin _ _ _ _ _ rfl (by omega) htg o3
      have hpos := hbp hbt
      refine spec16 hI (o3.toStrm S0 (t' := t' + 1) (by simp) (by omega)) (by omega) (by omega) fun e he0 he1 => ⟨e, rfl, ⟨he0, he1⟩, ?_⟩
      obtain ⟨e, rfl⟩ := Int.eq_ofNat_of_zero_le he0
      have o4 := o3.next (t' := t' + 1 + 1)
      have hrl := rows_length offC_length xs
      obtain ⟨bs, hbs, hcs⟩ := o4.has (s := s) (cs := rows offC xs) (sz := 12) (by simp) (fun h => by rw [h] at hrl; simp at hrl; omega)
      rw [hbs] at o4 ⊢
      refine derefK_intro rfl ?_
      refine spec16 hI (o4.toStrm S0 (t' := t' + 1 + 1) (by simp) (by omega)) (by decide) (by decide) fun c hc0 hc1 => ⟨c, rfl, ?_⟩
      have o5 := o4.next (t' := t' + 1 + 1 + 1)
      have hx := List.getElem?_eq_getElem (show e < xs.length by omega)
      generalize xs[e] = x at hx
      have hxt := htg x (List.mem_of_getElem? hx)
      -- a field of the offer e is turned
      have put : ∀ (j2 : Nat) (c2 : Cell) (x' : Offr) (T' : List Ow) (h9 : Heap) (t9 : Nat), j2 < 12 → (offC x).set j2 c2 = offC x' → tgIn T' x'.tg x'.tags → (∀ x ∈ xs, tgIn T' x.tg x.tags) → t9 ≤ t' + 6 → Owns (hb.del i) h9 (owS i l t9 :: (12, ⟨some (bs, 0), s.len⟩, rows offC xs) :: (T' ++ L)) →
          storeK [] bs (0 + ((e : Nat) : Int).toNat * 12 + j2) [c2] (Q [.one (.slice 12 ⟨some (bs, 0), s.len⟩)]) h9 := fun j2 c2 x' T' h9 t9 hj2 hset hx' hg ht9 o9 =>
        store_row offC_length o9.swp hx hj2 hset fun h10 o10 => fin _ (xs.set e x') T' t9 _ (by simp) (by omega) (fun y hy => by
          rcases List.mem_or_eq_of_mem_set hy with hy | rfl
          · exact hg y hy
          · exact hx') o10.swp
      have two : ∀ (j2 j3 : Nat) (c2 c3 : Cell) (x' x'' : Offr) (h9 : Heap) (t9 : Nat), j2 < 12 → j3 < 12 → (offC x).set j2 c2 = offC x' → (offC x').set j3 c3 = offC x'' → x''.tg = x.tg → x''.tags = x.tags → t9 ≤ t' + 6 → Owns (hb.del i) h9 (owS i l t9 :: (12, ⟨some (bs, 0), s.len⟩, rows offC xs) :: (T ++ L)) →
          storeK [] bs (0 + ((e : Nat) : Int).toNat * 12 + j2) [c2] (storeK [] bs (0 + ((e : Nat) : Int).toNat * 12 + j3) [c3] (Q [.one (.slice 12 ⟨some (bs, 0), s.len⟩)])) h9 := fun j2 j3 c2 c3 x' x'' h9 t9 hj2 hj3 hset hset2 h1 h2 ht9 o9 =>
        store_row offC_length o9.swp hx hj2 hset fun h10 o10 => store_row offC_length o10 (x := x') (by rw [List.getElem?_set_self (by omega)]) hj3 hset2 fun h11 o11 => fin _ ((xs.set e x').set e x'') T t9 _ (by simp) (by omega) (fun y hy => by
          rw [List.set_set] at hy
          rcases List.mem_or_eq_of_mem_set hy with hy | rfl
          · exact htg y hy
          · rw [h1, h2]; exact hxt) o11.swp
      refine ifT_dec (fun _ => ?_) fun _ => ifT_dec (fun _ => ?_) fun _ => ifT_dec (fun _ => ?_) fun _ => ifT_dec (fun _ => ?_) fun _ => ifT_dec (fun _ => ?_) fun _ => ifT_dec (fun _ => ?_) fun _ => ifT_dec (fun _ => ?_) fun _ => ifT_dec (fun _ => ?_) fun _ => ?_
      · exact one_lit hI S0 o5 (by omega) [⟨#[]⟩, ⟨#[111, 97]⟩, ⟨#[79]⟩] (by simp) (by simp) fun v _ h6 o6 => put 0 (.str v) { x with key := v } T _ _ (by decide) rfl hxt htg (by omega) o6
      · refine spec19 hI (o5.toStrm S0 (t' := t' + 1 + 1 + 1) (by simp) (by omega)) (by decide) (by decide) (by decide) fun v _ _ => ⟨v, rfl, put 1 (.int .i64 v) { x with kind := v } T _ _ (by decide) rfl hxt htg ?_ (o5.next (t' := t' + 1 + 1 + 1 + 1))⟩
        omega
      · exact pick_lit hI S0 o5 (by omega) [0, 101, 21, 1000000000001, -1] (by simp) (by simp) fun v _ h6 o6 => put 2 (.int .i64 v) { x with a := v } T _ _ (by decide) rfl hxt htg (by omega) o6
      · exact pick_lit hI S0 o5 (by omega) [0, 1, 21, -1] (by simp) (by simp) fun v _ h6 o6 => put 3 (.int .i64 v) { x with b := v } T _ _ (by decide) rfl hxt htg (by omega) o6
      · exact pick_lit hI S0 o5 (by omega) [-1, 0, 1000000000001] (by simp) (by simp) fun v _ h6 o6 => pick_lit hI S0 o6 (by omega) [-1, 0] (by simp) (by simp) fun w _ h7 o7 => two 5 6 (.int .i64 v) (.int .i64 w) { x with least := v } { x with least := v, most := w } _ _ (by decide) (by decide) rfl rfl rfl rfl (by omega) o7
      · exact pick_lit hI S0 o5 (by omega) [-1, 4321440, 5] (by simp) (by simp) fun v _ h6 o6 => pick_lit hI S0 o6 (by omega) [5, 6, 4321441] (by simp) (by simp) fun w _ h7 o7 => two 10 11 (.int .i64 v) (.int .i64 w) { x with from_ := v } { x with from_ := v, to_ := w } _ _ (by decide) (by decide) rfl rfl rfl rfl (by omega) o7
      · exact one_lit hI S0 o5 (by omega) [⟨#[71]⟩, ⟨#[103, 49]⟩] (by simp) (by simp) fun v _ h6 o6 => put 7 (.str v) { x with group := v } T _ _ (by decide) rfl hxt htg (by omega) o6
      · refine newK_intro fun i1 g1 hn1 he1 => newK_intro fun i2 g2 hn2 he2 => newK_intro fun i3 g3 hn3 he3 => newK_intro fun i4 g4 hn4 he4 => ?_
        subst he1 he2 he3 he4
        have q1 := (o5.new (sz := 1) (n := 1) (cs := strs [⟨#[72, 97, 116]⟩]) hn1 rfl).swp
        have q2 := (q1.new (sz := 1) (n := 2) (cs := strs [⟨#[104, 97, 116]⟩, ⟨#[99, 97, 112]⟩]) hn2 rfl).swp
        have q3 := (q2.new (sz := 1) (n := 11) (cs := strs [⟨#[97]⟩, ⟨#[98]⟩, ⟨#[99]⟩, ⟨#[100]⟩, ⟨#[101]⟩, ⟨#[102]⟩, ⟨#[103]⟩, ⟨#[104]⟩, ⟨#[105]⟩, ⟨#[106]⟩, ⟨#[107]⟩]) hn3 rfl).swp
        have q4 := (q3.new (sz := 1) (n := 3) (cs := slC [(⟨some (i1, 0), 1⟩, [⟨#[72, 97, 116]⟩]), (⟨some (i2, 0), 2⟩, [⟨#[104, 97, 116]⟩, ⟨#[99, 97, 112]⟩]), (⟨some (i3, 0), 11⟩, [⟨#[97]⟩, ⟨#[98]⟩, ⟨#[99]⟩, ⟨#[100]⟩, ⟨#[101]⟩, ⟨#[102]⟩, ⟨#[103]⟩, ⟨#[104]⟩, ⟨#[105]⟩, ⟨#[106]⟩, ⟨#[107]⟩])]) hn4 rfl).swp
        refine pick_tags hI S0 (T := [(1, ⟨some (i3, 0), 11⟩, strs [⟨#[97]⟩, ⟨#[98]⟩, ⟨#[99]⟩, ⟨#[100]⟩, ⟨#[101]⟩, ⟨#[102]⟩, ⟨#[103]⟩, ⟨#[104]⟩, ⟨#[105]⟩, ⟨#[106]⟩, ⟨#[107]⟩]), (1, ⟨some (i2, 0), 2⟩, strs [⟨#[104, 97, 116]⟩, ⟨#[99, 97, 112]⟩]), (1, ⟨some (i1, 0), 1⟩, strs [⟨#[72, 97, 116]⟩])]) (L := (12, ⟨some (bs, 0), s.len⟩, rows offC xs) :: (T ++ L)) q4 (by omega) rfl (by decide) (by decide) (by simp [tgIn]) fun sl tags h7 htg7 o7 => ?_
        refine put 4 (.slice 1 sl) { x with tg := sl, tags := tags } (_ ++ T) _ (t' + 1 + 1 + 1 + 1) (by decide) rfl (htg7.mono fun p hp => List.mem_append_left _ hp) (fun y hy => (htg y hy).mono fun p hp => List.mem_append_right _ hp) (by omega) ?_
        rw [List.append_assoc]
        exact o7.perm (List.Perm.cons _ List.perm_middle)
      · exact pick_lit hI S0 o5 (by omega) [-1, 1001] (by simp) (by simp) fun v _ h6 o6 => put 9 (.int .i64 v) { x with order := v } T _ _ (by decide) rfl hxt htg (by omega) o6
    · intro jk hjk
      refine spec17 hI (o.toStrm S0 (t' := t') (by simp) (by omega)) (by decide) (by decide) fun b => ⟨b, rfl, ?_⟩
      have o3 := o.next (t' := t' + 1)
      refine ifT_intro (fun _ => hjk _ _ ⟨o3, fun h => ?_⟩) fun _ => hjk _ _ ⟨o3, fun h => by cases h⟩
      have := of_decide_eq_true h
      omega

/-- A basket that is drawn. -/
theorem spec32 (hI : Closed' prog Pm I) (S0 : Strm hb i l zs t0) {t : Nat} {L : List Ow} (o : Owns (hb.del i) h (owS i l t :: L)) (ht : t < 100000)
    (hQ : ∀ s' ship xs T t' h', Owns (hb.del i) h' (owS i l t' :: (4, s', rows itmC xs) :: (T ++ L)) → (∀ x ∈ xs, tgIn T x.tg x.tags) → xs.length ≤ 4 → t' ≤ t + 100 → Q [.agg [.slice 4 s', .int .i64 ship]] h') : I 32 [.one (.ptr (some (i, 0)))] Q h := by
  refine hI.go _ _ (den32 I (some (i, 0)) Q) ?_
  refine pick_lit hI S0 o (by omega) [0, 0, 495, 1000, 1000000000000] (by simp) (by simp) fun ship0 _ h1 o0 => ?_
  refine spec16 hI (o0.toStrm S0 (t' := t + 1) (by simp) (by omega)) (by decide) (by decide) fun n hn2 hn3 => ⟨n, rfl, ?_⟩
  have o1 := o0.next (t' := t + 1 + 1)
  refine loopK_intro (fun (a : (Sl × Int × PUnit) × Int) h' m => ∃ (j t' : Nat) (T : List Ow) (xs : List Itm), (j : Int) ≤ n ∧ a.2 = j ∧ 5 - j = m ∧ t' ≤ t + 2 + 6 * j ∧ xs.length = j ∧ (∀ x ∈ xs, tgIn T x.tg x.tags) ∧ Owns (hb.del i) h' (owS i l t' :: (4, a.1.1, rows itmC xs) :: (T ++ L))) 5
    ⟨0, t + 1 + 1, [], [], by omega, rfl, rfl, by omega, rfl, by simp, (o1.none_ 4).swp⟩ ?_
  rintro ⟨⟨s, ship, u⟩, y⟩ h' m ⟨j, t', T, xs, hj, rfl, rfl, ht', hxl, htg, o⟩
  dsimp only [uncur] at o ⊢
  have hal : s.len = xs.length := (o.at_ (s := s) (by simp)).rowsLen itmC_length (by decide)
  refine ifT_dec (fun hlt => ?_) (fun hge => ?_)
  · have hes := encode_size (IntKind.i32.wrap (IntKind.i64.wrap (97 + (j : Int))))
    refine ⟨by omega, pick_lit hI S0 o (by omega) [0, 1, 99, 300, 1000, 2001, 10000000] (by simp) (by simp) fun cents _ h2 o2 => pick_lit hI S0 o2 (by omega) [1, 1, 2, 3, 7, 100] (by simp) (by simp) fun many _ h3 o3 => ?_⟩
    refine newK_intro fun i1 g1 hn1 he1 => newK_intro fun i2 g2 hn2 he2 => newK_intro fun i3 g3 hn3 he3 => newK_intro fun i4 g4 hn4 he4 => newK_intro fun i5 g5 hn5 he5 => ?_
    subst he1 he2 he3 he4 he5
    have q1 := (o3.new (sz := 1) (n := 1) (cs := strs [⟨#[104, 97, 116]⟩]) hn1 rfl).swp
    have q2 := (q1.new (sz := 1) (n := 1) (cs := strs [⟨#[99, 97, 112]⟩]) hn2 rfl).swp
    have q3 := (q2.new (sz := 1) (n := 2) (cs := strs [⟨#[99, 97, 112]⟩, ⟨#[104, 97, 116]⟩]) hn3 rfl).swp
    have q4 := (q3.new (sz := 1) (n := 1) (cs := strs [⟨#[115, 104, 111, 101]⟩]) hn4 rfl).swp
    have q5 := (q4.new (sz := 1) (n := 5) (cs := slC [(⟨none, 0⟩, []), (⟨some (i1, 0), 1⟩, [⟨#[104, 97, 116]⟩]), (⟨some (i2, 0), 1⟩, [⟨#[99, 97, 112]⟩]), (⟨some (i3, 0), 2⟩, [⟨#[99, 97, 112]⟩, ⟨#[104, 97, 116]⟩]), (⟨some (i4, 0), 1⟩, [⟨#[115, 104, 111, 101]⟩])]) hn5 rfl).swp
    refine pick_tags hI S0 (T := [(1, ⟨some (i4, 0), 1⟩, strs [⟨#[115, 104, 111, 101]⟩]), (1, ⟨some (i3, 0), 2⟩, strs [⟨#[99, 97, 112]⟩, ⟨#[104, 97, 116]⟩]), (1, ⟨some (i2, 0), 1⟩, strs [⟨#[99, 97, 112]⟩]), (1, ⟨some (i1, 0), 1⟩, strs [⟨#[104, 97, 116]⟩])]) (L := (4, s, rows itmC xs) :: (T ++ L)) q5 (by omega) rfl (by decide) (by decide) (by simp [tgIn]) fun sl tags h7 htg7 o7 => ?_
    obtain ⟨T2, hT2⟩ : ∃ T2 : List Ow, T2 = [(1, ⟨some (i4, 0), 1⟩, strs [⟨#[115, 104, 111, 101]⟩]), (1, ⟨some (i3, 0), 2⟩, strs [⟨#[99, 97, 112]⟩, ⟨#[104, 97, 116]⟩]), (1, ⟨some (i2, 0), 1⟩, strs [⟨#[99, 97, 112]⟩]), (1, ⟨some (i1, 0), 1⟩, strs [⟨#[104, 97, 116]⟩])] := ⟨_, rfl⟩
    rw [← hT2] at htg7 o7
    have o8 : Owns (hb.del i) h7 (owS i l (t' + 1 + 1 + 1) :: (4, s, rows itmC xs) :: ((T2 ++ T) ++ L)) := by
      rw [List.append_assoc]
      exact o7.perm (List.Perm.cons _ List.perm_middle)
    refine appendTo_owns (m := 0) o8.swp (by rfl) (by omega) (by simp) fun bn h9 o9 => ⟨5 - (j + 1), by omega, j + 1, t' + 1 + 1 + 1, T2 ++ T, xs ++ [⟨(⟨#[105]⟩ : ByteArray) ++ Utf8.encode (IntKind.i32.wrap (IntKind.i64.wrap (97 + (j : Int)))), cents, many, sl, tags⟩], by omega, by rw [w64] <;> omega, rfl, by omega, by simp [hxl], fun y hy => ?_, ?_⟩
    · rcases List.mem_append.1 hy with hy | hy
      · exact (htg y hy).mono fun p hp => List.mem_append_right _ hp
      · have := List.mem_singleton.1 hy
        subst this
        exact htg7.mono fun p hp => List.mem_append_left _ hp
    · rw [rows_append]
      have := o9.swp
      simpa [rows, itmC] using this
  · have fin : ∀ (s' : Sl) (ship : Int) (ys : List Itm) (T' : List Ow) (t9 : Nat) (h9 : Heap), ys.length = xs.length → t9 ≤ t' + 10 → (∀ x ∈ ys, tgIn T' x.tg x.tags) → Owns (hb.del i) h9 (owS i l t9 :: (4, s', rows itmC ys) :: (T' ++ L)) → Q [.agg [.slice 4 s', .int .i64 ship]] h9 := fun s' ship ys T' t9 h9 hy ht9 hg o9 => hQ s' ship ys T' t9 h9 o9 hg (by omega) (by omega)
    refine spec17 hI (o.toStrm S0 (t' := t') (by simp) (by omega)) (by decide) (by decide) fun b => ⟨b, rfl, ?_⟩
    have o2 := o.next (t' := t' + 1)
    refine joinK_intro (fun p h' => ∃ t', t' ≤ t + 2 + 6 * j + 2 ∧ t' ≤ t + 40 ∧ p.1 = s ∧ Owns (hb.del i) h' (owS i l t' :: (4, s, rows itmC xs) :: (T ++ L))) ?_ fun jk hjk => ifT_intro (fun _ => pick_lit hI S0 o2 (by omega) [-1, 1000000000001, 0] (by simp) (by simp) fun v _ h3 o3 => hjk _ _ ⟨_, by omega, by omega, rfl, o3⟩) fun _ => hjk _ _ ⟨_, by omega, by omega, rfl, o2⟩
    clear o o2
    rintro ⟨s', ship, u⟩ h2 ⟨t', ht1, ht2, hs, o⟩
    obtain rfl : s' = s := hs
    dsimp only [uncur]
    have fin : ∀ (s' : Sl) (ship : Int) (ys : List Itm) (T' : List Ow) (t9 : Nat) (h9 : Heap), ys.length = xs.length → t9 ≤ t' + 10 → (∀ x ∈ ys, tgIn T' x.tg x.tags) → Owns (hb.del i) h9 (owS i l t9 :: (4, s', rows itmC ys) :: (T' ++ L)) → Q [.agg [.slice 4 s', .int .i64 ship]] h9 := fun s' ship ys T' t9 h9 hy ht9 hg o9 => hQ s' ship ys T' t9 h9 o9 hg (by omega) (by omega)
    refine joinK_intro (fun (b : Bool) h3 => Owns (hb.del i) h3 (owS i l (t' + 1) :: (4, s', rows itmC xs) :: (T ++ L)) ∧ (b = true → 0 < xs.length)) ?_ ?_
    · rintro b h3 ⟨o3, hbp⟩
      refine ifT_intro (fun hbt => ?_) fun _ => fin _ _ _ _ _ _ rfl (by omega) htg o3
      have hpos := hbp hbt
      refine spec16 hI (o3.toStrm S0 (t' := t' + 1) (by simp) (by omega)) (by omega) (by omega) fun e he0 he1 => ⟨e, rfl, ⟨he0, he1⟩, ?_⟩
      obtain ⟨e, rfl⟩ := Int.eq_ofNat_of_zero_le he0
      have o4 := o3.next (t' := t' + 1 + 1)
      have hrl := rows_length itmC_length xs
      obtain ⟨bs, hbs, hcs⟩ := o4.has (s := s') (cs := rows itmC xs) (sz := 4) (by simp) (fun h => by rw [h] at hrl; simp at hrl; omega)
      rw [hbs] at o4 ⊢
      refine derefK_intro rfl ?_
      refine spec16 hI (o4.toStrm S0 (t' := t' + 1 + 1) (by simp) (by omega)) (by decide) (by decide) fun c hc0 hc1 => ⟨c, rfl, ?_⟩
      have o5 := o4.next (t' := t' + 1 + 1 + 1)
      have hx := List.getElem?_eq_getElem (show e < xs.length by omega)
      generalize xs[e] = x at hx
      have hxt := htg x (List.mem_of_getElem? hx)
      have put : ∀ (j2 : Nat) (c2 : Cell) (x' : Itm) (T' : List Ow) (h9 : Heap) (t9 : Nat), j2 < 4 → (itmC x).set j2 c2 = itmC x' → tgIn T' x'.tg x'.tags → (∀ x ∈ xs, tgIn T' x.tg x.tags) → t9 ≤ t' + 6 → Owns (hb.del i) h9 (owS i l t9 :: (4, ⟨some (bs, 0), s'.len⟩, rows itmC xs) :: (T' ++ L)) →
          storeK [] bs (0 + ((e : Nat) : Int).toNat * 4 + j2) [c2] (Q [.agg [.slice 4 ⟨some (bs, 0), s'.len⟩, .int .i64 ship]]) h9 := fun j2 c2 x' T' h9 t9 hj2 hset hx' hg ht9 o9 =>
        store_row itmC_length o9.swp hx hj2 hset fun h10 o10 => fin _ _ (xs.set e x') T' t9 _ (by simp) (by omega) (fun y hy => by
          rcases List.mem_or_eq_of_mem_set hy with hy | rfl
          · exact hg y hy
          · exact hx') o10.swp
      refine ifT_dec (fun _ => ?_) fun _ => ifT_dec (fun _ => ?_) fun _ => ifT_dec (fun _ => ?_) fun _ => ?_
      · exact one_lit hI S0 o5 (by omega) [⟨#[]⟩, ⟨#[105, 97]⟩, ⟨#[73]⟩] (by simp) (by simp) fun v _ h6 o6 => put 0 (.str v) { x with key := v } T _ _ (by decide) rfl hxt htg (by omega) o6
      · exact pick_lit hI S0 o5 (by omega) [-1, 10000001] (by simp) (by simp) fun v _ h6 o6 => put 1 (.int .i64 v) { x with cents := v } T _ _ (by decide) rfl hxt htg (by omega) o6
      · exact pick_lit hI S0 o5 (by omega) [0, 101] (by simp) (by simp) fun v _ h6 o6 => put 2 (.int .i64 v) { x with many := v } T _ _ (by decide) rfl hxt htg (by omega) o6
      · refine newK_intro fun i1 g1 hn1 he1 => newK_intro fun i2 g2 hn2 he2 => newK_intro fun i3 g3 hn3 he3 => newK_intro fun i4 g4 hn4 he4 => ?_
        subst he1 he2 he3 he4
        have q1 := (o5.new (sz := 1) (n := 2) (cs := strs [⟨#[98]⟩, ⟨#[97]⟩]) hn1 rfl).swp
        have q2 := (q1.new (sz := 1) (n := 1) (cs := strs [⟨#[]⟩]) hn2 rfl).swp
        have q3 := (q2.new (sz := 1) (n := 2) (cs := strs [⟨#[120]⟩, ⟨#[120]⟩]) hn3 rfl).swp
        have q4 := (q3.new (sz := 1) (n := 3) (cs := slC [(⟨some (i1, 0), 2⟩, [⟨#[98]⟩, ⟨#[97]⟩]), (⟨some (i2, 0), 1⟩, [⟨#[]⟩]), (⟨some (i3, 0), 2⟩, [⟨#[120]⟩, ⟨#[120]⟩])]) hn4 rfl).swp
        refine pick_tags hI S0 (T := [(1, ⟨some (i3, 0), 2⟩, strs [⟨#[120]⟩, ⟨#[120]⟩]), (1, ⟨some (i2, 0), 1⟩, strs [⟨#[]⟩]), (1, ⟨some (i1, 0), 2⟩, strs [⟨#[98]⟩, ⟨#[97]⟩])]) (L := (4, ⟨some (bs, 0), s'.len⟩, rows itmC xs) :: (T ++ L)) q4 (by omega) rfl (by decide) (by decide) (by simp [tgIn]) fun sl tags h7 htg7 o7 => ?_
        refine put 3 (.slice 1 sl) { x with tg := sl, tags := tags } (_ ++ T) _ (t' + 1 + 1 + 1 + 1) (by decide) rfl (htg7.mono fun p hp => List.mem_append_left _ hp) (fun y hy => (htg y hy).mono fun p hp => List.mem_append_right _ hp) (by omega) ?_
        rw [List.append_assoc]
        exact o7.perm (List.Perm.cons _ List.perm_middle)
    · intro jk hjk
      refine spec17 hI (o.toStrm S0 (t' := t') (by simp) (by omega)) (by decide) (by decide) fun b => ⟨b, rfl, ?_⟩
      have o3 := o.next (t' := t' + 1)
      refine ifT_intro (fun _ => hjk _ _ ⟨o3, fun h => ?_⟩) fun _ => hjk _ _ ⟨o3, fun h => by cases h⟩
      have := of_decide_eq_true h
      omega
theorem spec33 (hI : Closed' prog Pm I) (S0 : Strm hb i l zs t0) {t : Nat} {L : List Ow} (o : Owns (hb.del i) h (owS i l t :: L)) (ht : t < 100000) (hQ : ∀ v h', Owns (hb.del i) h' (owS i l (t + 1) :: L) → Q [int v] h') : I 33 [.one (.ptr (some (i, 0)))] Q h := by
  refine hI.go _ _ (den33 I (some (i, 0)) Q) ?_
  exact pick_lit hI S0 o (by omega) [0, 0, 49, 50, 59, 60, 99, 100, 5000, -1, 4321440] (by simp) (by simp) fun v _ h6 o6 => hQ v _ o6
end
end Go.Proofs.YtfemminjhecocaaDoorVc
