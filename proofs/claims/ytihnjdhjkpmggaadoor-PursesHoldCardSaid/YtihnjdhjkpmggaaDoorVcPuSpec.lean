/- Contracts of what PursesHold reaches: what is drawn, and the law. -/
import Derived.Test.YtihnjdhjkpmggaaDoorVcPuSpec2
set_option linter.unusedSimpArgs false
set_option linter.unusedVariables false
namespace Go.Proofs.YtihnjdhjkpmggaaDoorVc
open Go.Proofs.Tryd (prog)

theorem strs_length (l : List ByteArray) : (strs l).length = l.length := by simp [strs]
theorem strs_get {xs : List ByteArray} {i : Nat} {x : ByteArray} (h : xs[i]? = some x) : (strs xs)[i]? = some (.str x) := by unfold strs; rw [List.getElem?_map, h]; rfl

/-! ### open and committed -/
def opn (key : ByteArray) (x : Hld) : Int := if x.key = key then if x.state = 1 then x.cents else 0 else 0
def cmt (key : ByteArray) (x : Hld) : Int := if x.key = key then if x.state = 2 then x.cents else 0 else 0
theorem opn_cmt {key : ByteArray} {now : Int} : ∀ {hs : List Hld}, (∀ x ∈ hs, okH x) → ((hs.map fun x : Hld => { x with state := stateAt x now }).map (opn key)).sum + ((hs.map fun x : Hld => { x with state := stateAt x now }).map (cmt key)).sum = taken key now hs ∧
    0 ≤ ((hs.map fun x : Hld => { x with state := stateAt x now }).map (opn key)).sum ∧ 0 ≤ ((hs.map fun x : Hld => { x with state := stateAt x now }).map (cmt key)).sum
  | [], _ => by simp [taken]
  | x :: hs, h => by
    obtain ⟨h1, h2, h3⟩ := opn_cmt (key := key) (now := now) (hs := hs) fun y hy => h y (by simp [hy])
    have h4 : opn key { x with state := stateAt x now } + cmt key { x with state := stateAt x now } = one key now x ∧ 0 ≤ opn key { x with state := stateAt x now } ∧ 0 ≤ cmt key { x with state := stateAt x now } := by
      obtain ⟨h5, _⟩ := h x (by simp)
      unfold opn cmt one
      simp only
      generalize stateAt x now = s
      repeat' split
      all_goals omega
    unfold taken at h1 ⊢
    simp only [List.map_cons, List.sum_cons]
    omega
theorem part_bound {key : ByteArray} {f : Hld → Int} (hf : ∀ x, okH x → 0 ≤ f x ∧ f x ≤ 1000000000000) : ∀ {ys : List Hld}, (∀ x ∈ ys, okH x) → 0 ≤ (ys.map f).sum ∧ (ys.map f).sum ≤ ys.length * 1000000000000
  | [], _ => by simp
  | x :: ys, h => by
    have h1 := hf x (h x (by simp))
    have h2 := part_bound (key := key) hf (ys := ys) fun y hy => h y (by simp [hy])
    rw [List.map_cons, List.sum_cons, List.length_cons]
    omega
theorem opn_ge (key : ByteArray) : ∀ x, okH x → 0 ≤ opn key x ∧ opn key x ≤ 1000000000000 := fun x ⟨h1, h2⟩ => by
  unfold opn
  repeat' split
  all_goals omega
theorem cmt_ge (key : ByteArray) : ∀ x, okH x → 0 ≤ cmt key x ∧ cmt key x ≤ 1000000000000 := fun x ⟨h1, h2⟩ => by
  unfold cmt
  repeat' split
  all_goals omega

section
variable {I : Calls} {Q : Post} {h : Heap}

theorem spec35 (hI : Closed' prog Pm I) {i : Nat} {l : Sl} {zs : List Int} {t : Nat} {a b : Int} (S : Strm h i l zs t) (h1 : a ≤ b) (h2 : -1000000000 < a) (h3 : b < 1000000000)
    (hQ : ∀ v, a ≤ v → v ≤ b → Q [int v] (h.set i (strm l (t + 1)))) : I 35 [.one (.ptr (some (i, 0))), int a, int b] Q h := by
  refine hI.go _ _ (den35 I _ a b Q) ?_
  refine ifT_dec (fun h => by omega) fun _ => ?_
  have ew : IntKind.i64.wrap (IntKind.i64.wrap (b - a) + 1) = b - a + 1 := by rw [w64 (n := b - a) (by omega) (by omega), w64 (by omega) (by omega)]
  rw [ew]
  refine spec12 hI S (by omega) (by omega) fun v h4 h5 => ⟨v, rfl, ?_⟩
  rw [w64 (by omega) (by omega)]
  exact hQ _ (by omega) (by omega)

section
variable {hb : Heap} {i : Nat} {l : Sl} {zs : List Int} {t0 : Nat}

theorem spec30 (hI : Closed' prog Pm I) (S0 : Strm hb i l zs t0) {t : Nat} {L : List Ow} (o : Owns (hb.del i) h (owS i l t :: L)) (ht : t < 1000)
    (hQ : ∀ s' xs t' h', Owns (hb.del i) h' (owS i l t' :: (5, s', rows budC xs) :: L) → t' ≤ t + 100 → xs.length ≤ 3 → Q [.one (.slice 5 s')] h') : I 30 [.one (.ptr (some (i, 0)))] Q h := by
  refine hI.go _ _ (den30 I (some (i, 0)) Q) ?_
  refine newK_intro fun i2 h2 hn2 he2 => ?_
  subst he2
  have o2 := (o.new (sz := 1) (n := 3) (cs := strs [⟨#[109, 97, 121]⟩, ⟨#[106, 117, 110, 101]⟩, ⟨#[97, 108, 108]⟩]) hn2 rfl).swp
  refine loopK_intro (fun (a : Sl × Int) h' m => ∃ j t' : Nat, j ≤ 3 ∧ a.2 = j ∧ 3 - j = m ∧ t' ≤ t + 5 * j ∧ ∃ xs : List Bud, xs.length ≤ j ∧ Owns (hb.del i) h' (owS i l t' :: (5, a.1, rows budC xs) :: (1, ⟨some (i2, 0), 3⟩, strs [⟨#[109, 97, 121]⟩, ⟨#[106, 117, 110, 101]⟩, ⟨#[97, 108, 108]⟩]) :: L)) 3
    ⟨0, t, by omega, rfl, rfl, by omega, [], by simp, (o2.none_ 5).swp⟩ ?_
  rintro ⟨s, y⟩ h' m ⟨j, t', hj, rfl, rfl, ht', xs, hxl, o⟩
  dsimp only [uncur] at o ⊢
  have hal : s.len = xs.length := (o.at_ (s := s) (by simp)).rowsLen budC_length (by decide)
  refine ifT_dec (fun hlt => ⟨⟨by omega, by omega⟩, ?_⟩) (fun hge => ?_)
  · have hlt : j < 3 := by have : (j : Int) < 3 := hlt
                           omega
    obtain ⟨k, hk⟩ : ∃ k, ([⟨#[109, 97, 121]⟩, ⟨#[106, 117, 110, 101]⟩, ⟨#[97, 108, 108]⟩] : List ByteArray)[j]? = some k := ⟨_, List.getElem?_eq_getElem hlt⟩
    refine ⟨k, ?_, ?_⟩
    · rw [Int.toNat_natCast, Nat.mul_one, Nat.zero_add]
      exact read_cell (o.block (sz := 1) (i := i2) (n := 3) (by simp)).1 (strs_get hk)
    have ew : IntKind.i64.wrap ((j : Int) + 1) = ((j + 1 : Nat) : Int) := by rw [w64] <;> omega
    rw [ew]
    refine spec41 hI (o.toStrm S0 (t' := t') (by simp) (by omega)) (by decide) (by decide) fun b => ⟨b, rfl, ?_⟩
    have o3 := o.next (t' := t' + 1)
    refine ifT_intro (fun _ => ⟨3 - (j + 1), by omega, j + 1, t' + 1, by omega, rfl, rfl, by omega, xs, by omega, o3⟩) fun _ => ?_
    refine newK_intro fun i4 h4 hn4 he4 => ?_
    have hne4 := o3.lit_ne hn4
    have o4 := o3.mono (he4 ▸ Ext.new hn4 : Ext _ h4)
    refine spec13 hI (xs := [0, 0, 1, 5]) (o4.toStrm S0 (t' := t' + 1) (by simp) (by omega)) (lit_at hne4 he4 rfl) (by simp) (by simp) fun f _ => ⟨f, rfl, ?_⟩
    have o5 := o4.next (t' := t' + 1 + 1)
    refine newK_intro fun i6 h6 hn6 he6 => ?_
    have hne6 := o5.lit_ne hn6
    have o6 := o5.mono (he6 ▸ Ext.new hn6 : Ext _ h6)
    refine spec13 hI (xs := [0, 100, 1000, 1001, 1000000000000]) (o6.toStrm S0 (t' := t' + 1 + 1) (by simp) (by omega)) (lit_at hne6 he6 rfl) (by simp) (by simp) fun c _ => ⟨c, rfl, ?_⟩
    have o7 := o6.next (t' := t' + 1 + 1 + 1)
    refine newK_intro fun i8 h8 hn8 he8 => ?_
    have hne8 := o7.lit_ne hn8
    have o8 := o7.mono (he8 ▸ Ext.new hn8 : Ext _ h8)
    refine spec13 hI (xs := [0, 2, 9, 2000]) (o8.toStrm S0 (t' := t' + 1 + 1 + 1) (by simp) (by omega)) (lit_at hne8 he8 rfl) (by simp) (by simp) fun g _ => ⟨g, rfl, ?_⟩
    have o9 := o8.next (t' := t' + 1 + 1 + 1 + 1)
    refine spec41 hI (o9.toStrm S0 (t' := t' + 1 + 1 + 1 + 1) (by simp) (by omega)) (by decide) (by decide) fun b => ⟨b, rfl, ?_⟩
    have o10 := o9.next (t' := t' + 1 + 1 + 1 + 1 + 1)
    refine appendTo_owns (m := 0) o10.swp (by rfl) (by omega) (by simp) fun bn h11 o11 => ⟨3 - (j + 1), by omega, j + 1, t' + 1 + 1 + 1 + 1 + 1, by omega, rfl, rfl, by omega, xs ++ [⟨k, c, f, IntKind.i64.wrap (f + g), b⟩], by simp; omega, ?_⟩
    have := o11.swp
    rw [rows_append]
    simpa [rows, budC] using this
  · -- one cell of one budget is turned, or none
    have fin0 : ∀ (s' : Sl) (ys : List Bud) (t9 : Nat) (h9 : Heap), ys.length ≤ 3 → t9 ≤ t + 100 → Owns (hb.del i) h9 (owS i l t9 :: (5, s', rows budC ys) :: (1, ⟨some (i2, 0), 3⟩, strs [⟨#[109, 97, 121]⟩, ⟨#[106, 117, 110, 101]⟩, ⟨#[97, 108, 108]⟩]) :: L) → Q [.one (.slice 5 s')] h9 := fun s' ys t9 h9 hy h9' o9 => hQ s' ys t9 h9 (o9.rot'.tail) h9' hy
    refine joinK_intro (fun (b : Bool) h3 => Owns (hb.del i) h3 (owS i l (t' + 1) :: (5, s, rows budC xs) :: (1, ⟨some (i2, 0), 3⟩, strs [⟨#[109, 97, 121]⟩, ⟨#[106, 117, 110, 101]⟩, ⟨#[97, 108, 108]⟩]) :: L) ∧ (b = true → 0 < xs.length)) ?_ ?_
    · rintro b h3 ⟨o3, hbp⟩
      refine ifT_intro (fun hbt => ?_) fun _ => fin0 _ _ _ _ (by omega) (by omega) o3
      have hpos := hbp hbt
      have S3 := o3.toStrm S0 (t' := t' + 1) (by simp) (by omega)
      refine spec12 hI S3 (by omega) (by omega) fun e he0 he1 => ⟨e, rfl, ⟨he0, he1⟩, ?_⟩
      obtain ⟨e, rfl⟩ := Int.eq_ofNat_of_zero_le he0
      have o4 := o3.next (t' := t' + 1 + 1)
      have hrl := rows_length budC_length xs
      obtain ⟨bs, hbs, hcs⟩ := o4.has (s := s) (cs := rows budC xs) (sz := 5) (by simp) (fun h => by rw [h] at hrl; simp at hrl; omega)
      rw [hbs] at o4 ⊢
      refine derefK_intro rfl ?_
      refine spec12 hI (o4.toStrm S0 (t' := t' + 1 + 1) (by simp) (by omega)) (by decide) (by decide) fun c hc0 hc1 => ⟨c, rfl, ?_⟩
      have o5 := o4.next (t' := t' + 1 + 1 + 1)
      have hx := List.getElem?_eq_getElem (show e < xs.length by omega)
      generalize xs[e] = x at hx
      have fin : ∀ (j2 : Nat) (c2 : Cell) (x' : Bud) (h9 : Heap) (t9 : Nat), j2 < 5 → (budC x).set j2 c2 = budC x' → t9 ≤ t' + 5 → Owns (hb.del i) h9 (owS i l t9 :: (5, ⟨some (bs, 0), s.len⟩, rows budC xs) :: (1, ⟨some (i2, 0), 3⟩, strs [⟨#[109, 97, 121]⟩, ⟨#[106, 117, 110, 101]⟩, ⟨#[97, 108, 108]⟩]) :: L) → storeK [] bs (0 + ((e : Nat) : Int).toNat * 5 + j2) [c2] (Q [.one (.slice 5 ⟨some (bs, 0), s.len⟩)]) h9 := by
        intro j2 c2 x' h9 t9 hj2 hset ht9 o9
        have o10 := o9.swp
        rw [Int.toNat_natCast, Nat.zero_add]
        refine storeK_one (o10.block List.mem_cons_self).1 (by rw [hrl]; omega) ?_
        rw [rows_set budC_length hx hj2 hset]
        have o11 := (o10.change (n' := s.len) (sz' := 5) (cs' := rows budC (xs.set e x')) (by rw [rows_length budC_length]; simp; omega)).swp
        exact fin0 _ _ _ _ (by simp; omega) (by omega) o11
      refine ifT_dec (fun h1 => ?_) fun h1 => ifT_dec (fun h2 => ?_) fun h2 => ifT_dec (fun h3 => ?_) fun h3 => ?_
      · refine newK_intro fun i6 h6 hn6 he6 => ?_
        have hne6 := o5.lit_ne hn6
        have o6 := o5.mono (he6 ▸ Ext.new hn6 : Ext _ h6)
        refine spec42 hI (xs := [⟨#[]⟩, ⟨#[109, 97, 121]⟩, ⟨#[77, 97, 121]⟩]) (o6.toStrm S0 (t' := t' + 1 + 1 + 1) (by simp) (by omega)) (lit_atC hne6 he6 rfl) (by simp) (by simp) fun v _ => ⟨v, rfl, ?_⟩
        exact fin 0 (.str v) { x with key := v } _ (t' + 1 + 1 + 1 + 1) (by decide) rfl (by omega) o6.next
      · refine newK_intro fun i6 h6 hn6 he6 => ?_
        have hne6 := o5.lit_ne hn6
        have o6 := o5.mono (he6 ▸ Ext.new hn6 : Ext _ h6)
        refine spec13 hI (xs := [-1, 1000000000001]) (o6.toStrm S0 (t' := t' + 1 + 1 + 1) (by simp) (by omega)) (lit_at hne6 he6 rfl) (by simp) (by simp) fun v _ => ⟨v, rfl, ?_⟩
        exact fin 1 (.int .i64 v) { x with cents := v } _ (t' + 1 + 1 + 1 + 1) (by decide) rfl (by omega) o6.next
      · refine ⟨x.last, ?_, newK_intro fun i6 h6 hn6 he6 => ?_⟩
        · rw [Int.toNat_natCast, Nat.zero_add]
          exact read_cell (o5.block (sz := 5) (i := bs) (n := s.len) (by simp)).1 (rows_cell budC_length hx rfl)
        have hne6 := o5.lit_ne hn6
        have o6 := o5.mono (he6 ▸ Ext.new hn6 : Ext _ h6)
        refine spec13 hI (xs := [-1, IntKind.i64.wrap (x.last + 1)]) (o6.toStrm S0 (t' := t' + 1 + 1 + 1) (by simp) (by omega)) (lit_at hne6 he6 rfl) (by simp) (by simp) fun v _ => ⟨v, rfl, ?_⟩
        exact fin 2 (.int .i64 v) { x with first := v } _ (t' + 1 + 1 + 1 + 1) (by decide) rfl (by omega) o6.next
      · refine newK_intro fun i6 h6 hn6 he6 => ?_
        have hne6 := o5.lit_ne hn6
        have o6 := o5.mono (he6 ▸ Ext.new hn6 : Ext _ h6)
        refine spec13 hI (xs := [3000, 3001]) (o6.toStrm S0 (t' := t' + 1 + 1 + 1) (by simp) (by omega)) (lit_at hne6 he6 rfl) (by simp) (by simp) fun v _ => ⟨v, rfl, ?_⟩
        exact fin 3 (.int .i64 v) { x with last := v } _ (t' + 1 + 1 + 1 + 1) (by decide) rfl (by omega) o6.next
    · intro jk hjk
      refine spec41 hI (o.toStrm S0 (t' := t') (by simp) (by omega)) (by decide) (by decide) fun b => ⟨b, rfl, ?_⟩
      have o3 := o.next (t' := t' + 1)
      refine ifT_intro (fun _ => hjk _ _ ⟨o3, fun h => ?_⟩) fun _ => hjk _ _ ⟨o3, fun h => by cases h⟩
      have := of_decide_eq_true h
      omega
end

/-- What is known of the purse between the rounds. -/
structure Mid (bs : List Bud) (hs : List Hld) (now t : Int) (k : Nat) : Prop where
  r : Right bs hs now
  le : now ≤ t
  t0 : 0 ≤ t
  t1 : t ≤ 1440 * k
  len : hs.length ≤ k
theorem pick_at : ∀ v ∈ ([0, 0, 5, 60, 1440] : List Int), 0 ≤ v ∧ v ≤ 1440 := by decide
theorem pick_cents : ∀ v ∈ ([1, 50, 100, 400] : List Int), 1 ≤ v ∧ v ≤ 400 := by decide
theorem pick_long : ∀ v ∈ ([1, 5, 60, 2000] : List Int), 1 ≤ v ∧ v ≤ 2000 := by decide

/-- What the law looks at, of one budget. -/
theorem law_look (hI : Closed' prog Pm I) {h0 : Heap} {p : Nat} {sb sh : Sl} {now t : Int} {bs : List Bud} {hs : List Hld} {L : List Ow} {b : Bud} {k : Nat} {J : Heap → Prop}
    (o : Owns h0 h L) (hp : owP p sb sh now ∈ L) (hh : (6, sh, rows hldC hs) ∈ L) (h5 : (5, sb, rows budC bs) ∈ L) (hbl : bs.length ≤ 3) (hm : Mid bs hs now t k) (hk : k ≤ 20) (hb : b ∈ bs)
    (hQ : ∀ h', Owns h0 h' L → J h') :
    I 38 [.one (.ptr (some (p, 0)))] (fun cs50 h51 => ∃ l52 : Sl, (cs50 = [V.one (Cell.slice 6 l52)]) ∧
      (loopK (A := Int × Int × Int) ((0, 0, 0))
        (fun x53 => uncur fun n54 => uncur fun n55 n56 => ifT (decide (n56 < (↑l52.len : Int)))
          (fun h57 => ((0 ≤ n56) ∧ n56 < (↑l52.len : Int)) ∧
            (derefK l52.a (fun i58 i59 h60 => ∃ n61 : Int, ∃ s62 : ByteArray, ∃ n63 : Int, ∃ n64 : Int, ∃ n65 : Int, ∃ n66 : Int, (h60.read i58 (i59 + n56.toNat * 6) 6 = some [Cell.int IntKind.i64 n61, Cell.str s62, Cell.int IntKind.i64 n63, Cell.int IntKind.i64 n64, Cell.int IntKind.i64 n65, Cell.int IntKind.i64 n66]) ∧
              (joinK (A := Bool)
                (fun b67 => joinK (A := Int)
                  (fun n68 => ifT (decide (s62 = b.key))
                    (ifT (decide (n66 = 1)) (x53 ((IntKind.i64.wrap (n54 + n63), n68, IntKind.i64.wrap (n56 + 1)))) (x53 ((n54, n68, IntKind.i64.wrap (n56 + 1)))))
                    (x53 ((n54, n68, IntKind.i64.wrap (n56 + 1)))))
                  (fun x69 => ifT b67 (x69 (IntKind.i64.wrap (n55 + n63))) (x69 n55)))
                (fun x70 => ifT (decide (s62 = b.key)) (x70 (decide (n66 = 2))) (x70 false))) h60)) h57)
          (fun h71 => I 39 [V.one (Cell.ptr (some (p, 0))), V.one (Cell.str b.key), V.one (Cell.int IntKind.i64 t)]
            (fun cs72 h73 => ∃ n74 : Int, ∃ n75 : Int, (cs72 = [V.one (Cell.int IntKind.i64 n74), V.one (Cell.int IntKind.i64 n75)]) ∧
              (ifT (decide (n55 > b.cents)) (Q [V.one (Cell.bool false)])
                (ifT (decide (IntKind.i64.wrap (n54 + n55) > b.cents)) (Q [V.one (Cell.bool false)])
                  (ifT (!decide (n75 = 0)) (Q [V.one (Cell.bool false)])
                    (ifT (decide (n74 < 0)) (Q [V.one (Cell.bool false)]) J)))) h73) h71))) h51) h := by
  obtain ⟨r, h1, h2, h3, h4⟩ := hm
  refine spec38 hI o hp hh (by omega) fun l7 h6 o6 => ⟨l7, rfl, ?_⟩
  have hy : ∀ x ∈ hs.map (fun x : Hld => { x with state := stateAt x now }), okH x := fun x hx => by
    obtain ⟨y, hy, rfl⟩ := List.mem_map.1 hx
    exact r.okh y hy
  obtain ⟨e1, e2, e3⟩ := opn_cmt (key := b.key) (now := now) r.okh
  have hinv := r.inv b hb
  have hyl : (hs.map (fun x : Hld => { x with state := stateAt x now })).length = hs.length := by simp
  generalize hs.map (fun x : Hld => { x with state := stateAt x now }) = ys at *
  have a6 := o6.at_ List.mem_cons_self
  have hl7 : l7.len = ys.length := a6.rowsLen hldC_length (by decide)
  refine loopK_intro (fun (a : Int × Int × Int) h' m => h' = h6 ∧ ∃ i : Nat, i ≤ ys.length ∧ a = (((ys.take i).map (opn b.key)).sum, ((ys.take i).map (cmt b.key)).sum, (i : Int)) ∧ ys.length - i = m) ys.length ⟨rfl, 0, by omega, rfl, rfl⟩ ?_
  rintro a h' m ⟨rfl, i, hi, rfl, rfl⟩
  dsimp only [uncur]
  refine ifT_dec (fun hlt => ⟨⟨by omega, hlt⟩, ?_⟩) fun hge => ?_
  · have hx := List.getElem?_eq_getElem (show i < ys.length by omega)
    have hxm : ys[i] ∈ ys := List.getElem_mem _
    generalize ys[i] = x at hx hxm
    obtain ⟨hx1, hx2⟩ := hy x hxm
    have s1 := sum_take_step (f := opn b.key) hx
    have s2 := sum_take_step (f := cmt b.key) hx
    have b1 := part_bound (key := b.key) (opn_ge b.key) (ys := ys.take i) fun z hz => hy z (List.mem_of_mem_take hz)
    have b2 := part_bound (key := b.key) (cmt_ge b.key) (ys := ys.take i) fun z hz => hy z (List.mem_of_mem_take hz)
    rw [List.length_take] at b1 b2
    have hmin : min i ys.length = i := by omega
    rw [hmin] at b1 b2
    have ew : IntKind.i64.wrap ((i : Int) + 1) = ((i + 1 : Nat) : Int) := by rw [w64] <;> omega
    have w1 : IntKind.i64.wrap (((ys.take i).map (opn b.key)).sum + x.cents) = ((ys.take i).map (opn b.key)).sum + x.cents := by rw [w64] <;> omega
    have w2 : IntKind.i64.wrap (((ys.take i).map (cmt b.key)).sum + x.cents) = ((ys.take i).map (cmt b.key)).sum + x.cents := by rw [w64] <;> omega
    rw [ew]
    refine a6.row hldC_length (by decide) hx fun bb oo hr => ⟨x.no, x.key, x.cents, x.at_, x.until_, x.state, hr, ?_⟩
    rw [w1, w2]
    refine joinK_intro (fun (c : Bool) h'' => h'' = h' ∧ (c = true ↔ x.key = b.key ∧ x.state = 2)) ?_ fun j hj => ifT_dec (fun h5 => hj _ _ ⟨rfl, by simp [h5]⟩) fun h5 => hj _ _ ⟨rfl, by simp [h5]⟩
    rintro c h'' ⟨rfl, hc⟩
    refine joinK_intro (fun (n : Int) h1 => h1 = h'' ∧ n = ((ys.take (i + 1)).map (cmt b.key)).sum) ?_ fun j hj => ifT_intro (fun h5 => hj _ _ ⟨rfl, ?_⟩) fun h5 => hj _ _ ⟨rfl, ?_⟩
    · rintro n h1 ⟨rfl, rfl⟩
      unfold opn at s1
      have go : ∀ v : Int, v = ((ys.take (i + 1)).map (opn b.key)).sum → ∃ m', m' < ys.length - i ∧ h1 = h1 ∧ ∃ j : Nat, j ≤ ys.length ∧ (v, ((ys.take (i + 1)).map (cmt b.key)).sum, ((i + 1 : Nat) : Int)) = (((ys.take j).map (opn b.key)).sum, ((ys.take j).map (cmt b.key)).sum, (j : Int)) ∧ ys.length - j = m' := fun v hv => ⟨ys.length - (i + 1), by omega, rfl, i + 1, by omega, by rw [hv], rfl⟩
      refine ifT_dec (fun h5 => ifT_dec (fun h6 => ?_) fun h6 => ?_) fun h5 => ?_
      · rw [if_pos h5, if_pos h6] at s1; exact go _ s1.symm
      · rw [if_pos h5, if_neg h6] at s1; exact go _ (by unfold opn; omega)
      · rw [if_neg h5] at s1; exact go _ (by unfold opn; omega)
    · obtain ⟨h6, h7⟩ := hc.1 h5
      have : cmt b.key x = x.cents := by unfold cmt; rw [if_pos h6, if_pos h7]
      omega
    · have : cmt b.key x = 0 := by
        unfold cmt
        by_cases h6 : x.key = b.key
        · rw [if_pos h6]
          by_cases h7 : x.state = 2
          · rw [hc.2 ⟨h6, h7⟩] at h5; cases h5
          · rw [if_neg h7]
        · rw [if_neg h6]
      omega
  · have : i = ys.length := by omega
    subst this
    rw [List.take_length]
    have hb2 := (r.okb b hb).2.1
    obtain ⟨c, hc⟩ := findB_some hb
    have hmt : momentP t := by unfold momentP; omega
    refine spec39 hI (o6.block (List.mem_cons_of_mem _ hp)).1 (o6.at_ (List.mem_cons_of_mem _ h5)) (o6.at_ (List.mem_cons_of_mem _ hh)) (by omega) r.okb r.okh (by omega) fun h73 x73 => ⟨_, _, rfl, ?_⟩
    have eL : leftF bs hs now b.key t = (max (paced c t - taken b.key t hs) 0, 0) := by
      unfold leftF; rw [hc]; simp only; rw [if_neg (fun h => h hmt), if_neg (by omega)]
    rw [eL]
    rw [w64 (by omega) (by omega)]
    refine ifT_dec (fun h => by omega) fun _ => ifT_dec (fun h => by omega) fun _ => ifT_intro (fun h => by simp at h) fun _ => ifT_dec (fun h => ?_) fun _ => hQ _ (o6.mono x73).tail
    exfalso
    simp only at h
    omega

theorem spec32t (hI : Closed' prog Pm I) : I 32 [] (fun cs115 h116 => ∃ b117 : Bool, (cs115 = [V.one (Cell.bool b117)]) ∧ tru [V.one (Cell.bool b117)] h116) h := spec32 hI ⟨_, rfl, rfl⟩

/-- The law. -/
theorem spec5 (hI : Closed' prog Pm I) {s : Sl} {zs : List Int} (hs : At h 1 s (ints zs)) : I 5 [.one (.slice 1 s)] tru h := by
  refine hI.go _ _ (den5 I s tru) ?_
  refine newK_intro fun i2 h1 hn1 he1 => ?_
  have S0 : Strm h1 i2 s zs 0 := he1 ▸ Strm.make hs hn1
  refine spec30 hI S0 S0.owns (by decide) fun l6 bs t6 h6 o6 ht6 hbl => ⟨l6, rfl, ?_⟩
  refine spec31 hI o6 (xs := bs) (by simp) (by omega) (fun he h7 o7 => ⟨none, _, rfl, ifT_intro (fun _ => ?_) fun h => absurd (Decidable.of_not_not (nd' h)) he⟩) fun he p sb h7 o7 => ⟨_, _, rfl, ifT_intro (fun h => absurd rfl (nd h)) fun _ => ?_⟩
  · refine joinK_intro (fun (b : Bool) h' => b = true) (fun b h' hb => by subst hb; rfl) fun j hj => spec32 hI ⟨true, rfl, ifT_intro (fun _ => ?_) fun h => by cases h⟩
    exact spec33 hI (xs := bs) (o7.at_ (s := l6) (by simp)) (by omega) fun h8 x8 => ⟨_, rfl, hj _ _ (by simp [he])⟩
  have o8 : Owns (h1.del i2) h7 (owS i2 s t6 :: owP p sb ⟨none, 0⟩ 0 :: (6, ⟨none, 0⟩, rows hldC []) :: (5, sb, rows budC bs) :: (5, l6, rows budC bs) :: []) := by
    refine o7.perm ?_
    exact (List.Perm.cons _ (List.Perm.cons _ (List.Perm.swap _ _ _))).trans ((List.Perm.cons _ (List.Perm.swap _ _ _)).trans (List.Perm.swap _ _ _))
  refine spec12 hI (o8.toStrm S0 (t' := t6) (by simp) (by omega)) (by decide) (by decide) fun n hn0 hn1 => ⟨n, rfl, ?_⟩
  have o9 := o8.next (t' := t6 + 1)
  refine loopK_intro (fun (a : Int × Int) h' m => ∃ (k t' : Nat) (hs : List Hld) (sh : Sl) (now : Int), (k : Int) ≤ n ∧ a.2 = k ∧ m = 20 - k ∧ t' ≤ t6 + 1 + 6 * k ∧ Mid bs hs now a.1 k ∧ Owns (h1.del i2) h' (owS i2 s t' :: owP p sb sh now :: (6, sh, rows hldC hs) :: (5, sb, rows budC bs) :: (5, l6, rows budC bs) :: [])) 20
    ⟨0, t6 + 1, [], ⟨none, 0⟩, 0, by omega, rfl, rfl, by omega, ⟨Right.start he, by decide, by decide, by decide, by simp⟩, o9⟩ ?_
  rintro ⟨t, y⟩ h' m ⟨k, t', hds, sh, now, hkn, rfl, rfl, ht', mid, o⟩
  dsimp only [uncur]
  simp only at mid
  refine ifT_dec (fun hlt => ?_) fun hge => spec32t hI
  refine newK_intro fun i4 h4 hn4 he4 => ?_
  have hne4 := o.lit_ne hn4
  have o4 := o.mono (he4 ▸ Ext.new hn4 : Ext _ h4)
  refine spec13 hI (xs := [0, 0, 5, 60, 1440]) (o4.toStrm S0 (t' := t') (by simp) (by omega)) (lit_at hne4 he4 rfl) (by simp) (by simp) fun v hv => ⟨v, rfl, ?_⟩
  obtain ⟨hv0, hv1⟩ := pick_at v hv
  have o5 := o4.next (t' := t' + 1)
  refine spec12 hI (o5.toStrm S0 (t' := t' + 1) (by simp) (by omega)) (by decide) (by decide) fun c hc0 hc1 => ⟨c, rfl, ?_⟩
  have o6 := o5.next (t' := t' + 1 + 1)
  obtain ⟨m1, m2, m3, m4, m5⟩ := mid
  have ew : IntKind.i64.wrap (t + v) = t + v := by rw [w64] <;> omega
  have ek : IntKind.i64.wrap ((k : Int) + 1) = ((k + 1 : Nat) : Int) := by rw [w64] <;> omega
  rw [ew, ek]
  have hmt : momentP (t + v) := by unfold momentP; omega
  -- after the round's call
  refine joinK_intro (fun (_ : PUnit) h9 => ∃ (t9 : Nat) (hs9 : List Hld) (sh9 : Sl) (now9 : Int), t9 ≤ t' + 6 ∧ Mid bs hs9 now9 (t + v) (k + 1) ∧ Owns (h1.del i2) h9 (owS i2 s t9 :: owP p sb sh9 now9 :: (6, sh9, rows hldC hs9) :: (5, sb, rows budC bs) :: (5, l6, rows budC bs) :: [])) ?_ ?_
  · rintro _ h9 ⟨t9, hs9, sh9, now9, ht9, mid9, o9⟩
    have hl6 : l6.len = bs.length := (o9.at_ (s := l6) (by simp)).rowsLen budC_length (by decide)
    refine loopK_intro (fun (a : Int) h' m => ∃ j : Nat, j ≤ bs.length ∧ a = j ∧ bs.length - j = m ∧ Owns (h1.del i2) h' (owS i2 s t9 :: owP p sb sh9 now9 :: (6, sh9, rows hldC hs9) :: (5, sb, rows budC bs) :: (5, l6, rows budC bs) :: [])) bs.length ⟨0, by omega, rfl, rfl, o9⟩ ?_
    rintro a h10 m ⟨j, hj, rfl, rfl, o10⟩
    refine ifT_dec (fun hlt2 => ⟨⟨by omega, hlt2⟩, ?_⟩) fun hge2 => ?_
    · have hx := List.getElem?_eq_getElem (show j < bs.length by omega)
      have hxm : bs[j] ∈ bs := List.getElem_mem _
      generalize bs[j] = b at hx hxm
      refine (o10.at_ (s := l6) (cs := rows budC bs) (sz := 5) (by simp)).row budC_length (by decide) hx fun bb oo hr => ⟨b.key, b.cents, b.first, b.last, b.pace, hr, ?_⟩
      refine law_look hI o10 (p := p) (sb := sb) (sh := sh9) (now := now9) (bs := bs) (hs := hs9) (k := k + 1) (by simp) (by simp) (by simp) hbl mid9 (by omega) hxm fun h11 o11 => ⟨bs.length - (j + 1), by omega, j + 1, by omega, by rw [w64] <;> omega, rfl, o11⟩
    · exact ⟨20 - (k + 1), by omega, k + 1, t9, hs9, sh9, now9, by omega, rfl, rfl, by omega, mid9, o10⟩
  intro jk hjk
  refine ifT_dec (fun hc => ?_) fun hc => ?_
  · -- commit
    refine spec35 hI (o6.toStrm S0 (t' := t' + 1 + 1) (by simp) (by omega)) (by decide) (by decide) (by decide) fun no _ _ => ⟨no, rfl, ?_⟩
    have o7 := o6.next (t' := t' + 1 + 1 + 1)
    refine hI.go _ _ (den34 I _ no (t + v) _) ?_
    refine spec69 hI (may := fun n => decide (n = 1)) o7.rot (by omega) (fun n Q' h' hq => spec70 hI hq) (fun _ => ⟨_, rfl, _, rfl, hjk _ _ ⟨t' + 1 + 1 + 1, hds, sh, now, by omega, ⟨m1, by omega, by omega, by omega, by omega⟩, o7⟩⟩) fun _ hle _ x hx hmay h8 o8 => ⟨_, rfl, _, rfl, hjk _ _ ⟨t' + 1 + 1 + 1, _, sh, t + v, by omega, ⟨m1.turn hle hx (.inr ⟨rfl, by simpa using hmay⟩), by omega, by omega, by omega, by simp; omega⟩, o8.rot'⟩⟩
  · refine joinK_intro (fun (_ : PUnit) h9 => ∃ (t9 : Nat) (hs9 : List Hld) (sh9 : Sl) (now9 : Int), t9 ≤ t' + 6 ∧ Mid bs hs9 now9 (t + v) (k + 1) ∧ Owns (h1.del i2) h9 (owS i2 s t9 :: owP p sb sh9 now9 :: (6, sh9, rows hldC hs9) :: (5, sb, rows budC bs) :: (5, l6, rows budC bs) :: [])) (fun u h9 hh => hjk _ _ hh) fun j2 hj2 => ifT_dec (fun hc2 => ?_) fun hc2 => ?_
    · -- release
      refine spec35 hI (o6.toStrm S0 (t' := t' + 1 + 1) (by simp) (by omega)) (by decide) (by decide) (by decide) fun no _ _ => ⟨no, rfl, ?_⟩
      have o7 := o6.next (t' := t' + 1 + 1 + 1)
      refine hI.go _ _ (den36 I _ no (t + v) _) ?_
      refine spec69 hI (may := fun n => decide (n = 1 ∨ n = 2)) o7.rot (by omega) (fun n Q' h' hq => spec71 hI hq) (fun _ => ⟨_, rfl, _, rfl, hj2 _ _ ⟨t' + 1 + 1 + 1, hds, sh, now, by omega, ⟨m1, by omega, by omega, by omega, by omega⟩, o7⟩⟩) fun _ hle _ x hx hmay h8 o8 => ⟨_, rfl, _, rfl, hj2 _ _ ⟨t' + 1 + 1 + 1, _, sh, t + v, by omega, ⟨m1.turn hle hx (.inl rfl), by omega, by omega, by omega, by simp; omega⟩, o8.rot'⟩⟩
    · -- reserve
      refine newK_intro fun i7 h7 hn7 he7 => ?_
      have hne7 := o6.lit_ne hn7
      have o7 := o6.mono (he7 ▸ Ext.new hn7 : Ext _ h7)
      refine hI.go _ _ (den23 I (some (i2, 0)) _ _) ?_
      refine spec42 hI (xs := [⟨#[109, 97, 121]⟩, ⟨#[106, 117, 110, 101]⟩, ⟨#[97, 108, 108]⟩]) (o7.toStrm S0 (t' := t' + 1 + 1) (by simp) (by omega)) (lit_atC hne7 he7 rfl) (by simp) (by simp) fun key _ => ⟨_, rfl, key, rfl, ?_⟩
      have o8 := o7.next (t' := t' + 1 + 1 + 1)
      refine newK_intro fun i9 h9 hn9 he9 => ?_
      have hne9 := o8.lit_ne hn9
      have o9 := o8.mono (he9 ▸ Ext.new hn9 : Ext _ h9)
      refine spec13 hI (xs := [1, 50, 100, 400]) (o9.toStrm S0 (t' := t' + 1 + 1 + 1) (by simp) (by omega)) (lit_at hne9 he9 rfl) (by simp) (by simp) fun cents hcs => ⟨cents, rfl, ?_⟩
      obtain ⟨c1, c2⟩ := pick_cents cents hcs
      have o10 := o9.next (t' := t' + 1 + 1 + 1 + 1)
      refine newK_intro fun i11 h11 hn11 he11 => ?_
      have hne11 := o10.lit_ne hn11
      have o11 := o10.mono (he11 ▸ Ext.new hn11 : Ext _ h11)
      refine spec13 hI (xs := [1, 5, 60, 2000]) (o11.toStrm S0 (t' := t' + 1 + 1 + 1 + 1) (by simp) (by omega)) (lit_at hne11 he11 rfl) (by simp) (by simp) fun long _ => ⟨long, rfl, ?_⟩
      have o12 := o11.next (t' := t' + 1 + 1 + 1 + 1 + 1)
      have hmem : (5, sb, rows budC bs) ∈ (5, sb, rows budC bs) :: (5, l6, rows budC bs) :: owS i2 s (t' + 1 + 1 + 1 + 1 + 1) :: [] := by simp
      have o13 : Owns (h1.del i2) (h11.set i2 (strm s (t' + 1 + 1 + 1 + 1 + 1))) (owP p sb sh now :: (6, sh, rows hldC hds) :: owS i2 s (t' + 1 + 1 + 1 + 1 + 1) :: (5, sb, rows budC bs) :: (5, l6, rows budC bs) :: []) := o12.rot
      refine spec37 hI (bs := bs) o13 (by simp) (by omega) m1.okb m1.okh (by omega) (fun _ h14 o14 => ⟨_, _, rfl, hj2 _ _ ⟨t' + 1 + 1 + 1 + 1 + 1, hds, sh, now, by omega, ⟨m1, by omega, by omega, by omega, by omega⟩, o14.rot'⟩⟩) fun hz sh2 h14 o14 => ⟨_, _, rfl, hj2 _ _ ⟨t' + 1 + 1 + 1 + 1 + 1, _, sh2, t + v, by omega, ⟨?_, by omega, by omega, by omega, by simp; omega⟩, o14.rot'⟩⟩
      unfold errR at hz
      split at hz
      · cases hz
      rename_i b hf
      split at hz
      · cases hz
      split at hz
      · cases hz
      split at hz
      · cases hz
      rename_i hno
      obtain ⟨hbm, hbk⟩ := findB_mem hf
      exact m1.reserve (by omega) hbm hbk ⟨by simpa using c1, by simp; omega⟩ (by simp only; omega)
end
end Go.Proofs.YtihnjdhjkpmggaaDoorVc
