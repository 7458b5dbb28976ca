/- PursesKept: the law's contract. -/
import Derived.Test.YtfemminjhecocaaDoorVcPkSpec
set_option linter.unusedSimpArgs false
set_option linter.unusedVariables false
namespace Go.Proofs.YtfemminjhecocaaDoorVc
open Go.Proofs.YtfemminjhecocaaDoorCodes
open Go.Proofs.Tryd (prog)

theorem Owns.pull {h0 h : Heap} {L : List Ow} {a : Ow} (pre : List Ow) (o : Owns h0 h (pre ++ a :: L)) : Owns h0 h (a :: (pre ++ L)) := o.perm List.perm_middle

theorem spec14 {I : Calls} {Q : Post} {h : Heap} (hI : Closed' prog Pm I) (hQ : Q [boo true] h) : I 14 [] Q h := by
  refine hI.go _ _ (den14 I Q) ?_
  have e : (ByteArray.mk #[49, 50, 51]) = code [1, 2, 3] := by decide
  show I 63 [str (ByteArray.mk #[49, 50, 51])] _ h
  rw [e]
  refine spec63 hI (by decide) (by decide) (by decide) fun x h1 h2 => ⟨_, _, rfl, ?_⟩
  have hx : x = 12 := seal_unique x h1 (by rw [wsum_snoc] at h2; simpa [wsum] using h2)
  subst hx
  refine ifT_intro (fun _ => ?_) (fun h => by simp at h)
  have e2 : decide (code ([1, 2, 3] ++ [12]) = ByteArray.mk #[49, 50, 51, 67]) = true := by decide
  rw [e2]
  exact hQ

/-- Both purses, the stream, the budgets. -/
abbrev twoP (i2 : Nat) (s : Sl) (t p : Nat) (sb sh : Sl) (q : Nat) (tb th l6 : Sl) (now : Int) (bs : List Bud) (hs : List Hld) : List Ow :=
  owS i2 s t :: owP p sb sh now :: (6, sh, rows hldC hs) :: owP q tb th now :: (6, th, rows hldC hs) :: (5, sb, rows budC bs) :: (5, tb, rows budC bs) :: (5, l6, rows budC bs) :: []
structure MidK (hs : List Hld) (now t : Int) (k : Nat) : Prop where
  okh : ∀ x ∈ hs, okH x
  le : now ≤ t
  t0 : 0 ≤ t
  t1 : t ≤ 1440 * k
  len : hs.length ≤ k
theorem MidK.turn {hs : List Hld} {now t w : Int} {k i : Nat} {x : Hld} {s : Int} (m : MidK hs now t k) (hw : w ≤ t) (hx : hs[i]? = some x) : MidK (hs.set i { x with state := s }) w t k :=
  ⟨fun y hy => by
    rcases List.mem_or_eq_of_mem_set hy with hy | rfl
    · exact m.okh y hy
    · exact m.okh x (List.mem_of_getElem? hx), hw, m.t0, m.t1, by simpa using m.len⟩
theorem errR_good {bs : List Bud} {hs : List Hld} {now c t u : Int} {key : ByteArray} (h : errR bs hs now key c t u = 0) : 1 ≤ c ∧ c ≤ 1000000000000 ∧ momentP t := by
  unfold errR at h
  split at h
  · cases h
  split at h
  · cases h
  rename_i h1
  exact ⟨by omega, by omega, by omega⟩
theorem pick_cts : ∀ v ∈ ([1, 50, 100, 400, 1000, 0, 1000000000001] : List Int), 0 ≤ v ∧ v ≤ 1000000000001 := by decide
theorem pick_lng : ∀ v ∈ ([1, 5, 60, 2000, 0] : List Int), 0 ≤ v ∧ v ≤ 2000 := by decide

section
variable {I : Calls} {h : Heap}
theorem spec14t (hI : Closed' prog Pm I) : I 14 [] (fun cs115 h116 => ∃ b117 : Bool, (cs115 = [V.one (Cell.bool b117)]) ∧ tru [V.one (Cell.bool b117)] h116) h := spec14 hI ⟨_, rfl, rfl⟩

/-- The law. -/
theorem spec3 (hI : Closed' prog Pm I) {s : Sl} {zs : List Int} (hs : At h 1 s (ints zs)) : I 3 [.one (.slice 1 s)] tru h := by
  refine hI.go _ _ (den3 I s tru) ?_
  refine newK_intro fun i2 h1 hn1 he1 => ?_
  have S0 : Strm h1 i2 s zs 0 := he1 ▸ Strm.make hs hn1
  refine spec6 hI S0 S0.owns (by decide) fun l6 bs t6 h6 o6 ht6 hbl => ⟨l6, rfl, ?_⟩
  refine spec7 hI (xs := bs) (o6.at_ (s := l6) (by simp)) (by omega) fun h8 x8 => ⟨_, rfl, ?_⟩
  have o8 := o6.mono x8
  refine spec8 hI (xs := bs) (o8.at_ (s := l6) (by simp)) (by omega) fun h9 x9 => ⟨_, rfl, ifT_intro (fun h => absurd rfl (nd h)) fun _ => ?_⟩
  have o9 := o8.mono x9
  refine joinK_intro (fun (_ : PUnit) h' => ∃ t', t' ≤ t6 + 1 ∧ Owns (h1.del i2) h' (owS i2 s t' :: (5, l6, rows budC bs) :: [])) ?_ ?_
  case refine_2 =>
    -- Paced
    intro j hj
    refine ifT_dec (fun hlt => ?_) fun _ => hj _ _ ⟨t6, by omega, o9⟩
    have hl6 : l6.len = bs.length := (o9.at_ (s := l6) (by simp)).rowsLen budC_length (by decide)
    obtain ⟨b, bs', rfl⟩ : ∃ b bs', bs = b :: bs' := by
      cases bs with
      | nil => simp at hl6; omega
      | cons b bs' => exact ⟨b, bs', rfl⟩
    refine newK_intro fun i4 h4 hn4 he4 => ?_
    have hne4 := o9.lit_ne hn4
    have o10 := o9.mono (he4 ▸ Ext.new hn4 : Ext _ h4)
    refine spec9 hI (xs := [0, 1440, 5000, 10080, 4321439, -1, 4321440]) (o10.toStrm S0 (t' := t6) (by simp) (by omega)) (lit_at hne4 he4 rfl) (by simp) (by simp) fun v _ => ⟨v, rfl, ⟨by decide, hlt⟩, ?_⟩
    have o11 := o10.next (t' := t6 + 1)
    have hat := o11.at_ (s := l6) (cs := rows budC (b :: bs')) (sz := 5) (by simp)
    refine hat.row (i := 0) budC_length (by decide) rfl fun bb oo hr => ⟨b.key, b.cents, b.first, b.last, b.pace, hr, ?_⟩
    refine spec10 hI fun h12 x12 => ⟨_, _, rfl, ⟨by decide, by decide, by omega⟩, ?_⟩
    have o12 := o11.mono x12
    have hat2 := o12.at_ (s := l6) (cs := rows budC (b :: bs')) (sz := 5) (by simp)
    have hsub : At h12 5 (l6.sub 5 0 1) (rows budC [b]) := by
      have := At.sub hat2 0 1 (by omega) (by omega)
      rw [Nat.zero_mul, List.drop_zero, Nat.sub_zero, rows_take budC_length] at this
      exact this
    refine spec7 hI (xs := [b]) hsub (by simp) fun h13 x13 => ⟨_, rfl, ?_⟩
    have o13 := o12.mono x13
    have hat3 := o13.at_ (s := l6) (cs := rows budC (b :: bs')) (sz := 5) (by simp)
    have done : ∀ h', h' = h13 → j () h' := fun h' hh => hj _ _ ⟨t6 + 1, by omega, hh ▸ o13⟩
    refine joinK_intro (fun (x : Bool) h' => h' = h13 ∧ (x = true ↔ errB [b] = 0 ∧ ¬ momentP v)) ?_ fun j2 hj2 => ifT_dec (fun he => spec11p hI ⟨_, rfl, hj2 _ _ ⟨rfl, by rw [Bool.not_eq_true', decide_eq_false_iff_not]; exact ⟨fun h => ⟨he, h⟩, fun h => h.2⟩⟩⟩) fun he => hj2 _ _ ⟨rfl, by simp [he]⟩
    rintro x h' ⟨rfl, hx⟩
    refine joinK_intro (fun (f : Int) h'' => h'' = h' ∧ f = (pacR b v).2) ?_ fun j3 hj3 => ifT_intro (fun hxt => hj3 _ _ ⟨rfl, ?_⟩) fun hxf => hj3 _ _ ⟨rfl, ?_⟩
    · rintro f h'' ⟨rfl, rfl⟩
      refine joinK_intro (fun (y : Bool) h3 => h3 = h'' ∧ y = false) ?_ fun j4 hj4 => ifT_intro (fun h => absurd rfl (nd h)) fun _ => ifT_dec (fun he0 => ⟨⟨by decide, hlt⟩, ?_⟩) fun _ => hj4 _ _ ⟨rfl, rfl⟩
      · rintro y h3 ⟨rfl, rfl⟩
        exact ifT_intro (fun h => by cases h) fun _ => done _ rfl
      · have h4 : errB [b] = 0 ∧ momentP v := by
          unfold pacR at he0
          split at he0
          · rename_i h5; exact absurd he0 h5
          · rename_i h5
            split at he0
            · cases he0
            · rename_i h6; exact ⟨Decidable.of_not_not h5, Decidable.of_not_not h6⟩
        refine hat3.row (i := 0) budC_length (by decide) rfl fun bb oo hr => ⟨b.key, b.cents, b.first, b.last, b.pace, hr, ?_⟩
        refine spec12 hI (errB_one h4.1) h4.2 ⟨_, rfl, hj4 _ _ ⟨rfl, ?_⟩⟩
        unfold pacR
        rw [if_neg (fun h => h h4.1), if_neg (fun h => h h4.2)]
        simp
    · obtain ⟨h5, h6⟩ := hx.1 hxt
      unfold pacR
      rw [if_neg (fun h => h h5), if_pos h6]
    · unfold pacR
      by_cases h5 : errB [b] = 0
      · have h6 : momentP v := Decidable.of_not_not fun h6 => by rw [hx.2 ⟨h5, h6⟩] at hxf; cases hxf
        rw [if_neg (fun h => h h5), if_neg (fun h => h h6)]; exact h5
      · rw [if_pos h5]
  rintro _ h10 ⟨t7, ht7, o10⟩
  refine spec13 hI o10 (xs := bs) (by simp) (by omega) (fun he h11 o11 => ⟨none, _, rfl, ifT_intro (fun _ => ?_) fun h => absurd (Decidable.of_not_not (nd' h)) he⟩) fun he p sb h11 o11 => ⟨_, _, rfl, ifT_intro (fun h => absurd he (nd h)) fun _ => ifT_intro (fun h => absurd rfl (nd h)) fun _ => ?_⟩
  · refine joinK_intro (fun (b : Bool) h' => b = true) (fun b h' hb => by subst hb; rfl) fun j hj => spec14 hI ⟨true, rfl, ifT_intro (fun _ => hj _ _ (by simp)) fun h => by cases h⟩
  have hbe : ∀ b ∈ bs, okB b := scanB_ok bs [] he
  refine spec15 hI o11 (xs := bs) (s := l6) (by simp) (by omega) fun q tb h12 o12 => ⟨_, rfl, ?_⟩
  have o13 : Owns (h1.del i2) h12 (twoP i2 s t7 p sb ⟨none, 0⟩ q tb ⟨none, 0⟩ l6 0 bs []) :=
    Owns.pull [_, _, _, _, _, _, _] (Owns.pull [_, _, _, _, _, _] (Owns.pull [_, _, _, _, _, _] (Owns.pull [_, _, _, _] (Owns.pull [_, _, _, _] (Owns.pull [_, _, _, _, _, _] (Owns.pull [_, _, _] (Owns.pull [_, _, _, _, _, _, _] o12)))))))
  refine spec16 hI (o13.toStrm S0 (t' := t7) (by simp) (by omega)) (by decide) (by decide) fun n hn0 hn1 => ⟨n, rfl, ?_⟩
  have o14 := o13.next (t' := t7 + 1)
  refine loopK_intro (fun (a : Int × Int) h' m => ∃ (k t' : Nat) (hs : List Hld) (sh th : Sl) (now : Int), (k : Int) ≤ n ∧ a.2 = k ∧ m = 14 - k ∧ t' ≤ t7 + 1 + 8 * k ∧ MidK hs now a.1 k ∧ Owns (h1.del i2) h' (twoP i2 s t' p sb sh q tb th l6 now bs hs)) 14
    ⟨0, t7 + 1, [], ⟨none, 0⟩, ⟨none, 0⟩, 0, by omega, rfl, rfl, by omega, ⟨by simp, by decide, by decide, by decide, by simp⟩, o14⟩ ?_
  rintro ⟨t, y⟩ h' m ⟨k, t', hds, sh, th, now, hkn, rfl, rfl, ht', mid, o⟩
  dsimp only [uncur]
  simp only at mid
  refine ifT_dec (fun hlt => ?_) fun hge => spec14t hI
  refine newK_intro fun i4 h4 hn4 he4 => ?_
  have hne4 := o.lit_ne hn4
  have o4 := o.mono (he4 ▸ Ext.new hn4 : Ext _ h4)
  refine spec9 hI (xs := [0, 0, 5, 60, 1440]) (o4.toStrm S0 (t' := t') (by simp) (by omega)) (lit_at hne4 he4 rfl) (by simp) (by simp) fun v hv => ⟨v, rfl, ?_⟩
  obtain ⟨hv0, hv1⟩ := pick_at v hv
  have o5 := o4.next (t' := t' + 1)
  have mid1 : MidK hds now (t + v) (k + 1) := by
    obtain ⟨m1, m2, m3, m4, m5⟩ := mid
    exact ⟨m1, by omega, by omega, by omega, by omega⟩
  have mid1' : t + v ≤ 1440 * (k + 1) ∧ 0 ≤ t + v := ⟨by have := mid1.t1; omega, mid1.t0⟩
  have ew : IntKind.i64.wrap (t + v) = t + v := by rw [w64] <;> omega
  have ew1 : IntKind.i64.wrap (t + v - 1) = t + v - 1 := by rw [w64] <;> omega
  have ek : IntKind.i64.wrap ((k : Int) + 1) = ((k + 1 : Nat) : Int) := by rw [w64] <;> omega
  rw [ew, ek, ew1]
  refine spec17 hI (o5.toStrm S0 (t' := t' + 1) (by simp) (by omega)) (by decide) (by decide) fun fl => ⟨fl, rfl, ?_⟩
  have o6 := o5.next (t' := t' + 1 + 1)
  refine joinK_intro (fun (w : Int) h9 => ∃ t9, t9 ≤ t' + 3 ∧ (momentP w → w ≤ t + v) ∧ -10 ≤ w ∧ w ≤ 4321440 ∧ Owns (h1.del i2) h9 (twoP i2 s t9 p sb sh q tb th l6 now bs hds)) ?_ ?_
  case refine_2 =>
    intro j hj
    refine ifT_intro (fun _ => ?_) fun _ => hj _ _ ⟨t' + 1 + 1, by omega, fun _ => Int.le_refl _, by omega, by omega, o6⟩
    refine newK_intro fun i7 h7 hn7 he7 => ?_
    have hne7 := o6.lit_ne hn7
    have o7 := o6.mono (he7 ▸ Ext.new hn7 : Ext _ h7)
    refine spec9 hI (xs := [-1, 4321440, t + v - 1]) (o7.toStrm S0 (t' := t' + 1 + 1) (by simp) (by omega)) (lit_at hne7 he7 rfl) (by simp) (by simp) fun w hw => ⟨w, rfl, ?_⟩
    have o8 := o7.next (t' := t' + 1 + 1 + 1)
    simp only [List.mem_cons, List.not_mem_nil, or_false] at hw
    refine hj _ _ ⟨t' + 1 + 1 + 1, by omega, fun hm => ?_, by omega, by omega, o8⟩
    unfold momentP at hm
    omega
  rintro w h9 ⟨t9, ht9, hwt, hw0, hw1, o9⟩
  refine newK_intro fun i10 h10 hn10 he10 => ?_
  have hne10 := o9.lit_ne hn10
  have o10 := o9.mono (he10 ▸ Ext.new hn10 : Ext _ h10)
  refine hI.go _ _ (den18 I (some (i2, 0)) _ _) ?_
  refine spec53 hI (xs := [⟨#[109, 97, 121]⟩, ⟨#[106, 117, 110, 101]⟩, ⟨#[97, 108, 108]⟩, ⟨#[97, 108, 108]⟩, ⟨#[120]⟩]) (o10.toStrm S0 (t' := t9) (by simp) (by omega)) (lit_atC hne10 he10 rfl) (by simp) (by simp) fun key _ => ⟨_, rfl, key, rfl, ?_⟩
  have o11 := o10.next (t' := t9 + 1)
  refine spec19 hI (o11.toStrm S0 (t' := t9 + 1) (by simp) (by omega)) (by decide) (by decide) (by decide) fun no _ _ => ⟨no, rfl, ?_⟩
  have o12 := o11.next (t' := t9 + 1 + 1)
  refine spec16 hI (o12.toStrm S0 (t' := t9 + 1 + 1) (by simp) (by omega)) (by decide) (by decide) fun c _ _ => ⟨c, rfl, ?_⟩
  have o13 := o12.next (t' := t9 + 1 + 1 + 1)
  generalize h10.set i2 (strm s (t9 + 1)) = hA at *
  generalize hA.set i2 (strm s (t9 + 1 + 1)) = hB at *
  generalize hB.set i2 (strm s (t9 + 1 + 1 + 1)) = hC at *
  refine joinK_intro (fun (_ : Bool) h' => h' = hC) ?_ fun j hj => ifT_dec (fun _ => hj _ _ rfl) fun _ => joinK_intro (fun (_ : Bool) h' => h' = hC) (fun b h' hh => hj _ _ hh) fun j2 hj2 => ifT_dec (fun _ => hj2 _ _ rfl) fun _ => hj2 _ _ rfl
  rintro isR h14 rfl
  refine joinK_intro (fun (a : Int × Int × Int × Int) h' => a.1 = a.2.1 ∧ a.2.2.1 = a.2.2.2 ∧ ∃ (t' : Nat) (hs : List Hld) (sh th : Sl) (now : Int), t' ≤ t9 + 5 ∧ MidK hs now (t + v) (k + 1) ∧ Owns (h1.del i2) h' (twoP i2 s t' p sb sh q tb th l6 now bs hs)) ?_ ?_
  · rintro ⟨a, b, f, g⟩ h15 ⟨hab, hfg, t15, hs15, sh15, th15, now15, ht15, mid15, o15⟩
    simp only at hab hfg
    dsimp only [uncur]
    refine ifT_intro (fun h => absurd hfg (nd h)) fun _ => ifT_intro (fun h => absurd hab (nd h)) fun _ => ?_
    have hlen : hs15.length ≤ 2000 := by have := mid15.len; omega
    refine spec29 hI o15 (p := p) (sb := sb) (sh := sh15) (now := now15) (hs := hs15) (by simp) (by simp) hlen fun l66 h16 o16 => ⟨l66, rfl, ?_⟩
    refine spec30 hI o16 (p := q) (sb := tb) (sh := th15) (now := now15) (hs := hs15) (by simp) (by simp) hlen fun l69 h17 o17 => ⟨l69, rfl, ?_⟩
    refine spec28 hI (xs := hs15.map fun x => { x with state := stateAt x now15 }) (o17.at_ (by simp)) (o17.at_ (by simp)) (by simp; omega) ⟨_, rfl, ifT_intro (fun h => by cases h) fun _ => ?_⟩
    exact ⟨14 - (k + 1), by omega, k + 1, t15, hs15, sh15, th15, now15, by omega, rfl, rfl, by omega, mid15, o17.tail.tail⟩
  intro j hj
  have hlen : hds.length ≤ 1000 := by have := mid1.len; have := mid.len; omega
  have hlen' : hds.length ≤ k := mid.len
  refine ifT_intro (fun _ => ?_) fun _ => ?_
  · -- reserve
    refine newK_intro fun i9 h15 hn9 he9 => ?_
    have hne9 := o13.lit_ne hn9
    have o15 := o13.mono (he9 ▸ Ext.new hn9 : Ext _ h15)
    refine spec9 hI (xs := [1, 50, 100, 400, 1000, 0, 1000000000001]) (o15.toStrm S0 (t' := t9 + 1 + 1 + 1) (by simp) (by omega)) (lit_at hne9 he9 rfl) (by simp) (by simp) fun cents hcs => ⟨cents, rfl, ?_⟩
    obtain ⟨c1, c2⟩ := pick_cts cents hcs
    have o16 := o15.next (t' := t9 + 1 + 1 + 1 + 1)
    refine newK_intro fun i11 h17 hn11 he11 => ?_
    have hne11 := o16.lit_ne hn11
    have o17 := o16.mono (he11 ▸ Ext.new hn11 : Ext _ h17)
    refine spec9 hI (xs := [1, 5, 60, 2000, 0]) (o17.toStrm S0 (t' := t9 + 1 + 1 + 1 + 1) (by simp) (by omega)) (lit_at hne11 he11 rfl) (by simp) (by simp) fun long hlg => ⟨long, rfl, ?_⟩
    obtain ⟨c3, c4⟩ := pick_lng long hlg
    have o18 := o17.next (t' := t9 + 1 + 1 + 1 + 1 + 1)
    refine spec20 hI (bs := bs) o18.rot (by simp) (by omega) hbe mid.okh (by omega) (fun he1 h19 o19 => ⟨_, _, rfl, ?_⟩) fun he1 sh2 h19 o19 => ⟨_, _, rfl, ?_⟩
    · refine spec21 hI (bs := bs) o19.rot'.rot2 (by simp) (by omega) hbe mid.okh (by omega) hlen (fun he2 h20 o20 => ⟨_, _, rfl, hj _ _ ⟨rfl, rfl, _, hds, sh, th, now, by omega, mid1, o20.rot2'⟩⟩) fun he2 => absurd he2 he1
    · refine spec21 hI (bs := bs) (p := q) (sb := tb) (sh := th) (now := now) (hs := hds) o19.rot'.rot2 (by simp) (by omega) hbe mid.okh (by omega) hlen (fun he2 => absurd he1 he2) fun he2 sh3 h20 o20 => ⟨_, _, rfl, hj _ _ ⟨rfl, rfl, _, _, sh2, sh3, w, by omega, ?_, o20.rot2'⟩⟩
      obtain ⟨g1, g2, g3⟩ := errR_good he1
      exact ⟨fun x hx => by
        rcases List.mem_append.1 hx with hx | hx
        · exact mid.okh x hx
        · have : x = ⟨(hds.length : Int) + 1, key, cents, w, IntKind.i64.wrap (w + long), 1⟩ := by simpa using hx
          subst this; exact ⟨g1, g2⟩, hwt g3, mid1.t0, mid1.t1, by simp; omega⟩
  · refine joinK_intro (fun (a : Int × Int × Int × Int) h' => a.1 = a.2.1 ∧ a.2.2.1 = a.2.2.2 ∧ ∃ (t' : Nat) (hs : List Hld) (sh th : Sl) (now : Int), t' ≤ t9 + 5 ∧ MidK hs now (t + v) (k + 1) ∧ Owns (h1.del i2) h' (twoP i2 s t' p sb sh q tb th l6 now bs hs)) (fun a h' hh => hj _ _ hh) fun j2 hj2 => ifT_dec (fun _ => ?_) fun _ => ?_
    · -- commit
      refine spec22 hI o13.rot (by omega) (fun he1 => ⟨_, rfl, ?_⟩) fun he1 hle hmt x hx h15 o15 => ⟨_, rfl, ?_⟩
      · refine spec23 hI o13.rot2 (by omega) (fun he2 h16 o16 => ⟨_, rfl, hj2 _ _ ⟨rfl, rfl, _, hds, sh, th, now, by omega, mid1, o16.rot2'⟩⟩) fun he2 => absurd he2 he1
      · refine spec23 hI (p := q) (sb := tb) (sh := th) (now := now) (hs := hds) o15.rot'.rot2 (by omega) (fun he2 => absurd he1 he2) fun he2 x' hx' h16 o16 => ⟨_, rfl, ?_⟩
        rw [hx] at hx'; cases hx'
        exact hj2 _ _ ⟨rfl, rfl, _, _, sh, th, w, by omega, mid1.turn (hwt hmt) hx, o16.rot2'⟩
    · refine joinK_intro (fun (a : Int × Int × Int × Int) h' => a.1 = a.2.1 ∧ a.2.2.1 = a.2.2.2 ∧ ∃ (t' : Nat) (hs : List Hld) (sh th : Sl) (now : Int), t' ≤ t9 + 5 ∧ MidK hs now (t + v) (k + 1) ∧ Owns (h1.del i2) h' (twoP i2 s t' p sb sh q tb th l6 now bs hs)) (fun a h' hh => hj2 _ _ hh) fun j3 hj3 => ifT_dec (fun _ => ?_) fun _ => ?_
      · -- release
        refine spec24 hI o13.rot (by omega) (fun he1 => ⟨_, rfl, ?_⟩) fun he1 hle hmt x hx h15 o15 => ⟨_, rfl, ?_⟩
        · refine spec25 hI o13.rot2 (by omega) (fun he2 h16 o16 => ⟨_, rfl, hj3 _ _ ⟨rfl, rfl, _, hds, sh, th, now, by omega, mid1, o16.rot2'⟩⟩) fun he2 => absurd he2 he1
        · refine spec25 hI (p := q) (sb := tb) (sh := th) (now := now) (hs := hds) o15.rot'.rot2 (by omega) (fun he2 => absurd he1 he2) fun he2 x' hx' h16 o16 => ⟨_, rfl, ?_⟩
          rw [hx] at hx'; cases hx'
          exact hj3 _ _ ⟨rfl, rfl, _, _, sh, th, w, by omega, mid1.turn (hwt hmt) hx, o16.rot2'⟩
      · -- left
        refine spec26 hI (bs := bs) (hs := hds) (o13.block (i := p) (n := 1) (sz := 3) (cs := [.slice 5 sb, .slice 6 sh, .int .i64 now]) (by simp)).1 (o13.at_ (by simp)) (o13.at_ (by simp)) (by omega) hbe mid.okh (by omega) fun h15 x15 => ⟨_, _, rfl, ?_⟩
        have o15 := o13.mono x15
        refine spec27 hI (bs := bs) (hs := hds) (o15.block (i := q) (n := 1) (sz := 3) (cs := [.slice 5 tb, .slice 6 th, .int .i64 now]) (by simp)).1 (o15.at_ (by simp)) (o15.at_ (by simp)) (by omega) hbe mid.okh (by omega) fun h16 x16 => ⟨_, _, rfl, hj3 _ _ ⟨rfl, rfl, _, hds, sh, th, now, by omega, mid1, o15.mono x16⟩⟩
end
end Go.Proofs.YtfemminjhecocaaDoorVc
