/- Contracts of what ArmsDrawn reaches: what is drawn, and the law. -/
import Derived.Test.YtihnjdhjkpmggaaDoorVcArSpec2
set_option linter.unusedSimpArgs false
set_option linter.unusedVariables false
namespace Go.Proofs.YtihnjdhjkpmggaaDoorVc
open Go.Proofs.Tryd (prog)

section
variable {I : Calls} {Q : Post} {h : Heap}

theorem spec35 (hI : Closed' prog Pm I) {i : Nat} {l : Sl} {zs : List Int} {t : Nat} {a b : Int} (S : Strm h i l zs t) (h1 : a ≤ b) (h2 : -1000000000 < a) (h3 : b < 1000000000)
    (hQ : ∀ v, a ≤ v → v ≤ b → Q [int v] (h.set i (strm l (t + 1)))) : I 35 [.one (.ptr (some (i, 0))), int a, int b] Q h := by
  refine hI.go _ _ (den35 I _ a b Q) ?_
  refine ifT_dec (fun h => by omega) fun _ => ?_
  have ew : IntKind.i64.wrap (IntKind.i64.wrap (b - a) + 1) = b - a + 1 := by rw [w64 (n := b - a) (by omega) (by omega), w64 (by omega) (by omega)]
  rw [ew]
  refine spec12 hI S (by omega) (by omega) fun v h4 h5 => ⟨v, rfl, ?_⟩
  rw [w64 (by omega) (by omega)]
  exact hQ _ (by omega) (by omega)

section
variable {hb : Heap} {i : Nat} {l : Sl} {zs : List Int} {t0 : Nat}

theorem spec19 (hI : Closed' prog Pm I) (S0 : Strm hb i l zs t0) {t : Nat} {L : List Ow} (o : Owns (hb.del i) h (owS i l t :: L)) (ht : t < 1000)
    (hQ : ∀ name s' hold ws t' h', Owns (hb.del i) h' (owS i l t' :: (1, s', ints ws) :: L) → t' ≤ t + 100 → ws.length ≤ 30 → Q [splitV name s' hold] h') : I 19 [.one (.ptr (some (i, 0)))] Q h := by
  refine hI.go _ _ (den19 I (some (i, 0)) Q) ?_
  refine newK_intro fun i2 h2 hn2 he2 => ?_
  have hne2 := o.lit_ne hn2
  have o2 := o.mono (he2 ▸ Ext.new hn2 : Ext _ h2)
  refine spec40 hI S0 o2 (by omega) (xs := [⟨#[116, 101, 115, 116]⟩, ⟨#[99, 111, 108, 111, 114]⟩]) (fun ob => lit_atC hne2 he2 rfl) (by simp) (by simp) fun name t3 h3 ht3 o3 => ⟨name, rfl, newK_intro fun i4 h4 hn4 he4 => ?_⟩
  have hne4 := o3.lit_ne hn4
  have o4 := o3.mono (he4 ▸ Ext.new hn4 : Ext _ h4)
  refine spec13 hI (xs := [0, 0, 1, 10]) (o4.toStrm S0 (t' := t3) (by simp) (by omega)) (lit_at hne4 he4 rfl) (by simp) (by simp) fun hold _ => ⟨hold, rfl, ?_⟩
  have o5 := o4.next (t' := t3 + 1)
  refine spec35 hI (o5.toStrm S0 (t' := t3 + 1) (by simp) (by omega)) (by decide) (by decide) (by decide) fun n hn0 hn1 => ⟨n, rfl, ?_⟩
  have o6 := o5.next (t' := t3 + 1 + 1)
  refine loopK_intro (fun (a : (ByteArray × Sl × Int × PUnit) × Int) h' m => ∃ j : Nat, (j : Int) ≤ n ∧ a.2 = j ∧ 10 - j = m ∧ ∃ ws : List Int, ws.length = j ∧ Owns (hb.del i) h' (owS i l (t3 + 1 + 1 + j) :: (1, a.1.2.1, ints ws) :: L)) 10
    ⟨0, by omega, rfl, rfl, [], rfl, (o6.none_ 1).perm (List.Perm.swap _ _ _)⟩ ?_
  rintro ⟨⟨s16, s, n18, u⟩, y⟩ h' m ⟨j, hj, rfl, rfl, ws, hwl, o⟩
  dsimp only [uncur] at o ⊢
  have hsl : s.len = ws.length := by have := o.slen (s := s) (cs := ints ws) (by simp); rwa [ints_length] at this
  refine ifT_dec (fun hlt => ?_) fun hge => ?_
  · refine newK_intro fun i7 h7 hn7 he7 => ?_
    have hne7 := o.lit_ne hn7
    have o7 := o.mono (he7 ▸ Ext.new hn7 : Ext _ h7)
    refine spec13 hI (xs := [0, 1, 1, 5, 1000]) (o7.toStrm S0 (t' := t3 + 1 + 1 + j) (by simp) (by omega)) (lit_at hne7 he7 rfl) (by simp) (by simp) fun v _ => ⟨v, rfl, ?_⟩
    have o8 := o7.next (t' := t3 + 1 + 1 + j + 1)
    refine appendTo_owns (m := 0) (o8.perm (List.Perm.swap _ _ _)) (by rfl) (by omega) (by simp) fun b h9 o9 => ⟨10 - (j + 1), by omega, j + 1, by omega, ?_, rfl, ws ++ [v], by simp [hwl], ?_⟩
    · show IntKind.i64.wrap ((j : Int) + 1) = _
      rw [w64] <;> omega
    · have := o9.perm (List.Perm.swap _ _ _)
      rw [show t3 + 1 + 1 + (j + 1) = t3 + 1 + 1 + j + 1 from rfl]
      simpa [ints] using this
  · refine spec41 hI (o.toStrm S0 (t' := t3 + 1 + 1 + j) (by simp) (by omega)) (by decide) (by decide) fun b => ⟨b, rfl, ?_⟩
    have o7 := o.next (t' := t3 + 1 + 1 + j + 1)
    refine joinK_intro (fun (a : ByteArray × Sl × Int × PUnit) h' => ∃ (vs : List Int) (t' : Nat), vs.length ≤ 11 ∧ t' ≤ t3 + 1 + 1 + j + 2 ∧ Owns (hb.del i) h' (owS i l t' :: (1, a.2.1, ints vs) :: L)) ?_ ?_
    · rintro ⟨s33, s2, n35, u2⟩ h8 ⟨vs, t8, hvl, ht8, o8⟩
      dsimp only [uncur] at o8 ⊢
      have hsl2 : s2.len = vs.length := by have := o8.slen (s := s2) (cs := ints vs) (by simp); rwa [ints_length] at this
      refine spec41 hI (o8.toStrm S0 (t' := t8) (by simp) (by omega)) (by decide) (by decide) fun b => ⟨b, rfl, ?_⟩
      have o9 := o8.next (t' := t8 + 1)
      refine ifT_intro (fun _ => ⟨by decide, by decide, by decide, ?_⟩) fun _ => hQ _ _ _ _ _ _ o9 (by omega) (by omega)
      have ez : slCells (VK.one (Kd.int IntKind.i64)) 10 = ints (List.replicate 10 0) := by rw [slCells_one]; rfl
      rw [ez]
      refine appendTo_owns (m := 9) (o9.perm (List.Perm.swap _ _ _)) (by rfl) (by omega) (by simp) fun b h10 o10 => ?_
      have := o10.perm (List.Perm.swap _ _ _)
      have e : ints vs ++ ints (List.replicate 10 0) = ints (vs ++ List.replicate 10 0) := by simp [ints]
      rw [e] at this
      exact hQ _ _ _ _ _ _ this (by omega) (by simp; omega)
    · intro jk hjk
      refine ifT_intro (fun _ => newK_intro fun i8 h8 hn8 he8 => ?_) fun _ => hjk _ _ ⟨ws, _, by omega, by omega, o7⟩
      have hne8 := o7.lit_ne hn8
      have o8 := o7.mono (he8 ▸ Ext.new hn8 : Ext _ h8)
      refine spec13 hI (xs := [-1, 1001]) (o8.toStrm S0 (t' := t3 + 1 + 1 + j + 1) (by simp) (by omega)) (lit_at hne8 he8 rfl) (by simp) (by simp) fun v _ => ⟨v, rfl, ?_⟩
      have o9 := o8.next (t' := t3 + 1 + 1 + j + 1 + 1)
      refine appendTo_owns (m := 0) (o9.perm (List.Perm.swap _ _ _)) (by rfl) (by omega) (by simp) fun b h9 o10 => hjk _ _ ⟨ws ++ [v], t3 + 1 + 1 + j + 1 + 1, by simp; omega, by omega, ?_⟩
      have := o10.perm (List.Perm.swap _ _ _)
      simpa [ints] using this

theorem spec20 (hI : Closed' prog Pm I) (S0 : Strm hb i l zs t0) {t : Nat} {L : List Ow} (o : Owns (hb.del i) h (owS i l t :: L)) (ht : t < 10000)
    (hQ : ∀ s' ks t' h', Owns (hb.del i) h' (owS i l t' :: (1, s', strs ks) :: L) → t' ≤ t + 100 → ks.length ≤ 30 → Q [.one (.slice 1 s')] h') : I 20 [.one (.ptr (some (i, 0)))] Q h := by
  refine hI.go _ _ (den20 I (some (i, 0)) Q) ?_
  refine spec12 hI (o.toStrm S0 (t' := t) (by simp) (by omega)) (by decide) (by decide) fun n hn0 hn1 => ⟨n, rfl, ?_⟩
  refine loopK_intro (fun (a : Sl × Int) h' m => ∃ j t' : Nat, (j : Int) ≤ n ∧ a.2 = j ∧ 10 - j = m ∧ t' ≤ t + 1 + 2 * j ∧ ∃ ks : List ByteArray, ks.length = j ∧ Owns (hb.del i) h' (owS i l t' :: (1, a.1, strs ks) :: L)) 10
    ⟨0, t + 1, by omega, rfl, rfl, by omega, [], rfl, ((o.next (t' := t + 1)).none_ 1).perm (List.Perm.swap _ _ _)⟩ ?_
  rintro ⟨s, y⟩ h' m ⟨j, t', hj, rfl, rfl, ht', ks, hkl, o⟩
  dsimp only [uncur] at o ⊢
  have hsl : s.len = ks.length := by have := o.slen (s := s) (cs := strs ks) (by simp); rwa [strs_length] at this
  refine ifT_dec (fun hlt => ?_) fun hge => ?_
  · have hes := encode_size (IntKind.i32.wrap (IntKind.i64.wrap (97 + (j : Int))))
    generalize Utf8.encode (IntKind.i32.wrap (IntKind.i64.wrap (97 + (j : Int)))) = en at *
    refine ⟨by omega, by omega, by omega, newK_intro fun i4 h4 hn4 he4 => ?_⟩
    have hne4 := o.lit_ne hn4
    have o4 := o.mono (he4 ▸ Ext.new hn4 : Ext _ h4)
    refine spec40 hI S0 o4 (by omega) (xs := [(⟨#[112]⟩ : ByteArray) ++ en, (⟨#[112]⟩ : ByteArray) ++ en, (⟨#[113]⟩ : ByteArray) ++ en]) (fun ob => lit_atC hne4 he4 rfl) (by simp) (by simp) fun p t5 h5 ht5 o5 => ⟨p, rfl, ?_⟩
    refine appendTo_owns (m := 0) (o5.perm (List.Perm.swap _ _ _)) (by rfl) (by omega) (by simp) fun b h8 o8 => ⟨10 - (j + 1), by omega, j + 1, t5, by omega, ?_, rfl, by omega, ks ++ [p], by simp [hkl], ?_⟩
    · show IntKind.i64.wrap ((j : Int) + 1) = _
      rw [w64] <;> omega
    · have := o8.perm (List.Perm.swap _ _ _)
      simpa [strs] using this
  · refine joinK_intro (fun (b : Bool) h3 => Owns (hb.del i) h3 (owS i l (t' + 1) :: (1, s, strs ks) :: L) ∧ (b = true → 0 < ks.length)) ?_ ?_
    · rintro b h3 ⟨o3, hbp⟩
      refine ifT_intro (fun hbt => ⟨⟨by decide, by have := hbp hbt; omega⟩, ?_⟩) fun _ => hQ _ _ _ _ o3 (by omega) (by omega)
      have hpos := hbp hbt
      obtain ⟨x, hx⟩ : ∃ x, ks[0]? = some x := ⟨_, List.getElem?_eq_getElem hpos⟩
      have a3 : At h3 1 s (strs ks) := o3.at_ (by simp)
      refine a3.cell (i := 0) (strs_get hx) fun bb oo hr => ⟨x, hr, ?_⟩
      refine appendTo_owns (m := 0) (o3.perm (List.Perm.swap _ _ _)) (by rfl) (by omega) (by simp) fun b h8 o8 => hQ _ (ks ++ [x]) (t' + 1) _ ?_ (by omega) (by simp; omega)
      have := o8.perm (List.Perm.swap _ _ _)
      simpa [strs] using this
    · intro jk hjk
      refine spec41 hI (o.toStrm S0 (t' := t') (by simp) (by omega)) (by decide) (by decide) fun b => ⟨b, rfl, ?_⟩
      have o3 := o.next (t' := t' + 1)
      refine ifT_intro (fun _ => hjk _ _ ⟨o3, fun h => ?_⟩) fun _ => hjk _ _ ⟨o3, fun h => by cases h⟩
      have := of_decide_eq_true h
      omega
end

/-! ### whether or not it is right -/
def armRes (name : ByteArray) (ws : List Int) (hold : Int) (ks : List ByteArray) : List (List ByteArray) := if errA name ws hold ks = 0 then grp (armIx name ws hold) (ws.length + 1) ks else []
theorem both26 (hI : Closed' prog Pm I) {name : ByteArray} {s t : Sl} {ws : List Int} {hold : Int} {ks : List ByteArray} (hs : At h 1 s (ints ws)) (hlen : ws.length < 1000) (ht : At h 1 t (strs ks)) (hkl : ks.length < 1000)
    (hQ : ∀ s' h', Ext h h' → Lie h' s' (armRes name ws hold ks) → Q [.one (.slice 1 s'), int (errA name ws hold ks)] h') : I 26 [splitV name s hold, .one (.slice 1 t)] Q h := by
  refine spec26 hI hs hlen ht hkl (fun h' x he => hQ _ _ x ?_) fun he s' h' x hl => ?_
  · unfold armRes; rw [if_neg he]; exact Lie.nil
  · have := hQ s' h' x (by unfold armRes; rw [if_pos he]; exact hl)
    rwa [he] at this
theorem both27 (hI : Closed' prog Pm I) {name : ByteArray} {s t : Sl} {ws : List Int} {hold : Int} {ks : List ByteArray} (hs : At h 1 s (ints ws)) (hlen : ws.length < 1000) (ht : At h 1 t (strs ks)) (hkl : ks.length < 1000)
    (hQ : ∀ s' h', Ext h h' → Lie h' s' (armRes name ws hold ks) → Q [.one (.slice 1 s'), int (errA name ws hold ks)] h') : I 27 [splitV name s hold, .one (.slice 1 t)] Q h := by
  refine spec27 hI hs hlen ht hkl (fun h' x he => hQ _ _ x ?_) fun he s' h' x hl => ?_
  · unfold armRes; rw [if_neg he]; exact Lie.nil
  · have := hQ s' h' x (by unfold armRes; rw [if_pos he]; exact hl)
    rwa [he] at this
theorem armRes_small (name : ByteArray) (ws : List Int) (hold : Int) (ks : List ByteArray) : (armRes name ws hold ks).length ≤ ws.length + 1 ∧ ∀ g ∈ armRes name ws hold ks, g.length ≤ ks.length := by
  unfold armRes
  split
  · refine ⟨by rw [grp_length]; omega, fun g hg => ?_⟩
    obtain ⟨j, hj, rfl⟩ := List.getElem_of_mem hg
    exact grp_small (List.getElem?_eq_getElem hj)
  · simp

theorem keys_ok : ∀ k ∈ ([⟨#[112, 97]⟩, ⟨#[112, 98]⟩, ⟨#[97, 110, 110]⟩, ⟨#[80]⟩] : List ByteArray), (k = ⟨#[80]⟩ → isKey k = false) ∧ (k ≠ ⟨#[80]⟩ → isKey k = true) := by decide

/-- The law. -/
theorem spec4 (hI : Closed' prog Pm I) {s : Sl} {zs : List Int} (hs : At h 1 s (ints zs)) : I 4 [.one (.slice 1 s)] tru h := by
  refine hI.go _ _ (den4 I s tru) ?_
  refine newK_intro fun i2 h1 hn1 he1 => ?_
  have S0 : Strm h1 i2 s zs 0 := he1 ▸ Strm.make hs hn1
  refine spec19 hI S0 S0.owns (by decide) fun name l7 hold ws t6 h6 o6 ht6 hwl => ⟨name, l7, hold, rfl, ?_⟩
  refine spec20 hI S0 o6 (by omega) fun l11 ks t7 h7 o7 ht7 hkl => ⟨l11, rfl, ?_⟩
  have a7 : At h7 1 l7 (ints ws) := o7.at_ (by simp)
  refine spec21 hI a7 (by omega) fun h8 x8 => ⟨_, rfl, spec22 hI (x8.at_ a7) (by omega) ⟨_, rfl, ifT_intro (fun h => absurd rfl (nd h)) fun _ => newK_intro fun i19 h20 hn20 he20 => ?_⟩⟩
  have o8 := o7.mono x8
  have hne20 := o8.lit_ne hn20
  have o9 := o8.mono (he20 ▸ Ext.new hn20 : Ext _ h20)
  refine hI.go _ _ (den23 I (some (i2, 0)) _ _) ?_
  refine spec42 hI (xs := [⟨#[112, 97]⟩, ⟨#[112, 98]⟩, ⟨#[97, 110, 110]⟩, ⟨#[80]⟩]) (o9.toStrm S0 (t' := t7) (by simp) (by omega)) (lit_atC hne20 he20 rfl) (by simp) (by simp) fun key hkey => ⟨_, rfl, key, rfl, ?_⟩
  obtain ⟨hk1, hk2⟩ := keys_ok key hkey
  have o10 := o9.next (t' := t7 + 1)
  have b7 : At (h20.set i2 (strm s (t7 + 1))) 1 l7 (ints ws) := o10.at_ (by simp)
  have b11 : At (h20.set i2 (strm s (t7 + 1))) 1 l11 (strs ks) := o10.at_ (by simp)
  refine spec24 hI b7 (by omega) fun v e h24 x24 q1 q2 q3 => ⟨v, e, rfl, ?_⟩
  refine joinK_intro (fun (_ : PUnit) h' => h' = h24) ?_ fun j hj => ifT_intro (fun h1 => ifT_intro (fun h2 => absurd (q1 (nd h1)) (nd h2)) fun _ => hj _ _ rfl) fun h1 => ?_
  case refine_2 =>
    have h0 : errSp name ws hold = 0 := Decidable.of_not_not (nd' h1)
    refine joinK_intro (fun (_ : PUnit) h' => h' = h24) (fun u h' hh => hj _ _ hh) fun j2 hj2 => ifT_dec (fun h3 => ifT_intro (fun h4 => absurd (q2 h0 (hk1 h3)) (nd h4)) fun _ => hj2 _ _ rfl) fun h3 => ?_
    obtain ⟨he, hv⟩ := q3 h0 (hk2 h3)
    refine joinK_intro (fun (b : Bool) h' => h' = h24 ∧ b = false) (fun b h' hh => by obtain ⟨rfl, rfl⟩ := hh; exact ifT_intro (fun h => by cases h) fun _ => hj2 _ _ rfl) fun j3 hj3 => ifT_intro (fun h4 => absurd he (nd h4)) fun _ => ?_
    obtain ⟨h5, h6, h7'⟩ := errSp_zero h0
    have hs1 := isKey_size h5
    have hs2 := isKey_size (hk2 h3)
    refine spec25 hI (x24.at_ b7) (by omega) (by omega) (by omega) h7' ⟨_, rfl, hj3 _ _ ⟨rfl, ?_⟩⟩
    rw [hv]; simp
  rintro u h' rfl
  refine both26 hI (x24.at_ b7) (by omega) (x24.at_ b11) (by omega) fun l32 h31 x31 L1 => ⟨_, _, rfl, ?_⟩
  have xx := x24.trans x31
  refine both27 hI (xx.at_ b7) (by omega) (xx.at_ b11) (by omega) fun l36 h35 x35 L2 => ⟨_, _, rfl, ?_⟩
  obtain ⟨r1, r2⟩ := armRes_small name ws hold ks
  refine spec16 hI ⟨_, rfl, ifT_intro (fun _ => ifT_dec (fun _ => ?_) fun h => absurd rfl h) fun h => by cases h⟩
  exact spec28 hI (L1.ext x35) L2 (by omega) (fun g hg => by have := r2 g hg; omega) ⟨_, rfl, rfl⟩

end
end Go.Proofs.YtihnjdhjkpmggaaDoorVc
