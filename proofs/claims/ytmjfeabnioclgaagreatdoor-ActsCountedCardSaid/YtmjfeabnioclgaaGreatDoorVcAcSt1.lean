/- Contracts, turned by a program to the numbers of this seat. -/
import Derived.Test.YtmjfeabnioclgaaGreatDoorVcAcOld
set_option linter.unusedSimpArgs false
set_option linter.unusedVariables false
-- from StSpec1
namespace Go.Proofs.YtmjfeabnioclgaaGreatDoorVc
open Go.Proofs.Tryz (prog)
structure Act where
  sent : ByteArray
  kind : Int
  at_ : Int
def actC (a : Act) : List Cell := [.str a.sent, .int .i64 a.kind, .int .i64 a.at_]
theorem actC_length (a : Act) : (actC a).length = 3 := rfl
/-- What is told of a letter. -/
structure RowS where
  letter : ByteArray
  sent : Nat
  opened : Nat
  clicked : Nat
  bought : Nat
  left : Nat
def rowC (r : RowS) : List Cell := [.str r.letter, .int .i64 r.sent, .int .i64 r.opened, .int .i64 r.clicked, .int .i64 r.bought, .int .i64 r.left]
theorem rowC_length (r : RowS) : (rowC r).length = 6 := rfl
def b2n (b : Bool) : Nat := if b then 1 else 0
/-- One more letter. -/
def bump (r : RowS) (d : Nat → Bool) : RowS :=
  ⟨r.letter, r.sent + 1, r.opened + b2n (d 1 || (d 2 || d 3)), r.clicked + b2n (d 2 || d 3), r.bought + b2n (d 3), r.left + b2n (d 4)⟩
theorem Owns.swp {h0 h : Heap} {a b : Ow} {L : List Ow} (o : Owns h0 h (a :: b :: L)) : Owns h0 h (b :: a :: L) := o.perm (List.Perm.swap _ _ _)
section
variable {I : Calls} {Q : Post} {h : Heap}
theorem spec14 (hI : Closed' prog Pm I) {i : Nat} {l : Sl} {zs : List Int} {t : Nat} (S : Strm h i l zs t) (hQ : ∀ v, Q [int v] (h.set i (strm l (t + 1)))) : I 14 [.one (.ptr (some (i, 0))), int 1, int 4] Q h := by
  refine hI.go _ _ (den14 I (some (i, 0)) 1 4 Q) ?_
  refine ifT_dec (fun h => absurd h (by decide)) fun _ => ?_
  have e : IntKind.i64.wrap (IntKind.i64.wrap ((4 : Int) - 1) + 1) = 4 := by decide
  show I 18 [_, int (IntKind.i64.wrap (IntKind.i64.wrap ((4 : Int) - 1) + 1))] _ h
  rw [e]
  exact spec18 hI S (by decide) (by decide) fun v _ _ => ⟨v, rfl, hQ _⟩
/-- A literal of ints, and one of them is drawn. -/
theorem pick_lit {hb : Heap} {i : Nat} {l : Sl} {zs : List Int} {t0 : Nat} (hI : Closed' prog Pm I) (S0 : Strm hb i l zs t0) {t : Nat} {L : List Ow} (o : Owns (hb.del i) h (owS i l t :: L)) (ht : t < 900000000) (xs : List Int) (h1 : xs ≠ []) (h2 : xs.length < 1000) {F : Int → T}
    (hF : ∀ v ∈ xs, ∀ h', Owns (hb.del i) h' (owS i l (t + 1) :: L) → F v h') :
    newK (.cells false (ints xs)) (fun i6 => fun h7 => I 6 [.one (.ptr (some (i, 0))), .one (.slice 1 ⟨some (i6, 0), xs.length⟩)] (fun cs h9 => ∃ n : Int, cs = [int n] ∧ F n h9) h7) h := by
  refine newK_intro fun i6 h7 hn he => ?_
  have hne := o.lit_ne hn
  have o2 := o.mono (he ▸ Ext.new hn : Ext _ h7)
  exact spec6 hI (xs := xs) (o2.toStrm S0 (t' := t) (by simp) (by omega)) (lit_at hne he rfl) h1 h2 fun v hv => ⟨v, rfl, hF v hv _ o2.next⟩
/-- Acts that are drawn. -/
theorem spec5 {hb : Heap} {i : Nat} {l : Sl} {zs : List Int} {t0 : Nat} (hI : Closed' prog Pm I) (S0 : Strm hb i l zs t0) {t : Nat} {L : List Ow} (o : Owns (hb.del i) h (owS i l t :: L)) (ht : t < 90000) {s : Sl} {xs : List Sent} (hm : (4, s, rows sentC xs) ∈ L) (hxl : xs.length ≤ 30)
    (hQ : ∀ s' h' acs t', Owns (hb.del i) h' (owS i l t' :: (3, s', rows actC acs) :: L) → t' ≤ t + 1000 → acs.length ≤ 9 → Q [.one (.slice 3 s')] h') : I 5 [.one (.ptr (some (i, 0))), .one (.slice 4 s)] Q h := by
  have hsl : s.len = xs.length := (o.at_ (List.mem_cons_of_mem _ hm)).rowsLen sentC_length (by decide)
  refine hI.go _ _ (den5 I (some (i, 0)) s Q) ?_
  refine spec18 hI (o.toStrm S0 (t' := t) (by simp) (by omega)) (by decide) (by decide) fun n hn0 hn1 => ⟨n, rfl, ?_⟩
  refine loopK_intro (fun (a : Sl × Int) h' m => ∃ (j t' : Nat) (acs : List Act), (j : Int) ≤ n ∧ a.2 = j ∧ 10 - j = m ∧ t' ≤ t + 1 + 20 * j ∧ acs.length = j ∧ Owns (hb.del i) h' (owS i l t' :: (3, a.1, rows actC acs) :: L)) 10
    ⟨0, t + 1, [], by omega, rfl, rfl, by omega, rfl, ((o.next (t' := t + 1)).none_ 3).swp⟩ ?_
  clear o
  rintro ⟨s', y⟩ h' m ⟨j, t', acs, hj, rfl, rfl, ht', hal, o⟩
  dsimp only [uncur] at o ⊢
  have hsl' : s'.len = acs.length := (o.at_ (s := s') (by simp)).rowsLen actC_length (by decide)
  refine ifT_dec (fun hlt => ?_) fun hge => hQ _ _ _ _ o (by omega) (by omega)
  refine newK_intro fun i10 h11 hn10 he10 => ?_
  have hne10 := o.lit_ne hn10
  have o2 := o.mono (he10 ▸ Ext.new hn10 : Ext _ h11)
  refine spec19 hI S0 o2 (by omega) (xs := [⟨#[115, 97]⟩, ⟨#[115, 98]⟩]) (fun ob => lit_atC hne10 he10 rfl) (by simp) (by simp) fun p t3 h3 ht3 o3 => ⟨p, rfl, ?_⟩
  refine spec14 hI (o3.toStrm S0 (t' := t3) (by simp) (by omega)) fun k => ⟨k, rfl, ?_⟩
  have o4 := o3.next (t' := t3 + 1)
  refine spec18 hI (o4.toStrm S0 (t' := t3 + 1) (by simp) (by omega)) (by decide) (by decide) fun at0 _ _ => ⟨at0, rfl, ?_⟩
  have o5 := o4.next (t' := t3 + 1 + 1)
  refine joinK_intro (fun (b : Bool) h' => ∃ t', t' ≤ t3 + 3 ∧ Owns (hb.del i) h' (owS i l t' :: (3, s', rows actC acs) :: L) ∧ (b = true → 0 < xs.length)) ?_ fun jk hjk => ifT_dec (fun hpos => spec20 hI (o5.toStrm S0 (t' := t3 + 1 + 1) (by simp) (by omega)) (by decide) (by decide) fun b => ⟨b, rfl, hjk _ _ ⟨_, by omega, o5.next (t' := t3 + 1 + 1 + 1), fun _ => by omega⟩⟩) fun _ => hjk _ _ ⟨_, by omega, o5, fun h => by cases h⟩
  rintro b21 g1 ⟨t6, ht6, o6, hb21⟩
  refine joinK_intro (fun p h' => ∃ t', t' ≤ t6 + 2 ∧ Owns (hb.del i) h' (owS i l t' :: (3, s', rows actC acs) :: L)) ?_ fun jk hjk => ifT_intro (fun hbt => ?_) fun _ => hjk _ _ ⟨_, by omega, o6⟩
  case refine_2 =>
    have hpos := hb21 hbt
    refine spec18 hI (o6.toStrm S0 (t' := t6) (by simp) (by omega)) (by omega) (by omega) fun e he0 he1 => ⟨e, rfl, ⟨he0, he1⟩, ?_⟩
    obtain ⟨e, rfl⟩ := Int.eq_ofNat_of_zero_le he0
    have o7 := o6.next (t' := t6 + 1)
    have hx := List.getElem?_eq_getElem (show e < xs.length by omega)
    generalize xs[e] = x at hx
    refine (o7.at_ (sz := 4) (s := s) (cs := rows sentC xs) (by simp [hm])).row sentC_length (by decide) hx fun bb oo hr => ⟨x.id, x.person, x.letter, x.at_, hr, ?_⟩
    exact pick_lit hI S0 o7 (by omega) [0, 1, 50, 200] (by simp) (by simp) fun v _ g o8 => hjk _ _ ⟨_, by omega, o8⟩
  rintro ⟨s22, n23, n24, u⟩ g2 ⟨t7, ht7, o7⟩
  dsimp only [uncur]
  refine spec20 hI (o7.toStrm S0 (t' := t7) (by simp) (by omega)) (by decide) (by decide) fun b29 => ⟨b29, rfl, ?_⟩
  have o8 := o7.next (t' := t7 + 1)
  refine joinK_intro (fun p h' => ∃ t', t' ≤ t7 + 2 ∧ Owns (hb.del i) h' (owS i l t' :: (3, s', rows actC acs) :: L)) ?_ fun jk hjk => ifT_intro (fun _ => pick_lit hI S0 o8 (by omega) [0, 5] (by simp) (by simp) fun v _ g o9 => hjk _ _ ⟨_, by omega, o9⟩) fun _ => hjk _ _ ⟨_, by omega, o8⟩
  rintro ⟨s30, n31, n32, u⟩ g3 ⟨t9, ht9, o9⟩
  dsimp only [uncur]
  refine spec20 hI (o9.toStrm S0 (t' := t9) (by simp) (by omega)) (by decide) (by decide) fun b37 => ⟨b37, rfl, ?_⟩
  have o10 := o9.next (t' := t9 + 1)
  have put : ∀ (a : Act) (g : Heap) (t' : Nat), t' ≤ t9 + 2 → Owns (hb.del i) g (owS i l t' :: (3, s', rows actC acs) :: L) → appendTo [] 3 32 s' 1 (actC a) (fun l44 h45 => ∃ m', m' < 10 - j ∧ ∃ (j2 t2 : Nat) (acs2 : List Act), (j2 : Int) ≤ n ∧ (l44, IntKind.i64.wrap ((j : Int) + 1)).2 = (j2 : Int) ∧ 10 - j2 = m' ∧ t2 ≤ t + 1 + 20 * j2 ∧ acs2.length = j2 ∧ Owns (hb.del i) h45 (owS i l t2 :: (3, (l44, IntKind.i64.wrap ((j : Int) + 1)).1, rows actC acs2) :: L)) g := fun a g t' ht' o' =>
    appendTo_owns (m := 0) o'.swp rfl (by omega) (by simp) fun bn h8 o8 => ⟨10 - (j + 1), by omega, j + 1, t', acs ++ [a], by omega, by show IntKind.i64.wrap _ = _; rw [w64] <;> omega, rfl, by omega, by simp [hal], by
      rw [rows_append]
      have := o8.swp
      simpa [rows] using this⟩
  refine ifT_intro (fun _ => pick_lit hI S0 o10 (by omega) [-1, 4321440] (by simp) (by simp) fun v _ g o11 => put ⟨s30, n31, v⟩ g _ (by omega) o11) fun _ => put ⟨s30, n31, n32⟩ _ _ (by omega) o10
/-- One letter is counted. -/
theorem spec26 (hI : Closed' prog Pm I) {b : Nat} {r : RowS} {d : Nat → Bool} (hb : h b = some (.cells false (rowC r))) (h1 : r.sent < 1000) (h2 : r.opened < 1000) (h3 : r.clicked < 1000) (h4 : r.bought < 1000) (h5 : r.left < 1000)
    (hQ : ∀ h', (∀ j o, j ≠ b → h j = some o → h' j = some o) → h' b = some (.cells false (rowC (bump r d))) → Q [] h') : I 26 [.one (.ptr (some (b, 0))), .agg [.bool (d 0), .bool (d 1), .bool (d 2), .bool (d 3), .bool (d 4)]] Q h := by
  refine hI.go _ _ (den26 I (some (b, 0)) (d 0) (d 1) (d 2) (d 3) (d 4) Q) ?_
  refine joinK_intro (fun (c : Bool) h' => h' = h ∧ c = (d 2 || d 3)) ?_ fun j hj => ifT_intro (fun e => hj _ _ ⟨rfl, by rw [e]; rfl⟩) fun e => hj _ _ ⟨rfl, by rw [e]; rfl⟩
  rintro c h' ⟨rfl, hc⟩
  refine derefK_intro rfl ⟨(r.sent : Int), read_cell hb rfl, derefK_intro rfl (storeK_one hb (by show 0 + 1 < 6; decide) ?_)⟩
  have e1 : (rowC r).set (0 + 1) (.int .i64 (IntKind.i64.wrap ((r.sent : Int) + 1))) = rowC { r with sent := r.sent + 1 } := by
    rw [w64 (by omega) (by omega)]; rfl
  rw [e1]
  obtain ⟨h2', hh2⟩ : ∃ h2', h'.set b (.cells false (rowC { r with sent := r.sent + 1 })) = h2' := ⟨_, rfl⟩
  rw [hh2]
  have hb2 : h2' b = some (.cells false (rowC { r with sent := r.sent + 1 })) := by rw [← hh2, set_eq]
  have fr2 : ∀ j o, j ≠ b → h' j = some o → h2' j = some o := fun j o hj ho => by rw [← hh2, set_ne _ _ hj]; exact ho
  obtain ⟨op, hop⟩ : ∃ op, (d 1 || (d 2 || d 3)) = op := ⟨_, rfl⟩
  refine joinK_intro (fun (p : Sl × Int × Int) g => ∃ i42, p = (⟨some (i42, 0), 4⟩, 4, 0) ∧ i42 ≠ b ∧ g i42 = some (.cells false [.bool op, .ptr (some (b, 2)), .bool c, .ptr (some (b, 3)), .bool (d 3), .ptr (some (b, 4)), .bool (d 4), .ptr (some (b, 5))]) ∧ Ext h2' g) ?_ ?_
  case refine_2 =>
    intro jk hjk
    refine ifT_intro (fun e => ?_) fun e => ?_
    · refine derefK_intro rfl (derefK_intro rfl (derefK_intro rfl (derefK_intro rfl (newK_intro fun i42 g hn he => hjk _ _ ⟨i42, rfl, fun e => ?_, ?_, he ▸ Ext.new hn⟩))))
      · subst e; rw [hb2] at hn; cases hn
      · have : op = true := by rw [← hop, e]; rfl
        rw [he, set_eq, this]
    · refine derefK_intro rfl (derefK_intro rfl (derefK_intro rfl (derefK_intro rfl (newK_intro fun i42 g hn he => hjk _ _ ⟨i42, rfl, fun e => ?_, ?_, he ▸ Ext.new hn⟩))))
      · subst e; rw [hb2] at hn; cases hn
      · have : op = c := by rw [← hop, e, hc]; rfl
        rw [he, set_eq, this]
  rintro p g ⟨i42, rfl, hne, hcell, ext⟩
  dsimp only [uncur]
  refine loopK_intro (fun (a : Int) g' m => ∃ k : Nat, k ≤ 4 ∧ a = (k : Int) ∧ m = 4 - k ∧ (∀ j o, j ≠ b → g j = some o → g' j = some o) ∧
    g' b = some (.cells false [.str r.letter, .int .i64 ((r.sent + 1 : Nat) : Int), .int .i64 ((r.opened + b2n (decide (0 < k) && op) : Nat) : Int), .int .i64 ((r.clicked + b2n (decide (1 < k) && c) : Nat) : Int), .int .i64 ((r.bought + b2n (decide (2 < k) && d 3) : Nat) : Int), .int .i64 ((r.left + b2n (decide (3 < k) && d 4) : Nat) : Int)])) 4
    ⟨0, by omega, rfl, rfl, fun _ _ _ h => h, ext _ _ hb2⟩ ?_
  rintro a g' m ⟨k, hk, rfl, rfl, fr, hgb⟩
  have hg42 := fr _ _ hne hcell
  refine ifT_dec (fun hlt => ⟨⟨by omega, hlt⟩, ?_⟩) fun hge => ?_
  · have hb2n : ∀ x, b2n x ≤ 1 := fun x => by cases x <;> decide
    have hk4 : k = 0 ∨ k = 1 ∨ k = 2 ∨ k = 3 := by omega
    rcases hk4 with rfl | rfl | rfl | rfl
    · refine derefK_intro rfl ⟨op, some (b, 2), (read_block hg42 (by simp)).trans rfl, ifT_intro (fun e => ?_) fun e => ?_⟩
      · refine derefK_intro rfl ⟨_, read_cell hgb rfl, derefK_intro rfl (storeK_one hgb (by simp) ⟨3, by omega, 1, by omega, by decide, rfl, fun j o hj ho => by rw [set_ne _ _ hj]; exact fr j o hj ho, ?_⟩)⟩
        rw [set_eq, w64 (by simp [b2n]; omega) (by simp [b2n]; omega), e]; simp [b2n]
      · exact ⟨3, by omega, 1, by omega, by decide, rfl, fr, by rw [hgb, e]; simp [b2n]⟩
    · refine derefK_intro rfl ⟨c, some (b, 3), (read_block hg42 (by simp)).trans rfl, ifT_intro (fun e => ?_) fun e => ?_⟩
      · refine derefK_intro rfl ⟨_, read_cell hgb rfl, derefK_intro rfl (storeK_one hgb (by simp) ⟨2, by omega, 2, by omega, by decide, rfl, fun j o hj ho => by rw [set_ne _ _ hj]; exact fr j o hj ho, ?_⟩)⟩
        rw [set_eq, w64 (by simp [b2n]; omega) (by simp [b2n]; omega), e]; simp [b2n]
      · exact ⟨2, by omega, 2, by omega, by decide, rfl, fr, by rw [hgb, e]; simp [b2n]⟩
    · refine derefK_intro rfl ⟨d 3, some (b, 4), (read_block hg42 (by simp)).trans rfl, ifT_intro (fun e => ?_) fun e => ?_⟩
      · refine derefK_intro rfl ⟨_, read_cell hgb rfl, derefK_intro rfl (storeK_one hgb (by simp) ⟨1, by omega, 3, by omega, by decide, rfl, fun j o hj ho => by rw [set_ne _ _ hj]; exact fr j o hj ho, ?_⟩)⟩
        rw [set_eq, w64 (by simp [b2n]; omega) (by simp [b2n]; omega), e]; simp [b2n]
      · exact ⟨1, by omega, 3, by omega, by decide, rfl, fr, by rw [hgb, e]; simp [b2n]⟩
    · refine derefK_intro rfl ⟨d 4, some (b, 5), (read_block hg42 (by simp)).trans rfl, ifT_intro (fun e => ?_) fun e => ?_⟩
      · refine derefK_intro rfl ⟨_, read_cell hgb rfl, derefK_intro rfl (storeK_one hgb (by simp) ⟨0, by omega, 4, by omega, by decide, rfl, fun j o hj ho => by rw [set_ne _ _ hj]; exact fr j o hj ho, ?_⟩)⟩
        rw [set_eq, w64 (by simp [b2n]; omega) (by simp [b2n]; omega), e]; simp [b2n]
      · exact ⟨0, by omega, 4, by omega, by decide, rfl, fr, by rw [hgb, e]; simp [b2n]⟩
  · have : k = 4 := by omega
    subst this
    refine hQ g' (fun j o hj ho => fr j o hj (ext _ _ (fr2 j o hj ho))) ?_
    rw [hgb, ← hop, hc]
    simp [bump, rowC]
end
end Go.Proofs.YtmjfeabnioclgaaGreatDoorVc
