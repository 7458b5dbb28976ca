/- OffersFit: the law's contract. -/
import Derived.Test.YtfemminjhecocaaDoorVcOfSpec3
set_option linter.unusedSimpArgs false
set_option linter.unusedVariables false
namespace Go.Proofs.YtfemminjhecocaaDoorVc
open Go.Proofs.YtfemminjhecocaaDoorCodes
open Go.Proofs.Tryd (prog)

theorem spec14 {I : Calls} {Q : Post} {h : Heap} (hI : Closed' prog Pm I) (hQ : Q [boo true] h) : I 14 [] Q h := by
  refine hI.go _ _ (den14 I Q) ?_
  have e : (ByteArray.mk #[49, 50, 51]) = code [1, 2, 3] := by decide
  show I 63 [str (ByteArray.mk #[49, 50, 51])] _ h
  rw [e]
  refine spec63 hI (by decide) (by decide) (by decide) fun x h1 h2 => ⟨_, _, rfl, ?_⟩
  have hx : x = 12 := seal_unique x h1 (by rw [wsum_snoc] at h2; simpa [wsum] using h2)
  subst hx
  refine ifT_intro (fun _ => ?_) (fun h => by simp at h)
  have e2 : decide (code ([1, 2, 3] ++ [12]) = ByteArray.mk #[49, 50, 51, 67]) = true := by decide
  rw [e2]
  exact hQ
theorem offs_of {h0 h : Heap} {M T : List Ow} {s : Sl} {xs : List Offr} (o : Owns h0 h M) (hm : (12, s, rows offC xs) ∈ M) (ht : ∀ x ∈ xs, tgIn T x.tg x.tags) (hs : ∀ p ∈ T, p ∈ M) : Offs h s xs := ⟨o.at_ hm, fun x hx => (ht x hx).at_ o hs⟩
theorem itms_of {h0 h : Heap} {M T : List Ow} {s : Sl} {xs : List Itm} (o : Owns h0 h M) (hm : (4, s, rows itmC xs) ∈ M) (ht : ∀ x ∈ xs, tgIn T x.tg x.tags) (hs : ∀ p ∈ T, p ∈ M) : Itms h s xs := ⟨o.at_ hm, fun x hx => (ht x hx).at_ o hs⟩
theorem box2 {i : Nat} {a b : Int} {h h' : Heap} (he : h' = h.set i (.cells false (ints [a, b]))) : At h' 1 ⟨some (i, 0), 2⟩ (ints [a, b]) := by
  refine ⟨rfl, .inr ?_⟩
  show h'.read i 0 2 = _
  rw [read_block (ro := false) (cs := ints [a, b]) (by rw [he, set_eq]) (by simp [ints])]
  rfl

section
variable {I : Calls} {h : Heap}
theorem spec38' {Q : Post} (hI : Closed' prog Pm I) {s : Sl} {xs : List Offr} (hs : Offs h s xs) (hQ : ∀ b h', Ext h h' → (errO xs = 0 → b = togB [] xs) → Q [boo b, int (errO xs)] h') : I 38 [.one (.slice 12 s)] Q h :=
  spec38 hI hs (fun he h' x => hQ _ h' x fun h => absurd h he) fun he h' x => he ▸ hQ _ h' x fun _ => rfl
theorem spec41' {Q : Post} (hI : Closed' prog Pm I) {o : Offr} {t : Sl} {xs : List Itm} {ship at_ : Int} (ho : At h 1 o.tg (strs o.tags)) (hx : Itms h t xs)
    (hQ : ∀ v h', Ext h h' → (errA [o] xs ship at_ = 0 → v = fitsF o xs ship at_) → Q [int v, int (errA [o] xs ship at_)] h') : I 41 [.agg (offC o), .agg [.slice 4 t, .int .i64 ship], int at_] Q h :=
  spec41 hI ho hx (fun he h' x => hQ _ h' x fun h => absurd h he) fun he h' x => he ▸ hQ _ h' x fun _ => rfl
theorem spec14t (hI : Closed' prog Pm I) {F : Bool → T} (hF : F true h) : I 14 [] (fun cs h => ∃ b : Bool, (cs = [V.one (Cell.bool b)]) ∧ F b h) h := spec14 hI ⟨_, rfl, hF⟩

theorem spec4 (hI : Closed' prog Pm I) {s : Sl} {zs : List Int} (hs : At h 1 s (ints zs)) : I 4 [.one (.slice 1 s)] tru h := by
  refine hI.go _ _ (den4 I s tru) ?_
  refine newK_intro fun i2 h1 hn1 he1 => ?_
  have S0 : Strm h1 i2 s zs 0 := he1 ▸ Strm.make hs hn1
  refine spec31 hI S0 S0.owns (by decide) (by decide) (by decide) fun l6 os T1 t6 h6 o6 htg hol ht6 => ⟨l6, rfl, ?_⟩
  refine spec32 hI S0 o6 (by omega) fun l9 ship xs T2 t9 h9 o9 hti hxl ht9 => ⟨l9, ship, rfl, ?_⟩
  refine spec33 hI S0 o9 (by omega) fun t h10 o10 => ⟨t, rfl, ?_⟩
  have of : Offs h10 l6 os := offs_of (T := T1) o10 (by simp) htg (fun p hp => by simp [hp])
  have it : Itms h10 l9 xs := itms_of (T := T2) o10 (by simp) hti (fun p hp => by simp [hp])
  refine spec34 hI of fun g1 x1 => ⟨_, rfl, ?_⟩
  -- the checks agree
  refine joinK_intro (fun (b : Bool) h' => Ext h10 h' ∧ b = false) ?_ fun j hj => spec35 hI (x1.offs of) fun g2 x2 => ⟨_, rfl, ifT_intro (fun h => absurd rfl (nd h)) fun _ => spec36 hI ((x1.trans x2).itms it) fun g3 x3 => ⟨_, rfl, spec37 hI (((x1.trans x2).trans x3).itms it) fun g4 x4 => ⟨_, rfl, hj _ _ ⟨((x1.trans x2).trans x3).trans x4, by simp⟩⟩⟩⟩
  rintro b g5 ⟨x5, rfl⟩
  refine ifT_intro (fun h => by cases h) fun _ => ?_
  -- which go together
  refine spec38' hI (x5.offs of) fun bt g6 x6 hbt => ⟨_, _, rfl, ?_⟩
  have x6 := x5.trans x6
  refine joinK_intro (fun (b : Bool) h' => Ext h10 h' ∧ b = false) ?_ fun j hj => ifT_intro (fun h => absurd rfl (nd h)) fun _ => ifT_dec (fun he => spec39 hI (x6.offs of) (by omega) ⟨_, rfl, hj _ _ ⟨x6, by rw [hbt he]; simp⟩⟩) fun he => hj _ _ ⟨x6, rfl⟩
  rintro b g7 ⟨x7, rfl⟩
  refine ifT_intro (fun h => by cases h) fun _ => ?_
  -- which fit
  have o7 := o10.mono x7
  refine spec40 hI S0 o7 (by omega) fun x T3 t8 g8 o8 hx _ _ => ⟨_, _, _, _, _, _, _, _, _, _, _, _, rfl, ?_⟩
  have of8 : Offs g8 l6 os := offs_of (T := T1) o8 (by simp) htg (fun p hp => by simp [hp])
  have it8 : Itms g8 l9 xs := itms_of (T := T2) o8 (by simp) hti (fun p hp => by simp [hp])
  refine joinK_intro (fun p h' => h' = g8 ∧ ∃ x : Offr, p = (x.key, x.kind, x.a, x.b, x.tg, x.least, x.most, x.group, x.alone, x.order, x.from_, x.to_, ()) ∧ At h' 1 x.tg (strs x.tags)) ?_ ?_
  case refine_2 =>
    intro j hj
    refine ifT_dec (fun hlt => ⟨⟨by decide, hlt⟩, ?_⟩) fun _ => hj _ _ ⟨rfl, x, rfl, hx.at_ o8 (fun p hp => by simp [hp])⟩
    have hl6 := of8.len
    obtain ⟨y, ys, rfl⟩ : ∃ y ys, os = y :: ys := by
      cases os with
      | nil => simp at hl6; omega
      | cons y ys => exact ⟨y, ys, rfl⟩
    refine of8.at_.row (i := 0) offC_length (by decide) rfl fun bb oo hr => ⟨y.key, y.kind, y.a, y.b, y.tg, y.least, y.most, y.group, y.alone, y.order, y.from_, y.to_, hr, hj _ _ ⟨rfl, y, rfl, of8.tg y (by simp)⟩⟩
  rintro p g9 ⟨rfl, y, rfl, hy⟩
  dsimp only [uncur]
  refine spec41' hI hy it8 fun v g10 x10 hv => ⟨_, _, rfl, ?_⟩
  refine newK_intro fun i57 g11 hn11 he11 => ?_
  have x11 : Ext g10 g11 := he11 ▸ Ext.new hn11
  refine spec34 hI (box_offs hn11 he11 (x10.at_ hy)) fun g12 x12 => ⟨_, rfl, ?_⟩
  have xx := (x10.trans x11).trans x12
  refine spec37 hI (xx.itms it8) fun g13 x13 => ⟨_, rfl, newK_intro fun i65 g14 hn14 he14 => ?_⟩
  have x14 : Ext g13 g14 := he14 ▸ Ext.new hn14
  have xx := (xx.trans x13).trans x14
  refine spec42 hI (box2 he14) ⟨_, rfl, ?_⟩
  have hA : errA [y] xs ship t = if (if errO [y] = 0 then errK xs ship else errO [y]) ≠ 0 then (if errO [y] = 0 then errK xs ship else errO [y]) else if ¬ momentP t then 1 else 0 := by
    unfold errA
    by_cases h : errO [y] = 0
    · rw [if_neg (fun h2 => h2 h), if_pos h]
    · rw [if_pos h, if_neg h, if_pos h]
  generalize (if errO [y] = 0 then errK xs ship else errO [y]) = e at hA
  refine joinK_intro (fun (b : Bool) h' => h' = g14 ∧ (b = true ↔ e = 0 ∧ ¬ momentP t)) ?_ fun j hj => ifT_dec (fun he => spec11 hI ⟨_, rfl, hj _ _ ⟨rfl, by rw [Bool.not_eq_true', decide_eq_false_iff_not]; exact ⟨fun h => ⟨he, h⟩, fun h => h.2⟩⟩⟩) fun he => hj _ _ ⟨rfl, by simp [he]⟩
  rintro b g15 ⟨rfl, hb⟩
  refine joinK_intro (fun (f : Int) h' => h' = g15 ∧ f = errA [y] xs ship t) ?_ fun j hj => ifT_intro (fun hbt => hj _ _ ⟨rfl, ?_⟩) fun hbf => hj _ _ ⟨rfl, ?_⟩
  · rintro f g16 ⟨rfl, rfl⟩
    refine spec14t hI (F := fun b => _) (ifT_intro (fun _ => ifT_dec (fun _ => ifT_intro (fun _ => rfl) fun he => ?_) fun h => absurd rfl h) fun h => by cases h)
    have he := Decidable.of_not_not (nd' he)
    obtain ⟨e1, e2, e3⟩ := errA_ok he
    obtain ⟨k1, k2, k3, k4⟩ := errK_ok e2
    refine spec43 hI ((errO_ok e1).2 y (by simp)) (xx.at_ hy) (tagl e1) (xx.itms it8) k2 k1 (errK_tags e2) fun g17 x17 => ⟨_, rfl, ?_⟩
    rw [hv he]
    simp [tru]
  · obtain ⟨h1, h2⟩ := hb.1 hbt
    rw [hA, if_neg (fun h => h h1), if_pos h2]
  · rw [hA]
    by_cases h1 : e = 0
    · have h2 : momentP t := Decidable.of_not_not fun h2 => by rw [hb.2 ⟨h1, h2⟩] at hbf; cases hbf
      rw [if_neg (fun h => h h1), if_neg (fun h => h h2)]; exact h1
    · rw [if_pos h1]
end
end Go.Proofs.YtfemminjhecocaaDoorVc
