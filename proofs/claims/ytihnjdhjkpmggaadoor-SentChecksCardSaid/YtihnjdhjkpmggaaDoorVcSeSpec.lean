/- The law SentChecks, told by its formula. -/
import Derived.Test.YtihnjdhjkpmggaaDoorVcSeSpec4
set_option linter.unusedSimpArgs false
set_option linter.unusedVariables false
namespace Go.Proofs.YtihnjdhjkpmggaaDoorVc
open Go.Proofs.Tryd (prog)

section
variable {I : Calls} {Q : Post} {h : Heap}

theorem both14 (hI : Closed' prog Pm I) {s : Sl} {xs : List Sent} {g : Gain} {w : Int} (hs : At h 4 s (rows sentC xs)) (hlen : xs.length < 1000)
    (hQ : ∀ s' h', Ext h h' → (errP xs g w = 0 → (∀ x ∈ xs, moment x.at_) ∧ moment g.at_ ∧ At h' 1 s' (nats (pathL xs g w))) → Q [.one (.slice 1 s'), int (errP xs g w)] h') : I 14 [.one (.slice 4 s), .agg (gainC g), int w] Q h := by
  refine spec14 hI hs hlen (fun h' x he => hQ _ _ x fun h0 => absurd h0 he) fun he hm hg s' h' x ha => ?_
  have := hQ s' h' x fun _ => ⟨hm, hg, ha⟩
  rwa [he] at this

/-- The law. -/
theorem spec3 (hI : Closed' prog Pm I) {s : Sl} {zs : List Int} (hs : At h 1 s (ints zs)) : I 3 [.one (.slice 1 s)] tru h := by
  refine hI.go _ _ (den3 I s tru) ?_
  refine newK_intro fun i2 h1 hn1 he1 => ?_
  have S0 : Strm h1 i2 s zs 0 := he1 ▸ Strm.make hs hn1
  refine spec6 hI S0 S0.owns (by decide) fun l6 h6 xs t6 o6 ht6 hxl => ⟨l6, rfl, ?_⟩
  refine spec7 hI S0 o6 (by omega) fun l9 h7 gs t7 o7 ht7 hgl => ⟨l9, rfl, ?_⟩
  have a6 : At h7 4 l6 (rows sentC xs) := o7.at_ (by simp)
  have a9 : At h7 4 l9 (rows gainC gs) := o7.at_ (by simp)
  refine joinK_intro (fun (b : Bool) h' => Ext h7 h' ∧ b = false) ?_ fun j hj =>
    spec8 hI a6 (by omega) fun g1 x1 => ⟨_, rfl, spec9 hI (x1.at_ a6) (by omega) fun g2 x2 => ⟨_, rfl, ifT_intro (fun h => absurd rfl (nd h)) fun _ =>
      spec10 hI ((x1.trans x2).at_ a9) (by omega) fun g3 x3 => ⟨_, rfl, spec11 hI (((x1.trans x2).trans x3).at_ a9) (by omega) fun g4 x4 => ⟨_, rfl, hj _ _ ⟨((x1.trans x2).trans x3).trans x4, by simp⟩⟩⟩⟩⟩
  rintro _ h8 ⟨x8, rfl⟩
  refine ifT_intro (fun h => by cases h) fun _ => ?_
  have o8 := o7.mono x8
  refine spec12 hI (o8.toStrm S0 (t' := t7) (by simp) (by omega)) (by decide) (by decide) fun n14 hn0 hn1' => ⟨n14, rfl, ?_⟩
  have o9 := o8.next (t' := t7 + 1)
  have a9' : At (h8.set i2 (strm s (t7 + 1))) 4 l9 (rows gainC gs) := o9.at_ (by simp)
  have hl9 : l9.len = gs.length := a9'.rowsLen gainC_length (by decide)
  refine joinK_intro (fun (_ : ByteArray × ByteArray × Int × Int × PUnit) h' => h' = h8.set i2 (strm s (t7 + 1))) ?_ fun j hj => ifT_dec (fun hpos => ⟨⟨by decide, hpos⟩, ?_⟩) fun _ => hj _ _ rfl
  case refine_2 =>
    have hx := List.getElem?_eq_getElem (show 0 < gs.length by omega)
    generalize gs[0] = g at hx
    exact a9'.row gainC_length (by decide) (i := 0) hx fun bb o hr => ⟨g.id, g.person, g.at_, g.cents, hr, hj _ _ rfl⟩
  rintro ⟨s15, s16, n17, n18, u⟩ h' rfl
  dsimp only [uncur]
  obtain ⟨g, hg⟩ : ∃ g : Gain, g = ⟨s15, s16, n17, n18⟩ := ⟨_, rfl⟩
  refine newK_intro fun i21 h22 hn22 he22 => ?_
  have hne22 := o9.lit_ne hn22
  have o10 := o9.mono (he22 ▸ Ext.new hn22 : Ext _ h22)
  refine spec13 hI (xs := [1, 10, 100, 1000, 0, 4321441]) (o10.toStrm S0 (t' := t7 + 1) (by simp) (by omega)) (lit_at hne22 he22 rfl) (by simp) (by simp) fun w _ => ⟨w, rfl, ?_⟩
  have o11 := o10.next (t' := t7 + 1 + 1)
  have b6 : At (h22.set i2 (strm s (t7 + 1 + 1))) 4 l6 (rows sentC xs) := o11.at_ (by simp)
  have eg : V.agg [.str s15, .str s16, .int .i64 n17, .int .i64 n18] = V.agg (gainC g) := by rw [hg]; rfl
  rw [show (V.agg [Cell.str s15, Cell.str s16, Cell.int IntKind.i64 n17, Cell.int IntKind.i64 n18]) = V.agg (gainC g) from eg]
  have ec : [Cell.str s15, Cell.str s16, Cell.int IntKind.i64 n17, Cell.int IntKind.i64 n18] = gainC g := by rw [hg]; rfl
  rw [ec]
  refine both14 hI b6 (by omega) fun l28 h27 x27 hp => ⟨_, _, rfl, ?_⟩
  refine spec9 hI (x27.at_ b6) (by omega) fun h31 x31 => ⟨_, rfl, newK_intro fun i33 h34 hn34 he34 => ?_⟩
  subst he34
  refine spec11 hI (one_at hn34) (by simp) fun h36 x36 => ⟨_, rfl, newK_intro fun i38 h39 hn39 he39 => ?_⟩
  have a39 : At h39 1 ⟨some (i38, 0), 2⟩ (ints [errS xs, errG [g]]) := by
    refine ⟨rfl, .inr ?_⟩
    show h39.read i38 0 _ = _
    rw [he39, read_block (set_eq _ _ _) (by simp)]
    rfl
  refine spec15 hI a39 ⟨_, rfl, ?_⟩
  have xall : Ext h27 h39 := ((x31.trans (Ext.new hn34)).trans x36).trans (he39 ▸ Ext.new hn39)
  refine joinK_intro (fun (b : Bool) h' => h' = h39 ∧ (b = true ↔ (if errS xs = 0 then errG [g] else errS xs) = 0 ∧ ¬ (1 ≤ w ∧ w ≤ 4321440))) ?_ fun j hj => ifT_dec (fun h1 => ifT_dec (fun h2 => hj _ _ ⟨rfl, by rw [h1]; simp; omega⟩) fun h2 => hj _ _ ⟨rfl, by rw [h1]; simp; omega⟩) fun h1 => hj _ _ ⟨rfl, by
    constructor
    · intro h; cases h
    · intro h; exact absurd h.1 h1⟩
  rintro b43 h' ⟨rfl, hb43⟩
  refine joinK_intro (fun (n : Int) h'' => h'' = h' ∧ n = errP xs g w) ?_ fun j hj => ifT_intro (fun h1 => hj _ _ ⟨rfl, ?_⟩) fun h1 => hj _ _ ⟨rfl, ?_⟩
  case refine_2 =>
    obtain ⟨h2, h3⟩ := hb43.1 h1
    unfold errP
    by_cases h4 : errS xs = 0
    · rw [if_pos h4] at h2
      rw [if_neg (by simpa using h4), if_neg (by simpa using h2), if_pos h3]
    · rw [if_neg h4] at h2
      exact absurd h2 h4
  case refine_3 =>
    have h2 : ¬ ((if errS xs = 0 then errG [g] else errS xs) = 0 ∧ ¬ (1 ≤ w ∧ w ≤ 4321440)) := fun h => by rw [hb43.2 h] at h1; cases h1
    unfold errP
    by_cases h4 : errS xs = 0
    · rw [if_pos h4] at h2 ⊢
      rw [if_neg (by simpa using h4)]
      by_cases h5 : errG [g] = 0
      · have h6 : ¬ ¬ (1 ≤ w ∧ w ≤ 4321440) := fun h => h2 ⟨h5, h⟩
        rw [if_neg (by simpa using h5), if_neg h6, h5]
      · rw [if_pos h5]
    · rw [if_neg h4, if_pos h4]
  rintro n44 h'' ⟨rfl, rfl⟩
  refine ifT_intro (fun h1 => ?_) fun h1 => ?_
  · refine joinK_intro (fun (b : Bool) h' => b = true) (fun b h' hb => by subst hb; rfl) fun j hj => spec16 hI ⟨_, rfl, ifT_intro (fun _ => hj _ _ (by simp)) fun h => by cases h⟩
  · have hz : errP xs g w = 0 := Decidable.of_not_not (nd' h1)
    obtain ⟨hm, hga, hpa⟩ := hp hz
    refine spec16 hI ⟨_, rfl, ifT_intro (fun _ => ifT_dec (fun _ => ?_) fun h => absurd hz h) fun h => by cases h⟩
    refine spec18 hI ((x27.trans xall).at_ b6) (by omega) hm hga fun l59 h58 x58 a58 => ⟨_, rfl, ?_⟩
    have a28 := (xall.trans x58).at_ hpa
    rw [nats_ints] at a28 a58
    refine spec17 hI a28 a58 ?_ ⟨_, rfl, rfl⟩
    rw [List.length_map]
    unfold pathL
    rw [List.length_drop]
    have := hits_length xs g w xs.length
    omega

end
end Go.Proofs.YtihnjdhjkpmggaaDoorVc
