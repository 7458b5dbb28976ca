/- Contracts: offers.Price; the law. -/
import Derived.Test.YtfemminjhecocaaGreatVcPrSpec6
set_option linter.unusedSimpArgs false
set_option linter.unusedVariables false
namespace Go.Proofs.YtfemminjhecocaaGreatVc
open Go.Proofs.Tryz (prog)
open Go.Proofs.YtfemminjhecocaaGreatShares
theorem scanO_tags : ∀ (l pre : List Offr), scanO pre l = 0 → ∀ x ∈ l, x.tags.length ≤ 10
  | [], _, _, x, hx => by cases hx
  | y :: l, pre, h, x, hx => by
    simp only [scanO] at h
    split at h
    · cases h
    split at h
    · cases h
    split at h
    · cases h
    split at h
    · cases h
    split at h
    · cases h
    split at h
    · cases h
    split at h
    · rename_i h6; exact absurd h h6
    rename_i h6
    split at h
    · cases h
    rcases List.mem_cons.1 hx with rfl | hx
    · have h6 : errTg x.tags = 0 := Decidable.of_not_not h6
      unfold errTg at h6
      split at h6
      · cases h6
      · omega
    · exact scanO_tags l _ h x hx
theorem errO_tags {xs : List Offr} (h : errO xs = 0) : ∀ x ∈ xs, x.tags.length < 1000 := by
  unfold errO at h
  split at h
  · cases h
  · exact fun x hx => Nat.lt_of_le_of_lt (scanO_tags xs [] h x hx) (by decide)
/-- What is answered of a price that is asked for. -/
def errP (os : List Offr) (xs : List Itm) (ship t : Int) : Int := if errA os xs ship t ≠ 0 then errA os xs ship t else if togP os.length [] os = false then 16 else if (os.any fun o => decide (fitsF o xs ship t ≠ 0)) = true then 11 else 0
theorem errP_A {os : List Offr} {xs : List Itm} {ship t : Int} (h : errP os xs ship t = 0) : errA os xs ship t = 0 := by
  unfold errP at h
  split at h
  · assumption
  · rename_i h1; exact Decidable.of_not_not h1
section
variable {I : Calls} {Q : Post} {h : Heap}
theorem spec21c (hI : Closed' prog Pm I) {s : Sl} {ys : List Offr} {g : FuncId} {caps : List (Nat × Nat)} {p : Offr → Bool} (hs : At h 12 s (rows offC ys)) (hlen : ys.length < 1000)
    (hg : ∀ y ∈ ys, ∀ h1 Q', Ext h h1 → (∀ h2, Ext h1 h2 → Q' [boo (p y)] h2) → I g (.agg (offC y) :: caps.map fun a => .one (.ptr (some a))) Q' h1) (hQ : ∀ h', Ext h h' → Q [boo (ys.any p)] h') : I 21 [.one (.slice 12 s), .one (.func (some (g, caps)))] Q h := by
  refine hI.go _ _ (den21 I s _ _) ?_
  have hl : s.len = ys.length := hs.rowsLen offC_length (by decide)
  refine hI.go _ _ (den35 I s _ _) ?_
  refine loopK_intro (fun (a : Int) h' m => Ext h h' ∧ ∃ j : Nat, j ≤ ys.length ∧ a = j ∧ ys.length - j = m ∧ ∀ z ∈ ys.take j, p z = false) ys.length ⟨Ext.refl h, 0, by omega, rfl, rfl, by simp⟩ ?_
  rintro a h' m ⟨e, j, hj, rfl, rfl, hno⟩
  refine ifT_dec (fun hlt => ⟨⟨by omega, hlt⟩, ?_⟩) (fun hge => ?_)
  · have hx := List.getElem?_eq_getElem (show j < ys.length by omega)
    generalize ys[j] = y at hx
    refine (e.at_ hs).row offC_length (by decide) hx fun bb o hr => ⟨y.key, y.kind, y.a, y.b, y.tg, y.least, y.most, y.group, y.alone, y.order, y.from_, y.to_, hr, ?_⟩
    refine hg y (List.mem_of_getElem? hx) _ _ e fun h2 e2 => ⟨_, rfl, ifT_intro (fun h1 => ⟨_, rfl, ?_⟩) fun h1 => ?_⟩
    · have e3 : ys.any p = true := List.any_eq_true.2 ⟨y, List.mem_of_getElem? hx, h1⟩
      have e4 : decide ((j : Int) ≥ 0) = true := by simp
      have := hQ h2 (e.trans e2)
      rw [e3] at this; rw [e4]; exact this
    · refine ⟨ys.length - (j + 1), by omega, e.trans e2, j + 1, by omega, by rw [w64] <;> omega, rfl, fun z hz => ?_⟩
      rw [List.take_add_one, hx] at hz
      rcases List.mem_append.1 hz with hz | hz
      · exact hno z hz
      · have : z = y := by simpa using hz
        rw [this]; exact h1
  · have : j = ys.length := by omega
    subst this
    rw [List.take_length] at hno
    have e3 : ys.any p = false := by
      cases h2 : ys.any p with
      | false => rfl
      | true => obtain ⟨y, hy, h3⟩ := List.any_eq_true.1 h2; rw [hno y hy] at h3; cases h3
    have := hQ h' e
    rw [e3] at this
    exact ⟨_, rfl, this⟩
theorem spec22 (hI : Closed' prog Pm I) {o : Offr} {s : Sl} {xs : List Itm} {ship t : Int} {i5 i7 : Nat} (h5 : h i5 = some (.cells false [.slice 4 s, .int .i64 ship])) (h7 : h i7 = some (.cells false [.int .i64 t])) (ho : OkO o) (ht : At h 1 o.tg (strs o.tags)) (hotl : o.tags.length < 1000) (hs : Itms h s xs) (hx : OkL xs)
    (hQ : ∀ h', Ext h h' → Q [boo (decide (fitsF o xs ship t ≠ 0))] h') : I 22 [.agg (offC o), .one (.ptr (some (i5, 0))), .one (.ptr (some (i7, 0)))] Q h := by
  refine hI.go _ _ (den22 I o.key o.kind o.a o.b o.tg o.least o.most o.group o.alone o.order o.from_ o.to_ i5 0 i7 0 Q) ?_
  refine ⟨s, ship, ?_, t, read_cell h7 rfl, spec23 hI ho ht hotl hs hx.ok (by have := hx.few; omega) hx.tg fun h' e => ⟨_, rfl, ?_⟩⟩
  · rw [read_block h5 (by show 0 + 2 ≤ 2; decide)]; rfl
  · have := hQ h' e
    rw [show decide (fitsF o xs ship t ≠ 0) = !decide (fitsF o xs ship t = 0) by simp] at this
    exact this
theorem spec8 (hI : Closed' prog Pm I) {s l1 : Sl} {os : List Offr} {xs : List Itm} {ship t : Int} (hs : Offs h s os) (hsl : h.sl 12 s = some (rows offC os)) (hlen : os.length ≤ 12) (its : Itms h l1 xs) (hfew : xs.length ≤ 4)
    (hbad : ∀ h', Ext h h' → errP os xs ship t ≠ 0 → Q [.agg [.slice 1 ⟨none, 0⟩, .int .i64 0, .slice 2 ⟨none, 0⟩, .int .i64 0], int (errP os xs ship t)] h')
    (hQ : ∀ s1 s2 zs h', errP os xs ship t = 0 → Ext h h' → zs.Perm os → zs.Pairwise leO → At h' 1 s1 (nats (applyAll xs zs (lines0 xs) ship.toNat []).1) → At h' 2 s2 (rows cutC (applyAll xs zs (lines0 xs) ship.toNat []).2.2) →
      Q [.agg [.slice 1 s1, .int .i64 ((applyAll xs zs (lines0 xs) ship.toNat []).2.1 : Nat), .slice 2 s2, .int .i64 (((applyAll xs zs (lines0 xs) ship.toNat []).1.sum + (applyAll xs zs (lines0 xs) ship.toNat []).2.1 : Nat) : Int)], int 0] h') : I 8 [.one (.slice 12 s), .agg [.slice 4 l1, .int .i64 ship], int t] Q h := by
  refine hI.go _ _ (den8 I s l1 ship t Q) ?_
  refine newK_intro fun i5 h1 hn1 he1 => newK_intro fun i7 h2 hn2 he2 => ?_
  have e1 : Ext h h1 := he1 ▸ Ext.new hn1
  have e12 : Ext h1 h2 := he2 ▸ Ext.new hn2
  have e2 := e1.trans e12
  have c5 : h2 i5 = some (.cells false [.slice 4 l1, .int .i64 ship]) := e12 _ _ (by rw [he1, set_eq])
  have c7 : h2 i7 = some (.cells false [.int .i64 t]) := by rw [he2, set_eq]
  refine ⟨l1, ship, by rw [read_block c5 (by show 0 + 2 ≤ 2; decide)]; rfl, t, read_cell c7 rfl, ?_⟩
  refine spec19 hI (e2.offs hs) (e2.itms its) fun h3 e23 => ⟨_, rfl, ifT_intro (fun hA => ?_) fun hA => ?_⟩
  · have hA := nd hA
    have e : errP os xs ship t = errA os xs ship t := by unfold errP; rw [if_pos hA]
    have := hbad h3 (e2.trans e23) (by rw [e]; exact hA)
    rw [e] at this; exact this
  have hA : errA os xs ship t = 0 := Decidable.of_not_not (nd' hA)
  have e3 := e2.trans e23
  have hA' := hA
  obtain ⟨hA1, hA2, hA3⟩ := errA_ok hA'
  refine spec20 hI (e3.offs hs) (by omega) fun h4 e4 => ⟨_, rfl, ifT_intro (fun hT => ?_) fun hT => ?_⟩
  · have hT := nb hT
    have e : errP os xs ship t = 16 := by unfold errP; rw [if_neg (by rw [hA]; simp), if_pos hT]
    have := hbad h4 (e3.trans e4) (by rw [e]; decide)
    rw [e] at this; exact this
  have hT := nb' hT
  have e34 := e3.trans e4
  have e24 : Ext h2 h4 := e23.trans e4
  obtain ⟨hO1, hO2⟩ := errO_ok hA1
  obtain ⟨hK1, hK2, hK3, hK4⟩ := errK_ok hA2
  have hL : OkL xs := ⟨hK2, hfew, errK_tags hA2⟩
  have htags : ∀ o ∈ os, o.tags.length < 1000 := errO_tags hA1
  refine spec21c hI (caps := [(i5, 0), (i7, 0)]) (p := fun o => decide (fitsF o xs ship t ≠ 0)) (e34.offs hs).at_ (by omega) (fun y hy h5 Q' e5 hq => ?_) fun h5 e5 => ⟨_, rfl, ifT_intro (fun hF => ?_) fun hF => ?_⟩
  · exact spec22 hI (e5 _ _ (e24 _ _ c5)) (e5 _ _ (e24 _ _ c7)) (hO2 y hy) ((e34.trans e5).at_ (hs.tg y hy)) (htags y hy) ((e34.trans e5).itms its) hL hq
  · have e : errP os xs ship t = 11 := by unfold errP; rw [if_neg (by rw [hA]; simp), if_neg (by rw [hT]; simp), if_pos hF]
    have := hbad h5 (e34.trans e5) (by rw [e]; decide)
    rw [e] at this; exact this
  · have e : errP os xs ship t = 0 := by unfold errP; rw [if_neg (by rw [hA]; simp), if_neg (by rw [hT]; simp), if_neg (by rw [hF]; simp)]
    have e45 := e34.trans e5
    refine ⟨l1, ship, by rw [read_block (e5 _ _ (e24 _ _ c5)) (by show 0 + 2 ≤ 2; decide)]; rfl, ?_⟩
    obtain ⟨sh, hsh⟩ := Int.eq_ofNat_of_zero_le hK3
    rw [hsh] at hQ ⊢
    refine spec24 hI (e45.offs hs) (e45.sl hsl) hlen hO2 htags (e45.itms its) hL (by omega) fun s1 s2 zs h6 e6 hp hz a1 a2 => ⟨_, _, _, _, rfl, hQ s1 s2 zs h6 (hsh ▸ e) (e45.trans e6) hp hz a1 a2⟩
theorem spec10 (hI : Closed' prog Pm I) {s : Sl} {ws : List Nat} (hs : At h 1 s (nats ws)) (hw : ws.sum < 4611686018427387904) (hlen : ws.length < 1000) (hQ : Q [int (ws.sum : Nat)] h) : I 10 [.one (.slice 1 s)] Q h := by
  have hl : s.len = ws.length := by rw [hs.len1, nats_length]
  refine hI.go _ _ (den10 I s Q) ?_
  refine loopK_intro (fun (a : Int × Int) h' m => h' = h ∧ ∃ i : Nat, i ≤ ws.length ∧ a = ((((ws.take i).sum : Nat) : Int), (i : Int)) ∧ ws.length - i = m) ws.length ⟨rfl, 0, by omega, rfl, rfl⟩ ?_
  rintro a h' m ⟨rfl, i, hi, rfl, rfl⟩
  dsimp only [uncur]
  refine ifT_dec (fun hlt => ⟨⟨by omega, hlt⟩, ?_⟩) (fun hge => ?_)
  · have hil : i < ws.length := by omega
    refine hs.cell (nats_get (List.getElem?_eq_getElem hil)) fun b o hr => ⟨_, hr, ws.length - (i + 1), by omega, rfl, i + 1, by omega, ?_, rfl⟩
    have h1 := sum_step hil
    have h2 := take_sum_le ws (i + 1)
    rw [h1] at h2 ⊢
    generalize (ws.take i).sum = y at *
    generalize ws[i] = x at *
    rw [w64 (by omega) (by omega), w64 (by omega) (by omega)]
    rfl
  have : i = ws.length := by omega
  subst this
  rw [List.take_length]
  exact hQ
end
end Go.Proofs.YtfemminjhecocaaGreatVc
