/- BasketsPriced: what is left out of a row, and the law's contract. BasketsPriced: the law's contract. -/
import Derived.Test.YtfemminjhecocaaGreatDoorVcBpSame
set_option linter.unusedSimpArgs false
set_option linter.unusedVariables false
-- BpLaw
namespace Go.Proofs.YtfemminjhecocaaGreatDoorVc
open Go.Proofs.Tryz (prog)
open Go.Proofs.YtfemminjhecocaaGreatDoorShares
theorem rows_splice {α : Type} {f : α → List Cell} {k : Nat} (hf : ∀ a, (f a).length = k) (xs zs : List α) (i : Nat) (hi : i + zs.length ≤ xs.length) : splice (rows f xs) (i * k) (rows f zs) = rows f (xs.take i ++ zs ++ xs.drop (i + zs.length)) := by
  unfold splice
  rw [rows_take hf, rows_append, rows_append, rows_length hf, ← Nat.add_mul, rows_drop hf]
abbrev zeroO : Offr := ⟨⟨#[]⟩, 0, 0, 0, ⟨none, 0⟩, 0, 0, ⟨#[]⟩, false, 0, 0, 0, []⟩
theorem zero_rows (n : Nat) : slCells (VK.agg [Kd.str, Kd.int IntKind.i64, Kd.int IntKind.i64, Kd.int IntKind.i64, Kd.slice 1, Kd.int IntKind.i64, Kd.int IntKind.i64, Kd.str, Kd.bool, Kd.int IntKind.i64, Kd.int IntKind.i64, Kd.int IntKind.i64]) n = rows offC (List.replicate n zeroO) := by
  unfold slCells rows
  induction n with
  | zero => rfl
  | succ n ih =>
    rw [List.replicate_succ, List.replicate_succ]
    simp only [List.flatten_cons, List.flatMap_cons, List.map_cons] at ih ⊢
    rw [ih]
    rfl
/-- Rows of a block are written. -/
theorem store_rows {h0 h : Heap} {L : List Ow} {bs n : Nat} {xs zs : List Offr} {i : Nat} {new : List Cell} {K : T} (o : Owns h0 h ((12, ⟨some (bs, 0), n⟩, rows offC xs) :: L)) (hi : i + zs.length ≤ xs.length) (hn : new = rows offC zs)
    (hK : ∀ h', Owns h0 h' ((12, ⟨some (bs, 0), n⟩, rows offC (xs.take i ++ zs ++ xs.drop (i + zs.length))) :: L) → K h') : storeK [] bs (0 + i * 12) new K h := by
  subst hn
  have hl := rows_length offC_length zs
  have hx := rows_length offC_length xs
  refine ⟨_, (o.block List.mem_cons_self).1, by rw [hl, hx]; omega, ?_⟩
  show K _
  rw [updCells_splice (by rw [hl, hx]; omega), Nat.zero_add, rows_splice offC_length xs zs i hi]
  refine hK _ (o.change ?_)
  have := (o.all _ List.mem_cons_self).1
  simp only at this
  rw [this, hx, rows_length offC_length]
  simp only [List.length_append, List.length_take, List.length_drop]
  omega
theorem Owns.row_at {h0 h : Heap} {L : List Ow} {bs n m : Nat} {xs : List Offr} (o : Owns h0 h ((12, ⟨some (bs, 0), n⟩, rows offC xs) :: L)) (hm : m ≤ xs.length) : h.sl 12 ⟨some (bs, 0), m⟩ = some (rows offC (xs.take m)) := by
  show h.read bs 0 (m * 12) = _
  have hx := rows_length offC_length xs
  rw [read_block (o.block List.mem_cons_self).1 (by rw [hx]; omega), List.drop_zero, rows_take offC_length]
section
variable {I : Calls} {Q : Post} {h : Heap}
theorem spec15a (hI : Closed' prog Pm I) {o : Offr} {s : Sl} {xs : List Itm} {ship t : Int} (ht : At h 1 o.tg (strs o.tags)) (hotl : o.tags.length < 1000) (hs : Itms h s xs) (hxl : xs.length ≤ 50) (hxt : ∀ x ∈ xs, x.tags.length < 1000) (hQ : ∀ v h', Ext h h' → Q [int v] h') : I 15 [.agg (offC o), .agg [.slice 4 s, .int .i64 ship], int t] Q h := by
  have hl := hs.len
  refine hI.go _ _ (den15 I o.key o.kind o.a o.b o.tg o.least o.most o.group o.alone o.order o.from_ o.to_ s ship t Q) ?_
  refine loopK_intro (fun (a : Int × Int) h' m => Ext h h' ∧ ∃ i : Nat, i ≤ xs.length ∧ a.2 = (i : Int) ∧ xs.length - i = m) xs.length ⟨Ext.refl _, 0, by omega, rfl, rfl⟩ ?_
  rintro ⟨a, y⟩ h' m ⟨x', i, hi, rfl, rfl⟩
  dsimp only [uncur]
  refine ifT_dec (fun hlt => ⟨⟨by omega, hlt⟩, ?_⟩) (fun hge => ?_)
  · have hx := List.getElem?_eq_getElem (show i < xs.length by omega)
    generalize xs[i] = x at hx
    have hxm := List.mem_of_getElem? hx
    have ew : IntKind.i64.wrap ((i : Int) + 1) = ((i + 1 : Nat) : Int) := by rw [w64] <;> omega
    refine (x'.at_ hs.at_).row itmC_length (by decide) hx fun bb oo hr => ⟨x.key, x.cents, x.many, x.tg, hr, ?_⟩
    exact spec47 hI ((x'.at_ ht)) (x'.at_ (hs.tg x hxm)) (by omega) (hxt x hxm) fun g xg => ⟨_, rfl, ifT_intro (fun hm => ⟨xs.length - (i + 1), by omega, x'.trans xg, i + 1, by omega, ew, rfl⟩) fun hm => ⟨xs.length - (i + 1), by omega, x'.trans xg, i + 1, by omega, ew, rfl⟩⟩
  · refine joinK_intro (fun (b : Bool) h'' => h'' = h') ?_ fun j hj => ifT_dec (fun hk => hj _ _ rfl) fun hk => hj _ _ rfl
    rintro b h'' rfl
    exact ifT_dec (fun h1 => hQ _ _ x') fun h1 => ifT_dec (fun h2 => hQ _ _ x') fun h2 => ifT_intro (fun h3 => hQ _ _ x') fun h3 => ifT_dec (fun h4 => hQ _ _ x') fun h4 => hQ _ _ x'
theorem spec13 (hI : Closed' prog Pm I) {o : Offr} {s : Sl} {xs : List Itm} {ship t : Int} {i j : Nat} (hi : h i = some (.cells false [.int .i64 t])) (hj : h j = some (.cells false [.slice 4 s, .int .i64 ship])) (ht : At h 1 o.tg (strs o.tags)) (hotl : o.tags.length < 1000) (hs : Itms h s xs) (hxl : xs.length ≤ 50) (hxt : ∀ x ∈ xs, x.tags.length < 1000)
    (hQ : ∀ b h', Ext h h' → Q [boo b] h') : I 13 [.agg (offC o), .one (.ptr (some (i, 0))), .one (.ptr (some (j, 0)))] Q h := by
  refine hI.go _ _ (den13 I o.key o.kind o.a o.b o.tg o.least o.most o.group o.alone o.order o.from_ o.to_ i 0 j 0 Q) ?_
  refine ⟨t, read_cell hi rfl, spec14 hI ⟨_, rfl, ifT_intro (fun _ => ⟨s, ship, ?_, t, read_cell hi rfl, ?_⟩) fun _ => hQ _ _ (Ext.refl _)⟩⟩
  · rw [read_block hj (by simp)]; rfl
  · exact spec15a hI ht hotl hs hxl hxt fun v h' e => ⟨v, rfl, hQ _ _ e⟩
abbrev capV (caps : List (Nat × Nat)) : List V := caps.map fun a => .one (.ptr (some a))
theorem spec46a (hI : Closed' prog Pm I) {s : Sl} {ys : List Offr} {g : FuncId} {caps : List (Nat × Nat)} (hs : At h 12 s (rows offC ys)) (hlen : ys.length < 1000)
    (hg : ∀ y ∈ ys, ∀ h', Ext h h' → ∀ Q' : Post, (∀ b h'', Ext h' h'' → Q' [boo b] h'') → I g (.agg (offC y) :: capV caps) Q' h')
    (hn : ∀ h', Ext h h' → Q [int (-1)] h') (hy : ∀ (j : Nat) h', j < ys.length → Ext h h' → Q [int j] h') : I 46 [.one (.slice 12 s), .one (.func (some (g, caps)))] Q h := by
  have hl : s.len = ys.length := hs.rowsLen offC_length (by decide)
  refine hI.go _ _ (den46 I s _ _) ?_
  refine loopK_intro (fun (a : Int) h' m => Ext h h' ∧ ∃ j : Nat, j ≤ ys.length ∧ a = j ∧ ys.length - j = m) ys.length ⟨Ext.refl _, 0, by omega, rfl, rfl⟩ ?_
  rintro a h' m ⟨e, j, hj, rfl, rfl⟩
  refine ifT_dec (fun hlt => ⟨⟨by omega, hlt⟩, ?_⟩) (fun hge => hn _ e)
  have hx := List.getElem?_eq_getElem (show j < ys.length by omega)
  generalize ys[j] = y at hx
  refine (e.at_ hs).row offC_length (by decide) hx fun bb o hr => ⟨y.key, y.kind, y.a, y.b, y.tg, y.least, y.most, y.group, y.alone, y.order, y.from_, y.to_, hr, ?_⟩
  exact hg y (List.mem_of_getElem? hx) h' e _ fun b h'' e2 => ⟨b, rfl, ifT_intro (fun h1 => hy j h'' (by omega) (e.trans e2)) fun h1 => ⟨ys.length - (j + 1), by omega, e.trans e2, j + 1, by omega, by rw [w64] <;> omega, rfl⟩⟩
/-- Some of the rows are left out. -/
theorem spec12 (hI : Closed' prog Pm I) {h0 : Heap} {s : Sl} {ys : List Offr} {L : List Ow} {g : FuncId} {caps : List (Nat × Nat)} (o : Owns h0 h ((12, s, rows offC ys) :: L)) (hlen : ys.length < 1000)
    (hg : ∀ y ∈ ys, ∀ zs h', Owns h0 h' ((12, s, rows offC zs) :: L) → ∀ Q' : Post, (∀ b h'', Ext h' h'' → Q' [boo b] h'') → I g (.agg (offC y) :: capV caps) Q' h')
    (hQ : ∀ n ws h', n ≤ ws.length → ws.length = ys.length → (∀ x ∈ ws.take n, x ∈ ys) → Owns h0 h' ((12, s, rows offC ws) :: L) → Q [.one (.slice 12 ⟨s.a, n⟩)] h') : I 12 [.one (.slice 12 s), .one (.func (some (g, caps)))] Q h := by
  have hat := o.at_ (sz := 12) (s := s) (cs := rows offC ys) List.mem_cons_self
  have hl : s.len = ys.length := hat.rowsLen offC_length (by decide)
  refine hI.go _ _ (den12 I s _ Q) ?_
  refine spec46a hI hat hlen (fun y hy h' e Q' hQ' => hg y hy ys h' (o.mono e) Q' hQ') (fun h' e => ⟨_, rfl, ifT_dec (fun _ => ?_) fun h => absurd rfl h⟩) fun j h1 hj e1 => ⟨_, rfl, ifT_dec (fun h => absurd h (by omega)) fun _ => ?_⟩
  · have := hQ ys.length ys h' (Nat.le_refl _) rfl (fun x hx => List.mem_of_mem_take hx) (o.mono e)
    rw [← hl] at this; exact this
  have o1 := o.mono e1
  have hrl := rows_length offC_length ys
  obtain ⟨bs, hbs, _⟩ := o1.has (s := s) (cs := rows offC ys) (sz := 12) (by simp) (fun h => by rw [h] at hrl; simp at hrl; omega)
  obtain ⟨sa, n⟩ := s
  simp only at hl hbs
  cases hbs
  subst hl
  refine loopK_intro (fun (a : Int × Int) h' m => ∃ (p c : Nat) (ws : List Offr), p < c ∧ c ≤ ys.length ∧ a = ((p : Int), (c : Int)) ∧ ys.length - c = m ∧ ws.length = ys.length ∧ (∀ x ∈ ws.take p, x ∈ ys) ∧ ws.drop c = ys.drop c ∧ Owns h0 h' ((12, ⟨some (bs, 0), ys.length⟩, rows offC ws) :: L)) (ys.length - (j + 1))
    ⟨j, j + 1, ys, by omega, by omega, by rw [w64 (by omega) (by omega)]; rfl, rfl, rfl, fun x hx => List.mem_of_mem_take hx, rfl, o1⟩ ?_
  rintro a h' m ⟨p, c, ws, hpc, hc, rfl, rfl, hwl, hws, hwd, o2⟩
  dsimp only [uncur]
  refine ifT_dec (fun hlt => ⟨⟨by omega, hlt⟩, ?_⟩) fun hge => ⟨⟨by omega, by omega, by omega⟩, ?_⟩
  · have hcl : c < ys.length := by omega
    have hy : ys[c]? = some ys[c] := List.getElem?_eq_getElem hcl
    generalize ys[c] = y at hy
    have hwc : ws[c]? = some y := by
      have h3 : (ws.drop c)[0]? = (ys.drop c)[0]? := by rw [hwd]
      rw [List.getElem?_drop, List.getElem?_drop] at h3
      simpa [hy] using h3
    have hw2 : ws.drop (c + 1) = ys.drop (c + 1) := by rw [← List.drop_drop, ← List.drop_drop, hwd]
    refine (o2.at_ (sz := 12) (s := ⟨some (bs, 0), ys.length⟩) (cs := rows offC ws) List.mem_cons_self).row offC_length (by decide) hwc fun bb oo hr => ⟨y.key, y.kind, y.a, y.b, y.tg, y.least, y.most, y.group, y.alone, y.order, y.from_, y.to_, hr, ?_⟩
    refine hg y (List.mem_of_getElem? hy) ws h' o2 _ fun b h3 e3 => ⟨b, rfl, ifT_intro (fun _ => ⟨⟨by omega, by show (p : Int) < ((ys.length : Nat) : Int); omega⟩, ?_⟩) fun _ => ?_⟩
    · refine derefK_intro rfl ?_
      rw [Int.toNat_natCast]
      refine store_rows (zs := [y]) (o2.mono e3) (by simp; omega) (by simp [rows, offC]) fun h4 o4 => ?_
      have hpl : (ws.take p).length = p := by rw [List.length_take]; omega
      refine ⟨ys.length - (c + 1), by omega, p + 1, c + 1, ws.take p ++ [y] ++ ws.drop (p + 1), by omega, by omega, by rw [w64 (by omega) (by omega), w64 (by omega) (by omega)]; rfl, rfl, ?_, ?_, ?_, o4⟩
      · simp only [List.length_append, List.length_take, List.length_drop, List.length_singleton]; omega
      · intro x hx
        rw [List.take_append_of_le_length (by simp [hpl]), List.take_of_length_le (by simp [hpl])] at hx
        rcases List.mem_append.1 hx with hx | hx
        · exact hws x hx
        · rw [List.mem_singleton.1 hx]; exact List.mem_of_getElem? hy
      · rw [List.drop_append, List.drop_of_length_le (by simp [hpl]; omega), List.nil_append, List.drop_drop, List.length_append, hpl, List.length_singleton, ← hw2]
        congr 1
        omega
    · exact ⟨ys.length - (c + 1), by omega, p, c + 1, ws, by omega, by omega, by rw [w64 (by omega) (by omega)]; rfl, rfl, hwl, hws, hw2, o2.mono e3⟩
  · show clearK [] (some (bs, 0 + ((p : Nat) : Int).toNat * 12)) (slCells _ (((ys.length : Nat) : Int).toNat - ((p : Nat) : Int).toNat)) _ h'
    rw [Int.toNat_natCast, Int.toNat_natCast, zero_rows]
    unfold clearK
    dsimp only
    refine store_rows (xs := ws) (i := p) (zs := List.replicate (ys.length - p) zeroO) o2 (by rw [List.length_replicate]; omega) rfl fun h4 o4 => ?_
    refine ⟨⟨by omega, by omega, by show (p : Int) ≤ ((ys.length : Nat) : Int); omega⟩, ?_⟩
    have hpl : (ws.take p).length = p := by rw [List.length_take]; omega
    have hd : ws.drop (p + (List.replicate (ys.length - p) zeroO).length) = [] := List.drop_of_length_le (by rw [List.length_replicate]; omega)
    rw [hd, List.append_nil] at o4
    have := hQ p (ws.take p ++ List.replicate (ys.length - p) zeroO) h4 (by simp; omega) (by simp; omega) (fun x hx => by
      rw [List.take_append_of_le_length (by omega), List.take_of_length_le (by omega)] at hx
      exact hws x hx) o4
    have e : (Sl.sub ⟨some (bs, 0), ys.length⟩ 12 0 ((p : Nat) : Int).toNat) = ⟨some (bs, 0), p⟩ := by
      simp [Sl.sub]
    show Q [.one (.slice 12 (Sl.sub ⟨some (bs, 0), ys.length⟩ 12 0 ((p : Nat) : Int).toNat))] h4
    rw [e]; exact this
end
end Go.Proofs.YtfemminjhecocaaGreatDoorVc
-- BpLaw2
namespace Go.Proofs.YtfemminjhecocaaGreatDoorVc
open Go.Proofs.Tryz (prog)
open Go.Proofs.YtfemminjhecocaaGreatDoorShares
section
variable {I : Calls} {h : Heap}
theorem spec18t (hI : Closed' prog Pm I) {F : Bool → T} (hF : F true h) : I 18 [] (fun cs h => ∃ b : Bool, (cs = [V.one (Cell.bool b)]) ∧ F b h) h := spec18 hI ⟨_, rfl, hF⟩
/-- What the law's end needs: the two variables, the offers, the basket. -/
structure BpEnd (h : Heap) (i14 i16 : Nat) (l9 : Sl) (ship t : Int) (xs : List Itm) (l : Sl) (os : List Offr) : Prop where
  c14 : h i14 = some (.cells false [.slice 4 l9, .int .i64 ship])
  c16 : h i16 = some (.cells false [.int .i64 t])
  off : Offs h l os
  sl : h.sl 12 l = some (rows offC os)
  few : os.length ≤ 4
  its : Itms h l9 xs
theorem BpEnd.mono {h' : Heap} {i14 i16 : Nat} {l9 : Sl} {ship t : Int} {xs : List Itm} {l : Sl} {os : List Offr} (E : BpEnd h i14 i16 l9 ship t xs l os) (e : Ext h h') : BpEnd h' i14 i16 l9 ship t xs l os :=
  ⟨e _ _ E.c14, e _ _ E.c16, e.offs E.off, e.sl E.sl, E.few, e.itms E.its⟩
theorem bp_end {h0 : Heap} {i14 i16 : Nat} {l9 : Sl} {ship t : Int} {xs : List Itm} {s : Sl} {ws : List Offr} {n : Nat} {M T1 T2 : List Ow} (o : Owns h0 h ((12, s, rows offC ws) :: M)) (m14 : (2, (⟨some (i14, 0), 1⟩ : Sl), [Cell.slice 4 l9, .int .i64 ship]) ∈ M)
    (m16 : (1, (⟨some (i16, 0), 1⟩ : Sl), [Cell.int .i64 t]) ∈ M) (m9 : (4, l9, rows itmC xs) ∈ M) (hT1 : ∀ p ∈ T1, p ∈ M) (hT2 : ∀ p ∈ T2, p ∈ M) (htg : ∀ x ∈ ws.take n, tgIn T1 x.tg x.tags) (hti : ∀ x ∈ xs, tgIn T2 x.tg x.tags) (hn : n ≤ ws.length) (hw : ws.length ≤ 4) :
    BpEnd h i14 i16 l9 ship t xs ⟨s.a, n⟩ (ws.take n) := by
  have hsl : h.sl 12 ⟨s.a, n⟩ = some (rows offC (ws.take n)) := by
    have hrl := rows_length offC_length ws
    cases hws : ws with
    | nil =>
      subst hws
      have hn0 : n = 0 := by simpa using hn
      subst hn0
      rcases (o.all _ List.mem_cons_self).2 with ⟨ha, _⟩ | ⟨k, ha, _, hk⟩
      · simp only at ha; rw [ha]; rfl
      · simp only at ha hk
        rw [ha]
        show h.read k 0 _ = _
        rw [read_block hk (by simp)]
        simp [rows]
    | cons w ws' =>
      obtain ⟨bs, hbs, _⟩ := o.has (s := s) (cs := rows offC ws) (sz := 12) (by simp) (fun h => by rw [h] at hrl; rw [hws] at hrl; simp at hrl)
      rw [hbs] at o ⊢
      rw [← hws]
      exact o.row_at hn
  refine ⟨(o.block (List.mem_cons_of_mem _ m14)).1, (o.block (List.mem_cons_of_mem _ m16)).1, ⟨⟨?_, .inr hsl⟩, fun x hx => (htg x hx).at_ o fun p hp => List.mem_cons_of_mem _ (hT1 p hp)⟩, hsl, by rw [List.length_take]; omega, ⟨o.at_ (List.mem_cons_of_mem _ m9), fun x hx => (hti x hx).at_ o fun p hp => List.mem_cons_of_mem _ (hT2 p hp)⟩⟩
  rw [rows_length offC_length, List.length_take, Nat.min_eq_left hn]
theorem spec3 (hI : Closed' prog Pm I) {s : Sl} {zs : List Int} (hs : At h 1 s (ints zs)) : I 3 [.one (.slice 1 s)] tru h := by
  refine hI.go _ _ (den3 I s tru) ?_
  refine newK_intro fun i2 h1 hn1 he1 => ?_
  have S0 : Strm h1 i2 s zs 0 := he1 ▸ Strm.make hs hn1
  refine spec8 hI S0 S0.owns (by decide) (by decide) (by decide) fun l6 os T1 t6 h6 o6 htg hol ht6 => ⟨l6, rfl, ?_⟩
  refine spec9 hI S0 o6 (by omega) fun l9 ship xs T2 t9 h9 o9 hti hxl ht9 => ⟨l9, ship, rfl, ?_⟩
  refine spec10 hI S0 o9 (by omega) fun t h12 o12 => ⟨t, rfl, ?_⟩
  have hol : os.length ≤ 4 := by omega
  refine newK_intro fun i14 h15 hn14 he14 => newK_intro fun i16 h17 hn16 he16 => ?_
  have o15 := o12.new (sz := 2) (n := 1) (cs := [.slice 4 ⟨none, 0⟩, .int .i64 0]) hn14 rfl
  rw [← he14] at o15
  have o17 := o15.new (sz := 1) (n := 1) (cs := [.int .i64 0]) hn16 rfl
  rw [← he16] at o17
  have o17 := o17.swp
  refine ⟨_, (o17.block List.mem_cons_self).1, Nat.le_refl 2, ?_⟩
  have o18 := o17.change (n' := 1) (sz' := 2) (cs' := [.slice 4 l9, .int .i64 ship]) rfl
  obtain ⟨h18, hh18⟩ : ∃ h18, h17.set i14 (.cells false [.slice 4 l9, .int .i64 ship]) = h18 := ⟨_, rfl⟩
  show storeK [] i16 0 [.int .i64 t] _ (h17.set i14 (.cells false [.slice 4 l9, .int .i64 ship]))
  rw [hh18]
  rw [hh18] at o18
  have o18 := o18.swp
  refine storeK_one (o18.block List.mem_cons_self).1 (by decide) ?_
  have o19 := o18.change (n' := 1) (sz' := 1) (cs' := [.int .i64 t]) rfl
  obtain ⟨h19, hh19⟩ : ∃ h19, h18.set i16 (.cells false [.int .i64 t]) = h19 := ⟨_, rfl⟩
  rw [List.set_cons_zero, hh19]
  rw [hh19] at o19
  have o19 := o19.perm (List.perm_middle (l₁ := [_, _]))
  refine spec11 hI (o19.toStrm S0 (t' := t9 + 1) (by simp) (by omega)) (by decide) (by decide) fun b22 => ⟨b22, rfl, ?_⟩
  have o20 := o19.next (t' := t9 + 1 + 1)
  obtain ⟨h20, hh20⟩ : ∃ h20, h19.set i2 (strm s (t9 + 1 + 1)) = h20 := ⟨_, rfl⟩
  rw [hh20]
  rw [hh20] at o20
  have o21 : Owns (h1.del i2) h20 ((12, l6, rows offC os) :: ((owS i2 s (t9 + 1 + 1) :: (1, ⟨some (i16, 0), 1⟩, [.int .i64 t]) :: (2, ⟨some (i14, 0), 1⟩, [.slice 4 l9, .int .i64 ship]) :: (4, l9, rows itmC xs) :: T2) ++ (T1 ++ []))) :=
    o20.perm (List.perm_middle (l₁ := owS i2 s (t9 + 1 + 1) :: (1, ⟨some (i16, 0), 1⟩, [.int .i64 t]) :: (2, ⟨some (i14, 0), 1⟩, [.slice 4 l9, .int .i64 ship]) :: (4, l9, rows itmC xs) :: T2))
  obtain ⟨M, hM⟩ : ∃ M, ((owS i2 s (t9 + 1 + 1) :: (1, ⟨some (i16, 0), 1⟩, [.int .i64 t]) :: (2, ⟨some (i14, 0), 1⟩, [.slice 4 l9, .int .i64 ship]) :: (4, l9, rows itmC xs) :: T2) ++ (T1 ++ [])) = M := ⟨_, rfl⟩
  have m16 : (1, (⟨some (i16, 0), 1⟩ : Sl), [Cell.int .i64 t]) ∈ M := by rw [← hM]; simp
  have m14 : (2, (⟨some (i14, 0), 1⟩ : Sl), [Cell.slice 4 l9, .int .i64 ship]) ∈ M := by rw [← hM]; simp
  have m9 : (4, l9, rows itmC xs) ∈ M := by rw [← hM]; simp
  have hT1 : ∀ p ∈ T1, p ∈ M := fun p hp => by rw [← hM]; simp [hp]
  have hT2 : ∀ p ∈ T2, p ∈ M := fun p hp => by rw [← hM]; simp [hp]
  rw [hM] at o21
  have hal : l6.len = os.length := (o21.at_ (s := l6) List.mem_cons_self).rowsLen offC_length (by decide)
  clear o20 o19 o18 o17 o15 o12 o9 o6 hh20 hh19 hh18 hn14 hn16 he14 he16 hM
  refine joinK_intro (fun (l : Sl) h' => ∃ os', BpEnd h' i14 i16 l9 ship t xs l os') ?_ fun j hj => ifT_intro (fun _ => ?_) fun _ => ?_
  · rintro l g1 ⟨os', E⟩
    refine ⟨l9, ship, ?_, t, read_cell E.c16 rfl, ?_⟩
    · rw [read_block E.c14 (by simp)]; rfl
    have last : ∀ (p1 q1 p2 q2 : Sl) (n m e1 : Int) (a : List Nat) (c : List (ByteArray × Nat)) (g : Heap), At g 1 p1 (nats a) → At g 1 q1 (nats a) → At g 2 p2 (rows cutC c) → At g 2 q2 (rows cutC c) → a.length < 1000 → c.length < 1000 →
        I 18 [] (fun cs45 => fun h46 => ∃ b47 : Bool, (cs45 = [V.one (Cell.bool b47)]) ∧ (ifT b47 (ifT (decide (e1 = e1)) (fun h48 => I 19 [V.agg [Cell.slice 1 p1, Cell.int IntKind.i64 n, Cell.slice 2 p2, Cell.int IntKind.i64 m], V.agg [Cell.slice 1 q1, Cell.int IntKind.i64 n, Cell.slice 2 q2, Cell.int IntKind.i64 m]]
          (fun cs49 => fun h50 => ∃ b51 : Bool, (cs49 = [V.one (Cell.bool b51)]) ∧ tru [V.one (Cell.bool b51)] h50) h48) (tru [V.one (Cell.bool false)])) (tru [V.one (Cell.bool false)])) h46) g := by
      intro p1 q1 p2 q2 n m e1 a c g a1 a2 a3 a4 l1 l2
      refine spec18t hI (F := fun b => _) (ifT_intro (fun _ => ifT_dec (fun _ => ?_) fun h => absurd rfl h) fun h => by cases h)
      exact spec19 hI a1 a2 a3 a4 l1 l2 ⟨true, rfl, rfl⟩
    refine spec16 hI E.off E.sl (by have := E.few; omega) E.its hxl (fun g2 e2 hb => ⟨_, _, _, _, _, rfl, ?_⟩) fun s1 s2 zs g2 he e2 hzp hzs a1 a2 => ⟨_, _, _, _, _, rfl, ?_⟩
    · have E2 := E.mono e2
      refine ⟨l9, ship, ?_, t, read_cell E2.c16 rfl, ?_⟩
      · rw [read_block E2.c14 (by simp)]; rfl
      refine spec17 hI E2.off E2.sl (by have := E.few; omega) E2.its hxl (fun g3 e3 _ => ⟨_, _, _, _, _, rfl, ?_⟩) fun s3 s4 zs2 g3 he => absurd he hb
      exact last _ _ _ _ _ _ _ [] [] g3 ⟨rfl, .inl rfl⟩ ⟨rfl, .inl rfl⟩ ⟨rfl, .inl rfl⟩ ⟨rfl, .inl rfl⟩ (by simp) (by simp)
    · have E2 := E.mono e2
      refine ⟨l9, ship, ?_, t, read_cell E2.c16 rfl, ?_⟩
      · rw [read_block E2.c14 (by simp)]; rfl
      refine spec17 hI E2.off E2.sl (by have := E.few; omega) E2.its hxl (fun g3 e3 hb => absurd he hb) fun s3 s4 zs2 g3 _ e3 hzp2 hzs2 a3 a4 => ⟨_, _, _, _, _, rfl, ?_⟩
      have hA := errP_A he
      obtain ⟨hA1, hA2, hA3⟩ := errA_ok hA
      have hd := errO_distinct hA1
      have z1 := sortO_eq hd hzp hzs
      have z2 := sortO_eq hd hzp2 hzs2
      rw [← z1] at z2
      subst z2
      have hll : (lines0 xs).length = xs.length := by simp [lines0]
      have hpr := applyAll_under (items := xs) zs2 (lines0 xs) ship.toNat [] (fun o ho => (errO_ok hA1).2 o (hzp.mem_iff.1 ho)) hll
      have hl1 : (applyAll xs zs2 (lines0 xs) ship.toNat []).1.length = xs.length := hpr.1.1.trans hll
      have hl2 : (applyAll xs zs2 (lines0 xs) ship.toNat []).2.2.length < 1000 := by
        have h1 := hpr.2.2.2
        have h2 := hzp.length_eq
        have h3 := E.few
        rw [h1, h2]; simp; omega
      exact last _ _ _ _ _ _ _ _ _ g3 (e3.at_ a1) a3 (e3.at_ a2) a4 (by rw [hl1]; omega) hl2
  · refine spec12 hI o21 (by omega) (fun y hy zs h' o' Q' hQ' => ?_) fun n ws h' hn hwl hws o' => ⟨_, rfl, ?_⟩
    · have hty := htg y hy
      refine spec13 hI (o'.block (List.mem_cons_of_mem _ m16)).1 (o'.block (List.mem_cons_of_mem _ m14)).1 (hty.at_ o' fun p hp => List.mem_cons_of_mem _ (hT1 p hp)) hty.len ⟨o'.at_ (List.mem_cons_of_mem _ m9), fun x hx => (hti x hx).at_ o' fun p hp => List.mem_cons_of_mem _ (hT2 p hp)⟩ (by omega) (fun x hx => (hti x hx).len) hQ'
    · have htw : ∀ x ∈ ws.take n, tgIn T1 x.tg x.tags := fun x hx => htg x (hws x hx)
      refine loopK_intro (fun (a : Int) h' m => ∃ (k : Nat) (ws : List Offr), k ≤ n ∧ a = (k : Int) ∧ n - k = m ∧ ws.length = os.length ∧ (∀ x ∈ ws.take n, tgIn T1 x.tg x.tags) ∧ Owns (h1.del i2) h' ((12, l6, rows offC ws) :: M)) n
        ⟨0, ws, by omega, rfl, rfl, hwl, htw, o'⟩ ?_
      have hno : n ≤ os.length := by omega
      clear htw hws o' hwl hn
      rintro a g1 m ⟨k, vs, hk, rfl, rfl, hvl, hvt, o1⟩
      refine ifT_dec (fun hlt => ⟨⟨by omega, hlt⟩, ?_⟩) fun hge => ?_
      · have hkn : k < n := by have : (k : Int) < (n : Int) := hlt; omega
        have hx : vs[k]? = some vs[k] := List.getElem?_eq_getElem (by omega)
        generalize vs[k] = x at hx
        have hxt : tgIn T1 x.tg x.tags := hvt x (List.mem_of_getElem? (by rw [List.getElem?_take, if_pos hkn]; exact hx))
        have hrl := rows_length offC_length vs
        obtain ⟨bs, hbs, _⟩ := o1.has (s := l6) (cs := rows offC vs) (sz := 12) (by simp) (fun h => by rw [h] at hrl; simp at hrl; omega)
        have ha : l6.a = some (bs, 0) := by rw [hbs]
        have o2 := o1
        rw [hbs] at o2
        refine derefK_intro ha ?_
        refine store_row (x' := { x with group := ⟨#[]⟩ }) offC_length o2 hx (by decide) rfl fun g2 o3 => ⟨⟨by omega, hlt⟩, ?_⟩
        refine derefK_intro ha ?_
        refine store_row (x := { x with group := ⟨#[]⟩ }) (x' := { x with group := ⟨#[]⟩, alone := false }) offC_length o3 (by rw [List.getElem?_set_self (by omega)]) (by decide) rfl fun g3 o4 => ?_
        rw [← hbs] at o4
        refine ⟨n - (k + 1), by omega, k + 1, _, by omega, by rw [w64 (by omega) (by omega)]; rfl, rfl, by simp [hvl], fun y hy => ?_, o4⟩
        rw [List.take_set, List.take_set] at hy
        rcases List.mem_or_eq_of_mem_set hy with hy | rfl
        · rcases List.mem_or_eq_of_mem_set hy with hy | rfl
          · exact hvt y hy
          · exact hxt
        · exact hxt
      · exact hj _ _ ⟨_, bp_end o1 m14 m16 m9 hT1 hT2 hvt hti (by omega) (by omega)⟩
  · have htw : ∀ x ∈ os.take os.length, tgIn T1 x.tg x.tags := fun x hx => htg x (List.mem_of_mem_take hx)
    have E := bp_end (ship := ship) (t := t) o21 m14 m16 m9 hT1 hT2 htw hti (Nat.le_refl _) hol
    rw [List.take_length, ← hal] at E
    exact hj _ _ ⟨os, E⟩
end
end Go.Proofs.YtfemminjhecocaaGreatDoorVc
