/- Where tags lie does not change what offers cost. SumsStay: the law's contract. SumsStay: the law's contract (the purse; the whole). -/
import Derived.Test.YtdjancoknephnaaGreatVcSsG
set_option linter.unusedSimpArgs false
set_option linter.unusedVariables false
-- SsSame
namespace Go.Proofs.YtdjancoknephnaaGreatVc
theorem matchB_pur (o : Offr) (x : Itm) : matchB o.pur x.pur = matchB o x := rfl
theorem scanO_pur : ∀ (l pre : List Offr), scanO (pre.map Offr.pur) (l.map Offr.pur) = scanO pre l
  | [], _ => rfl
  | x :: l, pre => by
    have ih := scanO_pur l (pre ++ [x])
    rw [List.map_append] at ih
    simp only [List.map_cons, scanO, List.any_map]
    rw [← ih]
    rfl
theorem scanI_pur : ∀ (l pre : List Itm), scanI (pre.map Itm.pur) (l.map Itm.pur) = scanI pre l
  | [], _ => rfl
  | x :: l, pre => by
    have ih := scanI_pur l (pre ++ [x])
    rw [List.map_append] at ih
    simp only [List.map_cons, scanI, List.any_map]
    rw [← ih]
    rfl
theorem togP_pur (n : Nat) : ∀ (l pre : List Offr), togP n (pre.map Offr.pur) (l.map Offr.pur) = togP n pre l
  | [], _ => rfl
  | x :: l, pre => by
    have ih := togP_pur n l (pre ++ [x])
    rw [List.map_append] at ih
    simp only [List.map_cons, togP, List.any_map]
    rw [← ih]
    rfl
theorem allF_pur (o : Offr) (xs : List Itm) : allF o.pur (xs.map Itm.pur) = allF o xs := by
  unfold allF
  simp only [List.map_map, List.filter_map]
  rfl
theorem fitsF_pur (o : Offr) (xs : List Itm) (ship t : Int) : fitsF o.pur (xs.map Itm.pur) ship t = fitsF o xs ship t := by
  unfold fitsF
  rw [allF_pur]
  rfl
theorem errA_pur (os : List Offr) (xs : List Itm) (ship t : Int) : errA (os.map Offr.pur) (xs.map Itm.pur) ship t = errA os xs ship t := by
  unfold errA errO errK
  rw [List.length_map, List.length_map, show scanO [] (os.map Offr.pur) = scanO [] os from scanO_pur os [], show scanI [] (xs.map Itm.pur) = scanI [] xs from scanI_pur xs []]
theorem errP_pur (os : List Offr) (xs : List Itm) (ship t : Int) : errP (os.map Offr.pur) (xs.map Itm.pur) ship t = errP os xs ship t := by
  unfold errP
  rw [errA_pur, List.length_map, show togP os.length [] (os.map Offr.pur) = togP os.length [] os from togP_pur _ os [], List.any_map]
  have e : ((fun o => decide (fitsF o (xs.map Itm.pur) ship t ≠ 0)) ∘ Offr.pur) = fun o => decide (fitsF o xs ship t ≠ 0) := funext fun o => by
    show decide (fitsF o.pur (xs.map Itm.pur) ship t ≠ 0) = _
    rw [fitsF_pur]
  rw [e]
theorem applyF_pur (xs : List Itm) (o : Offr) (left : List Nat) (ship : Nat) : applyF (xs.map Itm.pur) o.pur left ship = applyF xs o left ship := by
  unfold applyF
  rw [List.map_map, List.map_map]
  rfl
theorem applyAll_pur (xs : List Itm) : ∀ (os : List Offr) (left : List Nat) (ship : Nat) (cuts : List (ByteArray × Nat)), applyAll (xs.map Itm.pur) (os.map Offr.pur) left ship cuts = applyAll xs os left ship cuts
  | [], _, _, _ => rfl
  | o :: os, left, ship, cuts => by
    simp only [List.map_cons, applyAll]
    rw [applyF_pur]
    exact applyAll_pur xs os _ _ _
theorem priceF_pur (xs : List Itm) (os : List Offr) (ship : Nat) : priceF (xs.map Itm.pur) (os.map Offr.pur) ship = priceF xs os ship := by
  unfold priceF sortO
  have e : lines0 (xs.map Itm.pur) = lines0 xs := by unfold lines0; rw [List.map_map]; rfl
  rw [e, ← List.map_mergeSort (r := leOB) (s := leOB) (f := Offr.pur) (fun a _ b _ => rfl)]
  exact applyAll_pur xs _ _ _ _
/-- Offers and baskets that are the same but for where their tags lie. -/
theorem errP_same {os os2 : List Offr} {xs xs2 : List Itm} {ship t : Int} (h1 : os.map Offr.pur = os2.map Offr.pur) (h2 : xs.map Itm.pur = xs2.map Itm.pur) : errP os2 xs2 ship t = errP os xs ship t := by
  rw [← errP_pur os2, ← h1, ← h2, errP_pur]
theorem priceF_same {os os2 : List Offr} {xs xs2 : List Itm} {ship : Nat} (h1 : os.map Offr.pur = os2.map Offr.pur) (h2 : xs.map Itm.pur = xs2.map Itm.pur) : priceF xs2 os2 ship = priceF xs os ship := by
  rw [← priceF_pur xs2, ← h1, ← h2, priceF_pur]
end Go.Proofs.YtdjancoknephnaaGreatVc
-- SsLaw
namespace Go.Proofs.YtdjancoknephnaaGreatVc
open Go.Proofs.Tryz (prog)
theorem set_del {h : Heap} {i : Nat} {o : Obj} (hn : h i = none) : (h.set i o).del i = h := by
  funext j
  by_cases e : j = i
  · subst e; rw [Heap.del_same, hn]
  · rw [Heap.del_ne _ e, set_ne _ _ e]
theorem Owns.front {h0 h : Heap} {L : List Ow} {p : Ow} (o : Owns h0 h L) (hm : p ∈ L) : ∃ L', Owns h0 h (p :: L') ∧ ∀ q ∈ L, q = p ∨ q ∈ L' := by
  obtain ⟨a, b, rfl⟩ := List.append_of_mem hm
  refine ⟨a ++ b, o.perm List.perm_middle, fun q hq => ?_⟩
  simp only [List.mem_append, List.mem_cons] at hq ⊢
  rcases hq with hq | hq | hq
  · exact .inr (.inl hq)
  · exact .inl hq
  · exact .inr (.inr hq)
theorem KL.mono1 {B : Nat} {L L' : List Ow} {xs : List Cel} (k : KL B L xs) (hL : ∀ s ks, (1, s, strs ks) ∈ L → (1, s, strs ks) ∈ L') : KL B L' xs := fun c hc => by
  obtain ⟨b, ks, n, a1, a2⟩ := k c hc
  exact ⟨b, ks, n, hL _ _ a1, a2⟩
theorem tgIn.mono1 {T U : List Ow} {s : Sl} {tags : List ByteArray} (h : tgIn T s tags) (hs : ∀ s ks, (1, s, strs ks) ∈ T → (1, s, strs ks) ∈ U) : tgIn U s tags := h.imp id fun h => hs _ _ h
theorem ne_owS {i : Nat} {l : Sl} {t : Nat} {s : Sl} {ks : List ByteArray} : ((1, s, strs ks) : Ow) ≠ owS i l t := fun e => by
  cases ks with
  | nil => cases e
  | cons k ks => cases e
/-- What Price answers. -/
def RF (os : List Offr) (xs : List Itm) (ship t : Int) : List Nat × List (ByteArray × Nat) × Int × Int :=
  if errP os xs ship t = 0 then ((priceF xs os ship.toNat).1, (priceF xs os ship.toNat).2.2, ((priceF xs os ship.toNat).2.1 : Nat), ((totF xs os ship.toNat : Nat) : Int)) else ([], [], 0, 0)
theorem RF_same {os os2 : List Offr} {xs xs2 : List Itm} {ship t : Int} (h1 : os.map Offr.pur = os2.map Offr.pur) (h2 : xs.map Itm.pur = xs2.map Itm.pur) : RF os2 xs2 ship t = RF os xs ship t := by
  unfold RF totF
  rw [errP_same h1 h2, priceF_same h1 h2]
theorem RF_len {os : List Offr} {xs : List Itm} {ship t : Int} (h1 : os.length ≤ 12) (h2 : xs.length ≤ 4) : (RF os xs ship t).1.length < 1000 ∧ (RF os xs ship t).2.1.length < 1000 := by
  unfold RF
  by_cases e : errP os xs ship t = 0
  · rw [if_pos e]
    have hO := (errO_ok (errA_ok (errP_A e)).1).2
    have hp : (sortO os).Perm os := List.mergeSort_perm _ _
    obtain ⟨hu1, _, _, hu4⟩ := applyAll_under (items := xs) (sortO os) (lines0 xs) ship.toNat [] (fun o ho => hO o (hp.mem_iff.1 ho)) (by simp [lines0])
    have hl := hu1.1
    have hl0 : (lines0 xs).length = xs.length := by simp [lines0]
    have hs := hp.length_eq
    unfold priceF
    simp only [List.length_nil] at hu4
    constructor
    · show (applyAll xs (sortO os) (lines0 xs) ship.toNat []).1.length < 1000; omega
    · show (applyAll xs (sortO os) (lines0 xs) ship.toNat []).2.2.length < 1000; omega
  · rw [if_neg e]; simp
section
variable {I : Calls} {Q : Post} {h : Heap}
theorem fold_s (hI : Closed' prog Pm I) {s t : Sl} {xs : List Cel} {keep : List Int} (hx : Cels h s xs) (hkp : At h 1 t (ints keep)) (hl : xs.length < 1000000) (hk : ∀ x ∈ xs, x.keys.length < 1000000) (hkl : keep.length < 1000) {F : Sl → Int → T}
    (hF : ∀ h' s' e, Ext h h' → (e = 0 → ∃ out L, Owns h h' ((3, s', rows celC out) :: L) ∧ (∀ c ∈ out, (1, c.kl, strs c.keys) ∈ L) ∧ out.length < 1000000 ∧ ∀ c ∈ out, c.keys.length < 1000000) → F s' e h') :
    I 8 [sls 3 s, sls 1 t] (fun cs h' => ∃ l : Sl, ∃ n : Int, cs = [sls 3 l, int n] ∧ F l n h') h := by
  refine spec8 hI hx hkp hl hk hkl (fun he => ⟨_, _, rfl, hF _ _ _ (Ext.refl _) fun e => absurd e he⟩) (fun h' out x _ _ _ => ⟨_, _, rfl, hF _ _ _ x fun e => by cases e⟩) fun h' s' out x e0 f hf c ⟨L, o, hL⟩ => ⟨_, _, rfl, hF _ _ _ x fun _ => ⟨out, L, o, hL, ?_, ?_⟩⟩
  · have := f.facts.2.2.2.2.1; omega
  · intro c hc
    obtain ⟨y, _, hy⟩ := f.facts.2.2.2.1 c hc
    rw [hy]; unfold prK; rw [List.length_map]; omega
theorem price_s (hI : Closed' prog Pm I) {s l1 : Sl} {os : List Offr} {xs : List Itm} {ship t : Int} (hs : Offs h s os) (hsl : h.sl 12 s = some (rows offC os)) (hlen : os.length ≤ 12) (its : Itms h l1 xs) (hfew : xs.length ≤ 4) {F : Sl → Int → Sl → Int → Int → T}
    (hF : ∀ s1 s2 h', Ext h h' → At h' 1 s1 (nats (RF os xs ship t).1) → OwnB h h' (1, s1, nats (RF os xs ship t).1) → At h' 2 s2 (rows cutC (RF os xs ship t).2.1) → F s1 (RF os xs ship t).2.2.1 s2 (RF os xs ship t).2.2.2 (errP os xs ship t) h') :
    I 9 [.one (.slice 12 s), .agg [.slice 4 l1, .int .i64 ship], int t] (fun cs h' => ∃ l42 : Sl, ∃ n43 : Int, ∃ l44 : Sl, ∃ n45 : Int, ∃ n46 : Int, (cs = [V.agg [Cell.slice 1 l42, Cell.int IntKind.i64 n43, Cell.slice 2 l44, Cell.int IntKind.i64 n45], V.one (Cell.int IntKind.i64 n46)]) ∧ F l42 n43 l44 n45 n46 h') h := by
  refine spec9q hI hs hsl hlen its hfew (fun h' x he => ⟨_, _, _, _, _, rfl, ?_⟩) fun s1 s2 h' he x a1 aw a2 => ⟨_, _, _, _, _, rfl, ?_⟩
  · have := hF ⟨none, 0⟩ ⟨none, 0⟩ h' x
    unfold RF at this
    rw [if_neg he] at this
    exact this ⟨rfl, .inl rfl⟩ ⟨rfl, .inl ⟨rfl, rfl⟩⟩ ⟨rfl, .inl rfl⟩
  · have := hF s1 s2 h' x
    unfold RF at this
    rw [if_pos he, he] at this
    exact this a1 aw a2
/-- Lines of one's own are written. -/
theorem spoil_lines {hG : Heap} {s : Sl} {a : List Nat} (w : OwnB hG h (1, s, nats a)) (e : Ext hG h) (hl : a.length < 1000) {F : T} (hF : ∀ h', Ext hG h' → F h') :
    loopK (A := Int) 0 (fun x110 => fun n111 => ifT (decide (n111 < (↑s.len : Int)))
      (fun h112 => ((0 ≤ n111) ∧ n111 < (↑s.len : Int)) ∧ (derefK s.a (fun i113 => fun i114 => fun h115 =>
        (storeK [] i113 (i114 + n111.toNat * 1) [Cell.int IntKind.i64 (-7)] (x110 (IntKind.i64.wrap (n111 + 1)))) h115)) h112) F) h := by
  have hs : s.len = a.length := by have := w.1; simp only [nats_length, Nat.mul_one] at this; exact this
  refine loopK_intro (fun (n : Int) h' m => Ext hG h' ∧ ∃ i : Nat, i ≤ s.len ∧ n = i ∧ s.len - i = m ∧ ∃ cs, cs.length = s.len ∧ OwnB hG h' (1, s, cs)) s.len ⟨e, 0, by omega, rfl, rfl, nats a, by rw [nats_length, hs], w⟩ ?_
  rintro n h' m ⟨x, i, hi, rfl, rfl, cs, hcl, w'⟩
  refine ifT_dec (fun hlt => ⟨⟨by omega, hlt⟩, ?_⟩) fun _ => hF h' x
  obtain ⟨w1, ⟨w2, w3⟩ | ⟨b, w2, w3, w4⟩⟩ := w'
  · simp only at w3; rw [w3] at hcl; simp at hcl; omega
  · simp only at w2 w4
    refine derefK_intro w2 (storeK_one w4 (by rw [Int.toNat_natCast]; omega) ?_)
    refine ⟨s.len - (i + 1), by omega, fun j y hj => ?_, i + 1, by omega, by rw [w64] <;> omega, rfl, cs.set (0 + (i : Int).toNat * 1) (.int .i64 (-7)), by rw [List.length_set, hcl], ?_, .inr ⟨b, w2, w3, set_eq _ _ _⟩⟩
    · rw [set_ne _ _ (fun e => by rw [e, w3] at hj; cases hj)]; exact x _ _ hj
    · simp only [List.length_set]; simp only at w1; omega
/-- Keys of one's own are written. -/
theorem spoil_keys {hG : Heap} {s : Sl} {out : List Cel} {L : List Ow} (o : Owns hG h ((3, s, rows celC out) :: L)) (hk : ∀ c ∈ out, (1, c.kl, strs c.keys) ∈ L) (hl : out.length < 1000000) (hkl : ∀ c ∈ out, c.keys.length < 1000000) {F : T} (hF : ∀ h', Ext hG h' → F h') :
    loopK (A := Int) 0 (fun x117 => fun n118 => ifT (decide (n118 < (↑s.len : Int)))
      (fun h119 => ((0 ≤ n118) ∧ n118 < (↑s.len : Int)) ∧ (derefK s.a (fun i120 => fun i121 => fun h122 =>
        ∃ l123 : Sl, (h122.read i120 (i121 + n118.toNat * 3 + 0) 1 = some [Cell.slice 1 l123]) ∧
        (loopK (A := Int) 0 (fun x124 => fun n125 => ifT (decide (n125 < (↑l123.len : Int)))
          (fun h126 => ((0 ≤ n118) ∧ n118 < (↑s.len : Int)) ∧ (derefK s.a (fun i127 => fun i128 => fun h129 =>
            ∃ l130 : Sl, (h129.read i127 (i128 + n118.toNat * 3 + 0) 1 = some [Cell.slice 1 l130]) ∧ ((0 ≤ n125) ∧ n125 < (↑l130.len : Int)) ∧
            (derefK l130.a (fun i131 => fun i132 => fun h133 =>
              (storeK [] i131 (i132 + n125.toNat * 1) [Cell.str { data := #[115, 112, 111, 105, 108, 116] }] (x124 (IntKind.i64.wrap (n125 + 1)))) h133)) h129)) h126)
          (x117 (IntKind.i64.wrap (n118 + 1))))) h122)) h119) F) h := by
  have hs : s.len = out.length := (o.at_ (sz := 3) (s := s) (cs := rows celC out) (by simp)).rowsLen celC_length (by decide)
  -- what stays true while keys are written
  have key : ∃ J : Heap → Prop, J h ∧ (∀ h', J h' → Ext hG h') ∧ (∀ h', J h' → At h' 3 s (rows celC out)) ∧ (∀ h', J h' → ∀ c ∈ out, ∀ k : Nat, k < c.kl.len → ∃ b cs, c.kl.a = some (b, 0) ∧ h' b = some (.cells false cs) ∧ k < cs.length ∧ ∀ x, J (h'.set b (.cells false (cs.set k x)))) := by
    refine ⟨fun h' => Ext hG h' ∧ (∀ b o', s.a = some (b, o') → h' b = h b) ∧ ∀ c ∈ out, ∀ b, c.kl.a = some (b, 0) → ∃ cs, h' b = some (.cells false cs) ∧ cs.length = c.kl.len, ⟨o.ext, fun _ _ _ => rfl, fun c hc b hb => ?_⟩, fun h' H => H.1, fun h' H => ?_, fun h' H c hc k hlt => ?_⟩
    · obtain ⟨w1, ⟨w2, _⟩ | ⟨b', w2, w3, w4⟩⟩ := o.all _ (List.mem_cons_of_mem _ (hk c hc))
      · simp only at w2; rw [hb] at w2; cases w2
      · simp only at w2 w4 w1; rw [hb] at w2; cases w2; exact ⟨_, w4, by omega⟩
    · exact (o.at_ (sz := 3) (s := s) (cs := rows celC out) (by simp)).stay fun j o' x ha hx => by rw [H.2.1 j o' ha]; exact hx
    · obtain ⟨w1, ⟨w2, w3⟩ | ⟨b, w2, w3, w4⟩⟩ := o.all _ (List.mem_cons_of_mem _ (hk c hc))
      · simp only at w1 w3; rw [w3] at w1; simp at w1; omega
      · simp only at w2
        obtain ⟨cs, h1, h2⟩ := H.2.2 c hc b w2
        refine ⟨b, cs, w2, h1, by omega, fun x => ⟨fun j y hj => ?_, fun b2 o2 hb2 => ?_, fun c2 hc2 b2 hb2 => ?_⟩⟩
        · rw [set_ne _ _ (fun e => by rw [e, w3] at hj; cases hj)]; exact H.1 _ _ hj
        · have hne : b2 ≠ b := fun e => by
            subst e
            obtain ⟨_, ⟨q, _⟩ | ⟨b3, q, _, _⟩⟩ := o.all _ (List.mem_cons_self)
            · simp only at q; rw [hb2] at q; cases q
            · simp only at q
              rw [hb2] at q; cases q
              exact (List.pairwise_cons.1 o.apart).1 _ (hk c hc) b2 hb2 w2
          rw [set_ne _ _ hne]; exact H.2.1 b2 o2 hb2
        · by_cases e : b2 = b
          · subst e
            refine ⟨cs.set k x, set_eq _ _ _, ?_⟩
            obtain ⟨cs2, h3, h4⟩ := H.2.2 c2 hc2 b2 hb2
            rw [h1] at h3; cases h3
            rw [List.length_set]; exact h4
          · rw [set_ne _ _ e]; exact H.2.2 c2 hc2 b2 hb2
  obtain ⟨J, J0, JE, JA, JW⟩ := key
  refine loopK_intro (fun (n : Int) h' m => J h' ∧ ∃ i : Nat, i ≤ s.len ∧ n = i ∧ s.len - i = m) s.len ⟨J0, 0, by omega, rfl, rfl⟩ ?_
  rintro n h1 m ⟨j1, i, hi, rfl, rfl⟩
  refine ifT_dec (fun hlt => ⟨⟨by omega, hlt⟩, ?_⟩) fun _ => hF h1 (JE _ j1)
  have hx := List.getElem?_eq_getElem (show i < out.length by omega)
  generalize out[i] = c at hx
  have hc := List.mem_of_getElem? hx
  have hkl' : c.kl.len = c.keys.length := strs_len (o.at_ (List.mem_cons_of_mem _ (hk c hc)))
  have hb := hkl c hc
  refine (JA _ j1).rowCell celC_length (by decide) (i := i) (j := 0) (c := .slice 1 c.kl) hx rfl fun bb oo hr => ⟨c.kl, by simpa using hr, ?_⟩
  refine loopK_intro (fun (n : Int) h' m => J h' ∧ ∃ k : Nat, k ≤ c.kl.len ∧ n = k ∧ c.kl.len - k = m) c.kl.len ⟨j1, 0, by omega, rfl, rfl⟩ ?_
  rintro n h2 m ⟨j2, k, hk2, rfl, rfl⟩
  refine ifT_dec (fun hlt2 => ⟨⟨by omega, hlt⟩, ?_⟩) fun _ => ⟨s.len - (i + 1), by omega, j2, i + 1, by omega, by rw [w64] <;> omega, rfl⟩
  refine (JA _ j2).rowCell celC_length (by decide) (i := i) (j := 0) (c := .slice 1 c.kl) hx rfl fun bb oo hr => ⟨c.kl, by simpa using hr, ⟨by omega, hlt2⟩, ?_⟩
  obtain ⟨b, cs, w2, w4, hkc, w5⟩ := JW _ j2 c hc k (by omega)
  refine derefK_intro w2 (storeK_one w4 (by rw [Int.toNat_natCast]; omega) ?_)
  refine ⟨c.kl.len - (k + 1), by omega, ?_, k + 1, by omega, by rw [w64] <;> omega, rfl⟩
  rw [Int.toNat_natCast, Nat.zero_add, Nat.mul_one]
  exact w5 _
end
end Go.Proofs.YtdjancoknephnaaGreatVc
-- SsLaw2
namespace Go.Proofs.YtdjancoknephnaaGreatVc
open Go.Proofs.Tryz (prog)
theorem left_all {bs : List Bud} {b : Bud} (he : errB bs = 0) (hb : b ∈ bs) : leftP bs [] 0 b.key 4321439 = (b.cents, 0) := by
  obtain ⟨c, hc⟩ := findB_some hb
  obtain ⟨hm, hk⟩ := findB_mem hc
  have e : c = b := scanB_inj bs [] he (fun _ h => by cases h) c (by simpa using hm) b (by simpa using hb) hk
  subst e
  obtain ⟨h1, h2, h3, h4, h5⟩ := scanB_ok bs [] he c hb
  unfold leftP
  rw [hc]
  have e1 : (4321439 : Int).tdiv 1440 = 3000 := by decide
  have e2 : paced c 4321439 = c.cents := by
    unfold paced
    rw [e1, if_neg (by omega), if_pos (.inl (by omega))]
  have e3 : taken c.key 4321439 [] = 0 := rfl
  show (if ¬ momentP 4321439 then ((0 : Int), (1 : Int)) else if (4321439 : Int) < 0 then (0, 7) else (max (paced c 4321439 - taken c.key 4321439 []) 0, 0)) = _
  rw [if_neg (by decide), if_neg (by decide), e2, e3]
  congr 1
  omega
theorem Owns.front2 {h0 h : Heap} {L : List Ow} {p q : Ow} (o : Owns h0 h (q :: L)) (hm : p ∈ L) : ∃ L', Owns h0 h (p :: q :: L') := by
  obtain ⟨a, b, rfl⟩ := List.append_of_mem hm
  exact ⟨a ++ b, o.perm ((List.perm_middle.cons q).trans (List.Perm.swap _ _ _))⟩
section
variable {I : Calls} {h : Heap}
theorem done_k (hI : Closed' prog Pm I) : I 14 [] (fun cs71 => fun h72 => ∃ b73 : Bool, (cs71 = [V.one (Cell.bool b73)]) ∧ (ifT b73 (fun h74 => I 15 [] (fun cs75 => fun h76 => ∃ b77 : Bool, (cs75 = [V.one (Cell.bool b77)]) ∧ tru [V.one (Cell.bool b77)] h76) h74) (tru [V.one (Cell.bool false)])) h72) h :=
  spec14 hI ⟨true, rfl, ifT_intro (fun _ => spec15 hI ⟨true, rfl, by simp [tru]⟩) fun h => by cases h⟩
theorem purse_k (hI : Closed' prog Pm I) {h0 : Heap} {l18 l31 : Sl} {bs : List Bud} {R : List Ow} (o : Owns h0 h ((5, l18, rows budC bs) :: (5, l31, rows budC bs) :: R)) (hl : bs.length ≤ 3) {Q : Post} {F : T} (hF : ∀ h', F h') :
    I 12 [V.one (Cell.slice 5 l18)] (fun cs65 => fun h66 => ∃ p67 : Option (Nat × Nat), ∃ n68 : Int, (cs65 = [V.one (Cell.ptr p67), V.one (Cell.int IntKind.i64 n68)]) ∧
      (joinK (A := PUnit) (fun x69 => F) (fun x78 => ifT (decide (n68 = 0))
        (loopK (A := Int) 0 (fun x79 => fun n80 => ifT (decide (n80 < (↑l18.len : Int)))
          (fun h81 => ((0 ≤ n80) ∧ n80 < (↑l18.len : Int)) ∧ (derefK l18.a (fun i82 => fun i83 => fun h84 =>
            (storeK [] i82 (i83 + n80.toNat * 5 + 1) [Cell.int IntKind.i64 0] (x79 (IntKind.i64.wrap (n80 + 1)))) h84)) h81)
          (loopK (A := Int) 0 (fun x85 => fun n86 => ifT (decide (n86 < (↑l31.len : Int)))
            (fun h87 => ((0 ≤ n86) ∧ n86 < (↑l31.len : Int)) ∧ (derefK l31.a (fun i88 => fun i89 => fun h90 =>
              ∃ s91 : ByteArray, ∃ n92 : Int, ∃ n93 : Int, ∃ n94 : Int, ∃ b95 : Bool, (h90.read i88 (i89 + n86.toNat * 5) 5 = some [Cell.str s91, Cell.int IntKind.i64 n92, Cell.int IntKind.i64 n93, Cell.int IntKind.i64 n94, Cell.bool b95]) ∧
              I 13 [V.one (Cell.ptr p67), V.one (Cell.str s91), V.one (Cell.int IntKind.i64 4321439)]
                (fun cs96 => fun h97 => ∃ n98 : Int, ∃ n99 : Int, (cs96 = [V.one (Cell.int IntKind.i64 n98), V.one (Cell.int IntKind.i64 n99)]) ∧
                  (ifT (!decide (n99 = 0)) (Q [V.one (Cell.bool false)]) (ifT (!decide (n98 = n92)) (Q [V.one (Cell.bool false)]) (x85 (IntKind.i64.wrap (n86 + 1))))) h97) h90)) h87)
            (x78 ())))))
        (x78 ()))) h66) h := by
  refine spec12 hI (xs := bs) o List.mem_cons_self (by omega) (fun he h' o' => ⟨_, _, rfl, ?_⟩) fun he p sb h' o' => ⟨_, _, rfl, ?_⟩
  · exact joinK_intro (fun _ _ => True) (fun _ h2 _ => hF h2) fun j hj => ifT_dec (fun e => absurd e he) fun _ => hj _ _ trivial
  refine joinK_intro (fun _ _ => True) (fun _ h2 _ => hF h2) fun j hj => ifT_dec (fun _ => ?_) fun e => absurd rfl e
  obtain ⟨N, hN, mP, m6, m5, m31⟩ : ∃ N, Owns h0 h' ((5, l18, rows budC bs) :: N) ∧ owP p sb ⟨none, 0⟩ 0 ∈ N ∧ (6, ⟨none, 0⟩, rows hldC []) ∈ N ∧ (5, sb, rows budC bs) ∈ N ∧ (5, l31, rows budC bs) ∈ N :=
    ⟨owP p sb ⟨none, 0⟩ 0 :: (6, ⟨none, 0⟩, rows hldC []) :: (5, sb, rows budC bs) :: (5, l31, rows budC bs) :: R, o'.perm (List.perm_middle (l₁ := [owP p sb ⟨none, 0⟩ 0, (6, ⟨none, 0⟩, rows hldC []), (5, sb, rows budC bs)])), by simp, by simp, by simp, by simp⟩
  clear o' o
  have h18 : l18.len = bs.length := (hN.at_ (sz := 5) (s := l18) (cs := rows budC bs) (by simp)).rowsLen budC_length (by decide)
  refine loopK_intro (fun (n : Int) h2 m => ∃ (i : Nat) (ys : List Bud), i ≤ bs.length ∧ n = i ∧ bs.length - i = m ∧ ys.length = bs.length ∧ Owns h0 h2 ((5, l18, rows budC ys) :: N)) bs.length ⟨0, bs, by omega, rfl, rfl, rfl, hN⟩ ?_
  clear hN
  rintro n h2 m ⟨i, ys, hi, rfl, rfl, hyl, o2⟩
  refine ifT_dec (fun hlt => ⟨⟨by omega, hlt⟩, ?_⟩) fun _ => ?_
  · have hx := List.getElem?_eq_getElem (show i < ys.length by omega)
    generalize ys[i] = y at hx
    have hrl := rows_length budC_length ys
    obtain ⟨b, hb, hcs⟩ := o2.has (s := l18) (cs := rows budC ys) (sz := 5) (by simp) (fun h => by rw [h] at hrl; simp at hrl; omega)
    have hba : l18.a = some (b, 0) := by rw [hb]
    refine derefK_intro hba ?_
    have o3 : Owns h0 h2 ((5, ⟨some (b, 0), l18.len⟩, rows budC ys) :: N) := by rw [← hb]; exact o2
    refine store_row budC_length o3 hx (j := 1) (by decide) (x' := { y with cents := 0 }) rfl fun h3 o4 => ?_
    rw [← hb] at o4
    exact ⟨bs.length - (i + 1), by omega, i + 1, _, by omega, by rw [w64] <;> omega, rfl, by simp [hyl], o4⟩
  · have o3 := o2.tail
    clear o2
    have h31 : l31.len = bs.length := (o3.at_ m31).rowsLen budC_length (by decide)
    refine loopK_intro (fun (n : Int) h2 m => ∃ i : Nat, i ≤ bs.length ∧ n = i ∧ bs.length - i = m ∧ Owns h0 h2 N) bs.length ⟨0, by omega, rfl, rfl, o3⟩ ?_
    clear o3
    rintro n h3 m ⟨k, hk, rfl, rfl, o3⟩
    refine ifT_dec (fun hlt => ⟨⟨by omega, hlt⟩, ?_⟩) fun _ => hj _ _ trivial
    have hx := List.getElem?_eq_getElem (show k < bs.length by omega)
    generalize bs[k] = b at hx
    have hbm := List.mem_of_getElem? hx
    refine (o3.at_ m31).row budC_length (by decide) hx fun bb oo hr => ⟨b.key, b.cents, b.first, b.last, b.pace, hr, ?_⟩
    refine spec13 hI (o3.block mP).1 (o3.at_ m5) (o3.at_ m6) (by omega) (scanB_ok bs [] he) (fun x h => by cases h) (by simp) fun h4 x4 => ⟨_, _, rfl, ?_⟩
    rw [left_all he hbm]
    refine ifT_intro (fun h => absurd rfl (nd h)) fun _ => ifT_intro (fun h => absurd rfl (nd h)) fun _ => ?_
    exact ⟨bs.length - (k + 1), by omega, k + 1, by omega, by rw [w64] <;> omega, rfl, o3.mono x4⟩
theorem spec3 (hI : Closed' prog Pm I) {s : Sl} {zs : List Int} (hs : At h 1 s (ints zs)) : I 3 [.one (.slice 1 s)] tru h := by
  refine hI.go _ _ (den3 I s tru) ?_
  refine newK_intro fun i2 h3 hn2 he2 => newK_intro fun i4 h5 hn4 he4 => ?_
  have hne : i4 ≠ i2 := fun e => by rw [he2, e, set_eq] at hn4; cases hn4
  have hn4' : h i4 = none := by rw [he2, set_ne _ _ hne] at hn4; exact hn4
  have Sa : Strm (h.set i2 (strm s 0)) i2 s zs 0 := Strm.make hs hn2
  have Sb : Strm (h.set i4 (strm s 0)) i4 s zs 0 := Strm.make hs hn4'
  have da : (h.set i2 (strm s 0)).del i2 = h := set_del hn2
  have db : (h.set i4 (strm s 0)).del i4 = h := set_del hn4'
  have o0 : Owns h h3 [owS i2 s 0] := he2 ▸ (Owns.nil h).new hn2 rfl
  have o1 : Owns h h5 [owS i4 s 0, owS i2 s 0] := he4 ▸ o0.new hn4 rfl
  have o2 : Owns ((h.set i2 (strm s 0)).del i2) h5 (owS i2 s 0 :: [owS i4 s 0]) := by rw [da]; exact o1.swp
  refine spec4e hI Sa o2 (by omega) fun l8 h7 cs t1 La o7 kl1 sub1 ht1 hcl hG1 => ⟨l8, rfl, ?_⟩
  refine spec5e hI Sa o7 (by omega) (by decide) (by decide) fun l11 os T1 t2 h10 o10 htg hol ht2 hG2 => ⟨l11, rfl, ?_⟩
  refine spec6e hI Sa o10 (by omega) fun l14 ship xs T2 t3 h13 o13 hti hxl ht3 hG3 => ⟨l14, ship, rfl, ?_⟩
  refine spec7e hI Sa o13 (by omega) fun l18 bs t4 h17 o17 ht4 hbl hG4 => ⟨l18, rfl, ?_⟩
  rw [da] at o17
  clear o2 o7 o10 o13 Sa da
  obtain ⟨M1, om1, hM1⟩ := o17.front (p := owS i4 s 0) (by simp [sub1])
  clear o17 o1 o0
  have om1' : Owns ((h.set i4 (strm s 0)).del i4) h17 (owS i4 s 0 :: M1) := by rw [db]; exact om1
  clear om1
  refine spec4e hI Sb om1' (by omega) fun l21 h20 cs2 t1' Lb o20 kl2 sub2 ht1' hcl2 hG1' => ⟨l21, rfl, ?_⟩
  refine spec5e hI Sb o20 (by omega) (by decide) (by decide) fun l24 os2 T3 t2' h23 o23 htg2 hol2 ht2' hG2' => ⟨l24, rfl, ?_⟩
  refine spec6e hI Sb o23 (by omega) fun l27 ship2 xs2 T4 t3' h26 o26 hti2 hxl2 ht3' hG3' => ⟨l27, ship2, rfl, ?_⟩
  refine spec7e hI Sb o26 (by omega) fun l31 bs2 t4' hG oG ht4' hbl2 hG4' => ⟨l31, rfl, ?_⟩
  rw [db] at oG
  clear om1' o20 o23 o26 Sb db
  -- both are the same
  obtain ⟨ec, rfl⟩ := Prod.mk.inj (hG1.symm.trans hG1')
  obtain ⟨eo, rfl⟩ := Prod.mk.inj (hG2.symm.trans hG2')
  obtain ⟨rfl, e3⟩ := Prod.mk.inj (hG3.symm.trans hG3')
  obtain ⟨ex, rfl⟩ := Prod.mk.inj e3
  obtain ⟨rfl, rfl⟩ := Prod.mk.inj (hG4.symm.trans hG4')
  clear hG1 hG1' hG2 hG2' hG3 hG3' hG4 hG4' e3
  -- where all of it lies
  have keep : ∀ q : Ow, q ∈ (5, l18, rows budC bs) :: (4, l14, rows itmC xs) :: (T2 ++ (12, l11, rows offC os) :: (T1 ++ (3, l8, rows celC cs) :: La)) → q ≠ owS i4 s 0 → q ∈ M1 := fun q hq hne => (hM1 q (List.mem_cons_of_mem _ hq)).resolve_left hne
  generalize hR : (4, l27, rows itmC xs2) :: (T4 ++ (12, l24, rows offC os2) :: (T3 ++ (3, l21, rows celC cs2) :: Lb)) = R at oG
  have inR : ∀ q ∈ M1, q ∈ R := fun q hq => by rw [← hR]; simp [sub2 q hq]
  have m18 : (5, l18, rows budC bs) ∈ R := inR _ (keep _ (by simp) (by simp))
  have m14 : (4, l14, rows itmC xs) ∈ R := inR _ (keep _ (by simp) (by simp))
  have m11 : (12, l11, rows offC os) ∈ R := inR _ (keep _ (by simp) (by simp))
  have m8 : (3, l8, rows celC cs) ∈ R := inR _ (keep _ (by simp) (by simp))
  have k1 : KL 4 R cs := kl1.mono1 fun sl ks hm => inR _ (keep _ (by simp [hm]) ne_owS)
  have g1 : ∀ x ∈ os, tgIn R x.tg x.tags := fun x hx => (htg x hx).mono1 fun sl ks hm => inR _ (keep _ (by simp [hm]) ne_owS)
  have g2 : ∀ x ∈ xs, tgIn R x.tg x.tags := fun x hx => (hti x hx).mono1 fun sl ks hm => inR _ (keep _ (by simp [hm]) ne_owS)
  have m27 : (4, l27, rows itmC xs2) ∈ R := by rw [← hR]; simp
  have m24 : (12, l24, rows offC os2) ∈ R := by rw [← hR]; simp
  have m21 : (3, l21, rows celC cs2) ∈ R := by rw [← hR]; simp
  have k2 : KL 4 R cs2 := kl2.mono (Nat.le_refl _) fun p hp => by rw [← hR]; simp [hp]
  have g3 : ∀ x ∈ os2, tgIn R x.tg x.tags := fun x hx => (htg2 x hx).mono fun p hp => by rw [← hR]; simp [hp]
  have g4 : ∀ x ∈ xs2, tgIn R x.tg x.tags := fun x hx => (hti2 x hx).mono fun p hp => by rw [← hR]; simp [hp]
  clear keep inR hM1 kl1 kl2 htg hti htg2 hti2 hR sub1 sub2
  have oR := oG.tail.tail
  have c1 : Cels hG l8 cs := k1.cels oR m8
  have c2 : Cels hG l21 cs2 := k2.cels oR m21
  have ck : ∀ x ∈ cs, x.keys.length < 1000000 := fun x hx => by have := (k1.key oR hx).2; omega
  have f1 : Offs hG l11 os := ⟨oR.at_ m11, fun x hx => (g1 x hx).at_ oR fun _ h => h⟩
  have f2 : Offs hG l24 os2 := ⟨oR.at_ m24, fun x hx => (g3 x hx).at_ oR fun _ h => h⟩
  have b1 : Itms hG l14 xs := ⟨oR.at_ m14, fun x hx => (g2 x hx).at_ oR fun _ h => h⟩
  have b2 : Itms hG l27 xs2 := ⟨oR.at_ m27, fun x hx => (g4 x hx).at_ oR fun _ h => h⟩
  have q1 : hG.sl 12 l11 = some (rows offC os) := oR.slg m11
  have q2 : hG.sl 12 l24 = some (rows offC os2) := oR.slg m24
  have oB := oG.tail
  clear oG oR k1 k2 g1 g2 g3 g4 m8 m11 m14 m21 m24 m27
  have hol' : os.length ≤ 4 := by omega
  have hol2' : os2.length ≤ 4 := by omega
  obtain ⟨hr1, hr2⟩ := RF_len (ship := ship) (t := 0) (show os.length ≤ 12 by omega) hxl
  have er : RF os2 xs2 ship 0 = RF os xs ship 0 := RF_same eo ex
  have ee : errP os2 xs2 ship 0 = errP os xs ship 0 := errP_same eo ex
  -- Fold
  refine newK_intro fun i32 h33 hn32 he32 => ?_
  have x33 : Ext hG h33 := he32 ▸ Ext.new hn32
  refine fold_s hI (keep := [0]) (x33.cels c1) ?_ (by omega) ck (by decide) fun h35 l36 e36 x35 hw => ?_
  · refine ⟨rfl, .inr ?_⟩
    show h33.read i32 0 (1 * 1) = _
    rw [he32, read_block (set_eq _ _ _) (by decide)]; rfl
  refine joinK_intro (fun _ h' => Ext hG h') ?_ fun j hj => ifT_dec (fun e => ?_) fun _ => hj _ _ (x33.trans x35)
  case refine_2 =>
    obtain ⟨out, L, o, hk, hl, hkl⟩ := hw e
    exact spoil_keys o hk hl hkl fun h' x => hj _ _ (x33.trans x)
  clear hw
  rintro _ h39 x39
  -- Price, three times
  refine price_s hI (x39.offs f1) (x39.sl q1) (by omega) (x39.itms b1) hxl fun s1 s2 h41 x41 a1 w1 a2 => ?_
  refine joinK_intro (fun _ h' => Ext h39 h') ?_ fun j hj => ifT_dec (fun e => spoil_lines w1 x41 hr1 fun h' x => hj _ _ x) fun _ => hj _ _ x41
  clear a1 a2 w1
  rintro _ h48 x48'
  have x48 := x39.trans x48'
  refine price_s hI (x48.offs f2) (x48.sl q2) (by omega) (x48.itms b2) hxl2 fun s3 s4 h50 x50 a3 w3 a4 => ?_
  rw [er] at a3 a4 ⊢
  rw [ee]
  refine price_s hI ((x48.trans x50).offs f1) ((x48.trans x50).sl q1) (by omega) ((x48.trans x50).itms b1) hxl fun s5 s6 h57 x57 a5 w5 a6 => ?_
  have x7 := (x48.trans x50).trans x57
  refine joinK_intro (fun b h' => b = false ∧ Ext hG h') ?_ fun j hj => ?_
  case refine_2 =>
    refine ifT_intro (fun e => absurd rfl (nd e)) fun _ => ifT_intro (fun e => absurd rfl (nd e)) fun _ => ?_
    refine spec10 hI (x57.at_ a3) a5 (x57.at_ a4) a6 hr1 hr2 ⟨true, rfl, ifT_intro (fun e => by cases e) fun _ => ?_⟩
    refine spec11 hI (x7.cels c1) (x7.cels c2) (by omega) ck ⟨_, rfl, hj _ _ ⟨?_, x7⟩⟩
    rw [decide_eq_true ec]; rfl
  rintro b h64 ⟨rfl, x64⟩
  refine ifT_intro (fun e => by cases e) fun _ => ?_
  obtain ⟨L', oL⟩ := oB.front2 m18
  exact purse_k hI (oL.mono x64) hbl fun h' => done_k hI
end
end Go.Proofs.YtdjancoknephnaaGreatVc
