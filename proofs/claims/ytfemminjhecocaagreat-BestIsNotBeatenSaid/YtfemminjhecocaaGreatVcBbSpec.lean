/- Contracts: comparing rows of numbers and prices; offers that are chosen. Contracts: offers.Best. -/
import Derived.Test.YtfemminjhecocaaGreatVcBbVc
import Derived.Test.YtfemminjhecocaaGreatVcBbMath
set_option linter.unusedSimpArgs false
set_option linter.unusedVariables false
-- BbSpec1
namespace Go.Proofs.YtfemminjhecocaaGreatVc
open Go.Proofs.Tryz (prog)
open Go.Proofs.YtfemminjhecocaaGreatShares
def fnz : List Int → Int
  | [] => 0
  | a :: l => if a ≠ 0 then a else fnz l
section
variable {I : Calls} {Q : Post} {h : Heap}
theorem spec26n (hI : Closed' prog Pm I) {s : Sl} {l : List Int} (hs : At h 1 s (ints l)) (hlen : l.length < 1000) (hQ : Q [int (fnz l)] h) : I 26 [.one (.slice 1 s)] Q h := by
  have hl : s.len = l.length := by rw [hs.len1, ints_length]
  refine hI.go _ _ (den26 I s Q) ?_
  refine loopK_intro (fun (n : Int) h' m => h' = h ∧ ∃ i : Nat, i ≤ l.length ∧ n = (i : Int) ∧ m = l.length - i ∧ fnz (l.drop i) = fnz l) l.length ⟨rfl, 0, by omega, rfl, rfl, rfl⟩ ?_
  rintro n h' m ⟨rfl, i, hi, rfl, rfl, hf⟩
  refine ifT_dec (fun hlt => ⟨⟨by omega, hlt⟩, ?_⟩) fun hge => ?_
  · have hil : i < l.length := by omega
    have hx := List.getElem?_eq_getElem hil
    have hd := List.drop_eq_getElem_cons hil
    generalize l[i] = x at hx hd
    rw [hd] at hf
    simp only [fnz] at hf
    refine hs.cell (ints_get hx) fun b o hr => ⟨x, hr, ifT_intro (fun h1 => ?_) fun h1 => ?_⟩
    · rw [if_pos (nd h1)] at hf; rw [hf]; exact hQ
    · have h1 : ¬ x ≠ 0 := by have := nd' h1; omega
      rw [if_neg h1] at hf
      exact ⟨l.length - (i + 1), by omega, rfl, i + 1, by omega, by rw [w64 (by omega) (by omega)]; rfl, rfl, hf⟩
  · have : i = l.length := by omega
    subst this
    rw [List.drop_of_length_le (Nat.le_refl _)] at hf
    rw [← hf] at hQ
    exact hQ
theorem spec28 (hI : Closed' prog Pm I) {s t : Sl} {a b : List Nat} (hs : At h 1 s (nats a)) (ht : At h 1 t (nats b)) (hlen : a.length < 1000) (hQ : ∀ n, Q [int n] h) : I 28 [.one (.slice 1 s), .one (.slice 1 t)] Q h := by
  have hl : s.len = a.length := by rw [hs.len1, nats_length]
  have hl2 : t.len = b.length := by rw [ht.len1, nats_length]
  refine hI.go _ _ (den28 I s t Q) ?_
  refine loopK_intro (fun (n : Int) h' m => h' = h ∧ ∃ i : Nat, i ≤ a.length ∧ n = (i : Int) ∧ m = a.length - i) a.length ⟨rfl, 0, by omega, rfl, rfl⟩ ?_
  rintro n h' m ⟨rfl, i, hi, rfl, rfl⟩
  refine ifT_dec (fun hlt => ⟨⟨by omega, hlt⟩, ?_⟩) fun hge => ifT_dec (fun _ => hQ _) fun _ => hQ _
  refine hs.cell (nats_get (List.getElem?_eq_getElem (show i < a.length by omega))) fun bb o hr => ⟨_, hr, ifT_dec (fun _ => hQ _) fun h1 => ⟨⟨by omega, by omega⟩, ?_⟩⟩
  refine ht.cell (nats_get (List.getElem?_eq_getElem (show i < b.length by omega))) fun bb o hr => ⟨_, hr, spec27 hI fun c h2 h3 => ⟨c, rfl, ifT_intro (fun _ => hQ _) fun h4 => ?_⟩⟩
  exact ⟨a.length - (i + 1), by omega, rfl, i + 1, by omega, by rw [w64 (by omega) (by omega)]; rfl, rfl⟩
theorem spec29 (hI : Closed' prog Pm I) {s t : Sl} {a : List Nat} (hs : At h 1 s (nats a)) (ht : At h 1 t (nats a)) (hlen : a.length < 1000) (hQ : Q [boo true] h) : I 29 [.one (.slice 1 s), .one (.slice 1 t)] Q h := by
  have hl : s.len = a.length := by rw [hs.len1, nats_length]
  have hl2 : t.len = a.length := by rw [ht.len1, nats_length]
  refine hI.go _ _ (den29 I s t Q) ?_
  refine ifT_intro (fun h1 => absurd (by rw [hl, hl2]) (nd h1)) fun _ => ?_
  refine loopK_intro (fun (n : Int) h' m => h' = h ∧ ∃ i : Nat, i ≤ a.length ∧ n = (i : Int) ∧ m = a.length - i) a.length ⟨rfl, 0, by omega, rfl, rfl⟩ ?_
  rintro n h' m ⟨rfl, i, hi, rfl, rfl⟩
  refine ifT_dec (fun hlt => ⟨⟨by omega, hlt⟩, ?_⟩) fun hge => hQ
  have hx := List.getElem?_eq_getElem (show i < a.length by omega)
  refine hs.cell (nats_get hx) fun bb o hr => ⟨_, hr, ⟨by omega, by omega⟩, ?_⟩
  refine ht.cell (nats_get hx) fun bb o hr => ⟨_, hr, ifT_intro (fun h1 => absurd rfl (nd h1)) fun h4 => ?_⟩
  exact ⟨a.length - (i + 1), by omega, rfl, i + 1, by omega, by rw [w64 (by omega) (by omega)]; rfl, rfl⟩
theorem spec30 (hI : Closed' prog Pm I) {s t : Sl} {a : List (ByteArray × Nat)} (hs : At h 2 s (rows cutC a)) (ht : At h 2 t (rows cutC a)) (hlen : a.length < 1000) (hQ : Q [boo true] h) : I 30 [.one (.slice 2 s), .one (.slice 2 t)] Q h := by
  have hl : s.len = a.length := hs.rowsLen cutC_length (by decide)
  have hl2 : t.len = a.length := ht.rowsLen cutC_length (by decide)
  refine hI.go _ _ (den30 I s t Q) ?_
  refine ifT_intro (fun h1 => absurd (by rw [hl, hl2]) (nd h1)) fun _ => ?_
  refine loopK_intro (fun (n : Int) h' m => h' = h ∧ ∃ i : Nat, i ≤ a.length ∧ n = (i : Int) ∧ m = a.length - i) a.length ⟨rfl, 0, by omega, rfl, rfl⟩ ?_
  rintro n h' m ⟨rfl, i, hi, rfl, rfl⟩
  refine ifT_dec (fun hlt => ⟨⟨by omega, hlt⟩, ?_⟩) fun hge => hQ
  have hx := List.getElem?_eq_getElem (show i < a.length by omega)
  refine hs.row cutC_length (by decide) hx fun bb o hr => ⟨_, _, hr, ⟨by omega, by omega⟩, ?_⟩
  refine ht.row cutC_length (by decide) hx fun bb o hr => ⟨_, _, hr, ?_⟩
  refine ifT_intro (fun h1 => absurd h1 (by simp)) fun h4 => ?_
  exact ⟨a.length - (i + 1), by omega, rfl, i + 1, by omega, by rw [w64 (by omega) (by omega)]; rfl, rfl⟩
theorem spec13 (hI : Closed' prog Pm I) {s1 s2 t1 t2 : Sl} {a : List Nat} {c : List (ByteArray × Nat)} {n m : Int} (h1 : At h 1 s1 (nats a)) (h2 : At h 1 t1 (nats a)) (h3 : At h 2 s2 (rows cutC c)) (h4 : At h 2 t2 (rows cutC c)) (hl1 : a.length < 1000) (hl2 : c.length < 1000)
    (hQ : Q [boo true] h) : I 13 [.agg [.slice 1 s1, .int .i64 n, .slice 2 s2, .int .i64 m], .agg [.slice 1 t1, .int .i64 n, .slice 2 t2, .int .i64 m]] Q h := by
  refine hI.go _ _ (den13 I s1 n s2 m t1 n t2 m Q) ?_
  refine spec29 hI h1 h2 hl1 ⟨_, rfl, ifT_intro (fun _ => ifT_dec (fun _ => ?_) fun h => absurd rfl h) fun h => by cases h⟩
  refine spec30 hI h3 h4 hl2 ⟨_, rfl, ifT_intro (fun _ => ?_) fun h => by cases h⟩
  simpa using hQ
/-- The offers that are chosen. -/
theorem spec12 (hI : Closed' prog Pm I) {s l : Sl} {O : List Nat} {os : List Offr} {i1 : Nat} (hs : At h 1 s (nats O)) (hv : h i1 = some (.cells false [.slice 12 l])) (ho : Offs h l os) (hO : ∀ i ∈ O, i < os.length) (hlen : O.length < 1000)
    (hQ : ∀ s' h', Ext h h' → Offs h' s' (pickO os O) → h'.sl 12 s' = some (rows offC (pickO os O)) → Q [.one (.slice 12 s')] h') : I 12 [.one (.slice 1 s), .one (.ptr (some (i1, 0)))] Q h := by
  have hl : s.len = O.length := by rw [hs.len1, nats_length]
  refine hI.go _ _ (den12 I s i1 0 Q) ?_
  refine loopK_intro (fun (a : Sl × Int) h' m => ∃ k : Nat, k ≤ O.length ∧ a.2 = (k : Int) ∧ m = O.length - k ∧ Owns h h' [(12, a.1, rows offC (pickO os (O.take k)))]) O.length ⟨0, by omega, rfl, rfl, (Owns.nil h).none_ 12⟩ ?_
  rintro ⟨lc, y⟩ h' m ⟨k, hk, rfl, rfl, o⟩
  dsimp only [uncur] at o ⊢
  have hlc : lc.len = (pickO os (O.take k)).length := (o.at_ List.mem_cons_self).rowsLen offC_length (by decide)
  rw [pickO_length (fun i hi => hO i (List.mem_of_mem_take hi)), List.length_take] at hlc
  refine ifT_dec (fun hlt => ⟨⟨by omega, hlt⟩, ?_⟩) fun hge => ?_
  · have hkl : k < O.length := by omega
    have hx := List.getElem?_eq_getElem hkl
    have hxm := hO _ (List.getElem_mem hkl)
    generalize O[k] = j at hx hxm
    have hj := List.getElem?_eq_getElem hxm
    generalize os[j] = x at hj
    have ho' := o.ext.offs ho
    have hll := ho'.len
    refine (o.ext.at_ hs).cell (nats_get hx) fun b of hr => ⟨_, hr, l, read_cell (o.ext _ _ hv) rfl, ⟨by omega, by omega⟩, ?_⟩
    refine ho'.at_.row offC_length (by decide) hj fun b of hr => ⟨x.key, x.kind, x.a, x.b, x.tg, x.least, x.most, x.group, x.alone, x.order, x.from_, x.to_, hr, ?_⟩
    refine appendTo_owns (m := 0) o rfl (by omega) (by simp) fun b2 h2 o2 => ⟨O.length - (k + 1), by omega, k + 1, by omega, by show IntKind.i64.wrap _ = _; rw [w64 (by omega) (by omega)]; rfl, rfl, ?_⟩
    have et : pickO os (O.take (k + 1)) = pickO os (O.take k) ++ [x] := by
      rw [List.take_add_one, hx]; exact pickO_snoc hj
    have e1 : rows offC [x] = offC x := by simp [rows]
    rw [et, rows_append, e1]
    exact o2
  · have hk2 : k = O.length := by omega
    subst hk2
    rw [List.take_length] at o
    refine hQ lc h' o.ext ⟨o.at_ List.mem_cons_self, fun x hx => o.ext.at_ (ho.tg x ?_)⟩ (o.slg List.mem_cons_self)
    unfold pickO at hx
    obtain ⟨i, _, hi⟩ := List.mem_filterMap.1 hx
    exact List.mem_of_getElem? hi
end
end Go.Proofs.YtfemminjhecocaaGreatVc
-- BbSpec2
namespace Go.Proofs.YtfemminjhecocaaGreatVc
open Go.Proofs.Tryz (prog)
open Go.Proofs.YtfemminjhecocaaGreatShares
theorem At.blk {h : Heap} {k b o : Nat} {s : Sl} {xs : List Cell} (hs : At h k s xs) (hne : 0 < xs.length) (ha : s.a = some (b, o)) : h b ≠ none := by
  obtain ⟨b', o', ha', hr⟩ := hs.lies hne
  rw [ha] at ha'
  cases ha'
  intro hb
  unfold Heap.read at hr
  rw [hb] at hr
  cases hr
theorem At.rowB {α : Type} {f : α → List Cell} {k : Nat} {h : Heap} (hf : ∀ a, (f a).length = k) (hk : 0 < k) {s : Sl} {xs : List α} {i : Nat} {a : α} {g : Nat → Nat → T} (hs : At h k s (rows f xs)) (hx : xs[i]? = some a)
    (hg : ∀ bb o, s.a = some (bb, o) → h.read bb (o + (i : Int).toNat * k) k = some (f a) → g bb o h) : derefK s.a g h := by
  have hlt : i < xs.length := (List.getElem?_eq_some_iff.1 hx).1
  have hpos : 0 < xs.length * k := Nat.mul_pos (by omega) hk
  obtain ⟨bb, o, ha, hr⟩ := hs.lies (by rw [rows_length hf]; exact hpos)
  refine derefK_intro ha (hg bb o ha ?_)
  have hle : i * k + k ≤ xs.length * k := by
    have := Nat.mul_le_mul_right k (show i + 1 ≤ xs.length by omega)
    rw [Nat.add_mul] at this; omega
  rw [Int.toNat_natCast, read_part hr (by rw [rows_length hf]; exact hle), rows_get hf hx]
theorem shl_ok : ∀ n : Nat, n < 11 → shl .i64 1 (n : Int) = ((2 ^ n : Nat) : Int) := by decide +kernel
theorem pow_ok : ∀ n : Nat, n < 11 → 2 ^ n ≤ 1024 := by decide
theorem bit_and (a : Nat) (ha : a < 18446744073709551616) : IntKind.i64.wrap (((BitVec.ofInt 64 (a : Int) &&& BitVec.ofInt 64 1).toNat : Nat) : Int) = ((a % 2 : Nat) : Int) := by
  have h1 : (BitVec.ofInt 64 (a : Int)).toNat = a := bv_nat a ha
  have h2 : (BitVec.ofInt 64 (1 : Int)).toNat = 1 := by decide
  rw [BitVec.toNat_and, h1, h2, Nat.and_one_is_mod]
  exact w64 (by omega) (by omega)
abbrev keyT (xs : List Itm) (os : List Offr) (ship : Nat) (O : List Nat) : Nat × Nat := (totF xs (pickO os O) ship, O.length)
theorem less_T {a b : Nat × Nat} {c1 c2 c3 : Int} (h1 : c1 < 0 ↔ (a.1 : Int) < (b.1 : Int)) (h2 : c1 = 0 ↔ (a.1 : Int) = (b.1 : Int)) (h3 : c2 < 0 ↔ (a.2 : Int) < (b.2 : Int)) (h4 : c2 = 0 ↔ (a.2 : Int) = (b.2 : Int)) :
    (fnz [c1, c2, c3] < 0 → leT a b) ∧ (¬ fnz [c1, c2, c3] < 0 → leT b a) := by
  unfold leT
  simp only [fnz]
  by_cases e1 : c1 = 0 <;> by_cases e2 : c2 = 0 <;> by_cases e3 : c3 = 0 <;> simp only [e1, e2, e3, ne_eq, not_true_eq_false, not_false_eq_true, if_true, if_false] <;> constructor <;> intro h <;> omega
section
variable {I : Calls} {Q : Post} {h : Heap} {l1 : Sl} {xs : List Itm}
theorem spec24p (hI : Closed' prog Pm I) {s : Sl} {os : List Offr} (hs : Offs h s os) (hsl : h.sl 12 s = some (rows offC os)) (hlen : os.length ≤ 12) (hd : Distinct os) (hok : ∀ o ∈ os, OkO o) (htl : ∀ o ∈ os, o.tags.length < 1000) (its : Itms h l1 xs) (hx : OkL xs) {ship : Nat} (hship : ship ≤ 1000000000000)
    (hQ : ∀ s1 s2 h', Ext h h' → At h' 1 s1 (nats (priceF xs os ship).1) → At h' 2 s2 (rows cutC (priceF xs os ship).2.2) →
      Q [.agg [.slice 1 s1, .int .i64 ((priceF xs os ship).2.1 : Nat), .slice 2 s2, .int .i64 ((totF xs os ship : Nat) : Int)]] h') : I 24 [.one (.slice 12 s), .agg [.slice 4 l1, .int .i64 (ship : Int)]] Q h := by
  refine spec24 hI hs hsl hlen hok htl its hx hship fun s1 s2 zs h' e hp hz a1 a2 => ?_
  have := sortO_eq hd hp hz
  subst this
  exact hQ s1 s2 h' e a1 a2
theorem spec8p (hI : Closed' prog Pm I) {s l1 : Sl} {os : List Offr} {xs : List Itm} {t : Int} {ship : Nat} (hs : Offs h s os) (hsl : h.sl 12 s = some (rows offC os)) (hlen : os.length ≤ 12) (its : Itms h l1 xs) (hfew : xs.length ≤ 4)
    (hbad : ∀ h', Ext h h' → errP os xs ship t ≠ 0 → Q [.agg [.slice 1 ⟨none, 0⟩, .int .i64 0, .slice 2 ⟨none, 0⟩, .int .i64 0], int (errP os xs ship t)] h')
    (hQ : ∀ s1 s2 h', errP os xs ship t = 0 → Ext h h' → At h' 1 s1 (nats (priceF xs os ship).1) → At h' 2 s2 (rows cutC (priceF xs os ship).2.2) →
      Q [.agg [.slice 1 s1, .int .i64 ((priceF xs os ship).2.1 : Nat), .slice 2 s2, .int .i64 ((totF xs os ship : Nat) : Int)], int 0] h') : I 8 [.one (.slice 12 s), .agg [.slice 4 l1, .int .i64 (ship : Int)], int t] Q h := by
  refine spec8 hI hs hsl hlen its hfew hbad fun s1 s2 zs h' he e hp hz a1 a2 => ?_
  rw [Int.toNat_natCast] at a1 a2 ⊢
  have := sortO_eq (errO_distinct (errA_ok (errP_A he)).1) hp hz
  subst this
  exact hQ s1 s2 h' he e a1 a2
/-- What is known of the best choice. -/
structure BestO (os : List Offr) (xs : List Itm) (ship : Nat) (t : Int) (B : List Nat) : Prop where
  sub : B.Sublist (List.range os.length)
  fit : ∀ o ∈ pickO os B, fitsF o xs ship t = 0
  tog : togP (pickO os B).length [] (pickO os B) = true
  best : ∀ O : List Nat, O.Sublist (List.range os.length) → (∀ o ∈ pickO os O, fitsF o xs ship t = 0) → togP (pickO os O).length [] (pickO os O) = true → leT (keyT xs os ship B) (keyT xs os ship O)
def fitB (os : List Offr) (xs : List Itm) (ship : Nat) (t : Int) (i : Nat) : Bool := match os[i]? with
  | some o => decide (fitsF o xs ship t = 0)
  | none => false
theorem pickO_fit {os : List Offr} {xs : List Itm} {ship : Nat} {t : Int} {O : List Nat} (h : ∀ i ∈ O, fitB os xs ship t i = true) : ∀ o ∈ pickO os O, fitsF o xs ship t = 0 := fun o ho => by
  unfold pickO at ho
  obtain ⟨i, hi, ho⟩ := List.mem_filterMap.1 ho
  have := h i hi
  unfold fitB at this
  rw [ho] at this
  simpa using this
theorem fit_pickO {os : List Offr} {xs : List Itm} {ship : Nat} {t : Int} {O : List Nat} (hO : ∀ i ∈ O, i < os.length) (h : ∀ o ∈ pickO os O, fitsF o xs ship t = 0) : ∀ i ∈ O, fitB os xs ship t i = true := fun i hi => by
  have hl := List.getElem?_eq_getElem (hO i hi)
  unfold fitB
  rw [hl]
  simp only [decide_eq_true_eq]
  exact h _ (by unfold pickO; exact List.mem_filterMap.2 ⟨i, hi, hl⟩)
theorem spec11 (hI : Closed' prog Pm I) {s : Sl} {os : List Offr} {t : Int} {ship : Int} (hs : Offs h s os) (hlen : os.length ≤ 10) (its : Itms h l1 xs) (hfew : xs.length ≤ 4)
    (hbad : ∀ h', Ext h h' → errA os xs ship t ≠ 0 → Q [.one (.slice 1 ⟨none, 0⟩), .agg [.slice 1 ⟨none, 0⟩, .int .i64 0, .slice 2 ⟨none, 0⟩, .int .i64 0], int (errA os xs ship t)] h')
    (hQ : ∀ s1 s2 s3 B h', errA os xs ship t = 0 → Ext h h' → BestO os xs ship.toNat t B → At h' 1 s1 (nats B) → At h' 1 s2 (nats (priceF xs (pickO os B) ship.toNat).1) → At h' 2 s3 (rows cutC (priceF xs (pickO os B) ship.toNat).2.2) →
      Q [.one (.slice 1 s1), .agg [.slice 1 s2, .int .i64 ((priceF xs (pickO os B) ship.toNat).2.1 : Nat), .slice 2 s3, .int .i64 ((totF xs (pickO os B) ship.toNat : Nat) : Int)], int 0] h') : I 11 [.one (.slice 12 s), .agg [.slice 4 l1, .int .i64 ship], int t] Q h := by
  have hol := hs.len
  refine hI.go _ _ (den11 I s l1 ship t Q) ?_
  refine spec19 hI hs its fun h1 e1 => ⟨_, rfl, ifT_intro (fun hA => ?_) fun hA => ?_⟩
  · exact hbad h1 e1 (nd hA)
  have hA : errA os xs ship t = 0 := Decidable.of_not_not (nd' hA)
  obtain ⟨hA1, hA2, hA3⟩ := errA_ok hA
  obtain ⟨hO1, hO2⟩ := errO_ok hA1
  obtain ⟨hK1, hK2, hK3, hK4⟩ := errK_ok hA2
  have hL : OkL xs := ⟨hK2, hfew, errK_tags hA2⟩
  have htags : ∀ o ∈ os, o.tags.length < 1000 := errO_tags hA1
  have hdis := errO_distinct hA1
  obtain ⟨sh, hsh⟩ := Int.eq_ofNat_of_zero_le hK3
  subst hsh
  rw [Int.toNat_natCast] at hQ
  have hs1 := e1.offs hs
  have its1 := e1.itms its
  -- which can be used
  refine loopK_intro (fun (a : Sl × Int) h' m => ∃ k : Nat, k ≤ os.length ∧ a.2 = (k : Int) ∧ m = os.length - k ∧ Owns h1 h' [(1, a.1, nats ((List.range k).filter (fitB os xs sh t)))]) os.length ⟨0, by omega, rfl, rfl, (Owns.nil h1).none_ 1⟩ ?_
  rintro ⟨lu, y⟩ h2 m ⟨k, hk, rfl, rfl, o2⟩
  dsimp only [uncur] at o2 ⊢
  have hlu : lu.len = ((List.range k).filter (fitB os xs sh t)).length := by
    have := o2.slen List.mem_cons_self
    rw [nats_length] at this; exact this
  have hfl := List.length_filter_le (fitB os xs sh t) (List.range k)
  rw [List.length_range] at hfl
  refine ifT_dec (fun hlt => ⟨⟨by omega, hlt⟩, ?_⟩) fun hge => ?_
  · have hkl : k < os.length := by omega
    have hx := List.getElem?_eq_getElem hkl
    generalize os[k] = o at hx
    have hom := List.mem_of_getElem? hx
    have hfk : fitB os xs sh t k = decide (fitsF o xs sh t = 0) := by unfold fitB; rw [hx]
    refine (o2.ext.offs hs1).at_.row offC_length (by decide) hx fun b of hr => ⟨o.key, o.kind, o.a, o.b, o.tg, o.least, o.most, o.group, o.alone, o.order, o.from_, o.to_, hr, ?_⟩
    refine spec23 hI (o := o) (hO2 o hom) (o2.ext.at_ (hs1.tg o hom)) (htags o hom) (o2.ext.itms its1) hK2 hK1 hL.tg fun h3 e3 => ⟨_, rfl, ifT_dec (fun hf => ?_) fun hf => ?_⟩
    · refine appendTo_owns (m := 0) (o2.mono e3) rfl (by omega) (by simp) fun j h4 o4 => ⟨os.length - (k + 1), by omega, k + 1, by omega, by show IntKind.i64.wrap _ = _; rw [w64 (by omega) (by omega)]; rfl, rfl, ?_⟩
      have e : (List.range (k + 1)).filter (fitB os xs sh t) = (List.range k).filter (fitB os xs sh t) ++ [k] := by
        rw [List.range_succ, List.filter_append]; simp [hfk, hf]
      rw [e]
      have e2 : nats ((List.range k).filter (fitB os xs sh t) ++ [k]) = nats ((List.range k).filter (fitB os xs sh t)) ++ [.int .i64 (k : Int)] := by simp [nats]
      rw [e2]; exact o4
    · have e : (List.range (k + 1)).filter (fitB os xs sh t) = (List.range k).filter (fitB os xs sh t) := by
        rw [List.range_succ, List.filter_append]; simp [hfk, hf]
      exact ⟨os.length - (k + 1), by omega, k + 1, by omega, by show IntKind.i64.wrap _ = _; rw [w64 (by omega) (by omega)]; rfl, rfl, by rw [e]; exact o2.mono e3⟩
  have hkn : k = os.length := by omega
  subst hkn
  obtain ⟨U, hU⟩ : ∃ U, (List.range os.length).filter (fitB os xs sh t) = U := ⟨_, rfl⟩
  rw [hU] at o2 hlu hfl
  have hUs : U.Sublist (List.range os.length) := hU ▸ List.filter_sublist
  have hUf : ∀ i ∈ U, fitB os xs sh t i = true := fun i hi => by rw [← hU] at hi; exact (List.mem_filter.1 hi).2
  have hUl : ∀ i ∈ U, i < os.length := fun i hi => List.mem_range.1 (hUs.subset hi)
  refine ifT_dec (fun h9 => by omega) fun _ => ?_
  have e2 := e1.trans o2.ext
  have au := o2.at_ (sz := 1) (s := lu) (cs := nats U) List.mem_cons_self
  have hs2 := e2.offs hs
  have its2 := e2.itms its
  refine spec24p hI (os := []) ⟨⟨rfl, .inl rfl⟩, by simp⟩ rfl (by decide) .nil (by simp) (by simp) its2 hL (by omega) fun q1 q2 h3 e3 b1 b2 => ⟨_, _, _, _, rfl, ?_⟩
  have hpw := pow_ok U.length (by omega)
  have hp1 := Nat.two_pow_pos U.length
  refine loopK_intro (fun (a : Sl × (Sl × Int × Sl × Int × PUnit) × Int) h' m => ∃ (B : List Nat) (M : Nat), Ext h2 h' ∧ 1 ≤ M ∧ M ≤ 2 ^ U.length ∧ m = 2 ^ U.length - M ∧ a.2.2 = (M : Int) ∧ At h' 1 a.1 (nats B) ∧ At h' 1 a.2.1.1 (nats (priceF xs (pickO os B) sh).1) ∧ At h' 2 a.2.1.2.2.1 (rows cutC (priceF xs (pickO os B) sh).2.2) ∧
      a.2.1.2.1 = (((priceF xs (pickO os B) sh).2.1 : Nat) : Int) ∧ a.2.1.2.2.2.1 = ((totF xs (pickO os B) sh : Nat) : Int) ∧ B.Sublist U ∧ togP (pickO os B).length [] (pickO os B) = true ∧ ∀ m', m' < M → togP (pickO os (sel m' U)).length [] (pickO os (sel m' U)) = true → leT (keyT xs os sh B) (keyT xs os sh (sel m' U))) (2 ^ U.length - 1)
    ⟨[], 1, e3, Nat.le_refl _, hp1, rfl, rfl, ⟨rfl, .inl rfl⟩, b1, b2, rfl, rfl, List.nil_sublist _, rfl, fun m' hm _ => by
      have : m' = 0 := by omega
      subst this; rw [sel_zero]; exact leT.refl _⟩ ?_
  rintro ⟨lb, ⟨lp, nsh, lc, ntot, u⟩, y⟩ h4 m ⟨B, M, e4, hM1, hM2, rfl, rfl, ab, ap, ac, rfl, rfl, hB1, hB2, hB3⟩
  dsimp only [uncur] at ab ap ac ⊢
  refine ⟨by omega, ?_⟩
  rw [hlu, shl_ok _ (by omega)]
  refine ifT_dec (fun hlt => ?_) fun hge => ?_
  · have hMlt : M < 2 ^ U.length := by omega
    have e24 := e2.trans e4
    have hs4 := e24.offs hs
    -- the choice that a number tells
    refine loopK_intro (fun (a : Sl × Sl × Int) h' m => ∃ k : Nat, k ≤ U.length ∧ a.2.2 = (k : Int) ∧ m = U.length - k ∧ Owns h4 h' [(1, a.1, nats (sel M (U.take k))), (12, a.2.1, rows offC (pickO os (sel M (U.take k))))]) U.length ⟨0, by omega, rfl, rfl, ((Owns.nil h4).none_ 12).none_ 1⟩ ?_
    rintro ⟨la, lo, y⟩ h5 m5 ⟨k, hk, rfl, rfl, o5⟩
    dsimp only [uncur] at o5 ⊢
    have hselU : ∀ i ∈ sel M (U.take k), i < os.length := fun i hi => hUl i (List.mem_of_mem_take ((sel_sub M _).subset hi))
    have hsl := (sel_sub M (U.take k)).length_le
    rw [List.length_take] at hsl
    have hla : la.len = (sel M (U.take k)).length := by
      have := o5.slen (s := la) (cs := nats (sel M (U.take k))) List.mem_cons_self
      rw [nats_length] at this; exact this
    have hlo : lo.len = (sel M (U.take k)).length := by
      rw [(o5.at_ (List.mem_cons_of_mem _ List.mem_cons_self)).rowsLen offC_length (by decide), pickO_length hselU]
    refine ifT_dec (fun hlt2 => ⟨⟨by omega, by omega⟩, ?_⟩) fun hge2 => ?_
    · have hkl : k < U.length := by omega
      have hx := List.getElem?_eq_getElem hkl
      have hjl := hUl _ (List.getElem_mem hkl)
      generalize U[k] = j at hx hjl
      have hj := List.getElem?_eq_getElem hjl
      generalize os[j] = o at hj
      have hst := sel_step M k U hx
      refine ((e4.trans o5.ext).at_ au).cell (nats_get hx) fun b of hr => ⟨_, hr, by omega, ?_⟩
      have hsr : shr .i64 (M : Int) (k : Int) = ((M / 2 ^ k : Nat) : Int) := shr_nat M k .i64 rfl (by omega)
      have hdl := Nat.div_le_self M (2 ^ k)
      rw [hsr, bit_and _ (by omega)]
      refine ifT_dec (fun hbit => ⟨⟨by omega, by omega⟩, ?_⟩) fun hbit => ?_
      · have hbit : M / 2 ^ k % 2 = 1 := by
          generalize M / 2 ^ k = q at hbit; omega
        rw [if_pos hbit] at hst
        refine (o5.ext.offs hs4).at_.rowB offC_length (by decide) hj fun b of ha hr => ⟨o.key, o.kind, o.a, o.b, o.tg, o.least, o.most, o.group, o.alone, o.order, o.from_, o.to_, hr, ?_⟩
        have hb4 : h4 b ≠ none := hs4.at_.blk (by rw [rows_length offC_length]; omega) ha
        refine appendTo_owns (m := 0) o5 rfl (by omega) (fun i hi => .inl (by rw [List.mem_singleton.1 hi]; exact hb4)) fun j6 h6 o6 => ?_
        refine appendTo_owns (m := 0) (o6.perm (List.Perm.swap _ _ _)) rfl (by omega) (by simp) fun j7 h7 o7 => ⟨U.length - (k + 1), by omega, k + 1, by omega, by show IntKind.i64.wrap _ = _; rw [w64 (by omega) (by omega)]; rfl, rfl, ?_⟩
        have e8 : nats (sel M (U.take k) ++ [j]) = nats (sel M (U.take k)) ++ [.int .i64 (j : Int)] := by simp [nats]
        have e9 : rows offC [o] = offC o := by simp [rows]
        rw [hst, pickO_snoc hj, e8, rows_append, e9]
        exact o7.perm (List.Perm.swap _ _ _)
      · have hbit : ¬ M / 2 ^ k % 2 = 1 := by
          generalize M / 2 ^ k = q at hbit; omega
        rw [if_neg hbit, List.append_nil] at hst
        exact ⟨U.length - (k + 1), by omega, k + 1, by omega, by show IntKind.i64.wrap _ = _; rw [w64 (by omega) (by omega)]; rfl, rfl, by rw [hst]; exact o5⟩
    · have hk2 : k = U.length := by omega
      subst hk2
      rw [List.take_length] at o5 hla hlo hselU
      obtain ⟨O, hO⟩ : ∃ O, sel M U = O := ⟨_, rfl⟩
      rw [hO] at o5 hla hlo hselU
      have hOU : O.Sublist U := hO ▸ sel_sub M U
      have hOos := pickO_sub (hOU.trans hUs)
      have aO := o5.at_ (sz := 1) (s := la) (cs := nats O) List.mem_cons_self
      have of5 : Offs h5 lo (pickO os O) := ⟨o5.at_ (List.mem_cons_of_mem _ List.mem_cons_self), fun x hx => (e24.trans o5.ext).at_ (hs.tg x (hOos.subset hx))⟩
      have osl := o5.slg (sz := 12) (s := lo) (cs := rows offC (pickO os O)) (List.mem_cons_of_mem _ List.mem_cons_self)
      have hpl := pickO_length hselU
      have hOl := hOU.length_le
      have ew : IntKind.i64.wrap ((M : Int) + 1) = ((M + 1 : Nat) : Int) := by rw [w64] <;> omega
      rw [ew]
      refine spec20 hI of5 (by omega) fun h6 e6 => ⟨_, rfl, ifT_intro (fun hT => ?_) fun hT => ?_⟩
      · have hT := nb hT
        have e46 := o5.ext.trans e6
        refine ⟨2 ^ U.length - (M + 1), by omega, B, M + 1, e4.trans e46, by omega, by omega, rfl, rfl, e46.at_ ab, e46.at_ ap, e46.at_ ac, rfl, rfl, hB1, hB2, fun m' hm ht => ?_⟩
        by_cases hmm : m' = M
        · subst hmm; rw [hO, hT] at ht; cases ht
        · exact hB3 m' (by omega) ht
      · have hT := nb' hT
        refine spec24p hI (e6.offs of5) (e6.sl osl) (by omega) (hdis.sublist hOos) (fun o ho => hO2 o (hOos.subset ho)) (fun o ho => htags o (hOos.subset ho)) (((e24.trans o5.ext).trans e6).itms its) hL (by omega) fun r1 r2 h7 e7 c1 c2 => ⟨_, _, _, _, rfl, ?_⟩
        have e57 := e6.trans e7
        have e47 := o5.ext.trans e57
        refine spec27 hI fun d1 f1 f2 => ⟨d1, rfl, ?_⟩
        refine spec27 hI fun d2 f3 f4 => ⟨d2, rfl, ?_⟩
        refine spec28 hI (e57.at_ aO) (e47.at_ ab) (by omega) fun d3 => ⟨d3, rfl, newK_intro fun i8 h8 hn8 he8 => ?_⟩
        have e8 : Ext h7 h8 := he8 ▸ Ext.new hn8
        have e48 := e47.trans e8
        have hlb : lb.len = B.length := by rw [ab.len1, nats_length]
        rw [hla, hlb] at f3 f4
        obtain ⟨g1, g2⟩ := less_T (a := keyT xs os sh O) (b := keyT xs os sh B) (c3 := d3) f1 f2 f3 f4
        refine spec26n hI (l := [d1, d2, d3]) (s := ⟨some (i8, 0), 3⟩) ⟨rfl, .inr ?_⟩ (by show 3 < 1000; decide) ⟨_, rfl, ifT_dec (fun hneg => ?_) fun hneg => ?_⟩
        · show h8.read i8 0 3 = _
          rw [read_block (ro := false) (cs := ints [d1, d2, d3]) (by rw [he8, set_eq]; rfl) (by simp [ints])]
          rfl
        · refine ⟨2 ^ U.length - (M + 1), by omega, O, M + 1, e4.trans e48, by omega, by omega, rfl, rfl, (e57.trans e8).at_ aO, e8.at_ c1, e8.at_ c2, rfl, rfl, hOU, hT, fun m' hm ht => ?_⟩
          by_cases hmm : m' = M
          · subst hmm; rw [hO]; exact leT.refl _
          · exact (g1 hneg).trans (hB3 m' (by omega) ht)
        · refine ⟨2 ^ U.length - (M + 1), by omega, B, M + 1, e4.trans e48, by omega, by omega, rfl, rfl, e48.at_ ab, e48.at_ ap, e48.at_ ac, rfl, rfl, hB1, hB2, fun m' hm ht => ?_⟩
          by_cases hmm : m' = M
          · subst hmm; rw [hO]; exact g2 hneg
          · exact hB3 m' (by omega) ht
  · have hMe : M = 2 ^ U.length := by omega
    refine hQ lb lp lc B h4 hA (e2.trans e4) ⟨hB1.trans hUs, pickO_fit fun i hi => hUf i (hB1.subset hi), hB2, fun O hO hf ht => ?_⟩ ab ap ac
    have hOU : O.Sublist U := by
      have h5 := hO.filter (fitB os xs sh t)
      rw [hU] at h5
      have h6 := fit_pickO (fun i hi => List.mem_range.1 (hO.subset hi)) hf
      have h7 : O.filter (fitB os xs sh t) = O := List.filter_eq_self.2 h6
      rw [h7] at h5; exact h5
    obtain ⟨m', h5, h6⟩ := sel_all hOU
    have := hB3 m' (by omega) (by rw [h6]; exact ht)
    rw [h6] at this; exact this
end
end Go.Proofs.YtfemminjhecocaaGreatVc
