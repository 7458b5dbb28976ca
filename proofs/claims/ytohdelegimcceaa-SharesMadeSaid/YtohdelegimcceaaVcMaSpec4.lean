/- Contracts of what SharesMade reaches: shares and dealing of both sides, and the law. -/
import Derived.Test.YtohdelegimcceaaVcMaSpec3
set_option linter.unusedSimpArgs false
set_option linter.unusedVariables false
namespace Go.Proofs.YtohdelegimcceaaVc
open Go.Proofs.YtohdelegimcceaaLasts (shared dealtK_length)
open Go.Proofs.YtohdelegimcceaaShares (qs)
open Go.Proofs.Try (prog)

section
variable {I : Calls} {Q : Post} {h : Heap}

theorem spec26 (hI : Closed' prog Pm I) {s : Sl} {xs : List Int} (hs : At h 1 s (ints xs)) (hQe : errW xs ≠ 0 → Q [int (errW xs)] h) (hQ : errW xs = 0 → RightW xs (xs.map Int.toNat) → Q [int 0] h) : I 26 [.one (.slice 1 s)] Q h := by
  have hl : s.len = xs.length := by rw [hs.len1, ints_length]
  refine hI.go _ _ (den26 I s Q) ?_
  unfold vc26
  rw [hl]
  refine ifT_dec (fun hgt => ?_) fun hgt => ?_
  · have e : errW xs = 2 := by unfold errW; rw [if_pos (by omega)]
    rw [e] at hQe
    exact hQe (by decide)
  have e0 : errW xs = if ∃ w ∈ xs, ¬ okW w then 1 else if ∀ w ∈ xs, w = 0 then 8 else 0 := by unfold errW; rw [if_neg (by omega)]
  refine loopK_intro (fun (a : Int × Int) h'' m => h'' = h ∧ ∃ i : Nat, i ≤ xs.length ∧ a = ((((xs.take i).map Int.toNat).sum : Int), (i : Int)) ∧ xs.length - i = m ∧ (∀ w ∈ xs.take i, okW w)) xs.length
    ⟨rfl, 0, by omega, rfl, rfl, by simp⟩ ?_
  rintro a h'' m ⟨rfl, i, hi, rfl, rfl, hall⟩
  dsimp only [uncur]
  have bnd : ∀ w ∈ (xs.take i).map Int.toNat, w ≤ 1000000 := fun w hw => by
    obtain ⟨y, hy, rfl⟩ := List.mem_map.1 hw
    have := hall y hy
    unfold okW at this; omega
  have hsum := sum_le bnd
  rw [List.length_map, List.length_take] at hsum
  refine ifT_dec (fun hlt => ⟨⟨by omega, by omega⟩, ?_⟩) (fun hge => ?_)
  · have hx := List.getElem?_eq_getElem (show i < xs.length by omega)
    have hxm : xs[i] ∈ xs := List.getElem_mem _
    generalize xs[i] = x at hx hxm
    have htk : xs.take (i + 1) = xs.take i ++ [x] := by rw [List.take_add_one, hx]; rfl
    have no : ¬ okW x → Q [int 1] h'' := fun hno => by
      have e : errW xs = 1 := by rw [e0, if_pos ⟨x, hxm, hno⟩]
      rw [e] at hQe
      exact hQe (by decide)
    refine hs.cell (ints_get hx) fun bb o hr => ⟨x, hr, ifT_dec (fun hb => no (by unfold okW; omega)) fun hb => ifT_dec (fun hb2 => no (by unfold okW; omega)) fun hb2 => ?_⟩
    have hyx : okW x := by unfold okW; omega
    refine ⟨xs.length - (i + 1), by omega, rfl, i + 1, by omega, ?_, rfl, fun w hw => ?_⟩
    · rw [htk, List.map_append, List.sum_append]
      show _ = ((((((xs.take i).map Int.toNat).sum + [x.toNat].sum : Nat)) : Int), _)
      have e1 : [x.toNat].sum = x.toNat := by simp
      rw [e1]
      generalize ((xs.take i).map Int.toNat).sum = y at *
      rw [w64 (by omega) (by omega), w64 (by omega) (by omega)]
      congr 1
      omega
    · rw [htk] at hw
      rcases List.mem_append.1 hw with hw | hw
      · exact hall w hw
      · have : w = x := by simpa using hw
        rw [this]; exact hyx
  · have : i = xs.length := by omega
    subst this
    rw [List.take_length] at hall bnd ⊢
    have hno : ¬ ∃ w ∈ xs, ¬ okW w := fun ⟨w, hw, h⟩ => h (hall w hw)
    have hxs : xs = (xs.map Int.toNat).map fun n : Nat => (n : Int) := by
      rw [List.map_map]
      conv => lhs; rw [← List.map_id xs]
      refine List.map_congr_left fun y hy => ?_
      have := hall y hy
      exact (Int.toNat_of_nonneg this.1).symm
    refine ifT_dec (fun hz => ?_) fun hz => ?_
    · have hz' : ∀ w ∈ xs, w = 0 := fun w hw => by
        have h5 := mem_le_sum (List.mem_map.2 ⟨w, hw, rfl⟩ : w.toNat ∈ xs.map Int.toNat)
        have := hall w hw
        unfold okW at this
        omega
      have e : errW xs = 8 := by rw [e0, if_neg hno, if_pos hz']
      rw [e] at hQe
      exact hQe (by decide)
    · have hnz : ¬ ∀ w ∈ xs, w = 0 := fun h => by
        apply hz
        have : (xs.map Int.toNat).sum ≤ 0 * (xs.map Int.toNat).length := sum_le fun w hw => by
          obtain ⟨y, hy, rfl⟩ := List.mem_map.1 hw
          rw [h y hy]; exact Nat.le_refl _
        omega
      have e : errW xs = 0 := by rw [e0, if_neg hno, if_neg hnz]
      exact hQ e ⟨hxs, bnd, by omega, by simp; omega⟩

theorem spec36 (hI : Closed' prog Pm I) {a b : Nat} (hQ : Q [int (Nat.gcd a b : Nat)] h) : I 36 [int a, int b] Q h := by
  refine hI.go _ _ (den36 I a b Q) ?_
  refine loopK_intro (fun (p : Int × Int) h' m => h' = h ∧ ∃ x y : Nat, p = ((x : Int), (y : Int)) ∧ y = m ∧ Nat.gcd x y = Nat.gcd a b) b ⟨rfl, a, b, rfl, rfl, rfl⟩ ?_
  rintro p h' m ⟨rfl, x, y, rfl, rfl, hg⟩
  dsimp only [uncur]
  refine ifT_intro (fun h1 => ?_) fun h1 => ?_
  · have h2 : ¬ (y : Int) = 0 := by simpa using h1
    refine ⟨h2, x % y, Nat.mod_lt _ (by omega), rfl, y, x % y, by rw [Int.ofNat_tmod], rfl, ?_⟩
    rw [← hg, Nat.gcd_comm x y, Nat.gcd_rec y x, Nat.gcd_comm]
  · have h2 : y = 0 := by have : (y : Int) = 0 := by simpa using h1
                          omega
    subst h2
    rw [Nat.gcd_zero_right] at hg
    subst hg
    exact hQ

theorem spec27 (hI : Closed' prog Pm I) {a b : Nat} (h1 : a < 4611686018427387904) (h2 : b < 4611686018427387904) (h3 : 0 < b) (hQ : Q [frac (a / Nat.gcd a b : Nat) (b / Nat.gcd a b : Nat)] h) : I 27 [int a, int b] Q h := by
  refine hI.go _ _ (den27 I a b Q) ?_
  refine joinK_intro (fun (p : Int × Int) h' => h' = h ∧ p = ((a : Int), (b : Int))) ?_ fun j hj => ifT_dec (fun h => by omega) fun _ => hj _ _ ⟨rfl, rfl⟩
  rintro p h' ⟨rfl, rfl⟩
  dsimp only [uncur]
  have hg1 : 0 < Nat.gcd a b := Nat.gcd_pos_of_pos_right _ h3
  have hg2 : Nat.gcd a b ≤ b := Nat.gcd_le_right _ h3
  have em : max (a : Int) (IntKind.i64.wrap (0 - (a : Int))) = a := by rw [w64 (by omega) (by omega)]; omega
  rw [em]
  refine spec36 hI ⟨_, rfl, ?_⟩
  generalize Nat.gcd a b = g at *
  have la : a / g ≤ a := Nat.div_le_self _ _
  have lb : b / g ≤ b := Nat.div_le_self _ _
  have e2 : IntKind.i64.wrap ((a : Int).tdiv g) = (a / g : Nat) := by rw [← Int.ofNat_tdiv]; generalize a / g = z at *; exact w64 (by omega) (by omega)
  have e3 : IntKind.i64.wrap ((b : Int).tdiv g) = (b / g : Nat) := by rw [← Int.ofNat_tdiv]; generalize b / g = z at *; exact w64 (by omega) (by omega)
  rw [e2, e3]
  exact ⟨by omega, by omega, hQ⟩

theorem spec12 (hI : Closed' prog Pm I) {s : Sl} {xs : List Int} (hs : At h 1 s (ints xs))
    (hQe : errW xs ≠ 0 → Q [.one (.slice 2 ⟨none, 0⟩), int (errW xs)] h) (hQ : errW xs = 0 → RightW xs (xs.map Int.toNat) → ∀ s' h', Ext h h' → At h' 2 s' (twos (fracs (xs.map Int.toNat).sum (xs.map Int.toNat))) → Q [.one (.slice 2 s'), int 0] h') :
    I 12 [.one (.slice 1 s)] Q h := by
  refine hI.go _ _ (den12 I s Q) ?_
  refine spec26 hI hs (fun he => ⟨_, rfl, ifT_intro (fun _ => hQe he) fun h => by simp [he] at h⟩) fun he R => ⟨_, rfl, ifT_intro (fun h => by simp at h) fun _ => ?_⟩
  have hs' := hs
  rw [R.xs, ← nats_ints] at hs'
  have hQ' := hQ he R
  obtain ⟨_, r1, r2, r3⟩ := R
  generalize xs.map Int.toNat = ws at *
  have hl : s.len = ws.length := by rw [hs'.len1, nats_length]
  have hsum := sum_le r1
  generalize hall : ws.sum = all at *
  refine loopK_intro (fun (a : Sl × Int) h'' m => ∃ k : Nat, k ≤ ws.length ∧ ws.length - k = m ∧ a.2 = (k : Int) ∧ Own h h'' 2 a.1 (twos (fracs all (ws.take k)))) ws.length
    ⟨0, by omega, rfl, rfl, Own.nil _ _⟩ ?_
  rintro ⟨l, y⟩ h2 m ⟨k, hk, rfl, rfl, o⟩
  dsimp only [uncur]
  refine ifT_dec (fun hlt => ⟨⟨by omega, hlt⟩, ?_⟩) (fun hge => ?_)
  · have hkl : k < ws.length := by omega
    have hx := List.getElem?_eq_getElem hkl
    have hwk := r1 ws[k] (List.getElem_mem hkl)
    generalize ws[k] = w at *
    refine (o.ext.at_ hs').cell (nats_get hx) fun b o' hr => ⟨_, hr, spec28 hI (o.ext.at_ hs') (by omega) (by omega) ⟨_, rfl, ?_⟩⟩
    rw [hall]
    refine spec27 hI (by omega) (by omega) r2 ⟨_, _, rfl, ?_⟩
    have hol := o.len
    rw [twos_length] at hol
    have hfl : (fracs all (ws.take k)).length = k := by simp [fracs]; omega
    rw [hfl] at hol
    change l.len * 2 = k * 2 at hol
    have e1 : twos (fracs all (ws.take (k + 1))) = twos (fracs all (ws.take k)) ++ [.int .i64 ((w / Nat.gcd w all : Nat) : Int), .int .i64 ((all / Nat.gcd w all : Nat) : Int)] := by
      have : ws.take (k + 1) = ws.take k ++ [w] := by rw [List.take_add_one, hx]; rfl
      rw [this]
      simp [twos, fracs]
    refine appendTo_own (m := 0) o (by rfl) (by omega) fun s' h3 o3 hl3 => ⟨ws.length - (k + 1), by omega, k + 1, by omega, rfl, ?_, by rw [e1]; exact o3⟩
    show IntKind.i64.wrap ((k : Int) + 1) = _
    rw [w64] <;> omega
  · have : k = ws.length := by omega
    subst this
    rw [List.take_length] at o
    exact hQ' _ _ o.ext o.at_

theorem spec13 (hI : Closed' prog Pm I) {s t : Sl} {ps : List (Int × Int)} (hs : At h 2 s (twos ps)) (ht : At h 2 t (twos ps)) (hlen : ps.length < 1000000) (hQ : Q [boo true] h) : I 13 [.one (.slice 2 s), .one (.slice 2 t)] Q h := by
  have h1 : s.len = ps.length := by have := hs.1; rw [twos_length] at this; omega
  have h2 : t.len = ps.length := by have := ht.1; rw [twos_length] at this; omega
  refine hI.go _ _ (den13 I s t Q) ?_
  refine ifT_intro (fun h => by rw [h1, h2] at h; simp at h) fun _ => ?_
  refine loopK_intro (fun (a : Int) h' m => h' = h ∧ ∃ i : Nat, i ≤ ps.length ∧ a = i ∧ ps.length - i = m) ps.length ⟨rfl, 0, by omega, rfl, rfl⟩ ?_
  rintro a h' m ⟨rfl, i, hi, rfl, rfl⟩
  refine ifT_dec (fun hlt => ⟨⟨by omega, hlt⟩, ?_⟩) (fun hge => hQ)
  have hx := List.getElem?_eq_getElem (show i < ps.length by omega)
  generalize ps[i] = p at hx
  obtain ⟨a, b⟩ := p
  refine hs.two hx fun bb o hr => ⟨a, b, hr, ⟨by omega, by omega⟩, ht.two hx fun bb o hr => ⟨a, b, hr, ifT_intro (fun h => by simp at h) fun _ => ⟨ps.length - (i + 1), by omega, rfl, i + 1, by omega, ?_, rfl⟩⟩⟩
  rw [w64] <;> omega

/-- What is wrong with what is to be divided. -/
def errD (c : Int) (xs : List Int) : Int := if ¬ (0 ≤ c ∧ c ≤ 1000000000000) then 1 else errW xs

theorem spec14L (hI : Closed' prog Pm I) {s : Sl} {c : Int} {xs : List Int} (hs : At h 1 s (ints xs))
    (hQe : errD c xs ≠ 0 → Q [.one (.slice 1 ⟨none, 0⟩), int (errD c xs)] h) (hQ : errD c xs = 0 → RightW xs (xs.map Int.toNat) → ∀ s' h', Ext h h' → At h' 1 s' (nats (shared c.toNat (xs.map Int.toNat))) → Q [.one (.slice 1 s'), int 0] h') :
    I 14 [int c, .one (.slice 1 s)] Q h := by
  refine hI.go _ _ (den14 I c s Q) ?_
  refine spec20 hI ⟨_, rfl, ifT_intro (fun hb => ?_) fun hb => ?_⟩
  · have e : errD c xs = 1 := by unfold errD; rw [if_pos]; simp at hb; omega
    rw [e] at hQe
    exact hQe (by decide)
  have g : 0 ≤ c ∧ c ≤ 1000000000000 := by simp at hb; omega
  have e : errD c xs = errW xs := by unfold errD; rw [if_neg (by simpa using g)]
  rw [e] at hQe hQ
  refine spec23 hI hs (fun he => ⟨_, rfl, ifT_intro (fun _ => hQe he) fun h => by simp [he] at h⟩) fun he R => ⟨_, rfl, ifT_intro (fun h => by simp at h) fun _ => ?_⟩
  have hs' := hs
  rw [R.xs, ← nats_ints] at hs'
  obtain ⟨n, rfl⟩ := Int.eq_ofNat_of_zero_le g.1
  exact spec29L hI hs' (by omega) R.ws1 R.pos R.len fun s' h' h1 h2 => ⟨_, rfl, hQ he R _ _ h1 h2⟩

theorem spec15 (hI : Closed' prog Pm I) {s : Sl} {c : Int} {xs : List Int} (hs : At h 1 s (ints xs))
    (hQe : errD c xs ≠ 0 → Q [.one (.slice 1 ⟨none, 0⟩), int (errD c xs)] h) (hQ : errD c xs = 0 → RightW xs (xs.map Int.toNat) → ∀ s' h', Ext h h' → At h' 1 s' (nats (shared c.toNat (xs.map Int.toNat))) → Q [.one (.slice 1 s'), int 0] h') :
    I 15 [int c, .one (.slice 1 s)] Q h := by
  refine hI.go _ _ (den15 I c s Q) ?_
  refine joinK_intro (fun (b : Bool) h' => h' = h ∧ (b = true ↔ ¬ (0 ≤ c ∧ c ≤ 1000000000000))) ?_ fun j hj => ifT_dec (fun h => hj _ _ ⟨rfl, by simp; omega⟩) fun h => hj _ _ ⟨rfl, by simp; omega⟩
  rintro b h' ⟨rfl, hb⟩
  refine ifT_intro (fun hbt => ?_) fun hbf => ?_
  · have e : errD c xs = 1 := by unfold errD; rw [if_pos (hb.1 hbt)]
    rw [e] at hQe
    exact hQe (by decide)
  have g : 0 ≤ c ∧ c ≤ 1000000000000 := by
    by_cases h : 0 ≤ c ∧ c ≤ 1000000000000
    · exact h
    · rw [hb.2 h] at hbf; cases hbf
  have e : errD c xs = errW xs := by unfold errD; rw [if_neg (by simpa using g)]
  rw [e] at hQe hQ
  refine spec26 hI hs (fun he => ⟨_, rfl, ifT_intro (fun _ => hQe he) fun h => by simp [he] at h⟩) fun he R => ⟨_, rfl, ifT_intro (fun h => by simp at h) fun _ => ?_⟩
  have hs' := hs
  rw [R.xs, ← nats_ints] at hs'
  obtain ⟨n, rfl⟩ := Int.eq_ofNat_of_zero_le g.1
  have hw : ∀ w ∈ xs.map Int.toNat, w ≤ 1000000000000 := fun w hw => by have := R.ws1 w hw; omega
  have hlen := R.len
  exact spec30L hI hs' (by omega) hw R.pos (by omega) fun s' h' h1 h2 => ⟨_, rfl, hQ he R _ _ h1 h2⟩

theorem spec16 (hI : Closed' prog Pm I) (hQ : Q [boo true] h) : I 16 [] Q h := by
  refine hI.go _ _ (den16 I Q) ?_
  refine hI.go _ _ (den31 I 2 4 _) ?_
  refine joinK_intro (fun (b : Bool) h' => h' = h ∧ b = false) ?_ ?_
  · rintro _ h' ⟨rfl, rfl⟩
    refine ifT_intro (fun h => by cases h) fun _ => ifT_dec (fun h => absurd h (by decide)) fun _ => ?_
    refine spec25 hI (a := 2) (b := 4) (by decide) (by decide) (by decide) ⟨_, _, rfl, _, _, _, rfl, ?_⟩
    refine ifT_dec (fun _ => ?_) fun h => absurd rfl h
    have e : (decide (((2 / Nat.gcd 2 4 : Nat) : Int) = 1) && decide (((4 / Nat.gcd 2 4 : Nat) : Int) = 2)) = true := by decide
    rw [e]
    exact hQ
  · intro j hj
    refine spec20 hI ⟨_, rfl, ifT_intro (fun h => by simp at h) fun _ => spec20 hI ⟨_, rfl, hj _ _ ⟨rfl, by decide⟩⟩⟩

theorem At.nil {sz : Nat} : At h sz ⟨none, 0⟩ [] := ⟨by simp, .inl rfl⟩

/-- A literal lies where it was put, whatever becomes of the stream. -/
theorem lit_at {h h0 : Heap} {i j n : Nat} {o : Obj} {xs : List Int} (hne : j ≠ i) (he : h = h0.set j (.cells false (ints xs))) (hn : n = xs.length) : At (h.set i o) 1 ⟨some (j, 0), n⟩ (ints xs) := by
  refine ⟨by rw [ints_length]; simp [hn], .inr ?_⟩
  show (h.set i o).read j 0 (n * 1) = _
  unfold Heap.read
  rw [set_ne _ _ hne, he, set_eq]
  subst hn
  simp [ints, List.take_of_length_le]

theorem wList_length (how span : Int) (xs : List Int) : (wList how span xs).length = xs.length := by simp [wList]
theorem shared_length (c : Nat) (ws : List Nat) : (shared c ws).length = ws.length := by unfold shared; rw [dealtK_length]; simp [qs]

/-! ### whether or not it is right -/
def wRes (how span : Int) (xs : List Int) : List Int := if errA how span xs = 0 then wList how span xs else []
def fRes (xs : List Int) : List (Int × Int) := if errW xs = 0 then fracs (xs.map Int.toNat).sum (xs.map Int.toNat) else []
def dRes (c : Int) (xs : List Int) : List Int := if errD c xs = 0 then (shared c.toNat (xs.map Int.toNat)).map fun n : Nat => (n : Int) else []
theorem wRes_length (how span : Int) (xs : List Int) : (wRes how span xs).length ≤ xs.length := by unfold wRes; split <;> simp [wList_length]
theorem fRes_length (xs : List Int) : (fRes xs).length ≤ xs.length := by unfold fRes; split <;> simp [fracs]
theorem dRes_length (c : Int) (xs : List Int) : (dRes c xs).length ≤ xs.length := by unfold dRes; split <;> simp [shared_length]

theorem both7 (hI : Closed' prog Pm I) {how span : Int} {s : Sl} {xs : List Int} (hs : At h 1 s (ints xs)) (hQ : ∀ s' h', Ext h h' → At h' 1 s' (ints (wRes how span xs)) → Q [.one (.slice 1 s'), int (errA how span xs)] h') : I 7 [int how, int span, .one (.slice 1 s)] Q h := by
  refine specWeights7 hI hs (fun he => hQ _ _ (Ext.refl _) ?_) fun he s' h' hx ha => ?_
  · unfold wRes; rw [if_neg he]; exact At.nil
  · have := hQ s' h' hx (by unfold wRes; rw [if_pos he]; exact ha)
    rwa [he] at this
theorem both8 (hI : Closed' prog Pm I) {how span : Int} {s : Sl} {xs : List Int} (hs : At h 1 s (ints xs)) (hQ : ∀ s' h', Ext h h' → At h' 1 s' (ints (wRes how span xs)) → Q [.one (.slice 1 s'), int (errA how span xs)] h') : I 8 [int how, int span, .one (.slice 1 s)] Q h := by
  refine specWeights8 hI hs (fun h' hx he => hQ _ _ hx ?_) fun he s' h' hx ha => ?_
  · unfold wRes; rw [if_neg he]; exact At.nil
  · have := hQ s' h' hx (by unfold wRes; rw [if_pos he]; exact ha)
    rwa [he] at this
theorem both11 (hI : Closed' prog Pm I) {s : Sl} {xs : List Int} (hs : At h 1 s (ints xs)) (hQ : ∀ s' h', Ext h h' → At h' 2 s' (twos (fRes xs)) → Q [.one (.slice 2 s'), int (errW xs)] h') : I 11 [.one (.slice 1 s)] Q h := by
  refine spec11 hI hs (fun he => hQ _ _ (Ext.refl _) ?_) fun he _ s' h' hx ha => ?_
  · unfold fRes; rw [if_neg he]; exact At.nil
  · have := hQ s' h' hx (by unfold fRes; rw [if_pos he]; exact ha)
    rwa [he] at this
theorem both12 (hI : Closed' prog Pm I) {s : Sl} {xs : List Int} (hs : At h 1 s (ints xs)) (hQ : ∀ s' h', Ext h h' → At h' 2 s' (twos (fRes xs)) → Q [.one (.slice 2 s'), int (errW xs)] h') : I 12 [.one (.slice 1 s)] Q h := by
  refine spec12 hI hs (fun he => hQ _ _ (Ext.refl _) ?_) fun he _ s' h' hx ha => ?_
  · unfold fRes; rw [if_neg he]; exact At.nil
  · have := hQ s' h' hx (by unfold fRes; rw [if_pos he]; exact ha)
    rwa [he] at this
theorem both14 (hI : Closed' prog Pm I) {s : Sl} {c : Int} {xs : List Int} (hs : At h 1 s (ints xs)) (hQ : ∀ s' h', Ext h h' → At h' 1 s' (ints (dRes c xs)) → Q [.one (.slice 1 s'), int (errD c xs)] h') : I 14 [int c, .one (.slice 1 s)] Q h := by
  refine spec14L hI hs (fun he => hQ _ _ (Ext.refl _) ?_) fun he _ s' h' hx ha => ?_
  · unfold dRes; rw [if_neg he]; exact At.nil
  · have := hQ s' h' hx (by unfold dRes; rw [if_pos he, ← nats_ints]; exact ha)
    rwa [he] at this
theorem both15 (hI : Closed' prog Pm I) {s : Sl} {c : Int} {xs : List Int} (hs : At h 1 s (ints xs)) (hQ : ∀ s' h', Ext h h' → At h' 1 s' (ints (dRes c xs)) → Q [.one (.slice 1 s'), int (errD c xs)] h') : I 15 [int c, .one (.slice 1 s)] Q h := by
  refine spec15 hI hs (fun he => hQ _ _ (Ext.refl _) ?_) fun he _ s' h' hx ha => ?_
  · unfold dRes; rw [if_neg he]; exact At.nil
  · have := hQ s' h' hx (by unfold dRes; rw [if_pos he, ← nats_ints]; exact ha)
    rwa [he] at this

/-- The law. -/
theorem spec3 (hI : Closed' prog Pm I) {s : Sl} {zs : List Int} (hs : At h 1 s (ints zs)) : I 3 [.one (.slice 1 s)] tru h := by
  refine hI.go _ _ (den3 I s tru) ?_
  refine newK_intro fun i2 h1 hn1 he1 => ?_
  have S0 : Strm h1 i2 s zs 0 := he1 ▸ Strm.make hs hn1
  refine specRange hI S0 (by decide) (by decide) (by decide) fun how hh1 hh2 => ⟨how, rfl, ?_⟩
  have S1 := S0.next (by decide)
  refine newK_intro fun i7 h3 hn3 he3 => ?_
  have S3 := S1.ext (he3 ▸ Ext.new hn3 : Ext _ h3)
  have hne : i7 ≠ i2 := fun e => by subst e; rw [S1.cell] at hn3; cases hn3
  refine spec5 hI (xs := [1, 18, 19, 100, 1000, 4321440, 0]) S3 (lit_at hne he3 rfl) (by decide) (by decide) fun span hv => ⟨span, rfl, ?_⟩
  have S4 := S3.next (by decide)
  have hsp : 0 ≤ span ∧ span ≤ 4321440 := by
    simp at hv; omega
  refine specAges hI S4 (by decide) (by omega) (by omega) fun l14 h5 ages t5 S5 ht5 hages hal => ⟨l14, rfl, ?_⟩
  refine both7 hI hages fun l17 h6 x6 a6 => ⟨_, _, rfl, ?_⟩
  refine both8 hI (x6.at_ hages) fun l21 h7 x7 a7 => ⟨_, _, rfl, ?_⟩
  have S7 := (S5.ext x6).ext x7
  have hwl := wRes_length how span ages
  refine joinK_intro (fun (b : Bool) h' => h' = h7 ∧ b = false) ?_ fun j hj => ifT_intro (fun h => by simp at h) fun _ =>
    spec9 hI (x7.at_ a6) a7 (by omega) ⟨_, rfl, hj _ _ ⟨rfl, rfl⟩⟩
  rintro _ h' ⟨rfl, rfl⟩
  refine ifT_intro (fun h => by cases h) fun _ => ?_
  refine specWeightsS hI S7 (by omega) fun l27 h8 xs t8 o8 ht8 hlen => ⟨l27, rfl, ?_⟩
  have S8 := o8.toStrm S7 (t' := t8) (by simp) (by omega)
  have hx := o8.at_ List.mem_cons_self
  refine both11 hI hx fun l30 h9 x9 a9 => ⟨_, _, rfl, ?_⟩
  refine both12 hI (x9.at_ hx) fun l34 h10 x10 a10 => ⟨_, _, rfl, ?_⟩
  have S10 := (S8.ext x9).ext x10
  have hx10 := x10.at_ (x9.at_ hx)
  have hfl := fRes_length xs
  refine joinK_intro (fun (b : Bool) h' => h' = h10 ∧ b = false) ?_ fun j hj => ifT_intro (fun h => by simp at h) fun _ =>
    spec13 hI (x10.at_ a9) a10 (by omega) ⟨_, rfl, hj _ _ ⟨rfl, rfl⟩⟩
  rintro _ h' ⟨rfl, rfl⟩
  refine ifT_intro (fun h => by cases h) fun _ => ?_
  refine newK_intro fun i38 h11 hn11 he11 => ?_
  have x11 : Ext h' h11 := he11 ▸ Ext.new hn11
  have S11 := S10.ext x11
  have hne2 : i38 ≠ i2 := fun e => by subst e; rw [S10.cell] at hn11; cases hn11
  refine spec5 hI (xs := [0, 1, 7, 100, 99999, 1000000000000, -1, 1000000000001]) S11 (lit_at hne2 he11 rfl) (by decide) (by decide) fun c hc => ⟨c, rfl, ?_⟩
  have o12 := ((((o8.mono x9).mono x10).mono x11).perm (List.Perm.swap _ _ _)).next (t' := t8 + 1)
  have hx12 : At (h11.set i2 (strm s (t8 + 1))) 1 l27 (ints xs) := o12.at_ (by simp)
  refine both14 hI hx12 fun l45 h13 x13 a13 => ⟨_, _, rfl, ?_⟩
  refine both15 hI (x13.at_ hx12) fun l49 h14 x14 a14 => ⟨_, _, rfl, ?_⟩
  have hdl := dRes_length c xs
  refine spec16 hI ⟨_, rfl, ifT_intro (fun _ => ifT_dec (fun _ => ?_) fun h => absurd rfl h) fun h => by cases h⟩
  exact spec9 hI (x14.at_ a13) a14 (by omega) ⟨_, rfl, rfl⟩

end
end Go.Proofs.YtohdelegimcceaaVc
