/- Contracts of what SharesAddUp reaches, part 1. -/
import Derived.Test.YtihnjdhjkpmggaaVcSpSort
set_option linter.unusedSimpArgs false
set_option linter.unusedVariables false
namespace Go.Proofs.YtihnjdhjkpmggaaVc
open Go.Proofs.YtihnjdhjkpmggaaShares
open Go.Proofs.Try (prog)

section
variable {I : Calls} {Q : Post} {h : Heap}

theorem spec65 (hI : Closed' prog Pm I) {n a b : Int} (hQ : Q [boo (decide (a ≤ n) && decide (n ≤ b))] h) : I 65 [int n, int a, int b] Q h := by
  refine hI.go _ _ (den65 I n a b Q) ?_
  refine ifT_dec (fun h1 => ?_) (fun h1 => ?_)
  · simpa [h1] using hQ
  · simpa [h1] using hQ

theorem spec108 (hI : Closed' prog Pm I) {a b : Nat} (hQ : Q [u64 (Nat.gcd a b : Nat)] h) : I 108 [u64 a, u64 b] Q h := by
  refine hI.go _ _ (den108 I a b Q) ?_
  refine loopK_intro (fun (p : Int × Int) h' m => h' = h ∧ ∃ x y : Nat, p = ((x : Int), (y : Int)) ∧ y = m ∧ Nat.gcd x y = Nat.gcd a b) b ⟨rfl, a, b, rfl, rfl, rfl⟩ ?_
  rintro p h' m ⟨rfl, x, y, rfl, rfl, hg⟩
  dsimp only [uncur]
  refine ifT_intro (fun h1 => ?_) fun h1 => ?_
  · have h2 : ¬ (y : Int) = 0 := by simpa using h1
    refine ⟨h2, x % y, Nat.mod_lt _ (by omega), rfl, y, x % y, by rw [Int.ofNat_tmod], rfl, ?_⟩
    rw [← hg, Nat.gcd_comm x y, Nat.gcd_rec y x, Nat.gcd_comm]
  · have h2 : y = 0 := by have : (y : Int) = 0 := by simpa using h1
                          omega
    subst h2
    rw [Nat.gcd_zero_right] at hg
    subst hg
    exact hQ

theorem spec109 (hI : Closed' prog Pm I) {n : Nat} (h1 : n < 4611686018427387904) (hQ : Q [u64 n] h) : I 109 [int n] Q h := by
  refine hI.go _ _ (den109 I n Q) ?_
  refine ifT_dec (fun h2 => by omega) fun _ => ?_
  rw [wN n (by omega)]
  exact hQ

abbrev frac (a b : Int) : V := .agg [.int .i64 a, .int .i64 b]
theorem spec64 (hI : Closed' prog Pm I) {a b : Nat} (h1 : a < 4611686018427387904) (h2 : b < 4611686018427387904) (h3 : 0 < b) (hQ : Q [frac (a / Nat.gcd a b : Nat) (b / Nat.gcd a b : Nat)] h) : I 64 [int a, int b] Q h := by
  refine hI.go _ _ (den64 I a b Q) ?_
  refine joinK_intro (fun (p : Int × Int) h' => h' = h ∧ p = ((a : Int), (b : Int))) ?_ fun j hj => ifT_dec (fun h => by omega) fun _ => hj _ _ ⟨rfl, rfl⟩
  rintro p h' ⟨rfl, rfl⟩
  dsimp only [uncur]
  have hg1 : 0 < Nat.gcd a b := Nat.gcd_pos_of_pos_right _ h3
  have hg2 : Nat.gcd a b ≤ b := Nat.gcd_le_right _ h3
  refine spec109 hI h1 ⟨_, rfl, spec109 hI h2 ⟨_, rfl, spec108 hI ⟨_, rfl, ?_⟩⟩⟩
  generalize Nat.gcd a b = g at *
  have e1 : IntKind.i64.wrap (g : Int) = g := w64 (by omega) (by omega)
  have la : a / g ≤ a := Nat.div_le_self _ _
  have lb : b / g ≤ b := Nat.div_le_self _ _
  have e2 : IntKind.i64.wrap ((a : Int).tdiv g) = (a / g : Nat) := by rw [← Int.ofNat_tdiv]; generalize a / g = z at *; exact w64 (by omega) (by omega)
  have e3 : IntKind.i64.wrap ((b : Int).tdiv g) = (b / g : Nat) := by rw [← Int.ofNat_tdiv]; generalize b / g = z at *; exact w64 (by omega) (by omega)
  rw [e1, e2, e3]
  exact ⟨by omega, by omega, hQ⟩

theorem spec15 (hI : Closed' prog Pm I) (hQ : Q [boo true] h) : I 15 [] Q h := by
  refine hI.go _ _ (den15 I Q) ?_
  refine hI.go _ _ (den17 I 2 4 _) ?_
  refine joinK_intro (fun (b : Bool) h' => h' = h ∧ b = false) ?_ ?_
  · rintro _ h' ⟨rfl, rfl⟩
    refine ifT_intro (fun h => by cases h) fun _ => ifT_dec (fun h => absurd h (by decide)) fun _ => ?_
    refine spec64 hI (a := 2) (b := 4) (by decide) (by decide) (by decide) ⟨_, _, rfl, _, _, _, rfl, ?_⟩
    refine ifT_dec (fun _ => ?_) fun h => absurd rfl h
    have e : (decide (((2 / Nat.gcd 2 4 : Nat) : Int) = 1) && decide (((4 / Nat.gcd 2 4 : Nat) : Int) = 2)) = true := by decide
    rw [e]
    exact hQ
  · intro j hj
    refine spec65 hI ⟨_, rfl, ifT_intro (fun h => by simp at h) fun _ => spec65 hI ⟨_, rfl, hj _ _ ⟨rfl, by decide⟩⟩⟩

theorem sum_step {xs : List Nat} {i : Nat} (h : i < xs.length) : (xs.take (i + 1)).sum = (xs.take i).sum + xs[i] := by
  rw [List.take_add_one, List.getElem?_eq_getElem h]
  show (xs.take i ++ [xs[i]]).sum = _
  rw [List.sum_append]; simp

theorem spec61 (hI : Closed' prog Pm I) {s : Sl} {xs : List Nat} (hs : At h 1 s (nats xs)) (hlen : xs.length < 1000000) (hsum : xs.sum < 4611686018427387904) (hQ : Q [int (xs.sum : Nat)] h) : I 61 [.one (.slice 1 s)] Q h := by
  have hl : s.len = xs.length := by rw [hs.len1, nats_length]
  refine hI.go _ _ (den61 I s Q) ?_
  refine loopK_intro (fun (a : Int × Int) h' m => h' = h ∧ ∃ i : Nat, i ≤ xs.length ∧ a = ((((xs.take i).sum : Nat) : Int), (i : Int)) ∧ xs.length - i = m) xs.length ⟨rfl, 0, by omega, rfl, rfl⟩ ?_
  rintro a h' m ⟨rfl, i, hi, rfl, rfl⟩
  dsimp only [uncur]
  refine ifT_dec (fun hlt => ⟨⟨by omega, hlt⟩, ?_⟩) (fun hge => ?_)
  · have hil : i < xs.length := by omega
    refine hs.cell (nats_get (List.getElem?_eq_getElem hil)) fun b o hr => ⟨_, hr, xs.length - (i + 1), by omega, rfl, i + 1, by omega, ?_, rfl⟩
    have h2 := take_sum_le xs (i + 1)
    rw [sum_step hil] at h2 ⊢
    generalize (xs.take i).sum = y at *
    generalize xs[i] = x at *
    rw [w64 (by omega) (by omega), w64 (by omega) (by omega)]
    rfl
  · have : i = xs.length := by omega
    subst this
    rw [List.take_length]
    exact hQ

theorem spec58 (hI : Closed' prog Pm I) {s : Sl} {xs : List Nat} (hs : At h 1 s (nats xs)) (hlen : xs.length < 1000000) (hsum : xs.sum < 4611686018427387904) (hQ : Q [int (xs.sum : Nat)] h) : I 58 [.one (.slice 1 s)] Q h := by
  have hl : s.len = xs.length := by rw [hs.len1, nats_length]
  refine hI.go _ _ (den58 I s Q) ?_
  refine loopK_intro (fun (a : Int × Int) h' m => h' = h ∧ ∃ i : Nat, i ≤ xs.length ∧ a = ((((xs.take i).sum : Nat) : Int), (i : Int)) ∧ xs.length - i = m) xs.length ⟨rfl, 0, by omega, rfl, rfl⟩ ?_
  rintro a h' m ⟨rfl, i, hi, rfl, rfl⟩
  dsimp only [uncur]
  refine ifT_dec (fun hlt => ⟨⟨by omega, hlt⟩, ?_⟩) (fun hge => ?_)
  · have hil : i < xs.length := by omega
    refine hs.cell (nats_get (List.getElem?_eq_getElem hil)) fun b o hr => ⟨_, hr, xs.length - (i + 1), by omega, rfl, i + 1, by omega, ?_, rfl⟩
    have h2 := take_sum_le xs (i + 1)
    rw [sum_step hil] at h2 ⊢
    generalize (xs.take i).sum = y at *
    generalize xs[i] = x at *
    rw [w64 (by omega) (by omega), w64 (by omega) (by omega)]
    rfl
  · have : i = xs.length := by omega
    subst this
    rw [List.take_length]
    exact hQ

/-! ### weights -/
abbrev okW (w : Int) : Prop := 0 ≤ w ∧ w ≤ 1000000
def errW (xs : List Int) : Int := if 12 < xs.length then 2 else if ∃ w ∈ xs, ¬ okW w then 1 else if ∀ w ∈ xs, w = 0 then 8 else 0
structure RightW (xs : List Int) (ws : List Nat) : Prop where
  xs : xs = ws.map fun n : Nat => (n : Int)
  ws1 : ∀ w ∈ ws, w ≤ 1000000
  pos : 0 < ws.sum
  len : ws.length ≤ 12

theorem spec106 (hI : Closed' prog Pm I) {s : Sl} {xs : List Int} (hs : At h 1 s (ints xs)) (hQe : errW xs ≠ 0 → Q [int (errW xs)] h) (hQ : errW xs = 0 → RightW xs (xs.map Int.toNat) → Q [int 0] h) : I 106 [.one (.slice 1 s)] Q h := by
  have hl : s.len = xs.length := by rw [hs.len1, ints_length]
  refine hI.go _ _ (den106 I s Q) ?_
  unfold vc106
  rw [hl]
  refine ifT_dec (fun hgt => ?_) fun hgt => ?_
  · have e : errW xs = 2 := by unfold errW; rw [if_pos (by omega)]
    rw [e] at hQe
    exact hQe (by decide)
  have e0 : errW xs = if ∃ w ∈ xs, ¬ okW w then 1 else if ∀ w ∈ xs, w = 0 then 8 else 0 := by unfold errW; rw [if_neg (by omega)]
  refine loopK_intro (fun (a : Int) h'' m => h'' = h ∧ ∃ i : Nat, i ≤ xs.length ∧ a = (i : Int) ∧ xs.length - i = m ∧ ∀ w ∈ xs.take i, okW w) xs.length
    ⟨rfl, 0, by omega, rfl, rfl, by simp⟩ ?_
  rintro a h'' m ⟨rfl, i, hi, rfl, rfl, hall⟩
  refine ifT_dec (fun hlt => ⟨⟨by omega, by omega⟩, ?_⟩) (fun hge => ?_)
  · have hx := List.getElem?_eq_getElem (show i < xs.length by omega)
    have hxm : xs[i] ∈ xs := List.getElem_mem _
    generalize xs[i] = x at hx hxm
    have htk : xs.take (i + 1) = xs.take i ++ [x] := by rw [List.take_add_one, hx]; rfl
    refine hs.cell (ints_get hx) fun bb o hr => ⟨x, hr, spec65 hI ⟨_, rfl, ifT_intro (fun hb => ?_) fun hb => ?_⟩⟩
    · have hno : ¬ okW x := by simp at hb; unfold okW; omega
      have e : errW xs = 1 := by rw [e0, if_pos ⟨x, hxm, hno⟩]
      rw [e] at hQe
      exact hQe (by decide)
    · have hyx : okW x := by simp at hb; unfold okW; omega
      refine ⟨xs.length - (i + 1), by omega, rfl, i + 1, by omega, by rw [w64] <;> omega, rfl, fun w hw => ?_⟩
      rw [htk] at hw
      rcases List.mem_append.1 hw with hw | hw
      · exact hall w hw
      · have : w = x := by simpa using hw
        rw [this]; exact hyx
  · have : i = xs.length := by omega
    subst this
    rw [List.take_length] at hall
    have hno : ¬ ∃ w ∈ xs, ¬ okW w := fun ⟨w, hw, h⟩ => h (hall w hw)
    have hxs : xs = (xs.map Int.toNat).map fun n : Nat => (n : Int) := by
      rw [List.map_map]
      conv => lhs; rw [← List.map_id xs]
      refine List.map_congr_left fun y hy => ?_
      have := hall y hy
      exact (Int.toNat_of_nonneg this.1).symm
    have hs' := hs
    rw [hxs, ← nats_ints] at hs'
    have hb1 : ∀ w ∈ xs.map Int.toNat, w ≤ 1000000 := fun w hw => by
      obtain ⟨y, hy, rfl⟩ := List.mem_map.1 hw
      have := hall y hy
      omega
    have hb2 := sum_le hb1
    rw [List.length_map] at hb2
    refine spec61 hI hs' (by simp; omega) (by omega) ⟨_, rfl, ?_⟩
    refine ifT_dec (fun hz => ?_) fun hz => ?_
    · have hz' : ∀ w ∈ xs, w = 0 := fun w hw => by
        have h5 := mem_le_sum (List.mem_map.2 ⟨w, hw, rfl⟩ : w.toNat ∈ xs.map Int.toNat)
        have := hall w hw
        omega
      have e : errW xs = 8 := by rw [e0, if_neg hno, if_pos hz']
      rw [e] at hQe
      exact hQe (by decide)
    · have hnz : ¬ ∀ w ∈ xs, w = 0 := fun h => by
        apply hz
        have : (xs.map Int.toNat).sum ≤ 0 * (xs.map Int.toNat).length := sum_le fun w hw => by
          obtain ⟨y, hy, rfl⟩ := List.mem_map.1 hw
          rw [h y hy]; exact Nat.le_refl _
        omega
      have e : errW xs = 0 := by rw [e0, if_neg hno, if_neg hnz]
      exact hQ e ⟨hxs, hb1, by omega, by simp; omega⟩

/-- What is drawn for weights. -/
theorem spec54 (hI : Closed' prog Pm I) {i : Nat} {l : Sl} {zs : List Int} {t : Nat} (S : Strm h i l zs t) (ht : t < 1000)
    (hQ : ∀ s' h' xs, At h' 1 s' (ints xs) → xs.length ≤ 100 → Q [.one (.slice 1 s')] h') : I 54 [.one (.ptr (some (i, 0)))] Q h := by
  refine hI.go _ _ (den54 I _ Q) ?_
  refine spec12 hI S (by decide) (by decide) fun n hn0 hn1 => ⟨n, rfl, ?_⟩
  refine loopK_intro (fun (a : Sl × Int) h' m => ∃ j : Nat, (j : Int) ≤ n ∧ a.2 = j ∧ 14 - j = m ∧ ∃ xs, xs.length = j ∧ Owns (h.del i) h' [(1, a.1, ints xs), owS i l (t + 1 + j)]) 14
    ⟨0, by omega, rfl, rfl, [], rfl, (S.owns.next (t' := t + 1)).none_ 1⟩ ?_
  rintro ⟨s, y⟩ h' m ⟨j, hj, rfl, rfl, xs, hxl, o⟩
  dsimp only [uncur]
  refine ifT_dec (fun hlt => ?_) (fun hge => ?_)
  · refine newK_intro fun i9 h2 hn2 he2 => ?_
    have o2 : Owns (h.del i) h2 _ := o.mono (he2 ▸ Ext.new hn2)
    have S2 := o2.toStrm S (t' := t + 1 + j) (by simp) (by omega)
    have hne : i9 ≠ i := fun e => by subst e; rw [o.strmCell (l := l) (t := t + 1 + j) (by simp)] at hn2; cases hn2
    have hlit : At (h2.set i (strm l (t + 1 + j + 1))) 1 ⟨some (i9, 0), 7⟩ (ints [0, 1, 1, 2, 3, 262144, 1000000]) := by
      refine ⟨rfl, .inr ?_⟩
      show (h2.set i _).read i9 0 7 = _
      unfold Heap.read
      rw [set_ne _ _ hne, he2, set_eq]
      rfl
    refine spec30 hI S2 hlit (by decide) (by decide) fun v hv => ⟨v, rfl, ?_⟩
    have o3 := ((o2.perm (List.Perm.swap _ _ _)).next (t' := t + 1 + j + 1)).perm (List.Perm.swap _ _ _)
    refine appendTo_owns (m := 0) o3 (by rfl) ?_ (by simp) fun b h4 o4 => ⟨14 - (j + 1), by omega, j + 1, by omega, ?_, rfl, xs ++ [v], by simp [hxl], by rw [show t + 1 + (j + 1) = t + 1 + j + 1 from rfl]; simpa [ints] using o4⟩
    · have := o.slen (s := s) List.mem_cons_self
      rw [ints_length] at this
      omega
    · show IntKind.i64.wrap ((j : Int) + 1) = _
      rw [w64] <;> omega
  · have S2 := o.toStrm S (t' := t + 1 + j) (by simp) (by omega)
    refine spec67 hI S2 (by decide) (by decide) fun b => ⟨b, rfl, ?_⟩
    have o3 := ((o.perm (List.Perm.swap _ _ _)).next (t' := t + 1 + j + 1)).perm (List.Perm.swap _ _ _)
    refine ifT_intro (fun _ => ?_) fun _ => hQ _ _ _ (o3.at_ List.mem_cons_self) (by omega)
    refine newK_intro fun i9 h4 hn4 he4 => ?_
    have o4 := o3.mono (he4 ▸ Ext.new hn4 : Ext _ h4)
    have S4 := o4.toStrm S (t' := t + 1 + j + 1) (by simp) (by omega)
    have hne : i9 ≠ i := fun e => by subst e; rw [o3.strmCell (l := l) (t := t + 1 + j + 1) (by simp)] at hn4; cases hn4
    have hlit : At (h4.set i (strm l (t + 1 + j + 1 + 1))) 1 ⟨some (i9, 0), 2⟩ (ints [-1, 1000001]) := by
      refine ⟨rfl, .inr ?_⟩
      show (h4.set i _).read i9 0 2 = _
      unfold Heap.read
      rw [set_ne _ _ hne, he4, set_eq]
      rfl
    refine spec30 hI S4 hlit (by decide) (by decide) fun v hv => ⟨v, rfl, ?_⟩
    have o5 := ((o4.perm (List.Perm.swap _ _ _)).next (t' := t + 1 + j + 1 + 1)).perm (List.Perm.swap _ _ _)
    have hsl := o.slen (s := s) List.mem_cons_self
    rw [ints_length] at hsl
    refine appendTo_owns (m := 0) o5 (by rfl) (by omega) (by simp) fun b h6 o6 => hQ _ _ (xs ++ [v]) ?_ (by simp; omega)
    have := o6.at_ List.mem_cons_self
    simpa [ints] using this

end
end Go.Proofs.YtihnjdhjkpmggaaVc
