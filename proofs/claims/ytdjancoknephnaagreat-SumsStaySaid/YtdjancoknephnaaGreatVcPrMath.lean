/- What offers take from a basket. Plain Lean. -/
import Derived.Test.YtdjancoknephnaaGreatVcOfMath
import Derived.Test.YtdjancoknephnaaGreatVcCsMath
set_option linter.unusedSimpArgs false
set_option linter.unusedVariables false
namespace Go.Proofs.YtdjancoknephnaaGreatShares

theorem at_get {l : List Nat} {i : Nat} (h : i < l.length) : l[i]? = some (at_ l i) := by
  rw [List.getElem?_eq_getElem h]; simp [at_, h]
theorem sum_le_count (all : Nat) : ∀ rs : List Nat, (∀ r ∈ rs, r < all) → rs.sum ≤ (all - 1) * rs.countP fun r => decide (0 < r)
  | [], _ => by simp
  | r :: rs, h => by
    have h1 := sum_le_count all rs fun x hx => h x (by simp [hx])
    have h2 := h r (by simp)
    rw [List.sum_cons, List.countP_cons]
    by_cases e : 0 < r
    · rw [decide_eq_true e, if_pos rfl, Nat.mul_add]; omega
    · rw [decide_eq_false e, if_neg (by simp), Nat.add_zero]
      have : r = 0 := by omega
      omega
theorem count_range (p : Nat → Bool) (rs : List Nat) : rs.countP p = (List.range rs.length).countP fun j => p (at_ rs j) := by
  have h : rs = (List.range rs.length).map (at_ rs) := by
    apply List.ext_getElem?
    intro i
    rcases Nat.lt_or_ge i rs.length with hi | hi
    · rw [List.getElem?_map, List.getElem?_range hi, at_get hi]; rfl
    · rw [List.getElem?_eq_none hi, List.getElem?_eq_none (by simpa using hi)]
  conv => lhs; rw [h, List.countP_map]
  rfl
/-- Who gets one of those that are left has a rest. -/
theorem rank_rest {rs : List Nat} {all k i : Nat} (ha : 0 < all) (hr : ∀ r ∈ rs, r < all) (hs : rs.sum = all * k) (hk : rank rs i < k) : 0 < at_ rs i := by
  rcases Nat.eq_zero_or_pos (at_ rs i) with h0 | h0
  · exfalso
    have h1 := sum_le_count all rs hr
    have h2 : (rs.countP fun r => decide (0 < r)) ≤ rank rs i := by
      rw [count_range]
      unfold rank
      refine List.countP_mono_left fun j _ hj => ?_
      rw [beats_iff, h0]
      exact .inl (by simpa using hj)
    rw [hs] at h1
    have h3 : (all - 1) * (rs.countP fun r => decide (0 < r)) ≤ (all - 1) * (k - 1) := Nat.mul_le_mul_left _ (by omega)
    have h4 : (all - 1) * (k - 1) ≤ all * (k - 1) := Nat.mul_le_mul_right _ (by omega)
    have h5 : all * (k - 1) + all = all * k := by
      have e : all * (k - 1 + 1) = all * (k - 1) + all := by rw [Nat.mul_add, Nat.mul_one]
      rw [← e, show k - 1 + 1 = k by omega]
    omega
  · exact h0
theorem shared_length (c : Nat) (ws : List Nat) : (shared c ws).length = ws.length := by simp [shared, dealtK_length, qs]
/-- No share is more than its weight, if no more is shared than all weights. -/
theorem shared_le {c : Nat} {ws : List Nat} (hpos : 0 < ws.sum) (hc : c ≤ ws.sum) {i : Nat} (hi : i < ws.length) : at_ (shared c ws) i ≤ at_ ws i := by
  have hq : (qs c ws.sum ws).length = ws.length := by simp [qs]
  have hrl : (rs c ws.sum ws).length = ws.length := by simp [rs]
  have e1 : at_ (shared c ws) i = at_ (qs c ws.sum ws) i + if rank (rs c ws.sum ws) i < c - (qs c ws.sum ws).sum then 1 else 0 := by
    have := dealtK_get (qs := qs c ws.sum ws) (rs := rs c ws.sum ws) (k := c - (qs c ws.sum ws).sum) (i := i) (by omega)
    have h2 := at_get (l := shared c ws) (i := i) (by rw [shared_length]; exact hi)
    unfold shared at h2 ⊢
    rw [this] at h2
    exact (Option.some.inj h2).symm
  have e2 : at_ (qs c ws.sum ws) i = c * at_ ws i / ws.sum := by
    have := at_get (l := qs c ws.sum ws) (i := i) (by omega)
    unfold qs at this ⊢
    rw [List.getElem?_map, at_get hi] at this
    exact (Option.some.inj this).symm
  have e3 : at_ (rs c ws.sum ws) i = c * at_ ws i % ws.sum := by
    have := at_get (l := rs c ws.sum ws) (i := i) (by omega)
    unfold rs at this ⊢
    rw [List.getElem?_map, at_get hi] at this
    exact (Option.some.inj this).symm
  have h1 := sums c ws.sum ws
  obtain ⟨h2, _⟩ := left_ok (c := c) hpos
  rw [e1, e2]
  have h3 : c * at_ ws i ≤ ws.sum * at_ ws i := Nat.mul_le_mul_right _ hc
  have h4 : c * at_ ws i / ws.sum ≤ at_ ws i := Nat.div_le_of_le_mul h3
  split
  · rename_i hk
    have h5 := rank_rest (rs := rs c ws.sum ws) (all := ws.sum) (k := c - (qs c ws.sum ws).sum) (i := i) hpos (fun r hr => by
      obtain ⟨w, _, rfl⟩ := List.mem_map.1 hr
      exact Nat.mod_lt _ hpos) (by rw [Nat.mul_sub, Nat.mul_comm ws.sum c]; omega) hk
    rw [e3] at h5
    have h6 := Nat.div_add_mod (c * at_ ws i) ws.sum
    rcases Nat.lt_or_ge (c * at_ ws i / ws.sum) (at_ ws i) with h7 | h7
    · omega
    · have h8 : c * at_ ws i / ws.sum = at_ ws i := by omega
      rw [h8] at h6
      omega
  · omega

end Go.Proofs.YtdjancoknephnaaGreatShares

namespace Go.Proofs.YtdjancoknephnaaGreatVc
open Go.Proofs.YtdjancoknephnaaGreatShares

/-! ### one offer -/
def capN (g n : Nat) : Nat := if g = 0 then n else min n g
/-- Amounts are held to a greatest sum, if that is not 0. -/
def mostF (l : List Nat) (g : Nat) : List Nat := if g = 0 ∨ l.sum ≤ g then l else shared g l
def zipM (ms : List Bool) (l : List Nat) (f : Nat → Nat) : List Nat := List.zipWith (fun m n => cond m (f n) 0) ms l
def percF (ms : List Bool) (left : List Nat) (a g : Nat) : List Nat := mostF (zipM ms left fun n => n * a / 100) g
def amtF (ms : List Bool) (left : List Nat) (a g : Nat) : List Nat := if (zipM ms left id).sum = 0 then zipM ms left id else shared (capN g (min a (zipM ms left id).sum)) (zipM ms left id)
abbrev Pc := Nat × Nat
def pcLe (x y : Pc) : Bool := decide (y.2 < x.2 ∨ (x.2 = y.2 ∧ x.1 ≤ y.1))
def pcsAt (ms : List Bool) (ks left : List Nat) (i : Nat) : List Pc := match ms[i]?, ks[i]?, left[i]? with
  | some true, some k, some n => List.replicate k (i, n / k)
  | _, _, _ => []
def pcs (ms : List Bool) (ks left : List Nat) (n : Nat) : List Pc := (List.range n).flatMap (pcsAt ms ks left)
def sorted (l : List Pc) : List Pc := l.mergeSort pcLe
theorem pcLe_trans (a b c : Pc) (h1 : pcLe a b = true) (h2 : pcLe b c = true) : pcLe a c = true := by
  simp only [pcLe, decide_eq_true_eq] at *; omega
theorem pcLe_total (a b : Pc) : (pcLe a b || pcLe b a) = true := by
  simp only [pcLe, Bool.or_eq_true, decide_eq_true_eq]; omega
theorem sorted_eq {l z : List Pc} (hp : z.Perm l) (hs : z.Pairwise fun a b => pcLe a b = true) : z = sorted l := by
  refine List.Perm.eq_of_pairwise (le := fun a b => pcLe a b = true) (fun a b _ _ h1 h2 => ?_) hs (List.pairwise_mergeSort (le := pcLe) pcLe_trans pcLe_total l) (hp.trans (List.mergeSort_perm l pcLe).symm)
  obtain ⟨a1, a2⟩ := a
  obtain ⟨b1, b2⟩ := b
  simp only [pcLe, decide_eq_true_eq] at h1 h2
  have e1 : a1 = b1 := by omega
  have e2 : a2 = b2 := by omega
  rw [e1, e2]
/-- The pieces that are free: of each a + b of them, the last b. -/
def freeOf (a b : Nat) : Nat → List Pc → List Pc
  | 0, _ => []
  | k + 1, z => if a + b ≤ z.length then (z.take (a + b)).drop a ++ freeOf a b k (z.drop (a + b)) else []
def give (out : List Nat) (x : Pc) : List Nat := out.set x.1 (at_ out x.1 + x.2)
def giveAll (out : List Nat) (l : List Pc) : List Nat := l.foldl give out
def freeF (ms : List Bool) (ks left : List Nat) (a b g : Nat) : List Nat :=
  mostF (giveAll (List.replicate left.length 0) (freeOf a b (sorted (pcs ms ks left left.length)).length (sorted (pcs ms ks left left.length)))) g

/-- How much each line loses by an offer for lines; which lines match, how many pieces they are. -/
def cutsF (o : Offr) (ms : List Bool) (ks left : List Nat) : List Nat :=
  if o.kind = 1 then percF ms left o.a.toNat o.most.toNat else if o.kind = 2 then amtF ms left o.a.toNat o.most.toNat else freeF ms ks left o.a.toNat o.b.toNat o.most.toNat
def lose (left cuts : List Nat) : List Nat := List.zipWith (· - ·) left cuts
/-- What is left of the lines and of the shipping, and what was taken. -/
def applyF (items : List Itm) (o : Offr) (left : List Nat) (ship : Nat) : List Nat × Nat × Nat :=
  if o.kind = 4 then (left, ship - capN o.most.toNat (min o.a.toNat ship), capN o.most.toNat (min o.a.toNat ship)) else
    (lose left (cutsF o (items.map (matchB o)) (items.map fun x => x.many.toNat) left), ship, (cutsF o (items.map (matchB o)) (items.map fun x => x.many.toNat) left).sum)
def applyAll (items : List Itm) : List Offr → List Nat → Nat → List (ByteArray × Nat) → List Nat × Nat × List (ByteArray × Nat)
  | [], left, ship, cuts => (left, ship, cuts)
  | o :: l, left, ship, cuts => applyAll items l (applyF items o left ship).1 (applyF items o left ship).2.1 (cuts ++ [(o.key, (applyF items o left ship).2.2)])
def lines0 (items : List Itm) : List Nat := items.map fun x => (x.cents * x.many).toNat

/-! ### no line loses more than is left of it -/
def Under (l m : List Nat) : Prop := l.length = m.length ∧ ∀ i, i < l.length → at_ l i ≤ at_ m i
theorem Under.refl (l : List Nat) : Under l l := ⟨rfl, fun _ _ => Nat.le_refl _⟩
theorem Under.trans {a b c : List Nat} (h1 : Under a b) (h2 : Under b c) : Under a c := ⟨h1.1.trans h2.1, fun i hi => Nat.le_trans (h1.2 i hi) (h2.2 i (by rw [← h1.1]; exact hi))⟩
theorem mostF_under (l : List Nat) (g : Nat) : Under (mostF l g) l := by
  unfold mostF
  split
  · exact Under.refl l
  · rename_i h
    exact ⟨shared_length g l, fun i hi => shared_le (by omega) (by omega) (by rw [shared_length] at hi; exact hi)⟩
theorem zipM_length {ms : List Bool} {l : List Nat} (hm : ms.length = l.length) (f : Nat → Nat) : (zipM ms l f).length = l.length := by simp [zipM, hm]
theorem zipM_at {ms : List Bool} {l : List Nat} {f : Nat → Nat} {i : Nat} {m : Bool} (hm : ms[i]? = some m) (hi : i < l.length) : at_ (zipM ms l f) i = cond m (f (at_ l i)) 0 := by
  have h1 : (zipM ms l f)[i]? = some (cond m (f (at_ l i)) 0) := by
    unfold zipM
    rw [List.getElem?_zipWith, hm, at_get hi]
  unfold at_
  rw [List.getD_eq_getElem?_getD, h1]; rfl
theorem zipM_under {ms : List Bool} {l : List Nat} (hm : ms.length = l.length) {f : Nat → Nat} (hf : ∀ n, f n ≤ n) : Under (zipM ms l f) l := by
  refine ⟨zipM_length hm f, fun i hi => ?_⟩
  rw [zipM_length hm] at hi
  rw [zipM_at (List.getElem?_eq_getElem (show i < ms.length by omega)) hi]
  cases ms[i] with
  | true => exact hf _
  | false => exact Nat.zero_le _
theorem amtF_under {ms : List Bool} {left : List Nat} (hm : ms.length = left.length) (a g : Nat) : Under (amtF ms left a g) left := by
  have h1 := zipM_under hm (l := left) (f := id) fun n => Nat.le_refl n
  unfold amtF
  split
  · exact h1
  · rename_i h
    refine Under.trans ⟨shared_length _ _, fun i hi => shared_le (by omega) ?_ (by rw [shared_length] at hi; exact hi)⟩ h1
    unfold capN
    split <;> omega
/-- How often an item comes among pieces, and what it loses by them. -/
def got (l : List Pc) (i : Nat) : Nat := (l.map fun x => if x.1 = i then x.2 else 0).sum
theorem give_length (out : List Nat) (x : Pc) : (give out x).length = out.length := by simp [give]
theorem giveAll_length : ∀ (l : List Pc) (out : List Nat), (giveAll out l).length = out.length
  | [], _ => rfl
  | x :: l, out => by
    show (giveAll (give out x) l).length = _
    rw [giveAll_length l, give_length]
theorem give_at {out : List Nat} {x : Pc} {i : Nat} (hi : i < out.length) : at_ (give out x) i = at_ out i + if x.1 = i then x.2 else 0 := by
  unfold give
  have : (out.set x.1 (at_ out x.1 + x.2))[i]? = some (at_ out i + if x.1 = i then x.2 else 0) := by
    rw [List.getElem?_set]
    split
    · rename_i e
      rw [if_pos (by omega), e]
    · rw [at_get hi]; simp
  have h2 := at_get (l := out.set x.1 (at_ out x.1 + x.2)) (i := i) (by simpa using hi)
  rw [this] at h2
  exact (Option.some.inj h2).symm
theorem giveAll_at : ∀ (l : List Pc) (out : List Nat) (i : Nat), i < out.length → at_ (giveAll out l) i = at_ out i + got l i
  | [], out, i, _ => by simp [giveAll, got]
  | x :: l, out, i, hi => by
    show at_ (giveAll (give out x) l) i = _
    rw [giveAll_at l _ i (by rw [give_length]; exact hi), give_at hi]
    simp only [got, List.map_cons, List.sum_cons]
    omega
theorem got_append (a b : List Pc) (i : Nat) : got (a ++ b) i = got a i + got b i := by simp [got]
theorem got_perm {a b : List Pc} (h : a.Perm b) (i : Nat) : got a i = got b i := by
  unfold got
  exact (h.map _).sum_nat
theorem got_take_drop (z : List Pc) (n i : Nat) : got (z.take n) i + got (z.drop n) i = got z i := by rw [← got_append, List.take_append_drop]
theorem got_freeOf (a b i : Nat) : ∀ (k : Nat) (z : List Pc), got (freeOf a b k z) i ≤ got z i
  | 0, z => by simp [freeOf, got]
  | k + 1, z => by
    unfold freeOf
    split
    · rw [got_append]
      have h1 := got_freeOf a b i k (z.drop (a + b))
      have h2 := got_take_drop z (a + b) i
      have h3 := got_take_drop (z.take (a + b)) a i
      omega
    · simp [got]
theorem got_pcsAt {ms : List Bool} {ks left : List Nat} {j i : Nat} : got (pcsAt ms ks left j) i ≤ if j = i then at_ left i else 0 := by
  unfold pcsAt
  split
  · rename_i k n h1 h2 h3
    have e : ∀ m, got (List.replicate m (j, n / k)) i = if j = i then m * (n / k) else 0 := by
      intro m
      induction m with
      | zero => simp [got]
      | succ m ih =>
        rw [List.replicate_succ]
        simp only [got, List.map_cons, List.sum_cons] at ih ⊢
        rw [ih]
        split
        · rw [Nat.add_mul]; omega
        · rfl
    rw [e]
    split
    · rename_i hji
      subst hji
      have : at_ left j = n := by unfold at_; rw [List.getD_eq_getElem?_getD, h3]; rfl
      rw [this]
      exact Nat.mul_div_le n k
    · exact Nat.le_refl _
  · simp [got]
theorem got_pcs {ms : List Bool} {ks left : List Nat} {i : Nat} : ∀ n, got (pcs ms ks left n) i ≤ if i < n then at_ left i else 0
  | 0 => by simp [pcs, got]
  | n + 1 => by
    have ih := got_pcs (ms := ms) (ks := ks) (left := left) (i := i) n
    have h1 := got_pcsAt (ms := ms) (ks := ks) (left := left) (j := n) (i := i)
    unfold pcs at ih ⊢
    rw [List.range_succ, List.flatMap_append, got_append]
    simp only [List.flatMap_cons, List.flatMap_nil, List.append_nil]
    split at ih <;> split at h1 <;> split <;> omega
theorem freeF_under {ms : List Bool} {ks left : List Nat} (a b g : Nat) : Under (freeF ms ks left a b g) left := by
  unfold freeF
  refine (mostF_under _ _).trans ⟨by rw [giveAll_length, List.length_replicate], fun i hi => ?_⟩
  rw [giveAll_length, List.length_replicate] at hi
  rw [giveAll_at _ _ i (by rw [List.length_replicate]; exact hi)]
  have h0 : at_ (List.replicate left.length 0) i = 0 := by simp [at_, hi]
  have h1 := got_freeOf a b i (sorted (pcs ms ks left left.length)).length (sorted (pcs ms ks left left.length))
  have h2 := got_perm (List.mergeSort_perm (pcs ms ks left left.length) pcLe) i
  have h3 := got_pcs (ms := ms) (ks := ks) (left := left) (i := i) left.length
  rw [if_pos hi] at h3
  unfold sorted at h1 ⊢
  omega
theorem percF_under {ms : List Bool} {left : List Nat} (hm : ms.length = left.length) {a : Nat} (ha : a ≤ 100) (g : Nat) : Under (percF ms left a g) left := by
  refine (mostF_under _ _).trans (zipM_under hm fun n => ?_)
  have : n * a ≤ n * 100 := Nat.mul_le_mul_left _ ha
  omega
theorem cutsF_under {o : Offr} (ho : OkO o) {ms : List Bool} {ks left : List Nat} (hm : ms.length = left.length) : Under (cutsF o ms ks left) left := by
  unfold cutsF
  obtain ⟨h1, ⟨h2, _⟩, _, _⟩ := ho
  split
  · rename_i hk
    exact percF_under hm (by omega) _
  · split
    · exact amtF_under hm _ _
    · exact freeF_under _ _ _
theorem lose_length {left cuts : List Nat} (h : cuts.length = left.length) : (lose left cuts).length = left.length := by simp [lose, h]
theorem lose_at {left cuts : List Nat} (h : cuts.length = left.length) {i : Nat} (hi : i < left.length) : at_ (lose left cuts) i = at_ left i - at_ cuts i := by
  have h1 : (lose left cuts)[i]? = some (at_ left i - at_ cuts i) := by
    unfold lose
    rw [List.getElem?_zipWith, at_get hi, at_get (by omega)]
  have h2 := at_get (l := lose left cuts) (i := i) (by rw [lose_length h]; exact hi)
  rw [h1] at h2
  exact (Option.some.inj h2).symm
theorem lose_sum : ∀ {left cuts : List Nat}, Under cuts left → (lose left cuts).sum + cuts.sum = left.sum
  | [], [], _ => rfl
  | [], c :: cuts, h => by have := h.1; simp at this
  | n :: left, [], h => by have := h.1; simp at this
  | n :: left, c :: cuts, h => by
    have h1 : Under cuts left := ⟨by have := h.1; simpa using this, fun i hi => by have := h.2 (i + 1) (by simpa using hi); simpa [at_] using this⟩
    have h2 := lose_sum h1
    have h3 : c ≤ n := by have := h.2 0 (by simp); simpa [at_] using this
    simp only [lose, List.zipWith_cons_cons, List.sum_cons] at h2 ⊢
    omega
theorem lose_under {left cuts : List Nat} (h : cuts.length = left.length) : Under (lose left cuts) left :=
  ⟨lose_length h, fun i hi => by rw [lose_length h] at hi; rw [lose_at h hi]; omega⟩
theorem applyF_under {items : List Itm} {o : Offr} (ho : OkO o) {left : List Nat} {ship : Nat} (hl : left.length = items.length) :
    Under (applyF items o left ship).1 left ∧ (applyF items o left ship).2.1 ≤ ship ∧ (applyF items o left ship).1.sum + (applyF items o left ship).2.1 + (applyF items o left ship).2.2 = left.sum + ship := by
  unfold applyF
  split
  · refine ⟨Under.refl _, by simp only; omega, ?_⟩
    have : capN o.most.toNat (min o.a.toNat ship) ≤ ship := by unfold capN; split <;> omega
    simp only; omega
  · have h := cutsF_under ho (ms := items.map (matchB o)) (ks := items.map fun x => x.many.toNat) (left := left) (by simp [hl])
    refine ⟨lose_under h.1, Nat.le_refl _, ?_⟩
    have := lose_sum h
    simp only; omega
theorem applyAll_under {items : List Itm} : ∀ (l : List Offr) (left : List Nat) (ship : Nat) (cuts : List (ByteArray × Nat)), (∀ o ∈ l, OkO o) → left.length = items.length →
    Under (applyAll items l left ship cuts).1 left ∧ (applyAll items l left ship cuts).2.1 ≤ ship ∧ (applyAll items l left ship cuts).1.sum + (applyAll items l left ship cuts).2.1 + ((applyAll items l left ship cuts).2.2.map (·.2)).sum = left.sum + ship + (cuts.map (·.2)).sum ∧
      (applyAll items l left ship cuts).2.2.length = cuts.length + l.length
  | [], left, ship, cuts, _, _ => ⟨Under.refl _, Nat.le_refl _, rfl, rfl⟩
  | o :: l, left, ship, cuts, ho, hl => by
    obtain ⟨h1, h2, h3⟩ := applyF_under (ship := ship) (ho o (by simp)) hl
    obtain ⟨h4, h5, h6, h7⟩ := applyAll_under (items := items) l (applyF items o left ship).1 (applyF items o left ship).2.1 (cuts ++ [(o.key, (applyF items o left ship).2.2)]) (fun x hx => ho x (by simp [hx])) (h1.1.trans hl)
    refine ⟨h4.trans h1, Nat.le_trans h5 h2, ?_, ?_⟩
    · show (applyAll items l _ _ _).1.sum + _ + _ = _
      rw [List.map_append, List.sum_append] at h6
      simp only [List.map_cons, List.map_nil, List.sum_cons, List.sum_nil] at h6
      simp only [applyAll]
      omega
    · simp only [applyAll]
      rw [h7]; simp; omega
end Go.Proofs.YtdjancoknephnaaGreatVc
