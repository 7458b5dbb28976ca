/- The document's free pieces, told by their places, are the program's, told by groups. Plain Lean. Contracts of the document's price: the order of offers, its pieces. Contracts of the document's price: what each line loses by free pieces. Contracts of the document's price: an offer is applied. Contracts: the document's price. -/
import Derived.Test.YtfemminjhecocaaGreatDoorVcPrMath
import Derived.Test.YtfemminjhecocaaGreatDoorVcBpDealt
set_option linter.unusedVariables false
set_option linter.unusedSimpArgs false
-- BpMath
namespace Go.Proofs.YtfemminjhecocaaGreatDoorVc
def freeAt (a b n i : Nat) : Bool := decide (a ≤ i % (a + b)) && decide ((i / (a + b) + 1) * (a + b) ≤ n)
def freeIx (a b n : Nat) : Nat → List Pc → List Pc
  | _, [] => []
  | i, x :: l => if freeAt a b n i = true then x :: freeIx a b n (i + 1) l else freeIx a b n (i + 1) l
theorem freeIx_append (a b n : Nat) : ∀ (l1 l2 : List Pc) (i : Nat), freeIx a b n i (l1 ++ l2) = freeIx a b n i l1 ++ freeIx a b n (i + l1.length) l2
  | [], l2, i => rfl
  | x :: l1, l2, i => by
    have ih := freeIx_append a b n l1 l2 (i + 1)
    have e : i + 1 + l1.length = i + (x :: l1).length := by simp; omega
    rw [e] at ih
    simp only [List.cons_append, freeIx, ih]
    split <;> rfl
theorem freeIx_none (a b n : Nat) : ∀ (l : List Pc) (i : Nat), (∀ j, j < l.length → freeAt a b n (i + j) = false) → freeIx a b n i l = []
  | [], i, h => rfl
  | x :: l, i, h => by
    have h0 := h 0 (by simp)
    rw [Nat.add_zero] at h0
    unfold freeIx
    rw [if_neg (by rw [h0]; simp)]
    exact freeIx_none a b n l (i + 1) fun j hj => by have := h (j + 1) (by simpa using hj); rw [show i + 1 + j = i + (j + 1) by omega]; exact this
theorem freeIx_all (a b n : Nat) : ∀ (l : List Pc) (i : Nat), (∀ j, j < l.length → freeAt a b n (i + j) = true) → freeIx a b n i l = l
  | [], i, h => rfl
  | x :: l, i, h => by
    have h0 := h 0 (by simp)
    rw [Nat.add_zero] at h0
    unfold freeIx
    rw [if_pos h0]
    rw [freeIx_all a b n l (i + 1) fun j hj => by have := h (j + 1) (by simpa using hj); rw [show i + 1 + j = i + (j + 1) by omega]; exact this]
theorem grp_at {m q j : Nat} (hj : j < m) : (q * m + j) % m = j ∧ (q * m + j) / m = q := by
  constructor
  · rw [Nat.mul_comm, Nat.mul_add_mod]; exact Nat.mod_eq_of_lt hj
  · rw [Nat.mul_comm, Nat.mul_add_div (by omega), Nat.div_eq_of_lt hj]; rfl
theorem freeIx_of {a b : Nat} (hb : 0 < b) : ∀ (fuel q n : Nat) (z : List Pc), z.length ≤ fuel → n = q * (a + b) + z.length → freeIx a b n (q * (a + b)) z = freeOf a b fuel z := by
  intro fuel
  induction fuel with
  | zero =>
    intro q n z hz hn
    have : z = [] := List.length_eq_zero_iff.1 (by omega)
    subst this; rfl
  | succ fuel ih =>
    intro q n z hz hn
    simp only [freeOf]
    have hs : (q + 1) * (a + b) = q * (a + b) + (a + b) := by rw [Nat.add_mul, Nat.one_mul]
    by_cases h : a + b ≤ z.length
    · rw [if_pos h]
      have e : z = z.take a ++ ((z.take (a + b)).drop a ++ z.drop (a + b)) := by
        have h1 : z.take a = (z.take (a + b)).take a := by rw [List.take_take]; congr 1; omega
        rw [h1, ← List.append_assoc, List.take_append_drop, List.take_append_drop]
      have la : (z.take a).length = a := by rw [List.length_take]; omega
      have lb : ((z.take (a + b)).drop a).length = b := by rw [List.length_drop, List.length_take]; omega
      have ld : (z.drop (a + b)).length = z.length - (a + b) := List.length_drop
      conv => lhs; rw [e]
      rw [freeIx_append, freeIx_append, la, lb]
      rw [freeIx_none a b n (z.take a) _ fun j hj => by
        rw [la] at hj
        unfold freeAt
        rw [(grp_at (m := a + b) (q := q) (j := j) (by omega)).1]
        simp; omega]
      rw [freeIx_all a b n ((z.take (a + b)).drop a) _ fun j hj => by
        rw [lb] at hj
        have := grp_at (m := a + b) (q := q) (j := a + j) (by omega)
        unfold freeAt
        rw [Nat.add_assoc, this.1, this.2, hs]
        simp; omega]
      rw [List.nil_append]
      congr 1
      have e2 : q * (a + b) + a + b = (q + 1) * (a + b) := by omega
      rw [e2]
      exact ih (q + 1) n _ (by omega) (by omega)
    · rw [if_neg h]
      refine freeIx_none a b n z _ fun j hj => ?_
      unfold freeAt
      rw [(grp_at (m := a + b) (q := q) (j := j) (by omega)).2, hs]
      simp; omega
/-- All of them. -/
theorem freeIx_eq {a b : Nat} (hb : 0 < b) (z : List Pc) : freeIx a b z.length 0 z = freeOf a b z.length z := by
  have := freeIx_of (a := a) hb z.length 0 z.length z (Nat.le_refl _) (by omega)
  rwa [Nat.zero_mul] at this
end Go.Proofs.YtfemminjhecocaaGreatDoorVc
-- BpSpec1
namespace Go.Proofs.YtfemminjhecocaaGreatDoorVc
open Go.Proofs.Tryz (prog)
open Go.Proofs.YtfemminjhecocaaGreatDoorShares
theorem cmp_bytes : ∀ a b : List UInt8, (Lib.compareBytes a b < 0 ↔ a < b) ∧ (Lib.compareBytes a b = 0 → a = b)
  | [], [] => by simp [Lib.compareBytes]
  | [], _ :: _ => by simp [Lib.compareBytes]
  | _ :: _, [] => by simp [Lib.compareBytes]
  | x :: a, y :: b => by
    obtain ⟨h1, h2⟩ := cmp_bytes a b
    unfold Lib.compareBytes
    simp only [List.cons_lt_cons_iff]
    by_cases e1 : x < y
    · rw [if_pos e1]; simp [e1]
    · rw [if_neg e1]
      by_cases e2 : y < x
      · rw [if_pos e2]
        have : ¬ x = y := fun e => by subst e; exact e1 e2
        simp [e1, this]
      · rw [if_neg e2]
        have : x = y := UInt8.le_antisymm (UInt8.not_lt.1 e2) (UInt8.not_lt.1 e1)
        subst this
        rw [h1]
        refine ⟨?_, fun h => by rw [h2 h]⟩
        simp [UInt8.lt_irrefl]
section
variable {I : Calls} {Q : Post} {h : Heap}
theorem spec63 (hI : Closed' prog Pm I) {a b : ByteArray} (hQ : ∀ c, (c < 0 ↔ a.toList < b.toList) → (c = 0 → ¬ a.toList < b.toList ∧ ¬ b.toList < a.toList) → Q [int c] h) : I 63 [str a, str b] Q h := by
  refine hI.go _ _ (den63 I a b Q) ?_
  refine hI.go _ _ (den120 I a b _) ?_
  refine hI.prim _ _ _ _ (.inr ⟨rfl, a, b, rfl, _, rfl, _, rfl, ?_⟩)
  obtain ⟨h1, h2⟩ := cmp_bytes a.data.toList b.data.toList
  refine hQ _ ?_ fun h3 => ?_
  · rw [ByteArray.toList_eq, ByteArray.toList_eq]; exact h1
  · rw [ByteArray.toList_eq, ByteArray.toList_eq, h2 h3]
    exact ⟨List.lt_irrefl _, List.lt_irrefl _⟩
theorem spec60 (hI : Closed' prog Pm I) {x y : Offr} (hQ : ∀ (c : Int) h', Ext h h' → (c < 0 ↔ ltO x y = true) → Q [int c] h') : I 60 [.agg (offC x), .agg (offC y)] Q h := by
  refine hI.go _ _ (den60 I x.key x.kind x.a x.b x.tg x.least x.most x.group x.alone x.order x.from_ x.to_ y.key y.kind y.a y.b y.tg y.least y.most y.group y.alone y.order y.from_ y.to_ Q) ?_
  refine spec62 hI fun c h1 h2 => ⟨c, rfl, spec63 hI fun d h3 h4 => ⟨d, rfl, newK_intro fun i h' hn he => ?_⟩⟩
  refine spec61 hI (a := c) (b := d) (by rw [he, set_eq]) ⟨_, rfl, hQ _ _ (he ▸ Ext.new hn) ?_⟩
  unfold ltO
  rw [decide_eq_true_eq]
  by_cases hc : c = 0
  · rw [if_pos hc, h3]
    have := h2.1 hc
    constructor
    · intro h; exact .inr ⟨this, h⟩
    · rintro (h | ⟨_, h⟩)
      · omega
      · exact h
  · rw [if_neg hc, h1]
    constructor
    · intro h; exact .inl h
    · rintro (h | ⟨h, _⟩)
      · exact h
      · exact absurd (h2.2 h) hc
theorem off_tells2 (hI : Closed' prog Pm I) (blk : Nat) : TellsG I h blk 60 [] (fun x : Offr => V.agg (offC x)) (fun _ => True) ltO := fun a b _ _ h' Q' _ hq => spec60 hI fun c h'' he hc => hq c h'' he hc
theorem spec170 (hI : Closed' prog Pm I) {x y : Pc} (hQ : ∀ c, (c < 0 ↔ y.2 < x.2) → Q [int c] h) : I 170 [.agg (pcC x), .agg (pcC y)] Q h := by
  refine hI.go _ _ (den170 I x.1 x.2 y.1 y.2 Q) ?_
  exact spec62 hI fun c h1 _ => ⟨c, rfl, hQ c (h1.trans Int.ofNat_lt)⟩
theorem pc_tells2 (hI : Closed' prog Pm I) (blk : Nat) : TellsG I h blk 170 [] (fun x : Pc => V.agg (pcC x)) (fun _ => True) ltP := fun a b _ _ h' Q' _ hq => spec170 hI fun c hc => hq c h' (Ext.refl _) (by unfold ltP; rw [decide_eq_true_eq]; exact hc)
theorem den241g (I : Calls) (l0 : Sl) (n1 n2 : Int) (p3 : Option (Nat × List (Nat × Nat))) (Q : Post) : vc241 I l0 n1 n2 p3 Q = insF pcK I l0 n1 n2 p3 Q := by kernel_rfl
theorem den216g (I : Calls) (l0 : Sl) (n1 : Int) (p3 : Option (Nat × List (Nat × Nat))) (Q : Post) : vc216 I l0 n1 p3 Q = stabF pcK I 241 242 l0 n1 p3 Q := by kernel_rfl
theorem den242g (I : Calls) (l0 : Sl) (n1 n2 n3 : Int) (p3 : Option (Nat × List (Nat × Nat))) (Q : Post) : vc242 I l0 n1 n2 n3 p3 Q = symF pcK I 269 242 l0 n1 n2 n3 p3 Q := by kernel_rfl
theorem den269g (I : Calls) (l0 : Sl) (n1 n2 n3 : Int) (p3 : Option (Nat × List (Nat × Nat))) (Q : Post) : vc269 I l0 n1 n2 n3 p3 Q = rotF pcK I 280 l0 n1 n2 n3 p3 Q := by kernel_rfl
theorem den280g (I : Calls) (l0 : Sl) (n1 n2 n3 : Int) (p3 : Option (Nat × List (Nat × Nat))) (Q : Post) : vc280 I l0 n1 n2 n3 p3 Q = swapF pcK l0 n1 n2 n3 Q := by kernel_rfl
/-- The document's pieces are sorted. -/
theorem spec169 (hI : Closed' prog Pm I) {h0 : Heap} {s : Sl} {xs : List Pc} {L : List Ow} (o : Owns h0 h ((2, s, rows pcC xs) :: L)) (hlen : xs.length < 100000) (hord : xs.Pairwise fun a b => a.1 ≤ b.1)
    (hQ : ∀ h', Owns h0 h' ((2, s, rows pcC (sorted xs)) :: L) → Q [] h') : I 169 [.one (.slice 2 s), .one (.func (some (170, [])))] Q h := by
  refine hI.go _ _ (den169 I s _ Q) ?_
  refine hI.go _ _ (den216 I s _ _ _) ?_
  rw [den216g]
  have hl : s.len = xs.length := (o.at_ List.mem_cons_self).rowsLen pcC_length (by decide)
  have h105 : ∀ a b Q h, insF pcK I s a b (some (170, [])) Q h → I 241 [.one (.slice 2 s), ii a, ii b, fp (some (170, []))] Q h := fun a b Q h hq => hI.go _ _ (den241 I s a b _ Q) (by rw [den241g]; exact hq)
  have h112 : ∀ a b n Q h, swapF pcK s a b n Q h → I 280 [.one (.slice 2 s), ii a, ii b, ii n, fp (some (170, []))] Q h := fun a b n Q h hq => hI.go _ _ (den280 I s a b n _ Q) (by rw [den280g]; exact hq)
  have h110 : ∀ a m b Q h, rotF pcK I 280 s a m b (some (170, [])) Q h → I 269 [.one (.slice 2 s), ii a, ii m, ii b, fp (some (170, []))] Q h := fun a m b Q h hq => hI.go _ _ (den269 I s a m b _ Q) (by rw [den269g]; exact hq)
  have h106 : ∀ a m b Q h, symF pcK I 269 242 s a m b (some (170, [])) Q h → I 242 [.one (.slice 2 s), ii a, ii m, ii b, fp (some (170, []))] Q h := fun a m b Q h hq => hI.go _ _ (den242 I s a m b _ Q) (by rw [den242g]; exact hq)
  obtain ⟨ho1, ho2 | ⟨blk, ho2, ho3, ho4⟩⟩ := o.all _ List.mem_cons_self
  · have hx : xs = [] := by
      have := congrArg List.length ho2.2
      simp only [rows_length pcC_length, List.length_nil] at this
      exact List.length_eq_zero_iff.1 (by omega)
    subst hx
    have h0l : s.len = 0 := hl
    have done : Q [] h := hQ h (by simpa [sorted] using o)
    unfold stabF
    rw [h0l]
    refine loopK_intro (fun (a : Int × Int) h' m => h' = h ∧ a = (0, 20)) 0 ⟨rfl, rfl⟩ ?_
    rintro _ h' m ⟨rfl, rfl⟩
    dsimp only [uncur]
    refine ifT_dec (fun h1 => absurd h1 (by decide)) fun _ => h105 _ _ _ _ (insF_none (by decide) (by decide) (by decide) ⟨rfl, ?_⟩)
    refine loopK_intro (fun (a : Int) h2 m => h2 = h' ∧ a = 20) 0 ⟨rfl, rfl⟩ ?_
    rintro _ h2 m ⟨rfl, rfl⟩
    exact ifT_dec (fun h1 => absurd h1 (by decide)) fun _ => ⟨rfl, done⟩
  · refine stab_spec pc_fits (v := fun x => V.agg (pcC x)) (blk := blk) (mem := fun _ => True) (lt := ltP) (fun a b => pcLe a b = true) h105 h110 h112 h106 ho2 (by omega) hl ho4 (by rw [hl]) (fun a b c _ _ _ => pcLe_trans a b c) (fun _ _ => trivial) (pc_tells2 hI blk) ?_ fun Z h' hp hs hps => ⟨rfl, hQ h' ?_⟩
    · refine hord.imp fun {a b} hab => ?_
      unfold Xrel ltP pcLe
      simp only [decide_eq_true_eq, decide_eq_false_iff_not]
      omega
    · have e := sorted_eq hp hs
      subst e
      have e2 : s = ⟨some (blk, 0), s.len⟩ := by cases s; simp only at ho2; rw [ho2]
      have o2 : Owns h0 h ((pcK.kds.length, ⟨some (blk, 0), s.len⟩, rws (fun x : Pc => V.agg (pcC x)) xs) :: L) := by
        rw [← e2]; exact o
      have := o2.psg pc_fits hps hp.length_eq
      rw [e2]; exact this
/-- A greatest sum. -/
theorem spec121 (hI : Closed' prog Pm I) {i : Nat} {o : Offr} {n : Nat} (hc : h i = some (.cells false (offC o))) (hm : 0 ≤ o.most) (hQ : Q [int ((capN o.most.toNat n : Nat) : Int)] h) : I 121 [int n, .one (.ptr (some (i, 0)))] Q h := by
  refine hI.go _ _ (den121 I n i 0 Q) ?_
  obtain ⟨g, hg⟩ := Int.eq_ofNat_of_zero_le hm
  refine ⟨o.most, read_cell hc rfl, ?_⟩
  rw [hg] at hQ ⊢
  rw [Int.toNat_natCast] at hQ
  unfold capN at hQ
  refine ifT_dec (fun h1 => ⟨(g : Int), read_cell hc (by rw [← hg]; rfl), ?_⟩) fun h1 => ?_
  · rw [if_neg (by omega)] at hQ
    have e : min (n : Int) (g : Int) = ((min n g : Nat) : Int) := by omega
    rw [e]; exact hQ
  · rw [if_pos (by omega)] at hQ; exact hQ
end
end Go.Proofs.YtfemminjhecocaaGreatDoorVc
-- BpSpec2
namespace Go.Proofs.YtfemminjhecocaaGreatDoorVc
open Go.Proofs.Tryz (prog)
open Go.Proofs.YtfemminjhecocaaGreatDoorShares
theorem freeIx_snoc {a b n : Nat} {Z : List Pc} {t : Nat} {x : Pc} (hx : Z[t]? = some x) : freeIx a b n 0 (Z.take (t + 1)) = freeIx a b n 0 (Z.take t) ++ (if freeAt a b n t = true then [x] else []) := by
  have ht : t < Z.length := (List.getElem?_eq_some_iff.1 hx).1
  rw [List.take_add_one, hx]
  show freeIx a b n 0 (Z.take t ++ [x]) = _
  rw [freeIx_append]
  congr 1
  have e : 0 + (Z.take t).length = t := by rw [List.length_take]; omega
  rw [e]
  rfl
theorem freeIx_sub (a b n : Nat) : ∀ (l : List Pc) (i : Nat), (freeIx a b n i l).length ≤ l.length
  | [], _ => Nat.le_refl _
  | x :: l, i => by
    have := freeIx_sub a b n l (i + 1)
    unfold freeIx
    split <;> simp <;> omega
section
variable {I : Calls} {Q : Post} {h : Heap} {l1 sl : Sl} {xs : List Itm} {ship : Int} {left : List Nat}
theorem spec122 (hI : Closed' prog Pm I) {o : Offr} (its : Itms h l1 xs) (hat : At h 1 sl (nats left)) (hlen : left.length = xs.length) (hx : OkL xs) (ho : OkO o) (hk : o.kind = 3) (hot : At h 1 o.tg (strs o.tags)) (hotl : o.tags.length < 1000) (hle : ∀ n ∈ left, n ≤ 1000000000)
    (hQ : ∀ s' h', Ext h h' → At h' 1 s' (nats (giveAll (List.replicate xs.length 0) (freeOf o.a.toNat o.b.toNat (sorted (pcs (xs.map (matchB o)) (xs.map fun x => x.many.toNat) left xs.length)).length (sorted (pcs (xs.map (matchB o)) (xs.map fun x => x.many.toNat) left xs.length))))) → New h s' → Q [.one (.slice 1 s')] h') :
    I 122 [.agg (offC o), .agg [.slice 4 l1, .int .i64 ship], .one (.slice 1 sl)] Q h := by
  have hsl : sl.len = xs.length := by rw [hat.len1, nats_length, hlen]
  have hfew := hx.few
  have hil := its.len
  obtain ⟨ham, _, _, hm0, hm1, _, _⟩ := ho.n
  have ha : 1 ≤ o.a ∧ o.a ≤ 20 ∧ 1 ≤ o.b ∧ o.b ≤ 20 := by
    rcases ham with h1 | h1 | h1 <;> omega
  obtain ⟨A, hA⟩ := Int.eq_ofNat_of_zero_le (show 0 ≤ o.a by omega)
  obtain ⟨B, hB⟩ := Int.eq_ofNat_of_zero_le (show 0 ≤ o.b by omega)
  obtain ⟨ms, hms⟩ : ∃ ms, xs.map (matchB o) = ms := ⟨_, rfl⟩
  obtain ⟨ks, hks⟩ : ∃ ks, xs.map (fun x => x.many.toNat) = ks := ⟨_, rfl⟩
  have hksb : ∀ k ∈ ks, k ≤ 100 := fun k hk => by
    rw [← hks] at hk
    obtain ⟨x, hx2, rfl⟩ := List.mem_map.1 hk
    have := hx.ok x hx2
    omega
  refine hI.go _ _ (den122 I o.key o.kind o.a o.b o.tg o.least o.most o.group o.alone o.order o.from_ o.to_ l1 ship sl Q) ?_
  refine loopK_intro (fun (a : Sl × Int) h' m => ∃ k : Nat, k ≤ xs.length ∧ a.2 = (k : Int) ∧ m = xs.length - k ∧ Owns h h' [(2, a.1, rows pcC (pcs ms ks left k))]) xs.length
    ⟨0, by omega, rfl, rfl, (Owns.nil h).none_ 2⟩ ?_
  rintro ⟨lz, y⟩ h2 m ⟨k, hk1, rfl, rfl, o2⟩
  dsimp only [uncur] at o2 ⊢
  obtain ⟨hpk1, hpk2, hpk3⟩ := pcs_ok (ms := ms) hksb hle k
  refine ifT_dec (fun hlt => ⟨⟨by omega, hlt⟩, ?_⟩) fun hge => ?_
  · have hkl : k < xs.length := by omega
    have hxk := List.getElem?_eq_getElem hkl
    generalize xs[k] = x at hxk
    have hkl2 : k < left.length := by omega
    obtain ⟨n, hnk, hnb⟩ : ∃ n, left[k]? = some n ∧ n ≤ 1000000000 := ⟨left[k], List.getElem?_eq_getElem hkl2, hle _ (List.getElem_mem hkl2)⟩
    have hxm := List.mem_of_getElem? hxk
    have hok := hx.ok x hxm
    have hmk : ms[k]? = some (matchB o x) := by rw [← hms]; exact ms_get hxk
    have hkk : ks[k]? = some x.many.toNat := by rw [← hks, List.getElem?_map, hxk]; rfl
    obtain ⟨M, hM⟩ : ∃ M : Nat, x.many = (M : Int) := ⟨x.many.toNat, by omega⟩
    rw [hM, Int.toNat_natCast] at hkk
    have hM2 : 1 ≤ M ∧ M ≤ 100 := by omega
    refine (o2.ext.itms its).at_.row itmC_length (by decide) hxk fun b2 of2 hr2 => ⟨x.key, x.cents, x.many, x.tg, hr2, ?_⟩
    rw [hM]
    refine loopK_intro (fun (a : Sl × Int) h' m => ∃ j : Nat, j ≤ M ∧ a.2 = (j : Int) ∧ m = M - j ∧ Owns h h' [(2, a.1, rows pcC (pcs ms ks left k ++ (if matchB o x = true then List.replicate j (k, n / M) else [])))]) M
      ⟨0, by omega, rfl, rfl, by simpa using o2⟩ ?_
    rintro ⟨ly, z⟩ h3 m3 ⟨j, hj1, rfl, rfl, o3⟩
    dsimp only [uncur] at o3 ⊢
    have hly := (o3.at_ List.mem_cons_self).rowsLen pcC_length (by decide)
    have hly2 : ly.len ≤ 100 * k + 100 := by
      rw [hly, List.length_append]
      split
      · rw [List.length_replicate]; omega
      · simp; omega
    have ej : IntKind.i64.wrap ((j : Int) + 1) = ((j + 1 : Nat) : Int) := by rw [w64] <;> omega
    rw [ej]
    refine ifT_dec (fun hlt2 => ?_) fun hge2 => ?_
    · refine spec47 hI (o := o) (x := { x with many := (M : Int) }) (o3.ext.at_ hot) ((o3.ext.itms its).tg x hxm) hotl (hx.tg x hxm) fun h4 e4 => ⟨matchB o x, rfl, ?_⟩
      have o4 := o3.mono e4
      refine ifT_intro (fun hb => ⟨⟨by omega, by omega⟩, ?_⟩) fun hb => ?_
      · refine (o4.ext.at_ hat).cell (nats_get hnk) fun b of hr => ⟨_, hr, by omega, ?_⟩
        have ev : IntKind.i64.wrap ((n : Int).tdiv (M : Int)) = ((n / M : Nat) : Int) := by
          rw [← Int.ofNat_tdiv]
          have hq := Nat.div_le_self n M
          generalize n / M = q at hq
          exact w64 (by omega) (by omega)
        rw [ev]
        rw [if_pos hb] at o4
        refine appendTo_owns (m := 0) o4 rfl (by omega) (by simp) fun b5 h5 o5 => ⟨M - (j + 1), by omega, j + 1, by omega, rfl, rfl, ?_⟩
        rw [if_pos hb]
        have e1 : List.replicate (j + 1) (k, n / M) = List.replicate j (k, n / M) ++ [(k, n / M)] := List.replicate_succ'
        have e2 : rows pcC [((k, n / M) : Pc)] = pcC (k, n / M) := by simp [rows]
        rw [e1, ← List.append_assoc, rows_append, e2]
        exact o5
      · have hb' : ¬ matchB o x = true := by rw [hb]; simp
        rw [if_neg hb'] at o4
        exact ⟨M - (j + 1), by omega, j + 1, by omega, rfl, rfl, by rw [if_neg hb']; exact o4⟩
    · have hjM : j = M := by omega
      subst hjM
      refine ⟨xs.length - (k + 1), by omega, k + 1, by omega, by show IntKind.i64.wrap _ = _; rw [w64 (by omega) (by omega)]; rfl, rfl, ?_⟩
      have e : pcs ms ks left (k + 1) = pcs ms ks left k ++ (if matchB o x = true then List.replicate j (k, n / j) else []) := by
        rw [pcs_succ]
        congr 1
        unfold pcsAt
        rw [hmk, hkk, hnk]
        cases matchB o x <;> rfl
      rw [e]; exact o3
  · have hkn : k = xs.length := by omega
    subst hkn
    rw [hms, hks, hA, hB] at hQ
    simp only [Int.toNat_natCast] at hQ
    rw [hA, hB]
    refine spec169 hI o2 (by omega) hpk2 fun h3 o3 => ⟨rfl, rfl, by omega, by omega, by show (sl.len : Int) * ((8 : Nat) : Int) ≤ _; omega, newK_intro fun i4 h4 hn4 he4 => ?_⟩
    obtain ⟨Z, hZ⟩ : ∃ Z, sorted (pcs ms ks left xs.length) = Z := ⟨_, rfl⟩
    rw [hZ] at o3 hQ
    have hZp : Z.Perm (pcs ms ks left xs.length) := hZ ▸ sorted_perm _
    have hZ1 : ∀ x ∈ Z, x.1 < xs.length ∧ x.2 ≤ 1000000000 := fun x hx => hpk1 x (hZp.mem_iff.1 hx)
    have hZ2 : Z.length ≤ 400 := by rw [hZp.length_eq]; omega
    rw [Int.toNat_natCast, zeros_nats, hsl] at he4
    have o4 : Owns h h4 [(1, ⟨some (i4, 0), xs.length⟩, nats (List.replicate xs.length 0)), (2, lz, rows pcC Z)] := he4 ▸ o3.new hn4 (by simp [nats_length])
    have eab : IntKind.i64.wrap ((A : Int) + (B : Int)) = ((A + B : Nat) : Int) := by rw [w64] <;> omega
    rw [eab, Int.toNat_natCast, hsl]
    have hlz : lz.len = Z.length := (o4.at_ (List.mem_cons_of_mem _ List.mem_cons_self)).rowsLen pcC_length (by decide)
    rw [← freeIx_eq (by omega)] at hQ
    refine loopK_intro (fun (y : Int) h' m => ∃ t : Nat, t ≤ Z.length ∧ y = (t : Int) ∧ m = Z.length - t ∧ (giveAll (List.replicate xs.length 0) (freeIx A B Z.length 0 (Z.take t))).length = xs.length ∧ (∀ i, at_ (giveAll (List.replicate xs.length 0) (freeIx A B Z.length 0 (Z.take t))) i ≤ t * 1000000000) ∧
        Owns h h' [(1, ⟨some (i4, 0), xs.length⟩, nats (giveAll (List.replicate xs.length 0) (freeIx A B Z.length 0 (Z.take t)))), (2, lz, rows pcC Z)]) Z.length
      ⟨0, by omega, rfl, rfl, by rw [giveAll_length, List.length_replicate], fun i => by rw [List.take_zero]; show at_ (List.replicate _ 0) i ≤ _; unfold at_; rw [List.getD_eq_getElem?_getD, List.getElem?_replicate]; split <;> simp, by rw [List.take_zero]; exact o4⟩ ?_
    rintro y h6 m ⟨t, ht1, rfl, rfl, hol, hob, o6⟩
    refine ifT_dec (fun hlt => ⟨⟨by omega, hlt⟩, ?_⟩) fun hge2 => ?_
    · have htl : t < Z.length := by omega
      have hpt := List.getElem?_eq_getElem htl
      generalize Z[t] = x at hpt
      have hxZ := hZ1 x (List.mem_of_getElem? hpt)
      have hsn := freeIx_snoc (a := A) (b := B) (n := Z.length) hpt
      have ew : IntKind.i64.wrap ((t : Int) + 1) = ((t + 1 : Nat) : Int) := by rw [w64] <;> omega
      rw [ew]
      refine (o6.at_ (List.mem_cons_of_mem _ List.mem_cons_self)).row pcC_length (by decide) hpt fun bb of hr => ⟨x.1, x.2, hr, by omega, ?_⟩
      refine joinK_intro (fun (b : Bool) h' => h' = h6 ∧ b = freeAt A B Z.length t) ?_ fun jj hj => ⟨by omega, ?_⟩
      case refine_2 =>
        have em : (t : Int).tmod ((A + B : Nat) : Int) = ((t % (A + B) : Nat) : Int) := (Int.ofNat_tmod _ _).symm
        have ed : (t : Int).tdiv ((A + B : Nat) : Int) = ((t / (A + B) : Nat) : Int) := (Int.ofNat_tdiv _ _).symm
        rw [em, ed]
        have hq := Nat.div_le_self t (A + B)
        have hmul : (t / (A + B) + 1) * (A + B) ≤ 401 * 40 := Nat.mul_le_mul (by omega) (by omega)
        have e1 : IntKind.i64.wrap (IntKind.i64.wrap (IntKind.i64.wrap ((t / (A + B) : Nat) : Int) + 1) * ((A + B : Nat) : Int)) = (((t / (A + B) + 1) * (A + B) : Nat) : Int) := by
          generalize t / (A + B) = q at hq hmul ⊢
          rw [w64 (n := (q : Int)) (by omega) (by omega), w64 (n := (q : Int) + 1) (by omega) (by omega), show (q : Int) + 1 = ((q + 1 : Nat) : Int) by omega, mN]
          exact w64 (by omega) (by omega)
        rw [e1]
        refine ifT_dec (fun h1 => hj _ _ ⟨rfl, ?_⟩) fun h1 => hj _ _ ⟨rfl, ?_⟩
        · unfold freeAt
          have h1' : A ≤ t % (A + B) := by generalize t % (A + B) = r at h1 ⊢; omega
          rw [decide_eq_true h1', Bool.true_and, hlz, decide_eq_decide]
          exact Int.ofNat_le
        · unfold freeAt
          have h1' : ¬ A ≤ t % (A + B) := by generalize t % (A + B) = r at h1 ⊢; omega
          rw [decide_eq_false h1', Bool.false_and]
      rintro b h7 ⟨rfl, rfl⟩
      refine ifT_intro (fun hb => ⟨⟨by omega, by omega⟩, ((at_ (giveAll (List.replicate xs.length 0) (freeIx A B Z.length 0 (Z.take t))) x.1 : Nat) : Int), ?_, ⟨by omega, by omega⟩, ?_⟩) fun hb => ?_
      · have hc := (o6.block List.mem_cons_self).1
        have := read_cell hc (nats_get (at_get (l := giveAll (List.replicate xs.length 0) (freeIx A B Z.length 0 (Z.take t))) (i := x.1) (by rw [hol]; exact hxZ.1)))
        rw [Nat.zero_add, Int.toNat_natCast, Nat.mul_one]; exact this
      · rw [if_pos hb] at hsn
        have eg : giveAll (List.replicate xs.length 0) (freeIx A B Z.length 0 (Z.take (t + 1))) = give (giveAll (List.replicate xs.length 0) (freeIx A B Z.length 0 (Z.take t))) x := by rw [hsn, giveAll_append]; rfl
        have hb1 := hob x.1
        have hb2 := give_bound hob (by rw [hol]; exact hxZ.1) (x := x)
        generalize giveAll (List.replicate xs.length 0) (freeIx A B Z.length 0 (Z.take t)) = out at *
        refine storeK_one (o6.block List.mem_cons_self).1 (by rw [nats_length, hol, Int.toNat_natCast]; omega) ⟨Z.length - (t + 1), by omega, t + 1, by omega, rfl, rfl, by rw [eg, give_length, hol], fun i => by rw [eg]; have := hb2 i; omega, ?_⟩
        have ev : IntKind.i64.wrap (((at_ out x.1 : Nat) : Int) + ((x.2 : Nat) : Int)) = ((at_ out x.1 + x.2 : Nat) : Int) := by
          rw [w64 (by omega) (by omega)]; omega
        rw [ev, Nat.zero_add, Int.toNat_natCast, Nat.mul_one, nats_set]
        have e2 : out.set x.1 (at_ out x.1 + x.2) = giveAll (List.replicate xs.length 0) (freeIx A B Z.length 0 (Z.take (t + 1))) := by rw [eg]; rfl
        rw [e2]
        exact o6.change (by rw [nats_length, eg, give_length, hol]; omega)
      · rw [if_neg (by rw [hb]; simp), List.append_nil] at hsn
        refine ⟨Z.length - (t + 1), by omega, t + 1, by omega, rfl, rfl, by rw [hsn]; exact hol, fun i => by rw [hsn]; exact Nat.le_trans (hob i) (Nat.mul_le_mul_right _ (Nat.le_succ t)), by rw [hsn]; exact o6⟩
    · have hte : t = Z.length := by omega
      subst hte
      rw [List.take_length] at o6
      exact hQ _ h6 o6.ext (o6.at_ List.mem_cons_self) (o6.new_ List.mem_cons_self)
end
end Go.Proofs.YtfemminjhecocaaGreatDoorVc
-- BpSpec3
namespace Go.Proofs.YtfemminjhecocaaGreatDoorVc
open Go.Proofs.Tryz (prog)
open Go.Proofs.YtfemminjhecocaaGreatDoorShares
theorem sum_zero : ∀ {l : List Nat}, l.sum = 0 → l = List.replicate l.length 0
  | [], _ => rfl
  | x :: l, h => by
    simp only [List.sum_cons] at h
    have h1 : x = 0 := by omega
    have := sum_zero (l := l) (by omega)
    rw [h1, List.length_cons, List.replicate_succ, ← this]
section
variable {I : Calls} {Q : Post} {h : Heap} {l1 sl : Sl} {xs : List Itm} {ship0 : Int} {ship : Nat} {left : List Nat}
set_option maxHeartbeats 400000 in
theorem spec64 (hI : Closed' prog Pm I) {o : Offr} (its : Itms h l1 xs) (hat : At h 1 sl (nats left)) (hlen : left.length = xs.length) (hx : OkL xs) (ho : OkO o) (hot : At h 1 o.tg (strs o.tags)) (hotl : o.tags.length < 1000) (hle : ∀ n ∈ left, n ≤ 1000000000) (hship : ship ≤ 1000000000000)
    (h4 : ∀ s' h', o.kind = 4 → Ext h h' → At h' 1 s' (nats (List.replicate xs.length 0)) → New h s' → Q [.one (.slice 1 s'), int ((capN o.most.toNat (min o.a.toNat ship) : Nat) : Int)] h')
    (hQ : ∀ s' h', o.kind ≠ 4 → Ext h h' → At h' 1 s' (nats (cutsF o (xs.map (matchB o)) (xs.map fun x => x.many.toNat) left)) → New h s' → Q [.one (.slice 1 s'), int 0] h') :
    I 64 [.agg (offC o), .agg [.slice 4 l1, .int .i64 ship0], .one (.slice 1 sl), int ship] Q h := by
  have hsl : sl.len = xs.length := by rw [hat.len1, nats_length, hlen]
  have hfew := hx.few
  have hil := its.len
  obtain ⟨ham, _, _, hm0, hm1, _, _⟩ := ho.n
  have ha1 : 1 ≤ o.a ∧ o.a ≤ 1000000000000 := by
    rcases ham with h1 | h1 | h1 <;> omega
  obtain ⟨ms, hms⟩ : ∃ ms, xs.map (matchB o) = ms := ⟨_, rfl⟩
  have hml : ms.length = left.length := by rw [← hms, List.length_map, hlen]
  obtain ⟨g, hg⟩ := Int.eq_ofNat_of_zero_le hm0
  obtain ⟨A, hA⟩ := Int.eq_ofNat_of_zero_le (show 0 ≤ o.a by omega)
  refine hI.go _ _ (den64 I o.key o.kind o.a o.b o.tg o.least o.most o.group o.alone o.order o.from_ o.to_ l1 ship0 sl ship Q) ?_
  refine newK_intro fun i17 g1 hn17 he17 => ⟨rfl, by omega, by omega, by show (sl.len : Int) * ((8 : Nat) : Int) ≤ _; omega, newK_intro fun i19 g2 hn19 he19 => ?_⟩
  have e1 : Ext h g1 := he17 ▸ Ext.new hn17
  have c17 : g1 i17 = some (.cells false (offC o)) := by rw [he17, set_eq]; rfl
  rw [Int.toNat_natCast, zeros_nats, hsl] at he19
  have o2 : Owns g1 g2 [(1, ⟨some (i19, 0), xs.length⟩, nats (List.replicate xs.length 0))] := he19 ▸ (Owns.nil g1).new hn19 (by simp [nats_length])
  rw [Int.toNat_natCast, hsl]
  have its1 := e1.itms its
  have hat1 := e1.at_ hat
  have hot1 := e1.at_ hot
  refine ⟨o.kind, read_cell (o2.ext _ _ c17) rfl, ?_⟩
  refine ifT_dec (fun hk4 => ?_) fun hk4 => ?_
  · refine ⟨o.a, read_cell (o2.ext _ _ c17) rfl, ?_⟩
    have em : min o.a (ship : Int) = ((min A ship : Nat) : Int) := by rw [hA]; omega
    rw [em]
    refine spec121 hI (o2.ext _ _ c17) hm0 ⟨_, rfl, ?_⟩
    have := h4 ⟨some (i19, 0), xs.length⟩ g2 hk4 (e1.trans o2.ext) (o2.at_ List.mem_cons_self) ((o2.new_ (sz := 1) (cs := nats (List.replicate xs.length 0)) List.mem_cons_self).of_ext e1)
    rw [hA, Int.toNat_natCast] at this
    exact this
  have hQ := fun s' h' => hQ s' h' hk4
  clear h4
  refine ifT_dec (fun hk2 => ?_) fun hk2 => ?_
  · have hz : (zipM ms left id).length = left.length := zipM_length hml id
    have hle2 := under_le (zipM_under hml (f := id) (fun n => Nat.le_refl _)) hle
    have hsum := sum_le hle2
    have hzl : (zipM ms left id).length ≤ 4 := by omega
    refine ⟨rfl, by omega, by omega, by omega, newK_intro fun i28 g3 hn28 he28 => ?_⟩
    rw [zeros_nats] at he28
    have o3 : Owns g1 g3 [(1, ⟨some (i28, 0), xs.length⟩, nats (List.replicate xs.length 0)), (1, ⟨some (i19, 0), xs.length⟩, nats (List.replicate xs.length 0))] := he28 ▸ o2.new hn28 (by simp [nats_length])
    refine loopK_intro (fun (a : Int) h' m => ∃ k : Nat, k ≤ xs.length ∧ a = (k : Int) ∧ m = xs.length - k ∧ Owns g1 h' [(1, ⟨some (i28, 0), xs.length⟩, nats ((zipM ms left id).take k ++ List.replicate m 0)), (1, ⟨some (i19, 0), xs.length⟩, nats (List.replicate xs.length 0))]) xs.length
      ⟨0, by omega, rfl, rfl, by rw [List.take_zero, List.nil_append]; exact o3⟩ ?_
    clear o3
    rintro a h3 m ⟨k, hk, rfl, rfl, o3⟩
    refine ifT_dec (fun hlt => ⟨⟨by omega, hlt⟩, ?_⟩) fun hge => ?_
    · have hkl : k < xs.length := by omega
      have hxk := List.getElem?_eq_getElem hkl
      generalize xs[k] = x at hxk
      have hkl2 : k < left.length := by omega
      obtain ⟨n, hnk, hnb⟩ : ∃ n, left[k]? = some n ∧ n ≤ 1000000000 := ⟨left[k], List.getElem?_eq_getElem hkl2, hle _ (List.getElem_mem hkl2)⟩
      have hxm := List.mem_of_getElem? hxk
      refine (o3.ext.itms its1).at_.row itmC_length (by decide) hxk fun b2 of2 hr2 => ⟨x.key, x.cents, x.many, x.tg, hr2, ?_⟩
      refine ⟨o.key, o.kind, o.a, o.b, o.tg, o.least, o.most, o.group, o.alone, o.order, o.from_, o.to_, by rw [read_block (o3.ext _ _ c17) (by show 0 + 12 ≤ 12; decide)]; rfl, ?_⟩
      refine spec47 hI (o := o) (x := x) (o3.ext.at_ hot1) ((o3.ext.itms its1).tg x hxm) hotl (hx.tg x hxm) fun h4 e4 => ⟨matchB o x, rfl, ?_⟩
      have o4 := o3.mono e4
      have hmk : ms[k]? = some (matchB o x) := by rw [← hms]; exact ms_get hxk
      have em : xs.length - k = (xs.length - (k + 1)) + 1 := by omega
      have ek : IntKind.i64.wrap ((k : Int) + 1) = ((k + 1 : Nat) : Int) := by rw [w64] <;> omega
      rw [em] at o4
      rw [ek]
      refine ifT_intro (fun hb => ⟨⟨by omega, by omega⟩, ?_⟩) fun hb => ?_
      · rw [hb] at hmk
        refine (o4.ext.at_ hat1).cell (nats_get hnk) fun b of hr => ⟨_, hr, ⟨by omega, by show (k : Int) < (xs.length : Int); omega⟩, ?_⟩
        refine storeK_one (o4.block List.mem_cons_self).1 (by rw [nats_length, List.length_append, List.length_take, List.length_replicate, Int.toNat_natCast, hz, hlen]; omega) ⟨xs.length - (k + 1), by omega, k + 1, by omega, rfl, rfl, ?_⟩
        rw [Nat.zero_add, Int.toNat_natCast, Nat.mul_one, nats_set, show n = cond true (id n) 0 from rfl, zipM_step hmk hnk _ (by omega) hml]
        refine o4.change ?_
        rw [nats_length, List.length_append, List.length_take, List.length_replicate, hz, hlen]; omega
      · rw [hb] at hmk
        rw [zipM_none hmk hnk _ (by omega) hml] at o4
        exact ⟨xs.length - (k + 1), by omega, k + 1, by omega, rfl, rfl, o4⟩
    · have hkn : k = xs.length := by omega
      subst hkn
      rw [Nat.sub_self, List.replicate_zero, List.append_nil, List.take_of_length_le (by rw [hz, hlen]; exact Nat.le_refl _)] at o3
      have c3 := o3.ext _ _ c17
      have e13 := e1.trans o3.ext
      have hown := o3.at_ (sz := 1) (s := ⟨some (i28, 0), xs.length⟩) (cs := nats (zipM ms left id)) (by simp)
      have hzero := o3.at_ (sz := 1) (s := ⟨some (i19, 0), xs.length⟩) (cs := nats (List.replicate xs.length 0)) (by simp)
      have hcut : cutsF o (xs.map (matchB o)) (xs.map fun x => x.many.toNat) left = amtF ms left A g := by
        unfold cutsF
        rw [if_neg (by omega), if_pos hk2, hms, hA, hg, Int.toNat_natCast, Int.toNat_natCast]
      rw [hcut] at hQ
      unfold amtF at hQ
      obtain ⟨ws, hws⟩ : ∃ ws, zipM ms left id = ws := ⟨_, rfl⟩
      rw [hws] at hQ hown hle2 hsum hzl hz
      refine ⟨o.a, read_cell c3 rfl, ?_⟩
      refine spec65 hI hown (by omega) (by omega) ⟨rfl, _, rfl, ?_⟩
      have em : min o.a ((ws.sum : Nat) : Int) = ((min A ws.sum : Nat) : Int) := by rw [hA]; omega
      rw [em]
      refine spec121 hI c3 hm0 ⟨_, rfl, ?_⟩
      rw [hg, Int.toNat_natCast]
      obtain ⟨J, hJ⟩ : ∃ J : Sl → T, ∀ l h', J l h' ↔ (Ext h h' ∧ New h l ∧ At h' 1 l (nats (if ws.sum = 0 then ws else shared (capN g (min A ws.sum)) ws))) := ⟨fun l h' => _, fun _ _ => Iff.rfl⟩
      refine joinK_intro J ?_ fun j hj => ifT_dec (fun h5 => ?_) fun h5 => hj _ _ ((hJ _ _).2 ⟨e13, (o3.new_ (sz := 1) (cs := nats (List.replicate xs.length 0)) (by simp)).of_ext e1, ?_⟩)
      · intro l h7 hj0
        obtain ⟨e7, nw, a7⟩ := (hJ l h7).1 hj0
        exact hQ l h7 e7 a7 nw
      · have hne : ws.sum ≠ 0 := by
          intro h6
          rw [h6] at h5
          unfold capN at h5
          split at h5 <;> omega
        refine spec100 hI hown (by unfold capN; split <;> omega) (fun w hw => by have := hle2 w hw; omega) (by omega) (by omega) fun s' h7 e7 a7 nw => ⟨s', rfl, hj _ _ ((hJ _ _).2 ⟨e13.trans e7, nw.of_ext e13, ?_⟩)⟩
        rw [if_neg hne]; exact a7
      · have h6 : ws.sum = 0 := by
          unfold capN at h5
          split at h5 <;> omega
        rw [if_pos h6, sum_zero h6, hz, hlen]
        exact hzero
  obtain ⟨J, hJ⟩ : ∃ J : Sl → T, ∀ l h', J l h' ↔ ∃ loss, Ext g1 h' ∧ New h l ∧ At h' 1 l (nats loss) ∧ loss.length ≤ 4 ∧ (∀ w ∈ loss, w ≤ 1000000000) ∧ mostF loss g = cutsF o ms (xs.map fun x => x.many.toNat) left := ⟨fun l h' => _, fun _ _ => Iff.rfl⟩
  refine joinK_intro J ?_ fun j hj => ?_
  · intro l h3 hj0
    obtain ⟨loss, e3, nw, a3, hl4, hlb, hmo⟩ := (hJ l h3).1 hj0
    have hsum := sum_le hlb
    rw [hms, ← hmo] at hQ
    have c3 := e3 _ _ c17
    have e13 := e1.trans e3
    refine spec65 hI a3 (by omega) (by omega) ⟨_, rfl, spec121 hI c3 hm0 ⟨_, rfl, spec65 hI a3 (by omega) (by omega) ⟨_, rfl, ?_⟩⟩⟩
    rw [hg, Int.toNat_natCast]
    refine ifT_dec (fun h5 => ?_) fun h5 => ?_
    · have h6 : capN g loss.sum = g ∧ ¬ (g = 0 ∨ loss.sum ≤ g) := by
        unfold capN at h5 ⊢
        split at h5
        · omega
        · rename_i hg0; rw [if_neg hg0]; omega
      rw [h6.1]
      refine spec100 hI a3 (by omega) (fun w hw => by have := hlb w hw; omega) (by omega) (by omega) fun s' h7 e7 a7 nw7 => ⟨_, rfl, hQ s' h7 (e13.trans e7) ?_ (nw7.of_ext e13)⟩
      unfold mostF
      rw [if_neg h6.2]; exact a7
    · refine hQ l h3 e13 ?_ nw
      have h6 : g = 0 ∨ loss.sum ≤ g := by
        unfold capN at h5
        split at h5
        · rename_i hg0; exact .inl hg0
        · right; omega
      unfold mostF
      rw [if_pos h6]; exact a3
  refine ifT_dec (fun hk1 => ?_) fun hk1 => ?_
  · obtain ⟨f, hf⟩ : ∃ f : Nat → Nat, f = fun n => n * o.a.toNat / 100 := ⟨_, rfl⟩
    have ha : o.a ≤ 100 := by rcases ham with h1 | h1 | h1 <;> omega
    have hz : (zipM ms left f).length = left.length := zipM_length hml f
    refine loopK_intro (fun (a : Int) h' m => ∃ k : Nat, k ≤ xs.length ∧ a = (k : Int) ∧ m = xs.length - k ∧ Owns g1 h' [(1, ⟨some (i19, 0), xs.length⟩, nats ((zipM ms left f).take k ++ List.replicate m 0))]) xs.length
      ⟨0, by omega, rfl, rfl, by rw [List.take_zero, List.nil_append]; exact o2⟩ ?_
    rintro a h3 m ⟨k, hk, rfl, rfl, o3⟩
    refine ifT_dec (fun hlt => ⟨⟨by omega, hlt⟩, ?_⟩) fun hge => ?_
    · have hkl : k < xs.length := by omega
      have hxk := List.getElem?_eq_getElem hkl
      generalize xs[k] = x at hxk
      have hkl2 : k < left.length := by omega
      obtain ⟨n, hnk, hnb⟩ : ∃ n, left[k]? = some n ∧ n ≤ 1000000000 := ⟨left[k], List.getElem?_eq_getElem hkl2, hle _ (List.getElem_mem hkl2)⟩
      have hxm := List.mem_of_getElem? hxk
      refine (o3.ext.itms its1).at_.row itmC_length (by decide) hxk fun b2 of2 hr2 => ⟨x.key, x.cents, x.many, x.tg, hr2, ?_⟩
      refine ⟨o.key, o.kind, o.a, o.b, o.tg, o.least, o.most, o.group, o.alone, o.order, o.from_, o.to_, by rw [read_block (o3.ext _ _ c17) (by show 0 + 12 ≤ 12; decide)]; rfl, ?_⟩
      refine spec47 hI (o := o) (x := x) (o3.ext.at_ hot1) ((o3.ext.itms its1).tg x hxm) hotl (hx.tg x hxm) fun h4 e4 => ⟨matchB o x, rfl, ?_⟩
      have o4 := o3.mono e4
      have hmk : ms[k]? = some (matchB o x) := by rw [← hms]; exact ms_get hxk
      have em : xs.length - k = (xs.length - (k + 1)) + 1 := by omega
      have ek : IntKind.i64.wrap ((k : Int) + 1) = ((k + 1 : Nat) : Int) := by rw [w64] <;> omega
      rw [em] at o4
      rw [ek]
      refine ifT_intro (fun hb => ⟨⟨by omega, by omega⟩, ?_⟩) fun hb => ?_
      · rw [hb] at hmk
        refine (o4.ext.at_ hat1).cell (nats_get hnk) fun b of hr => ⟨_, hr, o.a, read_cell (o4.ext _ _ c17) rfl, ⟨by omega, by show (k : Int) < (xs.length : Int); omega⟩, ?_⟩
        refine storeK_one (o4.block List.mem_cons_self).1 (by rw [nats_length, List.length_append, List.length_take, List.length_replicate, Int.toNat_natCast, hz, hlen]; omega) ⟨xs.length - (k + 1), by omega, k + 1, by omega, rfl, rfl, ?_⟩
        have ev : IntKind.i64.wrap ((IntKind.i64.wrap ((n : Int) * o.a)).tdiv 100) = ((f n : Nat) : Int) := by
          rw [hf, hA]
          dsimp only
          rw [Int.toNat_natCast]
          have hA2 : A ≤ 100 := by omega
          have hmul : n * A ≤ 1000000000 * 100 := Nat.mul_le_mul hnb hA2
          rw [mN, w64 (n := ((n * A : Nat) : Int)) (by omega) (by omega)]
          have : ((n * A : Nat) : Int).tdiv 100 = ((n * A / 100 : Nat) : Int) := by rw [Int.ofNat_tdiv]; rfl
          rw [this, w64 (by omega) (by omega)]
        rw [ev, Nat.zero_add, Int.toNat_natCast, Nat.mul_one, nats_set, show f n = cond true (f n) 0 from rfl, zipM_step hmk hnk _ (by omega) hml]
        refine o4.change ?_
        rw [nats_length, List.length_append, List.length_take, List.length_replicate, hz, hlen]; omega
      · rw [hb] at hmk
        rw [zipM_none hmk hnk _ (by omega) hml] at o4
        exact ⟨xs.length - (k + 1), by omega, k + 1, by omega, rfl, rfl, o4⟩
    · have hkn : k = xs.length := by omega
      subst hkn
      rw [Nat.sub_self, List.replicate_zero, List.append_nil, List.take_of_length_le (by rw [hz, hlen]; exact Nat.le_refl _)] at o3
      refine hj _ _ ((hJ _ _).2 ⟨zipM ms left f, o3.ext, (o3.new_ (sz := 1) (cs := nats (zipM ms left f)) List.mem_cons_self).of_ext e1, o3.at_ List.mem_cons_self, by omega, ?_, ?_⟩)
      · exact under_le (zipM_under hml (f := f) (fun n => by rw [hf]; dsimp only; have : n * o.a.toNat ≤ n * 100 := Nat.mul_le_mul_left n (by omega); omega)) hle
      · unfold cutsF percF
        rw [if_pos hk1, ← hf, hg, Int.toNat_natCast]
  · refine joinK_intro J hj fun j2 hj2 => ?_
    have hk3 : o.kind = 3 := by have := ho.kind; omega
    refine ifT_dec (fun _ => ?_) fun h => absurd hk3 h
    refine ⟨o.key, o.kind, o.a, o.b, o.tg, o.least, o.most, o.group, o.alone, o.order, o.from_, o.to_, by rw [read_block (o2.ext _ _ c17) (by show 0 + 12 ≤ 12; decide)]; rfl, ?_⟩
    refine spec122 hI (o2.ext.itms its1) (o2.ext.at_ hat1) hlen hx ho hk3 (o2.ext.at_ hot1) hotl hle fun s' h5 e5 a5 nw5 => ⟨s', rfl, hj2 _ _ ((hJ _ _).2 ⟨_, o2.ext.trans e5, nw5.of_ext (e1.trans o2.ext), a5, ?_, ?_, ?_⟩)⟩
    · rw [giveAll_length, List.length_replicate]; exact hfew
    · have hu := freeF_under (ms := xs.map (matchB o)) (ks := xs.map fun x => x.many.toNat) (left := left) o.a.toNat o.b.toNat 0
      unfold freeF mostF at hu
      rw [if_pos (.inl rfl), hlen] at hu
      exact under_le hu hle
    · unfold cutsF freeF
      rw [if_neg hk1, if_neg hk2, hms, hlen, hg, Int.toNat_natCast]
end
end Go.Proofs.YtfemminjhecocaaGreatDoorVc
-- BpSpec4
namespace Go.Proofs.YtfemminjhecocaaGreatDoorVc
open Go.Proofs.Tryz (prog)
open Go.Proofs.YtfemminjhecocaaGreatDoorShares
section
variable {I : Calls} {Q : Post} {h : Heap} {l1 : Sl} {xs : List Itm}
/-- A copy of offers is brought in order. -/
theorem sorted2 (hI : Closed' prog Pm I) {h0 : Heap} {L : List Ow} {s : Sl} {os : List Offr} (o : Owns h0 h L) (hl : s.len = os.length) (hsl : h.sl 12 s = some (rows offC os)) (hlen : os.length ≤ 12) {F : Sl → T}
    (hQ : ∀ s' ys h', ys.Perm os → ys.Pairwise leO → Owns h0 h' ((12, s', rows offC ys) :: L) → F s' h') :
    I 58 [.one (.slice 12 s)] (fun cs h' => ∃ l : Sl, cs = [.one (.slice 12 l)] ∧ I 59 [.one (.slice 12 l), .one (.func (some (60, [])))] (fun cs h'' => cs = [] ∧ F l h'') h') h := by
  refine hI.go _ _ (den58 I s _) ?_
  refine ifT_intro (fun h1 => ⟨_, rfl, spec59 hI (by decide) (insF_none (by decide) (by decide) (by decide) ⟨rfl, rfl, rfl, ?_⟩)⟩) fun h1 => ⟨rows offC os, hsl, by omega, newK_intro fun i h' hn he => ⟨_, rfl, ?_⟩⟩
  · have ha : s.a = none := by simpa using h1
    have hx : os = [] := by
      unfold Heap.sl at hsl
      rw [ha] at hsl
      simp only at hsl
      cases os with
      | nil => rfl
      | cons x xs => simp [rows, offC] at hsl
    subst hx
    exact hQ _ [] h (List.Perm.refl _) .nil (o.none_ 12)
  · have o1 : Owns h0 h' ((12, ⟨some (i, 0), s.len⟩, rows offC os) :: L) := he ▸ o.new hn (by rw [rows_length offC_length, hl])
    refine spec59 hI (by show s.len ≤ 12; omega) (ins_spec off_fits (v := fun x => V.agg (offC x)) (blk := i) (h := h') (P := []) (xs := os) (S := []) (mem := fun _ => True) (lt := ltO) leO rfl (by simpa using hl) (by rw [he, set_eq]; simp [rws, rows, V.cells]) rfl (by show (s.len : Int) = _; rw [hl]; simp) (by show s.len < 1000000000; omega) (fun _ _ => trivial) (off_tells2 hI i) ?_ (fun a b c _ _ _ h1 h2 => leO_trans a b c h1 h2) fun ys h2 hp hpw hps => ⟨rfl, rfl, rfl, ?_⟩)
    · exact List.pairwise_of_forall fun a b => ⟨fun h => ltO_asymm h, fun h => h⟩
    · refine hQ _ ys h2 hp hpw ?_
      have hps' : PSg h' i (fun x => V.agg (offC x)) ys h2 := by simpa using hps
      exact Owns.psg (vk := offK) off_fits (xs := os) o1 hps' hp.length_eq
theorem lose_zero : ∀ l : List Nat, lose l (List.replicate l.length 0) = l
  | [] => rfl
  | x :: l => by
    have := lose_zero l
    unfold lose at this ⊢
    rw [List.length_cons, List.replicate_succ, List.zipWith_cons_cons, this]; rfl
theorem zero_under (l : List Nat) : Under (List.replicate l.length 0) l := ⟨by simp, fun i hi => by
  unfold at_
  rw [List.getD_eq_getElem?_getD, List.getElem?_replicate]
  split <;> simp⟩
theorem spec64u (hI : Closed' prog Pm I) {sl : Sl} {ship0 : Int} {ship : Nat} {left : List Nat} {o : Offr} (its : Itms h l1 xs) (hat : At h 1 sl (nats left)) (hlen : left.length = xs.length) (hx : OkL xs) (ho : OkO o) (hot : At h 1 o.tg (strs o.tags)) (hotl : o.tags.length < 1000) (hle : ∀ n ∈ left, n ≤ 1000000000) (hship : ship ≤ 1000000000000)
    (hQ : ∀ s' h' loss c, Ext h h' → At h' 1 s' (nats loss) → New h s' → Under loss left → c ≤ ship → applyF xs o left ship = (lose left loss, ship - c, loss.sum + c) → Q [.one (.slice 1 s'), int (c : Nat)] h') :
    I 64 [.agg (offC o), .agg [.slice 4 l1, .int .i64 ship0], .one (.slice 1 sl), int ship] Q h := by
  refine spec64 hI its hat hlen hx ho hot hotl hle hship (fun s' h' hk e a nw => ?_) fun s' h' hk e a nw => ?_
  · refine hQ s' h' _ _ e a nw (by rw [← hlen]; exact zero_under left) (by unfold capN; split <;> omega) ?_
    unfold applyF
    rw [if_pos hk, ← hlen, lose_zero]
    simp
  · refine hQ s' h' _ 0 e a nw (cutsF_under ho (by rw [List.length_map, hlen])) (Nat.zero_le _) ?_
    unfold applyF
    rw [if_neg hk]
    rfl
theorem spec17 (hI : Closed' prog Pm I) {s : Sl} {os : List Offr} {ship t : Int} (hs : Offs h s os) (hsl : h.sl 12 s = some (rows offC os)) (hlen : os.length ≤ 12) (its : Itms h l1 xs) (hfew : xs.length ≤ 4)
    (hbad : ∀ h', Ext h h' → errP os xs ship t ≠ 0 → Q [.agg [.slice 1 ⟨none, 0⟩, .int .i64 0, .slice 2 ⟨none, 0⟩, .int .i64 0], int (errP os xs ship t)] h')
    (hQ : ∀ s1 s2 zs h', errP os xs ship t = 0 → Ext h h' → zs.Perm os → zs.Pairwise leO → At h' 1 s1 (nats (applyAll xs zs (lines0 xs) ship.toNat []).1) → At h' 2 s2 (rows cutC (applyAll xs zs (lines0 xs) ship.toNat []).2.2) →
      Q [.agg [.slice 1 s1, .int .i64 ((applyAll xs zs (lines0 xs) ship.toNat []).2.1 : Nat), .slice 2 s2, .int .i64 (((applyAll xs zs (lines0 xs) ship.toNat []).1.sum + (applyAll xs zs (lines0 xs) ship.toNat []).2.1 : Nat) : Int)], int 0] h') : I 17 [.one (.slice 12 s), .agg [.slice 4 l1, .int .i64 ship], int t] Q h := by
  have hil := its.len
  refine hI.go _ _ (den17 I s l1 ship t Q) ?_
  refine spec55 hI hs fun h1 e1 => ⟨_, rfl, ?_⟩
  refine spec56 hI (e1.itms its) fun h2 e2 => ⟨_, rfl, newK_intro fun i11 h3 hn3 he3 => ?_⟩
  have e3 : Ext h h3 := (e1.trans e2).trans (he3 ▸ Ext.new hn3)
  refine spec54 hI (s := ⟨some (i11, 0), 2⟩) (a := errO os) (b := errK xs ship) ⟨rfl, .inr ?_⟩ ⟨_, rfl, ifT_intro (fun hb => ?_) fun hb => ?_⟩
  · show h3.read i11 0 2 = _
    rw [read_block (ro := false) (cs := ints [errO os, errK xs ship]) (by rw [he3, set_eq]; rfl) (by simp [ints])]
    rfl
  · have hb := nd hb
    have e : errP os xs ship t = if errO os = 0 then errK xs ship else errO os := by
      have hA : errA os xs ship t = if errO os = 0 then errK xs ship else errO os := by
        unfold errA
        by_cases h5 : errO os = 0
        · rw [if_pos h5] at hb ⊢; rw [if_neg (by omega), if_pos hb]
        · rw [if_neg h5] at hb ⊢; rw [if_pos h5]
      unfold errP
      rw [if_pos (by rw [hA]; exact hb), hA]
    have := hbad h3 e3 (by rw [e]; exact hb)
    rw [e] at this; exact this
  have hb := nd' hb
  have hO : errO os = 0 := by
    by_cases h5 : errO os = 0
    · exact h5
    · rw [if_neg h5] at hb; exact absurd h5 hb
  have hK : errK xs ship = 0 := by
    rw [if_pos hO] at hb; exact Decidable.of_not_not hb
  obtain ⟨hO1, hO2⟩ := errO_ok hO
  obtain ⟨hK1, hK2, hK3, hK4⟩ := errK_ok hK
  have hL : OkL xs := ⟨hK2, hfew, errK_tags hK⟩
  have htags : ∀ o ∈ os, o.tags.length < 1000 := errO_tags hO
  refine spec14 hI ⟨_, rfl, ifT_intro (fun hm => ?_) fun hm => ?_⟩
  · have hm : ¬ momentP t := by have := nd hm; exact this
    have e : errP os xs ship t = 1 := by
      have hA : errA os xs ship t = 1 := by unfold errA; rw [if_neg (by rw [hO]; simp), if_neg (by rw [hK]; simp), if_pos hm]
      unfold errP; rw [if_pos (by rw [hA]; decide), hA]
    have := hbad h3 e3 (by rw [e]; decide)
    rw [e] at this; exact this
  have hm : momentP t := by have := nd' hm; exact Decidable.of_not_not this
  have hA : errA os xs ship t = 0 := by unfold errA; rw [if_neg (by rw [hO]; simp), if_neg (by rw [hK]; simp), if_neg (by simpa using hm)]
  refine spec57 hI (e3.offs hs) (by omega) ⟨_, rfl, ifT_intro (fun hT => ?_) fun hT => ?_⟩
  · have hT := nb hT
    have e : errP os xs ship t = 16 := by unfold errP; rw [if_neg (by rw [hA]; simp), if_pos (by rw [tog_same]; exact hT)]
    have := hbad h3 e3 (by rw [e]; decide)
    rw [e] at this; exact this
  have hT := nb' hT
  rw [← tog_same] at hT
  obtain ⟨sh, hsh⟩ := Int.eq_ofNat_of_zero_le hK3
  subst hsh
  rw [Int.toNat_natCast] at hQ
  refine sorted2 hI (Owns.nil h3) hs.len (e3.sl hsl) hlen fun s4 zs h4 hzp hzs o4 => ?_
  have hzl : zs.length = os.length := hzp.length_eq
  have hs4 : s4.len = zs.length := (o4.at_ List.mem_cons_self).rowsLen offC_length (by decide)
  have hzo : ∀ o ∈ zs, o ∈ os := fun o ho => hzp.mem_iff.1 ho
  have hll : (lines0 xs).length = xs.length := by simp [lines0]
  have hall := fun k => applyAll_under (items := xs) (zs.take k) (lines0 xs) sh [] (fun o ho => hO2 o (hzo o (List.mem_of_mem_take ho))) hll
  have hl0 := lines0_le hK2
  have its3 := e3.itms its
  have hs3 := e3.offs hs
  refine loopK_intro (fun (a : (Sl × Int × Sl × Int × PUnit) × Int) h' m => ∃ k : Nat, k ≤ xs.length ∧ a.2 = (k : Int) ∧ a.1.2.1 = (sh : Int) ∧ a.1.2.2.1 = ⟨none, 0⟩ ∧ m = xs.length - k ∧ Owns h3 h' [(1, a.1.1, nats ((lines0 xs).take k)), (12, s4, rows offC zs)]) xs.length
    ⟨0, by omega, rfl, rfl, rfl, rfl, o4.none_ 1⟩ ?_
  rintro ⟨⟨ln, nsh, lc, n4, u⟩, y⟩ h5 m ⟨k, hk1, rfl, rfl, rfl, rfl, o5⟩
  dsimp only [uncur] at o5 ⊢
  refine ifT_dec (fun hlt => ⟨⟨by omega, hlt⟩, ?_⟩) fun hge => ?_
  · have hkl : k < xs.length := by omega
    have hxk := List.getElem?_eq_getElem hkl
    generalize xs[k] = x at hxk
    have hok2 := line_le (hK2 x (List.mem_of_getElem? hxk))
    have hsll : ln.len = k := by
      have := o5.slen (s := ln) (cs := nats ((lines0 xs).take k)) List.mem_cons_self
      rw [nats_length, List.length_take, hll] at this; omega
    refine (o5.ext.itms its3).at_.row itmC_length (by decide) hxk fun b of hr => ⟨x.key, x.cents, x.many, x.tg, hr, ?_⟩
    refine appendTo_owns (m := 0) o5 rfl (by omega) (by simp) fun j h6 o6 => ⟨xs.length - (k + 1), by omega, k + 1, by omega, by show IntKind.i64.wrap _ = _; rw [w64 (by omega) (by omega)]; rfl, rfl, rfl, rfl, ?_⟩
    have e : nats ((lines0 xs).take (k + 1)) = nats ((lines0 xs).take k) ++ [.int .i64 (IntKind.i64.wrap (x.cents * x.many))] := by
      have h5 : (lines0 xs)[k]? = some (x.cents * x.many).toNat := by unfold lines0; rw [List.getElem?_map, hxk]; rfl
      rw [List.take_add_one, h5, w64 (by omega) (by omega)]
      unfold nats
      rw [List.map_append]
      simp
      omega
    rw [e]; exact o6
  have hkn : k = xs.length := by omega
  subst hkn
  rw [List.take_of_length_le (by omega)] at o5
  refine loopK_intro (fun (a : (Sl × Int × Sl × Int × PUnit) × (Sl × Int × Sl × Int × PUnit) × Int) h' m => ∃ k, k ≤ zs.length ∧ a.2.2 = ((k : Nat) : Int) ∧ m = zs.length - k ∧ (∀ o ∈ zs.take k, fitsF o xs sh t = 0) ∧ a.2.1.1 = ln ∧ a.2.1.2.1 = (((applyAll xs (zs.take k) (lines0 xs) sh []).2.1 : Nat) : Int) ∧
      Owns h3 h' [(1, ln, nats (applyAll xs (zs.take k) (lines0 xs) sh []).1), (2, a.2.1.2.2.1, rows cutC (applyAll xs (zs.take k) (lines0 xs) sh []).2.2), (12, s4, rows offC zs)]) zs.length
    ⟨0, by omega, rfl, rfl, by simp, rfl, rfl, by rw [List.take_zero]; exact (o5.none_ 2).perm (List.Perm.swap _ _ _)⟩ ?_
  rintro ⟨⟨j1, j2, j3, j4, ju⟩, ⟨lp, nsh, lc, n4, u⟩, y⟩ h6 m ⟨k, hk2, rfl, rfl, hft, rfl, rfl, o6⟩
  dsimp only [uncur] at o6 ⊢
  obtain ⟨hu1, hu2, hu3, hu4⟩ := hall k
  have hr1 := under_le hu1 hl0
  have hr0 : (applyAll xs (zs.take k) (lines0 xs) sh []).1.length = xs.length := hu1.1.trans hll
  have hln := o6.slen (s := lp) (cs := nats (applyAll xs (zs.take k) (lines0 xs) sh []).1) List.mem_cons_self
  rw [nats_length, hr0] at hln
  refine ifT_dec (fun hlt => ⟨⟨by omega, hlt⟩, ?_⟩) fun hge => ?_
  · have hkl : k < zs.length := by omega
    have hok3 := List.getElem?_eq_getElem hkl
    generalize zs[k] = o at hok3
    have hom := hzo o (List.mem_of_getElem? hok3)
    have et : zs.take (k + 1) = zs.take k ++ [o] := by rw [List.take_add_one, hok3]; rfl
    refine (o6.at_ (sz := 12) (s := s4) (cs := rows offC zs) (by simp)).row offC_length (by decide) hok3 fun b of hr => ⟨o.key, o.kind, o.a, o.b, o.tg, o.least, o.most, o.group, o.alone, o.order, o.from_, o.to_, hr, ?_⟩
    refine spec15 hI (o := o) (hO2 o hom) (o6.ext.at_ (hs3.tg o hom)) (htags o hom) (o6.ext.itms its3) hK2 hK1 hL.tg fun h7 e7 => ⟨_, rfl, ifT_intro (fun hne => ?_) fun hne => ?_⟩
    · have hF : (os.any fun o => decide (fitsF o xs sh t ≠ 0)) = true := List.any_eq_true.2 ⟨o, hom, by simpa using nd hne⟩
      have e : errP os xs sh t = 11 := by unfold errP; rw [if_neg (by rw [hA]; simp), if_neg (by rw [hT]; simp), if_pos hF]
      have := hbad h7 (e3.trans (o6.ext.trans e7)) (by rw [e]; decide)
      rw [e] at this; exact this
    have hfo : fitsF o xs sh t = 0 := Decidable.of_not_not (nd' hne)
    have o7 := o6.mono e7
    refine spec64u hI (o7.ext.itms its3) (o7.at_ (sz := 1) (s := lp) List.mem_cons_self) hr0 hL (hO2 o hom) (o7.ext.at_ (hs3.tg o hom)) (htags o hom) hr1 (by omega) fun s' h8 loss c e8 a8 nw hund hc hap => ⟨_, _, rfl, ?_⟩
    have hlc := (o6.at_ (sz := 2) (s := lc) (cs := rows cutC (applyAll xs (zs.take k) (lines0 xs) sh []).2.2) (by simp)).rowsLen cutC_length (by decide)
    have happ : applyAll xs (zs.take (k + 1)) (lines0 xs) sh [] = ((applyF xs o (applyAll xs (zs.take k) (lines0 xs) sh []).1 (applyAll xs (zs.take k) (lines0 xs) sh []).2.1).1, (applyF xs o (applyAll xs (zs.take k) (lines0 xs) sh []).1 (applyAll xs (zs.take k) (lines0 xs) sh []).2.1).2.1,
      (applyAll xs (zs.take k) (lines0 xs) sh []).2.2 ++ [(o.key, (applyF xs o (applyAll xs (zs.take k) (lines0 xs) sh []).1 (applyAll xs (zs.take k) (lines0 xs) sh []).2.1).2.2)]) := by rw [et]; exact applyAll_snoc xs o _ _ _ _
    rw [hap] at happ
    rw [hu4, List.length_take] at hlc
    obtain ⟨r, hrr⟩ : ∃ r, applyAll xs (zs.take k) (lines0 xs) sh [] = r := ⟨_, rfl⟩
    rw [hrr] at o7 hu1 hu2 hr1 hr0 hund hc happ ⊢
    obtain ⟨left, sh2, cuts⟩ := r
    simp only at o7 hu1 hu2 hr1 hr0 hund hc happ ⊢
    have hcl : loss.length = left.length := hund.1
    have o8 := o7.mono e8
    have hlb := under_le hund hr1
    have hsum := sum_le hlb
    have hsl : s'.len = loss.length := by rw [a8.len1, nats_length]
    refine loopK_intro (fun (a : Int) h' m => ∃ j : Nat, j ≤ loss.length ∧ a = (j : Int) ∧ m = loss.length - j ∧ At h' 1 s' (nats loss) ∧ Owns h3 h' [(1, lp, nats ((lose left loss).take j ++ left.drop j)), (2, lc, rows cutC cuts), (12, s4, rows offC zs)]) loss.length
      ⟨0, by omega, rfl, rfl, a8, by rw [List.take_zero, List.drop_zero, List.nil_append]; exact o8⟩ ?_
    rintro a h9 m ⟨j, hj1, rfl, rfl, a9, o9⟩
    refine ifT_dec (fun hlt2 => ⟨⟨by omega, hlt2⟩, ?_⟩) fun hge2 => ?_
    · have hkl1 : j < loss.length := by omega
      have hkl2 : j < left.length := by omega
      obtain ⟨d, hck, hcb1⟩ : ∃ d, loss[j]? = some d ∧ d ≤ 1000000000 := ⟨loss[j], List.getElem?_eq_getElem hkl1, hlb _ (List.getElem_mem hkl1)⟩
      obtain ⟨n, hnk, hnb⟩ : ∃ n, left[j]? = some n ∧ n ≤ 1000000000 := ⟨left[j], List.getElem?_eq_getElem hkl2, hr1 _ (List.getElem_mem hkl2)⟩
      have hcn : d ≤ n := by
        have := hund.2 j hkl1
        rwa [at_some hck, at_some hnk] at this
      obtain ⟨hs1, hs2⟩ := lose_step hcl hnk hck
      have hl3 : ((lose left loss).take j ++ left.drop j).length = left.length := by rw [List.length_append, List.length_take, lose_length hcl, List.length_drop]; omega
      obtain ⟨bb, hb, cb⟩ := o9.has (s := lp) (cs := nats ((lose left loss).take j ++ left.drop j)) (sz := 1) (by simp) (nats_ne (by omega))
      have hbh : h7 bb ≠ none := by
        obtain ⟨b', hb', cb'⟩ := o7.has (s := lp) (cs := nats left) (sz := 1) (by simp) (nats_ne (by omega))
        rw [hb] at hb'
        cases hb'
        rw [cb']; simp
      refine a9.cell (nats_get hck) fun b2 of2 hr2 => ⟨_, hr2, ⟨by omega, by omega⟩, ?_⟩
      refine (o9.at_ (sz := 1) (s := lp) (by simp)).cell (nats_get hs1) fun b2 of2 hr2 => ⟨_, hr2, ⟨by omega, by omega⟩, ?_⟩
      have ha : lp.a = some (bb, 0) := by rw [hb]
      refine derefK_intro ha ?_
      have ev : IntKind.i64.wrap ((n : Int) - (d : Int)) = ((n - d : Nat) : Int) := by rw [w64 (by omega) (by omega)]; omega
      rw [ev]
      refine storeK_one cb (by rw [nats_length, hl3, Int.toNat_natCast]; omega) ⟨loss.length - (j + 1), by omega, j + 1, by omega, by rw [w64 (by omega) (by omega)]; rfl, rfl, a9.set_new nw hbh, ?_⟩
      rw [Nat.zero_add, Int.toNat_natCast, Nat.mul_one, nats_set, hs2]
      rw [hb] at o9 ⊢
      exact o9.change (n' := lp.len) (sz' := 1) (cs' := nats ((lose left loss).take (j + 1) ++ left.drop (j + 1))) (by rw [nats_length, ← hs2, List.length_set, hl3]; omega)
    · have hjn : j = loss.length := by omega
      subst hjn
      rw [List.take_of_length_le (by rw [lose_length hcl]; omega), List.drop_of_length_le (by omega), List.append_nil] at o9
      refine spec65 hI a9 (by omega) (by omega) ⟨_, rfl, ?_⟩
      have ev : IntKind.i64.wrap (((loss.sum : Nat) : Int) + (c : Int)) = ((loss.sum + c : Nat) : Int) := by rw [w64 (by omega) (by omega)]; omega
      have ev2 : IntKind.i64.wrap ((sh2 : Int) - (c : Int)) = ((sh2 - c : Nat) : Int) := by rw [w64 (by omega) (by omega)]; omega
      rw [ev, ev2]
      refine appendTo_owns (m := 0) (o9.perm (List.Perm.swap _ _ _)) rfl (by rw [hlc]; simp; omega) (by simp) fun b2 h10 o10 => ⟨zs.length - (k + 1), by omega, k + 1, by omega, by show IntKind.i64.wrap _ = _; rw [w64 (by omega) (by omega)]; rfl, rfl, ?_, by trivial, by rw [happ], ?_⟩
      · intro o' ho'
        rw [et] at ho'
        rcases List.mem_append.1 ho' with h | h
        · exact hft o' h
        · rw [List.mem_singleton.1 h]; exact hfo
      · rw [happ]
        simp only
        rw [rows_append]
        have e9 : rows cutC [(o.key, loss.sum + c)] = cutC (o.key, loss.sum + c) := by simp [rows]
        rw [e9]
        exact o10.perm (List.Perm.swap _ _ _)
  · have hkn : k = zs.length := by omega
    subst hkn
    rw [List.take_length] at o6 hu1 hu2 hu3 hu4 hr1 hr0 hft
    have hF : (os.any fun o => decide (fitsF o xs sh t ≠ 0)) = false := by
      cases h2 : (os.any fun o => decide (fitsF o xs sh t ≠ 0)) with
      | false => rfl
      | true =>
        obtain ⟨o, ho, h3⟩ := List.any_eq_true.1 h2
        exact absurd (hft o (hzp.mem_iff.2 ho)) (of_decide_eq_true h3)
    have e : errP os xs sh t = 0 := by unfold errP; rw [if_neg (by rw [hA]; simp), if_neg (by rw [hT]; simp), if_neg (by rw [hF]; simp)]
    have hat := o6.at_ (sz := 1) (s := lp) (cs := nats (applyAll xs zs (lines0 xs) sh []).1) List.mem_cons_self
    have hsum := sum_le hr1
    rw [hr0] at hsum
    refine spec65 hI hat (by omega) (by omega) ⟨_, rfl, ?_⟩
    have ew : IntKind.i64.wrap ((((applyAll xs zs (lines0 xs) sh []).1.sum : Nat) : Int) + (((applyAll xs zs (lines0 xs) sh []).2.1 : Nat) : Int)) = (((applyAll xs zs (lines0 xs) sh []).1.sum + (applyAll xs zs (lines0 xs) sh []).2.1 : Nat) : Int) := by
      rw [w64 (by omega) (by omega)]; omega
    simp only [List.take_length]
    rw [ew]
    exact hQ lp lc zs h6 e (e3.trans o6.ext) hzp hzs hat (o6.at_ (by simp))
end
end Go.Proofs.YtfemminjhecocaaGreatDoorVc
