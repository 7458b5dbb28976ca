/- Vc, part 27: what stays, what is new, what is built up. -/
import Derived.Test.YtadakbmoanbcgaaGreatDoorVcWord
set_option linter.unusedSimpArgs false
set_option linter.unusedVariables false
namespace Go.Proofs.YtadakbmoanbcgaaGreatDoorVc

/-- All that was there is there as it was. -/
def Ext (h h' : Heap) : Prop := ∀ i o, h i = some o → h' i = some o
theorem Ext.refl (h : Heap) : Ext h h := fun _ _ e => e
theorem Ext.trans {h h' h'' : Heap} (a : Ext h h') (b : Ext h' h'') : Ext h h'' := fun i o e => b i o (a i o e)
theorem Ext.new {h : Heap} {i : Nat} {o : Obj} (hi : h i = none) : Ext h (h.set i o) := fun j x e => by
  unfold Heap.set
  by_cases hj : j = i
  · subst hj; rw [hi] at e; cases e
  · rw [if_neg hj]; exact e
theorem Ext.set {h h' : Heap} {i : Nat} {o : Obj} (he : Ext h h') (hi : h i = none) : Ext h (h'.set i o) := fun j x e => by
  unfold Heap.set
  by_cases hj : j = i
  · subst hj; rw [hi] at e; cases e
  · rw [if_neg hj]; exact he j x e
theorem Ext.none {h h' : Heap} {i : Nat} (he : Ext h h') (hi : h' i = none) : h i = none := by
  cases hh : h i with
  | none => rfl
  | some o => have := he i o hh; rw [hi] at this; cases this
theorem Ext.read {h h' : Heap} (he : Ext h h') {b o n : Nat} {xs : List Cell} (hr : h.read b o n = some xs) : h'.read b o n = some xs := by
  unfold Heap.read at hr ⊢
  cases hb : h b with
  | none => rw [hb] at hr; cases hr
  | some ob => rw [he b ob hb]; rw [hb] at hr; exact hr
theorem Ext.sl {h h' : Heap} (he : Ext h h') {sz : Nat} {s : Sl} {xs : List Cell} (hr : h.sl sz s = some xs) : h'.sl sz s = some xs := by
  unfold Heap.sl at hr ⊢
  cases ha : s.a with
  | none => rw [ha] at hr; exact hr
  | some p => rw [ha] at hr; exact he.read hr
theorem Ext.at_ {h h' : Heap} (he : Ext h h') {sz : Nat} {s : Sl} {xs : List Cell} (hr : At h sz s xs) : At h' sz s xs := ⟨hr.1, hr.2.imp id he.sl⟩

@[simp] theorem set_eq (h : Heap) (i : Nat) (o : Obj) : h.set i o i = some o := by simp [Heap.set]
theorem set_set (h : Heap) (i : Nat) (o o' : Obj) : (h.set i o).set i o' = h.set i o' := by
  funext j
  simp only [Heap.set]
  split <;> rfl
theorem set_ne (h : Heap) {i j : Nat} (o : Obj) (hj : j ≠ i) : h.set i o j = h j := by simp [Heap.set, hj]
theorem del_ne (h : Heap) {i j : Nat} (hj : j ≠ i) : h.del i j = h j := by simp [Heap.del, hj]

/-- A whole block is read. -/
theorem read_block {h : Heap} {i : Nat} {ro : Bool} {cs : List Cell} (hi : h i = some (.cells ro cs)) {o n : Nat} (hn : o + n ≤ cs.length) : h.read i o n = some ((cs.drop o).take n) := by
  unfold Heap.read; rw [hi]; simp [hn]
theorem read_cell {h : Heap} {i : Nat} {ro : Bool} {cs : List Cell} (hi : h i = some (.cells ro cs)) {o : Nat} {c : Cell} (hc : cs[o]? = some c) : h.read i o 1 = some [c] := by
  have hlt : o < cs.length := by
    rcases Nat.lt_or_ge o cs.length with h' | h'
    · exact h'
    · rw [List.getElem?_eq_none h'] at hc; cases hc
  rw [read_block hi (by omega), List.take_one, List.head?_drop, hc]
  rfl

/-- A slice that is built up: it has its block, which was not there in h0. -/
structure Own (h0 h : Heap) (sz : Nat) (s : Sl) (xs : List Cell) : Prop where
  ext : Ext h0 h
  len : s.len * sz = xs.length
  lies : (s.a = none ∧ xs = []) ∨ ∃ i, s.a = some (i, 0) ∧ h0 i = none ∧ h i = some (.cells false xs)

theorem Own.nil (h : Heap) (sz : Nat) : Own h h sz ⟨none, 0⟩ [] := ⟨Ext.refl h, by simp, .inl ⟨rfl, rfl⟩⟩
theorem Own.sl {h0 h : Heap} {sz : Nat} {s : Sl} {xs : List Cell} (ho : Own h0 h sz s xs) : h.sl sz s = some xs := by
  rcases ho.lies with ⟨ha, rfl⟩ | ⟨i, ha, h1, h2⟩
  · unfold Heap.sl; rw [ha]
  · unfold Heap.sl
    rw [ha]
    show h.read i 0 _ = _
    rw [read_block h2 (by rw [ho.len]; omega), ho.len]
    simp
theorem Own.at_ {h0 h : Heap} {sz : Nat} {s : Sl} {xs : List Cell} (ho : Own h0 h sz s xs) : At h sz s xs := ⟨ho.len, .inr ho.sl⟩
theorem Own.mono {h0 h h' : Heap} {sz : Nat} {s : Sl} {xs : List Cell} (ho : Own h0 h sz s xs) (he : Ext h h') : Own h0 h' sz s xs :=
  ⟨ho.ext.trans he, ho.len, ho.lies.imp id fun ⟨i, h1, h2, h3⟩ => ⟨i, h1, h2, he _ _ h3⟩⟩

theorem appendK_own {h0 h : Heap} {sz bytes : Nat} {s : Sl} {xs : List Cell} {m : Nat} {new : List Cell} {k : Sl → T} (ho : Own h0 h sz s xs) (hm : m * sz = new.length) (hb : (s.len + m) * bytes ≤ 140737488355328)
    (hk : ∀ s' h', Own h0 h' sz s' (xs ++ new) → s'.len = s.len + m → k s' h') : appendK [] sz bytes s m new k h := by
  refine ⟨xs, ho.sl, ?_, hb, fun j hj => hk _ _ ⟨?_, ?_, .inr ⟨j, rfl, ?_, by simp⟩⟩ rfl⟩
  · unfold Heap.mine
    rcases ho.lies with ⟨ha, _⟩ | ⟨i, ha, _, h2⟩
    · rw [ha]; trivial
    · rw [ha]; exact ⟨_, h2⟩
  · intro i o e
    have hij : i ≠ j := fun h' => by subst h'; have := ho.ext _ _ e; rw [hj] at this; cases this
    rw [set_ne _ _ hij]
    unfold Heap.drop
    rcases ho.lies with ⟨ha, _⟩ | ⟨i', ha, h1, h2⟩
    · rw [ha]; exact ho.ext _ _ e
    · rw [ha]
      have : i ≠ i' := fun h' => by subst h'; rw [h1] at e; cases e
      show h.del i' i = _
      rw [del_ne _ this]
      exact ho.ext _ _ e
  · show (s.len + m) * sz = _
    rw [Nat.add_mul, ho.len, hm, List.length_append]
  · exact ho.ext.none hj

theorem appendTo_own {h0 h : Heap} {sz bytes : Nat} {s : Sl} {xs : List Cell} {m : Nat} {new : List Cell} {k : Sl → T} (ho : Own h0 h sz s xs) (hm : (m + 1) * sz = new.length) (hb : (s.len + (m + 1)) * bytes ≤ 140737488355328)
    (hk : ∀ s' h', Own h0 h' sz s' (xs ++ new) → s'.len = s.len + (m + 1) → k s' h') : appendTo [] sz bytes s (m + 1) new k h := by
  unfold appendTo
  exact appendK_own ho hm hb hk

/-- One cell is stored into a block. -/
theorem storeK_one {h : Heap} {i o : Nat} {cs : List Cell} {c : Cell} {k : T} (hi : h i = some (.cells false cs)) (ho : o < cs.length) (hk : k (h.set i (.cells false (cs.set o c)))) : storeK [] i o [c] k h :=
  ⟨cs, hi, by simp; omega, hk⟩

theorem At.sub {h : Heap} {sz : Nat} {s : Sl} {xs : List Cell} (hs : At h sz s xs) (l n : Nat) (hl : l ≤ n) (hn : n ≤ s.len) : At h sz (s.sub sz l n) ((xs.drop (l * sz)).take ((n - l) * sz)) := by
  obtain ⟨h1, h2⟩ := hs
  have h3 : n * sz ≤ xs.length := by rw [← h1]; exact Nat.mul_le_mul_right _ hn
  have h4 : l * sz ≤ n * sz := Nat.mul_le_mul_right _ hl
  have h5 : (n - l) * sz = n * sz - l * sz := Nat.sub_mul _ _ _
  refine ⟨by simp [Sl.sub]; omega, ?_⟩
  rcases h2 with rfl | h2
  · left; simp
  · right
    unfold Heap.sl Sl.sub at *
    cases ha : s.a with
    | none => rw [ha] at h2; cases h2; simp
    | some p =>
      obtain ⟨b, o⟩ := p
      rw [ha] at h2
      simp only at h2 ⊢
      rw [read_part h2 (by rw [h1]; omega)]

end Go.Proofs.YtadakbmoanbcgaaGreatDoorVc
