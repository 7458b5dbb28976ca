/- Vc, part 29: several blocks of one's own. -/
import Derived.Test.YtadakbmoanbcgaaGreatDoorVcFrame
set_option linter.unusedSimpArgs false
set_option linter.unusedVariables false
namespace Go.Proofs.YtadakbmoanbcgaaGreatDoorVc

/-- Element size, header, cells. -/
abbrev Ow := Nat × Sl × List Cell
def OwnB (h0 h : Heap) (p : Ow) : Prop := p.2.1.len * p.1 = p.2.2.length ∧ ((p.2.1.a = none ∧ p.2.2 = []) ∨ ∃ i, p.2.1.a = some (i, 0) ∧ h0 i = none ∧ h i = some (.cells false p.2.2))
def OwApart (p q : Ow) : Prop := ∀ i, p.2.1.a = some (i, 0) → q.2.1.a ≠ some (i, 0)
theorem OwApart.symm {p q : Ow} (h : OwApart p q) : OwApart q p := fun i h1 h2 => h i h2 h1

structure Owns (h0 h : Heap) (l : List Ow) : Prop where
  ext : Ext h0 h
  all : ∀ p ∈ l, OwnB h0 h p
  apart : l.Pairwise OwApart

theorem Owns.nil (h : Heap) : Owns h h [] := ⟨Ext.refl h, (fun _ h => by cases h), List.Pairwise.nil⟩
theorem Owns.mono {h0 h h' : Heap} {l : List Ow} (o : Owns h0 h l) (he : Ext h h') : Owns h0 h' l :=
  ⟨o.ext.trans he, fun p hp => ⟨(o.all p hp).1, (o.all p hp).2.imp id fun ⟨i, a, b, c⟩ => ⟨i, a, b, he _ _ c⟩⟩, o.apart⟩
/-- One that is nothing yet. -/
theorem Owns.none_ {h0 h : Heap} {l : List Ow} (o : Owns h0 h l) (sz : Nat) : Owns h0 h ((sz, ⟨none, 0⟩, []) :: l) :=
  ⟨o.ext, fun p hp => by
    rcases List.mem_cons.1 hp with rfl | hp
    · exact ⟨by simp, .inl ⟨rfl, rfl⟩⟩
    · exact o.all p hp, List.pairwise_cons.2 ⟨(fun q _ i h => by cases h), o.apart⟩⟩
/-- A new block. -/
theorem Owns.new {h0 h : Heap} {l : List Ow} (o : Owns h0 h l) {i sz n : Nat} {cs : List Cell} (hi : h i = none) (hn : n * sz = cs.length) : Owns h0 (h.set i (.cells false cs)) ((sz, ⟨some (i, 0), n⟩, cs) :: l) := by
  have o' := o.mono (Ext.new (o := .cells false cs) hi)
  refine ⟨o'.ext, fun p hp => ?_, List.pairwise_cons.2 ⟨fun q hq k hk hk2 => ?_, o.apart⟩⟩
  · rcases List.mem_cons.1 hp with rfl | hp
    · exact ⟨hn, .inr ⟨i, rfl, o.ext.none hi, set_eq _ _ _⟩⟩
    · exact o'.all p hp
  · cases hk
    rcases (o.all q hq).2 with ⟨h1, _⟩ | ⟨k, h1, _, h3⟩
    · rw [h1] at hk2; cases hk2
    · rw [h1] at hk2; cases hk2; rw [hi] at h3; cases h3
theorem Owns.perm {h0 h : Heap} {l l' : List Ow} (o : Owns h0 h l) (hp : l.Perm l') : Owns h0 h l' :=
  ⟨o.ext, fun p hm => o.all p (hp.mem_iff.2 hm), (hp.pairwise_iff (fun h => h.symm)).1 o.apart⟩
theorem Owns.tail {h0 h : Heap} {l : List Ow} {p : Ow} (o : Owns h0 h (p :: l)) : Owns h0 h l := ⟨o.ext, fun q hq => o.all q (by simp [hq]), (List.pairwise_cons.1 o.apart).2⟩

theorem Owns.block {h0 h : Heap} {l : List Ow} (o : Owns h0 h l) {sz i n : Nat} {cs : List Cell} (hm : (sz, ⟨some (i, 0), n⟩, cs) ∈ l) : h i = some (.cells false cs) ∧ n * sz = cs.length := by
  obtain ⟨h1, h2 | ⟨k, h2, _, h3⟩⟩ := o.all _ hm
  · simp at h2
  · cases h2; exact ⟨h3, h1⟩
theorem Owns.at_ {h0 h : Heap} {l : List Ow} (o : Owns h0 h l) {sz : Nat} {s : Sl} {cs : List Cell} (hm : (sz, s, cs) ∈ l) : At h sz s cs := by
  obtain ⟨h1, h2 | ⟨k, h2, _, h3⟩⟩ := o.all _ hm
  · exact ⟨h1, .inl h2.2⟩
  · refine ⟨h1, .inr ?_⟩
    unfold Heap.sl
    simp only at h2 h1 h3
    rw [h2]
    show h.read k 0 _ = _
    rw [read_block h3 (by rw [h1]; omega), h1, List.drop_zero, List.take_length]

/-- The first block changes; nothing else. -/
theorem Owns.change {h0 h : Heap} {l : List Ow} {sz i n n' sz' : Nat} {cs cs' : List Cell} (o : Owns h0 h ((sz, ⟨some (i, 0), n⟩, cs) :: l)) (hn : n' * sz' = cs'.length) : Owns h0 (h.set i (.cells false cs')) ((sz', ⟨some (i, 0), n'⟩, cs') :: l) := by
  obtain ⟨h1, h2 | ⟨k, h2, h3, h4⟩⟩ := o.all _ List.mem_cons_self
  · simp at h2
  · cases h2
    obtain ⟨a1, a2⟩ := List.pairwise_cons.1 o.apart
    refine ⟨fun j x hx => ?_, fun p hp => ?_, List.pairwise_cons.2 ⟨fun q hq k' hk' => ?_, a2⟩⟩
    · have : j ≠ i := fun e => by subst e; rw [h3] at hx; cases hx
      rw [set_ne _ _ this]; exact o.ext _ _ hx
    · rcases List.mem_cons.1 hp with rfl | hp2
      · exact ⟨hn, .inr ⟨i, rfl, h3, set_eq _ _ _⟩⟩
      · obtain ⟨b1, b2 | ⟨k', b2, b3, b4⟩⟩ := o.all p (by simp [hp2])
        · exact ⟨b1, .inl b2⟩
        · have : k' ≠ i := fun e => a1 p hp2 i rfl (e ▸ b2)
          exact ⟨b1, .inr ⟨k', b2, b3, by rw [set_ne _ _ this]; exact b4⟩⟩
    · cases hk'; exact a1 q hq i rfl

theorem watch_intro : ∀ {ws : List Nat} {h h' : Heap} {p : Prop}, (∀ i ∈ ws, h' i = h i) → p → watch ws h h' p
  | [], _, _, _, _, hp => hp
  | i :: ws, _, _, _, hw, hp => ⟨hw i (by simp), watch_intro (fun j hj => hw j (by simp [hj])) hp⟩

theorem appendK_owns {h0 h : Heap} {ws : List Nat} {l : List Ow} {sz bytes : Nat} {s : Sl} {xs : List Cell} {m : Nat} {new : List Cell} {k : Sl → T} (o : Owns h0 h ((sz, s, xs) :: l)) (hm : m * sz = new.length) (hb : (s.len + m) * bytes ≤ 140737488355328)
    (hw : ∀ i ∈ ws, h0 i ≠ none ∨ ∃ q ∈ l, q.2.1.a = some (i, 0)) (hk : ∀ j h', Owns h0 h' ((sz, ⟨some (j, 0), s.len + m⟩, xs ++ new) :: l) → k ⟨some (j, 0), s.len + m⟩ h') : appendK ws sz bytes s m new k h := by
  have hat := o.at_ List.mem_cons_self
  obtain ⟨a1, a2⟩ := List.pairwise_cons.1 o.apart
  have hown := o.all _ List.mem_cons_self
  -- what is not the block of s stays
  have keep : ∀ j, h j = none → ∀ i x, h i = some x → s.a ≠ some (i, 0) → ((h.drop s).set j (.cells false (xs ++ new))) i = some x := fun j hj i x hx hne => by
    have h1 : i ≠ j := fun e => by subst e; rw [hj] at hx; cases hx
    rw [set_ne _ _ h1]
    unfold Heap.drop
    rcases hown.2 with ⟨ha, _⟩ | ⟨k, ha, _, _⟩
    · simp only at ha
      rw [ha]; exact hx
    · simp only at ha
      rw [ha]
      have : i ≠ k := fun e => by subst e; exact hne ha
      show h.del k i = _
      rw [del_ne _ this]; exact hx
  have old : ∀ i x, h0 i = some x → s.a ≠ some (i, 0) := fun i x hx e => by
    rcases hown.2 with ⟨ha, _⟩ | ⟨k, ha, h3, _⟩
    · simp only at ha; rw [ha] at e; cases e
    · simp only at ha; rw [ha] at e; cases e; rw [h3] at hx; cases hx
  refine ⟨xs, ?_, ?_, hb, fun j hj => ?_⟩
  · rcases hown.2 with ⟨ha, hx⟩ | ⟨k, ha, _, h3⟩
    · simp only at ha hx; unfold Heap.sl; rw [ha, hx]
    · simp only at ha h3
      unfold Heap.sl
      rw [ha]
      show h.read k 0 _ = _
      have := hown.1
      simp only at this
      rw [read_block h3 (by rw [this]; omega), this, List.drop_zero, List.take_length]
  · unfold Heap.mine
    rcases hown.2 with ⟨ha, _⟩ | ⟨k, ha, _, h3⟩
    · simp only at ha; rw [ha]; trivial
    · simp only at ha; rw [ha]; exact ⟨_, h3⟩
  · refine watch_intro (fun i hi => ?_) (hk j _ ⟨fun i x hx => keep j hj i x (o.ext _ _ hx) (old i x hx), fun p hp => ?_, List.pairwise_cons.2 ⟨fun q hq k' hk' hk2 => ?_, a2⟩⟩)
    · rcases hw i hi with h1 | ⟨q, hq, hqa⟩
      · cases hx : h0 i with
        | none => exact absurd hx h1
        | some x => rw [keep j hj i x (o.ext _ _ hx) (old i x hx), o.ext _ _ hx]
      · rcases (o.all q (by simp [hq])).2 with ⟨ha, _⟩ | ⟨k', ha, _, h4⟩
        · rw [hqa] at ha; cases ha
        · rw [hqa] at ha
          cases ha
          rw [keep j hj i _ h4 (fun e => a1 q hq i e hqa), h4]
    · rcases List.mem_cons.1 hp with rfl | hp
      · refine ⟨?_, .inr ⟨j, rfl, o.ext.none hj, set_eq _ _ _⟩⟩
        have := hown.1
        simp only at this
        show (s.len + m) * sz = _
        rw [Nat.add_mul, this, hm, List.length_append]
      · obtain ⟨b1, b2 | ⟨k', b2, b3, b4⟩⟩ := o.all p (by simp [hp])
        · exact ⟨b1, .inl b2⟩
        · exact ⟨b1, .inr ⟨k', b2, b3, keep j hj k' _ b4 (fun e => a1 p hp k' e b2)⟩⟩
    · cases hk'
      rcases (o.all q (by simp [hq])).2 with ⟨ha, _⟩ | ⟨k', ha, _, h4⟩
      · rw [hk2] at ha; cases ha
      · rw [hk2] at ha; cases ha; rw [hj] at h4; cases h4
theorem appendTo_owns {h0 h : Heap} {ws : List Nat} {l : List Ow} {sz bytes : Nat} {s : Sl} {xs : List Cell} {m : Nat} {new : List Cell} {k : Sl → T} (o : Owns h0 h ((sz, s, xs) :: l)) (hm : (m + 1) * sz = new.length) (hb : (s.len + (m + 1)) * bytes ≤ 140737488355328)
    (hw : ∀ i ∈ ws, h0 i ≠ none ∨ ∃ q ∈ l, q.2.1.a = some (i, 0)) (hk : ∀ j h', Owns h0 h' ((sz, ⟨some (j, 0), s.len + (m + 1)⟩, xs ++ new) :: l) → k ⟨some (j, 0), s.len + (m + 1)⟩ h') : appendTo ws sz bytes s (m + 1) new k h := by
  unfold appendTo
  exact appendK_owns o hm hb hw hk

end Go.Proofs.YtadakbmoanbcgaaGreatDoorVc
