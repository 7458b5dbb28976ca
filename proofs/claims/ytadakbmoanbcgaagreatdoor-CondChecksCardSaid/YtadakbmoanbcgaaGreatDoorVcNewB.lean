/- Slices whose blocks are new; a heap without some of its blocks. -/
import Derived.Test.YtadakbmoanbcgaaGreatDoorVcOwns
set_option linter.unusedSimpArgs false
set_option linter.unusedVariables false
namespace Go.Proofs.YtadakbmoanbcgaaGreatDoorVc
/-- The block of a slice was not there before. -/
def New (h : Heap) (s : Sl) : Prop := ∀ j o, s.a = some (j, o) → h j = none
theorem New.of_ext {h h' : Heap} {s : Sl} (e : Ext h h') (n : New h' s) : New h s := fun j o ha => by
  cases hj : h j with
  | none => rfl
  | some x => have := e _ _ hj; rw [n j o ha] at this; cases this
theorem New.blk {h : Heap} {i n : Nat} (hi : h i = none) : New h ⟨some (i, 0), n⟩ := fun j o ha => by cases ha; exact hi
theorem Owns.new_ {h h' : Heap} {L : List Ow} {sz : Nat} {s : Sl} {cs : List Cell} (o : Owns h h' L) (hm : (sz, s, cs) ∈ L) : New h s := fun j b ha => by
  obtain ⟨_, h2 | ⟨k, h2, h3, _⟩⟩ := o.all _ hm
  · rw [h2.1] at ha; cases ha
  · simp only at h2; rw [h2] at ha; cases ha; exact h3
theorem Own.new_ {h h' : Heap} {sz : Nat} {s : Sl} {cs : List Cell} (o : Own h h' sz s cs) : New h s := fun j b ha => by
  rcases o.lies with ⟨h2, _⟩ | ⟨k, h2, h3, _⟩
  · rw [h2] at ha; cases ha
  · rw [h2] at ha; cases ha; exact h3
theorem New.sub {h : Heap} {s : Sl} (n : New h s) (sz l m : Nat) : New h (s.sub sz l m) := fun j o ha => by
  unfold Sl.sub at ha
  cases hs : s.a with
  | none => rw [hs] at ha; cases ha
  | some p => obtain ⟨i, o'⟩ := p; rw [hs] at ha; cases ha; exact n _ _ hs
/-- What lies in blocks that stay, stays. -/
theorem At.stay {h h' : Heap} {k : Nat} {s : Sl} {cs : List Cell} (a : At h k s cs) (hs : ∀ j o x, s.a = some (j, o) → h j = some x → h' j = some x) : At h' k s cs := by
  refine ⟨a.1, a.2.imp id fun h1 => ?_⟩
  unfold Heap.sl at h1 ⊢
  cases ha : s.a with
  | none => rw [ha] at h1; exact h1
  | some p =>
    obtain ⟨j, o⟩ := p
    rw [ha] at h1
    simp only at h1 ⊢
    unfold Heap.read at h1 ⊢
    cases hj : h j with
    | none => rw [hj] at h1; cases h1
    | some x => rw [hs j o x ha hj]; rw [hj] at h1; exact h1
/-- A heap without some blocks. -/
def Heap.less (h : Heap) (l : List Nat) : Heap := fun j => if j ∈ l then none else h j
theorem less_in {h : Heap} {l : List Nat} {j : Nat} (hj : j ∈ l) : h.less l j = none := by simp [Heap.less, hj]
theorem less_out {h : Heap} {l : List Nat} {j : Nat} (hj : j ∉ l) : h.less l j = h j := by simp [Heap.less, hj]
theorem less_ext (h : Heap) (l : List Nat) : Ext (h.less l) h := fun j o e => by
  by_cases hj : j ∈ l
  · rw [less_in hj] at e; cases e
  · rwa [less_out hj] at e
theorem At.less {h : Heap} {k : Nat} {s : Sl} {cs : List Cell} {l : List Nat} (a : At h k s cs) (hs : ∀ j o, s.a = some (j, o) → j ∉ l) : At (h.less l) k s cs := a.stay fun j o x ha hx => by rw [less_out (hs j o ha)]; exact hx
theorem Ext.less {h0 h : Heap} {l : List Nat} (e : Ext h0 h) (hl : ∀ j ∈ l, h0 j = Option.none) : Ext h0 (h.less l) := fun j o hj => by
  rw [less_out (fun hm => by rw [hl j hm] at hj; cases hj)]; exact e j o hj
end Go.Proofs.YtadakbmoanbcgaaGreatDoorVc
