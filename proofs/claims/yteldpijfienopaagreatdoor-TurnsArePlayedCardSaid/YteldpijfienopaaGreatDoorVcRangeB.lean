/- Rules for a range over a map whose entries are known. -/
import Derived.Test.YteldpijfienopaaGreatDoorVcOwns
import Derived.Test.YteldpijfienopaaGreatDoorVcGridB
set_option linter.unusedSimpArgs false
set_option linter.unusedVariables false
namespace Go.Proofs.YteldpijfienopaaGreatDoorVc
theorem stamped_of {α : Type} (φ : α → V × V) : ∀ (dm : List α) (fs : List ((V × V) × Nat)), fs.map (·.1) = dm.map φ → ∃ fc : List (α × Nat), fs = fc.map (fun q => (φ q.1, q.2)) ∧ fc.map (·.1) = dm
  | [], [], _ => ⟨[], rfl, rfl⟩
  | a :: dm, f :: fs, h => by
    simp only [List.map_cons, List.cons.injEq] at h
    obtain ⟨fc, h1, h2⟩ := stamped_of φ dm fs h.2
    refine ⟨(a, f.2) :: fc, ?_, by simp [h2]⟩
    rw [List.map_cons, ← h1, ← h.1]
  | [], _ :: _, h => by simp at h
  | _ :: _, [], h => by simp at h
def leftC {α : Type} (fc : List (α × Nat)) (seen : List Nat) : List (α × Nat) := fc.filter fun q => !seen.contains q.2
theorem leftC_nil {α : Type} (fc : List (α × Nat)) : leftC fc [] = fc := by unfold leftC; simp
theorem leftF_map {α : Type} (φ : α → V × V) (fc : List (α × Nat)) (seen : List Nat) : leftF (fc.map fun q => (φ q.1, q.2)) seen = (leftC fc seen).map fun q => (φ q.1, q.2) := by
  unfold leftF leftC
  rw [List.filter_map]
  rfl
theorem perm_out {α : Type} : ∀ {l : List (α × Nat)} {q : α × Nat}, (l.map (·.2)).Nodup → q ∈ l → l.Perm (q :: l.filter fun r => !decide (r.2 = q.2))
  | a :: l, q, hn, hq => by
    simp only [List.map_cons, List.nodup_cons] at hn
    rcases List.mem_cons.1 hq with rfl | hq
    · rw [List.filter_cons]
      simp only [decide_true, Bool.not_true, Bool.false_eq_true, if_false]
      have : l.filter (fun r => !decide (r.2 = q.2)) = l := List.filter_eq_self.2 fun r hr => by
        simp only [Bool.not_eq_true', decide_eq_false_iff_not]
        exact fun e => hn.1 (e ▸ List.mem_map_of_mem hr)
      rw [this]
    · have hne : ¬ a.2 = q.2 := fun e => hn.1 (e ▸ List.mem_map_of_mem hq)
      rw [List.filter_cons]
      simp only [hne, decide_false, Bool.not_false, if_true]
      exact ((perm_out hn.2 hq).cons a).trans (List.Perm.swap _ _ _)
theorem left_step {α : Type} {fc : List (α × Nat)} {seen : List Nat} {q : α × Nat} (hn : (fc.map (·.2)).Nodup) (hq : q ∈ leftC fc seen) : (leftC fc seen).Perm (q :: leftC fc (seen ++ [q.2])) := by
  have e : leftC fc (seen ++ [q.2]) = (leftC fc seen).filter fun r => !decide (r.2 = q.2) := by
    unfold leftC
    rw [List.filter_filter]
    refine List.filter_congr fun r _ => ?_
    simp [List.contains_eq_mem]
    rw [Bool.eq_iff_iff]
    simp [and_comm]
  rw [e]
  refine perm_out ?_ hq
  unfold leftC
  exact List.Nodup.sublist (List.Sublist.map _ List.filter_sublist) hn

/-- An object that is nobody's changes. -/
theorem Owns.setAny {h0 h : Heap} {L : List Ow} {i : Nat} {o' : Obj} (o : Owns h0 h L) (hb : h0 i = none) (hi : ∀ cs, h i ≠ some (.cells false cs)) : Owns h0 (h.set i o') L where
  ext j x hx := by
    have : j ≠ i := fun e => by subst e; rw [hb] at hx; cases hx
    rw [set_ne _ _ this]; exact o.ext _ _ hx
  all p hp := by
    obtain ⟨b1, b2 | ⟨k, b2, b3, b4⟩⟩ := o.all p hp
    · exact ⟨b1, .inl b2⟩
    · have : k ≠ i := fun e => by subst e; exact hi _ b4
      exact ⟨b1, .inr ⟨k, b2, b3, by rw [set_ne _ _ this]; exact b4⟩⟩
  apart := o.apart
section
variable {α : Type} {φ : α → V × V} {h : Heap} {m j ck : Nat} {fc : List (α × Nat)} {seen : List Nat}
abbrev fcF (φ : α → V × V) (fc : List (α × Nat)) : List ((V × V) × Nat) := fc.map fun q => (φ q.1, q.2)
theorem nextK_in (hj : h j = some (.iter m seen ck)) (hm : h m = some (.mapF (fcF φ fc) ck)) (hn : (fc.map (·.2)).Nodup) {kEnd : T} {kOne : V → V → T}
    (hEnd : leftC fc seen = [] → kEnd (h.set m (.map ((fc.map (·.1)).map φ))))
    (hOne : ∀ q, q ∈ fc → (leftC fc seen).Perm (q :: leftC fc (seen ++ [q.2])) → kOne (φ q.1).1 (φ q.1).2 (h.set j (.iter m (seen ++ [q.2]) ck))) : nextK j kEnd kOne h := by
  refine ⟨m, _, ck, seen, hj, hm, fun hnil => ?_, fun e he => ?_⟩
  · rw [leftF_map φ] at hnil
    have := hEnd (by simpa using hnil)
    have e : (fcF φ fc).map (·.1) = (fc.map (·.1)).map φ := by simp [fcF]
    rw [e]; exact this
  · rw [leftF_map φ] at he
    obtain ⟨q, hq, rfl⟩ := List.mem_map.1 he
    exact hOne q (List.mem_filter.1 hq).1 (left_step hn hq)
theorem entryK_in {q : α × Nat} (hj : h j = some (.iter m (seen ++ [q.2]) ck)) (hm : h m = some (.mapF (fcF φ fc) ck)) (hq : q ∈ fc) {k : V → V → T} (hk : k (φ q.1).1 (φ q.1).2 h) : entryK j k h :=
  ⟨m, _, ck, seen, (φ q.1, q.2), hj, hm, List.mem_map_of_mem (f := fun q : α × Nat => (φ q.1, q.2)) hq, hk⟩
theorem rangeK_in {dm : List α} (hm : h m = some (.map (dm.map φ))) {k : Nat → T}
    (hk : ∀ (fc : List (α × Nat)) (ck j : Nat), fc.map (·.1) = dm → (fc.map (·.2)).Nodup → h j = none → j ≠ m → k j ((h.set m (.mapF (fcF φ fc) ck)).set j (.iter m [] ck))) : rangeK m k h := by
  refine ⟨_, hm, fun fs ck hfs hnd j hj => ?_⟩
  obtain ⟨fc, rfl, hfc⟩ := stamped_of φ dm fs hfs
  exact hk fc ck j hfc (by rw [List.map_map] at hnd; exact hnd) hj (fun e => by subst e; rw [hm] at hj; cases hj)
end
end Go.Proofs.YteldpijfienopaaGreatDoorVc
namespace Go.Proofs.YteldpijfienopaaGreatDoorVc
/-- append, and what else stands there. -/
theorem appendTo_keep2 {h0 h : Heap} {l : List Ow} {sz bytes : Nat} {s : Sl} {xs : List Cell} {m : Nat} {new : List Cell} {k : Sl → T} (o : Owns h0 h ((sz, s, xs) :: l)) (hm : (m + 1) * sz = new.length) (hb : (s.len + (m + 1)) * bytes ≤ 140737488355328)
    (hk : ∀ j h', (∀ i x, h i = some x → (∀ cs, x ≠ .cells false cs) → h' i = some x) → Owns h0 h' ((sz, ⟨some (j, 0), s.len + (m + 1)⟩, xs ++ new) :: l) → k ⟨some (j, 0), s.len + (m + 1)⟩ h') : appendTo [] sz bytes s (m + 1) new k h := by
  let B : Heap := fun i => match h i with
    | some (.cells false _) => h0 i
    | o => o
  have hB : ∀ i x, h i = some x → (∀ cs, x ≠ .cells false cs) → B i = some x := fun i x hx hn => by
    show (match h i with | some (.cells false _) => h0 i | o => o) = some x
    rw [hx]
    split
    · rename_i cs e; cases e; exact absurd rfl (hn cs)
    · rfl
  have e0 : Ext B h := fun i x hx => by
    have hx' : (match h i with | some (.cells false _) => h0 i | o => o) = some x := hx
    split at hx'
    · exact o.ext _ _ hx'
    · exact hx'
  have e1 : Ext h0 B := fun i x hx => by
    have := o.ext _ _ hx
    show (match h i with | some (.cells false _) => h0 i | o => o) = some x
    split
    · exact hx
    · rename_i c
      rw [this]
  have oB : Owns B h ((sz, s, xs) :: l) := ⟨e0, fun p hp => by
    obtain ⟨b1, b2 | ⟨i, b2, b3, b4⟩⟩ := o.all p hp
    · exact ⟨b1, .inl b2⟩
    · refine ⟨b1, .inr ⟨i, b2, ?_, b4⟩⟩
      show (match h i with | some (.cells false _) => h0 i | o => o) = none
      rw [b4]; exact b3, o.apart⟩
  refine appendTo_owns oB hm hb (by simp) fun j h' o' => hk j h' (fun i x hx hn => o'.ext _ _ (hB i x hx hn)) ⟨e1.trans o'.ext, fun p hp => ?_, o'.apart⟩
  obtain ⟨b1, b2 | ⟨i, b2, b3, b4⟩⟩ := o'.all p hp
  · exact ⟨b1, .inl b2⟩
  · exact ⟨b1, .inr ⟨i, b2, e1.none b3, b4⟩⟩
end Go.Proofs.YteldpijfienopaaGreatDoorVc
