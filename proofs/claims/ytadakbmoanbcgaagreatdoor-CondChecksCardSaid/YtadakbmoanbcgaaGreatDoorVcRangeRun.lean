/- A range over a map, in the machine: an iterator anywhere in memory. -/
import Derived.Test.YtadakbmoanbcgaaGreatDoorVcSteps
import Derived.Laws.IdiomRangeMap
set_option linter.unusedSimpArgs false
set_option linter.unusedVariables false
namespace Go.Proofs.YtadakbmoanbcgaaGreatDoorVc

theorem run_getIter {P : Program} {w : World} {r : Nat} {m : Option Nat} {a b : Nat} {seen : Array Nat} (hb : w.heap[r]? = some (.mapIter m a seen b)) : (getObj r).run P w = .ok (.mapIter m a seen b) w := by simp [getObj, Sem.run, hb]
theorem run_setIter {P : Program} {w : World} {r : Nat} {m : Option Nat} {a b : Nat} {seen : Array Nat} (o' : Go.Obj) (hb : w.heap[r]? = some (.mapIter m a seen b)) : (setObj r o').run P w = .ok () { w with heap := w.heap.setIfInBounds r o' } := by simp [setObj, Sem.run, hb]

theorem run_choose {P : Program} (w : World) (n : Nat) (hn : 0 < n) : ∃ j w1, j < n ∧ (w1 = w ∨ w1 = w.drew) ∧ (choose (Question.mapNext n)).run P w = .ok j w1 := by
  by_cases hf : n ≤ 1
  · exact ⟨0, w, hn, .inl rfl, by simp [choose, Sem.run, Question.forced, hf]⟩
  · exact ⟨_, w.drew, Nat.mod_lt _ (by omega), .inr rfl, by
      simp only [choose, Sem.run, Question.forced, decide_eq_true_eq, hf, if_false, Question.cut]
      rfl⟩

theorem drew_heap (w : World) : w.drew.heap = w.heap := rfl

theorem run_next {P : Program} (w : World) (r bm ck : Nat) (seen : Array Nat) (es : Array MapEntry) (ty : TypeId) (hr : w.heap[r]? = some (.mapIter (some bm) ck seen ck)) (hb : w.heap[bm]? = some (.map es ck)) (hold : ∀ x ∈ es.toList, x.born < ck) :
    ((leftOf es seen).size = 0 ∧ (Instr.next (.pointer (some ⟨r, 0, none⟩)) false ty).run P w = .ok (.tuple #[.bool false]) w) ∨
    ∃ w1, (w1 = w ∨ w1 = w.drew) ∧ ∃ e ∈ (leftOf es seen).toList, (Instr.next (.pointer (some ⟨r, 0, none⟩)) false ty).run P w = .ok (.tuple #[.bool true, e.key, e.val]) { w1 with heap := w1.heap.setIfInBounds r (.mapIter (some bm) ck (seen.push e.born) ck) } := by
  simp only [Instr.next, Sem.run_bind, run_getIter hr, MapKept.run_getObj_map hb, Result.andThen, next_test_false seen es ck ck hold (Nat.le_refl _), Bool.false_eq_true, if_false]
  unfold leftOf
  have hmem : ∀ x ∈ (Array.filter (fun e => !seen.contains e.born) es).toList, x.born < ck := fun x hx => hold x (by simp at hx ⊢; exact hx.1)
  generalize Array.filter (fun e => !seen.contains e.born) es = L at hmem ⊢
  have e1 : L.filter (fun x => decide (x.born < ck)) = L := Array.filter_eq_self.2 (fun x hx => by simpa using hmem x (by simpa using hx))
  have e2 : L.filter (fun x => decide (x.born ≥ ck)) = #[] := by
    rw [Array.filter_eq_empty_iff]
    intro x hx
    have := hmem x (by simpa using hx)
    simp
    omega
  simp only [e1, e2, Array.append_empty]
  by_cases h0 : L.size = 0
  · left
    have : L = #[] := Array.eq_empty_of_size_eq_zero h0
    subst this
    refine ⟨rfl, ?_⟩
    simp [choose, Sem.run, Question.forced]
  · right
    have hne : L.isEmpty = false := by simp [Array.isEmpty, h0]
    simp only [hne, Bool.false_eq_true, if_false, Array.empty_append, Array.size_map]
    obtain ⟨j, w1, hj, hal, hrun⟩ := run_choose (P := P) w L.size (by omega)
    refine ⟨w1, hal, L[j], by simp, ?_⟩
    have hr1 : w1.heap[r]? = some (.mapIter (some bm) ck seen ck) := by
      rcases hal with rfl | rfl
      · exact hr
      · exact hr
    simp only [hrun, Array.getElem?_map, Array.getElem?_eq_getElem hj, Option.map_some, Sem.run_bind, run_setIter _ hr1, Result.andThen]
    rfl

theorem run_entry {P : Program} (w : World) (r bm ck : Nat) (seen : Array Nat) (es : Array MapEntry) (e : MapEntry) (hr : w.heap[r]? = some (.mapIter (some bm) ck (seen.push e.born) ck)) (hb : w.heap[bm]? = some (.map es ck)) (he : e ∈ es.toList) (hn : (es.toList.map (·.born)).Nodup) :
    (Instr.entry (.pointer (some ⟨r, 0, none⟩))).run P w = .ok (.tuple #[e.key, e.val]) w := by
  have hf : es.find? (·.born == e.born) = some e := by rw [← Array.find?_toList]; exact find_born e es.toList hn he
  simp only [Instr.entry, Sem.run_bind, run_getIter hr, MapKept.run_getObj_map hb, Result.andThen, Array.back?_push, bne_self_eq_false, Bool.false_eq_true, if_false, hf]
  rfl

section
variable {ρ : Rho} {h : Heap} {w : World}
/-- An object has turned, and so has what the abstract heap says of it. -/
theorem HR.turn {i : Nat} {o o' : Obj} {l : Loc} {ob ob' : Go.Obj} (hr : HR ρ h w) (hi : h i = some o) (hop : o.open = true) (hl : ρ i = some l) (hb : w.heap[l.block]? = some ob) (hnew : ObjR ρ l o' ob') :
    HR ρ (h.set i o') { w with heap := w.heap.setIfInBounds l.block ob' } ∧ Fr ρ h w ρ (h.set i o') { w with heap := w.heap.setIfInBounds l.block ob' } := by
  have hlt : l.block < w.heap.size := (Array.getElem?_eq_some_iff.1 hb).1
  have hhere : (w.heap.setIfInBounds l.block ob')[l.block]? = some ob' := by simp [hlt]
  have hthere : ∀ r', r' ≠ l.block → (w.heap.setIfInBounds l.block ob')[r']? = w.heap[r']? := fun r' hne => by simp [Ne.symm hne]
  refine ⟨⟨fun j o' l' hj hl' => ?_, fun j k l1 l2 hj hk hh hh' hbb => ?_, fun j l' hl' => by simpa using hr.dom j l' hl', ?_, hr.glob.set fun f => hnew.no_globs f⟩, ⟨rfl, rfl, rfl, by simp, fun _ _ h => h, fun _ _ h => .inl h, fun k hk hnw => ?_, fun k hk hw => ?_⟩⟩
  · by_cases e : j = i
    · subst e
      rw [Heap.set_same] at hj
      rw [hl] at hl'
      cases hj; cases hl'
      exact ⟨_, hhere, hnew⟩
    · rw [Heap.set_ne _ _ e] at hj
      obtain ⟨ob, h1, h2⟩ := hr.live j o' l' hj hl'
      have hne : l'.block ≠ l.block := fun eb => e (hr.inj j i l' l hl' hl (by rw [hj]; simp) (by rw [hi]; simp) eb)
      exact ⟨ob, by rw [← h1]; exact hthere _ hne, h2⟩
  · have hlive : ∀ k, (h.set i o') k ≠ none → h k ≠ none := fun k hk => by
      by_cases e : k = i
      · rw [e, hi]; simp
      · rw [Heap.set_ne _ _ e] at hk; exact hk
    exact hr.inj j k l1 l2 hj hk (hlive j hh) (hlive k hh') hbb
  · obtain ⟨N, hN⟩ := hr.fresh
    refine ⟨N, fun j hj => ?_⟩
    have e : j ≠ i := fun e => by have := (hN j hj).1; rw [e, hi] at this; cases this
    rw [Heap.set_ne _ _ e]
    exact hN j hj
  · exact hthere k fun e => hnw ⟨i, l, _, hl, e.symm, hi, hop⟩
  · obtain ⟨j, l', o', hl', hlb, ho', hop'⟩ := hw
    by_cases e : j = i
    · subst e; exact ⟨j, l', _, hl', hlb, hi, hop⟩
    · rw [Heap.set_ne _ _ e] at ho'; exact ⟨j, l', o', hl', hlb, ho', hop'⟩
/-- The same object, said otherwise. -/
theorem HR.recast {i : Nat} {o o' : Obj} {l : Loc} {ob : Go.Obj} (hr : HR ρ h w) (hi : h i = some o) (hop : o.open = true) (hl : ρ i = some l) (hb : w.heap[l.block]? = some ob) (hnew : ObjR ρ l o' ob) :
    HR ρ (h.set i o') w ∧ Fr ρ h w ρ (h.set i o') w := by
  have h1 := hr.turn (o' := o') (ob' := ob) hi hop hl hb hnew
  have hw : ({ w with heap := w.heap.setIfInBounds l.block ob } : World) = w := by
    have : w.heap.setIfInBounds l.block ob = w.heap := by
      apply Array.ext'
      rw [Array.toList_setIfInBounds]
      apply List.ext_getElem?
      intro j
      rw [List.getElem?_set]
      split
      · rename_i hj
        subst hj
        have : w.heap.toList[l.block]? = some ob := by simpa using hb
        rw [this]
        have hlt : l.block < w.heap.toList.length := (List.getElem?_eq_some_iff.1 this).1
        rw [if_pos hlt]
      · rfl
    rw [this]
  rw [hw] at h1
  exact h1

theorem EsR.zip {fs : List (V × V)} {ms : List MapEntry} (he : EsR ρ fs ms) : ∀ x ∈ fs.zip ms, VR ρ x.1.1 x.2.key ∧ VR ρ x.1.2 x.2.val := by
  induction fs generalizing ms with
  | nil => intro x hx; simp at hx
  | cons f fs ih =>
    cases ms with
    | nil => exact he.elim
    | cons m ms =>
      obtain ⟨h1, h2⟩ := he
      intro x hx
      rw [List.zip_cons_cons] at hx
      rcases List.mem_cons.1 hx with rfl | hx
      · exact h1
      · exact ih h2 x hx
/-- An entry of the machine's is one of the abstract heap's. -/
theorem EsR.of_mem {fs : List ((V × V) × Nat)} {ms : List MapEntry} (he : EsR ρ (fs.map (·.1)) ms) (hb : ms.map (·.born) = fs.map (·.2)) {m : MapEntry} (hm : m ∈ ms) : ∃ f ∈ fs, f.2 = m.born ∧ VR ρ f.1.1 m.key ∧ VR ρ f.1.2 m.val := by
  induction fs generalizing ms with
  | nil => cases ms with
    | nil => cases hm
    | cons _ _ => exact he.elim
  | cons f fs ih => cases ms with
    | nil => cases hm
    | cons m0 ms =>
      simp only [List.map_cons, List.cons.injEq] at hb
      obtain ⟨h1, h2⟩ := he
      rcases List.mem_cons.1 hm with rfl | hm
      · exact ⟨f, by simp, hb.1.symm, h1⟩
      · obtain ⟨g, hg, h3⟩ := ih h2 hb.2 hm
        exact ⟨g, by simp [hg], h3⟩
theorem EsR.to_mem {fs : List ((V × V) × Nat)} {ms : List MapEntry} (he : EsR ρ (fs.map (·.1)) ms) (hb : ms.map (·.born) = fs.map (·.2)) {f : (V × V) × Nat} (hf : f ∈ fs) : ∃ m ∈ ms, f.2 = m.born ∧ VR ρ f.1.1 m.key ∧ VR ρ f.1.2 m.val := by
  induction fs generalizing ms with
  | nil => cases hf
  | cons g fs ih => cases ms with
    | nil => exact he.elim
    | cons m0 ms =>
      simp only [List.map_cons, List.cons.injEq] at hb
      obtain ⟨h1, h2⟩ := he
      rcases List.mem_cons.1 hf with rfl | hf
      · exact ⟨m0, by simp, hb.1.symm, h1⟩
      · obtain ⟨m, hm, h3⟩ := ih h2 hb.2 hf
        exact ⟨m, by simp [hm], h3⟩
theorem left_mem {fs : List ((V × V) × Nat)} {ms : Array MapEntry} {seen : List Nat} {f : (V × V) × Nat} {m : MapEntry} (hf : f ∈ fs) (hm : m ∈ (leftOf ms seen.toArray).toList) (hb : f.2 = m.born) : f ∈ leftF fs seen := by
  obtain ⟨_, h2⟩ := mem_left hm
  unfold leftF
  rw [List.mem_filter]
  refine ⟨hf, ?_⟩
  rw [hb]
  simp at h2 ⊢
  exact h2
theorem left_nil {fs : List ((V × V) × Nat)} {ms : Array MapEntry} {seen : List Nat} (he : EsR ρ (fs.map (·.1)) ms.toList) (hb : ms.toList.map (·.born) = fs.map (·.2)) (h0 : (leftOf ms seen.toArray).size = 0) : leftF fs seen = [] := by
  unfold leftF
  rw [List.filter_eq_nil_iff]
  intro f hf
  obtain ⟨m, hm, h1, _⟩ := EsR.to_mem he hb hf
  have := all_seen ms seen.toArray h0 m hm
  rw [h1]
  simpa using this
end
end Go.Proofs.YtadakbmoanbcgaaGreatDoorVc
