/- Vc, part 19: regions that draw their order: the order's facts. -/
import Derived.Test.YtdjancoknephnaaDoorVcMain
set_option linter.unusedSimpArgs false
set_option linter.unusedVariables false
namespace Go.Proofs.YtdjancoknephnaaDoorVc

theorem edgeBinds_eq (e : Edge) : edgeBinds e = Region.binds .any e := by
  unfold edgeBinds Region.binds
  cases e.ground <;> rfl

theorem befOf_foldl (acc : List Nat) (i : Nat) : ∀ (l : List Edge) (s : Nat), (l.foldl (fun s e => match edgeBinds e with
    | true => s ||| (2 ^ e.on ||| acc.getD e.on 0)
    | false => s) s).testBit i = true ↔ (s.testBit i = true ∨ ∃ e ∈ l, edgeBinds e = true ∧ (i = e.on ∨ (acc.getD e.on 0).testBit i = true))
  | [], s => by simp
  | e :: l, s => by
    simp only [List.foldl_cons]
    rw [befOf_foldl acc i l]
    cases hb : edgeBinds e with
    | false =>
      simp only
      constructor
      · rintro (h | ⟨e', he', h⟩)
        · exact .inl h
        · exact .inr ⟨e', by simp [he'], h⟩
      · rintro (h | ⟨e', he', h1, h2⟩)
        · exact .inl h
        · rcases List.mem_cons.1 he' with rfl | he'
          · rw [hb] at h1; cases h1
          · exact .inr ⟨e', he', h1, h2⟩
    | true =>
      simp only [Nat.testBit_or, Bool.or_eq_true, Nat.testBit_two_pow, decide_eq_true_eq]
      constructor
      · rintro ((h | h | h) | ⟨e', he', h⟩)
        · exact .inl h
        · exact .inr ⟨e, by simp, hb, .inl h.symm⟩
        · exact .inr ⟨e, by simp, hb, .inr h⟩
        · exact .inr ⟨e', by simp [he'], h⟩
      · rintro (h | ⟨e', he', h1, h2⟩)
        · exact .inl (.inl h)
        · rcases List.mem_cons.1 he' with rfl | he'
          · rcases h2 with h2 | h2
            · exact .inl (.inr (.inl h2.symm))
            · exact .inl (.inr (.inr h2))
          · exact .inr ⟨e', he', h1, h2⟩

theorem befOf_bit (acc : List Nat) (o : Oper) (i : Nat) : (befOf acc o).testBit i = true ↔ ∃ e ∈ o.after, edgeBinds e = true ∧ (i = e.on ∨ (acc.getD e.on 0).testBit i = true) := by
  refine (befOf_foldl acc i o.after.toList 0).trans ?_
  simp

theorem befsGo_get : ∀ (os : List Oper) (acc : List Nat), (∃ l, befsGo os acc = acc ++ l ∧ l.length = os.length) ∧ ∀ i o, os[i]? = some o → (befsGo os acc).getD (acc.length + i) 0 = befOf ((befsGo os acc).take (acc.length + i)) o
  | [], acc => ⟨⟨[], by simp [befsGo], rfl⟩, fun i o h => by simp at h⟩
  | o :: os, acc => by
    obtain ⟨⟨l, hl, hlen⟩, ih⟩ := befsGo_get os (acc ++ [befOf acc o])
    refine ⟨⟨befOf acc o :: l, by simp [befsGo, hl], by simp [hlen]⟩, fun i o' h => ?_⟩
    simp only [befsGo]
    cases i with
    | zero =>
      simp at h; subst h
      rw [hl]
      simp
    | succ i =>
      have := ih i o' (by simpa using h)
      simp only [List.length_append, List.length_singleton] at this
      rw [show acc.length + (i + 1) = acc.length + 1 + i by omega]
      exact this

theorem befs_get (os : List Oper) (i : Nat) (o : Oper) (h : os[i]? = some o) : (befs os).getD i 0 = befOf ((befs os).take i) o := by
  have := (befsGo_get os []).2 i o h
  simpa [befs] using this
theorem befs_length (os : List Oper) : (befs os).length = os.length := by
  obtain ⟨⟨l, hl, hlen⟩, _⟩ := befsGo_get os []
  unfold befs
  rw [hl]; simpa using hlen

theorem bef_bit {os : List Oper} {j i : Nat} {o : Oper} (h : os[j]? = some o) : ((befs os).getD j 0).testBit i = true ↔ ∃ e ∈ o.after, edgeBinds e = true ∧ (i = e.on ∨ (e.on < j ∧ ((befs os).getD e.on 0).testBit i = true)) := by
  rw [befs_get os j o h, befOf_bit]
  constructor
  · rintro ⟨e, he, hb, h1 | h1⟩
    · exact ⟨e, he, hb, .inl h1⟩
    · refine ⟨e, he, hb, .inr ?_⟩
      by_cases hlt : e.on < j
      · refine ⟨hlt, ?_⟩
        simpa [List.getD_eq_getElem?_getD, List.getElem?_take, hlt] using h1
      · simp [List.getD_eq_getElem?_getD, List.getElem?_take, hlt] at h1
  · rintro ⟨e, he, hb, h1 | ⟨hlt, h1⟩⟩
    · exact ⟨e, he, hb, .inl h1⟩
    · exact ⟨e, he, hb, .inr (by simpa [List.getD_eq_getElem?_getD, List.getElem?_take, hlt] using h1)⟩

def Listed (listed : Array Bool) (i : Nat) : Prop := listed.getD i false = true
def Closed (ops : Array Oper) (listed : Array Bool) : Prop := ∀ j o, ops[j]? = some o → Listed listed j → ∀ e ∈ o.after, edgeBinds e = true → Listed listed e.on

theorem bef_listed {ops : Array Oper} {listed : Array Bool} (hc : Closed ops listed) : ∀ (j : Nat) (o : Oper), ops[j]? = some o → (∀ e ∈ o.after, edgeBinds e = true → Listed listed e.on) → ∀ i, ((befs ops.toList).getD j 0).testBit i = true → Listed listed i := by
  intro j
  induction j using Nat.strongRecOn with
  | _ j ih =>
    intro o ho he i hi
    obtain ⟨e, hm, hb, h1 | ⟨hlt, h1⟩⟩ := (bef_bit (by simpa using ho)).1 hi
    · rw [h1]; exact he e hm hb
    · have hj : j < ops.size := (Array.getElem?_eq_some_iff.1 ho).1
      have hoe : ops[e.on]? = some ops[e.on] := by simp [show e.on < ops.size by omega]
      exact ih e.on hlt _ hoe (fun e' hm' hb' => hc e.on _ hoe (he e hm hb) e' hm' hb') i h1

/-- Two operations that touch nothing of each other's. -/
def Apart (D : Draw) (i j : Nat) : Prop := ∀ t, ((D.wr.getD i 0).testBit t = true → (D.wr.getD j 0).testBit t = false ∧ (D.rd.getD j 0).testBit t = false) ∧ ((D.wr.getD j 0).testBit t = true → (D.rd.getD i 0).testBit t = false)

def isLoud (C : Ctx) (ops : List Oper) (i : Nat) : Prop := ∃ o, ops[i]? = some o ∧ loud C ops o = true

structure OkAt (C : Ctx) (ops : List Oper) (D : Draw) (seen : List Nat) (i : Nat) : Prop where
  pre : ∀ j, (D.b.getD i 0).testBit j = true → j ∈ seen
  new : i ∉ seen
  loud : ∀ l ∈ seen, isLoud C ops l → (D.b.getD i 0).testBit l = true
  apart : ∀ j ∈ seen, (D.b.getD i 0).testBit j = true ∨ Apart D i j
  lt : i < ops.length

theorem apart_of {a b c d : Nat} (h : ((a &&& (b ||| c)) ||| (b &&& d)).beq 0 = true) (t : Nat) : (a.testBit t = true → b.testBit t = false ∧ c.testBit t = false) ∧ (b.testBit t = true → d.testBit t = false) := by
  have h0 := Nat.eq_of_beq_eq_true h
  have h1 : ((a &&& (b ||| c)) ||| (b &&& d)).testBit t = false := by rw [h0]; simp
  simp only [Nat.testBit_or, Nat.testBit_and, Bool.or_eq_false_iff] at h1
  cases ha : a.testBit t <;> cases hb : b.testBit t <;> cases hc : c.testBit t <;> cases hd : d.testBit t <;> simp_all

theorem okOrder_split {C : Ctx} {ops : List Oper} {D : Draw} : ∀ (is seen : List Nat) (seenM : Nat) (louds : List Nat), okOrder C ops D is seen seenM louds = true →
    (∀ j, seenM.testBit j = true ↔ j ∈ seen) → (∀ l ∈ seen, isLoud C ops l → l ∈ louds) →
    (∀ p i q, is = p ++ i :: q → ∀ sn, (∀ j, j ∈ sn ↔ j ∈ p ∨ j ∈ seen) → OkAt C ops D sn i) ∧ (∀ i, i < ops.length → i ∈ is ∨ i ∈ seen)
  | [], seen, seenM, louds, h, hM, hL => by
    refine ⟨fun p i q e => (by cases p <;> cases e), fun i hi => .inr ?_⟩
    have := Nat.eq_of_beq_eq_true h
    rw [← hM, this, Nat.testBit_two_pow_sub_one]
    simpa using hi
  | x :: is, seen, seenM, louds, h, hM, hL => by
    simp only [okOrder] at h
    cases hx : ops[x]? with
    | none => rw [hx] at h; cases h
    | some o =>
      rw [hx] at h
      simp only [Bool.and_eq_true] at h
      obtain ⟨hst, hrest⟩ := h
      simp only [okStep, Bool.and_eq_true, Bool.not_eq_true', List.all_eq_true, Bool.or_eq_true] at hst
      obtain ⟨⟨⟨h1, h2⟩, h3⟩, h4⟩ := hst
      have hM' : ∀ j, (seenM ||| 2 ^ x).testBit j = true ↔ j ∈ x :: seen := fun j => by
        rw [Nat.testBit_or, Bool.or_eq_true, hM, Nat.testBit_two_pow, decide_eq_true_eq, List.mem_cons]
        constructor
        · rintro (h | h)
          · exact .inr h
          · exact .inl h.symm
        · rintro (h | h)
          · exact .inr h.symm
          · exact .inl h
      have hL' : ∀ l ∈ x :: seen, isLoud C ops l → l ∈ (match loud C ops o with
          | true => x :: louds
          | false => louds) := fun l hl hloud => by
        rcases List.mem_cons.1 hl with rfl | hl
        · obtain ⟨o', ho', hlo⟩ := hloud
          rw [hx] at ho'; cases ho'
          rw [hlo]; simp
        · have := hL l hl hloud
          cases loud C ops o
          · exact this
          · exact List.mem_cons_of_mem _ this
      obtain ⟨ih1, ih2⟩ := okOrder_split is (x :: seen) (seenM ||| 2 ^ x) _ hrest hM' hL'
      refine ⟨fun p i q e sn hsn => ?_, fun i hi => ?_⟩
      · cases p with
        | nil =>
          simp only [List.nil_append, List.cons.injEq] at e
          obtain ⟨rfl, rfl⟩ := e
          have hsn' : ∀ j, j ∈ sn ↔ j ∈ seen := fun j => by rw [hsn]; simp
          refine ⟨fun j hj => ?_, fun hm => ?_, fun l hl hloud => ?_, fun j hj => ?_, (List.getElem?_eq_some_iff.1 hx).1⟩
          · rw [hsn', ← hM]
            have hb := Nat.eq_of_beq_eq_true h1
            have : (D.b.getD x 0 &&& seenM).testBit j = true := by rw [hb]; exact hj
            rw [Nat.testBit_and, Bool.and_eq_true] at this
            exact this.2
          · rw [hsn', ← hM] at hm
            rw [h2] at hm; cases hm
          · exact h3 l (hL l ((hsn' l).1 hl) hloud)
          · rcases h4 j ((hsn' j).1 hj) with h5 | h5
            · exact .inl h5
            · exact .inr fun t => apart_of h5 t
        | cons y p =>
          simp only [List.cons_append, List.cons.injEq] at e
          obtain ⟨rfl, rfl⟩ := e
          refine ih1 p i q rfl sn fun j => ?_
          rw [hsn]
          simp only [List.mem_cons]
          constructor
          · rintro ((h | h) | h)
            · exact .inr (.inl h)
            · exact .inl h
            · exact .inr (.inr h)
          · rintro (h | h | h)
            · exact .inl (.inr h)
            · exact .inl (.inl h)
            · exact .inr h
      · rcases ih2 i hi with h | h
        · exact .inl (List.mem_cons_of_mem _ h)
        · rcases List.mem_cons.1 h with rfl | h
          · exact .inl (by simp)
          · exact .inr h

theorem okOrder_facts {C : Ctx} {ops : List Oper} {D : Draw} {c : List Nat} (h : okOrder C ops D c [] 0 [] = true) :
    (∀ p i q, c = p ++ i :: q → OkAt C ops D p i) ∧ (∀ i, i < ops.length → i ∈ c) := by
  obtain ⟨h1, h2⟩ := okOrder_split c [] 0 [] h (by simp) (by simp)
  exact ⟨fun p i q e => h1 p i q e p (by simp), fun i hi => (h2 i hi).resolve_right (by simp)⟩

end Go.Proofs.YtdjancoknephnaaDoorVc
