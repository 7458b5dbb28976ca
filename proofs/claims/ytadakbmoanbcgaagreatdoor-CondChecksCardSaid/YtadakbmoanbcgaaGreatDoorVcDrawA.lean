/- Vc, part 19: regions that draw their order: the order's facts. Vc, part 20: regions that draw their order: whatever the order, the formula's end holds. Vc, part 21: regions that draw their order: the steps. Vc, part 22: regions that draw their order: the whole. -/
import Derived.Test.YtadakbmoanbcgaaGreatDoorVcMain
set_option linter.unusedSimpArgs false
set_option linter.unusedVariables false
-- Draw1
namespace Go.Proofs.YtadakbmoanbcgaaGreatDoorVc

theorem edgeBinds_eq (e : Edge) : edgeBinds e = Region.binds .any e := by
  unfold edgeBinds Region.binds
  cases e.ground <;> rfl

theorem befOf_foldl (acc : List Nat) (i : Nat) : ∀ (l : List Edge) (s : Nat), (l.foldl (fun s e => match edgeBinds e with
    | true => s ||| (2 ^ e.on ||| acc.getD e.on 0)
    | false => s) s).testBit i = true ↔ (s.testBit i = true ∨ ∃ e ∈ l, edgeBinds e = true ∧ (i = e.on ∨ (acc.getD e.on 0).testBit i = true))
  | [], s => by simp
  | e :: l, s => by
    simp only [List.foldl_cons]
    rw [befOf_foldl acc i l]
    cases hb : edgeBinds e with
    | false =>
      simp only
      constructor
      · rintro (h | ⟨e', he', h⟩)
        · exact .inl h
        · exact .inr ⟨e', by simp [he'], h⟩
      · rintro (h | ⟨e', he', h1, h2⟩)
        · exact .inl h
        · rcases List.mem_cons.1 he' with rfl | he'
          · rw [hb] at h1; cases h1
          · exact .inr ⟨e', he', h1, h2⟩
    | true =>
      simp only [Nat.testBit_or, Bool.or_eq_true, Nat.testBit_two_pow, decide_eq_true_eq]
      constructor
      · rintro ((h | h | h) | ⟨e', he', h⟩)
        · exact .inl h
        · exact .inr ⟨e, by simp, hb, .inl h.symm⟩
        · exact .inr ⟨e, by simp, hb, .inr h⟩
        · exact .inr ⟨e', by simp [he'], h⟩
      · rintro (h | ⟨e', he', h1, h2⟩)
        · exact .inl (.inl h)
        · rcases List.mem_cons.1 he' with rfl | he'
          · rcases h2 with h2 | h2
            · exact .inl (.inr (.inl h2.symm))
            · exact .inl (.inr (.inr h2))
          · exact .inr ⟨e', he', h1, h2⟩

theorem befOf_bit (acc : List Nat) (o : Oper) (i : Nat) : (befOf acc o).testBit i = true ↔ ∃ e ∈ o.after, edgeBinds e = true ∧ (i = e.on ∨ (acc.getD e.on 0).testBit i = true) := by
  refine (befOf_foldl acc i o.after.toList 0).trans ?_
  simp

theorem befsGo_get : ∀ (os : List Oper) (acc : List Nat), (∃ l, befsGo os acc = acc ++ l ∧ l.length = os.length) ∧ ∀ i o, os[i]? = some o → (befsGo os acc).getD (acc.length + i) 0 = befOf ((befsGo os acc).take (acc.length + i)) o
  | [], acc => ⟨⟨[], by simp [befsGo], rfl⟩, fun i o h => by simp at h⟩
  | o :: os, acc => by
    obtain ⟨⟨l, hl, hlen⟩, ih⟩ := befsGo_get os (acc ++ [befOf acc o])
    refine ⟨⟨befOf acc o :: l, by simp [befsGo, hl], by simp [hlen]⟩, fun i o' h => ?_⟩
    simp only [befsGo]
    cases i with
    | zero =>
      simp at h; subst h
      rw [hl]
      simp
    | succ i =>
      have := ih i o' (by simpa using h)
      simp only [List.length_append, List.length_singleton] at this
      rw [show acc.length + (i + 1) = acc.length + 1 + i by omega]
      exact this

theorem befs_get (os : List Oper) (i : Nat) (o : Oper) (h : os[i]? = some o) : (befs os).getD i 0 = befOf ((befs os).take i) o := by
  have := (befsGo_get os []).2 i o h
  simpa [befs] using this
theorem befs_length (os : List Oper) : (befs os).length = os.length := by
  obtain ⟨⟨l, hl, hlen⟩, _⟩ := befsGo_get os []
  unfold befs
  rw [hl]; simpa using hlen

theorem bef_bit {os : List Oper} {j i : Nat} {o : Oper} (h : os[j]? = some o) : ((befs os).getD j 0).testBit i = true ↔ ∃ e ∈ o.after, edgeBinds e = true ∧ (i = e.on ∨ (e.on < j ∧ ((befs os).getD e.on 0).testBit i = true)) := by
  rw [befs_get os j o h, befOf_bit]
  constructor
  · rintro ⟨e, he, hb, h1 | h1⟩
    · exact ⟨e, he, hb, .inl h1⟩
    · refine ⟨e, he, hb, .inr ?_⟩
      by_cases hlt : e.on < j
      · refine ⟨hlt, ?_⟩
        simpa [List.getD_eq_getElem?_getD, List.getElem?_take, hlt] using h1
      · simp [List.getD_eq_getElem?_getD, List.getElem?_take, hlt] at h1
  · rintro ⟨e, he, hb, h1 | ⟨hlt, h1⟩⟩
    · exact ⟨e, he, hb, .inl h1⟩
    · exact ⟨e, he, hb, .inr (by simpa [List.getD_eq_getElem?_getD, List.getElem?_take, hlt] using h1)⟩

def Listed (listed : Array Bool) (i : Nat) : Prop := listed.getD i false = true
def Closed (ops : Array Oper) (listed : Array Bool) : Prop := ∀ j o, ops[j]? = some o → Listed listed j → ∀ e ∈ o.after, edgeBinds e = true → Listed listed e.on

theorem bef_listed {ops : Array Oper} {listed : Array Bool} (hc : Closed ops listed) : ∀ (j : Nat) (o : Oper), ops[j]? = some o → (∀ e ∈ o.after, edgeBinds e = true → Listed listed e.on) → ∀ i, ((befs ops.toList).getD j 0).testBit i = true → Listed listed i := by
  intro j
  induction j using Nat.strongRecOn with
  | _ j ih =>
    intro o ho he i hi
    obtain ⟨e, hm, hb, h1 | ⟨hlt, h1⟩⟩ := (bef_bit (by simpa using ho)).1 hi
    · rw [h1]; exact he e hm hb
    · have hj : j < ops.size := (Array.getElem?_eq_some_iff.1 ho).1
      have hoe : ops[e.on]? = some ops[e.on] := by simp [show e.on < ops.size by omega]
      exact ih e.on hlt _ hoe (fun e' hm' hb' => hc e.on _ hoe (he e hm hb) e' hm' hb') i h1

/-- Two operations that touch nothing of each other's. -/
def Apart (D : Draw) (i j : Nat) : Prop := ∀ t, ((D.wr.getD i 0).testBit t = true → (D.wr.getD j 0).testBit t = false ∧ (D.rd.getD j 0).testBit t = false) ∧ ((D.wr.getD j 0).testBit t = true → (D.rd.getD i 0).testBit t = false)

def isLoud (C : Ctx) (ops : List Oper) (i : Nat) : Prop := ∃ o, ops[i]? = some o ∧ loud C ops o = true

structure OkAt (C : Ctx) (ops : List Oper) (D : Draw) (seen : List Nat) (i : Nat) : Prop where
  pre : ∀ j, (D.b.getD i 0).testBit j = true → j ∈ seen
  new : i ∉ seen
  loud : ∀ l ∈ seen, isLoud C ops l → (D.b.getD i 0).testBit l = true
  apart : ∀ j ∈ seen, (D.b.getD i 0).testBit j = true ∨ Apart D i j
  lt : i < ops.length

theorem apart_of {a b c d : Nat} (h : ((a &&& (b ||| c)) ||| (b &&& d)).beq 0 = true) (t : Nat) : (a.testBit t = true → b.testBit t = false ∧ c.testBit t = false) ∧ (b.testBit t = true → d.testBit t = false) := by
  have h0 := Nat.eq_of_beq_eq_true h
  have h1 : ((a &&& (b ||| c)) ||| (b &&& d)).testBit t = false := by rw [h0]; simp
  simp only [Nat.testBit_or, Nat.testBit_and, Bool.or_eq_false_iff] at h1
  cases ha : a.testBit t <;> cases hb : b.testBit t <;> cases hc : c.testBit t <;> cases hd : d.testBit t <;> simp_all

theorem okOrder_split {C : Ctx} {ops : List Oper} {D : Draw} : ∀ (is seen : List Nat) (seenM : Nat) (louds : List Nat), okOrder C ops D is seen seenM louds = true →
    (∀ j, seenM.testBit j = true ↔ j ∈ seen) → (∀ l ∈ seen, isLoud C ops l → l ∈ louds) →
    (∀ p i q, is = p ++ i :: q → ∀ sn, (∀ j, j ∈ sn ↔ j ∈ p ∨ j ∈ seen) → OkAt C ops D sn i) ∧ (∀ i, i < ops.length → i ∈ is ∨ i ∈ seen)
  | [], seen, seenM, louds, h, hM, hL => by
    refine ⟨fun p i q e => (by cases p <;> cases e), fun i hi => .inr ?_⟩
    have := Nat.eq_of_beq_eq_true h
    rw [← hM, this, Nat.testBit_two_pow_sub_one]
    simpa using hi
  | x :: is, seen, seenM, louds, h, hM, hL => by
    simp only [okOrder] at h
    cases hx : ops[x]? with
    | none => rw [hx] at h; cases h
    | some o =>
      rw [hx] at h
      simp only [Bool.and_eq_true] at h
      obtain ⟨hst, hrest⟩ := h
      simp only [okStep, Bool.and_eq_true, Bool.not_eq_true', List.all_eq_true, Bool.or_eq_true] at hst
      obtain ⟨⟨⟨h1, h2⟩, h3⟩, h4⟩ := hst
      have hM' : ∀ j, (seenM ||| 2 ^ x).testBit j = true ↔ j ∈ x :: seen := fun j => by
        rw [Nat.testBit_or, Bool.or_eq_true, hM, Nat.testBit_two_pow, decide_eq_true_eq, List.mem_cons]
        constructor
        · rintro (h | h)
          · exact .inr h
          · exact .inl h.symm
        · rintro (h | h)
          · exact .inr h.symm
          · exact .inl h
      have hL' : ∀ l ∈ x :: seen, isLoud C ops l → l ∈ (match loud C ops o with
          | true => x :: louds
          | false => louds) := fun l hl hloud => by
        rcases List.mem_cons.1 hl with rfl | hl
        · obtain ⟨o', ho', hlo⟩ := hloud
          rw [hx] at ho'; cases ho'
          rw [hlo]; simp
        · have := hL l hl hloud
          cases loud C ops o
          · exact this
          · exact List.mem_cons_of_mem _ this
      obtain ⟨ih1, ih2⟩ := okOrder_split is (x :: seen) (seenM ||| 2 ^ x) _ hrest hM' hL'
      refine ⟨fun p i q e sn hsn => ?_, fun i hi => ?_⟩
      · cases p with
        | nil =>
          simp only [List.nil_append, List.cons.injEq] at e
          obtain ⟨rfl, rfl⟩ := e
          have hsn' : ∀ j, j ∈ sn ↔ j ∈ seen := fun j => by rw [hsn]; simp
          refine ⟨fun j hj => ?_, fun hm => ?_, fun l hl hloud => ?_, fun j hj => ?_, (List.getElem?_eq_some_iff.1 hx).1⟩
          · rw [hsn', ← hM]
            have hb := Nat.eq_of_beq_eq_true h1
            have : (D.b.getD x 0 &&& seenM).testBit j = true := by rw [hb]; exact hj
            rw [Nat.testBit_and, Bool.and_eq_true] at this
            exact this.2
          · rw [hsn', ← hM] at hm
            rw [h2] at hm; cases hm
          · exact h3 l (hL l ((hsn' l).1 hl) hloud)
          · rcases h4 j ((hsn' j).1 hj) with h5 | h5
            · exact .inl h5
            · exact .inr fun t => apart_of h5 t
        | cons y p =>
          simp only [List.cons_append, List.cons.injEq] at e
          obtain ⟨rfl, rfl⟩ := e
          refine ih1 p i q rfl sn fun j => ?_
          rw [hsn]
          simp only [List.mem_cons]
          constructor
          · rintro ((h | h) | h)
            · exact .inr (.inl h)
            · exact .inl h
            · exact .inr (.inr h)
          · rintro (h | h | h)
            · exact .inl (.inr h)
            · exact .inl (.inl h)
            · exact .inr h
      · rcases ih2 i hi with h | h
        · exact .inl (List.mem_cons_of_mem _ h)
        · rcases List.mem_cons.1 h with rfl | h
          · exact .inl (by simp)
          · exact .inr h

theorem okOrder_facts {C : Ctx} {ops : List Oper} {D : Draw} {c : List Nat} (h : okOrder C ops D c [] 0 [] = true) :
    (∀ p i q, c = p ++ i :: q → OkAt C ops D p i) ∧ (∀ i, i < ops.length → i ∈ c) := by
  obtain ⟨h1, h2⟩ := okOrder_split c [] 0 [] h (by simp) (by simp)
  exact ⟨fun p i q e => h1 p i q e p (by simp), fun i hi => (h2 i hi).resolve_right (by simp)⟩

end Go.Proofs.YtadakbmoanbcgaaGreatDoorVc
-- Draw2
namespace Go.Proofs.YtadakbmoanbcgaaGreatDoorVc

/-- An operation that the formula has dealt with: what it looked at, what it bound, which blocks it read. -/
structure Rec where
  i : Nat
  e : Env
  d : Env
  ids : List Nat

section
variable (C : Ctx) (ops : Array Oper) (al : Nat) (ρ0 : Rho) (h0 : Heap) (w0 : World) (Q : Exit → Act → World → Prop)

abbrev DD : Draw := drawOf C ops.toList
def Rd (i t : Nat) : Prop := ((DD C ops).rd.getD i 0).testBit t = true
def Wt (i t : Nat) : Prop := ((DD C ops).wr.getD i 0).testBit t = true
def Bf (i j : Nat) : Prop := ((DD C ops).b.getD i 0).testBit j = true

def Prom (r : Rec) (h : Heap) : Prop := ∀ h', (∀ i ∈ r.ids, h' i = h i) → ∀ ρ w σ a, Inv ρ0 h0 w0 C ρ h' w σ a → (∀ t, Rd C ops r.i t → σ t = Env.get r.e t) →
  (∀ d, (r.i, d) ∈ allocs C ops.toList → ∀ u off, σ u ≠ .ref d off) → wpOp C.P ops Q r.i (fun a' w' => Inv ρ0 h0 w0 C ρ h' w' (Env.over r.d σ) a') a w

/-- The frames chain: each record begins where the one before it ended. -/
inductive Chain : Env → List Rec → Env → Prop where
  | nil (e : Env) : Chain e [] e
  | cons {e e' : Env} {r : Rec} {rs : List Rec} (h : r.e.get = Env.get e) (hc : Chain (r.d ++ r.e) rs e') : Chain e (r :: rs) e'

variable {C ops al ρ0 h0 w0 Q}

theorem Prom.stable {r : Rec} {h h1 : Heap} (hp : Prom C ops ρ0 h0 w0 Q r h) (he : ∀ i ∈ r.ids, h1 i = h i) : Prom C ops ρ0 h0 w0 Q r h1 :=
  fun h' hh => hp h' fun i hi => (hh i hi).trans (he i hi)

theorem Chain.append {e e1 e2 : Env} {p q : List Rec} (h : Chain e p e1) (h' : Chain e1 q e2) : Chain e (p ++ q) e2 := by
  induction h with
  | nil => exact h'
  | cons hr _ ih => exact .cons hr (ih h')
theorem Chain.split {e e2 : Env} : ∀ {p q : List Rec}, Chain e (p ++ q) e2 → ∃ e1, Chain e p e1 ∧ Chain e1 q e2 := by
  intro p
  induction p generalizing e with
  | nil => intro q h; exact ⟨e, .nil e, h⟩
  | cons r p ih =>
    intro q h
    cases h with
    | cons hr hc => obtain ⟨e1, h1, h2⟩ := ih hc; exact ⟨e1, .cons hr h1, h2⟩
theorem Env.get_over_ne {t : Nat} {e : Env} : ∀ {d : Env}, (∀ p ∈ d, p.1 ≠ t) → Env.get (d ++ e) t = Env.get e t
  | [], _ => rfl
  | (u, x) :: d, h => by
    simp only [List.cons_append, Env.get]
    rw [beq_ne (h (u, x) (by simp))]
    exact Env.get_over_ne fun p hp => h p (by simp [hp])
theorem Chain.get {e e2 : Env} {q : List Rec} (h : Chain e q e2) {t : Nat} (hd : ∀ r ∈ q, ∀ p ∈ r.d, p.1 ≠ t) : Env.get e2 t = Env.get e t := by
  induction h with
  | nil => rfl
  | cons hr hc ih =>
    rename_i e e' r rs
    rw [ih fun r' hr' => hd r' (by simp [hr']), Env.get_over_ne (hd r (by simp)), hr]
theorem Chain.unique {e e1 e2 : Env} {q : List Rec} (h : Chain e q e1) (h' : Chain e q e2) : e1 = e2 := by
  induction h with
  | nil => cases h'; rfl
  | cons hr hc ih => cases h' with | cons hr' hc' => exact ih hc'

def Pend (C : Ctx) (ops : Array Oper) (listed : Array Bool) (p : List Rec) (t : Nat) : Prop := ∃ r ∈ p, ¬ Listed listed r.i ∧ Wt C ops r.i t
def Late (C : Ctx) (ops : Array Oper) (listed : Array Bool) (q : List Rec) (t : Nat) : Prop := ∃ r ∈ q, Listed listed r.i ∧ Wt C ops r.i t

/-- Where we are, but for what comes next in the formula. -/
structure J0 (C : Ctx) (ops : Array Oper) (al : Nat) (ρ0 : Rho) (h0 : Heap) (w0 : World) (Q : Exit → Act → World → Prop) (c : List Nat) (k : Env → T) (e0 : Env)
    (listed : Array Bool) (a : Act) (w : World) (recs : List Rec) (rest : List Nat) (e : Env) (rs : List (Nat × Nat)) (ρ : Rho) (h : Heap) (σ : Nat → TV) : Prop where
  split : c = recs.map Rec.i ++ rest
  chain : Chain e0 recs e
  form : dOps C al ops.toList (some (DD C ops)) rest e rs k h
  ids : ∀ r ∈ recs, ∀ id ∈ r.ids, (r.i, id) ∈ rs
  sub : ∀ i, Listed listed i → i ∈ recs.map Rec.i
  closed : Closed ops listed
  size : listed.size = ops.size
  inv : Inv ρ0 h0 w0 C ρ h w σ a
  slots : ∀ p q e1, recs = p ++ q → Chain e0 p e1 → ∀ t, Pend C ops listed p t ∨ Late C ops listed q t ∨ σ t = Env.get e1 t
  keys : ∀ r ∈ recs, ∀ p ∈ r.d, Wt C ops r.i p.1 ∧ al.testBit p.1 = true
  vals : ∀ r ∈ recs, ∀ p ∈ r.d, ∀ t off, p.2 = .ref t off → ∀ q ∈ allocs C ops.toList, q.2 = t → Bf C ops r.i q.1
  proms : ∀ r ∈ recs, ¬ Listed listed r.i → Prom C ops ρ0 h0 w0 Q r h
  norefs : ∀ q ∈ allocs C ops.toList, ¬ Listed listed q.1 → ∀ u off, σ u ≠ .ref q.2 off
  agree : Agree al e0 e

theorem rd_at {i : Nat} {o : Oper} (h : ops[i]? = some o) : (DD C ops).rd.getD i 0 = rdMask C ops.toList o := by
  have : ops.toList[i]? = some o := by simpa using h
  simp [DD, drawOf, List.getD_eq_getElem?_getD, this]
theorem wr_at {i : Nat} {o : Oper} (h : ops[i]? = some o) : (DD C ops).wr.getD i 0 = wrMask C ops.toList o := by
  have : ops.toList[i]? = some o := by simpa using h
  simp [DD, drawOf, List.getD_eq_getElem?_getD, this]

theorem maskOf_bit : ∀ (l : List Operand) (s : Nat) (t : Nat), (l.foldl (fun s x => s ||| tmpBit x) s).testBit t = true ↔ s.testBit t = true ∨ .tmp t ∈ l
  | [], s, t => by simp
  | x :: l, s, t => by
    simp only [List.foldl_cons]
    rw [maskOf_bit l]
    simp only [Nat.testBit_or, Bool.or_eq_true, List.mem_cons]
    have : (tmpBit x).testBit t = true ↔ Operand.tmp t = x := by
      cases x with
      | tmp u => simp [tmpBit, Nat.testBit_two_pow, eq_comm]
      | _ => simp [tmpBit]
    rw [this, or_assoc]

theorem rd_operand {o : Oper} {t : Nat} (h : .tmp t ∈ o.op.operands) : (rdMask C ops.toList o).testBit t = true := by
  unfold rdMask
  simp only [Nat.testBit_or, Bool.or_eq_true]
  refine .inl (.inl ?_)
  unfold maskOf
  rw [maskOf_bit]
  exact .inr (by simpa using h)
theorem rd_guard {o : Oper} {g tg : Nat} {want : Bool} (hg : o.guard = some (g, want)) (ht : (ops.toList[g]?).bind (·.dst) = some tg) : (rdMask C ops.toList o).testBit tg = true := by
  unfold rdMask
  simp only [Nat.testBit_or, Bool.or_eq_true]
  refine .inl (.inr ?_)
  unfold guardBit
  rw [hg]
  simp only [ht, optBit, Nat.testBit_two_pow_self]
theorem wr_dst {o : Oper} {t : Nat} (h : o.dst = some t) : (wrMask C ops.toList o).testBit t = true := by
  unfold wrMask
  simp only [Nat.testBit_or, Bool.or_eq_true]
  refine .inl (.inl (.inl ?_))
  rw [h]
  simp [optBit, Nat.testBit_two_pow_self]
theorem wr_front {o : Oper} {t u : Nat} (h : front ops.toList o = some (t, u)) : (wrMask C ops.toList o).testBit t = true := by
  unfold wrMask
  simp only [Nat.testBit_or, Bool.or_eq_true]
  refine .inl (.inl (.inr ?_))
  rw [h]
  simp [Nat.testBit_two_pow_self]

theorem put_re {o : Oper} {e : Env} {x : TV} {k : Env → T} {h : Heap} (ho : put C al e o.dst x k h) : ∃ d, k (d ++ e) h ∧ (∀ h', put C al e o.dst x (fun e'' _ => e'' = d ++ e) h') ∧ (∀ p ∈ d, al.testBit p.1 = true ∧ o.dst = some p.1 ∧ p.2 = x) := by
  cases hd : o.dst with
  | none => rw [hd] at ho; exact ⟨[], ho, fun h' => rfl, by simp⟩
  | some t =>
    rw [hd] at ho
    have key : ∀ b : Bool, (match b with
        | true => k ((t, x) :: e)
        | false => no) h → b = true ∧ k ((t, x) :: e) h := by
      intro b hb
      cases b with
      | true => exact ⟨rfl, hb⟩
      | false => exact hb.elim
    unfold put at ho ⊢
    cases x with
    | var cs =>
      obtain ⟨hb, hk⟩ := key _ ho
      refine ⟨[(t, .var cs)], hk, fun h' => ?_, fun p hp => ?_⟩
      · simp only [hb]; rfl
      · simp only [Bool.and_eq_true] at hb; simp at hp; subst hp; exact ⟨hb.1.1.2, rfl, rfl⟩
    | ref u off =>
      obtain ⟨hb, hk⟩ := key _ ho
      refine ⟨[(t, .ref u off)], hk, fun h' => ?_, fun p hp => ?_⟩
      · simp only [hb]; rfl
      · simp only [Bool.and_eq_true] at hb; simp at hp; subst hp; exact ⟨hb.1.1.2, rfl, rfl⟩
    | _ =>
      obtain ⟨hb, hk⟩ := key _ ho
      refine ⟨[(t, _)], hk, fun h' => ?_, fun p hp => ?_⟩
      · simp only [hb]; rfl
      · simp only [Bool.and_eq_true] at hb; simp at hp; subst hp; exact ⟨hb.1.2, rfl, rfl⟩

/-- The head of what is left, if there is one, is loud and wanted. -/
def HeadOk (C : Ctx) (ops : Array Oper) (rest : List Nat) (e : Env) : Prop := match rest with
  | [] => True
  | i :: _ => ∃ o, ops[i]? = some o ∧ loud C ops.toList o = true ∧ (o.guard = none ∨ ∃ g want tg, o.guard = some (g, want) ∧ (ops.toList[g]?).bind (·.dst) = some tg ∧ Env.get e tg = .v (.one (.bool want)))

theorem allocs_mem {i d : Nat} {o : Oper} (ho : ops[i]? = some o) (hd : o.dst = some d) (hown : C.own.testBit d = true) : (i, d) ∈ allocs C ops.toList := by
  unfold allocs
  rw [List.mem_filterMap]
  have hi : i < ops.size := (Array.getElem?_eq_some_iff.1 ho).1
  refine ⟨i, by simpa using hi, ?_⟩
  have : ops.toList[i]? = some o := by simpa using ho
  simp only [this, hd, hown]

/-- A pure operation, wanted: its record's promise. -/
theorem prom_pure (he : EqOk C.P) {i : Nat} {o : Oper} {e e1 d : Env} {x : TV} {ids : List Nat} {h : Heap} (hoi : ops[i]? = some o) (hget : Env.get e1 = Env.get e)
    (hw : o.guard = none ∨ ∃ g want tg, o.guard = some (g, want) ∧ (ops.toList[g]?).bind (·.dst) = some tg ∧ Env.get e tg = .v (.one (.bool want)))
    (href : refsOk C ops.toList e1 o = true) (hout : (pureRes C e1 o).out h x ids) (hput : ∀ h', put C al e1 o.dst x (fun e'' _ => e'' = d ++ e1) h') :
    Prom C ops ρ0 h0 w0 Q ⟨i, e1, d, ids⟩ h := by
  intro h' hh ρ w σ a iv hσ hnr
  have hrd : ∀ t, (rdMask C ops.toList o).testBit t = true → σ t = Env.get e1 t := fun t ht => hσ t (by unfold Rd; rw [rd_at hoi]; exact ht)
  have hsame : ∀ x ∈ o.op.operands, SameAt e1 σ x := fun x hx u hu => hrd u (rd_operand (by rw [← hu]; exact hx))
  have hP := pure_sound (C := C) (o := o) (w := w) (ρ := ρ) (a := a) (n0 := w0.heap.size) iv.hr (fun x hx => (hsame x hx).opdR iv) (fun hm u t' off hu hg => by
      have hbit : (rdMask C ops.toList o).testBit t' = true ∨ (wrMask C ops.toList o).testBit t' = true ∧ ∃ ty p q, o.op = .store ty p q := by
        unfold refsOk at href
        rw [List.all_eq_true] at href
        have := href (.tmp u) (by simpa using hu)
        simp only [hg] at this
        cases hop : o.op with
        | load ty p => rw [hop] at this; exact .inl this
        | store ty p q => rw [hop] at this; exact .inr ⟨this, ty, p, q, rfl⟩
        | _ => rw [hop] at hm; cases hm
      rcases hbit with hbit | ⟨_, ty, p, q, hop⟩
      · rw [← hrd t' hbit]; exact iv.tr t'
      · exfalso
        unfold pureRes at hout
        rw [hop] at hout
        exact hout) (fun t ks cs ds us vs op x' y' => he ρ w t ks cs ds us vs op x' y') (Res.out_congr hout hh)
  have hwant : Region.wanted o (yielded ops a.tmps) = true := by
    rcases hw with hw | ⟨g, want, tg, hg, htg, hv⟩
    · exact wanted_none hw
    · have hb : a.tmps.getD tg undef = .bool want := by
        have h1 := iv.tr tg
        rw [(hσ tg (by unfold Rd; rw [rd_at hoi]; exact rd_guard hg htg)).trans ((congrFun hget tg).trans hv)] at h1
        exact h1
      rw [wanted_some hg (by simpa using htg) hb]
      cases want <;> rfl
  unfold wpOp
  simp only [hoi, hwant, if_true]
  have hnr' : ∀ d', o.dst = some d' → (∃ cs, x = .var cs) → ∀ u off, σ u ≠ .ref d' off := fun d' hd' hx' => by
    obtain ⟨cs, hx'⟩ := hx'
    refine hnr d' (allocs_mem hoi hd' ?_)
    have := hput h'
    rw [hd', hx'] at this
    simp only [put] at this
    cases hb : (d'.blt C.ntmps && al.testBit d' && C.own.testBit d' && Env.noRef d' e1) with
    | false => rw [hb] at this; exact this.elim
    | true => simp only [Bool.and_eq_true] at hb; exact hb.1.2
  refine .inl (Oper.wp_mono (fun a' w' ho => ?_) (put_pure (Q := Q) (o := o) (hput h') iv hnr' hP))
  obtain ⟨d', iv', hk, _⟩ := ho
  have : d' = d := List.append_cancel_right hk
  rw [← this]; exact iv'

/-- The front part of a literal goes over to another temporary. -/
theorem prom_front {i : Nat} {o : Oper} {e e1 dd : Env} {m : Int} {n : Nat} {h : Heap} (hoi : ops[i]? = some o) (hget : Env.get e1 = Env.get e)
    (hw : o.guard = none ∨ ∃ g want tg, o.guard = some (g, want) ∧ (ops.toList[g]?).bind (·.dst) = some tg ∧ Env.get e tg = .v (.one (.bool want)))
    (hf : frontLit C al ops.toList e1 o = some (m, n, dd)) (hm0 : 0 ≤ m) (hm1 : m ≤ n) : Prom C ops ρ0 h0 w0 Q ⟨i, e1, dd, []⟩ h := by
  intro h' hh ρ w σ a iv hσ hnr
  have hrd : ∀ t, (rdMask C ops.toList o).testBit t = true → σ t = Env.get e1 t := fun t ht => hσ t (by unfold Rd; rw [rd_at hoi]; exact ht)
  have hsame : ∀ x ∈ o.op.operands, SameAt e1 σ x := fun x hx u hu => hrd u (rd_operand (by rw [← hu]; exact hx))
  have hwant : Region.wanted o (yielded ops a.tmps) = true := by
    rcases hw with hw | ⟨g, want, tg, hg, htg, hv⟩
    · exact wanted_none hw
    · have hb : a.tmps.getD tg undef = .bool want := by
        have h1 := iv.tr tg
        rw [(hσ tg (by unfold Rd; rw [rd_at hoi]; exact rd_guard hg htg)).trans ((congrFun hget tg).trans hv)] at h1
        exact h1
      rw [wanted_some hg (by simpa using htg) hb]
      cases want <;> rfl
  unfold wpOp
  simp only [hoi, hwant, if_true]
  exact .inl (front_sound (Q := Q) hf iv hsame hm0 hm1)

/-- An operation that is passed over. -/
theorem prom_skip {i : Nat} {o : Oper} {e e1 d : Env} {h : Heap} {g tg : Nat} {want : Bool} (hoi : ops[i]? = some o) (hget : Env.get e1 = Env.get e)
    (hg : o.guard = some (g, want)) (htg : (ops.toList[g]?).bind (·.dst) = some tg) (hv : Env.get e tg = .v (.one (.bool (!want))) ∨ Env.get e tg = .tup [])
    (hput : ∀ h', put C al e1 o.dst (.tup []) (fun e'' _ => e'' = d ++ e1) h') : Prom C ops ρ0 h0 w0 Q ⟨i, e1, d, []⟩ h := by
  intro h' hh ρ w σ a iv hσ hnr
  have h1 := iv.tr tg
  rw [(hσ tg (by unfold Rd; rw [rd_at hoi]; exact rd_guard hg htg)).trans (congrFun hget tg)] at h1
  have hwant : Region.wanted o (yielded ops a.tmps) = false := by
    rcases hv with hv | hv
    · rw [hv] at h1
      have hb : a.tmps.getD tg undef = .bool (!want) := h1
      rw [wanted_some hg (by simpa using htg) hb]
      cases want <;> rfl
    · rw [hv] at h1
      exact wanted_undef hg (by simpa using htg) (tup_nil h1)
  unfold wpOp
  simp only [hoi, hwant, Bool.false_eq_true, if_false]
  obtain ⟨d', iv', hk, _⟩ := put_sound (v := undef) (hput h') iv ⟨#[], rfl, trivial⟩ rfl (by simp) (by simp)
  have : d' = d := List.append_cancel_right hk
  rw [← this]; exact iv'

end
end Go.Proofs.YtadakbmoanbcgaaGreatDoorVc
-- Draw3
namespace Go.Proofs.YtadakbmoanbcgaaGreatDoorVc

section
variable {C : Ctx} {ops : Array Oper} {al : Nat} {ρ0 : Rho} {h0 : Heap} {w0 : World} {Q : Exit → Act → World → Prop} {c : List Nat} {k : Env → T} {e0 : Env}
variable {listed : Array Bool} {a : Act} {w : World} {recs : List Rec} {rest : List Nat} {e : Env} {rs : List (Nat × Nat)} {ρ : Rho} {h : Heap} {σ : Nat → TV}

def Order (C : Ctx) (ops : Array Oper) (c : List Nat) : Prop := (∀ p i q, c = p ++ i :: q → OkAt C ops.toList (DD C ops) p i) ∧ ∀ i, i < ops.size → i ∈ c

theorem listed_set {i j : Nat} (hi : i < listed.size) : Listed (listed.setIfInBounds i true) j ↔ j = i ∨ Listed listed j := by
  unfold Listed
  simp only [Array.getD_eq_getD_getElem?, Array.getElem?_setIfInBounds]
  by_cases hij : i = j
  · subst hij; simp [hi]
  · simp [hij, show j ≠ i from fun e => hij e.symm]

theorem listed_lt {j : Nat} (hj : Listed listed j) : j < listed.size := by
  unfold Listed at hj
  rw [Array.getD_eq_getD_getElem?] at hj
  by_cases h : j < listed.size
  · exact h
  · simp [h] at hj

theorem ready_mem {i : Nat} (hr : i ∈ Region.ready .any ops listed) : ∃ o, ops[i]? = some o ∧ i < listed.size ∧ ¬ Listed listed i ∧ ∀ e ∈ o.after, edgeBinds e = true → Listed listed e.on := by
  unfold Region.ready at hr
  rw [List.mem_filter] at hr
  obtain ⟨hi, hr⟩ := hr
  simp only [Bool.and_eq_true, Bool.not_eq_true'] at hr
  obtain ⟨h1, h2⟩ := hr
  cases ho : ops[i]? with
  | none => rw [ho] at h2; simp at h2
  | some o =>
    rw [ho] at h2
    simp only [Option.map_some, Option.getD_some] at h2
    have hlt : i < listed.size := by
      rw [Array.getD_eq_getD_getElem?] at h1
      by_cases h : i < listed.size
      · exact h
      · simp [h] at h1
    refine ⟨o, rfl, hlt, fun hl => ?_, fun e he hb => ?_⟩
    · unfold Listed at hl
      rw [Array.getD_eq_getD_getElem?] at h1 hl
      simp only [Array.getElem?_eq_getElem hlt, Option.getD_some] at h1 hl
      rw [h1] at hl; cases hl
    · rw [Array.all_eq_true'] at h2
      have := h2 e he
      rw [edgeBinds_eq] at hb
      rw [hb] at this
      simpa [Listed] using this

theorem mem_ready {i : Nat} {o : Oper} (ho : ops[i]? = some o) (hlt : i < listed.size) (hl : ¬ Listed listed i) (he : ∀ e ∈ o.after, edgeBinds e = true → Listed listed e.on) : i ∈ Region.ready .any ops listed := by
  unfold Region.ready
  rw [List.mem_filter]
  refine ⟨by simpa using (Array.getElem?_eq_some_iff.1 ho).1, ?_⟩
  simp only [Bool.and_eq_true, Bool.not_eq_true', ho, Option.map_some, Option.getD_some]
  refine ⟨?_, ?_⟩
  · unfold Listed at hl
    rw [Array.getD_eq_getD_getElem?] at hl ⊢
    simp only [Array.getElem?_eq_getElem hlt, Option.getD_some] at hl ⊢
    simpa using hl
  · rw [Array.all_eq_true']
    intro e hm
    cases hb : Region.binds .any e with
    | false => rfl
    | true => simpa [Listed] using he e hm (by rw [edgeBinds_eq]; exact hb)

theorem Closed.bf (hcl : Closed ops listed) (hs : listed.size = ops.size) {j i : Nat} (hj : Listed listed j) (hb : Bf C ops j i) : Listed listed i := by
  have hlt : j < ops.size := hs ▸ listed_lt hj
  have ho : ops[j]? = some ops[j] := by simp [hlt]
  exact bef_listed hcl j _ ho (hcl j _ ho hj) i hb

theorem Closed.ready (hcl : Closed ops listed) {j i : Nat} (hr : j ∈ Region.ready .any ops listed) (hb : Bf C ops j i) : Listed listed i := by
  obtain ⟨o, ho, _, _, he⟩ := ready_mem hr
  exact bef_listed hcl j o ho he i hb

theorem Closed.set (hcl : Closed ops listed) {i : Nat} (hr : i ∈ Region.ready .any ops listed) : Closed ops (listed.setIfInBounds i true) := by
  obtain ⟨o, ho, hlt, _, he⟩ := ready_mem hr
  intro j o' ho' hj e hm hb
  rw [listed_set hlt] at hj ⊢
  rcases hj with rfl | hj
  · rw [ho] at ho'; cases ho'; exact .inr (he e hm hb)
  · exact .inr (hcl j o' ho' hj e hm hb)

theorem ready_nil (hO : Order C ops c) (hs : listed.size = ops.size) (hr : Region.ready .any ops listed = []) : ∀ x ∈ c, Listed listed x := by
  have : ∀ (q p : List Nat), c = p ++ q → (∀ x ∈ p, Listed listed x) → ∀ x ∈ q, Listed listed x := by
    intro q
    induction q with
    | nil => intro p _ _ x hx; cases hx
    | cons y q ih =>
      intro p hc hp x hx
      have hy : Listed listed y := by
        by_cases hy : Listed listed y
        · exact hy
        · have hok := hO.1 _ _ _ hc
          have hlt : y < ops.size := by simpa using hok.lt
          have ho : ops[y]? = some ops[y] := by simp [hlt]
          have := mem_ready ho (hs ▸ hlt) hy (fun e he hb => hp _ (hok.pre _ ((bef_bit (by simp)).2 ⟨e, he, hb, .inl rfl⟩)))
          rw [hr] at this; cases this
      rcases List.mem_cons.1 hx with rfl | hx
      · exact hy
      · exact ih (p ++ [y]) (by simp [hc]) (fun z hz => by
          rcases List.mem_append.1 hz with hz | hz
          · exact hp z hz
          · simp at hz; rw [hz]; exact hy) x hx
  exact this c [] rfl (by simp)

/-- Two records, the first before the second. -/
theorem Order.two (hO : Order C ops c) {r x : Rec} {p q : List Rec} (hc : c = (p ++ x :: q).map Rec.i ++ rest) (hr : r ∈ p) : Bf C ops x.i r.i ∨ Apart (DD C ops) x.i r.i := by
  have h1 : c = p.map Rec.i ++ x.i :: (q.map Rec.i ++ rest) := by rw [hc]; simp
  exact (hO.1 _ _ _ h1).apart r.i (List.mem_map_of_mem hr)

theorem Order.nodup (hO : Order C ops c) {r x : Rec} {p q : List Rec} (hc : c = (p ++ x :: q).map Rec.i ++ rest) (hr : r ∈ p) : r.i ≠ x.i := by
  have h1 : c = p.map Rec.i ++ x.i :: (q.map Rec.i ++ rest) := by rw [hc]; simp
  intro he
  exact (hO.1 _ _ _ h1).new (he ▸ List.mem_map_of_mem hr)

theorem Order.nodup2 (hO : Order C ops c) {r x : Rec} {p q : List Rec} (hc : c = (p ++ r :: q).map Rec.i ++ rest) (hx : x ∈ q) : x.i ≠ r.i := by
  obtain ⟨q1, q2, rfl⟩ := List.append_of_mem hx
  have := hO.nodup (p := p ++ r :: q1) (x := x) (q := q2) (rest := rest) (r := r) (by rw [hc]; simp) (by simp)
  exact fun e => this e.symm

theorem Order.later (hO : Order C ops c) {r x : Rec} {p q : List Rec} (hc : c = (p ++ r :: q).map Rec.i ++ rest) (hx : x ∈ q) : Bf C ops x.i r.i ∨ Apart (DD C ops) x.i r.i := by
  obtain ⟨q1, q2, rfl⟩ := List.append_of_mem hx
  exact hO.two (p := p ++ r :: q1) (x := x) (q := q2) (rest := rest) (r := r) (by rw [hc]; simp) (by simp)

/-- What a waiting record writes stands at nobody's hand before it. -/
theorem J0.not_late (hO : Order C ops c) (J : J0 C ops al ρ0 h0 w0 Q c k e0 listed a w recs rest e rs ρ h σ) {p q : List Rec} {r x : Rec} (hr : recs = p ++ r :: q) (hl : ¬ Listed listed r.i) (hx : x ∈ q) (hlx : Listed listed x.i) :
    Apart (DD C ops) x.i r.i := by
  rcases hO.later (rest := rest) (by rw [← hr]; exact J.split) hx with h1 | h1
  · exact absurd (J.closed.bf J.size hlx h1) hl
  · exact h1

theorem J0.rd_eq (hO : Order C ops c) (J : J0 C ops al ρ0 h0 w0 Q c k e0 listed a w recs rest e rs ρ h σ) {p q : List Rec} {r : Rec} (hr : recs = p ++ r :: q) (hrd : r.i ∈ Region.ready .any ops listed) {ep : Env} (hc : Chain e0 p ep) :
    ∀ t, Rd C ops r.i t → σ t = Env.get ep t := by
  intro t ht
  obtain ⟨_, _, _, hl, _⟩ := ready_mem hrd
  rcases J.slots p (r :: q) ep hr hc t with ⟨x, hx, hlx, hwx⟩ | ⟨x, hx, hlx, hwx⟩ | h1
  · rcases hO.two (rest := rest) (by rw [← hr]; exact J.split) hx with h1 | h1
    · exact absurd (J.closed.ready hrd h1) hlx
    · have := (h1 t).2 hwx
      rw [show ((DD C ops).rd.getD r.i 0).testBit t = true from ht] at this; cases this
  · rcases List.mem_cons.1 hx with rfl | hx
    · exact absurd hlx hl
    · have := ((J.not_late hO hr hl hx hlx t).1 hwx).2
      rw [show ((DD C ops).rd.getD r.i 0).testBit t = true from ht] at this; cases this
  · exact h1

theorem over_ne {t : Nat} : ∀ {d : Env} (σ : Nat → TV), (∀ p ∈ d, p.1 ≠ t) → Env.over d σ t = σ t
  | [], _, _ => rfl
  | (u, x) :: d, σ, h => by
    simp only [Env.over]
    rw [beq_ne (h (u, x) (by simp))]
    exact over_ne σ fun p hp => h p (by simp [hp])

theorem over_ref {t off u : Nat} : ∀ {d : Env} (σ : Nat → TV), Env.over d σ u = .ref t off → (∃ p ∈ d, p.2 = .ref t off) ∨ σ u = .ref t off
  | [], _, h => .inr h
  | (v, x) :: d, σ, h => by
    simp only [Env.over] at h
    cases hb : v.beq u with
    | true => rw [hb] at h; exact .inl ⟨(v, x), by simp, h⟩
    | false =>
      rw [hb] at h
      rcases over_ref σ h with ⟨p, hp, h1⟩ | h1
      · exact .inl ⟨p, by simp [hp], h1⟩
      · exact .inr h1

/-- A waiting record is carried out. -/
theorem exec_rec (hO : Order C ops c) (J : J0 C ops al ρ0 h0 w0 Q c k e0 listed a w recs rest e rs ρ h σ) {p q : List Rec} {r : Rec} (hr : recs = p ++ r :: q) (hrd : r.i ∈ Region.ready .any ops listed) :
    wpOp C.P ops Q r.i (fun a' w' => J0 C ops al ρ0 h0 w0 Q c k e0 (listed.setIfInBounds r.i true) a' w' recs rest e rs ρ h (Env.over r.d σ)) a w := by
  obtain ⟨o, hoi, hlt, hl, hed⟩ := ready_mem hrd
  have hmem : r ∈ recs := by rw [hr]; simp
  obtain ⟨ep, hcp, hcq⟩ := Chain.split (show Chain e0 (p ++ r :: q) e from hr ▸ J.chain)
  have hre : r.e.get = Env.get ep := by cases hcq with | cons h1 h2 => exact h1
  have hcq' : Chain (r.d ++ r.e) q e := by cases hcq with | cons h1 h2 => exact h2
  have hsp : c = (p ++ r :: q).map Rec.i ++ rest := by rw [← hr]; exact J.split
  refine wpOp_mono (fun a' w' iv' => ?_) (J.proms r hmem hl h (fun _ _ => rfl) ρ w σ a J.inv (fun t ht => by rw [hre]; exact J.rd_eq hO hr hrd hcp t ht) (fun d hd u off => J.norefs (r.i, d) hd hl u off))
  have hkeys := J.keys r hmem
  have hnw : ∀ t, ¬ Wt C ops r.i t → Env.over r.d σ t = σ t := fun t ht => over_ne σ fun p hp e => ht (e ▸ (hkeys p hp).1)
  refine { split := J.split, chain := J.chain, form := J.form, ids := J.ids, sub := fun i hi => ?_, closed := J.closed.set hrd, size := by simp [J.size], inv := iv', slots := ?_, keys := J.keys, vals := J.vals, proms := fun x hx hlx => J.proms x hx fun hl' => hlx ((listed_set hlt).2 (.inr hl')), norefs := fun y hy hly u off he => ?_, agree := J.agree }
  · rcases (listed_set hlt).1 hi with rfl | hi
    · exact List.mem_map_of_mem hmem
    · exact J.sub i hi
  · intro p' q' e1 hpq hc1 t
    have hpend : ∀ x, x ∈ p' → x ≠ r → x ∈ recs → ¬ Listed listed x.i → Wt C ops x.i t → Pend C ops (listed.setIfInBounds r.i true) p' t := fun x hx hne hxr hlx hwx => by
      refine ⟨x, hx, fun hl' => ?_, hwx⟩
      rcases (listed_set hlt).1 hl' with h1 | h1
      · rw [hr] at hxr
        rcases List.mem_append.1 hxr with h2 | h2
        · exact hO.nodup hsp h2 h1
        · rcases List.mem_cons.1 h2 with h2 | h2
          · exact hne h2
          · exact hO.nodup2 hsp h2 h1
      · exact hlx h1
    have hlate : ∀ x, x ∈ q' → Listed listed x.i → Wt C ops x.i t → Late C ops (listed.setIfInBounds r.i true) q' t := fun x hx hlx hwx => ⟨x, hx, (listed_set hlt).2 (.inr hlx), hwx⟩
    by_cases hwr : Wt C ops r.i t
    · rw [hr] at hpq
      rcases List.append_eq_append_iff.1 hpq with ⟨s, hs1, hs2⟩ | ⟨s, hs1, hs2⟩
      · -- p' = p ++ s, r :: q = s ++ q'
        cases s with
        | nil =>
          simp only [List.nil_append] at hs2
          exact .inr (.inl ⟨r, by rw [← hs2]; simp, (listed_set hlt).2 (.inl rfl), hwr⟩)
        | cons r' s =>
          simp only [List.cons_append, List.cons.injEq] at hs2
          obtain ⟨rfl, rfl⟩ := hs2
          have hin : ∀ x ∈ s, x ∈ recs := fun x hx => by rw [hr]; simp [hx]
          have hnlate : ∀ x ∈ s ++ q', Listed listed x.i → ¬ Wt C ops x.i t := fun x hx hlx hwx => by
            have := ((J.not_late hO hr hl hx hlx t).1 hwx).1
            rw [show ((DD C ops).wr.getD r.i 0).testBit t = true from hwr] at this; cases this
          rcases J.slots p (r :: (s ++ q')) ep hr hcp t with ⟨x, hx, hlx, hwx⟩ | ⟨x, hx, hlx, hwx⟩ | h1
          · exact .inl (hpend x (by rw [hs1]; simp [hx]) (fun e => hO.nodup hsp hx (by rw [e])) (by rw [hr]; simp [hx]) hlx hwx)
          · rcases List.mem_cons.1 hx with rfl | hx
            · exact absurd hlx hl
            · exact absurd hwx (hnlate x hx hlx)
          · by_cases hs : ∃ x ∈ s, Wt C ops x.i t
            · obtain ⟨x, hx, hwx⟩ := hs
              by_cases hlx : Listed listed x.i
              · exact absurd hwx (hnlate x (by simp [hx]) hlx)
              · exact .inl (hpend x (by rw [hs1]; simp [hx]) (fun e => hO.nodup2 hsp (show x ∈ s ++ q' by simp [hx]) (by rw [e])) (hin x hx) hlx hwx)
            · have hns : ∀ x ∈ s, ¬ Wt C ops x.i t := fun x hx hw => hs ⟨x, hx, hw⟩
              refine .inr (.inr ?_)
              rw [hs1] at hc1
              obtain ⟨ep', hcp', hc2⟩ := Chain.split hc1
              have hpe : ep' = ep := Chain.unique hcp' hcp
              rw [hpe] at hc2
              cases hc2 with
              | cons h3 h4 =>
                rw [h4.get fun x hx y hy e => hns x hx (by rw [← e]; exact (J.keys x (hin x hx) y hy).1), Env.get_append]
                exact over_congr r.d t (by rw [hre]; exact h1)
      · -- p = p' ++ s, q' = s ++ r :: q
        exact .inr (.inl ⟨r, by rw [hs2]; simp, (listed_set hlt).2 (.inl rfl), hwr⟩)
    · rw [hnw t hwr]
      rcases J.slots p' q' e1 hpq hc1 t with ⟨x, hx, hlx, hwx⟩ | ⟨x, hx, hlx, hwx⟩ | h1
      · exact .inl (hpend x hx (fun e => hwr (e ▸ hwx)) (by rw [hpq]; simp [hx]) hlx hwx)
      · exact .inr (.inl (hlate x hx hlx hwx))
      · exact .inr (.inr h1)
  · have hly' : ¬ Listed listed y.1 := fun h1 => hly ((listed_set hlt).2 (.inr h1))
    rcases over_ref σ he with ⟨p', hp', h1⟩ | h1
    · exact hly' (J.closed.ready hrd (J.vals r hmem p' hp' y.2 off h1 y hy rfl))
    · exact J.norefs y hy hly' u off h1

end
end Go.Proofs.YtadakbmoanbcgaaGreatDoorVc
-- Draw4
namespace Go.Proofs.YtadakbmoanbcgaaGreatDoorVc

section
variable {C : Ctx} {ops : Array Oper} {al : Nat} {ρ0 : Rho} {h0 : Heap} {w0 : World} {Q : Exit → Act → World → Prop} {c : List Nat} {k : Env → T} {e0 : Env}
variable {listed : Array Bool} {a : Act} {w : World} {recs : List Rec} {rest : List Nat} {e : Env} {rs : List (Nat × Nat)} {ρ : Rho} {h : Heap} {σ : Nat → TV}

theorem J0.fresh (hO : Order C ops c) {i : Nat} (J : J0 C ops al ρ0 h0 w0 Q c k e0 listed a w recs (i :: rest) e rs ρ h σ) : ¬ Listed listed i ∧ i ∉ recs.map Rec.i := by
  have := (hO.1 _ _ _ J.split).new
  exact ⟨fun hl => this (J.sub i hl), this⟩

/-- One more record. -/
theorem J0.push (hO : Order C ops c) {r : Rec} {rs' : List (Nat × Nat)} (J : J0 C ops al ρ0 h0 w0 Q c k e0 listed a w recs (r.i :: rest) e rs ρ h σ) (hre : r.e.get = Env.get e)
    (hform : dOps C al ops.toList (some (DD C ops)) rest (r.d ++ r.e) rs' k h) (hkeys : ∀ p ∈ r.d, Wt C ops r.i p.1 ∧ al.testBit p.1 = true)
    (hvals : ∀ p ∈ r.d, ∀ t off, p.2 = .ref t off → ∀ q ∈ allocs C ops.toList, q.2 = t → Bf C ops r.i q.1) (hprom : Prom C ops ρ0 h0 w0 Q r h)
    (hids : ∀ id ∈ r.ids, (r.i, id) ∈ rs') (hrs : ∀ x ∈ rs, x ∈ rs') : J0 C ops al ρ0 h0 w0 Q c k e0 listed a w (recs ++ [r]) rest (r.d ++ r.e) rs' ρ h σ where
  split := by rw [J.split]; simp
  chain := J.chain.append (.cons hre (.nil _))
  form := hform
  ids := fun x hx id hid => by
    rcases List.mem_append.1 hx with hx | hx
    · exact hrs _ (J.ids x hx id hid)
    · simp at hx; subst hx; exact hids id hid
  sub := fun i hi => by rw [List.map_append]; exact List.mem_append_left _ (J.sub i hi)
  closed := J.closed
  size := J.size
  inv := J.inv
  slots := fun p q e1 hpq hc t => by
    rcases List.eq_nil_or_concat q with hq | ⟨q', x, hq⟩
    · subst hq
      have hp : p = recs ++ [r] := by simpa using hpq.symm
      subst hp
      have he1 : e1 = r.d ++ r.e := Chain.unique hc (J.chain.append (.cons hre (.nil _)))
      by_cases hw : Wt C ops r.i t
      · exact .inl ⟨r, by simp, (J.fresh hO).1, hw⟩
      · rw [he1, Env.get_over_ne fun p hp e => hw (by rw [← e]; exact (hkeys p hp).1), hre]
        rcases J.slots recs [] e (by simp) J.chain t with ⟨y, hy, h1, h2⟩ | ⟨y, hy, _⟩ | h1
        · exact .inl ⟨y, by simp [hy], h1, h2⟩
        · cases hy
        · exact .inr (.inr h1)
    · simp only [List.concat_eq_append] at hq
      rw [hq, ← List.append_assoc] at hpq
      have h3 := List.append_inj' hpq rfl
      have h4 : r = x := by simpa using h3.2
      subst h4
      rcases J.slots p q' e1 h3.1 hc t with h1 | ⟨y, hy, h1, h2⟩ | h1
      · exact .inl h1
      · exact .inr (.inl ⟨y, by rw [hq]; simp [hy], h1, h2⟩)
      · exact .inr (.inr h1)
  keys := fun x hx => by
    rcases List.mem_append.1 hx with hx | hx
    · exact J.keys x hx
    · simp at hx; subst hx; exact hkeys
  vals := fun x hx => by
    rcases List.mem_append.1 hx with hx | hx
    · exact J.vals x hx
    · simp at hx; subst hx; exact hvals
  proms := fun x hx hl => by
    rcases List.mem_append.1 hx with hx | hx
    · exact J.proms x hx hl
    · simp at hx; subst hx; exact hprom
  norefs := J.norefs
  agree := J.agree.trans (Agree.of_get hre (agree_append fun p hp => (hkeys p hp).2))

theorem dOps_head {i : Nat} (ho : dOps C al ops.toList (some (DD C ops)) (i :: rest) e rs k h) : ∃ o, ops[i]? = some o ∧
    ((∃ e1, Env.get e1 = Env.get e ∧ (o.guard = none ∨ ∃ g want tg, o.guard = some (g, want) ∧ (ops.toList[g]?).bind (·.dst) = some tg ∧ Env.get e tg = .v (.one (.bool want))) ∧ refsOk C ops.toList e1 o = true ∧
        oneOp C al ops.toList (some (DD C ops)) i o e1 rs (fun e rs => dOps C al ops.toList (some (DD C ops)) rest e rs k) h) ∨
      (∃ e1 g tg want, Env.get e1 = Env.get e ∧ o.guard = some (g, want) ∧ (ops.toList[g]?).bind (·.dst) = some tg ∧ (Env.get e tg = .v (.one (.bool (!want))) ∨ Env.get e tg = .tup []) ∧
        put C al e1 o.dst (.tup []) (fun e => dOps C al ops.toList (some (DD C ops)) rest e rs k) h)) := by
  simp only [dOps] at ho
  have hck : ∀ {D : Draw} {b : Bool} {kk : T}, checkK (some D) b kk h → b = true ∧ kk h := fun {D b kk} hh => by
    cases b with
    | true => exact ⟨rfl, hh⟩
    | false => exact hh.elim
  cases hoi : ops.toList[i]? with
  | none => rw [hoi] at ho; exact ho.elim
  | some o =>
    rw [hoi] at ho
    simp only at ho
    refine ⟨o, by simpa using hoi, ?_⟩
    cases hg : o.guard with
    | none =>
      rw [hg] at ho
      simp only at ho
      obtain ⟨h1, h2⟩ := hck ho
      exact .inl ⟨e, rfl, .inl rfl, h1, h2⟩
    | some gw =>
      obtain ⟨g, want⟩ := gw
      rw [hg] at ho
      simp only at ho
      cases hd : (ops.toList[g]?).bind (·.dst) with
      | none => rw [hd] at ho; exact ho.elim
      | some tg =>
        rw [hd] at ho
        simp only at ho
        cases hv : Env.get e tg with
        | v y =>
          rw [hv] at ho
          cases y with
          | one cl =>
            cases cl with
            | bool b =>
              simp only [condK] at ho
              have hsplit : (b = want ∧ checkK (some (DD C ops)) (refsOk C ops.toList ((tg, .v (.one (.bool want))) :: e) o) (oneOp C al ops.toList (some (DD C ops)) i o ((tg, .v (.one (.bool want))) :: e) rs fun e rs => dOps C al ops.toList (some (DD C ops)) rest e rs k) h) ∨
                  (b = !want ∧ (put C al ((tg, .v (.one (.bool (!want)))) :: e) o.dst (.tup []) fun e => dOps C al ops.toList (some (DD C ops)) rest e rs k) h) := by
                cases want <;> cases b <;> first | exact .inl ⟨rfl, ho⟩ | exact .inr ⟨rfl, ho⟩
              clear ho
              rcases hsplit with ⟨rfl, ho⟩ | ⟨rfl, ho⟩
              · obtain ⟨h1, h2⟩ := hck ho
                exact .inl ⟨_, get_cons_same hv, .inr ⟨g, b, tg, rfl, hd, hv⟩, h1, h2⟩
              · exact .inr ⟨_, g, tg, want, get_cons_same hv, rfl, hd, .inl hv, ho⟩
            | _ => exact ho.elim
          | agg _ => exact ho.elim
        | tup l =>
          rw [hv] at ho
          cases l with
          | cons _ _ => exact ho.elim
          | nil => exact .inr ⟨e, g, tg, want, rfl, rfl, hd, .inr hv, ho⟩
        | _ => rw [hv] at ho; exact ho.elim

/-- What is not loud is dealt with at once. -/
theorem consume (he : EqOk C.P) (hO : Order C ops c) : ∀ (rest : List Nat) (recs : List Rec) (e : Env) (rs : List (Nat × Nat)), J0 C ops al ρ0 h0 w0 Q c k e0 listed a w recs rest e rs ρ h σ →
    ∃ recs' rest' e' rs', J0 C ops al ρ0 h0 w0 Q c k e0 listed a w recs' rest' e' rs' ρ h σ ∧ HeadOk C ops rest' e' := by
  intro rest
  induction rest with
  | nil => intro recs e rs J; exact ⟨recs, [], e, rs, J, trivial⟩
  | cons i rest ih =>
    intro recs e rs J
    obtain ⟨o, hoi, hh⟩ := dOps_head J.form
    rcases hh with ⟨e1, hget, hw, href, hone⟩ | ⟨e1, g, tg, want, hget, hg, htg, hv, hput⟩
    · unfold oneOp at hone
      cases hl : loud C ops.toList o with
      | true => exact ⟨recs, i :: rest, e, rs, J, o, hoi, hl, hw⟩
      | false =>
        rw [hl] at hone
        simp only at hone
        cases hf : frontLit C al ops.toList e1 o with
        | some q =>
        obtain ⟨m, n, d⟩ := q
        rw [hf] at hone
        obtain ⟨⟨hm0, hm1⟩, hform⟩ := hone
        refine ih (recs ++ [⟨i, e1, d, []⟩]) (d ++ e1) _ (J0.push (r := ⟨i, e1, d, []⟩) hO J hget hform (fun p hp => ⟨?_, (front_keys hf p hp).1⟩) (fun p hp t off ht y hy hyt => absurd ht ((front_keys hf p hp).2.2 t off)) (prom_front hoi hget hw hf hm0 hm1) (fun id hid => by cases hid) (fun x hx => hx))
        unfold Wt
        rw [wr_at hoi]
        rcases (front_keys hf p hp).2.1 with h1 | ⟨u, h1⟩
        · exact wr_dst h1
        · exact wr_front h1
        | none =>
        rw [hf] at hone
        simp only at hone
        obtain ⟨x, ids, hout, hck⟩ := Res.run_out hone
        have hck' : refNew C ops.toList (some (DD C ops)) i x = true ∧ put C al e1 o.dst x (fun e => dOps C al ops.toList (some (DD C ops)) rest e (rs ++ ids.map fun id => (i, id)) k) h := by
          cases hb : refNew C ops.toList (some (DD C ops)) i x with
          | true => rw [hb] at hck; exact ⟨rfl, hck⟩
          | false => rw [hb] at hck; exact hck.elim
        obtain ⟨hnew, hput⟩ := hck'
        obtain ⟨d, hform, hre, hkeys⟩ := put_re hput
        refine ih (recs ++ [⟨i, e1, d, ids⟩]) (d ++ e1) _ (J0.push (r := ⟨i, e1, d, ids⟩) hO J hget hform (fun p hp => ⟨?_, (hkeys p hp).1⟩) (fun p hp t off ht y hy hyt => ?_) (prom_pure he hoi hget hw href hout hre) (fun id hid => ?_) (fun x hx => List.mem_append_left _ hx))
        · unfold Wt; rw [wr_at hoi]; exact wr_dst (hkeys p hp).2.1
        · rw [(hkeys p hp).2.2] at ht
          unfold refNew at hnew
          rw [ht] at hnew
          simp only [List.all_eq_true] at hnew
          have := hnew y hy
          rw [hyt] at this
          simpa [Bf] using this
        · exact List.mem_append_right _ (List.mem_map_of_mem hid)
    · obtain ⟨d, hform, hre, hkeys⟩ := put_re hput
      refine ih (recs ++ [⟨i, e1, d, []⟩]) (d ++ e1) _ (J0.push (r := ⟨i, e1, d, []⟩) hO J hget hform (fun p hp => ⟨?_, (hkeys p hp).1⟩) (fun p hp t off ht y hy hyt => ?_) (prom_skip hoi hget hg htg hv hre) (fun id hid => by cases hid) (fun x hx => hx))
      · unfold Wt; rw [wr_at hoi]; exact wr_dst (hkeys p hp).2.1
      · rw [(hkeys p hp).2.2] at ht; cases ht

theorem against {D : Draw} {i : Nat} : ∀ {rs : List (Nat × Nat)} {j id : Nat}, (j, id) ∈ rs → (D.b.getD i 0).testBit j = true ∨ id ∈ idsGo D i rs
  | (j', id') :: rs, j, id, hm => by
    simp only [idsGo]
    rcases List.mem_cons.1 hm with h1 | h1
    · cases h1
      cases hb : (D.b.getD i 0).testBit j' with
      | true => exact .inl rfl
      | false => exact .inr List.mem_cons_self
    · rcases against (D := D) (i := i) h1 with h2 | h2
      · exact .inl h2
      · refine .inr ?_
        cases (D.b.getD i 0).testBit j' with
        | true => exact h2
        | false => exact List.mem_cons_of_mem _ h2

theorem wr_lit {o : Oper} {e1 : Env} {t : Nat} (hl : loud C ops.toList o = true) (href : refsOk C ops.toList e1 o = true) (hm : .tmp t ∈ o.op.operands) (hx : IsLit (Env.get e1 t)) : (wrMask C ops.toList o).testBit t = true := by
  unfold refsOk at href
  rw [List.all_eq_true] at href
  have := href (.tmp t) (by simpa using hm)
  obtain ⟨sz, n, cs, hx⟩ := hx
  simp only [hx, hl] at this
  simpa using this
theorem wr_store {o : Oper} {e1 : Env} {t u off : Nat} (hs : ∃ ty x y, o.op = .store ty x y) (href : refsOk C ops.toList e1 o = true) (hm : .tmp u ∈ o.op.operands) (hx : Env.get e1 u = .ref t off) : (wrMask C ops.toList o).testBit t = true := by
  unfold refsOk at href
  rw [List.all_eq_true] at href
  have := href (.tmp u) (by simpa using hm)
  obtain ⟨ty, x, y, hop⟩ := hs
  simp only [hx, hop] at this
  exact this
theorem wr_var {o : Oper} {e1 : Env} {t : Nat} (hs : ∃ ty x y, o.op = .store ty x y) (href : refsOk C ops.toList e1 o = true) (hm : .tmp t ∈ o.op.operands) (hx : ∃ cs, Env.get e1 t = .var cs) : (wrMask C ops.toList o).testBit t = true := by
  unfold refsOk at href
  rw [List.all_eq_true] at href
  have := href (.tmp t) (by simpa using hm)
  obtain ⟨ty, x, y, hop⟩ := hs
  obtain ⟨cs, hx⟩ := hx
  simp only [hx, hop] at this
  exact this

/-- The loud operation at the head is carried out. -/
theorem exec_loud (hs : Sound C.P C.calls) (hO : Order C ops c) {i : Nat} (J : J0 C ops al ρ0 h0 w0 Q c k e0 listed a w recs (i :: rest) e rs ρ h σ) (hh : HeadOk C ops (i :: rest) e) (hrd : i ∈ Region.ready .any ops listed) :
    wpOp C.P ops Q i (fun a' w' => ∃ recs' e' ρ' h' σ', J0 C ops al ρ0 h0 w0 Q c k e0 (listed.setIfInBounds i true) a' w' recs' rest e' rs ρ' h' σ') a w := by
  obtain ⟨o, hoi, hlt, hl, hed⟩ := ready_mem hrd
  obtain ⟨o1, ho1, hloud, hwt⟩ := hh
  rw [hoi] at ho1; cases ho1
  obtain ⟨o2, ho2, hd⟩ := dOps_head J.form
  rw [hoi] at ho2; cases ho2
  have hok : OkAt C ops.toList (DD C ops) (recs.map Rec.i) i := hO.1 _ _ _ J.split
  rcases hd with ⟨e1, hget, hw, href, hone⟩ | ⟨e1, g, tg, want, hget, hg, htg, hv, hput⟩
  · unfold oneOp at hone
    rw [hloud] at hone
    simp only at hone
    have heq : ∀ t, (rdMask C ops.toList o).testBit t = true ∨ (wrMask C ops.toList o).testBit t = true → σ t = Env.get e1 t := fun t ht => by
      rw [hget]
      rcases J.slots recs [] e (by simp) J.chain t with ⟨x, hx, hlx, hwx⟩ | ⟨x, hx, _⟩ | h1
      · exfalso
        rcases hok.apart x.i (List.mem_map_of_mem hx) with h1 | h1
        · exact hlx (J.closed.ready hrd h1)
        · rcases ht with ht | ht
          · rw [← rd_at hoi] at ht
            have := (h1 t).2 hwx
            rw [ht] at this; cases this
          · rw [← wr_at hoi] at ht
            have := ((h1 t).1 ht).1
            rw [show ((DD C ops).wr.getD x.i 0).testBit t = true from hwx] at this; cases this
      · cases hx
      · exact h1
    have hrd' : ∀ x ∈ o.op.operands, SameAt e1 σ x := fun x hx u hu => heq u (.inl (rd_operand (by rw [← hu]; exact hx)))
    have hmem : isMemOp o.op = true → ∀ u t' off, .tmp u ∈ o.op.operands → Env.get e1 u = .ref t' off → σ t' = Env.get e1 t' := fun hm u t' off hu hx => by
      refine heq t' ?_
      cases hop : o.op with
      | load ty p =>
        unfold refsOk at href
        rw [List.all_eq_true] at href
        have := href (.tmp u) (by simpa using hu)
        simp only [hx, hop] at this
        exact .inl this
      | store ty p q => exact .inr (wr_store ⟨ty, p, q, hop⟩ href hu hx)
      | _ => rw [hop] at hm; cases hm
    have hwant : Region.wanted o (yielded ops a.tmps) = true := by
      rcases hw with hw | ⟨g, want, tg, hg, htg, hv⟩
      · exact wanted_none hw
      · have hb : a.tmps.getD tg undef = .bool want := by
          have h1 := J.inv.tr tg
          rw [(heq tg (.inl (rd_guard hg htg))).trans ((congrFun hget tg).trans hv)] at h1
          exact h1
        rw [wanted_some hg (by simpa using htg) hb]
        cases want <;> rfl
    unfold wpOp
    simp only [hoi, hwant, if_true]
    refine .inl (Oper.wp_mono (fun a' w' ho => ?_) (loud_sound2 (Q := Q) hs hone J.inv hrd' hmem))
    obtain ⟨ρ', h', d, iv', hk, hws, hd⟩ := ho
    have hkeys : ∀ p ∈ d, Wt C ops i p.1 ∧ al.testBit p.1 = true := fun p hp => by
      obtain ⟨⟨h1, h2⟩, _⟩ := hd p hp
      refine ⟨?_, h1⟩
      unfold Wt
      rw [wr_at hoi]
      rcases h2 with h2 | ⟨h2, h3⟩ | ⟨h2, ⟨u, off, h3, h4⟩ | ⟨h3, h4⟩⟩
      · exact wr_dst h2
      · exact wr_lit hloud href h2 h3
      · exact wr_store h2 href h3 h4
      · exact wr_var h2 href h3 h4
    have hch : Chain e0 (recs ++ [⟨i, e1, d, []⟩]) (d ++ e1) := J.chain.append (.cons hget (.nil _))
    refine ⟨recs ++ [⟨i, e1, d, []⟩], d ++ e1, ρ', h', Env.over d σ, { split := by rw [J.split]; simp, chain := hch, form := hk, ids := ?_, sub := ?_, closed := J.closed.set hrd, size := by simp [J.size], inv := iv', slots := ?_, keys := ?_, vals := ?_, proms := ?_, norefs := ?_, agree := J.agree.trans (Agree.of_get hget (agree_append fun p hp => (hkeys p hp).2)) }⟩
    · intro x hx id hid
      rcases List.mem_append.1 hx with hx | hx
      · exact J.ids x hx id hid
      · simp at hx; subst hx; cases hid
    · intro j hj
      rcases (listed_set hlt).1 hj with rfl | hj
      · simp
      · rw [List.map_append]; exact List.mem_append_left _ (J.sub j hj)
    · intro p q e1' hpq hc t
      have hne : ∀ x ∈ recs, x.i ≠ i := fun x hx he => (J.fresh hO).2 (he ▸ List.mem_map_of_mem hx)
      have hpend : ∀ p : List Rec, (∀ x ∈ p, x ∈ recs) → Pend C ops listed p t → Pend C ops (listed.setIfInBounds i true) p t := fun p hp ⟨x, hx, hlx, hwx⟩ =>
        ⟨x, hx, fun hl' => ((listed_set hlt).1 hl').elim (hne x (hp x hx)) hlx, hwx⟩
      rcases List.eq_nil_or_concat q with hq | ⟨q', x, hq⟩
      · subst hq
        have hp : p = recs ++ [⟨i, e1, d, []⟩] := by simpa using hpq.symm
        subst hp
        have he1 : e1' = d ++ e1 := Chain.unique hc hch
        rw [he1]
        by_cases hw' : (wrMask C ops.toList o).testBit t = true
        · exact .inr (.inr (by rw [Env.get_append]; exact over_congr d t (heq t (.inr hw'))))
        · have hnk : ∀ p ∈ d, p.1 ≠ t := fun p hp he => hw' (by rw [← wr_at (C := C) hoi, ← he]; exact (hkeys p hp).1)
          rw [over_ne σ hnk, Env.get_over_ne hnk, hget]
          rcases J.slots recs [] e (by simp) J.chain t with h1 | ⟨y, hy, _⟩ | h1
          · obtain ⟨y, hy, h2⟩ := hpend recs (fun _ h => h) h1
            exact .inl ⟨y, by simp [hy], h2⟩
          · cases hy
          · exact .inr (.inr h1)
      · simp only [List.concat_eq_append] at hq
        rw [hq, ← List.append_assoc] at hpq
        have h3 := List.append_inj' hpq rfl
        have h4 : (⟨i, e1, d, []⟩ : Rec) = x := by simpa using h3.2
        subst h4
        by_cases hw' : Wt C ops i t
        · exact .inr (.inl ⟨_, by rw [hq]; simp; exact .inr rfl, (listed_set hlt).2 (.inl rfl), hw'⟩)
        · have hnk : ∀ p ∈ d, p.1 ≠ t := fun p hp he => hw' (he ▸ (hkeys p hp).1)
          rw [over_ne σ hnk]
          rcases J.slots p q' e1' h3.1 hc t with h1 | ⟨y, hy, h1, h2⟩ | h1
          · exact .inl (hpend p (fun x hx => by rw [h3.1]; simp [hx]) h1)
          · exact .inr (.inl ⟨y, by rw [hq]; simp [hy], (listed_set hlt).2 (.inr h1), h2⟩)
          · exact .inr (.inr h1)
    · intro x hx
      rcases List.mem_append.1 hx with hx | hx
      · exact J.keys x hx
      · simp at hx; subst hx; exact hkeys
    · intro x hx
      rcases List.mem_append.1 hx with hx | hx
      · exact J.vals x hx
      · simp at hx; subst hx
        exact fun p hp t off ht => absurd ht ((hd p hp).2 t off)
    · intro x hx hlx
      rcases List.mem_append.1 hx with hx | hx
      · have hlx' : ¬ Listed listed x.i := fun h1 => hlx ((listed_set hlt).2 (.inr h1))
        refine (J.proms x hx hlx').stable fun id hid => hws id ?_
        rcases against (D := DD C ops) (i := i) (J.ids x hx id hid) with h1 | h1
        · exact absurd (J.closed.ready hrd h1) hlx'
        · exact h1
      · simp at hx; subst hx
        exact absurd ((listed_set hlt).2 (.inl rfl)) hlx
    · intro y hy hly u off hx
      have hly' : ¬ Listed listed y.1 := fun h1 => hly ((listed_set hlt).2 (.inr h1))
      rcases over_ref σ hx with ⟨p, hp, h1⟩ | h1
      · exact (hd p hp).2 _ _ h1
      · exact J.norefs y hy hly' u off h1
  · exfalso
    rcases hwt with h1 | ⟨g', want', tg', h1, h2, h3⟩
    · rw [hg] at h1; cases h1
    · rw [hg] at h1
      cases h1
      rw [htg] at h2
      cases h2
      rcases hv with hv | hv
      · rw [hv] at h3
        cases want <;> cases h3
      · rw [hv] at h3; cases h3

theorem draw_any (hs : Sound C.P C.calls) (he : EqOk C.P) (hO : Order C ops c) (hQ : ∀ ρ h e a w, Inv ρ0 h0 w0 C ρ h w (Env.get e) a → Agree al e0 e → k e h → Q .normal a w) :
    ∀ (fuel : Nat) (listed : Array Bool) (a : Act) (w : World) (l : List Nat), l.length = fuel → (∀ i, i < ops.size → ¬ Listed listed i → i ∈ l) →
    (∃ recs rest e rs ρ h σ, J0 C ops al ρ0 h0 w0 Q c k e0 listed a w recs rest e rs ρ h σ) → wpAny C.P .any ops Q fuel listed a w := by
  have hend : ∀ (listed : Array Bool) (a : Act) (w : World), (∃ recs rest e rs ρ h σ, J0 C ops al ρ0 h0 w0 Q c k e0 listed a w recs rest e rs ρ h σ) → Region.ready .any ops listed = [] → Q .normal a w := by
    intro listed a w ⟨recs, rest, e, rs, ρ, h, σ, J⟩ hr
    have hall := ready_nil hO J.size hr
    cases rest with
    | cons i rest => exact absurd (hall i (by rw [J.split]; simp)) (J.fresh hO).1
    | nil =>
      have hσ : σ = Env.get e := funext fun t => by
        rcases J.slots recs [] e (by simp) J.chain t with ⟨x, hx, hlx, _⟩ | ⟨x, hx, _⟩ | h1
        · exact absurd (hall x.i (by rw [J.split]; simp; exact ⟨x, hx, rfl⟩)) hlx
        · cases hx
        · exact h1
      exact hQ ρ h e a w (J.inv.congr hσ) J.agree J.form
  intro fuel
  induction fuel with
  | zero =>
    intro listed a w l hl hin hJ
    have hl0 : l = [] := List.length_eq_zero_iff.1 hl
    have hr : Region.ready .any ops listed = [] := by
      rw [List.eq_nil_iff_forall_not_mem]
      intro i hi
      obtain ⟨o, ho, hlt, hli, _⟩ := ready_mem hi
      have := hin i (Array.getElem?_eq_some_iff.1 ho).1 hli
      rw [hl0] at this; cases this
    exact ⟨hr, hend listed a w hJ hr⟩
  | succ fuel ih =>
    intro listed a w l hl hin hJ
    refine ⟨hend listed a w hJ, fun i hi => ?_⟩
    obtain ⟨o, ho, hlt, hli, _⟩ := ready_mem hi
    have hi' : i < ops.size := (Array.getElem?_eq_some_iff.1 ho).1
    have hil := hin i hi' hli
    have hnext : ∀ a' w', (∃ recs rest e rs ρ h σ, J0 C ops al ρ0 h0 w0 Q c k e0 (listed.setIfInBounds i true) a' w' recs rest e rs ρ h σ) → wpAny C.P .any ops Q fuel (listed.setIfInBounds i true) a' w' := fun a' w' hJ' => by
      refine ih _ a' w' (l.erase i) (by rw [List.length_erase_of_mem hil, hl]; rfl) (fun j hj hlj => ?_) hJ'
      have hji : j ≠ i := fun e => hlj ((listed_set hlt).2 (.inl e))
      exact (List.mem_erase_of_ne hji).2 (hin j hj fun h1 => hlj ((listed_set hlt).2 (.inr h1)))
    obtain ⟨recs, rest, e, rs, ρ, h, σ, J⟩ := hJ
    obtain ⟨recs, rest, e, rs, J, hh⟩ := consume he hO rest recs e rs J
    have hic : i ∈ recs.map Rec.i ++ rest := J.split ▸ hO.2 i hi'
    rcases List.mem_append.1 hic with hic | hic
    · obtain ⟨r, hr, hri⟩ := List.mem_map.1 hic
      obtain ⟨p, q, hpq⟩ := List.append_of_mem hr
      subst hri
      exact wpOp_mono (fun a' w' J' => hnext a' w' ⟨_, _, _, _, _, _, _, J'⟩) (exec_rec hO J hpq hi)
    · cases rest with
      | nil => cases hic
      | cons L rest =>
        rcases List.mem_cons.1 hic with rfl | hic
        · exact wpOp_mono (fun a' w' ⟨recs', e', ρ', h', σ', J'⟩ => hnext a' w' ⟨_, _, _, _, _, _, _, J'⟩) (exec_loud hs hO J hh hi)
        · exfalso
          obtain ⟨q1, q2, hq⟩ := List.append_of_mem hic
          have hok := hO.1 (recs.map Rec.i ++ L :: q1) i q2 (by rw [J.split, hq]; simp)
          obtain ⟨oL, hoL, hloud, _⟩ := hh
          have := hok.loud L (by simp) ⟨oL, by simpa using hoL, hloud⟩
          exact (J.fresh hO).1 (J.closed.ready hi this)

theorem regionOk (hm : C.P.follows .mixedOrders = true) (he : EqOk C.P) (hs : Sound C.P C.calls) : RegionOk C := by
  intro ρ0 h0 w0 al id ops e k ρ h w a X R ho iv
  unfold dRegion at ho
  simp only at ho
  have hsplit : (okOrder C ops.toList (drawOf C ops.toList) (greedy C ops.toList) [] 0 [] = true ∧ ∀ p ∈ allocs C ops.toList, Env.noRef p.2 e = true) ∧ dOps C al ops.toList (some (DD C ops)) (greedy C ops.toList) e [] k h := by
    cases hb : (okOrder C ops.toList (drawOf C ops.toList) (greedy C ops.toList) [] 0 [] && (allocs C ops.toList).all fun p => Env.noRef p.2 e) with
    | false => rw [hb] at ho; exact ho.elim
    | true =>
      rw [hb] at ho
      simp only [Bool.and_eq_true, List.all_eq_true] at hb
      exact ⟨hb, ho⟩
  obtain ⟨⟨hord, hnr⟩, hform⟩ := hsplit
  have hO : Order C ops (greedy C ops.toList) := by
    obtain ⟨h1, h2⟩ := okOrder_facts hord
    exact ⟨h1, fun i hi => h2 i (by simpa using hi)⟩
  have hnl : ∀ i, ¬ Listed (Array.replicate ops.size false) i := fun i hi => by
    unfold Listed at hi
    rw [Array.getD_eq_getD_getElem?] at hi
    by_cases hlt : i < ops.size
    · simp [hlt] at hi
    · simp [hlt] at hi
  refine wp_region_any hm (draw_any (al := al) (k := k) (e0 := e) hs he hO (fun ρ h e a w iv ag hk => ⟨ρ, h, e, iv, ag, hk⟩) ops.size _ a _ (List.range ops.size) (by simp) (fun i hi _ => by simpa using hi) ⟨[], greedy C ops.toList, e, [], ρ, h, Env.get e, ?_⟩)
  exact { split := rfl, chain := .nil e, form := hform, ids := by simp, sub := fun i hi => absurd hi (hnl i), closed := fun j o _ hj => absurd hj (hnl j), size := by simp, inv := iv.step iv.hr.drew Fr.drew,
          slots := fun p q e1 hpq hc t => by
            have hp : p = [] ∧ q = [] := by simpa using hpq.symm
            obtain ⟨rfl, rfl⟩ := hp
            cases hc
            exact .inr (.inr rfl),
          keys := by simp, vals := by simp, proms := by simp, norefs := fun y hy _ u off => noRef_get (hnr y hy) u off, agree := Agree.refl _ _ }

theorem drawOk {P : Program} (hm : P.follows .mixedOrders = true) (he : EqOk P) : DrawOk P := fun C hC hs => by
  subst hC
  exact regionOk hm he hs

end
end Go.Proofs.YtadakbmoanbcgaaGreatDoorVc
