/- Vc, part 20: regions that draw their order: whatever the order, the formula's end holds. -/
import Derived.Test.YtdjancoknephnaaDoorVcDraw1
set_option linter.unusedSimpArgs false
set_option linter.unusedVariables false
namespace Go.Proofs.YtdjancoknephnaaDoorVc

/-- An operation that the formula has dealt with: what it looked at, what it bound, which blocks it read. -/
structure Rec where
  i : Nat
  e : Env
  d : Env
  ids : List Nat

section
variable (C : Ctx) (ops : Array Oper) (al : Nat) (ρ0 : Rho) (h0 : Heap) (w0 : World) (Q : Exit → Act → World → Prop)

abbrev DD : Draw := drawOf C ops.toList
def Rd (i t : Nat) : Prop := ((DD C ops).rd.getD i 0).testBit t = true
def Wt (i t : Nat) : Prop := ((DD C ops).wr.getD i 0).testBit t = true
def Bf (i j : Nat) : Prop := ((DD C ops).b.getD i 0).testBit j = true

def Prom (r : Rec) (h : Heap) : Prop := ∀ h', (∀ i ∈ r.ids, h' i = h i) → ∀ ρ w σ a, Inv ρ0 h0 w0 C ρ h' w σ a → (∀ t, Rd C ops r.i t → σ t = Env.get r.e t) →
  (∀ d, (r.i, d) ∈ allocs C ops.toList → ∀ u off, σ u ≠ .ref d off) → wpOp C.P ops Q r.i (fun a' w' => Inv ρ0 h0 w0 C ρ h' w' (Env.over r.d σ) a') a w

/-- The frames chain: each record begins where the one before it ended. -/
inductive Chain : Env → List Rec → Env → Prop where
  | nil (e : Env) : Chain e [] e
  | cons {e e' : Env} {r : Rec} {rs : List Rec} (h : r.e.get = Env.get e) (hc : Chain (r.d ++ r.e) rs e') : Chain e (r :: rs) e'

variable {C ops al ρ0 h0 w0 Q}

theorem Prom.stable {r : Rec} {h h1 : Heap} (hp : Prom C ops ρ0 h0 w0 Q r h) (he : ∀ i ∈ r.ids, h1 i = h i) : Prom C ops ρ0 h0 w0 Q r h1 :=
  fun h' hh => hp h' fun i hi => (hh i hi).trans (he i hi)

theorem Chain.append {e e1 e2 : Env} {p q : List Rec} (h : Chain e p e1) (h' : Chain e1 q e2) : Chain e (p ++ q) e2 := by
  induction h with
  | nil => exact h'
  | cons hr _ ih => exact .cons hr (ih h')
theorem Chain.split {e e2 : Env} : ∀ {p q : List Rec}, Chain e (p ++ q) e2 → ∃ e1, Chain e p e1 ∧ Chain e1 q e2 := by
  intro p
  induction p generalizing e with
  | nil => intro q h; exact ⟨e, .nil e, h⟩
  | cons r p ih =>
    intro q h
    cases h with
    | cons hr hc => obtain ⟨e1, h1, h2⟩ := ih hc; exact ⟨e1, .cons hr h1, h2⟩
theorem Env.get_over_ne {t : Nat} {e : Env} : ∀ {d : Env}, (∀ p ∈ d, p.1 ≠ t) → Env.get (d ++ e) t = Env.get e t
  | [], _ => rfl
  | (u, x) :: d, h => by
    simp only [List.cons_append, Env.get]
    rw [beq_ne (h (u, x) (by simp))]
    exact Env.get_over_ne fun p hp => h p (by simp [hp])
theorem Chain.get {e e2 : Env} {q : List Rec} (h : Chain e q e2) {t : Nat} (hd : ∀ r ∈ q, ∀ p ∈ r.d, p.1 ≠ t) : Env.get e2 t = Env.get e t := by
  induction h with
  | nil => rfl
  | cons hr hc ih =>
    rename_i e e' r rs
    rw [ih fun r' hr' => hd r' (by simp [hr']), Env.get_over_ne (hd r (by simp)), hr]
theorem Chain.unique {e e1 e2 : Env} {q : List Rec} (h : Chain e q e1) (h' : Chain e q e2) : e1 = e2 := by
  induction h with
  | nil => cases h'; rfl
  | cons hr hc ih => cases h' with | cons hr' hc' => exact ih hc'

def Pend (C : Ctx) (ops : Array Oper) (listed : Array Bool) (p : List Rec) (t : Nat) : Prop := ∃ r ∈ p, ¬ Listed listed r.i ∧ Wt C ops r.i t
def Late (C : Ctx) (ops : Array Oper) (listed : Array Bool) (q : List Rec) (t : Nat) : Prop := ∃ r ∈ q, Listed listed r.i ∧ Wt C ops r.i t

/-- Where we are, but for what comes next in the formula. -/
structure J0 (C : Ctx) (ops : Array Oper) (al : Nat) (ρ0 : Rho) (h0 : Heap) (w0 : World) (Q : Exit → Act → World → Prop) (c : List Nat) (k : Env → T) (e0 : Env)
    (listed : Array Bool) (a : Act) (w : World) (recs : List Rec) (rest : List Nat) (e : Env) (rs : List (Nat × Nat)) (ρ : Rho) (h : Heap) (σ : Nat → TV) : Prop where
  split : c = recs.map Rec.i ++ rest
  chain : Chain e0 recs e
  form : dOps C al ops.toList (some (DD C ops)) rest e rs k h
  ids : ∀ r ∈ recs, ∀ id ∈ r.ids, (r.i, id) ∈ rs
  sub : ∀ i, Listed listed i → i ∈ recs.map Rec.i
  closed : Closed ops listed
  size : listed.size = ops.size
  inv : Inv ρ0 h0 w0 C ρ h w σ a
  slots : ∀ p q e1, recs = p ++ q → Chain e0 p e1 → ∀ t, Pend C ops listed p t ∨ Late C ops listed q t ∨ σ t = Env.get e1 t
  keys : ∀ r ∈ recs, ∀ p ∈ r.d, Wt C ops r.i p.1 ∧ al.testBit p.1 = true
  vals : ∀ r ∈ recs, ∀ p ∈ r.d, ∀ t off, p.2 = .ref t off → ∀ q ∈ allocs C ops.toList, q.2 = t → Bf C ops r.i q.1
  proms : ∀ r ∈ recs, ¬ Listed listed r.i → Prom C ops ρ0 h0 w0 Q r h
  norefs : ∀ q ∈ allocs C ops.toList, ¬ Listed listed q.1 → ∀ u off, σ u ≠ .ref q.2 off
  agree : Agree al e0 e

theorem rd_at {i : Nat} {o : Oper} (h : ops[i]? = some o) : (DD C ops).rd.getD i 0 = rdMask C ops.toList o := by
  have : ops.toList[i]? = some o := by simpa using h
  simp [DD, drawOf, List.getD_eq_getElem?_getD, this]
theorem wr_at {i : Nat} {o : Oper} (h : ops[i]? = some o) : (DD C ops).wr.getD i 0 = wrMask C ops.toList o := by
  have : ops.toList[i]? = some o := by simpa using h
  simp [DD, drawOf, List.getD_eq_getElem?_getD, this]

theorem maskOf_bit : ∀ (l : List Operand) (s : Nat) (t : Nat), (l.foldl (fun s x => s ||| tmpBit x) s).testBit t = true ↔ s.testBit t = true ∨ .tmp t ∈ l
  | [], s, t => by simp
  | x :: l, s, t => by
    simp only [List.foldl_cons]
    rw [maskOf_bit l]
    simp only [Nat.testBit_or, Bool.or_eq_true, List.mem_cons]
    have : (tmpBit x).testBit t = true ↔ Operand.tmp t = x := by
      cases x with
      | tmp u => simp [tmpBit, Nat.testBit_two_pow, eq_comm]
      | _ => simp [tmpBit]
    rw [this, or_assoc]

theorem rd_operand {o : Oper} {t : Nat} (h : .tmp t ∈ o.op.operands) : (rdMask C ops.toList o).testBit t = true := by
  unfold rdMask
  simp only [Nat.testBit_or, Bool.or_eq_true]
  refine .inl (.inl ?_)
  unfold maskOf
  rw [maskOf_bit]
  exact .inr (by simpa using h)
theorem rd_guard {o : Oper} {g tg : Nat} {want : Bool} (hg : o.guard = some (g, want)) (ht : (ops.toList[g]?).bind (·.dst) = some tg) : (rdMask C ops.toList o).testBit tg = true := by
  unfold rdMask
  simp only [Nat.testBit_or, Bool.or_eq_true]
  refine .inl (.inr ?_)
  unfold guardBit
  rw [hg]
  simp only [ht, optBit, Nat.testBit_two_pow_self]
theorem wr_dst {o : Oper} {t : Nat} (h : o.dst = some t) : (wrMask C ops.toList o).testBit t = true := by
  unfold wrMask
  simp only [Nat.testBit_or, Bool.or_eq_true]
  refine .inl (.inl (.inl ?_))
  rw [h]
  simp [optBit, Nat.testBit_two_pow_self]
theorem wr_front {o : Oper} {t u : Nat} (h : front ops.toList o = some (t, u)) : (wrMask C ops.toList o).testBit t = true := by
  unfold wrMask
  simp only [Nat.testBit_or, Bool.or_eq_true]
  refine .inl (.inl (.inr ?_))
  rw [h]
  simp [Nat.testBit_two_pow_self]

theorem put_re {o : Oper} {e : Env} {x : TV} {k : Env → T} {h : Heap} (ho : put C al e o.dst x k h) : ∃ d, k (d ++ e) h ∧ (∀ h', put C al e o.dst x (fun e'' _ => e'' = d ++ e) h') ∧ (∀ p ∈ d, al.testBit p.1 = true ∧ o.dst = some p.1 ∧ p.2 = x) := by
  cases hd : o.dst with
  | none => rw [hd] at ho; exact ⟨[], ho, fun h' => rfl, by simp⟩
  | some t =>
    rw [hd] at ho
    have key : ∀ b : Bool, (match b with
        | true => k ((t, x) :: e)
        | false => no) h → b = true ∧ k ((t, x) :: e) h := by
      intro b hb
      cases b with
      | true => exact ⟨rfl, hb⟩
      | false => exact hb.elim
    unfold put at ho ⊢
    cases x with
    | var cs =>
      obtain ⟨hb, hk⟩ := key _ ho
      refine ⟨[(t, .var cs)], hk, fun h' => ?_, fun p hp => ?_⟩
      · simp only [hb]; rfl
      · simp only [Bool.and_eq_true] at hb; simp at hp; subst hp; exact ⟨hb.1.1.2, rfl, rfl⟩
    | ref u off =>
      obtain ⟨hb, hk⟩ := key _ ho
      refine ⟨[(t, .ref u off)], hk, fun h' => ?_, fun p hp => ?_⟩
      · simp only [hb]; rfl
      · simp only [Bool.and_eq_true] at hb; simp at hp; subst hp; exact ⟨hb.1.1.2, rfl, rfl⟩
    | _ =>
      obtain ⟨hb, hk⟩ := key _ ho
      refine ⟨[(t, _)], hk, fun h' => ?_, fun p hp => ?_⟩
      · simp only [hb]; rfl
      · simp only [Bool.and_eq_true] at hb; simp at hp; subst hp; exact ⟨hb.1.2, rfl, rfl⟩

/-- The head of what is left, if there is one, is loud and wanted. -/
def HeadOk (C : Ctx) (ops : Array Oper) (rest : List Nat) (e : Env) : Prop := match rest with
  | [] => True
  | i :: _ => ∃ o, ops[i]? = some o ∧ loud C ops.toList o = true ∧ (o.guard = none ∨ ∃ g want tg, o.guard = some (g, want) ∧ (ops.toList[g]?).bind (·.dst) = some tg ∧ Env.get e tg = .v (.one (.bool want)))

theorem allocs_mem {i d : Nat} {o : Oper} (ho : ops[i]? = some o) (hd : o.dst = some d) (hown : C.own.testBit d = true) : (i, d) ∈ allocs C ops.toList := by
  unfold allocs
  rw [List.mem_filterMap]
  have hi : i < ops.size := (Array.getElem?_eq_some_iff.1 ho).1
  refine ⟨i, by simpa using hi, ?_⟩
  have : ops.toList[i]? = some o := by simpa using ho
  simp only [this, hd, hown]

/-- A pure operation, wanted: its record's promise. -/
theorem prom_pure (he : EqOk C.P) {i : Nat} {o : Oper} {e e1 d : Env} {x : TV} {ids : List Nat} {h : Heap} (hoi : ops[i]? = some o) (hget : Env.get e1 = Env.get e)
    (hw : o.guard = none ∨ ∃ g want tg, o.guard = some (g, want) ∧ (ops.toList[g]?).bind (·.dst) = some tg ∧ Env.get e tg = .v (.one (.bool want)))
    (href : refsOk C ops.toList e1 o = true) (hout : (pureRes C e1 o).out h x ids) (hput : ∀ h', put C al e1 o.dst x (fun e'' _ => e'' = d ++ e1) h') :
    Prom C ops ρ0 h0 w0 Q ⟨i, e1, d, ids⟩ h := by
  intro h' hh ρ w σ a iv hσ hnr
  have hrd : ∀ t, (rdMask C ops.toList o).testBit t = true → σ t = Env.get e1 t := fun t ht => hσ t (by unfold Rd; rw [rd_at hoi]; exact ht)
  have hsame : ∀ x ∈ o.op.operands, SameAt e1 σ x := fun x hx u hu => hrd u (rd_operand (by rw [← hu]; exact hx))
  have hP := pure_sound (C := C) (o := o) (w := w) (ρ := ρ) (a := a) (n0 := w0.heap.size) iv.hr (fun x hx => (hsame x hx).opdR iv) (fun hm u t' off hu hg => by
      have hbit : (rdMask C ops.toList o).testBit t' = true ∨ (wrMask C ops.toList o).testBit t' = true ∧ ∃ ty p q, o.op = .store ty p q := by
        unfold refsOk at href
        rw [List.all_eq_true] at href
        have := href (.tmp u) (by simpa using hu)
        simp only [hg] at this
        cases hop : o.op with
        | load ty p => rw [hop] at this; exact .inl this
        | store ty p q => rw [hop] at this; exact .inr ⟨this, ty, p, q, rfl⟩
        | _ => rw [hop] at hm; cases hm
      rcases hbit with hbit | ⟨_, ty, p, q, hop⟩
      · rw [← hrd t' hbit]; exact iv.tr t'
      · exfalso
        unfold pureRes at hout
        rw [hop] at hout
        exact hout) (fun t ks cs ds us vs op x' y' => he ρ w t ks cs ds us vs op x' y') (Res.out_congr hout hh)
  have hwant : Region.wanted o (yielded ops a.tmps) = true := by
    rcases hw with hw | ⟨g, want, tg, hg, htg, hv⟩
    · exact wanted_none hw
    · have hb : a.tmps.getD tg undef = .bool want := by
        have h1 := iv.tr tg
        rw [(hσ tg (by unfold Rd; rw [rd_at hoi]; exact rd_guard hg htg)).trans ((congrFun hget tg).trans hv)] at h1
        exact h1
      rw [wanted_some hg (by simpa using htg) hb]
      cases want <;> rfl
  unfold wpOp
  simp only [hoi, hwant, if_true]
  have hnr' : ∀ d', o.dst = some d' → (∃ cs, x = .var cs) → ∀ u off, σ u ≠ .ref d' off := fun d' hd' hx' => by
    obtain ⟨cs, hx'⟩ := hx'
    refine hnr d' (allocs_mem hoi hd' ?_)
    have := hput h'
    rw [hd', hx'] at this
    simp only [put] at this
    cases hb : (d'.blt C.ntmps && al.testBit d' && C.own.testBit d' && Env.noRef d' e1) with
    | false => rw [hb] at this; exact this.elim
    | true => simp only [Bool.and_eq_true] at hb; exact hb.1.2
  refine .inl (Oper.wp_mono (fun a' w' ho => ?_) (put_pure (Q := Q) (o := o) (hput h') iv hnr' hP))
  obtain ⟨d', iv', hk, _⟩ := ho
  have : d' = d := List.append_cancel_right hk
  rw [← this]; exact iv'

/-- The front part of a literal goes over to another temporary. -/
theorem prom_front {i : Nat} {o : Oper} {e e1 dd : Env} {m : Int} {n : Nat} {h : Heap} (hoi : ops[i]? = some o) (hget : Env.get e1 = Env.get e)
    (hw : o.guard = none ∨ ∃ g want tg, o.guard = some (g, want) ∧ (ops.toList[g]?).bind (·.dst) = some tg ∧ Env.get e tg = .v (.one (.bool want)))
    (hf : frontLit C al ops.toList e1 o = some (m, n, dd)) (hm0 : 0 ≤ m) (hm1 : m ≤ n) : Prom C ops ρ0 h0 w0 Q ⟨i, e1, dd, []⟩ h := by
  intro h' hh ρ w σ a iv hσ hnr
  have hrd : ∀ t, (rdMask C ops.toList o).testBit t = true → σ t = Env.get e1 t := fun t ht => hσ t (by unfold Rd; rw [rd_at hoi]; exact ht)
  have hsame : ∀ x ∈ o.op.operands, SameAt e1 σ x := fun x hx u hu => hrd u (rd_operand (by rw [← hu]; exact hx))
  have hwant : Region.wanted o (yielded ops a.tmps) = true := by
    rcases hw with hw | ⟨g, want, tg, hg, htg, hv⟩
    · exact wanted_none hw
    · have hb : a.tmps.getD tg undef = .bool want := by
        have h1 := iv.tr tg
        rw [(hσ tg (by unfold Rd; rw [rd_at hoi]; exact rd_guard hg htg)).trans ((congrFun hget tg).trans hv)] at h1
        exact h1
      rw [wanted_some hg (by simpa using htg) hb]
      cases want <;> rfl
  unfold wpOp
  simp only [hoi, hwant, if_true]
  exact .inl (front_sound (Q := Q) hf iv hsame hm0 hm1)

/-- An operation that is passed over. -/
theorem prom_skip {i : Nat} {o : Oper} {e e1 d : Env} {h : Heap} {g tg : Nat} {want : Bool} (hoi : ops[i]? = some o) (hget : Env.get e1 = Env.get e)
    (hg : o.guard = some (g, want)) (htg : (ops.toList[g]?).bind (·.dst) = some tg) (hv : Env.get e tg = .v (.one (.bool (!want))) ∨ Env.get e tg = .tup [])
    (hput : ∀ h', put C al e1 o.dst (.tup []) (fun e'' _ => e'' = d ++ e1) h') : Prom C ops ρ0 h0 w0 Q ⟨i, e1, d, []⟩ h := by
  intro h' hh ρ w σ a iv hσ hnr
  have h1 := iv.tr tg
  rw [(hσ tg (by unfold Rd; rw [rd_at hoi]; exact rd_guard hg htg)).trans (congrFun hget tg)] at h1
  have hwant : Region.wanted o (yielded ops a.tmps) = false := by
    rcases hv with hv | hv
    · rw [hv] at h1
      have hb : a.tmps.getD tg undef = .bool (!want) := h1
      rw [wanted_some hg (by simpa using htg) hb]
      cases want <;> rfl
    · rw [hv] at h1
      exact wanted_undef hg (by simpa using htg) (tup_nil h1)
  unfold wpOp
  simp only [hoi, hwant, Bool.false_eq_true, if_false]
  obtain ⟨d', iv', hk, _⟩ := put_sound (v := undef) (hput h') iv ⟨#[], rfl, trivial⟩ rfl (by simp) (by simp)
  have : d' = d := List.append_cancel_right hk
  rw [← this]; exact iv'

end
end Go.Proofs.YtdjancoknephnaaDoorVc
