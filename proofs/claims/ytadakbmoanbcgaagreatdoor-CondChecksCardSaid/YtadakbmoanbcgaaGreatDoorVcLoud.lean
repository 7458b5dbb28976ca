/- Vc, part 14: operations that change memory tell the truth. -/
import Derived.Test.YtadakbmoanbcgaaGreatDoorVcAppend
set_option linter.unusedSimpArgs false
set_option linter.unusedVariables false
namespace Go.Proofs.YtadakbmoanbcgaaGreatDoorVc

def RetR (ρ : Rho) : List V → Value → Prop
  | [x], v => VR ρ x v
  | l, v => ∃ vs, v = .tuple vs ∧ VRs ρ l vs.toList

/-- A call of the machine's: of a function with a body, or of one for which the model stands in. -/
def Told0 (P : Program) (f : FuncId) (vs : Array Value) (w : World) (R : Value → World → Prop) : Prop :=
  ((∃ fn, P.funcs[f]? = some fn ∧ (fn.name == "runtime.NumGoroutine") = false ∧ fn.body.isNone = false) ∧ Calls P f vs w fun en w' => ∃ v, en = .returned v ∧ R v w') ∨
  ∃ v w', (callFunc f vs).run P w = .ok (.value v) w' ∧ R v w'

/-- .. or of one that has its receiver by it, which stands behind the arguments here and ahead of them there. -/
def Told (P : Program) (f : FuncId) (vs : Array Value) (w : World) (R : Value → World → Prop) : Prop := match isBnd f with
  | false => Told0 P f vs w R
  | true => ∃ (as : Array Value) (r : Value), vs = as.push r ∧ Told0 P (offB f) (#[r] ++ as) w R
theorem told_plain {P : Program} {f : FuncId} {vs : Array Value} {w : World} {R : Value → World → Prop} (h : isBnd f = false) : Told P f vs w R = Told0 P f vs w R := by unfold Told; rw [h]

theorem told_bnd {P : Program} {f : FuncId} {vs : Array Value} {w : World} {R : Value → World → Prop} (h : isBnd f = true) (ht : Told P f vs w R) : ∃ (as : Array Value) (r : Value), vs = as.push r ∧ Told0 P (offB f) (#[r] ++ as) w R := by unfold Told at ht; rw [h] at ht; exact ht

theorem Told0.mono {P : Program} {f : FuncId} {vs : Array Value} {w : World} {R R' : Value → World → Prop} (h : Told0 P f vs w R) (hr : ∀ v w', R v w' → R' v w') : Told0 P f vs w R' := by
  rcases h with ⟨hf, hc⟩ | ⟨v, w', h1, h2⟩
  · exact .inl ⟨hf, hc.mono fun en w' ⟨v, he, hv⟩ => ⟨v, he, hr v w' hv⟩⟩
  · exact .inr ⟨v, w', h1, hr v w' h2⟩

theorem Told.mono {P : Program} {f : FuncId} {vs : Array Value} {w : World} {R R' : Value → World → Prop} (h : Told P f vs w R) (hr : ∀ v w', R v w' → R' v w') : Told P f vs w R' := by
  unfold Told at h ⊢
  split at h
  · exact h.mono hr
  · obtain ⟨as, r, h1, h2⟩ := h
    exact ⟨as, r, h1, h2.mono hr⟩

/-- What is said of calls holds of the machine's. -/
def Sound (P : Program) (calls : FuncId → List V → Post → T) : Prop :=
  ∀ f args Q h, calls f args Q h → ∀ ρ w (vs : Array Value), HR ρ h w → VRs ρ args vs.toList →
    Told P f vs w fun v w' => ∃ ρ' h' rs, RetR ρ' rs v ∧ Q rs h' ∧ HR ρ' h' w' ∧ Fr ρ h w ρ' h' w'

theorem watch_out : ∀ {ws : List Nat} {h h' : Heap} {p : Prop}, watch ws h h' p → (∀ i ∈ ws, h' i = h i) ∧ p
  | [], _, _, _, hp => ⟨by simp, hp⟩
  | i :: ws, _, _, _, ⟨h1, h2⟩ => by
    obtain ⟨h3, h4⟩ := watch_out h2
    refine ⟨fun j hj => ?_, h4⟩
    rcases List.mem_cons.1 hj with rfl | hj
    · exact h1
    · exact h3 j hj

theorem over_congr {σ τ : Nat → TV} : ∀ (d : Env) (t : Nat), σ t = τ t → Env.over d σ t = Env.over d τ t
  | [], _, h => h
  | (u, x) :: d, t, h => by
    simp only [Env.over]
    cases u.beq t
    · exact over_congr d t h
    · rfl
theorem over_append (σ : Nat → TV) : ∀ (d d' : Env) (t : Nat), Env.over (d ++ d') σ t = Env.over d (Env.over d' σ) t
  | [], _, _ => rfl
  | (u, x) :: d, d', t => by
    simp only [List.cons_append, Env.over]
    cases u.beq t
    · exact over_append σ d d' t
    · rfl
theorem over_append' (σ : Nat → TV) (d d' : Env) : Env.over (d ++ d') σ = Env.over d (Env.over d' σ) := funext (over_append σ d d')

def IsLit (x : TV) : Prop := ∃ sz n cs, x = .lit sz n cs

/-- Which temporaries an operation may turn, besides its own. -/
def Turns (al : Nat) (e : Env) (o : Oper) (t : Nat) : Prop :=
  al.testBit t = true ∧ (o.dst = some t ∨ (.tmp t ∈ o.op.operands ∧ IsLit (e.get t)) ∨
    ((∃ ty x y, o.op = .store ty x y) ∧ ((∃ u off, .tmp u ∈ o.op.operands ∧ e.get u = .ref t off) ∨ (.tmp t ∈ o.op.operands ∧ ∃ cs, e.get t = .var cs))))

section
variable {ρ0 : Rho} {h0 : Heap} {w0 : World} {C : Ctx} {ρ : Rho} {h : Heap} {w : World} {σ : Nat → TV} {a : Act} {e : Env} {al : Nat}

theorem HR.pickW (hr : HR ρ h w) (ws : List Nat) : ∃ i, h i = none ∧ ρ i = none ∧ i ∉ ws := by
  obtain ⟨N, hN⟩ := hr.fresh
  have hmax : ∀ (l : List Nat), ∃ M, ∀ i ∈ l, i < M := by
    intro l
    induction l with
    | nil => exact ⟨0, by simp⟩
    | cons x l ih =>
      obtain ⟨M, hM⟩ := ih
      refine ⟨max M (x + 1), fun i hi => ?_⟩
      rcases List.mem_cons.1 hi with rfl | hi
      · omega
      · have := hM i hi; omega
  obtain ⟨M, hM⟩ := hmax ws
  obtain ⟨h1, h2⟩ := hN (max N M) (by omega)
  exact ⟨max N M, h1, h2, fun hw => by have := hM _ hw; omega⟩

def SameAt (e : Env) (σ : Nat → TV) (x : Operand) : Prop := ∀ u, x = .tmp u → σ u = e.get u

theorem SameAt.over {x : Operand} (hx : SameAt e σ x) (d : Env) : SameAt (d ++ e) (Env.over d σ) x := fun u hu => by
  rw [Env.get_append]
  exact over_congr d u (hx u hu)

theorem SameAt.opdR {x : Operand} (hx : SameAt e σ x) (iv : Inv ρ0 h0 w0 C ρ h w σ a) : OpdR e a ρ w w0.heap.size x := by
  cases x with
  | tmp u =>
    show TR _ _ _ _ (e.get u) _
    rw [← hx u rfl]
    exact iv.tr u
  | _ => trivial

theorem asV_sound {x : Operand} {t : TypeId} {k : V → Env → T} (ws : List Nat) (ho : asV al e x (opd C e t x) k h) (iv : Inv ρ0 h0 w0 C ρ h w σ a) (hx : SameAt e σ x) :
    ∃ ρ' h' d y, Inv ρ0 h0 w0 C ρ' h' w (Env.over d σ) a ∧ k y (d ++ e) h' ∧ VR ρ' y (a.eval x) ∧ ρ.le ρ' ∧ (∀ i ∈ ws, h' i = h i) ∧
      (∀ p ∈ d, al.testBit p.1 = true ∧ .tmp p.1 = x ∧ IsLit (e.get p.1) ∧ ∃ z, p.2 = .v z) := by
  unfold asV at ho
  cases hz : opd C e t x with
  | v z =>
    rw [hz] at ho
    exact ⟨ρ, h, [], z, iv, ho, opd_V (hx.opdR iv) hz, fun _ _ h => h, fun _ _ => rfl, by simp⟩
  | lit sz n cs =>
    rw [hz] at ho
    cases x with
    | tmp u =>
      simp only at ho
      cases hal : al.testBit u with
      | true =>
        rw [hal] at ho
        have hu : σ u = .lit sz n cs := by rw [hx u rfl]; exact hz
        obtain ⟨i, hi, hρ, hw⟩ := iv.hr.pickW ws
        obtain ⟨ρ', iv', hle, _⟩ := iv.mat hu hi hρ
        refine ⟨ρ', _, [(u, .v (.one (.slice sz ⟨some (i, 0), n⟩)))], _, iv', ho i hi, ?_, hle, fun j hj => Heap.set_ne _ _ (fun e => hw (e ▸ hj)), fun p hp => ?_⟩
        · have := iv'.tr u
          rw [over_one, if_pos rfl] at this
          exact this
        · simp at hp; subst hp; exact ⟨hal, rfl, ⟨sz, n, cs, hz⟩, _, rfl⟩
      | false => rw [hal] at ho; exact ho.elim
    | const v => exact ho.elim
    | global v => exact ho.elim
    | func v => exact ho.elim
  | undef => rw [hz] at ho; exact ho.elim
  | tup l => rw [hz] at ho; exact ho.elim
  | var l => rw [hz] at ho; exact ho.elim
  | ref l o => rw [hz] at ho; exact ho.elim

theorem over_lit {t : Nat} : ∀ (d : Env) (σ : Nat → TV), (∀ r ∈ d, ∃ z, r.2 = .v z) → IsLit (Env.over d σ t) → IsLit (σ t) := by
  intro d
  induction d with
  | nil => intro σ _ h; exact h
  | cons r d ih =>
    intro σ hr h
    obtain ⟨u, z⟩ := r
    simp only [Env.over] at h
    cases hb : u.beq t with
    | true =>
      rw [hb] at h
      obtain ⟨sz, n, cs, h⟩ := h
      obtain ⟨z', hz'⟩ := hr (u, z) (by simp)
      simp only at h hz'
      rw [hz'] at h
      cases h
    | false => rw [hb] at h; exact ih σ (fun r hr' => hr r (by simp [hr'])) h

theorem asVs_sound (ws : List Nat) : ∀ {l : List (Operand × TypeId)} {e : Env} {σ : Nat → TV} {ρ : Rho} {h : Heap} {k : List V → Env → T}, asVs C al l e k h → Inv ρ0 h0 w0 C ρ h w σ a → (∀ p ∈ l, SameAt e σ p.1) →
    ∃ ρ' h' d ys, Inv ρ0 h0 w0 C ρ' h' w (Env.over d σ) a ∧ k ys (d ++ e) h' ∧ VRs ρ' ys (l.map fun p => a.eval p.1) ∧ ρ.le ρ' ∧ (∀ i ∈ ws, h' i = h i) ∧
      (∀ p ∈ d, al.testBit p.1 = true ∧ (∃ q ∈ l, .tmp p.1 = q.1) ∧ IsLit (e.get p.1) ∧ ∃ z, p.2 = .v z)
  | [], e, σ, ρ, h, k, ho, iv, _ => ⟨ρ, h, [], [], iv, ho, trivial, fun _ _ h => h, fun _ _ => rfl, by simp⟩
  | (x, t) :: l, e, σ, ρ, h, k, ho, iv, hx => by
    obtain ⟨ρ1, h1, d1, y, iv1, ho1, hy, hle1, hw1, hd1⟩ := asV_sound ws ho iv (hx (x, t) (by simp))
    obtain ⟨ρ2, h2, d2, ys, iv2, ho2, hys, hle2, hw2, hd2⟩ := asVs_sound ws ho1 iv1 (fun p hp => (hx p (by simp [hp])).over d1)
    refine ⟨ρ2, h2, d2 ++ d1, y :: ys, by rw [over_append']; exact iv2, by rw [List.append_assoc]; exact ho2, ⟨hy.mono hle2, hys⟩, fun i l h => hle2 i l (hle1 i l h), fun i hi => (hw2 i hi).trans (hw1 i hi), fun p hp => ?_⟩
    rcases List.mem_append.1 hp with hp | hp
    · obtain ⟨h3, ⟨q, hq, hq2⟩, h4, h5⟩ := hd2 p hp
      refine ⟨h3, ⟨q, by simp [hq], hq2⟩, ?_⟩
      rw [Env.get_append] at h4
      exact ⟨over_lit d1 _ (fun r hr => (hd1 r hr).2.2.2) h4, h5⟩
    · obtain ⟨h3, h4, h5⟩ := hd1 p hp
      exact ⟨h3, ⟨(x, t), by simp, h4⟩, h5⟩

theorem put_sound {dst : Option Nat} {x : TV} {k : Env → T} {v : Value} (ho : put C al e dst x k h) (iv : Inv ρ0 h0 w0 C ρ h w σ a) (hx : TR ρ w w0.heap.size a.tmps x v) (hnv : privB x v = none)
    (_hxr : ∀ t off, x = .ref t off → True) (hvar : ∀ cs, x ≠ .var cs) :
    ∃ d, Inv ρ0 h0 w0 C ρ h w (Env.over d σ) (a.put dst v) ∧ k (d ++ e) h ∧ (∀ p ∈ d, al.testBit p.1 = true ∧ dst = some p.1 ∧ p.2 = x) := by
  cases dst with
  | none => exact ⟨[], iv, ho, by simp⟩
  | some d =>
    have hb : (d.blt C.ntmps = true ∧ al.testBit d = true ∧ C.own.testBit d = false) ∧ (∀ t off, x = .ref t off → C.own.testBit t = true) ∧ k ((d, x) :: e) h := by
      unfold put at ho
      cases x with
      | var cs => exact (hvar _ rfl).elim
      | ref t off =>
        simp only at ho
        cases hb : (d.blt C.ntmps && al.testBit d && !C.own.testBit d && C.own.testBit t) with
        | true =>
          rw [hb] at ho
          simp only [Bool.and_eq_true, Bool.not_eq_true'] at hb
          exact ⟨⟨hb.1.1.1, hb.1.1.2, hb.1.2⟩, fun t' off' e => by cases e; exact hb.2, ho⟩
        | false => rw [hb] at ho; exact ho.elim
      | _ =>
        simp only at ho
        cases hb : (d.blt C.ntmps && al.testBit d && !C.own.testBit d) with
        | true =>
          rw [hb] at ho
          simp only [Bool.and_eq_true, Bool.not_eq_true'] at hb
          exact ⟨⟨hb.1.1, hb.1.2, hb.2⟩, fun t' off' e => (by cases e), ho⟩
        | false => rw [hb] at ho; exact ho.elim
    obtain ⟨⟨hb1, hb2, hb3⟩, hxr, hk⟩ := hb
    refine ⟨[(d, x)], iv.put (Nat.lt_of_lt_of_le (Nat.lt_succ_self d) (Nat.le_of_ble_eq_true hb1)) hb3 hx hnv hxr, hk, fun p hp => ?_⟩
    simp at hp; subst hp; exact ⟨hb2, rfl, rfl⟩

end
end Go.Proofs.YtadakbmoanbcgaaGreatDoorVc
