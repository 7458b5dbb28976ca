/- Vc, part 16: a region in its written order. -/
import Derived.Test.YtadakbmoanbcgaaGreatDoorVcLoudMain
set_option linter.unusedSimpArgs false
set_option linter.unusedVariables false
namespace Go.Proofs.YtadakbmoanbcgaaGreatDoorVc

theorem noRef_get {d : Nat} : ∀ {e : Env}, Env.noRef d e = true → ∀ u off, e.get u ≠ .ref d off
  | [], _, u, off => by simp [Env.get]
  | (t, x) :: e, h, u, off => by
    have htl : Env.noRef d e = true ∧ ∀ off, x ≠ .ref d off := by
      unfold Env.noRef at h
      cases x with
      | ref r o' =>
        simp only at h
        cases hb : d.beq r with
        | true => rw [hb] at h; cases h
        | false => rw [hb] at h; exact ⟨h, fun off e => by cases e; simp at hb⟩
      | _ => exact ⟨h, fun off e => by cases e⟩
    simp only [Env.get]
    cases t.beq u
    · exact noRef_get htl.1 u off
    · exact htl.2 off

section
variable {ρ0 : Rho} {h0 : Heap} {w0 : World} {C : Ctx} {ρ : Rho} {h : Heap} {w : World} {a : Act} {e : Env} {al : Nat} {σ : Nat → TV}
variable {o : Oper} {Q : Exit → Act → World → Prop}

theorem turns_dst {t : Nat} (h1 : al.testBit t = true) (h2 : o.dst = some t) : Turns al e o t := ⟨h1, .inl h2⟩

/-- What a pure operation's value does to the frame. -/
theorem put_pure {x : TV} {k : Env → T} (ho : put C al e o.dst x k h) (iv : Inv ρ0 h0 w0 C ρ h w σ a) (hnr : ∀ d, o.dst = some d → (∃ cs, x = .var cs) → ∀ u off, σ u ≠ .ref d off)
    (hp : POut ρ w w0.heap.size a.tmps x ((execOp a.eval o).run C.P w)) :
    o.wp C.P a w (fun a' w' => ∃ d, Inv ρ0 h0 w0 C ρ h w' (Env.over d σ) a' ∧ k (d ++ e) h ∧ (∀ p ∈ d, al.testBit p.1 = true ∧ o.dst = some p.1 ∧ p.2 = x)) Q := by
  cases x with
  | var cs =>
    obtain ⟨c, el, hr, hcs⟩ := hp
    refine wp_value hr ?_
    cases hd : o.dst with
    | none =>
      rw [hd] at ho
      exact ⟨[], iv.step (iv.hr.push _) (Fr.push _), ho, by simp⟩
    | some d =>
      rw [hd] at ho
      simp only [put] at ho
      cases hb : (d.blt C.ntmps && al.testBit d && C.own.testBit d && Env.noRef d e) with
      | false => rw [hb] at ho; exact ho.elim
      | true =>
        rw [hb] at ho
        simp only [Bool.and_eq_true] at hb
        refine ⟨[(d, .var cs)], iv.putNew (Nat.lt_of_lt_of_le (Nat.lt_succ_self d) (Nat.le_of_ble_eq_true hb.1.1.1)) (hnr d hd ⟨cs, rfl⟩) (.inl ⟨cs, rfl, rfl, hcs⟩), ho, fun p hp => ?_⟩
        simp at hp; subst hp; exact ⟨hb.1.1.2, rfl, rfl⟩
  | lit sz n cs =>
    obtain ⟨c, el, hr, hn, hcs⟩ := hp
    refine wp_value hr ?_
    cases hd : o.dst with
    | none =>
      rw [hd] at ho
      exact ⟨[], iv.step (iv.hr.push _) (Fr.push _), ho, by simp⟩
    | some d =>
      rw [hd] at ho
      simp only [put] at ho
      cases hb : (d.blt C.ntmps && al.testBit d && !C.own.testBit d) with
      | false => rw [hb] at ho; exact ho.elim
      | true =>
        rw [hb] at ho
        simp only [Bool.and_eq_true, Bool.not_eq_true'] at hb
        refine ⟨[(d, .lit sz n cs)], iv.putNew (Nat.lt_of_lt_of_le (Nat.lt_succ_self d) (Nat.le_of_ble_eq_true hb.1.1)) (fun u off e => by have := iv.refs u d off e; rw [hb.2] at this; cases this) (.inr ⟨sz, n, cs, rfl, rfl, hn, hcs⟩), ho, fun p hp => ?_⟩
        simp at hp; subst hp; exact ⟨hb.1.2, rfl, rfl⟩
  | undef =>
    obtain ⟨v, hr, hv⟩ := hp
    obtain ⟨d, h1, h2, h3⟩ := put_sound (v := v) ho iv hv (by cases v <;> rfl) (by simp) (by simp)
    exact wp_value hr ⟨d, h1, h2, h3⟩
  | v y =>
    obtain ⟨v, hr, hv⟩ := hp
    obtain ⟨d, h1, h2, h3⟩ := put_sound (v := v) ho iv hv (by cases v <;> rfl) (by simp) (by simp)
    exact wp_value hr ⟨d, h1, h2, h3⟩
  | tup l =>
    obtain ⟨v, hr, hv⟩ := hp
    obtain ⟨d, h1, h2, h3⟩ := put_sound (v := v) ho iv hv (by cases v <;> rfl) (by simp) (by simp)
    exact wp_value hr ⟨d, h1, h2, h3⟩
  | ref t off =>
    obtain ⟨v, hr, hv⟩ := hp
    obtain ⟨d, h1, h2, h3⟩ := put_sound (v := v) ho iv hv (by cases v <;> rfl) (by simp) (by simp)
    exact wp_value hr ⟨d, h1, h2, h3⟩

/-- Outside the mask nothing turned (but that an address in what turned may be lost). -/
def Agree (al : Nat) (e e' : Env) : Prop := ∀ t, al.testBit t = false → e'.get t = e.get t ∨ ∃ r o, e.get t = .ref r o ∧ al.testBit r = true

theorem Agree.refl (al : Nat) (e : Env) : Agree al e e := fun _ _ => .inl rfl
theorem Agree.trans {e e' e'' : Env} (h : Agree al e e') (h' : Agree al e' e'') : Agree al e e'' := fun t ht => by
  rcases h t ht with h1 | h1
  · rcases h' t ht with h2 | ⟨r, o, h2, h3⟩
    · exact .inl (h2.trans h1)
    · exact .inr ⟨r, o, by rw [← h1]; exact h2, h3⟩
  · exact .inr h1
theorem agree_append {d : Env} (hd : ∀ p ∈ d, al.testBit p.1 = true) : Agree al e (d ++ e) := by
  intro t ht
  refine .inl ?_
  induction d with
  | nil => rfl
  | cons p d ih =>
    obtain ⟨u, x⟩ := p
    simp only [List.cons_append, Env.get]
    have : u.beq t = false := beq_ne fun e' => by have := hd (u, x) (by simp); simp only at this; rw [e', ht] at this; cases this
    rw [this]
    exact ih fun p hp => hd p (by simp [hp])
theorem Agree.of_get {e e1 e' : Env} (hg : e1.get = e.get) (h : Agree al e1 e') : Agree al e e' := fun t ht => by
  have := h t ht
  rw [hg] at this
  exact this

theorem Inv.congr {σ τ : Nat → TV} (iv : Inv ρ0 h0 w0 C ρ h w σ a) (e : σ = τ) : Inv ρ0 h0 w0 C ρ h w τ a := e ▸ iv

theorem front_some {ops : List Oper} {d u : Nat} (hf : front ops o = some (d, u)) : ∃ t x, o.op = .slice t (.tmp d) none (some x) none ∧ o.dst = some u := by
  unfold front at hf
  split at hf
  · rename_i t d' x u' hop hd
    split at hf
    · cases hf; exact ⟨t, x, hop, hd⟩
    · cases hf
  · cases hf

theorem frontLit_some {ops : List Oper} {m : Int} {n : Nat} {dd : Env} (hf : frontLit C al ops e o = some (m, n, dd)) : ∃ t x d u sz cs el, o.op = .slice t (.tmp d) none (some x) none ∧ o.dst = some u ∧ front ops o = some (d, u) ∧
    e.get d = .lit sz n cs ∧ getInt (opdBare e x) = some m ∧ C.P.underlying t = some (.slice el) ∧ sized C.P el sz = true ∧ 0 < sz ∧ u < C.ntmps ∧ al.testBit u = true ∧ al.testBit d = true ∧ C.own.testBit u = false ∧ u ≠ d ∧
    dd = [(u, .lit sz m.toNat cs), (d, .undef)] := by
  unfold frontLit at hf
  split at hf
  · rename_i t _ _ x _ d u hop hfr
    split at hf
    · rename_i sz n' cs m' el hg hm hu
      split at hf
      · rename_i hb
        cases hf
        obtain ⟨t', x', hop', hd⟩ := front_some hfr
        rw [hop] at hop'
        cases hop'
        simp only [Bool.and_eq_true, Bool.not_eq_true'] at hb
        obtain ⟨⟨⟨⟨⟨⟨h1, h2⟩, h3⟩, h4⟩, h5⟩, h6⟩, h7⟩ := hb
        refine ⟨t, x, d, u, sz, cs, el, hop, hd, hfr, hg, hm, hu, h1, Nat.le_of_ble_eq_true h2, Nat.lt_of_lt_of_le (Nat.lt_succ_self u) (Nat.le_of_ble_eq_true h3), h4, h5, h6, fun e => ?_, rfl⟩
        rw [e] at h7
        simp at h7
      · cases hf
    · cases hf
  · cases hf

/-- The front part of a slice literal: it goes over to another temporary. -/
theorem front_sound {ops : List Oper} {m : Int} {n : Nat} {dd : Env} (hf : frontLit C al ops e o = some (m, n, dd)) (iv : Inv ρ0 h0 w0 C ρ h w σ a) (hx : ∀ x ∈ o.op.operands, SameAt e σ x) (hm0 : 0 ≤ m) (hm1 : m ≤ n) :
    o.wp C.P a w (fun a' w' => Inv ρ0 h0 w0 C ρ h w' (Env.over dd σ) a') Q := by
  obtain ⟨t, x, d, u, sz, cs, el, hop, hd, _, hg, hm, hu, hsz, hpos, hlt, _, _, hown, hne, rfl⟩ := frontLit_some hf
  have hσ : σ d = .lit sz n cs := by rw [hx (.tmp d) (by rw [hop]; simp [Op.operands]) d rfl]; exact hg
  have htr := iv.tr d
  rw [hσ] at htr
  obtain ⟨b, c, hv, ⟨hnc, _, _⟩, _⟩ := htr
  obtain ⟨k, hk⟩ := getInt_R ((hx x (by rw [hop]; simp [Op.operands])).opdR iv) hm
  obtain ⟨inf, hinf, _⟩ := sized_info hsz
  have hb := run_sliceBounds (P := C.P) (w := w) (b := true) (len := n) (cap := c) (lo := none) (hi := some (.int k m)) (l := 0) (h := m) (.inl ⟨rfl, rfl⟩) (.inr ⟨k, rfl⟩) (Int.le_refl _) hm0 (by omega)
  have hrun : (execOp a.eval o).run C.P w = .ok (.value (.slice (some ⟨b, 0, none⟩) m.toNat c)) w := by
    unfold execOp
    rw [hop]
    have hd' : a.eval (.tmp d) = .slice (some ⟨b, 0, none⟩) n c := hv
    simp only [Sem.run_bind, Sem.run_pure, Result.andThen_ok, Option.map_none, Option.map_some, hd', hk, Instr.sliceAt, Instr.slice, run_underlying hu, hb, run_sizeOf hinf]
    simp [Addr.add]
  refine wp_value hrun ?_
  rw [hd]
  exact iv.moveLit hlt hne hown hσ hpos (by omega) hv

theorem front_keys {ops : List Oper} {m : Int} {n : Nat} {dd : Env} (hf : frontLit C al ops e o = some (m, n, dd)) :
    ∀ p ∈ dd, al.testBit p.1 = true ∧ (o.dst = some p.1 ∨ ∃ u, front ops o = some (p.1, u)) ∧ (∀ t off, p.2 ≠ .ref t off) := by
  obtain ⟨t, x, d, u, sz, cs, el, hop, hd, hfr, hg, hm, hu, hsz, hpos, hlt, h1, h2, hown, hne, rfl⟩ := frontLit_some hf
  intro p hp
  rcases List.mem_cons.1 hp with rfl | hp
  · exact ⟨h1, .inl hd, fun _ _ e => by cases e⟩
  · have hp := List.mem_singleton.1 hp
    subst hp
    exact ⟨h2, .inr ⟨u, hfr⟩, fun _ _ e => by cases e⟩

/-- One operation of a region in its written order. -/
theorem one_sound (hs : Sound C.P C.calls) (he : EqOk C.P) {ops : List Oper} {i : Nat} {rs : List (Nat × Nat)} {k : Env → List (Nat × Nat) → T} (ho : oneOp C al ops none i o e rs k h) (iv : Inv ρ0 h0 w0 C ρ h w e.get a) :
    o.wp C.P a w (fun a' w' => ∃ ρ' h' e' rs', Inv ρ0 h0 w0 C ρ' h' w' e'.get a' ∧ k e' rs' h' ∧ Agree al e e') Q := by
  unfold oneOp at ho
  cases hl : loud C ops o with
  | true =>
    rw [hl] at ho
    refine Oper.wp_mono (fun a' w' ⟨ρ', h', d, iv', hk, _, hd⟩ => ?_) (loud_sound2 (Q := Q) (σ := e.get) hs ho iv (fun x _ u _ => rfl) (fun _ u t' off _ _ => rfl))
    exact ⟨ρ', h', d ++ e, rs, iv'.congr (funext fun t => (Env.get_append d e t).symm), hk, agree_append fun p hp => (hd p hp).1.1⟩
  | false =>
    rw [hl] at ho
    simp only at ho
    cases hf : frontLit C al ops e o with
    | some q =>
    obtain ⟨m, n, d⟩ := q
    rw [hf] at ho
    obtain ⟨⟨hm0, hm1⟩, hk⟩ := ho
    refine Oper.wp_mono (fun a' w' iv' => ?_) (front_sound (Q := Q) hf iv (fun x _ u _ => rfl) hm0 hm1)
    exact ⟨ρ, h, d ++ e, _, iv'.congr (funext fun t => (Env.get_append d e t).symm), hk, agree_append fun p hp => (front_keys hf p hp).1⟩
    | none =>
    rw [hf] at ho
    simp only at ho
    obtain ⟨x, ids, hout, hp⟩ := Res.run_out ho
    simp only [checkK] at hp
    have hP := pure_sound (C := C) (o := o) iv.hr (fun x _ => (show SameAt e e.get x from fun u _ => rfl).opdR iv) (fun _ u t' off _ _ => iv.tr t') (fun t ks cs ds us vs op x' y' => he ρ w t ks cs ds us vs op x' y') hout
    refine Oper.wp_mono (fun a' w' ⟨d, iv', hk, hd⟩ => ?_) (put_pure (Q := Q) hp iv (by
      intro d hd hx u off
      obtain ⟨cs, hx⟩ := hx
      subst hx
      rw [hd] at hp
      simp only [put] at hp
      cases hb : (d.blt C.ntmps && al.testBit d && C.own.testBit d && Env.noRef d e) with
      | false => rw [hb] at hp; exact hp.elim
      | true => simp only [Bool.and_eq_true] at hb; exact noRef_get hb.2 u off) hP)
    exact ⟨ρ, h, d ++ e, _, iv'.congr (funext fun t => (Env.get_append d e t).symm), hk, agree_append fun p hp => (hd p hp).1⟩

theorem get_cons_same {t : Nat} {x : TV} (hx : e.get t = x) : Env.get ((t, x) :: e) = e.get := by
  funext u
  simp only [Env.get]
  cases hb : t.beq u with
  | true => have := Nat.eq_of_beq_eq_true hb; subst this; exact hx.symm
  | false => rfl

theorem yielded_of {ops : Array Oper} {g tg : Nat} {b : Bool} (hg : (ops[g]?).bind (·.dst) = some tg) (hb : a.tmps.getD tg undef = .bool b) : yielded ops a.tmps g = some b := by
  unfold yielded
  rw [hg]
  simp only [Option.bind_some]
  have : a.tmps[tg]? = some (.bool b) := by
    simp only [Array.getD_eq_getD_getElem?] at hb
    cases h : a.tmps[tg]? with
    | none => rw [h] at hb; simp [undef] at hb
    | some v => rw [h] at hb; simp at hb; rw [hb]
  rw [this]

theorem wanted_none {ops : Array Oper} (hg : o.guard = none) : Region.wanted o (yielded ops a.tmps) = true := by unfold Region.wanted; rw [hg]
theorem wanted_some {ops : Array Oper} {g tg : Nat} {b want : Bool} (hg : o.guard = some (g, want)) (ht : (ops[g]?).bind (·.dst) = some tg) (hb : a.tmps.getD tg undef = .bool b) : Region.wanted o (yielded ops a.tmps) = (b == want) := by
  unfold Region.wanted
  rw [hg]
  simp only [yielded_of ht hb]
  cases b <;> cases want <;> rfl

theorem tup_nil {ρ : Rho} {w : World} {n0 : Nat} {tm : Array Value} {v : Value} (h : TR ρ w n0 tm (.tup []) v) : v = undef := by
  obtain ⟨vs, rfl, hvs⟩ := h
  have hl : vs.toList = [] := by
    cases hx : vs.toList with
    | nil => rfl
    | cons x l => rw [hx] at hvs; exact hvs.elim
  obtain ⟨l⟩ := vs
  simp at hl
  subst hl
  rfl
theorem wanted_undef {ops : Array Oper} {g tg : Nat} {want : Bool} (hg : o.guard = some (g, want)) (ht : (ops[g]?).bind (·.dst) = some tg) (hb : a.tmps.getD tg undef = undef) : Region.wanted o (yielded ops a.tmps) = false := by
  have hy : yielded ops a.tmps g = none := by
    unfold yielded
    rw [ht]
    simp only [Option.bind_some]
    simp only [Array.getD_eq_getD_getElem?] at hb
    cases h : a.tmps[tg]? with
    | none => rfl
    | some v => rw [h] at hb; simp at hb; rw [hb]; rfl
  unfold Region.wanted
  rw [hg]
  simp only [hy]
  rfl

/-- The region's operations, in the order that is told. -/
theorem dOps_sound (hs : Sound C.P C.calls) (he : EqOk C.P) {ops : Array Oper} {k : Env → T} : ∀ {is : List Nat} {e : Env} {rs : List (Nat × Nat)} {ρ : Rho} {h : Heap} {w : World} {a : Act},
    dOps C al ops.toList none is e rs k h → Inv ρ0 h0 w0 C ρ h w e.get a →
    (∀ ρ' h' w' e' a', Inv ρ0 h0 w0 C ρ' h' w' e'.get a' → k e' h' → Agree al e e' → Q .normal a' w') → wpOps C.P ops Q is a w
  | [], e, rs, ρ, h, w, a, ho, iv, hQ => hQ ρ h w e a iv ho (Agree.refl _ _)
  | i :: is, e, rs, ρ, h, w, a, ho, iv, hQ => by
    simp only [dOps] at ho
    cases hoi : ops.toList[i]? with
    | none => rw [hoi] at ho; exact ho.elim
    | some o =>
      rw [hoi] at ho
      simp only at ho
      have hoi' : ops[i]? = some o := by simpa using hoi
      simp only [wpOps, hoi']
      cases hg : o.guard with
      | none =>
        rw [hg] at ho
        simp only [checkK] at ho
        rw [wanted_none hg]
        simp only [if_true]
        refine .inl (Oper.wp_mono (fun a' w' ⟨ρ', h', e', rs', iv', hk, hag⟩ => ?_) (one_sound (Q := Q) hs he ho iv))
        exact dOps_sound hs he hk iv' (fun ρ2 h2 w2 e2 a2 i2 k2 ag2 => hQ ρ2 h2 w2 e2 a2 i2 k2 (hag.trans ag2))
      | some gw =>
        obtain ⟨g, want⟩ := gw
        rw [hg] at ho
        simp only at ho
        cases hd : (ops.toList[g]?).bind (·.dst) with
        | none => rw [hd] at ho; exact ho.elim
        | some tg =>
          rw [hd] at ho
          have hd' : (ops[g]?).bind (·.dst) = some tg := by simpa using hd
          simp only at ho
          cases hv : e.get tg with
          | v y =>
            rw [hv] at ho
            cases y with
            | one c =>
              cases c with
              | bool b =>
                have hb : a.tmps.getD tg undef = .bool b := by
                  have := iv.tr tg
                  rw [hv] at this
                  exact this
                rw [wanted_some hg hd' hb]
                simp only [condK] at ho
                have hsplit : (b = want ∧ (oneOp C al ops.toList none i o ((tg, .v (.one (.bool want))) :: e) rs fun e rs => dOps C al ops.toList none is e rs k) h) ∨
                    (b = !want ∧ (put C al ((tg, .v (.one (.bool (!want)))) :: e) o.dst (.tup []) fun e => dOps C al ops.toList none is e rs k) h) := by
                  cases want <;> cases b <;> first | exact .inl ⟨rfl, ho⟩ | exact .inr ⟨rfl, ho⟩
                clear ho
                rcases hsplit with ⟨rfl, ho⟩ | ⟨rfl, ho⟩
                · have hget := get_cons_same hv
                  simp only [beq_self_eq_true, if_true]
                  refine .inl (Oper.wp_mono (fun a' w' ⟨ρ', h', e', rs', iv', hk, hag⟩ => ?_) (one_sound (Q := Q) hs he ho (iv.congr hget.symm)))
                  refine dOps_sound hs he hk iv' (fun ρ2 h2 w2 e2 a2 i2 k2 ag2 => hQ ρ2 h2 w2 e2 a2 i2 k2 ((Agree.of_get hget hag).trans ag2))
                · have hget := get_cons_same hv
                  have hne : ((!want) == want) = false := by cases want <;> rfl
                  simp only [hne, Bool.false_eq_true, if_false]
                  obtain ⟨d, iv', hk, hdk⟩ := put_sound (v := undef) ho (iv.congr hget.symm) ⟨#[], rfl, trivial⟩ rfl (by simp) (by simp)
                  refine dOps_sound hs he hk (iv'.congr (funext fun t => (Env.get_append d _ t).symm)) (fun ρ2 h2 w2 e2 a2 i2 k2 ag2 => hQ ρ2 h2 w2 e2 a2 i2 k2 ((Agree.of_get hget (agree_append fun p hp => (hdk p hp).1)).trans ag2))
              | _ => exact ho.elim
            | agg _ => exact ho.elim
          | tup l =>
            rw [hv] at ho
            cases l with
            | cons _ _ => exact ho.elim
            | nil =>
              have hb : a.tmps.getD tg undef = undef := by
                have := iv.tr tg
                rw [hv] at this
                exact tup_nil this
              rw [wanted_undef hg hd' hb]
              simp only [Bool.false_eq_true, if_false]
              obtain ⟨d, iv', hk, hdk⟩ := put_sound (v := undef) ho iv ⟨#[], rfl, trivial⟩ rfl (by simp) (by simp)
              exact dOps_sound hs he hk (iv'.congr (funext fun t => (Env.get_append d _ t).symm)) (fun ρ2 h2 w2 e2 a2 i2 k2 ag2 => hQ ρ2 h2 w2 e2 a2 i2 k2 ((agree_append fun p hp => (hdk p hp).1).trans ag2))
          | _ => rw [hv] at ho; exact ho.elim

end
end Go.Proofs.YtadakbmoanbcgaaGreatDoorVc
