/- Vc, part 18: what follows of a function's formula holds of the machine. -/
import Derived.Test.YtadakbmoanbcgaaGreatDoorVcCode
set_option linter.unusedSimpArgs false
set_option linter.unusedVariables false
namespace Go.Proofs.YtadakbmoanbcgaaGreatDoorVc

theorem exists_least (p : Nat → Prop) (h : ∃ n, p n) : ∃ n, p n ∧ ∀ m, p m → n ≤ m := by
  obtain ⟨n, hn⟩ := h
  induction n using Nat.strongRecOn with
  | _ n ih =>
    by_cases hm : ∃ m, m < n ∧ p m
    · obtain ⟨m, h1, h2⟩ := hm; exact ih m h1 h2
    · exact ⟨n, hn, fun m hm' => Nat.le_of_not_lt fun h => hm ⟨m, h, hm'⟩⟩

open Classical in
theorem wp_loop_m {P : Program} {c : Code} {Q : Exit → Act → World → Prop} {a : Act} {w : World} (I : Nat → Act → World → Prop) (h₀ : ∃ m, I m a w)
    (round : ∀ m a w, I m a w → c.wp P (Exit.then (fun a' w' => ∃ m', m' < m ∧ I m' a' w') Q) a w) : (Code.loop c).wp P Q a w := by
  refine wp_loop (fun a w => ∃ m, I m a w) (fun a w => if h : ∃ m, I m a w then Classical.choose (exists_least _ h) else 0) h₀ fun a w hI => ?_
  have hs := Classical.choose_spec (exists_least _ hI)
  refine wp_mono (round _ a w hs.1) fun e a' w' h => ?_
  cases e with
  | normal =>
    obtain ⟨m', hlt, hm'⟩ := h
    refine ⟨⟨m', hm'⟩, ?_⟩
    simp only [dif_pos hI]
    have hex : ∃ m, I m a' w' := ⟨m', hm'⟩
    rw [dif_pos hex]
    exact Nat.lt_of_le_of_lt ((Classical.choose_spec (exists_least _ hex)).2 m' hm') hlt
  | _ => exact h

section
variable {ρ0 : Rho} {h0 : Heap} {w0 : World} {C : Ctx}

def COut (ρ0 : Rho) (h0 : Heap) (w0 : World) (C : Ctx) (al : Nat) (e : Env) (X : Exits) (R k : Env → T) (en : Exit) (a' : Act) (w' : World) : Prop :=
  ∃ ρ' h' e', Inv ρ0 h0 w0 C ρ' h' w' (Env.get e') a' ∧ Agree al e e' ∧ match en with
    | .normal => k e' h'
    | .exit id => lookX id X e' h'
    | .ret => R e' h'
    | _ => False

/-- A region, whatever its order. -/
def RegionOk (C : Ctx) : Prop := ∀ ρ0 h0 w0 al id (ops : Array Oper) e k ρ h w a X R, dRegion C al ops.toList true e k h → Inv ρ0 h0 w0 C ρ h w (Env.get e) a → (Code.region id ops true).wp C.P (COut ρ0 h0 w0 C al e X R k) a w

theorem wrap_sound {c : Code} {j : Option (Nat × Js)} {al : Nat} {e : Env} {X : Exits} {R k : Env → T} {f : Nat → (Env → T) → T} {ρ : Rho} {h : Heap} {w : World} {a : Act}
    (ho : wrapJ j al e k f h) (iv : Inv ρ0 h0 w0 C ρ h w (Env.get e) a) (hf : ∀ al' k', f al' k' h → c.wp C.P (COut ρ0 h0 w0 C al' e X R k') a w) : c.wp C.P (COut ρ0 h0 w0 C al e X R k) a w := by
  cases j with
  | none => exact hf al k ho
  | some mj =>
    obtain ⟨M, js⟩ := mj
    simp only [wrapJ] at ho
    cases hb : ((M &&& al).beq M && keysIn M js) with
    | false => rw [hb] at ho; exact ho.elim
    | true =>
      rw [hb] at ho
      simp only [Bool.and_eq_true] at hb
      have := ho (fun a => k (Env.setAll js a (Env.clear M e))) (fun _ _ h => h)
      refine wp_mono (hf M _ this) fun en a' w' ⟨ρ', h', e', iv', hag, hk⟩ => ?_
      cases en with
      | normal =>
        simp only [jump] at hk
        cases hc : Env.collect js e' with
        | none => rw [hc] at hk; exact hk.elim
        | some p =>
          rw [hc] at hk
          exact ⟨ρ', h', _, iv'.join hag hb.2 hc, (agree_join hb.2).mono hb.1, hk⟩
      | exit id => exact ⟨ρ', h', e', iv', hag.mono hb.1, hk⟩
      | ret => exact ⟨ρ', h', e', iv', hag.mono hb.1, hk⟩
      | goto l => exact hk.elim
      | panic ch => exact hk.elim
      | outgrown => exact hk.elim

theorem den_sound (hs : Sound C.P C.calls) (he : EqOk C.P) (hr : RegionOk C) {A : Ann} : ∀ {c : Code} {p al : Nat} {e : Env} {X : Exits} {R k : Env → T} {ρ : Rho} {h : Heap} {w : World} {a : Act},
    den C A c p al e X R k h → Inv ρ0 h0 w0 C ρ h w (Env.get e) a → c.wp C.P (COut ρ0 h0 w0 C al e X R k) a w := by
  intro c
  induction c with
  | skip => intro p al e X R k ρ h w a ho iv; exact wp_skip ⟨ρ, h, e, iv, Agree.refl _ _, ho⟩
  | region id ops draw =>
    intro p al e X R k ρ h w a ho iv
    refine wrap_sound ho iv fun al' k' ho => ?_
    cases draw with
    | true => exact hr _ _ _ _ _ _ _ _ _ _ _ _ _ _ ho iv
    | false =>
      refine wp_region ?_
      have hl : ops.toList.length = ops.size := by simp
      simp only [dRegion, hl] at ho
      exact dOps_sound hs he ho iv fun ρ2 h2 w2 e2 a2 i2 k2 ag2 => ⟨ρ2, h2, e2, i2, ag2, k2⟩
  | seq x y ihx ihy =>
    intro p al e X R k ρ h w a ho iv
    refine wrap_sound ho iv fun al' k' ho => ?_
    refine wp_seq (wp_mono (ihx ho iv) fun en a' w' ⟨ρ', h', e', iv', hag, hk⟩ => ?_)
    cases en with
    | normal =>
      refine wp_mono (ihy hk iv') fun en2 a2 w2 ⟨ρ2, h2, e2, iv2, hag2, hk2⟩ => ⟨ρ2, h2, e2, iv2, hag.trans hag2, hk2⟩
    | exit id => exact ⟨ρ', h', e', iv', hag, hk⟩
    | ret => exact ⟨ρ', h', e', iv', hag, hk⟩
    | goto l => exact hk.elim
    | panic ch => exact hk.elim
    | outgrown => exact hk.elim
  | cond cd x y ihx ihy =>
    intro p al e X R k ρ h w a ho iv
    refine wrap_sound ho iv fun al' k' ho => ?_
    cases hc : opdBare e cd with
    | v z =>
      rw [hc] at ho
      cases z with
      | one cl =>
        cases cl with
        | bool b =>
          have hx : SameAt e (Env.get e) cd := fun u _ => rfl
          have hb : a.eval cd = .bool b := opdBare_V (hx.opdR iv) hc
          refine wp_cond hb ?_
          cases b with
          | true => exact ihx ho iv
          | false => exact ihy ho iv
        | _ => exact ho.elim
      | agg _ => exact ho.elim
    | _ => rw [hc] at ho; exact ho.elim
  | block id c ih =>
    intro p al e X R k ρ h w a ho iv
    refine wrap_sound ho iv fun al' k' ho => ?_
    refine wp_block (wp_mono (ih ho iv) fun en a' w' ⟨ρ', h', e', iv', hag, hk⟩ => ?_)
    cases en with
    | normal => exact ⟨ρ', h', e', iv', hag, hk⟩
    | exit id' =>
      simp only [Exit.inBlock]
      by_cases hid : id' = id
      · rw [if_pos hid]
        subst hid
        simp only [lookX, Nat.beq_refl] at hk
        exact ⟨ρ', h', e', iv', hag, hk⟩
      · rw [if_neg hid]
        simp only [lookX] at hk
        rw [beq_ne hid] at hk
        exact ⟨ρ', h', e', iv', hag, hk⟩
    | ret => exact ⟨ρ', h', e', iv', hag, hk⟩
    | goto l => exact hk.elim
    | panic ch => exact hk.elim
    | outgrown => exact hk.elim
  | loop c ih =>
    intro p al e X R k ρ h w a ho iv
    simp only [den] at ho
    cases hl : look p A.loops with
    | none => rw [hl] at ho; exact ho.elim
    | some mj =>
      obtain ⟨M, js⟩ := mj
      rw [hl] at ho
      simp only at ho
      cases hb : ((M &&& al).beq M && keysIn M js) with
      | false => rw [hb] at ho; exact ho.elim
      | true =>
        rw [hb] at ho
        simp only [Bool.and_eq_true] at hb
        cases hc : Env.collect js e with
        | none => rw [hc] at ho; exact ho.elim
        | some x0 =>
          rw [hc] at ho
          obtain ⟨I, ⟨m0, hI0⟩, hround⟩ := ho
          refine wp_loop_m (fun m a w => ∃ ρ h e1 x, Inv ρ0 h0 w0 C ρ h w (Env.get e1) a ∧ Agree M e e1 ∧ Env.collect js e1 = some x ∧ I x h m) ⟨m0, ρ, h, e, x0, iv, Agree.refl _ _, hc, hI0⟩ ?_
          rintro m a w ⟨ρ1, h1, e1, x, iv1, hag1, hc1, hI1⟩
          have hrd := hround x h1 m hI1
          have iv2 := iv1.join hag1 hb.2 hc1
          refine wp_mono (ih hrd iv2) fun en a' w' ⟨ρ', h', e', iv', hag, hk⟩ => ?_
          cases en with
          | normal =>
            simp only [jump] at hk
            cases hc2 : Env.collect js e' with
            | none => rw [hc2] at hk; exact hk.elim
            | some x2 =>
              rw [hc2] at hk
              obtain ⟨m', hlt, hI2⟩ := hk
              exact ⟨m', hlt, ρ', h', e', x2, iv', (agree_join hb.2).trans hag, hc2, hI2⟩
          | exit id => exact ⟨ρ', h', e', iv', ((agree_join hb.2).trans hag).mono hb.1, hk⟩
          | ret => exact ⟨ρ', h', e', iv', ((agree_join hb.2).trans hag).mono hb.1, hk⟩
          | goto l => exact hk.elim
          | panic ch => exact hk.elim
          | outgrown => exact hk.elim
  | exit id => intro p al e X R k ρ h w a ho iv; exact wp_exit ⟨ρ, h, e, iv, Agree.refl _ _, ho⟩
  | ret => intro p al e X R k ρ h w a ho iv; exact wp_ret ⟨ρ, h, e, iv, Agree.refl _ _, ho⟩
  | rangeFunc f ps as b ih1 ih2 => intro p al e X R k ρ h w a ho iv; exact ho.elim
  | scope c ih => intro p al e X R k ρ h w a ho iv; exact ho.elim
  | label l => intro p al e X R k ρ h w a ho iv; exact ho.elim
  | goto l => intro p al e X R k ρ h w a ho iv; exact ho.elim
  | refuse s => intro p al e X R k ρ h w a ho iv; exact ho.elim


/-- What a function's results are read from. -/
def resOf (a : Act) (P : Program) : ResultVar → Sem Value
  | .tmp t => pure (a.tmps.getD t undef)
  | .cell x t => do loadVar t (← asAddr (a.tmps.getD x undef))

theorem resK_sound {a : Act} {w : World} : ∀ {l : List ResultVar} {e : Env} {ρ : Rho} {h : Heap} {k : List V → T}, resK C l e k h → Inv ρ0 h0 w0 C ρ h w (Env.get e) a →
    ∃ ρ' h' xs vs, k xs h' ∧ VRs ρ' xs vs ∧ (∃ e', Inv ρ0 h0 w0 C ρ' h' w (Env.get e') a) ∧ ρ.le ρ' ∧ (l.mapM (resOf a C.P)).run C.P w = .ok vs w
  | [], e, ρ, h, k, ho, iv => ⟨ρ, h, [], [], ho, trivial, ⟨e, iv⟩, fun _ _ h => h, rfl⟩
  | .tmp t :: l, e, ρ, h, k, ho, iv => by
    simp only [resK] at ho
    have ho' : asV (2 ^ C.ntmps - 1) e (.tmp t) (opd C e 0 (.tmp t)) (fun x e => resK C l e fun xs => k (x :: xs)) h := ho
    obtain ⟨ρ1, h1, d1, y, iv1, ho1, hy, hle1, _, _⟩ := asV_sound [] ho' iv (show SameAt e (Env.get e) (.tmp t) from fun u _ => rfl)
    have iv1' : Inv ρ0 h0 w0 C ρ1 h1 w (Env.get (d1 ++ e)) a := iv1.congr (funext fun t => (Env.get_append d1 e t).symm)
    obtain ⟨ρ2, h2, xs, vs, hk, hvs, hiv, hle2, hrun⟩ := resK_sound ho1 iv1'
    refine ⟨ρ2, h2, y :: xs, a.tmps.getD t undef :: vs, hk, ⟨VR.mono hle2 hy, hvs⟩, hiv, fun i l h => hle2 i l (hle1 i l h), ?_⟩
    simp only [List.mapM_cons, Sem.run_bind, resOf, Sem.run_pure, Result.andThen_ok, hrun]
  | .cell x t :: l, e, ρ, h, k, ho, iv => by
    simp only [resK] at ho
    obtain ⟨z, ids, hout, hk⟩ := Res.run_out ho
    obtain ⟨y, v, rfl, hrun, hv⟩ := load_R (P := C.P) (x := .tmp x) iv.hr ((show SameAt e (Env.get e) (.tmp x) from fun u _ => rfl).opdR iv) (fun u t' o _ _ => iv.tr t') hout
    obtain ⟨ρ2, h2, xs, vs, hk, hvs, hiv, hle2, hrun2⟩ := resK_sound hk iv
    refine ⟨ρ2, h2, y :: xs, v :: vs, hk, ⟨VR.mono hle2 hv, hvs⟩, hiv, hle2, ?_⟩
    have hrun' : (resOf a C.P (.cell x t)).run C.P w = .ok v w := by
      have hev : a.eval (.tmp x) = a.tmps.getD x undef := rfl
      rw [hev] at hrun
      show (do loadVar t (← asAddr (a.tmps.getD x undef)) : Sem Value).run C.P w = .ok v w
      generalize a.tmps.getD x undef = u at hrun ⊢
      cases u with
      | pointer ad =>
        cases ad with
        | none => simp [Instr.loadAt, Instr.sureAddr] at hrun
        | some ad => simpa [Instr.loadAt, Instr.sureAddr, asAddr] using hrun
      | _ => simp [Instr.loadAt, Instr.sureAddr] at hrun
    simp only [List.mapM_cons, Sem.run_bind, hrun', Sem.run_pure, Result.andThen_ok, hrun2]

theorem env0_get : ∀ {args : List V} {vs : List Value} {i t : Nat} {ρ : Rho}, VRs ρ args vs → (Env.get (env0 args i) t = .undef) ∨ ∃ x v, i ≤ t ∧ Env.get (env0 args i) t = .v x ∧ vs[t - i]? = some v ∧ VR ρ x v
  | [], [], i, t, ρ, _ => .inl rfl
  | x :: xs, v :: vs, i, t, ρ, ⟨h, hs⟩ => by
    simp only [env0, Env.get]
    cases hb : i.beq t with
    | true =>
      have := Nat.eq_of_beq_eq_true hb
      subst this
      exact .inr ⟨x, v, Nat.le_refl _, rfl, by simp, h⟩
    | false =>
      have hne : i ≠ t := fun e => by rw [e, Nat.beq_refl] at hb; cases hb
      rcases env0_get (i := i + 1) (t := t) hs with h1 | ⟨y, u, h1, h2, h3, h4⟩
      · exact .inl h1
      · refine .inr ⟨y, u, by omega, h2, ?_, h4⟩
        have : t - i = (t - (i + 1)) + 1 := by omega
        rw [this]
        simpa using h3
  | [], _ :: _, _, _, _, h => h.elim
  | _ :: _, [], _, _, _, h => h.elim

end

/-- Regions that draw are served (for every frame). -/
def DrawOk (P : Program) : Prop := ∀ C : Ctx, C.P = P → Sound C.P C.calls → RegionOk C

theorem denF_sound {P : Program} (he : EqOk P) (hd : DrawOk P) {calls : FuncId → List V → Post → T} (hs : Sound P calls) {own : Nat} {A : Ann} {f : FuncId} {args : List V} {Q : Post} {h : Heap} (ho : denF P own A calls f args Q h) :
    ∀ ρ w (vs : Array Value), HR ρ h w → VRs ρ args vs.toList →
    Told P f vs w fun v w' => ∃ ρ' h' rs, RetR ρ' rs v ∧ Q rs h' ∧ HR ρ' h' w' ∧ Fr ρ h w ρ' h' w' := by
  unfold denF at ho
  cases hfn : P.funcs[f]? with
  | none => rw [hfn] at ho; exact ho.elim
  | some fn =>
    rw [hfn] at ho
    simp only at ho
    cases hb : fn.body with
    | none => rw [hb] at ho; exact ho.elim
    | some c =>
      rw [hb] at ho
      cases hn : (args.length.ble fn.ntmps && !(fn.name == "runtime.NumGoroutine") && !isBnd f) with
      | false => rw [hn] at ho; exact ho.elim
      | true =>
        rw [hn] at ho
        simp only [Bool.and_eq_true, Bool.not_eq_true'] at hn
        obtain ⟨hn, hbf⟩ := hn
        refine fun ρ w vs hr hvs => ?_
        rw [told_plain hbf]
        refine .inl ⟨⟨fn, hfn, hn.2, by rw [hb]; rfl⟩, ?_⟩
        have hle := Nat.le_of_ble_eq_true hn.1
        have hlen := hvs.length
        simp at hlen
        let C : Ctx := ⟨P, f, own, fn.ntmps, calls, []⟩
        have iv : Inv ρ h w C ρ h w (Env.get (env0 args 0)) { tmps := vs ++ Array.replicate (fn.ntmps - vs.size) undef, defers := [] } := by
          refine ⟨Fr.refl _ _ _, hr, fun t => ?_, fun t t' b hne h1 h2 => ?_, fun u t off hu => ?_, by show _ = fn.ntmps; simp; omega, rfl⟩
          · rcases env0_get (i := 0) (t := t) hvs with h1 | ⟨x, v, _, h2, h3, h4⟩
            · rw [h1]; trivial
            · rw [h2]
              have h3' : vs[t]? = some v := by simpa using h3
              have hlt : t < vs.size := (Array.getElem?_eq_some_iff.1 h3').1
              have : (vs ++ Array.replicate (fn.ntmps - vs.size) undef).getD t undef = v := by
                simp only [Array.getD_eq_getD_getElem?, Array.getElem?_append_left hlt, h3', Option.getD_some]
              rw [this]
              exact h4
          · rcases env0_get (i := 0) (t := t) hvs with h3 | ⟨x, v, _, h3, _⟩ <;> rw [h3] at h1
            · cases (vs ++ Array.replicate (fn.ntmps - vs.size) undef).getD t undef <;> cases h1
            · cases h1
          · rcases env0_get (i := 0) (t := u) hvs with h3 | ⟨x, v, _, h3, _⟩ <;> rw [h3] at hu <;> cases hu
        refine calls_of_wp hfn hb (wp_mono (den_sound (C := C) hs he (hd C rfl hs) ho iv) fun en a' w' ⟨ρ', h', e', iv', _, hk⟩ => ?_)
        have hres : resK C fn.results.toList e' Q h' → a'.defers = [] ∧ ∃ v, (results fn a'.tmps).run P w' = .ok v w' ∧ ∃ v', Ending.returned v = .returned v' ∧ ∃ ρ'' h'' rs, RetR ρ'' rs v' ∧ Q rs h'' ∧ HR ρ'' h'' w' ∧ Fr ρ h w ρ'' h'' w' := by
          intro hk
          obtain ⟨ρ2, h2, xs, us, hQ, hus, ⟨e2, iv2⟩, _, hrun⟩ := resK_sound hk iv'
          have hul := hus.length
          refine ⟨iv'.defers, if h : us.length = 1 then us[0] else .tuple us.toArray, ?_, _, rfl, ρ2, h2, xs, ?_, hQ, iv2.hr, iv2.fr⟩
          · have hm : (fn.results.mapM fun r => match r with
                | ResultVar.tmp t => (pure (a'.tmps.getD t undef) : Sem Value)
                | ResultVar.cell a t => do loadVar t (← asAddr (a'.tmps.getD a undef))).run P w' = .ok us.toArray w' := by
              rw [Array.mapM_eq_mapM_toList]
              simp only [Sem.run_map]
              have : (fn.results.toList.mapM fun r => match r with
                | ResultVar.tmp t => (pure (a'.tmps.getD t undef) : Sem Value)
                | ResultVar.cell a t => do loadVar t (← asAddr (a'.tmps.getD a undef))) = fn.results.toList.mapM (resOf a' P) := by
                rfl
              rw [this, hrun]
              rfl
            show ((do
              let vs ← fn.results.mapM fun r => match r with
                | ResultVar.tmp t => (pure (a'.tmps.getD t undef) : Sem Value)
                | ResultVar.cell a t => do loadVar t (← asAddr (a'.tmps.getD a undef))
              pure (if h : vs.size = 1 then vs[0] else .tuple vs)) : Sem Value).run P w' = _
            rw [Sem.run_bind, hm]
            simp
          · match xs, us, hus with
            | [], [], _ => exact ⟨_, rfl, trivial⟩
            | [x], [u], hus => exact (show RetR ρ2 [x] u from hus.1)
            | x :: y :: xs, u :: v :: us, hus => exact ⟨(u :: v :: us).toArray, by simp, hus⟩
            | [], _ :: _, h => exact h.elim
            | _ :: _, [], h => exact h.elim
            | [_], _ :: _ :: _, h => exact h.2.elim
            | _ :: _ :: _, [_], h => exact h.2.elim
        cases en with
        | normal => exact hres hk
        | ret => exact hres hk
        | exit id => exact hk.elim
        | goto l => exact hk.elim
        | panic ch => exact hk.elim
        | outgrown => exact hk.elim

/-! ### calls that are put off -/
def QuietDs (P : Program) (ds : List Deferred) : Prop := ∀ d ∈ ds, ∀ w, ∃ fv cap f args, d.target = .fn fv cap ∧ (invoke d.target d.args).run P w = .ok (.enter f args) w ∧
  CallsD P f args .returning w fun e u' w' => (∃ v, e = .returned v) ∧ u' = .returning ∧ w' = w
theorem leaves_quiet {P : Program} {fn : Func} {tmps : Array Value} {R : Ending → World → Prop} {w : World} {v : Value} (hr : (results fn tmps).run P w = .ok v w) (hR : R (.returned v) w) :
    ∀ ds : List Deferred, QuietDs P ds → Leaves P fn tmps R ds .returning w
  | [], _ => ⟨v, hr, hR⟩
  | d :: ds, hq => by
    obtain ⟨fv, cap, f, args, h1, h2, h3⟩ := hq d (List.mem_cons_self ..) w
    refine ⟨by simp, fv, cap, f, args, h1, h2, h3.mono fun e u' w' ⟨⟨v', he⟩, hu, hw⟩ => ?_⟩
    subst he hu hw
    exact leaves_quiet hr hR ds fun d hd => hq d (List.mem_cons_of_mem _ hd)
theorem wp_reQ {P : Program} {o : Oper} {a : Act} {w : World} {K : Act → World → Prop} {Q Q' : Exit → Act → World → Prop} (h1 : ∀ ch a w, Q' (.panic ch) a w → Q (.panic ch) a w) (h2 : LetsOut Q' → LetsOut Q) (hh : o.wp P a w K Q') : o.wp P a w K Q := by
  unfold Oper.wp at *
  generalize (execOp a.eval o).run P w = r at *
  cases r with
  | ok n w' => cases n with
    | enter f args =>
      refine Calls.mono hh fun e w'' hr => ?_
      cases e with
      | returned v => exact hr
      | panicked ch => exact h1 _ _ _ hr
      | outgrown => exact h2 hr
    | _ => exact hh
  | halt x w' => cases x with
    | panic v => exact h1 _ _ _ hh
    | _ => exact hh
theorem wpOps_append {P : Program} {ops : Array Oper} {Q : Exit → Act → World → Prop} {js : List Nat} : ∀ {is : List Nat} {a : Act} {w : World},
    wpOps P ops (fun e a w => match e with | .normal => wpOps P ops Q js a w | e => Q e a w) is a w → wpOps P ops Q (is ++ js) a w
  | [], a, w, h => h
  | i :: is, a, w, h => by
    simp only [List.cons_append, wpOps] at h ⊢
    cases ho : ops[i]? with
    | none => rw [ho] at h; exact wpOps_append h
    | some o =>
      rw [ho] at h
      simp only at h ⊢
      split
      · rename_i hw
        rw [if_pos hw] at h
        rcases h with h | ⟨h, a1, w1, hq⟩
        · exact .inl (wp_reQ (fun _ _ _ h => h) (fun ⟨a, w, h⟩ => ⟨a, w, h⟩) (Oper.wp_mono (fun a w h => wpOps_append h) h))
        · exact .inr ⟨h, a1, w1, hq⟩
      · rename_i hw
        rw [if_neg hw] at h
        exact wpOps_append h

section
variable {ρ0 : Rho} {h0 : Heap} {w0 : World} {C : Ctx}
def COutD (ρ0 : Rho) (h0 : Heap) (w0 : World) (C : Ctx) (R k : Env → T) (en : Exit) (a' : Act) (w' : World) : Prop :=
  ∃ ds, QuietDs C.P ds ∧ ∃ ρ' h' e', Inv ρ0 h0 w0 { C with dfs := ds } ρ' h' w' (Env.get e') a' ∧ match en with
    | .normal => k e' h'
    | .ret => R e' h'
    | _ => False
theorem cout_D {al : Nat} {e : Env} {R k : Env → T} {ds : List Deferred} (hq : QuietDs C.P ds) {en : Exit} {a' : Act} {w' : World} (h : COut ρ0 h0 w0 { C with dfs := ds } al e [] R k en a' w') : COutD ρ0 h0 w0 C R k en a' w' := by
  obtain ⟨ρ', h', e', iv, _, hk⟩ := h
  refine ⟨ds, hq, ρ', h', e', iv, ?_⟩
  cases en with
  | normal => exact hk
  | ret => exact hk
  | exit id => exact hk.elim
  | goto l => exact hk.elim
  | panic ch => exact hk.elim
  | outgrown => exact hk.elim
theorem lastOff_at {ops : Array Oper} {f : Operand} {n : Nat} (h : lastOff ops.toList = some (f, n)) : ∃ o, ops[n]? = some o ∧ ops.size = n + 1 ∧ deferOf o = some f := by
  unfold lastOff at h
  split at h
  · rename_i o l hr
    split at h
    · rename_i f' hf
      cases h
      have e : ops.toList = l.reverse ++ [o] := by rw [← List.reverse_reverse ops.toList, hr, List.reverse_cons]
      have hl : ops.size = l.length + 1 := by rw [← Array.length_toList, e]; simp
      refine ⟨o, ?_, hl, hf⟩
      rw [← Array.getElem?_toList, e, List.getElem?_append_right (by simp)]
      simp
    · cases h
  · cases h
theorem deferOf_op {o : Oper} {f : Operand} (h : deferOf o = some f) : o.guard = none ∧ o.dst = none ∧ ∃ args argTypes, o.op = .defer { callee := .value f, args, argTypes } ∧ args = #[] := by
  unfold deferOf at h
  split at h
  · rename_i f' args argTypes hg hd hop
    split at h
    · rename_i ha
      cases h
      exact ⟨hg, hd, args, argTypes, hop, Array.toList_eq_nil_iff.1 ha⟩
    · cases h
  · cases h
/-- The call is put off. -/
theorem off_step (hC : C.dfs = []) {ops : Array Oper} {f : Operand} {n : Nat} (hl : lastOff ops.toList = some (f, n)) {e : Env} {k : List Deferred → T} {ρ : Rho} {h : Heap} {w : World} {a : Act} (ho : putOff C.P (opdBare e f) k h)
    (iv : Inv ρ0 h0 w0 C ρ h w (Env.get e) a) {Q : Exit → Act → World → Prop} (hQ : ∀ ds a', QuietDs C.P ds → Inv ρ0 h0 w0 { C with dfs := ds } ρ h w (Env.get e) a' → k ds h → Q .normal a' w) : wpOps C.P ops Q [n] a w := by
  obtain ⟨o, hoi, _, hdo⟩ := lastOff_at hl
  obtain ⟨hg, hd, args, argTypes, hop, rfl⟩ := deferOf_op hdo
  simp only [wpOps, hoi]
  rw [wanted_none hg]
  simp only [if_true]
  unfold putOff at ho
  cases hf : isFn (opdBare e f) with
  | none => rw [hf] at ho; exact ho.elim
  | some fo => cases fo with
  | none => rw [hf] at ho; exact ho.elim
  | some gc =>
    obtain ⟨g, caps⟩ := gc
    rw [hf] at ho
    simp only at ho
    cases hbg : isBnd g with
    | true => rw [hbg] at ho; exact ho.elim
    | false =>
    rw [hbg] at ho
    obtain ⟨⟨⟨fn, hfn, hname, hbody⟩, hquiet⟩, hk⟩ := ho
    have hfv : CR ρ (.func (some (g, caps))) (a.eval f) := by
      unfold isFn at hf
      split at hf
      · rename_i g' hg'
        have hgf : g' = some (g, caps) := Option.some.inj hf
        have hx : SameAt e (Env.get e) f := fun u _ => rfl
        have hc : CR ρ (.func g') (a.eval f) := opdBare_V (hx.opdR iv) hg'
        rw [hgf] at hc; exact hc
      · cases hf
    obtain ⟨vs, hev, hcaps⟩ := hfv
    rw [fnV_plain hbg] at hev
    refine .inl ?_
    unfold Oper.wp
    have hrun : (execOp a.eval o).run C.P w = .ok (.defer { target := .fn (.func g) vs, args := #[] }) w := by
      unfold execOp
      rw [hop]
      simp only [resolve, Sem.run_bind, Sem.run_pure, Result.andThen_ok, hev, Deferred.ofValue, List.map_toArray, List.map_nil, Array.append_empty]
    rw [hrun, Oper.upon_defer, hd]
    refine hQ [{ target := .fn (.func g) vs, args := #[] }] _ (fun d hdm w' => ?_) ?_ (hk _)
    · rw [List.mem_singleton.1 hdm]
      refine ⟨.func g, vs, g, vs, rfl, ?_, hquiet vs w' ?_⟩
      · simp only [invoke, Array.empty_append]
        simp only [callFunc, Sem.run_bind, Sem.run_pure, Result.andThen_ok, run_program, hfn, hname, hbody, Bool.false_eq_true, if_false, Sem.run_ite]
      · have := hcaps.1.vrs.length
        simpa using this.symm
    · exact ⟨iv.fr, iv.hr, iv.tr, iv.dis, iv.refs, iv.size, by show _ :: a.defers = _; rw [iv.defers, hC]⟩
theorem denD_sound (hs : Sound C.P C.calls) (he : EqOk C.P) (hd : DrawOk C.P) (hC : C.dfs = []) {A : Ann} : ∀ {c : Code} {p al : Nat} {e : Env} {R k : Env → T} {ρ : Rho} {h : Heap} {w : World} {a : Act},
    denD C A c p al e R k h → Inv ρ0 h0 w0 C ρ h w (Env.get e) a → c.wp C.P (COutD ρ0 h0 w0 C R k) a w := by
  have hCC : { C with dfs := [] } = C := by cases C; simp only at hC; rw [hC]
  intro c
  induction c with
  | seq x y ihx ihy =>
    intro p al e R k ρ h w a ho iv
    simp only [denD] at ho
    cases hj : look p A.joins with
    | some m => rw [hj] at ho; exact ho.elim
    | none =>
      rw [hj] at ho
      simp only at ho
      have tail : ∀ {ds : List Deferred} {ρ' h' w' e' a'}, QuietDs C.P ds → Inv ρ0 h0 w0 { C with dfs := ds } ρ' h' w' (Env.get e') a' → den { C with dfs := ds } A y (2 * p + 1) al e' [] R k h' → y.wp C.P (COutD ρ0 h0 w0 C R k) a' w' := fun {ds ρ' h' w' e' a'} hq iv' hk =>
        wp_mono (den_sound (C := { C with dfs := ds }) hs he (hd _ rfl hs) hk iv') fun en a2 w2 h2 => cout_D hq h2
      refine wp_seq ?_
      cases hx : endsOff x with
      | some t =>
        obtain ⟨ops, f, n⟩ := t
        rw [hx] at ho
        simp only at ho
        unfold endsOff at hx
        split at hx
        · rename_i id ops'
          split at hx
          · rename_i f' n' hl
            cases hx
            obtain ⟨o, _, hsz, _⟩ := lastOff_at hl
            refine wp_region ?_
            rw [hsz, List.range_succ]
            refine wpOps_append (dOps_sound hs he ho iv fun ρ2 h2 w2 e2 a2 i2 k2 ag2 => ?_)
            refine off_step hC hl k2 i2 fun ds a3 hq iv3 hk => ?_
            exact tail hq iv3 hk
          · cases hx
        · cases hx
      | none =>
        rw [hx] at ho
        simp only at ho
        cases hoff : offIn x with
        | true =>
          rw [hoff] at ho
          refine wp_mono (ihx ho iv) fun en a' w' ⟨ds, hq, ρ', h', e', iv', hk⟩ => ?_
          cases en with
          | normal => exact tail hq iv' (hk ds)
          | ret => exact ⟨ds, hq, ρ', h', e', iv', hk⟩
          | exit id => exact hk.elim
          | goto l => exact hk.elim
          | panic ch => exact hk.elim
          | outgrown => exact hk.elim
        | false =>
          rw [hoff] at ho
          refine wp_mono (den_sound hs he (hd _ rfl hs) ho iv) fun en a' w' ⟨ρ', h', e', iv', _, hk⟩ => ?_
          cases en with
          | normal => exact ihy hk iv'
          | ret => exact ⟨[], (fun d hd => by cases hd), ρ', h', e', by rw [hCC]; exact iv', hk⟩
          | exit id => exact hk.elim
          | goto l => exact hk.elim
          | panic ch => exact hk.elim
          | outgrown => exact hk.elim
  | _ => intro p al e R k ρ h w a ho iv; exact ho.elim
end

theorem start_inv {P : Program} {own : Nat} {calls : FuncId → List V → Post → T} {f : FuncId} {args : List V} {h : Heap} {ρ : Rho} {w : World} {vs : Array Value} {n : Nat} (hr : HR ρ h w) (hvs : VRs ρ args vs.toList) (hle : args.length ≤ n) :
    Inv ρ h w ⟨P, f, own, n, calls, []⟩ ρ h w (Env.get (env0 args 0)) { tmps := vs ++ Array.replicate (n - vs.size) undef, defers := [] } := by
  have hlen := hvs.length
  simp at hlen
  refine ⟨Fr.refl _ _ _, hr, fun t => ?_, fun t t' b hne h1 h2 => ?_, fun u t off hu => ?_, by show _ = n; simp; omega, rfl⟩
  · rcases env0_get (i := 0) (t := t) hvs with h1 | ⟨x, v, _, h2, h3, h4⟩
    · rw [h1]; trivial
    · rw [h2]
      have h3' : vs[t]? = some v := by simpa using h3
      have hlt : t < vs.size := (Array.getElem?_eq_some_iff.1 h3').1
      have : (vs ++ Array.replicate (n - vs.size) undef).getD t undef = v := by
        simp only [Array.getD_eq_getD_getElem?, Array.getElem?_append_left hlt, h3', Option.getD_some]
      rw [this]
      exact h4
  · rcases env0_get (i := 0) (t := t) hvs with h3 | ⟨x, v, _, h3, _⟩ <;> rw [h3] at h1
    · cases (vs ++ Array.replicate (n - vs.size) undef).getD t undef <;> cases h1
    · cases h1
  · rcases env0_get (i := 0) (t := u) hvs with h3 | ⟨x, v, _, h3, _⟩ <;> rw [h3] at hu <;> cases hu

theorem end_res {P : Program} {own : Nat} {calls : FuncId → List V → Post → T} {f : FuncId} {ρ ρ' : Rho} {h h' : Heap} {w w' : World} {n : Nat} {ds : List Deferred} {fn : Func} {e' : Env} {a' : Act} {Q : Post}
    (iv' : Inv ρ h w ⟨P, f, own, n, calls, ds⟩ ρ' h' w' (Env.get e') a') (hk : resK ⟨P, f, own, n, calls, ds⟩ fn.results.toList e' Q h') :
    ∃ v, (results fn a'.tmps).run P w' = .ok v w' ∧ ∃ ρ'' h'' rs, RetR ρ'' rs v ∧ Q rs h'' ∧ HR ρ'' h'' w' ∧ Fr ρ h w ρ'' h'' w' := by
  obtain ⟨ρ2, h2, xs, us, hQ, hus, ⟨e2, iv2⟩, _, hrun⟩ := resK_sound hk iv'
  have hul := hus.length
  refine ⟨if h : us.length = 1 then us[0] else .tuple us.toArray, ?_, ρ2, h2, xs, ?_, hQ, iv2.hr, iv2.fr⟩
  · have hm : (fn.results.mapM fun r => match r with
        | ResultVar.tmp t => (pure (a'.tmps.getD t undef) : Sem Value)
        | ResultVar.cell a t => do loadVar t (← asAddr (a'.tmps.getD a undef))).run P w' = .ok us.toArray w' := by
      rw [Array.mapM_eq_mapM_toList]
      simp only [Sem.run_map]
      have : (fn.results.toList.mapM fun r => match r with
        | ResultVar.tmp t => (pure (a'.tmps.getD t undef) : Sem Value)
        | ResultVar.cell a t => do loadVar t (← asAddr (a'.tmps.getD a undef))) = fn.results.toList.mapM (resOf a' P) := by
        rfl
      rw [this, hrun]
      rfl
    show ((do
      let vs ← fn.results.mapM fun r => match r with
        | ResultVar.tmp t => (pure (a'.tmps.getD t undef) : Sem Value)
        | ResultVar.cell a t => do loadVar t (← asAddr (a'.tmps.getD a undef))
      pure (if h : vs.size = 1 then vs[0] else .tuple vs)) : Sem Value).run P w' = _
    rw [Sem.run_bind, hm]
    simp
  · match xs, us, hus with
    | [], [], _ => exact ⟨_, rfl, trivial⟩
    | [x], [u], hus => exact (show RetR ρ2 [x] u from hus.1)
    | x :: y :: xs, u :: v :: us, hus => exact ⟨(u :: v :: us).toArray, by simp, hus⟩
    | [], _ :: _, h => exact h.elim
    | _ :: _, [], h => exact h.elim
    | [_], _ :: _ :: _, h => exact h.2.elim
    | _ :: _ :: _, [_], h => exact h.2.elim


/-- The end of a formula does not ask what was put off. -/
theorem resK_dfs {C : Ctx} {ds : List Deferred} : ∀ {l : List ResultVar} {e : Env} {k : List V → T}, resK { C with dfs := ds } l e k = resK C l e k
  | [], e, k => rfl
  | .tmp t :: l, e, k => by
    simp only [resK]
    congr 1
    funext x e
    exact resK_dfs
  | .cell a t :: l, e, k => by
    simp only [resK]
    congr 1
    funext x ids
    cases x with
    | v x => exact resK_dfs
    | _ => rfl
theorem denFD_sound {P : Program} (he : EqOk P) (hd : DrawOk P) {calls : FuncId → List V → Post → T} (hs : Sound P calls) {own : Nat} {A : Ann} {f : FuncId} {args : List V} {Q : Post} {h : Heap} (ho : denFD P own A calls f args Q h) :
    ∀ ρ w (vs : Array Value), HR ρ h w → VRs ρ args vs.toList →
    Told P f vs w fun v w' => ∃ ρ' h' rs, RetR ρ' rs v ∧ Q rs h' ∧ HR ρ' h' w' ∧ Fr ρ h w ρ' h' w' := by
  unfold denFD at ho
  cases hfn : P.funcs[f]? with
  | none => rw [hfn] at ho; exact ho.elim
  | some fn =>
    rw [hfn] at ho
    simp only at ho
    cases hb : fn.body with
    | none => rw [hb] at ho; exact ho.elim
    | some c =>
      rw [hb] at ho
      cases hn : (args.length.ble fn.ntmps && !(fn.name == "runtime.NumGoroutine") && !isBnd f) with
      | false => rw [hn] at ho; exact ho.elim
      | true =>
        rw [hn] at ho
        simp only [Bool.and_eq_true, Bool.not_eq_true'] at hn
        obtain ⟨hn, hbf⟩ := hn
        refine fun ρ w vs hr hvs => ?_
        rw [told_plain hbf]
        refine .inl ⟨⟨fn, hfn, hn.2, by rw [hb]; rfl⟩, ?_⟩
        have hle := Nat.le_of_ble_eq_true hn.1
        have iv := start_inv (P := P) (own := own) (calls := calls) (f := f) hr hvs hle
        refine calls_of_wp_defers hfn hb (wp_mono (denD_sound (C := ⟨P, f, own, fn.ntmps, calls, []⟩) hs he hd rfl ho iv) fun en a' w' ⟨ds, hq, ρ', h', e', iv', hk⟩ => ?_)
        have fin : resK ⟨P, f, own, fn.ntmps, calls, []⟩ fn.results.toList e' Q h' → Leaves P fn a'.tmps (fun e w'' => ∃ v, e = .returned v ∧ ∃ ρ' h' rs, RetR ρ' rs v ∧ Q rs h' ∧ HR ρ' h' w'' ∧ Fr ρ h w ρ' h' w'') a'.defers .returning w' := fun hk => by
          obtain ⟨v, h1, h2⟩ := end_res (fn := fn) iv' (by rw [← resK_dfs (ds := ds)] at hk; exact hk)
          rw [iv'.defers]
          exact leaves_quiet h1 ⟨v, rfl, h2⟩ ds hq
        cases en with
        | normal => exact fin hk
        | ret => exact fin hk
        | exit id => exact hk.elim
        | goto l => exact hk.elim
        | panic ch => exact hk.elim
        | outgrown => exact hk.elim

theorem VRs_snoc {ρ : Rho} : ∀ {as : List V} {r : V} {vs : List Value}, VRs ρ (as ++ [r]) vs → ∃ us u, vs = us ++ [u] ∧ VRs ρ as us ∧ VR ρ r u
  | [], r, [u], h => ⟨[], u, rfl, trivial, h.1⟩
  | [], r, [], h => h.elim
  | [], r, _ :: _ :: _, h => h.2.elim
  | a :: as, r, v :: vs, h => by
    obtain ⟨us, u, h1, h2, h3⟩ := VRs_snoc (as := as) h.2
    exact ⟨v :: us, u, by rw [h1]; rfl, ⟨h.1, h2⟩, h3⟩
  | _ :: _, r, [], h => h.elim
/-- Calls that follow from the functions' formulas are calls of the machine's. -/
theorem does_sound {P : Program} (he : EqOk P) (hd : DrawOk P) {prim : Prim} (hp : Sound P prim) : Sound P (Does P prim) := by
  intro f args Q h ho
  exact ho (fun f args Q h => ∀ ρ w (vs : Array Value), HR ρ h w → VRs ρ args vs.toList →
    Told P f vs w fun v w' => ∃ ρ' h' rs, RetR ρ' rs v ∧ Q rs h' ∧ HR ρ' h' w' ∧ Fr ρ h w ρ' h' w')
    (fun f args Q h hpr => hp f args Q h hpr) (fun f args Q h ⟨own, A, hden⟩ => denF_sound he hd (fun _ _ _ _ h => h) hden) (fun f args Q h ⟨own, A, hden⟩ => denFD_sound he hd (fun _ _ _ _ h => h) hden)
    fun f r args Q h hbf ho ρ w vs hr hvs => by
      obtain ⟨⟨l⟩, u, rfl, h1, h2⟩ : ∃ (as : Array Value) (u : Value), vs = as.push u ∧ VRs ρ args as.toList ∧ VR ρ r u := by
        obtain ⟨l⟩ := vs
        obtain ⟨l1, u, h3, h4, h5⟩ := VRs_snoc hvs
        simp only at h3
        subst h3
        exact ⟨l1.toArray, u, by simp, h4, h5⟩
      have := ho ρ w (#[u] ++ l.toArray) hr (by simpa using (show VRs ρ (r :: args) (u :: l) from ⟨h2, h1⟩))
      rw [told_plain hbf] at this
      unfold Told
      rw [isBnd_on]
      exact ⟨_, u, rfl, by rw [off_on]; exact this⟩

end Go.Proofs.YtadakbmoanbcgaaGreatDoorVc
