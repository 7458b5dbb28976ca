/- Vc, part 18: what follows of a function's formula holds of the machine. -/
import Derived.Test.YtmjfeabnioclgaaGreatDoorVcCode
set_option linter.unusedSimpArgs false
set_option linter.unusedVariables false
namespace Go.Proofs.YtmjfeabnioclgaaGreatDoorVc

theorem exists_least (p : Nat → Prop) (h : ∃ n, p n) : ∃ n, p n ∧ ∀ m, p m → n ≤ m := by
  obtain ⟨n, hn⟩ := h
  induction n using Nat.strongRecOn with
  | _ n ih =>
    by_cases hm : ∃ m, m < n ∧ p m
    · obtain ⟨m, h1, h2⟩ := hm; exact ih m h1 h2
    · exact ⟨n, hn, fun m hm' => Nat.le_of_not_lt fun h => hm ⟨m, h, hm'⟩⟩

open Classical in
theorem wp_loop_m {P : Program} {c : Code} {Q : Exit → Act → World → Prop} {a : Act} {w : World} (I : Nat → Act → World → Prop) (h₀ : ∃ m, I m a w)
    (round : ∀ m a w, I m a w → c.wp P (Exit.then (fun a' w' => ∃ m', m' < m ∧ I m' a' w') Q) a w) : (Code.loop c).wp P Q a w := by
  refine wp_loop (fun a w => ∃ m, I m a w) (fun a w => if h : ∃ m, I m a w then Classical.choose (exists_least _ h) else 0) h₀ fun a w hI => ?_
  have hs := Classical.choose_spec (exists_least _ hI)
  refine wp_mono (round _ a w hs.1) fun e a' w' h => ?_
  cases e with
  | normal =>
    obtain ⟨m', hlt, hm'⟩ := h
    refine ⟨⟨m', hm'⟩, ?_⟩
    simp only [dif_pos hI]
    have hex : ∃ m, I m a' w' := ⟨m', hm'⟩
    rw [dif_pos hex]
    exact Nat.lt_of_le_of_lt ((Classical.choose_spec (exists_least _ hex)).2 m' hm') hlt
  | _ => exact h

section
variable {ρ0 : Rho} {h0 : Heap} {w0 : World} {C : Ctx}

def COut (ρ0 : Rho) (h0 : Heap) (w0 : World) (C : Ctx) (al : Nat) (e : Env) (X : Exits) (R k : Env → T) (en : Exit) (a' : Act) (w' : World) : Prop :=
  ∃ ρ' h' e', Inv ρ0 h0 w0 C ρ' h' w' (Env.get e') a' ∧ Agree al e e' ∧ match en with
    | .normal => k e' h'
    | .exit id => lookX id X e' h'
    | .ret => R e' h'
    | _ => False

/-- A region, whatever its order. -/
def RegionOk (C : Ctx) : Prop := ∀ ρ0 h0 w0 al id (ops : Array Oper) e k ρ h w a X R, dRegion C al ops.toList true e k h → Inv ρ0 h0 w0 C ρ h w (Env.get e) a → (Code.region id ops true).wp C.P (COut ρ0 h0 w0 C al e X R k) a w

theorem wrap_sound {c : Code} {j : Option (Nat × Js)} {al : Nat} {e : Env} {X : Exits} {R k : Env → T} {f : Nat → (Env → T) → T} {ρ : Rho} {h : Heap} {w : World} {a : Act}
    (ho : wrapJ j al e k f h) (iv : Inv ρ0 h0 w0 C ρ h w (Env.get e) a) (hf : ∀ al' k', f al' k' h → c.wp C.P (COut ρ0 h0 w0 C al' e X R k') a w) : c.wp C.P (COut ρ0 h0 w0 C al e X R k) a w := by
  cases j with
  | none => exact hf al k ho
  | some mj =>
    obtain ⟨M, js⟩ := mj
    simp only [wrapJ] at ho
    cases hb : ((M &&& al).beq M && keysIn M js) with
    | false => rw [hb] at ho; exact ho.elim
    | true =>
      rw [hb] at ho
      simp only [Bool.and_eq_true] at hb
      have := ho (fun a => k (Env.setAll js a (Env.clear M e))) (fun _ _ h => h)
      refine wp_mono (hf M _ this) fun en a' w' ⟨ρ', h', e', iv', hag, hk⟩ => ?_
      cases en with
      | normal =>
        simp only [jump] at hk
        cases hc : Env.collect js e' with
        | none => rw [hc] at hk; exact hk.elim
        | some p =>
          rw [hc] at hk
          exact ⟨ρ', h', _, iv'.join hag hb.2 hc, (agree_join hb.2).mono hb.1, hk⟩
      | exit id => exact ⟨ρ', h', e', iv', hag.mono hb.1, hk⟩
      | ret => exact ⟨ρ', h', e', iv', hag.mono hb.1, hk⟩
      | goto l => exact hk.elim
      | panic ch => exact hk.elim
      | outgrown => exact hk.elim

theorem den_sound (hs : Sound C.P C.calls) (he : EqOk C.P) (hr : RegionOk C) {A : Ann} : ∀ {c : Code} {p al : Nat} {e : Env} {X : Exits} {R k : Env → T} {ρ : Rho} {h : Heap} {w : World} {a : Act},
    den C A c p al e X R k h → Inv ρ0 h0 w0 C ρ h w (Env.get e) a → c.wp C.P (COut ρ0 h0 w0 C al e X R k) a w := by
  intro c
  induction c with
  | skip => intro p al e X R k ρ h w a ho iv; exact wp_skip ⟨ρ, h, e, iv, Agree.refl _ _, ho⟩
  | region id ops draw =>
    intro p al e X R k ρ h w a ho iv
    refine wrap_sound ho iv fun al' k' ho => ?_
    cases draw with
    | true => exact hr _ _ _ _ _ _ _ _ _ _ _ _ _ _ ho iv
    | false =>
      refine wp_region ?_
      have hl : ops.toList.length = ops.size := by simp
      simp only [dRegion, hl] at ho
      exact dOps_sound hs he ho iv fun ρ2 h2 w2 e2 a2 i2 k2 ag2 => ⟨ρ2, h2, e2, i2, ag2, k2⟩
  | seq x y ihx ihy =>
    intro p al e X R k ρ h w a ho iv
    refine wrap_sound ho iv fun al' k' ho => ?_
    refine wp_seq (wp_mono (ihx ho iv) fun en a' w' ⟨ρ', h', e', iv', hag, hk⟩ => ?_)
    cases en with
    | normal =>
      refine wp_mono (ihy hk iv') fun en2 a2 w2 ⟨ρ2, h2, e2, iv2, hag2, hk2⟩ => ⟨ρ2, h2, e2, iv2, hag.trans hag2, hk2⟩
    | exit id => exact ⟨ρ', h', e', iv', hag, hk⟩
    | ret => exact ⟨ρ', h', e', iv', hag, hk⟩
    | goto l => exact hk.elim
    | panic ch => exact hk.elim
    | outgrown => exact hk.elim
  | cond cd x y ihx ihy =>
    intro p al e X R k ρ h w a ho iv
    refine wrap_sound ho iv fun al' k' ho => ?_
    cases hc : opdBare e cd with
    | v z =>
      rw [hc] at ho
      cases z with
      | one cl =>
        cases cl with
        | bool b =>
          have hx : SameAt e (Env.get e) cd := fun u _ => rfl
          have hb : a.eval cd = .bool b := opdBare_V (hx.opdR iv) hc
          refine wp_cond hb ?_
          cases b with
          | true => exact ihx ho iv
          | false => exact ihy ho iv
        | _ => exact ho.elim
      | agg _ => exact ho.elim
    | _ => rw [hc] at ho; exact ho.elim
  | block id c ih =>
    intro p al e X R k ρ h w a ho iv
    refine wrap_sound ho iv fun al' k' ho => ?_
    refine wp_block (wp_mono (ih ho iv) fun en a' w' ⟨ρ', h', e', iv', hag, hk⟩ => ?_)
    cases en with
    | normal => exact ⟨ρ', h', e', iv', hag, hk⟩
    | exit id' =>
      simp only [Exit.inBlock]
      by_cases hid : id' = id
      · rw [if_pos hid]
        subst hid
        simp only [lookX, Nat.beq_refl] at hk
        exact ⟨ρ', h', e', iv', hag, hk⟩
      · rw [if_neg hid]
        simp only [lookX] at hk
        rw [beq_ne hid] at hk
        exact ⟨ρ', h', e', iv', hag, hk⟩
    | ret => exact ⟨ρ', h', e', iv', hag, hk⟩
    | goto l => exact hk.elim
    | panic ch => exact hk.elim
    | outgrown => exact hk.elim
  | loop c ih =>
    intro p al e X R k ρ h w a ho iv
    simp only [den] at ho
    cases hl : look p A.loops with
    | none => rw [hl] at ho; exact ho.elim
    | some mj =>
      obtain ⟨M, js⟩ := mj
      rw [hl] at ho
      simp only at ho
      cases hb : ((M &&& al).beq M && keysIn M js) with
      | false => rw [hb] at ho; exact ho.elim
      | true =>
        rw [hb] at ho
        simp only [Bool.and_eq_true] at hb
        cases hc : Env.collect js e with
        | none => rw [hc] at ho; exact ho.elim
        | some x0 =>
          rw [hc] at ho
          obtain ⟨I, ⟨m0, hI0⟩, hround⟩ := ho
          refine wp_loop_m (fun m a w => ∃ ρ h e1 x, Inv ρ0 h0 w0 C ρ h w (Env.get e1) a ∧ Agree M e e1 ∧ Env.collect js e1 = some x ∧ I x h m) ⟨m0, ρ, h, e, x0, iv, Agree.refl _ _, hc, hI0⟩ ?_
          rintro m a w ⟨ρ1, h1, e1, x, iv1, hag1, hc1, hI1⟩
          have hrd := hround x h1 m hI1
          have iv2 := iv1.join hag1 hb.2 hc1
          refine wp_mono (ih hrd iv2) fun en a' w' ⟨ρ', h', e', iv', hag, hk⟩ => ?_
          cases en with
          | normal =>
            simp only [jump] at hk
            cases hc2 : Env.collect js e' with
            | none => rw [hc2] at hk; exact hk.elim
            | some x2 =>
              rw [hc2] at hk
              obtain ⟨m', hlt, hI2⟩ := hk
              exact ⟨m', hlt, ρ', h', e', x2, iv', (agree_join hb.2).trans hag, hc2, hI2⟩
          | exit id => exact ⟨ρ', h', e', iv', ((agree_join hb.2).trans hag).mono hb.1, hk⟩
          | ret => exact ⟨ρ', h', e', iv', ((agree_join hb.2).trans hag).mono hb.1, hk⟩
          | goto l => exact hk.elim
          | panic ch => exact hk.elim
          | outgrown => exact hk.elim
  | exit id => intro p al e X R k ρ h w a ho iv; exact wp_exit ⟨ρ, h, e, iv, Agree.refl _ _, ho⟩
  | ret => intro p al e X R k ρ h w a ho iv; exact wp_ret ⟨ρ, h, e, iv, Agree.refl _ _, ho⟩
  | rangeFunc f ps as b ih1 ih2 => intro p al e X R k ρ h w a ho iv; exact ho.elim
  | scope c ih => intro p al e X R k ρ h w a ho iv; exact ho.elim
  | label l => intro p al e X R k ρ h w a ho iv; exact ho.elim
  | goto l => intro p al e X R k ρ h w a ho iv; exact ho.elim
  | refuse s => intro p al e X R k ρ h w a ho iv; exact ho.elim


/-- What a function's results are read from. -/
def resOf (a : Act) (P : Program) : ResultVar → Sem Value
  | .tmp t => pure (a.tmps.getD t undef)
  | .cell x t => do loadVar t (← asAddr (a.tmps.getD x undef))

theorem resK_sound {a : Act} {w : World} : ∀ {l : List ResultVar} {e : Env} {ρ : Rho} {h : Heap} {k : List V → T}, resK C l e k h → Inv ρ0 h0 w0 C ρ h w (Env.get e) a →
    ∃ ρ' h' xs vs, k xs h' ∧ VRs ρ' xs vs ∧ (∃ e', Inv ρ0 h0 w0 C ρ' h' w (Env.get e') a) ∧ ρ.le ρ' ∧ (l.mapM (resOf a C.P)).run C.P w = .ok vs w
  | [], e, ρ, h, k, ho, iv => ⟨ρ, h, [], [], ho, trivial, ⟨e, iv⟩, fun _ _ h => h, rfl⟩
  | .tmp t :: l, e, ρ, h, k, ho, iv => by
    simp only [resK] at ho
    have ho' : asV (2 ^ C.ntmps - 1) e (.tmp t) (opd C e 0 (.tmp t)) (fun x e => resK C l e fun xs => k (x :: xs)) h := ho
    obtain ⟨ρ1, h1, d1, y, iv1, ho1, hy, hle1, _, _⟩ := asV_sound [] ho' iv (show SameAt e (Env.get e) (.tmp t) from fun u _ => rfl)
    have iv1' : Inv ρ0 h0 w0 C ρ1 h1 w (Env.get (d1 ++ e)) a := iv1.congr (funext fun t => (Env.get_append d1 e t).symm)
    obtain ⟨ρ2, h2, xs, vs, hk, hvs, hiv, hle2, hrun⟩ := resK_sound ho1 iv1'
    refine ⟨ρ2, h2, y :: xs, a.tmps.getD t undef :: vs, hk, ⟨VR.mono hle2 hy, hvs⟩, hiv, fun i l h => hle2 i l (hle1 i l h), ?_⟩
    simp only [List.mapM_cons, Sem.run_bind, resOf, Sem.run_pure, Result.andThen_ok, hrun]
  | .cell x t :: l, e, ρ, h, k, ho, iv => by
    simp only [resK] at ho
    obtain ⟨z, ids, hout, hk⟩ := Res.run_out ho
    obtain ⟨y, v, rfl, hrun, hv⟩ := load_R (P := C.P) (x := .tmp x) iv.hr ((show SameAt e (Env.get e) (.tmp x) from fun u _ => rfl).opdR iv) (fun u t' o _ _ => iv.tr t') hout
    obtain ⟨ρ2, h2, xs, vs, hk, hvs, hiv, hle2, hrun2⟩ := resK_sound hk iv
    refine ⟨ρ2, h2, y :: xs, v :: vs, hk, ⟨VR.mono hle2 hv, hvs⟩, hiv, hle2, ?_⟩
    have hrun' : (resOf a C.P (.cell x t)).run C.P w = .ok v w := by
      have hev : a.eval (.tmp x) = a.tmps.getD x undef := rfl
      rw [hev] at hrun
      show (do loadVar t (← asAddr (a.tmps.getD x undef)) : Sem Value).run C.P w = .ok v w
      generalize a.tmps.getD x undef = u at hrun ⊢
      cases u with
      | pointer ad =>
        cases ad with
        | none => simp [Instr.loadAt, Instr.sureAddr] at hrun
        | some ad => simpa [Instr.loadAt, Instr.sureAddr, asAddr] using hrun
      | _ => simp [Instr.loadAt, Instr.sureAddr] at hrun
    simp only [List.mapM_cons, Sem.run_bind, hrun', Sem.run_pure, Result.andThen_ok, hrun2]

theorem env0_get : ∀ {args : List V} {vs : List Value} {i t : Nat} {ρ : Rho}, VRs ρ args vs → (Env.get (env0 args i) t = .undef) ∨ ∃ x v, i ≤ t ∧ Env.get (env0 args i) t = .v x ∧ vs[t - i]? = some v ∧ VR ρ x v
  | [], [], i, t, ρ, _ => .inl rfl
  | x :: xs, v :: vs, i, t, ρ, ⟨h, hs⟩ => by
    simp only [env0, Env.get]
    cases hb : i.beq t with
    | true =>
      have := Nat.eq_of_beq_eq_true hb
      subst this
      exact .inr ⟨x, v, Nat.le_refl _, rfl, by simp, h⟩
    | false =>
      have hne : i ≠ t := fun e => by rw [e, Nat.beq_refl] at hb; cases hb
      rcases env0_get (i := i + 1) (t := t) hs with h1 | ⟨y, u, h1, h2, h3, h4⟩
      · exact .inl h1
      · refine .inr ⟨y, u, by omega, h2, ?_, h4⟩
        have : t - i = (t - (i + 1)) + 1 := by omega
        rw [this]
        simpa using h3
  | [], _ :: _, _, _, _, h => h.elim
  | _ :: _, [], _, _, _, h => h.elim

end

/-- Regions that draw are served (for every frame). -/
def DrawOk (P : Program) : Prop := ∀ C : Ctx, C.P = P → Sound C.P C.calls → RegionOk C

theorem denF_sound {P : Program} (he : EqOk P) (hd : DrawOk P) {calls : FuncId → List V → Post → T} (hs : Sound P calls) {own : Nat} {A : Ann} {f : FuncId} {args : List V} {Q : Post} {h : Heap} (ho : denF P own A calls f args Q h) :
    ∀ ρ w (vs : Array Value), HR ρ h w → VRs ρ args vs.toList →
    Told P f vs w fun v w' => ∃ ρ' h' rs, RetR ρ' rs v ∧ Q rs h' ∧ HR ρ' h' w' ∧ Fr ρ h w ρ' h' w' := by
  unfold denF at ho
  cases hfn : P.funcs[f]? with
  | none => rw [hfn] at ho; exact ho.elim
  | some fn =>
    rw [hfn] at ho
    simp only at ho
    cases hb : fn.body with
    | none => rw [hb] at ho; exact ho.elim
    | some c =>
      rw [hb] at ho
      cases hn : (args.length.ble fn.ntmps && !(fn.name == "runtime.NumGoroutine")) with
      | false => rw [hn] at ho; exact ho.elim
      | true =>
        rw [hn] at ho
        simp only [Bool.and_eq_true, Bool.not_eq_true'] at hn
        refine fun ρ w vs hr hvs => .inl ⟨⟨fn, hfn, hn.2, by rw [hb]; rfl⟩, ?_⟩
        have hle := Nat.le_of_ble_eq_true hn.1
        have hlen := hvs.length
        simp at hlen
        let C : Ctx := ⟨P, f, own, fn.ntmps, calls, []⟩
        have iv : Inv ρ h w C ρ h w (Env.get (env0 args 0)) { tmps := vs ++ Array.replicate (fn.ntmps - vs.size) undef, defers := [] } := by
          refine ⟨Fr.refl _ _ _, hr, fun t => ?_, fun t t' b hne h1 h2 => ?_, fun u t off hu => ?_, by show _ = fn.ntmps; simp; omega, rfl⟩
          · rcases env0_get (i := 0) (t := t) hvs with h1 | ⟨x, v, _, h2, h3, h4⟩
            · rw [h1]; trivial
            · rw [h2]
              have h3' : vs[t]? = some v := by simpa using h3
              have hlt : t < vs.size := (Array.getElem?_eq_some_iff.1 h3').1
              have : (vs ++ Array.replicate (fn.ntmps - vs.size) undef).getD t undef = v := by
                simp only [Array.getD_eq_getD_getElem?, Array.getElem?_append_left hlt, h3', Option.getD_some]
              rw [this]
              exact h4
          · rcases env0_get (i := 0) (t := t) hvs with h3 | ⟨x, v, _, h3, _⟩ <;> rw [h3] at h1
            · cases (vs ++ Array.replicate (fn.ntmps - vs.size) undef).getD t undef <;> cases h1
            · cases h1
          · rcases env0_get (i := 0) (t := u) hvs with h3 | ⟨x, v, _, h3, _⟩ <;> rw [h3] at hu <;> cases hu
        refine calls_of_wp hfn hb (wp_mono (den_sound (C := C) hs he (hd C rfl hs) ho iv) fun en a' w' ⟨ρ', h', e', iv', _, hk⟩ => ?_)
        have hres : resK C fn.results.toList e' Q h' → a'.defers = [] ∧ ∃ v, (results fn a'.tmps).run P w' = .ok v w' ∧ ∃ v', Ending.returned v = .returned v' ∧ ∃ ρ'' h'' rs, RetR ρ'' rs v' ∧ Q rs h'' ∧ HR ρ'' h'' w' ∧ Fr ρ h w ρ'' h'' w' := by
          intro hk
          obtain ⟨ρ2, h2, xs, us, hQ, hus, ⟨e2, iv2⟩, _, hrun⟩ := resK_sound hk iv'
          have hul := hus.length
          refine ⟨iv'.defers, if h : us.length = 1 then us[0] else .tuple us.toArray, ?_, _, rfl, ρ2, h2, xs, ?_, hQ, iv2.hr, iv2.fr⟩
          · have hm : (fn.results.mapM fun r => match r with
                | ResultVar.tmp t => (pure (a'.tmps.getD t undef) : Sem Value)
                | ResultVar.cell a t => do loadVar t (← asAddr (a'.tmps.getD a undef))).run P w' = .ok us.toArray w' := by
              rw [Array.mapM_eq_mapM_toList]
              simp only [Sem.run_map]
              have : (fn.results.toList.mapM fun r => match r with
                | ResultVar.tmp t => (pure (a'.tmps.getD t undef) : Sem Value)
                | ResultVar.cell a t => do loadVar t (← asAddr (a'.tmps.getD a undef))) = fn.results.toList.mapM (resOf a' P) := by
                rfl
              rw [this, hrun]
              rfl
            show ((do
              let vs ← fn.results.mapM fun r => match r with
                | ResultVar.tmp t => (pure (a'.tmps.getD t undef) : Sem Value)
                | ResultVar.cell a t => do loadVar t (← asAddr (a'.tmps.getD a undef))
              pure (if h : vs.size = 1 then vs[0] else .tuple vs)) : Sem Value).run P w' = _
            rw [Sem.run_bind, hm]
            simp
          · match xs, us, hus with
            | [], [], _ => exact ⟨_, rfl, trivial⟩
            | [x], [u], hus => exact (show RetR ρ2 [x] u from hus.1)
            | x :: y :: xs, u :: v :: us, hus => exact ⟨(u :: v :: us).toArray, by simp, hus⟩
            | [], _ :: _, h => exact h.elim
            | _ :: _, [], h => exact h.elim
            | [_], _ :: _ :: _, h => exact h.2.elim
            | _ :: _ :: _, [_], h => exact h.2.elim
        cases en with
        | normal => exact hres hk
        | ret => exact hres hk
        | exit id => exact hk.elim
        | goto l => exact hk.elim
        | panic ch => exact hk.elim
        | outgrown => exact hk.elim

/-- Calls that follow from the functions' formulas are calls of the machine's. -/
theorem does_sound {P : Program} (he : EqOk P) (hd : DrawOk P) {prim : Prim} (hp : Sound P prim) : Sound P (Does P prim) := by
  intro f args Q h ho
  exact ho (fun f args Q h => ∀ ρ w (vs : Array Value), HR ρ h w → VRs ρ args vs.toList →
    Told P f vs w fun v w' => ∃ ρ' h' rs, RetR ρ' rs v ∧ Q rs h' ∧ HR ρ' h' w' ∧ Fr ρ h w ρ' h' w')
    (fun f args Q h hpr => hp f args Q h hpr) (fun f args Q h ⟨own, A, hden⟩ => denF_sound he hd (fun _ _ _ _ h => h) hden)

end Go.Proofs.YtmjfeabnioclgaaGreatDoorVc
