/- Vc, part 22: regions that draw their order: the whole. -/
import Derived.Test.YtdjancoknephnaaDoorVcDraw3
set_option linter.unusedSimpArgs false
set_option linter.unusedVariables false
namespace Go.Proofs.YtdjancoknephnaaDoorVc

section
variable {C : Ctx} {ops : Array Oper} {al : Nat} {ρ0 : Rho} {h0 : Heap} {w0 : World} {Q : Exit → Act → World → Prop} {c : List Nat} {k : Env → T} {e0 : Env}
variable {listed : Array Bool} {a : Act} {w : World} {recs : List Rec} {rest : List Nat} {e : Env} {rs : List (Nat × Nat)} {ρ : Rho} {h : Heap} {σ : Nat → TV}

theorem J0.fresh (hO : Order C ops c) {i : Nat} (J : J0 C ops al ρ0 h0 w0 Q c k e0 listed a w recs (i :: rest) e rs ρ h σ) : ¬ Listed listed i ∧ i ∉ recs.map Rec.i := by
  have := (hO.1 _ _ _ J.split).new
  exact ⟨fun hl => this (J.sub i hl), this⟩

/-- One more record. -/
theorem J0.push (hO : Order C ops c) {r : Rec} {rs' : List (Nat × Nat)} (J : J0 C ops al ρ0 h0 w0 Q c k e0 listed a w recs (r.i :: rest) e rs ρ h σ) (hre : r.e.get = Env.get e)
    (hform : dOps C al ops.toList (some (DD C ops)) rest (r.d ++ r.e) rs' k h) (hkeys : ∀ p ∈ r.d, Wt C ops r.i p.1 ∧ al.testBit p.1 = true)
    (hvals : ∀ p ∈ r.d, ∀ t off, p.2 = .ref t off → ∀ q ∈ allocs C ops.toList, q.2 = t → Bf C ops r.i q.1) (hprom : Prom C ops ρ0 h0 w0 Q r h)
    (hids : ∀ id ∈ r.ids, (r.i, id) ∈ rs') (hrs : ∀ x ∈ rs, x ∈ rs') : J0 C ops al ρ0 h0 w0 Q c k e0 listed a w (recs ++ [r]) rest (r.d ++ r.e) rs' ρ h σ where
  split := by rw [J.split]; simp
  chain := J.chain.append (.cons hre (.nil _))
  form := hform
  ids := fun x hx id hid => by
    rcases List.mem_append.1 hx with hx | hx
    · exact hrs _ (J.ids x hx id hid)
    · simp at hx; subst hx; exact hids id hid
  sub := fun i hi => by rw [List.map_append]; exact List.mem_append_left _ (J.sub i hi)
  closed := J.closed
  size := J.size
  inv := J.inv
  slots := fun p q e1 hpq hc t => by
    rcases List.eq_nil_or_concat q with hq | ⟨q', x, hq⟩
    · subst hq
      have hp : p = recs ++ [r] := by simpa using hpq.symm
      subst hp
      have he1 : e1 = r.d ++ r.e := Chain.unique hc (J.chain.append (.cons hre (.nil _)))
      by_cases hw : Wt C ops r.i t
      · exact .inl ⟨r, by simp, (J.fresh hO).1, hw⟩
      · rw [he1, Env.get_over_ne fun p hp e => hw (by rw [← e]; exact (hkeys p hp).1), hre]
        rcases J.slots recs [] e (by simp) J.chain t with ⟨y, hy, h1, h2⟩ | ⟨y, hy, _⟩ | h1
        · exact .inl ⟨y, by simp [hy], h1, h2⟩
        · cases hy
        · exact .inr (.inr h1)
    · simp only [List.concat_eq_append] at hq
      rw [hq, ← List.append_assoc] at hpq
      have h3 := List.append_inj' hpq rfl
      have h4 : r = x := by simpa using h3.2
      subst h4
      rcases J.slots p q' e1 h3.1 hc t with h1 | ⟨y, hy, h1, h2⟩ | h1
      · exact .inl h1
      · exact .inr (.inl ⟨y, by rw [hq]; simp [hy], h1, h2⟩)
      · exact .inr (.inr h1)
  keys := fun x hx => by
    rcases List.mem_append.1 hx with hx | hx
    · exact J.keys x hx
    · simp at hx; subst hx; exact hkeys
  vals := fun x hx => by
    rcases List.mem_append.1 hx with hx | hx
    · exact J.vals x hx
    · simp at hx; subst hx; exact hvals
  proms := fun x hx hl => by
    rcases List.mem_append.1 hx with hx | hx
    · exact J.proms x hx hl
    · simp at hx; subst hx; exact hprom
  norefs := J.norefs
  agree := J.agree.trans (Agree.of_get hre (agree_append fun p hp => (hkeys p hp).2))

theorem dOps_head {i : Nat} (ho : dOps C al ops.toList (some (DD C ops)) (i :: rest) e rs k h) : ∃ o, ops[i]? = some o ∧
    ((∃ e1, Env.get e1 = Env.get e ∧ (o.guard = none ∨ ∃ g want tg, o.guard = some (g, want) ∧ (ops.toList[g]?).bind (·.dst) = some tg ∧ Env.get e tg = .v (.one (.bool want))) ∧ refsOk C ops.toList e1 o = true ∧
        oneOp C al ops.toList (some (DD C ops)) i o e1 rs (fun e rs => dOps C al ops.toList (some (DD C ops)) rest e rs k) h) ∨
      (∃ e1 g tg want, Env.get e1 = Env.get e ∧ o.guard = some (g, want) ∧ (ops.toList[g]?).bind (·.dst) = some tg ∧ (Env.get e tg = .v (.one (.bool (!want))) ∨ Env.get e tg = .tup []) ∧
        put C al e1 o.dst (.tup []) (fun e => dOps C al ops.toList (some (DD C ops)) rest e rs k) h)) := by
  simp only [dOps] at ho
  have hck : ∀ {D : Draw} {b : Bool} {kk : T}, checkK (some D) b kk h → b = true ∧ kk h := fun {D b kk} hh => by
    cases b with
    | true => exact ⟨rfl, hh⟩
    | false => exact hh.elim
  cases hoi : ops.toList[i]? with
  | none => rw [hoi] at ho; exact ho.elim
  | some o =>
    rw [hoi] at ho
    simp only at ho
    refine ⟨o, by simpa using hoi, ?_⟩
    cases hg : o.guard with
    | none =>
      rw [hg] at ho
      simp only at ho
      obtain ⟨h1, h2⟩ := hck ho
      exact .inl ⟨e, rfl, .inl rfl, h1, h2⟩
    | some gw =>
      obtain ⟨g, want⟩ := gw
      rw [hg] at ho
      simp only at ho
      cases hd : (ops.toList[g]?).bind (·.dst) with
      | none => rw [hd] at ho; exact ho.elim
      | some tg =>
        rw [hd] at ho
        simp only at ho
        cases hv : Env.get e tg with
        | v y =>
          rw [hv] at ho
          cases y with
          | one cl =>
            cases cl with
            | bool b =>
              simp only [condK] at ho
              have hsplit : (b = want ∧ checkK (some (DD C ops)) (refsOk C ops.toList ((tg, .v (.one (.bool want))) :: e) o) (oneOp C al ops.toList (some (DD C ops)) i o ((tg, .v (.one (.bool want))) :: e) rs fun e rs => dOps C al ops.toList (some (DD C ops)) rest e rs k) h) ∨
                  (b = !want ∧ (put C al ((tg, .v (.one (.bool (!want)))) :: e) o.dst (.tup []) fun e => dOps C al ops.toList (some (DD C ops)) rest e rs k) h) := by
                cases want <;> cases b <;> first | exact .inl ⟨rfl, ho⟩ | exact .inr ⟨rfl, ho⟩
              clear ho
              rcases hsplit with ⟨rfl, ho⟩ | ⟨rfl, ho⟩
              · obtain ⟨h1, h2⟩ := hck ho
                exact .inl ⟨_, get_cons_same hv, .inr ⟨g, b, tg, rfl, hd, hv⟩, h1, h2⟩
              · exact .inr ⟨_, g, tg, want, get_cons_same hv, rfl, hd, .inl hv, ho⟩
            | _ => exact ho.elim
          | agg _ => exact ho.elim
        | tup l =>
          rw [hv] at ho
          cases l with
          | cons _ _ => exact ho.elim
          | nil => exact .inr ⟨e, g, tg, want, rfl, rfl, hd, .inr hv, ho⟩
        | _ => rw [hv] at ho; exact ho.elim

/-- What is not loud is dealt with at once. -/
theorem consume (he : EqOk C.P) (hO : Order C ops c) : ∀ (rest : List Nat) (recs : List Rec) (e : Env) (rs : List (Nat × Nat)), J0 C ops al ρ0 h0 w0 Q c k e0 listed a w recs rest e rs ρ h σ →
    ∃ recs' rest' e' rs', J0 C ops al ρ0 h0 w0 Q c k e0 listed a w recs' rest' e' rs' ρ h σ ∧ HeadOk C ops rest' e' := by
  intro rest
  induction rest with
  | nil => intro recs e rs J; exact ⟨recs, [], e, rs, J, trivial⟩
  | cons i rest ih =>
    intro recs e rs J
    obtain ⟨o, hoi, hh⟩ := dOps_head J.form
    rcases hh with ⟨e1, hget, hw, href, hone⟩ | ⟨e1, g, tg, want, hget, hg, htg, hv, hput⟩
    · unfold oneOp at hone
      cases hl : loud C ops.toList o with
      | true => exact ⟨recs, i :: rest, e, rs, J, o, hoi, hl, hw⟩
      | false =>
        rw [hl] at hone
        simp only at hone
        cases hf : frontLit C al ops.toList e1 o with
        | some q =>
        obtain ⟨m, n, d⟩ := q
        rw [hf] at hone
        obtain ⟨⟨hm0, hm1⟩, hform⟩ := hone
        refine ih (recs ++ [⟨i, e1, d, []⟩]) (d ++ e1) _ (J0.push (r := ⟨i, e1, d, []⟩) hO J hget hform (fun p hp => ⟨?_, (front_keys hf p hp).1⟩) (fun p hp t off ht y hy hyt => absurd ht ((front_keys hf p hp).2.2 t off)) (prom_front hoi hget hw hf hm0 hm1) (fun id hid => by cases hid) (fun x hx => hx))
        unfold Wt
        rw [wr_at hoi]
        rcases (front_keys hf p hp).2.1 with h1 | ⟨u, h1⟩
        · exact wr_dst h1
        · exact wr_front h1
        | none =>
        rw [hf] at hone
        simp only at hone
        obtain ⟨x, ids, hout, hck⟩ := Res.run_out hone
        have hck' : refNew C ops.toList (some (DD C ops)) i x = true ∧ put C al e1 o.dst x (fun e => dOps C al ops.toList (some (DD C ops)) rest e (rs ++ ids.map fun id => (i, id)) k) h := by
          cases hb : refNew C ops.toList (some (DD C ops)) i x with
          | true => rw [hb] at hck; exact ⟨rfl, hck⟩
          | false => rw [hb] at hck; exact hck.elim
        obtain ⟨hnew, hput⟩ := hck'
        obtain ⟨d, hform, hre, hkeys⟩ := put_re hput
        refine ih (recs ++ [⟨i, e1, d, ids⟩]) (d ++ e1) _ (J0.push (r := ⟨i, e1, d, ids⟩) hO J hget hform (fun p hp => ⟨?_, (hkeys p hp).1⟩) (fun p hp t off ht y hy hyt => ?_) (prom_pure he hoi hget hw href hout hre) (fun id hid => ?_) (fun x hx => List.mem_append_left _ hx))
        · unfold Wt; rw [wr_at hoi]; exact wr_dst (hkeys p hp).2.1
        · rw [(hkeys p hp).2.2] at ht
          unfold refNew at hnew
          rw [ht] at hnew
          simp only [List.all_eq_true] at hnew
          have := hnew y hy
          rw [hyt] at this
          simpa [Bf] using this
        · exact List.mem_append_right _ (List.mem_map_of_mem hid)
    · obtain ⟨d, hform, hre, hkeys⟩ := put_re hput
      refine ih (recs ++ [⟨i, e1, d, []⟩]) (d ++ e1) _ (J0.push (r := ⟨i, e1, d, []⟩) hO J hget hform (fun p hp => ⟨?_, (hkeys p hp).1⟩) (fun p hp t off ht y hy hyt => ?_) (prom_skip hoi hget hg htg hv hre) (fun id hid => by cases hid) (fun x hx => hx))
      · unfold Wt; rw [wr_at hoi]; exact wr_dst (hkeys p hp).2.1
      · rw [(hkeys p hp).2.2] at ht; cases ht

theorem against {D : Draw} {i : Nat} : ∀ {rs : List (Nat × Nat)} {j id : Nat}, (j, id) ∈ rs → (D.b.getD i 0).testBit j = true ∨ id ∈ idsGo D i rs
  | (j', id') :: rs, j, id, hm => by
    simp only [idsGo]
    rcases List.mem_cons.1 hm with h1 | h1
    · cases h1
      cases hb : (D.b.getD i 0).testBit j' with
      | true => exact .inl rfl
      | false => exact .inr List.mem_cons_self
    · rcases against (D := D) (i := i) h1 with h2 | h2
      · exact .inl h2
      · refine .inr ?_
        cases (D.b.getD i 0).testBit j' with
        | true => exact h2
        | false => exact List.mem_cons_of_mem _ h2

theorem wr_lit {o : Oper} {e1 : Env} {t : Nat} (hl : loud C ops.toList o = true) (href : refsOk C ops.toList e1 o = true) (hm : .tmp t ∈ o.op.operands) (hx : IsLit (Env.get e1 t)) : (wrMask C ops.toList o).testBit t = true := by
  unfold refsOk at href
  rw [List.all_eq_true] at href
  have := href (.tmp t) (by simpa using hm)
  obtain ⟨sz, n, cs, hx⟩ := hx
  simp only [hx, hl] at this
  simpa using this
theorem wr_store {o : Oper} {e1 : Env} {t u off : Nat} (hs : ∃ ty x y, o.op = .store ty x y) (href : refsOk C ops.toList e1 o = true) (hm : .tmp u ∈ o.op.operands) (hx : Env.get e1 u = .ref t off) : (wrMask C ops.toList o).testBit t = true := by
  unfold refsOk at href
  rw [List.all_eq_true] at href
  have := href (.tmp u) (by simpa using hm)
  obtain ⟨ty, x, y, hop⟩ := hs
  simp only [hx, hop] at this
  exact this
theorem wr_var {o : Oper} {e1 : Env} {t : Nat} (hs : ∃ ty x y, o.op = .store ty x y) (href : refsOk C ops.toList e1 o = true) (hm : .tmp t ∈ o.op.operands) (hx : ∃ cs, Env.get e1 t = .var cs) : (wrMask C ops.toList o).testBit t = true := by
  unfold refsOk at href
  rw [List.all_eq_true] at href
  have := href (.tmp t) (by simpa using hm)
  obtain ⟨ty, x, y, hop⟩ := hs
  obtain ⟨cs, hx⟩ := hx
  simp only [hx, hop] at this
  exact this

/-- The loud operation at the head is carried out. -/
theorem exec_loud (hs : Sound C.P C.calls) (hO : Order C ops c) {i : Nat} (J : J0 C ops al ρ0 h0 w0 Q c k e0 listed a w recs (i :: rest) e rs ρ h σ) (hh : HeadOk C ops (i :: rest) e) (hrd : i ∈ Region.ready .any ops listed) :
    wpOp C.P ops Q i (fun a' w' => ∃ recs' e' ρ' h' σ', J0 C ops al ρ0 h0 w0 Q c k e0 (listed.setIfInBounds i true) a' w' recs' rest e' rs ρ' h' σ') a w := by
  obtain ⟨o, hoi, hlt, hl, hed⟩ := ready_mem hrd
  obtain ⟨o1, ho1, hloud, hwt⟩ := hh
  rw [hoi] at ho1; cases ho1
  obtain ⟨o2, ho2, hd⟩ := dOps_head J.form
  rw [hoi] at ho2; cases ho2
  have hok : OkAt C ops.toList (DD C ops) (recs.map Rec.i) i := hO.1 _ _ _ J.split
  rcases hd with ⟨e1, hget, hw, href, hone⟩ | ⟨e1, g, tg, want, hget, hg, htg, hv, hput⟩
  · unfold oneOp at hone
    rw [hloud] at hone
    simp only at hone
    have heq : ∀ t, (rdMask C ops.toList o).testBit t = true ∨ (wrMask C ops.toList o).testBit t = true → σ t = Env.get e1 t := fun t ht => by
      rw [hget]
      rcases J.slots recs [] e (by simp) J.chain t with ⟨x, hx, hlx, hwx⟩ | ⟨x, hx, _⟩ | h1
      · exfalso
        rcases hok.apart x.i (List.mem_map_of_mem hx) with h1 | h1
        · exact hlx (J.closed.ready hrd h1)
        · rcases ht with ht | ht
          · rw [← rd_at hoi] at ht
            have := (h1 t).2 hwx
            rw [ht] at this; cases this
          · rw [← wr_at hoi] at ht
            have := ((h1 t).1 ht).1
            rw [show ((DD C ops).wr.getD x.i 0).testBit t = true from hwx] at this; cases this
      · cases hx
      · exact h1
    have hrd' : ∀ x ∈ o.op.operands, SameAt e1 σ x := fun x hx u hu => heq u (.inl (rd_operand (by rw [← hu]; exact hx)))
    have hmem : isMemOp o.op = true → ∀ u t' off, .tmp u ∈ o.op.operands → Env.get e1 u = .ref t' off → σ t' = Env.get e1 t' := fun hm u t' off hu hx => by
      refine heq t' ?_
      cases hop : o.op with
      | load ty p =>
        unfold refsOk at href
        rw [List.all_eq_true] at href
        have := href (.tmp u) (by simpa using hu)
        simp only [hx, hop] at this
        exact .inl this
      | store ty p q => exact .inr (wr_store ⟨ty, p, q, hop⟩ href hu hx)
      | _ => rw [hop] at hm; cases hm
    have hwant : Region.wanted o (yielded ops a.tmps) = true := by
      rcases hw with hw | ⟨g, want, tg, hg, htg, hv⟩
      · exact wanted_none hw
      · have hb : a.tmps.getD tg undef = .bool want := by
          have h1 := J.inv.tr tg
          rw [(heq tg (.inl (rd_guard hg htg))).trans ((congrFun hget tg).trans hv)] at h1
          exact h1
        rw [wanted_some hg (by simpa using htg) hb]
        cases want <;> rfl
    unfold wpOp
    simp only [hoi, hwant, if_true]
    refine .inl (Oper.wp_mono (fun a' w' ho => ?_) (loud_sound2 (Q := Q) hs hone J.inv hrd' hmem))
    obtain ⟨ρ', h', d, iv', hk, hws, hd⟩ := ho
    have hkeys : ∀ p ∈ d, Wt C ops i p.1 ∧ al.testBit p.1 = true := fun p hp => by
      obtain ⟨⟨h1, h2⟩, _⟩ := hd p hp
      refine ⟨?_, h1⟩
      unfold Wt
      rw [wr_at hoi]
      rcases h2 with h2 | ⟨h2, h3⟩ | ⟨h2, ⟨u, off, h3, h4⟩ | ⟨h3, h4⟩⟩
      · exact wr_dst h2
      · exact wr_lit hloud href h2 h3
      · exact wr_store h2 href h3 h4
      · exact wr_var h2 href h3 h4
    have hch : Chain e0 (recs ++ [⟨i, e1, d, []⟩]) (d ++ e1) := J.chain.append (.cons hget (.nil _))
    refine ⟨recs ++ [⟨i, e1, d, []⟩], d ++ e1, ρ', h', Env.over d σ, { split := by rw [J.split]; simp, chain := hch, form := hk, ids := ?_, sub := ?_, closed := J.closed.set hrd, size := by simp [J.size], inv := iv', slots := ?_, keys := ?_, vals := ?_, proms := ?_, norefs := ?_, agree := J.agree.trans (Agree.of_get hget (agree_append fun p hp => (hkeys p hp).2)) }⟩
    · intro x hx id hid
      rcases List.mem_append.1 hx with hx | hx
      · exact J.ids x hx id hid
      · simp at hx; subst hx; cases hid
    · intro j hj
      rcases (listed_set hlt).1 hj with rfl | hj
      · simp
      · rw [List.map_append]; exact List.mem_append_left _ (J.sub j hj)
    · intro p q e1' hpq hc t
      have hne : ∀ x ∈ recs, x.i ≠ i := fun x hx he => (J.fresh hO).2 (he ▸ List.mem_map_of_mem hx)
      have hpend : ∀ p : List Rec, (∀ x ∈ p, x ∈ recs) → Pend C ops listed p t → Pend C ops (listed.setIfInBounds i true) p t := fun p hp ⟨x, hx, hlx, hwx⟩ =>
        ⟨x, hx, fun hl' => ((listed_set hlt).1 hl').elim (hne x (hp x hx)) hlx, hwx⟩
      rcases List.eq_nil_or_concat q with hq | ⟨q', x, hq⟩
      · subst hq
        have hp : p = recs ++ [⟨i, e1, d, []⟩] := by simpa using hpq.symm
        subst hp
        have he1 : e1' = d ++ e1 := Chain.unique hc hch
        rw [he1]
        by_cases hw' : (wrMask C ops.toList o).testBit t = true
        · exact .inr (.inr (by rw [Env.get_append]; exact over_congr d t (heq t (.inr hw'))))
        · have hnk : ∀ p ∈ d, p.1 ≠ t := fun p hp he => hw' (by rw [← wr_at (C := C) hoi, ← he]; exact (hkeys p hp).1)
          rw [over_ne σ hnk, Env.get_over_ne hnk, hget]
          rcases J.slots recs [] e (by simp) J.chain t with h1 | ⟨y, hy, _⟩ | h1
          · obtain ⟨y, hy, h2⟩ := hpend recs (fun _ h => h) h1
            exact .inl ⟨y, by simp [hy], h2⟩
          · cases hy
          · exact .inr (.inr h1)
      · simp only [List.concat_eq_append] at hq
        rw [hq, ← List.append_assoc] at hpq
        have h3 := List.append_inj' hpq rfl
        have h4 : (⟨i, e1, d, []⟩ : Rec) = x := by simpa using h3.2
        subst h4
        by_cases hw' : Wt C ops i t
        · exact .inr (.inl ⟨_, by rw [hq]; simp; exact .inr rfl, (listed_set hlt).2 (.inl rfl), hw'⟩)
        · have hnk : ∀ p ∈ d, p.1 ≠ t := fun p hp he => hw' (he ▸ (hkeys p hp).1)
          rw [over_ne σ hnk]
          rcases J.slots p q' e1' h3.1 hc t with h1 | ⟨y, hy, h1, h2⟩ | h1
          · exact .inl (hpend p (fun x hx => by rw [h3.1]; simp [hx]) h1)
          · exact .inr (.inl ⟨y, by rw [hq]; simp [hy], (listed_set hlt).2 (.inr h1), h2⟩)
          · exact .inr (.inr h1)
    · intro x hx
      rcases List.mem_append.1 hx with hx | hx
      · exact J.keys x hx
      · simp at hx; subst hx; exact hkeys
    · intro x hx
      rcases List.mem_append.1 hx with hx | hx
      · exact J.vals x hx
      · simp at hx; subst hx
        exact fun p hp t off ht => absurd ht ((hd p hp).2 t off)
    · intro x hx hlx
      rcases List.mem_append.1 hx with hx | hx
      · have hlx' : ¬ Listed listed x.i := fun h1 => hlx ((listed_set hlt).2 (.inr h1))
        refine (J.proms x hx hlx').stable fun id hid => hws id ?_
        rcases against (D := DD C ops) (i := i) (J.ids x hx id hid) with h1 | h1
        · exact absurd (J.closed.ready hrd h1) hlx'
        · exact h1
      · simp at hx; subst hx
        exact absurd ((listed_set hlt).2 (.inl rfl)) hlx
    · intro y hy hly u off hx
      have hly' : ¬ Listed listed y.1 := fun h1 => hly ((listed_set hlt).2 (.inr h1))
      rcases over_ref σ hx with ⟨p, hp, h1⟩ | h1
      · exact (hd p hp).2 _ _ h1
      · exact J.norefs y hy hly' u off h1
  · exfalso
    rcases hwt with h1 | ⟨g', want', tg', h1, h2, h3⟩
    · rw [hg] at h1; cases h1
    · rw [hg] at h1
      cases h1
      rw [htg] at h2
      cases h2
      rcases hv with hv | hv
      · rw [hv] at h3
        cases want <;> cases h3
      · rw [hv] at h3; cases h3

theorem draw_any (hs : Sound C.P C.calls) (he : EqOk C.P) (hO : Order C ops c) (hQ : ∀ ρ h e a w, Inv ρ0 h0 w0 C ρ h w (Env.get e) a → Agree al e0 e → k e h → Q .normal a w) :
    ∀ (fuel : Nat) (listed : Array Bool) (a : Act) (w : World) (l : List Nat), l.length = fuel → (∀ i, i < ops.size → ¬ Listed listed i → i ∈ l) →
    (∃ recs rest e rs ρ h σ, J0 C ops al ρ0 h0 w0 Q c k e0 listed a w recs rest e rs ρ h σ) → wpAny C.P .any ops Q fuel listed a w := by
  have hend : ∀ (listed : Array Bool) (a : Act) (w : World), (∃ recs rest e rs ρ h σ, J0 C ops al ρ0 h0 w0 Q c k e0 listed a w recs rest e rs ρ h σ) → Region.ready .any ops listed = [] → Q .normal a w := by
    intro listed a w ⟨recs, rest, e, rs, ρ, h, σ, J⟩ hr
    have hall := ready_nil hO J.size hr
    cases rest with
    | cons i rest => exact absurd (hall i (by rw [J.split]; simp)) (J.fresh hO).1
    | nil =>
      have hσ : σ = Env.get e := funext fun t => by
        rcases J.slots recs [] e (by simp) J.chain t with ⟨x, hx, hlx, _⟩ | ⟨x, hx, _⟩ | h1
        · exact absurd (hall x.i (by rw [J.split]; simp; exact ⟨x, hx, rfl⟩)) hlx
        · cases hx
        · exact h1
      exact hQ ρ h e a w (J.inv.congr hσ) J.agree J.form
  intro fuel
  induction fuel with
  | zero =>
    intro listed a w l hl hin hJ
    have hl0 : l = [] := List.length_eq_zero_iff.1 hl
    have hr : Region.ready .any ops listed = [] := by
      rw [List.eq_nil_iff_forall_not_mem]
      intro i hi
      obtain ⟨o, ho, hlt, hli, _⟩ := ready_mem hi
      have := hin i (Array.getElem?_eq_some_iff.1 ho).1 hli
      rw [hl0] at this; cases this
    exact ⟨hr, hend listed a w hJ hr⟩
  | succ fuel ih =>
    intro listed a w l hl hin hJ
    refine ⟨hend listed a w hJ, fun i hi => ?_⟩
    obtain ⟨o, ho, hlt, hli, _⟩ := ready_mem hi
    have hi' : i < ops.size := (Array.getElem?_eq_some_iff.1 ho).1
    have hil := hin i hi' hli
    have hnext : ∀ a' w', (∃ recs rest e rs ρ h σ, J0 C ops al ρ0 h0 w0 Q c k e0 (listed.setIfInBounds i true) a' w' recs rest e rs ρ h σ) → wpAny C.P .any ops Q fuel (listed.setIfInBounds i true) a' w' := fun a' w' hJ' => by
      refine ih _ a' w' (l.erase i) (by rw [List.length_erase_of_mem hil, hl]; rfl) (fun j hj hlj => ?_) hJ'
      have hji : j ≠ i := fun e => hlj ((listed_set hlt).2 (.inl e))
      exact (List.mem_erase_of_ne hji).2 (hin j hj fun h1 => hlj ((listed_set hlt).2 (.inr h1)))
    obtain ⟨recs, rest, e, rs, ρ, h, σ, J⟩ := hJ
    obtain ⟨recs, rest, e, rs, J, hh⟩ := consume he hO rest recs e rs J
    have hic : i ∈ recs.map Rec.i ++ rest := J.split ▸ hO.2 i hi'
    rcases List.mem_append.1 hic with hic | hic
    · obtain ⟨r, hr, hri⟩ := List.mem_map.1 hic
      obtain ⟨p, q, hpq⟩ := List.append_of_mem hr
      subst hri
      exact wpOp_mono (fun a' w' J' => hnext a' w' ⟨_, _, _, _, _, _, _, J'⟩) (exec_rec hO J hpq hi)
    · cases rest with
      | nil => cases hic
      | cons L rest =>
        rcases List.mem_cons.1 hic with rfl | hic
        · exact wpOp_mono (fun a' w' ⟨recs', e', ρ', h', σ', J'⟩ => hnext a' w' ⟨_, _, _, _, _, _, _, J'⟩) (exec_loud hs hO J hh hi)
        · exfalso
          obtain ⟨q1, q2, hq⟩ := List.append_of_mem hic
          have hok := hO.1 (recs.map Rec.i ++ L :: q1) i q2 (by rw [J.split, hq]; simp)
          obtain ⟨oL, hoL, hloud, _⟩ := hh
          have := hok.loud L (by simp) ⟨oL, by simpa using hoL, hloud⟩
          exact (J.fresh hO).1 (J.closed.ready hi this)

theorem regionOk (hm : C.P.follows .mixedOrders = true) (he : EqOk C.P) (hs : Sound C.P C.calls) : RegionOk C := by
  intro ρ0 h0 w0 al id ops e k ρ h w a X R ho iv
  unfold dRegion at ho
  simp only at ho
  have hsplit : (okOrder C ops.toList (drawOf C ops.toList) (greedy C ops.toList) [] 0 [] = true ∧ ∀ p ∈ allocs C ops.toList, Env.noRef p.2 e = true) ∧ dOps C al ops.toList (some (DD C ops)) (greedy C ops.toList) e [] k h := by
    cases hb : (okOrder C ops.toList (drawOf C ops.toList) (greedy C ops.toList) [] 0 [] && (allocs C ops.toList).all fun p => Env.noRef p.2 e) with
    | false => rw [hb] at ho; exact ho.elim
    | true =>
      rw [hb] at ho
      simp only [Bool.and_eq_true, List.all_eq_true] at hb
      exact ⟨hb, ho⟩
  obtain ⟨⟨hord, hnr⟩, hform⟩ := hsplit
  have hO : Order C ops (greedy C ops.toList) := by
    obtain ⟨h1, h2⟩ := okOrder_facts hord
    exact ⟨h1, fun i hi => h2 i (by simpa using hi)⟩
  have hnl : ∀ i, ¬ Listed (Array.replicate ops.size false) i := fun i hi => by
    unfold Listed at hi
    rw [Array.getD_eq_getD_getElem?] at hi
    by_cases hlt : i < ops.size
    · simp [hlt] at hi
    · simp [hlt] at hi
  refine wp_region_any hm (draw_any (al := al) (k := k) (e0 := e) hs he hO (fun ρ h e a w iv ag hk => ⟨ρ, h, e, iv, ag, hk⟩) ops.size _ a _ (List.range ops.size) (by simp) (fun i hi _ => by simpa using hi) ⟨[], greedy C ops.toList, e, [], ρ, h, Env.get e, ?_⟩)
  exact { split := rfl, chain := .nil e, form := hform, ids := by simp, sub := fun i hi => absurd hi (hnl i), closed := fun j o _ hj => absurd hj (hnl j), size := by simp, inv := iv.step iv.hr.drew Fr.drew,
          slots := fun p q e1 hpq hc t => by
            have hp : p = [] ∧ q = [] := by simpa using hpq.symm
            obtain ⟨rfl, rfl⟩ := hp
            cases hc
            exact .inr (.inr rfl),
          keys := by simp, vals := by simp, proms := by simp, norefs := fun y hy _ u off => noRef_get (hnr y hy) u off, agree := Agree.refl _ _ }

theorem drawOk {P : Program} (hm : P.follows .mixedOrders = true) (he : EqOk P) : DrawOk P := fun C hC hs => by
  subst hC
  exact regionOk hm he hs

end
end Go.Proofs.YtdjancoknephnaaDoorVc
