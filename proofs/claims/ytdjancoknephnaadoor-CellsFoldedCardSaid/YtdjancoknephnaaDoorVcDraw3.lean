/- Vc, part 21: regions that draw their order: the steps. -/
import Derived.Test.YtdjancoknephnaaDoorVcDraw2
set_option linter.unusedSimpArgs false
set_option linter.unusedVariables false
namespace Go.Proofs.YtdjancoknephnaaDoorVc

section
variable {C : Ctx} {ops : Array Oper} {al : Nat} {ρ0 : Rho} {h0 : Heap} {w0 : World} {Q : Exit → Act → World → Prop} {c : List Nat} {k : Env → T} {e0 : Env}
variable {listed : Array Bool} {a : Act} {w : World} {recs : List Rec} {rest : List Nat} {e : Env} {rs : List (Nat × Nat)} {ρ : Rho} {h : Heap} {σ : Nat → TV}

def Order (C : Ctx) (ops : Array Oper) (c : List Nat) : Prop := (∀ p i q, c = p ++ i :: q → OkAt C ops.toList (DD C ops) p i) ∧ ∀ i, i < ops.size → i ∈ c

theorem listed_set {i j : Nat} (hi : i < listed.size) : Listed (listed.setIfInBounds i true) j ↔ j = i ∨ Listed listed j := by
  unfold Listed
  simp only [Array.getD_eq_getD_getElem?, Array.getElem?_setIfInBounds]
  by_cases hij : i = j
  · subst hij; simp [hi]
  · simp [hij, show j ≠ i from fun e => hij e.symm]

theorem listed_lt {j : Nat} (hj : Listed listed j) : j < listed.size := by
  unfold Listed at hj
  rw [Array.getD_eq_getD_getElem?] at hj
  by_cases h : j < listed.size
  · exact h
  · simp [h] at hj

theorem ready_mem {i : Nat} (hr : i ∈ Region.ready .any ops listed) : ∃ o, ops[i]? = some o ∧ i < listed.size ∧ ¬ Listed listed i ∧ ∀ e ∈ o.after, edgeBinds e = true → Listed listed e.on := by
  unfold Region.ready at hr
  rw [List.mem_filter] at hr
  obtain ⟨hi, hr⟩ := hr
  simp only [Bool.and_eq_true, Bool.not_eq_true'] at hr
  obtain ⟨h1, h2⟩ := hr
  cases ho : ops[i]? with
  | none => rw [ho] at h2; simp at h2
  | some o =>
    rw [ho] at h2
    simp only [Option.map_some, Option.getD_some] at h2
    have hlt : i < listed.size := by
      rw [Array.getD_eq_getD_getElem?] at h1
      by_cases h : i < listed.size
      · exact h
      · simp [h] at h1
    refine ⟨o, rfl, hlt, fun hl => ?_, fun e he hb => ?_⟩
    · unfold Listed at hl
      rw [Array.getD_eq_getD_getElem?] at h1 hl
      simp only [Array.getElem?_eq_getElem hlt, Option.getD_some] at h1 hl
      rw [h1] at hl; cases hl
    · rw [Array.all_eq_true'] at h2
      have := h2 e he
      rw [edgeBinds_eq] at hb
      rw [hb] at this
      simpa [Listed] using this

theorem mem_ready {i : Nat} {o : Oper} (ho : ops[i]? = some o) (hlt : i < listed.size) (hl : ¬ Listed listed i) (he : ∀ e ∈ o.after, edgeBinds e = true → Listed listed e.on) : i ∈ Region.ready .any ops listed := by
  unfold Region.ready
  rw [List.mem_filter]
  refine ⟨by simpa using (Array.getElem?_eq_some_iff.1 ho).1, ?_⟩
  simp only [Bool.and_eq_true, Bool.not_eq_true', ho, Option.map_some, Option.getD_some]
  refine ⟨?_, ?_⟩
  · unfold Listed at hl
    rw [Array.getD_eq_getD_getElem?] at hl ⊢
    simp only [Array.getElem?_eq_getElem hlt, Option.getD_some] at hl ⊢
    simpa using hl
  · rw [Array.all_eq_true']
    intro e hm
    cases hb : Region.binds .any e with
    | false => rfl
    | true => simpa [Listed] using he e hm (by rw [edgeBinds_eq]; exact hb)

theorem Closed.bf (hcl : Closed ops listed) (hs : listed.size = ops.size) {j i : Nat} (hj : Listed listed j) (hb : Bf C ops j i) : Listed listed i := by
  have hlt : j < ops.size := hs ▸ listed_lt hj
  have ho : ops[j]? = some ops[j] := by simp [hlt]
  exact bef_listed hcl j _ ho (hcl j _ ho hj) i hb

theorem Closed.ready (hcl : Closed ops listed) {j i : Nat} (hr : j ∈ Region.ready .any ops listed) (hb : Bf C ops j i) : Listed listed i := by
  obtain ⟨o, ho, _, _, he⟩ := ready_mem hr
  exact bef_listed hcl j o ho he i hb

theorem Closed.set (hcl : Closed ops listed) {i : Nat} (hr : i ∈ Region.ready .any ops listed) : Closed ops (listed.setIfInBounds i true) := by
  obtain ⟨o, ho, hlt, _, he⟩ := ready_mem hr
  intro j o' ho' hj e hm hb
  rw [listed_set hlt] at hj ⊢
  rcases hj with rfl | hj
  · rw [ho] at ho'; cases ho'; exact .inr (he e hm hb)
  · exact .inr (hcl j o' ho' hj e hm hb)

theorem ready_nil (hO : Order C ops c) (hs : listed.size = ops.size) (hr : Region.ready .any ops listed = []) : ∀ x ∈ c, Listed listed x := by
  have : ∀ (q p : List Nat), c = p ++ q → (∀ x ∈ p, Listed listed x) → ∀ x ∈ q, Listed listed x := by
    intro q
    induction q with
    | nil => intro p _ _ x hx; cases hx
    | cons y q ih =>
      intro p hc hp x hx
      have hy : Listed listed y := by
        by_cases hy : Listed listed y
        · exact hy
        · have hok := hO.1 _ _ _ hc
          have hlt : y < ops.size := by simpa using hok.lt
          have ho : ops[y]? = some ops[y] := by simp [hlt]
          have := mem_ready ho (hs ▸ hlt) hy (fun e he hb => hp _ (hok.pre _ ((bef_bit (by simp)).2 ⟨e, he, hb, .inl rfl⟩)))
          rw [hr] at this; cases this
      rcases List.mem_cons.1 hx with rfl | hx
      · exact hy
      · exact ih (p ++ [y]) (by simp [hc]) (fun z hz => by
          rcases List.mem_append.1 hz with hz | hz
          · exact hp z hz
          · simp at hz; rw [hz]; exact hy) x hx
  exact this c [] rfl (by simp)

/-- Two records, the first before the second. -/
theorem Order.two (hO : Order C ops c) {r x : Rec} {p q : List Rec} (hc : c = (p ++ x :: q).map Rec.i ++ rest) (hr : r ∈ p) : Bf C ops x.i r.i ∨ Apart (DD C ops) x.i r.i := by
  have h1 : c = p.map Rec.i ++ x.i :: (q.map Rec.i ++ rest) := by rw [hc]; simp
  exact (hO.1 _ _ _ h1).apart r.i (List.mem_map_of_mem hr)

theorem Order.nodup (hO : Order C ops c) {r x : Rec} {p q : List Rec} (hc : c = (p ++ x :: q).map Rec.i ++ rest) (hr : r ∈ p) : r.i ≠ x.i := by
  have h1 : c = p.map Rec.i ++ x.i :: (q.map Rec.i ++ rest) := by rw [hc]; simp
  intro he
  exact (hO.1 _ _ _ h1).new (he ▸ List.mem_map_of_mem hr)

theorem Order.nodup2 (hO : Order C ops c) {r x : Rec} {p q : List Rec} (hc : c = (p ++ r :: q).map Rec.i ++ rest) (hx : x ∈ q) : x.i ≠ r.i := by
  obtain ⟨q1, q2, rfl⟩ := List.append_of_mem hx
  have := hO.nodup (p := p ++ r :: q1) (x := x) (q := q2) (rest := rest) (r := r) (by rw [hc]; simp) (by simp)
  exact fun e => this e.symm

theorem Order.later (hO : Order C ops c) {r x : Rec} {p q : List Rec} (hc : c = (p ++ r :: q).map Rec.i ++ rest) (hx : x ∈ q) : Bf C ops x.i r.i ∨ Apart (DD C ops) x.i r.i := by
  obtain ⟨q1, q2, rfl⟩ := List.append_of_mem hx
  exact hO.two (p := p ++ r :: q1) (x := x) (q := q2) (rest := rest) (r := r) (by rw [hc]; simp) (by simp)

/-- What a waiting record writes stands at nobody's hand before it. -/
theorem J0.not_late (hO : Order C ops c) (J : J0 C ops al ρ0 h0 w0 Q c k e0 listed a w recs rest e rs ρ h σ) {p q : List Rec} {r x : Rec} (hr : recs = p ++ r :: q) (hl : ¬ Listed listed r.i) (hx : x ∈ q) (hlx : Listed listed x.i) :
    Apart (DD C ops) x.i r.i := by
  rcases hO.later (rest := rest) (by rw [← hr]; exact J.split) hx with h1 | h1
  · exact absurd (J.closed.bf J.size hlx h1) hl
  · exact h1

theorem J0.rd_eq (hO : Order C ops c) (J : J0 C ops al ρ0 h0 w0 Q c k e0 listed a w recs rest e rs ρ h σ) {p q : List Rec} {r : Rec} (hr : recs = p ++ r :: q) (hrd : r.i ∈ Region.ready .any ops listed) {ep : Env} (hc : Chain e0 p ep) :
    ∀ t, Rd C ops r.i t → σ t = Env.get ep t := by
  intro t ht
  obtain ⟨_, _, _, hl, _⟩ := ready_mem hrd
  rcases J.slots p (r :: q) ep hr hc t with ⟨x, hx, hlx, hwx⟩ | ⟨x, hx, hlx, hwx⟩ | h1
  · rcases hO.two (rest := rest) (by rw [← hr]; exact J.split) hx with h1 | h1
    · exact absurd (J.closed.ready hrd h1) hlx
    · have := (h1 t).2 hwx
      rw [show ((DD C ops).rd.getD r.i 0).testBit t = true from ht] at this; cases this
  · rcases List.mem_cons.1 hx with rfl | hx
    · exact absurd hlx hl
    · have := ((J.not_late hO hr hl hx hlx t).1 hwx).2
      rw [show ((DD C ops).rd.getD r.i 0).testBit t = true from ht] at this; cases this
  · exact h1

theorem over_ne {t : Nat} : ∀ {d : Env} (σ : Nat → TV), (∀ p ∈ d, p.1 ≠ t) → Env.over d σ t = σ t
  | [], _, _ => rfl
  | (u, x) :: d, σ, h => by
    simp only [Env.over]
    rw [beq_ne (h (u, x) (by simp))]
    exact over_ne σ fun p hp => h p (by simp [hp])

theorem over_ref {t off u : Nat} : ∀ {d : Env} (σ : Nat → TV), Env.over d σ u = .ref t off → (∃ p ∈ d, p.2 = .ref t off) ∨ σ u = .ref t off
  | [], _, h => .inr h
  | (v, x) :: d, σ, h => by
    simp only [Env.over] at h
    cases hb : v.beq u with
    | true => rw [hb] at h; exact .inl ⟨(v, x), by simp, h⟩
    | false =>
      rw [hb] at h
      rcases over_ref σ h with ⟨p, hp, h1⟩ | h1
      · exact .inl ⟨p, by simp [hp], h1⟩
      · exact .inr h1

/-- A waiting record is carried out. -/
theorem exec_rec (hO : Order C ops c) (J : J0 C ops al ρ0 h0 w0 Q c k e0 listed a w recs rest e rs ρ h σ) {p q : List Rec} {r : Rec} (hr : recs = p ++ r :: q) (hrd : r.i ∈ Region.ready .any ops listed) :
    wpOp C.P ops Q r.i (fun a' w' => J0 C ops al ρ0 h0 w0 Q c k e0 (listed.setIfInBounds r.i true) a' w' recs rest e rs ρ h (Env.over r.d σ)) a w := by
  obtain ⟨o, hoi, hlt, hl, hed⟩ := ready_mem hrd
  have hmem : r ∈ recs := by rw [hr]; simp
  obtain ⟨ep, hcp, hcq⟩ := Chain.split (show Chain e0 (p ++ r :: q) e from hr ▸ J.chain)
  have hre : r.e.get = Env.get ep := by cases hcq with | cons h1 h2 => exact h1
  have hcq' : Chain (r.d ++ r.e) q e := by cases hcq with | cons h1 h2 => exact h2
  have hsp : c = (p ++ r :: q).map Rec.i ++ rest := by rw [← hr]; exact J.split
  refine wpOp_mono (fun a' w' iv' => ?_) (J.proms r hmem hl h (fun _ _ => rfl) ρ w σ a J.inv (fun t ht => by rw [hre]; exact J.rd_eq hO hr hrd hcp t ht) (fun d hd u off => J.norefs (r.i, d) hd hl u off))
  have hkeys := J.keys r hmem
  have hnw : ∀ t, ¬ Wt C ops r.i t → Env.over r.d σ t = σ t := fun t ht => over_ne σ fun p hp e => ht (e ▸ (hkeys p hp).1)
  refine { split := J.split, chain := J.chain, form := J.form, ids := J.ids, sub := fun i hi => ?_, closed := J.closed.set hrd, size := by simp [J.size], inv := iv', slots := ?_, keys := J.keys, vals := J.vals, proms := fun x hx hlx => J.proms x hx fun hl' => hlx ((listed_set hlt).2 (.inr hl')), norefs := fun y hy hly u off he => ?_, agree := J.agree }
  · rcases (listed_set hlt).1 hi with rfl | hi
    · exact List.mem_map_of_mem hmem
    · exact J.sub i hi
  · intro p' q' e1 hpq hc1 t
    have hpend : ∀ x, x ∈ p' → x ≠ r → x ∈ recs → ¬ Listed listed x.i → Wt C ops x.i t → Pend C ops (listed.setIfInBounds r.i true) p' t := fun x hx hne hxr hlx hwx => by
      refine ⟨x, hx, fun hl' => ?_, hwx⟩
      rcases (listed_set hlt).1 hl' with h1 | h1
      · rw [hr] at hxr
        rcases List.mem_append.1 hxr with h2 | h2
        · exact hO.nodup hsp h2 h1
        · rcases List.mem_cons.1 h2 with h2 | h2
          · exact hne h2
          · exact hO.nodup2 hsp h2 h1
      · exact hlx h1
    have hlate : ∀ x, x ∈ q' → Listed listed x.i → Wt C ops x.i t → Late C ops (listed.setIfInBounds r.i true) q' t := fun x hx hlx hwx => ⟨x, hx, (listed_set hlt).2 (.inr hlx), hwx⟩
    by_cases hwr : Wt C ops r.i t
    · rw [hr] at hpq
      rcases List.append_eq_append_iff.1 hpq with ⟨s, hs1, hs2⟩ | ⟨s, hs1, hs2⟩
      · -- p' = p ++ s, r :: q = s ++ q'
        cases s with
        | nil =>
          simp only [List.nil_append] at hs2
          exact .inr (.inl ⟨r, by rw [← hs2]; simp, (listed_set hlt).2 (.inl rfl), hwr⟩)
        | cons r' s =>
          simp only [List.cons_append, List.cons.injEq] at hs2
          obtain ⟨rfl, rfl⟩ := hs2
          have hin : ∀ x ∈ s, x ∈ recs := fun x hx => by rw [hr]; simp [hx]
          have hnlate : ∀ x ∈ s ++ q', Listed listed x.i → ¬ Wt C ops x.i t := fun x hx hlx hwx => by
            have := ((J.not_late hO hr hl hx hlx t).1 hwx).1
            rw [show ((DD C ops).wr.getD r.i 0).testBit t = true from hwr] at this; cases this
          rcases J.slots p (r :: (s ++ q')) ep hr hcp t with ⟨x, hx, hlx, hwx⟩ | ⟨x, hx, hlx, hwx⟩ | h1
          · exact .inl (hpend x (by rw [hs1]; simp [hx]) (fun e => hO.nodup hsp hx (by rw [e])) (by rw [hr]; simp [hx]) hlx hwx)
          · rcases List.mem_cons.1 hx with rfl | hx
            · exact absurd hlx hl
            · exact absurd hwx (hnlate x hx hlx)
          · by_cases hs : ∃ x ∈ s, Wt C ops x.i t
            · obtain ⟨x, hx, hwx⟩ := hs
              by_cases hlx : Listed listed x.i
              · exact absurd hwx (hnlate x (by simp [hx]) hlx)
              · exact .inl (hpend x (by rw [hs1]; simp [hx]) (fun e => hO.nodup2 hsp (show x ∈ s ++ q' by simp [hx]) (by rw [e])) (hin x hx) hlx hwx)
            · have hns : ∀ x ∈ s, ¬ Wt C ops x.i t := fun x hx hw => hs ⟨x, hx, hw⟩
              refine .inr (.inr ?_)
              rw [hs1] at hc1
              obtain ⟨ep', hcp', hc2⟩ := Chain.split hc1
              have hpe : ep' = ep := Chain.unique hcp' hcp
              rw [hpe] at hc2
              cases hc2 with
              | cons h3 h4 =>
                rw [h4.get fun x hx y hy e => hns x hx (by rw [← e]; exact (J.keys x (hin x hx) y hy).1), Env.get_append]
                exact over_congr r.d t (by rw [hre]; exact h1)
      · -- p = p' ++ s, q' = s ++ r :: q
        exact .inr (.inl ⟨r, by rw [hs2]; simp, (listed_set hlt).2 (.inl rfl), hwr⟩)
    · rw [hnw t hwr]
      rcases J.slots p' q' e1 hpq hc1 t with ⟨x, hx, hlx, hwx⟩ | ⟨x, hx, hlx, hwx⟩ | h1
      · exact .inl (hpend x hx (fun e => hwr (e ▸ hwx)) (by rw [hpq]; simp [hx]) hlx hwx)
      · exact .inr (.inl (hlate x hx hlx hwx))
      · exact .inr (.inr h1)
  · have hly' : ¬ Listed listed y.1 := fun h1 => hly ((listed_set hlt).2 (.inr h1))
    rcases over_ref σ he with ⟨p', hp', h1⟩ | h1
    · exact hly' (J.closed.ready hrd (J.vals r hmem p' hp' y.2 off h1 y hy rfl))
    · exact J.norefs y hy hly' u off h1

end
end Go.Proofs.YtdjancoknephnaaDoorVc
