/- Vc, part 17: code. -/
import Derived.Test.YtadakbmoanbcgaaGreatDoorVcOps
set_option linter.unusedSimpArgs false
set_option linter.unusedVariables false
namespace Go.Proofs.YtadakbmoanbcgaaGreatDoorVc

/-! ### less is said -/
theorem Kd.get_CR {ρ : Rho} {k : Kd} {c : Cell} {x : k.Ty} {v : Value} (hg : k.get c = some x) (hv : CR ρ c v) : CR ρ (k.mk x) v := by
  cases k <;> cases c <;> simp only [Kd.get] at hg <;> first
    | (cases hg; done)
    | (cases hg; exact hv)
    | (split at hg
       · rename_i hk; cases hg; cases eqKind_eq hk; exact hv
       · cases hg)
    | (split at hg
       · rename_i hk; cases hg; cases Nat.eq_of_beq_eq_true hk; exact hv
       · cases hg)
    | exact hv.one
theorem Pays.get_CRs {ρ : Rho} : ∀ {ks : List Kd} {cs : List Cell} {x : Pays ks} {vs : List Value}, Pays.get ks cs = some x → CRs ρ cs vs → CRs ρ (Pays.mk ks x) vs
  | [], [], _, [], _, _ => trivial
  | k :: ks, c :: cs, x, v :: vs, h, ⟨h0, hs⟩ => by
    simp only [Pays.get] at h
    split at h
    · rename_i y z h1 h2; cases h; exact ⟨Kd.get_CR h1 h0, Pays.get_CRs h2 hs⟩
    · cases h
  | [], _ :: _, _, _, h, _ => by simp [Pays.get] at h
  | _ :: _, [], _, _, h, _ => by simp [Pays.get] at h
  | [], [], _, _ :: _, _, h => h.elim
  | _ :: _, _ :: _, _, [], _, h => h.elim

def Weak (x y : TV) : Prop := x = .undef ∨ x = y ∨ ∃ (k : TK) (p : k.Ty), k.get y = some p ∧ x = k.mk p

section
variable {ρ0 : Rho} {h0 : Heap} {w0 : World} {C : Ctx} {ρ : Rho} {h : Heap} {w : World} {a : Act} {σ τ : Nat → TV}

theorem Weak.tr {x y : TV} {v : Value} {n0 : Nat} {tm : Array Value} (hw : Weak x y) (ht : TR ρ w n0 tm y v) : TR ρ w n0 tm x v ∧ (∀ b, privB x v = some b → privB y v = some b) ∧ (∀ t off, x = .ref t off → y = .ref t off) := by
  rcases hw with rfl | rfl | ⟨k, p, hg, rfl⟩
  · exact ⟨trivial, fun b hb => (by cases v <;> cases hb), fun t off e => by cases e⟩
  · exact ⟨ht, fun _ h => h, fun _ _ h => h⟩
  · match k, p, y, hg with
    | .v (.one k), p, .v (.one c), hg => exact ⟨Kd.get_CR hg ht, fun b hb => (by cases v <;> cases hb), fun t off e => by cases e⟩
    | .v (.agg ks), p, .v (.agg cs), hg =>
      obtain ⟨vs, h1, h2⟩ := ht
      exact ⟨⟨vs, h1, Pays.get_CRs hg h2⟩, fun b hb => (by cases v <;> cases hb), fun t off e => by cases e⟩
    | .var ks, p, .var cs, hg =>
      obtain ⟨b, rfl, h1, h2, c, el, h3, h4⟩ := ht
      exact ⟨⟨b, rfl, h1, h2, c, el, h3, Pays.get_CRs hg h4⟩, fun b' hb => hb, fun t off e => by cases e⟩

theorem Inv.weaken (iv : Inv ρ0 h0 w0 C ρ h w σ a) (hw : ∀ t, Weak (τ t) (σ t)) : Inv ρ0 h0 w0 C ρ h w τ a where
  fr := iv.fr
  hr := iv.hr
  tr := fun t => ((hw t).tr (iv.tr t)).1
  dis := fun t t' b hne h1 h2 => iv.dis t t' b hne (((hw t).tr (iv.tr t)).2.1 b h1) (((hw t').tr (iv.tr t')).2.1 b h2)
  refs := fun u t off hu => iv.refs u t off (((hw u).tr (iv.tr u)).2.2 t off hu)
  size := iv.size
  defers := iv.defers

theorem clear_get {m : Nat} : ∀ {e : Env} {t : Nat}, Env.get (Env.clear m e) t = .undef ∨ (m.testBit t = false ∧ Env.get (Env.clear m e) t = Env.get e t ∧ ∀ r o, Env.get e t = .ref r o → m.testBit r = false)
  | [], t => .inl rfl
  | (u, x) :: e, t => by
    have ih := clear_get (m := m) (e := e) (t := t)
    simp only [Env.clear]
    cases hu : m.testBit u with
    | true =>
      simp only
      rcases ih with ih | ⟨h1, h2, h3⟩
      · exact .inl ih
      · have hg : Env.get ((u, x) :: e) t = Env.get e t := by
          simp only [Env.get]
          have : u.beq t = false := beq_ne fun e => by rw [e, h1] at hu; cases hu
          rw [this]
        exact .inr ⟨h1, by rw [hg]; exact h2, by rw [hg]; exact h3⟩
    | false =>
      have key : ∀ y : TV, (y = x ∧ (∀ r o, x = .ref r o → m.testBit r = false) ∨ y = .undef) → (Env.get ((u, y) :: Env.clear m e) t = .undef ∨
          (m.testBit t = false ∧ Env.get ((u, y) :: Env.clear m e) t = Env.get ((u, x) :: e) t ∧ ∀ r o, Env.get ((u, x) :: e) t = .ref r o → m.testBit r = false)) := by
        intro y hy
        simp only [Env.get]
        cases hb : u.beq t with
        | true =>
          have := Nat.eq_of_beq_eq_true hb
          subst this
          rcases hy with ⟨rfl, hy⟩ | rfl
          · exact .inr ⟨hu, rfl, hy⟩
          · exact .inl rfl
        | false => exact ih
      cases x with
      | ref r o =>
        simp only
        cases hr : m.testBit r with
        | true => exact key _ (.inr rfl)
        | false => exact key _ (.inl ⟨rfl, fun r' o' e => by cases e; exact hr⟩)
      | _ => exact key _ (.inl ⟨rfl, fun r' o' e => by cases e⟩)

theorem setAll_get : ∀ {js : Js} {p : Js.Ty js} {e' b : Env} {m : Nat} {t : Nat}, keysIn m js = true → Env.collect js e' = some p →
    (∃ (k : TK) (q : k.Ty), k.get (e'.get t) = some q ∧ Env.get (Env.setAll js p b) t = k.mk q ∧ m.testBit t = true) ∨ Env.get (Env.setAll js p b) t = b.get t
  | [], p, e', b, m, t, _, _ => .inr rfl
  | [(u, k)], p, e', b, m, t, hk, hc => by
    simp only [keysIn, Bool.and_eq_true] at hk
    simp only [Env.setAll, Env.get]
    cases hb : u.beq t with
    | true =>
      have := Nat.eq_of_beq_eq_true hb
      subst this
      exact .inl ⟨k, p, hc, rfl, hk.1⟩
    | false => exact .inr rfl
  | (u, k) :: l :: js, p, e', b, m, t, hk, hc => by
    have hk' : m.testBit u = true ∧ keysIn m (l :: js) = true := by
      simp only [keysIn, Bool.and_eq_true] at hk ⊢
      exact hk
    simp only [Env.collect] at hc
    split at hc
    · rename_i x y h1 h2
      cases hc
      simp only [Env.setAll, Env.get]
      cases hb : u.beq t with
      | true =>
        have := Nat.eq_of_beq_eq_true hb
        subst this
        exact .inl ⟨k, x, h1, rfl, hk'.1⟩
      | false => exact setAll_get (js := l :: js) hk'.2 h2
    · cases hc

/-- Behind a jump: the frame at the join says no more than the frame that jumped. -/
theorem Inv.join {e e' : Env} {js : Js} {p : Js.Ty js} {m : Nat} (iv : Inv ρ0 h0 w0 C ρ h w e'.get a) (hag : Agree m e e') (hk : keysIn m js = true) (hc : Env.collect js e' = some p) :
    Inv ρ0 h0 w0 C ρ h w (Env.get (Env.setAll js p (Env.clear m e))) a := by
  refine iv.weaken fun t => ?_
  rcases setAll_get (b := Env.clear m e) (t := t) hk hc with ⟨k, q, h1, h2, _⟩ | h1
  · exact .inr (.inr ⟨k, q, h1, h2⟩)
  · rw [h1]
    rcases clear_get (m := m) (e := e) (t := t) with h2 | ⟨h2, h3, h4⟩
    · exact .inl h2
    · rw [h3]
      rcases hag t h2 with h5 | ⟨r, o, h5, h6⟩
      · exact .inr (.inl h5.symm)
      · rw [h4 r o h5] at h6; cases h6

theorem setAll_not : ∀ {js : Js} {p : Js.Ty js} {b : Env} {m : Nat} {t : Nat}, keysIn m js = true → m.testBit t = false → Env.get (Env.setAll js p b) t = b.get t
  | [], p, b, m, t, _, _ => rfl
  | [(u, k)], p, b, m, t, hk, ht => by
    simp only [keysIn, Bool.and_eq_true] at hk
    simp only [Env.setAll, Env.get]
    have : u.beq t = false := beq_ne fun e => by rw [← e, hk.1] at ht; cases ht
    rw [this]
  | (u, k) :: l :: js, p, b, m, t, hk, ht => by
    have hk' : m.testBit u = true ∧ keysIn m (l :: js) = true := by
      simp only [keysIn, Bool.and_eq_true] at hk ⊢
      exact hk
    simp only [Env.setAll, Env.get]
    have : u.beq t = false := beq_ne fun e => by rw [← e, hk'.1] at ht; cases ht
    rw [this]
    exact setAll_not (js := l :: js) hk'.2 ht

theorem agree_join {e : Env} {js : Js} {p : Js.Ty js} {m : Nat} (hk : keysIn m js = true) : Agree m e (Env.setAll js p (Env.clear m e)) := by
  intro t ht
  rw [setAll_not hk ht]
  have key : ∀ (e : Env), Env.get (Env.clear m e) t = Env.get e t ∨ ∃ r o, Env.get e t = .ref r o ∧ m.testBit r = true := by
    intro e
    induction e with
    | nil => exact .inl rfl
    | cons q e ih =>
      obtain ⟨u, x⟩ := q
      simp only [Env.clear]
      cases hu : m.testBit u with
      | true =>
        simp only [Env.get]
        have : u.beq t = false := beq_ne fun e => by rw [← e, hu] at ht; cases ht
        rw [this]
        exact ih
      | false =>
        have step : ∀ y : TV, (y = x ∨ ∃ r o, x = .ref r o ∧ m.testBit r = true) → (Env.get ((u, y) :: Env.clear m e) t = Env.get ((u, x) :: e) t ∨ ∃ r o, Env.get ((u, x) :: e) t = .ref r o ∧ m.testBit r = true) := by
          intro y hy
          simp only [Env.get]
          cases hb : u.beq t with
          | true =>
            rcases hy with rfl | hy
            · exact .inl rfl
            · exact .inr hy
          | false => exact ih
        cases x with
        | ref r o =>
          simp only
          cases hr : m.testBit r with
          | true => exact step _ (.inr ⟨r, o, rfl, hr⟩)
          | false => exact step _ (.inl rfl)
        | _ => exact step _ (.inl rfl)
  exact key e

theorem mask_sub {m al : Nat} (h : (m &&& al).beq m = true) {t : Nat} (ht : al.testBit t = false) : m.testBit t = false := by
  have := Nat.eq_of_beq_eq_true h
  have h2 : (m &&& al).testBit t = m.testBit t := by rw [this]
  rw [Nat.testBit_and, ht, Bool.and_false] at h2
  exact h2.symm
theorem mask_sup {m al : Nat} (h : (m &&& al).beq m = true) {t : Nat} (ht : m.testBit t = true) : al.testBit t = true := by
  cases ha : al.testBit t with
  | true => rfl
  | false => rw [mask_sub h ha] at ht; cases ht
theorem Agree.mono {e e' : Env} {m al : Nat} (h : (m &&& al).beq m = true) (hag : Agree m e e') : Agree al e e' := fun t ht => by
  rcases hag t (mask_sub h ht) with h1 | ⟨r, o, h1, h2⟩
  · exact .inl h1
  · exact .inr ⟨r, o, h1, mask_sup h h2⟩

end
end Go.Proofs.YtadakbmoanbcgaaGreatDoorVc
