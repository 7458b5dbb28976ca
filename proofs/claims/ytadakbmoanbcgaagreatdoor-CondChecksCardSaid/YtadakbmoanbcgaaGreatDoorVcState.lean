/- Vc, part 11: steps of a frame's state. -/
import Derived.Test.YtadakbmoanbcgaaGreatDoorVcPureMain
set_option linter.unusedSimpArgs false
set_option linter.unusedVariables false
namespace Go.Proofs.YtadakbmoanbcgaaGreatDoorVc

theorem beq_ne {a b : Nat} (h : a ≠ b) : a.beq b = false := by
  cases h' : a.beq b
  · rfl
  · exact absurd (Nat.eq_of_beq_eq_true h') h

section
variable {ρ0 : Rho} {h0 : Heap} {w0 : World} {C : Ctx} {ρ : Rho} {h : Heap} {w : World} {σ : Nat → TV} {a : Act}

theorem Priv.step {ρ' : Rho} {h' : Heap} {w' : World} {n0 b : Nat} {cs : List Cell} (hp : Priv ρ w n0 b cs) (hb : b < w.heap.size) (fr : Fr ρ h w ρ' h' w') : Priv ρ' w' n0 b cs := by
  obtain ⟨h1, h2, c, el, hc, hcs⟩ := hp
  have hnw : ¬ Wr ρ h b := fun ⟨i, l, o, hl, he, _⟩ => h2 i l hl he
  refine ⟨h1, fun i l hl he => ?_, c, el, by rw [fr.keep b hb hnw]; exact hc, CRs.mono fr.sub hcs⟩
  rcases fr.new i l hl with h3 | h3 | h3
  · exact h2 i l h3 he
  · omega
  · rw [he] at h3; exact hnw h3

theorem Priv.lt {n0 b : Nat} {cs : List Cell} (hp : Priv ρ w n0 b cs) : b < w.heap.size := by
  obtain ⟨_, _, c, el, hc, _⟩ := hp
  exact (Array.getElem?_eq_some_iff.1 hc).1

theorem TR.step {ρ' : Rho} {h' : Heap} {w' : World} {n0 : Nat} {tm : Array Value} {x : TV} {v : Value} (ht : TR ρ w n0 tm x v) (fr : Fr ρ h w ρ' h' w') : TR ρ' w' n0 tm x v := by
  cases x with
  | undef => trivial
  | v x => exact VR.mono fr.sub ht
  | tup l => obtain ⟨vs, h1, h2⟩ := ht; exact ⟨vs, h1, VRs.mono fr.sub h2⟩
  | var cs => obtain ⟨b, h1, h2⟩ := ht; exact ⟨b, h1, h2.step h2.lt fr⟩
  | ref t off => exact ht
  | lit sz n cs => obtain ⟨b, c, h1, h2, h3⟩ := ht; exact ⟨b, c, h1, h2, h3.step h3.lt fr⟩

/-- Memory moves on, the frame stays. -/
theorem Inv.step {ρ' : Rho} {h' : Heap} {w' : World} (iv : Inv ρ0 h0 w0 C ρ h w σ a) (hr : HR ρ' h' w') (fr : Fr ρ h w ρ' h' w') : Inv ρ0 h0 w0 C ρ' h' w' σ a where
  fr := iv.fr.trans fr
  hr := hr
  tr := fun t => (iv.tr t).step fr
  dis := iv.dis
  refs := iv.refs
  size := iv.size
  defers := iv.defers

theorem getD_put {a : Act} {d : Nat} {v : Value} {n : Nat} (hs : a.tmps.size = n) (hd : d < n) (t : Nat) : (a.put (some d) v).tmps.getD t undef = if t = d then v else a.tmps.getD t undef := by
  simp only [Act.put]
  by_cases h : t = d
  · subst h
    rw [if_pos rfl]
    simp [Array.getD, hs, hd]
  · rw [if_neg h]
    simp only [Array.getD_eq_getD_getElem?]
    rw [Array.getElem?_setIfInBounds_ne (fun e => h e.symm)]

/-- A temporary gets a value; if that is a place of the frame's own, no other temporary has it. -/
theorem Inv.putP {d : Nat} {x : TV} {v : Value} (iv : Inv ρ0 h0 w0 C ρ h w σ a) (hd : d < C.ntmps) (hown : C.own.testBit d = false)
    (hx : TR ρ w w0.heap.size a.tmps x v) (hnv : ∀ b, privB x v = some b → ∀ t, t ≠ d → privB (σ t) (a.tmps.getD t undef) ≠ some b) (hxr : ∀ t off, x = .ref t off → C.own.testBit t = true) :
    Inv ρ0 h0 w0 C ρ h w (Env.over [(d, x)] σ) (a.put (some d) v) := by
  have hget := getD_put (a := a) (d := d) (v := v) iv.size hd
  have hov : ∀ t, Env.over [(d, x)] σ t = if t = d then x else σ t := fun t => by
    simp only [Env.over]
    by_cases h : t = d
    · subst h; rw [if_pos rfl]; simp
    · rw [if_neg h]
      have : d.beq t = false := beq_ne fun e => h e.symm
      rw [this]
  have htr : ∀ {y : TV} {u : Value}, (∀ t off, y = .ref t off → C.own.testBit t = true) → TR ρ w w0.heap.size a.tmps y u → TR ρ w w0.heap.size (a.put (some d) v).tmps y u := by
    intro y u hy ht
    cases y with
    | ref t off =>
      obtain ⟨b, h1, h2⟩ := ht
      refine ⟨b, ?_, h2⟩
      rw [hget, if_neg]
      · exact h1
      · intro e
        have := hy t off rfl
        rw [e, hown] at this
        cases this
    | _ => exact ht
  refine ⟨iv.fr, iv.hr, fun t => ?_, fun t t' b hne h1 h2 => ?_, fun u t off hu => ?_, ?_, iv.defers⟩
  · rw [hov, hget]
    by_cases h : t = d
    · rw [if_pos h, if_pos h]; exact htr hxr hx
    · rw [if_neg h, if_neg h]; exact htr (fun t' off e => iv.refs t t' off e) (iv.tr t)
  · rw [hov, hget] at h1 h2
    by_cases ht : t = d
    · rw [if_pos ht, if_pos ht] at h1
      have ht' : t' ≠ d := fun e => hne (ht.trans e.symm)
      rw [if_neg ht', if_neg ht'] at h2
      exact hnv b h1 t' ht' h2
    · by_cases ht' : t' = d
      · rw [if_pos ht', if_pos ht'] at h2
        rw [if_neg ht, if_neg ht] at h1
        exact hnv b h2 t ht h1
      · rw [if_neg ht, if_neg ht] at h1
        rw [if_neg ht', if_neg ht'] at h2
        exact iv.dis t t' b hne h1 h2
  · rw [hov] at hu
    by_cases h : u = d
    · rw [if_pos h] at hu; exact hxr t off hu
    · rw [if_neg h] at hu; exact iv.refs u t off hu
  · simp [Act.put, iv.size]

/-- A temporary gets a value (no place of the frame's own). -/
theorem Inv.put {d : Nat} {x : TV} {v : Value} (iv : Inv ρ0 h0 w0 C ρ h w σ a) (hd : d < C.ntmps) (hown : C.own.testBit d = false)
    (hx : TR ρ w w0.heap.size a.tmps x v) (hnv : privB x v = none) (hxr : ∀ t off, x = .ref t off → C.own.testBit t = true) :
    Inv ρ0 h0 w0 C ρ h w (Env.over [(d, x)] σ) (a.put (some d) v) :=
  iv.putP hd hown hx (fun b hb => by rw [hnv] at hb; cases hb) hxr

/-- Of a temporary nothing more is told. -/
theorem Inv.forget {d : Nat} (iv : Inv ρ0 h0 w0 C ρ h w σ a) : Inv ρ0 h0 w0 C ρ h w (Env.over [(d, .undef)] σ) a := by
  have hov : ∀ t, Env.over [(d, TV.undef)] σ t = if t = d then .undef else σ t := fun t => by
    simp only [Env.over]
    by_cases h : t = d
    · subst h; rw [if_pos rfl]; simp
    · rw [if_neg h]
      have : d.beq t = false := beq_ne fun e => h e.symm
      rw [this]
  refine ⟨iv.fr, iv.hr, fun t => ?_, fun t t' b hne h1 h2 => ?_, fun u t off hu => ?_, iv.size, iv.defers⟩
  · rw [hov]
    by_cases h : t = d
    · rw [if_pos h]; trivial
    · rw [if_neg h]; exact iv.tr t
  · rw [hov] at h1 h2
    by_cases ht : t = d
    · rw [if_pos ht] at h1; cases h1
    · by_cases ht' : t' = d
      · rw [if_pos ht'] at h2; cases h2
      · rw [if_neg ht] at h1
        rw [if_neg ht'] at h2
        exact iv.dis t t' b hne h1 h2
  · rw [hov] at hu
    by_cases h : u = d
    · rw [if_pos h] at hu; cases hu
    · rw [if_neg h] at hu; exact iv.refs u t off hu

/-- A slice literal goes over to another temporary, its front part alone. -/
theorem Inv.moveLit {d u sz n m b c : Nat} {cs : List Cell} (iv : Inv ρ0 h0 w0 C ρ h w σ a) (hu : u < C.ntmps) (hne : u ≠ d) (hown : C.own.testBit u = false) (hl : σ d = .lit sz n cs) (hsz : 0 < sz) (hm : m ≤ n)
    (hv : a.tmps.getD d undef = .slice (some ⟨b, 0, none⟩) n c) :
    Inv ρ0 h0 w0 C ρ h w (Env.over [(u, .lit sz m cs), (d, .undef)] σ) (a.put (some u) (.slice (some ⟨b, 0, none⟩) m c)) := by
  have htr := iv.tr d
  rw [hl, hv] at htr
  obtain ⟨b', c', he, ⟨h1, h2, h3⟩, hp⟩ := htr
  cases he
  have hpd : privB (σ d) (a.tmps.getD d undef) = some b := by rw [hl, hv]; rfl
  refine (iv.forget (d := d)).putP hu hown ⟨b, c, rfl, ⟨Nat.le_trans hm h1, h2, fun e => ?_⟩, hp⟩ (fun b' hb' t ht => ?_) (fun _ _ e => by cases e)
  · rw [e] at h2
    have hc : c = 0 := by
      rcases Nat.eq_zero_or_pos c with hc | hc
      · exact hc
      · have := Nat.mul_pos hc hsz; simp only [List.length_nil] at h2; omega
    omega
  · cases hb'
    simp only [Env.over]
    by_cases htd : t = d
    · subst htd; simp [privB]
    · rw [beq_ne fun e => htd e.symm]
      exact fun h4 => iv.dis d t b (fun e => htd e.symm) hpd h4

/-- A new block of the machine's that the abstract heap knows nothing of. -/
theorem Fr.push (ob : Go.Obj) : Fr ρ h w ρ h { w with heap := w.heap.push ob } where
  os := rfl
  tape := rfl
  output := rfl
  size := by simp
  sub := fun _ _ h => h
  new := fun _ _ h => .inl h
  keep := fun b hb _ => by simp [Array.getElem?_push, Nat.ne_of_lt hb]
  wr := fun _ _ h => h

theorem HR.push (hr : HR ρ h w) (ob : Go.Obj) : HR ρ h { w with heap := w.heap.push ob } where
  live := fun i o l hi hl => by
    obtain ⟨ob', h1, h2⟩ := hr.live i o l hi hl
    exact ⟨ob', by simp [Array.getElem?_push, Nat.ne_of_lt (hr.dom i l hl)]; exact h1, h2⟩
  inj := hr.inj
  dom := fun i l hl => by have := hr.dom i l hl; simp; omega
  fresh := hr.fresh
  glob := hr.glob

theorem privB_val {x : V} {v : Value} : privB (.v x) v = none := rfl

/-- A temporary gets a place of the frame's own: a block that is new. -/
theorem Inv.putNew {d : Nat} {x : TV} {v : Value} {c : Array Value} {el : TypeId} (iv : Inv ρ0 h0 w0 C ρ h w σ a) (hd : d < C.ntmps)
    (hnr : ∀ u off, σ u ≠ .ref d off)
    (hx : (∃ cs, x = .var cs ∧ v = .pointer (some ⟨w.heap.size, 0, none⟩) ∧ CRs ρ cs c.toList) ∨
      (∃ sz n cs, x = .lit sz n cs ∧ v = .slice (some ⟨w.heap.size, 0, none⟩) n n ∧ n * sz = cs.length ∧ CRs ρ cs c.toList)) :
    Inv ρ0 h0 w0 C ρ h { w with heap := w.heap.push (.cells c el) } (Env.over [(d, x)] σ) (a.put (some d) v) := by
  have hget := getD_put (a := a) (d := d) (v := v) iv.size hd
  have hov : ∀ t, Env.over [(d, x)] σ t = if t = d then x else σ t := fun t => by
    simp only [Env.over]
    by_cases h : t = d
    · subst h; rw [if_pos rfl]; simp
    · rw [if_neg h]
      have : d.beq t = false := beq_ne fun e => h e.symm
      rw [this]
  have iv' := iv.step (iv.hr.push (.cells c el)) (Fr.push (.cells c el))
  have hpriv : ∀ cs, CRs ρ cs c.toList → Priv ρ { w with heap := w.heap.push (.cells c el) } w0.heap.size w.heap.size cs := fun cs hcs =>
    ⟨iv.fr.size, fun i l hl he => by have := iv.hr.dom i l hl; omega, c, el, by simp, hcs⟩
  have hb : privB x v = some w.heap.size := by
    rcases hx with ⟨cs, rfl, rfl, _⟩ | ⟨sz, n, cs, rfl, rfl, _⟩ <;> rfl
  have hold : ∀ t b, privB (σ t) (a.tmps.getD t undef) = some b → b < w.heap.size := by
    intro t b ht
    have := iv.tr t
    cases hσ : σ t with
    | var cs => rw [hσ] at this ht; obtain ⟨b', h1, h2⟩ := this; rw [h1] at ht; cases ht; exact h2.lt
    | lit sz n cs => rw [hσ] at this ht; obtain ⟨b', c', h1, _, h2⟩ := this; rw [h1] at ht; cases ht; exact h2.lt
    | _ => rw [hσ] at ht; cases ht
  refine ⟨iv'.fr, iv'.hr, fun t => ?_, fun t t' b hne h1 h2 => ?_, fun u t off hu => ?_, ?_, iv.defers⟩
  · rw [hov, hget]
    by_cases h : t = d
    · rw [if_pos h, if_pos h]
      rcases hx with ⟨cs, rfl, rfl, hcs⟩ | ⟨sz, n, cs, rfl, rfl, hl, hcs⟩
      · exact ⟨_, rfl, hpriv cs hcs⟩
      · exact ⟨_, _, rfl, ⟨Nat.le_refl _, hl, fun _ => rfl⟩, hpriv cs hcs⟩
    · rw [if_neg h, if_neg h]
      have ht := iv'.tr t
      cases hσ : σ t with
      | ref t' off =>
        rw [hσ] at ht
        obtain ⟨b, h1, h2⟩ := ht
        refine ⟨b, ?_, h2⟩
        rw [hget, if_neg]
        · exact h1
        · intro e; rw [e] at hσ; exact hnr t off hσ
      | _ => rw [hσ] at ht; exact ht
  · rw [hov, hget] at h1 h2
    by_cases ht : t = d
    · rw [if_pos ht, if_pos ht, hb] at h1
      rw [if_neg (fun e => hne (ht.trans e.symm)), if_neg (fun e => hne (ht.trans e.symm))] at h2
      cases h1
      exact absurd (hold t' _ h2) (Nat.lt_irrefl _)
    · by_cases ht' : t' = d
      · rw [if_pos ht', if_pos ht', hb] at h2
        rw [if_neg ht, if_neg ht] at h1
        cases h2
        exact absurd (hold t _ h1) (Nat.lt_irrefl _)
      · rw [if_neg ht, if_neg ht] at h1
        rw [if_neg ht', if_neg ht'] at h2
        exact iv.dis t t' b hne h1 h2
  · rw [hov] at hu
    by_cases h : u = d
    · rw [if_pos h] at hu
      rcases hx with ⟨cs, rfl, _⟩ | ⟨sz, n, cs, rfl, _⟩ <;> cases hu
    · rw [if_neg h] at hu; exact iv.refs u t off hu
  · simp [Act.put, iv.size]

end
end Go.Proofs.YtadakbmoanbcgaaGreatDoorVc
