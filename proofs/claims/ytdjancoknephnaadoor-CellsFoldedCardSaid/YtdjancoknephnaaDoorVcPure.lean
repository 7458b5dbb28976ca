/- Vc, part 5: operations that change no memory but their own temporary. -/
import Derived.Test.YtdjancoknephnaaDoorVcRel
namespace Go.Proofs.YtdjancoknephnaaDoorVc

def Res.out (r : Res) (h : Heap) (x : TV) (ids : List Nat) : Prop := r.run (fun y js h' => y = x ∧ js = ids ∧ h' = h) h

theorem exKd_mono {k : Kd} {p q : Cell → Prop} (hp : exKd k p) (h : ∀ c, p c → q c) : exKd k q := by
  cases k <;> first | (obtain ⟨x, hx⟩ := hp; exact ⟨x, h _ hx⟩) | exact h _ hp
theorem exCells_mono : ∀ {ks : List Kd} {p q : List Cell → Prop}, exCells ks p → (∀ c, p c → q c) → exCells ks q
  | [], _, _, hp, h => h _ hp
  | _ :: _, _, _, hp, h => exKd_mono hp fun _ hc => exCells_mono hc fun _ => h _
theorem exV_mono {k : VK} {p q : V → Prop} (hp : exV k p) (h : ∀ c, p c → q c) : exV k q := by
  cases k with
  | one k => exact exKd_mono hp fun _ => h _
  | agg ks => exact exCells_mono hp fun _ => h _
theorem exVs_mono : ∀ {ks : List VK} {p q : List V → Prop}, exVs ks p → (∀ c, p c → q c) → exVs ks q
  | [], _, _, hp, h => h _ hp
  | _ :: _, _, _, hp, h => exV_mono hp fun _ hc => exVs_mono hc fun _ => h _

/-- A cell is of a kind. -/
def Kd.fits : Kd → Cell → Prop
  | .bool, .bool _ => True
  | .int k, .int k' _ => k = k'
  | .str, .str _ => True
  | .ptr, .ptr _ => True
  | .slice sz, .slice sz' _ => sz = sz'
  | .map, .map _ => True
  | .func, .func _ => True
  | .any, .any => True
  | _, _ => False
def fitsAll : List Kd → List Cell → Prop
  | [], [] => True
  | k :: ks, c :: cs => k.fits c ∧ fitsAll ks cs
  | _, _ => False
def VK.fits : VK → V → Prop
  | .one k, .one c => k.fits c
  | .agg ks, .agg cs => fitsAll ks cs
  | _, _ => False

theorem exKd_out {k : Kd} {p : Cell → Prop} (h : exKd k p) : ∃ c, k.fits c ∧ p c := by
  cases k <;> first | (obtain ⟨x, hx⟩ := h; exact ⟨_, by simp [Kd.fits], hx⟩) | exact ⟨.any, trivial, h⟩
theorem exCells_out : ∀ {ks : List Kd} {p : List Cell → Prop}, exCells ks p → ∃ cs, fitsAll ks cs ∧ p cs
  | [], _, h => ⟨[], trivial, h⟩
  | _ :: _, _, h => let ⟨c, hc, h⟩ := exKd_out h; let ⟨cs, hcs, h⟩ := exCells_out h; ⟨c :: cs, ⟨hc, hcs⟩, h⟩
theorem exV_out {k : VK} {p : V → Prop} (h : exV k p) : ∃ c, k.fits c ∧ p c := by
  cases k with
  | one k => obtain ⟨c, h1, h2⟩ := exKd_out h; exact ⟨.one c, h1, h2⟩
  | agg ks => obtain ⟨c, h1, h2⟩ := exCells_out h; exact ⟨.agg c, h1, h2⟩
theorem exKd_in {k : Kd} {p : Cell → Prop} {c : Cell} (hc : k.fits c) (h : p c) : exKd k p := by
  cases k <;> cases c <;> first | exact hc.elim | (cases hc; exact ⟨_, h⟩) | exact ⟨_, h⟩ | exact h
theorem exCells_in : ∀ {ks : List Kd} {p : List Cell → Prop} {cs : List Cell}, fitsAll ks cs → p cs → exCells ks p
  | [], _, [], _, h => h
  | _ :: _, _, _ :: _, ⟨h0, hs⟩, h => exKd_in h0 (exCells_in hs h)
  | [], _, _ :: _, h, _ => h.elim
  | _ :: _, _, [], h, _ => h.elim
theorem exV_in {k : VK} {p : V → Prop} {c : V} (hc : k.fits c) (h : p c) : exV k p := by
  cases k <;> cases c <;> first | exact hc.elim | exact exKd_in hc h | exact exCells_in hc h
theorem exVs_out : ∀ {ks : List VK} {p : List V → Prop}, exVs ks p → ∃ cs, p cs
  | [], _, h => ⟨[], h⟩
  | _ :: _, _, h => let ⟨c, _, h⟩ := exV_out h; let ⟨cs, h⟩ := exVs_out h; ⟨c :: cs, h⟩

theorem fitsAll.length : ∀ {ks : List Kd} {cs : List Cell}, fitsAll ks cs → cs.length = ks.length
  | [], [], _ => rfl
  | _ :: _, _ :: _, ⟨_, h⟩ => by simp [fitsAll.length h]
  | [], _ :: _, h => h.elim
  | _ :: _, [], h => h.elim
theorem VK.fits_len {k : VK} {x : V} (h : k.fits x) : x.cells.length = k.kds.length := by
  cases k <;> cases x <;> first | exact h.elim | rfl | exact fitsAll.length h

theorem Res.run_mono {r : Res} {k k' : TV → List Nat → T} {h : Heap} (hr : r.run k h) (hk : ∀ x ids h', k x ids h' → k' x ids h') : r.run k' h := by
  induction r generalizing k k' with
  | val x => exact hk _ _ _ hr
  | bad => exact hr.elim
  | ask p r ih => exact ⟨hr.1, ih hr.2 hk⟩
  | deref a f ih =>
    cases a with
    | none => exact hr.elim
    | some p => obtain ⟨i, o⟩ := p; exact ih i o hr hk
  | read i o vk f =>
    obtain ⟨c, hc, h1, h2⟩ := exV_out hr
    exact exV_in hc ⟨h1, hk _ _ _ h2⟩
  | bytes s f =>
    obtain ⟨b, h1, h2⟩ := hr
    exact ⟨b, h1, hk _ _ _ h2⟩
  | look m vk g f =>
    obtain ⟨x, hx, b, h1, h2⟩ := exV_out hr
    exact exV_in hx ⟨b, h1, hk _ _ _ h2⟩
  | glob g f ih =>
    obtain ⟨q, i, hq, h1⟩ := hr
    exact ⟨q, i, hq, ih i h1 fun x ids h' h2 => hk _ _ _ h2⟩
  | room i n r ih => exact ⟨hr.1, ih hr.2 fun x ids h' h2 => hk _ _ _ h2⟩

theorem Res.run_out {r : Res} {k : TV → List Nat → T} {h : Heap} (hr : r.run k h) : ∃ x ids, r.out h x ids ∧ k x ids h := by
  induction r generalizing k with
  | val x => exact ⟨x, [], ⟨rfl, rfl, rfl⟩, hr⟩
  | bad => exact hr.elim
  | ask p r ih => obtain ⟨x, ids, h1, h2⟩ := ih hr.2; exact ⟨x, ids, ⟨hr.1, h1⟩, h2⟩
  | deref a f ih =>
    cases a with
    | none => exact hr.elim
    | some p => obtain ⟨i, o⟩ := p; obtain ⟨x, ids, h1, h2⟩ := ih i o hr; exact ⟨x, ids, h1, h2⟩
  | read i o vk f =>
    obtain ⟨c, hc, h1, h2⟩ := exV_out hr
    exact ⟨f c, [i], exV_in hc ⟨h1, rfl, rfl, rfl⟩, h2⟩
  | bytes s f =>
    obtain ⟨b, h1, h2⟩ := hr
    exact ⟨f b, s.ids, ⟨b, h1, rfl, rfl, rfl⟩, h2⟩
  | look m vk g f =>
    obtain ⟨x, hx, b, h1, h2⟩ := exV_out hr
    exact ⟨f x b, mapIds m, exV_in hx ⟨b, h1, rfl, rfl, rfl⟩, h2⟩
  | glob g f ih =>
    obtain ⟨q, i, hq, hk⟩ := hr
    obtain ⟨x, ids, h1, h2⟩ := ih i hk
    refine ⟨x, q :: ids, ⟨q, i, hq, ?_⟩, h2⟩
    exact Res.run_mono h1 fun y js h' ⟨e1, e2, e3⟩ => ⟨e1, by rw [e2], e3⟩
  | room i n r ih =>
    obtain ⟨x, ids, h1, h2⟩ := ih hr.2
    refine ⟨x, i :: ids, ⟨hr.1, ?_⟩, h2⟩
    exact Res.run_mono h1 fun y js h' ⟨e1, e2, e3⟩ => ⟨e1, by rw [e2], e3⟩

theorem Heap.read_congr {h h' : Heap} {i : Nat} (he : h' i = h i) (o n : Nat) : h'.read i o n = h.read i o n := by simp only [Heap.read, he]
theorem Heap.sl_congr {h h' : Heap} {s : Sl} (he : ∀ i ∈ s.ids, h' i = h i) (sz : Nat) : h'.sl sz s = h.sl sz s := by
  obtain ⟨a, n⟩ := s
  cases a with
  | none => rfl
  | some p => exact Heap.read_congr (he _ (by simp [Sl.ids])) _ _

theorem mapOf_congr {h h' : Heap} {m : Option Nat} (he : ∀ i ∈ mapIds m, h' i = h i) : mapOf h' m = mapOf h m := by
  cases m with
  | none => rfl
  | some i => simp only [mapOf, he i (by simp [mapIds])]

theorem Res.out_congr {r : Res} {h h' : Heap} {x : TV} {ids : List Nat} (hr : r.out h x ids) (he : ∀ i ∈ ids, h' i = h i) : r.out h' x ids := by
  unfold Res.out at *
  induction r generalizing ids with
  | val y => exact ⟨hr.1, hr.2.1, rfl⟩
  | bad => exact hr.elim
  | ask p r ih => exact ⟨hr.1, ih hr.2 he⟩
  | deref a f ih =>
    cases a with
    | none => exact hr.elim
    | some p => obtain ⟨i, o⟩ := p; exact ih i o hr he
  | read i o vk f =>
    obtain ⟨c, hc, h1, h2, h3, _⟩ := exV_out hr
    exact exV_in hc ⟨by rw [Heap.read_congr (he i (by simp [← h3]))]; exact h1, h2, h3, rfl⟩
  | bytes s f =>
    obtain ⟨b, h1, h2, h3, _⟩ := hr
    exact ⟨b, by rw [Heap.sl_congr (by rw [h3]; exact he)]; exact h1, h2, h3, rfl⟩
  | look m vk g f =>
    obtain ⟨x, hx, b, h1, h2, h3, _⟩ := exV_out hr
    exact exV_in hx ⟨b, by rw [mapOf_congr (by rw [h3]; exact he)]; exact h1, h2, h3, rfl⟩
  | glob g f ih =>
    obtain ⟨q, i, ⟨φ, hq, hf⟩, hk⟩ := hr
    obtain ⟨z, js, h1, h2, h3, _⟩ := Res.run_out hk
    subst h3
    have h4 := ih i (ids := js) (Res.run_mono h1 fun y js' h' ⟨e1, e2, e3⟩ => ⟨e1.trans h2, e2, e3⟩) fun j hj => he j (List.mem_cons_of_mem _ hj)
    refine ⟨q, i, ⟨φ, by rw [he q (List.mem_cons_self ..)]; exact hq, hf⟩, ?_⟩
    exact Res.run_mono h4 fun y js' h' ⟨e1, e2, e3⟩ => ⟨e1, by rw [e2], e3⟩
  | room i n r ih =>
    obtain ⟨⟨ro, cs, hi, hn⟩, hk⟩ := hr
    obtain ⟨z, js, h1, h2, h3, _⟩ := Res.run_out hk
    subst h3
    have h4 := ih (ids := js) (Res.run_mono h1 fun y js' h' ⟨e1, e2, e3⟩ => ⟨e1.trans h2, e2, e3⟩) fun j hj => he j (List.mem_cons_of_mem _ hj)
    refine ⟨⟨ro, cs, by rw [he i (List.mem_cons_self ..)]; exact hi, hn⟩, ?_⟩
    exact Res.run_mono h4 fun y js' h' ⟨e1, e2, e3⟩ => ⟨e1, by rw [e2], e3⟩

/-! ### constants -/
theorem eqKind_eq {a b : IntKind} (h : eqKind a b = true) : a = b := by cases a <;> cases b <;> first | rfl | simp [eqKind] at h

theorem constC_R {ρ : Rho} {k : Kd} {v : Value} {c : Cell} (h : constC k v = some c) : CR ρ c v := by
  unfold constC at h
  split at h
  case h_2 =>
    split at h
    · rename_i hk; cases h; cases eqKind_eq hk; rfl
    · cases h
  case h_5 =>
    split at h
    · rename_i hk; cases h; simp at hk; obtain ⟨rfl, rfl⟩ := hk; exact ⟨rfl, rfl⟩
    · cases h
  case h_8 =>
    split at h
    · rename_i hk
      cases h
      simp at hk
      obtain ⟨rfl, rfl⟩ := hk
      exact ⟨#[], rfl, trivial⟩
    · cases h
  case h_11 =>
    cases h
    rename_i h1 h2
    cases v <;> first | rfl | exact absurd rfl (h1 _) | exact absurd rfl (h2 _)
  all_goals first | (cases h; rfl) | cases h

theorem constCs_R {ρ : Rho} : ∀ {ks : List Kd} {vs : List Value} {cs : List Cell}, constCs ks vs = some cs → CRs ρ cs vs
  | [], [], cs, h => by simp [constCs] at h; subst h; trivial
  | k :: ks, v :: vs, cs, h => by
    simp only [constCs] at h
    split at h
    · rename_i c cs' h1 h2; cases h; exact ⟨constC_R h1, constCs_R h2⟩
    · cases h
  | [], _ :: _, _, h => by simp [constCs] at h
  | _ :: _, [], _, h => by simp [constCs] at h

theorem constBare_R {ρ : Rho} {v : Value} {y : V} (h : constBare v = .v y) : VR ρ y v := by
  unfold constBare at h
  split at h <;> first | (cases h; rfl) | cases h

theorem constT_R {ρ : Rho} {P : Program} {t : TypeId} {v : Value} {y : V} (h : constT P t v = .v y) : VR ρ y v := by
  unfold constT at h
  split at h
  · split at h
    · rename_i hc; cases h; exact constC_R hc
    · cases h
  · split at h
    · rename_i hc; cases h; exact ⟨_, rfl, constCs_R hc⟩
    · cases h
  · exact constBare_R h

theorem constBare_not {v : Value} {x : TV} (h : constBare v = x) : (∃ y, x = .v y) ∨ x = .undef := by
  unfold constBare at h
  split at h <;> subst h <;> simp
theorem constT_not {P : Program} {t : TypeId} {v : Value} {x : TV} (h : constT P t v = x) : (∃ y, x = .v y) ∨ x = .undef := by
  unfold constT at h
  split at h
  · split at h <;> subst h <;> simp
  · split at h <;> subst h <;> simp
  · exact constBare_not h

/-! ### operands -/
section
variable {C : Ctx} {e : Env} {a : Act} {ρ : Rho} {w : World} {n0 : Nat}

/-- What is asked of an operand. -/
def OpdR (e : Env) (a : Act) (ρ : Rho) (w : World) (n0 : Nat) (x : Operand) : Prop := match x with
  | .tmp u => TR ρ w n0 a.tmps (e.get u) (a.tmps.getD u undef)
  | _ => True

theorem opd_TR {t : TypeId} {x : Operand} (hx : OpdR e a ρ w n0 x) : TR ρ w n0 a.tmps (opd C e t x) (a.eval x) := by
  cases x with
  | tmp u => exact hx
  | const v =>
    show TR ρ w n0 a.tmps (constT C.P t v) v
    rcases constT_not (P := C.P) (t := t) (v := v) rfl with ⟨y, hy⟩ | hy
    · rw [hy]; exact constT_R hy
    · rw [hy]; trivial
  | global g => trivial
  | func f => exact ⟨#[], rfl, trivial⟩

theorem opdBare_TR {x : Operand} (hx : OpdR e a ρ w n0 x) : TR ρ w n0 a.tmps (opdBare e x) (a.eval x) := by
  cases x with
  | tmp u => exact hx
  | const v =>
    show TR ρ w n0 a.tmps (constBare v) v
    rcases constBare_not (v := v) rfl with ⟨y, hy⟩ | hy
    · rw [hy]; exact constBare_R hy
    · rw [hy]; trivial
  | global g => trivial
  | func f => exact ⟨#[], rfl, trivial⟩

theorem opd_V {t : TypeId} {x : Operand} {y : V} (hx : OpdR e a ρ w n0 x) (h : opd C e t x = .v y) : VR ρ y (a.eval x) := by
  have := opd_TR (C := C) (t := t) hx; rw [h] at this; exact this
theorem opdBare_V {x : Operand} {y : V} (hx : OpdR e a ρ w n0 x) (h : opdBare e x = .v y) : VR ρ y (a.eval x) := by
  have := opdBare_TR hx; rw [h] at this; exact this
end

/-- What is shown of an operation. -/
def POut (ρ : Rho) (w : World) (n0 : Nat) (tm : Array Value) (x : TV) (r : Result Next) : Prop :=
  match x with
  | .var cs => ∃ c el, r = .ok (.value (.pointer (some ⟨w.heap.size, 0, none⟩))) { w with heap := w.heap.push (.cells c el) } ∧ CRs ρ cs c.toList
  | .lit sz n cs => ∃ c el, r = .ok (.value (.slice (some ⟨w.heap.size, 0, none⟩) n n)) { w with heap := w.heap.push (.cells c el) } ∧ n * sz = cs.length ∧ CRs ρ cs c.toList
  | x => ∃ v, r = .ok (.value v) w ∧ TR ρ w n0 tm x v

theorem POut.v {ρ : Rho} {w : World} {n0 : Nat} {tm : Array Value} {x : V} {r : Result Next} {v : Value} (h : r = .ok (.value v) w) (hv : VR ρ x v) : POut ρ w n0 tm (.v x) r := ⟨v, h, hv⟩

end Go.Proofs.YtdjancoknephnaaDoorVc
