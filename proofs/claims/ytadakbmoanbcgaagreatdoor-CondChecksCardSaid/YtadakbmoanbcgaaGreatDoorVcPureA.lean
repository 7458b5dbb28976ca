/- Vc, part 5: operations that change no memory but their own temporary. Vc, part 6: binary and unary operators, conversions. Vc, part 7: loads, addresses, slices. Vc, part 8: the other operations that change no memory. -/
import Derived.Test.YtadakbmoanbcgaaGreatDoorVcRel
import Derived.Laws.Strings
import Derived.Laws.Slices
import Derived.Laws.Build
import Derived.Laws.BytesString
import Derived.Laws.BytesArg
import Derived.Laws.Runes
set_option linter.unusedSimpArgs false
set_option linter.unusedVariables false
-- Pure
namespace Go.Proofs.YtadakbmoanbcgaaGreatDoorVc

def Res.out (r : Res) (h : Heap) (x : TV) (ids : List Nat) : Prop := r.run (fun y js h' => y = x ∧ js = ids ∧ h' = h) h

theorem exKd_mono {k : Kd} {p q : Cell → Prop} (hp : exKd k p) (h : ∀ c, p c → q c) : exKd k q := by
  cases k <;> first | (obtain ⟨x, hx⟩ := hp; exact ⟨x, h _ hx⟩) | exact h _ hp
theorem exCells_mono : ∀ {ks : List Kd} {p q : List Cell → Prop}, exCells ks p → (∀ c, p c → q c) → exCells ks q
  | [], _, _, hp, h => h _ hp
  | _ :: _, _, _, hp, h => exKd_mono hp fun _ hc => exCells_mono hc fun _ => h _
theorem exV_mono {k : VK} {p q : V → Prop} (hp : exV k p) (h : ∀ c, p c → q c) : exV k q := by
  cases k with
  | one k => exact exKd_mono hp fun _ => h _
  | agg ks => exact exCells_mono hp fun _ => h _
theorem exVs_mono : ∀ {ks : List VK} {p q : List V → Prop}, exVs ks p → (∀ c, p c → q c) → exVs ks q
  | [], _, _, hp, h => h _ hp
  | _ :: _, _, _, hp, h => exV_mono hp fun _ hc => exVs_mono hc fun _ => h _

/-- A cell is of a kind. -/
def Kd.fits : Kd → Cell → Prop
  | .bool, .bool _ => True
  | .int k, .int k' _ => k = k'
  | .str, .str _ => True
  | .ptr, .ptr _ => True
  | .slice sz, .slice sz' _ => sz = sz'
  | .map, .map _ => True
  | .func, .func _ => True
  | .any, .any => True
  | _, _ => False
def fitsAll : List Kd → List Cell → Prop
  | [], [] => True
  | k :: ks, c :: cs => k.fits c ∧ fitsAll ks cs
  | _, _ => False
def VK.fits : VK → V → Prop
  | .one k, .one c => k.fits c
  | .agg ks, .agg cs => fitsAll ks cs
  | _, _ => False

theorem exKd_out {k : Kd} {p : Cell → Prop} (h : exKd k p) : ∃ c, k.fits c ∧ p c := by
  cases k <;> first | (obtain ⟨x, hx⟩ := h; exact ⟨_, by simp [Kd.fits], hx⟩) | exact ⟨.any, trivial, h⟩
theorem exCells_out : ∀ {ks : List Kd} {p : List Cell → Prop}, exCells ks p → ∃ cs, fitsAll ks cs ∧ p cs
  | [], _, h => ⟨[], trivial, h⟩
  | _ :: _, _, h => let ⟨c, hc, h⟩ := exKd_out h; let ⟨cs, hcs, h⟩ := exCells_out h; ⟨c :: cs, ⟨hc, hcs⟩, h⟩
theorem exV_out {k : VK} {p : V → Prop} (h : exV k p) : ∃ c, k.fits c ∧ p c := by
  cases k with
  | one k => obtain ⟨c, h1, h2⟩ := exKd_out h; exact ⟨.one c, h1, h2⟩
  | agg ks => obtain ⟨c, h1, h2⟩ := exCells_out h; exact ⟨.agg c, h1, h2⟩
theorem exKd_in {k : Kd} {p : Cell → Prop} {c : Cell} (hc : k.fits c) (h : p c) : exKd k p := by
  cases k <;> cases c <;> first | exact hc.elim | (cases hc; exact ⟨_, h⟩) | exact ⟨_, h⟩ | exact h
theorem exCells_in : ∀ {ks : List Kd} {p : List Cell → Prop} {cs : List Cell}, fitsAll ks cs → p cs → exCells ks p
  | [], _, [], _, h => h
  | _ :: _, _, _ :: _, ⟨h0, hs⟩, h => exKd_in h0 (exCells_in hs h)
  | [], _, _ :: _, h, _ => h.elim
  | _ :: _, _, [], h, _ => h.elim
theorem exV_in {k : VK} {p : V → Prop} {c : V} (hc : k.fits c) (h : p c) : exV k p := by
  cases k <;> cases c <;> first | exact hc.elim | exact exKd_in hc h | exact exCells_in hc h
theorem exVs_out : ∀ {ks : List VK} {p : List V → Prop}, exVs ks p → ∃ cs, p cs
  | [], _, h => ⟨[], h⟩
  | _ :: _, _, h => let ⟨c, _, h⟩ := exV_out h; let ⟨cs, h⟩ := exVs_out h; ⟨c :: cs, h⟩

theorem fitsAll.length : ∀ {ks : List Kd} {cs : List Cell}, fitsAll ks cs → cs.length = ks.length
  | [], [], _ => rfl
  | _ :: _, _ :: _, ⟨_, h⟩ => by simp [fitsAll.length h]
  | [], _ :: _, h => h.elim
  | _ :: _, [], h => h.elim
theorem VK.fits_len {k : VK} {x : V} (h : k.fits x) : x.cells.length = k.kds.length := by
  cases k <;> cases x <;> first | exact h.elim | rfl | exact fitsAll.length h

theorem Res.run_mono {r : Res} {k k' : TV → List Nat → T} {h : Heap} (hr : r.run k h) (hk : ∀ x ids h', k x ids h' → k' x ids h') : r.run k' h := by
  induction r generalizing k k' with
  | val x => exact hk _ _ _ hr
  | bad => exact hr.elim
  | ask p r ih => exact ⟨hr.1, ih hr.2 hk⟩
  | deref a f ih =>
    cases a with
    | none => exact hr.elim
    | some p => obtain ⟨i, o⟩ := p; exact ih i o hr hk
  | read i o vk f =>
    obtain ⟨c, hc, h1, h2⟩ := exV_out hr
    exact exV_in hc ⟨h1, hk _ _ _ h2⟩
  | bytes s f =>
    obtain ⟨b, h1, h2⟩ := hr
    exact ⟨b, h1, hk _ _ _ h2⟩
  | look m vk g f =>
    obtain ⟨x, hx, b, h1, h2⟩ := exV_out hr
    exact exV_in hx ⟨b, h1, hk _ _ _ h2⟩
  | glob g f ih =>
    obtain ⟨q, i, hq, h1⟩ := hr
    exact ⟨q, i, hq, ih i h1 fun x ids h' h2 => hk _ _ _ h2⟩
  | room i n r ih => exact ⟨hr.1, ih hr.2 fun x ids h' h2 => hk _ _ _ h2⟩

theorem Res.run_out {r : Res} {k : TV → List Nat → T} {h : Heap} (hr : r.run k h) : ∃ x ids, r.out h x ids ∧ k x ids h := by
  induction r generalizing k with
  | val x => exact ⟨x, [], ⟨rfl, rfl, rfl⟩, hr⟩
  | bad => exact hr.elim
  | ask p r ih => obtain ⟨x, ids, h1, h2⟩ := ih hr.2; exact ⟨x, ids, ⟨hr.1, h1⟩, h2⟩
  | deref a f ih =>
    cases a with
    | none => exact hr.elim
    | some p => obtain ⟨i, o⟩ := p; obtain ⟨x, ids, h1, h2⟩ := ih i o hr; exact ⟨x, ids, h1, h2⟩
  | read i o vk f =>
    obtain ⟨c, hc, h1, h2⟩ := exV_out hr
    exact ⟨f c, [i], exV_in hc ⟨h1, rfl, rfl, rfl⟩, h2⟩
  | bytes s f =>
    obtain ⟨b, h1, h2⟩ := hr
    exact ⟨f b, s.ids, ⟨b, h1, rfl, rfl, rfl⟩, h2⟩
  | look m vk g f =>
    obtain ⟨x, hx, b, h1, h2⟩ := exV_out hr
    exact ⟨f x b, mapIds m, exV_in hx ⟨b, h1, rfl, rfl, rfl⟩, h2⟩
  | glob g f ih =>
    obtain ⟨q, i, hq, hk⟩ := hr
    obtain ⟨x, ids, h1, h2⟩ := ih i hk
    refine ⟨x, q :: ids, ⟨q, i, hq, ?_⟩, h2⟩
    exact Res.run_mono h1 fun y js h' ⟨e1, e2, e3⟩ => ⟨e1, by rw [e2], e3⟩
  | room i n r ih =>
    obtain ⟨x, ids, h1, h2⟩ := ih hr.2
    refine ⟨x, i :: ids, ⟨hr.1, ?_⟩, h2⟩
    exact Res.run_mono h1 fun y js h' ⟨e1, e2, e3⟩ => ⟨e1, by rw [e2], e3⟩

theorem Heap.read_congr {h h' : Heap} {i : Nat} (he : h' i = h i) (o n : Nat) : h'.read i o n = h.read i o n := by simp only [Heap.read, he]
theorem Heap.sl_congr {h h' : Heap} {s : Sl} (he : ∀ i ∈ s.ids, h' i = h i) (sz : Nat) : h'.sl sz s = h.sl sz s := by
  obtain ⟨a, n⟩ := s
  cases a with
  | none => rfl
  | some p => exact Heap.read_congr (he _ (by simp [Sl.ids])) _ _

theorem mapOf_congr {h h' : Heap} {m : Option Nat} (he : ∀ i ∈ mapIds m, h' i = h i) : mapOf h' m = mapOf h m := by
  cases m with
  | none => rfl
  | some i => simp only [mapOf, he i (by simp [mapIds])]

theorem Res.out_congr {r : Res} {h h' : Heap} {x : TV} {ids : List Nat} (hr : r.out h x ids) (he : ∀ i ∈ ids, h' i = h i) : r.out h' x ids := by
  unfold Res.out at *
  induction r generalizing ids with
  | val y => exact ⟨hr.1, hr.2.1, rfl⟩
  | bad => exact hr.elim
  | ask p r ih => exact ⟨hr.1, ih hr.2 he⟩
  | deref a f ih =>
    cases a with
    | none => exact hr.elim
    | some p => obtain ⟨i, o⟩ := p; exact ih i o hr he
  | read i o vk f =>
    obtain ⟨c, hc, h1, h2, h3, _⟩ := exV_out hr
    exact exV_in hc ⟨by rw [Heap.read_congr (he i (by simp [← h3]))]; exact h1, h2, h3, rfl⟩
  | bytes s f =>
    obtain ⟨b, h1, h2, h3, _⟩ := hr
    exact ⟨b, by rw [Heap.sl_congr (by rw [h3]; exact he)]; exact h1, h2, h3, rfl⟩
  | look m vk g f =>
    obtain ⟨x, hx, b, h1, h2, h3, _⟩ := exV_out hr
    exact exV_in hx ⟨b, by rw [mapOf_congr (by rw [h3]; exact he)]; exact h1, h2, h3, rfl⟩
  | glob g f ih =>
    obtain ⟨q, i, ⟨φ, hq, hf⟩, hk⟩ := hr
    obtain ⟨z, js, h1, h2, h3, _⟩ := Res.run_out hk
    subst h3
    have h4 := ih i (ids := js) (Res.run_mono h1 fun y js' h' ⟨e1, e2, e3⟩ => ⟨e1.trans h2, e2, e3⟩) fun j hj => he j (List.mem_cons_of_mem _ hj)
    refine ⟨q, i, ⟨φ, by rw [he q (List.mem_cons_self ..)]; exact hq, hf⟩, ?_⟩
    exact Res.run_mono h4 fun y js' h' ⟨e1, e2, e3⟩ => ⟨e1, by rw [e2], e3⟩
  | room i n r ih =>
    obtain ⟨⟨ro, cs, hi, hn⟩, hk⟩ := hr
    obtain ⟨z, js, h1, h2, h3, _⟩ := Res.run_out hk
    subst h3
    have h4 := ih (ids := js) (Res.run_mono h1 fun y js' h' ⟨e1, e2, e3⟩ => ⟨e1.trans h2, e2, e3⟩) fun j hj => he j (List.mem_cons_of_mem _ hj)
    refine ⟨⟨ro, cs, by rw [he i (List.mem_cons_self ..)]; exact hi, hn⟩, ?_⟩
    exact Res.run_mono h4 fun y js' h' ⟨e1, e2, e3⟩ => ⟨e1, by rw [e2], e3⟩

/-! ### constants -/
theorem eqKind_eq {a b : IntKind} (h : eqKind a b = true) : a = b := by cases a <;> cases b <;> first | rfl | simp [eqKind] at h

theorem constC_R {ρ : Rho} {k : Kd} {v : Value} {c : Cell} (h : constC k v = some c) : CR ρ c v := by
  unfold constC at h
  split at h
  case h_2 =>
    split at h
    · rename_i hk; cases h; cases eqKind_eq hk; rfl
    · cases h
  case h_5 =>
    split at h
    · rename_i hk; cases h; simp at hk; obtain ⟨rfl, rfl⟩ := hk; exact ⟨rfl, rfl⟩
    · cases h
  case h_8 =>
    split at h
    · rename_i hk
      cases h
      simp at hk
      obtain ⟨⟨rfl, rfl⟩, hb⟩ := hk
      exact ⟨#[], (fnV_plain hb _).symm, .plain trivial hb⟩
    · cases h
  case h_11 =>
    cases h
    rename_i h1 h2
    cases v <;> first | rfl | exact absurd rfl (h1 _) | exact absurd rfl (h2 _)
  all_goals first | (cases h; rfl) | cases h

theorem constCs_R {ρ : Rho} : ∀ {ks : List Kd} {vs : List Value} {cs : List Cell}, constCs ks vs = some cs → CRs ρ cs vs
  | [], [], cs, h => by simp [constCs] at h; subst h; trivial
  | k :: ks, v :: vs, cs, h => by
    simp only [constCs] at h
    split at h
    · rename_i c cs' h1 h2; cases h; exact ⟨constC_R h1, constCs_R h2⟩
    · cases h
  | [], _ :: _, _, h => by simp [constCs] at h
  | _ :: _, [], _, h => by simp [constCs] at h

theorem constBare_R {ρ : Rho} {v : Value} {y : V} (h : constBare v = .v y) : VR ρ y v := by
  unfold constBare at h
  split at h <;> first | (cases h; rfl) | cases h

theorem constT_R {ρ : Rho} {P : Program} {t : TypeId} {v : Value} {y : V} (h : constT P t v = .v y) : VR ρ y v := by
  unfold constT at h
  split at h
  · split at h
    · rename_i hc; cases h; exact constC_R hc
    · cases h
  · split at h
    · rename_i hc; cases h; exact ⟨_, rfl, constCs_R hc⟩
    · cases h
  · exact constBare_R h

theorem constBare_not {v : Value} {x : TV} (h : constBare v = x) : (∃ y, x = .v y) ∨ x = .undef := by
  unfold constBare at h
  split at h <;> subst h <;> simp
theorem constT_not {P : Program} {t : TypeId} {v : Value} {x : TV} (h : constT P t v = x) : (∃ y, x = .v y) ∨ x = .undef := by
  unfold constT at h
  split at h
  · split at h <;> subst h <;> simp
  · split at h <;> subst h <;> simp
  · exact constBare_not h

/-! ### operands -/
section
variable {C : Ctx} {e : Env} {a : Act} {ρ : Rho} {w : World} {n0 : Nat}

/-- What is asked of an operand. -/
def OpdR (e : Env) (a : Act) (ρ : Rho) (w : World) (n0 : Nat) (x : Operand) : Prop := match x with
  | .tmp u => TR ρ w n0 a.tmps (e.get u) (a.tmps.getD u undef)
  | _ => True

theorem opd_TR {t : TypeId} {x : Operand} (hx : OpdR e a ρ w n0 x) : TR ρ w n0 a.tmps (opd C e t x) (a.eval x) := by
  cases x with
  | tmp u => exact hx
  | const v =>
    show TR ρ w n0 a.tmps (constT C.P t v) v
    rcases constT_not (P := C.P) (t := t) (v := v) rfl with ⟨y, hy⟩ | hy
    · rw [hy]; exact constT_R hy
    · rw [hy]; trivial
  | global g => trivial
  | func f =>
    show TR ρ w n0 a.tmps (match isBnd f with | false => .v (.one (.func (some (f, [])))) | true => .undef) (.func (.func f) #[] #[])
    cases hb : isBnd f with
    | false => exact ⟨#[], (fnV_plain hb _).symm, .plain trivial hb⟩
    | true => trivial

theorem opdBare_TR {x : Operand} (hx : OpdR e a ρ w n0 x) : TR ρ w n0 a.tmps (opdBare e x) (a.eval x) := by
  cases x with
  | tmp u => exact hx
  | const v =>
    show TR ρ w n0 a.tmps (constBare v) v
    rcases constBare_not (v := v) rfl with ⟨y, hy⟩ | hy
    · rw [hy]; exact constBare_R hy
    · rw [hy]; trivial
  | global g => trivial
  | func f =>
    show TR ρ w n0 a.tmps (match isBnd f with | false => .v (.one (.func (some (f, [])))) | true => .undef) (.func (.func f) #[] #[])
    cases hb : isBnd f with
    | false => exact ⟨#[], (fnV_plain hb _).symm, .plain trivial hb⟩
    | true => trivial

theorem opd_V {t : TypeId} {x : Operand} {y : V} (hx : OpdR e a ρ w n0 x) (h : opd C e t x = .v y) : VR ρ y (a.eval x) := by
  have := opd_TR (C := C) (t := t) hx; rw [h] at this; exact this
theorem opdBare_V {x : Operand} {y : V} (hx : OpdR e a ρ w n0 x) (h : opdBare e x = .v y) : VR ρ y (a.eval x) := by
  have := opdBare_TR hx; rw [h] at this; exact this
end

/-- What is shown of an operation. -/
def POut (ρ : Rho) (w : World) (n0 : Nat) (tm : Array Value) (x : TV) (r : Result Next) : Prop :=
  match x with
  | .var cs => ∃ c el, r = .ok (.value (.pointer (some ⟨w.heap.size, 0, none⟩))) { w with heap := w.heap.push (.cells c el) } ∧ CRs ρ cs c.toList
  | .lit sz n cs => ∃ c el, r = .ok (.value (.slice (some ⟨w.heap.size, 0, none⟩) n n)) { w with heap := w.heap.push (.cells c el) } ∧ n * sz = cs.length ∧ CRs ρ cs c.toList
  | x => ∃ v, r = .ok (.value v) w ∧ TR ρ w n0 tm x v

theorem POut.v {ρ : Rho} {w : World} {n0 : Nat} {tm : Array Value} {x : V} {r : Result Next} {v : Value} (h : r = .ok (.value v) w) (hv : VR ρ x v) : POut ρ w n0 tm (.v x) r := ⟨v, h, hv⟩

end Go.Proofs.YtadakbmoanbcgaaGreatDoorVc
-- PureBin
namespace Go.Proofs.YtadakbmoanbcgaaGreatDoorVc

/-- The result is a value, and the run comes to one that it tells. -/
def VOut (P : Program) (ρ : Rho) (w : World) (z : TV) (s : Sem Value) : Prop := ∃ y v, z = .v y ∧ s.run P w = .ok v w ∧ VR ρ y v

theorem beq_bytes (a b : ByteArray) : (a == b) = decide (a = b) := by
  obtain ⟨⟨x⟩⟩ := a
  obtain ⟨⟨y⟩⟩ := b
  show ((⟨x⟩ : Array UInt8) == ⟨y⟩) = _
  rw [Bool.eq_iff_iff]
  simp

theorem out_val {x z : TV} {h : Heap} {ids : List Nat} (hh : (Res.val x).out h z ids) : x = z := hh.1
theorem out_glob {g : Nat} {f : Nat → Res} {z : TV} {h : Heap} {ids : List Nat} (hh : (Res.glob g f).out h z ids) : ∃ q i js, GlobIn h q g i ∧ (f i).out h z js := by
  obtain ⟨q, i, hq, hk⟩ := hh
  obtain ⟨x, js, h1, h2, _⟩ := Res.run_out hk
  subst h2
  exact ⟨q, i, js, hq, h1⟩
theorem out_room {i n : Nat} {r : Res} {z : TV} {h : Heap} {ids : List Nat} (hh : (Res.room i n r).out h z ids) : ∃ js, roomAt h i n ∧ r.out h z js := by
  obtain ⟨hq, hk⟩ := hh
  obtain ⟨x, js, h1, h2, _⟩ := Res.run_out hk
  subst h2
  exact ⟨js, hq, h1⟩
theorem out_bad {z : TV} {h : Heap} {ids : List Nat} (hh : Res.bad.out h z ids) : False := hh
theorem out_ask {p : Prop} {r : Res} {z : TV} {h : Heap} {ids : List Nat} (hh : (Res.ask p r).out h z ids) : p ∧ r.out h z ids := hh
theorem out_asks {b : Bool} {p : Prop} {r : Res} {z : TV} {h : Heap} {ids : List Nat} (hh : (Res.asks b p r).out h z ids) : (b = false → p) ∧ r.out h z ids := by
  cases b
  · exact ⟨fun _ => hh.1, hh.2⟩
  · exact ⟨fun h => (by cases h), hh⟩
theorem out_deref {a : Option (Nat × Nat)} {f : Nat → Nat → Res} {z : TV} {h : Heap} {ids : List Nat} (hh : (Res.deref a f).out h z ids) : ∃ i o, a = some (i, o) ∧ (f i o).out h z ids := by
  cases a with
  | none => exact hh.elim
  | some p => exact ⟨p.1, p.2, rfl, hh⟩

section
variable {P : Program} {ρ : Rho} {w : World} {n0 : Nat} {tm : Array Value} {h : Heap} {z : TV} {ids : List Nat}

theorem intBin_R {op : BinOp} {t : TypeId} {x' y' : Operand} {k : IntKind} {a b : Int} (hc : isConst0 y' = true → b ≠ 0)
    (ho : (intBin op y' k a b).out h z ids) : VOut P ρ w z (do eqGuard op t x' y' (.int k a) (.int k b); binOp op t (.int k a) (.int k b)) := by
  have hd : ∀ (hne : b ≠ 0), Op.intDiv .quo k a b = pure (.int k (k.wrap (a.tdiv b))) ∧ Op.intDiv .rem k a b = pure (.int k (a.tmod b)) := by
    intro hne; simp [Op.intDiv, hne]
  cases op
  case quo =>
    obtain ⟨h1, h2⟩ := out_asks ho
    have hne : b ≠ 0 := by cases hb : isConst0 y' with | true => exact hc hb | false => exact h1 hb
    cases out_val h2
    exact ⟨_, _, rfl, by simp [eqGuard_at_int, binOp_quo, (hd hne).1], rfl⟩
  case rem =>
    obtain ⟨h1, h2⟩ := out_asks ho
    have hne : b ≠ 0 := by cases hb : isConst0 y' with | true => exact hc hb | false => exact h1 hb
    cases out_val h2
    exact ⟨_, _, rfl, by simp [eqGuard_at_int, binOp_rem, (hd hne).2], rfl⟩
  all_goals first
    | (cases out_val ho
       refine ⟨_, _, rfl, ?_, rfl⟩
       simp only [eqGuard_at_int, Sem.run_bind, Sem.run_pure, Result.andThen_ok]
       first
         | (simp only [binOp_add, Op.intArith, Sem.run_pure]; done)
         | (simp only [binOp_sub, Op.intArith, Sem.run_pure]; done)
         | (simp only [binOp_mul, Op.intArith, Sem.run_pure]; done)
         | (simp only [binOp_and, Op.intBits, Sem.run_pure]; done)
         | (simp only [binOp_or, Op.intBits, Sem.run_pure]; done)
         | (simp only [binOp_xor, Op.intBits, Sem.run_pure]; done)
         | (simp only [binOp_andNot, Op.intBits, Sem.run_pure]; done)
         | (simp only [binOp_eql, Sem.run_pure]; rfl)
         | (simp only [binOp_neq, Sem.run_pure]; rfl)
         | (simp only [binOp_lss, binOp_leq, binOp_gtr, binOp_geq, Sem.run_pure]; done))
    | exact (out_bad ho).elim

theorem strBin_R {op : BinOp} {t : TypeId} {x' y' : Operand} {a b : ByteArray} (ho : (strBin op a b).out h z ids) :
    VOut P ρ w z (do eqGuard op t x' y' (.string a) (.string b); binOp op t (.string a) (.string b)) := by
  have heq : (a.toList == b.toList) = decide (a = b) := by rw [← beq_toListBytes]; exact beq_bytes a b
  cases op
  case add =>
    obtain ⟨h1, h2⟩ := out_ask ho
    cases out_val h2
    refine ⟨_, _, rfl, ?_, rfl⟩
    have h1' : ¬ (((a.size + b.size : Nat) : Int) > 9223372036854775807) := by omega
    simp only [eqGuard_at_string, Sem.run_bind, Sem.run_pure, Result.andThen_ok, binOp, Op.stringOp, IntKind.max_i64, if_neg h1', Sem.run_ite]
  all_goals first
    | (cases out_val ho
       refine ⟨_, _, rfl, ?_, rfl⟩
       simp only [eqGuard_at_string, Sem.run_bind, Sem.run_pure, Result.andThen_ok, binOp, Op.stringOp, heq]
       done)
    | exact (out_bad ho).elim

theorem run_eqIn_bool {d : Nat} {t : TypeId} (hu : P.underlying t = some .bool) (a b : Bool) : (Op.equalIn (d + 1) t (.bool a) (.bool b)).run P w = .ok (decide (a = b)) w := by
  simp only [Op.equalIn, Sem.run_bind, run_underlying hu, Result.andThen_ok, Sem.run_pure]; rfl
theorem run_eqIn_int {d : Nat} {t : TypeId} {k : IntKind} (hu : P.underlying t = some (.int k)) (k' : IntKind) (a b : Int) : (Op.equalIn (d + 1) t (.int k' a) (.int k' b)).run P w = .ok (decide (a = b)) w := by
  simp only [Op.equalIn, Sem.run_bind, run_underlying hu, Result.andThen_ok, Sem.run_pure, if_true]; rfl
theorem run_eqIn_str {d : Nat} {t : TypeId} (hu : P.underlying t = some .string) (a b : ByteArray) : (Op.equalIn (d + 1) t (.string a) (.string b)).run P w = .ok (decide (a = b)) w := by
  simp only [Op.equalIn, Sem.run_bind, run_underlying hu, Result.andThen_ok, Sem.run_pure]
  rw [beq_bytes]
theorem run_eqIn_ptr {d : Nat} {t e : TypeId} (hu : P.underlying t = some (.pointer e)) (a : Option Addr) : (Op.equalIn (d + 1) t (.pointer a) (.pointer none)).run P w = .ok a.isNone w := by
  cases a <;> simp only [Op.equalIn, Sem.run_bind, run_underlying hu, Result.andThen_ok, Sem.run_pure] <;> rfl
theorem run_eqIn_slice {d : Nat} {t e : TypeId} (hu : P.underlying t = some (.slice e)) (a : Option Addr) (n c : Nat) : (Op.equalIn (d + 1) t (.slice a n c) (.slice none 0 0)).run P w = .ok a.isNone w := by
  cases a <;> simp only [Op.equalIn, Sem.run_bind, run_underlying hu, Result.andThen_ok, Sem.run_pure] <;> rfl
theorem run_eqIn_map {d : Nat} {t e f : TypeId} (hu : P.underlying t = some (.map e f)) (a : Option Nat) : (Op.equalIn (d + 1) t (.map a) (.map none)).run P w = .ok a.isNone w := by
  cases a <;> simp only [Op.equalIn, Sem.run_bind, run_underlying hu, Result.andThen_ok, Sem.run_pure] <;> rfl
theorem run_eqIn_nilFunc {d : Nat} {t : TypeId} {ps rs : Array TypeId} {b : Bool} (hu : P.underlying t = some (.func ps rs b)) : (Op.equalIn (d + 1) t .nilFunc .nilFunc).run P w = .ok true w := by
  simp only [Op.equalIn, Sem.run_bind, run_underlying hu, Result.andThen_ok, Sem.run_pure]
theorem run_eqIn_func {d : Nat} {t : TypeId} {ps rs : Array TypeId} {b : Bool} (hu : P.underlying t = some (.func ps rs b)) (f : Fn) (x y : Array Value) : (Op.equalIn (d + 1) t (.func f x y) .nilFunc).run P w = .ok false w := by
  simp only [Op.equalIn, Sem.run_bind, run_underlying hu, Result.andThen_ok, Sem.run_pure]

theorem equal_succ (t : TypeId) (x y : Value) : Op.equal t x y = Op.equalIn (9999 + 1) t x y := rfl

theorem run_eql {t : TypeId} {x' y' : Operand} {u v : Value} {b : Bool} (hg : eqGuard .eql t x' y' u v = pure ()) (hb : binOp .eql t u v = (do pure (.bool (← Op.equal t u v)))) (he : (Op.equalIn (9999 + 1) t u v).run P w = .ok b w) :
    (do eqGuard .eql t x' y' u v; binOp .eql t u v).run P w = .ok (.bool b) w := by
  simp only [hg, hb, Sem.run_bind, Sem.run_pure, Result.andThen_ok, equal_succ, he]
theorem run_neq {t : TypeId} {x' y' : Operand} {u v : Value} {b : Bool} (hg : eqGuard .neq t x' y' u v = pure ()) (hb : binOp .neq t u v = (do pure (.bool (!(← Op.equal t u v))))) (he : (Op.equalIn (9999 + 1) t u v).run P w = .ok b w) :
    (do eqGuard .neq t x' y' u v; binOp .neq t u v).run P w = .ok (.bool (!b)) w := by
  simp only [hg, hb, Sem.run_bind, Sem.run_pure, Result.andThen_ok, equal_succ, he]

theorem binRes_R {op : BinOp} {t : TypeId} {x' y' : Operand} {x y : TV} {u v : Value} (hx : TR ρ w n0 tm x u) (hy : TR ρ w n0 tm y v)
    (hcst : ∀ k n, y = .v (.one (.int k n)) → (isConst0 y' = true → n ≠ 0) ∧ (isConstNat y' = true → 0 ≤ n))
    (hagg : ∀ cs ds, x = .v (.agg cs) → y = .v (.agg ds) → VOut P ρ w z (do eqGuard op t x' y' u v; binOp op t u v))
    (ho : (binRes P op t y' x y).out h z ids) : VOut P ρ w z (do eqGuard op t x' y' u v; binOp op t u v) := by
  unfold binRes at ho
  split at ho
  · rename_i k a k' b
    cases hx; cases hy
    obtain ⟨hc1, hc2⟩ := hcst k' b rfl
    split at ho
    · obtain ⟨h1, h2⟩ := out_asks ho
      have hb : 0 ≤ b := by cases hh : isConstNat y' with | true => exact hc2 hh | false => exact h1 hh
      cases out_val h2
      refine ⟨_, _, rfl, ?_, rfl⟩
      simp only [eqGuard_at_int, Sem.run_bind, Sem.run_pure, Result.andThen_ok, binOp_shl, Op.shift, if_neg (Int.not_lt.2 hb), shl, Sem.run_ite]
    · obtain ⟨h1, h2⟩ := out_asks ho
      have hb : 0 ≤ b := by cases hh : isConstNat y' with | true => exact hc2 hh | false => exact h1 hh
      cases out_val h2
      refine ⟨_, _, rfl, ?_, rfl⟩
      simp only [eqGuard_at_int, Sem.run_bind, Sem.run_pure, Result.andThen_ok, binOp_shr, Op.shift, if_neg (Int.not_lt.2 hb), shr, Sem.run_ite]
    · split at ho
      · rename_i hk
        cases eqKind_eq hk
        exact intBin_R hc1 ho
      · exact (out_bad ho).elim
  · cases hx; cases hy
    exact strBin_R ho
  · cases hx; cases hy
    split at ho
    · rename_i hu
      cases out_val ho
      exact ⟨_, _, rfl, run_eql (eqGuard_at_bool ..) rfl (run_eqIn_bool hu _ _), rfl⟩
    · rename_i hu
      cases out_val ho
      exact ⟨_, _, rfl, run_neq (eqGuard_at_bool ..) rfl (run_eqIn_bool hu _ _), rfl⟩
    · exact (out_bad ho).elim
  · rename_i a
    cases hy
    obtain ⟨a', rfl, ha⟩ : ∃ a', u = .pointer a' ∧ a'.isNone = a.isNone := by
      cases a with
      | none => cases hx; exact ⟨_, rfl, rfl⟩
      | some p => obtain ⟨l, _, rfl⟩ := hx; exact ⟨_, rfl, rfl⟩
    split at ho
    · rename_i hu
      cases out_val ho
      exact ⟨_, _, rfl, run_eql (eqGuard_at_pointer ..) rfl (run_eqIn_ptr hu _), by rw [ha]; rfl⟩
    · rename_i hu
      cases out_val ho
      exact ⟨_, _, rfl, run_neq (eqGuard_at_pointer ..) rfl (run_eqIn_ptr hu _), by rw [ha]; rfl⟩
    · exact (out_bad ho).elim
  · rename_i s _ _
    obtain ⟨_, rfl⟩ := hy
    obtain ⟨a', n', c', rfl, ha⟩ : ∃ a' n' c', u = .slice a' n' c' ∧ a'.isNone = s.a.isNone := by
      obtain ⟨a, n⟩ := s
      cases a with
      | none => obtain ⟨_, rfl⟩ := hx; exact ⟨_, _, _, rfl, rfl⟩
      | some p => obtain ⟨i, o⟩ := p; obtain ⟨ad, c, rfl, _⟩ := hx; exact ⟨_, _, _, rfl, rfl⟩
    split at ho
    · rename_i hu
      cases out_val ho
      exact ⟨_, _, rfl, run_eql (eqGuard_at_slice ..) rfl (run_eqIn_slice hu _ _ _), by rw [ha]; rfl⟩
    · rename_i hu
      cases out_val ho
      exact ⟨_, _, rfl, run_neq (eqGuard_at_slice ..) rfl (run_eqIn_slice hu _ _ _), by rw [ha]; rfl⟩
    · exact (out_bad ho).elim
  · rename_i m
    cases hy
    obtain ⟨a', rfl, ha⟩ : ∃ a', u = .map a' ∧ a'.isNone = m.isNone := by
      cases m with
      | none => cases hx; exact ⟨_, rfl, rfl⟩
      | some p => obtain ⟨l, _, rfl⟩ := hx; exact ⟨_, rfl, rfl⟩
    split at ho
    · rename_i hu
      cases out_val ho
      exact ⟨_, _, rfl, run_eql (eqGuard_at_map ..) rfl (run_eqIn_map hu _), by rw [ha]; rfl⟩
    · rename_i hu
      cases out_val ho
      exact ⟨_, _, rfl, run_neq (eqGuard_at_map ..) rfl (run_eqIn_map hu _), by rw [ha]; rfl⟩
    · exact (out_bad ho).elim
  · rename_i f
    cases hy
    split at ho
    · rename_i hu
      cases out_val ho
      cases f with
      | none => cases hx; exact ⟨_, _, rfl, run_eql (eqGuard_at_nilFunc ..) rfl (run_eqIn_nilFunc hu), rfl⟩
      | some p => obtain ⟨g, ps⟩ := p; obtain ⟨vs, rfl, _⟩ := hx; obtain ⟨fn, fa, fb, hfv⟩ := fnV_func g vs; rw [hfv]; exact ⟨_, _, rfl, run_eql (eqGuard_at_func ..) rfl (run_eqIn_func hu _ _ _), rfl⟩
    · rename_i hu
      cases out_val ho
      cases f with
      | none => cases hx; exact ⟨_, _, rfl, run_neq (eqGuard_at_nilFunc ..) rfl (run_eqIn_nilFunc hu), rfl⟩
      | some p => obtain ⟨g, ps⟩ := p; obtain ⟨vs, rfl, _⟩ := hx; obtain ⟨fn, fa, fb, hfv⟩ := fnV_func g vs; rw [hfv]; exact ⟨_, _, rfl, run_neq (eqGuard_at_func ..) rfl (run_eqIn_func hu _ _ _), rfl⟩
    · exact (out_bad ho).elim
  · rename_i cs ds
    exact hagg cs ds rfl rfl
  · exact (out_bad ho).elim
end

end Go.Proofs.YtadakbmoanbcgaaGreatDoorVc
-- PureMem
namespace Go.Proofs.YtadakbmoanbcgaaGreatDoorVc

def VK.like : VK → V → Prop
  | .one _, .one _ => True
  | .agg _, .agg _ => True
  | _, _ => False
theorem VK.fits_like {k : VK} {x : V} (h : k.fits x) : k.like x := by cases k <;> cases x <;> first | trivial | exact h.elim
theorem ofCells_like {k : VK} {cs : List Cell} {x : V} (h : ofCells k cs = some x) : k.like x ∧ x.cells = cs := by
  cases k with
  | one k =>
    match cs, h with
    | [c], h => cases h; exact ⟨trivial, rfl⟩
  | agg ks =>
    simp only [ofCells] at h
    split at h
    · cases h; exact ⟨trivial, rfl⟩
    · cases h

theorem vk_one {P : Program} {t : TypeId} {k : Kd} (h : vk P t = some (.one k)) :
    ∃ d, P.underlying t = some d ∧ (∀ fs, d ≠ .struct fs) ∧ (∀ n e, d ≠ .array n e) ∧ kdOf P t = some k ∧ ∃ i, P.info? t = some i ∧ i.size = 1 := by
  unfold vk at h
  split at h
  · split at h
    · split at h <;> cases h
    · cases h
  · split at h
    · split at h <;> cases h
    · cases h
  · rename_i h1 h2
    split at h
    · rename_i k' hk
      split at h
      · rename_i hs
        cases h
        obtain ⟨i, hi, hsz⟩ : ∃ i, P.info? t = some i ∧ i.size = 1 := by
          unfold sized at hs
          split at hs
          · rename_i i hi; exact ⟨i, hi, by simpa using hs⟩
          · cases hs
        cases hu : P.underlying t with
        | none => rw [kdOf, hu] at hk; cases hk
        | some d => exact ⟨d, rfl, fun fs e => h1 fs (by rw [hu, e]), fun n e' e => h2 n e' (by rw [hu, e]), hk, i, hi, hsz⟩
      · cases h
    · cases h

theorem vk_agg {P : Program} {t : TypeId} {ks : List Kd} (h : vk P t = some (.agg ks)) :
    ((∃ fs, P.underlying t = some (.struct fs)) ∨ ∃ n e, P.underlying t = some (.array n e)) ∧ flat P 8 t = some ks ∧ ∃ i, P.info? t = some i ∧ i.size = ks.length := by
  have key : ∀ {ks' : List Kd}, (if sized P t ks'.length = true then some (VK.agg ks') else none) = some (.agg ks) → ks' = ks ∧ ∃ i, P.info? t = some i ∧ i.size = ks.length := by
    intro ks' h
    split at h
    · rename_i hs
      cases h
      unfold sized at hs
      split at hs
      · rename_i i hi; exact ⟨rfl, i, hi, by simpa using hs⟩
      · cases hs
    · cases h
  unfold vk at h
  split at h
  · rename_i fs hu
    split at h
    · rename_i ks' hf; obtain ⟨rfl, h2⟩ := key h; exact ⟨.inl ⟨fs, hu⟩, hf, h2⟩
    · cases h
  · rename_i n e hu
    split at h
    · rename_i ks' hf; obtain ⟨rfl, h2⟩ := key h; exact ⟨.inr ⟨n, e, hu⟩, hf, h2⟩
    · cases h
  · split at h
    · split at h <;> cases h
    · cases h

section
variable {P : Program} {ρ : Rho} {w : World} {n0 : Nat} {tm : Array Value}

theorem run_isAgg_one {t : TypeId} {k : Kd} (h : vk P t = some (.one k)) : (isAgg t).run P w = .ok false w := by
  obtain ⟨d, hu, h1, h2, _⟩ := vk_one h
  unfold isAgg
  simp only [Sem.run_bind, run_underlying hu, Result.andThen_ok]
  rfl
theorem run_isAgg_agg {t : TypeId} {ks : List Kd} (h : vk P t = some (.agg ks)) : (isAgg t).run P w = .ok true w := by
  obtain ⟨hu, _⟩ := vk_agg h
  unfold isAgg
  rcases hu with ⟨fs, hu⟩ | ⟨n, e, hu⟩ <;> simp only [Sem.run_bind, run_underlying hu, Result.andThen_ok] <;> rfl
theorem run_sizeOf {t : TypeId} {i : TypeInfo} (h : P.info? t = some i) : (sizeOf t).run P w = .ok i.size w := by
  simp [sizeOf, typeInfo, h]
theorem vk_size {t : TypeId} {k : VK} (h : vk P t = some k) : ∃ i, P.info? t = some i ∧ i.size = k.kds.length := by
  cases k with
  | one k => obtain ⟨_, _, _, _, _, i, h1, h2⟩ := vk_one h; exact ⟨i, h1, h2⟩
  | agg ks => obtain ⟨_, _, i, h1, h2⟩ := vk_agg h; exact ⟨i, h1, h2⟩

theorem cell_at {b o : Nat} {c : Array Value} {el : TypeId} {fz : Nat × Nat} (hb : w.heap[b]? = some (.cells c el fz)) : w.cell? ⟨b, o, none⟩ = c[o]? := by
  simp [World.cell?, hb]

/-- A load of a whole variable. -/
theorem loadVar_run {t : TypeId} {k : VK} (hk : vk P t = some k) {b o : Nat} {c : Array Value} {el : TypeId} {fz : Nat × Nat}
    (hb : w.heap[b]? = some (.cells c el fz)) {cs : List Cell} (hl : cs.length = k.kds.length) (hs : CRs ρ cs ((c.toList.drop o).take cs.length)) :
    ∃ v, (loadVar t ⟨b, o, none⟩).run P w = .ok v w ∧ ∀ x : V, k.like x → x.cells = cs → VR ρ x v := by
  cases k with
  | one k =>
    simp only [VK.kds, List.length_singleton] at hl
    match cs, hl, hs with
    | [x], _, hs =>
      obtain ⟨v, hv, hr⟩ := hs.get (j := 0) (c := x) (by simp)
      simp at hv
      refine ⟨v, ?_, fun y hy hc => ?_⟩
      · unfold loadVar
        simp only [Sem.run_bind, run_isAgg_one hk, Result.andThen_ok, Bool.false_eq_true, if_false]
        rw [run_load, cell_at hb]
        rw [hv]
      · cases y with
        | one z => simp at hc; subst hc; exact hr
        | agg _ => exact hy.elim
  | agg ks =>
    obtain ⟨_, _, i, hi, hsz⟩ := vk_agg hk
    have hlen := hs.length
    refine ⟨.agg ((c.toList.drop o).take cs.length).toArray, ?_, fun y hy hc => ?_⟩
    · unfold loadVar
      simp only [Sem.run_bind, run_isAgg_agg hk, Result.andThen_ok, if_true, run_sizeOf hi, hsz]
      have hn : ks.length = ((c.toList.drop o).take cs.length).length := by rw [← hlen]; exact hl.symm
      rw [hn, run_loadCells_list (P := P) w ⟨b, o, none⟩ _ (fun j v hj => ?_)]
      · rfl
      · rw [Addr.add_lit, cell_at hb]
        rw [List.getElem?_take] at hj
        split at hj
        · simpa using hj
        · cases hj
    · cases y with
      | one _ => exact hy.elim
      | agg ds => cases hc; exact ⟨_, rfl, by simpa using hs⟩

theorem HR.read {h : Heap} (hr : HR ρ h w) {i o n : Nat} {cs : List Cell} (hd : h.read i o n = some cs) {l : Loc} (hl : ρ i = some l) :
    ∃ c el fz, w.heap[l.block]? = some (.cells c el fz) ∧ cs.length = n ∧ CRs ρ cs ((c.toList.drop (l.base + o)).take cs.length) ∧ l.base + o + n ≤ c.size := by
  unfold Heap.read at hd
  split at hd
  · rename_i ro ds hi
    split at hd
    · rename_i hle
      cases hd
      obtain ⟨ob, hob, c, el, fz, rfl, hsz, hb, hcs, _⟩ := hr.live i _ l hi hl
      have hlen : ((ds.drop o).take n).length = n := by simp; omega
      refine ⟨c, el, fz, hob, hlen, ?_, by omega⟩
      have := (hcs.drop o).take n
      rw [List.drop_take, List.drop_drop, List.take_take] at this
      rw [hlen]
      have hmin : min n (ds.length - o) = n := by omega
      rw [hmin] at this
      exact this
    · cases hd
  · cases hd

theorem run_loadAt {t : TypeId} {ad : Addr} {v : Value} (h : (loadVar t ad).run P w = .ok v w) : (Instr.loadAt t (.pointer (some ad))).run P w = .ok v w := by
  simp [Instr.loadAt, Instr.sureAddr, h]

theorem load_R {e : Env} {a : Act} {h : Heap} {t : TypeId} {x : Operand} {z : TV} {ids : List Nat} (hr : HR ρ h w)
    (hx : OpdR e a ρ w n0 x) (hv : ∀ u t' o, x = .tmp u → e.get u = .ref t' o → TR ρ w n0 a.tmps (e.get t') (a.tmps.getD t' undef))
    (ho : (loadRes P e t x).out h z ids) : VOut P ρ w z (Instr.loadAt t (a.eval x)) := by
  unfold loadRes at ho
  have fromVar : ∀ {cs : List Cell} {o : Nat} {b : Nat} (hp : Priv ρ w n0 b cs), a.eval x = .pointer (some ⟨b, o, none⟩) →
      (match vk P t with
        | some k => match ofCells k ((cs.drop o).take k.kds.length) with
          | some x => Res.val (.v x)
          | none => .bad
        | none => .bad).out h z ids → VOut P ρ w z (Instr.loadAt t (a.eval x)) := by
    intro cs o b hp hev ho
    split at ho
    · rename_i k hk
      split at ho
      · rename_i y hy
        cases out_val ho
        obtain ⟨h1, h2⟩ := ofCells_like hy
        obtain ⟨_, _, c, el, hb, hcs⟩ := hp
        have hl : ((cs.drop o).take k.kds.length).length = k.kds.length := by
          rw [← h2]
          cases k <;> cases y <;> first | exact h1.elim | rfl | skip
          simp only [ofCells] at hy
          split at hy
          · rename_i hq; cases hy; exact (Nat.eq_of_beq_eq_true hq).symm
          · cases hy
        obtain ⟨v, hv1, hv2⟩ := loadVar_run (ρ := ρ) hk hb (o := o) hl (by
          have := (hcs.drop o).take k.kds.length
          rwa [hl])
        exact ⟨y, v, rfl, by rw [hev]; exact run_loadAt hv1, hv2 y h1 h2⟩
      · exact (out_bad ho).elim
    · exact (out_bad ho).elim
  cases x with
  | tmp u =>
    simp only at ho
    have hu : TR ρ w n0 a.tmps (e.get u) (a.tmps.getD u undef) := hx
    split at ho
    · rename_i cs hg
      rw [hg] at hu
      obtain ⟨b, hb, hp⟩ := hu
      exact fromVar hp hb ho
    · rename_i t' o hg
      have hu' := hv u t' o rfl hg
      rw [hg] at hu
      obtain ⟨b, hb, hb2⟩ := hu
      split at ho
      · rename_i cs hg'
        rw [hg'] at hu'
        obtain ⟨b', hb', hp⟩ := hu'
        rw [hb'] at hb
        cases hb
        exact fromVar hp hb2 ho
      · exact (out_bad ho).elim
    · rename_i p hg
      rw [hg] at hu
      split at ho
      · rename_i k hk
        obtain ⟨i, o, rfl, ho⟩ := out_deref ho
        obtain ⟨y, hy, h1, h2, h3, _⟩ := exV_out ho
        obtain ⟨l, hl, hev⟩ : PtrR ρ (i, o) _ := hu
        obtain ⟨c, el, fz, hb, hlen, hcs, _⟩ := hr.read h1 hl
        obtain ⟨v, hv1, hv2⟩ := loadVar_run (ρ := ρ) hk hb (o := l.base + o) (VK.fits_len hy) hcs
        refine ⟨y, v, h2.symm, ?_, hv2 y (VK.fits_like hy) rfl⟩
        show (Instr.loadAt t (a.tmps.getD u undef)).run P w = _
        rw [hev]
        exact run_loadAt hv1
      · exact (out_bad ho).elim
    · exact (out_bad ho).elim
  | const v => exact (out_bad ho).elim
  | global g =>
    simp only at ho
    split at ho
    · rename_i k hk
      obtain ⟨q, i, js, hq, ho⟩ := out_glob ho
      obtain ⟨y, hy, h1, h2, h3, _⟩ := exV_out ho
      obtain ⟨n, hl⟩ := hr.glob q g i hq
      obtain ⟨c, el, fz, hb, hlen, hcs, _⟩ := hr.read h1 hl
      obtain ⟨v, hv1, hv2⟩ := loadVar_run (ρ := ρ) hk hb (o := 0 + 0) (VK.fits_len hy) hcs
      refine ⟨y, v, h2.symm, ?_, hv2 y (VK.fits_like hy) rfl⟩
      show (Instr.loadAt t (.pointer (some ⟨g, 0, none⟩))).run P w = _
      exact run_loadAt hv1
    · exact (out_bad ho).elim
  | func f => exact (out_bad ho).elim
end

end Go.Proofs.YtadakbmoanbcgaaGreatDoorVc
-- PureOps
namespace Go.Proofs.YtadakbmoanbcgaaGreatDoorVc

/-! ### parts of an aggregate -/
theorem foldl_splice (off : Nat) : ∀ (us : List Value) (k : Nat) (cells : Array Value), off + k + us.length ≤ cells.size →
    ((us.zipIdx k).foldl (fun (cs : Array Value) (x : Value × Nat) => cs.setIfInBounds (off + x.2) x.1) cells).toList = cells.toList.take (off + k) ++ us ++ cells.toList.drop (off + k + us.length)
  | [], k, cells, h => by simp
  | u :: us, k, cells, h => by
    simp only [List.zipIdx_cons, List.foldl_cons, List.length_cons] at h ⊢
    rw [foldl_splice off us (k + 1) (cells.setIfInBounds (off + k) u) (by simp; omega)]
    have hlt : off + k < cells.toList.length := by simp; omega
    simp only [Array.toList_setIfInBounds]
    have e1 : (cells.toList.set (off + k) u).take (off + (k + 1)) = cells.toList.take (off + k) ++ [u] := by
      rw [show off + (k + 1) = off + k + 1 by omega, List.take_succ_eq_append_getElem (by simpa using hlt), List.take_set_of_le (Nat.le_refl _)]
      simp
    have e2 : (cells.toList.set (off + k) u).drop (off + (k + 1) + us.length) = cells.toList.drop (off + k + (us.length + 1)) := by
      rw [List.drop_set_of_lt (by omega), show off + (k + 1) + us.length = off + k + (us.length + 1) by omega]
    rw [e1, e2]
    simp

def PartsR (ρ : Rho) : List (Nat × TV) → List (Nat × Value) → Prop
  | [], [] => True
  | (i, x) :: l, (j, v) :: m => i = j ∧ (∀ y, x = .v y → VR ρ y v) ∧ PartsR ρ l m
  | _, _ => False

theorem fill_R {ρ : Rho} {place' place : Nat → Option (Nat × Nat)} (hp : ∀ i x, place' i = some x → place i = some x) :
    ∀ {ps : List (Nat × TV)} {qs : List (Nat × Value)} {cs cs' : List Cell} {arr : Array Value}, PartsR ρ ps qs → CRs ρ cs arr.toList → fillCells place' cs ps = some cs' →
      ∃ arr', Instr.fill place arr qs = some arr' ∧ CRs ρ cs' arr'.toList
  | [], [], cs, cs', arr, _, hc, h => by cases h; exact ⟨arr, rfl, hc⟩
  | (i, x) :: ps, (j, v) :: qs, cs, cs', arr, ⟨hij, hx, hr⟩, hc, h => by
    subst hij
    cases x with
    | v y =>
      simp only [fillCells] at h
      split at h
      · rename_i o n hpl
        split at h
        · rename_i hq
          simp only [Bool.and_eq_true] at hq
          have h1 := Nat.eq_of_beq_eq_true hq.1
          have h2 := Nat.le_of_ble_eq_true hq.2
          have hv := hx y rfl
          have hvc := hv.cells
          have hlen := hvc.length
          have hal := hc.length
          simp at hlen hal
          have hfs := foldl_splice o v.cells.toList 0 arr (by simp; omega)
          simp only [Nat.add_zero] at hfs
          have hnew : CRs ρ (splice cs o y.cells) (((v.cells.toList.zipIdx 0).foldl (fun (cs : Array Value) (x : Value × Nat) => cs.setIfInBounds (o + x.2) x.1) arr)).toList := by
            rw [hfs]; exact hc.splice hvc o
          obtain ⟨arr', h3, h4⟩ := fill_R hp hr hnew h
          refine ⟨arr', ?_, h4⟩
          simp only [Instr.fill, hp _ _ hpl]
          have hne : ¬ (((v.cells.size != n) || decide (o + v.cells.size > arr.size)) = true) := by simp; omega
          have hne' : ¬ ((decide (v.cells.size ≠ n) || decide (o + v.cells.size > arr.size)) = true) := by simp; omega
          first
            | rw [if_neg hne]
            | rw [if_neg hne']
          rw [← h3]
          congr 1
          rw [← Array.foldl_toList, Array.toList_zipIdx]
        · cases h
      · cases h
    | _ => simp [fillCells] at h
  | [], _ :: _, _, _, _, h, _, _ => h.elim
  | _ :: _, [], _, _, _, h, _, _ => h.elim

theorem isZero_R {ρ : Rho} {k : Kd} {v : Value} (h : isZero k v = true) : CR ρ k.zero v := by
  unfold isZero at h
  split at h
  · simp at h; subst h; rfl
  · simp at h; obtain ⟨h1, rfl⟩ := h; cases eqKind_eq h1; rfl
  · rename_i s
    have : s = ByteArray.empty := by
      obtain ⟨⟨l⟩⟩ := s
      simp at h
      subst h
      rfl
    subst this; rfl
  · rfl
  · simp at h; obtain ⟨rfl, rfl⟩ := h; exact ⟨rfl, rfl⟩
  · rfl
  · rfl
  · cases h
  · cases h
  · rename_i h1 h2
    cases v <;> first | rfl | exact (h1 _ rfl).elim | exact (h2 _ rfl).elim | skip
  · cases h

theorem areZero_R {ρ : Rho} : ∀ {ks : List Kd} {vs : List Value}, areZero ks vs = true → CRs ρ (ks.map Kd.zero) vs
  | [], [], _ => trivial
  | k :: ks, v :: vs, h => by
    simp only [areZero, Bool.and_eq_true] at h
    exact ⟨isZero_R h.1, areZero_R h.2⟩
  | [], _ :: _, h => by simp [areZero] at h
  | _ :: _, [], h => by simp [areZero] at h

theorem zeroV_R {P : Program} {t : TypeId} {z : V} (h : zeroV P t = some z) :
    ∃ k i v, vk P t = some k ∧ k.like z ∧ z.cells = k.kds.map Kd.zero ∧ P.info? t = some i ∧ i.zero = some v ∧ ∀ ρ, CRs ρ z.cells v.cells.toList := by
  unfold zeroV at h
  split at h
  · rename_i k v hk hv
    split at h
    · rename_i hz
      cases h
      cases hi : P.info? t with
      | none => rw [hi] at hv; cases hv
      | some i =>
        rw [hi] at hv
        refine ⟨k, i, v, hk, ?_, ?_, rfl, hv, fun ρ => ?_⟩
        · cases k <;> trivial
        · cases k <;> rfl
        · have := areZero_R (ρ := ρ) hz
          cases k <;> exact this
    · cases h
  · cases h

theorem run_zeroValue {P : Program} {w : World} {t : TypeId} {i : TypeInfo} {z : Value} (hi : P.info? t = some i) (hz : i.zero = some z) : (zeroValue t).run P w = .ok z w := by
  simp [zeroValue, typeInfo, hi, hz]

/-! ### slices -/
theorem run_sliceBounds {P : Program} {w : World} {b : Bool} {len cap : Nat} {lo hi : Option Value} {l h : Int}
    (hl : (lo = none ∧ l = 0) ∨ ∃ k, lo = some (.int k l)) (hh : (hi = none ∧ h = len) ∨ ∃ k, hi = some (.int k h)) (h0 : 0 ≤ l) (h1 : l ≤ h) (h2 : h ≤ cap) :
    (Instr.sliceBounds b len cap lo hi none).run P w = .ok (l.toNat, h.toNat, cap) w := by
  rcases hl with ⟨rfl, rfl⟩ | ⟨kl, rfl⟩ <;> rcases hh with ⟨rfl, rfl⟩ | ⟨kh, rfl⟩
  · simp [Instr.sliceBounds]
  · simp [Instr.sliceBounds, run_sliceBound w kh h cap _ (by omega) h2]
  · simp [Instr.sliceBounds, run_sliceBound w kl l len _ h0 h1]
  · simp [Instr.sliceBounds, run_sliceBound w kh h cap _ (by omega) h2, run_sliceBound w kl l h.toNat _ h0 (by omega)]

section
variable {C : Ctx} {e : Env} {a : Act} {ρ : Rho} {w : World} {n0 : Nat}

theorem optInt_R {d l : Int} {x : Option Operand} (hx : ∀ y, x = some y → OpdR e a ρ w n0 y) (h : optInt e d x = some l) :
    (x.map a.eval = none ∧ l = d) ∨ ∃ k, x.map a.eval = some (.int k l) := by
  cases x with
  | none => cases h; exact .inl ⟨rfl, rfl⟩
  | some y =>
    simp only [optInt] at h
    split at h
    · rename_i k n hy
      cases h
      have := opdBare_V (hx y rfl) hy
      exact .inr ⟨k, by simp [show a.eval y = _ from this]⟩
    · cases h
end

theorem addrAdd (b o n : Nat) : (Addr.add ⟨b, o, none⟩ n) = ⟨b, o + n, none⟩ := Addr.add_lit b o n

theorem sized_info {P : Program} {t : TypeId} {n : Nat} (h : sized P t n = true) : ∃ i, P.info? t = some i ∧ i.size = n := by
  unfold sized at h
  split at h
  · rename_i i hi; exact ⟨i, hi, Nat.eq_of_beq_eq_true h⟩
  · cases h

theorem slice_R {P : Program} {ρ : Rho} {w : World} {sz : Nat} {s : Sl} {v : Value} {t el : TypeId} {lo hi : Option Value} {l h : Int} (hu : P.underlying t = some (.slice el)) (hs : sized P el sz = true)
    (hv : CR ρ (.slice sz s) v) (hl : (lo = none ∧ l = 0) ∨ ∃ k, lo = some (.int k l)) (hh : (hi = none ∧ h = s.len) ∨ ∃ k, hi = some (.int k h)) (h0 : 0 ≤ l) (h1 : l ≤ h) (h2 : h ≤ s.len) :
    ∃ r, (Instr.sliceAt t v lo hi none).run P w = .ok r w ∧ CR ρ (.slice sz ⟨match s.a with
      | some (i, o) => some (i, o + l.toNat * sz)
      | none => none, h.toNat - l.toNat⟩) r := by
  obtain ⟨inf, hinf, hsz⟩ := sized_info hs
  obtain ⟨sa, n⟩ := s
  cases sa with
  | none =>
    obtain ⟨hn, rfl⟩ := hv
    simp only at hn h2 hh
    subst hn
    have e1 : l = 0 := by omega
    have e2 : h = 0 := by omega
    subst e1; subst e2
    refine ⟨.slice none 0 0, ?_, rfl, rfl⟩
    simp only [Instr.sliceAt, Instr.slice, Sem.run_bind, run_underlying hu, Result.andThen_ok, run_sliceBounds hl hh (Int.le_refl _) (Int.le_refl _) (Int.le_refl _), run_sizeOf hinf, Sem.run_pure]
    rfl
  | some p =>
    obtain ⟨i, o⟩ := p
    obtain ⟨ad, c, rfl, hnc, hor⟩ := hv
    simp only at h2 hh hnc
    have hb := run_sliceBounds (P := P) (w := w) (b := true) (cap := c) hl hh h0 h1 (by omega)
    have hrun : (Instr.sliceAt t (.slice (some ad) n c) lo hi none).run P w = .ok (.slice (if c = l.toNat then some ad else (some ad).map (·.add (l.toNat * inf.size))) (h.toNat - l.toNat) (c - l.toNat)) w := by
      simp only [Instr.sliceAt, Instr.slice, Sem.run_bind, run_underlying hu, Result.andThen_ok, hb, run_sizeOf hinf, Sem.run_pure]
    rw [hrun]
    by_cases hc : c = l.toNat
    · refine ⟨_, rfl, ?_⟩
      rw [if_pos hc]
      exact ⟨ad, c - l.toNat, rfl, by omega, .inr (by omega)⟩
    · rw [if_neg hc]
      refine ⟨_, rfl, ad.add (l.toNat * inf.size), c - l.toNat, rfl, by omega, ?_⟩
      rcases hor with ⟨loc, hloc, had, hsp⟩ | hz
      · refine .inl ⟨loc, hloc, by rw [had, hsz, addrAdd, Nat.add_assoc], ?_⟩
        have hle : l.toNat ≤ c := by omega
        have : l.toNat * sz + (c - l.toNat) * sz = c * sz := by rw [← Nat.add_mul]; congr 1; omega
        omega
      · omega

/-! ### bytes -/
theorem byteCells_get (s : ByteArray) (j : Nat) : (byteCells s)[j]? = (s.data.toList[j]?).map fun b => Cell.int .u8 (b.toNat : Nat) := List.getElem?_map ..
theorem byteCells_length (s : ByteArray) : (byteCells s).length = s.size := by unfold byteCells; rw [List.length_map]; rfl

theorem run_bytes {P : Program} {ρ : Rho} {h : Heap} {w : World} (hr : HR ρ h w) {s : Sl} {b : ByteArray} {v : Value} (hv : CR ρ (.slice 1 s) v) (hb : h.sl 1 s = some (byteCells b)) :
    (Conv.bytesToString v).run P w = .ok (.string b) w := by
  obtain ⟨sa, n⟩ := s
  cases sa with
  | none =>
    obtain ⟨_, rfl⟩ := hv
    simp only [Heap.sl] at hb
    have : b = ByteArray.empty := by
      obtain ⟨⟨l⟩⟩ := b
      cases l with
      | nil => rfl
      | cons x l => simp [byteCells] at hb
    subst this
    simp [Conv.bytesToString]
  | some p =>
    obtain ⟨i, o⟩ := p
    obtain ⟨ad, c, rfl, hnc, hor⟩ := hv
    simp only [Heap.sl, Nat.mul_one] at hb
    have hlen : (byteCells b).length = n ∧ (∀ j v, (b.data.toList.map fun x => Value.int .u8 (x.toNat : Nat))[j]? = some v → w.cell? (ad.add j) = some v) := by
      rcases hor with ⟨l, hl, had, hsp⟩ | hz
      · obtain ⟨cc, el, fz, hcb, hlen, hcs, _⟩ := hr.read hb hl
        refine ⟨hlen, fun j v hj => ?_⟩
        rw [had, addrAdd, cell_at hcb]
        have hj' : (byteCells b)[j]? = (b.data.toList[j]?).map fun b => Cell.int .u8 (b.toNat : Nat) := byteCells_get b j
        rw [List.getElem?_map] at hj
        cases hx : b.data.toList[j]? with
        | none => rw [hx] at hj; cases hj
        | some x =>
          rw [hx] at hj hj'
          cases hj
          obtain ⟨u, hu, hcr⟩ := hcs.get hj'
          cases hcr
          rw [List.getElem?_take] at hu
          split at hu
          · rw [List.getElem?_drop] at hu; simpa using hu
          · cases hu
      · have hn : n = 0 := by omega
        subst hn
        unfold Heap.read at hb
        split at hb
        · split at hb
          · simp at hb
            have : b.data.toList = [] := List.map_eq_nil_iff.1 hb
            refine ⟨by rw [hb]; rfl, fun j v hj => by rw [this] at hj; simp at hj⟩
          · cases hb
        · cases hb
    obtain ⟨h1, h2⟩ := hlen
    have hload : (loadCells ad n).run P w = .ok ((b.data.toList.map fun x => (x.toNat : Int)).map (Value.int .u8)).toArray w := by
      have hn : n = (b.data.toList.map fun x => Value.int .u8 (x.toNat : Nat)).length := by rw [← h1]; simp [byteCells]
      rw [hn, run_loadCells_list (P := P) w ad _ h2]
      simp [List.map_map, Function.comp_def]
    rw [run_bytesToString (P := P) w ad n c _ hload, foldl_push_bytes]
    have hid : (b.data.toList.map fun x => (x.toNat : Int)).map (fun n => UInt8.ofNat n.toNat) = b.data.toList := by
      rw [List.map_map]
      have : ((fun n : Int => UInt8.ofNat n.toNat) ∘ fun x : UInt8 => (x.toNat : Int)) = id := by funext x; simp
      rw [this, List.map_id]
    rw [hid]
    congr 2
    obtain ⟨⟨l⟩⟩ := b
    show (⟨#[] ++ l.toArray⟩ : ByteArray) = _
    simp

end Go.Proofs.YtadakbmoanbcgaaGreatDoorVc
