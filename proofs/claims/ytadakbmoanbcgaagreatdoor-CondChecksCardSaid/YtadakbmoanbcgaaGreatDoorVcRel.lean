/- Vc, part 4: what the abstract heap and frame say of the machine's. -/
import Derived.MapKept
import Derived.Test.YtadakbmoanbcgaaGreatDoorVcFun
import Derived.Laws.Small
import Derived.Laws.Cells
import Derived.Laws.Entries
import Derived.Laws.StructEq
import Derived.Laws.IdiomCopy
import Derived.Laws.CopyRow
namespace Go.Proofs.YtadakbmoanbcgaaGreatDoorVc

/-- Where a block of the abstract heap lies: in which block of the machine's, from which cell on; how many cells that block has. -/
structure Loc where
  block : Nat
  base : Nat
  size : Nat

abbrev Rho := Nat → Option Loc
def Rho.le (ρ ρ' : Rho) : Prop := ∀ i l, ρ i = some l → ρ' i = some l

def PtrR (ρ : Rho) (p : Nat × Nat) (v : Value) : Prop := ∃ l, ρ p.1 = some l ∧ v = .pointer (some ⟨l.block, l.base + p.2, none⟩)
def PtrsR (ρ : Rho) : List (Nat × Nat) → List Value → Prop
  | [], [] => True
  | p :: ps, v :: vs => PtrR ρ p v ∧ PtrsR ρ ps vs
  | _, _ => False

/-- A function value of the machine's. -/
def fnV (f : FuncId) (vs : Array Value) : Value := match isBnd f with
  | false => .func (.func f) #[] vs
  | true => .func (.func (offB f)) vs #[]
theorem fnV_func (f : FuncId) (vs : Array Value) : ∃ g a b, fnV f vs = .func (.func g) a b := by
  unfold fnV; split <;> exact ⟨_, _, _, rfl⟩
theorem fnV_plain {f : FuncId} (h : isBnd f = false) (vs : Array Value) : fnV f vs = .func (.func f) #[] vs := by unfold fnV; rw [h]
theorem fnV_bnd {f : FuncId} (h : isBnd f = true) (vs : Array Value) : fnV f vs = .func (.func (offB f)) vs #[] := by unfold fnV; rw [h]

theorem PtrsR.length {ρ : Rho} : ∀ {ps : List (Nat × Nat)} {vs : List Value}, PtrsR ρ ps vs → ps.length = vs.length
  | [], [], _ => rfl
  | _ :: _, _ :: _, ⟨_, h⟩ => by simp [PtrsR.length h]
  | [], _ :: _, h => h.elim
  | _ :: _, [], h => h.elim
/-- What a function value has caught: a receiver is one. -/
def CapsR (ρ : Rho) (f : FuncId) (ps : List (Nat × Nat)) (vs : List Value) : Prop := PtrsR ρ ps vs ∧ (isBnd f = true → ps.length = 1)
theorem CapsR.plain {ρ : Rho} {f : FuncId} {ps : List (Nat × Nat)} {vs : List Value} (h : PtrsR ρ ps vs) (hb : isBnd f = false) : CapsR ρ f ps vs := ⟨h, fun e => by rw [hb] at e; cases e⟩

def CR (ρ : Rho) : Cell → Value → Prop
  | .bool b, v => v = .bool b
  | .int k n, v => v = .int k n
  | .str s, v => v = .string s
  | .ptr none, v => v = .pointer none
  | .ptr (some p), v => PtrR ρ p v
  | .slice _ ⟨none, n⟩, v => n = 0 ∧ v = .slice none 0 0
  | .slice sz ⟨some (i, o), n⟩, v => ∃ ad c, v = .slice (some ad) n c ∧ n ≤ c ∧ ((∃ l, ρ i = some l ∧ ad = ⟨l.block, l.base + o, none⟩ ∧ l.base + o + c * sz ≤ l.size) ∨ c = 0)
  | .map none, v => v = .map none
  | .map (some i), v => ∃ l, ρ i = some l ∧ v = .map (some l.block)
  | .func none, v => v = .nilFunc
  | .func (some (f, ps)), v => ∃ vs : Array Value, v = fnV f vs ∧ CapsR ρ f ps vs.toList
  | .any, v => v.oneCell' = true

def CRs (ρ : Rho) : List Cell → List Value → Prop
  | [], [] => True
  | c :: cs, v :: vs => CR ρ c v ∧ CRs ρ cs vs
  | _, _ => False

def VR (ρ : Rho) : V → Value → Prop
  | .one c, v => CR ρ c v
  | .agg cs, v => ∃ vs, v = .agg vs ∧ CRs ρ cs vs.toList

def VRs (ρ : Rho) : List V → List Value → Prop
  | [], [] => True
  | c :: cs, v :: vs => VR ρ c v ∧ VRs ρ cs vs
  | _, _ => False

section mono
variable {ρ ρ' : Rho} (hle : ρ.le ρ')
include hle
theorem PtrR.mono {p : Nat × Nat} {v : Value} (h : PtrR ρ p v) : PtrR ρ' p v := let ⟨l, h1, h2⟩ := h; ⟨l, hle _ _ h1, h2⟩
theorem PtrsR.mono : ∀ {ps : List (Nat × Nat)} {vs : List Value}, PtrsR ρ ps vs → PtrsR ρ' ps vs
  | [], [], _ => trivial
  | _ :: _, _ :: _, ⟨h, hs⟩ => ⟨h.mono hle, PtrsR.mono hs⟩
  | [], _ :: _, h => h.elim
  | _ :: _, [], h => h.elim
theorem CR.mono {c : Cell} {v : Value} (h : CR ρ c v) : CR ρ' c v := by
  cases c with
  | bool => exact h
  | int => exact h
  | str => exact h
  | ptr a => cases a with
    | none => exact h
    | some p => exact PtrR.mono hle h
  | slice sz s =>
    obtain ⟨a, n⟩ := s
    cases a with
    | none => exact h
    | some p =>
      obtain ⟨i, o⟩ := p
      obtain ⟨ad, c, h1, h2, h3⟩ := h
      exact ⟨ad, c, h1, h2, h3.imp (fun ⟨l, a, b⟩ => ⟨l, hle _ _ a, b⟩) id⟩
  | map a => cases a with
    | none => exact h
    | some p => obtain ⟨l, h1, h2⟩ := h; exact ⟨l, hle _ _ h1, h2⟩
  | func a => cases a with
    | none => exact h
    | some p => obtain ⟨f, ps⟩ := p; obtain ⟨vs, h1, h2, h3⟩ := h; exact ⟨vs, h1, PtrsR.mono hle h2, h3⟩
  | any => exact h
theorem CRs.mono : ∀ {cs : List Cell} {vs : List Value}, CRs ρ cs vs → CRs ρ' cs vs
  | [], [], _ => trivial
  | _ :: _, _ :: _, ⟨h, hs⟩ => ⟨h.mono hle, CRs.mono hs⟩
  | [], _ :: _, h => h.elim
  | _ :: _, [], h => h.elim
theorem VR.mono {x : V} {v : Value} (h : VR ρ x v) : VR ρ' x v := by
  cases x with
  | one c => exact CR.mono hle h
  | agg cs => obtain ⟨vs, h1, h2⟩ := h; exact ⟨vs, h1, CRs.mono hle h2⟩
theorem VRs.mono : ∀ {cs : List V} {vs : List Value}, VRs ρ cs vs → VRs ρ' cs vs
  | [], [], _ => trivial
  | _ :: _, _ :: _, ⟨h, hs⟩ => ⟨h.mono hle, VRs.mono hs⟩
  | [], _ :: _, h => h.elim
  | _ :: _, [], h => h.elim
end mono

theorem CR.one {ρ : Rho} {c : Cell} {v : Value} (h : CR ρ c v) : v.oneCell' = true := by
  cases c with
  | bool => cases h; rfl
  | int => cases h; rfl
  | str => cases h; rfl
  | ptr a => cases a with
    | none => cases h; rfl
    | some p => obtain ⟨l, _, rfl⟩ := h; rfl
  | slice sz s =>
    obtain ⟨a, n⟩ := s
    cases a with
    | none => obtain ⟨_, rfl⟩ := h; rfl
    | some p => obtain ⟨i, o⟩ := p; obtain ⟨ad, c, rfl, _⟩ := h; rfl
  | map a => cases a with
    | none => cases h; rfl
    | some p => obtain ⟨l, _, rfl⟩ := h; rfl
  | func a => cases a with
    | none => cases h; rfl
    | some p =>
      obtain ⟨f, ps⟩ := p; obtain ⟨vs, rfl, _⟩ := h
      obtain ⟨fn, a, b, e⟩ := fnV_func f vs
      rw [e]; rfl
  | any => exact h

theorem cells_one {v : Value} (h : v.oneCell' = true) : v.cells = #[v] := by
  cases v <;> first | rfl | (simp [Value.oneCell'] at h)

theorem CRs.length {ρ : Rho} : ∀ {cs : List Cell} {vs : List Value}, CRs ρ cs vs → cs.length = vs.length
  | [], [], _ => rfl
  | _ :: _, _ :: _, ⟨_, hs⟩ => by simp [CRs.length hs]
  | [], _ :: _, h => h.elim
  | _ :: _, [], h => h.elim

theorem CRs.get {ρ : Rho} : ∀ {cs : List Cell} {vs : List Value}, CRs ρ cs vs → ∀ {j : Nat} {c : Cell}, cs[j]? = some c → ∃ v, vs[j]? = some v ∧ CR ρ c v
  | [], [], _, j, c, h => by simp at h
  | x :: cs, y :: vs, ⟨h0, hs⟩, j, c, h => by
    cases j with
    | zero => simp at h; subst h; exact ⟨y, by simp, h0⟩
    | succ j => simp at h; obtain ⟨v, h1, h2⟩ := CRs.get hs h; exact ⟨v, by simpa using h1, h2⟩
  | [], _ :: _, h, _, _, _ => h.elim
  | _ :: _, [], h, _, _, _ => h.elim

theorem CRs.of_get {ρ : Rho} : ∀ {cs : List Cell} {vs : List Value}, cs.length = vs.length → (∀ (j : Nat) (c : Cell) (v : Value), cs[j]? = some c → vs[j]? = some v → CR ρ c v) → CRs ρ cs vs
  | [], [], _, _ => trivial
  | x :: cs, y :: vs, hl, h => ⟨h 0 x y (by simp) (by simp), CRs.of_get (by simpa using hl) (fun j c v hc hv => h (j + 1) c v (by simpa using hc) (by simpa using hv))⟩
  | [], _ :: _, h, _ => by simp at h
  | _ :: _, [], h, _ => by simp at h

theorem CRs.at {ρ : Rho} {cs : List Cell} {vs : List Value} (h : CRs ρ cs vs) {j : Nat} {c : Cell} {v : Value} (hc : cs[j]? = some c) (hv : vs[j]? = some v) : CR ρ c v := by
  obtain ⟨u, h1, h2⟩ := h.get hc
  rw [hv] at h1
  cases h1
  exact h2

theorem CRs.append {ρ : Rho} : ∀ {cs ds : List Cell} {vs us : List Value}, CRs ρ cs vs → CRs ρ ds us → CRs ρ (cs ++ ds) (vs ++ us)
  | [], _, [], _, _, h => h
  | _ :: _, _, _ :: _, _, ⟨h, hs⟩, h' => ⟨h, CRs.append hs h'⟩
  | [], _, _ :: _, _, h, _ => h.elim
  | _ :: _, _, [], _, h, _ => h.elim

theorem CRs.take {ρ : Rho} {cs : List Cell} {vs : List Value} (h : CRs ρ cs vs) (n : Nat) : CRs ρ (cs.take n) (vs.take n) := by
  refine CRs.of_get (by simp [h.length]) fun j c v hc hv => ?_
  rw [List.getElem?_take] at hc hv
  split at hc
  · rename_i hj; rw [if_pos hj] at hv; exact h.at hc hv
  · cases hc

theorem CRs.drop {ρ : Rho} {cs : List Cell} {vs : List Value} (h : CRs ρ cs vs) (n : Nat) : CRs ρ (cs.drop n) (vs.drop n) := by
  refine CRs.of_get (by simp [h.length]) fun j c v hc hv => ?_
  rw [List.getElem?_drop] at hc hv
  exact h.at hc hv

theorem CRs.set {ρ : Rho} {cs : List Cell} {vs : List Value} (h : CRs ρ cs vs) {c : Cell} {v : Value} (hv : CR ρ c v) (n : Nat) : CRs ρ (cs.set n c) (vs.set n v) := by
  refine CRs.of_get (by simp [h.length]) fun j c' v' hc' hv' => ?_
  rw [List.getElem?_set] at hc' hv'
  split at hc'
  · rename_i hj
    rw [if_pos hj] at hv'
    split at hc'
    · split at hv'
      · cases hc'; cases hv'; exact hv
      · cases hv'
    · cases hc'
  · rename_i hj
    rw [if_neg hj] at hv'
    exact h.at hc' hv'

theorem CRs.splice {ρ : Rho} {cs ns : List Cell} {vs us : List Value} (h : CRs ρ cs vs) (hn : CRs ρ ns us) (o : Nat) :
    CRs ρ (splice cs o ns) (vs.take o ++ us ++ vs.drop (o + us.length)) := by
  unfold YtadakbmoanbcgaaGreatDoorVc.splice
  rw [hn.length]
  exact ((h.take o).append hn).append (h.drop _)

theorem CRs.all_one {ρ : Rho} : ∀ {cs : List Cell} {vs : List Value}, CRs ρ cs vs → ∀ v ∈ vs, v.oneCell' = true
  | [], [], _, v, hv => by simp at hv
  | _ :: _, _ :: _, ⟨h, hs⟩, v, hv => by
    rcases List.mem_cons.1 hv with rfl | hv
    · exact h.one
    · exact CRs.all_one hs v hv
  | [], _ :: _, h, _, _ => h.elim
  | _ :: _, [], h, _, _ => h.elim

theorem VR.cells {ρ : Rho} {x : V} {v : Value} (h : VR ρ x v) : CRs ρ x.cells v.cells.toList := by
  cases x with
  | one c => rw [cells_one (CR.one h)]; exact ⟨h, trivial⟩
  | agg cs => obtain ⟨vs, rfl, h⟩ := h; exact h

theorem VRs.length {ρ : Rho} : ∀ {cs : List V} {vs : List Value}, VRs ρ cs vs → cs.length = vs.length
  | [], [], _ => rfl
  | _ :: _, _ :: _, ⟨_, hs⟩ => by simp [VRs.length hs]
  | [], _ :: _, h => h.elim
  | _ :: _, [], h => h.elim

theorem VRs.get {ρ : Rho} : ∀ {cs : List V} {vs : List Value}, VRs ρ cs vs → ∀ {j : Nat} {c : V}, cs[j]? = some c → ∃ v, vs[j]? = some v ∧ VR ρ c v
  | [], [], _, j, c, h => by simp at h
  | x :: cs, y :: vs, ⟨h0, hs⟩, j, c, h => by
    cases j with
    | zero => simp at h; subst h; exact ⟨y, by simp, h0⟩
    | succ j => simp at h; obtain ⟨v, h1, h2⟩ := VRs.get hs h; exact ⟨v, by simpa using h1, h2⟩
  | [], _ :: _, h, _, _, _ => h.elim
  | _ :: _, [], h, _, _, _ => h.elim

/-! ### memory -/
/-- What a map holds. -/
def EsR (ρ : Rho) : List (V × V) → List MapEntry → Prop
  | [], [] => True
  | p :: es, m :: ms => (VR ρ p.1 m.key ∧ VR ρ p.2 m.val) ∧ EsR ρ es ms
  | _, _ => False

def ObjR (ρ : Rho) (l : Loc) : Obj → Go.Obj → Prop
  | .cells ro cs, ob => ∃ c e fz, ob = .cells c e fz ∧ c.size = l.size ∧ l.base + cs.length ≤ c.size ∧ CRs ρ cs ((c.toList.drop l.base).take cs.length) ∧
      (ro = false → ∀ j, j < c.size → (decide (fz.1 ≤ j) && decide (j < fz.2)) = false)
  | .map es, ob => ∃ ms clock, ob = .map ms clock ∧ EsR ρ es ms.toList ∧ MapKept.Stamped ms clock
  | .pin c, ob => l.base = 0 ∧ ∃ v e fz, ob = .cells #[v] e fz ∧ CR ρ c v
  | .mapF fs ck, ob => ∃ ms, ob = .map ms ck ∧ EsR ρ (fs.map (·.1)) ms.toList ∧ ms.toList.map (·.born) = fs.map (·.2) ∧ MapKept.Stamped ms ck
  | .mapE es y n, ob => ∃ ms clock, ob = .map ms clock ∧ EsR ρ es ms.toList ∧ MapKept.Stamped ms clock ∧ ∃ e ∈ ms.toList, VR ρ y e.key ∧ e.born = n
  | .iter m seen ck, ob => l.base = 0 ∧ ∃ lm, ρ m = some lm ∧ ob = .mapIter (some lm.block) ck seen.toArray ck
  | .globs _, _ => False

def Obj.open : Obj → Bool
  | .cells ro _ => !ro
  | .map _ => true
  | .pin _ => false
  | .mapF _ _ => true
  | .iter _ _ _ => true
  | .mapE _ _ _ => true
  | .globs _ => false

/-- The program's variables lie where the abstract heap says. -/
def Globs (ρ : Rho) (h : Heap) : Prop := ∀ q g i, GlobIn h q g i → ∃ n, ρ i = some ⟨g, 0, n⟩
theorem Globs.mono {ρ ρ' : Rho} {h : Heap} (hg : Globs ρ h) (hle : ρ.le ρ') : Globs ρ' h := fun q g i hi => let ⟨n, hn⟩ := hg q g i hi; ⟨n, hle _ _ hn⟩
theorem Globs.set {ρ : Rho} {h : Heap} (hg : Globs ρ h) {j : Nat} {o : Obj} (ho : ∀ f, o ≠ .globs f) : Globs ρ (h.set j o) := fun q g i ⟨f, hq, hf⟩ => by
  by_cases e : q = j
  · rw [show h.set j o q = some o from if_pos e] at hq
    cases hq
    exact absurd rfl (ho f)
  · rw [show h.set j o q = h q from if_neg e] at hq
    exact hg q g i ⟨f, hq, hf⟩
theorem Globs.del {ρ : Rho} {h : Heap} (hg : Globs ρ h) (j : Nat) : Globs ρ (h.del j) := fun q g i ⟨f, hq, hf⟩ => by
  by_cases e : q = j
  · rw [show h.del j q = none from if_pos e] at hq
    cases hq
  · rw [show h.del j q = h q from if_neg e] at hq
    exact hg q g i ⟨f, hq, hf⟩
theorem ObjR.no_globs {ρ : Rho} {l : Loc} {o : Obj} {ob : Go.Obj} (hr : ObjR ρ l o ob) (f : Nat → Option Nat) : o ≠ .globs f := fun e => by subst e; exact hr

structure HR (ρ : Rho) (h : Heap) (w : World) : Prop where
  live : ∀ i o l, h i = some o → ρ i = some l → ∃ ob, w.heap[l.block]? = some ob ∧ ObjR ρ l o ob
  inj : ∀ i j l l', ρ i = some l → ρ j = some l' → h i ≠ none → h j ≠ none → l.block = l'.block → i = j
  dom : ∀ i l, ρ i = some l → l.block < w.heap.size
  fresh : ∃ N, ∀ i, N ≤ i → h i = none ∧ ρ i = none
  glob : Globs ρ h

/-- May the machine's block b be written? -/
def Wr (ρ : Rho) (h : Heap) (b : Nat) : Prop := ∃ i l o, ρ i = some l ∧ l.block = b ∧ h i = some o ∧ o.open = true

/-- From one state to a later one. -/
structure Fr (ρ0 : Rho) (h0 : Heap) (w0 : World) (ρ : Rho) (h : Heap) (w : World) : Prop where
  os : w.os = w0.os
  tape : w.tape = w0.tape
  output : w.output = w0.output
  size : w0.heap.size ≤ w.heap.size
  sub : ρ0.le ρ
  new : ∀ i l, ρ i = some l → ρ0 i = some l ∨ w0.heap.size ≤ l.block ∨ Wr ρ0 h0 l.block
  keep : ∀ b, b < w0.heap.size → ¬ Wr ρ0 h0 b → w.heap[b]? = w0.heap[b]?
  wr : ∀ b, b < w0.heap.size → Wr ρ h b → Wr ρ0 h0 b

theorem Fr.refl (ρ : Rho) (h : Heap) (w : World) : Fr ρ h w ρ h w :=
  ⟨rfl, rfl, rfl, Nat.le_refl _, fun _ _ h => h, fun _ _ h => .inl h, fun _ _ _ => rfl, fun _ _ h => h⟩

theorem Fr.trans {ρ0 ρ1 ρ2 : Rho} {h0 h1 h2 : Heap} {w0 w1 w2 : World} (a : Fr ρ0 h0 w0 ρ1 h1 w1) (b : Fr ρ1 h1 w1 ρ2 h2 w2) : Fr ρ0 h0 w0 ρ2 h2 w2 where
  os := b.os.trans a.os
  tape := b.tape.trans a.tape
  output := b.output.trans a.output
  size := Nat.le_trans a.size b.size
  sub := fun i l h => b.sub i l (a.sub i l h)
  new := fun i l h => by
    rcases b.new i l h with h | h | h
    · exact a.new i l h
    · exact .inr (.inl (Nat.le_trans a.size h))
    · rcases Nat.lt_or_ge l.block w0.heap.size with hb | hb
      · exact .inr (.inr (a.wr _ hb h))
      · exact .inr (.inl hb)
  keep := fun k hk hn => (b.keep k (Nat.lt_of_lt_of_le hk a.size) (fun h => hn (a.wr k hk h))).trans (a.keep k hk hn)
  wr := fun k hk h => a.wr k hk (b.wr k (Nat.lt_of_lt_of_le hk a.size) h)

/-- A block that the frame has for itself: no block of the abstract heap. -/
def Priv (ρ : Rho) (w : World) (n0 b : Nat) (cs : List Cell) : Prop :=
  n0 ≤ b ∧ (∀ i l, ρ i = some l → l.block ≠ b) ∧ ∃ c e, w.heap[b]? = some (.cells c e (0, 0)) ∧ CRs ρ cs c.toList

def TR (ρ : Rho) (w : World) (n0 : Nat) (tm : Array Value) : TV → Value → Prop
  | .undef, _ => True
  | .v x, v => VR ρ x v
  | .tup l, v => ∃ vs, v = .tuple vs ∧ VRs ρ l vs.toList
  | .var cs, v => ∃ b, v = .pointer (some ⟨b, 0, none⟩) ∧ Priv ρ w n0 b cs
  | .ref t o, v => ∃ b, tm.getD t undef = .pointer (some ⟨b, 0, none⟩) ∧ v = .pointer (some ⟨b, o, none⟩)
  | .lit sz n cs, v => ∃ b c, v = .slice (some ⟨b, 0, none⟩) n c ∧ (n ≤ c ∧ c * sz = cs.length ∧ (cs = [] → c = n)) ∧ Priv ρ w n0 b cs

def privB : TV → Value → Option Nat
  | .var _, .pointer (some ad) => some ad.block
  | .lit _ _ _, .slice (some ad) _ _ => some ad.block
  | _, _ => none

/-- The state of a frame. -/
structure Inv (ρ0 : Rho) (h0 : Heap) (w0 : World) (C : Ctx) (ρ : Rho) (h : Heap) (w : World) (e : Nat → TV) (a : Act) : Prop where
  fr : Fr ρ0 h0 w0 ρ h w
  hr : HR ρ h w
  tr : ∀ t, TR ρ w w0.heap.size a.tmps (e t) (a.tmps.getD t undef)
  dis : ∀ t t' b, t ≠ t' → privB (e t) (a.tmps.getD t undef) = some b → privB (e t') (a.tmps.getD t' undef) ≠ some b
  refs : ∀ u t off, e u = .ref t off → C.own.testBit t = true
  size : a.tmps.size = C.ntmps
  defers : a.defers = C.dfs

/-- Bindings laid over a frame. -/
def Env.over : Env → (Nat → TV) → Nat → TV
  | [], σ, t => σ t
  | (u, x) :: d, σ, t => match u.beq t with
    | true => x
    | false => Env.over d σ t

theorem Env.get_append : ∀ (d e : Env) (t : Nat), Env.get (d ++ e) t = Env.over d e.get t
  | [], e, t => rfl
  | (u, x) :: d, e, t => by
    simp only [List.cons_append, Env.get, Env.over]
    cases u.beq t
    · exact Env.get_append d e t
    · rfl

end Go.Proofs.YtadakbmoanbcgaaGreatDoorVc
