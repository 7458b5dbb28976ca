/- Vc, part 8: the other operations that change no memory. -/
import Derived.Test.YtdjancoknephnaaDoorVcPureMem
import Derived.Laws.Slices
import Derived.Laws.Build
import Derived.Laws.BytesString
import Derived.Laws.BytesArg
import Derived.Laws.Runes
set_option linter.unusedSimpArgs false
set_option linter.unusedVariables false
namespace Go.Proofs.YtdjancoknephnaaDoorVc

/-! ### parts of an aggregate -/
theorem foldl_splice (off : Nat) : ∀ (us : List Value) (k : Nat) (cells : Array Value), off + k + us.length ≤ cells.size →
    ((us.zipIdx k).foldl (fun (cs : Array Value) (x : Value × Nat) => cs.setIfInBounds (off + x.2) x.1) cells).toList = cells.toList.take (off + k) ++ us ++ cells.toList.drop (off + k + us.length)
  | [], k, cells, h => by simp
  | u :: us, k, cells, h => by
    simp only [List.zipIdx_cons, List.foldl_cons, List.length_cons] at h ⊢
    rw [foldl_splice off us (k + 1) (cells.setIfInBounds (off + k) u) (by simp; omega)]
    have hlt : off + k < cells.toList.length := by simp; omega
    simp only [Array.toList_setIfInBounds]
    have e1 : (cells.toList.set (off + k) u).take (off + (k + 1)) = cells.toList.take (off + k) ++ [u] := by
      rw [show off + (k + 1) = off + k + 1 by omega, List.take_succ_eq_append_getElem (by simpa using hlt), List.take_set_of_le (Nat.le_refl _)]
      simp
    have e2 : (cells.toList.set (off + k) u).drop (off + (k + 1) + us.length) = cells.toList.drop (off + k + (us.length + 1)) := by
      rw [List.drop_set_of_lt (by omega), show off + (k + 1) + us.length = off + k + (us.length + 1) by omega]
    rw [e1, e2]
    simp

def PartsR (ρ : Rho) : List (Nat × TV) → List (Nat × Value) → Prop
  | [], [] => True
  | (i, x) :: l, (j, v) :: m => i = j ∧ (∀ y, x = .v y → VR ρ y v) ∧ PartsR ρ l m
  | _, _ => False

theorem fill_R {ρ : Rho} {place' place : Nat → Option (Nat × Nat)} (hp : ∀ i x, place' i = some x → place i = some x) :
    ∀ {ps : List (Nat × TV)} {qs : List (Nat × Value)} {cs cs' : List Cell} {arr : Array Value}, PartsR ρ ps qs → CRs ρ cs arr.toList → fillCells place' cs ps = some cs' →
      ∃ arr', Instr.fill place arr qs = some arr' ∧ CRs ρ cs' arr'.toList
  | [], [], cs, cs', arr, _, hc, h => by cases h; exact ⟨arr, rfl, hc⟩
  | (i, x) :: ps, (j, v) :: qs, cs, cs', arr, ⟨hij, hx, hr⟩, hc, h => by
    subst hij
    cases x with
    | v y =>
      simp only [fillCells] at h
      split at h
      · rename_i o n hpl
        split at h
        · rename_i hq
          simp only [Bool.and_eq_true] at hq
          have h1 := Nat.eq_of_beq_eq_true hq.1
          have h2 := Nat.le_of_ble_eq_true hq.2
          have hv := hx y rfl
          have hvc := hv.cells
          have hlen := hvc.length
          have hal := hc.length
          simp at hlen hal
          have hfs := foldl_splice o v.cells.toList 0 arr (by simp; omega)
          simp only [Nat.add_zero] at hfs
          have hnew : CRs ρ (splice cs o y.cells) (((v.cells.toList.zipIdx 0).foldl (fun (cs : Array Value) (x : Value × Nat) => cs.setIfInBounds (o + x.2) x.1) arr)).toList := by
            rw [hfs]; exact hc.splice hvc o
          obtain ⟨arr', h3, h4⟩ := fill_R hp hr hnew h
          refine ⟨arr', ?_, h4⟩
          simp only [Instr.fill, hp _ _ hpl]
          have hne : ¬ (((v.cells.size != n) || decide (o + v.cells.size > arr.size)) = true) := by simp; omega
          have hne' : ¬ ((decide (v.cells.size ≠ n) || decide (o + v.cells.size > arr.size)) = true) := by simp; omega
          first
            | rw [if_neg hne]
            | rw [if_neg hne']
          rw [← h3]
          congr 1
          rw [← Array.foldl_toList, Array.toList_zipIdx]
        · cases h
      · cases h
    | _ => simp [fillCells] at h
  | [], _ :: _, _, _, _, h, _, _ => h.elim
  | _ :: _, [], _, _, _, h, _, _ => h.elim

theorem isZero_R {ρ : Rho} {k : Kd} {v : Value} (h : isZero k v = true) : CR ρ k.zero v := by
  unfold isZero at h
  split at h
  · simp at h; subst h; rfl
  · simp at h; obtain ⟨h1, rfl⟩ := h; cases eqKind_eq h1; rfl
  · rename_i s
    have : s = ByteArray.empty := by
      obtain ⟨⟨l⟩⟩ := s
      simp at h
      subst h
      rfl
    subst this; rfl
  · rfl
  · simp at h; obtain ⟨rfl, rfl⟩ := h; exact ⟨rfl, rfl⟩
  · rfl
  · rfl
  · cases h
  · cases h
  · rename_i h1 h2
    cases v <;> first | rfl | exact (h1 _ rfl).elim | exact (h2 _ rfl).elim | skip
  · cases h

theorem areZero_R {ρ : Rho} : ∀ {ks : List Kd} {vs : List Value}, areZero ks vs = true → CRs ρ (ks.map Kd.zero) vs
  | [], [], _ => trivial
  | k :: ks, v :: vs, h => by
    simp only [areZero, Bool.and_eq_true] at h
    exact ⟨isZero_R h.1, areZero_R h.2⟩
  | [], _ :: _, h => by simp [areZero] at h
  | _ :: _, [], h => by simp [areZero] at h

theorem zeroV_R {P : Program} {t : TypeId} {z : V} (h : zeroV P t = some z) :
    ∃ k i v, vk P t = some k ∧ k.like z ∧ z.cells = k.kds.map Kd.zero ∧ P.info? t = some i ∧ i.zero = some v ∧ ∀ ρ, CRs ρ z.cells v.cells.toList := by
  unfold zeroV at h
  split at h
  · rename_i k v hk hv
    split at h
    · rename_i hz
      cases h
      cases hi : P.info? t with
      | none => rw [hi] at hv; cases hv
      | some i =>
        rw [hi] at hv
        refine ⟨k, i, v, hk, ?_, ?_, rfl, hv, fun ρ => ?_⟩
        · cases k <;> trivial
        · cases k <;> rfl
        · have := areZero_R (ρ := ρ) hz
          cases k <;> exact this
    · cases h
  · cases h

theorem run_zeroValue {P : Program} {w : World} {t : TypeId} {i : TypeInfo} {z : Value} (hi : P.info? t = some i) (hz : i.zero = some z) : (zeroValue t).run P w = .ok z w := by
  simp [zeroValue, typeInfo, hi, hz]

/-! ### slices -/
theorem run_sliceBounds {P : Program} {w : World} {b : Bool} {len cap : Nat} {lo hi : Option Value} {l h : Int}
    (hl : (lo = none ∧ l = 0) ∨ ∃ k, lo = some (.int k l)) (hh : (hi = none ∧ h = len) ∨ ∃ k, hi = some (.int k h)) (h0 : 0 ≤ l) (h1 : l ≤ h) (h2 : h ≤ cap) :
    (Instr.sliceBounds b len cap lo hi none).run P w = .ok (l.toNat, h.toNat, cap) w := by
  rcases hl with ⟨rfl, rfl⟩ | ⟨kl, rfl⟩ <;> rcases hh with ⟨rfl, rfl⟩ | ⟨kh, rfl⟩
  · simp [Instr.sliceBounds]
  · simp [Instr.sliceBounds, run_sliceBound w kh h cap _ (by omega) h2]
  · simp [Instr.sliceBounds, run_sliceBound w kl l len _ h0 h1]
  · simp [Instr.sliceBounds, run_sliceBound w kh h cap _ (by omega) h2, run_sliceBound w kl l h.toNat _ h0 (by omega)]

section
variable {C : Ctx} {e : Env} {a : Act} {ρ : Rho} {w : World} {n0 : Nat}

theorem optInt_R {d l : Int} {x : Option Operand} (hx : ∀ y, x = some y → OpdR e a ρ w n0 y) (h : optInt e d x = some l) :
    (x.map a.eval = none ∧ l = d) ∨ ∃ k, x.map a.eval = some (.int k l) := by
  cases x with
  | none => cases h; exact .inl ⟨rfl, rfl⟩
  | some y =>
    simp only [optInt] at h
    split at h
    · rename_i k n hy
      cases h
      have := opdBare_V (hx y rfl) hy
      exact .inr ⟨k, by simp [show a.eval y = _ from this]⟩
    · cases h
end

theorem addrAdd (b o n : Nat) : (Addr.add ⟨b, o, none⟩ n) = ⟨b, o + n, none⟩ := Addr.add_lit b o n

theorem sized_info {P : Program} {t : TypeId} {n : Nat} (h : sized P t n = true) : ∃ i, P.info? t = some i ∧ i.size = n := by
  unfold sized at h
  split at h
  · rename_i i hi; exact ⟨i, hi, Nat.eq_of_beq_eq_true h⟩
  · cases h

theorem slice_R {P : Program} {ρ : Rho} {w : World} {sz : Nat} {s : Sl} {v : Value} {t el : TypeId} {lo hi : Option Value} {l h : Int} (hu : P.underlying t = some (.slice el)) (hs : sized P el sz = true)
    (hv : CR ρ (.slice sz s) v) (hl : (lo = none ∧ l = 0) ∨ ∃ k, lo = some (.int k l)) (hh : (hi = none ∧ h = s.len) ∨ ∃ k, hi = some (.int k h)) (h0 : 0 ≤ l) (h1 : l ≤ h) (h2 : h ≤ s.len) :
    ∃ r, (Instr.sliceAt t v lo hi none).run P w = .ok r w ∧ CR ρ (.slice sz ⟨match s.a with
      | some (i, o) => some (i, o + l.toNat * sz)
      | none => none, h.toNat - l.toNat⟩) r := by
  obtain ⟨inf, hinf, hsz⟩ := sized_info hs
  obtain ⟨sa, n⟩ := s
  cases sa with
  | none =>
    obtain ⟨hn, rfl⟩ := hv
    simp only at hn h2 hh
    subst hn
    have e1 : l = 0 := by omega
    have e2 : h = 0 := by omega
    subst e1; subst e2
    refine ⟨.slice none 0 0, ?_, rfl, rfl⟩
    simp only [Instr.sliceAt, Instr.slice, Sem.run_bind, run_underlying hu, Result.andThen_ok, run_sliceBounds hl hh (Int.le_refl _) (Int.le_refl _) (Int.le_refl _), run_sizeOf hinf, Sem.run_pure]
    rfl
  | some p =>
    obtain ⟨i, o⟩ := p
    obtain ⟨ad, c, rfl, hnc, hor⟩ := hv
    simp only at h2 hh hnc
    have hb := run_sliceBounds (P := P) (w := w) (b := true) (cap := c) hl hh h0 h1 (by omega)
    have hrun : (Instr.sliceAt t (.slice (some ad) n c) lo hi none).run P w = .ok (.slice (if c = l.toNat then some ad else (some ad).map (·.add (l.toNat * inf.size))) (h.toNat - l.toNat) (c - l.toNat)) w := by
      simp only [Instr.sliceAt, Instr.slice, Sem.run_bind, run_underlying hu, Result.andThen_ok, hb, run_sizeOf hinf, Sem.run_pure]
    rw [hrun]
    by_cases hc : c = l.toNat
    · refine ⟨_, rfl, ?_⟩
      rw [if_pos hc]
      exact ⟨ad, c - l.toNat, rfl, by omega, .inr (by omega)⟩
    · rw [if_neg hc]
      refine ⟨_, rfl, ad.add (l.toNat * inf.size), c - l.toNat, rfl, by omega, ?_⟩
      rcases hor with ⟨loc, hloc, had, hsp⟩ | hz
      · refine .inl ⟨loc, hloc, by rw [had, hsz, addrAdd, Nat.add_assoc], ?_⟩
        have hle : l.toNat ≤ c := by omega
        have : l.toNat * sz + (c - l.toNat) * sz = c * sz := by rw [← Nat.add_mul]; congr 1; omega
        omega
      · omega

/-! ### bytes -/
theorem byteCells_get (s : ByteArray) (j : Nat) : (byteCells s)[j]? = (s.data.toList[j]?).map fun b => Cell.int .u8 (b.toNat : Nat) := List.getElem?_map ..
theorem byteCells_length (s : ByteArray) : (byteCells s).length = s.size := by unfold byteCells; rw [List.length_map]; rfl

theorem run_bytes {P : Program} {ρ : Rho} {h : Heap} {w : World} (hr : HR ρ h w) {s : Sl} {b : ByteArray} {v : Value} (hv : CR ρ (.slice 1 s) v) (hb : h.sl 1 s = some (byteCells b)) :
    (Conv.bytesToString v).run P w = .ok (.string b) w := by
  obtain ⟨sa, n⟩ := s
  cases sa with
  | none =>
    obtain ⟨_, rfl⟩ := hv
    simp only [Heap.sl] at hb
    have : b = ByteArray.empty := by
      obtain ⟨⟨l⟩⟩ := b
      cases l with
      | nil => rfl
      | cons x l => simp [byteCells] at hb
    subst this
    simp [Conv.bytesToString]
  | some p =>
    obtain ⟨i, o⟩ := p
    obtain ⟨ad, c, rfl, hnc, hor⟩ := hv
    simp only [Heap.sl, Nat.mul_one] at hb
    have hlen : (byteCells b).length = n ∧ (∀ j v, (b.data.toList.map fun x => Value.int .u8 (x.toNat : Nat))[j]? = some v → w.cell? (ad.add j) = some v) := by
      rcases hor with ⟨l, hl, had, hsp⟩ | hz
      · obtain ⟨cc, el, fz, hcb, hlen, hcs, _⟩ := hr.read hb hl
        refine ⟨hlen, fun j v hj => ?_⟩
        rw [had, addrAdd, cell_at hcb]
        have hj' : (byteCells b)[j]? = (b.data.toList[j]?).map fun b => Cell.int .u8 (b.toNat : Nat) := byteCells_get b j
        rw [List.getElem?_map] at hj
        cases hx : b.data.toList[j]? with
        | none => rw [hx] at hj; cases hj
        | some x =>
          rw [hx] at hj hj'
          cases hj
          obtain ⟨u, hu, hcr⟩ := hcs.get hj'
          cases hcr
          rw [List.getElem?_take] at hu
          split at hu
          · rw [List.getElem?_drop] at hu; simpa using hu
          · cases hu
      · have hn : n = 0 := by omega
        subst hn
        unfold Heap.read at hb
        split at hb
        · split at hb
          · simp at hb
            have : b.data.toList = [] := List.map_eq_nil_iff.1 hb
            refine ⟨by rw [hb]; rfl, fun j v hj => by rw [this] at hj; simp at hj⟩
          · cases hb
        · cases hb
    obtain ⟨h1, h2⟩ := hlen
    have hload : (loadCells ad n).run P w = .ok ((b.data.toList.map fun x => (x.toNat : Int)).map (Value.int .u8)).toArray w := by
      have hn : n = (b.data.toList.map fun x => Value.int .u8 (x.toNat : Nat)).length := by rw [← h1]; simp [byteCells]
      rw [hn, run_loadCells_list (P := P) w ad _ h2]
      simp [List.map_map, Function.comp_def]
    rw [run_bytesToString (P := P) w ad n c _ hload, foldl_push_bytes]
    have hid : (b.data.toList.map fun x => (x.toNat : Int)).map (fun n => UInt8.ofNat n.toNat) = b.data.toList := by
      rw [List.map_map]
      have : ((fun n : Int => UInt8.ofNat n.toNat) ∘ fun x : UInt8 => (x.toNat : Int)) = id := by funext x; simp
      rw [this, List.map_id]
    rw [hid]
    congr 2
    obtain ⟨⟨l⟩⟩ := b
    show (⟨#[] ++ l.toArray⟩ : ByteArray) = _
    simp

end Go.Proofs.YtdjancoknephnaaDoorVc
