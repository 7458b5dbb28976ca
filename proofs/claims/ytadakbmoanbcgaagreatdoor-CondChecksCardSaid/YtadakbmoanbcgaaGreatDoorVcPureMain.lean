/- Vc, part 10: pureRes tells the truth: the theorem. -/
import Derived.Test.YtadakbmoanbcgaaGreatDoorVcPureSound
set_option linter.unusedSimpArgs false
set_option linter.unusedVariables false
namespace Go.Proofs.YtadakbmoanbcgaaGreatDoorVc

def isMemOp : Op → Bool
  | .load _ _ => true
  | .store _ _ _ => true
  | _ => false

section
variable {C : Ctx} {e : Env} {a : Act} {ρ : Rho} {w : World} {n0 : Nat} {h : Heap} {z : TV} {ids : List Nat} {o : Oper}

theorem isConst0_R {y' : Operand} {y : TV} {t : TypeId} (hy : opd C e t y' = y) : ∀ k n, y = .v (.one (.int k n)) → (isConst0 y' = true → n ≠ 0) ∧ (isConstNat y' = true → 0 ≤ n) := by
  intro k n hk
  subst hk
  have key : ∀ v : Value, constT C.P t v = .v (.one (.int k n)) → v = .int k n := by
    intro v hv
    have : VR (fun _ => none) (.one (.int k n)) v := constT_R hv
    exact this
  constructor
  · intro hc
    cases y' with
    | const v =>
      have := key v hy
      subst this
      simpa [isConst0] using hc
    | _ => simp [isConst0] at hc
  · intro hc
    cases y' with
    | const v =>
      have := key v hy
      subst this
      simpa [isConstNat] using hc
    | _ => simp [isConstNat] at hc

theorem POut.of_run {x : V} {v : Value} {r : Result Next} (h1 : r = .ok (.value v) w) (h2 : VR ρ x v) : POut ρ w n0 a.tmps (.v x) r := ⟨v, h1, h2⟩

theorem fieldPlaces_struct {P : Program} {t : TypeId} {fs : Array Field} {i off n : Nat} (hu : P.underlying t = some (.struct fs)) (h : fieldPlaces P t i = some (off, n)) :
    ∃ f inf, fs[i]? = some f ∧ fieldType P t i = f.type ∧ P.info? f.type = some inf ∧ off = f.offset ∧ n = inf.size := by
  unfold fieldPlaces at h
  rw [hu] at h
  simp only at h
  cases hf : fs.toList[i]? with
  | none => rw [hf] at h; cases h
  | some f =>
    rw [hf] at h
    simp only at h
    cases hi : P.info? f.type with
    | none => rw [hi] at h; cases h
    | some inf =>
      rw [hi] at h
      cases h
      refine ⟨f, inf, by simpa using hf, ?_, hi, rfl, rfl⟩
      unfold fieldType
      rw [hu]
      simp only [hf]

theorem flat_info {P : Program} : ∀ {d : Nat} {t : TypeId} {ks : List Kd}, flat P d t = some ks → ∃ i, P.info? t = some i := by
  intro d t ks h
  cases d with
  | zero => cases h
  | succ d =>
    cases hi : P.info? t with
    | some i => exact ⟨i, rfl⟩
    | none =>
      have hu : P.underlying t = none := by unfold Program.underlying; rw [hi]
      unfold flat at h
      rw [hu] at h
      simp [kdOf, hu] at h

theorem flat_fields {P : Program} {d : Nat} : ∀ {l : List Field} {ks : List Kd}, l.foldr (fun f r => match flat P d f.type, r with
        | some a, some b => some (a ++ b)
        | _, _ => none) (some []) = some ks → ∀ f ∈ l, ∃ i, P.info? f.type = some i
  | [], _, _, f, hf => by simp at hf
  | x :: l, ks, h, f, hf => by
    simp only [List.foldr_cons] at h
    split at h
    · rename_i u v hu hv
      rcases List.mem_cons.1 hf with rfl | hf
      · exact flat_info hu
      · exact flat_fields hv f hf
    · cases h

theorem run_places {P : Program} {w : World} (fs : Array Field) (hi : ∀ f ∈ fs.toList, ∃ i, P.info? f.type = some i) :
    (fs.mapM fun f => (do pure (f.offset, ← sizeOf f.type) : Sem (Nat × Nat))).run P w = .ok (fs.map fun f => (f.offset, P.cellsOf f.type)) w := by
  have key : ∀ (l : List Field), (∀ f ∈ l, ∃ i, P.info? f.type = some i) → (l.mapM fun f => (do pure (f.offset, ← sizeOf f.type) : Sem (Nat × Nat))).run P w = .ok (l.map fun f => (f.offset, P.cellsOf f.type)) w := by
    intro l
    induction l with
    | nil => intro _; rfl
    | cons f l ih =>
      intro hl
      obtain ⟨i, hi⟩ := hl f (by simp)
      simp only [List.mapM_cons, Sem.run_bind, run_sizeOf hi, Result.andThen_ok, Sem.run_pure, ih (fun g hg => hl g (by simp [hg])), List.map_cons]
      simp [Program.cellsOf, hi]
  rw [Array.mapM_eq_mapM_toList]
  simp only [Sem.run_map, key fs.toList hi, Result.andThen_ok]
  congr 1
  apply Array.ext'
  simp

theorem partsR {ty : Nat → TypeId} : ∀ {l : List (Nat × Operand)}, (∀ p ∈ l, OpdR e a ρ w n0 p.2) →
    PartsR ρ (l.map fun p => (p.1, opd C e (ty p.1) p.2)) (l.map fun p => (p.1, a.eval p.2))
  | [], _ => trivial
  | p :: l, h => ⟨rfl, fun y hy => opd_V (h p (by simp)) hy, partsR fun q hq => h q (by simp [hq])⟩

theorem pure_call_len (hr : HR ρ h w) {args : Array Operand} {argTypes : Array TypeId} (hx : ∀ x ∈ args, OpdR e a ρ w n0 x)
    (ho : (match args.toList, argTypes.toList with
    | [x], [t] => match C.P.underlying t, opd C e t x with
      | some .string, .v (.one (.str s)) => Res.val (goInt s.size)
      | some (.slice _), .v (.one (.slice _ s)) => .val (goInt s.len)
      | some (.slice _), .lit _ n _ => .val (goInt n)
      | some (.map _ _), .v (.one (.map m)) => .look m (.one (.int .i64)) (fun es => some (.one (.int .i64 (es.length : Nat)), true)) (fun x _ => .v x)
      | some (.array n _), _ => .val (goInt n)
      | _, _ => .bad
    | _, _ => .bad).out h z ids) : VOut C.P ρ w z (Builtin.len_ argTypes o.type (args.map a.eval)) := by
  split at ho
  · rename_i x t h1 h2
    have hargs : args = #[x] := by apply Array.ext'; simpa using h1
    have htys : argTypes = #[t] := by apply Array.ext'; simpa using h2
    subst hargs; subst htys
    have hxx := hx x (by simp)
    split at ho
    · rename_i s hu ho'
      have hv : a.eval x = .string s := opd_V hxx ho'
      cases out_val ho
      exact ⟨_, _, rfl, by simp [Builtin.len_, run_underlying hu, hv, Go.goInt], rfl⟩
    · rename_i sz s hu ho'
      have hv : CR ρ (.slice _ s) (a.eval x) := opd_V hxx ho'
      cases out_val ho
      obtain ⟨ad, c, hev⟩ : ∃ ad c, a.eval x = .slice ad s.len c := by
        obtain ⟨sa, n⟩ := s
        cases sa with
        | none => obtain ⟨hn, hv⟩ := hv; exact ⟨_, _, by rw [hv, hn]⟩
        | some p => obtain ⟨ad, c, hv, _⟩ := hv; exact ⟨_, _, hv⟩
      exact ⟨_, _, rfl, by simp [Builtin.len_, run_underlying hu, hev, Go.goInt], rfl⟩
    · rename_i n _ hu ho'
      have hv := opd_TR (C := C) (t := t) hxx
      rw [ho'] at hv
      obtain ⟨b, cp, hev, _⟩ := hv
      cases out_val ho
      exact ⟨_, _, rfl, by simp [Builtin.len_, run_underlying hu, hev, Go.goInt], rfl⟩
    · rename_i kt el m hu ho'
      have hv : CR ρ (.map m) (a.eval x) := opd_V hxx ho'
      obtain ⟨y, b, es, _, h1, h2, rfl⟩ := out_look ho
      cases h2
      cases m with
      | none =>
        have hv : a.eval x = .map none := hv
        cases h1
        exact ⟨_, _, rfl, by simp [Builtin.len_, run_underlying hu, hv, Go.goInt], rfl⟩
      | some j =>
        obtain ⟨l, hl, hv⟩ : ∃ l, ρ j = some l ∧ a.eval x = .map (some l.block) := hv
        simp only [mapOf] at h1
        split at h1
        · rename_i es' hj
          cases h1
          obtain ⟨ob, hob, ms, clock, rfl, hms, _⟩ := hr.live j _ l hj hl
          have hlen := EsR.len hms
          simp only [Array.length_toList] at hlen
          exact ⟨_, .int .i64 (ms.size : Nat), rfl, by simp [Builtin.len_, run_underlying hu, hv, MapKept.run_getObj_map hob, Go.goInt], by rw [hlen]; rfl⟩
        · cases h1
    · rename_i n _ _ hu
      cases out_val ho
      refine ⟨_, _, rfl, ?_, rfl⟩
      simp only [Builtin.len_, List.map_toArray, List.map_cons, List.map_nil]
      simp [run_underlying hu, Go.goInt]
    · exact (out_bad ho).elim
  · exact (out_bad ho).elim


theorem splice_length {cs ns : List Cell} {o : Nat} (h : o + ns.length ≤ cs.length) : (splice cs o ns).length = cs.length := by
  simp [splice]; omega
theorem fillCells_length {place : Nat → Option (Nat × Nat)} : ∀ {ps : List (Nat × TV)} {cs cs' : List Cell}, fillCells place cs ps = some cs' → cs'.length = cs.length
  | [], cs, cs', h => by cases h; rfl
  | (i, x) :: ps, cs, cs', h => by
    cases x with
    | v y =>
      simp only [fillCells] at h
      split at h
      · split at h
        · rename_i hq
          simp only [Bool.and_eq_true] at hq
          have h1 := Nat.eq_of_beq_eq_true hq.1
          have h2 := Nat.le_of_ble_eq_true hq.2
          rw [fillCells_length h, splice_length (by omega)]
        · cases h
      · cases h
    | _ => simp [fillCells] at h

theorem flatten_rep {α : Type} (l : List α) : ∀ (n j : Nat), j < n * l.length → ((List.replicate n l).flatten)[j]? = l[j % l.length]?
  | 0, j, h => by simp at h
  | n + 1, j, h => by
    simp only [List.replicate_succ, List.flatten_cons]
    have hp : 0 < l.length := by
      rcases Nat.eq_zero_or_pos l.length with h0 | h0
      · rw [h0] at h; simp at h
      · exact h0
    by_cases hj : j < l.length
    · rw [List.getElem?_append_left hj, Nat.mod_eq_of_lt hj]
    · have hle : l.length ≤ j := Nat.le_of_not_lt hj
      rw [List.getElem?_append_right hle, flatten_rep l n (j - l.length) (by rw [Nat.add_mul] at h; omega)]
      rw [← Nat.mod_eq_sub_mod hle]

theorem rep_R {zs : List Cell} {v : Array Value} (hz : CRs ρ zs v.toList) (n : Nat) :
    CRs ρ ((List.replicate n zs).flatten) ((Array.range (n * v.size)).map (fun j => v[j % v.size]!)).toList := by
  have hl := hz.length
  simp at hl
  refine CRs.of_get (by simp [hl]) fun j c u hc hu => ?_
  have hj : j < n * v.size := by
    obtain ⟨hlt, _⟩ := List.getElem?_eq_some_iff.1 hu
    simpa using hlt
  rw [flatten_rep zs n j (by rw [hl]; exact hj)] at hc
  simp only [Array.toList_map, Array.toList_range, List.getElem?_map, List.getElem?_range hj, Option.map_some, Option.some.injEq] at hu
  subst hu
  have hp : 0 < v.size := by
    rcases Nat.eq_zero_or_pos v.size with h0 | h0
    · rw [h0] at hj; simp at hj
    · exact h0
  have hlt := Nat.mod_lt j hp
  refine hz.at hc ?_
  rw [hl]
  simp [hlt]

theorem nilCheck_run {x : Operand} {v : Value} {dst : Option Tmp} {type : TypeId} {pos : String} {after : Array Edge} {guard : Option (Nat × Bool)} (hv : a.eval x = v)
    (hok : (∃ ad, v = .pointer (some ad)) ∨ ∃ fn fa fb, v = .func (.func fn) fa fb) : (execOp a.eval ⟨dst, .nilCheck x, type, pos, after, guard⟩).run C.P w = .ok (.value v) w := by
  unfold execOp
  simp only [hv]
  rcases hok with ⟨ad, rfl⟩ | ⟨fn, fa, fb, rfl⟩ <;> rfl

theorem allFit_at {k : Kd} : ∀ {cs : List Cell} {i : Nat} {c : Cell}, allFit k cs = true → cs[i]? = some c → fitKd k c = true
  | d :: cs, 0, c, h, hc => by
    simp only [allFit, Bool.and_eq_true] at h
    simp at hc; subst hc; exact h.1
  | d :: cs, i + 1, c, h, hc => by
    simp only [allFit, Bool.and_eq_true] at h
    exact allFit_at (i := i) h.2 (by simpa using hc)
  | [], _, _, _, hc => by simp at hc
theorem nthC_at {k : Kd} {cs : List Cell} {i : Int} {c : Cell} (h : allFit k cs = true) (hc : cs[i.toNat]? = some c) : nthC k cs i = c := by
  have hf := allFit_at h hc
  unfold fitKd at hf
  split at hf
  · simp only [nthC, nthB, hc]
  · have := eqKind_eq hf
    subst this
    simp only [nthC, nthI, hc]
  · simp only [nthC, nthS, hc]
  · cases hf
theorem out_one {c : Cell} (ho : (Res.one c).out h z ids) : z = .v (.one c) := (out_val ho).symm

theorem pure_sound (hr : HR ρ h w) (hx : ∀ x ∈ o.op.operands, OpdR e a ρ w n0 x)
    (hv : isMemOp o.op = true → ∀ u t' off, .tmp u ∈ o.op.operands → e.get u = .ref t' off → TR ρ w n0 a.tmps (e.get t') (a.tmps.getD t' undef))
    (hagg : ∀ t ks cs ds us vs op x' y', plainS C.P t = some ks → CRs ρ cs us.toList → CRs ρ ds vs.toList → ∀ b, cellsEq ks cs ds = some b →
      (op = .eql → (do eqGuard op t x' y' (.agg us) (.agg vs); binOp op t (.agg us) (.agg vs)).run C.P w = .ok (.bool b) w) ∧
      (op = .neq → (do eqGuard op t x' y' (.agg us) (.agg vs); binOp op t (.agg us) (.agg vs)).run C.P w = .ok (.bool (!b)) w))
    (ho : (pureRes C e o).out h z ids) : POut ρ w n0 a.tmps z ((execOp a.eval o).run C.P w) := by
  obtain ⟨dst, op, type, pos, after, guard⟩ := o
  unfold pureRes at ho
  unfold execOp
  simp only at hx hv ho ⊢
  split at ho
  · -- move
    rename_i x
    have hxx := hx x (by simp [Op.operands])
    split at ho
    · rename_i y hy; cases out_val ho; exact POut.of_run rfl (opd_V hxx hy)
    · rename_i l hy
      cases out_val ho
      have := opd_TR (C := C) (t := type) hxx
      rw [hy] at this
      exact ⟨_, rfl, this⟩
    · exact (out_bad ho).elim
  · -- assign
    rename_i x
    have hxx := hx x (by simp [Op.operands])
    split at ho
    · rename_i y hy; cases out_val ho; exact POut.of_run rfl (opd_V hxx hy)
    · rename_i l hy
      cases out_val ho
      have := opd_TR (C := C) (t := type) hxx
      rw [hy] at this
      exact ⟨_, rfl, this⟩
    · exact (out_bad ho).elim
  · -- pick
    rename_i c x y
    have hc := hx c (by simp [Op.operands])
    have hxx := hx x (by simp [Op.operands])
    have hyy := hx y (by simp [Op.operands])
    split at ho
    · rename_i b hb
      have hcv : a.eval c = .bool b := opdBare_V hc hb
      have hrun : ((do pure (Next.value (if ← asBool (a.eval c) then a.eval x else a.eval y)) : Sem Next)).run C.P w = .ok (.value (if b then a.eval x else a.eval y)) w := by
        simp [hcv, asBool]
      rw [hrun]
      split at ho
      · rename_i p q hp hq
        have h1 : a.eval x = .bool p := opdBare_V hxx hp
        have h2 : a.eval y = .bool q := opdBare_V hyy hq
        cases out_val ho
        refine POut.of_run rfl ?_
        cases b <;> simp [h1, h2, VR, CR]
      · rename_i p q _
        split at ho
        · rename_i u hu
          cases out_val ho
          refine POut.of_run rfl ?_
          cases b
          · simpa using opdBare_V hyy (by simpa using hu)
          · simpa using opdBare_V hxx (by simpa using hu)
        · exact (out_bad ho).elim
    · exact (out_bad ho).elim
  · -- alloc
    rename_i t
    split at ho
    · rename_i zz hz
      cases out_val ho
      obtain ⟨k, i, v, hk, hlk, _, hi, hzv, hcs⟩ := zeroV_R hz
      refine ⟨v.cells, t, ?_, hcs ρ⟩
      simp [Instr.alloc, run_zeroValue hi hzv, newVar, newRow]
    · exact (out_bad ho).elim
  · -- box
    rename_i t x
    have hxx := hx x (by simp [Op.operands])
    split at ho
    · rename_i y k hy hk
      split at ho
      · cases out_val ho
        exact ⟨_, t, by simp [Instr.box, newVar, newRow], (opd_V hxx hy).cells⟩
      · exact (out_bad ho).elim
    · exact (out_bad ho).elim
  · -- build
    rename_i t ps
    have hps : ∀ p ∈ ps.toList, OpdR e a ρ w n0 p.2 := fun p hp => hx p.2 (by simp [Op.operands]; exact ⟨p.1, by simpa using hp⟩)
    split at ho
    · rename_i zs hz
      obtain ⟨k, i, v, hk, hlk, _, hi, hzv, hcs⟩ := zeroV_R hz
      split at ho
      · rename_i cs hcs'
        cases out_val ho
        cases k with
        | one k => exact hlk.elim
        | agg ks =>
          obtain ⟨hu, hflat, inf, hinf, hsz⟩ := vk_agg hk
          have hpr := partsR (C := C) (e := e) (a := a) (ρ := ρ) (w := w) (n0 := n0) (ty := fieldType C.P t) hps
          have hmap : (ps.map fun (i, x) => (i, a.eval x)).toList = ps.toList.map fun p => (p.1, a.eval p.2) := by simp
          rcases hu with ⟨fs, hu⟩ | ⟨n, el, hu⟩
          · have hfi : ∀ f ∈ fs.toList, ∃ i, C.P.info? f.type = some i := by
              unfold flat at hflat
              rw [hu] at hflat
              exact flat_fields hflat
            obtain ⟨arr', h3, h4⟩ := fill_R (ρ := ρ) (place' := fieldPlaces C.P t) (place := fun i => (fs.map fun f => (f.offset, C.P.cellsOf f.type))[i]?) (by
                rintro i ⟨off, n⟩ hpl
                obtain ⟨f, inf', hf, _, hfi', rfl, rfl⟩ := fieldPlaces_struct hu hpl
                simp [hf, Program.cellsOf, hfi']) hpr (hcs ρ) hcs'
            refine POut.of_run (v := .agg arr') ?_ ⟨_, rfl, h4⟩
            simp only [Instr.build, Sem.run_bind, run_zeroValue hi hzv, Result.andThen_ok, run_underlying hu, run_places fs hfi, Sem.run_pure]
            rw [hmap, h3]
            rfl
          · cases hie : C.P.info? el with
            | none =>
              unfold flat at hflat
              rw [hu] at hflat
              simp only [Option.map_eq_some_iff] at hflat
              obtain ⟨_, hf, _⟩ := hflat
              obtain ⟨i', hi'⟩ := flat_info hf
              rw [hie] at hi'; cases hi'
            | some ie =>
              obtain ⟨arr', h3, h4⟩ := fill_R (ρ := ρ) (place' := fieldPlaces C.P t) (place := fun i => some (i * ie.size, ie.size)) (by
                  rintro i x hpl
                  unfold fieldPlaces at hpl
                  rw [hu] at hpl
                  simpa [hie] using hpl) hpr (hcs ρ) hcs'
              refine POut.of_run (v := .agg arr') ?_ ⟨_, rfl, h4⟩
              simp only [Instr.build, Sem.run_bind, run_zeroValue hi hzv, Result.andThen_ok, run_underlying hu, run_sizeOf hie, Sem.run_pure]
              rw [hmap, h3]
              rfl
      · exact (out_bad ho).elim
    · exact (out_bad ho).elim
  · -- buildSlice
    rename_i t n ps
    have hps : ∀ p ∈ ps.toList, OpdR e a ρ w n0 p.2 := fun p hp => hx p.2 (by simp [Op.operands]; exact ⟨p.1, by simpa using hp⟩)
    split at ho
    · rename_i el hu
      split at ho
      · rename_i zv hz
        obtain ⟨k, i, v, hk, hlk, hzc, hi, hzv, hcs⟩ := zeroV_R hz
        split at ho
        · exact (out_bad ho).elim
        · rename_i hbig
          split at ho
          · rename_i cs hcs'
            cases out_val ho
            obtain ⟨inf, hinf, hsz⟩ := vk_size hk
            have hinf' : inf = i := by rw [hinf] at hi; exact Option.some.inj hi
            subst hinf'
            have hzl : zv.cells.length = inf.size := by rw [hzc, hsz]; simp
            have hvl : v.cells.size = inf.size := by have := (hcs ρ).length; simp at this; omega
            have hpr := partsR (C := C) (e := e) (a := a) (ρ := ρ) (w := w) (n0 := n0) (ty := fun _ => el) hps
            have hmap : (ps.map fun (i, x) => (i, a.eval x)).toList = ps.toList.map fun p => (p.1, a.eval p.2) := by simp
            have hle : n * inf.size ≤ 16777216 := by rw [← hzl]; simpa using hbig
            obtain ⟨arr', h3, h4⟩ := fill_R (ρ := ρ) (place := fun i => some (i * inf.size, inf.size)) (by
                intro i x hpl
                rw [← hzl]; exact hpl) hpr (rep_R (hcs ρ) n) hcs'
            have hn : n * zv.cells.length = cs.length := by
              rw [fillCells_length hcs']; simp
            refine ⟨arr', el, ?_, hn, h4⟩
            have hnb : ¬ (n * inf.size > 2 ^ 24) := by omega
            by_cases h0 : n * inf.size = 0
            · simp only [Instr.buildSlice, Sem.run_bind, run_underlying hu, Result.andThen_ok, run_sizeOf hinf, if_neg hnb, if_pos h0, Sem.run_pure, Sem.run_ite]
              have hempty : ((Array.range (n * inf.size)).map fun j => (#[] : Array Value)[j % (#[] : Array Value).size]!) = (Array.range (n * v.cells.size)).map fun j => v.cells[j % v.cells.size]! := by
                rw [hvl, h0]; simp
              rw [hempty, hmap, h3]
              simp [newRow]
            · simp only [Instr.buildSlice, Sem.run_bind, run_underlying hu, Result.andThen_ok, run_sizeOf hinf, if_neg hnb, if_neg h0, Sem.run_pure, Sem.run_ite, run_zeroValue hi hzv]
              rw [← hvl, hmap] at *
              rw [h3]
              simp [newRow]
          · exact (out_bad ho).elim
      · exact (out_bad ho).elim
    · exact (out_bad ho).elim
  · -- load
    rename_i t x
    have hxx := hx x (by simp [Op.operands])
    exact POut.of_VOut (load_R hr hxx (fun u t' off hu hg => hv rfl u t' off (by simp [Op.operands, ← hu]) hg) ho)
  · -- nilCheck
    rename_i x
    have hxx := hx x (by simp [Op.operands])
    split at ho
    · rename_i u
      have hu : TR ρ w n0 a.tmps (e.get u) (a.tmps.getD u undef) := hxx
      have hev : a.eval (.tmp u) = a.tmps.getD u undef := rfl
      split at ho
      · rename_i cs hg
        rw [hg] at hu
        obtain ⟨b, hb, hp⟩ := hu
        cases out_val ho
        exact ⟨_, nilCheck_run (type := type) (pos := pos) (after := after) (guard := guard) (dst := dst) hb (.inl ⟨_, rfl⟩), b, hb, rfl⟩
      · rename_i t off hg
        rw [hg] at hu
        obtain ⟨b, hb, hb2⟩ := hu
        cases out_val ho
        exact ⟨_, nilCheck_run (type := type) (pos := pos) (after := after) (guard := guard) (dst := dst) hb2 (.inl ⟨_, rfl⟩), b, hb, rfl⟩
      · rename_i p hg
        rw [hg] at hu
        obtain ⟨i, off, rfl, ho⟩ := out_deref ho
        cases out_val ho
        obtain ⟨l, hl, hv2⟩ : PtrR ρ (i, off) _ := hu
        exact POut.of_run (v := .pointer (some ⟨l.block, l.base + off, none⟩)) (nilCheck_run (type := type) (pos := pos) (after := after) (guard := guard) (dst := dst) hv2 (.inl ⟨_, rfl⟩)) ⟨l, hl, rfl⟩
      · rename_i f hg
        rw [hg] at hu
        obtain ⟨hs, ho⟩ := out_ask ho
        cases out_val ho
        cases f with
        | none => cases hs
        | some p =>
          obtain ⟨g, ps⟩ := p
          obtain ⟨vs, hv2, hps⟩ := hu
          exact POut.of_run (v := fnV g vs) (nilCheck_run (type := type) (pos := pos) (after := after) (guard := guard) (dst := dst) hv2 (.inr (fnV_func g vs))) ⟨vs, rfl, hps⟩
      · exact (out_bad ho).elim
    · exact (out_bad ho).elim
  · -- binOp
    rename_i bop t x y yt
    have hxx := hx x (by simp [Op.operands])
    have hyy := hx y (by simp [Op.operands])
    refine POut.of_VOut (binRes_R (opd_TR (C := C) (t := t) hxx) (opd_TR (C := C) (t := shiftT bop t yt) hyy) (isConst0_R rfl) ?_ ho)
    intro cs ds hcs hds
    obtain ⟨us, hus, hcu⟩ : VR ρ (.agg cs) (a.eval x) := opd_V hxx hcs
    obtain ⟨vs, hvs, hdv⟩ : VR ρ (.agg ds) (a.eval y) := opd_V hyy hds
    rw [hcs, hds] at ho
    simp only [binRes] at ho
    split at ho
    · rename_i ks hpl
      split at ho
      · rename_i b hceq
        cases out_val ho
        rw [hus, hvs]
        exact ⟨_, _, rfl, (hagg t ks cs ds us vs .eql x y hpl hcu hdv b hceq).1 rfl, rfl⟩
      · rename_i b hceq
        cases out_val ho
        rw [hus, hvs]
        exact ⟨_, _, rfl, (hagg t ks cs ds us vs .neq x y hpl hcu hdv b hceq).2 rfl, rfl⟩
      · exact (out_bad ho).elim
    · exact (out_bad ho).elim
  · -- unOp
    rename_i uop t x
    have hxx := hx x (by simp [Op.operands])
    refine POut.of_VOut ?_
    unfold unRes at ho
    split at ho
    · rename_i k n hn
      have hv2 : a.eval x = .int k n := opdBare_V hxx hn
      cases out_val ho
      exact ⟨_, _, rfl, by simp [hv2, Op.unary, Op.intArith], rfl⟩
    · rename_i k n hn
      have hv2 : a.eval x = .int k n := opdBare_V hxx hn
      cases out_val ho
      exact ⟨_, _, rfl, by simp only [hv2, Op.unary, Op.intBits, Sem.run_pure], rfl⟩
    · rename_i b hb
      have hv2 : a.eval x = .bool b := opdBare_V hxx hb
      cases out_val ho
      exact ⟨_, _, rfl, by simp [hv2, Op.unary], rfl⟩
    · exact (out_bad ho).elim
  · -- convert
    rename_i s d x
    have hxx := hx x (by simp [Op.operands])
    refine POut.of_VOut ?_
    unfold convRes at ho
    split at ho
    · rename_i k n hn
      have hv2 : a.eval x = .int k n := opd_V hxx hn
      split at ho
      · rename_i ds k' hs hd
        cases out_val ho
        exact ⟨_, _, rfl, by simp [hv2, convert, run_underlying hs, run_underlying hd, Conv.intToInt], rfl⟩
      · rename_i ds hs hd
        cases out_val ho
        exact ⟨_, _, rfl, by simp [hv2, convert, run_underlying hs, run_underlying hd, Conv.intToString], rfl⟩
      · exact (out_bad ho).elim
    · rename_i s' hn
      have hv2 : a.eval x = .string s' := opd_V hxx hn
      split at ho
      · rename_i hb
        simp only [Bool.and_eq_true] at hb
        obtain ⟨hd, hs⟩ : C.P.underlying d = some .string ∧ C.P.underlying s = some .string := by
          refine ⟨?_, ?_⟩
          · have := hb.1; unfold isStr at this; split at this <;> first | assumption | cases this
          · have := hb.2; unfold isStr at this; split at this <;> first | assumption | cases this
        cases out_val ho
        exact ⟨_, _, rfl, by simp [hv2, convert, run_underlying hs, run_underlying hd], rfl⟩
      · exact (out_bad ho).elim
    · rename_i sz s' hn
      split at ho
      · rename_i hb
        simp only [Bool.and_eq_true] at hb
        have hd : C.P.underlying d = some .string := by have := hb.1.1; unfold isStr at this; split at this <;> first | assumption | cases this
        obtain ⟨el, hs, hel⟩ : ∃ el, C.P.underlying s = some (.slice el) ∧ C.P.underlying el = some (.int .u8) := by
          have := hb.1.2
          unfold isBytes at this
          split at this
          · rename_i el hs
            split at this
            · rename_i hel; exact ⟨el, hs, hel⟩
            · cases this
          · cases this
        obtain ⟨b, hb1, hb2, _⟩ := ho
        have hsz : sz = 1 := Nat.eq_of_beq_eq_true hb.2
        subst hsz
        have hv2 : CR ρ (.slice 1 s') (a.eval x) := opd_V hxx hn
        obtain ⟨ad, n, c, hev⟩ : ∃ ad n c, a.eval x = .slice ad n c := by
          obtain ⟨sa, n⟩ := s'
          cases sa with
          | none => obtain ⟨_, hv⟩ := hv2; exact ⟨_, _, _, hv⟩
          | some p => obtain ⟨ad, c, hv, _⟩ := hv2; exact ⟨_, _, _, hv⟩
        refine ⟨_, _, hb2.symm, ?_, rfl⟩
        have hrb := run_bytes (P := C.P) hr hv2 hb1
        rw [hev] at hrb ⊢
        simp only [convert, Sem.run_bind, run_underlying hs, run_underlying hd, Result.andThen_ok, run_underlying hel, hrb]
      · exact (out_bad ho).elim
    · exact (out_bad ho).elim
  · -- makeInterface
    rename_i t x
    have hxx := hx x (by simp [Op.operands])
    refine POut.of_VOut ?_
    split at ho
    · exact (out_bad ho).elim
    · rename_i y d hne hy hu
      cases out_val ho
      refine ⟨_, .iface t (a.eval x), rfl, ?_, rfl⟩
      simp only [Instr.makeInterface, Sem.run_bind, run_underlying hu, Result.andThen_ok]
      rfl
    · exact (out_bad ho).elim
  · -- slice
    rename_i t x lo hi' mx
    have hxx := hx x (by simp [Op.operands])
    have hlo : ∀ y, lo = some y → OpdR e a ρ w n0 y := fun y hy => hx y (by subst hy; simp [Op.operands])
    have hhi : ∀ y, hi' = some y → OpdR e a ρ w n0 y := fun y hy => hx y (by subst hy; simp [Op.operands])
    refine POut.of_VOut ?_
    split at ho
    · rename_i s hs
      have hv2 : a.eval x = .string s := opd_V hxx hs
      split at ho
      · rename_i l h' hl hh hu
        have hu' : C.P.underlying t = some .string := by unfold isStr at hu; split at hu <;> first | assumption | cases hu
        obtain ⟨⟨h0, h1, h2⟩, ho⟩ := out_ask ho
        cases out_val ho
        refine ⟨_, _, rfl, ?_, rfl⟩
        simp only [Instr.sliceAt, Instr.slice, Option.map_none, Option.isSome_none, Bool.false_eq_true, if_false, Sem.run_bind, run_underlying hu', Result.andThen_ok, hv2, run_sliceBounds (P := C.P) (w := w) (b := false) (optInt_R hlo hl) (optInt_R hhi hh) h0 h1 h2, Sem.run_pure]
      · exact (out_bad ho).elim
    · rename_i sz s hs
      have hv2 : CR ρ (.slice sz s) (a.eval x) := opd_V hxx hs
      split at ho
      · rename_i l h' el hl hh hu
        split at ho
        · rename_i hsz
          obtain ⟨⟨h0, h1, h2⟩, ho⟩ := out_ask ho
          cases out_val ho
          obtain ⟨r, hr1, hr2⟩ := slice_R (P := C.P) (w := w) hu hsz hv2 (optInt_R hlo hl) (optInt_R hhi hh) h0 h1 h2
          exact ⟨_, r, rfl, hr1, hr2⟩
        · exact (out_bad ho).elim
      · exact (out_bad ho).elim
    · rename_i p hs
      have hv2 : CR ρ (.ptr p) (a.eval x) := opd_V hxx hs
      split at ho
      · rename_i n el hu
        split at ho
        · rename_i l h' inf hl hh hinf
          obtain ⟨⟨h0, h1, h2⟩, ho⟩ := out_ask ho
          obtain ⟨i, off, rfl, ho⟩ := out_deref ho
          obtain ⟨js, ⟨ro, cs, hi, hn⟩, ho⟩ := out_room ho
          cases out_val ho
          obtain ⟨lo', hlo', hev⟩ : PtrR ρ (i, off) (a.eval x) := hv2
          obtain ⟨ob, hob, c, el', fz, rfl, hsz, hb, hcs, _⟩ := hr.live i _ lo' hi hlo'
          have hrun : (Instr.sliceAt t (a.eval x) (lo.map a.eval) (hi'.map a.eval) none).run C.P w = .ok (.slice (some (if n = l.toNat then (⟨lo'.block, lo'.base + off, none⟩ : Addr) else (⟨lo'.block, lo'.base + off, none⟩ : Addr).add (l.toNat * inf.size))) (h'.toNat - l.toNat) (n - l.toNat)) w := by
            simp only [Instr.sliceAt, Sem.run_bind, run_underlying hu, Result.andThen_ok, hev, Instr.sureAddr, run_sliceBounds (P := C.P) (w := w) (b := false) (optInt_R hlo hl) (optInt_R hhi hh) h0 h1 h2, run_sizeOf hinf, Sem.run_pure]
          refine ⟨_, _, rfl, hrun, ?_⟩
          by_cases hc : n = l.toNat
          · rw [if_pos hc]
            exact ⟨_, n - l.toNat, rfl, by omega, .inr (by omega)⟩
          · rw [if_neg hc]
            refine ⟨_, n - l.toNat, rfl, by omega, .inl ⟨lo', hlo', by rw [addrAdd, Nat.add_assoc], ?_⟩⟩
            have e : (n - l.toNat) * inf.size + l.toNat * inf.size = n * inf.size := by rw [← Nat.add_mul]; congr 1; omega
            omega
        · exact (out_bad ho).elim
      · exact (out_bad ho).elim
    · exact (out_bad ho).elim
  · -- fieldAddr
    rename_i t x f
    have hxx := hx x (by simp [Op.operands])
    split at ho
    · rename_i fs off n hu hpl
      obtain ⟨fd, inf, hf, _, hfi, rfl, hn⟩ := fieldPlaces_struct hu hpl
      obtain ⟨b, o', hev, htr, hnv, hnl⟩ := addr_R hxx ho
      have hrun : ((do pure (Next.value (← Instr.fieldAt t (a.eval x) f)) : Sem Next)).run C.P w = .ok (.value (.pointer (some ⟨b, o' + fd.offset, none⟩))) w := by
        have hne : ¬ (inf.size = 0) := by omega
        simp only [Instr.fieldAt, Sem.run_bind, run_underlying hu, Result.andThen_ok, hf, hev, Instr.sureAddr, Sem.run_pure, fieldPlace, run_sizeOf hfi, if_neg hne, addrAdd, Sem.run_ite]
      cases z <;> first | exact ⟨_, hrun, htr⟩ | exact (hnv _ rfl).elim | exact (hnl _ _ _ rfl).elim
    · exact (out_bad ho).elim
  · -- field
    rename_i t x f
    have hxx := hx x (by simp [Op.operands])
    refine POut.of_VOut ?_
    split at ho
    · rename_i cs fs off n k hcs hu hpl hk
      obtain ⟨us, hus, hcu⟩ : VR ρ (.agg cs) (a.eval x) := opd_V hxx hcs
      obtain ⟨fd, inf, hf, hft, hfi, rfl, hn⟩ := fieldPlaces_struct hu hpl
      rw [hft] at hk
      split at ho
      · rename_i y hnk hy
        have hnk := Nat.eq_of_beq_eq_true hnk
        obtain ⟨hlk, hyc⟩ := ofCells_like hy
        cases out_val ho
        have hseg : CRs ρ y.cells ((us.toList.drop fd.offset).take n) := by rw [hyc]; exact (hcu.drop _).take _
        cases k with
        | one k =>
          cases y with
          | agg _ => exact hlk.elim
          | one c =>
            obtain ⟨v, hv1, hv2⟩ := hseg.get (j := 0) (c := c) (by simp)
            refine ⟨_, v, rfl, ?_, hv2⟩
            have hat : us[fd.offset]? = some v := by
              rw [List.getElem?_take] at hv1
              split at hv1
              · simpa using hv1
              · cases hv1
            simp only [Instr.field, Sem.run_bind, run_underlying hu, Result.andThen_ok, hf, hus, asAgg, Sem.run_pure, part, run_isAgg_one hk, Bool.false_eq_true, if_false, hat, Sem.run_ite]
        | agg ks =>
          cases y with
          | one _ => exact hlk.elim
          | agg ds =>
            refine ⟨_, .agg (us.extract fd.offset (fd.offset + inf.size)), rfl, ?_, _, rfl, ?_⟩
            · simp only [Instr.field, Sem.run_bind, run_underlying hu, Result.andThen_ok, hf, hus, asAgg, Sem.run_pure, part, run_isAgg_agg hk, if_true, run_sizeOf hfi, Sem.run_ite]
            · rw [hn] at hseg
              simpa [Array.toList_extract, List.extract_eq_take_drop] using hseg
      · exact (out_bad ho).elim
    · exact (out_bad ho).elim
  · -- indexAddr
    rename_i t x ix
    have hxx := hx x (by simp [Op.operands])
    have hii := hx ix (by simp [Op.operands])
    split at ho
    · rename_i el k i hu hi
      have hiv : a.eval ix = .int k i := opdBare_V hii hi
      split at ho
      · rename_i sz s hs
        split at ho
        · rename_i hsz
          obtain ⟨⟨h0, h1⟩, ho⟩ := out_ask ho
          obtain ⟨b, off, hsa, ho⟩ := out_deref ho
          cases out_val ho
          obtain ⟨inf, hinf, hsz⟩ := sized_info hsz
          have hv2 : CR ρ (.slice sz s) (a.eval x) := opd_V hxx hs
          obtain ⟨sa, n⟩ := s
          cases hsa
          obtain ⟨ad, c, hev, hnc, hor⟩ := hv2
          simp only at h1 hev hnc
          rcases hor with ⟨l, hl, had, hsp⟩ | hz
          · refine POut.of_run (v := .pointer (some ⟨l.block, l.base + (off + i.toNat * sz), none⟩)) ?_ ⟨l, hl, rfl⟩
            simp only [Instr.indexAt, Sem.run_bind, hiv, asIntOf, Sem.run_pure, Result.andThen_ok, run_underlying hu, hev, Sem.run_ite]
            rw [if_pos ⟨h0, h1⟩]
            simp only [Sem.run_bind, run_sizeOf hinf, Result.andThen_ok, Sem.run_pure, had, hsz, addrAdd, Nat.add_assoc]
          · omega
        · exact (out_bad ho).elim
      · exact (out_bad ho).elim
    · rename_i n el k i hu hi
      have hiv : a.eval ix = .int k i := opdBare_V hii hi
      have hrun : ∀ b off, a.eval x = .pointer (some ⟨b, off, none⟩) → 0 ≤ i → i < n → ∀ inf, C.P.info? el = some inf →
          ((do pure (Next.value (← Instr.indexAt t (a.eval x) (a.eval ix))) : Sem Next)).run C.P w = .ok (.value (.pointer (some ⟨b, off + i.toNat * inf.size, none⟩))) w := by
        intro b off hev h0 h1 inf hinf
        simp only [Instr.indexAt, Sem.run_bind, hiv, asIntOf, Sem.run_pure, Result.andThen_ok, run_underlying hu, hev, Instr.sureAddr, Sem.run_ite]
        rw [if_pos ⟨h0, h1⟩]
        simp only [Sem.run_bind, run_sizeOf hinf, Result.andThen_ok, Sem.run_pure, addrAdd]
      split at ho
      · rename_i inf u hinf
        split at ho
        · rename_i p _ hg
          obtain ⟨⟨h0, h1⟩, ho⟩ := out_ask ho
          obtain ⟨b, off, rfl, ho⟩ := out_deref ho
          cases out_val ho
          obtain ⟨l, hl, hev⟩ : PtrR ρ (b, off) (a.eval (.tmp u)) := by
            have hu2 : TR ρ w n0 a.tmps (e.get u) (a.tmps.getD u undef) := hxx
            rw [hg] at hu2
            exact hu2
          exact POut.of_run (v := .pointer (some ⟨l.block, l.base + (off + i.toNat * inf.size), none⟩)) (by rw [hrun _ _ hev h0 h1 inf hinf, Nat.add_assoc]) ⟨l, hl, rfl⟩
        · rename_i hcn _
          split at ho
          · rename_i sz hlt hsz
            have h0 : 0 ≤ i := by
              have := (isConst0_R (C := C) (e := e) (t := t) (y' := ix) rfl k i)
              cases ix with
              | const v =>
                have : v = .int k i := hiv
                subst this
                simpa [isConstNat] using hcn
              | _ => simp [isConstNat] at hcn
            have h1 : i < n := by simpa using hlt
            obtain ⟨b, o', hev, htr, hnv, hnl⟩ := addr_R hxx ho
            have hr2 := hrun b o' hev h0 h1 inf hinf
            rw [hsz] at hr2
            cases z <;> first | exact ⟨_, hr2, htr⟩ | exact (hnv _ rfl).elim | exact (hnl _ _ _ rfl).elim
          · exact (out_bad ho).elim
        · exact (out_bad ho).elim
      · rename_i inf g hinf
        obtain ⟨⟨h0, h1⟩, ho⟩ := out_ask ho
        obtain ⟨q, b, js, hq, ho⟩ := out_glob ho
        cases out_val ho
        obtain ⟨m, hl⟩ := hr.glob q g b hq
        have hev : a.eval (.global g) = .pointer (some ⟨g, 0, none⟩) := rfl
        exact POut.of_run (v := .pointer (some ⟨g, 0 + i.toNat * inf.size, none⟩)) (hrun _ _ hev h0 h1 inf hinf) ⟨_, hl, by simp⟩
      · exact (out_bad ho).elim
    · exact (out_bad ho).elim
  · -- index
    rename_i t x ix
    have hxx := hx x (by simp [Op.operands])
    have hii := hx ix (by simp [Op.operands])
    refine POut.of_VOut ?_
    split at ho
    · rename_i s k i hu hs hi
      have hiv : a.eval ix = .int k i := opdBare_V hii hi
      have hev : a.eval x = .string s := opd_V hxx hs
      obtain ⟨⟨h0, h1⟩, ho⟩ := out_ask ho
      cases out_val ho
      have hlt : i.toNat < s.size := by omega
      have hget : s[i.toNat]? = some s[i.toNat] := getElem?_pos s i.toNat hlt
      refine ⟨_, .int .u8 (byteAt s i), rfl, ?_, rfl⟩
      simp only [Instr.index, Sem.run_bind, hiv, asIntOf, Sem.run_pure, Result.andThen_ok, run_underlying hu, hev, if_pos h0, hget, byteAt]
    · rename_i n el cs k i hu hcs hi
      obtain ⟨us, hus, hcu⟩ : VR ρ (.agg cs) (a.eval x) := opd_V hxx hcs
      have hiv : a.eval ix = .int k i := opdBare_V hii hi
      split at ho
      · rename_i kd hk
        split at ho
        · rename_i hb
          simp only [Bool.and_eq_true] at hb
          have hn := Nat.eq_of_beq_eq_true hb.1
          obtain ⟨⟨h0, h1⟩, ho⟩ := out_ask ho
          cases out_val ho
          obtain ⟨_, _, _, _, _, inf, hfi, hsz⟩ := vk_one hk
          have hlt : i.toNat < cs.length := by omega
          have hc := nthC_at hb.2 (List.getElem?_eq_getElem hlt)
          obtain ⟨v, hv1, hv2⟩ := hcu.get (List.getElem?_eq_getElem hlt)
          refine ⟨_, v, rfl, ?_, by rw [hc]; exact hv2⟩
          have hat : us[i.toNat * 1]? = some v := by simpa using hv1
          simp only [Instr.index, Sem.run_bind, hiv, asIntOf, Sem.run_pure, Result.andThen_ok, run_underlying hu, hus, Sem.run_ite, if_pos (show 0 ≤ i ∧ i < (n : Int) from ⟨h0, h1⟩), run_sizeOf hfi, hsz, part, run_isAgg_one hk, Bool.false_eq_true, if_false, hat]
        · exact (out_bad ho).elim
      · exact (out_bad ho).elim
    · exact (out_bad ho).elim
  · -- lookup
    rename_i t x ix ok
    have hxx := hx x (by simp [Op.operands])
    have hii := hx ix (by simp [Op.operands])
    split at ho
    · rename_i kt el m hu hm
      split at ho
      · rename_i y k z hy hk hz
        split at ho
        · rename_i hb
          simp only [Bool.and_eq_true] at hb
          obtain ⟨x', b, es, hf, h1, h2, rfl⟩ := out_look ho
          obtain ⟨v, h3, h4⟩ := run_lookup (ok := ok) hr hu (opd_V hxx hm) (opd_V hii hy) hb.1 hz hb.2 h1 h2
          cases ok with
          | false => exact POut.of_run (by simp only [Sem.run_bind, h3, Result.andThen_ok, Sem.run_pure]; rfl) h4
          | true =>
            refine ⟨.tuple #[v, .bool b], by simp only [Sem.run_bind, h3, Result.andThen_ok, Sem.run_pure]; rfl, #[v, .bool b], rfl, h4, rfl, trivial⟩
        · exact (out_bad ho).elim
      · exact (out_bad ho).elim
    · exact (out_bad ho).elim
  · -- extract
    rename_i x i
    have hxx := hx x (by simp [Op.operands])
    refine POut.of_VOut ?_
    split at ho
    · rename_i l hl
      have h1 := opdBare_TR hxx
      rw [hl] at h1
      obtain ⟨vs, hev, hvs⟩ := h1
      split at ho
      · rename_i y hy
        cases out_val ho
        obtain ⟨v, hv1, hv2⟩ := hvs.get hy
        refine ⟨_, v, rfl, ?_, hv2⟩
        have hv1' : vs[i]? = some v := by simpa using hv1
        simp only [hev, Instr.extract, hv1', Sem.run_pure]
      · exact (out_bad ho).elim
    · exact (out_bad ho).elim
  · -- makeFunc
    rename_i f first caps
    have hcc : ∀ x ∈ caps.toList, OpdR e a ρ w n0 x := fun x hc => hx x (by simp [Op.operands]; exact .inr (by simpa using hc))
    have hcf : ∀ x ∈ first.toList, OpdR e a ρ w n0 x := fun x hc => hx x (by simp [Op.operands]; exact .inl (by simpa using hc))
    refine POut.of_VOut ?_
    split at ho
    · exact (out_bad ho).elim
    · rename_i hbf
      split at ho
      · rename_i cs hf hcs
        have hf' : first = #[] := by apply Array.ext'; simpa using hf
        subst hf'
        obtain ⟨ps, h1, h2⟩ := derefs_R (acc := []) (us := []) (allOnes_R hcc hcs) trivial ho
        cases out_val h2
        refine ⟨_, .func (.func f) #[] (caps.map a.eval), rfl, ?_, caps.map a.eval, (fnV_plain hbf _).symm, .plain (by simpa using h1) hbf⟩
        simp [Instr.makeFunc]
      · rename_i x hf hcs
        have hf' : first = #[x] := by apply Array.ext'; simpa using hf
        subst hf'
        have hc0 : caps.toList = [] := by
          have := allOnes_R hcc hcs
          exact List.eq_nil_of_length_eq_zero (by have := this.length; simpa using this.symm)
        have hc' : caps = #[] := by apply Array.ext'; simpa using hc0
        subst hc'
        split at ho
        · rename_i cs hcx
          obtain ⟨ps, h1, h2⟩ := derefs_R (acc := []) (us := []) (allOnes_R (l := [x]) (fun y hy => by rw [List.mem_singleton.1 hy]; exact hcf x (by simp)) hcx) trivial ho
          cases out_val h2
          refine ⟨_, .func (.func f) #[a.eval x] #[], rfl, ?_, #[a.eval x], by rw [fnV_bnd (isBnd_on f), off_on], by simpa using h1, fun _ => by have := PtrsR.length h1; simpa using this⟩
          simp [Instr.makeFunc]
        · exact (out_bad ho).elim
      · exact (out_bad ho).elim
  · -- len
    rename_i args argTypes
    have hxx : ∀ x ∈ args, OpdR e a ρ w n0 x := fun x hc => hx x (by simp [Op.operands, Call.operands]; exact hc)
    have := pure_call_len (o := ⟨dst, .move (.func 0), type, pos, after, guard⟩) hr hxx ho
    obtain ⟨y, v, rfl, hr1, hr2⟩ := this
    refine POut.of_run (v := v) ?_ hr2
    simp only [resolve, invoke, builtin, Sem.run_bind, Sem.run_pure, Result.andThen_ok]
    simp only at hr1
    rw [hr1]
    rfl
  · -- max
    rename_i args argTypes
    have hxx : ∀ x ∈ args.toList, OpdR e a ρ w n0 x := fun x hc => hx x (by simp [Op.operands, Call.operands]; simpa using hc)
    split at ho
    · rename_i c l hl
      split at ho
      · rename_i _ k n c' hm
        cases out_val ho
        cases hal : args.toList with
        | nil => rw [hal] at hl; cases hl
        | cons x xs =>
          rw [hal] at hl hxx
          simp only [List.map_cons, List.cons.injEq] at hl
          obtain ⟨hl1, rfl⟩ := hl
          have hcr : CR ρ (.int k n) (a.eval x) := opdBare_V (hxx x (by simp)) hl1
          obtain ⟨v, hv1, hv2⟩ := maxCells_R (C := C) (w := w) (fun y hy => hxx y (by simp [hy])) hcr ⟨k, n, rfl⟩ hm
          refine POut.of_run (v := v) ?_ hv2
          have : (args.map a.eval).toList = a.eval x :: xs.map a.eval := by simp [hal]
          simp only [resolve, invoke, builtin, Sem.run_bind, Sem.run_pure, Result.andThen_ok, Builtin.max_, this, hv1]
      · exact (out_bad ho).elim
    · exact (out_bad ho).elim
  · -- min
    rename_i args argTypes
    have hxx : ∀ x ∈ args.toList, OpdR e a ρ w n0 x := fun x hc => hx x (by simp [Op.operands, Call.operands]; simpa using hc)
    split at ho
    · rename_i c l hl
      split at ho
      · rename_i _ k n c' hm
        cases out_val ho
        cases hal : args.toList with
        | nil => rw [hal] at hl; cases hl
        | cons x xs =>
          rw [hal] at hl hxx
          simp only [List.map_cons, List.cons.injEq] at hl
          obtain ⟨hl1, rfl⟩ := hl
          have hcr : CR ρ (.int k n) (a.eval x) := opdBare_V (hxx x (by simp)) hl1
          obtain ⟨v, hv1, hv2⟩ := minCells_R (C := C) (w := w) (fun y hy => hxx y (by simp [hy])) hcr ⟨k, n, rfl⟩ hm
          refine POut.of_run (v := v) ?_ hv2
          have : (args.map a.eval).toList = a.eval x :: xs.map a.eval := by simp [hal]
          simp only [resolve, invoke, builtin, Sem.run_bind, Sem.run_pure, Result.andThen_ok, Builtin.min_, this, hv1]
      · exact (out_bad ho).elim
    · exact (out_bad ho).elim
  · exact (out_bad ho).elim

end
end Go.Proofs.YtadakbmoanbcgaaGreatDoorVc
