/- Vc, part 15: operations that change memory tell the truth: the theorem. -/
import Derived.Test.YtadakbmoanbcgaaGreatDoorVcLoud
import Derived.Test.YtadakbmoanbcgaaGreatDoorVcEq
import Derived.Test.YtadakbmoanbcgaaGreatDoorVcRangeRun
import Derived.Laws.MakeOwn
import Derived.Laws.CopyOwn
set_option linter.unusedSimpArgs false
set_option linter.unusedVariables false
namespace Go.Proofs.YtadakbmoanbcgaaGreatDoorVc

section
variable {ρ0 : Rho} {h0 : Heap} {w0 : World} {C : Ctx} {ρ : Rho} {h : Heap} {w : World} {σ : Nat → TV} {a : Act} {e : Env} {al : Nat}

theorem splice_R {cs ns : List Cell} {cur cur' : Array Value} {us : List Value} {o : Nat} (hc : CRs ρ cs cur.toList) (hn : CRs ρ ns us) (ht : cur'.toList = cur.toList.take o ++ us ++ cur.toList.drop (o + us.length))
    (hle : o + ns.length ≤ cs.length) : CRs ρ (updCells cs o ns) cur'.toList := by
  rw [updCells_eq cs o ns hle, ht]
  exact hc.splice hn o

/-- A store into a variable of the frame's own. -/
theorem Inv.varStore {t off blk : Nat} {cs ns : List Cell} {us : List Value} {w' : World} {cur cur' : Array Value} {el : TypeId} (iv : Inv ρ0 h0 w0 C ρ h w σ a) (ht : σ t = .var cs)
    (hat : a.tmps.getD t undef = .pointer (some ⟨blk, 0, none⟩)) (hb : w.heap[blk]? = some (.cells cur el (0, 0))) (hc : CRs ρ cs cur.toList) (hn : CRs ρ ns us) (hle : off + ns.length ≤ cs.length)
    (hob : OneBlock w w' blk cur cur' el (0, 0)) (htl : cur'.toList = cur.toList.take off ++ us ++ cur.toList.drop (off + us.length)) :
    Inv ρ0 h0 w0 C ρ h w' (Env.over [(t, .var (updCells cs off ns))] σ) a := by
  have htr := iv.tr t
  rw [ht] at htr
  obtain ⟨b', hb', hp⟩ := htr
  rw [hat] at hb'
  cases hb'
  have hpb : privB (σ t) (a.tmps.getD t undef) = some blk := by rw [ht, hat]; rfl
  have hother : ∀ u b', u ≠ t → privB (σ u) (a.tmps.getD u undef) = some b' → b' ≠ blk := fun u b' hne h1 e => iv.dis u t b' hne h1 (e ▸ hpb)
  have hnew : CRs ρ (updCells cs off ns) cur'.toList := splice_R hc hn htl hle
  have hpriv : ∀ b' ds, b' ≠ blk → Priv ρ w w0.heap.size b' ds → Priv ρ w' w0.heap.size b' ds := fun b' ds hne ⟨p1, p2, c, el', p3, p4⟩ => ⟨p1, p2, c, el', by rw [hob.there _ hne]; exact p3, p4⟩
  refine ⟨⟨hob.os.trans iv.fr.os, hob.tape.trans iv.fr.tape, hob.output.trans iv.fr.output, by rw [hob.size]; exact iv.fr.size, iv.fr.sub, iv.fr.new, fun k hk hnw => ?_, iv.fr.wr⟩,
    ⟨fun i o l hi hl => ?_, iv.hr.inj, fun i l hl => by rw [hob.size]; exact iv.hr.dom i l hl, iv.hr.fresh, iv.hr.glob⟩, fun u => ?_, fun u u' b' hne h1 h2 => ?_, fun u t' off' hu => ?_, iv.size, iv.defers⟩
  · have : k ≠ blk := by have := hp.1; omega
    rw [hob.there _ this]
    exact iv.fr.keep k hk hnw
  · obtain ⟨ob, h1, h2⟩ := iv.hr.live i o l hi hl
    exact ⟨ob, by rw [hob.there _ (hp.2.1 i l hl)]; exact h1, h2⟩
  · rw [over_one]
    by_cases e : u = t
    · subst e
      rw [if_pos rfl, hat]
      exact ⟨blk, rfl, hp.1, hp.2.1, cur', el, hob.here, hnew⟩
    · rw [if_neg e]
      have htu := iv.tr u
      have hou := hother u
      cases hσ : σ u with
      | undef => trivial
      | v x => rw [hσ] at htu; exact htu
      | tup l => rw [hσ] at htu; exact htu
      | var ds => rw [hσ] at htu hou; obtain ⟨b', h1, h2⟩ := htu; exact ⟨b', h1, hpriv b' ds (hou b' e (by rw [h1]; rfl)) h2⟩
      | ref t' o => rw [hσ] at htu; exact htu
      | lit sz n ds => rw [hσ] at htu hou; obtain ⟨b', c', h1, h2, h3⟩ := htu; exact ⟨b', c', h1, h2, hpriv b' ds (hou b' e (by rw [h1]; rfl)) h3⟩
  · rw [over_one] at h1 h2
    have hv : ∀ u, privB (if u = t then TV.var (updCells cs off ns) else σ u) (a.tmps.getD u undef) = privB (σ u) (a.tmps.getD u undef) := fun u => by
      by_cases e : u = t
      · rw [if_pos e, e, ht, hat]; rfl
      · rw [if_neg e]
    rw [hv] at h1 h2
    exact iv.dis u u' b' hne h1 h2
  · rw [over_one] at hu
    by_cases e : u = t
    · rw [if_pos e] at hu; cases hu
    · rw [if_neg e] at hu; exact iv.refs u t' off' hu

theorem run_storeVar {t : TypeId} {k : VK} (hk : vk C.P t = some k) {b o : Nat} {cur : Array Value} {el : TypeId} {fz : Nat × Nat} {v : Value} {ns : List Cell}
    (hb : w.heap[b]? = some (.cells cur el fz)) (hfz : ∀ j, j < cur.size → (decide (fz.1 ≤ j) && decide (j < fz.2)) = false) (hn : CRs ρ ns v.cells.toList) (hl : ns.length = k.kds.length) (hle : o + ns.length ≤ cur.size) :
    ∃ w' cur', (Instr.storeAt t (.pointer (some ⟨b, o, none⟩)) v).run C.P w = .ok () w' ∧ OneBlock w w' b cur cur' el fz ∧
      cur'.toList = cur.toList.take o ++ v.cells.toList ++ cur.toList.drop (o + v.cells.toList.length) := by
  obtain ⟨i, hi, hsz⟩ := vk_size hk
  have hnl := hn.length
  obtain ⟨w', cur', h1, h2, h3⟩ := run_storeCells_one (P := C.P) (b := b) (o := o) v.cells.toList 0 w cur hb (by omega) hfz hn.all_one
  simp only [Nat.add_zero] at h3
  refine ⟨w', cur', ?_, h2, h3⟩
  have hne : ¬ (v.cells.size ≠ i.size) := by
    have : v.cells.toList.length = v.cells.size := by simp
    omega
  simp only [Instr.storeAt, Instr.sureAddr, storeVar, Sem.run_bind, Sem.run_pure, Result.andThen_ok, run_sizeOf hi, if_neg hne, Sem.run_ite, h1]

def NoRefs (x : TV) : Prop := ∀ t off, x ≠ .ref t off

/-- What is shown of an operation that changes memory. -/
def LOut (ρ0 : Rho) (h0 : Heap) (w0 : World) (C : Ctx) (al : Nat) (e : Env) (o : Oper) (ws : List Nat) (h : Heap) (σ : Nat → TV) (k : Env → T) (a' : Act) (w' : World) : Prop :=
  ∃ ρ' h' d, Inv ρ0 h0 w0 C ρ' h' w' (Env.over d σ) a' ∧ k (d ++ e) h' ∧ (∀ i ∈ ws, h' i = h i) ∧ (∀ p ∈ d, Turns al e o p.1 ∧ NoRefs p.2)

theorem turn_dst {o : Oper} {p : Nat × TV} {x : TV} (hp : al.testBit p.1 = true ∧ o.dst = some p.1 ∧ p.2 = x) (hx : NoRefs x) : Turns al e o p.1 ∧ NoRefs p.2 := ⟨⟨hp.1, .inl hp.2.1⟩, by rw [hp.2.2]; exact hx⟩
theorem noRefs_v {x : TV} (h : ∃ z, x = .v z) : NoRefs x := by obtain ⟨z, rfl⟩ := h; intro t off e; cases e

theorem wp_value {o : Oper} {K : Act → World → Prop} {Q : Exit → Act → World → Prop} {v : Value} {w' : World} (hr : (execOp a.eval o).run C.P w = .ok (.value v) w') (hK : K (a.put o.dst v) w') : o.wp C.P a w K Q := by
  unfold Oper.wp
  rw [hr]
  exact hK
theorem wp_skip' {o : Oper} {K : Act → World → Prop} {Q : Exit → Act → World → Prop} {w' : World} (hr : (execOp a.eval o).run C.P w = .ok .skip w') (hK : K (a.put o.dst undef) w') : o.wp C.P a w K Q := by
  unfold Oper.wp
  rw [hr]
  exact hK

theorem eval_put_none {dst : Option Tmp} {v : Value} (h : dst = none) : a.put dst v = a := by subst h; rfl


variable {o : Oper} {ws : List Nat} {k : Env → T} {Q : Exit → Act → World → Prop}

theorem loud_move {x : Operand} (hop : o.op = .move x ∨ o.op = .assign x) (ho : (asV al e x (opd C e o.type x) fun y e => put C al e o.dst (.v y) k) h) (iv : Inv ρ0 h0 w0 C ρ h w σ a) (hx : ∀ x ∈ o.op.operands, SameAt e σ x) :
    o.wp C.P a w (LOut ρ0 h0 w0 C al e o ws h σ k) Q := by
  have hxx : SameAt e σ x := hx x (by rcases hop with hop | hop <;> rw [hop] <;> simp [Op.operands])
  obtain ⟨ρ1, h1, d1, y, iv1, ho1, hy, hle1, hw1, hd1⟩ := asV_sound ws ho iv hxx
  obtain ⟨d2, iv2, ho2, hd2⟩ := put_sound ho1 iv1 (v := a.eval x) hy rfl (by simp) (by simp)
  refine wp_value (v := a.eval x) (w' := w) ?_ ⟨ρ1, h1, d2 ++ d1, by rw [over_append']; exact iv2, by rw [List.append_assoc]; exact ho2, hw1, fun p hp => ?_⟩
  · unfold execOp
    rcases hop with hop | hop <;> rw [hop] <;> rfl
  · rcases List.mem_append.1 hp with hp | hp
    · exact turn_dst (hd2 p hp) (by intro _ _ e; cases e)
    · obtain ⟨h3, h4, h5, h6⟩ := hd1 p hp
      refine ⟨⟨h3, .inr (.inl ⟨?_, h5⟩)⟩, noRefs_v h6⟩
      rw [h4]
      rcases hop with hop | hop <;> rw [hop] <;> simp [Op.operands]

/-- A new block of the abstract heap, its address in the operation's temporary. -/
theorem loud_new {i : Nat} {c : Array Value} {el : TypeId} {fz : Nat × Nat} {cs : List Cell} {x : V} {v : Value} {d1 : Env} {w1 : World} (iv : Inv ρ0 h0 w0 C ρ h w1 (Env.over d1 σ) a)
    (hw1 : w1.heap = w.heap) (hi : h i = none) (hρ : ρ i = none) (hcs : cs.length ≤ c.size ∧ CRs ρ cs (c.toList.take cs.length)) (hfz : ∀ j, j < c.size → (decide (fz.1 ≤ j) && decide (j < fz.2)) = false)
    (hx : ∀ ρ' : Rho, ρ' i = some ⟨w.heap.size, 0, c.size⟩ → VR ρ' x v)
    (ho : put C al (d1 ++ e) o.dst (.v x) k (h.set i (.cells false cs))) (hd1 : ∀ p ∈ d1, Turns al e o p.1 ∧ NoRefs p.2) (hex : (execOp a.eval o).run C.P w = .ok (.value v) { w1 with heap := w1.heap.push (.cells c el fz) })
    (hws : ∀ j ∈ ws, j ≠ i) {h' : Heap} (hh' : ∀ j ∈ ws, h j = h' j) : o.wp C.P a w (LOut ρ0 h0 w0 C al e o ws h' σ k) Q := by
  obtain ⟨hr2, fr2⟩ := iv.hr.new (i := i) (o := .cells false cs) (ob := .cells c el fz) (n := c.size) hi hρ (fun ρ' hle => ⟨c, el, fz, rfl, rfl, by simpa using hcs.1, by simpa using CRs.mono hle hcs.2, fun _ j hj => hfz j hj⟩)
  have iv2 := iv.step hr2 fr2
  obtain ⟨d2, iv3, ho3, hd3⟩ := put_sound (v := v) ho iv2 (hx _ (by rw [Rho.put_same, hw1])) rfl (by simp) (by simp)
  refine wp_value hex ⟨_, _, d2 ++ d1, by rw [over_append']; exact iv3, by rw [List.append_assoc]; exact ho3, fun j hj => ?_, fun p hp => ?_⟩
  · rw [Heap.set_ne _ _ (hws j hj)]
    exact hh' j hj
  · rcases List.mem_append.1 hp with hp | hp
    · exact turn_dst (hd3 p hp) (by intro _ _ e; cases e)
    · exact hd1 p hp

theorem loud_alloc {t : TypeId} (hop : o.op = .alloc t) (ho : loudOp C al ws e o k h) (iv : Inv ρ0 h0 w0 C ρ h w σ a) : o.wp C.P a w (LOut ρ0 h0 w0 C al e o ws h σ k) Q := by
  unfold loudOp at ho
  rw [hop] at ho
  simp only at ho
  split at ho
  · rename_i z hz
    obtain ⟨kk, inf, v, hk, hlk, _, hi, hzv, hcs⟩ := zeroV_R hz
    obtain ⟨i, hi', hρ, hw⟩ := iv.hr.pickW ws
    have hl := (hcs ρ).length
    simp at hl
    refine loud_new (d1 := []) (w1 := w) (c := v.cells) (el := t) (fz := (0, 0)) (x := .one (.ptr (some (i, 0)))) (v := .pointer (some ⟨w.heap.size, 0, none⟩)) iv rfl hi' hρ ⟨by omega, by rw [List.take_of_length_le (by simp; omega)]; exact hcs ρ⟩ (fun j _ => by simp) (fun ρ' h' => ⟨_, h', rfl⟩) (ho i hi') (by simp) ?_ (fun j hj e => hw (e ▸ hj)) (fun _ _ => rfl)
    unfold execOp
    rw [hop]
    simp [Instr.alloc, run_zeroValue hi hzv, newVar, newRow]
  · exact ho.elim

theorem loud_box {t : TypeId} {x : Operand} (hop : o.op = .box t x) (ho : loudOp C al ws e o k h) (iv : Inv ρ0 h0 w0 C ρ h w σ a) (hx : ∀ x ∈ o.op.operands, SameAt e σ x) : o.wp C.P a w (LOut ρ0 h0 w0 C al e o ws h σ k) Q := by
  unfold loudOp at ho
  rw [hop] at ho
  simp only at ho
  split at ho
  · rename_i ks hk
    obtain ⟨ρ1, h1, d1, y, iv1, ho1, hy, hle1, hw1, hd1⟩ := asV_sound ws ho iv (hx x (by rw [hop]; simp [Op.operands]))
    cases hb : y.cells.length.beq ks.kds.length with
    | false => rw [hb] at ho1; exact ho1.elim
    | true =>
      rw [hb] at ho1
      obtain ⟨i, hi', hρ, hw⟩ := iv1.hr.pickW ws
      have hcs := hy.cells
      have hl := hcs.length
      simp at hl
      refine loud_new (d1 := d1) (w1 := w) (c := (a.eval x).cells) (el := t) (fz := (0, 0)) (x := .one (.ptr (some (i, 0)))) (v := .pointer (some ⟨w.heap.size, 0, none⟩)) iv1 rfl hi' hρ ⟨by omega, by rw [List.take_of_length_le (by simp; omega)]; exact hcs⟩ (fun j _ => by simp) (fun ρ' h' => ⟨_, h', rfl⟩) (ho1 i hi')
        (fun p hp => ?_) ?_ (fun j hj e => hw (e ▸ hj)) (fun j hj => hw1 j hj)
      · obtain ⟨h3, h4, h5, h6⟩ := hd1 p hp
        exact ⟨⟨h3, .inr (.inl ⟨by rw [h4, hop]; simp [Op.operands], h5⟩)⟩, noRefs_v h6⟩
      · unfold execOp
        rw [hop]
        simp [Instr.box, newVar, newRow]
  · exact ho.elim

theorem getInt_R {x : Operand} {n : Int} (hx : OpdR e a ρ w w0.heap.size x) (h : getInt (opdBare e x) = some n) : ∃ k, a.eval x = .int k n := by
  unfold getInt at h
  split at h
  · rename_i k m hm; cases h; exact ⟨k, opdBare_V hx hm⟩
  · cases h
theorem getSl_R {x : Operand} {t : TypeId} {sz : Nat} {s : Sl} (hx : OpdR e a ρ w w0.heap.size x) (h : getSl (opd C e t x) = some (sz, s)) : CR ρ (.slice sz s) (a.eval x) := by
  unfold getSl at h
  split at h
  · rename_i k m hm; cases h; exact opd_V (C := C) (t := t) hx hm
  · cases h
theorem getStr_R {x : Operand} {t : TypeId} {s : ByteArray} (hx : OpdR e a ρ w w0.heap.size x) (h : getStr (opd C e t x) = some s) : a.eval x = .string s := by
  unfold getStr at h
  split at h
  · rename_i m hm; cases h; exact opd_V (C := C) (t := t) hx hm
  · cases h
theorem getLit_R {x : Operand} {t : TypeId} {sz n : Nat} {cs : List Cell} (hx : OpdR e a ρ w w0.heap.size x) (h : getLit (opd C e t x) = some (sz, n, cs)) : TR ρ w w0.heap.size a.tmps (.lit sz n cs) (a.eval x) := by
  unfold getLit at h
  split at h
  · rename_i hm
    cases h
    have := opd_TR (C := C) (t := t) hx
    rw [hm] at this
    exact this
  · cases h

theorem slCells_eq (ks : VK) (n : Nat) : slCells ks n = (List.replicate n (ks.kds.map Kd.zero)).flatten := by cases ks <;> rfl

theorem loud_makeSlice {t : TypeId} {n c : Operand} (hop : o.op = .makeSlice t n c) (ho : loudOp C al ws e o k h) (iv : Inv ρ0 h0 w0 C ρ h w σ a) (hx : ∀ x ∈ o.op.operands, SameAt e σ x) : o.wp C.P a w (LOut ρ0 h0 w0 C al e o ws h σ k) Q := by
  have hnn := (hx n (by rw [hop]; simp [Op.operands])).opdR iv
  have hcc := (hx c (by rw [hop]; simp [Op.operands])).opdR iv
  unfold loudOp at ho
  rw [hop] at ho
  simp only at ho
  split at ho
  · rename_i el nn cc hu hn hc
    obtain ⟨kn, hnv⟩ := getInt_R hnn hn
    obtain ⟨kc, hcv⟩ := getInt_R hcc hc
    split at ho
    · rename_i ks z inf hk hz hi
      obtain ⟨hby, h0, h1, h2, ho⟩ := ho
      obtain ⟨kk, inf', v, hk', hlk, hzc, hi2, hzv, hcs⟩ := zeroV_R hz
      rw [hi] at hi2; cases hi2
      rw [hk] at hk'; cases hk'
      obtain ⟨inf2, hinf2, hsz⟩ := vk_size hk
      rw [hi] at hinf2; cases hinf2
      have hbp : 0 < inf.bytes := Nat.le_of_ble_eq_true hby
      have hb1 : (inf.bytes : Int) * cc ≤ 140737488355328 := by rw [Int.mul_comm]; exact h2
      have hcle : cc ≤ 140737488355328 := by
        have : cc * 1 ≤ cc * inf.bytes := Int.mul_le_mul_of_nonneg_left (by omega) (by omega)
        omega
      obtain ⟨i, hi', hρ, hw⟩ := iv.hr.pickW ws
      have hrun := run_make (P := C.P) w t el inf v hu hi hzv kn kc nn cc h0 h1 (by omega) (by omega)
      have hvs : v.cells.size = inf.size := by have := (hcs ρ).length; rw [hzc] at this; simp at this; omega
      have hrep : CRs ρ (slCells ks cc.toNat) (madeCells v.cells (cc.toNat * inf.size)).toList := by
        have := rep_R (hcs ρ) cc.toNat
        rw [hzc, hvs] at this
        rw [slCells_eq]
        unfold madeCells
        rw [hvs]
        exact this
      have hlen : (slCells ks nn.toNat).length = nn.toNat * inf.size := by
        rw [slCells_eq, hsz]
        simp
      have hpre : CRs ρ (slCells ks nn.toNat) ((madeCells v.cells (cc.toNat * inf.size)).toList.take (slCells ks nn.toNat).length) := by
        have h5 := hrep.take (slCells ks nn.toNat).length
        have : (slCells ks cc.toNat).take (slCells ks nn.toNat).length = slCells ks nn.toNat := by
          rw [slCells_eq, slCells_eq]
          have hsplit : cc.toNat = nn.toNat + (cc.toNat - nn.toNat) := by omega
          rw [hsplit, ← List.replicate_append_replicate, List.flatten_append, List.take_left]
        rwa [this] at h5
      refine loud_new (d1 := []) (w1 := w) (c := madeCells v.cells (cc.toNat * inf.size)) (el := el) (fz := (0, 0)) (x := .one (.slice inf.size ⟨some (i, 0), nn.toNat⟩)) (v := .slice (some ⟨w.heap.size, 0, none⟩) nn.toNat cc.toNat) iv rfl hi' hρ ⟨?_, hpre⟩ (fun j _ => by simp)
        (fun ρ' h' => ⟨_, cc.toNat, rfl, by omega, .inl ⟨_, h', rfl, by simp [size_madeCells]⟩⟩) (ho i hi') (by simp) ?_ (fun j hj e => hw (e ▸ hj)) (fun _ _ => rfl)
      · rw [hlen, size_madeCells]; exact Nat.mul_le_mul_right _ (by omega)
      · unfold execOp
        rw [hop]
        simp only [hnv, hcv, Sem.run_bind, hrun, Result.andThen_ok, Sem.run_pure]
        rfl
    · exact ho.elim
  · exact ho.elim


theorem SameAt.ref {u : Nat} (hx : SameAt e σ (.tmp u)) : σ u = e.get u := hx u rfl

theorem loud_store {t : TypeId} {ad x : Operand} (hop : o.op = .store t ad x) (ho : loudOp C al ws e o k h) (iv : Inv ρ0 h0 w0 C ρ h w σ a) (hx : ∀ x ∈ o.op.operands, SameAt e σ x)
    (hv : ∀ u t' off, .tmp u ∈ o.op.operands → e.get u = .ref t' off → σ t' = e.get t') : o.wp C.P a w (LOut ρ0 h0 w0 C al e o ws h σ k) Q := by
  unfold loudOp at ho
  rw [hop] at ho
  simp only at ho
  split at ho
  · rename_i ks u hdst hk
    have hxx := hx x (by rw [hop]; simp [Op.operands])
    have huu := hx (.tmp u) (by rw [hop]; simp [Op.operands])
    obtain ⟨ρ1, h1, d1, y, iv1, ho1, hy, hle1, hw1, hd1⟩ := asV_sound ws ho iv hxx
    cases hb : y.cells.length.beq ks.kds.length with
    | false => rw [hb] at ho1; exact ho1.elim
    | true =>
      rw [hb] at ho1
      have hlen := Nat.eq_of_beq_eq_true hb
      have hcs := hy.cells
      have huu1 := huu.over d1
      have hturn1 : ∀ p ∈ d1, Turns al e o p.1 ∧ NoRefs p.2 := fun p hp => by
        obtain ⟨h3, h4, h5, h6⟩ := hd1 p hp
        exact ⟨⟨h3, .inr (.inl ⟨by rw [h4, hop]; simp [Op.operands], h5⟩)⟩, noRefs_v h6⟩
      have hd1v : ∀ r ∈ d1, ∃ z, r.2 = .v z := fun r hr => (hd1 r hr).2.2.2
      have hex : ∀ w', (Instr.storeAt t (a.eval (.tmp u)) (a.eval x)).run C.P w = .ok () w' → (execOp a.eval o).run C.P w = .ok .skip w' := by
        intro w' hr
        unfold execOp
        rw [hop]
        simp only [Sem.run_bind, hr, Result.andThen_ok, Sem.run_pure]
      -- a binding behind the first that is no value was there before it
      have hback : ∀ t', (∀ z, Env.get (d1 ++ e) t' ≠ .v z) → Env.get (d1 ++ e) t' = e.get t' := by
        intro t'
        rw [Env.get_append]
        clear hturn1 iv1 ho1 huu1 hd1
        induction d1 with
        | nil => intro _; rfl
        | cons r d ih =>
          obtain ⟨u', z⟩ := r
          simp only [Env.over]
          cases hbb : u'.beq t' with
          | true => intro hn; obtain ⟨z', hz'⟩ := hd1v (u', z) (by simp); simp only at hz'; subst hz'; exact absurd rfl (hn z')
          | false => exact ih (fun r hr => hd1v r (by simp [hr]))
      unfold storeTo at ho1
      cases hgv : getVar u (Env.get (d1 ++ e) u) with
      | some bo =>
        obtain ⟨b, off⟩ := bo
        rw [hgv] at ho1
        simp only [storeVarK] at ho1
        cases hgb : Env.get (d1 ++ e) b with
        | var cs =>
          rw [hgb] at ho1
          simp only at ho1
          cases hbb : ((off + y.cells.length).ble cs.length && al.testBit b) with
          | false => rw [hbb] at ho1; exact ho1.elim
          | true =>
            rw [hbb] at ho1
            simp only [Bool.and_eq_true] at hbb
            have hle := Nat.le_of_ble_eq_true hbb.1
            -- the slot b holds that variable; the address lies in it
            have hcase : (b = u ∧ off = 0 ∧ ∃ ds, Env.get (d1 ++ e) u = .var ds) ∨ Env.get (d1 ++ e) u = .ref b off := by
              unfold getVar at hgv
              split at hgv
              · rename_i ds hds; cases hgv; exact .inl ⟨rfl, rfl, ds, hds⟩
              · rename_i b' off' hds; cases hgv; exact .inr hds
              · cases hgv
            have hbe : e.get b = .var cs := by rw [← hback b (by rw [hgb]; simp)]; exact hgb
            have hσb : Env.over d1 σ b = .var cs := by
              rcases hcase with ⟨rfl, _, _⟩ | hr
              · rw [← hgb]; exact huu1 _ rfl
              · have hre : e.get u = .ref b off := by rw [← hback u (by rw [hr]; simp)]; exact hr
                have h2 := hv u b off (by rw [hop]; simp [Op.operands]) hre
                rw [← hgb, Env.get_append]
                exact over_congr d1 b h2
            have htb := iv1.tr b
            rw [hσb] at htb
            obtain ⟨blk, hat, hn0, hun, c, el, hblk, hccs⟩ := htb
            have hev : a.eval (.tmp u) = .pointer (some ⟨blk, off, none⟩) := by
              rcases hcase with ⟨rfl, rfl, _⟩ | hr
              · exact hat
              · have htu := iv1.tr u
                rw [show Env.over d1 σ u = .ref b off by rw [← hr]; exact huu1 _ rfl] at htu
                obtain ⟨b2, h2, h3⟩ := htu
                rw [hat] at h2
                cases h2
                exact h3
            have hcl := hccs.length
            simp at hcl
            obtain ⟨w', cur', hrun, hob, htl⟩ := run_storeVar (C := C) (o := off) hk hblk (fun j _ => by simp) hcs hlen (by omega)
            have iv2 := iv1.varStore hσb hat hblk hccs hcs hle hob htl
            refine wp_skip' (hex w' (by rw [hev]; exact hrun)) ⟨ρ1, h1, [(b, .var (updCells cs off y.cells))] ++ d1, ?_, ho1, hw1, fun p hp => ?_⟩
            · rw [hdst, over_append']; exact iv2
            · rcases List.mem_append.1 hp with hp | hp
              · simp at hp
                subst hp
                refine ⟨⟨hbb.2, .inr (.inr ⟨⟨t, .tmp u, x, hop⟩, ?_⟩)⟩, fun _ _ e => by cases e⟩
                rcases hcase with ⟨rfl, _, _⟩ | hr
                · exact .inr ⟨by rw [hop]; simp [Op.operands], cs, hbe⟩
                · exact .inl ⟨u, off, by rw [hop]; simp [Op.operands], by rw [← hback u (by rw [hr]; simp)]; exact hr⟩
              · exact hturn1 p hp
        | _ => rw [hgb] at ho1; exact ho1.elim
      | none =>
        rw [hgv] at ho1
        simp only at ho1
        cases hgp : getPtr (Env.get (d1 ++ e) u) with
        | none => rw [hgp] at ho1; exact ho1.elim
        | some p =>
          rw [hgp] at ho1
          cases p with
          | none => exact ho1.elim
          | some io =>
            obtain ⟨i, off⟩ := io
            simp only [storeK] at ho1
            obtain ⟨cs, hi, hle, hwt⟩ := ho1
            obtain ⟨hws, hk1⟩ := watch_out hwt
            have hpv : Env.get (d1 ++ e) u = .v (.one (.ptr (some (i, off)))) := by
              unfold getPtr at hgp
              split at hgp
              · rename_i a' ha'; cases hgp; exact ha'
              · cases hgp
            obtain ⟨l, hl, hev⟩ : PtrR ρ1 (i, off) (a.eval (.tmp u)) := by
              have htu := iv1.tr u
              rw [show Env.over d1 σ u = .v (.one (.ptr (some (i, off)))) by rw [← hpv]; exact huu1 _ rfl] at htu
              exact htu
            obtain ⟨ob, hob1, c, el, fz, rfl, h2, h3, h4, h5⟩ := iv1.hr.live i _ l hi hl
            obtain ⟨w', cur', hrun, hob, htl⟩ := run_storeVar (C := C) (o := l.base + off) hk hob1 (h5 rfl) hcs hlen (by omega)
            obtain ⟨hr2, fr2⟩ := iv1.hr.store hi hl hle hcs hob1 hob htl
            refine wp_skip' (hex w' (by rw [hev]; exact hrun)) ⟨ρ1, _, d1, ?_, hk1, fun j hj => (hws j hj).trans (hw1 j hj), hturn1⟩
            rw [hdst]
            exact iv1.step hr2 fr2
  · exact ho.elim

/-! ### maps -/
/-- What a map holds has turned. -/
theorem HR.setMap {ρ : Rho} {h : Heap} {w : World} {i : Nat} {es es' : List (V × V)} {l : Loc} {ms ms' : Array MapEntry} {clock clock' : Nat} (hr : HR ρ h w) (hi : h i = some (.map es)) (hl : ρ i = some l)
    (hb : w.heap[l.block]? = some (.map ms clock)) (hms : EsR ρ es' ms'.toList) (hst : MapKept.Stamped ms' clock') :
    HR ρ (h.set i (.map es')) { w with heap := w.heap.setIfInBounds l.block (.map ms' clock') } ∧ Fr ρ h w ρ (h.set i (.map es')) { w with heap := w.heap.setIfInBounds l.block (.map ms' clock') } := by
  obtain ⟨hhere, hthere⟩ := MapKept.heap_set (o' := .map ms' clock') hb
  refine ⟨⟨fun j o' l' hj hl' => ?_, fun j k l1 l2 hj hk hh hh' hbb => ?_, fun j l' hl' => by simpa using hr.dom j l' hl', ?_, hr.glob.set fun f e => by cases e⟩, ⟨rfl, rfl, rfl, by simp, fun _ _ h => h, fun _ _ h => .inl h, fun k hk hnw => ?_, fun k hk hw => ?_⟩⟩
  · by_cases e : j = i
    · subst e
      rw [Heap.set_same] at hj
      rw [hl] at hl'
      cases hj; cases hl'
      exact ⟨_, hhere, ms', clock', rfl, hms, hst⟩
    · rw [Heap.set_ne _ _ e] at hj
      obtain ⟨ob, h1, h2⟩ := hr.live j o' l' hj hl'
      have hne : l'.block ≠ l.block := fun eb => e (hr.inj j i l' l hl' hl (by rw [hj]; simp) (by rw [hi]; simp) eb)
      exact ⟨ob, by rw [← h1]; exact hthere _ hne, h2⟩
  · have hlive : ∀ k, (h.set i (.map es')) k ≠ none → h k ≠ none := fun k hk => by
      by_cases e : k = i
      · rw [e, hi]; simp
      · rw [Heap.set_ne _ _ e] at hk; exact hk
    exact hr.inj j k l1 l2 hj hk (hlive j hh) (hlive k hh') hbb
  · obtain ⟨N, hN⟩ := hr.fresh
    refine ⟨N, fun j hj => ?_⟩
    have e : j ≠ i := fun e => by have := (hN j hj).1; rw [e, hi] at this; cases this
    rw [Heap.set_ne _ _ e]
    exact hN j hj
  · exact hthere k fun e => hnw ⟨i, l, _, hl, e.symm, hi, rfl⟩
  · obtain ⟨j, l', o', hl', hlb, ho', hop⟩ := hw
    by_cases e : j = i
    · subst e; exact ⟨j, l', _, hl', hlb, hi, rfl⟩
    · rw [Heap.set_ne _ _ e] at ho'; exact ⟨j, l', o', hl', hlb, ho', hop⟩

theorem loud_makeMap {t : TypeId} {r : Option Operand} (hop : o.op = .makeMap t r) (ho : loudOp C al ws e o k h) (iv : Inv ρ0 h0 w0 C ρ h w σ a) : o.wp C.P a w (LOut ρ0 h0 w0 C al e o ws h σ k) Q := by
  unfold loudOp at ho
  rw [hop] at ho
  simp only at ho
  split at ho
  · rename_i kt el hu
    obtain ⟨i, hi, hρ, hw⟩ := iv.hr.pickW ws
    obtain ⟨hr2, fr2⟩ := iv.hr.new (i := i) (o := .map []) (ob := .map #[] 0) (n := 0) hi hρ (fun ρ' hle => ⟨#[], 0, rfl, trivial, MapKept.stamped_empty 0⟩)
    have iv2 := iv.step hr2 fr2
    obtain ⟨d2, iv3, ho3, hd3⟩ := put_sound (v := .map (some w.heap.size)) (ho i hi) iv2 ⟨_, Rho.put_same _ _ _, rfl⟩ rfl (by simp) (by simp)
    refine wp_value (v := .map (some w.heap.size)) (w' := { w with heap := w.heap.push (.map #[] 0) }) ?_ ⟨_, _, d2, iv3, ho3, fun j hj => ?_, fun p hp => turn_dst (hd3 p hp) (by intro _ _ e; cases e)⟩
    · unfold execOp
      rw [hop]
      rfl
    · exact Heap.set_ne _ _ (fun e => hw (e ▸ hj))
  · exact ho.elim

theorem loud_mapUpdate {t : TypeId} {m kx x : Operand} (hop : o.op = .mapUpdate t m kx x) (ho : loudOp C al ws e o k h) (iv : Inv ρ0 h0 w0 C ρ h w σ a) (hx : ∀ x ∈ o.op.operands, SameAt e σ x) : o.wp C.P a w (LOut ρ0 h0 w0 C al e o ws h σ k) Q := by
  unfold loudOp at ho
  rw [hop] at ho
  simp only at ho
  split at ho
  · rename_i kt el hdst hu
    obtain ⟨ρ1, h1, d1, y, iv1, ho1, hy, hle1, hw1, hd1⟩ := asV_sound ws ho iv (hx x (by rw [hop]; simp [Op.operands]))
    have hmm := ((hx m (by rw [hop]; simp [Op.operands])).over d1).opdR iv1
    have hkk := ((hx kx (by rw [hop]; simp [Op.operands])).over d1).opdR iv1
    cases hgm : getMap (opd C (d1 ++ e) t m) with
    | none => rw [hgm] at ho1; exact ho1.elim
    | some mm =>
      rw [hgm] at ho1
      cases hgk : getV (opd C (d1 ++ e) kt kx) with
      | none => rw [hgk] at ho1; exact ho1.elim
      | some ky =>
        rw [hgk] at ho1
        simp only at ho1
        cases hky : keyed C.P kt ky with
        | false => rw [hky] at ho1; exact ho1.elim
        | true =>
          rw [hky] at ho1
          cases mm with
          | none => exact ho1.elim
          | some i =>
            obtain ⟨es, es', hi, hs, hwt⟩ := ho1
            obtain ⟨hws, hk1⟩ := watch_out hwt
            have hmv : opd C (d1 ++ e) t m = .v (.one (.map (some i))) := by
              unfold getMap at hgm
              split at hgm
              · rename_i a' ha'; cases hgm; exact ha'
              · cases hgm
            have hkv : opd C (d1 ++ e) kt kx = .v ky := by
              unfold getV at hgk
              split at hgk
              · rename_i a' ha'; cases hgk; exact ha'
              · cases hgk
            obtain ⟨l, hl, hev⟩ : ∃ l, ρ1 i = some l ∧ a.eval m = .map (some l.block) := opd_V hmm hmv
            have hkr : VR ρ1 ky (a.eval kx) := opd_V hkk hkv
            obtain ⟨ob, hob, ms, clock, rfl, hms, hst⟩ := iv1.hr.live i _ l hi hl
            obtain ⟨ms', clock', hrun, hms', hst'⟩ := run_mapUpdate hu hob hms hst hkr hy hky hs
            obtain ⟨hr2, fr2⟩ := iv1.hr.setMap (clock' := clock') hi hl hob hms' hst'
            refine wp_skip' (w' := { w with heap := w.heap.setIfInBounds l.block (.map ms' clock') }) ?_ ⟨ρ1, _, d1, ?_, hk1, fun j hj => (hws j hj).trans (hw1 j hj), fun p hp => ?_⟩
            · unfold execOp
              rw [hop]
              simp only [hev, Sem.run_bind, hrun, Result.andThen_ok, Sem.run_pure]
            · rw [hdst]
              exact iv1.step hr2 fr2
            · obtain ⟨h3, h4, h5, h6⟩ := hd1 p hp
              exact ⟨⟨h3, .inr (.inl ⟨by rw [h4, hop]; simp [Op.operands], h5⟩)⟩, noRefs_v h6⟩
  · exact ho.elim

theorem loud_insert {t : TypeId} {m kx x : Operand} (hop : o.op = .insert t m kx x) (ho : loudOp C al ws e o k h) (iv : Inv ρ0 h0 w0 C ρ h w σ a) (hx : ∀ x ∈ o.op.operands, SameAt e σ x) : o.wp C.P a w (LOut ρ0 h0 w0 C al e o ws h σ k) Q := by
  unfold loudOp at ho
  rw [hop] at ho
  simp only at ho
  split at ho
  · rename_i kt el hdst hu
    obtain ⟨ρ1, h1, d1, y, iv1, ho1, hy, hle1, hw1, hd1⟩ := asV_sound ws ho iv (hx x (by rw [hop]; simp [Op.operands]))
    have hmm := ((hx m (by rw [hop]; simp [Op.operands])).over d1).opdR iv1
    have hkk := ((hx kx (by rw [hop]; simp [Op.operands])).over d1).opdR iv1
    cases hgm : getMap (opd C (d1 ++ e) t m) with
    | none => rw [hgm] at ho1; exact ho1.elim
    | some mm =>
      rw [hgm] at ho1
      cases hgk : getV (opd C (d1 ++ e) kt kx) with
      | none => rw [hgk] at ho1; exact ho1.elim
      | some ky =>
        rw [hgk] at ho1
        simp only at ho1
        cases hky : keyed C.P kt ky with
        | false => rw [hky] at ho1; exact ho1.elim
        | true =>
          rw [hky] at ho1
          cases mm with
          | none => exact ho1.elim
          | some i =>
            obtain ⟨es, es', hi, hs, hwt⟩ := ho1
            obtain ⟨hws, hk1⟩ := watch_out hwt
            have hmv : opd C (d1 ++ e) t m = .v (.one (.map (some i))) := by
              unfold getMap at hgm
              split at hgm
              · rename_i a' ha'; cases hgm; exact ha'
              · cases hgm
            have hkv : opd C (d1 ++ e) kt kx = .v ky := by
              unfold getV at hgk
              split at hgk
              · rename_i a' ha'; cases hgk; exact ha'
              · cases hgk
            obtain ⟨l, hl, hev⟩ : ∃ l, ρ1 i = some l ∧ a.eval m = .map (some l.block) := opd_V hmm hmv
            have hkr : VR ρ1 ky (a.eval kx) := opd_V hkk hkv
            obtain ⟨ob, hob, ms, clock, rfl, hms, hst⟩ := iv1.hr.live i _ l hi hl
            obtain ⟨ms', clock', hrun, hms', hst'⟩ := run_mapUpdate hu hob hms hst hkr hy hky hs
            obtain ⟨hr2, fr2⟩ := iv1.hr.setMap (clock' := clock') hi hl hob hms' hst'
            refine wp_skip' (w' := { w with heap := w.heap.setIfInBounds l.block (.map ms' clock') }) ?_ ⟨ρ1, _, d1, ?_, hk1, fun j hj => (hws j hj).trans (hw1 j hj), fun p hp => ?_⟩
            · unfold execOp
              rw [hop]
              simp only [hev, Sem.run_bind, hrun, Result.andThen_ok, Sem.run_pure]
            · rw [hdst]
              exact iv1.step hr2 fr2
            · obtain ⟨h3, h4, h5, h6⟩ := hd1 p hp
              exact ⟨⟨h3, .inr (.inl ⟨by rw [h4, hop]; simp [Op.operands], h5⟩)⟩, noRefs_v h6⟩
  · exact ho.elim

theorem loud_mapEntry {t : TypeId} {m kx : Operand} (hop : o.op = .mapEntry t m kx) (ho : loudOp C al ws e o k h) (iv : Inv ρ0 h0 w0 C ρ h w σ a) (hx : ∀ x ∈ o.op.operands, SameAt e σ x) : o.wp C.P a w (LOut ρ0 h0 w0 C al e o ws h σ k) Q := by
  have hmm := (hx m (by rw [hop]; simp [Op.operands])).opdR iv
  have hkk := (hx kx (by rw [hop]; simp [Op.operands])).opdR iv
  unfold loudOp at ho
  rw [hop] at ho
  simp only at ho
  split at ho
  · rename_i kt el hu
    split at ho
    · rename_i mm ky z kv hgm hgk hgz hgv
      cases hky : keyed C.P kt ky && zeroOk C.P el with
      | false => rw [hky] at ho; exact ho.elim
      | true =>
        rw [hky] at ho
        simp only [Bool.and_eq_true] at hky
        cases mm with
        | none => exact ho.elim
        | some i =>
          obtain ⟨es, es', x0, b, hi, hg, hs, hall⟩ := ho
          have hmv : opd C e t m = .v (.one (.map (some i))) := by
            unfold getMap at hgm
            split at hgm
            · rename_i a' ha'; cases hgm; exact ha'
            · cases hgm
          have hkv : opd C e kt kx = .v ky := by
            unfold getV at hgk
            split at hgk
            · rename_i a' ha'; cases hgk; exact ha'
            · cases hgk
          obtain ⟨l, hl, hev⟩ : ∃ l, ρ i = some l ∧ a.eval m = .map (some l.block) := opd_V hmm hmv
          have hkr : VR ρ ky (a.eval kx) := opd_V hkk hkv
          obtain ⟨ob, hob, ms, clock, rfl, hms, hst⟩ := iv.hr.live i _ l hi hl
          obtain ⟨ms', clock', u, n, hrun, hxu, hms', hst', hne⟩ := run_mapEntry hu hob hms hst hkr hky.1 hgz hky.2 hg hs
          obtain ⟨hws, hk1⟩ := watch_out (hall n)
          obtain ⟨x1, _, hxe, hput⟩ := exV_out hk1
          obtain ⟨hr1, fr1⟩ := iv.hr.turn (o' := .mapE es' ky n) (ob' := .map ms' clock') hi rfl hl hob ⟨ms', clock', rfl, hms', hst', hne⟩
          have iv2 := iv.step hr1 fr1
          have hxu' : VR ρ x1 u := by rw [← hxe]; exact hxu
          obtain ⟨d2, iv3, ho3, hd3⟩ := put_sound (v := .tuple #[u, .int .i64 n]) hput iv2 ⟨#[u, .int .i64 n], rfl, hxu', rfl, trivial⟩ rfl (by simp) (by simp)
          refine wp_value (v := .tuple #[u, .int .i64 n]) (w' := { w with heap := w.heap.setIfInBounds l.block (.map ms' clock') }) ?_ ⟨_, _, d2, iv3, ho3, hws, fun p hp => turn_dst (hd3 p hp) (by intro _ _ e; cases e)⟩
          unfold execOp
          rw [hop]
          simp only [hev, Sem.run_bind, hrun, Result.andThen_ok, Sem.run_pure]
    · exact ho.elim
  · exact ho.elim

theorem loud_entryStore {t : TypeId} {m s x : Operand} (hop : o.op = .entryStore t m s x) (ho : loudOp C al ws e o k h) (iv : Inv ρ0 h0 w0 C ρ h w σ a) (hx : ∀ x ∈ o.op.operands, SameAt e σ x) : o.wp C.P a w (LOut ρ0 h0 w0 C al e o ws h σ k) Q := by
  unfold loudOp at ho
  rw [hop] at ho
  simp only at ho
  split at ho
  · rename_i kt el hdst hu
    obtain ⟨ρ1, h1, d1, y, iv1, ho1, hy, hle1, hw1, hd1⟩ := asV_sound ws ho iv (hx x (by rw [hop]; simp [Op.operands]))
    have hmm := ((hx m (by rw [hop]; simp [Op.operands])).over d1).opdR iv1
    have hss := ((hx s (by rw [hop]; simp [Op.operands])).over d1).opdR iv1
    cases hgm : getMap (opd C (d1 ++ e) t m) with
    | none => rw [hgm] at ho1; exact ho1.elim
    | some mm =>
      rw [hgm] at ho1
      cases hgk : getInt (opdBare (d1 ++ e) s) with
      | none => rw [hgk] at ho1; exact ho1.elim
      | some n =>
        rw [hgk] at ho1
        cases mm with
        | none => exact ho1.elim
        | some i =>
          obtain ⟨es, es', ky, n', hi, rfl, hky, hs, hwt⟩ := ho1
          obtain ⟨hws, hk1⟩ := watch_out hwt
          have hmv : opd C (d1 ++ e) t m = .v (.one (.map (some i))) := by
            unfold getMap at hgm
            split at hgm
            · rename_i a' ha'; cases hgm; exact ha'
            · cases hgm
          obtain ⟨l, hl, hev⟩ : ∃ l, ρ1 i = some l ∧ a.eval m = .map (some l.block) := opd_V hmm hmv
          obtain ⟨kk, hsv⟩ := getInt_R hss hgk
          obtain ⟨ob, hob, ms, clock, rfl, hms, hst, hne⟩ := iv1.hr.live i _ l hi hl
          obtain ⟨ms', clock', hrun, hms', hst'⟩ := run_entryStore (P := C.P) (t := t) hob hms hst hne hy hky hs kk
          obtain ⟨hr2, fr2⟩ := iv1.hr.turn (o' := .map es') (ob' := .map ms' clock') hi rfl hl hob ⟨ms', clock', rfl, hms', hst'⟩
          refine wp_skip' (w' := { w with heap := w.heap.setIfInBounds l.block (.map ms' clock') }) ?_ ⟨ρ1, _, d1, ?_, hk1, fun j hj => (hws j hj).trans (hw1 j hj), fun p hp => ?_⟩
          · unfold execOp
            rw [hop]
            simp only [hev, hsv, Sem.run_bind, hrun, Result.andThen_ok, Sem.run_pure]
          · rw [hdst]
            exact iv1.step hr2 fr2
          · obtain ⟨h3, h4, h5, h6⟩ := hd1 p hp
            exact ⟨⟨h3, .inr (.inl ⟨by rw [h4, hop]; simp [Op.operands], h5⟩)⟩, noRefs_v h6⟩
  · exact ho.elim

theorem modify_push (hp : Array Go.Obj) (X : Go.Obj) (f : Go.Obj → Go.Obj) : (hp.push X).modify hp.size f = hp.push (f X) := by
  apply Array.ext_getElem?
  intro i
  rw [Array.getElem?_modify, Array.getElem?_push, Array.getElem?_push]
  by_cases h : hp.size = i
  · subst h; simp
  · rw [if_neg h, if_neg (fun e => h e.symm), if_neg (fun e => h e.symm)]

theorem loud_convert {s d : TypeId} {x : Operand} (hop : o.op = .convert s d x) (ho : loudOp C al ws e o k h) (iv : Inv ρ0 h0 w0 C ρ h w σ a) (hx : ∀ x ∈ o.op.operands, SameAt e σ x) :
    o.wp C.P a w (LOut ρ0 h0 w0 C al e o ws h σ k) Q := by
  have hxx := (hx x (by rw [hop]; simp [Op.operands])).opdR iv
  unfold loudOp at ho
  rw [hop] at ho
  simp only at ho
  split at ho
  · rename_i b hb hs
    simp only [Bool.and_eq_true] at hb
    have hv := getStr_R hxx hs
    obtain ⟨el, hd, hel⟩ : ∃ el, C.P.underlying d = some (.slice el) ∧ C.P.underlying el = some (.int .u8) := by
      have := hb.1
      unfold isBytes at this
      split at this
      · rename_i el hs
        split at this
        · rename_i hel; exact ⟨el, hs, hel⟩
        · cases this
      · cases this
    have hst : C.P.underlying s = some .string := by have := hb.2; unfold isStr at this; split at this <;> first | assumption | cases this
    obtain ⟨i, hi', hρ, hw⟩ := iv.hr.pickW ws
    have hge := grownCap_ge w b.size 0 el
    have hlb : (byteCells b).length = b.size := byteCells_length b
    have hds : b.data.size = b.size := rfl
    refine loud_new (w := w) (d1 := []) (w1 := w.drew) (c := b.data.map (fun x => Value.int .u8 (x.toNat : Nat)) ++ Array.replicate (grownCap w b.size 0 el - b.size) (Value.int .u8 0)) (el := el)
      (fz := ((b.data.map (fun x => Value.int .u8 (x.toNat : Nat)) ++ Array.replicate (grownCap w b.size 0 el - b.size) (Value.int .u8 0)).size, (b.data.map (fun x => Value.int .u8 (x.toNat : Nat)) ++ Array.replicate (grownCap w b.size 0 el - b.size) (Value.int .u8 0)).size + 1))
      (x := .one (.slice 1 ⟨some (i, 0), b.size⟩)) (v := .slice (some ⟨w.heap.size, 0, none⟩) b.size (grownCap w b.size 0 el)) (iv.step iv.hr.drew Fr.drew) rfl hi' hρ ⟨?_, ?_⟩ (fun j hj => ?_)
      (fun ρ' h' => ⟨_, _, rfl, hge, .inl ⟨_, h', rfl, ?_⟩⟩) (ho i hi') (by simp) ?_ (fun j hj e => hw (e ▸ hj)) (fun _ _ => rfl)
    · rw [hlb]; simp
    · rw [hlb]
      have : ((b.data.map (fun x => Value.int .u8 (x.toNat : Nat)) ++ Array.replicate (grownCap w b.size 0 el - b.size) (Value.int .u8 0)).toList.take b.size) = b.data.toList.map fun x => Value.int .u8 (x.toNat : Nat) := by
        rw [Array.toList_append, Array.toList_map, List.take_left' (by rw [List.length_map]; simp [hds])]
      rw [this]
      unfold byteCells
      generalize b.data.toList = l
      induction l with
      | nil => trivial
      | cons x l ih => exact ⟨rfl, ih⟩
    · rw [Bool.and_eq_false_iff]; exact .inl (decide_eq_false (Nat.not_le.2 hj))
    · simp [hds]; omega
    · unfold execOp
      rw [hop]
      simp only [hv, convert, Sem.run_bind, run_underlying hst, run_underlying hd, Result.andThen_ok, run_underlying hel, Conv.stringToBytes, run_choose, Question.forced, Bool.false_eq_true, if_false, newRow, run_newObj, Sem.run_pure, markStringish, run_shape, World.shape?]
      simp only [Array.getElem?_push_size, run_freeze, World.freeze, Nat.one_ne_zero, if_false, modify_push, Result.andThen_ok, beq_self_eq_true, if_true]
      rfl
  · exact ho.elim


/-- What is appended, as the machine sees it. -/
def NewsR (P : Program) (ρ : Rho) (w : World) (sz n : Nat) (cs : List Cell) (x : Value) : Prop :=
  cs.length = n * sz ∧ ∃ us : List Value, CRs ρ cs us ∧ (∀ w1 : World, (Builtin.lenOf x).run P w1 = .ok n w1) ∧ (∀ w1 : World, w1.heap = w.heap → (Builtin.firstCells sz n x).run P w1 = .ok us.toArray w1)

theorem lenOf_slice {P : Program} {sz : Nat} {s : Sl} {v : Value} (hv : CR ρ (.slice sz s) v) (w1 : World) : (Builtin.lenOf v).run P w1 = .ok s.len w1 := by
  obtain ⟨sa, n⟩ := s
  cases sa with
  | none => obtain ⟨hn, rfl⟩ := hv; change n = 0 at hn; subst hn; rfl
  | some p => obtain ⟨i, off⟩ := p; obtain ⟨ad, c, rfl, _⟩ := hv; rfl

theorem news_R {sz : Nat} {isB : Bool} {x : Operand} {t : TypeId} {kk : Nat → List Cell → T} (hr : HR ρ h w) (hx : OpdR e a ρ w w0.heap.size x) (ho : newsK sz isB (opd C e t x) kk h) :
    ∃ n cs, kk n cs h ∧ NewsR C.P ρ w sz n cs (a.eval x) := by
  unfold newsK at ho
  cases hl : getLit (opd C e t x) with
  | some p =>
    obtain ⟨sz', n, cs⟩ := p
    rw [hl] at ho
    simp only at ho
    cases hb : (sz.beq sz' && (n * sz).beq cs.length) with
    | false => rw [hb] at ho; exact ho.elim
    | true =>
      rw [hb] at ho
      simp only [Bool.and_eq_true] at hb
      have h1 := Nat.eq_of_beq_eq_true hb.1
      have h2 := Nat.eq_of_beq_eq_true hb.2
      obtain ⟨b, cp, hev, hn, _, _, c, el, hblk, hcs⟩ := getLit_R (C := C) hx hl
      refine ⟨n, cs, ho, h2.symm, c.toList, hcs, fun w1 => by rw [hev]; rfl, fun w1 hw1 => ?_⟩
      have hcl := hcs.length
      rw [hev]
      simp only [Builtin.firstCells]
      rw [show n * sz = c.toList.length by omega, run_loadCells_list (P := C.P) w1 _ c.toList (fun j v hj => ?_)]
      rw [addrAdd, cell_at (by rw [hw1]; exact hblk)]
      simpa using hj
  | none =>
    rw [hl] at ho
    simp only at ho
    cases hs : getSl (opd C e t x) with
    | some p =>
      obtain ⟨sz', s'⟩ := p
      rw [hs] at ho
      simp only at ho
      cases hb : sz.beq sz' with
      | false => rw [hb] at ho; exact ho.elim
      | true =>
        rw [hb] at ho
        have h1 := Nat.eq_of_beq_eq_true hb
        subst h1
        obtain ⟨new, hnew, ho⟩ := ho
        have hv := getSl_R (C := C) hx hs
        obtain ⟨us, h3, h4, h5⟩ := firstCells_slice (P := C.P) hr hv hnew (n := 0)
        exact ⟨s'.len, new, ho, h4, us, h3, fun w1 => lenOf_slice hv w1, h5⟩
    | none =>
      rw [hs] at ho
      simp only at ho
      cases hst : getStr (opd C e t x) with
      | none => rw [hst] at ho; exact ho.elim
      | some b =>
        rw [hst] at ho
        cases hb : (isB && sz.beq 1) with
        | false => rw [hb] at ho; exact ho.elim
        | true =>
          rw [hb] at ho
          simp only [Bool.and_eq_true] at hb
          have h1 := Nat.eq_of_beq_eq_true hb.2
          subst h1
          have hev := getStr_R (C := C) hx hst
          refine ⟨b.size, byteCells b, ho, by rw [byteCells_length, Nat.mul_one], b.data.toList.map (fun x => Value.int .u8 (x.toNat : Nat)), ?_, fun w1 => by rw [hev]; rfl, fun w1 _ => ?_⟩
          · unfold byteCells
            generalize b.data.toList = l
            induction l with
            | nil => trivial
            | cons x l ih => exact ⟨rfl, ih⟩
          · rw [hev]
            have hex : b.extract 0 b.size = b := by
              obtain ⟨d⟩ := b
              simp [ByteArray.extract, ByteArray.copySlice, ByteArray.size]
            simp only [Builtin.firstCells, hex, Sem.run_pure]
            congr 1
            apply Array.ext'
            simp

theorem loud_append {args : Array Operand} {argTypes : Array TypeId} (hop : o.op = .call { callee := .builtin .append, args, argTypes }) (ho : loudOp C al ws e o k h) (iv : Inv ρ0 h0 w0 C ρ h w σ a) (hx : ∀ x ∈ o.op.operands, SameAt e σ x) :
    o.wp C.P a w (LOut ρ0 h0 w0 C al e o ws h σ k) Q := by
  unfold loudOp at ho
  rw [hop] at ho
  simp only at ho
  split at ho
  · rename_i s x t t' hargs htys
    have hargs' : args = #[s, x] := by apply Array.ext'; simpa using hargs
    have htys' : argTypes = #[t, t'] := by apply Array.ext'; simpa using htys
    subst hargs'; subst htys'
    have hss := (hx s (by rw [hop]; simp [Op.operands, Call.operands])).opdR iv
    have hxx := (hx x (by rw [hop]; simp [Op.operands, Call.operands])).opdR iv
    have hex : ∀ v w', (Builtin.append_ #[t, t'] o.type #[a.eval s, a.eval x]).run C.P w = .ok v w' → (execOp a.eval o).run C.P w = .ok (.value v) w' := by
      intro v w' hr
      unfold execOp
      rw [hop]
      simp only [resolve, invoke, builtin, Sem.run_bind, Sem.run_pure, Result.andThen_ok, List.map_toArray, List.map_cons, List.map_nil, hr]
    split at ho
    · rename_i el hu
      split at ho
      · -- a slice
        rename_i inf z sz sl hi hz hsl
        split at ho
        · rename_i hb
          simp only [Bool.and_eq_true] at hb
          obtain ⟨⟨hb1, hb2⟩, hb3⟩ := hb
          obtain ⟨inf', hinf', hsz⟩ := sized_info hb1
          rw [hi] at hinf'; cases hinf'
          obtain ⟨kk, inf2, zv, hk, hlk, hzc, hi2, hzv, hcs⟩ := zeroV_R hz
          rw [hi] at hi2; cases hi2
          obtain ⟨inf3, hinf3, hsz3⟩ := vk_size hk
          rw [hi] at hinf3; cases hinf3
          have hzs : zv.cells.size = sz := by have := (hcs ρ).length; rw [hzc] at this; simp at this; omega
          obtain ⟨n, cs, ho2, hnl, us, hus, hlen, hf⟩ := news_R iv.hr hxx ho
          obtain ⟨d, hd, hdi⟩ : ∃ d, C.P.underlying t' = some d ∧ ∀ k, d ≠ .int k := by
            unfold notInt at hb3
            split at hb3
            · cases hb3
            · rename_i d hne hd; exact ⟨d, hd, fun k' e => hne k' e⟩
            · cases hb3
          have hv := getSl_R (C := C) hss hsl
          obtain ⟨j, hj, hρ, hw⟩ := iv.hr.pickW ws
          -- the two forms come to one
          have core : appendK ws sz inf.bytes sl n cs (fun r => put C al e o.dst (.v (.one (.slice sz r))) k) h → (sl.a = none → n ≠ 0) → o.wp C.P a w (LOut ρ0 h0 w0 C al e o ws h σ k) Q := by
            intro ho hne
            obtain ⟨old, hold, hmine, hbound, ho⟩ := ho
            obtain ⟨hws, ho⟩ := watch_out (ho j hj)
            obtain ⟨v', w', ρ', hrun, hcr, hr2, fr2⟩ := append_R (P := C.P) (ty := o.type) (t := t) (t' := t') iv.hr hu hi hzv hzs hsz (Nat.le_of_ble_eq_true hb2) hv hold hmine (.plain hu hi hzv hd hdi hlen (by rw [hsz]; exact hf)) hus hnl hbound hj hρ hne
            have iv2 := iv.step hr2 fr2
            obtain ⟨d2, iv3, ho3, hd3⟩ := put_sound (v := v') ho iv2 hcr rfl (by simp) (by simp)
            exact wp_value (hex v' w' hrun) ⟨ρ', _, d2, iv3, ho3, hws, fun p hp => turn_dst (hd3 p hp) (by intro _ _ e; cases e)⟩
          unfold appendTo at ho2
          split at ho2
          · exact core ho2 (fun _ => by omega)
          · unfold appendAnyK at ho2
            split at ho2
            · rename_i hnil
              obtain ⟨sa, len⟩ := sl
              obtain ⟨rfl, _⟩ := hnil
              obtain ⟨hl0, hev⟩ := hv
              change len = 0 at hl0
              have hrun : (Builtin.append_ #[t, t'] o.type #[a.eval s, a.eval x]).run C.P w = .ok (.slice none 0 0) w := by
                rw [hev, append_run_room (P := C.P) (w := w) hu hi hd hdi (hlen w) (by rw [hsz]; exact hf w rfl) (Nat.le_refl _)]
              obtain ⟨d2, iv3, ho3, hd3⟩ := put_sound (x := .v (.one (.slice sz ⟨none, 0⟩))) (v := .slice none 0 0) ho2 iv ⟨rfl, rfl⟩ rfl (by simp) (by simp)
              exact wp_value (hex _ w hrun) ⟨ρ, h, d2, iv3, ho3, fun _ _ => rfl, fun p hp => turn_dst (hd3 p hp) (by intro _ _ e; cases e)⟩
            · rename_i hnn
              exact core ho2 (fun h1 h2 => hnn ⟨h1, rfl⟩)
        · -- so many zeros
          split at ho
          · rename_i ks n hb hk hn
            simp only [Bool.and_eq_true] at hb
            obtain ⟨⟨hb1, hb2⟩, hb3⟩ := hb
            obtain ⟨inf', hinf', hsz⟩ := sized_info hb1
            rw [hi] at hinf'; cases hinf'
            obtain ⟨kk, inf2, zv, hk', hlk, hzc, hi2, hzv, hcs⟩ := zeroV_R hz
            rw [hi] at hi2; cases hi2
            rw [hk] at hk'; cases hk'
            obtain ⟨inf3, hinf3, hsz3⟩ := vk_size hk
            rw [hi] at hinf3; cases hinf3
            have hzs : zv.cells.size = sz := by have := (hcs ρ).length; rw [hzc] at this; simp at this; omega
            obtain ⟨kt, hd⟩ : ∃ kt, C.P.underlying t' = some (.int kt) := by
              unfold isInt at hb3
              split at hb3
              · rename_i kt hd; exact ⟨kt, hd⟩
              · cases hb3
            obtain ⟨g0, g1, g2, ho2⟩ := ho
            obtain ⟨kn, hev⟩ := getInt_R hxx hn
            have hv := getSl_R (C := C) hss hsl
            obtain ⟨j, hj, hρ, hw⟩ := iv.hr.pickW ws
            have hrun := AppRun.zeros (P := C.P) (w := w) (t := t) (t' := t') (ty := o.type) (k' := kn) (n := n) hu hi hzv (by rw [hzs, hsz]) hd g0 g1 g2
            rw [← hev] at hrun
            have hus : CRs ρ (slCells ks n.toNat) (Builtin.zeroCells zv.cells n.toNat).toList := by
              have := rep_R (hcs ρ) n.toNat
              rw [hzc] at this
              rw [slCells_eq]
              exact this
            have hnl : (slCells ks n.toNat).length = n.toNat * sz := by
              rw [slCells_eq, ← hsz, hsz3]
              simp
            have core : appendK ws sz inf.bytes sl n.toNat (slCells ks n.toNat) (fun r => put C al e o.dst (.v (.one (.slice sz r))) k) h → (sl.a = none → n.toNat ≠ 0) → o.wp C.P a w (LOut ρ0 h0 w0 C al e o ws h σ k) Q := by
              intro ho hne
              obtain ⟨old, hold, hmine, hbound, ho⟩ := ho
              obtain ⟨hws, ho⟩ := watch_out (ho j hj)
              obtain ⟨v', w', ρ', hrun, hcr, hr2, fr2⟩ := append_R (P := C.P) (ty := o.type) (t := t) (t' := t') iv.hr hu hi hzv hzs hsz (Nat.le_of_ble_eq_true hb2) hv hold hmine hrun hus hnl hbound hj hρ hne
              have iv2 := iv.step hr2 fr2
              obtain ⟨d2, iv3, ho3, hd3⟩ := put_sound (v := v') ho iv2 hcr rfl (by simp) (by simp)
              exact wp_value (hex v' w' hrun) ⟨ρ', _, d2, iv3, ho3, hws, fun p hp => turn_dst (hd3 p hp) (by intro _ _ e; cases e)⟩
            generalize hm : n.toNat = m at *
            unfold appendTo at ho2
            split at ho2
            · exact core ho2 (fun _ => by omega)
            · unfold appendAnyK at ho2
              split at ho2
              · rename_i hnil
                obtain ⟨sa, len⟩ := sl
                obtain ⟨rfl, _⟩ := hnil
                obtain ⟨hl0, hev0⟩ := hv
                change len = 0 at hl0
                have hrun0 : (Builtin.append_ #[t, t'] o.type #[a.eval s, a.eval x]).run C.P w = .ok (.slice none 0 0) w := by
                  rw [hev0, hrun.room (Nat.le_refl _)]
                obtain ⟨d2, iv3, ho3, hd3⟩ := put_sound (x := .v (.one (.slice sz ⟨none, 0⟩))) (v := .slice none 0 0) ho2 iv ⟨rfl, rfl⟩ rfl (by simp) (by simp)
                exact wp_value (hex _ w hrun0) ⟨ρ, h, d2, iv3, ho3, fun _ _ => rfl, fun p hp => turn_dst (hd3 p hp) (by intro _ _ e; cases e)⟩
              · rename_i hnn
                exact core ho2 (fun h1 h2 => hnn ⟨h1, rfl⟩)
          · exact ho.elim
      · -- an empty literal
        rename_i inf z hi hz hsl
        split at ho
        · rename_i sz hlit
          split at ho
          · rename_i hb
            simp only [Bool.and_eq_true] at hb
            obtain ⟨⟨hb1, hb2⟩, hb3⟩ := hb
            obtain ⟨inf', hinf', hsz⟩ := sized_info hb1
            rw [hi] at hinf'; cases hinf'
            obtain ⟨kk, inf2, zv, hk, hlk, hzc, hi2, hzv, hcs⟩ := zeroV_R hz
            rw [hi] at hi2; cases hi2
            obtain ⟨inf3, hinf3, hsz3⟩ := vk_size hk
            rw [hi] at hinf3; cases hinf3
            have hzs : zv.cells.size = sz := by have := (hcs ρ).length; rw [hzc] at this; simp at this; omega
            obtain ⟨n, cs, ⟨hbound, ho⟩, hnl, us, hus, hlen, hf⟩ := news_R iv.hr hxx ho
            obtain ⟨d, hd, hdi⟩ : ∃ d, C.P.underlying t' = some d ∧ ∀ k, d ≠ .int k := by
              unfold notInt at hb3
              split at hb3
              · cases hb3
              · rename_i d hne hd; exact ⟨d, hd, fun k' e => hne k' e⟩
              · cases hb3
            obtain ⟨b, cp, hev, ⟨_, _, hcp⟩, _⟩ := getLit_R (C := C) hss hlit
            have hcp := hcp rfl
            subst hcp
            obtain ⟨j0, hj0, hρ0, _⟩ := iv.hr.pickW ws
            obtain ⟨hr1, fr1⟩ := iv.hr.unmapped (o := .cells false []) hρ0
            obtain ⟨j, hj, hρ, hw⟩ := hr1.pickW ws
            have hjj : j ≠ j0 := fun e => by rw [e, Heap.set_same] at hj; cases hj
            have hj' : h j = none := by rw [Heap.set_ne _ _ hjj] at hj; exact hj
            have hback : (h.set j0 (.cells false [])).del j0 = h := by
              funext k'
              by_cases e : k' = j0
              · rw [e, Heap.del_same, hj0]
              · rw [Heap.del_ne _ e, Heap.set_ne _ _ e]
            obtain ⟨v', w', ρ', hrun, hcr, hr2, fr2⟩ := append_R (P := C.P) (ty := o.type) (t := t) (t' := t') (s := ⟨some (j0, 0), 0⟩) (v := a.eval s) (olds := []) hr1 hu hi hzv hzs hsz (Nat.le_of_ble_eq_true hb2)
              (by rw [hev]; exact ⟨_, 0, rfl, Nat.le_refl _, .inr rfl⟩) (by simp [Heap.sl, Heap.read, Heap.set]) ⟨[], Heap.set_same _ _ _⟩ (.plain hu hi hzv hd hdi hlen (by rw [hsz]; exact hf)) hus hnl (by simpa using hbound) hj hρ (by simp)
            simp only [Heap.drop, hback, List.nil_append, Nat.zero_add] at hr2 fr2 hcr
            have iv2 := iv.step hr2 (fr1.trans fr2)
            obtain ⟨d2, iv3, ho3, hd3⟩ := put_sound (v := v') (ho j hj') iv2 hcr rfl (by simp) (by simp)
            exact wp_value (hex v' w' hrun) ⟨ρ', _, d2, iv3, ho3, fun i' hi'' => Heap.set_ne _ _ (fun e => hw (e ▸ hi'')), fun p hp => turn_dst (hd3 p hp) (by intro _ _ e; cases e)⟩
          · exact ho.elim
        · exact ho.elim
      · exact ho.elim
    · exact ho.elim
  · exact ho.elim


theorem firstCells_pre {P : Program} {sz : Nat} {s : Sl} {v : Value} {olds : List Cell} (hr : HR ρ h w) (hv : CR ρ (.slice sz s) v) (ho : h.sl sz s = some olds) :
    ∃ us : List Value, CRs ρ olds us ∧ olds.length = s.len * sz ∧ ∀ m, m ≤ s.len → (Builtin.firstCells sz m v).run P w = .ok (us.take (m * sz)).toArray w := by
  obtain ⟨sa, n⟩ := s
  cases sa with
  | none =>
    obtain ⟨hn, rfl⟩ := hv
    change n = 0 at hn
    subst hn
    cases ho
    exact ⟨[], trivial, by simp, fun m hm => by simp [Builtin.firstCells]⟩
  | some p =>
    obtain ⟨i, off⟩ := p
    obtain ⟨ad, c, rfl, hnc, hor⟩ := hv
    simp only [Heap.sl] at ho
    change n ≤ c at hnc
    rcases hor with ⟨l, hl, had, hsp⟩ | hz
    · obtain ⟨cc, el, fz, hb, hlen, hcs, _⟩ := hr.read ho hl
      refine ⟨_, hcs, hlen, fun m hm => ?_⟩
      have hl2 := hcs.length
      have hm' : m * sz ≤ n * sz := Nat.mul_le_mul_right _ hm
      have : m * sz = (((cc.toList.drop (l.base + off)).take olds.length).take (m * sz)).length := by rw [List.length_take, ← hl2, hlen]; omega
      simp only [Builtin.firstCells]
      conv => lhs; rw [this]
      rw [run_loadCells_list (P := P) w ad _ (fun j v hj => ?_)]
      rw [had, addrAdd, cell_at hb]
      rw [List.getElem?_take] at hj
      split at hj
      · rw [List.getElem?_take] at hj
        split at hj
        · simpa using hj
        · cases hj
      · cases hj
    · have hn : n = 0 := by omega
      subst hn
      have : olds = [] := by
        unfold Heap.read at ho
        split at ho
        · split at ho
          · simp at ho; exact ho
          · cases ho
        · cases ho
      subst this
      refine ⟨[], trivial, by simp, fun m hm => ?_⟩
      have : m = 0 := by simp at hm; omega
      subst this
      simp [Builtin.firstCells, loadCells, loadCellsFrom]

theorem loud_copy {args : Array Operand} {argTypes : Array TypeId} (hop : o.op = .call { callee := .builtin .copy, args, argTypes }) (ho : loudOp C al ws e o k h) (iv : Inv ρ0 h0 w0 C ρ h w σ a) (hx : ∀ x ∈ o.op.operands, SameAt e σ x) :
    o.wp C.P a w (LOut ρ0 h0 w0 C al e o ws h σ k) Q := by
  unfold loudOp at ho
  rw [hop] at ho
  simp only at ho
  split at ho
  · rename_i d x t t' hargs htys
    have hargs' : args = #[d, x] := by apply Array.ext'; simpa using hargs
    have htys' : argTypes = #[t, t'] := by apply Array.ext'; simpa using htys
    subst hargs'; subst htys'
    have hdd := (hx d (by rw [hop]; simp [Op.operands, Call.operands])).opdR iv
    have hxx := (hx x (by rw [hop]; simp [Op.operands, Call.operands])).opdR iv
    split at ho
    · rename_i sz dl sz' s el hgd hgs hu
      split at ho
      · rename_i hb
        simp only [Bool.and_eq_true] at hb
        have h1 := Nat.eq_of_beq_eq_true hb.1
        subst h1
        obtain ⟨inf, hinf, hsz⟩ := sized_info hb.2
        obtain ⟨new, hnew, ho⟩ := ho
        have hdv := getSl_R (C := C) hdd hgd
        have hsv := getSl_R (C := C) hxx hgs
        obtain ⟨us, hus, hnl, hf⟩ := firstCells_pre (P := C.P) iv.hr hsv hnew
        have hlen := lenOf_slice (P := C.P) hsv w
        have hfm := hf (Nat.min s.len dl.len) (Nat.min_le_left _ _)
        obtain ⟨da, dn⟩ := dl
        cases da with
        | none =>
          obtain ⟨hd0, hev⟩ := hdv
          change dn = 0 at hd0
          subst hd0
          simp only at ho
          have hrun : (execOp a.eval o).run C.P w = .ok (.value (.int .i64 0)) w := by
            unfold execOp
            rw [hop]
            simp only at hfm
            simp only [resolve, invoke, builtin, Sem.run_bind, Sem.run_pure, Result.andThen_ok, List.map_toArray, List.map_cons, List.map_nil, Builtin.copy_, List.getElem?_toArray, List.getElem?_cons_zero, List.getElem?_cons_succ, run_underlying hu, hev, hlen, run_sizeOf hinf, hsz, hfm, Go.goInt]
            simp
          obtain ⟨d2, iv3, ho3, hd3⟩ := put_sound (x := goInt 0) (v := .int .i64 0) ho iv rfl rfl (by simp [goInt]) (by simp [goInt])
          exact wp_value hrun ⟨ρ, h, d2, iv3, ho3, fun _ _ => rfl, fun p hp => turn_dst (hd3 p hp) (by intro _ _ e; cases e)⟩
        | some io =>
          obtain ⟨i, off⟩ := io
          simp only at ho
          obtain ⟨cs, hi, hle, hwt⟩ := ho
          obtain ⟨hws, hk1⟩ := watch_out hwt
          obtain ⟨ad, c, hev, hnc, hor⟩ := hdv
          change dn ≤ c at hnc
          have hntl := (hus.take (Nat.min s.len dn * sz)).length
          have hmle : Nat.min s.len dn * sz ≤ new.length := by rw [hnl]; exact Nat.mul_le_mul_right _ (Nat.min_le_left _ _)
          have hex : ∀ w', (storeCells ad (us.take (Nat.min s.len dn * sz))).run C.P w = .ok () w' → (execOp a.eval o).run C.P w = .ok (.value (.int .i64 (Nat.min s.len dn : Nat))) w' := by
            intro w' hst
            unfold execOp
            rw [hop]
            simp only at hfm
            simp only [resolve, invoke, builtin, Sem.run_bind, Sem.run_pure, Result.andThen_ok, List.map_toArray, List.map_cons, List.map_nil, Builtin.copy_, List.getElem?_toArray, List.getElem?_cons_zero, List.getElem?_cons_succ, run_underlying hu, hev, hlen, run_sizeOf hinf, hsz, hfm, hst, Go.goInt]
          rcases hor with ⟨l, hl, had, hsp⟩ | hz
          · obtain ⟨ob, hob1, cc, el', fz, rfl, h2, h3, h4, h5⟩ := iv.hr.live i _ l hi hl
            obtain ⟨w', cur', hrun, hob, htl⟩ := run_storeCells_one (P := C.P) (b := l.block) (o := l.base + off) (us.take (Nat.min s.len dn * sz)) 0 w cc hob1 (by rw [← hntl]; simp only [Nat.add_zero]; change off + (new.take (Nat.min s.len dn * sz)).length ≤ cs.length at hle; omega) (h5 rfl) (hus.take _).all_one
            simp only [Nat.add_zero] at htl
            obtain ⟨hr2, fr2⟩ := iv.hr.store hi hl hle (hus.take _) hob1 hob htl
            have iv2 := iv.step hr2 fr2
            obtain ⟨d2, iv3, ho3, hd3⟩ := put_sound (x := goInt (min s.len dn : Nat)) (v := .int .i64 (Nat.min s.len dn : Nat)) hk1 iv2 rfl rfl (by simp [goInt]) (by simp [goInt])
            exact wp_value (hex w' (by rw [had]; exact hrun)) ⟨ρ, _, d2, iv3, ho3, hws, fun p hp => turn_dst (hd3 p hp) (by intro _ _ e; cases e)⟩
          · have hd0 : dn = 0 := by omega
            subst hd0
            have hm0 : Nat.min s.len 0 * sz = 0 := by simp
            have hsame : h.set i (.cells false (updCells cs off (new.take (min s.len 0 * sz)))) = h := by
              funext j
              by_cases e : j = i
              · rw [e, Heap.set_same, hi]
                rw [updCells_eq _ _ _ hle]
                simp [splice]
              · rw [Heap.set_ne _ _ e]
            change put C al e o.dst _ k _ at hk1
            have hk2 : put C al e o.dst (goInt (min s.len 0 : Nat)) k h := by
              rw [← hsame]; exact hk1
            obtain ⟨d2, iv3, ho3, hd3⟩ := put_sound (x := goInt (min s.len 0 : Nat)) (v := .int .i64 (Nat.min s.len 0 : Nat)) hk2 iv rfl rfl (by simp [goInt]) (by simp [goInt])
            exact wp_value (hex w (by rw [hm0]; rfl)) ⟨ρ, h, d2, iv3, ho3, fun _ _ => rfl, fun p hp => turn_dst (hd3 p hp) (by intro _ _ e; cases e)⟩
      · exact ho.elim
    · exact ho.elim
  · exact ho.elim

theorem loud_clear {args : Array Operand} {argTypes : Array TypeId} (hop : o.op = .call { callee := .builtin .clear, args, argTypes }) (ho : loudOp C al ws e o k h) (iv : Inv ρ0 h0 w0 C ρ h w σ a) (hx : ∀ x ∈ o.op.operands, SameAt e σ x) :
    o.wp C.P a w (LOut ρ0 h0 w0 C al e o ws h σ k) Q := by
  unfold loudOp at ho
  rw [hop] at ho
  simp only at ho
  split at ho
  · rename_i s t hargs htys
    have hargs' : args = #[s] := by apply Array.ext'; simpa using hargs
    have htys' : argTypes = #[t] := by apply Array.ext'; simpa using htys
    subst hargs'; subst htys'
    have hss := (hx s (by rw [hop]; simp [Op.operands, Call.operands])).opdR iv
    split at ho
    · rename_i sz sl el hgs hu
      split at ho
      · rename_i ks zz hb hk hz
        obtain ⟨inf, hinf, hsz⟩ := sized_info hb
        obtain ⟨kk, inf2, zv, hk', hlk, hzc, hi2, hzv, hcs⟩ := zeroV_R hz
        rw [hinf] at hi2; cases hi2
        rw [hk] at hk'; cases hk'
        obtain ⟨inf3, hinf3, hsz3⟩ := vk_size hk
        rw [hinf] at hinf3; cases hinf3
        have hsv := getSl_R (C := C) hss hgs
        obtain ⟨da, dn⟩ := sl
        have hus : CRs ρ (slCells ks dn) (Builtin.zeroCells zv.cells dn).toList := by
          have := rep_R (hcs ρ) dn
          rw [hzc] at this
          rw [slCells_eq]
          exact this
        have hnl : (slCells ks dn).length = dn * sz := by
          rw [slCells_eq, ← hsz, hsz3]
          simp
        cases da with
        | none =>
          obtain ⟨hd0, hev⟩ := hsv
          change dn = 0 at hd0
          subst hd0
          change put C al e o.dst (.tup []) k h at ho
          have hrun : (execOp a.eval o).run C.P w = .ok (.value (.tuple #[])) w := by
            unfold execOp
            rw [hop]
            simp only [resolve, invoke, builtin, Sem.run_bind, Sem.run_pure, Result.andThen_ok, List.map_toArray, List.map_cons, List.map_nil, Builtin.clear_, List.getElem?_toArray, List.getElem?_cons_zero, List.getElem?_cons_succ, run_underlying hu, hev]
          obtain ⟨d2, iv3, ho3, hd3⟩ := put_sound (x := .tup []) (v := .tuple #[]) ho iv ⟨#[], rfl, trivial⟩ rfl (by simp) (by simp)
          exact wp_value hrun ⟨ρ, h, d2, iv3, ho3, fun _ _ => rfl, fun p hp => turn_dst (hd3 p hp) (by intro _ _ e; cases e)⟩
        | some io =>
          obtain ⟨i, off⟩ := io
          change storeK ws i off (slCells ks dn) (put C al e o.dst (.tup []) k) h at ho
          obtain ⟨cs, hi, hle, hwt⟩ := ho
          obtain ⟨hws, hk1⟩ := watch_out hwt
          obtain ⟨ad, c, hev, hnc, hor⟩ := hsv
          change dn ≤ c at hnc
          rcases Nat.eq_zero_or_pos dn with hd0 | hpos
          · subst hd0
            have hrun : (execOp a.eval o).run C.P w = .ok (.value (.tuple #[])) w := by
              unfold execOp
              rw [hop]
              cases ad <;> simp only [resolve, invoke, builtin, Sem.run_bind, Sem.run_pure, Result.andThen_ok, List.map_toArray, List.map_cons, List.map_nil, Builtin.clear_, List.getElem?_toArray, List.getElem?_cons_zero, List.getElem?_cons_succ, run_underlying hu, hev]
            have hz0 : slCells ks 0 = [] := rfl
            have hsame : h.set i (.cells false (updCells cs off (slCells ks 0))) = h := by
              funext j
              by_cases e : j = i
              · rw [e, Heap.set_same, hi]
                rw [updCells_eq _ _ _ hle]
                simp [splice, hz0]
              · rw [Heap.set_ne _ _ e]
            have hk2 : put C al e o.dst (.tup []) k h := by
              rw [← hsame]; exact hk1
            obtain ⟨d2, iv3, ho3, hd3⟩ := put_sound (x := .tup []) (v := .tuple #[]) hk2 iv ⟨#[], rfl, trivial⟩ rfl (by simp) (by simp)
            exact wp_value hrun ⟨ρ, h, d2, iv3, ho3, fun _ _ => rfl, fun p hp => turn_dst (hd3 p hp) (by intro _ _ e; cases e)⟩
          · rcases hor with ⟨l, hl, had, hsp⟩ | hz0
            · obtain ⟨ob, hob1, cc, el', fz, rfl, h2, h3, h4, h5⟩ := iv.hr.live i _ l hi hl
              have hul := hus.length
              obtain ⟨w', cur', hrun, hob, htl⟩ := run_storeCells_one (P := C.P) (b := l.block) (o := l.base + off) (Builtin.zeroCells zv.cells dn).toList 0 w cc hob1 (by rw [← hul]; simp only [Nat.add_zero]; change off + (slCells ks dn).length ≤ cs.length at hle; omega) (h5 rfl) hus.all_one
              simp only [Nat.add_zero] at htl
              obtain ⟨hr2, fr2⟩ := iv.hr.store hi hl hle hus hob1 hob htl
              have iv2 := iv.step hr2 fr2
              obtain ⟨m, rfl⟩ : ∃ m, dn = m + 1 := ⟨dn - 1, by omega⟩
              have hrunE : (execOp a.eval o).run C.P w = .ok (.value (.tuple #[])) w' := by
                unfold execOp
                rw [hop]
                rw [had] at hev
                simp only [resolve, invoke, builtin, Sem.run_bind, Sem.run_pure, Result.andThen_ok, List.map_toArray, List.map_cons, List.map_nil, Builtin.clear_, List.getElem?_toArray, List.getElem?_cons_zero, List.getElem?_cons_succ, run_underlying hu, hev, run_zeroValue hinf hzv, hrun]
              obtain ⟨d2, iv3, ho3, hd3⟩ := put_sound (x := .tup []) (v := .tuple #[]) hk1 iv2 ⟨#[], rfl, trivial⟩ rfl (by simp) (by simp)
              exact wp_value hrunE ⟨ρ, _, d2, iv3, ho3, hws, fun p hp => turn_dst (hd3 p hp) (by intro _ _ e; cases e)⟩
            · omega
      · exact ho.elim
    · exact ho.elim
  · exact ho.elim

theorem ret_TR {rs : List V} {v : Value} (hr : RetR ρ rs v) : TR ρ w w0.heap.size a.tmps (ofRes rs) v ∧ privB (ofRes rs) v = none ∧ (∀ t off, ofRes rs ≠ .ref t off) ∧ (∀ cs, ofRes rs ≠ .var cs) := by
  match rs with
  | [x] => exact ⟨hr, rfl, by simp [ofRes], by simp [ofRes]⟩
  | [] => exact ⟨hr, rfl, by simp [ofRes], by simp [ofRes]⟩
  | _ :: _ :: _ => exact ⟨hr, rfl, by simp [ofRes], by simp [ofRes]⟩

theorem VRs_append : ∀ {xs ys : List V} {us vs : List Value}, VRs ρ xs us → VRs ρ ys vs → VRs ρ (xs ++ ys) (us ++ vs)
  | [], _, [], _, _, h => h
  | _ :: _, _, _ :: _, _, ⟨h, hs⟩, h' => ⟨h, VRs_append hs h'⟩
  | [], _, _ :: _, _, h, _ => h.elim
  | _ :: _, _, [], _, h, _ => h.elim

theorem ofValue_bnd (g : FuncId) (r : Value) (us : Array Value) : Deferred.ofValue (.func (.func g) #[r] #[]) us = pure ⟨.fn (.func g) #[], #[r] ++ us⟩ := rfl
theorem PtrsR.vrs : ∀ {ps : List (Nat × Nat)} {vs : List Value}, PtrsR ρ ps vs → VRs ρ (ps.map fun a => .one (.ptr (some a))) vs
  | [], [], _ => trivial
  | _ :: _, _ :: _, ⟨h, hs⟩ => ⟨h, PtrsR.vrs hs⟩
  | [], _ :: _, h => h.elim
  | _ :: _, [], h => h.elim

theorem zip_map_fst {α β γ : Type} (f : α → γ) : ∀ (xs : List α) (ys : List β), xs.length = ys.length → (xs.zip ys).map (fun p => f p.1) = xs.map f
  | [], [], _ => rfl
  | x :: xs, y :: ys, h => by simp [zip_map_fst f xs ys (by simpa using h)]
  | [], _ :: _, h => by simp at h
  | _ :: _, [], h => by simp at h

theorem loud_call (hs : Sound C.P C.calls) {f : Operand} {args : Array Operand} {argTypes : Array TypeId} (hop : o.op = .call { callee := .value f, args, argTypes }) (ho : loudOp C al ws e o k h) (iv : Inv ρ0 h0 w0 C ρ h w σ a) (hx : ∀ x ∈ o.op.operands, SameAt e σ x) :
    o.wp C.P a w (LOut ρ0 h0 w0 C al e o ws h σ k) Q := by
  have hff := (hx f (by rw [hop]; simp [Op.operands, Call.operands])).opdR iv
  unfold loudOp at ho
  rw [hop] at ho
  simp only at ho
  split at ho
  · rename_i fv rk hf hrk
    split at ho
    · rename_i hlen
      have hlen := Nat.eq_of_beq_eq_true hlen
      obtain ⟨ρ1, h1, d1, ys, iv1, ho1, hys, hle1, hw1, hd1⟩ := asVs_sound ws ho iv (fun p hp => hx p.1 (by
        rw [hop]
        have := List.of_mem_zip hp
        simp [Op.operands, Call.operands]
        exact .inr (by simpa using this.1)))
      have hfv : CR ρ1 (.func fv) (a.eval f) := by
        unfold isFn at hf
        split at hf
        · rename_i g hg
          have hgf : g = fv := Option.some.inj hf
          have hc : CR ρ (.func g) (a.eval f) := opdBare_V hff hg
          rw [hgf] at hc
          exact CR.mono hle1 hc
        · cases hf
      cases fv with
      | none => exact ho1.elim
      | some gc =>
        obtain ⟨g, caps⟩ := gc
        obtain ⟨vs, hev, hcaps⟩ := hfv
        simp only [callK, funK] at ho1
        obtain ⟨hcaps, hone⟩ := hcaps
        have hvrs : VRs ρ1 (ys ++ caps.map fun a => .one (.ptr (some a))) (args.map a.eval ++ vs).toList := by
          rw [Array.toList_append, Array.toList_map]
          rw [zip_map_fst _ _ _ hlen] at hys
          exact VRs_append hys hcaps.vrs
        have told : Told C.P g (args.map a.eval ++ vs) w fun v w' => LOut ρ0 h0 w0 C al e o ws h σ k (a.put o.dst v) w' := by
          refine (hs _ _ _ _ ho1 ρ1 w _ iv1.hr hvrs).mono fun v w' ⟨ρ2, h2, rs, hret, hpost, hr2, fr2⟩ => ?_
          obtain ⟨hws, hpost⟩ := watch_out hpost
          obtain ⟨xs, hrx, hk⟩ := exVs_out hpost
          subst hrx
          have iv2 := iv1.step hr2 fr2
          obtain ⟨h3, h4, h5, h6⟩ := ret_TR (w := w') (w0 := w0) (a := a) hret
          obtain ⟨d2, iv3, ho3, hd3⟩ := put_sound (v := v) hk iv2 h3 h4 (fun _ _ _ => trivial) h6
          refine ⟨ρ2, h2, d2 ++ d1, by rw [over_append']; exact iv3, by rw [List.append_assoc]; exact ho3, fun j hj => (hws j hj).trans (hw1 j hj), fun p hp => ?_⟩
          rcases List.mem_append.1 hp with hp | hp
          · exact turn_dst (hd3 p hp) h5
          · obtain ⟨h7, ⟨q, hq, hq2⟩, h8, h9⟩ := hd1 p hp
            refine ⟨⟨h7, .inr (.inl ⟨?_, h8⟩)⟩, noRefs_v h9⟩
            rw [hop, hq2]
            have := (List.of_mem_zip hq).1
            simp [Op.operands, Call.operands]
            exact .inr (by simpa using this)
        have fin : ∀ (g' : FuncId) (us : Array Value), (execOp a.eval o).run C.P w = (callFunc g' us).run C.P w → Told0 C.P g' us w (fun v w' => LOut ρ0 h0 w0 C al e o ws h σ k (a.put o.dst v) w') → o.wp C.P a w (LOut ρ0 h0 w0 C al e o ws h σ k) Q := fun g' us hrun0 told => by
          unfold Oper.wp
          rcases told with ⟨⟨fn, hfn, hname, hbody⟩, hcall⟩ | ⟨v, w', hcf, hl⟩
          · have hrun : (execOp a.eval o).run C.P w = .ok (.enter g' us) w := by
              rw [hrun0]
              simp only [callFunc, Sem.run_bind, Sem.run_pure, Result.andThen_ok, run_program, hfn, hname, hbody, Bool.false_eq_true, if_false, Sem.run_ite]
            rw [hrun]
            refine Calls.mono hcall fun en w' ⟨v, he, hl⟩ => ?_
            subst he
            exact hl
          · rw [hrun0, hcf]
            exact hl
        cases hbg : isBnd g with
        | false =>
          rw [told_plain hbg] at told
          rw [fnV_plain hbg] at hev
          refine fin _ _ ?_ told
          unfold execOp
          rw [hop]
          simp only [resolve, Sem.run_bind, Sem.run_pure, Result.andThen_ok, hev, Deferred.ofValue, invoke, Array.empty_append]
        | true =>
          obtain ⟨as, r, hvs, told0⟩ := told_bnd hbg told
          rw [fnV_bnd hbg] at hev
          generalize offB g = g' at told0 hev
          have hve : vs = #[r] ∧ args.map a.eval = as := by
            have h1 := hone hbg
            have h2 := hcaps.length
            obtain ⟨u, hu⟩ : ∃ u, vs = #[u] := by
              obtain ⟨l⟩ := vs
              match l, h2 with
              | [u], _ => exact ⟨u, rfl⟩
              | [], h2 => rw [h1] at h2; cases h2
              | _ :: _ :: _, h2 => rw [h1] at h2; simp at h2
            subst hu
            have h3 := congrArg Array.toList hvs
            simp only [Array.toList_append, Array.toList_push] at h3
            obtain ⟨h4, h5⟩ := List.append_inj' h3 rfl
            cases h5
            exact ⟨rfl, Array.ext' h4⟩
          obtain ⟨rfl, rfl⟩ := hve
          refine fin _ _ ?_ told0
          unfold execOp
          rw [hop]
          simp only [resolve, Sem.run_bind, Sem.run_pure, Result.andThen_ok, hev]
          rw [ofValue_bnd, Sem.run_pure, Result.andThen_ok]
          show (callFunc g' (#[r] ++ args.map a.eval ++ #[])).run C.P w = _
          rw [Array.append_empty]
    · exact ho.elim
  · exact ho.elim

/-- The theorem. -/
theorem loud_build {o : Oper} {t : TypeId} {n : Nat} {ps : Array (Nat × Operand)} (hop : o.op = .buildSlice t n ps) (ho : loudOp C al ws e o k h) (iv : Inv ρ0 h0 w0 C ρ h w σ a)
    (hx : ∀ x ∈ o.op.operands, SameAt e σ x) : o.wp C.P a w (LOut ρ0 h0 w0 C al e o ws h σ k) Q := by
  unfold loudOp at ho
  rw [hop] at ho
  simp only at ho
  cases hl : litOf (pureRes C e o) with
  | none => rw [hl] at ho; exact ho.elim
  | some p =>
    obtain ⟨sz, m, cs⟩ := p
    rw [hl] at ho
    cases hd : o.dst with
    | none => rw [hd] at ho; exact ho.elim
    | some d =>
      rw [hd] at ho
      simp only at ho
      have hpr : pureRes C e o = .val (.lit sz m cs) := by
        unfold litOf at hl
        split at hl
        · rename_i hr; cases hl; exact hr
        · cases hl
      obtain ⟨x, ids, hout, hxe⟩ := Res.run_out (r := pureRes C e o) (k := fun x _ _ => x = .lit sz m cs) (h := h) (by rw [hpr]; exact rfl)
      subst hxe
      have hP := pure_sound (C := C) (o := o) (n0 := w0.heap.size) iv.hr (fun x hm => (hx x hm).opdR iv) (fun hm => by rw [hop] at hm; cases hm) (fun t ks cs ds us vs op x' y' => eqOk C.P ρ w t ks cs ds us vs op x' y') hout
      obtain ⟨c, el, hr, hn, hcs⟩ := hP
      simp only [put] at ho
      cases hb : (d.blt C.ntmps && al.testBit d && !C.own.testBit d) with
      | false => rw [hb] at ho; exact ho.elim
      | true =>
        rw [hb] at ho
        simp only [Bool.and_eq_true, Bool.not_eq_true'] at hb
        refine wp_value hr ?_
        rw [hd]
        have iv1 := iv.putNew (d := d) (el := el) (Nat.lt_of_lt_of_le (Nat.lt_succ_self d) (Nat.le_of_ble_eq_true hb.1.1)) (fun u off e => by have := iv.refs u d off e; rw [hb.2] at this; cases this) (.inr ⟨sz, m, cs, rfl, rfl, hn, hcs⟩)
        have hg : Env.get ((d, .lit sz m cs) :: e) d = .lit sz m cs := by simp [Env.get]
        have ho2 : asV al ((d, .lit sz m cs) :: e) (.tmp d) (opd C ((d, .lit sz m cs) :: e) 0 (.tmp d)) (fun _ e'' => k e'') h := by
          show asV al _ _ (Env.get _ d) _ h
          rw [hg]; exact ho
        obtain ⟨ρ', h', d2, y, iv2, hk2, hy, hle, hws, hd2⟩ := asV_sound ws ho2 iv1 (fun u hu => by cases hu; rw [hg]; simp [Env.over])
        refine ⟨ρ', h', d2 ++ [(d, .lit sz m cs)], by rw [over_append']; exact iv2, by rw [List.append_assoc]; exact hk2, hws, fun p hp => ?_⟩
        rcases List.mem_append.1 hp with hp | hp
        · obtain ⟨h1, h2, _, h4⟩ := hd2 p hp
          have h2' : p.1 = d := by simpa using h2
          exact ⟨⟨h1, .inl (by rw [h2', hd])⟩, noRefs_v h4⟩
        · simp at hp
          subst hp
          exact ⟨⟨hb.1.2, .inl hd⟩, fun _ _ e => by cases e⟩

/-! ### ranges over maps -/
theorem getPtr_R {x : Operand} {p : Nat × Nat} (hx : OpdR e a ρ w w0.heap.size x) (h : getPtr (opdBare e x) = some (some p)) : ∃ l, ρ p.1 = some l ∧ a.eval x = .pointer (some ⟨l.block, l.base + p.2, none⟩) := by
  unfold getPtr at h
  split at h
  · rename_i m hm; cases h; exact opdBare_V hx hm
  · cases h
theorem loud_range {t : TypeId} {x : Operand} (hop : o.op = .range t x) (ho : loudOp C al ws e o k h) (iv : Inv ρ0 h0 w0 C ρ h w σ a) (hx : ∀ x ∈ o.op.operands, SameAt e σ x) : o.wp C.P a w (LOut ρ0 h0 w0 C al e o ws h σ k) Q := by
  have hxx := (hx x (by rw [hop]; simp [Op.operands])).opdR iv
  unfold loudOp at ho
  rw [hop] at ho
  simp only at ho
  split at ho
  · rename_i kt el mo hu hm
    cases mo with
    | none => exact ho.elim
    | some i =>
    obtain ⟨es, hi, hk⟩ := ho
    have hmv : opd C e t x = .v (.one (.map (some i))) := by
      unfold getMap at hm
      split at hm
      · rename_i a' ha'; cases hm; exact ha'
      · cases hm
    obtain ⟨l, hl, hev⟩ : ∃ l, ρ i = some l ∧ a.eval x = .map (some l.block) := opd_V hxx hmv
    obtain ⟨ob, hob, ms, clock, rfl, hms, hst⟩ := iv.hr.live i _ l hi hl
    have hlen : es.length = ms.toList.length := EsR.len hms
    obtain ⟨fs, hfs⟩ : ∃ fs, es.zip (ms.toList.map (·.born)) = fs := ⟨_, rfl⟩
    have hfs1 : fs.map (·.1) = es := by rw [← hfs]; exact List.map_fst_zip (by simp [hlen])
    have hfs2 : fs.map (·.2) = ms.toList.map (·.born) := by rw [← hfs]; exact List.map_snd_zip (by simp [hlen])
    obtain ⟨hr1, fr1⟩ := iv.hr.recast (o' := .mapF fs clock) hi rfl hl hob ⟨ms, rfl, by rw [hfs1]; exact hms, hfs2.symm, hst⟩
    obtain ⟨j, hj, hρ, _⟩ := iv.hr.pickW []
    have hji : j ≠ i := fun e => by rw [e, hi] at hj; cases hj
    obtain ⟨hr2, fr2⟩ := hr1.new (i := j) (o := .iter i [] clock) (ob := .mapIter (some l.block) clock #[] clock) (n := 1) (by rw [Heap.set_ne _ _ hji]; exact hj) hρ (fun ρ' hle => ⟨rfl, l, hle _ _ hl, rfl⟩)
    have iv2 := iv.step hr2 (fr1.trans fr2)
    have hnd : (fs.map (·.2)).Nodup := by rw [hfs2]; exact ((MapKept.stamped_iff _ _).1 hst).2.1
    obtain ⟨d2, iv3, ho3, hd3⟩ := put_sound (v := .pointer (some ⟨w.heap.size, 0, none⟩)) (hk fs clock hfs1 hnd j hj) iv2 ⟨_, Rho.put_same _ _ _, rfl⟩ rfl (by simp) (by simp)
    refine wp_value (v := .pointer (some ⟨w.heap.size, 0, none⟩)) (w' := { w with heap := w.heap.push (.mapIter (some l.block) clock #[] clock) }) ?_ ⟨_, _, d2, iv3, ho3, (fun j hj => by cases hj), fun p hp => turn_dst (hd3 p hp) (by intro _ _ e; cases e)⟩
    unfold execOp
    rw [hop]
    simp only [hev, Sem.run_bind, run_range_map w t kt el l.block ms clock hu hob, Result.andThen_ok, Sem.run_pure]
    rfl
  · exact ho.elim
theorem loud_next {x : Operand} (hop : o.op = .next x false) (ho : loudOp C al ws e o k h) (iv : Inv ρ0 h0 w0 C ρ h w σ a) (hx : ∀ x ∈ o.op.operands, SameAt e σ x) : o.wp C.P a w (LOut ρ0 h0 w0 C al e o ws h σ k) Q := by
  have hxx := (hx x (by rw [hop]; simp [Op.operands])).opdR iv
  unfold loudOp at ho
  rw [hop] at ho
  simp only at ho
  split at ho
  · rename_i j kk kv hp hvk
    obtain ⟨i, fs, ck, seen, hj, hi, hend, hone⟩ := ho
    obtain ⟨l, hl, hev⟩ := getPtr_R hxx hp
    obtain ⟨ob, hob, hb0, lm, hlm, rfl⟩ := iv.hr.live j _ l hj hl
    obtain ⟨ob, hobi, ms, rfl, hms, hborn, hst⟩ := iv.hr.live i _ lm hi hlm
    obtain ⟨hlt, hnd, _⟩ := (MapKept.stamped_iff _ _).1 hst
    rw [hb0] at hev
    have hex : ∀ v' w', (Instr.next (.pointer (some ⟨l.block, 0, none⟩)) false o.type).run C.P w = .ok v' w' → (execOp a.eval o).run C.P w = .ok (.value v') w' := fun v' w' hr => by
      unfold execOp
      rw [hop]
      simp only [hev, Nat.zero_add, Sem.run_bind, hr, Result.andThen_ok, Sem.run_pure]
    rcases run_next (P := C.P) w l.block lm.block ck seen.toArray ms o.type hob hobi hlt with ⟨hz, hrun⟩ | ⟨w1, hw1, m, hm, hrun⟩
    · obtain ⟨hr1, fr1⟩ := iv.hr.recast (o' := .map (fs.map (·.1))) hi rfl hlm hobi ⟨ms, ck, rfl, hms, hst⟩
      have iv2 := iv.step hr1 fr1
      obtain ⟨d2, iv3, ho3, hd3⟩ := put_sound (v := .tuple #[.bool false]) (hend (left_nil hms hborn hz)) iv2 ⟨#[.bool false], rfl, rfl, trivial⟩ rfl (by simp) (by simp)
      exact wp_value (hex _ _ hrun) ⟨_, _, d2, iv3, ho3, (fun j hj => by cases hj), fun p hp => turn_dst (hd3 p hp) (by intro _ _ e; cases e)⟩
    · obtain ⟨f, hf, hfb, hk1, hk2⟩ := EsR.of_mem hms hborn (mem_left hm).1
      obtain ⟨x1, _, hx1⟩ := exV_out (hone f (left_mem hf hm hfb))
      obtain ⟨y1, _, hy1, hy2, hput⟩ := exV_out hx1
      have iv1 : Inv ρ0 h0 w0 C ρ h w1 σ a := by
        rcases hw1 with rfl | rfl
        · exact iv
        · exact iv.step iv.hr.drew Fr.drew
      have hob1 : w1.heap[l.block]? = some (.mapIter (some lm.block) ck seen.toArray ck) := by
        rcases hw1 with rfl | rfl
        · exact hob
        · exact hob
      obtain ⟨hr1, fr1⟩ := iv1.hr.turn (o' := .iter i (seen ++ [f.2]) ck) (ob' := .mapIter (some lm.block) ck (seen.toArray.push m.born) ck) hj rfl hl hob1 ⟨hb0, lm, hlm, by rw [hfb]; simp⟩
      have iv2 := iv1.step hr1 fr1
      have hkx : VR ρ x1 m.key := by rw [← hy1]; exact hk1
      have hvx : VR ρ y1 m.val := by rw [← hy2]; exact hk2
      obtain ⟨d2, iv3, ho3, hd3⟩ := put_sound (v := .tuple #[.bool true, m.key, m.val]) hput iv2 ⟨#[.bool true, m.key, m.val], rfl, rfl, hkx, hvx, trivial⟩ rfl (by simp) (by simp)
      exact wp_value (hex _ _ hrun) ⟨_, _, d2, iv3, ho3, (fun j hj => by cases hj), fun p hp => turn_dst (hd3 p hp) (by intro _ _ e; cases e)⟩
  · exact ho.elim
theorem loud_entry {x : Operand} (hop : o.op = .entry x) (ho : loudOp C al ws e o k h) (iv : Inv ρ0 h0 w0 C ρ h w σ a) (hx : ∀ x ∈ o.op.operands, SameAt e σ x) : o.wp C.P a w (LOut ρ0 h0 w0 C al e o ws h σ k) Q := by
  have hxx := (hx x (by rw [hop]; simp [Op.operands])).opdR iv
  unfold loudOp at ho
  rw [hop] at ho
  simp only at ho
  split at ho
  · rename_i j kk kv hp hvk
    obtain ⟨i, fs, ck, seen, f, hj, hi, hf, hone⟩ := ho
    obtain ⟨l, hl, hev⟩ := getPtr_R hxx hp
    obtain ⟨ob, hob, hb0, lm, hlm, rfl⟩ := iv.hr.live j _ l hj hl
    obtain ⟨ob, hobi, ms, rfl, hms, hborn, hst⟩ := iv.hr.live i _ lm hi hlm
    obtain ⟨hlt, hnd, _⟩ := (MapKept.stamped_iff _ _).1 hst
    rw [hb0] at hev
    obtain ⟨m, hm, hfb, hk1, hk2⟩ := EsR.to_mem hms hborn hf
    obtain ⟨x1, _, hx1⟩ := exV_out hone
    obtain ⟨y1, _, hy1, hy2, hput⟩ := exV_out hx1
    have hob1 : w.heap[l.block]? = some (.mapIter (some lm.block) ck (seen.toArray.push m.born) ck) := by
      rw [hob, hfb]; simp
    have hrun := run_entry (P := C.P) w l.block lm.block ck seen.toArray ms m hob1 hobi hm hnd
    have hkx : VR ρ x1 m.key := by rw [← hy1]; exact hk1
    have hvx : VR ρ y1 m.val := by rw [← hy2]; exact hk2
    obtain ⟨d2, iv3, ho3, hd3⟩ := put_sound (v := .tuple #[m.key, m.val]) hput iv ⟨#[m.key, m.val], rfl, hkx, hvx, trivial⟩ rfl (by simp) (by simp)
    refine wp_value (v := .tuple #[m.key, m.val]) (w' := w) ?_ ⟨_, _, d2, iv3, ho3, (fun j hj => by cases hj), fun p hp => turn_dst (hd3 p hp) (by intro _ _ e; cases e)⟩
    unfold execOp
    rw [hop]
    simp only [hev, Nat.zero_add, Sem.run_bind, hrun, Result.andThen_ok, Sem.run_pure]
  · exact ho.elim

/-- A struct of which a part is a slice that got its place just before. -/
theorem loud_struct {o : Oper} {t : TypeId} {ps : Array (Nat × Operand)} (hop : o.op = .build t ps) (ho : loudOp C al ws e o k h) (iv : Inv ρ0 h0 w0 C ρ h w σ a)
    (hx : ∀ x ∈ o.op.operands, SameAt e σ x) : o.wp C.P a w (LOut ρ0 h0 w0 C al e o ws h σ k) Q := by
  unfold loudOp at ho
  rw [hop] at ho
  simp only at ho
  cases hl : builtV (pureRes C e o) with
  | none => rw [hl] at ho; exact ho.elim
  | some x =>
    rw [hl] at ho
    simp only at ho
    have hpr : pureRes C e o = .val (.v x) := by
      unfold builtV at hl
      split at hl
      · rename_i hr; cases hl; exact hr
      · cases hl
    obtain ⟨y, ids, hout, hxe⟩ := Res.run_out (r := pureRes C e o) (k := fun y _ _ => y = .v x) (h := h) (by rw [hpr]; exact rfl)
    subst hxe
    have hP := pure_sound (C := C) (o := o) (n0 := w0.heap.size) iv.hr (fun x hm => (hx x hm).opdR iv) (fun hm => by rw [hop] at hm; cases hm) (fun t ks cs ds us vs op x' y' => eqOk C.P ρ w t ks cs ds us vs op x' y') hout
    obtain ⟨v, hr, hv⟩ := hP
    obtain ⟨d, iv2, hk, hd⟩ := put_sound (v := v) ho iv hv (by cases v <;> rfl) (by simp) (by simp)
    exact wp_value hr ⟨ρ, h, d, iv2, hk, fun _ _ => rfl, fun p hp => turn_dst (hd p hp) (by intro _ _ e; cases e)⟩

theorem loud_sound (hs : Sound C.P C.calls) (ho : loudOp C al ws e o k h) (iv : Inv ρ0 h0 w0 C ρ h w σ a) (hx : ∀ x ∈ o.op.operands, SameAt e σ x)
    (hv : isMemOp o.op = true → ∀ u t' off, .tmp u ∈ o.op.operands → e.get u = .ref t' off → σ t' = e.get t') : o.wp C.P a w (LOut ρ0 h0 w0 C al e o ws h σ k) Q := by
  have ho' := ho
  unfold loudOp at ho
  split at ho
  · rename_i x hop; exact loud_move (.inl hop) ho iv hx
  · rename_i x hop; exact loud_move (.inr hop) ho iv hx
  · rename_i t hop; exact loud_alloc hop ho' iv
  · rename_i t x hop; exact loud_box hop ho' iv hx
  · rename_i t ad x hop; exact loud_store hop ho' iv hx (hv (by rw [hop]; rfl))
  · rename_i s d x hop; exact loud_convert hop ho' iv hx
  · rename_i t n ps hop; exact loud_build hop ho' iv hx
  · rename_i t ps hop; exact loud_struct hop ho' iv hx
  · rename_i t n c hop; exact loud_makeSlice hop ho' iv hx
  · rename_i t r hop; exact loud_makeMap hop ho' iv
  · rename_i t m kx x hop; exact loud_mapUpdate hop ho' iv hx
  · rename_i t m kx x hop; exact loud_insert hop ho' iv hx
  · rename_i t m kx hop; exact loud_mapEntry hop ho' iv hx
  · rename_i t m s x hop; exact loud_entryStore hop ho' iv hx
  · rename_i args argTypes hop; exact loud_append hop ho' iv hx
  · rename_i args argTypes hop; exact loud_copy hop ho' iv hx
  · rename_i args argTypes hop; exact loud_clear hop ho' iv hx
  · rename_i t x hop; exact loud_range hop ho' iv hx
  · rename_i x hop; exact loud_next hop ho' iv hx
  · rename_i x hop; exact loud_entry hop ho' iv hx
  · rename_i f args argTypes hop; exact loud_call hs hop ho' iv hx
  · exact ho.elim

theorem litFirst_mem {o : Oper} {p : Operand × TypeId} (hp : p ∈ litFirst C e o) : p.1 ∈ o.op.operands ∧ isMemOp o.op = false ∧ ∀ ty x y, o.op ≠ .store ty x y := by
  unfold litFirst at hp
  split at hp
  · rename_i args argTypes hop
    split at hp
    · rename_i s' x t' t'' hargs _
      split at hp
      · have hp := List.mem_singleton.1 hp
        subst hp
        have hargs' : args = #[s', x] := by apply Array.ext'; simpa using hargs
        rw [hop, hargs']
        exact ⟨by simp [Op.operands, Call.operands], rfl, fun _ _ _ h => by cases h⟩
      · cases hp
    · cases hp
  · rename_i t ps hop
    rw [List.mem_filterMap] at hp
    obtain ⟨q, hq, hp⟩ := hp
    split at hp
    · cases hp
      rw [hop]
      refine ⟨?_, rfl, fun _ _ _ h => by cases h⟩
      have hq' : q ∈ ps := by simpa using hq
      simp only [Op.operands]
      rw [List.mem_toArray, List.mem_map]
      exact ⟨q, hq, rfl⟩
    · cases hp
  · cases hp

theorem loud_sound2 {o : Oper} (hs : Sound C.P C.calls) (ho : loudOp2 C al ws e o k h) (iv : Inv ρ0 h0 w0 C ρ h w σ a) (hx : ∀ x ∈ o.op.operands, SameAt e σ x)
    (hv : isMemOp o.op = true → ∀ u t' off, .tmp u ∈ o.op.operands → e.get u = .ref t' off → σ t' = e.get t') : o.wp C.P a w (LOut ρ0 h0 w0 C al e o ws h σ k) Q := by
  unfold loudOp2 at ho
  cases hl : litFirst C e o with
  | nil => rw [hl] at ho; exact loud_sound hs ho iv hx hv
  | cons q l =>
    rw [hl] at ho
    simp only at ho
    rw [← hl] at ho
    obtain ⟨_, hmem, hst⟩ := litFirst_mem (show q ∈ litFirst C e o by rw [hl]; exact List.mem_cons_self)
    obtain ⟨ρ1, h1, d1, y, iv1, hk1, _, _, hw1, hd1⟩ := asVs_sound ws ho iv (fun p hp => hx p.1 (litFirst_mem hp).1)
    refine Oper.wp_mono (fun a' w' ho => ?_) (loud_sound (Q := Q) hs hk1 iv1 (fun x hxm => (hx x hxm).over d1) (fun hm' => by rw [hmem] at hm'; cases hm'))
    obtain ⟨ρ', h', d2, iv2, hk2, hw2, hd2⟩ := ho
    refine ⟨ρ', h', d2 ++ d1, by rw [over_append']; exact iv2, by rw [List.append_assoc]; exact hk2, fun i hi => (hw2 i hi).trans (hw1 i hi), fun p hp => ?_⟩
    rcases List.mem_append.1 hp with hp | hp
    · obtain ⟨⟨h3, h4⟩, h5⟩ := hd2 p hp
      refine ⟨⟨h3, ?_⟩, h5⟩
      rcases h4 with h4 | ⟨h4, h6⟩ | ⟨⟨ty, x, y, h4⟩, _⟩
      · exact .inl h4
      · rw [Env.get_append] at h6
        exact .inr (.inl ⟨h4, over_lit d1 _ (fun r hr => (hd1 r hr).2.2.2) h6⟩)
      · exact absurd h4 (hst ty x y)
    · obtain ⟨h3, ⟨r, hr, h4⟩, h5, h6⟩ := hd1 p hp
      exact ⟨⟨h3, .inr (.inl ⟨by rw [h4]; exact (litFirst_mem hr).1, h5⟩)⟩, noRefs_v h6⟩

end
end Go.Proofs.YtadakbmoanbcgaaGreatDoorVc
