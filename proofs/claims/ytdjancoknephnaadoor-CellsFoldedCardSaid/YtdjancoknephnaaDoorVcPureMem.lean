/- Vc, part 7: loads, addresses, slices. -/
import Derived.Test.YtdjancoknephnaaDoorVcPureBin
set_option linter.unusedSimpArgs false
set_option linter.unusedVariables false
namespace Go.Proofs.YtdjancoknephnaaDoorVc

def VK.like : VK → V → Prop
  | .one _, .one _ => True
  | .agg _, .agg _ => True
  | _, _ => False
theorem VK.fits_like {k : VK} {x : V} (h : k.fits x) : k.like x := by cases k <;> cases x <;> first | trivial | exact h.elim
theorem ofCells_like {k : VK} {cs : List Cell} {x : V} (h : ofCells k cs = some x) : k.like x ∧ x.cells = cs := by
  cases k with
  | one k =>
    match cs, h with
    | [c], h => cases h; exact ⟨trivial, rfl⟩
  | agg ks =>
    simp only [ofCells] at h
    split at h
    · cases h; exact ⟨trivial, rfl⟩
    · cases h

theorem vk_one {P : Program} {t : TypeId} {k : Kd} (h : vk P t = some (.one k)) :
    ∃ d, P.underlying t = some d ∧ (∀ fs, d ≠ .struct fs) ∧ (∀ n e, d ≠ .array n e) ∧ kdOf P t = some k ∧ ∃ i, P.info? t = some i ∧ i.size = 1 := by
  unfold vk at h
  split at h
  · split at h
    · split at h <;> cases h
    · cases h
  · split at h
    · split at h <;> cases h
    · cases h
  · rename_i h1 h2
    split at h
    · rename_i k' hk
      split at h
      · rename_i hs
        cases h
        obtain ⟨i, hi, hsz⟩ : ∃ i, P.info? t = some i ∧ i.size = 1 := by
          unfold sized at hs
          split at hs
          · rename_i i hi; exact ⟨i, hi, by simpa using hs⟩
          · cases hs
        cases hu : P.underlying t with
        | none => rw [kdOf, hu] at hk; cases hk
        | some d => exact ⟨d, rfl, fun fs e => h1 fs (by rw [hu, e]), fun n e' e => h2 n e' (by rw [hu, e]), hk, i, hi, hsz⟩
      · cases h
    · cases h

theorem vk_agg {P : Program} {t : TypeId} {ks : List Kd} (h : vk P t = some (.agg ks)) :
    ((∃ fs, P.underlying t = some (.struct fs)) ∨ ∃ n e, P.underlying t = some (.array n e)) ∧ flat P 8 t = some ks ∧ ∃ i, P.info? t = some i ∧ i.size = ks.length := by
  have key : ∀ {ks' : List Kd}, (if sized P t ks'.length = true then some (VK.agg ks') else none) = some (.agg ks) → ks' = ks ∧ ∃ i, P.info? t = some i ∧ i.size = ks.length := by
    intro ks' h
    split at h
    · rename_i hs
      cases h
      unfold sized at hs
      split at hs
      · rename_i i hi; exact ⟨rfl, i, hi, by simpa using hs⟩
      · cases hs
    · cases h
  unfold vk at h
  split at h
  · rename_i fs hu
    split at h
    · rename_i ks' hf; obtain ⟨rfl, h2⟩ := key h; exact ⟨.inl ⟨fs, hu⟩, hf, h2⟩
    · cases h
  · rename_i n e hu
    split at h
    · rename_i ks' hf; obtain ⟨rfl, h2⟩ := key h; exact ⟨.inr ⟨n, e, hu⟩, hf, h2⟩
    · cases h
  · split at h
    · split at h <;> cases h
    · cases h

section
variable {P : Program} {ρ : Rho} {w : World} {n0 : Nat} {tm : Array Value}

theorem run_isAgg_one {t : TypeId} {k : Kd} (h : vk P t = some (.one k)) : (isAgg t).run P w = .ok false w := by
  obtain ⟨d, hu, h1, h2, _⟩ := vk_one h
  unfold isAgg
  simp only [Sem.run_bind, run_underlying hu, Result.andThen_ok]
  rfl
theorem run_isAgg_agg {t : TypeId} {ks : List Kd} (h : vk P t = some (.agg ks)) : (isAgg t).run P w = .ok true w := by
  obtain ⟨hu, _⟩ := vk_agg h
  unfold isAgg
  rcases hu with ⟨fs, hu⟩ | ⟨n, e, hu⟩ <;> simp only [Sem.run_bind, run_underlying hu, Result.andThen_ok] <;> rfl
theorem run_sizeOf {t : TypeId} {i : TypeInfo} (h : P.info? t = some i) : (sizeOf t).run P w = .ok i.size w := by
  simp [sizeOf, typeInfo, h]
theorem vk_size {t : TypeId} {k : VK} (h : vk P t = some k) : ∃ i, P.info? t = some i ∧ i.size = k.kds.length := by
  cases k with
  | one k => obtain ⟨_, _, _, _, _, i, h1, h2⟩ := vk_one h; exact ⟨i, h1, h2⟩
  | agg ks => obtain ⟨_, _, i, h1, h2⟩ := vk_agg h; exact ⟨i, h1, h2⟩

theorem cell_at {b o : Nat} {c : Array Value} {el : TypeId} {fz : Nat × Nat} (hb : w.heap[b]? = some (.cells c el fz)) : w.cell? ⟨b, o, none⟩ = c[o]? := by
  simp [World.cell?, hb]

/-- A load of a whole variable. -/
theorem loadVar_run {t : TypeId} {k : VK} (hk : vk P t = some k) {b o : Nat} {c : Array Value} {el : TypeId} {fz : Nat × Nat}
    (hb : w.heap[b]? = some (.cells c el fz)) {cs : List Cell} (hl : cs.length = k.kds.length) (hs : CRs ρ cs ((c.toList.drop o).take cs.length)) :
    ∃ v, (loadVar t ⟨b, o, none⟩).run P w = .ok v w ∧ ∀ x : V, k.like x → x.cells = cs → VR ρ x v := by
  cases k with
  | one k =>
    simp only [VK.kds, List.length_singleton] at hl
    match cs, hl, hs with
    | [x], _, hs =>
      obtain ⟨v, hv, hr⟩ := hs.get (j := 0) (c := x) (by simp)
      simp at hv
      refine ⟨v, ?_, fun y hy hc => ?_⟩
      · unfold loadVar
        simp only [Sem.run_bind, run_isAgg_one hk, Result.andThen_ok, Bool.false_eq_true, if_false]
        rw [run_load, cell_at hb]
        rw [hv]
      · cases y with
        | one z => simp at hc; subst hc; exact hr
        | agg _ => exact hy.elim
  | agg ks =>
    obtain ⟨_, _, i, hi, hsz⟩ := vk_agg hk
    have hlen := hs.length
    refine ⟨.agg ((c.toList.drop o).take cs.length).toArray, ?_, fun y hy hc => ?_⟩
    · unfold loadVar
      simp only [Sem.run_bind, run_isAgg_agg hk, Result.andThen_ok, if_true, run_sizeOf hi, hsz]
      have hn : ks.length = ((c.toList.drop o).take cs.length).length := by rw [← hlen]; exact hl.symm
      rw [hn, run_loadCells_list (P := P) w ⟨b, o, none⟩ _ (fun j v hj => ?_)]
      · rfl
      · rw [Addr.add_lit, cell_at hb]
        rw [List.getElem?_take] at hj
        split at hj
        · simpa using hj
        · cases hj
    · cases y with
      | one _ => exact hy.elim
      | agg ds => cases hc; exact ⟨_, rfl, by simpa using hs⟩

theorem HR.read {h : Heap} (hr : HR ρ h w) {i o n : Nat} {cs : List Cell} (hd : h.read i o n = some cs) {l : Loc} (hl : ρ i = some l) :
    ∃ c el fz, w.heap[l.block]? = some (.cells c el fz) ∧ cs.length = n ∧ CRs ρ cs ((c.toList.drop (l.base + o)).take cs.length) ∧ l.base + o + n ≤ c.size := by
  unfold Heap.read at hd
  split at hd
  · rename_i ro ds hi
    split at hd
    · rename_i hle
      cases hd
      obtain ⟨ob, hob, c, el, fz, rfl, hsz, hb, hcs, _⟩ := hr.live i _ l hi hl
      have hlen : ((ds.drop o).take n).length = n := by simp; omega
      refine ⟨c, el, fz, hob, hlen, ?_, by omega⟩
      have := (hcs.drop o).take n
      rw [List.drop_take, List.drop_drop, List.take_take] at this
      rw [hlen]
      have hmin : min n (ds.length - o) = n := by omega
      rw [hmin] at this
      exact this
    · cases hd
  · cases hd

theorem run_loadAt {t : TypeId} {ad : Addr} {v : Value} (h : (loadVar t ad).run P w = .ok v w) : (Instr.loadAt t (.pointer (some ad))).run P w = .ok v w := by
  simp [Instr.loadAt, Instr.sureAddr, h]

theorem load_R {e : Env} {a : Act} {h : Heap} {t : TypeId} {x : Operand} {z : TV} {ids : List Nat} (hr : HR ρ h w)
    (hx : OpdR e a ρ w n0 x) (hv : ∀ u t' o, x = .tmp u → e.get u = .ref t' o → TR ρ w n0 a.tmps (e.get t') (a.tmps.getD t' undef))
    (ho : (loadRes P e t x).out h z ids) : VOut P ρ w z (Instr.loadAt t (a.eval x)) := by
  unfold loadRes at ho
  have fromVar : ∀ {cs : List Cell} {o : Nat} {b : Nat} (hp : Priv ρ w n0 b cs), a.eval x = .pointer (some ⟨b, o, none⟩) →
      (match vk P t with
        | some k => match ofCells k ((cs.drop o).take k.kds.length) with
          | some x => Res.val (.v x)
          | none => .bad
        | none => .bad).out h z ids → VOut P ρ w z (Instr.loadAt t (a.eval x)) := by
    intro cs o b hp hev ho
    split at ho
    · rename_i k hk
      split at ho
      · rename_i y hy
        cases out_val ho
        obtain ⟨h1, h2⟩ := ofCells_like hy
        obtain ⟨_, _, c, el, hb, hcs⟩ := hp
        have hl : ((cs.drop o).take k.kds.length).length = k.kds.length := by
          rw [← h2]
          cases k <;> cases y <;> first | exact h1.elim | rfl | skip
          simp only [ofCells] at hy
          split at hy
          · rename_i hq; cases hy; exact (Nat.eq_of_beq_eq_true hq).symm
          · cases hy
        obtain ⟨v, hv1, hv2⟩ := loadVar_run (ρ := ρ) hk hb (o := o) hl (by
          have := (hcs.drop o).take k.kds.length
          rwa [hl])
        exact ⟨y, v, rfl, by rw [hev]; exact run_loadAt hv1, hv2 y h1 h2⟩
      · exact (out_bad ho).elim
    · exact (out_bad ho).elim
  cases x with
  | tmp u =>
    simp only at ho
    have hu : TR ρ w n0 a.tmps (e.get u) (a.tmps.getD u undef) := hx
    split at ho
    · rename_i cs hg
      rw [hg] at hu
      obtain ⟨b, hb, hp⟩ := hu
      exact fromVar hp hb ho
    · rename_i t' o hg
      have hu' := hv u t' o rfl hg
      rw [hg] at hu
      obtain ⟨b, hb, hb2⟩ := hu
      split at ho
      · rename_i cs hg'
        rw [hg'] at hu'
        obtain ⟨b', hb', hp⟩ := hu'
        rw [hb'] at hb
        cases hb
        exact fromVar hp hb2 ho
      · exact (out_bad ho).elim
    · rename_i p hg
      rw [hg] at hu
      split at ho
      · rename_i k hk
        obtain ⟨i, o, rfl, ho⟩ := out_deref ho
        obtain ⟨y, hy, h1, h2, h3, _⟩ := exV_out ho
        obtain ⟨l, hl, hev⟩ : PtrR ρ (i, o) _ := hu
        obtain ⟨c, el, fz, hb, hlen, hcs, _⟩ := hr.read h1 hl
        obtain ⟨v, hv1, hv2⟩ := loadVar_run (ρ := ρ) hk hb (o := l.base + o) (VK.fits_len hy) hcs
        refine ⟨y, v, h2.symm, ?_, hv2 y (VK.fits_like hy) rfl⟩
        show (Instr.loadAt t (a.tmps.getD u undef)).run P w = _
        rw [hev]
        exact run_loadAt hv1
      · exact (out_bad ho).elim
    · exact (out_bad ho).elim
  | const v => exact (out_bad ho).elim
  | global g =>
    simp only at ho
    split at ho
    · rename_i k hk
      obtain ⟨q, i, js, hq, ho⟩ := out_glob ho
      obtain ⟨y, hy, h1, h2, h3, _⟩ := exV_out ho
      obtain ⟨n, hl⟩ := hr.glob q g i hq
      obtain ⟨c, el, fz, hb, hlen, hcs, _⟩ := hr.read h1 hl
      obtain ⟨v, hv1, hv2⟩ := loadVar_run (ρ := ρ) hk hb (o := 0 + 0) (VK.fits_len hy) hcs
      refine ⟨y, v, h2.symm, ?_, hv2 y (VK.fits_like hy) rfl⟩
      show (Instr.loadAt t (.pointer (some ⟨g, 0, none⟩))).run P w = _
      exact run_loadAt hv1
    · exact (out_bad ho).elim
  | func f => exact (out_bad ho).elim
end

end Go.Proofs.YtdjancoknephnaaDoorVc
