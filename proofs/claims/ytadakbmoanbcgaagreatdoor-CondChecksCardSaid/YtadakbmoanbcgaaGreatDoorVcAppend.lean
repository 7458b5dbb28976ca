/- Vc, part 13: append. -/
import Derived.Test.YtadakbmoanbcgaaGreatDoorVcSteps
import Derived.Laws.Append
import Derived.Laws.AppendOwn
set_option linter.unusedSimpArgs false
set_option linter.unusedVariables false
namespace Go.Proofs.YtadakbmoanbcgaaGreatDoorVc

def World.drewOne (w : World) : World := { w with drawn := w.drawn + 1 }

section
variable {P : Program} {w : World}

theorem append_run_room {t t' ty el : TypeId} {inf : TypeInfo} {d : TypeDesc} {base : Option Addr} {sLen sCap m : Nat} {x : Value} {us : List Value}
    (ht : P.underlying t = some (.slice el)) (hi : P.info? el = some inf) (ht' : P.underlying t' = some d) (hd : ∀ k, d ≠ .int k)
    (hlen : (Builtin.lenOf x).run P w = .ok m w) (hf : (Builtin.firstCells inf.size m x).run P w = .ok us.toArray w) (hroom : sLen + m ≤ sCap) :
    (Builtin.append_ #[t, t'] ty #[.slice base sLen sCap, x]).run P w = match base with
      | some a => ((storeCells (a.add (sLen * inf.size)) us).run P w).andThen fun _ w' => .ok (.slice base (sLen + m) sCap) w'
      | none => .ok (.slice base (sLen + m) sCap) w := by
  have hz : (match d with | .int _ => true | _ => false) = false := by cases d <;> first | rfl | exact absurd rfl (hd _)
  simp only [Builtin.append_, List.getElem?_toArray, List.getElem?_cons_zero, List.getElem?_cons_succ, Sem.run_bind, run_underlying ht, run_underlying ht', Result.andThen_ok, run_sizeOf hi, Sem.run_pure, hz, hlen, Bool.false_eq_true, if_false, if_pos hroom, Bool.not_false, if_true, hf, Sem.run_ite]
  cases base <;> simp

theorem append_run_grow {t t' ty el : TypeId} {inf : TypeInfo} {z : Value} {d : TypeDesc} {base : Option Addr} {sLen sCap m : Nat} {x : Value} {us olds : List Value}
    (ht : P.underlying t = some (.slice el)) (hi : P.info? el = some inf) (hz : inf.zero = some z) (ht' : P.underlying t' = some d) (hd : ∀ k, d ≠ .int k)
    (hlen : (Builtin.lenOf x).run P w = .ok m w) (hf : (Builtin.firstCells inf.size m x).run P w.drew = .ok us.toArray w.drew)
    (hfo : (Builtin.firstCells inf.size sLen (.slice base sLen sCap)).run P w.drew = .ok olds.toArray w.drew)
    (hroom : ¬ sLen + m ≤ sCap) (h63 : sLen + m ≤ 9223372036854775807) (h48 : Builtin.nextslicecap (sLen + m) sCap * inf.bytes ≤ 281474976710656) :
    (Builtin.append_ #[t, t'] ty #[.slice base sLen sCap, x]).run P w =
      .ok (.slice (some ⟨w.heap.size, 0, none⟩) (sLen + m) (grownCap w (sLen + m) sCap el))
        { w.drew with heap := w.drew.heap.push (.cells (olds.toArray ++ us.toArray ++ Builtin.zeroCells z.cells (grownCap w (sLen + m) sCap el - (sLen + m))) el) } := by
  have hzz : (match d with | .int _ => true | _ => false) = false := by cases d <;> first | rfl | exact absurd rfl (hd _)
  have h63' : ¬ ((((sLen + m : Nat) : Int) > IntKind.i64.max) ∧ (False ∨ inf.bytes = 0)) := by rw [IntKind.max_i64]; omega
  have h48' : ¬ (Builtin.nextslicecap (sLen + m) sCap * inf.bytes > 2 ^ 48) := by omega
  have hinfo : (typeInfo el).run P w = .ok inf w := by simp [typeInfo, hi]
  have hinfo' : ∀ w1, (typeInfo el).run P w1 = .ok inf w1 := fun w1 => by simp [typeInfo, hi]
  simp only [Builtin.append_, List.getElem?_toArray, List.getElem?_cons_zero, List.getElem?_cons_succ, Sem.run_bind, run_underlying ht, run_underlying ht', Result.andThen_ok, run_sizeOf hi, Sem.run_pure, hzz, hlen, Bool.false_eq_true, if_false, if_neg hroom, Bool.not_false, if_true, Sem.run_ite, hinfo', if_neg h63', if_neg h48', run_choose, Question.forced, run_askRoom]
  have hw : ({ w with drawn := w.drawn + 1 } : World) = w.drew := rfl
  simp only [hw, hfo, hf, Result.andThen_ok, run_zeroValue hi hz, newRow, Sem.run_bind, run_newObj, Sem.run_pure]
  rfl

/-- What append comes to, where `us` are the cells of the m elements that are put behind. -/
structure AppRun (P : Program) (w : World) (t t' ty el : TypeId) (inf : TypeInfo) (z : Value) (x : Value) (m : Nat) (us : List Value) : Prop where
  room : ∀ {base : Option Addr} {sLen sCap : Nat}, sLen + m ≤ sCap → (Builtin.append_ #[t, t'] ty #[.slice base sLen sCap, x]).run P w = match base with
      | some a => ((storeCells (a.add (sLen * inf.size)) us).run P w).andThen fun _ w' => .ok (.slice base (sLen + m) sCap) w'
      | none => .ok (.slice base (sLen + m) sCap) w
  grow : ∀ {base : Option Addr} {sLen sCap : Nat} {olds : List Value}, (Builtin.firstCells inf.size sLen (.slice base sLen sCap)).run P w.drew = .ok olds.toArray w.drew →
    ¬ sLen + m ≤ sCap → sLen + m ≤ 9223372036854775807 → Builtin.nextslicecap (sLen + m) sCap * inf.bytes ≤ 281474976710656 →
    (Builtin.append_ #[t, t'] ty #[.slice base sLen sCap, x]).run P w =
      .ok (.slice (some ⟨w.heap.size, 0, none⟩) (sLen + m) (grownCap w (sLen + m) sCap el))
        { w.drew with heap := w.drew.heap.push (.cells (olds.toArray ++ us.toArray ++ Builtin.zeroCells z.cells (grownCap w (sLen + m) sCap el - (sLen + m))) el) }

theorem AppRun.plain {t t' ty el : TypeId} {inf : TypeInfo} {z : Value} {d : TypeDesc} {m : Nat} {x : Value} {us : List Value}
    (ht : P.underlying t = some (.slice el)) (hi : P.info? el = some inf) (hz : inf.zero = some z) (ht' : P.underlying t' = some d) (hd : ∀ k, d ≠ .int k)
    (hlen : ∀ w1 : World, (Builtin.lenOf x).run P w1 = .ok m w1) (hf : ∀ w1 : World, w1.heap = w.heap → (Builtin.firstCells inf.size m x).run P w1 = .ok us.toArray w1) : AppRun P w t t' ty el inf z x m us where
  room hroom := append_run_room ht hi ht' hd (hlen w) (hf w rfl) hroom
  grow hfo hroom h63 h48 := append_run_grow ht hi hz ht' hd (hlen w) (hf _ rfl) hfo hroom h63 h48

/-- append(s, make([]T, n)...) -/
theorem AppRun.zeros {t t' ty el : TypeId} {inf : TypeInfo} {z : Value} {k k' : IntKind} {n : Int}
    (ht : P.underlying t = some (.slice el)) (hi : P.info? el = some inf) (hz : inf.zero = some z) (hzs : z.cells.size = inf.size) (ht' : P.underlying t' = some (.int k)) (h0 : 0 ≤ n) (h1 : n ≤ 140737488355328) (h2 : n.toNat * inf.bytes ≤ 140737488355328) :
    AppRun P w t t' ty el inf z (.int k' n) n.toNat (Builtin.zeroCells z.cells n.toNat).toList where
  room := by
    intro base sLen sCap hroom
    have hw : IntKind.i64.wrap n = n := by rw [IntKind.wrap_i64]; omega
    have hinfo : ∀ w1, (typeInfo el).run P w1 = .ok inf w1 := fun w1 => by simp [typeInfo, hi]
    have hn : ¬ n < 0 := by omega
    have hb : ¬ n * (inf.bytes : Int) > 2 ^ 48 := by
      obtain ⟨m, rfl⟩ := Int.eq_ofNat_of_zero_le h0
      rw [Int.toNat_natCast] at h2
      rw [← Int.natCast_mul]
      omega
    have hasi : ∀ w1, (asInt (.int k' n)).run P w1 = .ok n w1 := fun _ => rfl
    by_cases h3 : n.toNat * inf.size = 0
    · have hz0 : Builtin.zeroCells z.cells n.toNat = #[] := by
        apply Array.eq_empty_of_size_eq_zero
        rw [size_zeroCells, hzs, h3]
      simp only [Builtin.append_, List.getElem?_toArray, List.getElem?_cons_zero, List.getElem?_cons_succ, Sem.run_bind, run_underlying ht, run_underlying ht', Result.andThen_ok, run_sizeOf hi, Sem.run_pure, if_true, hasi, hw, Sem.run_ite, if_neg hn, hinfo, if_neg hb, if_pos hroom, Bool.not_true, Bool.false_eq_true, if_false, if_pos h3, hz0]
      cases base <;> simp
    · simp only [Builtin.append_, List.getElem?_toArray, List.getElem?_cons_zero, List.getElem?_cons_succ, Sem.run_bind, run_underlying ht, run_underlying ht', Result.andThen_ok, run_sizeOf hi, Sem.run_pure, if_true, hasi, hw, Sem.run_ite, if_neg hn, hinfo, if_neg hb, if_pos hroom, Bool.not_true, Bool.false_eq_true, if_false, if_neg h3, run_zeroValue hi hz]
      cases base <;> simp
  grow := by
    intro base sLen sCap olds hfo hroom h63 h48
    have hw : IntKind.i64.wrap n = n := by rw [IntKind.wrap_i64]; omega
    have hinfo : ∀ w1, (typeInfo el).run P w1 = .ok inf w1 := fun w1 => by simp [typeInfo, hi]
    have hn : ¬ n < 0 := by omega
    have hb : ¬ n * (inf.bytes : Int) > 2 ^ 48 := by
      obtain ⟨m, rfl⟩ := Int.eq_ofNat_of_zero_le h0
      rw [Int.toNat_natCast] at h2
      rw [← Int.natCast_mul]
      omega
    have hasi : ∀ w1, (asInt (.int k' n)).run P w1 = .ok n w1 := fun _ => rfl
    have hww : ({ w with drawn := w.drawn + 1 } : World) = w.drew := rfl
    have h63' : ¬ ((((sLen + n.toNat : Nat) : Int) > IntKind.i64.max) ∧ (True ∨ inf.bytes = 0)) := by rw [IntKind.max_i64]; omega
    have h48' : ¬ (Builtin.nextslicecap (sLen + n.toNat) sCap * inf.bytes > 2 ^ 48) := by omega
    by_cases h3 : n.toNat * inf.size = 0
    · have hz0 : Builtin.zeroCells z.cells n.toNat = #[] := by
        apply Array.eq_empty_of_size_eq_zero
        rw [size_zeroCells, hzs, h3]
      simp only [Builtin.append_, List.getElem?_toArray, List.getElem?_cons_zero, List.getElem?_cons_succ, Sem.run_bind, run_underlying ht, run_underlying ht', Result.andThen_ok, run_sizeOf hi, Sem.run_pure, if_true, hasi, hw, Sem.run_ite, if_neg hn, hinfo, if_neg hb, if_neg hroom, Bool.not_true, Bool.false_eq_true, if_false, if_neg h63', if_neg h48', run_choose, Question.forced, run_askRoom, if_pos h3, hz0]
      simp only [hww, hfo, Result.andThen_ok, run_zeroValue hi hz, newRow, Sem.run_bind, run_newObj, Sem.run_pure]
      rfl
    · simp only [Builtin.append_, List.getElem?_toArray, List.getElem?_cons_zero, List.getElem?_cons_succ, Sem.run_bind, run_underlying ht, run_underlying ht', Result.andThen_ok, run_sizeOf hi, Sem.run_pure, if_true, hasi, hw, Sem.run_ite, if_neg hn, hinfo, if_neg hb, if_neg hroom, Bool.not_true, Bool.false_eq_true, if_false, if_neg h63', if_neg h48', run_choose, Question.forced, run_askRoom, if_neg h3]
      simp only [hww, hfo, Result.andThen_ok, run_zeroValue hi hz, newRow, Sem.run_bind, run_newObj, Sem.run_pure]
      rfl
end


section
variable {P : Program} {ρ : Rho} {h : Heap} {w : World}

theorem firstCells_slice {sz n : Nat} {s : Sl} {v : Value} {olds : List Cell} (hr : HR ρ h w) (hv : CR ρ (.slice sz s) v) (ho : h.sl sz s = some olds) :
    ∃ us : List Value, CRs ρ olds us ∧ olds.length = s.len * sz ∧ ∀ w1 : World, w1.heap = w.heap → (Builtin.firstCells sz s.len v).run P w1 = .ok us.toArray w1 := by
  obtain ⟨sa, n⟩ := s
  cases sa with
  | none =>
    obtain ⟨hn, rfl⟩ := hv
    change n = 0 at hn
    subst hn
    cases ho
    exact ⟨[], trivial, by simp, fun w1 _ => by simp [Builtin.firstCells]⟩
  | some p =>
    obtain ⟨i, o⟩ := p
    obtain ⟨ad, c, rfl, hnc, hor⟩ := hv
    simp only [Heap.sl] at ho
    change n ≤ c at hnc
    rcases hor with ⟨l, hl, had, hsp⟩ | hz
    · obtain ⟨cc, el, fz, hb, hlen, hcs, _⟩ := hr.read ho hl
      refine ⟨_, hcs, hlen, fun w1 hw1 => ?_⟩
      have hl2 := hcs.length
      have : n * sz = ((cc.toList.drop (l.base + o)).take olds.length).length := by rw [← hl2, hlen]
      simp only [Builtin.firstCells]
      rw [this, run_loadCells_list (P := P) w1 ad _ (fun j v hj => ?_)]
      rw [had, addrAdd, cell_at (by rw [hw1]; exact hb)]
      rw [List.getElem?_take] at hj
      split at hj
      · simpa using hj
      · cases hj
    · have hn : n = 0 := by omega
      subst hn
      have : olds = [] := by
        unfold Heap.read at ho
        split at ho
        · split at ho
          · simp at ho; exact ho
          · cases ho
        · cases ho
      subst this
      exact ⟨[], trivial, by simp, fun w1 _ => by simp [Builtin.firstCells, loadCells, loadCellsFrom]⟩

theorem CRs.app_zeros {cs : List Cell} {us zs : List Value} (h : CRs ρ cs us) : CRs ρ cs ((us ++ zs).take cs.length) := by
  rw [h.length, List.take_left]
  exact h

theorem HR.del (hr : HR ρ h w) (i : Nat) : HR ρ (h.del i) w where
  live := fun j o l hj hl => by
    by_cases e : j = i
    · subst e; rw [Heap.del_same] at hj; cases hj
    · rw [Heap.del_ne _ e] at hj; exact hr.live j o l hj hl
  inj := fun j k l l' hj hk hh hh' hb => by
    refine hr.inj j k l l' hj hk (fun e => hh ?_) (fun e => hh' ?_) hb
    · by_cases e2 : j = i
      · subst e2; exact Heap.del_same _ _
      · rw [Heap.del_ne _ e2]; exact e
    · by_cases e2 : k = i
      · subst e2; exact Heap.del_same _ _
      · rw [Heap.del_ne _ e2]; exact e
  dom := hr.dom
  fresh := by
    obtain ⟨N, hN⟩ := hr.fresh
    refine ⟨N, fun j hj => ⟨?_, (hN j hj).2⟩⟩
    by_cases e2 : j = i
    · subst e2; exact Heap.del_same _ _
    · rw [Heap.del_ne _ e2]; exact (hN j hj).1
  glob := hr.glob.del i
theorem Fr.del (i : Nat) : Fr ρ h w ρ (h.del i) w where
  os := rfl
  tape := rfl
  output := rfl
  size := Nat.le_refl _
  sub := fun _ _ h => h
  new := fun _ _ h => .inl h
  keep := fun _ _ _ => rfl
  wr := fun k hk ⟨j, l, o, hl, hb, ho, hop⟩ => by
    by_cases e : j = i
    · subst e; rw [Heap.del_same] at ho; cases ho
    · rw [Heap.del_ne _ e] at ho; exact ⟨j, l, o, hl, hb, ho, hop⟩
theorem HR.drop (hr : HR ρ h w) (s : Sl) : HR ρ (h.drop s) w ∧ Fr ρ h w ρ (h.drop s) w := by
  unfold Heap.drop
  cases s.a with
  | none => exact ⟨hr, Fr.refl _ _ _⟩
  | some p => exact ⟨hr.del _, Fr.del _⟩
theorem drop_none {j : Nat} (hj : h j = none) (s : Sl) : h.drop s j = none := by
  unfold Heap.drop
  cases s.a with
  | none => exact hj
  | some p =>
    show h.del p.1 j = none
    by_cases e : j = p.1
    · rw [e]; exact Heap.del_same _ _
    · rw [Heap.del_ne _ e]; exact hj
theorem HR.drew (hr : HR ρ h w) : HR ρ h w.drew := ⟨hr.live, hr.inj, hr.dom, hr.fresh, hr.glob⟩
theorem Fr.drew : Fr ρ h w ρ h w.drew := ⟨rfl, rfl, rfl, Nat.le_refl _, fun _ _ h => h, fun _ _ h => .inl h, fun _ _ _ => rfl, fun _ _ h => h⟩

theorem HR.unmapped (hr : HR ρ h w) {j : Nat} {o : Obj} (hρ : ρ j = none) (hng : ∀ f, o ≠ .globs f := by intro f e; cases e) : HR ρ (h.set j o) w ∧ Fr ρ h w ρ (h.set j o) w := by
  have key : ∀ k l, ρ k = some l → (h.set j o) k = h k := fun k l hk => Heap.set_ne _ _ (fun e => by rw [e, hρ] at hk; cases hk)
  refine ⟨⟨fun k o' l hk hl => hr.live k o' l (by rw [← key k l hl]; exact hk) hl, fun k k' l l' hk hk' hh hh' hb => hr.inj k k' l l' hk hk' (by rw [← key k l hk]; exact hh) (by rw [← key k' l' hk']; exact hh') hb, hr.dom, ?_, hr.glob.set hng⟩,
    ⟨rfl, rfl, rfl, Nat.le_refl _, fun _ _ h => h, fun _ _ h => .inl h, fun _ _ _ => rfl, fun k hk ⟨k', l, o', hl, hb, ho, hop⟩ => ⟨k', l, o', hl, hb, by rw [← key k' l hl]; exact ho, hop⟩⟩⟩
  obtain ⟨N, hN⟩ := hr.fresh
  refine ⟨max N (j + 1), fun k hk => ⟨?_, (hN k (by omega)).2⟩⟩
  rw [Heap.set_ne _ _ (by omega)]
  exact (hN k (by omega)).1

/-- A block of the abstract heap, written behind its cells or not, under a new name. -/
theorem HR.alias {w' : World} {i j nb : Nat} {cs cs' : List Cell} {l : Loc} (hr : HR ρ h w) (hi : h i = some (.cells false cs)) (hl : ρ i = some l) (hj : h j = none) (hρ : ρ j = none)
    {cur cur' : Array Value} {el : TypeId} {fz : Nat × Nat} (hb : w.heap[l.block]? = some (.cells cur el fz)) (hob : OneBlock w w' l.block cur cur' el fz)
    (hle : nb + cs'.length ≤ cur'.size) (hcs : CRs ρ cs' ((cur'.toList.drop nb).take cs'.length)) :
    HR (ρ.put j ⟨l.block, nb, l.size⟩) ((h.del i).set j (.cells false cs')) w' ∧ Fr ρ h w (ρ.put j ⟨l.block, nb, l.size⟩) ((h.del i).set j (.cells false cs')) w' := by
  have hlp := Rho.le_put (ρ := ρ) (i := j) ⟨l.block, nb, l.size⟩ hρ
  have hji : j ≠ i := fun e => by rw [e, hi] at hj; cases hj
  obtain ⟨ob, h1, c, el', fz', hob', h2, h3, h4, h5⟩ := hr.live i _ l hi hl
  rw [hb] at h1
  cases h1
  cases hob'
  have hother : ∀ k o', k ≠ j → ((h.del i).set j (.cells false cs')) k = some o' → k ≠ i ∧ h k = some o' := by
    intro k o' e hk
    rw [Heap.set_ne _ _ e] at hk
    by_cases e2 : k = i
    · rw [e2, Heap.del_same] at hk; cases hk
    · rw [Heap.del_ne _ e2] at hk; exact ⟨e2, hk⟩
  have hother' : ∀ k, k ≠ j → ((h.del i).set j (.cells false cs')) k ≠ none → k ≠ i ∧ h k ≠ none := by
    intro k e hk
    cases hh : ((h.del i).set j (.cells false cs')) k with
    | none => exact absurd hh hk
    | some o' => obtain ⟨a1, a2⟩ := hother k o' e hh; exact ⟨a1, by rw [a2]; simp⟩
  refine ⟨⟨fun k o' l' hk hl' => ?_, fun k k' l1 l2 hk hk' hh hh' hbb => ?_, fun k l' hl' => ?_, ?_, ((hr.glob.del i).mono hlp).set fun f e => by cases e⟩, ⟨hob.os, hob.tape, hob.output, Nat.le_of_eq hob.size.symm, hlp, fun k l' hl' => ?_, fun k hk hnw => ?_, fun k hk hw => ?_⟩⟩
  · by_cases e : k = j
    · subst e
      rw [Heap.set_same] at hk
      rw [Rho.put_same] at hl'
      cases hk; cases hl'
      exact ⟨_, hob.here, cur', el, fz, rfl, by rw [hob.same]; exact h2, hle, CRs.mono hlp hcs, fun _ k' hk' => h5 rfl k' (by rw [← hob.same]; exact hk')⟩
    · obtain ⟨e2, hk⟩ := hother k o' e hk
      rw [Rho.put_ne _ _ e] at hl'
      obtain ⟨ob, h1, h2⟩ := hr.live k o' l' hk hl'
      have hne : l'.block ≠ l.block := fun eb => e2 (hr.inj k i l' l hl' hl (by rw [hk]; simp) (by rw [hi]; simp) eb)
      exact ⟨ob, by rw [hob.there _ hne]; exact h1, h2.mono hlp⟩
  · by_cases e : k = j
    · by_cases e' : k' = j
      · rw [e, e']
      · subst e
        obtain ⟨e2, hh'⟩ := hother' k' e' hh'
        rw [Rho.put_same] at hk
        rw [Rho.put_ne _ _ e'] at hk'
        cases hk
        exact absurd (hr.inj k' i l2 l hk' hl hh' (by rw [hi]; simp) hbb.symm) e2
    · obtain ⟨e2, hhk⟩ := hother' k e hh
      by_cases e' : k' = j
      · rw [e', Rho.put_same] at hk'
        rw [Rho.put_ne _ _ e] at hk
        cases hk'
        exact absurd (hr.inj k i l1 l hk hl hhk (by rw [hi]; simp) hbb) e2
      · obtain ⟨_, hhk'⟩ := hother' k' e' hh'
        rw [Rho.put_ne _ _ e] at hk
        rw [Rho.put_ne _ _ e'] at hk'
        exact hr.inj k k' l1 l2 hk hk' hhk hhk' hbb
  · rw [hob.size]
    by_cases e : k = j
    · subst e; rw [Rho.put_same] at hl'; cases hl'; exact hr.dom i l hl
    · rw [Rho.put_ne _ _ e] at hl'; exact hr.dom k l' hl'
  · obtain ⟨N, hN⟩ := hr.fresh
    refine ⟨max N (j + 1), fun k hk => ?_⟩
    have e : k ≠ j := by omega
    have e2 : k ≠ i := fun e => by have := (hN k (by omega)).1; rw [e, hi] at this; cases this
    rw [Heap.set_ne _ _ e, Heap.del_ne _ e2, Rho.put_ne _ _ e]
    exact hN k (by omega)
  · by_cases e : k = j
    · subst e; rw [Rho.put_same] at hl'; cases hl'; exact .inr (.inr ⟨i, l, _, hl, rfl, hi, rfl⟩)
    · rw [Rho.put_ne _ _ e] at hl'; exact .inl hl'
  · exact hob.there k fun e => hnw ⟨i, l, _, hl, e.symm, hi, rfl⟩
  · obtain ⟨k', l', o', hl', hlb, ho', hop⟩ := hw
    by_cases e : k' = j
    · subst e; rw [Rho.put_same] at hl'; cases hl'; exact ⟨i, l, _, hl, hlb, hi, rfl⟩
    · obtain ⟨e2, hk⟩ := hother k' o' e ho'
      rw [Rho.put_ne _ _ e] at hl'
      exact ⟨k', l', o', hl', hlb, hk, hop⟩

/-- append to a slice of which the abstract heap knows: the old block's name is spent, a new one stands for what is there now. -/
theorem append_R {t t' ty el : TypeId} {inf : TypeInfo} {z : Value} {sz m j : Nat} {s : Sl} {v x : Value} {us : List Value} {olds news : List Cell}
    (hr : HR ρ h w) (ht : P.underlying t = some (.slice el)) (hi : P.info? el = some inf) (hz : inf.zero = some z) (hzs : z.cells.size = sz) (hsz : inf.size = sz) (hby : 0 < inf.bytes)
    (hv : CR ρ (.slice sz s) v) (ho : h.sl sz s = some olds) (hm : h.mine s)
    (ha : AppRun P w t t' ty el inf z x m us)
    (hus : CRs ρ news us) (hnl : news.length = m * sz) (hbound : (s.len + m) * inf.bytes ≤ 140737488355328)
    (hj : h j = none) (hρ : ρ j = none) (hne : s.a = none → m ≠ 0) :
    ∃ v' w' ρ', (Builtin.append_ #[t, t'] ty #[v, x]).run P w = .ok v' w' ∧ CR ρ' (.slice sz ⟨some (j, 0), s.len + m⟩) v' ∧
      HR ρ' ((h.drop s).set j (.cells false (olds ++ news))) w' ∧ Fr ρ h w ρ' ((h.drop s).set j (.cells false (olds ++ news))) w' := by
  obtain ⟨os, hos, hol, hfo⟩ := firstCells_slice (P := P) hr hv ho (n := s.len)
  have hlb : s.len + m ≤ 140737488355328 := Nat.le_trans (Nat.le_mul_of_pos_right _ hby) hbound
  -- it grows
  have grow : ∀ (base : Option Addr) (c : Nat), v = .slice base s.len c → ¬ s.len + m ≤ c → ∃ v' w' ρ', (Builtin.append_ #[t, t'] ty #[v, x]).run P w = .ok v' w' ∧ CR ρ' (.slice sz ⟨some (j, 0), s.len + m⟩) v' ∧
      HR ρ' ((h.drop s).set j (.cells false (olds ++ news))) w' ∧ Fr ρ h w ρ' ((h.drop s).set j (.cells false (olds ++ news))) w' := by
    intro base c hvc hroom
    have hrun := ha.grow (base := base) (sLen := s.len) (sCap := c) (olds := os)
      (by rw [hsz, ← hvc]; exact hfo _ rfl) hroom (by omega) (growslice_fits (by omega) hbound)
    rw [hvc, hrun]
    have hge := grownCap_ge w (s.len + m) c el
    have holen := hos.length
    have hulen := hus.length
    have hbig : (os.toArray ++ us.toArray ++ Builtin.zeroCells z.cells (grownCap w (s.len + m) c el - (s.len + m))).size = grownCap w (s.len + m) c el * sz := by
      simp only [Array.size_append, List.size_toArray, size_zeroCells, hzs]
      rw [← holen, hol, ← hulen, hnl, ← Nat.add_mul, ← Nat.add_mul]
      congr 1
      omega
    obtain ⟨hr1, fr1⟩ := hr.drop s
    obtain ⟨hr2, fr2⟩ := hr1.drew.new (i := j) (o := .cells false (olds ++ news)) (ob := .cells (os.toArray ++ us.toArray ++ Builtin.zeroCells z.cells (grownCap w (s.len + m) c el - (s.len + m))) el)
      (n := (os.toArray ++ us.toArray ++ Builtin.zeroCells z.cells (grownCap w (s.len + m) c el - (s.len + m))).size) (drop_none hj s) hρ (fun ρ' hle => by
        refine ⟨_, el, (0, 0), rfl, rfl, ?_, ?_, fun _ k _ => by simp⟩
        · simp only [Nat.zero_add, Array.size_append, List.size_toArray, List.length_append]; omega
        · show CRs ρ' (olds ++ news) _
          simp only [List.drop_zero, Array.toList_append, List.append_assoc]
          rw [← List.append_assoc]
          exact CRs.mono hle (CRs.app_zeros (hos.append hus)))
    refine ⟨_, _, _, rfl, ⟨_, _, rfl, hge, .inl ⟨_, Rho.put_same _ _ _, by simp, ?_⟩⟩, hr2, fr1.trans (Fr.drew.trans fr2)⟩
    simp only [Nat.zero_add]
    exact Nat.le_of_eq hbig.symm
  obtain ⟨sa, len⟩ := s
  cases sa with
  | none =>
    obtain ⟨hn, hvv⟩ := hv
    change len = 0 at hn
    have hm0 := hne rfl
    exact grow none 0 (by rw [hvv, hn]) (by omega)
  | some p =>
    obtain ⟨i, o⟩ := p
    obtain ⟨ad, c, hvv, hnc, hor⟩ := hv
    change len ≤ c at hnc
    by_cases hroom : len + m ≤ c
    · have hrun := ha.room (base := some ad) (sLen := len) (sCap := c) hroom
      simp only at hrun
      rw [hvv, hrun]
      obtain ⟨cs, hics⟩ := hm
      have hulen := hus.length
      rcases hor with ⟨l, hl, had, hsp⟩ | hz0
      · obtain ⟨cc, el', fz, hb, hlen', hcs, hsp'⟩ := hr.read ho hl
        obtain ⟨ob, h1, c1, el1, fz1, hob1, h2, h3, h4, h5⟩ := hr.live i _ l hics hl
        rw [hb] at h1
        cases h1
        cases hob1
        have hfit : l.base + o + len * sz + us.length ≤ cc.size := by
          rw [← hulen, hnl, h2, Nat.add_assoc, ← Nat.add_mul]
          have := Nat.mul_le_mul_right sz hroom
          omega
        obtain ⟨w', cur', hst, hobk, htl⟩ := run_storeCells_one (P := P) (b := l.block) (o := l.base + o + len * sz) us 0 w cc hb (by simpa using hfit) (h5 rfl) hus.all_one
        simp only [Nat.add_zero] at htl
        have hcsn : CRs ρ (olds ++ news) ((cur'.toList.drop (l.base + o)).take (olds ++ news).length) := by
          have e : (cur'.toList.drop (l.base + o)).take (olds ++ news).length = (cc.toList.drop (l.base + o)).take olds.length ++ us := by
            have hlen2 : olds.length = len * sz := hlen'
            have hsz2 : cc.toList.length = cc.size := by simp
            rw [htl, List.length_append, hulen, hlen2]
            apply List.ext_getElem?
            intro j'
            simp only [List.getElem?_take, List.getElem?_drop, List.getElem?_append, List.length_append, List.length_take, List.length_drop, hsz2]
            repeat' split
            all_goals first
              | rfl
              | (exfalso; omega)
              | (congr 1; omega)
              | exact List.getElem?_eq_none (by omega)
              | exact (List.getElem?_eq_none (by omega)).symm
          rw [e]
          exact hcs.append hus
        have hcl : cur'.size = cc.size := hobk.same
        obtain ⟨hr3, fr3⟩ := hr.alias (j := j) (nb := l.base + o) hics hl hj hρ hb hobk (by
          rw [List.length_append, hcl, show olds.length = len * sz from hlen', hulen]; omega) hcsn
        refine ⟨_, w', _, ?_, ⟨ad, c, rfl, hroom, .inl ⟨_, Rho.put_same _ _ _, had, hsp⟩⟩, hr3, fr3⟩
        rw [had, addrAdd, hsz, hst]
        rfl
      · have hl0 : len = 0 := by omega
        have hm0 : m = 0 := by omega
        subst hl0; subst hm0
        have hus0 : us = [] := List.eq_nil_of_length_eq_zero (by rw [← hulen, hnl]; simp)
        have ho0 : olds = [] := List.eq_nil_of_length_eq_zero (by rw [hol]; simp)
        have hn0 : news = [] := List.eq_nil_of_length_eq_zero (by rw [hnl]; simp)
        subst hus0; subst ho0; subst hn0
        have hr3 := (hr.del i).unmapped (j := j) (o := .cells false ([] ++ [])) hρ
        refine ⟨_, w, ρ, by simp [storeCells], ⟨ad, c, rfl, hroom, .inr hz0⟩, hr3.1, (Fr.del i).trans hr3.2⟩
    · exact grow (some ad) c (by rw [hvv]) hroom
end

end Go.Proofs.YtadakbmoanbcgaaGreatDoorVc
