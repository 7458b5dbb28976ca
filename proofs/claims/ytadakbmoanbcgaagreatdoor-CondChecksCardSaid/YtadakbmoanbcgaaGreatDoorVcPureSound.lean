/- Vc, part 9: pureRes tells the truth. -/
import Derived.Test.YtadakbmoanbcgaaGreatDoorVcMapRun
set_option linter.unusedSimpArgs false
set_option linter.unusedVariables false
namespace Go.Proofs.YtadakbmoanbcgaaGreatDoorVc

section
variable {C : Ctx} {e : Env} {a : Act} {ρ : Rho} {w : World} {n0 : Nat} {h : Heap} {z : TV} {ids : List Nat} {o : Oper}

theorem POut.of_VOut {s : Sem Value} (hs : VOut C.P ρ w z s) : POut ρ w n0 a.tmps z ((do pure (Next.value (← s)) : Sem Next).run C.P w) := by
  obtain ⟨y, v, rfl, h1, h2⟩ := hs
  exact ⟨v, by simp only [Sem.run_bind, h1, Result.andThen_ok, Sem.run_pure], h2⟩

theorem VOut.of {y : V} {v : Value} {s : Sem Value} (h1 : s.run C.P w = .ok v w) (h2 : VR ρ y v) : VOut C.P ρ w (.v y) s := ⟨y, v, rfl, h1, h2⟩

theorem addr_R {x : Operand} {n : Nat} (hx : OpdR e a ρ w n0 x) (ho : (addrRes e x n).out h z ids) :
    ∃ b off, a.eval x = .pointer (some ⟨b, off, none⟩) ∧ TR ρ w n0 a.tmps z (.pointer (some ⟨b, off + n, none⟩)) ∧ (∀ cs, z ≠ .var cs) ∧ (∀ sz m cs, z ≠ .lit sz m cs) := by
  unfold addrRes at ho
  cases x with
  | tmp u =>
    have hu : TR ρ w n0 a.tmps (e.get u) (a.tmps.getD u undef) := hx
    simp only at ho
    split at ho
    · rename_i cs hg
      rw [hg] at hu
      obtain ⟨b, hb, hp⟩ := hu
      cases out_val ho
      exact ⟨b, 0, hb, ⟨b, hb, by simp⟩, by simp, by simp⟩
    · rename_i t off hg
      rw [hg] at hu
      obtain ⟨b, hb, hb2⟩ := hu
      cases out_val ho
      exact ⟨b, off, hb2, ⟨b, hb, rfl⟩, by simp, by simp⟩
    · rename_i p hg
      rw [hg] at hu
      obtain ⟨i, off, rfl, ho⟩ := out_deref ho
      cases out_val ho
      obtain ⟨l, hl, hev⟩ : PtrR ρ (i, off) _ := hu
      exact ⟨_, _, hev, ⟨l, hl, by simp [Nat.add_assoc]⟩, by simp, by simp⟩
    · exact (out_bad ho).elim
  | const v => exact (out_bad ho).elim
  | global g => exact (out_bad ho).elim
  | func f => exact (out_bad ho).elim

theorem PtrsR_append {ps : List (Nat × Nat)} {vs : List Value} {p : Nat × Nat} {v : Value} : ∀ {ps : List (Nat × Nat)} {vs : List Value}, PtrsR ρ ps vs → PtrR ρ p v → PtrsR ρ (ps ++ [p]) (vs ++ [v])
  | [], [], _, h => ⟨h, trivial⟩
  | _ :: _, _ :: _, ⟨h0, hs⟩, h => ⟨h0, PtrsR_append (ps := []) (vs := []) hs h⟩
  | [], _ :: _, h, _ => h.elim
  | _ :: _, [], h, _ => h.elim

theorem derefs_R {f : List (Nat × Nat) → Res} : ∀ {cs : List Cell} {vs : List Value} {acc : List (Nat × Nat)} {us : List Value}, CRs ρ cs vs → PtrsR ρ acc us →
    (pureRes.derefs cs acc f).out h z ids → ∃ ps, PtrsR ρ ps (us ++ vs) ∧ (f ps).out h z ids
  | [], [], acc, us, _, ha, ho => ⟨acc, by simpa using ha, ho⟩
  | c :: cs, v :: vs, acc, us, ⟨hc, hcs⟩, ha, ho => by
    cases c with
    | ptr p =>
      obtain ⟨i, off, rfl, ho⟩ := out_deref ho
      obtain ⟨ps, h1, h2⟩ := derefs_R hcs (PtrsR_append (ps := []) (vs := []) ha hc) ho
      exact ⟨ps, by simpa using h1, h2⟩
    | _ => exact (out_bad ho).elim
  | [], _ :: _, _, _, h, _, _ => h.elim
  | _ :: _, [], _, _, h, _, _ => h.elim

theorem allOnes_R : ∀ {l : List Operand} {cs : List Cell}, (∀ x ∈ l, OpdR e a ρ w n0 x) → allOnes (l.map (opdBare e)) = some cs → CRs ρ cs (l.map a.eval)
  | [], cs, _, h => by simp [allOnes] at h; subst h; trivial
  | x :: l, cs, hx, h => by
    simp only [List.map_cons] at h
    cases ho : opdBare e x with
    | v y =>
      rw [ho] at h
      cases y with
      | one c =>
        simp only [allOnes, Option.map_eq_some_iff] at h
        obtain ⟨cs', h1, rfl⟩ := h
        exact ⟨opdBare_V (hx x (by simp)) ho, allOnes_R (fun y hy => hx y (by simp [hy])) h1⟩
      | agg _ => rw [allOnes] at h; cases h; all_goals simp
    | _ => rw [ho] at h; simp [allOnes] at h

theorem maxCells_R : ∀ {l : List Operand} {c c' : Cell} {u : Value}, (∀ x ∈ l, OpdR e a ρ w n0 x) → CR ρ c u → (∃ k n, c = .int k n) → maxCells c (l.map (opdBare e)) = some c' →
    ∃ v, ((l.map a.eval).foldlM Builtin.max2 u).run C.P w = .ok v w ∧ CR ρ c' v
  | [], c, c', u, _, hc, _, h => by simp [maxCells] at h; subst h; exact ⟨u, rfl, hc⟩
  | x :: l, c, c', u, hx, hc, ⟨k, n, hcn⟩, h => by
    subst hcn
    cases hc
    cases ho : opdBare e x with
    | v y =>
      simp only [List.map_cons, ho] at h
      cases y with
      | one d =>
        cases d with
        | int k' m =>
          simp only [maxCells] at h
          split at h
          · rename_i hk
            cases eqKind_eq hk
            have hv : a.eval x = .int k m := opdBare_V (hx x (by simp)) ho
            obtain ⟨v, h1, h2⟩ := maxCells_R (c := .int k (max n m)) (u := .int k (max n m)) (fun y hy => hx y (by simp [hy])) rfl ⟨_, _, rfl⟩ h
            refine ⟨v, ?_, h2⟩
            simp only [List.map_cons, List.foldlM_cons, Sem.run_bind, hv, Builtin.max2, Sem.run_pure, Result.andThen_ok]
            have : (if m > n then m else n) = max n m := by omega
            rw [this]
            exact h1
          · cases h
        | _ => simp [maxCells] at h
      | agg _ => simp [maxCells] at h
    | _ => simp [maxCells, ho] at h

theorem minCells_R : ∀ {l : List Operand} {c c' : Cell} {u : Value}, (∀ x ∈ l, OpdR e a ρ w n0 x) → CR ρ c u → (∃ k n, c = .int k n) → minCells c (l.map (opdBare e)) = some c' →
    ∃ v, ((l.map a.eval).foldlM Builtin.min2 u).run C.P w = .ok v w ∧ CR ρ c' v
  | [], c, c', u, _, hc, _, h => by simp [minCells] at h; subst h; exact ⟨u, rfl, hc⟩
  | x :: l, c, c', u, hx, hc, ⟨k, n, hcn⟩, h => by
    subst hcn
    cases hc
    cases ho : opdBare e x with
    | v y =>
      simp only [List.map_cons, ho] at h
      cases y with
      | one d =>
        cases d with
        | int k' m =>
          simp only [minCells] at h
          split at h
          · rename_i hk
            cases eqKind_eq hk
            have hv : a.eval x = .int k m := opdBare_V (hx x (by simp)) ho
            obtain ⟨v, h1, h2⟩ := minCells_R (c := .int k (min n m)) (u := .int k (min n m)) (fun y hy => hx y (by simp [hy])) rfl ⟨_, _, rfl⟩ h
            refine ⟨v, ?_, h2⟩
            simp only [List.map_cons, List.foldlM_cons, Sem.run_bind, hv, Builtin.min2, Sem.run_pure, Result.andThen_ok]
            have : (if m < n then m else n) = min n m := by omega
            rw [this]
            exact h1
          · cases h
        | _ => simp [minCells] at h
      | agg _ => simp [minCells] at h
    | _ => simp [minCells, ho] at h

end
end Go.Proofs.YtadakbmoanbcgaaGreatDoorVc
