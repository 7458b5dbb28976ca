/- Vc, part 11a: '==' of plain structs: the run. -/
import Derived.Test.YtadakbmoanbcgaaGreatDoorVcPureA
import Derived.Laws.StructEq
set_option linter.unusedSimpArgs false
set_option linter.unusedVariables false
namespace Go.Proofs.YtadakbmoanbcgaaGreatDoorVc

/-- '==' of plain structs. -/
def EqOk (P : Program) : Prop := ∀ (ρ : Rho) (w : World) t ks cs ds us vs op x' y', plainS P t = some ks → CRs ρ cs us.toList → CRs ρ ds vs.toList → ∀ b, cellsEq ks cs ds = some b →
      (op = .eql → (do eqGuard op t x' y' (.agg us) (.agg vs); binOp op t (.agg us) (.agg vs)).run P w = .ok (.bool b) w) ∧
      (op = .neq → (do eqGuard op t x' y' (.agg us) (.agg vs); binOp op t (.agg us) (.agg vs)).run P w = .ok (.bool (!b)) w)

theorem beq_dec {α : Type} [BEq α] [LawfulBEq α] [DecidableEq α] (a b : α) : (a == b) = decide (a = b) := by
  by_cases h : a = b
  · subst h; simp
  · simp [h]

theorem cellsEq_cons {k : Kd} {ks : List Kd} {c d : Cell} {cs ds : List Cell} {b : Bool} (h : cellsEq (k :: ks) (c :: cs) (d :: ds) = some b) :
    ∃ b1 b2, cellEq k c d = some b1 ∧ cellsEq ks cs ds = some b2 ∧ b = (b1 && b2) := by
  have general : andO (cellEq k c d) (cellsEq ks cs ds) = some b → ∃ b1 b2, cellEq k c d = some b1 ∧ cellsEq ks cs ds = some b2 ∧ b = (b1 && b2) := by
    intro h
    cases h1 : cellEq k c d with
    | none => rw [h1] at h; cases h
    | some b1 =>
      cases h2 : cellsEq ks cs ds with
      | none => rw [h1, h2] at h; cases h
      | some b2 => rw [h1, h2] at h; cases h; exact ⟨b1, b2, rfl, rfl, rfl⟩
  cases ks with
  | cons k' ks => exact general h
  | nil => cases cs with
    | cons c' cs => exact general h
    | nil => cases ds with
      | cons d' ds => exact general h
      | nil => exact ⟨b, true, h, rfl, by simp⟩
theorem cellsEq_mk {k : Kd} {ks : List Kd} {c d : Cell} {cs ds : List Cell} {b1 b2 : Bool} (h1 : cellEq k c d = some b1) (h2 : cellsEq ks cs ds = some b2) :
    cellsEq (k :: ks) (c :: cs) (d :: ds) = some (b1 && b2) := by
  have general : andO (cellEq k c d) (cellsEq ks cs ds) = some (b1 && b2) := by rw [h1, h2]; rfl
  cases ks with
  | cons k' ks => exact general
  | nil => cases cs with
    | cons c' cs => exact general
    | nil => cases ds with
      | cons d' ds => exact general
      | nil => cases h2; simpa [cellsEq] using h1

theorem cellsEq_length : ∀ {ks : List Kd} {cs ds : List Cell} {b : Bool}, cellsEq ks cs ds = some b → cs.length = ks.length ∧ ds.length = ks.length
  | [], [], [], _, _ => ⟨rfl, rfl⟩
  | k :: ks, c :: cs, d :: ds, b, h => by
    obtain ⟨_, b2, _, h2, _⟩ := cellsEq_cons h
    obtain ⟨h3, h4⟩ := cellsEq_length h2
    exact ⟨by simp [h3], by simp [h4]⟩
  | [], c :: cs, _, _, h => by simp [cellsEq] at h
  | [], [], d :: ds, _, h => by simp [cellsEq] at h
  | k :: ks, [], _, _, h => by cases ks <;> simp [cellsEq] at h
  | k :: ks, c :: cs, [], _, h => by cases ks <;> cases cs <;> simp [cellsEq] at h

theorem cellsEq_append : ∀ {ks ls : List Kd} {cs ds : List Cell} {b : Bool}, cellsEq (ks ++ ls) cs ds = some b →
    ∃ b1 b2, cellsEq ks (cs.take ks.length) (ds.take ks.length) = some b1 ∧ cellsEq ls (cs.drop ks.length) (ds.drop ks.length) = some b2 ∧ b = (b1 && b2)
  | [], ls, cs, ds, b, h => ⟨true, b, by simp [cellsEq], by simpa using h, by simp⟩
  | k :: ks, ls, [], ds, b, h => by have := cellsEq_length h; simp at this
  | k :: ks, ls, c :: cs, [], b, h => by have := cellsEq_length h; simp at this
  | k :: ks, ls, c :: cs, d :: ds, b, h => by
    obtain ⟨b1, b2, h1, h2, rfl⟩ := cellsEq_cons (ks := ks ++ ls) h
    obtain ⟨b3, b4, h3, h4, rfl⟩ := cellsEq_append h2
    exact ⟨b1 && b3, b4, by simpa using cellsEq_mk h1 h3, by simpa using h4, by simp [Bool.and_assoc]⟩

theorem CRs_head {ρ : Rho} {cs : List Cell} {vs : List Value} {c : Cell} (h : CRs ρ cs vs) (hc : cs.take 1 = [c]) : ∃ v, vs.take 1 = [v] ∧ CR ρ c v := by
  match cs, vs, h with
  | c' :: cs, v :: vs, h => simp at hc; subst hc; exact ⟨v, rfl, h.1⟩
  | [], _, h => simp at hc

section
variable {P : Program} {ρ : Rho}

def PartR (P : Program) (ρ : Rho) (t : TypeId) (x : Value) (cs : List Cell) : Prop :=
  (∃ fs us, P.underlying t = some (.struct fs) ∧ x = .agg us ∧ CRs ρ cs us.toList) ∨ ((∀ fs, P.underlying t ≠ some (.struct fs)) ∧ ∃ c, cs = [c] ∧ CR ρ c x)

theorem part_run (w : World) {d : Nat} {t : TypeId} {ks : List Kd} (hk : plainK P d t = some ks) {cs : List Cell} {us : Array Value} (hc : CRs ρ cs us.toList) {off : Nat} (hl : ((cs.drop off).take ks.length).length = ks.length) :
    ∃ v, (part t us off).run P w = .ok v w ∧ PartR P ρ t v ((cs.drop off).take ks.length) := by
  have hone : ∀ td, P.underlying t = some td → ks.length = 1 → (match td with | .struct _ | .array _ _ => true | _ => false) = false →
      ∃ v, (part t us off).run P w = .ok v w ∧ PartR P ρ t v ((cs.drop off).take ks.length) := fun td hu h1 htd => by
    rw [h1] at hl ⊢
    obtain ⟨c, hcc⟩ := List.length_eq_one_iff.1 hl
    obtain ⟨v, hv, hcv⟩ := CRs_head (hc.drop off) hcc
    have hget : us[off]? = some v := by
      have : (us.toList.drop off)[0]? = some v := by
        have h3 : ((us.toList.drop off).take 1)[0]? = some v := by rw [hv]; rfl
        simpa using h3
      simpa using this
    refine ⟨v, ?_, .inr ⟨fun fs h => (by rw [hu] at h; cases h; cases htd), c, hcc, hcv⟩⟩
    unfold part
    cases td <;> first | (cases htd; done) | simp [isAgg, run_underlying hu, hget]
  cases d with
  | zero => cases hk
  | succ d =>
    unfold plainK at hk
    split at hk
    · rename_i fs hu
      split at hk
      · rename_i ls hst hfs
        split at hk
        · rename_i hsz
          cases hk
          obtain ⟨i, hi, hn⟩ := sized_info hsz
          refine ⟨.agg (us.extract off (off + ks.length)), ?_, .inl ⟨fs, _, hu, rfl, ?_⟩⟩
          · unfold part
            simp [isAgg, run_underlying hu, sizeOf, typeInfo, hi, hn]
          · have := (hc.drop off).take ks.length
            simpa [Array.toList_extract, List.extract_eq_take_drop] using this
        · cases hk
      · cases hk
    · rename_i hu; cases hk; exact hone _ hu rfl rfl
    · rename_i hu; cases hk; exact hone _ hu rfl rfl
    · rename_i hu; cases hk; exact hone _ hu rfl rfl
    · cases hk

theorem fields_run (w : World) {d D : Nat} (ih : ∀ t ks, plainK P d t = some ks → ∀ x y cs ds b, PartR P ρ t x cs → PartR P ρ t y ds → cellsEq ks cs ds = some b → (Op.equalIn D t x y).run P w = .ok b w)
    {cs ds : List Cell} {us vs : Array Value} (hu : CRs ρ cs us.toList) (hv : CRs ρ ds vs.toList) : ∀ (fs : List Field) (off : Nat) (ls : List Kd) (b : Bool), plainFs (plainK P d) fs off = some ls →
    cellsEq ls (cs.drop off) (ds.drop off) = some b → (Op.eqFields D us vs fs).run P w = .ok b w
  | [], off, ls, b, hp, hc => by
    cases hp
    obtain ⟨h1, h2⟩ := cellsEq_length hc
    rw [List.length_eq_zero_iff.1 h1, List.length_eq_zero_iff.1 h2] at hc
    cases hc
    simp [Op.eqFields]
  | f :: fs, off, ls, b, hp, hc => by
    unfold plainFs at hp
    split at hp
    · rename_i ks hname hoff hk
      split at hp
      · rename_i l hl
        cases hp
        obtain ⟨b1, b2, h1, h2, rfl⟩ := cellsEq_append hc
        have hoff' := Nat.eq_of_beq_eq_true hoff
        obtain ⟨hl1, hl2⟩ := cellsEq_length h1
        obtain ⟨x, hx, hxr⟩ := part_run w hk hu (off := off) hl1
        obtain ⟨y, hy, hyr⟩ := part_run w hk hv (off := off) hl2
        have hxy := ih _ _ hk x y _ _ b1 hxr hyr h1
        rw [List.drop_drop, List.drop_drop] at h2
        have hrest := fields_run w ih hu hv fs (off + ks.length) l b2 hl h2
        have hne : f.name ≠ "_" := by simpa using hname
        simp only [Op.eqFields, hne, ne_eq, not_false_eq_true, if_true, hoff', Sem.run_bind, hx, hy, hxy, Result.andThen_ok]
        cases b1 with
        | true => simpa using hrest
        | false => simp
      · cases hp
    · cases hp

theorem equal_sound (w : World) : ∀ (d : Nat) (t : TypeId) (ks : List Kd), plainK P d t = some ks → ∀ D, d ≤ D → ∀ x y cs ds b, PartR P ρ t x cs → PartR P ρ t y ds → cellsEq ks cs ds = some b → (Op.equalIn D t x y).run P w = .ok b w
  | 0, t, ks, hk, _, _, _, _, _, _, _, _, _, _ => by cases hk
  | d + 1, t, ks, hk, 0, hD, _, _, _, _, _, _, _, _ => by omega
  | d + 1, t, ks, hk, D + 1, hD, x, y, cs, ds, b, hx, hy, hc => by
    unfold plainK at hk
    split at hk
    · rename_i fs hu
      split at hk
      · rename_i ls hst hfs
        split at hk
        · cases hk
          rcases hx with ⟨_, us, _, rfl, hus⟩ | ⟨hn, _⟩
          · rcases hy with ⟨_, vs, _, rfl, hvs⟩ | ⟨hn, _⟩
            · have hf : P.fieldsOf t = fs := by unfold Program.fieldsOf; rw [hu]
              rw [run_equalIn_struct w D t us vs (by rw [hf]; exact hu) hst, hf]
              exact fields_run w (fun t ks hk => equal_sound w d t ks hk D (by omega)) hus hvs fs.toList 0 ks b hfs (by simpa using hc)
            · exact absurd hu (hn fs)
          · exact absurd hu (hn fs)
        · cases hk
      · cases hk
    · rename_i hu
      cases hk
      rcases hx with ⟨_, us, h, _⟩ | ⟨_, c, rfl, hcx⟩
      · rw [hu] at h; cases h
      · rcases hy with ⟨_, us, h, _⟩ | ⟨_, c', rfl, hcy⟩
        · rw [hu] at h; cases h
        · simp only [cellsEq] at hc
          cases c <;> simp only [cellEq] at hc <;> try (cases hc; done)
          cases c' <;> simp only [cellEq] at hc <;> try (cases hc; done)
          cases hcx; cases hcy; cases hc
          rw [run_equalIn_bool' w D t _ _ hu]
          refine congrArg (fun x => Result.ok x w) ?_; exact beq_dec _ _
    · rename_i k hu
      cases hk
      rcases hx with ⟨_, us, h, _⟩ | ⟨_, c, rfl, hcx⟩
      · rw [hu] at h; cases h
      · rcases hy with ⟨_, us, h, _⟩ | ⟨_, c', rfl, hcy⟩
        · rw [hu] at h; cases h
        · simp only [cellsEq] at hc
          cases c <;> simp only [cellEq] at hc <;> try (cases hc; done)
          cases c' <;> simp only [cellEq] at hc <;> try (cases hc; done)
          split at hc
          · rename_i hkk
            cases hcx; cases hcy; cases hc
            rw [eqKind_eq hkk, run_equalIn_int w D t _ _ _ _ hu]
            refine congrArg (fun x => Result.ok x w) ?_; exact beq_dec _ _
          · cases hc
    · rename_i hu
      cases hk
      rcases hx with ⟨_, us, h, _⟩ | ⟨_, c, rfl, hcx⟩
      · rw [hu] at h; cases h
      · rcases hy with ⟨_, us, h, _⟩ | ⟨_, c', rfl, hcy⟩
        · rw [hu] at h; cases h
        · simp only [cellsEq] at hc
          cases c <;> simp only [cellEq] at hc <;> try (cases hc; done)
          cases c' <;> simp only [cellEq] at hc <;> try (cases hc; done)
          cases hcx; cases hcy; cases hc
          rw [run_equalIn_string w D t _ _ hu, beq_dec]
          refine congrArg (fun x => Result.ok x w) (decide_eq_decide.2 ⟨fun e => ?_, fun e => by rw [e]⟩)
          rw [ByteArray.toList_eq, ByteArray.toList_eq] at e
          exact ByteArray.ext (Array.toList_inj.1 e)
    · cases hk
end
end Go.Proofs.YtadakbmoanbcgaaGreatDoorVc
