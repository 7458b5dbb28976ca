/- What the document answers of conditions is what the checks answer (no program in sight). -/
import Derived.Test.YtadakbmoanbcgaaGreatDoorVcCoPure
import Derived.Lib.MapLaws
import Derived.Lib.TrimUEq
set_option linter.unusedSimpArgs false
set_option linter.unusedVariables false
namespace Go.Proofs.YtadakbmoanbcgaaGreatDoorVc
mutual
theorem deep_size : ∀ c : CT, c.deep ≤ c.size
  | .mk k n f s vs ws wi nu al => by
    have := deeps_sizes al
    simp only [CT.deep, CT.size]; omega
theorem deeps_sizes : ∀ al : List CT, deeps al ≤ sizes al
  | [] => by simp [deeps, sizes]
  | a :: al => by
    have := deep_size a
    have := deeps_sizes al
    simp only [deeps, sizes]; omega
end
/-- The points of a text; below 0: bytes that are none. -/
def ptsL : Nat → List UInt8 → List Int
  | 0, _ => []
  | f + 1, l => if l = [] then [] else (if (Lib.decodeL l).1 = 65533 ∧ (Lib.decodeL l).2 = 1 then -1 - ((l.getD 0 0).toNat : Int) else ((Lib.decodeL l).1 : Int)) :: ptsL f (l.drop (Lib.decodeL l).2)
theorem pts_len : ∀ (f : Nat) (l : List UInt8), (ptsL f l).length ≤ f
  | 0, _ => Nat.le_refl _
  | f + 1, l => by
    unfold ptsL
    split
    · simp
    · have := pts_len f (l.drop (Lib.decodeL l).2)
      simp only [List.length_cons]; omega
def badP (p : Int) : Bool := decide (p < 32) || decide (p = 127)
/-- A step of the decoder: none; a byte below 128; or bytes from 128 on. -/
theorem decode_step {l : List UInt8} (hl : l ≠ []) : ((Lib.decodeL l).1 = 65533 ∧ (Lib.decodeL l).2 = 1) ∨ ((Lib.decodeL l).2 = 1 ∧ (Lib.decodeL l).1 = (l.getD 0 0).toNat ∧ (l.getD 0 0).toNat < 128) ∨
    (2 ≤ (Lib.decodeL l).2 ∧ 128 ≤ (Lib.decodeL l).1 ∧ ∀ b ∈ l.take (Lib.decodeL l).2, 128 ≤ b.toNat) := by
  rw [Lib.decodeL_N]
  have mem : ∀ (n : Nat) (b : UInt8), b ∈ l.take n → ∃ i, i < n ∧ i < l.length ∧ b = l.getD i 0 := fun n b hb => by
    obtain ⟨i, hi, rfl⟩ := List.mem_iff_getElem.1 hb
    rw [List.length_take] at hi
    refine ⟨i, by omega, by omega, ?_⟩
    rw [List.getElem_take, List.getD_eq_getElem?_getD, List.getElem?_eq_getElem (by omega)]; rfl
  rcases Lib.decodeN_shape l.length (l.getD 0 0).toNat (l.getD 1 0).toNat (l.getD 2 0).toNat (l.getD 3 0).toNat with ⟨c, e⟩ | ⟨c1, c2, c3, cv, e⟩ | ⟨c1, c2, c3, c4, cv, cs, e⟩ | ⟨c1, c2, c3, c4, c5, cv, cw, e⟩ | e
  · rw [e]; exact .inr (.inl ⟨rfl, rfl, c⟩)
  · rw [e]
    refine .inr (.inr ⟨by simp only; omega, cv, fun b hb => ?_⟩)
    obtain ⟨i, h1, h2, rfl⟩ := mem _ b hb
    have : i = 0 ∨ i = 1 := by omega
    rcases this with rfl | rfl <;> omega
  · rw [e]
    refine .inr (.inr ⟨by simp only; omega, by simp only; omega, fun b hb => ?_⟩)
    obtain ⟨i, h1, h2, rfl⟩ := mem _ b hb
    have : i = 0 ∨ i = 1 ∨ i = 2 := by omega
    rcases this with rfl | rfl | rfl <;> omega
  · rw [e]
    refine .inr (.inr ⟨by simp only; omega, by simp only; omega, fun b hb => ?_⟩)
    obtain ⟨i, h1, h2, rfl⟩ := mem _ b hb
    have : i = 0 ∨ i = 1 ∨ i = 2 ∨ i = 3 := by omega
    rcases this with rfl | rfl | rfl | rfl <;> omega
  · rw [e]; exact .inl ⟨rfl, rfl⟩
theorem pts_bad : ∀ (f g : Nat) (l : List UInt8), l.length ≤ f → l.length ≤ g → ((ptsL f l).any badP = false ↔ Lib.validGoD g l = true ∧ l.all plainB = true)
  | 0, g, l, hf, _ => by
    have : l = [] := List.length_eq_zero_iff.1 (by omega)
    subst this
    cases g <;> simp [ptsL, Lib.validGoD]
  | f + 1, 0, l, _, hg => by
    have : l = [] := List.length_eq_zero_iff.1 (by omega)
    subst this
    simp [ptsL, Lib.validGoD]
  | f + 1, g + 1, l, hf, hg => by
    by_cases hl : l = []
    · subst hl; simp [ptsL, Lib.validGoD]
    · have h0 : 0 < l.length := List.length_pos_iff.2 hl
      have hw := Lib.decodeL_width l
      have hle := Lib.decodeL_le l hl
      have ih := pts_bad f g (l.drop (Lib.decodeL l).2) (by rw [List.length_drop]; omega) (by rw [List.length_drop]; omega)
      simp only [ptsL, Lib.validGoD, if_neg hl, List.any_cons, Bool.or_eq_false_iff]
      have hall : l.all plainB = ((l.take (Lib.decodeL l).2).all plainB && (l.drop (Lib.decodeL l).2).all plainB) := by rw [← List.all_append, List.take_append_drop]
      rw [hall, ih]
      rcases decode_step hl with ⟨e1, e2⟩ | ⟨e1, e2, e3⟩ | ⟨e0, e1, e2⟩
      · rw [if_pos ⟨e1, e2⟩, if_pos ⟨e1, e2⟩]
        unfold badP
        simp
        intro h
        omega
      · have hn : ¬ ((Lib.decodeL l).1 = 65533 ∧ (Lib.decodeL l).2 = 1) := fun h => by omega
        rw [if_neg hn, if_neg hn, e1]
        have ht : l.take 1 = [l.getD 0 0] := by
          cases l with
          | nil => exact absurd rfl hl
          | cons b l => rfl
        rw [ht, e2]
        simp only [List.all_cons, List.all_nil, Bool.and_true, Bool.and_eq_true]
        have hp : badP (((l.getD 0 0).toNat : Nat) : Int) = false ↔ plainB (l.getD 0 0) = true := by
          unfold badP plainB
          simp
          omega
        rw [hp]
        constructor
        · rintro ⟨a, b, c⟩; exact ⟨b, a, c⟩
        · rintro ⟨a, b, c⟩; exact ⟨b, a, c⟩
      · have hn : ¬ ((Lib.decodeL l).1 = 65533 ∧ (Lib.decodeL l).2 = 1) := fun h => by omega
        rw [if_neg hn, if_neg hn]
        have hp : badP (((Lib.decodeL l).1 : Nat) : Int) = false := by
          unfold badP
          simp
          omega
        have ht : (l.take (Lib.decodeL l).2).all plainB = true := List.all_eq_true.2 fun b hb => by
          have := e2 b hb
          unfold plainB
          simp
          omega
        rw [hp, ht]; simp
end Go.Proofs.YtadakbmoanbcgaaGreatDoorVc
