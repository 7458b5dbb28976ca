/- For primitives whose calls lay new blocks: a block of the machine's gets a name. -/
import Derived.Test.YtadakbmoanbcgaaGreatDoorVcWord
import Derived.Below
set_option linter.unusedVariables false
namespace Go.Proofs.YtadakbmoanbcgaaGreatDoorVc
open Go.RowKit

theorem HR.kept {ρ : Rho} {h : Heap} {w w' : World} (hr : HR ρ h w) (hb : Below w.heap.size w w') : HR ρ h w' where
  live i o l h1 h2 := by
    obtain ⟨ob, h3, h4⟩ := hr.live i o l h1 h2
    exact ⟨ob, by rw [hb.block _ (hr.dom i l h2)]; exact h3, h4⟩
  inj := hr.inj
  dom i l h1 := Nat.lt_of_lt_of_le (hr.dom i l h1) hb.size
  fresh := hr.fresh
  glob := hr.glob
theorem Fr.kept {ρ : Rho} {h : Heap} {w w' : World} (hb : Below w.heap.size w w') : Fr ρ h w ρ h w' where
  os := hb.os
  tape := hb.tape
  output := hb.output
  size := hb.size
  sub := fun _ _ h => h
  new := fun _ _ h => .inl h
  keep := fun b h1 _ => hb.block b h1
  wr := fun _ _ h => h

/-- A block that was laid since, with room behind its cells or not, gets a name. -/
theorem HR.named {ρ : Rho} {h : Heap} {w w' : World} {i b : Nat} {cs : List Cell} {c : Array Value} {el : TypeId} (hr : HR ρ h w) (hb : Below w.heap.size w w') (hi : h i = none) (hρ : ρ i = none)
    (hge : w.heap.size ≤ b) (hc : w'.heap[b]? = some (.cells c el (0, 0))) (hle : cs.length ≤ c.size) (hcs : ∀ ρ', ρ.le ρ' → CRs ρ' cs (c.toList.take cs.length)) :
    HR (ρ.put i ⟨b, 0, c.size⟩) (h.set i (.cells false cs)) w' ∧ Fr ρ h w (ρ.put i ⟨b, 0, c.size⟩) (h.set i (.cells false cs)) w' := by
  have hput := Rho.le_put (ρ := ρ) (i := i) ⟨b, 0, c.size⟩ hρ
  have hr' := hr.kept hb
  have hlt := (Array.getElem?_eq_some_iff.1 hc).1
  refine ⟨⟨fun j o' l hj hl => ?_, fun j k l l' hj hk hh hh' hbb => ?_, fun j l hl => ?_, ?_, (hr.glob.mono hput).set fun f e => by cases e⟩, ⟨hb.os, hb.tape, hb.output, hb.size, hput, fun j l hl => ?_, fun k hk _ => hb.block k hk, fun k hk hw => ?_⟩⟩
  · by_cases e : j = i
    · subst e
      rw [Heap.set_same] at hj
      rw [Rho.put_same] at hl
      cases hj; cases hl
      exact ⟨_, hc, c, el, (0, 0), rfl, rfl, by simpa using hle, by simpa using hcs _ hput, fun _ j' _ => by simp⟩
    · rw [Heap.set_ne _ _ e] at hj
      rw [Rho.put_ne _ _ e] at hl
      obtain ⟨ob', h1, h2⟩ := hr'.live j o' l hj hl
      exact ⟨ob', h1, h2.mono hput⟩
  · by_cases e : j = i
    · by_cases e' : k = i
      · rw [e, e']
      · subst e
        rw [Rho.put_same] at hj
        rw [Rho.put_ne _ _ e'] at hk
        cases hj
        have := hr.dom k l' hk
        simp only at hbb; omega
    · by_cases e' : k = i
      · subst e'
        rw [Rho.put_same] at hk
        rw [Rho.put_ne _ _ e] at hj
        cases hk
        have := hr.dom j l hj
        simp only at hbb; omega
      · rw [Rho.put_ne _ _ e] at hj
        rw [Rho.put_ne _ _ e'] at hk
        rw [Heap.set_ne _ _ e] at hh
        rw [Heap.set_ne _ _ e'] at hh'
        exact hr.inj j k l l' hj hk hh hh' hbb
  · by_cases e : j = i
    · subst e; rw [Rho.put_same] at hl; cases hl; exact hlt
    · rw [Rho.put_ne _ _ e] at hl; exact hr'.dom j l hl
  · obtain ⟨N, hN⟩ := hr.fresh
    refine ⟨max N (i + 1), fun j hj => ?_⟩
    have e : j ≠ i := by omega
    rw [Heap.set_ne _ _ e, Rho.put_ne _ _ e]
    exact hN j (by omega)
  · by_cases e : j = i
    · subst e; rw [Rho.put_same] at hl; cases hl; exact .inr (.inl hge)
    · rw [Rho.put_ne _ _ e] at hl; exact .inl hl
  · obtain ⟨j, l, o', hl, hlb, ho', hop⟩ := hw
    by_cases e : j = i
    · subst e; rw [Rho.put_same] at hl; cases hl; simp only at hlb; omega
    · rw [Rho.put_ne _ _ e] at hl
      rw [Heap.set_ne _ _ e] at ho'
      exact ⟨j, l, o', hl, hlb, ho', hop⟩
end Go.Proofs.YtadakbmoanbcgaaGreatDoorVc
