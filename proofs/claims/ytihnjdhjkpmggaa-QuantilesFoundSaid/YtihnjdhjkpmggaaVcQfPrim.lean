/- What slices.Values handed back, collected: a primitive. -/
import Derived.Test.YtihnjdhjkpmggaaVcPrims
import Derived.Test.YtihnjdhjkpmggaaVcQfIter
import Derived.Test.YtihnjdhjkpmggaaVcFrame
set_option linter.unusedVariables false
namespace Go.Proofs.YtihnjdhjkpmggaaVc
open Go.Proofs Go.RowKit

/-- slices.AppendSeq(nil, seq), of the iterator of a slice of ints that lies in a box. -/
def SeqPrim : Prim := fun f args Q h => f = 149 ∧ ∃ (i : Nat) (s : Sl) (xs : List Int), args = [.one (.slice 1 ⟨none, 0⟩), .one (.func (some (131, [(i, 0)])))] ∧ h i = some (.cells false [.slice 1 s]) ∧
  At h 1 s (xs.map (Cell.int .i64)) ∧ xs.length ≤ 1000 ∧ ∀ s' h', Own h h' 1 s' (xs.map (Cell.int .i64)) → Q [.one (.slice 1 s')] h'

theorem seq_sound : Sound Try.prog SeqPrim := by
  rintro f args Q h ⟨rfl, i, s, xs, rfl, hi, hat, hlen, hq⟩ ρ w vs hr hvs
  obtain ⟨vs⟩ := vs
  match vs, hvs with
  | [v0, v1], ⟨h0, h1, _⟩ =>
    obtain ⟨-, rfl⟩ : 0 = 0 ∧ v0 = .slice none 0 0 := h0
    obtain ⟨us, rfl, hus⟩ : ∃ us : Array Value, v1 = .func (.func 131) #[] us ∧ PtrsR ρ [(i, 0)] us.toList := h1
    obtain ⟨us⟩ := us
    match us, hus with
    | [u], ⟨⟨l, hl, hu⟩, _⟩ =>
      obtain rfl : u = .pointer (some ⟨l.block, l.base + 0, none⟩) := hu
      obtain ⟨cc, el, fz, hcb, hlen', hcs, _⟩ := hr.read (read_block (o := 0) (n := 1) hi (by simp)) hl
      obtain ⟨sv, hsv, hcr⟩ := hcs.get (show ([Cell.slice 1 s].drop 0 |>.take 1)[0]? = some (.slice 1 s) by rfl)
      have hcell : w.cell? ⟨l.block, l.base + 0, none⟩ = some sv := by
        rw [cell_at hcb]
        rw [List.getElem?_take] at hsv
        split at hsv
        · rw [List.getElem?_drop] at hsv; simpa using hsv
        · cases hsv
      have hn : s.len = xs.length := by have := hat.1; simpa using this
      have hints : Iter.Ints w.heap.size w sv xs := by
        obtain ⟨sa, n⟩ := s
        simp only at hn
        subst hn
        cases sa with
        | none =>
          obtain ⟨hz, rfl⟩ : xs.length = 0 ∧ sv = .slice none 0 0 := hcr
          exact .inl ⟨_, _, rfl, List.length_eq_zero_iff.1 hz⟩
        | some p =>
          obtain ⟨j, o⟩ := p
          obtain ⟨ad, c, rfl, hnc, hor⟩ := hcr
          rcases Nat.eq_zero_or_pos xs.length with hz | hpos
          · have : xs = [] := List.length_eq_zero_iff.1 hz
            subst this
            exact .inl ⟨_, _, rfl, rfl⟩
          · obtain ⟨l', hlo, rfl, hsp⟩ : ∃ l', ρ j = some l' ∧ ad = ⟨l'.block, l'.base + o, none⟩ ∧ l'.base + o + c * 1 ≤ l'.size := by
              rcases hor with h2 | h2
              · exact h2
              · omega
            obtain ⟨b, o', ha, hrd⟩ := hat.lies (by rw [List.length_map]; exact hpos)
            simp only [Option.some.injEq, Prod.mk.injEq] at ha
            obtain ⟨rfl, rfl⟩ := ha
            obtain ⟨cc, el, fz, hcb, hlen, hcs, _⟩ := hr.read hrd hlo
            refine .inr ⟨_, _, _, rfl, hr.dom _ _ hlo, fun k hk => ?_⟩
            have hx := List.getElem?_eq_getElem hk
            rw [hx, cell_at hcb]
            obtain ⟨u, hu, hcr⟩ := hcs.get (show (xs.map (Cell.int .i64))[k]? = some (.int .i64 xs[k]) by rw [List.getElem?_map, hx]; rfl)
            cases hcr
            rw [List.getElem?_take] at hu
            split at hu
            · rw [List.getElem?_drop] at hu; simpa using hu
            · cases hu
      have hcall := callsIn_wide.1 (Iter.append_in Fence.wide 3 trivial trivial rfl (by omega) l.block (l.base + 0) sv xs (by unfold maxLen; omega) (by omega) w (hr.dom _ _ hl) hcell hints)
      refine .inl ⟨⟨_, Try.func149, by kernel_rfl, by kernel_rfl⟩, ?_⟩
      refine Calls.mono hcall fun e w' ⟨v, he, how, hb⟩ => ⟨v, he, ?_⟩
      obtain ⟨hol, how⟩ := how
      rcases how with ⟨rfl, hz⟩ | ⟨g, cap, cur, rfl, hge, hg, hnc, hcm, hcz, htk⟩
      · have : xs = [] := List.length_eq_zero_iff.1 hz
        subst this
        exact ⟨ρ, h, [.one (.slice 1 ⟨none, 0⟩)], ⟨rfl, rfl⟩, hq _ _ (Own.nil _ _), hr.kept hb, Fr.kept hb⟩
      · obtain ⟨j, hj, hρj⟩ := hr.pick
        obtain ⟨hr2, fr2⟩ := HR.named (cs := xs.map (Cell.int .i64)) hr hb hj hρj hge hg (by simp; omega) (fun ρ' hle => by
          rw [List.length_map, ← Nat.mul_one xs.length, htk]
          refine CRs.of_get (by simp) fun k c v hc hv => ?_
          rw [List.getElem?_map] at hc hv
          cases hx : xs[k]? with
          | none => rw [hx] at hc; cases hc
          | some x => rw [hx] at hc hv; cases hc; cases hv; rfl)
        refine ⟨_, _, [.one (.slice 1 ⟨some (j, 0), xs.length⟩)], ?_, hq _ _ ⟨Ext.new hj, by simp, .inr ⟨j, rfl, hj, set_eq _ _ _⟩⟩, hr2, fr2⟩
        exact ⟨_, cap, rfl, hnc, .inl ⟨_, Rho.put_same _ _ _, by simp, by simp [hcz]⟩⟩
end Go.Proofs.YtihnjdhjkpmggaaVc
