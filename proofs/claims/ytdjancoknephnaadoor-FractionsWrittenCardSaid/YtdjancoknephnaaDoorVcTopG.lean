/- Vc: the start of a law that reads one table of the library. -/
import Derived.Test.YtdjancoknephnaaDoorVcTop
set_option linter.unusedSimpArgs false
set_option linter.unusedVariables false
namespace Go.Proofs.YtdjancoknephnaaDoorVc
open Go.RowKit
def startRho (lo : Option (Loc × List Cell)) (g n : Nat) : Rho
  | 0 => lo.map (·.1)
  | 2 => some ⟨g, 0, n⟩
  | _ => none
def startHeap (lo : Option (Loc × List Cell)) (g : Nat) (tab : List Cell) : Heap
  | 0 => lo.map fun p => .cells true p.2
  | 1 => some (.globs fun x => if x = g then some 2 else none)
  | 2 => some (.cells true tab)
  | _ => none
theorem start_HR {W : World} {lo : Option (Loc × List Cell)} {g : Nat} {tab : List Cell} {c : Array Value} {e : TypeId} {fz : Nat × Nat} (hb : W.heap[g]? = some (.cells c e fz)) (hl : tab.length = c.size) (hc : ∀ ρ, CRs ρ tab c.toList)
    (h0 : ∀ l cs, lo = some (l, cs) → l.block ≠ g ∧ ∃ ob, W.heap[l.block]? = some ob ∧ ∀ ρ, ObjR ρ l (.cells true cs) ob) : HR (startRho lo g c.size) (startHeap lo g tab) W := by
  have bg : g < W.heap.size := (Array.getElem?_eq_some_iff.1 hb).1
  refine ⟨fun i o l h1 h2 => ?_, fun i j l l' h1 h2 h3 h4 h5 => ?_, fun i l h1 => ?_, ⟨3, fun i hi => ?_⟩, fun q x i ⟨f, hq, hf⟩ => ?_⟩
  · match i, h1, h2 with
    | 0, h1, h2 =>
      cases lo with
      | none => cases h2
      | some p =>
        cases h1; cases h2
        obtain ⟨_, ob, a1, a2⟩ := h0 _ _ rfl
        exact ⟨ob, a1, a2 _⟩
    | 1, h1, h2 => cases h2
    | 2, h1, h2 =>
      cases h1; cases h2
      refine ⟨_, hb, c, e, fz, rfl, rfl, by simp [hl], ?_, fun h => by cases h⟩
      show CRs _ tab ((c.toList.drop 0).take tab.length)
      rw [List.drop_zero, List.take_of_length_le (by simp [hl])]
      exact hc _
    | _ + 3, h1, h2 => cases h2
  · match i, j, h1, h2 with
    | 0, 0, _, _ => rfl
    | 2, 2, _, _ => rfl
    | 0, 2, h1, h2 =>
      cases lo with
      | none => cases h1
      | some p =>
        cases h1; cases h2
        exact absurd h5 (h0 _ _ rfl).1
    | 2, 0, h1, h2 =>
      cases lo with
      | none => cases h2
      | some p =>
        cases h1; cases h2
        exact absurd h5.symm (h0 _ _ rfl).1
    | 1, _, h1, _ => cases h1
    | _ + 3, _, h1, _ => cases h1
    | _, 1, _, h2 => cases h2
    | _, _ + 3, _, h2 => cases h2
  · match i, h1 with
    | 0, h1 =>
      cases lo with
      | none => cases h1
      | some p =>
        cases h1
        obtain ⟨_, ob, a1, _⟩ := h0 _ _ rfl
        exact (Array.getElem?_eq_some_iff.1 a1).1
    | 2, h1 => cases h1; exact bg
    | 1, h1 => cases h1
    | _ + 3, h1 => cases h1
  · match i, hi with
    | _ + 3, _ => exact ⟨rfl, rfl⟩
  · match q, hq with
    | 0, hq => cases lo <;> cases hq
    | 1, hq =>
      cases hq
      simp only at hf
      split at hf
      · rename_i e; subst e; cases hf; exact ⟨_, rfl⟩
      · cases hf
    | 2, hq => cases hq
    | _ + 3, hq => cases hq
theorem start_glob {lo : Option (Loc × List Cell)} {g : Nat} {tab : List Cell} : GlobIn (startHeap lo g tab) 1 g 2 := ⟨_, rfl, if_pos rfl⟩
theorem start_ro {ρ : Rho} {lo : Option (Loc × List Cell)} {g b : Nat} {tab : List Cell} : ¬ Wr ρ (startHeap lo g tab) b := by
  rintro ⟨i, l, o, _, _, h1, h2⟩
  match i, h1 with
  | 0, h1 => cases lo <;> cases h1 <;> cases h2
  | 1, h1 => cases h1; cases h2
  | 2, h1 => cases h1; cases h2
  | _ + 3, h1 => cases h1
/-- A law of a row of ints that reads one table, whose cells are no such ints. -/
theorem topG {P : Program} {prim : Prim} (hm : P.follows .mixedOrders = true) (hp : Sound P prim) {f : FuncId} {W : World} {k : IntKind} {a : Option Addr} {len cap : Nat} {zs : List Int}
    (hb : ∃ fn, P.funcs[f]? = some fn ∧ (fn.name == "runtime.NumGoroutine") = false ∧ fn.body.isNone = false)
    (hz : (a = none ∧ len = 0 ∧ cap = 0 ∧ zs = []) ∨ ∃ x, a = some x ∧ len ≤ cap ∧ zs.length = cap ∧ ∀ i, i < zs.length → W.cell? (x.add i) = some (.int k (zs.getD i 0)))
    {g : Nat} {tab : List Cell} {c : Array Value} {e : TypeId} {fz : Nat × Nat} (hgb : W.heap[g]? = some (.cells c e fz)) (hl : tab.length = c.size) (hc : ∀ ρ, CRs ρ tab c.toList)
    (hk : ∀ (i : Nat) (n : Int), c[i]? ≠ some (Value.int k n))
    (hd : ∀ s h, At h 1 s ((zs.take len).map (.int k)) → GlobIn h 1 g 2 → h 2 = some (.cells true tab) → Does P prim f [.one (.slice 1 s)] tru h) :
    Calls P f #[.slice a len cap] W (fun e W' => e = .returned (.bool true) ∧ Below W.heap.size W W') := by
  have key : ∀ (lo : Option (Loc × List Cell)) (s : Sl), HR (startRho lo g c.size) (startHeap lo g tab) W → At (startHeap lo g tab) 1 s ((zs.take len).map (.int k)) → CR (startRho lo g c.size) (.slice 1 s) (.slice a len cap) →
      Calls P f #[.slice a len cap] W (fun e W' => e = .returned (.bool true) ∧ Below W.heap.size W W') := fun lo s hr hat hs => by
    rcases does_sound (eqOk P) (drawOk hm (eqOk P)) hp f _ _ _ (hd s _ hat start_glob rfl) _ W #[.slice a len cap] hr (show VRs _ [.one (.slice 1 s)] [.slice a len cap] from ⟨hs, trivial⟩) with ⟨_, hc⟩ | ⟨v, w', hcf, _⟩
    case inr =>
      obtain ⟨fn, hfn, hname, hbody⟩ := hb
      simp only [callFunc, Sem.run_bind, Sem.run_pure, Result.andThen_ok, run_program, hfn, hname, hbody, Bool.false_eq_true, if_false, Sem.run_ite] at hcf
      cases hcf
    refine hc.mono fun en w' ⟨v, he, ρ', h', rs, hrs, ht, hr', fr⟩ => ?_
    cases ht
    obtain rfl : v = .bool true := hrs
    exact ⟨he, fr.os, fr.tape, fr.output, fr.size, fun b hb => fr.keep b hb start_ro⟩
  by_cases hc0 : cap = 0
  · have hlen : len = 0 ∧ zs = [] := by
      rcases hz with ⟨_, h1, _, h2⟩ | ⟨x, _, h1, h2, _⟩
      · exact ⟨h1, h2⟩
      · exact ⟨by omega, List.length_eq_zero_iff.1 (by omega)⟩
    obtain ⟨rfl, rfl⟩ := hlen
    have hr : HR (startRho none g c.size) (startHeap none g tab) W := start_HR hgb hl hc fun l cs h => by cases h
    cases a with
    | none => subst hc0; exact key _ ⟨none, 0⟩ hr ⟨rfl, .inl rfl⟩ ⟨rfl, rfl⟩
    | some x => exact key _ ⟨some (0, 0), 0⟩ hr ⟨rfl, .inl rfl⟩ ⟨x, cap, rfl, Nat.zero_le _, .inr hc0⟩
  · rcases hz with ⟨_, _, h1, _⟩ | ⟨x, rfl, hle, hzc, hcell⟩
    · exact absurd h1 hc0
    · have hx0 := hcell 0 (by omega)
      have hblk : ∃ c e fz, W.heap[x.block]? = some (.cells c e fz) ∧ x.spot = none := by
        rw [show x.add 0 = x from rfl] at hx0
        unfold World.cell? at hx0
        split at hx0
        · rename_i c e fz hb
          refine ⟨c, e, fz, hb, ?_⟩
          cases hsp : x.spot with
          | none => rfl
          | some _ => rw [hsp] at hx0; simp at hx0
        · cases hx0
      obtain ⟨cx, ex, fx, hb, hsp⟩ := hblk
      have hcs : ∀ i, i < zs.length → cx[x.off + i]? = some (.int k (zs.getD i 0)) := fun i hi => by
        have := hcell i hi
        unfold World.cell? Addr.add at this
        by_cases h0 : i = 0
        · subst h0; simpa [hb, hsp] using this
        · simpa [h0, hb] using this
      have hsz : x.off + zs.length ≤ cx.size := by
        have h1 := hcs (zs.length - 1) (by omega)
        have h2 := (Array.getElem?_eq_some_iff.1 h1).1
        omega
      have hr : HR (startRho (some (⟨x.block, x.off, cx.size⟩, zs.map (.int k))) g c.size) (startHeap (some (⟨x.block, x.off, cx.size⟩, zs.map (.int k))) g tab) W := by
        refine start_HR hgb hl hc fun l cs h => ?_
        cases h
        refine ⟨fun h => ?_, _, hb, fun ρ => ⟨cx, ex, fx, rfl, rfl, by simpa using hsz, ?_, fun h => by cases h⟩⟩
        · simp only at h
          rw [h] at hb
          have := hb.symm.trans hgb
          cases this
          exact hk _ _ (hcs 0 (by omega))
        · refine CRs.of_get (by simp; omega) fun j cl v h1 h2 => ?_
          rw [List.getElem?_map] at h1
          have hj : j < zs.length := by
            by_cases hj : j < zs.length
            · exact hj
            · simp [hj] at h1
          rw [List.getElem?_take, List.getElem?_drop] at h2
          have h3 := hcs j hj
          simp [hj] at h1 h2
          rw [h3] at h2
          cases h2
          subst h1
          simp [CR, List.getD_eq_getElem?_getD, hj]
      refine key _ ⟨some (0, 0), len⟩ hr ⟨by simp; omega, .inr ?_⟩ ⟨x, cap, rfl, hle, .inl ⟨⟨x.block, x.off, cx.size⟩, rfl, ?_, by show x.off + 0 + cap * 1 ≤ cx.size; omega⟩⟩
      · simp [Heap.sl, Heap.read, startHeap, List.map_take, hzc, hle]
      · obtain ⟨b, o, s⟩ := x; simp at hsp; subst hsp; rfl
end Go.Proofs.YtdjancoknephnaaDoorVc
