/- Vc: the start of a law that reads several tables of the library, of numbers each. -/
import Derived.Test.YtadakbmoanbcgaaGreatDoorVcTop
set_option linter.unusedSimpArgs false
set_option linter.unusedVariables false
namespace Go.Proofs.YtadakbmoanbcgaaGreatDoorVc
open Go.RowKit
abbrev Tabs := List (Nat × List Cell)
def tabAt (T : Tabs) (g : Nat) : Option Nat := (T.findIdx? fun p => p.1 == g).map (· + 2)
def rhoS (lo : Option (Loc × List Cell)) (T : Tabs) : Rho
  | 0 => lo.map (·.1)
  | 1 => none
  | k + 2 => (T[k]?).map fun p => ⟨p.1, 0, p.2.length⟩
def heapS (lo : Option (Loc × List Cell)) (T : Tabs) : Heap
  | 0 => lo.map fun p => .cells true p.2
  | 1 => some (.globs (tabAt T))
  | k + 2 => (T[k]?).map fun p => .cells true p.2
theorem rhoS_k (lo : Option (Loc × List Cell)) (T : Tabs) (k : Nat) : rhoS lo T (k + 2) = (T[k]?).map fun p => ⟨p.1, 0, p.2.length⟩ := rfl
theorem heapS_k (lo : Option (Loc × List Cell)) (T : Tabs) (k : Nat) : heapS lo T (k + 2) = (T[k]?).map fun p => .cells true p.2 := rfl
/-- The tables lie in the world. -/
structure TabsIn (W : World) (T : Tabs) : Prop where
  nodup : (T.map (·.1)).Nodup
  lies : ∀ p ∈ T, ∃ c e fz, W.heap[p.1]? = some (.cells c e fz) ∧ p.2.length = c.size ∧ ∀ ρ, CRs ρ p.2 c.toList
  nums : ∀ p ∈ T, ∀ c ∈ p.2, ∃ k n, c = .int k n
theorem tabAt_get {T : Tabs} (hn : (T.map (·.1)).Nodup) {j : Nat} {p : Nat × List Cell} (hj : T[j]? = some p) : tabAt T p.1 = some (j + 2) := by
  unfold tabAt
  obtain ⟨h1, h2⟩ := List.getElem?_eq_some_iff.1 hj
  have : T.findIdx? (fun q => q.1 == p.1) = some j := by
    rw [List.findIdx?_eq_some_iff_getElem]
    refine ⟨h1, by simp [h2], fun i hi => ?_⟩
    simp only [beq_iff_eq, ← h2]
    intro e
    have := (List.getElem_inj (i := i) (j := j) hn (h₀ := by simp; omega) (h₁ := by simp; omega)).1 (by simpa using e)
    omega
  rw [this]; rfl
theorem tabAt_some {T : Tabs} {g i : Nat} (h : tabAt T g = some i) : ∃ j p, i = j + 2 ∧ T[j]? = some p ∧ p.1 = g := by
  unfold tabAt at h
  cases e : T.findIdx? (fun p => p.1 == g) with
  | none => rw [e] at h; cases h
  | some j =>
    rw [e] at h
    cases h
    obtain ⟨h1, h2, _⟩ := List.findIdx?_eq_some_iff_getElem.1 e
    exact ⟨j, T[j], rfl, List.getElem?_eq_getElem h1, by simpa using h2⟩
theorem start_HRs {W : World} {lo : Option (Loc × List Cell)} {T : Tabs} (ht : TabsIn W T) (h0 : ∀ l cs, lo = some (l, cs) → (∀ p ∈ T, l.block ≠ p.1) ∧ ∃ ob, W.heap[l.block]? = some ob ∧ ∀ ρ, ObjR ρ l (.cells true cs) ob) : HR (rhoS lo T) (heapS lo T) W := by
  refine ⟨fun i o l h1 h2 => ?_, fun i j l l' h1 h2 h3 h4 h5 => ?_, fun i l h1 => ?_, ⟨T.length + 2, fun i hi => ?_⟩, fun q x i ⟨f, hq, hf⟩ => ?_⟩
  · match i, h1, h2 with
    | 0, h1, h2 =>
      cases lo with
      | none => cases h2
      | some p =>
        cases h1; cases h2
        obtain ⟨_, ob, a1, a2⟩ := h0 _ _ rfl
        exact ⟨ob, a1, a2 _⟩
    | 1, h1, h2 => cases h2
    | k + 2, h1, h2 =>
      rw [rhoS_k] at h2
      rw [heapS_k] at h1
      cases e : T[k]? with
      | none => rw [e] at h2; cases h2
      | some p =>
        rw [e] at h1 h2
        cases h1; cases h2
        obtain ⟨c, el, fz, a1, a2, a3⟩ := ht.lies p (List.mem_of_getElem? e)
        refine ⟨_, a1, c, el, fz, rfl, a2.symm, by simp [a2], ?_, fun h => by cases h⟩
        show CRs _ p.2 ((c.toList.drop 0).take p.2.length)
        rw [List.drop_zero, List.take_of_length_le (by simp [a2])]
        exact a3 _
  · have key : ∀ (k : Nat) (l : Loc), rhoS lo T (k + 2) = some l → ∃ p, T[k]? = some p ∧ l.block = p.1 := fun k l hk => by
      rw [rhoS_k] at hk
      cases e : T[k]? with
      | none => rw [e] at hk; cases hk
      | some p => rw [e] at hk; cases hk; exact ⟨p, rfl, rfl⟩
    have key0 : ∀ l : Loc, rhoS lo T 0 = some l → ∀ p ∈ T, l.block ≠ p.1 := fun l hl => by
      cases lo with
      | none => cases hl
      | some p => cases hl; exact (h0 _ _ rfl).1
    match i, j, h1, h2 with
    | 0, 0, _, _ => rfl
    | 0, k + 2, h1, h2 =>
      obtain ⟨p, hp, hb⟩ := key k l' h2
      exact absurd (h5.trans hb) (key0 l h1 p (List.mem_of_getElem? hp))
    | k + 2, 0, h1, h2 =>
      obtain ⟨p, hp, hb⟩ := key k l h1
      exact absurd (h5.symm.trans hb) (key0 l' h2 p (List.mem_of_getElem? hp))
    | k + 2, m + 2, h1, h2 =>
      obtain ⟨p, hp, hb⟩ := key k l h1
      obtain ⟨q, hq, hb'⟩ := key m l' h2
      have t1 := tabAt_get ht.nodup hp
      have t2 := tabAt_get ht.nodup hq
      rw [show p.1 = q.1 from hb.symm.trans (h5.trans hb'), t2] at t1
      exact (Option.some.inj t1).symm
    | 1, _, h1, _ => cases h1
    | _, 1, _, h2 => cases h2
  · match i, h1 with
    | 0, h1 =>
      cases lo with
      | none => cases h1
      | some p =>
        cases h1
        obtain ⟨_, ob, a1, _⟩ := h0 _ _ rfl
        exact (Array.getElem?_eq_some_iff.1 a1).1
    | 1, h1 => cases h1
    | k + 2, h1 =>
      rw [rhoS_k] at h1
      cases e : T[k]? with
      | none => rw [e] at h1; cases h1
      | some p =>
        rw [e] at h1; cases h1
        obtain ⟨c, el, fz, a1, _⟩ := ht.lies p (List.mem_of_getElem? e)
        exact (Array.getElem?_eq_some_iff.1 a1).1
  · match i, hi with
    | k + 2, hi =>
      have : T[k]? = none := List.getElem?_eq_none (by omega)
      simp [rhoS_k, heapS_k, this]
  · match q, hq with
    | 0, hq => cases lo <;> cases hq
    | 1, hq =>
      cases hq
      obtain ⟨j, p, rfl, hp, rfl⟩ := tabAt_some hf
      exact ⟨_, by rw [rhoS_k, hp]; rfl⟩
    | k + 2, hq =>
      rw [heapS_k] at hq
      cases e : T[k]? with
      | none => rw [e] at hq; cases hq
      | some p => rw [e] at hq; cases hq
theorem start_globs {lo : Option (Loc × List Cell)} {T : Tabs} (hn : (T.map (·.1)).Nodup) {j : Nat} {p : Nat × List Cell} (hj : T[j]? = some p) : GlobIn (heapS lo T) 1 p.1 (j + 2) ∧ heapS lo T (j + 2) = some (.cells true p.2) :=
  ⟨⟨_, rfl, tabAt_get hn hj⟩, by rw [heapS_k, hj]; rfl⟩
theorem start_ros {ρ : Rho} {lo : Option (Loc × List Cell)} {T : Tabs} {b : Nat} : ¬ Wr ρ (heapS lo T) b := by
  rintro ⟨i, l, o, _, _, h1, h2⟩
  match i, h1 with
  | 0, h1 => cases lo <;> cases h1 <;> cases h2
  | 1, h1 => cases h1; cases h2
  | k + 2, h1 =>
    rw [heapS_k] at h1
    cases e : T[k]? with
    | none => rw [e] at h1; cases h1
    | some p => rw [e] at h1; cases h1; cases h2
/-- A law of a row of ints that reads tables. -/
theorem topGs {P : Program} {prim : Prim} (hm : P.follows .mixedOrders = true) (hp : Sound P prim) {f : FuncId} {W : World} {k : IntKind} {a : Option Addr} {len cap : Nat} {zs : List Int}
    (hb : ∃ fn, P.funcs[f]? = some fn ∧ (fn.name == "runtime.NumGoroutine") = false ∧ fn.body.isNone = false)
    (hz : (a = none ∧ len = 0 ∧ cap = 0 ∧ zs = []) ∨ ∃ x, a = some x ∧ len ≤ cap ∧ zs.length = cap ∧ ∀ i, i < zs.length → W.cell? (x.add i) = some (.int k (zs.getD i 0)))
    {T : Tabs} (ht : TabsIn W T)
    (hd : ∀ s h, At h 1 s ((zs.take len).map (.int k)) → (∀ j p, T[j]? = some p → GlobIn h 1 p.1 (j + 2) ∧ h (j + 2) = some (.cells true p.2)) → Does P prim f [.one (.slice 1 s)] tru h) (hf : isBnd f = false := by rfl) :
    Go.Calls P f #[.slice a len cap] W (fun e W' => e = .returned (.bool true) ∧ Below W.heap.size W W') := by
  have key : ∀ (lo : Option (Loc × List Cell)) (s : Sl), HR (rhoS lo T) (heapS lo T) W → At (heapS lo T) 1 s ((zs.take len).map (.int k)) → CR (rhoS lo T) (.slice 1 s) (.slice a len cap) →
      Go.Calls P f #[.slice a len cap] W (fun e W' => e = .returned (.bool true) ∧ Below W.heap.size W W') := fun lo s hr hat hs => by
    have told := does_sound (eqOk P) (drawOk hm (eqOk P)) hp f _ _ _ (hd s _ hat fun j p hj => start_globs ht.nodup hj) _ W #[.slice a len cap] hr (show VRs _ [.one (.slice 1 s)] [.slice a len cap] from ⟨hs, trivial⟩)
    rw [told_plain hf] at told
    rcases told with ⟨_, hc⟩ | ⟨v, w', hcf, _⟩
    case inr =>
      obtain ⟨fn, hfn, hname, hbody⟩ := hb
      simp only [callFunc, Sem.run_bind, Sem.run_pure, Result.andThen_ok, run_program, hfn, hname, hbody, Bool.false_eq_true, if_false, Sem.run_ite] at hcf
      cases hcf
    refine hc.mono fun en w' ⟨v, he, ρ', h', rs, hrs, ht, hr', fr⟩ => ?_
    cases ht
    obtain rfl : v = .bool true := hrs
    exact ⟨he, fr.os, fr.tape, fr.output, fr.size, fun b hb => fr.keep b hb start_ros⟩
  by_cases hc0 : cap = 0
  · have hlen : len = 0 ∧ zs = [] := by
      rcases hz with ⟨_, h1, _, h2⟩ | ⟨x, _, h1, h2, _⟩
      · exact ⟨h1, h2⟩
      · exact ⟨by omega, List.length_eq_zero_iff.1 (by omega)⟩
    obtain ⟨rfl, rfl⟩ := hlen
    have hr : HR (rhoS none T) (heapS none T) W := start_HRs ht fun l cs h => by cases h
    cases a with
    | none => subst hc0; exact key _ ⟨none, 0⟩ hr ⟨rfl, .inl rfl⟩ ⟨rfl, rfl⟩
    | some x => exact key _ ⟨some (0, 0), 0⟩ hr ⟨rfl, .inl rfl⟩ ⟨x, cap, rfl, Nat.zero_le _, .inr hc0⟩
  · rcases hz with ⟨_, _, h1, _⟩ | ⟨x, rfl, hle, hzc, hcell⟩
    · exact absurd h1 hc0
    · have hx0 := hcell 0 (by omega)
      have hblk : ∃ c e fz, W.heap[x.block]? = some (.cells c e fz) ∧ x.spot = none := by
        rw [show x.add 0 = x from rfl] at hx0
        unfold World.cell? at hx0
        split at hx0
        · rename_i c e fz hb
          refine ⟨c, e, fz, hb, ?_⟩
          cases hsp : x.spot with
          | none => rfl
          | some _ => rw [hsp] at hx0; simp at hx0
        · cases hx0
      obtain ⟨cx, ex, fx, hb, hsp⟩ := hblk
      have hcs : ∀ i, i < zs.length → cx[x.off + i]? = some (.int k (zs.getD i 0)) := fun i hi => by
        have := hcell i hi
        unfold World.cell? Addr.add at this
        by_cases h0 : i = 0
        · subst h0; simpa [hb, hsp] using this
        · simpa [h0, hb] using this
      have hsz : x.off + zs.length ≤ cx.size := by
        have h1 := hcs (zs.length - 1) (by omega)
        have h2 := (Array.getElem?_eq_some_iff.1 h1).1
        omega
      by_cases hal : ∃ p ∈ T, p.1 = x.block
      · obtain ⟨p, hpm, hpx⟩ := hal
        obtain ⟨j, hj, hjp⟩ := List.mem_iff_getElem.1 hpm
        have hjs : T[j]? = some p := by rw [List.getElem?_eq_getElem hj, hjp]
        have hr : HR (rhoS none T) (heapS none T) W := start_HRs ht fun l cs h => by cases h
        obtain ⟨c, el, fz, a1, a2, a3⟩ := ht.lies p hpm
        rw [hpx] at a1
        have hcc : cx = c := by rw [hb] at a1; cases a1; rfl
        subst hcc
        have htab : ∀ i, i < zs.length → p.2[x.off + i]? = some (.int k (zs.getD i 0)) := fun i hi => by
          have h1 := hcs i hi
          obtain ⟨cl, hcl⟩ : ∃ cl, p.2[x.off + i]? = some cl := ⟨_, List.getElem?_eq_getElem (by omega)⟩
          obtain ⟨k', n', rfl⟩ := ht.nums p hpm cl (List.mem_of_getElem? hcl)
          have h2 := (a3 (rhoS none T)).at hcl (show cx.toList[x.off + i]? = some _ by rw [Array.getElem?_toList]; exact h1)
          rw [hcl]
          have h3 : Value.int k (zs.getD i 0) = Value.int k' n' := h2
          cases h3; rfl
        refine key none ⟨some (j + 2, x.off), len⟩ hr ⟨by simp; omega, .inr ?_⟩ ⟨x, cap, rfl, hle, .inl ⟨⟨p.1, 0, p.2.length⟩, by rw [rhoS_k, hjs]; rfl, ?_, by show 0 + x.off + cap * 1 ≤ p.2.length; omega⟩⟩
        · show (heapS none T).read (j + 2) x.off (len * 1) = _
          have h1 := (start_globs (lo := none) ht.nodup hjs).2
          unfold Heap.read
          rw [h1]
          simp only
          rw [if_pos (by omega)]
          congr 1
          refine List.ext_getElem? fun i => ?_
          rw [List.getElem?_take, List.getElem?_map, List.getElem?_take]
          by_cases hi : i < len
          · rw [if_pos (by omega), if_pos hi, List.getElem?_drop, htab i (by omega), List.getElem?_eq_getElem (show i < zs.length by omega)]
            simp [List.getD_eq_getElem?_getD, show i < zs.length by omega]
          · rw [if_neg (by omega), if_neg hi]; rfl
        · obtain ⟨b, o, s⟩ := x; simp at hsp hpx; subst hsp; simp [hpx]
      · have hr : HR (rhoS (some (⟨x.block, x.off, cx.size⟩, zs.map (.int k))) T) (heapS (some (⟨x.block, x.off, cx.size⟩, zs.map (.int k))) T) W := by
          refine start_HRs ht fun l cs h => ?_
          cases h
          refine ⟨fun p hp h => hal ⟨p, hp, h.symm⟩, _, hb, fun ρ => ⟨cx, ex, fx, rfl, rfl, by simpa using hsz, ?_, fun h => by cases h⟩⟩
          refine CRs.of_get (by simp; omega) fun j cl v h1 h2 => ?_
          rw [List.getElem?_map] at h1
          have hj : j < zs.length := by
            by_cases hj : j < zs.length
            · exact hj
            · simp [hj] at h1
          rw [List.getElem?_take, List.getElem?_drop] at h2
          have h3 := hcs j hj
          simp [hj] at h1 h2
          rw [h3] at h2
          cases h2
          subst h1
          simp [CR, List.getD_eq_getElem?_getD, hj]
        refine key _ ⟨some (0, 0), len⟩ hr ⟨by simp; omega, .inr ?_⟩ ⟨x, cap, rfl, hle, .inl ⟨⟨x.block, x.off, cx.size⟩, rfl, ?_, by show x.off + 0 + cap * 1 ≤ cx.size; omega⟩⟩
        · simp [Heap.sl, Heap.read, heapS, List.map_take, hzc, hle]
        · obtain ⟨b, o, s⟩ := x; simp at hsp; subst hsp; rfl
end Go.Proofs.YtadakbmoanbcgaaGreatDoorVc
