/- Vc, part 24: a law of a row of ints. -/
import Derived.Test.YtadakbmoanbcgaaGreatDoorVcDrawA
import Derived.Below
set_option linter.unusedSimpArgs false
set_option linter.unusedVariables false
namespace Go.Proofs.YtadakbmoanbcgaaGreatDoorVc
open Go.RowKit

/-- What stands in memory where s looks: elements of sz cells each. -/
def At (h : Heap) (sz : Nat) (s : Sl) (xs : List Cell) : Prop := s.len * sz = xs.length ∧ (xs = [] ∨ h.sl sz s = some xs)

theorem sound_none (P : Program) : Sound P (fun _ _ _ _ => False) := fun _ _ _ _ h => h.elim

theorem wr_ro {ρ : Rho} {h : Heap} {b : Nat} (hro : ∀ i o, h i = some o → ∃ cs, o = .cells true cs) : ¬ Wr ρ h b := by
  rintro ⟨i, l, o, _, _, h1, h2⟩
  obtain ⟨cs, rfl⟩ := hro i o h1
  cases h2

def tru (rs : List V) (_ : Heap) : Prop := rs = [.one (.bool true)]

theorem topV {P : Program} {prim : Prim} (hm : P.follows .mixedOrders = true) (hp : Sound P prim) {f : FuncId} {W : World} {k : IntKind} {a : Option Addr} {len cap : Nat} {zs : List Int}
    (hb : ∃ fn, P.funcs[f]? = some fn ∧ (fn.name == "runtime.NumGoroutine") = false ∧ fn.body.isNone = false)
    (hz : (a = none ∧ len = 0 ∧ cap = 0 ∧ zs = []) ∨ ∃ x, a = some x ∧ len ≤ cap ∧ zs.length = cap ∧ ∀ i, i < zs.length → W.cell? (x.add i) = some (.int k (zs.getD i 0)))
    {ys : List V} {us : List Value} (hys : ∀ ρ, VRs ρ ys us)
    (hd : ∀ s h, At h 1 s ((zs.take len).map (.int k)) → Does P prim f (.one (.slice 1 s) :: ys) tru h) (hf : isBnd f = false := by rfl) :
    Calls P f (.slice a len cap :: us).toArray W (fun e W' => e = .returned (.bool true) ∧ Below W.heap.size W W') := by
  have key : ∀ (ρ : Rho) (h : Heap) (s : Sl), HR ρ h W → At h 1 s ((zs.take len).map (.int k)) → CR ρ (.slice 1 s) (.slice a len cap) → (∀ i o, h i = some o → ∃ cs, o = .cells true cs) →
      Calls P f (.slice a len cap :: us).toArray W (fun e W' => e = .returned (.bool true) ∧ Below W.heap.size W W') := fun ρ h s hr hat hs hro => by
    have told := does_sound (eqOk P) (drawOk hm (eqOk P)) hp f _ _ h (hd s h hat) ρ W (.slice a len cap :: us).toArray hr (show VRs ρ (.one (.slice 1 s) :: ys) (.slice a len cap :: us) from ⟨hs, hys ρ⟩)
    rw [told_plain hf] at told
    rcases told with ⟨_, hc⟩ | ⟨v, w', hcf, _⟩
    case inr =>
      obtain ⟨fn, hfn, hname, hbody⟩ := hb
      simp only [callFunc, Sem.run_bind, Sem.run_pure, Result.andThen_ok, run_program, hfn, hname, hbody, Bool.false_eq_true, if_false, Sem.run_ite] at hcf
      cases hcf
    refine hc.mono fun en w' ⟨v, he, ρ', h', rs, hrs, ht, hr', fr⟩ => ?_
    cases ht
    obtain rfl : v = .bool true := hrs
    exact ⟨he, fr.os, fr.tape, fr.output, fr.size, fun b hb => fr.keep b hb (wr_ro hro)⟩
  by_cases hc0 : cap = 0
  · have hlen : len = 0 ∧ zs = [] := by
      rcases hz with ⟨_, h1, _, h2⟩ | ⟨x, _, h1, h2, _⟩
      · exact ⟨h1, h2⟩
      · exact ⟨by omega, List.length_eq_zero_iff.1 (by omega)⟩
    obtain ⟨rfl, rfl⟩ := hlen
    have hr : HR (fun _ => none) (fun _ => none) W := ⟨fun _ _ _ h => by simp at h, fun _ _ _ _ h => by simp at h, fun _ _ h => by simp at h, ⟨0, fun _ _ => ⟨rfl, rfl⟩⟩, fun _ _ _ ⟨_, h, _⟩ => by cases h⟩
    cases a with
    | none => subst hc0; exact key _ _ ⟨none, 0⟩ hr ⟨rfl, .inl rfl⟩ ⟨rfl, rfl⟩ (fun i o h => by simp at h)
    | some x => exact key _ _ ⟨some (0, 0), 0⟩ hr ⟨rfl, .inl rfl⟩ ⟨x, cap, rfl, Nat.zero_le _, .inr hc0⟩ (fun i o h => by simp at h)
  · rcases hz with ⟨_, _, h1, _⟩ | ⟨x, rfl, hle, hzc, hcell⟩
    · exact absurd h1 hc0
    · have hx0 := hcell 0 (by omega)
      have hblk : ∃ c e fz, W.heap[x.block]? = some (.cells c e fz) ∧ x.spot = none := by
        rw [show x.add 0 = x from rfl] at hx0
        unfold World.cell? at hx0
        split at hx0
        · rename_i c e fz hb
          refine ⟨c, e, fz, hb, ?_⟩
          cases hsp : x.spot with
          | none => rfl
          | some _ => rw [hsp] at hx0; simp at hx0
        · cases hx0
      obtain ⟨c, e, fz, hb, hsp⟩ := hblk
      have hcs : ∀ i, i < zs.length → c[x.off + i]? = some (.int k (zs.getD i 0)) := fun i hi => by
        have := hcell i hi
        unfold World.cell? Addr.add at this
        by_cases h0 : i = 0
        · subst h0; simpa [hb, hsp] using this
        · simpa [h0, hb] using this
      have hsz : x.off + zs.length ≤ c.size := by
        have h1 := hcs (zs.length - 1) (by omega)
        have h2 := (Array.getElem?_eq_some_iff.1 h1).1
        omega
      let ρ : Rho := fun j => match j with
        | 0 => some ⟨x.block, x.off, c.size⟩
        | _ => none
      let h : Heap := fun j => match j with
        | 0 => some (.cells true (zs.map (.int k)))
        | _ => none
      have hbl : x.block < W.heap.size := (Array.getElem?_eq_some_iff.1 hb).1
      have hr : HR ρ h W := by
        refine ⟨fun i o l h1 h2 => ?_, fun i j l l' h1 h2 _ _ _ => ?_, fun i l h1 => ?_, ⟨1, fun i hi => ?_⟩, fun q g i ⟨f, hq, _⟩ => ?_⟩
        · match i, h1, h2 with
          | 0, h1, h2 =>
            cases h1; cases h2
            refine ⟨_, hb, c, e, fz, rfl, rfl, by simpa using hsz, ?_, fun h => by cases h⟩
            refine CRs.of_get (by simp; omega) fun j cl v h1 h2 => ?_
            rw [List.getElem?_map] at h1
            have hj : j < zs.length := by
              by_cases hj : j < zs.length
              · exact hj
              · simp [hj] at h1
            rw [List.getElem?_take, List.getElem?_drop] at h2
            have h3 := hcs j hj
            simp [hj] at h1 h2
            rw [h3] at h2
            cases h2
            subst h1
            simp [CR, List.getD_eq_getElem?_getD, hj]
        · match i, j, h1, h2 with
          | 0, 0, _, _ => rfl
        · match i, h1 with
          | 0, h1 => cases h1; exact hbl
        · match i, hi with
          | i + 1, _ => exact ⟨rfl, rfl⟩
        · match q, hq with
          | 0, hq => cases hq
      refine key ρ h ⟨some (0, 0), len⟩ hr ⟨by simp; omega, .inr ?_⟩ ⟨x, cap, rfl, hle, .inl ⟨⟨x.block, x.off, c.size⟩, rfl, ?_, by show x.off + 0 + cap * 1 ≤ c.size; omega⟩⟩ (fun i o h1 => ?_)
      · simp [Heap.sl, Heap.read, h, List.map_take, hzc, hle]
      · obtain ⟨b, o, s⟩ := x; simp at hsp; subst hsp; rfl
      · match i, h1 with
        | 0, h1 => cases h1; exact ⟨_, rfl⟩

theorem top {P : Program} {prim : Prim} (hm : P.follows .mixedOrders = true) (hp : Sound P prim) {f : FuncId} {W : World} {k : IntKind} {a : Option Addr} {len cap : Nat} {zs : List Int}
    (hb : ∃ fn, P.funcs[f]? = some fn ∧ (fn.name == "runtime.NumGoroutine") = false ∧ fn.body.isNone = false)
    (hz : (a = none ∧ len = 0 ∧ cap = 0 ∧ zs = []) ∨ ∃ x, a = some x ∧ len ≤ cap ∧ zs.length = cap ∧ ∀ i, i < zs.length → W.cell? (x.add i) = some (.int k (zs.getD i 0)))
    (hd : ∀ s h, At h 1 s ((zs.take len).map (.int k)) → Does P prim f [.one (.slice 1 s)] tru h) (hf : isBnd f = false := by rfl) :
    Calls P f #[.slice a len cap] W (fun e W' => e = .returned (.bool true) ∧ Below W.heap.size W W') := topV hm hp hb hz (ys := []) (us := []) (fun _ => trivial) hd hf

/-- .. and of an int more. -/
theorem top2 {P : Program} {prim : Prim} (hm : P.follows .mixedOrders = true) (hp : Sound P prim) {f : FuncId} {W : World} {k : IntKind} {a : Option Addr} {len cap : Nat} {zs : List Int} {n : Int}
    (hb : ∃ fn, P.funcs[f]? = some fn ∧ (fn.name == "runtime.NumGoroutine") = false ∧ fn.body.isNone = false)
    (hz : (a = none ∧ len = 0 ∧ cap = 0 ∧ zs = []) ∨ ∃ x, a = some x ∧ len ≤ cap ∧ zs.length = cap ∧ ∀ i, i < zs.length → W.cell? (x.add i) = some (.int k (zs.getD i 0)))
    (hd : ∀ s h, At h 1 s ((zs.take len).map (.int k)) → Does P prim f [.one (.slice 1 s), .one (.int .i64 n)] tru h) (hf : isBnd f = false := by rfl) :
    Calls P f #[.slice a len cap, .int .i64 n] W (fun e W' => e = .returned (.bool true) ∧ Below W.heap.size W W') := topV hm hp hb hz (ys := [.one (.int .i64 n)]) (us := [.int .i64 n]) (fun _ => ⟨rfl, trivial⟩) hd hf

end Go.Proofs.YtadakbmoanbcgaaGreatDoorVc
