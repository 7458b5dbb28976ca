/- slices.Insert as a primitive: the pieces of its walk that know of no program. -/
import Derived.Test.YtdjancoknephnaaDoorVcWord
import Derived.Test.YtdjancoknephnaaDoorVcPrims
import Derived.Lib.Overlaps
import Derived.Shelf.RegionOpenPlain
import Derived.WalkKit
import Derived.Lib.Walk
import Derived.Lib.SliceRun
import Derived.Laws.Externs
import Derived.Laws.IdiomCopy
set_option linter.unusedVariables false
set_option linter.unusedSimpArgs false
namespace Go.Proofs.YtdjancoknephnaaDoorVc
open Go.RowKit

/-- slices.Insert of one value or more, at a slice whose block is known and may be written: the old block's name is spent, a new one stands for what is there now. -/
def InsPrim (n : FuncId) (sz bytes : Nat) (ok : List Cell → Prop) : Prim := fun f args Q h => f = n ∧ ∃ (s v : Sl) (i : Nat) (old new : List Cell), ok old ∧ ok new ∧ args = [.one (.slice sz s), .one (.int .i64 (i : Int)), .one (.slice sz v)] ∧
  h.sl sz s = some old ∧ h.mine s ∧ h.sl sz v = some new ∧ v.len ≠ 0 ∧ i ≤ s.len ∧ (∀ a o b p, s.a = some (a, o) → v.a = some (b, p) → a ≠ b) ∧ (s.len + v.len) * bytes ≤ 140737488355328 ∧
  ∀ j, h j = none → Q [.one (.slice sz ⟨some (j, 0), s.len + v.len⟩)] ((h.drop s).set j (.cells false (old.take (i * sz) ++ new ++ old.drop (i * sz))))

/-- Rows of a slice and two ints. -/
def row3 (x : Sl × Int × Int) : List Cell := [.slice 1 x.1, .int .i64 x.2.1, .int .i64 x.2.2]
def ok3 (cs : List Cell) : Prop := ∃ xs : List (Sl × Int × Int), cs = xs.flatMap row3
section
variable {P : Program}
theorem OneBlock.trans {w0 w1 w2 : World} {b : Nat} {c0 c1 c2 : Array Value} {el : TypeId} {fz : Nat × Nat} (x : OneBlock w0 w1 b c0 c1 el fz) (y : OneBlock w1 w2 b c1 c2 el fz) : OneBlock w0 w2 b c0 c2 el fz :=
  ⟨y.os.trans x.os, y.tape.trans x.tape, y.output.trans x.output, y.size.trans x.size, y.here, fun k hk => (y.there k hk).trans (x.there k hk), y.same.trans x.same⟩
theorem OneBlock.drewL {w0 w1 : World} {b : Nat} {c0 c1 : Array Value} {el : TypeId} {fz : Nat × Nat} (x : OneBlock w0.drew w1 b c0 c1 el fz) : OneBlock w0 w1 b c0 c1 el fz := ⟨x.os, x.tape, x.output, x.size, x.here, x.there, x.same⟩
theorem OneBlock.drewR {w0 w1 : World} {b : Nat} {c0 c1 : Array Value} {el : TypeId} {fz : Nat × Nat} (x : OneBlock w0 w1 b c0 c1 el fz) : OneBlock w0 w1.drew b c0 c1 el fz := ⟨x.os, x.tape, x.output, x.size, x.here, x.there, x.same⟩
theorem firstCells_block {w : World} {b X k cnt len cap : Nat} {c : Array Value} {el : TypeId} {fz : Nat × Nat} (hb : w.heap[b]? = some (.cells c el fz)) (hle : X + cnt * k ≤ c.size) :
    (Builtin.firstCells k cnt (.slice (some ⟨b, X, none⟩) len cap)).run P w = .ok ((c.toList.drop X).take (cnt * k)).toArray w := by
  have h2 : ((c.toList.drop X).take (cnt * k)).length = cnt * k := by simp; omega
  simp only [Builtin.firstCells]
  have := run_loadCells_list (P := P) w ⟨b, X, none⟩ ((c.toList.drop X).take (cnt * k)) (fun j v hj => by
    rw [addrAdd, cell_at hb]
    rw [List.getElem?_take] at hj
    split at hj
    · simpa using hj
    · cases hj)
  rw [h2] at this
  exact this
theorem copy_block {w : World} {t t' ty E : TypeId} {inf : TypeInfo} {k b X dn dc m N : Nat} {x : Value} {us : List Value} {c : Array Value} {el : TypeId} {fz : Nat × Nat}
    (ht : P.underlying t = some (.slice E)) (hi : P.info? E = some inf) (hsz : inf.size = k) (hN : Nat.min m dn = N)
    (hlen : (Builtin.lenOf x).run P w = .ok m w) (hf : (Builtin.firstCells k N x).run P w = .ok us.toArray w)
    (hb : w.heap[b]? = some (.cells c el fz)) (hfz : ∀ j, j < c.size → (decide (fz.1 ≤ j) && decide (j < fz.2)) = false)
    (hle : X + us.length ≤ c.size) (h1 : ∀ v ∈ us, v.oneCell' = true) :
    ∃ w', (Builtin.copy_ #[t, t'] ty #[.slice (some ⟨b, X, none⟩) dn dc, x]).run P w = .ok (Go.goInt N) w' ∧ ∃ c', OneBlock w w' b c c' el fz ∧ c'.toList = c.toList.take X ++ us ++ c.toList.drop (X + us.length) := by
  obtain ⟨w', c', hst, hob, htl⟩ := run_storeCells_one (P := P) (b := b) (o := X) us 0 w c hb (by simpa using hle) hfz h1
  simp only [Nat.add_zero] at htl
  refine ⟨w', ?_, c', hob, htl⟩
  simp only [Builtin.copy_, List.getElem?_toArray, List.getElem?_cons_zero, List.getElem?_cons_succ, Sem.run_bind, run_underlying ht, Result.andThen_ok, hlen, run_sizeOf hi, hsz, hN, hf, hst, Sem.run_pure]

theorem wpList_copy_ex (w : World) {ops : Array Oper} {rest : List Oper} {o : Oper} {a : Act} {Q : Exit → Act → World → Prop} (hgd : o.guard = none) (d s : Operand) (t t' : TypeId)
    (ho : o.op = .call { callee := .builtin .copy, args := #[d, s], argTypes := #[t, t'] }) (v u : Value) (hd : a.eval d = v) (hs : a.eval s = u) {n : Value} {G : World → Prop}
    (hr : ∃ w', (Builtin.copy_ #[t, t'] o.type #[v, u]).run P w = .ok n w' ∧ G w') (h : ∀ w', G w' → wpList P ops Q rest (a.put o.dst n) w') : wpList P ops Q (o :: rest) a w := by
  obtain ⟨w', hr, hg⟩ := hr
  refine wpList_plain hgd fun K hK => ?_
  unfold Oper.wp execOp
  simp only [ho, resolve, invoke, builtin, Sem.run_bind, Sem.run_pure, Result.andThen_ok, List.map_toArray, List.map_cons, List.map_nil, hd, hs, hr]
  exact hK _ _ (h w' hg)
theorem wpList_append_ex (w : World) {ops : Array Oper} {rest : List Oper} {o : Oper} {a : Act} {Q : Exit → Act → World → Prop} (hgd : o.guard = none) (d s : Operand) (t t' : TypeId)
    (ho : o.op = .call { callee := .builtin .append, args := #[d, s], argTypes := #[t, t'] }) (v u : Value) (hd : a.eval d = v) (hs : a.eval s = u) {n : Value} {w' : World}
    (hr : (Builtin.append_ #[t, t'] o.type #[v, u]).run P w = .ok n w') (h : wpList P ops Q rest (a.put o.dst n) w') : wpList P ops Q (o :: rest) a w := by
  refine wpList_plain hgd fun K hK => ?_
  unfold Oper.wp execOp
  simp only [ho, resolve, invoke, builtin, Sem.run_bind, Sem.run_pure, Result.andThen_ok, List.map_toArray, List.map_cons, List.map_nil, hd, hs, hr]
  exact hK _ _ h
theorem step_copy_ex {ops : Array Oper} {o : Oper} {a : Act} {w : World} {K : Act → World → Prop} {Q : Exit → Act → World → Prop} {E : Prop}
    (hg : o.guard = none) (d x : Operand) (dT sT : TypeId) (hop : o.op = Op.call { callee := Callee.builtin Builtin.copy, args := #[d, x], argTypes := #[dT, sT] })
    (v u : Value) (hd : a.eval d = v) (hx : a.eval x = u) {n : Value} {G : World → Prop} (hr : ∃ w', (Builtin.copy_ #[dT, sT] o.type #[v, u]).run P w = .ok n w' ∧ G w') (hK : ∀ w', G w' → K (a.put o.dst n) w') :
    if Region.wanted o (yielded ops a.tmps) = true then Oper.wp P o a w K Q else E := by
  have hw : Region.wanted o (yielded ops a.tmps) = true := by simp [Region.wanted, hg]
  obtain ⟨w', hr, hgo⟩ := hr
  rw [if_pos hw]
  unfold Oper.wp
  simp [execOp, hop, resolve, invoke, builtin, hd, hx, hr, Result.andThen]
  exact hK w' hgo
/-- slices.overlaps of two blocks answers, whatever it answers (of two blocks that stand for strings' bytes the model asks the tape). -/
theorem overlaps_any (w : World) (tS tR e : TypeId) (ht : P.underlying tS = some (.slice e)) (size : Nat) (hz : ∀ w, (Go.sizeOf e).run P w = .ok size w)
    (a b : Addr) (la ca lb cb : Nat) (hne : a.block ≠ b.block) (tA tB : TypeId) (kA kB : Nat)
    (hsa : w.shape? a.block = some (tA, kA)) (hsb : w.shape? b.block = some (tB, kB)) (hfb : w.frozen? b = false) :
    ∃ x w', (Extern.SlicesOverlaps.overlaps #[tS, tS] #[tR] #[.slice (some a) la ca, .slice (some b) lb cb]).run P w = .ok (.bool x) w' ∧ (w' = w ∨ w' = w.drew) := by
  have hnb : (a.block != b.block) = true := by simpa using hne
  have hnb' : (a.block == b.block) = false := by simpa using hne
  suffices hh : ∃ x w', Sem.run P (α := Value) (do
    let some t := (#[tS, tS] : Array TypeId)[0]? | stuck "slices.overlaps: no parameter types"
    let .slice elem ← underlying t | stuck "slices.overlaps: slice type expected"
    let size ← sizeOf elem
    match (some a : Option Addr), (some b : Option Addr) with
    | some a, some b =>
      if la = 0 ∨ lb = 0 ∨ size = 0 then pure (Value.bool false)
      else if a.block != b.block && (← frozen a) && (← frozen b) then unsupported .addressObserved
      else do
        if a.block != b.block then do
          noView a; noView b
          if ← mayBeOne a b then return Value.bool ((← choose (.extern "sameAddr.stringBytes" 2)) == 1)
        pure (Value.bool (a.block == b.block && a.off < b.off + lb * size && b.off < a.off + la * size))
    | _, _ => pure (Value.bool false)) w = .ok (.bool x) w' ∧ (w' = w ∨ w' = w.drew) from hh
  by_cases h0 : la = 0 ∨ lb = 0 ∨ size = 0
  · exact ⟨false, w, by simp [run_underlying ht, hz, h0], .inl rfl⟩
  · obtain ⟨x, hb⟩ : ∃ x, (mayBeOne a b).run P w = .ok x w := by
      cases hfa : w.frozen? a <;> cases hfe : w.frozen? { block := a.block, off := kA } <;> cases hff : w.frozen? { block := b.block, off := kB } <;>
        exact ⟨_, by simp [mayBeOne, stringish, frozen, shape, Sem.run, hsa, hsb, hfb, hfa, hfe, hff]; rfl⟩
    cases x with
    | false => exact ⟨false, w, by simp [run_underlying ht, hz, h0, hnb, hnb', frozen, noView, viewAt, shape, Sem.run, hsa, hsb, hfb, hb], .inl rfl⟩
    | true => exact ⟨_, w.drew, by simp [run_underlying ht, hz, h0, hnb, hnb', frozen, noView, viewAt, shape, Sem.run, hsa, hsb, hfb, hb, choose]; rfl, .inr rfl⟩
end
end Go.Proofs.YtdjancoknephnaaDoorVc
