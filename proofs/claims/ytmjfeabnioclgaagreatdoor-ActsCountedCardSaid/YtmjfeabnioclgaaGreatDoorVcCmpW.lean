/- A comparison of strings of the library's that has no body; two primitives. -/
import Derived.Test.YtmjfeabnioclgaaGreatDoorVcWord
import Derived.Lib.Bytealg
set_option linter.unusedVariables false
namespace Go.Proofs.YtmjfeabnioclgaaGreatDoorVc
/-- Strings are compared. -/
def CmpPrim (n : FuncId) : Prim := fun f args Q h => f = n ∧ ∃ s t, args = [.one (.str s), .one (.str t)] ∧ Q [.one (.int .i64 (Lib.compareBytes s.data.toList t.data.toList))] h
theorem cmp_sound {P : Program} {n : FuncId} {fn : Func} (hf : P.funcs[n]? = some fn) (hname : (fn.name == "runtime.NumGoroutine") = false)
    (hb : fn.body.isNone = true) (hn : Extern.findNext fn = none) (he : Extern.find fn = some Extern.BytealgCompare.compare) : Sound P (CmpPrim n) := by
  rintro f args Q h ⟨rfl, s, t, rfl, hq⟩ ρ w vs hr hvs
  obtain ⟨vs⟩ := vs
  match vs, hvs with
  | [a, b], ⟨ha, hb', _⟩ =>
    obtain rfl : a = .string s := ha
    obtain rfl : b = .string t := hb'
    exact .inr ⟨_, w, by rw [run_callFunc_extern hf hname hb hn he, Lib.run_compareString]; rfl, ρ, h, [.one (.int .i64 (Lib.compareBytes s.data.toList t.data.toList))], rfl, hq, hr, Fr.refl _ _ _⟩
/-- One of two. -/
def OrPrim (p q : Prim) : Prim := fun f args Q h => p f args Q h ∨ q f args Q h
theorem or_sound {P : Program} {p q : Prim} (h1 : Sound P p) (h2 : Sound P q) : Sound P (OrPrim p q) := fun f args Q h hpq => hpq.elim (h1 f args Q h) (h2 f args Q h)

end Go.Proofs.YtmjfeabnioclgaaGreatDoorVc
