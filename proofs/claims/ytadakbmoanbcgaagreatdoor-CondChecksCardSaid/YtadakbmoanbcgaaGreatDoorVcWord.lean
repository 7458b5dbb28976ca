/- Vc, part 26: words of 64 bits, streams, small things for contracts. -/
import Derived.Test.YtadakbmoanbcgaaGreatDoorVcRules
import Derived.Laws.Externs
import Derived.Laws.Bits64
set_option linter.unusedSimpArgs false
set_option linter.unusedVariables false
namespace Go.Proofs.YtadakbmoanbcgaaGreatDoorVc

theorem w64 {n : Int} (h0 : -9223372036854775808 ≤ n) (h1 : n < 9223372036854775808) : IntKind.i64.wrap n = n := by
  rw [IntKind.wrap_i64]; omega
theorem wu64 {n : Int} (h0 : 0 ≤ n) (h1 : n < 18446744073709551616) : IntKind.u64.wrap n = n := by
  rw [IntKind.wrap_u64]; omega

/-! ### a byte search of the library's that has no body -/
def IdxPrim (n : FuncId) : Prim := fun f args Q h => f = n ∧ ∃ s c, args = [.one (.str s), .one (.int .u8 c)] ∧ Q [.one (.int .i64 (firstIdx s c.toNat.toUInt8))] h

theorem idx_sound {P : Program} {n : FuncId} {fn : Func} (hf : P.funcs[n]? = some fn) (hname : (fn.name == "runtime.NumGoroutine") = false)
    (hb : fn.body.isNone = true) (hn : Extern.findNext fn = none) (he : Extern.find fn = some Extern.BytealgIndexByte.indexByte) (hbf : isBnd n = false := by rfl) : Sound P (IdxPrim n) := by
  rintro f args Q h ⟨rfl, s, c, rfl, hq⟩ ρ w vs hr hvs
  obtain ⟨vs⟩ := vs
  match vs, hvs with
  | [a, b], ⟨ha, hb', _⟩ =>
    obtain rfl : a = .string s := ha
    obtain rfl : b = .int .u8 c := hb'
    rw [told_plain hbf]
    exact .inr ⟨_, w, by rw [run_callFunc_extern hf hname hb hn he, run_indexByte_string]; rfl, ρ, h, [.one (.int .i64 (firstIdx s c.toNat.toUInt8))], rfl, hq, hr, Fr.refl _ _ _⟩

end Go.Proofs.YtadakbmoanbcgaaGreatDoorVc
