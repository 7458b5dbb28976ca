/- Vc, part 11b: '==' of plain structs. -/
import Derived.Test.YtadakbmoanbcgaaGreatDoorVcPureMain
import Derived.Test.YtadakbmoanbcgaaGreatDoorVcEqA
set_option linter.unusedSimpArgs false
set_option linter.unusedVariables false
namespace Go.Proofs.YtadakbmoanbcgaaGreatDoorVc
section
variable {P : Program} {ρ : Rho}
theorem eqOk (P : Program) : EqOk P := by
  intro ρ w t ks cs ds us vs op x' y' hp hu hv b hb
  unfold plainS at hp
  split at hp
  · rename_i fs hf hg
    have he := equal_sound (P := P) w 8 t ks hp 10000 (by omega) (.agg us) (.agg vs) cs ds b (.inl ⟨fs, us, hf, rfl, hu⟩) (.inl ⟨fs, vs, hf, rfl, hv⟩) hb
    constructor
    · rintro rfl
      rw [Sem.run_bind, run_eqGuard_agg w .eql t x' y' us vs hg, Result.andThen_ok, run_eql_struct, he, Result.andThen_ok]
    · rintro rfl
      rw [Sem.run_bind, run_eqGuard_agg w .neq t x' y' us vs hg, Result.andThen_ok, run_neq_struct, he, Result.andThen_ok]
  · cases hp

end
end Go.Proofs.YtadakbmoanbcgaaGreatDoorVc
