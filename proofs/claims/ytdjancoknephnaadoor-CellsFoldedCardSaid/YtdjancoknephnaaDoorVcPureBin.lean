/- Vc, part 6: binary and unary operators, conversions. -/
import Derived.Test.YtdjancoknephnaaDoorVcPure
import Derived.Laws.Strings
set_option linter.unusedSimpArgs false
set_option linter.unusedVariables false
namespace Go.Proofs.YtdjancoknephnaaDoorVc

/-- The result is a value, and the run comes to one that it tells. -/
def VOut (P : Program) (ρ : Rho) (w : World) (z : TV) (s : Sem Value) : Prop := ∃ y v, z = .v y ∧ s.run P w = .ok v w ∧ VR ρ y v

theorem beq_bytes (a b : ByteArray) : (a == b) = decide (a = b) := by
  obtain ⟨⟨x⟩⟩ := a
  obtain ⟨⟨y⟩⟩ := b
  show ((⟨x⟩ : Array UInt8) == ⟨y⟩) = _
  rw [Bool.eq_iff_iff]
  simp

theorem out_val {x z : TV} {h : Heap} {ids : List Nat} (hh : (Res.val x).out h z ids) : x = z := hh.1
theorem out_glob {g : Nat} {f : Nat → Res} {z : TV} {h : Heap} {ids : List Nat} (hh : (Res.glob g f).out h z ids) : ∃ q i js, GlobIn h q g i ∧ (f i).out h z js := by
  obtain ⟨q, i, hq, hk⟩ := hh
  obtain ⟨x, js, h1, h2, _⟩ := Res.run_out hk
  subst h2
  exact ⟨q, i, js, hq, h1⟩
theorem out_room {i n : Nat} {r : Res} {z : TV} {h : Heap} {ids : List Nat} (hh : (Res.room i n r).out h z ids) : ∃ js, roomAt h i n ∧ r.out h z js := by
  obtain ⟨hq, hk⟩ := hh
  obtain ⟨x, js, h1, h2, _⟩ := Res.run_out hk
  subst h2
  exact ⟨js, hq, h1⟩
theorem out_bad {z : TV} {h : Heap} {ids : List Nat} (hh : Res.bad.out h z ids) : False := hh
theorem out_ask {p : Prop} {r : Res} {z : TV} {h : Heap} {ids : List Nat} (hh : (Res.ask p r).out h z ids) : p ∧ r.out h z ids := hh
theorem out_asks {b : Bool} {p : Prop} {r : Res} {z : TV} {h : Heap} {ids : List Nat} (hh : (Res.asks b p r).out h z ids) : (b = false → p) ∧ r.out h z ids := by
  cases b
  · exact ⟨fun _ => hh.1, hh.2⟩
  · exact ⟨fun h => (by cases h), hh⟩
theorem out_deref {a : Option (Nat × Nat)} {f : Nat → Nat → Res} {z : TV} {h : Heap} {ids : List Nat} (hh : (Res.deref a f).out h z ids) : ∃ i o, a = some (i, o) ∧ (f i o).out h z ids := by
  cases a with
  | none => exact hh.elim
  | some p => exact ⟨p.1, p.2, rfl, hh⟩

section
variable {P : Program} {ρ : Rho} {w : World} {n0 : Nat} {tm : Array Value} {h : Heap} {z : TV} {ids : List Nat}

theorem intBin_R {op : BinOp} {t : TypeId} {x' y' : Operand} {k : IntKind} {a b : Int} (hc : isConst0 y' = true → b ≠ 0)
    (ho : (intBin op y' k a b).out h z ids) : VOut P ρ w z (do eqGuard op t x' y' (.int k a) (.int k b); binOp op t (.int k a) (.int k b)) := by
  have hd : ∀ (hne : b ≠ 0), Op.intDiv .quo k a b = pure (.int k (k.wrap (a.tdiv b))) ∧ Op.intDiv .rem k a b = pure (.int k (a.tmod b)) := by
    intro hne; simp [Op.intDiv, hne]
  cases op
  case quo =>
    obtain ⟨h1, h2⟩ := out_asks ho
    have hne : b ≠ 0 := by cases hb : isConst0 y' with | true => exact hc hb | false => exact h1 hb
    cases out_val h2
    exact ⟨_, _, rfl, by simp [eqGuard_at_int, binOp_quo, (hd hne).1], rfl⟩
  case rem =>
    obtain ⟨h1, h2⟩ := out_asks ho
    have hne : b ≠ 0 := by cases hb : isConst0 y' with | true => exact hc hb | false => exact h1 hb
    cases out_val h2
    exact ⟨_, _, rfl, by simp [eqGuard_at_int, binOp_rem, (hd hne).2], rfl⟩
  all_goals first
    | (cases out_val ho
       refine ⟨_, _, rfl, ?_, rfl⟩
       simp only [eqGuard_at_int, Sem.run_bind, Sem.run_pure, Result.andThen_ok]
       first
         | (simp only [binOp_add, Op.intArith, Sem.run_pure]; done)
         | (simp only [binOp_sub, Op.intArith, Sem.run_pure]; done)
         | (simp only [binOp_mul, Op.intArith, Sem.run_pure]; done)
         | (simp only [binOp_and, Op.intBits, Sem.run_pure]; done)
         | (simp only [binOp_or, Op.intBits, Sem.run_pure]; done)
         | (simp only [binOp_xor, Op.intBits, Sem.run_pure]; done)
         | (simp only [binOp_andNot, Op.intBits, Sem.run_pure]; done)
         | (simp only [binOp_eql, Sem.run_pure]; rfl)
         | (simp only [binOp_neq, Sem.run_pure]; rfl)
         | (simp only [binOp_lss, binOp_leq, binOp_gtr, binOp_geq, Sem.run_pure]; done))
    | exact (out_bad ho).elim

theorem strBin_R {op : BinOp} {t : TypeId} {x' y' : Operand} {a b : ByteArray} (ho : (strBin op a b).out h z ids) :
    VOut P ρ w z (do eqGuard op t x' y' (.string a) (.string b); binOp op t (.string a) (.string b)) := by
  have heq : (a.toList == b.toList) = decide (a = b) := by rw [← beq_toListBytes]; exact beq_bytes a b
  cases op
  case add =>
    obtain ⟨h1, h2⟩ := out_ask ho
    cases out_val h2
    refine ⟨_, _, rfl, ?_, rfl⟩
    have h1' : ¬ (((a.size + b.size : Nat) : Int) > 9223372036854775807) := by omega
    simp only [eqGuard_at_string, Sem.run_bind, Sem.run_pure, Result.andThen_ok, binOp, Op.stringOp, IntKind.max_i64, if_neg h1', Sem.run_ite]
  all_goals first
    | (cases out_val ho
       refine ⟨_, _, rfl, ?_, rfl⟩
       simp only [eqGuard_at_string, Sem.run_bind, Sem.run_pure, Result.andThen_ok, binOp, Op.stringOp, heq]
       done)
    | exact (out_bad ho).elim

theorem run_eqIn_bool {d : Nat} {t : TypeId} (hu : P.underlying t = some .bool) (a b : Bool) : (Op.equalIn (d + 1) t (.bool a) (.bool b)).run P w = .ok (decide (a = b)) w := by
  simp only [Op.equalIn, Sem.run_bind, run_underlying hu, Result.andThen_ok, Sem.run_pure]; rfl
theorem run_eqIn_int {d : Nat} {t : TypeId} {k : IntKind} (hu : P.underlying t = some (.int k)) (k' : IntKind) (a b : Int) : (Op.equalIn (d + 1) t (.int k' a) (.int k' b)).run P w = .ok (decide (a = b)) w := by
  simp only [Op.equalIn, Sem.run_bind, run_underlying hu, Result.andThen_ok, Sem.run_pure, if_true]; rfl
theorem run_eqIn_str {d : Nat} {t : TypeId} (hu : P.underlying t = some .string) (a b : ByteArray) : (Op.equalIn (d + 1) t (.string a) (.string b)).run P w = .ok (decide (a = b)) w := by
  simp only [Op.equalIn, Sem.run_bind, run_underlying hu, Result.andThen_ok, Sem.run_pure]
  rw [beq_bytes]
theorem run_eqIn_ptr {d : Nat} {t e : TypeId} (hu : P.underlying t = some (.pointer e)) (a : Option Addr) : (Op.equalIn (d + 1) t (.pointer a) (.pointer none)).run P w = .ok a.isNone w := by
  cases a <;> simp only [Op.equalIn, Sem.run_bind, run_underlying hu, Result.andThen_ok, Sem.run_pure] <;> rfl
theorem run_eqIn_slice {d : Nat} {t e : TypeId} (hu : P.underlying t = some (.slice e)) (a : Option Addr) (n c : Nat) : (Op.equalIn (d + 1) t (.slice a n c) (.slice none 0 0)).run P w = .ok a.isNone w := by
  cases a <;> simp only [Op.equalIn, Sem.run_bind, run_underlying hu, Result.andThen_ok, Sem.run_pure] <;> rfl
theorem run_eqIn_map {d : Nat} {t e f : TypeId} (hu : P.underlying t = some (.map e f)) (a : Option Nat) : (Op.equalIn (d + 1) t (.map a) (.map none)).run P w = .ok a.isNone w := by
  cases a <;> simp only [Op.equalIn, Sem.run_bind, run_underlying hu, Result.andThen_ok, Sem.run_pure] <;> rfl
theorem run_eqIn_nilFunc {d : Nat} {t : TypeId} {ps rs : Array TypeId} {b : Bool} (hu : P.underlying t = some (.func ps rs b)) : (Op.equalIn (d + 1) t .nilFunc .nilFunc).run P w = .ok true w := by
  simp only [Op.equalIn, Sem.run_bind, run_underlying hu, Result.andThen_ok, Sem.run_pure]
theorem run_eqIn_func {d : Nat} {t : TypeId} {ps rs : Array TypeId} {b : Bool} (hu : P.underlying t = some (.func ps rs b)) (f : Fn) (x y : Array Value) : (Op.equalIn (d + 1) t (.func f x y) .nilFunc).run P w = .ok false w := by
  simp only [Op.equalIn, Sem.run_bind, run_underlying hu, Result.andThen_ok, Sem.run_pure]

theorem equal_succ (t : TypeId) (x y : Value) : Op.equal t x y = Op.equalIn (9999 + 1) t x y := rfl

theorem run_eql {t : TypeId} {x' y' : Operand} {u v : Value} {b : Bool} (hg : eqGuard .eql t x' y' u v = pure ()) (hb : binOp .eql t u v = (do pure (.bool (← Op.equal t u v)))) (he : (Op.equalIn (9999 + 1) t u v).run P w = .ok b w) :
    (do eqGuard .eql t x' y' u v; binOp .eql t u v).run P w = .ok (.bool b) w := by
  simp only [hg, hb, Sem.run_bind, Sem.run_pure, Result.andThen_ok, equal_succ, he]
theorem run_neq {t : TypeId} {x' y' : Operand} {u v : Value} {b : Bool} (hg : eqGuard .neq t x' y' u v = pure ()) (hb : binOp .neq t u v = (do pure (.bool (!(← Op.equal t u v))))) (he : (Op.equalIn (9999 + 1) t u v).run P w = .ok b w) :
    (do eqGuard .neq t x' y' u v; binOp .neq t u v).run P w = .ok (.bool (!b)) w := by
  simp only [hg, hb, Sem.run_bind, Sem.run_pure, Result.andThen_ok, equal_succ, he]

theorem binRes_R {op : BinOp} {t : TypeId} {x' y' : Operand} {x y : TV} {u v : Value} (hx : TR ρ w n0 tm x u) (hy : TR ρ w n0 tm y v)
    (hcst : ∀ k n, y = .v (.one (.int k n)) → (isConst0 y' = true → n ≠ 0) ∧ (isConstNat y' = true → 0 ≤ n))
    (hagg : ∀ cs ds, x = .v (.agg cs) → y = .v (.agg ds) → VOut P ρ w z (do eqGuard op t x' y' u v; binOp op t u v))
    (ho : (binRes P op t y' x y).out h z ids) : VOut P ρ w z (do eqGuard op t x' y' u v; binOp op t u v) := by
  unfold binRes at ho
  split at ho
  · rename_i k a k' b
    cases hx; cases hy
    obtain ⟨hc1, hc2⟩ := hcst k' b rfl
    split at ho
    · obtain ⟨h1, h2⟩ := out_asks ho
      have hb : 0 ≤ b := by cases hh : isConstNat y' with | true => exact hc2 hh | false => exact h1 hh
      cases out_val h2
      refine ⟨_, _, rfl, ?_, rfl⟩
      simp only [eqGuard_at_int, Sem.run_bind, Sem.run_pure, Result.andThen_ok, binOp_shl, Op.shift, if_neg (Int.not_lt.2 hb), shl, Sem.run_ite]
    · obtain ⟨h1, h2⟩ := out_asks ho
      have hb : 0 ≤ b := by cases hh : isConstNat y' with | true => exact hc2 hh | false => exact h1 hh
      cases out_val h2
      refine ⟨_, _, rfl, ?_, rfl⟩
      simp only [eqGuard_at_int, Sem.run_bind, Sem.run_pure, Result.andThen_ok, binOp_shr, Op.shift, if_neg (Int.not_lt.2 hb), shr, Sem.run_ite]
    · split at ho
      · rename_i hk
        cases eqKind_eq hk
        exact intBin_R hc1 ho
      · exact (out_bad ho).elim
  · cases hx; cases hy
    exact strBin_R ho
  · cases hx; cases hy
    split at ho
    · rename_i hu
      cases out_val ho
      exact ⟨_, _, rfl, run_eql (eqGuard_at_bool ..) rfl (run_eqIn_bool hu _ _), rfl⟩
    · rename_i hu
      cases out_val ho
      exact ⟨_, _, rfl, run_neq (eqGuard_at_bool ..) rfl (run_eqIn_bool hu _ _), rfl⟩
    · exact (out_bad ho).elim
  · rename_i a
    cases hy
    obtain ⟨a', rfl, ha⟩ : ∃ a', u = .pointer a' ∧ a'.isNone = a.isNone := by
      cases a with
      | none => cases hx; exact ⟨_, rfl, rfl⟩
      | some p => obtain ⟨l, _, rfl⟩ := hx; exact ⟨_, rfl, rfl⟩
    split at ho
    · rename_i hu
      cases out_val ho
      exact ⟨_, _, rfl, run_eql (eqGuard_at_pointer ..) rfl (run_eqIn_ptr hu _), by rw [ha]; rfl⟩
    · rename_i hu
      cases out_val ho
      exact ⟨_, _, rfl, run_neq (eqGuard_at_pointer ..) rfl (run_eqIn_ptr hu _), by rw [ha]; rfl⟩
    · exact (out_bad ho).elim
  · rename_i s _ _
    obtain ⟨_, rfl⟩ := hy
    obtain ⟨a', n', c', rfl, ha⟩ : ∃ a' n' c', u = .slice a' n' c' ∧ a'.isNone = s.a.isNone := by
      obtain ⟨a, n⟩ := s
      cases a with
      | none => obtain ⟨_, rfl⟩ := hx; exact ⟨_, _, _, rfl, rfl⟩
      | some p => obtain ⟨i, o⟩ := p; obtain ⟨ad, c, rfl, _⟩ := hx; exact ⟨_, _, _, rfl, rfl⟩
    split at ho
    · rename_i hu
      cases out_val ho
      exact ⟨_, _, rfl, run_eql (eqGuard_at_slice ..) rfl (run_eqIn_slice hu _ _ _), by rw [ha]; rfl⟩
    · rename_i hu
      cases out_val ho
      exact ⟨_, _, rfl, run_neq (eqGuard_at_slice ..) rfl (run_eqIn_slice hu _ _ _), by rw [ha]; rfl⟩
    · exact (out_bad ho).elim
  · rename_i m
    cases hy
    obtain ⟨a', rfl, ha⟩ : ∃ a', u = .map a' ∧ a'.isNone = m.isNone := by
      cases m with
      | none => cases hx; exact ⟨_, rfl, rfl⟩
      | some p => obtain ⟨l, _, rfl⟩ := hx; exact ⟨_, rfl, rfl⟩
    split at ho
    · rename_i hu
      cases out_val ho
      exact ⟨_, _, rfl, run_eql (eqGuard_at_map ..) rfl (run_eqIn_map hu _), by rw [ha]; rfl⟩
    · rename_i hu
      cases out_val ho
      exact ⟨_, _, rfl, run_neq (eqGuard_at_map ..) rfl (run_eqIn_map hu _), by rw [ha]; rfl⟩
    · exact (out_bad ho).elim
  · rename_i f
    cases hy
    split at ho
    · rename_i hu
      cases out_val ho
      cases f with
      | none => cases hx; exact ⟨_, _, rfl, run_eql (eqGuard_at_nilFunc ..) rfl (run_eqIn_nilFunc hu), rfl⟩
      | some p => obtain ⟨g, ps⟩ := p; obtain ⟨vs, rfl, _⟩ := hx; exact ⟨_, _, rfl, run_eql (eqGuard_at_func ..) rfl (run_eqIn_func hu _ _ _), rfl⟩
    · rename_i hu
      cases out_val ho
      cases f with
      | none => cases hx; exact ⟨_, _, rfl, run_neq (eqGuard_at_nilFunc ..) rfl (run_eqIn_nilFunc hu), rfl⟩
      | some p => obtain ⟨g, ps⟩ := p; obtain ⟨vs, rfl, _⟩ := hx; exact ⟨_, _, rfl, run_neq (eqGuard_at_func ..) rfl (run_eqIn_func hu _ _ _), rfl⟩
    · exact (out_bad ho).elim
  · rename_i cs ds
    exact hagg cs ds rfl rfl
  · exact (out_bad ho).elim
end

end Go.Proofs.YtdjancoknephnaaDoorVc
