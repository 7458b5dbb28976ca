/- strings.Repeat of this program is the library's: its contract of the kit's shelf stands over it. -/
import Derived.Test.YtdjancoknephnaaDoorVcPrims
import Derived.Test.YtdjancoknephnaaDoorVcFwN
import Derived.Test.YtdjancoknephnaaDoorVcTopG
import Derived.Shelf.Strings.Repeat
import Derived.ProofKit
import Derived.OpenShut
import Derived.FnData
import Derived.ChangeArms
set_option linter.unusedVariables false
namespace Go.Proofs.YtdjancoknephnaaDoorVc
open Go.Proofs Go.Shelf Go.RowKit
def rep29_ren : Go.Shelf.Ren := ⟨fun | 105 => 29 | 212 => 59 | 99 => 60 | 165 => 61 | 166 => 62 | 170 => 63 | 169 => 64 | 263 => 86 | 264 => 26 | 206 => 87 | 240 => 88 | 241 => 89 | 276 => 102 | 277 => 103 | n => n, fun | 9 => 9 | 3 => 3 | 4 => 4 | 20 => 20 | 0 => 0 | 46 => 84 | 109 => 88 | 5 => 5 | 72 => 94 | 76 => 96 | 51 => 112 | 146 => 113 | 53 => 50 | 148 => 53 | 70 => 91 | 37 => 92 | 75 => 86 | 127 => 115 | 164 => 123 | 80 => 98 | n => n, fun | n => n⟩
theorem rep29 : Go.Proofs.Lays.n105 Tryd.prog rep29_ren := {
  mixed := by kernel_rfl
  f99 := Tryd.func60.trans (congrArg some (by kernel_rfl))
  f105 := Tryd.func29.trans (congrArg some (by kernel_rfl))
  f165 := Tryd.func61.trans (congrArg some (by kernel_rfl))
  f166 := Tryd.func62.trans (congrArg some (by kernel_rfl))
  f169 := Tryd.func64.trans (congrArg some (by kernel_rfl))
  f170 := Tryd.func63.trans (congrArg some (by kernel_rfl))
  f206 := Tryd.func87.trans (congrArg some (by kernel_rfl))
  f212 := Tryd.func59.trans (congrArg some (by kernel_rfl))
  f240 := Tryd.func88.trans (congrArg some (by kernel_rfl))
  f241 := Tryd.func89.trans (congrArg some (by kernel_rfl))
  f263 := Tryd.func86.trans (congrArg some (by kernel_rfl))
  f264 := Tryd.func26.trans (congrArg some (by kernel_rfl))
  f276 := Tryd.func102.trans (congrArg some (by kernel_rfl))
  f277 := Tryd.func103.trans (congrArg some (by kernel_rfl))
  t0 := Tryd.underlying0
  a0 := Tryd.isAgg0
  z0 := Tryd.sizeOf0
  v0 := Tryd.zeroValue0
  t3 := Tryd.underlying3
  a3 := Tryd.isAgg3
  z3 := Tryd.sizeOf3
  v3 := Tryd.zeroValue3
  t4 := Tryd.underlying4
  a4 := Tryd.isAgg4
  z4 := Tryd.sizeOf4
  v4 := Tryd.zeroValue4
  t5 := Tryd.underlying5
  a5 := Tryd.isAgg5
  z5 := Tryd.sizeOf5
  v5 := Tryd.zeroValue5
  t9 := Tryd.underlying9
  a9 := Tryd.isAgg9
  z9 := Tryd.sizeOf9
  v9 := Tryd.zeroValue9
  t20 := Tryd.underlying20
  a20 := Tryd.isAgg20
  z20 := Tryd.sizeOf20
  v20 := Tryd.zeroValue20
  t37 := Tryd.underlying92
  a37 := Tryd.isAgg92
  z37 := Tryd.sizeOf92
  v37 := Tryd.zeroValue92
  t46 := Tryd.underlying84
  a46 := Tryd.isAgg84
  z46 := Tryd.sizeOf84
  v46 := Tryd.zeroValue84
  t51 := Tryd.underlying112
  a51 := Tryd.isAgg112
  z51 := Tryd.sizeOf112
  v51 := Tryd.zeroValue112
  t53 := Tryd.underlying50
  a53 := Tryd.isAgg50
  z53 := Tryd.sizeOf50
  v53 := Tryd.zeroValue50
  t70 := Tryd.underlying91
  a70 := Tryd.isAgg91
  z70 := Tryd.sizeOf91
  v70 := Tryd.zeroValue91
  t72 := Tryd.underlying94
  a72 := Tryd.isAgg94
  z72 := Tryd.sizeOf94
  v72 := Tryd.zeroValue94
  t75 := Tryd.underlying86
  a75 := Tryd.isAgg86
  z75 := Tryd.sizeOf86
  v75 := Tryd.zeroValue86
  t76 := Tryd.underlying96
  a76 := Tryd.isAgg96
  z76 := Tryd.sizeOf96
  v76 := Tryd.zeroValue96
  t109 := Tryd.underlying88
  a109 := Tryd.isAgg88
  z109 := Tryd.sizeOf88
  v109 := Tryd.zeroValue88
  t127 := Tryd.underlying115
  a127 := Tryd.isAgg115
  z127 := Tryd.sizeOf115
  v127 := Tryd.zeroValue115
  t146 := Tryd.underlying113
  a146 := Tryd.isAgg113
  z146 := Tryd.sizeOf113
  v146 := Tryd.zeroValue113
  t148 := Tryd.underlying53
  a148 := Tryd.isAgg53
  z148 := Tryd.sizeOf53
  v148 := Tryd.zeroValue53
  t164 := Tryd.underlying123
  a164 := Tryd.isAgg123
  z164 := Tryd.sizeOf123
  v164 := Tryd.zeroValue123 }
theorem repExtra : Builder.Extra Tryd.prog rep29_ren where
  sizeBuilder := by kernel_rfl
  liesBuilder := by kernel_rfl
  t5 := rep29.t5
  a5 := rep29.a5
  z5 := rep29.z5
  v5 := rep29.v5
  infoByte := by kernel_rfl
  cellsByte := by kernel_rfl
  sizeByte := by kernel_rfl
  neB5 := by decide
theorem rep_eq (s : ByteArray) : ∀ k, (⟨(Lib.repeatL s.data.toList k).toArray⟩ : ByteArray) = repS s k
  | 0 => rfl
  | k + 1 => by
    rw [repS, ← rep_eq s k]
    apply ByteArray.ext
    simp [Lib.repeatL]
theorem pm_sound : Sound Tryd.prog Pm := by
  rintro f args Q h ⟨rfl, s, k, hk, rfl, hs, hq⟩ ρ w vs hr hvs
  obtain ⟨vs⟩ := vs
  match vs, hvs with
  | [v0, v1], ⟨h0, h1, _⟩ =>
    obtain rfl : v0 = .string s := h0
    obtain rfl : v1 = .int .i64 k := h1
    have hb : s.size * k ≤ 140737488355328 := Nat.le_trans (Nat.mul_le_mul hs hk) (by decide)
    have hcall := Any.strings_Repeat rep29 repExtra s k w (by omega) hb
    refine .inl ⟨⟨_, Tryd.func29, by kernel_rfl, by kernel_rfl⟩, ?_⟩
    refine Calls.mono hcall fun e w' ⟨he, hb⟩ => ⟨_, he, ρ, h, _, ?_, hq h (Ext.refl h), hr.kept hb, Fr.kept hb⟩
    rw [rep_eq]
    exact rfl
/-- The table's cells, as the row says them. -/
theorem pows_laid {W : World} {q : List MemPlace} {d : DataW Unit} {r : List (String × DataW Unit)} (hd : d = .agg ((List.range 20).map fun k => .lit (.int .u64 ((10 ^ k : Nat) : Int))))
    (h : DataW.LaidVars Tryd.prog W (("internal/strconv.uint64pow10", d) :: r) q) :
    ∃ c e fz, W.heap[2]? = some (.cells c e fz) ∧ pows.length = c.size ∧ (∀ ρ, CRs ρ pows c.toList) ∧ ∀ (i : Nat) (n : Int), c[i]? ≠ some (.int .i64 n) := by
  obtain ⟨g, t, cs, fuel, p, q, hg, ht, hv, ht2, _, _⟩ := h
  obtain rfl := Option.some.inj ((show Tryd.prog.globalNamed "internal/strconv.uint64pow10" = some 2 by kernel_rfl).symm.trans hg)
  obtain rfl := Option.some.inj ((show (Tryd.prog.globals[2]?).map (·.type) = some 120 by kernel_rfl).symm.trans ht)
  obtain ⟨xs, m, _, ex, hcl, hl, hel⟩ := DataW.trod_array (show Tryd.prog.underlying 120 = some (.array 20 50) by kernel_rfl) ht2
  have c50 : Tryd.prog.cellsOf 50 = 1 := by kernel_rfl
  have c120 : Tryd.prog.cellsOf 120 = 20 := by kernel_rfl
  rw [c120] at hcl
  have e3 : xs.map (·.1) = (List.range 20).map fun k => (DataW.lit (.int .u64 ((10 ^ k : Nat) : Int)) : DataW Unit) := by
    have := (Prod.mk.inj ex).1
    rw [hd] at this
    exact (DataW.agg.inj this).symm
  have key : ∀ r, r < 20 → cs.toList[r]? = some (.int .u64 ((10 ^ r : Nat) : Int)) := fun r hr => by
    have hE := hel r hr
    rw [c50, Nat.mul_one, List.getElem?_eq_getElem (by omega)] at hE
    obtain ⟨z, e1, e2, _⟩ := DataW.trod_int (show Tryd.prog.underlying 50 = some (.int .u64) by kernel_rfl) hE
    have e4 : (xs.map (·.1))[r]? = ((List.range 20).map fun k => (DataW.lit (.int .u64 ((10 ^ k : Nat) : Int)) : DataW Unit))[r]? := by rw [e3]
    rw [List.getElem?_map, List.getElem?_map, List.getElem?_eq_getElem (by omega : r < xs.length), e2, List.getElem?_range hr] at e4
    have hz : z = ((10 ^ r : Nat) : Int) := by simpa using e4
    subst hz
    have h0 : ((cs.toList.drop r).take 1)[0]? = some (.int .u64 ((10 ^ r : Nat) : Int)) := by rw [e1]; rfl
    simpa using h0
  have hsz : cs.size = 20 := by simpa using hcl
  have hh : ∃ e fz, W.heap[2]? = some (.cells cs e fz) := by
    unfold World.var? at hv
    rw [hg] at hv
    simp only [Option.bind_some] at hv
    split at hv
    · rename_i c e fz hb
      cases hv
      exact ⟨e, fz, hb⟩
    · cases hv
  obtain ⟨e, fz, hb⟩ := hh
  refine ⟨cs, e, fz, hb, by rw [hsz]; rfl, fun ρ => ?_, fun i n hi => ?_⟩
  · refine CRs.of_get (by rw [hcl]; rfl) fun j cl v h1 h2 => ?_
    have hj : j < 20 := by
      have := (List.getElem?_eq_some_iff.1 h2).1
      omega
    rw [pows_get hj] at h1
    rw [key j hj] at h2
    cases h1; cases h2
    exact rfl
  · have hj : i < 20 := by
      have := (Array.getElem?_eq_some_iff.1 hi).1
      omega
    have := key i hj
    rw [Array.getElem?_toList, hi] at this
    cases this
end Go.Proofs.YtdjancoknephnaaDoorVc
