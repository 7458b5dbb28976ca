/- Codes as strings of signs. -/
import Derived.Test.YtdjancoknephnaaGreatVcFrame
import Derived.Test.YtdjancoknephnaaGreatVcCodeMath
set_option linter.unusedSimpArgs false
set_option linter.unusedVariables false
namespace Go.Proofs.YtdjancoknephnaaGreatVc
open Go.Proofs.YtdjancoknephnaaGreatCodes

def signL : List UInt8 := [48, 49, 50, 51, 52, 53, 54, 55, 56, 57, 65, 66, 67, 68, 69, 70, 71, 72, 74, 75, 77, 78, 80, 81, 82, 84, 85, 86, 87, 88, 89]
def signS : ByteArray := ⟨⟨signL⟩⟩
def sgn (d : Nat) : UInt8 := signL.getD d 0
def code (ds : List Nat) : ByteArray := ⟨⟨ds.map sgn⟩⟩

theorem code_size (ds : List Nat) : (code ds).size = ds.length := by simp [code, ByteArray.size]
theorem sgn_idx : ∀ d, d < 31 → firstIdx signS (sgn d) = d := by decide
theorem sgn_inj : ∀ d, d < 31 → ∀ e, e < 31 → sgn d = sgn e → d = e := by decide
theorem byteAt_code {ds : List Nat} {i : Nat} {d : Nat} (h : ds[i]? = some d) : byteAt (code ds) (i : Int) = ((sgn d).toNat : Int) := by
  have hlt : i < ds.length := by
    rcases Nat.lt_or_ge i ds.length with h' | h'
    · exact h'
    · rw [List.getElem?_eq_none h'] at h; cases h
  unfold byteAt
  have : (code ds)[i]? = some (sgn d) := by
    rw [getElem?_pos (code ds) i (by rw [code_size]; exact hlt)]
    congr 1
    show (ds.map sgn)[i]'(by simpa using hlt) = _
    rw [List.getElem_map]
    congr 1
    rw [List.getElem?_eq_getElem hlt] at h
    exact Option.some.inj h
  rw [Int.toNat_natCast, this]
theorem idx_code {d : Nat} (hd : d < 31) : firstIdx signS ((((sgn d).toNat : Nat) : Int).toNat.toUInt8) = d := by
  rw [Int.toNat_natCast]
  have : (sgn d).toNat.toUInt8 = sgn d := by simp
  rw [this, sgn_idx d hd]
theorem code_append (ds es : List Nat) : code ds ++ code es = code (ds ++ es) := by
  apply ByteArray.ext
  rw [ByteArray.data_append]
  simp [code]
theorem code_extract (ds : List Nat) (l n : Nat) : (code ds).extract l n = code ((ds.drop l).take (n - l)) := by
  apply ByteArray.ext
  rw [ByteArray.data_extract]
  simp [code, List.extract_eq_take_drop]
theorem signS_eq : signS = code (List.range 31) := by decide
theorem sign_one {i : Nat} (hi : i < 31) : signS.extract i (i + 1) = code [i] := by
  rw [signS_eq, code_extract]
  congr 1
  rw [show i + 1 - i = 1 by omega, List.take_one, List.head?_drop]
  simp [hi]
theorem code_inj {ds es : List Nat} (h1 : ∀ d ∈ ds, d < 31) (h2 : ∀ d ∈ es, d < 31) (h : code ds = code es) : ds = es := by
  have h3 : ds.map sgn = es.map sgn := by
    have := congrArg (fun b => b.data.toList) h
    simpa [code] using this
  clear h
  induction ds generalizing es with
  | nil => cases es with
    | nil => rfl
    | cons e es => simp at h3
  | cons d ds ih => cases es with
    | nil => simp at h3
    | cons e es =>
      simp only [List.map_cons, List.cons.injEq] at h3
      rw [sgn_inj d (h1 d (by simp)) e (h2 e (by simp)) h3.1, ih (fun d hd => h1 d (by simp [hd])) (fun d hd => h2 d (by simp [hd])) h3.2]
theorem code_bytes (ds : List Nat) : byteCells (code ds) = ds.map fun d => .int .u8 ((sgn d).toNat : Int) := by
  simp [byteCells, code, List.map_map, Function.comp_def]

end Go.Proofs.YtdjancoknephnaaGreatVc
