/- Bytes of strings. -/
import Derived.Test.YtadakbmoanbcgaaGreatDoorVcWord
set_option linter.unusedVariables false
namespace Go.Proofs.YtadakbmoanbcgaaGreatDoorVc

/-- The bytes of a string. -/
abbrev bl (s : ByteArray) : List UInt8 := s.data.toList
theorem bl_size (s : ByteArray) : s.size = (bl s).length := rfl
theorem byteAt_bl {s : ByteArray} {i : Nat} {b : UInt8} (h : (bl s)[i]? = some b) : byteAt s (i : Int) = (b.toNat : Int) := by
  obtain ⟨hlt, he⟩ := List.getElem?_eq_some_iff.1 h
  unfold byteAt
  have : s[i]? = some b := by
    rw [getElem?_pos s i (by rw [bl_size]; exact hlt)]
    congr 1
  rw [Int.toNat_natCast, this]
theorem bl_extract (s : ByteArray) (a b : Nat) : bl (s.extract a b) = ((bl s).drop a).take (b - a) := by
  show (s.extract a b).data.toList = _
  rw [ByteArray.data_extract, Array.toList_extract, List.extract_eq_take_drop]
theorem bl_inj {s t : ByteArray} (h : bl s = bl t) : s = t := by
  apply ByteArray.ext
  exact Array.toList_inj.1 h
theorem bl_nil {s : ByteArray} : s = ⟨#[]⟩ ↔ bl s = [] := ⟨fun h => by rw [h], fun h => bl_inj h⟩

def smallB (b : UInt8) : Bool := decide (97 ≤ b.toNat) && decide (b.toNat ≤ 122)
def digitB (b : UInt8) : Bool := decide (48 ≤ b.toNat) && decide (b.toNat ≤ 57)
def keyB (b : UInt8) : Bool := smallB b || digitB b || decide (b.toNat = 45) || decide (b.toNat = 95)
/-- Is it a key? -/
def isKeyL : List UInt8 → Bool
  | [] => false
  | b :: l => decide (l.length + 1 ≤ 40) && (smallB b && (b :: l).all keyB)
def isKey (s : ByteArray) : Bool := isKeyL (bl s)

/-! ### a set of bytes -/
def inC (cut : List UInt8) (n : Nat) : Bool := cut.any fun b => decide (b.toNat = n)
def setC (S : Nat → Bool) : List Cell := (List.range 256).map fun i => .bool (S i)
theorem setC_length (S : Nat → Bool) : (setC S).length = 256 := by simp [setC]
theorem setC_get (S : Nat → Bool) {n : Nat} (h : n < 256) : (setC S)[n]? = some (.bool (S n)) := by
  unfold setC; rw [List.getElem?_map, List.getElem?_range h]; rfl
theorem setC_none : setC (fun _ => false) = List.replicate 256 (.bool false) := by
  apply List.ext_getElem?
  intro i
  rcases Nat.lt_or_ge i 256 with hi | hi
  · rw [setC_get _ hi, List.getElem?_replicate, if_pos hi]
  · rw [List.getElem?_eq_none (by rw [setC_length]; exact hi), List.getElem?_eq_none (by rw [List.length_replicate]; exact hi)]
theorem setC_set (S S' : Nat → Bool) {n : Nat} (hn : n < 256) (h : ∀ i, S' i = (decide (i = n) || S i)) : (setC S).set n (.bool true) = setC S' := by
  apply List.ext_getElem?
  intro i
  rw [List.getElem?_set]
  rcases Nat.lt_or_ge i 256 with hi | hi
  · split
    · rename_i e
      subst e
      rw [if_pos (by rw [setC_length]; exact hn), setC_get _ hi, h]
      simp
    · rename_i e
      rw [setC_get _ hi, setC_get _ hi, h]
      have : decide (i = n) = false := by simpa using fun e' => e e'.symm
      rw [this]; rfl
  · rw [if_neg (by omega), List.getElem?_eq_none (by rw [setC_length]; exact hi), List.getElem?_eq_none (by rw [setC_length]; exact hi)]
theorem setC_fits (S : Nat → Bool) : fitsAll (List.replicate 256 Kd.bool) (setC S) := by
  have key : ∀ (l : List Nat) (n : Nat), l.length = n → fitsAll (List.replicate n Kd.bool) (l.map fun i => Cell.bool (S i)) := by
    intro l
    induction l with
    | nil => intro n h; subst h; trivial
    | cons a l ih => intro n h; subst h; exact ⟨trivial, ih _ rfl⟩
  unfold setC
  exact key (List.range 256) 256 List.length_range
end Go.Proofs.YtadakbmoanbcgaaGreatDoorVc
