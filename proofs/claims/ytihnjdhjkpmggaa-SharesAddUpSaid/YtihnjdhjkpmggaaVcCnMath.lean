/- Codes: what a changed sign does to a sum; what is joined and read again. -/
import Derived.Test.YtihnjdhjkpmggaaVcCodeStr
import Derived.Lib.Join
set_option linter.unusedSimpArgs false
set_option linter.unusedVariables false
namespace Go.Proofs.YtihnjdhjkpmggaaCodes

def ws : Nat → List Nat → Nat
  | _, [] => 0
  | k, d :: l => k * d + ws (k + 1) l
theorem fold_ws : ∀ (l : List Nat) (k a : Nat), (l.zipIdx k).foldl (fun a p => a + p.2 * p.1) a = a + ws k l
  | [], _, _ => by simp [ws]
  | d :: l, k, a => by
    rw [List.zipIdx_cons, List.foldl_cons, fold_ws l, ws]
    show a + k * d + ws (k + 1) l = a + (k * d + ws (k + 1) l)
    omega
theorem wsum_ws (l : List Nat) : wsum l = ws 1 l := by unfold wsum; rw [fold_ws]; omega
theorem ws_set : ∀ (l : List Nat) (k i d v : Nat), l[i]? = some d → ws k (l.set i v) + (k + i) * d = ws k l + (k + i) * v
  | [], _, i, _, _, h => by simp at h
  | x :: l, k, 0, d, v, h => by
    simp only [List.getElem?_cons_zero, Option.some.injEq] at h
    subst h
    simp only [List.set_cons_zero, ws, Nat.add_zero]
    omega
  | x :: l, k, i + 1, d, v, h => by
    have := ws_set l (k + 1) i d v (by simpa using h)
    simp only [List.set_cons_succ, ws]
    rw [show k + (i + 1) = k + 1 + i by omega]
    omega
theorem wsum_set {l : List Nat} {i d v : Nat} (h : l[i]? = some d) : wsum (l.set i v) + (i + 1) * d = wsum l + (i + 1) * v := by
  have := ws_set l 1 i d v h
  rw [wsum_ws, wsum_ws, Nat.add_comm i 1]
  exact this

theorem prime31 : ∀ a, a < 31 → ∀ b, b < 31 → a ≠ 0 → b ≠ 0 → a * b % 31 ≠ 0 := by decide
theorem prime31' {x y : Int} (hx : x.natAbs < 31) (hy : y.natAbs < 31) (hx0 : x ≠ 0) (hy0 : y ≠ 0) : x * y % 31 ≠ 0 := by
  intro h
  have h1 := prime31 x.natAbs hx y.natAbs hy (by omega) (by omega)
  rw [← Int.natAbs_mul] at h1
  omega

theorem set_bad {es : List Nat} {i d v : Nat} (h : es[i]? = some d) (hi : i < 30) (hd : d < 31) (hv : v < 31) (hne : v ≠ d) (h0 : wsum es % 31 = 0) : wsum (es.set i v) % 31 ≠ 0 := by
  intro h1
  have h2 := wsum_set (v := v) h
  have h3 := prime31' (x := ((i + 1 : Nat) : Int)) (y := (v : Int) - d) (by omega) (by omega) (by omega) (by omega)
  rw [Int.mul_sub, ← Int.natCast_mul, ← Int.natCast_mul] at h3
  generalize (i + 1) * d = p at *
  generalize (i + 1) * v = q at *
  omega

theorem swap_bad {es : List Nat} {i j a b : Nat} (hi : es[i]? = some a) (hj : es[j]? = some b) (hil : i < 31) (hjl : j < 31) (ha : a < 31) (hb : b < 31) (h0 : wsum es % 31 = 0) (hne : (es.set i b).set j a ≠ es) : wsum ((es.set i b).set j a) % 31 ≠ 0 := by
  have hil' : i < es.length := (List.getElem?_eq_some_iff.1 hi).1
  have hjl' : j < es.length := (List.getElem?_eq_some_iff.1 hj).1
  have hab : a ≠ b := by
    rintro rfl
    apply hne
    apply List.ext_getElem?
    intro k
    rw [List.getElem?_set, List.getElem?_set]
    split
    · rename_i h; subst h; simp [hjl']; exact (List.getElem?_eq_some_iff.1 hj).2.symm
    · split
      · rename_i h; subst h; simp [hil']; exact (List.getElem?_eq_some_iff.1 hi).2.symm
      · rfl
  have hij : i ≠ j := by
    rintro rfl
    rw [hi] at hj
    exact hab (Option.some.inj hj)
  intro h1
  have e1 := wsum_set (v := b) hi
  have e2 := wsum_set (l := es.set i b) (i := j) (d := b) (v := a) (by rw [List.getElem?_set_ne hij]; exact hj)
  have h3 := prime31' (x := (i : Int) - j) (y := (b : Int) - a) (by omega) (by omega) (by omega) (by omega)
  rw [Int.mul_sub, Int.sub_mul, Int.sub_mul, ← Int.natCast_mul, ← Int.natCast_mul, ← Int.natCast_mul, ← Int.natCast_mul] at h3
  rw [Nat.add_mul, Nat.add_mul] at e1 e2
  generalize i * a = p1 at *
  generalize i * b = p2 at *
  generalize j * a = p3 at *
  generalize j * b = p4 at *
  omega

end Go.Proofs.YtihnjdhjkpmggaaCodes

namespace Go.Proofs.YtihnjdhjkpmggaaVc
open Go.Proofs.YtihnjdhjkpmggaaCodes

theorem sign_dec : ∀ n : Nat, n < 256 → (0 ≤ firstIdx signS n.toUInt8 → ∃ d, d < 31 ∧ n.toUInt8 = sgn d) ∧ ((∃ d, d < 31 ∧ n.toUInt8 = sgn d) → 0 ≤ firstIdx signS n.toUInt8) := by decide +kernel
theorem sign_iff (b : UInt8) : 0 ≤ firstIdx signS b ↔ ∃ d, d < 31 ∧ b = sgn d := by
  have := sign_dec b.toNat b.toNat_lt
  have e : b.toNat.toUInt8 = b := by simp
  rw [e] at this
  exact ⟨this.1, this.2⟩

theorem size_list (s : ByteArray) : s.size = s.data.toList.length := rfl
theorem byteAt_get {s : ByteArray} {i : Nat} {b : UInt8} (h : s.data.toList[i]? = some b) : byteAt s (i : Int) = (b.toNat : Int) := by
  obtain ⟨hlt, he⟩ := List.getElem?_eq_some_iff.1 h
  unfold byteAt
  have : s[i]? = some b := by
    rw [getElem?_pos s i (by rw [size_list]; exact hlt)]
    congr 1
  rw [Int.toNat_natCast, this]
theorem byteAt_u8 {s : ByteArray} {i : Nat} {b : UInt8} (h : s.data.toList[i]? = some b) : (byteAt s (i : Int)).toNat.toUInt8 = b := by
  rw [byteAt_get h, Int.toNat_natCast]; simp

/-- A string of signs alone is a code. -/
theorem code_of : ∀ (l : List UInt8), (∀ b ∈ l, ∃ d, d < 31 ∧ b = sgn d) → ∃ ds : List Nat, ds.map sgn = l ∧ ∀ d ∈ ds, d < 31
  | [], _ => ⟨[], rfl, by simp⟩
  | b :: l, h => by
    obtain ⟨ds, h1, h2⟩ := code_of l fun x hx => h x (by simp [hx])
    obtain ⟨d, hd, rfl⟩ := h b (by simp)
    exact ⟨d :: ds, by simp [h1], by simpa using ⟨hd, h2⟩⟩
theorem code_list (ds : List Nat) : (code ds).data.toList = ds.map sgn := rfl
theorem eq_code {s : ByteArray} {ds : List Nat} (h : ds.map sgn = s.data.toList) : s = code ds := by
  apply ByteArray.ext
  unfold code
  rw [h]

theorem sgn_plain : ∀ d, d < 31 → sgn d ≠ 45 ∧ sgn d ≠ 32 ∧ sgn d ≠ 46 ∧ (sgn d).toNat < 97 ∧ (sgn d).toNat ≠ 79 ∧ (sgn d).toNat ≠ 73 ∧ (sgn d).toNat ≠ 76 ∧ (sgn d).toNat ≠ 83 ∧ (sgn d).toNat ≠ 90 := by decide

/-! ### groups, joined -/
theorem tail_facts : ∀ (r : List (List UInt8)), (∀ x ∈ r, ∀ b ∈ x, b ≠ 45) →
    (∀ b ∈ Lib.joinTail [45] r, b = 45 ∨ b ∈ r.flatten) ∧ (Lib.joinTail [45] r).filter (· ≠ 45) = r.flatten ∧ (Lib.joinTail [45] r).length = r.flatten.length + r.length
  | [], _ => by simp [Lib.joinTail]
  | x :: r, h => by
    obtain ⟨h1, h2, h3⟩ := tail_facts r fun y hy => h y (by simp [hy])
    have hx := h x (by simp)
    have e : Lib.joinTail [45] (x :: r) = 45 :: (x ++ Lib.joinTail [45] r) := by simp [Lib.joinTail]
    rw [e]
    refine ⟨fun b hb => ?_, ?_, ?_⟩
    · rcases List.mem_cons.1 hb with hb | hb
      · exact .inl hb
      · rcases List.mem_append.1 hb with hb | hb
        · exact .inr (by simp [hb])
        · rcases h1 b hb with h4 | h4
          · exact .inl h4
          · right; rw [List.flatten_cons]; exact List.mem_append_right _ h4
    · have hf : x.filter (fun b => decide (b ≠ 45)) = x := List.filter_eq_self.2 fun b hb => by simpa using hx b hb
      rw [List.filter_cons, List.filter_append, h2, hf]
      simp
    · simp only [List.length_cons, List.length_append, h3, List.flatten_cons]; omega

theorem join_facts (xs : List (List UInt8)) (hne : xs ≠ []) (h : ∀ x ∈ xs, ∀ b ∈ x, b ≠ 45) :
    (∀ b ∈ Lib.join xs [45], b = 45 ∨ b ∈ xs.flatten) ∧ (Lib.join xs [45]).filter (· ≠ 45) = xs.flatten ∧ (Lib.join xs [45]).length + 1 = xs.flatten.length + xs.length := by
  cases xs with
  | nil => exact absurd rfl hne
  | cons x r =>
    obtain ⟨h1, h2, h3⟩ := tail_facts r fun y hy => h y (by simp [hy])
    have hx := h x (by simp)
    rw [Lib.join_cons]
    refine ⟨fun b hb => ?_, ?_, ?_⟩
    · rcases List.mem_append.1 hb with hb | hb
      · exact .inr (by simp [hb])
      · rcases h1 b hb with h4 | h4
        · exact .inl h4
        · right; rw [List.flatten_cons]; exact List.mem_append_right _ h4
    · have hf : x.filter (fun b => decide (b ≠ 45)) = x := List.filter_eq_self.2 fun b hb => by simpa using hx b hb
      rw [List.filter_append, h2, hf]
      simp
    · simp only [List.length_append, h3, List.flatten_cons, List.length_cons]; omega

end Go.Proofs.YtihnjdhjkpmggaaVc
