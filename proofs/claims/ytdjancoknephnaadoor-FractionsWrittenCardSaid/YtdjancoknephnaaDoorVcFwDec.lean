/- Digits of a number, written into a block of bytes. -/
import Derived.Test.YtdjancoknephnaaDoorVcFwVc
set_option linter.unusedSimpArgs false
set_option linter.unusedVariables false
namespace Go.Proofs.YtdjancoknephnaaDoorVc

/-- The digit with the weight 10^j. -/
def digit (u j : Nat) : Cell := .int .u8 ((48 + u / 10 ^ j % 10 : Nat) : Int)
/-- The last `len` digits of a number. -/
def digs (u len : Nat) : List Cell := (List.range len).map fun k => digit u (len - 1 - k)
theorem digs_len (u len : Nat) : (digs u len).length = len := by simp [digs]
theorem digs_get {u len k : Nat} (hk : k < len) : (digs u len)[k]? = some (digit u (len - 1 - k)) := by simp [digs, hk]

/-- From the place k on the digits stand. -/
structure Dg (cs D : List Cell) (o len : Nat) (cs' : List Cell) (k : Nat) : Prop where
  same : cs'.length = cs.length
  room : o + len ≤ cs.length
  dlen : D.length = len
  le : k ≤ len
  out : ∀ j, j < o ∨ o + len ≤ j → cs'[j]? = cs[j]?
  in_ : ∀ j, k ≤ j → j < len → cs'[o + j]? = D[j]?

theorem Dg.start {cs D : List Cell} {o len : Nat} (hr : o + len ≤ cs.length) (hd : D.length = len) : Dg cs D o len cs len :=
  ⟨rfl, hr, hd, Nat.le_refl _, fun _ _ => rfl, fun j h1 h2 => by omega⟩
theorem Dg.put {cs D cs' : List Cell} {o len k : Nat} {c : Cell} (J : Dg cs D o len cs' (k + 1)) (hc : D[k]? = some c) : Dg cs D o len (cs'.set (o + k) c) k := by
  have hk := J.le
  have hr := J.room
  have hs := J.same
  refine ⟨by simp [J.same], J.room, J.dlen, by omega, fun j hj => ?_, fun j h1 h2 => ?_⟩
  · rw [List.getElem?_set_ne (by omega)]
    exact J.out j hj
  · by_cases e : j = k
    · subst e
      rw [List.getElem?_set_self (by omega), hc]
    · rw [List.getElem?_set_ne (by omega)]
      exact J.in_ j (by omega) h2
theorem Dg.done {cs D cs' : List Cell} {o len : Nat} (J : Dg cs D o len cs' 0) : cs' = cs.take o ++ D ++ cs.drop (o + len) := by
  have hr := J.room
  have hd := J.dlen
  apply List.ext_getElem?
  intro j
  rcases Nat.lt_or_ge j o with h1 | h1
  · rw [J.out j (.inl h1), List.append_assoc, List.getElem?_append_left (by simp; omega), List.getElem?_take, if_pos h1]
  · rcases Nat.lt_or_ge j (o + len) with h2 | h2
    · have := J.in_ (j - o) (Nat.zero_le _) (by omega)
      rw [show o + (j - o) = j by omega] at this
      rw [this, List.append_assoc, List.getElem?_append_right (by simp; omega), List.getElem?_append_left (by simp; omega)]
      congr 1
      simp
      omega
    · rw [J.out j (.inr h2), List.getElem?_append_right (by simp; omega), List.getElem?_drop]
      congr 1
      simp
      omega

/-- One digit is stored. -/
theorem put1 {F : Heap} {i o len k : Nat} {cs cs' D : List Cell} {y : Int} {c : Cell} {K : T}
    (J : Dg cs D o len cs' (k + 1)) (hx : y = (k : Nat)) (hc : D[k]? = some c) (hK : ∀ cs'', Dg cs D o len cs'' k → K (F.set i (.cells false cs''))) :
    ((0 ≤ y) ∧ y < (len : Int)) ∧ derefK (some (i, o)) (fun a b => fun h => storeK [] a (b + y.toNat * 1) [c] K h) (F.set i (.cells false cs')) := by
  have hk := J.le
  have hr := J.room
  have hsm := J.same
  subst hx
  refine ⟨⟨by omega, by omega⟩, derefK_intro rfl ?_⟩
  refine storeK_one (cs := cs') (set_eq _ _ _) (by simp; omega) ?_
  rw [set_set]
  have := hK _ (J.put hc)
  simpa using this

theorem smalls_at : ∀ k : Fin 100, byteAt smalls ((2 * k.val : Nat) : Int) = ((48 + k.val / 10 : Nat) : Int) ∧ byteAt smalls ((2 * k.val + 1 : Nat) : Int) = ((48 + k.val % 10 : Nat) : Int) := by decide +kernel
theorem wu32 {n : Int} (h0 : 0 ≤ n) (h1 : n < 4294967296) : IntKind.u32.wrap n = n := by
  unfold IntKind.wrap
  simp [IntKind.bits, IntKind.signed]
  omega
theorem pair0 {t : Nat} (ht : t < 100) : IntKind.u32.wrap ((t : Int) * 2) = ((2 * t : Nat) : Int) := by rw [wu32 (by omega) (by omega)]; omega
theorem pair1 {t : Nat} (ht : t < 100) : IntKind.u32.wrap (IntKind.u32.wrap ((t : Int) * 2) + 1) = ((2 * t + 1 : Nat) : Int) := by rw [pair0 ht, wu32 (by omega) (by omega)]; omega
theorem small0 {t : Nat} (ht : t < 100) : byteAt smalls (IntKind.u32.wrap ((t : Int) * 2)) = ((48 + t / 10 : Nat) : Int) := by rw [pair0 ht]; exact (smalls_at ⟨t, ht⟩).1
theorem small1 {t : Nat} (ht : t < 100) : byteAt smalls (IntKind.u32.wrap (IntKind.u32.wrap ((t : Int) * 2) + 1)) = ((48 + t % 10 : Nat) : Int) := by rw [pair1 ht]; exact (smalls_at ⟨t, ht⟩).2
theorem tmodN (a b : Nat) : (a : Int).tmod (b : Int) = ((a % b : Nat) : Int) := by rw [Int.tmod_eq_emod_of_nonneg (by omega)]; rfl
theorem tdivN (a b : Nat) : (a : Int).tdiv (b : Int) = ((a / b : Nat) : Int) := by rw [Int.tdiv_eq_ediv_of_nonneg (by omega)]; rfl
theorem wN32 {a : Nat} (ha : a < 4294967296) : IntKind.u32.wrap (a : Int) = (a : Int) := wu32 (by omega) (by omega)

end Go.Proofs.YtdjancoknephnaaDoorVc
