/- Contracts, turned by a program to the numbers of this seat. -/
import Derived.Test.YtfemminjhecocaaGreatDoorVcGaOld
import Derived.Test.YtfemminjhecocaaGreatDoorVcLaMath
import Derived.Test.YtfemminjhecocaaGreatDoorVcCsMath
import Derived.Test.YtfemminjhecocaaGreatDoorVcKnuth
set_option linter.unusedSimpArgs false
set_option linter.unusedVariables false
-- from MaSpec1
namespace Go.Proofs.YtfemminjhecocaaGreatDoorVc
open Go.Proofs.Tryz (prog)


section
variable {I : Calls} {Q : Post} {h : Heap}
/-! ### the stream -/
/-! ### codes -/
theorem pow31_le {n : Nat} (h : n ≤ 11) : 31 ^ n ≤ 25408476896404831 := by
  have : 31 ^ n ≤ 31 ^ 11 := Nat.pow_le_pow_right (by decide) h
  exact this
/-! ### looking a string up -/
end
end Go.Proofs.YtfemminjhecocaaGreatDoorVc
-- from CcSpec2
namespace Go.Proofs.YtfemminjhecocaaGreatDoorVc
open Go.Proofs.Tryz (prog)
section
variable {I : Calls} {Q : Post} {h : Heap}
end
end Go.Proofs.YtfemminjhecocaaGreatDoorVc
-- from CcSpec4
namespace Go.Proofs.YtfemminjhecocaaGreatDoorVc
open Go.Proofs.Tryz (prog)
section
variable {I : Calls} {Q : Post} {h : Heap}
end
end Go.Proofs.YtfemminjhecocaaGreatDoorVc
-- from CnSpec
namespace Go.Proofs.YtfemminjhecocaaGreatDoorVc
open Go.Proofs.Tryz (prog)
section
variable {I : Calls} {Q : Post} {h : Heap}
end
end Go.Proofs.YtfemminjhecocaaGreatDoorVc
-- from CsBits
namespace Go.Proofs.YtfemminjhecocaaGreatDoorVc
open Go.Proofs.Tryz (prog)
section
variable {I : Calls} {Q : Post} {h : Heap}
theorem len8_ok : ∀ i : Nat, i < 256 → 0 ≤ byteAt len8S (i : Int) ∧ (byteAt len8S (i : Int)).toNat ≤ 8 ∧ i < 2 ^ (byteAt len8S (i : Int)).toNat ∧ (0 < i → 2 ^ (byteAt len8S (i : Int)).toNat ≤ 2 * i) := by decide +kernel
theorem len_idx {x k i L : Nat} (hi : x / 2 ^ k = i) (h1 : i < 2 ^ L) (h2 : 2 ^ L ≤ 2 * i) : x < 2 ^ (k + L) ∧ 2 ^ (k + L) ≤ 2 * x := by
  subst hi
  have p := Nat.two_pow_pos k
  constructor
  · rw [Nat.pow_add, Nat.mul_comm]
    exact (Nat.div_lt_iff_lt_mul p).1 h1
  · rw [Nat.pow_add]
    have h3 : 2 ^ k * 2 ^ L ≤ 2 ^ k * (2 * (x / 2 ^ k)) := Nat.mul_le_mul_left _ h2
    have h4 := Nat.mul_div_le x (2 ^ k)
    rw [Nat.mul_left_comm] at h3
    omega
theorem shrN (a k : Nat) (hk : k ≤ 64) : shr .u64 (a : Int) (k : Int) = ((a / 2 ^ k : Nat) : Int) := shr_nat a k .u64 rfl hk
theorem w8 {a : Nat} (h : a < 256) : IntKind.u8.wrap (a : Int) = (a : Int) := by rw [IntKind.wrap_u8]; omega
theorem spec167g (hI : Closed' prog Pm I) {x : Nat} (h0 : 0 < x) (h1 : x < 18446744073709551616) (hQ : ∀ len : Nat, len ≤ 64 → x < 2 ^ len → 2 ^ len ≤ 2 * x → Q [int len] h) : I 167 [u64 x] Q h := by
  refine hI.go _ _ (den167 I x Q) ?_
  have fin : ∀ (k i : Nat), x / 2 ^ k = i → 0 < i → i < 256 → k ≤ 56 → ∀ c : Int, c = (k : Int) → Q [int (IntKind.i64.wrap (c + IntKind.i64.wrap (byteAt len8S (i : Int))))] h := fun k i hi hp hlt hk c hc => by
    obtain ⟨a1, a2, a3, a4⟩ := len8_ok i hlt
    obtain ⟨L, hL⟩ := Int.eq_ofNat_of_zero_le a1
    rw [hL] at a2 a3 a4 ⊢
    rw [Int.toNat_natCast] at a2 a3 a4
    obtain ⟨b1, b2⟩ := len_idx hi a3 (a4 hp)
    have := hQ (k + L) (by omega) b1 b2
    rw [hc, w64 (n := (L : Int)) (by omega) (by omega), w64 (by omega) (by omega)]
    exact this
  have s16 : ∀ a : Nat, shr .u64 (a : Int) 16 = ((a / 65536 : Nat) : Int) := fun a => shrN a 16 (by decide)
  have s8 : ∀ a : Nat, shr .u64 (a : Int) 8 = ((a / 256 : Nat) : Int) := fun a => shrN a 8 (by decide)
  refine joinK_intro (fun (p : Int × Int) h' => h' = h ∧ ∃ y k : Nat, p = ((y : Int), (k : Int)) ∧ x / 2 ^ k = y ∧ 0 < y ∧ y < 4294967296 ∧ k ≤ 32) ?_ ?_
  · rintro _ h' ⟨rfl, y, k, rfl, hy, hp, hlt, hk⟩
    dsimp only [uncur]
    have dv : ∀ j, x / 2 ^ (k + j) = y / 2 ^ j := fun j => by rw [Nat.pow_add, ← Nat.div_div_eq_div_mul, hy]
    have d8 := dv 8
    have d16 := dv 16
    have d24 := dv 24
    simp only [s16, s8]
    refine ifT_dec (fun h2 => ifT_dec (fun h3 => ?_) fun h3 => ?_) fun h2 => ifT_dec (fun h3 => ?_) fun h3 => ?_
    · rw [w8 (a := y / 65536 / 256) (by omega)]
      refine ⟨⟨by omega, by show ((y / 65536 / 256 : Nat) : Int) < ((256 : Nat) : Int); omega⟩, fin (k + 24) _ (by rw [d24, Nat.div_div_eq_div_mul]) (by omega) (by omega) (by omega) _ ?_⟩
      rw [w64 (n := (k : Int) + 16) (by omega) (by omega), w64 (by omega) (by omega)]; omega
    · rw [w8 (a := y / 65536) (by omega)]
      refine ⟨⟨by omega, by show ((y / 65536 : Nat) : Int) < ((256 : Nat) : Int); omega⟩, fin (k + 16) _ d16 (by omega) (by omega) (by omega) _ ?_⟩
      rw [w64 (by omega) (by omega)]; omega
    · rw [w8 (a := y / 256) (by omega)]
      refine ⟨⟨by omega, by show ((y / 256 : Nat) : Int) < ((256 : Nat) : Int); omega⟩, fin (k + 8) _ d8 (by omega) (by omega) (by omega) _ ?_⟩
      rw [w64 (by omega) (by omega)]; omega
    · rw [w8 (a := y) (by omega)]
      exact ⟨⟨by omega, by show (y : Int) < ((256 : Nat) : Int); omega⟩, fin k _ hy hp (by omega) (by omega) _ rfl⟩
  · intro j hj
    refine ifT_dec (fun h2 => ?_) fun h2 => ?_
    · rw [shr32]
      exact hj _ _ ⟨rfl, x / 4294967296, 32, rfl, rfl, by omega, by omega, by decide⟩
    · exact hj _ _ ⟨rfl, x, 0, rfl, by simp, h0, by omega, by decide⟩
end
end Go.Proofs.YtfemminjhecocaaGreatDoorVc
-- from CsSort
namespace Go.Proofs.YtfemminjhecocaaGreatDoorVc
open Go.Proofs.Tryz (prog)
section
variable {I : Calls} {Q : Post} {h : Heap}
/-- What a comparison tells, whatever the row that is sorted holds. -/
def Tells (I : Calls) (h : Heap) (blk : Nat) (g : FuncId) (caps : List (Nat × Nat)) (xs : List Int) (lt : Int → Int → Bool) : Prop :=
  ∀ a b, a ∈ xs → b ∈ xs → ∀ (h' : Heap) (Q' : Post), (∀ j, j ≠ blk → h' j = h j) → (∀ c : Int, (c < 0 ↔ lt a b = true) → Q' [int c] h') → I g (int a :: int b :: caps.map fun a => .one (.ptr (some a))) Q' h'
theorem spec244 (hI : Closed' prog Pm I) {blk : Nat} {g : FuncId} {caps : List (Nat × Nat)} {xs : List Int} {lt : Int → Int → Bool} (R : Int → Int → Prop) (hb : h blk = some (.cells false (ints xs))) (hlen : xs.length < 1000)
    (hc : Tells I h blk g caps xs lt) (hR : xs.Pairwise fun a b => (lt b a = true → R b a) ∧ (lt b a = false → R a b)) (hT : ∀ a b c, a ∈ xs → b ∈ xs → c ∈ xs → R a b → R b c → R a c)
    (hQ : ∀ ys, ys.Perm xs → ys.Pairwise R → Q [] (h.set blk (.cells false (ints ys)))) :
    I 244 [.one (.slice 1 ⟨some (blk, 0), xs.length⟩), int 0, int xs.length, .one (.func (some (g, caps)))] Q h := by
  refine hI.go _ _ (den244 I _ _ _ _ Q) ?_
  have e0 : IntKind.i64.wrap ((0 : Int) + 1) = 1 := by decide
  unfold vc244
  rw [e0]
  refine loopK_intro (fun (a : Int) h' m => ∃ k : Nat, 1 ≤ k ∧ (k ≤ xs.length ∨ k = 1) ∧ a = k ∧ xs.length - k = m ∧ ∃ ys, ys.Perm (xs.take k) ∧ ys.Pairwise R ∧ h' = h.set blk (.cells false (ints (ys ++ xs.drop k)))) (xs.length - 1)
    ⟨1, by omega, .inr rfl, rfl, rfl, xs.take 1, List.Perm.refl _, ?_, by rw [List.take_append_drop, set_self hb]⟩ ?_
  · cases xs with
    | nil => exact List.Pairwise.nil
    | cons x xs => simp
  rintro a h' m ⟨k, hk1, hk2, rfl, rfl, ys, hperm, hpw, rfl⟩
  refine ifT_dec (fun hlt => ?_) (fun hge => ?_)
  · have hkl : k < xs.length := by omega
    have hx : xs[k]? = some xs[k] := List.getElem?_eq_getElem hkl
    have hxm : xs[k] ∈ xs := List.getElem_mem hkl
    generalize xs[k] = x at hx hxm
    have hyl : ys.length = k := by rw [hperm.length_eq, List.length_take]; omega
    have hysub : ∀ d ∈ ys, d ∈ xs := fun d hd => List.mem_of_mem_take (hperm.mem_iff.1 hd)
    have hyx : ∀ d ∈ ys, (lt x d = true → R x d) ∧ (lt x d = false → R d x) := fun d hd => pairwise_take hR hx d (hperm.mem_iff.1 hd)
    refine loopK_intro (fun (a : Int) h'' m => ∃ pre post, a = (pre.length : Nat) ∧ pre.length = m ∧ pre ++ post = ys ∧ (∀ d ∈ post, R x d) ∧ h'' = h.set blk (.cells false (ints (pre ++ x :: (post ++ xs.drop (k + 1)))))) k
      ⟨ys, [], by rw [hyl], hyl, by simp, by simp, by rw [drop_mid hx]; rfl⟩ ?_
    rintro a h'' m ⟨pre, post, rfl, rfl, hpp, hpost, rfl⟩
    have hpl : pre.length + post.length = k := by rw [← hyl, ← hpp, List.length_append]
    have hlenL : (pre ++ x :: (post ++ xs.drop (k + 1))).length = xs.length := by simp; omega
    refine joinK_intro (fun (b : Bool) h3 => h3 = h.set blk (.cells false (ints (pre ++ x :: (post ++ xs.drop (k + 1))))) ∧ (b = true → ∃ pre' d, pre = pre' ++ [d] ∧ lt x d = true) ∧ (b = false → pre = [] ∨ ∃ pre' d, pre = pre' ++ [d] ∧ lt x d = false)) ?_ ?_
    · rintro b h3 ⟨rfl, hb1, hb2⟩
      refine ifT_intro (fun hbt => ?_) (fun hbf => ?_)
      · obtain ⟨pre', d, rfl, hlt2⟩ := hb1 hbt
        have hd : d ∈ ys := by rw [← hpp]; simp
        simp only [List.length_append, List.length_singleton] at hpl ⊢
        have ew : IntKind.i64.wrap (((pre'.length + 1 : Nat) : Int) - 1) = (pre'.length : Int) := by rw [w64] <;> omega
        simp only [ew]
        simp only [List.append_assoc, List.singleton_append]
        have g1 : (ints (pre' ++ d :: x :: (post ++ xs.drop (k + 1))))[0 + (pre'.length : Int).toNat * 1]? = some (.int .i64 d) := by
          simp only [Int.toNat_natCast, Nat.mul_one, Nat.zero_add]
          exact ints_get (get_mid _ _ _)
        have g2 : (ints (pre' ++ d :: x :: (post ++ xs.drop (k + 1))))[0 + ((pre'.length + 1 : Nat) : Int).toNat * 1]? = some (.int .i64 x) := by
          simp only [Int.toNat_natCast, Nat.mul_one, Nat.zero_add]
          refine ints_get ?_
          simp
        refine ⟨⟨by omega, by simp; omega⟩, derefK_intro rfl ⟨_, read_cell (set_eq _ _ _) g1, ⟨by omega, by simp; omega⟩, derefK_intro rfl ⟨_, read_cell (set_eq _ _ _) g2, ⟨by omega, by simp; omega⟩, derefK_intro rfl (storeK_one (set_eq _ _ _) ?_ ⟨⟨by omega, by simp; omega⟩, derefK_intro rfl (storeK_one (set_eq _ _ _) ?_ ?_)⟩)⟩⟩⟩
        · simp [ints]
        · simp [ints]
        · refine ⟨pre'.length, by omega, pre', d :: post, rfl, rfl, by rw [← hpp]; simp, fun e he => ?_, ?_⟩
          · rcases List.mem_cons.1 he with rfl | he
            · exact (hyx _ hd).1 hlt2
            · exact hpost e he
          · rw [set_set, set_set, ints_set, ints_set]
            congr 4
            simp only [Int.toNat_natCast, Nat.mul_one, Nat.zero_add]
            have s1 : (pre' ++ d :: x :: (post ++ xs.drop (k + 1))).set (pre'.length + 1) d = pre' ++ d :: d :: (post ++ xs.drop (k + 1)) := by
              simp
            rw [s1, set_mid']
            rfl
      · refine ⟨xs.length - (k + 1), by omega, k + 1, by omega, .inl hkl, ?_, rfl, pre ++ x :: post, ?_, ?_, ?_⟩
        · rw [w64] <;> omega
        · rw [take_mid hx]
          exact (List.perm_middle.trans ((hpp ▸ hperm).cons x)).trans (List.perm_append_singleton x (xs.take k)).symm
        · refine placed (hpp ▸ hpw) ?_ hpost
          rcases hb2 hbf with rfl | ⟨pre', d, rfl, hlt2⟩
          · simp
          · have hd : d ∈ ys := by rw [← hpp]; simp
            refine before_all (post := post) (hpp ▸ hpw) (fun e he hed => ?_) ((hyx d hd).2 hlt2)
            have hey : e ∈ ys := by rw [← hpp]; simp [he]
            exact hT e d x (hysub e hey) (hysub d hd) hxm hed ((hyx d hd).2 hlt2)
        · simp
    · intro j hj
      refine ifT_dec (fun hgt => ?_) (fun hle => hj _ _ ⟨rfl, (fun h => by cases h), fun _ => .inl (List.length_eq_zero_iff.1 (by omega))⟩)
      obtain ⟨pre', d, rfl⟩ : ∃ pre' d, pre = pre' ++ [d] := ⟨pre.dropLast, pre.getLast (by intro e; subst e; simp at hgt), (List.dropLast_concat_getLast _).symm⟩
      have hd : d ∈ ys := by rw [← hpp]; simp
      simp only [List.length_append, List.length_singleton] at hpl hgt hj ⊢
      have ew : IntKind.i64.wrap (((pre'.length + 1 : Nat) : Int) - 1) = (pre'.length : Int) := by rw [w64] <;> omega
      simp only [ew]
      simp only [List.append_assoc, List.singleton_append] at hj ⊢
      have g1 : (ints (pre' ++ d :: x :: (post ++ xs.drop (k + 1))))[0 + (pre'.length : Int).toNat * 1]? = some (.int .i64 d) := by
        simp only [Int.toNat_natCast, Nat.mul_one, Nat.zero_add]
        exact ints_get (get_mid _ _ _)
      have g2 : (ints (pre' ++ d :: x :: (post ++ xs.drop (k + 1))))[0 + ((pre'.length + 1 : Nat) : Int).toNat * 1]? = some (.int .i64 x) := by
        simp only [Int.toNat_natCast, Nat.mul_one, Nat.zero_add]
        refine ints_get ?_
        simp
      refine ⟨⟨by omega, by simp; omega⟩, derefK_intro rfl ⟨_, read_cell (set_eq _ _ _) g2, ⟨by omega, by simp; omega⟩, derefK_intro rfl ⟨_, read_cell (set_eq _ _ _) g1, ?_⟩⟩⟩
      refine hc x d hxm (hysub d hd) _ _ (fun j hj => set_ne _ _ hj) fun c hcc => ⟨c, rfl, hj _ _ ⟨rfl, fun h => ⟨pre', d, rfl, hcc.1 (of_decide_eq_true h)⟩, fun h => .inr ⟨pre', d, rfl, ?_⟩⟩⟩
      cases hl : lt x d with
      | false => rfl
      | true => exact absurd (hcc.2 hl) (of_decide_eq_false h)
  · have hnl : xs.length ≤ k := by omega
    have : xs.drop k = [] := List.drop_eq_nil_of_le hnl
    rw [this, List.append_nil]
    rw [List.take_of_length_le hnl] at hperm
    exact hQ ys hperm hpw
end
end Go.Proofs.YtfemminjhecocaaGreatDoorVc
-- from CsSpec1
namespace Go.Proofs.YtfemminjhecocaaGreatDoorVc
open Go.Proofs.Tryz (prog)
def unats (l : List Nat) : List Cell := l.map fun n : Nat => .int .u64 (n : Int)
theorem unats_length (l : List Nat) : (unats l).length = l.length := by simp [unats]
theorem unats_get {xs : List Nat} {i n : Nat} (h : xs[i]? = some n) : (unats xs)[i]? = some (.int .u64 (n : Int)) := by unfold unats; rw [List.getElem?_map, h]; rfl
theorem unats_set (xs : List Nat) (i n : Nat) : (unats xs).set i (.int .u64 (n : Int)) = unats (xs.set i n) := by unfold unats; rw [List.map_set]
section
variable {I : Calls} {Q : Post} {h : Heap}
/-! ### the stream's block, among one's own -/
end
end Go.Proofs.YtfemminjhecocaaGreatDoorVc
-- from CsSpec2
namespace Go.Proofs.YtfemminjhecocaaGreatDoorVc
open Go.Proofs.YtfemminjhecocaaGreatDoorShares
open Go.Proofs.Tryz (prog)
section
variable {I : Calls} {Q : Post} {h : Heap}
theorem take_succ_map {α β : Type} (f : α → β) {l : List α} {k : Nat} {x : α} (h : l[k]? = some x) : (l.map f).take (k + 1) = (l.map f).take k ++ [f x] := by
  rw [List.take_add_one, List.getElem?_map, h]; rfl
/-- The arguments of a division of 128 bits. -/
theorem mul_lt {c w all : Nat} (hc : c ≤ 1000000000000) (hw : w ≤ all) (ha : 0 < all) : c * w / 18446744073709551616 < all := by
  rw [Nat.div_lt_iff_lt_mul (by decide)]
  have h1 : c * w ≤ 1000000000000 * all := Nat.mul_le_mul hc hw
  omega
theorem mem_le_sum : ∀ {l : List Nat} {x : Nat}, x ∈ l → x ≤ l.sum
  | y :: l, x, h => by
    rw [List.sum_cons]
    rcases List.mem_cons.1 h with rfl | h
    · omega
    · have := mem_le_sum h; omega
theorem sum_le : ∀ {l : List Nat} {b : Nat}, (∀ x ∈ l, x ≤ b) → l.sum ≤ b * l.length
  | [], _, _ => by simp
  | y :: l, b, h => by
    have h1 := sum_le (l := l) fun x hx => h x (by simp [hx])
    have h2 := h y (by simp)
    rw [List.sum_cons, List.length_cons, Nat.mul_add]
    omega
theorem take_sum_le (l : List Nat) (k : Nat) : (l.take k).sum ≤ l.sum := by
  conv => rhs; rw [← List.take_append_drop k l, List.sum_append]
  omega
theorem block_at {h : Heap} {i n : Nat} {cs : List Cell} (hi : h i = some (.cells false cs)) (hn : n = cs.length) : At h 1 ⟨some (i, 0), n⟩ cs := by
  refine ⟨by simp [hn], .inr ?_⟩
  show h.read i 0 (n * 1) = _
  rw [read_block hi (by omega), List.drop_zero, List.take_of_length_le (by omega)]
theorem nats_ne {l : List Nat} (h : 0 < l.length) : nats l ≠ [] := fun e => by have := congrArg List.length e; rw [nats_length] at this; have h2 : l.length = 0 := this; omega
theorem unats_ne {l : List Nat} (h : 0 < l.length) : unats l ≠ [] := fun e => by have := congrArg List.length e; rw [unats_length] at this; have h2 : l.length = 0 := this; omega
theorem at_some {l : List Nat} {i x : Nat} (h : l[i]? = some x) : at_ l i = x := by unfold at_; rw [List.getD_eq_getElem?_getD, h]; rfl
end
end Go.Proofs.YtfemminjhecocaaGreatDoorVc
-- from CsSpec3
namespace Go.Proofs.YtfemminjhecocaaGreatDoorVc
open Go.Proofs.YtfemminjhecocaaGreatDoorShares
open Go.Proofs.Tryz (prog)
def bools (l : List Bool) : List Cell := l.map .bool
theorem bools_length (l : List Bool) : (bools l).length = l.length := by simp [bools]
theorem bools_get {xs : List Bool} {i : Nat} {b : Bool} (h : xs[i]? = some b) : (bools xs)[i]? = some (.bool b) := by unfold bools; rw [List.getElem?_map, h]; rfl
theorem bools_set (xs : List Bool) (i : Nat) (b : Bool) : (bools xs).set i (.bool b) = bools (xs.set i b) := by unfold bools; rw [List.map_set]
def givenK (rs : List Nat) (k : Nat) : List Bool := (List.range rs.length).map fun i => decide (rank rs i < k)
theorem givenK_length (rs : List Nat) (k : Nat) : (givenK rs k).length = rs.length := by simp [givenK]
theorem givenK_get {rs : List Nat} {k i : Nat} (hi : i < rs.length) : (givenK rs k)[i]? = some (decide (rank rs i < k)) := by
  unfold givenK; rw [List.getElem?_map, List.getElem?_range hi]; rfl
theorem givenK_zero (rs : List Nat) : givenK rs 0 = List.replicate rs.length false := by
  apply List.ext_getElem?
  intro i
  rcases Nat.lt_or_ge i rs.length with hi | hi
  · rw [givenK_get hi, List.getElem?_replicate, if_pos hi]; simp
  · rw [List.getElem?_eq_none (by rw [givenK_length]; exact hi), List.getElem?_eq_none (by simpa using hi)]
theorem givenK_step {rs : List Nat} {k i : Nat} (hi : i < rs.length) (hr : rank rs i = k) : (givenK rs k).set i true = givenK rs (k + 1) := by
  apply List.ext_getElem?
  intro j
  rw [List.getElem?_set]
  rcases Nat.lt_or_ge j rs.length with hj | hj
  · split
    · rename_i h
      subst h
      rw [if_pos (by rw [givenK_length]; exact hi), givenK_get hi]
      simp [hr]
    · rename_i h
      rw [givenK_get hj, givenK_get hj]
      have : rank rs j ≠ k := fun e => h (rank_inj (rs := rs) hi hj (by rw [hr, e]))
      congr 1
      rw [decide_eq_decide]
      omega
  · rw [if_neg (by omega), List.getElem?_eq_none (by rw [givenK_length]; exact hj), List.getElem?_eq_none (by rw [givenK_length]; exact hj)]
theorem set_fill (A : List Nat) (m v : Nat) : (A ++ List.replicate (m + 1) 0).set A.length v = (A ++ [v]) ++ List.replicate m 0 := by
  rw [List.replicate_succ, set_mid']; simp
section
variable {I : Calls} {Q : Post} {h : Heap}
end
end Go.Proofs.YtfemminjhecocaaGreatDoorVc
-- from SpSort
namespace Go.Proofs.YtfemminjhecocaaGreatDoorVc
open Go.Proofs.Tryz (prog)
section
variable {I : Calls} {Q : Post} {h : Heap}
/-- The row that is sorted holds ys; all else is as it was, or new. -/
def PSt (h : Heap) (blk : Nat) (ys : List Int) (h' : Heap) : Prop := h' blk = some (.cells false (ints ys)) ∧ ∀ j o, j ≠ blk → h j = some o → h' j = some o
theorem PSt.ext {h h1 h2 : Heap} {blk : Nat} {ys : List Int} (p : PSt h blk ys h1) (he : Ext h1 h2) : PSt h blk ys h2 := ⟨he _ _ p.1, fun j o hj hx => he _ _ (p.2 j o hj hx)⟩
theorem PSt.set {h h1 : Heap} {blk : Nat} {ys zs : List Int} (p : PSt h blk ys h1) : PSt h blk zs (h1.set blk (.cells false (ints zs))) := ⟨set_eq _ _ _, fun j o hj hx => by rw [set_ne _ _ hj]; exact p.2 j o hj hx⟩
/-- What a comparison tells, whatever the row that is sorted holds. -/
def TellsE (I : Calls) (h : Heap) (blk : Nat) (g : FuncId) (caps : List (Nat × Nat)) (xs : List Int) (lt : Int → Int → Bool) : Prop :=
  ∀ a b, a ∈ xs → b ∈ xs → ∀ (h' : Heap) (Q' : Post), (∃ ys, PSt h blk ys h') → (∀ (c : Int) h'', Ext h' h'' → (c < 0 ↔ lt a b = true) → Q' [int c] h'') → I g (int a :: int b :: caps.map fun a => .one (.ptr (some a))) Q' h'
theorem spec244e (hI : Closed' prog Pm I) {blk : Nat} {g : FuncId} {caps : List (Nat × Nat)} {xs : List Int} {lt : Int → Int → Bool} (R : Int → Int → Prop) (hb : h blk = some (.cells false (ints xs))) (hlen : xs.length < 1000)
    (hc : TellsE I h blk g caps xs lt) (hR : xs.Pairwise fun a b => (lt b a = true → R b a) ∧ (lt b a = false → R a b)) (hT : ∀ a b c, a ∈ xs → b ∈ xs → c ∈ xs → R a b → R b c → R a c)
    (hQ : ∀ ys h', ys.Perm xs → ys.Pairwise R → PSt h blk ys h' → Q [] h') :
    I 244 [.one (.slice 1 ⟨some (blk, 0), xs.length⟩), int 0, int xs.length, .one (.func (some (g, caps)))] Q h := by
  refine hI.go _ _ (den244 I _ _ _ _ Q) ?_
  have e0 : IntKind.i64.wrap ((0 : Int) + 1) = 1 := by decide
  unfold vc244
  rw [e0]
  refine loopK_intro (fun (a : Int) h' m => ∃ k : Nat, 1 ≤ k ∧ (k ≤ xs.length ∨ k = 1) ∧ a = k ∧ xs.length - k = m ∧ ∃ ys, ys.Perm (xs.take k) ∧ ys.Pairwise R ∧ PSt h blk (ys ++ xs.drop k) h') (xs.length - 1)
    ⟨1, by omega, .inr rfl, rfl, rfl, xs.take 1, List.Perm.refl _, ?_, by rw [List.take_append_drop]; exact ⟨hb, fun _ _ _ h => h⟩⟩ ?_
  · cases xs with
    | nil => exact List.Pairwise.nil
    | cons x xs => simp
  rintro a h' m ⟨k, hk1, hk2, rfl, rfl, ys, hperm, hpw, hst⟩
  refine ifT_dec (fun hlt => ?_) (fun hge => ?_)
  · have hkl : k < xs.length := by omega
    have hx : xs[k]? = some xs[k] := List.getElem?_eq_getElem hkl
    have hxm : xs[k] ∈ xs := List.getElem_mem hkl
    generalize xs[k] = x at hx hxm
    have hyl : ys.length = k := by rw [hperm.length_eq, List.length_take]; omega
    have hysub : ∀ d ∈ ys, d ∈ xs := fun d hd => List.mem_of_mem_take (hperm.mem_iff.1 hd)
    have hyx : ∀ d ∈ ys, (lt x d = true → R x d) ∧ (lt x d = false → R d x) := fun d hd => pairwise_take hR hx d (hperm.mem_iff.1 hd)
    refine loopK_intro (fun (a : Int) h'' m => ∃ pre post, a = (pre.length : Nat) ∧ pre.length = m ∧ pre ++ post = ys ∧ (∀ d ∈ post, R x d) ∧ PSt h blk (pre ++ x :: (post ++ xs.drop (k + 1))) h'') k
      ⟨ys, [], by rw [hyl], hyl, by simp, by simp, by rw [drop_mid hx] at hst; exact hst⟩ ?_
    rintro a h'' m ⟨pre, post, rfl, rfl, hpp, hpost, hs2⟩
    have hpl : pre.length + post.length = k := by rw [← hyl, ← hpp, List.length_append]
    have hlenL : (pre ++ x :: (post ++ xs.drop (k + 1))).length = xs.length := by simp; omega
    refine joinK_intro (fun (b : Bool) h3 => PSt h blk (pre ++ x :: (post ++ xs.drop (k + 1))) h3 ∧ (b = true → ∃ pre' d, pre = pre' ++ [d] ∧ lt x d = true) ∧ (b = false → pre = [] ∨ ∃ pre' d, pre = pre' ++ [d] ∧ lt x d = false)) ?_ ?_
    · rintro b h3 ⟨hs3, hb1, hb2⟩
      refine ifT_intro (fun hbt => ?_) (fun hbf => ?_)
      · obtain ⟨pre', d, rfl, hlt2⟩ := hb1 hbt
        have hd : d ∈ ys := by rw [← hpp]; simp
        simp only [List.length_append, List.length_singleton] at hpl ⊢
        have ew : IntKind.i64.wrap (((pre'.length + 1 : Nat) : Int) - 1) = (pre'.length : Int) := by rw [w64] <;> omega
        simp only [ew]
        simp only [List.append_assoc, List.singleton_append] at hs3
        have g1 : (ints (pre' ++ d :: x :: (post ++ xs.drop (k + 1))))[0 + (pre'.length : Int).toNat * 1]? = some (.int .i64 d) := by
          simp only [Int.toNat_natCast, Nat.mul_one, Nat.zero_add]
          exact ints_get (get_mid _ _ _)
        have g2 : (ints (pre' ++ d :: x :: (post ++ xs.drop (k + 1))))[0 + ((pre'.length + 1 : Nat) : Int).toNat * 1]? = some (.int .i64 x) := by
          simp only [Int.toNat_natCast, Nat.mul_one, Nat.zero_add]
          refine ints_get ?_
          simp
        refine ⟨⟨by omega, by simp; omega⟩, derefK_intro rfl ⟨_, read_cell hs3.1 g1, ⟨by omega, by simp; omega⟩, derefK_intro rfl ⟨_, read_cell hs3.1 g2, ⟨by omega, by simp; omega⟩, derefK_intro rfl (storeK_one hs3.1 ?_ ⟨⟨by omega, by simp; omega⟩, derefK_intro rfl (storeK_one (set_eq _ _ _) ?_ ?_)⟩)⟩⟩⟩
        · simp [ints]
        · simp [ints]
        · refine ⟨pre'.length, by omega, pre', d :: post, rfl, rfl, by rw [← hpp]; simp, fun e he => ?_, ?_⟩
          · rcases List.mem_cons.1 he with rfl | he
            · exact (hyx _ hd).1 hlt2
            · exact hpost e he
          · rw [set_set, ints_set, ints_set]
            simp only [Int.toNat_natCast, Nat.mul_one, Nat.zero_add]
            have s1 : (pre' ++ d :: x :: (post ++ xs.drop (k + 1))).set (pre'.length + 1) d = pre' ++ d :: d :: (post ++ xs.drop (k + 1)) := by
              simp
            rw [s1, set_mid']
            exact hs3.set
      · refine ⟨xs.length - (k + 1), by omega, k + 1, by omega, .inl hkl, ?_, rfl, pre ++ x :: post, ?_, ?_, ?_⟩
        · rw [w64] <;> omega
        · rw [take_mid hx]
          exact (List.perm_middle.trans ((hpp ▸ hperm).cons x)).trans (List.perm_append_singleton x (xs.take k)).symm
        · refine placed (hpp ▸ hpw) ?_ hpost
          rcases hb2 hbf with rfl | ⟨pre', d, rfl, hlt2⟩
          · simp
          · have hd : d ∈ ys := by rw [← hpp]; simp
            refine before_all (post := post) (hpp ▸ hpw) (fun e he hed => ?_) ((hyx d hd).2 hlt2)
            have hey : e ∈ ys := by rw [← hpp]; simp [he]
            exact hT e d x (hysub e hey) (hysub d hd) hxm hed ((hyx d hd).2 hlt2)
        · simpa using hs3
    · intro j hj
      refine ifT_dec (fun hgt => ?_) (fun hle => hj _ _ ⟨hs2, (fun h => by cases h), fun _ => .inl (List.length_eq_zero_iff.1 (by omega))⟩)
      obtain ⟨pre', d, rfl⟩ : ∃ pre' d, pre = pre' ++ [d] := ⟨pre.dropLast, pre.getLast (by intro e; subst e; simp at hgt), (List.dropLast_concat_getLast _).symm⟩
      have hd : d ∈ ys := by rw [← hpp]; simp
      simp only [List.length_append, List.length_singleton] at hpl hgt hj ⊢
      have ew : IntKind.i64.wrap (((pre'.length + 1 : Nat) : Int) - 1) = (pre'.length : Int) := by rw [w64] <;> omega
      simp only [ew]
      simp only [List.append_assoc, List.singleton_append] at hj hs2
      have g1 : (ints (pre' ++ d :: x :: (post ++ xs.drop (k + 1))))[0 + (pre'.length : Int).toNat * 1]? = some (.int .i64 d) := by
        simp only [Int.toNat_natCast, Nat.mul_one, Nat.zero_add]
        exact ints_get (get_mid _ _ _)
      have g2 : (ints (pre' ++ d :: x :: (post ++ xs.drop (k + 1))))[0 + ((pre'.length + 1 : Nat) : Int).toNat * 1]? = some (.int .i64 x) := by
        simp only [Int.toNat_natCast, Nat.mul_one, Nat.zero_add]
        refine ints_get ?_
        simp
      refine ⟨⟨by omega, by simp; omega⟩, derefK_intro rfl ⟨_, read_cell hs2.1 g2, ⟨by omega, by simp; omega⟩, derefK_intro rfl ⟨_, read_cell hs2.1 g1, ?_⟩⟩⟩
      refine hc x d hxm (hysub d hd) _ _ ⟨_, hs2⟩ fun c h4 he hcc => ⟨c, rfl, hj _ _ ⟨hs2.ext he, fun h => ⟨pre', d, rfl, hcc.1 (of_decide_eq_true h)⟩, fun h => .inr ⟨pre', d, rfl, ?_⟩⟩⟩
      cases hl : lt x d with
      | false => rfl
      | true => exact absurd (hcc.2 hl) (of_decide_eq_false h)
  · have hnl : xs.length ≤ k := by omega
    have : xs.drop k = [] := List.drop_eq_nil_of_le hnl
    rw [this, List.append_nil] at hst
    rw [List.take_of_length_le hnl] at hperm
    exact hQ ys h' hperm hpw hst
theorem spec180 (hI : Closed' prog Pm I) {blk : Nat} {g : FuncId} {caps : List (Nat × Nat)} {xs : List Int} {lt : Int → Int → Bool} (R : Int → Int → Prop) (hb : h blk = some (.cells false (ints xs))) (h0 : 0 < xs.length) (hlen : xs.length ≤ 12)
    (hc : TellsE I h blk g caps xs lt) (hR : xs.Pairwise fun a b => (lt b a = true → R b a) ∧ (lt b a = false → R a b)) (hT : ∀ a b c, a ∈ xs → b ∈ xs → c ∈ xs → R a b → R b c → R a c)
    (hQ : ∀ ys h', ys.Perm xs → ys.Pairwise R → PSt h blk ys h' → Q [] h') :
    I 180 [.one (.slice 1 ⟨some (blk, 0), xs.length⟩), .one (.func (some (g, caps)))] Q h := by
  refine hI.go _ _ (den180 I _ _ Q) ?_
  show I 118 [u64 (IntKind.u64.wrap (xs.length : Nat))] _ h
  rw [wN _ (by omega)]
  refine hI.go _ _ (den118 I _ _) ?_
  refine spec167g hI h0 (by omega) fun len _ _ _ => ⟨_, rfl, _, rfl, ?_⟩
  refine hI.go _ _ (den218 I _ _ _ _ _ _) ?_
  refine loopK_intro (fun (a : Int × Int × Int × Bool × Bool) h' m => h' = h ∧ a = (0, (xs.length : Int), (len : Int), true, true)) 0 ⟨rfl, rfl⟩ ?_
  rintro a h' m ⟨rfl, rfl⟩
  dsimp only [uncur]
  have ew : IntKind.i64.wrap ((xs.length : Int) - 0) = xs.length := by rw [w64] <;> omega
  rw [ew]
  exact ifT_dec (fun _ => spec244e hI R hb (by omega) hc hR hT fun ys h2 h3 h4 h5 => ⟨rfl, rfl, hQ ys h2 h3 h4 h5⟩) fun hle => by omega
end
end Go.Proofs.YtfemminjhecocaaGreatDoorVc
-- from SpSpec1
namespace Go.Proofs.YtfemminjhecocaaGreatDoorVc
open Go.Proofs.YtfemminjhecocaaGreatDoorShares
open Go.Proofs.Tryz (prog)
section
variable {I : Calls} {Q : Post} {h : Heap}
theorem spec179 (hI : Closed' prog Pm I) {s : Sl} {xs : List Nat} (hs : At h 1 s (nats xs)) (hlen : xs.length < 1000000) (hsum : xs.sum < 4611686018427387904) (hQ : Q [int (xs.sum : Nat)] h) : I 179 [.one (.slice 1 s)] Q h := by
  have hl : s.len = xs.length := by rw [hs.len1, nats_length]
  refine hI.go _ _ (den179 I s Q) ?_
  refine loopK_intro (fun (a : Int × Int) h' m => h' = h ∧ ∃ i : Nat, i ≤ xs.length ∧ a = ((((xs.take i).sum : Nat) : Int), (i : Int)) ∧ xs.length - i = m) xs.length ⟨rfl, 0, by omega, rfl, rfl⟩ ?_
  rintro a h' m ⟨rfl, i, hi, rfl, rfl⟩
  dsimp only [uncur]
  refine ifT_dec (fun hlt => ⟨⟨by omega, hlt⟩, ?_⟩) (fun hge => ?_)
  · have hil : i < xs.length := by omega
    refine hs.cell (nats_get (List.getElem?_eq_getElem hil)) fun b o hr => ⟨_, hr, xs.length - (i + 1), by omega, rfl, i + 1, by omega, ?_, rfl⟩
    have h2 := take_sum_le xs (i + 1)
    rw [sum_step hil] at h2 ⊢
    generalize (xs.take i).sum = y at *
    generalize xs[i] = x at *
    rw [w64 (by omega) (by omega), w64 (by omega) (by omega)]
    rfl
  · have : i = xs.length := by omega
    subst this
    rw [List.take_length]
    exact hQ
/-! ### weights -/
abbrev okW (w : Int) : Prop := 0 ≤ w ∧ w ≤ 1000000
def errW (xs : List Int) : Int := if 12 < xs.length then 2 else if ∃ w ∈ xs, ¬ okW w then 1 else if ∀ w ∈ xs, w = 0 then 8 else 0
end
end Go.Proofs.YtfemminjhecocaaGreatDoorVc
-- from SpSpec2
namespace Go.Proofs.YtfemminjhecocaaGreatDoorVc
open Go.Proofs.YtfemminjhecocaaGreatDoorShares
open Go.Proofs.Tryz (prog)
section
variable {I : Calls} {Q : Post} {h : Heap}
theorem spec119 (hI : Closed' prog Pm I) {n : Int} (hQ : Q [boo false] h) : I 119 [int n] Q h := by
  refine hI.go _ _ (den119 I n Q) ?_
  have e : (!decide (n = n)) = false := by simp
  unfold vc119
  rw [e]
  exact hQ
theorem spec62 (hI : Closed' prog Pm I) {a b : Int} (hQ : ∀ c, (c < 0 ↔ a < b) → (c = 0 ↔ a = b) → Q [int c] h) : I 62 [int a, int b] Q h := by
  refine hI.go _ _ (den62 I a b Q) ?_
  refine spec119 hI ⟨_, rfl, spec119 hI ⟨_, rfl, ifT_intro (fun h => by cases h) fun _ => ifT_intro (fun h => by cases h) fun _ => ?_⟩⟩
  refine ifT_dec (fun h1 => hQ _ (by omega) (by omega)) fun h1 => ifT_dec (fun h2 => hQ _ (by omega) (by omega)) fun h2 => hQ _ (by omega) (by omega)
/-- The comparison: greater rests first, of equal ones the last. -/
theorem spec181 (hI : Closed' prog Pm I) {i3 i5 i11 : Nat} {s : Sl} {ws : List Nat} {c all a b x y : Nat} (h3 : h i3 = some (.cells false [.int .i64 c])) (h5 : h i5 = some (.cells false [.slice 1 s])) (h11 : h i11 = some (.cells false [.int .i64 all]))
    (hs : At h 1 s (nats ws)) (hc : c ≤ 1000000000000) (hw : ∀ w ∈ ws, w ≤ 1000000) (hall : 0 < all) (ha : ws[a]? = some x) (hb : ws[b]? = some y)
    (hQ : ∀ r h', Ext h h' → (r < 0 ↔ (c * y % all < c * x % all ∨ (c * y % all = c * x % all ∧ b < a))) → Q [int r] h') :
    I 181 [int a, int b, .one (.ptr (some (i3, 0))), .one (.ptr (some (i5, 0))), .one (.ptr (some (i11, 0)))] Q h := by
  have hl : s.len = ws.length := by rw [hs.len1, nats_length]
  have ha1 := (List.getElem?_eq_some_iff.1 ha).1
  have hb1 := (List.getElem?_eq_some_iff.1 hb).1
  have hx := hw x (List.mem_of_getElem? ha)
  have hy := hw y (List.mem_of_getElem? hb)
  have m1 : c * x ≤ 1000000000000 * 1000000 := Nat.mul_le_mul hc hx
  have m2 : c * y ≤ 1000000000000 * 1000000 := Nat.mul_le_mul hc hy
  have e1 : (IntKind.i64.wrap ((c : Int) * x)).tmod all = (c * x % all : Nat) := by rw [mN, w64 (by omega) (by omega), ← Int.ofNat_tmod]
  have e2 : (IntKind.i64.wrap ((c : Int) * y)).tmod all = (c * y % all : Nat) := by rw [mN, w64 (by omega) (by omega), ← Int.ofNat_tmod]
  refine hI.go _ _ (den181 I a b i3 0 i5 0 i11 0 Q) ?_
  refine ⟨_, read_cell h3 rfl, _, read_cell h5 rfl, ⟨by omega, by omega⟩, hs.cell (nats_get hb) fun _ _ hr => ⟨_, hr, _, read_cell h11 rfl, by omega, _, read_cell h3 rfl, _, read_cell h5 rfl, ⟨by omega, by omega⟩, hs.cell (nats_get ha) fun _ _ hr => ⟨_, hr, _, read_cell h11 rfl, by omega, ?_⟩⟩⟩
  rw [e1, e2]
  refine spec62 hI fun r1 hr1 hr1' => ⟨_, rfl, spec62 hI fun r2 hr2 hr2' => ⟨_, rfl, newK_intro fun i29 h2 hn he => ?_⟩⟩
  have hlit : At h2 1 ⟨some (i29, 0), 2⟩ (ints [r1, r2]) := block_at (by rw [he, set_eq]; rfl) rfl
  refine spec61 hI hlit ⟨_, rfl, hQ _ _ (he ▸ Ext.new hn) ?_⟩
  generalize c * y % all = u at *
  generalize c * x % all = v at *
  split <;> omega
theorem sum_set : ∀ (l : List Nat) (i x v : Nat), l[i]? = some x → (l.set i v).sum + x = l.sum + v
  | [], i, _, _, h => by simp at h
  | y :: l, 0, x, v, h => by
    simp only [List.getElem?_cons_zero, Option.some.injEq] at h
    subst h
    simp only [List.set_cons_zero, List.sum_cons]; omega
  | y :: l, i + 1, x, v, h => by
    have := sum_set l i x v (by simpa using h)
    simp only [List.set_cons_succ, List.sum_cons]; omega
theorem spec128 (hI : Closed' prog Pm I) {s : Sl} {c : Nat} {ws : List Nat} (hs : At h 1 s (nats ws)) (hc : c ≤ 1000000000000) (hw : ∀ w ∈ ws, w ≤ 1000000) (hpos : 0 < ws.sum) (hlen : ws.length ≤ 12)
    (hQ : ∀ s' h' xs, Ext h h' → At h' 1 s' (nats xs) → xs.length = ws.length → xs.sum = c → Q [.one (.slice 1 s')] h') : I 128 [int c, .one (.slice 1 s)] Q h := by
  have hl : s.len = ws.length := by rw [hs.len1, nats_length]
  have hsum := sum_le hw
  obtain ⟨hleft1, hleft2⟩ := left_ok (c := c) hpos
  have hn0 : 0 < ws.length := by omega
  have hQS : ∀ a, (qs c a ws).length = ws.length := fun a => by simp [qs]
  refine hI.go _ _ (den128 I c s Q) ?_
  refine newK_intro fun i3 h1 hn1 he1 => newK_intro fun i5 h2 hn2 he2 => ?_
  have o1 : Owns h h1 [(1, ⟨some (i3, 0), 1⟩, [.int .i64 (c : Int)])] := he1 ▸ (Owns.nil h).new hn1 rfl
  have o2 : Owns h h2 [(1, ⟨some (i5, 0), 1⟩, [.slice 1 s]), (1, ⟨some (i3, 0), 1⟩, [.int .i64 (c : Int)])] := he2 ▸ o1.new hn2 rfl
  refine ⟨s, read_cell (o2.block (sz := 1) (n := 1) (cs := [.slice 1 s]) (by simp)).1 rfl, spec179 hI (o2.ext.at_ hs) (by omega) (by omega) ⟨_, rfl, newK_intro fun i11 h3 hn3 he3 => ?_⟩⟩
  obtain ⟨all, hall⟩ : ∃ all, ws.sum = all := ⟨_, rfl⟩
  rw [hall] at hleft1 hleft2 hpos hsum ⊢
  have o3 : Owns h h3 [(1, ⟨some (i11, 0), 1⟩, [.int .i64 0]), (1, ⟨some (i5, 0), 1⟩, [.slice 1 s]), (1, ⟨some (i3, 0), 1⟩, [.int .i64 (c : Int)])] := he3 ▸ o2.new hn3 rfl
  refine storeK_one (o3.block List.mem_cons_self).1 (by simp) ?_
  have o4 := o3.change (n' := 1) (sz' := 1) (cs' := [.int .i64 (all : Int)]) rfl
  refine ⟨_, read_cell (o4.block (sz := 1) (n := 1) (i := i3) (cs := [.int .i64 (c : Int)]) (by simp)).1 rfl, s, read_cell (o4.block (sz := 1) (n := 1) (i := i5) (cs := [.slice 1 s]) (by simp)).1 rfl, ?_⟩
  have hqle : ∀ k, ((qs c all ws).take k).sum ≤ c := fun k => Nat.le_trans (take_sum_le _ _) hleft1
  refine loopK_intro (fun (a : Int × Sl × Sl × Int) h'' m => ∃ k : Nat, k ≤ ws.length ∧ ws.length - k = m ∧ a.2.2.2 = (k : Int) ∧ a.1 = ((c - ((qs c all ws).take k).sum : Nat) : Int) ∧
      Owns h h'' [(1, a.2.1, nats ((qs c all ws).take k)), (1, a.2.2.1, nats (List.range k)), (1, ⟨some (i11, 0), 1⟩, [.int .i64 (all : Int)]), (1, ⟨some (i5, 0), 1⟩, [.slice 1 s]), (1, ⟨some (i3, 0), 1⟩, [.int .i64 (c : Int)])]) ws.length
    ⟨0, by omega, rfl, rfl, by simp, (o4.none_ 1).none_ 1⟩ ?_
  rintro ⟨left, out, order, y⟩ h5 m ⟨k, hk, rfl, rfl, hleft, o⟩
  simp only at hleft
  subst hleft
  dsimp only [uncur]
  have c3 := (o.block (sz := 1) (n := 1) (i := i3) (cs := [.int .i64 (c : Int)]) (by simp)).1
  have c5 := (o.block (sz := 1) (n := 1) (i := i5) (cs := [.slice 1 s]) (by simp)).1
  have c11 := (o.block (sz := 1) (n := 1) (i := i11) (cs := [.int .i64 (all : Int)]) (by simp)).1
  refine ifT_dec (fun hlt => ⟨⟨by omega, hlt⟩, ?_⟩) (fun hge => ?_)
  · have hkl : k < ws.length := by omega
    have hx := List.getElem?_eq_getElem hkl
    have hwk := hw ws[k] (List.getElem_mem hkl)
    generalize ws[k] = w at *
    refine (o.ext.at_ hs).cell (nats_get hx) fun b o' hr => ⟨_, hr, _, read_cell c3 rfl, _, read_cell c11 rfl, by omega, ?_⟩
    have hqk : ((qs c all ws).take (k + 1)) = (qs c all ws).take k ++ [c * w / all] := take_succ_map _ hx
    have hq1 := hqle (k + 1)
    rw [hqk, List.sum_append] at hq1
    have hq2 : [c * w / all].sum = c * w / all := by simp
    rw [hq2] at hq1
    have m1 : c * w ≤ 1000000000000 * 1000000 := Nat.mul_le_mul hc hwk
    have ew : IntKind.i64.wrap ((IntKind.i64.wrap ((c : Int) * w)).tdiv all) = ((c * w / all : Nat) : Int) := by
      rw [mN, w64 (n := ((c * w : Nat) : Int)) (by omega) (by omega), ← Int.ofNat_tdiv]
      generalize c * w / all = q at *
      exact w64 (by omega) (by omega)
    rw [ew]
    have l1 := o.slen (s := out) (cs := nats ((qs c all ws).take k)) (by simp)
    have l2 := o.slen (s := order) (cs := nats (List.range k)) (by simp)
    rw [nats_length, List.length_take, hQS] at l1
    rw [nats_length, List.length_range] at l2
    have e_out : nats ((qs c all ws).take (k + 1)) = nats ((qs c all ws).take k) ++ [.int .i64 ((c * w / all : Nat) : Int)] := by rw [hqk]; simp [nats]
    have e_ord : nats (List.range (k + 1)) = nats (List.range k) ++ [.int .i64 (k : Int)] := by rw [List.range_succ]; simp [nats]
    refine appendTo_owns (m := 0) o (by rfl) (by omega) (by simp) fun b1 h6 o6 => ?_
    refine appendTo_owns (m := 0) (o6.perm (List.Perm.swap _ _ _)) (by rfl) (by omega) (by simp) fun b2 h7 o7 => ?_
    have o8 := o7.perm (List.Perm.swap _ _ _)
    rw [← e_out, ← e_ord] at o8
    have hg : (nats ((qs c all ws).take (k + 1)))[k]? = some (.int .i64 ((c * w / all : Nat) : Int)) := by
      refine nats_get ?_
      rw [hqk, List.getElem?_append_right (by rw [List.length_take]; omega), List.length_take, hQS, Nat.min_eq_left (by omega), Nat.sub_self]
      rfl
    refine ⟨⟨by omega, by show (k : Int) < ((out.len + (0 + 1) : Nat) : Int); omega⟩, (o8.at_ List.mem_cons_self).cell hg fun b o' hr' => ⟨_, hr', ws.length - (k + 1), by omega, k + 1, by omega, rfl, ?_, ?_, o8⟩⟩
    · show IntKind.i64.wrap ((k : Int) + 1) = _
      rw [w64] <;> omega
    · show IntKind.i64.wrap (_ - _) = _
      rw [hqk, List.sum_append, hq2]
      generalize c * w / all = q at *
      rw [w64 (by omega) (by omega)]
      omega
  · have hkn : k = ws.length := by omega
    subst hkn
    have t1 : (qs c all ws).take ws.length = qs c all ws := List.take_of_length_le (by rw [hQS]; exact Nat.le_refl _)
    rw [t1] at o ⊢
    have l1 := o.slen (s := out) (cs := nats (qs c all ws)) (by simp)
    have l2 := o.slen (s := order) (cs := nats (List.range ws.length)) (by simp)
    rw [nats_length, hQS] at l1
    rw [nats_length, List.length_range] at l2
    obtain ⟨bo, hbo, co⟩ := o.has (s := out) (cs := nats (qs c all ws)) (sz := 1) (by simp) (nats_ne (by rw [hQS]; exact hn0))
    obtain ⟨bd, hbd, cd⟩ := o.has (s := order) (cs := nats (List.range ws.length)) (sz := 1) (by simp) (nats_ne (by rw [List.length_range]; exact hn0))
    rw [l1] at hbo
    rw [l2] at hbd
    subst hbo hbd
    have ne0 : bo ≠ bd := o.ne (q := (1, ⟨some (bd, 0), ws.length⟩, nats (List.range ws.length))) (by simp) rfl rfl
    have ne1 : bd ≠ i11 := o.tail.ne (q := (1, ⟨some (i11, 0), 1⟩, [.int .i64 (all : Int)])) (by simp) rfl rfl
    have ne2 : bd ≠ i5 := o.tail.ne (q := (1, ⟨some (i5, 0), 1⟩, [.slice 1 s])) (by simp) rfl rfl
    have ne3 : bd ≠ i3 := o.tail.ne (q := (1, ⟨some (i3, 0), 1⟩, [.int .i64 (c : Int)])) (by simp) rfl rfl
    have hbn : h bd = none := by
      obtain ⟨_, h2 | ⟨k, h2, h3, _⟩⟩ := o.all (1, ⟨some (bd, 0), ws.length⟩, nats (List.range ws.length)) (by simp)
      · simp at h2
      · cases h2; exact h3
    have hbn' : h bo = none := by
      obtain ⟨_, h2 | ⟨k, h2, h3, _⟩⟩ := o.all (1, ⟨some (bo, 0), ws.length⟩, nats (qs c all ws)) (by simp)
      · simp at h2
      · cases h2; exact h3
    have hlR : ((List.range ws.length).map fun n : Nat => (n : Int)).length = ws.length := by simp
    have hext : ∀ ys h', PSt h5 bd ys h' → Ext h h' := fun ys h' p j x hj => p.2 j x (fun e => by subst e; rw [hbn] at hj; cases hj) (o.ext _ _ hj)
    have key := fun Q0 => spec180 (I := I) (Q := Q0) (h := h5) (blk := bd) (g := 181) (caps := [(i3, 0), (i5, 0), (i11, 0)]) (xs := (List.range ws.length).map fun n : Nat => (n : Int))
      (lt := fun x y => decide (c * at_ ws y.toNat % all < c * at_ ws x.toNat % all ∨ (c * at_ ws y.toNat % all = c * at_ ws x.toNat % all ∧ y.toNat < x.toNat))) hI (fun _ _ => True) (by rw [← nats_ints]; exact cd) (by rw [hlR]; exact hn0) (by rw [hlR]; exact hlen)
    simp only [hlR] at key
    refine key _ ?_ ?_ (fun _ _ _ _ _ _ _ _ => trivial) fun ys h6 hp _ hst => ⟨rfl, ⟨by decide, by omega, by omega⟩, ?_⟩
    · rintro a b ha hb h' Q' ⟨ys, p⟩ hQ'
      obtain ⟨a', ha', rfl⟩ := List.mem_map.1 ha
      obtain ⟨b', hb', rfl⟩ := List.mem_map.1 hb
      have ha2 := List.mem_range.1 ha'
      have hb2 := List.mem_range.1 hb'
      have ga : ws[a']? = some ws[a'] := List.getElem?_eq_getElem ha2
      have gb : ws[b']? = some ws[b'] := List.getElem?_eq_getElem hb2
      refine spec181 hI (p.2 _ _ (Ne.symm ne3) c3) (p.2 _ _ (Ne.symm ne2) c5) (p.2 _ _ (Ne.symm ne1) c11) ((hext _ _ p).at_ hs) hc hw hpos ga gb fun r h'' he hr => hQ' r h'' he ?_
      simp only [Int.toNat_natCast, decide_eq_true_eq, at_some ga, at_some gb]
      exact hr
    · rw [List.pairwise_map]
      exact List.pairwise_lt_range.imp fun _ => ⟨fun _ => trivial, fun _ => trivial⟩
    · rw [Int.toNat_natCast]
      have hyl : ys.length = ws.length := by rw [hp.length_eq, hlR]
      have o6 : Owns h h6 [(1, ⟨some (bo, 0), ws.length⟩, nats (qs c all ws)), (1, ⟨some (bd, 0), ws.length⟩, ints ys)] := by
        refine ⟨hext _ _ hst, fun q hq => ?_, ?_⟩
        · have hq' : q = (1, ⟨some (bo, 0), ws.length⟩, nats (qs c all ws)) ∨ q = (1, ⟨some (bd, 0), ws.length⟩, ints ys) := by simpa using hq
          rcases hq' with rfl | rfl
          · exact ⟨by rw [nats_length, hQS]; simp, .inr ⟨bo, rfl, hbn', hst.2 _ _ ne0 co⟩⟩
          · exact ⟨by rw [ints_length, hyl]; simp, .inr ⟨bd, rfl, hbn, hst.1⟩⟩
        · simp only [List.pairwise_cons]
          refine ⟨fun q hq i hi hi2 => ?_, by simp⟩
          have : q = (1, ⟨some (bd, 0), ws.length⟩, ints ys) := by simpa using hq
          subst this
          cases hi
          cases hi2
          exact ne0 rfl
      generalize hq : qs c all ws = q at *
      have hlq : q.length = ws.length := by rw [← hq]; exact hQS all
      refine loopK_intro (fun (a : Int) h4 m => ∃ k : Nat, k ≤ c - q.sum ∧ a = (k : Int) ∧ c - q.sum - k = m ∧ ∃ xs : List Nat, xs.length = ws.length ∧ xs.sum = q.sum + k ∧ Owns h h4 [(1, ⟨some (bo, 0), ws.length⟩, nats xs), (1, ⟨some (bd, 0), ws.length⟩, ints ys)]) (c - q.sum)
        ⟨0, by omega, rfl, rfl, q, hlq, rfl, o6⟩ ?_
      rintro a h4 m ⟨k, hk, rfl, rfl, xs, hxl, hxs, o7⟩
      refine ifT_dec (fun hlt => ⟨⟨by omega, hlt⟩, ?_⟩) (fun hge => ?_)
      · have hkl : k < c - q.sum := by have : (k : Int) < ((c - q.sum - 0 : Nat) : Int) := hlt; omega
        have hsub := (o7.at_ (sz := 1) (s := ⟨some (bd, 0), ws.length⟩) (cs := ints ys) (by simp)).sub 0 (c - q.sum) (by omega) (show c - q.sum ≤ ws.length by omega)
        have hy : ys[k]? = some ys[k] := List.getElem?_eq_getElem (by omega)
        obtain ⟨e, he, hee⟩ := List.mem_map.1 (hp.mem_iff.1 (List.getElem_mem (show k < ys.length by omega)))
        have hel := List.mem_range.1 he
        rw [← hee] at hy
        have hg : (((ints ys).drop (0 * 1)).take ((c - q.sum - 0) * 1))[k]? = some (.int .i64 (e : Int)) := by
          rw [List.getElem?_take, if_pos (by omega), Nat.zero_mul, List.drop_zero]
          exact ints_get hy
        have hxe : xs[e]? = some xs[e] := List.getElem?_eq_getElem (by omega)
        have hxm := mem_le_sum (List.getElem_mem (show e < xs.length by omega))
        generalize xs[e] = x at hxe hxm
        have hset := sum_set xs e x (x + 1) hxe
        have ew : IntKind.i64.wrap ((x : Int) + 1) = ((x + 1 : Nat) : Int) := by rw [w64] <;> omega
        have eo : 0 + (e : Int).toNat * 1 = e := by simp
        refine hsub.cell hg fun b o' hr' => ⟨_, hr', ⟨by omega, by simp; omega⟩, (o7.at_ List.mem_cons_self).cell (nats_get hxe) fun b o' hr' => ⟨_, hr', ⟨by omega, by simp; omega⟩, derefK_intro rfl ?_⟩⟩
        rw [ew, eo]
        refine storeK_one (o7.block List.mem_cons_self).1 (by rw [nats_length]; omega) ⟨c - q.sum - (k + 1), by omega, k + 1, by omega, ?_, rfl, xs.set e (x + 1), by simp [hxl], by omega, ?_⟩
        · rw [w64] <;> omega
        · rw [nats_set]
          exact o7.change (by rw [nats_length]; simp [hxl])
      · have hk2 : k = c - q.sum := by
          have : ¬ (k : Int) < ((c - q.sum - 0 : Nat) : Int) := hge
          omega
        exact hQ _ _ xs o7.ext (o7.at_ List.mem_cons_self) hxl (by omega)
end
end Go.Proofs.YtfemminjhecocaaGreatDoorVc
-- from SpSpec3
namespace Go.Proofs.YtfemminjhecocaaGreatDoorVc
open Go.Proofs.YtfemminjhecocaaGreatDoorShares
open Go.Proofs.Tryz (prog)
/-- Two cells an element. -/
def twos (ps : List (Int × Int)) : List Cell := ps.flatMap fun p => [.int .i64 p.1, .int .i64 p.2]
theorem twos_length : ∀ ps, (twos ps).length = ps.length * 2
  | [] => rfl
  | p :: ps => by
    have := twos_length ps
    unfold twos at *
    rw [List.flatMap_cons, List.length_append, this]
    simp; omega
theorem twos_get : ∀ (ps : List (Int × Int)) (i : Nat) (a b : Int), ps[i]? = some (a, b) → ((twos ps).drop (i * 2)).take 2 = [.int .i64 a, .int .i64 b]
  | [], i, _, _, h => by simp at h
  | p :: ps, 0, a, b, h => by
    simp only [List.getElem?_cons_zero, Option.some.injEq] at h
    subst h
    simp [twos]
  | p :: ps, i + 1, a, b, h => by
    have := twos_get ps i a b (by simpa using h)
    unfold twos at *
    rw [List.flatMap_cons, show (i + 1) * 2 = i * 2 + 2 by omega]
    rw [List.drop_append]
    simpa using this
section
variable {I : Calls} {Q : Post} {h : Heap}
theorem At.two {s : Sl} {ps : List (Int × Int)} {i : Nat} {a b : Int} {f : Nat → Nat → T} (hs : At h 2 s (twos ps)) (hx : ps[i]? = some (a, b)) (hk : ∀ bb o, h.read bb (o + (i : Int).toNat * 2) 2 = some [.int .i64 a, .int .i64 b] → f bb o h) : derefK s.a f h := by
  have hlt : i < ps.length := (List.getElem?_eq_some_iff.1 hx).1
  obtain ⟨bb, o, ha, hr⟩ := hs.lies (by rw [twos_length]; omega)
  refine derefK_intro ha (hk bb o ?_)
  rw [Int.toNat_natCast, read_part hr (by rw [twos_length]; omega), twos_get ps i a b hx]
/-- The fractions of weights. -/
def fracs (all : Nat) (ws : List Nat) : List (Int × Int) := ws.map fun w => (((w / Nat.gcd w all : Nat) : Int), ((all / Nat.gcd w all : Nat) : Int))
end
end Go.Proofs.YtfemminjhecocaaGreatDoorVc
-- from LaDeal
namespace Go.Proofs.YtfemminjhecocaaGreatDoorVc
open Go.Proofs.YtfemminjhecocaaGreatDoorLasts
open Go.Proofs.YtfemminjhecocaaGreatDoorShares (at_ qs rs left_ok)
open Go.Proofs.Tryz (prog)
def givenL (rs : List Nat) (k : Nat) : List Bool := (List.range rs.length).map fun i => decide (rank rs i < k)
theorem givenL_length (rs : List Nat) (k : Nat) : (givenL rs k).length = rs.length := by simp [givenL]
theorem givenL_get {rs : List Nat} {k i : Nat} (hi : i < rs.length) : (givenL rs k)[i]? = some (decide (rank rs i < k)) := by
  unfold givenL; rw [List.getElem?_map, List.getElem?_range hi]; rfl
theorem givenL_zero (rs : List Nat) : givenL rs 0 = List.replicate rs.length false := by
  apply List.ext_getElem?
  intro i
  rcases Nat.lt_or_ge i rs.length with hi | hi
  · rw [givenL_get hi, List.getElem?_replicate, if_pos hi]; simp
  · rw [List.getElem?_eq_none (by rw [givenL_length]; exact hi), List.getElem?_eq_none (by simpa using hi)]
theorem givenL_step {rs : List Nat} {k i : Nat} (hi : i < rs.length) (hr : rank rs i = k) : (givenL rs k).set i true = givenL rs (k + 1) := by
  apply List.ext_getElem?
  intro j
  rw [List.getElem?_set]
  rcases Nat.lt_or_ge j rs.length with hj | hj
  · split
    · rename_i h
      subst h
      rw [if_pos (by rw [givenL_length]; exact hi), givenL_get hi]
      simp [hr]
    · rename_i h
      rw [givenL_get hj, givenL_get hj]
      have : rank rs j ≠ k := fun e => h (rank_inj (rs := rs) hi hj (by rw [hr, e]))
      congr 1
      rw [decide_eq_decide]
      omega
  · rw [if_neg (by omega), List.getElem?_eq_none (by rw [givenL_length]; exact hj), List.getElem?_eq_none (by rw [givenL_length]; exact hj)]
section
variable {I : Calls} {Q : Post} {h : Heap}
end
end Go.Proofs.YtfemminjhecocaaGreatDoorVc
-- from LaDivide
namespace Go.Proofs.YtfemminjhecocaaGreatDoorVc
open Go.Proofs.YtfemminjhecocaaGreatDoorLasts
open Go.Proofs.YtfemminjhecocaaGreatDoorShares (at_ qs rs left_ok)
open Go.Proofs.Tryz (prog)
section
variable {I : Calls} {Q : Post} {h : Heap}
theorem spec128L (hI : Closed' prog Pm I) {s : Sl} {c : Nat} {ws : List Nat} (hs : At h 1 s (nats ws)) (hc : c ≤ 1000000000000) (hw : ∀ w ∈ ws, w ≤ 1000000) (hpos : 0 < ws.sum) (hlen : ws.length ≤ 12)
    (hQ : ∀ s' h', Ext h h' → New h s' → At h' 1 s' (nats (shared c ws)) → Q [.one (.slice 1 s')] h') : I 128 [int c, .one (.slice 1 s)] Q h := by
  have hl : s.len = ws.length := by rw [hs.len1, nats_length]
  have hsum := sum_le hw
  obtain ⟨hleft1, hleft2⟩ := left_ok (c := c) hpos
  have hn0 : 0 < ws.length := by omega
  have hQS : ∀ a, (qs c a ws).length = ws.length := fun a => by simp [qs]
  refine hI.go _ _ (den128 I c s Q) ?_
  refine newK_intro fun i3 h1 hn1 he1 => newK_intro fun i5 h2 hn2 he2 => ?_
  have o1 : Owns h h1 [(1, ⟨some (i3, 0), 1⟩, [.int .i64 (c : Int)])] := he1 ▸ (Owns.nil h).new hn1 rfl
  have o2 : Owns h h2 [(1, ⟨some (i5, 0), 1⟩, [.slice 1 s]), (1, ⟨some (i3, 0), 1⟩, [.int .i64 (c : Int)])] := he2 ▸ o1.new hn2 rfl
  refine ⟨s, read_cell (o2.block (sz := 1) (n := 1) (cs := [.slice 1 s]) (by simp)).1 rfl, spec179 hI (o2.ext.at_ hs) (by omega) (by omega) ⟨_, rfl, newK_intro fun i11 h3 hn3 he3 => ?_⟩⟩
  obtain ⟨all, hall⟩ : ∃ all, ws.sum = all := ⟨_, rfl⟩
  rw [hall] at hleft1 hleft2 hpos hsum ⊢
  have o3 : Owns h h3 [(1, ⟨some (i11, 0), 1⟩, [.int .i64 0]), (1, ⟨some (i5, 0), 1⟩, [.slice 1 s]), (1, ⟨some (i3, 0), 1⟩, [.int .i64 (c : Int)])] := he3 ▸ o2.new hn3 rfl
  refine storeK_one (o3.block List.mem_cons_self).1 (by simp) ?_
  have o4 := o3.change (n' := 1) (sz' := 1) (cs' := [.int .i64 (all : Int)]) rfl
  refine ⟨_, read_cell (o4.block (sz := 1) (n := 1) (i := i3) (cs := [.int .i64 (c : Int)]) (by simp)).1 rfl, s, read_cell (o4.block (sz := 1) (n := 1) (i := i5) (cs := [.slice 1 s]) (by simp)).1 rfl, ?_⟩
  have hqle : ∀ k, ((qs c all ws).take k).sum ≤ c := fun k => Nat.le_trans (take_sum_le _ _) hleft1
  refine loopK_intro (fun (a : Int × Sl × Sl × Int) h'' m => ∃ k : Nat, k ≤ ws.length ∧ ws.length - k = m ∧ a.2.2.2 = (k : Int) ∧ a.1 = ((c - ((qs c all ws).take k).sum : Nat) : Int) ∧
      Owns h h'' [(1, a.2.1, nats ((qs c all ws).take k)), (1, a.2.2.1, nats (List.range k)), (1, ⟨some (i11, 0), 1⟩, [.int .i64 (all : Int)]), (1, ⟨some (i5, 0), 1⟩, [.slice 1 s]), (1, ⟨some (i3, 0), 1⟩, [.int .i64 (c : Int)])]) ws.length
    ⟨0, by omega, rfl, rfl, by simp, (o4.none_ 1).none_ 1⟩ ?_
  rintro ⟨left, out, order, y⟩ h5 m ⟨k, hk, rfl, rfl, hleft, o⟩
  simp only at hleft
  subst hleft
  dsimp only [uncur]
  have c3 := (o.block (sz := 1) (n := 1) (i := i3) (cs := [.int .i64 (c : Int)]) (by simp)).1
  have c5 := (o.block (sz := 1) (n := 1) (i := i5) (cs := [.slice 1 s]) (by simp)).1
  have c11 := (o.block (sz := 1) (n := 1) (i := i11) (cs := [.int .i64 (all : Int)]) (by simp)).1
  refine ifT_dec (fun hlt => ⟨⟨by omega, hlt⟩, ?_⟩) (fun hge => ?_)
  · have hkl : k < ws.length := by omega
    have hx := List.getElem?_eq_getElem hkl
    have hwk := hw ws[k] (List.getElem_mem hkl)
    generalize ws[k] = w at *
    refine (o.ext.at_ hs).cell (nats_get hx) fun b o' hr => ⟨_, hr, _, read_cell c3 rfl, _, read_cell c11 rfl, by omega, ?_⟩
    have hqk : ((qs c all ws).take (k + 1)) = (qs c all ws).take k ++ [c * w / all] := take_succ_map _ hx
    have hq1 := hqle (k + 1)
    rw [hqk, List.sum_append] at hq1
    have hq2 : [c * w / all].sum = c * w / all := by simp
    rw [hq2] at hq1
    have m1 : c * w ≤ 1000000000000 * 1000000 := Nat.mul_le_mul hc hwk
    have ew : IntKind.i64.wrap ((IntKind.i64.wrap ((c : Int) * w)).tdiv all) = ((c * w / all : Nat) : Int) := by
      rw [mN, w64 (n := ((c * w : Nat) : Int)) (by omega) (by omega), ← Int.ofNat_tdiv]
      generalize c * w / all = q at *
      exact w64 (by omega) (by omega)
    rw [ew]
    have l1 := o.slen (s := out) (cs := nats ((qs c all ws).take k)) (by simp)
    have l2 := o.slen (s := order) (cs := nats (List.range k)) (by simp)
    rw [nats_length, List.length_take, hQS] at l1
    rw [nats_length, List.length_range] at l2
    have e_out : nats ((qs c all ws).take (k + 1)) = nats ((qs c all ws).take k) ++ [.int .i64 ((c * w / all : Nat) : Int)] := by rw [hqk]; simp [nats]
    have e_ord : nats (List.range (k + 1)) = nats (List.range k) ++ [.int .i64 (k : Int)] := by rw [List.range_succ]; simp [nats]
    refine appendTo_owns (m := 0) o (by rfl) (by omega) (by simp) fun b1 h6 o6 => ?_
    refine appendTo_owns (m := 0) (o6.perm (List.Perm.swap _ _ _)) (by rfl) (by omega) (by simp) fun b2 h7 o7 => ?_
    have o8 := o7.perm (List.Perm.swap _ _ _)
    rw [← e_out, ← e_ord] at o8
    have hg : (nats ((qs c all ws).take (k + 1)))[k]? = some (.int .i64 ((c * w / all : Nat) : Int)) := by
      refine nats_get ?_
      rw [hqk, List.getElem?_append_right (by rw [List.length_take]; omega), List.length_take, hQS, Nat.min_eq_left (by omega), Nat.sub_self]
      rfl
    refine ⟨⟨by omega, by show (k : Int) < ((out.len + (0 + 1) : Nat) : Int); omega⟩, (o8.at_ List.mem_cons_self).cell hg fun b o' hr' => ⟨_, hr', ws.length - (k + 1), by omega, k + 1, by omega, rfl, ?_, ?_, o8⟩⟩
    · show IntKind.i64.wrap ((k : Int) + 1) = _
      rw [w64] <;> omega
    · show IntKind.i64.wrap (_ - _) = _
      rw [hqk, List.sum_append, hq2]
      generalize c * w / all = q at *
      rw [w64 (by omega) (by omega)]
      omega
  · have hkn : k = ws.length := by omega
    subst hkn
    have t1 : (qs c all ws).take ws.length = qs c all ws := List.take_of_length_le (by rw [hQS]; exact Nat.le_refl _)
    rw [t1] at o ⊢
    have l1 := o.slen (s := out) (cs := nats (qs c all ws)) (by simp)
    have l2 := o.slen (s := order) (cs := nats (List.range ws.length)) (by simp)
    rw [nats_length, hQS] at l1
    rw [nats_length, List.length_range] at l2
    obtain ⟨bo, hbo, co⟩ := o.has (s := out) (cs := nats (qs c all ws)) (sz := 1) (by simp) (nats_ne (by rw [hQS]; exact hn0))
    obtain ⟨bd, hbd, cd⟩ := o.has (s := order) (cs := nats (List.range ws.length)) (sz := 1) (by simp) (nats_ne (by rw [List.length_range]; exact hn0))
    rw [l1] at hbo
    rw [l2] at hbd
    subst hbo hbd
    have ne0 : bo ≠ bd := o.ne (q := (1, ⟨some (bd, 0), ws.length⟩, nats (List.range ws.length))) (by simp) rfl rfl
    have ne1 : bd ≠ i11 := o.tail.ne (q := (1, ⟨some (i11, 0), 1⟩, [.int .i64 (all : Int)])) (by simp) rfl rfl
    have ne2 : bd ≠ i5 := o.tail.ne (q := (1, ⟨some (i5, 0), 1⟩, [.slice 1 s])) (by simp) rfl rfl
    have ne3 : bd ≠ i3 := o.tail.ne (q := (1, ⟨some (i3, 0), 1⟩, [.int .i64 (c : Int)])) (by simp) rfl rfl
    have hbn : h bd = none := by
      obtain ⟨_, h2 | ⟨k, h2, h3, _⟩⟩ := o.all (1, ⟨some (bd, 0), ws.length⟩, nats (List.range ws.length)) (by simp)
      · simp at h2
      · cases h2; exact h3
    have hbn' : h bo = none := by
      obtain ⟨_, h2 | ⟨k, h2, h3, _⟩⟩ := o.all (1, ⟨some (bo, 0), ws.length⟩, nats (qs c all ws)) (by simp)
      · simp at h2
      · cases h2; exact h3
    have hlR : ((List.range ws.length).map fun n : Nat => (n : Int)).length = ws.length := by simp
    have hext : ∀ ys h', PSt h5 bd ys h' → Ext h h' := fun ys h' p j x hj => p.2 j x (fun e => by subst e; rw [hbn] at hj; cases hj) (o.ext _ _ hj)
    have key := fun Q0 => spec180 (I := I) (Q := Q0) (h := h5) (blk := bd) (g := 181) (caps := [(i3, 0), (i5, 0), (i11, 0)]) (xs := (List.range ws.length).map fun n : Nat => (n : Int))
      (lt := fun x y => beats (rs c all ws) x.toNat y.toNat) hI (fun x y => beats (rs c all ws) x.toNat y.toNat = true) (by rw [← nats_ints]; exact cd) (by rw [hlR]; exact hn0) (by rw [hlR]; exact hlen)
    simp only [hlR] at key
    refine key _ ?_ ?_ (fun a b c _ _ _ h1 h2 => beats_trans h1 h2) fun ys h6 hp hpw hst => ⟨rfl, ⟨by decide, by omega, by omega⟩, ?_⟩
    · rintro a b ha hb h' Q' ⟨ys, p⟩ hQ'
      obtain ⟨a', ha', rfl⟩ := List.mem_map.1 ha
      obtain ⟨b', hb', rfl⟩ := List.mem_map.1 hb
      have ha2 := List.mem_range.1 ha'
      have hb2 := List.mem_range.1 hb'
      have ga : ws[a']? = some ws[a'] := List.getElem?_eq_getElem ha2
      have gb : ws[b']? = some ws[b'] := List.getElem?_eq_getElem hb2
      refine spec181 hI (p.2 _ _ (Ne.symm ne3) c3) (p.2 _ _ (Ne.symm ne2) c5) (p.2 _ _ (Ne.symm ne1) c11) ((hext _ _ p).at_ hs) hc hw hpos ga gb fun r h'' he hr => hQ' r h'' he ?_
      have ra : at_ (rs c all ws) a' = c * ws[a'] % all := at_some (by unfold rs; rw [List.getElem?_map, ga]; rfl)
      have rb : at_ (rs c all ws) b' = c * ws[b'] % all := at_some (by unfold rs; rw [List.getElem?_map, gb]; rfl)
      simp only [Int.toNat_natCast, beats_iff, ra, rb]
      rw [hr]
      constructor <;> rintro (h | ⟨h, h'⟩)
      · exact .inl h
      · exact .inr ⟨h.symm, h'⟩
      · exact .inl h
      · exact .inr ⟨h.symm, h'⟩
    · rw [List.pairwise_map]
      refine List.pairwise_lt_range.imp fun {a b} hab => ?_
      simp only [Int.toNat_natCast]
      refine ⟨fun h => h, fun h => ?_⟩
      rcases beats_total (rs := rs c all ws) (show a ≠ b by omega) with h1 | h1
      · exact h1
      · rw [h1] at h; cases h
    · rw [Int.toNat_natCast]
      have hyl : ys.length = ws.length := by rw [hp.length_eq, hlR]
      have o6 : Owns h h6 [(1, ⟨some (bo, 0), ws.length⟩, nats (qs c all ws)), (1, ⟨some (bd, 0), ws.length⟩, ints ys)] := by
        refine ⟨hext _ _ hst, fun q hq => ?_, ?_⟩
        · have hq' : q = (1, ⟨some (bo, 0), ws.length⟩, nats (qs c all ws)) ∨ q = (1, ⟨some (bd, 0), ws.length⟩, ints ys) := by simpa using hq
          rcases hq' with rfl | rfl
          · exact ⟨by rw [nats_length, hQS]; simp, .inr ⟨bo, rfl, hbn', hst.2 _ _ ne0 co⟩⟩
          · exact ⟨by rw [ints_length, hyl]; simp, .inr ⟨bd, rfl, hbn, hst.1⟩⟩
        · simp only [List.pairwise_cons]
          refine ⟨fun q hq i hi hi2 => ?_, by simp⟩
          have : q = (1, ⟨some (bd, 0), ws.length⟩, ints ys) := by simpa using hq
          subst this
          cases hi
          cases hi2
          exact ne0 rfl
      have hRS : (rs c all ws).length = ws.length := by simp [rs]
      generalize hq : qs c all ws = q at *
      generalize hr : rs c all ws = rr at *
      have hlq : q.length = ws.length := by rw [← hq]; exact hQS all
      obtain ⟨ys', rfl, hp'⟩ : ∃ ys' : List Nat, ys = ys'.map (fun n : Nat => (n : Int)) ∧ ys'.Perm (List.range ws.length) := by
        refine ⟨ys.map Int.toNat, ?_, ?_⟩
        · rw [List.map_map]
          conv => lhs; rw [← List.map_id ys]
          refine List.map_congr_left fun y hy => ?_
          obtain ⟨n, _, rfl⟩ := List.mem_map.1 (hp.mem_iff.1 hy)
          simp
        · have := hp.map Int.toNat
          rw [List.map_map] at this
          have e : (Int.toNat ∘ fun n : Nat => (n : Int)) = id := by funext n; simp
          rw [e, List.map_id] at this
          exact this
      rw [List.pairwise_map] at hpw
      simp only [Int.toNat_natCast] at hpw
      rw [← hRS] at hp'
      have hyl' : ys'.length = ws.length := by rw [hp'.length_eq, List.length_range, hRS]
      have hleft : c - q.sum ≤ ws.length := by omega
      have hqs : ∀ e x, q[e]? = some x → x ≤ c := fun e x hx => by
        have := mem_le_sum (List.mem_of_getElem? hx)
        omega
      refine loopK_intro (fun (a : Int) h4 m => ∃ k : Nat, k ≤ c - q.sum ∧ a = (k : Int) ∧ c - q.sum - k = m ∧ Owns h h4 [(1, ⟨some (bo, 0), ws.length⟩, nats (dealtK q rr k)), (1, ⟨some (bd, 0), ws.length⟩, ints (ys'.map fun n : Nat => (n : Int)))]) (c - q.sum)
        ⟨0, by omega, rfl, rfl, by rw [dealtK_zero]; exact o6⟩ ?_
      rintro a h4 m ⟨k, hk, rfl, rfl, o5⟩
      refine ifT_dec (fun hlt => ⟨⟨by omega, hlt⟩, ?_⟩) (fun hge => ?_)
      · have hkl : k < c - q.sum := by have : (k : Int) < ((c - q.sum - 0 : Nat) : Int) := hlt; omega
        have hsub := (o5.at_ (sz := 1) (s := ⟨some (bd, 0), ws.length⟩) (cs := ints (ys'.map fun n : Nat => (n : Int))) (by simp)).sub 0 (c - q.sum) (by omega) hleft
        have hy : ys'[k]? = some ys'[k] := List.getElem?_eq_getElem (by omega)
        generalize ys'[k] = e at hy
        have hel : e < ws.length := by
          have := List.mem_range.1 (hp'.mem_iff.1 (List.mem_of_getElem? hy)); omega
        have hrank := sorted_rank hp' hpw hy
        have hg : (((ints (ys'.map fun n : Nat => (n : Int))).drop (0 * 1)).take ((c - q.sum - 0) * 1))[k]? = some (.int .i64 (e : Int)) := by
          rw [List.getElem?_take, if_pos (by omega), Nat.zero_mul, List.drop_zero]
          exact ints_get (by rw [List.getElem?_map, hy]; rfl)
        refine hsub.cell hg fun b o' hr' => ⟨_, hr', ⟨by omega, by simp; omega⟩, ?_⟩
        have hqe : q[e]? = some (at_ q e) := by
          rw [List.getElem?_eq_getElem (by omega)]
          rw [at_some (List.getElem?_eq_getElem (show e < q.length by omega))]
        have hde : (dealtK q rr k)[e]? = some (at_ q e) := by rw [dealtK_get (by omega), hrank]; simp
        have hqec := hqs e _ hqe
        refine (o5.at_ List.mem_cons_self).cell (nats_get hde) fun b o' hr' => ⟨_, hr', ⟨by omega, by simp; omega⟩, derefK_intro rfl ?_⟩
        have ew : IntKind.i64.wrap ((at_ q e : Int) + 1) = ((at_ q e + 1 : Nat) : Int) := by rw [w64] <;> omega
        have eo : 0 + (e : Int).toNat * 1 = e := by simp
        rw [ew, eo]
        refine storeK_one (o5.block List.mem_cons_self).1 (by rw [nats_length, dealtK_length]; omega) ⟨c - q.sum - (k + 1), by omega, k + 1, by omega, ?_, rfl, ?_⟩
        · rw [w64] <;> omega
        · rw [nats_set, dealtK_step (by omega) (by omega) hrank]
          exact o5.change (by rw [nats_length, dealtK_length]; omega)
      · have hk2 : k = c - q.sum := by
          have : ¬ (k : Int) < ((c - q.sum - 0 : Nat) : Int) := hge
          omega
        subst hk2
        refine hQ _ _ o5.ext (o5.new_ (sz := 1) (s := ⟨some (bo, 0), ws.length⟩) (cs := nats (dealtK q rr (c - q.sum))) (by simp)) ?_
        have := o5.at_ (sz := 1) (s := ⟨some (bo, 0), ws.length⟩) (cs := nats (dealtK q rr (c - q.sum))) (by simp)
        unfold shared
        rw [hall, hq, hr]
        exact this
end
end Go.Proofs.YtfemminjhecocaaGreatDoorVc
-- from MaSpec2
namespace Go.Proofs.YtfemminjhecocaaGreatDoorVc
open Go.Proofs.Tryz (prog)
section
variable {I : Calls} {Q : Post} {h : Heap}
theorem specRange (hI : Closed' prog Pm I) {i : Nat} {l : Sl} {zs : List Int} {t : Nat} {a b : Int} (S : Strm h i l zs t) (h1 : a ≤ b) (h2 : -1000000000 < a) (h3 : b < 1000000000)
    (hQ : ∀ v, a ≤ v → v ≤ b → Q [int v] (h.set i (strm l (t + 1)))) : I 26 [.one (.ptr (some (i, 0))), int a, int b] Q h := by
  refine hI.go _ _ (den26 I _ a b Q) ?_
  refine ifT_dec (fun h => by omega) fun _ => ?_
  have ew : IntKind.i64.wrap (IntKind.i64.wrap (b - a) + 1) = b - a + 1 := by rw [w64 (n := b - a) (by omega) (by omega), w64 (by omega) (by omega)]
  rw [ew]
  refine spec43 hI S (by omega) (by omega) fun v h4 h5 => ⟨v, rfl, ?_⟩
  rw [w64 (by omega) (by omega)]
  exact hQ _ (by omega) (by omega)
/-! ### weights by ages -/
def wOf (how span : Int) (n i : Nat) (age : Int) : Int :=
  if (how = 1 ∧ 0 < i) ∨ (how = 2 ∧ i + 1 < n) then 0 else if how = 4 ∧ (i = 0 ∨ i + 1 = n) ∧ 2 < n then 2 else if how = 5 then (i : Int) + 1 else if how = 6 then 2 ^ (18 - (18 * age / span).toNat) else 1
theorem part {age span : Int} (h1 : 1 ≤ age) (h2 : age ≤ span) (h3 : span ≤ 4321440) : ∃ k : Nat, k ≤ 18 ∧ 18 * age / span = k ∧ IntKind.i64.wrap ((IntKind.i64.wrap (18 * age)).tdiv span) = k := by
  have e1 : IntKind.i64.wrap (18 * age) = 18 * age := w64 (by omega) (by omega)
  have h4 : 0 ≤ 18 * age / span := Int.ediv_nonneg (by omega) (by omega)
  have h5 : 18 * age / span ≤ 18 := by
    have : 18 * age / span < 19 := Int.ediv_lt_of_lt_mul (by omega) (by omega)
    omega
  refine ⟨(18 * age / span).toNat, by omega, by omega, ?_⟩
  rw [e1, Int.tdiv_eq_ediv_of_nonneg (by omega), w64 (by omega) (by omega)]
  omega
theorem pow18 : ∀ k : Nat, k ≤ 18 → shl .i64 1 (18 - (k : Int)) = 2 ^ (18 - k) := by decide
theorem halve : ∀ k : Nat, k < 18 → IntKind.i64.wrap (((2 : Int) ^ (18 - k)).tdiv 2) = 2 ^ (18 - (k + 1)) := by decide
theorem specWeight (hI : Closed' prog Pm I) {how span age : Int} {n i : Nat} (hi : i < n) (hn : n ≤ 100) (h1 : 1 ≤ age) (h2 : age ≤ span) (h3 : span ≤ 4321440) (hQ : Q [int (wOf how span n i age)] h) :
    I 178 [int how, int span, int age, int i, int n] Q h := by
  obtain ⟨k, hk, e1, e2⟩ := part h1 h2 h3
  have en : IntKind.i64.wrap ((n : Int) - 1) = n - 1 := w64 (by omega) (by omega)
  refine hI.go _ _ (den178 I how span age i n Q) ?_
  refine joinK_intro (fun (b : Bool) h' => h' = h ∧ (b = true ↔ (i = 0 ∨ i + 1 = n))) ?_ fun j hj => ifT_dec (fun h => hj _ _ ⟨rfl, by simp; omega⟩) fun h => hj _ _ ⟨rfl, by rw [en]; simp; omega⟩
  rintro b5 h' ⟨rfl, hb5⟩
  refine joinK_intro (fun (b : Bool) h'' => h'' = h' ∧ (b = true ↔ (how = 1 ∧ 0 < i))) ?_ fun j hj => ifT_dec (fun h => hj _ _ ⟨rfl, by simp; omega⟩) fun h => hj _ _ ⟨rfl, by simp; omega⟩
  rintro b6 h'' ⟨rfl, hb6⟩
  refine joinK_intro (fun (b : Bool) h3 => h3 = h'' ∧ (b = true ↔ ((how = 1 ∧ 0 < i) ∨ (how = 2 ∧ i + 1 < n)))) ?_ ?_
  · rintro b7 h3 ⟨rfl, hb7⟩
    refine ifT_intro (fun hb => ?_) fun hb => ?_
    · have e : wOf how span n i age = 0 := by unfold wOf; rw [if_pos (hb7.1 hb)]
      rw [e] at hQ; exact hQ
    have hno : ¬ ((how = 1 ∧ 0 < i) ∨ (how = 2 ∧ i + 1 < n)) := fun h => by rw [hb7.2 h] at hb; cases hb
    refine joinK_intro (fun (b : Bool) h4 => h4 = h3 ∧ (b = true ↔ (how = 4 ∧ (i = 0 ∨ i + 1 = n) ∧ 2 < n))) ?_ ?_
    · rintro b8 h4 ⟨rfl, hb8⟩
      refine ifT_intro (fun hb => ?_) fun hb => ?_
      · have e : wOf how span n i age = 2 := by unfold wOf; rw [if_neg hno, if_pos (hb8.1 hb)]
        rw [e] at hQ; exact hQ
      have hno2 : ¬ (how = 4 ∧ (i = 0 ∨ i + 1 = n) ∧ 2 < n) := fun h => by rw [hb8.2 h] at hb; cases hb
      refine ifT_dec (fun h5 => ?_) fun h5 => ifT_dec (fun h6 => ?_) fun h6 => ?_
      · have e : wOf how span n i age = (i : Int) + 1 := by unfold wOf; rw [if_neg hno, if_neg hno2, if_pos h5]
        rw [e] at hQ
        rw [w64 (by omega) (by omega)]
        exact hQ
      · have e : wOf how span n i age = 2 ^ (18 - k) := by unfold wOf; rw [if_neg hno, if_neg hno2, if_neg h5, if_pos h6, e1]; rfl
        rw [e] at hQ
        rw [e2, w64 (n := 18 - (k : Int)) (by omega) (by omega), pow18 k hk]
        exact ⟨by omega, by omega, hQ⟩
      · have e : wOf how span n i age = 1 := by unfold wOf; rw [if_neg hno, if_neg hno2, if_neg h5, if_neg h6]
        rw [e] at hQ; exact hQ
    · intro j hj
      refine ifT_dec (fun h4 => ifT_intro (fun h5 => hj _ _ ⟨rfl, ?_⟩) fun h5 => hj _ _ ⟨rfl, ?_⟩) fun h4 => hj _ _ ⟨rfl, ?_⟩
      · have := hb5.1 h5; simp; omega
      · have : ¬ (i = 0 ∨ i + 1 = n) := fun h => by rw [hb5.2 h] at h5; cases h5
        simp; omega
      · simp; omega
  · intro j hj
    refine ifT_intro (fun h4 => hj _ _ ⟨rfl, ?_⟩) fun h4 => ?_
    · have := hb6.1 h4; rw [h4]; simp; omega
    · have h5 : ¬ (how = 1 ∧ 0 < i) := fun h => by rw [hb6.2 h] at h4; cases h4
      refine joinK_intro (fun (b : Bool) h3 => h3 = h'' ∧ (b = true ↔ (how = 2 ∧ i + 1 < n))) ?_ fun j hj => ifT_dec (fun h => hj _ _ ⟨rfl, by rw [en]; simp; omega⟩) fun h => hj _ _ ⟨rfl, by simp; omega⟩
      rintro b h3 ⟨rfl, hb⟩
      exact hj _ _ ⟨rfl, by rw [hb]; omega⟩
end
end Go.Proofs.YtfemminjhecocaaGreatDoorVc
-- from MaSpec3
namespace Go.Proofs.YtfemminjhecocaaGreatDoorVc
open Go.Proofs.YtfemminjhecocaaGreatDoorLasts (shared)
open Go.Proofs.Tryz (prog)
/-- What is wrong with ages. -/
def scan (span : Int) : Option Int → List Int → Int
  | _, [] => 0
  | p, a :: l => if ¬ (1 ≤ a ∧ a ≤ span) then 1 else if (p.any fun q => decide (q < a)) = true then 7 else scan span (some a) l
def errA (how span : Int) (xs : List Int) : Int := if ¬ (1 ≤ how ∧ how ≤ 6) then 4 else if ¬ (1 ≤ span ∧ span ≤ 4321440) then 1 else if 12 < xs.length then 2 else scan span none xs
def prev (xs : List Int) (i : Nat) : Option Int := if i = 0 then none else xs[i - 1]?
def wList (how span : Int) (xs : List Int) : List Int := (List.range xs.length).map fun i => wOf how span xs.length i (xs.getD i 0)
theorem getD_of {xs : List Int} {i : Nat} {x : Int} (h : xs[i]? = some x) : xs.getD i 0 = x := by rw [List.getD_eq_getElem?_getD, h]; rfl
theorem scan_step {span : Int} {xs : List Int} {i : Nat} {x : Int} (hx : xs[i]? = some x) : scan span (prev xs i) (xs.drop i) = if ¬ (1 ≤ x ∧ x ≤ span) then 1 else if ((prev xs i).any fun q => decide (q < x)) = true then 7 else scan span (prev xs (i + 1)) (xs.drop (i + 1)) := by
  rw [drop_mid hx]
  show (if _ then _ else _) = _
  have : prev xs (i + 1) = some x := by unfold prev; simp [hx]
  rw [this]
theorem wList_take {how span : Int} {xs : List Int} {k : Nat} {x : Int} (hx : xs[k]? = some x) : (wList how span xs).take (k + 1) = (wList how span xs).take k ++ [wOf how span xs.length k x] := by
  have hlt : k < xs.length := (List.getElem?_eq_some_iff.1 hx).1
  unfold wList
  rw [take_succ_map (fun i => wOf how span xs.length i (xs.getD i 0)) (List.getElem?_range hlt), getD_of hx]
section
variable {I : Calls} {Q : Post} {h : Heap}
theorem specWeights21 (hI : Closed' prog Pm I) {how span : Int} {s : Sl} {xs : List Int} (hs : At h 1 s (ints xs)) (hn : xs.length ≤ 12) (h3 : span ≤ 4321440) (hv : ∀ a ∈ xs, 1 ≤ a ∧ a ≤ span)
    (hQ : ∀ s' h', Ext h h' → New h s' → At h' 1 s' (ints (wList how span xs)) → Q [.one (.slice 1 s')] h') : I 127 [int how, int span, .one (.slice 1 s)] Q h := by
  have hl : s.len = xs.length := by rw [hs.len1, ints_length]
  have hwl : (wList how span xs).length = xs.length := by simp [wList]
  refine hI.go _ _ (den127 I how span s Q) ?_
  unfold vc127
  rw [hl]
  refine loopK_intro (fun (a : Sl × Int) h'' m => ∃ k : Nat, k ≤ xs.length ∧ xs.length - k = m ∧ a.2 = (k : Int) ∧ Own h h'' 1 a.1 (ints ((wList how span xs).take k))) xs.length
    ⟨0, by omega, rfl, rfl, Own.nil _ _⟩ ?_
  rintro ⟨l, y⟩ h2 m ⟨k, hk, rfl, rfl, o⟩
  dsimp only [uncur]
  refine ifT_dec (fun hlt => ⟨⟨by omega, by omega⟩, ?_⟩) (fun hge => ?_)
  · have hkl : k < xs.length := by omega
    have hx := List.getElem?_eq_getElem hkl
    have hxv := hv xs[k] (List.getElem_mem hkl)
    generalize xs[k] = x at *
    refine (o.ext.at_ hs).cell (ints_get hx) fun b o' hr => ⟨_, hr, specWeight hI hkl (by omega) hxv.1 hxv.2 h3 ⟨_, rfl, ?_⟩⟩
    have hol := o.len
    rw [ints_length, List.length_take, hwl] at hol
    change l.len * 1 = _ at hol
    refine appendTo_own (m := 0) o (by rfl) (by omega) fun s' h3 o3 hl3 => ⟨xs.length - (k + 1), by omega, k + 1, by omega, rfl, ?_, by rw [wList_take hx]; simpa [ints] using o3⟩
    show IntKind.i64.wrap ((k : Int) + 1) = _
    rw [w64] <;> omega
  · have : k = xs.length := by omega
    subst this
    have e : (wList how span xs).take xs.length = wList how span xs := List.take_of_length_le (by omega)
    rw [e] at o
    exact hQ _ _ o.ext o.new_ o.at_
end
end Go.Proofs.YtfemminjhecocaaGreatDoorVc
