/- Contracts of what QuantilesFound reaches: sorting, quantiles of both sides, and the law. -/
import Derived.Test.YtihnjdhjkpmggaaVcQfSpec1
set_option linter.unusedSimpArgs false
set_option linter.unusedVariables false
namespace Go.Proofs.YtihnjdhjkpmggaaVc
open Go.Proofs.Try (prog)

section
variable {I : Calls} {Q : Post} {h : Heap}

theorem spec111 (hI : Closed' prog Pm I) {n : Int} (hQ : Q [boo false] h) : I 111 [int n] Q h := by
  refine hI.go _ _ (den111 I n Q) ?_
  have e : (!decide (n = n)) = false := by simp
  show Q [boo (!decide (n = n))] h
  rw [e]
  exact hQ
theorem spec165 (hI : Closed' prog Pm I) {a b : Int} (hQ : Q [boo (decide (a < b))] h) : I 165 [int a, int b] Q h := by
  refine hI.go _ _ (den165 I a b Q) ?_
  exact spec111 hI ⟨_, rfl, ifT_intro (fun h => by cases h) fun _ => hQ⟩

theorem spec159 (hI : Closed' prog Pm I) {blk : Nat} {xs : List Int} (hb : h blk = some (.cells false (ints xs))) (hlen : xs.length < 1000)
    (hQ : ∀ ys : List Int, ys.Perm xs → ys.Pairwise (· ≤ ·) → Q [] (h.set blk (.cells false (ints ys)))) :
    I 159 [.one (.slice 1 ⟨some (blk, 0), xs.length⟩), int 0, int xs.length] Q h := by
  refine hI.go _ _ (den159 I _ _ _ Q) ?_
  have e0 : IntKind.i64.wrap ((0 : Int) + 1) = 1 := by decide
  unfold vc159
  rw [e0]
  refine loopK_intro (fun (a : Int) h' m => ∃ k : Nat, 1 ≤ k ∧ (k ≤ xs.length ∨ k = 1) ∧ a = k ∧ xs.length - k = m ∧ ∃ ys, ys.Perm (xs.take k) ∧ ys.Pairwise (· ≤ ·) ∧ h' = h.set blk (.cells false (ints (ys ++ xs.drop k)))) (xs.length - 1)
    ⟨1, by omega, .inr rfl, rfl, rfl, xs.take 1, List.Perm.refl _, ?_, by rw [List.take_append_drop, set_self hb]⟩ ?_
  · cases xs with
    | nil => exact List.Pairwise.nil
    | cons x xs => simp
  rintro a h' m ⟨k, hk1, hk2, rfl, rfl, ys, hperm, hpw, rfl⟩
  refine ifT_dec (fun hlt => ?_) (fun hge => ?_)
  · have hkl : k < xs.length := by omega
    have hx : xs[k]? = some xs[k] := List.getElem?_eq_getElem hkl
    have hxm : xs[k] ∈ xs := List.getElem_mem hkl
    generalize xs[k] = x at hx hxm
    have hyl : ys.length = k := by rw [hperm.length_eq, List.length_take]; omega
    have hysub : ∀ d ∈ ys, d ∈ xs := fun d hd => List.mem_of_mem_take (hperm.mem_iff.1 hd)
    have hyx1 : ∀ x d : Int, decide (x < d) = true → x ≤ d := fun x d h => by simp at h; omega
    have hyx2 : ∀ x d : Int, decide (x < d) = false → d ≤ x := fun x d h => by simp at h; omega
    refine loopK_intro (fun (a : Int) h'' m => ∃ pre post, a = (pre.length : Nat) ∧ pre.length = m ∧ pre ++ post = ys ∧ (∀ d ∈ post, x ≤ d) ∧ h'' = h.set blk (.cells false (ints (pre ++ x :: (post ++ xs.drop (k + 1)))))) k
      ⟨ys, [], by rw [hyl], hyl, by simp, by simp, by rw [drop_mid hx]; rfl⟩ ?_
    rintro a h'' m ⟨pre, post, rfl, rfl, hpp, hpost, rfl⟩
    have hpl : pre.length + post.length = k := by rw [← hyl, ← hpp, List.length_append]
    have hlenL : (pre ++ x :: (post ++ xs.drop (k + 1))).length = xs.length := by simp; omega
    refine joinK_intro (fun (b : Bool) h3 => h3 = h.set blk (.cells false (ints (pre ++ x :: (post ++ xs.drop (k + 1))))) ∧ (b = true → ∃ pre' d, pre = pre' ++ [d] ∧ decide (x < d) = true) ∧ (b = false → pre = [] ∨ ∃ pre' d, pre = pre' ++ [d] ∧ decide (x < d) = false)) ?_ ?_
    · rintro b h3 ⟨rfl, hb1, hb2⟩
      refine ifT_intro (fun hbt => ?_) (fun hbf => ?_)
      · obtain ⟨pre', d, rfl, hlt2⟩ := hb1 hbt
        have hd : d ∈ ys := by rw [← hpp]; simp
        simp only [List.length_append, List.length_singleton] at hpl ⊢
        have ew : IntKind.i64.wrap (((pre'.length + 1 : Nat) : Int) - 1) = (pre'.length : Int) := by rw [w64] <;> omega
        simp only [ew]
        simp only [List.append_assoc, List.singleton_append]
        have g1 : (ints (pre' ++ d :: x :: (post ++ xs.drop (k + 1))))[0 + (pre'.length : Int).toNat * 1]? = some (.int .i64 d) := by
          simp only [Int.toNat_natCast, Nat.mul_one, Nat.zero_add]
          exact ints_get (get_mid _ _ _)
        have g2 : (ints (pre' ++ d :: x :: (post ++ xs.drop (k + 1))))[0 + ((pre'.length + 1 : Nat) : Int).toNat * 1]? = some (.int .i64 x) := by
          simp only [Int.toNat_natCast, Nat.mul_one, Nat.zero_add]
          refine ints_get ?_
          simp
        refine ⟨⟨by omega, by simp; omega⟩, derefK_intro rfl ⟨_, read_cell (set_eq _ _ _) g1, ⟨by omega, by simp; omega⟩, derefK_intro rfl ⟨_, read_cell (set_eq _ _ _) g2, ⟨by omega, by simp; omega⟩, derefK_intro rfl (storeK_one (set_eq _ _ _) ?_ ⟨⟨by omega, by simp; omega⟩, derefK_intro rfl (storeK_one (set_eq _ _ _) ?_ ?_)⟩)⟩⟩⟩
        · simp [ints]
        · simp [ints]
        · refine ⟨pre'.length, by omega, pre', d :: post, rfl, rfl, by rw [← hpp]; simp, fun e he => ?_, ?_⟩
          · rcases List.mem_cons.1 he with rfl | he
            · exact hyx1 _ _ hlt2
            · exact hpost e he
          · rw [set_set, set_set, ints_set, ints_set]
            congr 4
            simp only [Int.toNat_natCast, Nat.mul_one, Nat.zero_add]
            have s1 : (pre' ++ d :: x :: (post ++ xs.drop (k + 1))).set (pre'.length + 1) d = pre' ++ d :: d :: (post ++ xs.drop (k + 1)) := by
              simp
            rw [s1, set_mid']
            rfl
      · refine ⟨xs.length - (k + 1), by omega, k + 1, by omega, .inl hkl, ?_, rfl, pre ++ x :: post, ?_, ?_, ?_⟩
        · rw [w64] <;> omega
        · rw [take_mid hx]
          exact (List.perm_middle.trans ((hpp ▸ hperm).cons x)).trans (List.perm_append_singleton x (xs.take k)).symm
        · refine placed (hpp ▸ hpw) ?_ hpost
          rcases hb2 hbf with rfl | ⟨pre', d, rfl, hlt2⟩
          · simp
          · have hd : d ∈ ys := by rw [← hpp]; simp
            refine before_all (post := post) (hpp ▸ hpw) (fun e he hed => ?_) (hyx2 _ _ hlt2)
            have hey : e ∈ ys := by rw [← hpp]; simp [he]
            exact Int.le_trans hed (hyx2 _ _ hlt2)
        · simp
    · intro j hj
      refine ifT_dec (fun hgt => ?_) (fun hle => hj _ _ ⟨rfl, (fun h => by cases h), fun _ => .inl (List.length_eq_zero_iff.1 (by omega))⟩)
      obtain ⟨pre', d, rfl⟩ : ∃ pre' d, pre = pre' ++ [d] := ⟨pre.dropLast, pre.getLast (by intro e; subst e; simp at hgt), (List.dropLast_concat_getLast _).symm⟩
      have hd : d ∈ ys := by rw [← hpp]; simp
      simp only [List.length_append, List.length_singleton] at hpl hgt hj ⊢
      have ew : IntKind.i64.wrap (((pre'.length + 1 : Nat) : Int) - 1) = (pre'.length : Int) := by rw [w64] <;> omega
      simp only [ew]
      simp only [List.append_assoc, List.singleton_append] at hj ⊢
      have g1 : (ints (pre' ++ d :: x :: (post ++ xs.drop (k + 1))))[0 + (pre'.length : Int).toNat * 1]? = some (.int .i64 d) := by
        simp only [Int.toNat_natCast, Nat.mul_one, Nat.zero_add]
        exact ints_get (get_mid _ _ _)
      have g2 : (ints (pre' ++ d :: x :: (post ++ xs.drop (k + 1))))[0 + ((pre'.length + 1 : Nat) : Int).toNat * 1]? = some (.int .i64 x) := by
        simp only [Int.toNat_natCast, Nat.mul_one, Nat.zero_add]
        refine ints_get ?_
        simp
      refine ⟨⟨by omega, by simp; omega⟩, derefK_intro rfl ⟨_, read_cell (set_eq _ _ _) g2, ⟨by omega, by simp; omega⟩, derefK_intro rfl ⟨_, read_cell (set_eq _ _ _) g1, ?_⟩⟩⟩
      exact spec165 hI ⟨_, rfl, hj _ _ ⟨rfl, fun h => ⟨pre', d, rfl, h⟩, fun h => .inr ⟨pre', d, rfl, h⟩⟩⟩
  · have hnl : xs.length ≤ k := by omega
    have : xs.drop k = [] := List.drop_eq_nil_of_le hnl
    rw [this, List.append_nil]
    rw [List.take_of_length_le hnl] at hperm
    exact hQ ys hperm hpw

theorem spec151 (hI : Closed' prog Pm I) {x : Nat} (h0 : 0 < x) (h1 : x < 18446744073709551616) (hQ : ∀ n : Int, Q [int n] h) : I 151 [u64 x] Q h := by
  refine hI.go _ _ (den151 I x Q) ?_
  exact spec155g hI h0 h1 fun len _ _ _ => ⟨_, rfl, hQ _⟩
theorem spec130 (hI : Closed' prog Pm I) {blk : Nat} {xs : List Int} (hb : h blk = some (.cells false (ints xs))) (h0 : 0 < xs.length) (hlen : xs.length ≤ 12)
    (hQ : ∀ ys : List Int, ys.Perm xs → ys.Pairwise (· ≤ ·) → Q [] (h.set blk (.cells false (ints ys)))) :
    I 130 [.one (.slice 1 ⟨some (blk, 0), xs.length⟩)] Q h := by
  refine hI.go _ _ (den130 I _ Q) ?_
  have ew : IntKind.u64.wrap ((xs.length : Nat) : Int) = ((xs.length : Nat) : Int) := wN _ (by omega)
  unfold vc130
  rw [ew]
  refine spec151 hI h0 (by omega) fun n => ⟨_, rfl, ?_⟩
  refine hI.go _ _ (den150 I _ _ _ _ _) ?_
  refine loopK_intro (fun (a : Int × Int × Int × Bool × Bool) h' m => h' = h ∧ a = (0, ((xs.length : Nat) : Int), n, true, true)) 0 ⟨rfl, rfl⟩ ?_
  rintro a h' m ⟨rfl, rfl⟩
  dsimp only [uncur]
  have e2 : IntKind.i64.wrap (((xs.length : Nat) : Int) - 0) = ((xs.length : Nat) : Int) := by rw [w64] <;> omega
  rw [e2]
  exact ifT_dec (fun _ => spec159 hI hb (by omega) fun ys h1 h2 => ⟨rfl, rfl, hQ ys h1 h2⟩) fun hle => by omega

end
end Go.Proofs.YtihnjdhjkpmggaaVc
