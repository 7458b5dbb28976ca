/- The stable sort of a short row of ints. -/
import Derived.Test.YtihnjdhjkpmggaaVcCsVc
import Derived.Test.YtihnjdhjkpmggaaVcSortList
set_option linter.unusedSimpArgs false
set_option linter.unusedVariables false
namespace Go.Proofs.YtihnjdhjkpmggaaVc
open Go.Proofs.Try (prog)

section
variable {I : Calls} {Q : Post} {h : Heap}

theorem ints_get {xs : List Int} {i : Nat} {x : Int} (h : xs[i]? = some x) : (ints xs)[i]? = some (.int .i64 x) := by
  unfold ints; rw [List.getElem?_map, h]; rfl
theorem ints_set (xs : List Int) (i : Nat) (x : Int) : (ints xs).set i (.int .i64 x) = ints (xs.set i x) := by
  unfold ints; rw [List.map_set]
theorem ints_length (xs : List Int) : (ints xs).length = xs.length := by simp [ints]
theorem set_self {h : Heap} {i : Nat} {o : Obj} (hi : h i = some o) : h.set i o = h := by
  funext j
  unfold Heap.set
  by_cases hj : j = i
  · subst hj; simp [hi]
  · simp [hj]

/-- What a comparison tells, whatever the row that is sorted holds. -/
def Tells (I : Calls) (h : Heap) (blk : Nat) (g : FuncId) (caps : List (Nat × Nat)) (xs : List Int) (lt : Int → Int → Bool) : Prop :=
  ∀ a b, a ∈ xs → b ∈ xs → ∀ (h' : Heap) (Q' : Post), (∀ j, j ≠ blk → h' j = h j) → (∀ c : Int, (c < 0 ↔ lt a b = true) → Q' [int c] h') → I g (int a :: int b :: caps.map fun a => .one (.ptr (some a))) Q' h'

theorem spec157 (hI : Closed' prog Pm I) {blk : Nat} {g : FuncId} {caps : List (Nat × Nat)} {xs : List Int} {lt : Int → Int → Bool} (R : Int → Int → Prop) (hb : h blk = some (.cells false (ints xs))) (hlen : xs.length < 1000)
    (hc : Tells I h blk g caps xs lt) (hR : xs.Pairwise fun a b => (lt b a = true → R b a) ∧ (lt b a = false → R a b)) (hT : ∀ a b c, a ∈ xs → b ∈ xs → c ∈ xs → R a b → R b c → R a c)
    (hQ : ∀ ys, ys.Perm xs → ys.Pairwise R → Q [] (h.set blk (.cells false (ints ys)))) :
    I 157 [.one (.slice 1 ⟨some (blk, 0), xs.length⟩), int 0, int xs.length, .one (.func (some (g, caps)))] Q h := by
  refine hI.go _ _ (den157 I _ _ _ _ Q) ?_
  have e0 : IntKind.i64.wrap ((0 : Int) + 1) = 1 := by decide
  unfold vc157
  rw [e0]
  refine loopK_intro (fun (a : Int) h' m => ∃ k : Nat, 1 ≤ k ∧ (k ≤ xs.length ∨ k = 1) ∧ a = k ∧ xs.length - k = m ∧ ∃ ys, ys.Perm (xs.take k) ∧ ys.Pairwise R ∧ h' = h.set blk (.cells false (ints (ys ++ xs.drop k)))) (xs.length - 1)
    ⟨1, by omega, .inr rfl, rfl, rfl, xs.take 1, List.Perm.refl _, ?_, by rw [List.take_append_drop, set_self hb]⟩ ?_
  · cases xs with
    | nil => exact List.Pairwise.nil
    | cons x xs => simp
  rintro a h' m ⟨k, hk1, hk2, rfl, rfl, ys, hperm, hpw, rfl⟩
  refine ifT_dec (fun hlt => ?_) (fun hge => ?_)
  · have hkl : k < xs.length := by omega
    have hx : xs[k]? = some xs[k] := List.getElem?_eq_getElem hkl
    have hxm : xs[k] ∈ xs := List.getElem_mem hkl
    generalize xs[k] = x at hx hxm
    have hyl : ys.length = k := by rw [hperm.length_eq, List.length_take]; omega
    have hysub : ∀ d ∈ ys, d ∈ xs := fun d hd => List.mem_of_mem_take (hperm.mem_iff.1 hd)
    have hyx : ∀ d ∈ ys, (lt x d = true → R x d) ∧ (lt x d = false → R d x) := fun d hd => pairwise_take hR hx d (hperm.mem_iff.1 hd)
    refine loopK_intro (fun (a : Int) h'' m => ∃ pre post, a = (pre.length : Nat) ∧ pre.length = m ∧ pre ++ post = ys ∧ (∀ d ∈ post, R x d) ∧ h'' = h.set blk (.cells false (ints (pre ++ x :: (post ++ xs.drop (k + 1)))))) k
      ⟨ys, [], by rw [hyl], hyl, by simp, by simp, by rw [drop_mid hx]; rfl⟩ ?_
    rintro a h'' m ⟨pre, post, rfl, rfl, hpp, hpost, rfl⟩
    have hpl : pre.length + post.length = k := by rw [← hyl, ← hpp, List.length_append]
    have hlenL : (pre ++ x :: (post ++ xs.drop (k + 1))).length = xs.length := by simp; omega
    refine joinK_intro (fun (b : Bool) h3 => h3 = h.set blk (.cells false (ints (pre ++ x :: (post ++ xs.drop (k + 1))))) ∧ (b = true → ∃ pre' d, pre = pre' ++ [d] ∧ lt x d = true) ∧ (b = false → pre = [] ∨ ∃ pre' d, pre = pre' ++ [d] ∧ lt x d = false)) ?_ ?_
    · rintro b h3 ⟨rfl, hb1, hb2⟩
      refine ifT_intro (fun hbt => ?_) (fun hbf => ?_)
      · obtain ⟨pre', d, rfl, hlt2⟩ := hb1 hbt
        have hd : d ∈ ys := by rw [← hpp]; simp
        simp only [List.length_append, List.length_singleton] at hpl ⊢
        have ew : IntKind.i64.wrap (((pre'.length + 1 : Nat) : Int) - 1) = (pre'.length : Int) := by rw [w64] <;> omega
        simp only [ew]
        simp only [List.append_assoc, List.singleton_append]
        have g1 : (ints (pre' ++ d :: x :: (post ++ xs.drop (k + 1))))[0 + (pre'.length : Int).toNat * 1]? = some (.int .i64 d) := by
          simp only [Int.toNat_natCast, Nat.mul_one, Nat.zero_add]
          exact ints_get (get_mid _ _ _)
        have g2 : (ints (pre' ++ d :: x :: (post ++ xs.drop (k + 1))))[0 + ((pre'.length + 1 : Nat) : Int).toNat * 1]? = some (.int .i64 x) := by
          simp only [Int.toNat_natCast, Nat.mul_one, Nat.zero_add]
          refine ints_get ?_
          simp
        refine ⟨⟨by omega, by simp; omega⟩, derefK_intro rfl ⟨_, read_cell (set_eq _ _ _) g1, ⟨by omega, by simp; omega⟩, derefK_intro rfl ⟨_, read_cell (set_eq _ _ _) g2, ⟨by omega, by simp; omega⟩, derefK_intro rfl (storeK_one (set_eq _ _ _) ?_ ⟨⟨by omega, by simp; omega⟩, derefK_intro rfl (storeK_one (set_eq _ _ _) ?_ ?_)⟩)⟩⟩⟩
        · simp [ints]
        · simp [ints]
        · refine ⟨pre'.length, by omega, pre', d :: post, rfl, rfl, by rw [← hpp]; simp, fun e he => ?_, ?_⟩
          · rcases List.mem_cons.1 he with rfl | he
            · exact (hyx _ hd).1 hlt2
            · exact hpost e he
          · rw [set_set, set_set, ints_set, ints_set]
            congr 4
            simp only [Int.toNat_natCast, Nat.mul_one, Nat.zero_add]
            have s1 : (pre' ++ d :: x :: (post ++ xs.drop (k + 1))).set (pre'.length + 1) d = pre' ++ d :: d :: (post ++ xs.drop (k + 1)) := by
              simp
            rw [s1, set_mid']
            rfl
      · refine ⟨xs.length - (k + 1), by omega, k + 1, by omega, .inl hkl, ?_, rfl, pre ++ x :: post, ?_, ?_, ?_⟩
        · rw [w64] <;> omega
        · rw [take_mid hx]
          exact (List.perm_middle.trans ((hpp ▸ hperm).cons x)).trans (List.perm_append_singleton x (xs.take k)).symm
        · refine placed (hpp ▸ hpw) ?_ hpost
          rcases hb2 hbf with rfl | ⟨pre', d, rfl, hlt2⟩
          · simp
          · have hd : d ∈ ys := by rw [← hpp]; simp
            refine before_all (post := post) (hpp ▸ hpw) (fun e he hed => ?_) ((hyx d hd).2 hlt2)
            have hey : e ∈ ys := by rw [← hpp]; simp [he]
            exact hT e d x (hysub e hey) (hysub d hd) hxm hed ((hyx d hd).2 hlt2)
        · simp
    · intro j hj
      refine ifT_dec (fun hgt => ?_) (fun hle => hj _ _ ⟨rfl, (fun h => by cases h), fun _ => .inl (List.length_eq_zero_iff.1 (by omega))⟩)
      obtain ⟨pre', d, rfl⟩ : ∃ pre' d, pre = pre' ++ [d] := ⟨pre.dropLast, pre.getLast (by intro e; subst e; simp at hgt), (List.dropLast_concat_getLast _).symm⟩
      have hd : d ∈ ys := by rw [← hpp]; simp
      simp only [List.length_append, List.length_singleton] at hpl hgt hj ⊢
      have ew : IntKind.i64.wrap (((pre'.length + 1 : Nat) : Int) - 1) = (pre'.length : Int) := by rw [w64] <;> omega
      simp only [ew]
      simp only [List.append_assoc, List.singleton_append] at hj ⊢
      have g1 : (ints (pre' ++ d :: x :: (post ++ xs.drop (k + 1))))[0 + (pre'.length : Int).toNat * 1]? = some (.int .i64 d) := by
        simp only [Int.toNat_natCast, Nat.mul_one, Nat.zero_add]
        exact ints_get (get_mid _ _ _)
      have g2 : (ints (pre' ++ d :: x :: (post ++ xs.drop (k + 1))))[0 + ((pre'.length + 1 : Nat) : Int).toNat * 1]? = some (.int .i64 x) := by
        simp only [Int.toNat_natCast, Nat.mul_one, Nat.zero_add]
        refine ints_get ?_
        simp
      refine ⟨⟨by omega, by simp; omega⟩, derefK_intro rfl ⟨_, read_cell (set_eq _ _ _) g2, ⟨by omega, by simp; omega⟩, derefK_intro rfl ⟨_, read_cell (set_eq _ _ _) g1, ?_⟩⟩⟩
      refine hc x d hxm (hysub d hd) _ _ (fun j hj => set_ne _ _ hj) fun c hcc => ⟨c, rfl, hj _ _ ⟨rfl, fun h => ⟨pre', d, rfl, hcc.1 (of_decide_eq_true h)⟩, fun h => .inr ⟨pre', d, rfl, ?_⟩⟩⟩
      cases hl : lt x d with
      | false => rfl
      | true => exact absurd (hcc.2 hl) (of_decide_eq_false h)
  · have hnl : xs.length ≤ k := by omega
    have : xs.drop k = [] := List.drop_eq_nil_of_le hnl
    rw [this, List.append_nil]
    rw [List.take_of_length_le hnl] at hperm
    exact hQ ys hperm hpw

theorem spec127 (hI : Closed' prog Pm I) {blk : Nat} {g : FuncId} {caps : List (Nat × Nat)} {xs : List Int} {lt : Int → Int → Bool} (R : Int → Int → Prop) (hb : h blk = some (.cells false (ints xs))) (hlen : xs.length < 20)
    (hc : Tells I h blk g caps xs lt) (hR : xs.Pairwise fun a b => (lt b a = true → R b a) ∧ (lt b a = false → R a b)) (hT : ∀ a b c, a ∈ xs → b ∈ xs → c ∈ xs → R a b → R b c → R a c)
    (hQ : ∀ ys, ys.Perm xs → ys.Pairwise R → Q [] (h.set blk (.cells false (ints ys)))) :
    I 127 [.one (.slice 1 ⟨some (blk, 0), xs.length⟩), .one (.func (some (g, caps)))] Q h := by
  refine hI.go _ _ (den127 I _ _ Q) ?_
  refine hI.go _ _ (den148 I _ _ _ _) ?_
  refine loopK_intro (fun (a : Int × Int) h' m => h' = h ∧ a = (0, 20)) 0 ⟨rfl, rfl⟩ ?_
  rintro a h' m ⟨rfl, rfl⟩
  refine ifT_dec (fun hle => by simp at hle; omega) fun _ => ?_
  refine spec157 hI R hb (by omega) hc hR hT fun ys h1 h2 => ⟨rfl, ?_⟩
  refine loopK_intro (fun (a : Int) h'' m => h'' = h'.set blk (.cells false (ints ys)) ∧ a = 20) 0 ⟨rfl, rfl⟩ ?_
  rintro a h'' m ⟨rfl, rfl⟩
  exact ifT_dec (fun hle => by omega) fun _ => ⟨rfl, hQ ys h1 h2⟩

end
end Go.Proofs.YtihnjdhjkpmggaaVc
