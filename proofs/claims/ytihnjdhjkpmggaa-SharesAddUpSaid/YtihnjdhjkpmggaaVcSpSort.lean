/- The sort of a short row of ints, where a comparison may make new memory. -/
import Derived.Test.YtihnjdhjkpmggaaVcSpVc
set_option linter.unusedSimpArgs false
set_option linter.unusedVariables false
namespace Go.Proofs.YtihnjdhjkpmggaaVc
open Go.Proofs.Try (prog)

section
variable {I : Calls} {Q : Post} {h : Heap}

/-- The row that is sorted holds ys; all else is as it was, or new. -/
def PSt (h : Heap) (blk : Nat) (ys : List Int) (h' : Heap) : Prop := h' blk = some (.cells false (ints ys)) ∧ ∀ j o, j ≠ blk → h j = some o → h' j = some o
theorem PSt.ext {h h1 h2 : Heap} {blk : Nat} {ys : List Int} (p : PSt h blk ys h1) (he : Ext h1 h2) : PSt h blk ys h2 := ⟨he _ _ p.1, fun j o hj hx => he _ _ (p.2 j o hj hx)⟩
theorem PSt.set {h h1 : Heap} {blk : Nat} {ys zs : List Int} (p : PSt h blk ys h1) : PSt h blk zs (h1.set blk (.cells false (ints zs))) := ⟨set_eq _ _ _, fun j o hj hx => by rw [set_ne _ _ hj]; exact p.2 j o hj hx⟩

/-- What a comparison tells, whatever the row that is sorted holds. -/
def TellsE (I : Calls) (h : Heap) (blk : Nat) (g : FuncId) (caps : List (Nat × Nat)) (xs : List Int) (lt : Int → Int → Bool) : Prop :=
  ∀ a b, a ∈ xs → b ∈ xs → ∀ (h' : Heap) (Q' : Post), (∃ ys, PSt h blk ys h') → (∀ (c : Int) h'', Ext h' h'' → (c < 0 ↔ lt a b = true) → Q' [int c] h'') → I g (int a :: int b :: caps.map fun a => .one (.ptr (some a))) Q' h'

theorem spec157e (hI : Closed' prog Pm I) {blk : Nat} {g : FuncId} {caps : List (Nat × Nat)} {xs : List Int} {lt : Int → Int → Bool} (R : Int → Int → Prop) (hb : h blk = some (.cells false (ints xs))) (hlen : xs.length < 1000)
    (hc : TellsE I h blk g caps xs lt) (hR : xs.Pairwise fun a b => (lt b a = true → R b a) ∧ (lt b a = false → R a b)) (hT : ∀ a b c, a ∈ xs → b ∈ xs → c ∈ xs → R a b → R b c → R a c)
    (hQ : ∀ ys h', ys.Perm xs → ys.Pairwise R → PSt h blk ys h' → Q [] h') :
    I 157 [.one (.slice 1 ⟨some (blk, 0), xs.length⟩), int 0, int xs.length, .one (.func (some (g, caps)))] Q h := by
  refine hI.go _ _ (den157 I _ _ _ _ Q) ?_
  have e0 : IntKind.i64.wrap ((0 : Int) + 1) = 1 := by decide
  unfold vc157
  rw [e0]
  refine loopK_intro (fun (a : Int) h' m => ∃ k : Nat, 1 ≤ k ∧ (k ≤ xs.length ∨ k = 1) ∧ a = k ∧ xs.length - k = m ∧ ∃ ys, ys.Perm (xs.take k) ∧ ys.Pairwise R ∧ PSt h blk (ys ++ xs.drop k) h') (xs.length - 1)
    ⟨1, by omega, .inr rfl, rfl, rfl, xs.take 1, List.Perm.refl _, ?_, by rw [List.take_append_drop]; exact ⟨hb, fun _ _ _ h => h⟩⟩ ?_
  · cases xs with
    | nil => exact List.Pairwise.nil
    | cons x xs => simp
  rintro a h' m ⟨k, hk1, hk2, rfl, rfl, ys, hperm, hpw, hst⟩
  refine ifT_dec (fun hlt => ?_) (fun hge => ?_)
  · have hkl : k < xs.length := by omega
    have hx : xs[k]? = some xs[k] := List.getElem?_eq_getElem hkl
    have hxm : xs[k] ∈ xs := List.getElem_mem hkl
    generalize xs[k] = x at hx hxm
    have hyl : ys.length = k := by rw [hperm.length_eq, List.length_take]; omega
    have hysub : ∀ d ∈ ys, d ∈ xs := fun d hd => List.mem_of_mem_take (hperm.mem_iff.1 hd)
    have hyx : ∀ d ∈ ys, (lt x d = true → R x d) ∧ (lt x d = false → R d x) := fun d hd => pairwise_take hR hx d (hperm.mem_iff.1 hd)
    refine loopK_intro (fun (a : Int) h'' m => ∃ pre post, a = (pre.length : Nat) ∧ pre.length = m ∧ pre ++ post = ys ∧ (∀ d ∈ post, R x d) ∧ PSt h blk (pre ++ x :: (post ++ xs.drop (k + 1))) h'') k
      ⟨ys, [], by rw [hyl], hyl, by simp, by simp, by rw [drop_mid hx] at hst; exact hst⟩ ?_
    rintro a h'' m ⟨pre, post, rfl, rfl, hpp, hpost, hs2⟩
    have hpl : pre.length + post.length = k := by rw [← hyl, ← hpp, List.length_append]
    have hlenL : (pre ++ x :: (post ++ xs.drop (k + 1))).length = xs.length := by simp; omega
    refine joinK_intro (fun (b : Bool) h3 => PSt h blk (pre ++ x :: (post ++ xs.drop (k + 1))) h3 ∧ (b = true → ∃ pre' d, pre = pre' ++ [d] ∧ lt x d = true) ∧ (b = false → pre = [] ∨ ∃ pre' d, pre = pre' ++ [d] ∧ lt x d = false)) ?_ ?_
    · rintro b h3 ⟨hs3, hb1, hb2⟩
      refine ifT_intro (fun hbt => ?_) (fun hbf => ?_)
      · obtain ⟨pre', d, rfl, hlt2⟩ := hb1 hbt
        have hd : d ∈ ys := by rw [← hpp]; simp
        simp only [List.length_append, List.length_singleton] at hpl ⊢
        have ew : IntKind.i64.wrap (((pre'.length + 1 : Nat) : Int) - 1) = (pre'.length : Int) := by rw [w64] <;> omega
        simp only [ew]
        simp only [List.append_assoc, List.singleton_append] at hs3
        have g1 : (ints (pre' ++ d :: x :: (post ++ xs.drop (k + 1))))[0 + (pre'.length : Int).toNat * 1]? = some (.int .i64 d) := by
          simp only [Int.toNat_natCast, Nat.mul_one, Nat.zero_add]
          exact ints_get (get_mid _ _ _)
        have g2 : (ints (pre' ++ d :: x :: (post ++ xs.drop (k + 1))))[0 + ((pre'.length + 1 : Nat) : Int).toNat * 1]? = some (.int .i64 x) := by
          simp only [Int.toNat_natCast, Nat.mul_one, Nat.zero_add]
          refine ints_get ?_
          simp
        refine ⟨⟨by omega, by simp; omega⟩, derefK_intro rfl ⟨_, read_cell hs3.1 g1, ⟨by omega, by simp; omega⟩, derefK_intro rfl ⟨_, read_cell hs3.1 g2, ⟨by omega, by simp; omega⟩, derefK_intro rfl (storeK_one hs3.1 ?_ ⟨⟨by omega, by simp; omega⟩, derefK_intro rfl (storeK_one (set_eq _ _ _) ?_ ?_)⟩)⟩⟩⟩
        · simp [ints]
        · simp [ints]
        · refine ⟨pre'.length, by omega, pre', d :: post, rfl, rfl, by rw [← hpp]; simp, fun e he => ?_, ?_⟩
          · rcases List.mem_cons.1 he with rfl | he
            · exact (hyx _ hd).1 hlt2
            · exact hpost e he
          · rw [set_set, ints_set, ints_set]
            simp only [Int.toNat_natCast, Nat.mul_one, Nat.zero_add]
            have s1 : (pre' ++ d :: x :: (post ++ xs.drop (k + 1))).set (pre'.length + 1) d = pre' ++ d :: d :: (post ++ xs.drop (k + 1)) := by
              simp
            rw [s1, set_mid']
            exact hs3.set
      · refine ⟨xs.length - (k + 1), by omega, k + 1, by omega, .inl hkl, ?_, rfl, pre ++ x :: post, ?_, ?_, ?_⟩
        · rw [w64] <;> omega
        · rw [take_mid hx]
          exact (List.perm_middle.trans ((hpp ▸ hperm).cons x)).trans (List.perm_append_singleton x (xs.take k)).symm
        · refine placed (hpp ▸ hpw) ?_ hpost
          rcases hb2 hbf with rfl | ⟨pre', d, rfl, hlt2⟩
          · simp
          · have hd : d ∈ ys := by rw [← hpp]; simp
            refine before_all (post := post) (hpp ▸ hpw) (fun e he hed => ?_) ((hyx d hd).2 hlt2)
            have hey : e ∈ ys := by rw [← hpp]; simp [he]
            exact hT e d x (hysub e hey) (hysub d hd) hxm hed ((hyx d hd).2 hlt2)
        · simpa using hs3
    · intro j hj
      refine ifT_dec (fun hgt => ?_) (fun hle => hj _ _ ⟨hs2, (fun h => by cases h), fun _ => .inl (List.length_eq_zero_iff.1 (by omega))⟩)
      obtain ⟨pre', d, rfl⟩ : ∃ pre' d, pre = pre' ++ [d] := ⟨pre.dropLast, pre.getLast (by intro e; subst e; simp at hgt), (List.dropLast_concat_getLast _).symm⟩
      have hd : d ∈ ys := by rw [← hpp]; simp
      simp only [List.length_append, List.length_singleton] at hpl hgt hj ⊢
      have ew : IntKind.i64.wrap (((pre'.length + 1 : Nat) : Int) - 1) = (pre'.length : Int) := by rw [w64] <;> omega
      simp only [ew]
      simp only [List.append_assoc, List.singleton_append] at hj hs2
      have g1 : (ints (pre' ++ d :: x :: (post ++ xs.drop (k + 1))))[0 + (pre'.length : Int).toNat * 1]? = some (.int .i64 d) := by
        simp only [Int.toNat_natCast, Nat.mul_one, Nat.zero_add]
        exact ints_get (get_mid _ _ _)
      have g2 : (ints (pre' ++ d :: x :: (post ++ xs.drop (k + 1))))[0 + ((pre'.length + 1 : Nat) : Int).toNat * 1]? = some (.int .i64 x) := by
        simp only [Int.toNat_natCast, Nat.mul_one, Nat.zero_add]
        refine ints_get ?_
        simp
      refine ⟨⟨by omega, by simp; omega⟩, derefK_intro rfl ⟨_, read_cell hs2.1 g2, ⟨by omega, by simp; omega⟩, derefK_intro rfl ⟨_, read_cell hs2.1 g1, ?_⟩⟩⟩
      refine hc x d hxm (hysub d hd) _ _ ⟨_, hs2⟩ fun c h4 he hcc => ⟨c, rfl, hj _ _ ⟨hs2.ext he, fun h => ⟨pre', d, rfl, hcc.1 (of_decide_eq_true h)⟩, fun h => .inr ⟨pre', d, rfl, ?_⟩⟩⟩
      cases hl : lt x d with
      | false => rfl
      | true => exact absurd (hcc.2 hl) (of_decide_eq_false h)
  · have hnl : xs.length ≤ k := by omega
    have : xs.drop k = [] := List.drop_eq_nil_of_le hnl
    rw [this, List.append_nil] at hst
    rw [List.take_of_length_le hnl] at hperm
    exact hQ ys h' hperm hpw hst

theorem spec132 (hI : Closed' prog Pm I) {blk : Nat} {g : FuncId} {caps : List (Nat × Nat)} {xs : List Int} {lt : Int → Int → Bool} (R : Int → Int → Prop) (hb : h blk = some (.cells false (ints xs))) (h0 : 0 < xs.length) (hlen : xs.length ≤ 12)
    (hc : TellsE I h blk g caps xs lt) (hR : xs.Pairwise fun a b => (lt b a = true → R b a) ∧ (lt b a = false → R a b)) (hT : ∀ a b c, a ∈ xs → b ∈ xs → c ∈ xs → R a b → R b c → R a c)
    (hQ : ∀ ys h', ys.Perm xs → ys.Pairwise R → PSt h blk ys h' → Q [] h') :
    I 132 [.one (.slice 1 ⟨some (blk, 0), xs.length⟩), .one (.func (some (g, caps)))] Q h := by
  refine hI.go _ _ (den132 I _ _ Q) ?_
  show I 151 [u64 (IntKind.u64.wrap (xs.length : Nat))] _ h
  rw [wN _ (by omega)]
  refine hI.go _ _ (den151 I _ _) ?_
  refine spec155g hI h0 (by omega) fun len _ _ _ => ⟨_, rfl, _, rfl, ?_⟩
  refine hI.go _ _ (den152 I _ _ _ _ _ _) ?_
  refine loopK_intro (fun (a : Int × Int × Int × Bool × Bool) h' m => h' = h ∧ a = (0, (xs.length : Int), (len : Int), true, true)) 0 ⟨rfl, rfl⟩ ?_
  rintro a h' m ⟨rfl, rfl⟩
  dsimp only [uncur]
  have ew : IntKind.i64.wrap ((xs.length : Int) - 0) = xs.length := by rw [w64] <;> omega
  rw [ew]
  exact ifT_dec (fun _ => spec157e hI R hb (by omega) hc hR hT fun ys h2 h3 h4 h5 => ⟨rfl, rfl, hQ ys h2 h3 h4 h5⟩) fun hle => by omega

end
end Go.Proofs.YtihnjdhjkpmggaaVc
