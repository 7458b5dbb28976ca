/- Sorting rows of any cells by a comparison that is handed in: the library's insertion sort, as a formula for elements of any kinds, and its contract. -/
import Derived.Test.YtdjancoknephnaaGreatVcOwns
import Derived.Test.YtdjancoknephnaaGreatVcSortList
import Derived.Test.YtdjancoknephnaaGreatVcRows4
set_option linter.unusedSimpArgs false
set_option linter.unusedVariables false
namespace Go.Proofs.YtdjancoknephnaaGreatVc

/-! ### formulas -/
/-- An element of a slice is read. -/
def ldK (vk : VK) (s : Sl) (n : Int) (k : V → T) : T := fun h => ((0 ≤ n) ∧ n < (↑s.len : Int)) ∧ (derefK s.a (fun i o h => exV vk fun x => (h.read i (o + n.toNat * vk.kds.length) vk.kds.length = some x.cells) ∧ k x h) h)
/-- An element of a slice is written. -/
def stK (vk : VK) (s : Sl) (n : Int) (x : V) (k : T) : T := fun h => ((0 ≤ n) ∧ n < (↑s.len : Int)) ∧ (derefK s.a (fun i o => storeK [] i (o + n.toNat * vk.kds.length) x.cells k) h)
/-- A comparison is called. -/
def cmpK (I : Calls) (p : Option (FuncId × List (Nat × Nat))) (a b : V) (k : Int → T) : T := funK p fun g cs h => I g (a :: b :: cs) (fun rs h' => ∃ n : Int, rs = [V.one (Cell.int .i64 n)] ∧ k n h') h

def insF (vk : VK) (I : Calls) (s : Sl) (n1 n2 : Int) (p : Option (FuncId × List (Nat × Nat))) (Q : Post) : T :=
  loopK (A := Int) (IntKind.i64.wrap (n1 + 1))
    (fun x4 => fun n5 => ifT (decide (n5 < n2))
      (loopK (A := Int) n5
        (fun x6 => fun n7 => joinK (A := Bool)
          (fun b8 => ifT b8
            (ldK vk s (IntKind.i64.wrap (n7 - 1)) fun a => ldK vk s n7 fun b => stK vk s n7 a (stK vk s (IntKind.i64.wrap (n7 - 1)) b (x6 (IntKind.i64.wrap (n7 - 1)))))
            (x4 (IntKind.i64.wrap (n5 + 1))))
          (fun x25 => ifT (decide (n7 > n1))
            (ldK vk s n7 fun a => ldK vk s (IntKind.i64.wrap (n7 - 1)) fun b => cmpK I p a b fun n => x25 (decide (n < 0)))
            (x25 false))))
      (Q []))

/-! ### rules -/
section
variable {α : Type} {v : α → V} {vk : VK}
abbrev rws (v : α → V) (xs : List α) : List Cell := rows (fun a => (v a).cells) xs
theorem rws_length (hv : ∀ a, vk.fits (v a)) (xs : List α) : (rws v xs).length = xs.length * vk.kds.length := rows_length (fun a => VK.fits_len (hv a)) xs
variable {h : Heap} {s : Sl} {blk : Nat}

theorem updCells_splice {cs new : List Cell} {o : Nat} (ho : o + new.length ≤ cs.length) : updCells cs o new = splice cs o new := by
  match new with
  | [] => rfl
  | [c] =>
    show cs.set o c = _
    unfold splice
    simp only [List.length_singleton] at ho
    rw [List.set_eq_take_append_cons_drop, if_pos (by omega)]
    simp
  | a :: b :: l => rfl
theorem splice_row (hv : ∀ a, vk.fits (v a)) (A : List α) (x y : α) (B : List α) : splice (rws v (A ++ x :: B)) (A.length * vk.kds.length) (v y).cells = rws v (A ++ y :: B) := by
  have hx := VK.fits_len (hv x)
  have hy := VK.fits_len (hv y)
  have hA := rws_length hv A
  unfold splice
  rw [show rws v (A ++ x :: B) = rws v A ++ ((v x).cells ++ rws v B) from (rows_append _ _ _).trans (by rw [rows_cons]), show rws v (A ++ y :: B) = rws v A ++ ((v y).cells ++ rws v B) from (rows_append _ _ _).trans (by rw [rows_cons])]
  rw [← hA, List.take_left, List.append_assoc, hy, ← hx, ← List.drop_drop, List.drop_left, List.drop_left]
theorem ldK_intro (hv : ∀ a, vk.fits (v a)) {D A B : List α} {x : α} {n : Int} {k : V → T} (ha : s.a = some (blk, 0)) (hs : s.len = D.length) (hb : h blk = some (.cells false (rws v D))) (hD : D = A ++ x :: B) (hn : n = (A.length : Int)) (hk : k (v x) h) : ldK vk s n k h := by
  subst hD hn
  have hl : A.length < s.len := by rw [hs]; simp
  refine ⟨⟨by omega, by omega⟩, derefK_intro ha (exV_in (hv x) ⟨?_, hk⟩)⟩
  have h1 := rws_length hv (A ++ x :: B)
  have h2 : (A.length + 1) * vk.kds.length ≤ (A ++ x :: B).length * vk.kds.length := Nat.mul_le_mul_right _ (by simp)
  rw [Nat.add_mul, Nat.one_mul] at h2
  rw [Int.toNat_natCast, Nat.zero_add, read_block hb (by rw [h1]; exact h2), rows_get (fun a => VK.fits_len (hv a)) (get_mid A B x)]
theorem stK_intro (hv : ∀ a, vk.fits (v a)) {D A B : List α} {x y : α} {n : Int} {k : T} (ha : s.a = some (blk, 0)) (hs : s.len = D.length) (hb : h blk = some (.cells false (rws v D))) (hD : D = A ++ x :: B) (hn : n = (A.length : Int))
    (hk : k (h.set blk (.cells false (rws v (A ++ y :: B))))) : stK vk s n (v y) k h := by
  subst hD hn
  have hl : A.length < s.len := by rw [hs]; simp
  have h1 := rws_length hv (A ++ x :: B)
  have h2 : (A.length + 1) * vk.kds.length ≤ (A ++ x :: B).length * vk.kds.length := Nat.mul_le_mul_right _ (by simp)
  rw [Nat.add_mul, Nat.one_mul] at h2
  have h3 := VK.fits_len (hv y)
  refine ⟨⟨by omega, by omega⟩, derefK_intro ha ⟨_, hb, by rw [Int.toNat_natCast, Nat.zero_add, h1, h3]; exact h2, ?_⟩⟩
  show k _
  rw [Int.toNat_natCast, Nat.zero_add, updCells_splice (by rw [h1, h3]; exact h2), splice_row hv]
  exact hk

/-- The row that is sorted holds ys; all else is as it was, or new. -/
def PSg (h : Heap) (blk : Nat) (v : α → V) (ys : List α) (h' : Heap) : Prop := h' blk = some (.cells false (rws v ys)) ∧ ∀ j o, j ≠ blk → h j = some o → h' j = some o
theorem PSg.ext {h h1 h2 : Heap} {blk : Nat} {ys : List α} (p : PSg h blk v ys h1) (he : Ext h1 h2) : PSg h blk v ys h2 := ⟨he _ _ p.1, fun j o hj hx => he _ _ (p.2 j o hj hx)⟩
theorem PSg.set {h h1 : Heap} {blk : Nat} {ys zs : List α} (p : PSg h blk v ys h1) : PSg h blk v zs (h1.set blk (.cells false (rws v zs))) := ⟨set_eq _ _ _, fun j o hj hx => by rw [set_ne _ _ hj]; exact p.2 j o hj hx⟩
theorem PSg.trans {h h1 h2 : Heap} {blk : Nat} {ys zs : List α} (p : PSg h blk v ys h1) (q : PSg h1 blk v zs h2) : PSg h blk v zs h2 := ⟨q.1, fun j o hj hx => q.2 j o hj (p.2 j o hj hx)⟩

/-- What a comparison tells, whatever the row that is sorted holds. -/
def TellsG (I : Calls) (h : Heap) (blk : Nat) (g : FuncId) (caps : List (Nat × Nat)) (v : α → V) (mem : α → Prop) (lt : α → α → Bool) : Prop :=
  ∀ a b, mem a → mem b → ∀ (h' : Heap) (Q' : Post), (∃ ys, PSg h blk v ys h') → (∀ (c : Int) h'', Ext h' h'' → (c < 0 ↔ lt a b = true) → Q' [.one (.int .i64 c)] h'') → I g (v a :: v b :: caps.map fun a => .one (.ptr (some a))) Q' h'
theorem TellsG.later {I : Calls} {h h1 : Heap} {blk : Nat} {g : FuncId} {caps : List (Nat × Nat)} {mem : α → Prop} {lt : α → α → Bool} {ys : List α} (t : TellsG I h blk g caps v mem lt) (p : PSg h blk v ys h1) : TellsG I h1 blk g caps v mem lt :=
  fun a b ha hb h' Q' ⟨zs, hz⟩ hq => t a b ha hb h' Q' ⟨zs, p.trans hz⟩ hq
theorem cmpK_intro {I : Calls} {h0 : Heap} {g : FuncId} {caps : List (Nat × Nat)} {mem : α → Prop} {lt : α → α → Bool} {ys : List α} {a b : α} {k : Int → T} (t : TellsG I h0 blk g caps v mem lt) (p : PSg h0 blk v ys h) (ha : mem a) (hb : mem b)
    (hk : ∀ c h', PSg h0 blk v ys h' → (c < 0 ↔ lt a b = true) → k c h') : cmpK I (some (g, caps)) (v a) (v b) k h :=
  t a b ha hb h _ ⟨ys, p⟩ fun c h'' he hc => ⟨c, rfl, hk c h'' (p.ext he) hc⟩

/-- How two that came one before the other are to lie. -/
abbrev Xrel (lt : α → α → Bool) (R : α → α → Prop) (a b : α) : Prop := (lt b a = true → R b a) ∧ (lt b a = false → R a b)

theorem ins_spec {I : Calls} {Q : Post} (hv : ∀ a, vk.fits (v a)) {g : FuncId} {caps : List (Nat × Nat)} {P xs S : List α} {lt : α → α → Bool} {mem : α → Prop} {n1 n2 : Int} (R : α → α → Prop) (ha : s.a = some (blk, 0)) (hs : s.len = (P ++ (xs ++ S)).length)
    (hb : h blk = some (.cells false (rws v (P ++ (xs ++ S))))) (h1 : n1 = (P.length : Int)) (h2 : n2 = ((P.length + xs.length : Nat) : Int)) (hlen : s.len < 1000000000) (hm : ∀ a ∈ xs, mem a)
    (hc : TellsG I h blk g caps v mem lt) (hR : xs.Pairwise (Xrel lt R)) (hT : ∀ a b c, a ∈ xs → b ∈ xs → c ∈ xs → R a b → R b c → R a c)
    (hQ : ∀ ys h', ys.Perm xs → ys.Pairwise R → PSg h blk v (P ++ (ys ++ S)) h' → Q [] h') :
    insF vk I s n1 n2 (some (g, caps)) Q h := by
  subst h1 h2
  have hs' : s.len = P.length + xs.length + S.length := by rw [hs]; simp; omega
  have e0 : IntKind.i64.wrap ((P.length : Int) + 1) = ((P.length + 1 : Nat) : Int) := by rw [w64] <;> omega
  unfold insF
  rw [e0]
  refine loopK_intro (fun (a : Int) h' m => ∃ k : Nat, 1 ≤ k ∧ (k ≤ xs.length ∨ k = 1) ∧ a = ((P.length + k : Nat) : Int) ∧ xs.length - k = m ∧ ∃ ys, ys.Perm (xs.take k) ∧ ys.Pairwise R ∧ PSg h blk v (P ++ (ys ++ (xs.drop k ++ S))) h') (xs.length - 1)
    ⟨1, by omega, .inr rfl, rfl, rfl, xs.take 1, List.Perm.refl _, ?_, by rw [← List.append_assoc (xs.take 1), List.take_append_drop]; exact ⟨hb, fun _ _ _ h => h⟩⟩ ?_
  · cases xs with
    | nil => exact List.Pairwise.nil
    | cons x xs => simp
  rintro a h' m ⟨k, hk1, hk2, rfl, rfl, ys, hperm, hpw, hst⟩
  refine ifT_dec (fun hlt => ?_) (fun hge => ?_)
  · have hkl : k < xs.length := by omega
    have hx : xs[k]? = some xs[k] := List.getElem?_eq_getElem hkl
    have hxm : xs[k] ∈ xs := List.getElem_mem hkl
    generalize xs[k] = x at hx hxm
    have hyl : ys.length = k := by rw [hperm.length_eq, List.length_take]; omega
    have hysub : ∀ d ∈ ys, d ∈ xs := fun d hd => List.mem_of_mem_take (hperm.mem_iff.1 hd)
    have hyx : ∀ d ∈ ys, (lt x d = true → R x d) ∧ (lt x d = false → R d x) := fun d hd => pairwise_take hR hx d (hperm.mem_iff.1 hd)
    refine loopK_intro (fun (a : Int) h'' m => ∃ pre post, a = ((P.length + pre.length : Nat) : Int) ∧ pre.length = m ∧ pre ++ post = ys ∧ (∀ d ∈ post, R x d) ∧ PSg h blk v (P ++ (pre ++ x :: (post ++ (xs.drop (k + 1) ++ S)))) h'') k
      ⟨ys, [], by rw [hyl], hyl, by simp, by simp, by rw [drop_mid hx] at hst; exact hst⟩ ?_
    rintro a h'' m ⟨pre, post, rfl, rfl, hpp, hpost, hs2⟩
    have hpl : pre.length + post.length = k := by rw [← hyl, ← hpp, List.length_append]
    have hlenL : s.len = (P ++ (pre ++ x :: (post ++ (xs.drop (k + 1) ++ S)))).length := by rw [hs']; simp; omega
    refine joinK_intro (fun (b : Bool) h3 => PSg h blk v (P ++ (pre ++ x :: (post ++ (xs.drop (k + 1) ++ S)))) h3 ∧ (b = true → ∃ pre' d, pre = pre' ++ [d] ∧ lt x d = true) ∧ (b = false → pre = [] ∨ ∃ pre' d, pre = pre' ++ [d] ∧ lt x d = false)) ?_ ?_
    · rintro b h3 ⟨hs3, hb1, hb2⟩
      refine ifT_intro (fun hbt => ?_) (fun hbf => ?_)
      · obtain ⟨pre', d, rfl, hlt2⟩ := hb1 hbt
        have hd : d ∈ ys := by rw [← hpp]; simp
        simp only [List.length_append, List.length_singleton] at hpl ⊢
        have ew : IntKind.i64.wrap (((P.length + (pre'.length + 1) : Nat) : Int) - 1) = ((P.length + pre'.length : Nat) : Int) := by rw [w64] <;> omega
        rw [ew]
        refine ldK_intro hv ha hlenL hs3.1 (A := P ++ pre') (x := d) (B := x :: (post ++ (xs.drop (k + 1) ++ S))) (by simp) (by simp) ?_
        refine ldK_intro hv ha hlenL hs3.1 (A := P ++ (pre' ++ [d])) (x := x) (B := post ++ (xs.drop (k + 1) ++ S)) (by simp) (by simp) ?_
        refine stK_intro hv ha hlenL hs3.1 (A := P ++ (pre' ++ [d])) (x := x) (B := post ++ (xs.drop (k + 1) ++ S)) (by simp) (by simp) ?_
        refine stK_intro hv ha (D := P ++ (pre' ++ [d]) ++ d :: (post ++ (xs.drop (k + 1) ++ S))) (by rw [hlenL]; simp) (set_eq _ _ _) (A := P ++ pre') (x := d) (B := d :: (post ++ (xs.drop (k + 1) ++ S))) (by simp) (by simp) ?_
        refine ⟨pre'.length, by omega, pre', d :: post, rfl, rfl, by rw [← hpp]; simp, fun e he => ?_, ?_⟩
        · rcases List.mem_cons.1 he with rfl | he
          · exact (hyx _ hd).1 hlt2
          · exact hpost e he
        · rw [set_set]
          have := hs3.set (zs := P ++ pre' ++ x :: d :: (post ++ (xs.drop (k + 1) ++ S)))
          simpa using this
      · refine ⟨xs.length - (k + 1), by omega, k + 1, by omega, .inl hkl, ?_, rfl, pre ++ x :: post, ?_, ?_, ?_⟩
        · rw [w64] <;> omega
        · rw [take_mid hx]
          exact (List.perm_middle.trans ((hpp ▸ hperm).cons x)).trans (List.perm_append_singleton x (xs.take k)).symm
        · refine placed (hpp ▸ hpw) ?_ hpost
          rcases hb2 hbf with rfl | ⟨pre', d, rfl, hlt2⟩
          · simp
          · have hd : d ∈ ys := by rw [← hpp]; simp
            refine before_all (post := post) (hpp ▸ hpw) (fun e he hed => ?_) ((hyx d hd).2 hlt2)
            have hey : e ∈ ys := by rw [← hpp]; simp [he]
            exact hT e d x (hysub e hey) (hysub d hd) hxm hed ((hyx d hd).2 hlt2)
        · simpa using hs3
    · intro j hj
      refine ifT_dec (fun hgt => ?_) (fun hle => hj _ _ ⟨hs2, (fun h => by cases h), fun _ => .inl (List.length_eq_zero_iff.1 (by omega))⟩)
      obtain ⟨pre', d, rfl⟩ : ∃ pre' d, pre = pre' ++ [d] := ⟨pre.dropLast, pre.getLast (by intro e; subst e; simp at hgt), (List.dropLast_concat_getLast _).symm⟩
      have hd : d ∈ ys := by rw [← hpp]; simp
      simp only [List.length_append, List.length_singleton] at hpl hgt hj ⊢
      have ew : IntKind.i64.wrap (((P.length + (pre'.length + 1) : Nat) : Int) - 1) = ((P.length + pre'.length : Nat) : Int) := by rw [w64] <;> omega
      rw [ew]
      refine ldK_intro hv ha hlenL hs2.1 (A := P ++ (pre' ++ [d])) (x := x) (B := post ++ (xs.drop (k + 1) ++ S)) (by simp) (by simp) ?_
      refine ldK_intro hv ha hlenL hs2.1 (A := P ++ pre') (x := d) (B := x :: (post ++ (xs.drop (k + 1) ++ S))) (by simp) (by simp) ?_
      refine cmpK_intro hc hs2 (hm x hxm) (hm d (hysub d hd)) fun c h4 hs4 hcc => hj _ _ ⟨hs4, fun h => ⟨pre', d, rfl, hcc.1 (of_decide_eq_true h)⟩, fun h => .inr ⟨pre', d, rfl, ?_⟩⟩
      cases hl : lt x d with
      | false => rfl
      | true => exact absurd (hcc.2 hl) (of_decide_eq_false h)
  · have hnl : xs.length ≤ k := by omega
    have : xs.drop k = [] := List.drop_eq_nil_of_le hnl
    rw [this, List.nil_append] at hst
    rw [List.take_of_length_le hnl] at hperm
    exact hQ ys h' hperm hpw hst

theorem Owns.psg (hv : ∀ a, vk.fits (v a)) {h0 h' : Heap} {L : List Ow} {n : Nat} {xs ys : List α} (o : Owns h0 h ((vk.kds.length, ⟨some (blk, 0), n⟩, rws v xs) :: L)) (p : PSg h blk v ys h') (hl : ys.length = xs.length) :
    Owns h0 h' ((vk.kds.length, ⟨some (blk, 0), n⟩, rws v ys) :: L) := by
  obtain ⟨a1, a2⟩ := List.pairwise_cons.1 o.apart
  obtain ⟨b1, b2 | ⟨k, b2, b3, b4⟩⟩ := o.all _ List.mem_cons_self
  · simp at b2
  cases b2
  refine ⟨fun j x hx => p.2 j x (fun e => by subst e; rw [b3] at hx; cases hx) (o.ext _ _ hx), fun q hq => ?_, List.pairwise_cons.2 ⟨a1, a2⟩⟩
  rcases List.mem_cons.1 hq with rfl | hq
  · refine ⟨?_, .inr ⟨_, rfl, b3, p.1⟩⟩
    simp only at b1 ⊢
    rw [b1, rws_length hv, rws_length hv, hl]
  · obtain ⟨c1, c2 | ⟨k', c2, c3, c4⟩⟩ := o.all q (by simp [hq])
    · exact ⟨c1, .inl c2⟩
    · exact ⟨c1, .inr ⟨k', c2, c3, p.2 k' _ (fun e => a1 q hq _ rfl (e ▸ c2)) c4⟩⟩
end
end Go.Proofs.YtdjancoknephnaaGreatVc
