/- The library's stable sort of rows of any cells: formulas for elements of any kinds, and their contracts (exchange of ranges, rotation, merge in place, the sort). -/
import Derived.Test.YtdjancoknephnaaGreatVcSortGen
set_option linter.unusedSimpArgs false
set_option linter.unusedVariables false
namespace Go.Proofs.YtdjancoknephnaaGreatVc

/-! ### formulas -/
abbrev w64i (n : Int) : Int := IntKind.i64.wrap n
def halfI (x y : Int) : Int := IntKind.i64.wrap (shr IntKind.u64 (IntKind.u64.wrap (IntKind.i64.wrap (x + y))) 1)
abbrev ii (n : Int) : V := .one (.int .i64 n)
abbrev fp (p : Option (FuncId × List (Nat × Nat))) : V := .one (.func p)

def swapF (vk : VK) (s : Sl) (a b n : Int) (Q : Post) : T :=
  loopK (A := Int) 0 (fun x5 => fun n6 => ifT (decide (n6 < n))
    (ldK vk s (w64i (b + n6)) fun y => ldK vk s (w64i (a + n6)) fun x => stK vk s (w64i (a + n6)) y (stK vk s (w64i (b + n6)) x (x5 (w64i (n6 + 1)))))
    (Q []))
def rotF (vk : VK) (I : Calls) (sw : FuncId) (s : Sl) (a m b : Int) (p : Option (FuncId × List (Nat × Nat))) (Q : Post) : T :=
  loopK (A := Int × Int) ((w64i (m - a), w64i (b - m)))
    (fun x5 => uncur fun n6 n7 => ifT (!decide (n6 = n7))
      (ifT (decide (n6 > n7))
        (fun h => I sw [.one (.slice vk.kds.length s), ii (w64i (m - n6)), ii m, ii n7, fp p] (fun cs h => (cs = []) ∧ x5 ((w64i (n6 - n7), n7)) h) h)
        (fun h => I sw [.one (.slice vk.kds.length s), ii (w64i (m - n6)), ii (w64i (w64i (m + n7) - n6)), ii n6, fp p] (fun cs h => (cs = []) ∧ x5 ((n6, w64i (n7 - n6))) h) h))
      (fun h => I sw [.one (.slice vk.kds.length s), ii (w64i (m - n6)), ii m, ii n6, fp p] (fun cs h => (cs = []) ∧ Q [] h) h))
def symTail (vk : VK) (I : Calls) (rot self : FuncId) (s : Sl) (n1 n2 n3 mid n : Int) (p : Option (FuncId × List (Nat × Nat))) (Q : Post) : T :=
  joinK (A := Int × Int) (uncur fun n85 n86 => loopK (A := Int × Int) ((n85, n86)) (fun x87 => uncur fun n88 n89 => ifT (decide (n88 < n89))
      (ldK vk s (w64i (w64i (n - 1) - halfI n88 n89)) fun a => ldK vk s (halfI n88 n89) fun b => cmpK I p a b fun c => ifT (!decide (c < 0)) (x87 ((w64i (halfI n88 n89 + 1), n89))) (x87 ((n88, halfI n88 n89))))
      (joinK (A := Bool) (fun b107 => joinK (A := PUnit)
          (fun x108 => joinK (A := Bool) (fun b109 => joinK (A := PUnit)
              (fun x110 => ifT (decide (mid < w64i (n - n88))) (ifT (decide (w64i (n - n88) < n3)) (fun h => I self [.one (.slice vk.kds.length s), ii mid, ii (w64i (n - n88)), ii n3, fp p] (fun cs h => (cs = []) ∧ Q [] h) h) (Q [])) (Q []))
              (fun x114 => ifT b109 (fun h => I self [.one (.slice vk.kds.length s), ii n1, ii n88, ii mid, fp p] (fun cs h => (cs = []) ∧ x114 () h) h) (x114 ())))
            (fun x118 => ifT (decide (n1 < n88)) (x118 (decide (n88 < mid))) (x118 false)))
          (fun x119 => ifT b107 (fun h => I rot [.one (.slice vk.kds.length s), ii n88, ii n2, ii (w64i (n - n88)), fp p] (fun cs h => (cs = []) ∧ x119 () h) h) (x119 ())))
        (fun x123 => ifT (decide (n88 < n2)) (x123 (decide (n2 < w64i (n - n88)))) (x123 false)))))
    (fun x124 => ifT (decide (n2 > mid)) (x124 ((w64i (n - n3), mid))) (x124 ((n1, n2))))
def symF (vk : VK) (I : Calls) (rot self : FuncId) (s : Sl) (n1 n2 n3 : Int) (p : Option (FuncId × List (Nat × Nat))) (Q : Post) : T :=
  ifT (decide (w64i (n2 - n1) = 1))
    (loopK (A := Int × Int) ((n2, n3)) (fun x5 => uncur fun n6 n7 => ifT (decide (n6 < n7))
      (ldK vk s (halfI n6 n7) fun a => ldK vk s n1 fun b => cmpK I p a b fun c => ifT (decide (c < 0)) (x5 ((w64i (halfI n6 n7 + 1), n7))) (x5 ((n6, halfI n6 n7))))
      (loopK (A := Int) n1 (fun x25 => fun n26 => ifT (decide (n26 < w64i (n6 - 1)))
        (ldK vk s (w64i (n26 + 1)) fun y => ldK vk s n26 fun x => stK vk s n26 y (stK vk s (w64i (n26 + 1)) x (x25 (w64i (n26 + 1)))))
        (Q [])))))
    (ifT (decide (w64i (n3 - n2) = 1))
      (loopK (A := Int × Int) ((n1, n2)) (fun x45 => uncur fun n46 n47 => ifT (decide (n46 < n47))
        (ldK vk s n2 fun a => ldK vk s (halfI n46 n47) fun b => cmpK I p a b fun c => ifT (!decide (c < 0)) (x45 ((w64i (halfI n46 n47 + 1), n47))) (x45 ((n46, halfI n46 n47))))
        (loopK (A := Int) n2 (fun x65 => fun n66 => ifT (decide (n66 > n46))
          (ldK vk s (w64i (n66 - 1)) fun y => ldK vk s n66 fun x => stK vk s n66 y (stK vk s (w64i (n66 - 1)) x (x65 (w64i (n66 - 1)))))
          (Q [])))))
      (symTail vk I rot self s n1 n2 n3 (halfI n1 n3) (w64i (halfI n1 n3 + n2)) p Q))
def stabF (vk : VK) (I : Calls) (ins sym : FuncId) (s : Sl) (n1 : Int) (p : Option (FuncId × List (Nat × Nat))) (Q : Post) : T :=
  loopK (A := Int × Int) ((0, 20)) (fun x3 => uncur fun n4 n5 => ifT (decide (n5 ≤ n1))
    (fun h => I ins [.one (.slice vk.kds.length s), ii n4, ii n5, fp p] (fun cs h => (cs = []) ∧ x3 ((n5, w64i (n5 + 20))) h) h)
    (fun h => I ins [.one (.slice vk.kds.length s), ii n4, ii n1, fp p] (fun cs h => (cs = []) ∧
      (loopK (A := Int) 20 (fun x12 => fun n13 => ifT (decide (n13 < n1))
        (loopK (A := Int × Int) ((0, w64i (2 * n13))) (fun x14 => uncur fun n15 n16 => ifT (decide (n16 ≤ n1))
          (fun h => I sym [.one (.slice vk.kds.length s), ii n15, ii (w64i (n15 + n13)), ii n16, fp p] (fun cs h => (cs = []) ∧ x14 ((n16, w64i (n16 + w64i (2 * n13)))) h) h)
          (ifT (decide (w64i (n15 + n13) < n1))
            (fun h => I sym [.one (.slice vk.kds.length s), ii n15, ii (w64i (n15 + n13)), ii n1, fp p] (fun cs h => (cs = []) ∧ x12 (w64i (n13 * 2)) h) h)
            (x12 (w64i (n13 * 2))))))
        (Q []))) h) h))

/-! ### contracts -/
theorem ndg {p : Prop} [Decidable p] (h : (!decide p) = true) : ¬ p := by simpa using h
theorem ndg' {p : Prop} [Decidable p] (h : (!decide p) = false) : p := by simpa using h
theorem w64i_eq {n : Int} (h0 : -9223372036854775808 ≤ n) (h1 : n < 9223372036854775808) : w64i n = n := w64 h0 h1
theorem halfI_eq {x y : Nat} (h : x + y < 4000000000) : halfI (x : Int) (y : Int) = (((x + y) / 2 : Nat) : Int) := by
  unfold halfI
  have e : IntKind.i64.wrap ((x : Int) + (y : Int)) = ((x + y : Nat) : Int) := by rw [w64] <;> omega
  rw [e, wu64 (by omega) (by omega)]
  have e2 : shr IntKind.u64 ((x + y : Nat) : Int) 1 = (((x + y) / 2 : Nat) : Int) := by
    unfold shr
    have : (2 : Int) ^ min (1 : Int).toNat IntKind.u64.bits = 2 := by decide
    rw [this, Int.fdiv_eq_ediv_of_nonneg _ (by decide)]
    omega
  rw [e2, w64 (by omega) (by omega)]

section
variable {α : Type} {v : α → V} {vk : VK} {h : Heap} {s : Sl} {blk : Nat}

theorem cut_at {D : List α} {i : Nat} {x : α} (hx : D[i]? = some x) : D = D.take i ++ x :: D.drop (i + 1) := by
  obtain ⟨hlt, he⟩ := List.getElem?_eq_some_iff.1 hx
  rw [← he, List.getElem_cons_drop, List.take_append_drop]
theorem ldK_at (hv : ∀ a, vk.fits (v a)) {D : List α} {x : α} {n : Int} {i : Nat} {k : V → T} (ha : s.a = some (blk, 0)) (hs : s.len = D.length) (hb : h blk = some (.cells false (rws v D))) (hx : D[i]? = some x) (hn : n = (i : Int)) (hk : k (v x) h) : ldK vk s n k h :=
  ldK_intro hv ha hs hb (cut_at hx) (by rw [List.length_take]; have := (List.getElem?_eq_some_iff.1 hx).1; omega) hk
theorem getL {P L T : List α} {c : Nat} {x : α} (h : L[c]? = some x) : (P ++ (L ++ T))[P.length + c]? = some x := by
  have hc := (List.getElem?_eq_some_iff.1 h).1
  rw [List.getElem?_append_right (by omega), Nat.add_sub_cancel_left, List.getElem?_append_left hc, h]
theorem getR {P L R T : List α} {c : Nat} {x : α} (h : R[c]? = some x) : (P ++ (L ++ (R ++ T)))[P.length + L.length + c]? = some x := by
  have := getL (P := P ++ L) (T := T) h
  rwa [List.length_append, List.append_assoc] at this

theorem swap_spec {Q : Post} (hv : ∀ a, vk.fits (v a)) {P X M Y S : List α} {a b n : Int} (ha : s.a = some (blk, 0)) (hs : s.len = (P ++ (X ++ (M ++ (Y ++ S)))).length) (hlen : s.len < 1000000000)
    (hb : h blk = some (.cells false (rws v (P ++ (X ++ (M ++ (Y ++ S))))))) (hXY : X.length = Y.length) (h1 : a = (P.length : Int)) (h2 : b = ((P.length + X.length + M.length : Nat) : Int)) (h3 : n = (X.length : Int))
    (hQ : ∀ h', PSg h blk v (P ++ (Y ++ (M ++ (X ++ S)))) h' → Q [] h') : swapF vk s a b n Q h := by
  subst h1 h2 h3
  have hs' : s.len = P.length + X.length + M.length + Y.length + S.length := by rw [hs]; simp; omega
  refine loopK_intro (fun (c : Int) h' m => ∃ X1 X2 Y1 Y2, X = X1 ++ X2 ∧ Y = Y1 ++ Y2 ∧ X1.length = Y1.length ∧ c = (X1.length : Int) ∧ m = X2.length ∧ PSg h blk v (P ++ (Y1 ++ (X2 ++ (M ++ (X1 ++ (Y2 ++ S)))))) h') X.length
    ⟨[], X, [], Y, rfl, rfl, rfl, rfl, rfl, by simpa using hb, fun _ _ _ h => h⟩ ?_
  rintro c h' m ⟨X1, X2, Y1, Y2, rfl, rfl, hl, rfl, rfl, hp⟩
  simp only [List.length_append] at hXY hs'
  refine ifT_dec (fun hlt => ?_) fun hge => ?_
  · cases X2 with
    | nil => simp at hlt
    | cons x X2 =>
    cases Y2 with
    | nil => simp at hXY; omega
    | cons y Y2 =>
    simp only [List.length_cons] at hXY hs' hlt
    have e1 : w64i (((P.length + (X1 ++ x :: X2).length + M.length : Nat) : Int) + (X1.length : Int)) = ((P.length + Y1.length + (X2.length + 1) + M.length + X1.length : Nat) : Int) := by
      simp only [List.length_append, List.length_cons]; rw [w64i_eq (by omega) (by omega)]; omega
    have e2 : w64i ((P.length : Int) + (X1.length : Int)) = ((P.length + Y1.length : Nat) : Int) := by rw [w64i_eq] <;> omega
    have e3 : w64i ((X1.length : Int) + 1) = ((X1.length + 1 : Nat) : Int) := by rw [w64i_eq] <;> omega
    rw [e1, e2, e3]
    have hL : s.len = (P ++ (Y1 ++ (x :: X2 ++ (M ++ (X1 ++ (y :: Y2 ++ S)))))).length := by rw [hs']; simp; omega
    refine ldK_intro hv ha hL hp.1 (A := P ++ (Y1 ++ (x :: X2 ++ (M ++ X1)))) (x := y) (B := Y2 ++ S) (by simp) (by simp; omega) ?_
    refine ldK_intro hv ha hL hp.1 (A := P ++ Y1) (x := x) (B := X2 ++ (M ++ (X1 ++ (y :: Y2 ++ S)))) (by simp) (by simp) ?_
    refine stK_intro hv ha hL hp.1 (A := P ++ Y1) (x := x) (y := y) (B := X2 ++ (M ++ (X1 ++ (y :: Y2 ++ S)))) (by simp) (by simp) ?_
    refine stK_intro hv ha (D := P ++ Y1 ++ y :: (X2 ++ (M ++ (X1 ++ (y :: Y2 ++ S))))) (by rw [hL]; simp) (set_eq _ _ _) (A := P ++ (Y1 ++ (y :: X2 ++ (M ++ X1)))) (x := y) (y := x) (B := Y2 ++ S) (by simp) (by simp; omega) ?_
    refine ⟨X2.length, by simp, X1 ++ [x], X2, Y1 ++ [y], Y2, by simp, by simp, by simp [hl], by simp, rfl, ?_⟩
    rw [set_set]
    have := hp.set (zs := P ++ (Y1 ++ (y :: X2 ++ (M ++ X1))) ++ x :: (Y2 ++ S))
    simpa using this
  · have hX2 : X2 = [] := List.length_eq_zero_iff.1 (by simp at hge; omega)
    subst hX2
    have hY2 : Y2 = [] := List.length_eq_zero_iff.1 (by simp at hXY; omega)
    subst hY2
    exact hQ h' (by simpa using hp)

theorem rot_spec {I : Calls} {Q : Post} (hv : ∀ a, vk.fits (v a)) {sw : FuncId} {p : Option (FuncId × List (Nat × Nat))} (hsw : ∀ a b n Q h, swapF vk s a b n Q h → I sw [.one (.slice vk.kds.length s), ii a, ii b, ii n, fp p] Q h)
    {P X Y S : List α} {a m b : Int} (ha : s.a = some (blk, 0)) (hs : s.len = (P ++ (X ++ (Y ++ S))).length) (hlen : s.len < 1000000000)
    (hb : h blk = some (.cells false (rws v (P ++ (X ++ (Y ++ S)))))) (hX : X ≠ []) (hY : Y ≠ []) (h1 : a = (P.length : Int)) (h2 : m = ((P.length + X.length : Nat) : Int)) (h3 : b = ((P.length + X.length + Y.length : Nat) : Int))
    (hQ : ∀ h', PSg h blk v (P ++ (Y ++ (X ++ S))) h' → Q [] h') : rotF vk I sw s a m b p Q h := by
  subst h1 h2 h3
  have hs' : s.len = P.length + X.length + Y.length + S.length := by rw [hs]; simp; omega
  have e0 : w64i (((P.length + X.length : Nat) : Int) - (P.length : Int)) = (X.length : Int) := by rw [w64i_eq] <;> omega
  have e1 : w64i (((P.length + X.length + Y.length : Nat) : Int) - ((P.length + X.length : Nat) : Int)) = (Y.length : Int) := by rw [w64i_eq] <;> omega
  unfold rotF
  rw [e0, e1]
  refine loopK_intro (fun (c : Int × Int) h' m => ∃ A X' Y' B, c = ((X'.length : Int), (Y'.length : Int)) ∧ P.length + A.length + X'.length = P.length + X.length ∧ X' ≠ [] ∧ Y' ≠ [] ∧ m = X'.length + Y'.length ∧ Y ++ X = A ++ (Y' ++ (X' ++ B)) ∧ PSg h blk v (P ++ (A ++ (X' ++ (Y' ++ (B ++ S))))) h') (X.length + Y.length)
    ⟨[], X, Y, [], rfl, by simp, hX, hY, rfl, by simp, by simpa using hb, fun _ _ _ h => h⟩ ?_
  rintro c h' m ⟨A, X', Y', B, rfl, hm, hX', hY', rfl, hfin, hp⟩
  dsimp only [uncur]
  have hx0 : 0 < X'.length := List.length_pos_iff.2 hX'
  have hy0 : 0 < Y'.length := List.length_pos_iff.2 hY'
  have hcnt : Y.length + X.length = A.length + Y'.length + X'.length + B.length := by
    have := congrArg List.length hfin
    simp at this; omega
  have em : w64i (((P.length + X.length : Nat) : Int) - (X'.length : Int)) = ((P ++ A).length : Int) := by rw [w64i_eq (by omega) (by omega)]; simp; omega
  have hL : s.len = (P ++ (A ++ (X' ++ (Y' ++ (B ++ S))))).length := by rw [hs']; simp; omega
  rw [em]
  refine ifT_intro (fun hne => ?_) fun heq => ?_
  · have hne : ¬ (X'.length : Int) = (Y'.length : Int) := ndg hne
    refine ifT_dec (fun hgt => hsw _ _ _ _ _ ?_) fun hle => hsw _ _ _ _ _ ?_
    · have el : (X'.take Y'.length).length = Y'.length := by rw [List.length_take]; omega
      refine swap_spec hv (P := P ++ A) (X := X'.take Y'.length) (M := X'.drop Y'.length) (Y := Y') (S := B ++ S) ha ?_ hlen ?_ el rfl ?_ ?_ fun h2 hp2 => ⟨rfl, X'.length, by omega, A ++ Y', X'.drop Y'.length, X'.take Y'.length, B, ?_, ?_, ?_, ?_, ?_, ?_, ?_⟩
      · rw [hL]; simp; omega
      · have := hp.1
        rw [show P ++ A ++ (X'.take Y'.length ++ (X'.drop Y'.length ++ (Y' ++ (B ++ S)))) = P ++ (A ++ (X' ++ (Y' ++ (B ++ S)))) by rw [← List.append_assoc (X'.take _), List.take_append_drop]; simp]
        exact this
      · rw [List.length_append, el, List.length_drop]; omega
      · rw [el]
      · rw [el, List.length_drop]
        have : w64i ((X'.length : Int) - (Y'.length : Int)) = ((X'.length - Y'.length : Nat) : Int) := by rw [w64i_eq] <;> omega
        rw [this]
      · rw [List.length_append, List.length_drop]; omega
      · exact List.length_pos_iff.1 (by rw [List.length_drop]; omega)
      · exact List.length_pos_iff.1 (by omega)
      · rw [el, List.length_drop]; omega
      · rw [hfin]
        simp only [List.append_assoc]
        rw [← List.append_assoc (X'.take _), List.take_append_drop]
      · have := hp.trans hp2
        simpa using this
    · have el : (Y'.drop (Y'.length - X'.length)).length = X'.length := by rw [List.length_drop]; omega
      have e4 : w64i (w64i (((P.length + X.length : Nat) : Int) + (Y'.length : Int)) - (X'.length : Int)) = (((P ++ A).length + X'.length + (Y'.take (Y'.length - X'.length)).length : Nat) : Int) := by
        rw [w64i_eq (n := ((P.length + X.length : Nat) : Int) + (Y'.length : Int)) (by omega) (by omega), w64i_eq (by omega) (by omega), List.length_append, List.length_take]; omega
      refine swap_spec hv (P := P ++ A) (X := X') (M := Y'.take (Y'.length - X'.length)) (Y := Y'.drop (Y'.length - X'.length)) (S := B ++ S) ha ?_ hlen ?_ el.symm rfl e4 rfl fun h2 hp2 => ⟨rfl, Y'.length, by omega, A, Y'.drop (Y'.length - X'.length), Y'.take (Y'.length - X'.length), X' ++ B, ?_, ?_, ?_, ?_, ?_, ?_, ?_⟩
      · rw [hL]; simp; omega
      · have := hp.1
        rw [show P ++ A ++ (X' ++ (Y'.take (Y'.length - X'.length) ++ (Y'.drop (Y'.length - X'.length) ++ (B ++ S)))) = P ++ (A ++ (X' ++ (Y' ++ (B ++ S)))) by rw [← List.append_assoc (Y'.take _), List.take_append_drop]; simp]
        exact this
      · rw [el, List.length_take]
        have : w64i ((Y'.length : Int) - (X'.length : Int)) = ((Y'.length - X'.length : Nat) : Int) := by rw [w64i_eq] <;> omega
        rw [this, Nat.min_eq_left (by omega)]
      · rw [el]; omega
      · exact List.length_pos_iff.1 (by rw [el]; omega)
      · exact List.length_pos_iff.1 (by rw [List.length_take]; omega)
      · rw [el, List.length_take]; omega
      · rw [hfin]
        rw [← List.append_assoc (Y'.take _), List.take_append_drop]
      · have := hp.trans hp2
        simpa using this
  · have heq : (X'.length : Int) = (Y'.length : Int) := ndg' heq
    refine hsw _ _ _ _ _ (swap_spec hv (P := P ++ A) (X := X') (M := []) (Y := Y') (S := B ++ S) ha (by rw [hL]; simp) hlen (by simpa using hp.1) (by omega) rfl (by simp; omega) rfl fun h2 hp2 => ⟨rfl, hQ _ ?_⟩)
    have := hp.trans hp2
    have e : P ++ (Y ++ (X ++ S)) = P ++ A ++ (Y' ++ ([] ++ (X' ++ (B ++ S)))) := by
      rw [← List.append_assoc Y, hfin]; simp
    rw [e]; exact this

set_option maxHeartbeats 1000000 in
theorem sym_spec {I : Calls} (hv : ∀ a, vk.fits (v a)) {rot self : FuncId} {g : FuncId} {caps : List (Nat × Nat)} {lt : α → α → Bool} {mem : α → Prop} (R : α → α → Prop)
        (sw : FuncId) (hrot : ∀ a m b Q h, rotF vk I sw s a m b (some (g, caps)) Q h → I rot [.one (.slice vk.kds.length s), ii a, ii m, ii b, fp (some (g, caps))] Q h)
    (hsw : ∀ a b n Q h, swapF vk s a b n Q h → I sw [.one (.slice vk.kds.length s), ii a, ii b, ii n, fp (some (g, caps))] Q h)
    (hself : ∀ a m b Q h, symF vk I rot self s a m b (some (g, caps)) Q h → I self [.one (.slice vk.kds.length s), ii a, ii m, ii b, fp (some (g, caps))] Q h)
    (ha : s.a = some (blk, 0)) (hlen : s.len < 1000000000) (hT : ∀ a b c, mem a → mem b → mem c → R a b → R b c → R a c) :
    ∀ (N : Nat) (P L M S : List α) (h : Heap) (Q : Post) (n1 n2 n3 : Int), L.length + M.length ≤ N → L ≠ [] → M ≠ [] → s.len = (P ++ (L ++ (M ++ S))).length → h blk = some (.cells false (rws v (P ++ (L ++ (M ++ S))))) →
      n1 = (P.length : Int) → n2 = ((P.length + L.length : Nat) : Int) → n3 = ((P.length + L.length + M.length : Nat) : Int) → (∀ x ∈ L ++ M, mem x) → TellsG I h blk g caps v mem lt → L.Pairwise R → M.Pairwise R → (∀ x ∈ L, ∀ y ∈ M, Xrel lt R x y) →
      (∀ Z h', Z.Perm (L ++ M) → Z.Pairwise R → PSg h blk v (P ++ (Z ++ S)) h' → Q [] h') → symF vk I rot self s n1 n2 n3 (some (g, caps)) Q h := by
  intro N
  induction N with
  | zero => intro P L M S h Q n1 n2 n3 hN hL; exact absurd (List.length_eq_zero_iff.1 (by omega)) hL
  | succ N ih =>
  intro P L M S h Q n1 n2 n3 hN hL hM hs hb h1 h2 h3 hmem ht hLR hMR hX hQ
  subst h1 h2 h3
  have hl0 : 0 < L.length := List.length_pos_iff.2 hL
  have hm0 : 0 < M.length := List.length_pos_iff.2 hM
  have hs' : s.len = P.length + L.length + M.length + S.length := by rw [hs]; simp; omega
  have hp0 : PSg h blk v (P ++ (L ++ (M ++ S))) h := ⟨hb, fun _ _ _ h => h⟩
  have memL : ∀ {c : Nat} {x : α}, L[c]? = some x → mem x := fun hx => hmem _ (List.mem_append_left _ (List.mem_of_getElem? hx))
  have memM : ∀ {c : Nat} {x : α}, M[c]? = some x → mem x := fun hx => hmem _ (List.mem_append_right _ (List.mem_of_getElem? hx))
  unfold symF
  have ed : w64i (((P.length + L.length : Nat) : Int) - (P.length : Int)) = (L.length : Int) := by rw [w64i_eq] <;> omega
  have ee : w64i (((P.length + L.length + M.length : Nat) : Int) - ((P.length + L.length : Nat) : Int)) = (M.length : Int) := by rw [w64i_eq] <;> omega
  rw [ed, ee]
  refine ifT_dec (fun hone => ?_) fun hL1 => ifT_dec (fun hone => ?_) fun hM1 => ?_
  · -- one element before
    obtain ⟨x, rfl⟩ : ∃ x, L = [x] := by
      match L, hone with
      | [x], _ => exact ⟨x, rfl⟩
    have hxm : mem x := hmem x (by simp)
    simp only [List.length_singleton] at hs' hN ⊢
    refine loopK_intro (fun (q : Int × Int) h' m => ∃ c d : Nat, q = (((P.length + 1 + c : Nat) : Int), ((P.length + 1 + d : Nat) : Int)) ∧ c ≤ d ∧ d ≤ M.length ∧ m = d - c ∧ (∀ z, 0 < c → M[c - 1]? = some z → lt z x = true) ∧ (∀ z, M[d]? = some z → lt z x = false) ∧ PSg h blk v (P ++ ([x] ++ (M ++ S))) h') M.length
      ⟨0, M.length, rfl, by omega, by omega, rfl, by intro z h; omega, by intro z h; simp at h, hp0⟩ ?_
    rintro q h' m ⟨c, d, rfl, hcd, hdm, rfl, hlo, hhi, hp⟩
    dsimp only [uncur]
    refine ifT_dec (fun hlt => ?_) fun hge => ?_
    · have eh : halfI ((P.length + 1 + c : Nat) : Int) ((P.length + 1 + d : Nat) : Int) = ((P.length + 1 + (c + d) / 2 : Nat) : Int) := by rw [halfI_eq (by omega)]; congr 1; omega
      have ew : w64i (((P.length + 1 + (c + d) / 2 : Nat) : Int) + 1) = ((P.length + 1 + ((c + d) / 2 + 1) : Nat) : Int) := by rw [w64i_eq] <;> omega
      rw [eh, ew]
      have hk : (c + d) / 2 < M.length := by omega
      have hy := List.getElem?_eq_getElem hk
      generalize M[(c + d) / 2] = y at hy
      refine ldK_at hv ha hs hp.1 (i := P.length + 1 + (c + d) / 2) (x := y) (getR (L := [x]) hy) rfl ?_
      refine ldK_at hv ha hs hp.1 (i := P.length) (x := x) (getL (c := 0) (L := [x]) rfl) rfl ?_
      refine cmpK_intro ht hp (memM hy) hxm fun n h4 hp4 hn => ifT_dec (fun hneg => ?_) fun hneg => ?_
      · have hly := hn.1 hneg
        exact ⟨d - ((c + d) / 2 + 1), by omega, (c + d) / 2 + 1, d, rfl, by omega, hdm, rfl, fun z _ hz => by rw [Nat.add_sub_cancel, hy] at hz; cases hz; exact hly, hhi, hp4⟩
      · have hly : lt y x = false := by
          cases e : lt y x with
          | false => rfl
          | true => exact absurd (hn.2 e) hneg
        exact ⟨(c + d) / 2 - c, by omega, c, (c + d) / 2, rfl, by omega, by omega, rfl, hlo, fun z hz => by rw [hy] at hz; cases hz; exact hly, hp4⟩
    · have hcd' : c = d := by omega
      subst hcd'
      have ei : w64i (((P.length + 1 + c : Nat) : Int) - 1) = ((P.length + c : Nat) : Int) := by rw [w64i_eq] <;> omega
      rw [ei]
      refine loopK_intro (fun (k : Int) h2 m => ∃ e, e ≤ c ∧ k = ((P.length + e : Nat) : Int) ∧ m = c - e ∧ PSg h blk v (P ++ (M.take e ++ x :: (M.drop e ++ S))) h2) c ⟨0, by omega, rfl, rfl, by simpa using hp⟩ ?_
      rintro k h2 m ⟨e, he, rfl, rfl, hp2⟩
      refine ifT_dec (fun hlt => ?_) fun hge2 => ?_
      · have hy := List.getElem?_eq_getElem (show e < M.length by omega)
        generalize M[e] = y at hy
        have ek : w64i (((P.length + e : Nat) : Int) + 1) = ((P.length + (e + 1) : Nat) : Int) := by rw [w64i_eq] <;> omega
        rw [ek]
        have et : (M.take e).length = e := by rw [List.length_take]; omega
        have edr : M.drop e = y :: M.drop (e + 1) := drop_mid hy
        rw [edr] at hp2
        have hL2 : s.len = (P ++ (M.take e ++ x :: (y :: M.drop (e + 1) ++ S))).length := by rw [hs']; simp; omega
        refine ldK_intro hv ha hL2 hp2.1 (A := P ++ (M.take e ++ [x])) (x := y) (B := M.drop (e + 1) ++ S) (by simp) (by simp; omega) ?_
        refine ldK_intro hv ha hL2 hp2.1 (A := P ++ M.take e) (x := x) (B := y :: (M.drop (e + 1) ++ S)) (by simp) (by simp; omega) ?_
        refine stK_intro hv ha hL2 hp2.1 (A := P ++ M.take e) (x := x) (y := y) (B := y :: (M.drop (e + 1) ++ S)) (by simp) (by simp; omega) ?_
        refine stK_intro hv ha (D := P ++ M.take e ++ y :: (y :: (M.drop (e + 1) ++ S))) (by rw [hL2]; simp) (set_eq _ _ _) (A := P ++ (M.take e ++ [y])) (x := y) (y := x) (B := M.drop (e + 1) ++ S) (by simp) (by simp; omega) ?_
        refine ⟨c - (e + 1), by omega, e + 1, by omega, rfl, rfl, ?_⟩
        rw [set_set, take_mid hy]
        have := hp2.set (zs := P ++ (M.take e ++ [y]) ++ x :: (M.drop (e + 1) ++ S))
        simpa using this
      · have hec : e = c := by omega
        subst hec
        refine hQ (M.take e ++ x :: M.drop e) h2 ?_ ?_ (by simpa using hp2)
        · exact List.perm_middle.trans (by rw [List.take_append_drop]; exact List.Perm.refl _)
        · refine placed (by rw [List.take_append_drop]; exact hMR) (fun z hz => ?_) fun z hz => ?_
          · obtain ⟨k, hk1, hk2⟩ : ∃ k, k < e ∧ M[k]? = some z := by
              obtain ⟨k, hk, rfl⟩ := List.mem_iff_getElem.1 hz
              rw [List.length_take] at hk
              exact ⟨k, by omega, by rw [List.getElem_take, List.getElem?_eq_getElem]⟩
            have hw := List.getElem?_eq_getElem (show e - 1 < M.length by omega)
            generalize M[e - 1] = w at hw
            have hwx : R w x := (hX x (by simp) w (List.mem_of_getElem? hw)).1 (hlo w (by omega) hw)
            by_cases hke : k = e - 1
            · subst hke; rw [hk2] at hw; cases hw; exact hwx
            · have hzw : R z w := by
                have := pairwise_take hMR hw z (by
                  rw [List.mem_take_iff_getElem]
                  obtain ⟨hk3, hk4⟩ := List.getElem?_eq_some_iff.1 hk2
                  exact ⟨k, by omega, hk4⟩)
                exact this
              exact hT z w x (memM hk2) (memM hw) hxm hzw hwx
          · rcases Nat.lt_or_ge e M.length with hem | hem
            · have hw := List.getElem?_eq_getElem hem
              generalize M[e] = w at hw
              have hxw : R x w := (hX x (by simp) w (List.mem_of_getElem? hw)).2 (hhi w hw)
              rw [drop_mid hw] at hz
              rcases List.mem_cons.1 hz with rfl | hz2
              · exact hxw
              · have hwz : R w z := by
                  have h5 := hMR
                  rw [cut_at hw, List.pairwise_append, List.pairwise_cons] at h5
                  exact h5.2.1.1 z hz2
                exact hT x w z hxm (memM hw) (hmem z (List.mem_append_right _ (List.mem_of_mem_drop hz2))) hxw hwz
            · rw [List.drop_eq_nil_of_le hem] at hz; cases hz
  · -- one element behind
    obtain ⟨y, rfl⟩ : ∃ y, M = [y] := by
      match M, hone with
      | [y], _ => exact ⟨y, rfl⟩
    have hym : mem y := hmem y (by simp)
    simp only [List.length_singleton] at hs' hN
    refine loopK_intro (fun (q : Int × Int) h' m => ∃ c d : Nat, q = (((P.length + c : Nat) : Int), ((P.length + d : Nat) : Int)) ∧ c ≤ d ∧ d ≤ L.length ∧ m = d - c ∧ (∀ z, 0 < c → L[c - 1]? = some z → lt y z = false) ∧ (∀ z, L[d]? = some z → lt y z = true) ∧ PSg h blk v (P ++ (L ++ ([y] ++ S))) h') L.length
      ⟨0, L.length, rfl, by omega, by omega, rfl, by intro z h; omega, by intro z h; simp at h, hp0⟩ ?_
    rintro q h' m ⟨c, d, rfl, hcd, hdm, rfl, hlo, hhi, hp⟩
    dsimp only [uncur]
    refine ifT_dec (fun hlt => ?_) fun hge => ?_
    · have eh : halfI ((P.length + c : Nat) : Int) ((P.length + d : Nat) : Int) = ((P.length + (c + d) / 2 : Nat) : Int) := by rw [halfI_eq (by omega)]; congr 1; omega
      have ew : w64i (((P.length + (c + d) / 2 : Nat) : Int) + 1) = ((P.length + ((c + d) / 2 + 1) : Nat) : Int) := by rw [w64i_eq] <;> omega
      rw [eh, ew]
      have hk : (c + d) / 2 < L.length := by omega
      have hz := List.getElem?_eq_getElem hk
      generalize L[(c + d) / 2] = z at hz
      refine ldK_at hv ha hs hp.1 (i := P.length + L.length + 0) (x := y) (getR (c := 0) (R := [y]) rfl) rfl ?_
      refine ldK_at hv ha hs hp.1 (i := P.length + (c + d) / 2) (x := z) (getL hz) rfl ?_
      refine cmpK_intro ht hp hym (memL hz) fun n h4 hp4 hn => ifT_intro (fun hneg => ?_) fun hneg => ?_
      · have hly : lt y z = false := by
          cases e : lt y z with
          | false => rfl
          | true => exact absurd (hn.2 e) (ndg hneg)
        exact ⟨d - ((c + d) / 2 + 1), by omega, (c + d) / 2 + 1, d, rfl, by omega, hdm, rfl, fun w _ hw => by rw [Nat.add_sub_cancel, hz] at hw; cases hw; exact hly, hhi, hp4⟩
      · have hly := hn.1 (ndg' hneg)
        exact ⟨(c + d) / 2 - c, by omega, c, (c + d) / 2, rfl, by omega, by omega, rfl, hlo, fun w hw => by rw [hz] at hw; cases hw; exact hly, hp4⟩
    · have hcd' : c = d := by omega
      subst hcd'
      refine loopK_intro (fun (k : Int) h2 m => ∃ e, c ≤ e ∧ e ≤ L.length ∧ k = ((P.length + e : Nat) : Int) ∧ m = e - c ∧ PSg h blk v (P ++ (L.take e ++ y :: (L.drop e ++ S))) h2) (L.length - c) ⟨L.length, by omega, by omega, rfl, rfl, by simpa using hp⟩ ?_
      rintro k h2 m ⟨e, hce, heL, rfl, rfl, hp2⟩
      refine ifT_dec (fun hlt => ?_) fun hge2 => ?_
      · obtain ⟨e, rfl⟩ : ∃ f, e = f + 1 := ⟨e - 1, by omega⟩
        have hz := List.getElem?_eq_getElem (show e < L.length by omega)
        generalize L[e] = z at hz
        have ek : w64i (((P.length + (e + 1) : Nat) : Int) - 1) = ((P.length + e : Nat) : Int) := by rw [w64i_eq] <;> omega
        rw [ek]
        have et : (L.take e).length = e := by rw [List.length_take]; omega
        rw [take_mid hz] at hp2
        have hL2 : s.len = (P ++ (L.take e ++ [z] ++ y :: (L.drop (e + 1) ++ S))).length := by rw [hs']; simp; omega
        refine ldK_intro hv ha hL2 hp2.1 (A := P ++ L.take e) (x := z) (B := y :: (L.drop (e + 1) ++ S)) (by simp) (by simp; omega) ?_
        refine ldK_intro hv ha hL2 hp2.1 (A := P ++ (L.take e ++ [z])) (x := y) (B := L.drop (e + 1) ++ S) (by simp) (by simp; omega) ?_
        refine stK_intro hv ha hL2 hp2.1 (A := P ++ (L.take e ++ [z])) (x := y) (y := z) (B := L.drop (e + 1) ++ S) (by simp) (by simp; omega) ?_
        refine stK_intro hv ha (D := P ++ (L.take e ++ [z]) ++ z :: (L.drop (e + 1) ++ S)) (by rw [hL2]; simp) (set_eq _ _ _) (A := P ++ L.take e) (x := z) (y := y) (B := z :: (L.drop (e + 1) ++ S)) (by simp) (by simp; omega) ?_
        refine ⟨e - c, by omega, e, by omega, by omega, rfl, rfl, ?_⟩
        rw [set_set, drop_mid hz]
        have := hp2.set (zs := P ++ L.take e ++ y :: (z :: (L.drop (e + 1) ++ S)))
        simpa using this
      · have hec : e = c := by omega
        subst hec
        refine hQ (L.take e ++ y :: L.drop e) h2 ?_ ?_ (by simpa using hp2)
        · exact List.perm_middle.trans (by rw [List.take_append_drop]; exact (List.perm_append_singleton y L).symm)
        · refine placed (by rw [List.take_append_drop]; exact hLR) (fun z hz => ?_) fun z hz => ?_
          · obtain ⟨k, hk1, hk2⟩ : ∃ k, k < e ∧ L[k]? = some z := by
              obtain ⟨k, hk, rfl⟩ := List.mem_iff_getElem.1 hz
              rw [List.length_take] at hk
              exact ⟨k, by omega, by rw [List.getElem_take, List.getElem?_eq_getElem]⟩
            have hw := List.getElem?_eq_getElem (show e - 1 < L.length by omega)
            generalize L[e - 1] = w at hw
            have hwx : R w y := (hX w (List.mem_of_getElem? hw) y (by simp)).2 (hlo w (by omega) hw)
            by_cases hke : k = e - 1
            · subst hke; rw [hk2] at hw; cases hw; exact hwx
            · have hzw : R z w := pairwise_take hLR hw z (by
                rw [List.mem_take_iff_getElem]
                obtain ⟨hk3, hk4⟩ := List.getElem?_eq_some_iff.1 hk2
                exact ⟨k, by omega, hk4⟩)
              exact hT z w y (memL hk2) (memL hw) hym hzw hwx
          · rcases Nat.lt_or_ge e L.length with hem | hem
            · have hw := List.getElem?_eq_getElem hem
              generalize L[e] = w at hw
              have hxw : R y w := (hX w (List.mem_of_getElem? hw) y (by simp)).1 (hhi w hw)
              rw [drop_mid hw] at hz
              rcases List.mem_cons.1 hz with rfl | hz2
              · exact hxw
              · have hwz : R w z := by
                  have h5 := hLR
                  rw [cut_at hw, List.pairwise_append, List.pairwise_cons] at h5
                  exact h5.2.1.1 z hz2
                exact hT y w z hym (memL hw) (hmem z (List.mem_append_left _ (List.mem_of_mem_drop hz2))) hxw hwz
            · rw [List.drop_eq_nil_of_le hem] at hz; cases hz
  · -- both have more
    have hL2 : 2 ≤ L.length := by omega
    have hM2 : 2 ≤ M.length := by omega
    obtain ⟨q, hq⟩ : ∃ q, q = (L.length + M.length) / 2 := ⟨_, rfl⟩
    have eh : halfI (P.length : Int) ((P.length + L.length + M.length : Nat) : Int) = ((P.length + q : Nat) : Int) := by rw [halfI_eq (by omega)]; congr 1; omega
    have en : w64i (((P.length + q : Nat) : Int) + ((P.length + L.length : Nat) : Int)) = ((P.length + q + (P.length + L.length) : Nat) : Int) := by rw [w64i_eq] <;> omega
    rw [eh, en]
    unfold symTail
    obtain ⟨c0, d0, hcd0⟩ : ∃ c0 d0, (L.length > q ∧ M.length ≤ q ∧ c0 = q - M.length ∧ d0 = q) ∨ (L.length ≤ q ∧ c0 = 0 ∧ d0 = L.length) := by
      rcases Nat.lt_or_ge q L.length with h1 | h1
      · exact ⟨_, _, .inl ⟨h1, by omega, rfl, rfl⟩⟩
      · exact ⟨_, _, .inr ⟨h1, rfl, rfl⟩⟩
    refine joinK_intro (fun (p : Int × Int) h' => h' = h ∧ p = (((P.length + c0 : Nat) : Int), ((P.length + d0 : Nat) : Int))) ?_ fun j hj => ifT_dec (fun hgt => hj _ _ ⟨rfl, ?_⟩) fun hle => hj _ _ ⟨rfl, ?_⟩
    case refine_2 =>
      have e1 : w64i (((P.length + q + (P.length + L.length) : Nat) : Int) - ((P.length + L.length + M.length : Nat) : Int)) = ((P.length + c0 : Nat) : Int) := by rw [w64i_eq] <;> omega
      rw [e1, show d0 = q by omega]
    case refine_3 => rw [show c0 = 0 by omega, show d0 = L.length by omega]; rfl
    rintro p h' ⟨rfl, rfl⟩
    dsimp only [uncur]
    refine loopK_intro (fun (x : Int × Int) h2 m => ∃ c d : Nat, x = (((P.length + c : Nat) : Int), ((P.length + d : Nat) : Int)) ∧ c0 ≤ c ∧ c ≤ d ∧ d ≤ d0 ∧ m = d - c ∧ (∀ z w, c0 < c → L[c - 1]? = some z → M[q - c]? = some w → lt w z = false) ∧ (∀ z w, d < d0 → L[d]? = some z → M[q - 1 - d]? = some w → lt w z = true) ∧ PSg h' blk v (P ++ (L ++ (M ++ S))) h2) (d0 - c0)
      ⟨c0, d0, rfl, by omega, by omega, by omega, rfl, by intro z w h; omega, by intro z w h; omega, hp0⟩ ?_
    rintro x h2 m ⟨c, d, rfl, hc0, hcd, hd0, rfl, hlo, hhi, hp⟩
    dsimp only [uncur]
    refine ifT_dec (fun hlt => ?_) fun hge => ?_
    · have ek : halfI ((P.length + c : Nat) : Int) ((P.length + d : Nat) : Int) = ((P.length + (c + d) / 2 : Nat) : Int) := by rw [halfI_eq (by omega)]; congr 1; omega
      have ew : w64i (((P.length + (c + d) / 2 : Nat) : Int) + 1) = ((P.length + ((c + d) / 2 + 1) : Nat) : Int) := by rw [w64i_eq] <;> omega
      have ep : w64i (w64i (((P.length + q + (P.length + L.length) : Nat) : Int) - 1) - ((P.length + (c + d) / 2 : Nat) : Int)) = ((P.length + L.length + (q - 1 - (c + d) / 2) : Nat) : Int) := by
        rw [w64i_eq (n := ((P.length + q + (P.length + L.length) : Nat) : Int) - 1) (by omega) (by omega), w64i_eq (by omega) (by omega)]; omega
      rw [ek, ew, ep]
      have hk : (c + d) / 2 < L.length := by omega
      have hk2 : q - 1 - (c + d) / 2 < M.length := by omega
      have hz := List.getElem?_eq_getElem hk
      generalize L[(c + d) / 2] = z at hz
      have hw := List.getElem?_eq_getElem hk2
      generalize M[q - 1 - (c + d) / 2] = w at hw
      refine ldK_at hv ha hs hp.1 (getR hw) rfl ?_
      refine ldK_at hv ha hs hp.1 (getL hz) rfl ?_
      refine cmpK_intro ht hp (memM hw) (memL hz) fun n h4 hp4 hn => ifT_intro (fun hneg => ?_) fun hneg => ?_
      · have hly : lt w z = false := by
          cases e : lt w z with
          | false => rfl
          | true => exact absurd (hn.2 e) (ndg hneg)
        refine ⟨d - ((c + d) / 2 + 1), by omega, (c + d) / 2 + 1, d, rfl, by omega, by omega, hd0, rfl, fun z' w' _ hz' hw' => ?_, hhi, hp4⟩
        rw [Nat.add_sub_cancel, hz] at hz'; cases hz'
        rw [show q - ((c + d) / 2 + 1) = q - 1 - (c + d) / 2 by omega, hw] at hw'; cases hw'
        exact hly
      · have hly := hn.1 (ndg' hneg)
        exact ⟨(c + d) / 2 - c, by omega, c, (c + d) / 2, rfl, hc0, by omega, by omega, rfl, hlo, fun z' w' _ hz' hw' => by rw [hz] at hz'; cases hz'; rw [hw] at hw'; cases hw'; exact hly, hp4⟩
    · have hcd' : c = d := by omega
      subst hcd'
      have hcq : c ≤ q := by omega
      have hcl : c ≤ L.length := by omega
      have hqc : q - c ≤ M.length := by omega
      have ee2 : w64i (((P.length + q + (P.length + L.length) : Nat) : Int) - ((P.length + c : Nat) : Int)) = ((P.length + L.length + (q - c) : Nat) : Int) := by rw [w64i_eq] <;> omega
      rw [ee2]
      have l1 : (L.take c).length = c := by rw [List.length_take]; omega
      have l2 : (L.drop c).length = L.length - c := List.length_drop
      have m1 : (M.take (q - c)).length = q - c := by rw [List.length_take]; omega
      have m2 : (M.drop (q - c)).length = M.length - (q - c) := List.length_drop
      have eL : L = L.take c ++ L.drop c := (List.take_append_drop c L).symm
      have eM : M = M.take (q - c) ++ M.drop (q - c) := (List.take_append_drop (q - c) M).symm
      have pL := hLR
      rw [eL, List.pairwise_append] at pL
      have pM := hMR
      rw [eM, List.pairwise_append] at pM
      have memL' : ∀ x ∈ L, mem x := fun x hx => hmem x (List.mem_append_left _ hx)
      have memM' : ∀ x ∈ M, mem x := fun x hx => hmem x (List.mem_append_right _ hx)
      -- what is before comes before what is behind
      have crossA : ∀ x ∈ L.take c, ∀ y ∈ M.drop (q - c), R x y := fun x hx y hy => by
        have hc1 : 0 < c := by
          rcases Nat.eq_zero_or_pos c with h | h
          · rw [h] at hx; simp at hx
          · exact h
        have hq1 : q - c < M.length := by
          rcases Nat.lt_or_ge (q - c) M.length with h | h
          · exact h
          · rw [List.drop_eq_nil_of_le h] at hy; cases hy
        have hz := List.getElem?_eq_getElem (show c - 1 < L.length by omega)
        generalize L[c - 1] = z at hz
        have hw := List.getElem?_eq_getElem hq1
        generalize M[q - c] = w at hw
        have hzw : R z w := (hX z (List.mem_of_getElem? hz) w (List.mem_of_getElem? hw)).2 (hlo z w (by omega) hz hw)
        have hxL := List.mem_of_mem_take hx
        have hyM := List.mem_of_mem_drop hy
        have hxw : R x w := by
          obtain ⟨k, hk1, hk2⟩ : ∃ k, k < c ∧ L[k]? = some x := by
            obtain ⟨k, hk, rfl⟩ := List.mem_iff_getElem.1 hx
            rw [List.length_take] at hk
            exact ⟨k, by omega, by rw [List.getElem_take, List.getElem?_eq_getElem]⟩
          by_cases hke : k = c - 1
          · subst hke; rw [hk2] at hz; cases hz; exact hzw
          · have hxz : R x z := pairwise_take hLR hz x (by
              rw [List.mem_take_iff_getElem]
              obtain ⟨hk3, hk4⟩ := List.getElem?_eq_some_iff.1 hk2
              exact ⟨k, by omega, hk4⟩)
            exact hT x z w (memL hk2) (memL hz) (memM hw) hxz hzw
        rw [drop_mid hw] at hy
        rcases List.mem_cons.1 hy with rfl | hy2
        · exact hxw
        · have hwy : R w y := by
            have h5 := hMR
            rw [cut_at hw, List.pairwise_append, List.pairwise_cons] at h5
            exact h5.2.1.1 y hy2
          exact hT x w y (memL' x hxL) (memM hw) (memM' y hyM) hxw hwy
      have crossB : ∀ x ∈ M.take (q - c), ∀ y ∈ L.drop c, R x y := fun x hx y hy => by
        have hq1 : 0 < q - c := by
          rcases Nat.eq_zero_or_pos (q - c) with h | h
          · rw [h] at hx; simp at hx
          · exact h
        have hc1 : c < L.length := by
          rcases Nat.lt_or_ge c L.length with h | h
          · exact h
          · rw [List.drop_eq_nil_of_le h] at hy; cases hy
        have hz := List.getElem?_eq_getElem hc1
        generalize L[c] = z at hz
        have hw := List.getElem?_eq_getElem (show q - 1 - c < M.length by omega)
        generalize M[q - 1 - c] = w at hw
        have hwz : R w z := (hX z (List.mem_of_getElem? hz) w (List.mem_of_getElem? hw)).1 (hhi z w (by omega) hz hw)
        have hxM := List.mem_of_mem_take hx
        have hyL := List.mem_of_mem_drop hy
        have hxz : R x z := by
          obtain ⟨k, hk1, hk2⟩ : ∃ k, k < q - c ∧ M[k]? = some x := by
            obtain ⟨k, hk, rfl⟩ := List.mem_iff_getElem.1 hx
            rw [List.length_take] at hk
            exact ⟨k, by omega, by rw [List.getElem_take, List.getElem?_eq_getElem]⟩
          by_cases hke : k = q - 1 - c
          · subst hke; rw [hk2] at hw; cases hw; exact hwz
          · have hxw : R x w := pairwise_take hMR hw x (by
              rw [List.mem_take_iff_getElem]
              obtain ⟨hk3, hk4⟩ := List.getElem?_eq_some_iff.1 hk2
              exact ⟨k, by omega, hk4⟩)
            exact hT x w z (memM hk2) (memM hw) (memL hz) hxw hwz
        rw [drop_mid hz] at hy
        rcases List.mem_cons.1 hy with rfl | hy2
        · exact hxz
        · have hzy : R z y := by
            have h5 := hLR
            rw [cut_at hz, List.pairwise_append, List.pairwise_cons] at h5
            exact h5.2.1.1 y hy2
          exact hT x z y (memM' x hxM) (memL hz) (memL' y hyL) hxz hzy
      refine joinK_intro (fun (b : Bool) h3 => h3 = h2 ∧ b = decide (c < L.length ∧ 0 < q - c)) ?_ fun j hj => ifT_dec (fun h5 => hj _ _ ⟨rfl, by rw [decide_eq_decide]; omega⟩) fun h5 => hj _ _ ⟨rfl, by symm; rw [decide_eq_false_iff_not]; omega⟩
      rintro b h3 ⟨rfl, rfl⟩
      refine joinK_intro (fun (_ : PUnit) h4 => PSg h' blk v (P ++ (L.take c ++ (M.take (q - c) ++ (L.drop c ++ (M.drop (q - c) ++ S))))) h4) ?_ fun j hj => ifT_intro (fun hb1 => ?_) fun hb1 => hj _ _ ?_
      case refine_2 =>
        obtain ⟨hb2, hb3⟩ := of_decide_eq_true hb1
        refine hrot _ _ _ _ _ (rot_spec hv hsw (P := P ++ L.take c) (X := L.drop c) (Y := M.take (q - c)) (S := M.drop (q - c) ++ S) ha (by rw [hs']; simp; omega) hlen ?_ (List.length_pos_iff.1 (by omega)) (List.length_pos_iff.1 (by omega)) (by simp; omega) (by simp; omega) (by simp; omega) fun h4 hp4 => ⟨rfl, hj _ _ ?_⟩)
        · have := hp.1
          rw [show P ++ L.take c ++ (L.drop c ++ (M.take (q - c) ++ (M.drop (q - c) ++ S))) = P ++ (L ++ (M ++ S)) by rw [← List.append_assoc (M.take _), List.take_append_drop, List.append_assoc, ← List.append_assoc (L.take c), List.take_append_drop]]
          exact this
        · have := hp.trans hp4
          simpa using this
      case refine_3 =>
        have hb2 := of_decide_eq_false hb1
        have e5 : L.take c ++ (M.take (q - c) ++ (L.drop c ++ (M.drop (q - c) ++ S))) = L ++ (M ++ S) := by
          rcases Nat.lt_or_ge c L.length with h5 | h5
          · have : q - c = 0 := by omega
            rw [this, List.take_zero, List.drop_zero, List.nil_append, ← List.append_assoc, List.take_append_drop]
          · rw [List.drop_eq_nil_of_le h5, List.take_of_length_le h5, List.nil_append, ← List.append_assoc (M.take _), List.take_append_drop]
        rw [e5]; exact hp
      rintro _ h4 hp4
      refine joinK_intro (fun (b : Bool) h5 => h5 = h4 ∧ b = decide (0 < c ∧ c < q)) ?_ fun j hj => ifT_dec (fun h5 => hj _ _ ⟨rfl, by rw [decide_eq_decide]; omega⟩) fun h5 => hj _ _ ⟨rfl, by symm; rw [decide_eq_false_iff_not]; omega⟩
      rintro b h5 ⟨rfl, rfl⟩
      refine joinK_intro (fun (_ : PUnit) h6 => ∃ Z, Z.Perm (L.take c ++ M.take (q - c)) ∧ Z.Pairwise R ∧ PSg h' blk v (P ++ (Z ++ (L.drop c ++ (M.drop (q - c) ++ S)))) h6) ?_ fun j hj => ifT_intro (fun hb1 => ?_) fun hb1 => hj _ _ ⟨L.take c ++ M.take (q - c), List.Perm.refl _, ?_, by simpa using hp4⟩
      case refine_2 =>
        obtain ⟨hb2, hb3⟩ := of_decide_eq_true hb1
        refine hself _ _ _ _ _ (ih P (L.take c) (M.take (q - c)) (L.drop c ++ (M.drop (q - c) ++ S)) h5 _ _ _ _ (by omega) (List.length_pos_iff.1 (by omega)) (List.length_pos_iff.1 (by omega)) (by rw [hs']; simp; omega) hp4.1 rfl (by rw [l1]) (by rw [l1, m1]; congr 1; omega) (fun x hx => ?_) (ht.later hp4) pL.1 pM.1 (fun x hx y hy => hX x (List.mem_of_mem_take hx) y (List.mem_of_mem_take hy)) fun Z h6 hZ1 hZ2 hp6 => ⟨rfl, hj _ _ ⟨Z, hZ1, hZ2, hp4.trans hp6⟩⟩)
        rcases List.mem_append.1 hx with hx | hx
        · exact memL' x (List.mem_of_mem_take hx)
        · exact memM' x (List.mem_of_mem_take hx)
      case refine_3 =>
        have hb2 := of_decide_eq_false hb1
        rcases Nat.eq_zero_or_pos c with h6 | h6
        · rw [h6, List.take_zero, List.nil_append, ← h6]; exact pM.1
        · have : q - c = 0 := by omega
          rw [this, List.take_zero, List.append_nil]; exact pL.1
      rintro _ h6 ⟨Z, hZ1, hZ2, hp6⟩
      have zl : Z.length = q := by rw [hZ1.length_eq, List.length_append, l1, m1]; omega
      -- all together
      have done : ∀ W h7, W.Perm (L.drop c ++ M.drop (q - c)) → W.Pairwise R → PSg h' blk v (P ++ (Z ++ (W ++ S))) h7 → Q [] h7 := fun W h7 hW1 hW2 hp7 => by
        refine hQ (Z ++ W) h7 ?_ ?_ (by simpa using hp7)
        · refine (hZ1.append hW1).trans ?_
          rw [show L ++ M = L.take c ++ (L.drop c ++ (M.take (q - c) ++ M.drop (q - c))) by rw [List.take_append_drop, ← List.append_assoc, List.take_append_drop]]
          rw [List.append_assoc]
          refine List.Perm.append_left _ ?_
          rw [← List.append_assoc, ← List.append_assoc (L.drop c)]
          exact List.Perm.append_right _ List.perm_append_comm
        · rw [List.pairwise_append]
          refine ⟨hZ2, hW2, fun x hx y hy => ?_⟩
          rcases List.mem_append.1 (hZ1.mem_iff.1 hx) with hx | hx
          · rcases List.mem_append.1 (hW1.mem_iff.1 hy) with hy | hy
            · exact pL.2.2 x hx y hy
            · exact crossA x hx y hy
          · rcases List.mem_append.1 (hW1.mem_iff.1 hy) with hy | hy
            · exact crossB x hx y hy
            · exact pM.2.2 x hx y hy
      have flat : (L.drop c = [] ∨ M.drop (q - c) = []) → Q [] h6 := fun he => by
        refine done (L.drop c ++ M.drop (q - c)) h6 (List.Perm.refl _) ?_ (by simpa using hp6)
        rcases he with he | he
        · rw [he, List.nil_append]; exact pM.2.1
        · rw [he, List.append_nil]; exact pL.2.1
      refine ifT_dec (fun h7 => ifT_dec (fun h8 => ?_) fun h8 => flat (.inr (List.drop_eq_nil_of_le (by omega)))) fun h7 => flat (.inl (List.drop_eq_nil_of_le (by omega)))
      refine hself _ _ _ _ _ (ih (P ++ Z) (L.drop c) (M.drop (q - c)) S h6 _ _ _ _ (by omega) (List.length_pos_iff.1 (by omega)) (List.length_pos_iff.1 (by omega)) (by rw [hs']; simp; omega) (by have := hp6.1; simpa using this) (by rw [List.length_append, zl]) (by rw [List.length_append, zl, l2]; omega) (by rw [List.length_append, zl, l2, m2]; omega) (fun x hx => ?_) (ht.later hp6) pL.2.1 pM.2.1 (fun x hx y hy => hX x (List.mem_of_mem_drop hx) y (List.mem_of_mem_drop hy)) fun W h9 hW1 hW2 hp9 => ⟨rfl, done W h9 hW1 hW2 (by have := hp6.trans hp9; simpa using this)⟩)
      rcases List.mem_append.1 hx with hx | hx
      · exact memL' x (List.mem_of_mem_drop hx)
      · exact memM' x (List.mem_of_mem_drop hx)

/-- A row of sorted blocks. -/
inductive Ch (lt : α → α → Bool) (R : α → α → Prop) (b : Nat) : List α → Prop
  | last {L : List α} : L.length ≤ b → L.Pairwise R → Ch lt R b L
  | cons {L T : List α} : L.length = b → L.Pairwise R → Ch lt R b T → (∀ x ∈ L, ∀ y ∈ T, Xrel lt R x y) → Ch lt R b (L ++ T)
theorem Ch.short {lt : α → α → Bool} {R : α → α → Prop} {b : Nat} {T : List α} (h : Ch lt R b T) (hl : T.length ≤ b) : T.Pairwise R := by
  cases h with
  | last _ h => exact h
  | @cons L T h1 h2 h3 h4 =>
    simp only [List.length_append] at hl
    have : T = [] := List.length_eq_zero_iff.1 (by omega)
    subst this; rw [List.append_nil]; exact h2
theorem Ch.one {lt : α → α → Bool} {R : α → α → Prop} {b : Nat} {T : List α} (h : Ch lt R b T) (hl : b ≤ T.length) : ∃ L M, T = L ++ M ∧ L.length = b ∧ L.Pairwise R ∧ Ch lt R b M ∧ ∀ x ∈ L, ∀ y ∈ M, Xrel lt R x y := by
  cases h with
  | last h1 h2 => exact ⟨T, [], by simp, by omega, h2, .last (by simp) .nil, by simp⟩
  | @cons L T h1 h2 h3 h4 => exact ⟨L, T, rfl, h1, h2, h3, h4⟩

set_option maxHeartbeats 1000000 in
theorem stab_spec {I : Calls} {Q : Post} (hv : ∀ a, vk.fits (v a)) {ins rot sym sw g : FuncId} {caps : List (Nat × Nat)} {lt : α → α → Bool} {mem : α → Prop} (R : α → α → Prop)
    (hins : ∀ a b Q h, insF vk I s a b (some (g, caps)) Q h → I ins [.one (.slice vk.kds.length s), ii a, ii b, fp (some (g, caps))] Q h)
    (hrot : ∀ a m b Q h, rotF vk I sw s a m b (some (g, caps)) Q h → I rot [.one (.slice vk.kds.length s), ii a, ii m, ii b, fp (some (g, caps))] Q h)
    (hsw : ∀ a b n Q h, swapF vk s a b n Q h → I sw [.one (.slice vk.kds.length s), ii a, ii b, ii n, fp (some (g, caps))] Q h)
    (hself : ∀ a m b Q h, symF vk I rot sym s a m b (some (g, caps)) Q h → I sym [.one (.slice vk.kds.length s), ii a, ii m, ii b, fp (some (g, caps))] Q h)
    {xs : List α} {n1 : Int} (ha : s.a = some (blk, 0)) (hlen : s.len < 1000000000) (hs : s.len = xs.length) (hb : h blk = some (.cells false (rws v xs))) (h1 : n1 = (xs.length : Int))
    (hT : ∀ a b c, mem a → mem b → mem c → R a b → R b c → R a c) (hmem : ∀ x ∈ xs, mem x) (ht : TellsG I h blk g caps v mem lt) (hX : xs.Pairwise (Xrel lt R))
    (hQ : ∀ Z h', Z.Perm xs → Z.Pairwise R → PSg h blk v Z h' → Q [] h') : stabF vk I ins sym s n1 (some (g, caps)) Q h := by
  subst h1
  unfold stabF
  refine loopK_intro (fun (x : Int × Int) h' m => ∃ A T, x = ((A.length : Int), ((A.length + 20 : Nat) : Int)) ∧ (A ++ T).Perm xs ∧ T.Pairwise (Xrel lt R) ∧ m = T.length ∧ (∀ T', T'.Perm T → Ch lt R 20 T' → Ch lt R 20 (A ++ T')) ∧ PSg h blk v (A ++ T) h') xs.length
    ⟨[], xs, rfl, List.Perm.refl _, hX, rfl, fun _ _ h => h, hb, fun _ _ _ h => h⟩ ?_
  rintro x h' m ⟨A, T, rfl, hp, hTX, rfl, hinv, hps⟩
  dsimp only [uncur]
  have hcnt : A.length + T.length = xs.length := by have := hp.length_eq; simpa using this
  have hmT : ∀ x ∈ T, mem x := fun x hx => hmem x (hp.mem_iff.1 (List.mem_append_right _ hx))
  refine ifT_dec (fun hle => ?_) fun hgt => ?_
  · have h20 : 20 ≤ T.length := by omega
    have l1 : (T.take 20).length = 20 := by rw [List.length_take]; omega
    have eT : T = T.take 20 ++ T.drop 20 := (List.take_append_drop 20 T).symm
    have pT := hTX
    rw [eT, List.pairwise_append] at pT
    refine hins _ _ _ _ (ins_spec hv (P := A) (xs := T.take 20) (S := T.drop 20) R ha (by rw [List.take_append_drop, hs, List.length_append, hcnt]) (by rw [List.take_append_drop]; exact hps.1) rfl (by rw [l1]) hlen (fun x hx => hmT x (List.mem_of_mem_take hx)) (ht.later hps) pT.1
      (fun a b c ha hb hc => hT a b c (hmT a (List.mem_of_mem_take ha)) (hmT b (List.mem_of_mem_take hb)) (hmT c (List.mem_of_mem_take hc))) fun ys h2 hy1 hy2 hy3 => ⟨rfl, (T.drop 20).length, by rw [List.length_drop]; omega, A ++ ys, T.drop 20, ?_, ?_, pT.2.1, rfl, ?_, ?_⟩)
    · have hyl : ys.length = 20 := by rw [hy1.length_eq, l1]
      rw [w64i_eq (by omega) (by omega), List.length_append, hyl]; congr 1
    · rw [List.append_assoc]
      refine (List.Perm.append_left A (List.Perm.append_right _ hy1)).trans ?_
      rw [List.take_append_drop]; exact hp
    · intro T' hT1 hT2
      rw [List.append_assoc]
      refine hinv _ ?_ (.cons (by rw [hy1.length_eq, l1]) hy2 hT2 fun x hx y hy => pT.2.2 x (hy1.mem_iff.1 hx) y (hT1.mem_iff.1 hy))
      exact (hy1.append hT1).trans (by rw [List.take_append_drop])
    · have := hps.trans hy3
      simpa using this
  · refine hins _ _ _ _ (ins_spec hv (P := A) (xs := T) (S := []) R ha (by rw [List.append_nil, hs, List.length_append, hcnt]) (by rw [List.append_nil]; exact hps.1) rfl (by rw [hcnt]) hlen hmT (ht.later hps) hTX
      (fun a b c ha hb hc => hT a b c (hmT a ha) (hmT b hb) (hmT c hc)) fun ys h2 hy1 hy2 hy3 => ⟨rfl, ?_⟩)
    rw [List.append_nil] at hy3
    refine loopK_intro (fun (x : Int) h3 m => ∃ (b : Nat) (D : List α), x = (b : Int) ∧ 20 ≤ b ∧ m = 2 * xs.length + 20 - b ∧ b < 2 * xs.length + 21 ∧ D.Perm xs ∧ Ch lt R b D ∧ PSg h blk v D h3) (2 * xs.length + 20 - 20)
      ⟨20, A ++ ys, rfl, Nat.le_refl _, rfl, by omega, (List.Perm.append_left A hy1).trans hp, hinv ys hy1 (.last (by rw [hy1.length_eq]; omega) hy2), hps.trans hy3⟩ ?_
    rintro x h3 m ⟨b, D, rfl, hb20, rfl, hbm, hD, hCh, hpD⟩
    have hDl : D.length = xs.length := hD.length_eq
    refine ifT_dec (fun hlt => ?_) fun hge => hQ D h3 hD (hCh.short (by omega)) hpD
    have e2 : w64i (2 * (b : Int)) = ((2 * b : Nat) : Int) := by rw [w64i_eq] <;> omega
    have e2' : w64i ((b : Int) * 2) = ((2 * b : Nat) : Int) := by rw [w64i_eq] <;> omega
    rw [e2, e2']
    refine loopK_intro (fun (x : Int × Int) h4 m => ∃ A T, x = ((A.length : Int), ((A.length + 2 * b : Nat) : Int)) ∧ (A ++ T).Perm xs ∧ Ch lt R b T ∧ m = T.length ∧ (∀ T', T'.Perm T → Ch lt R (2 * b) T' → Ch lt R (2 * b) (A ++ T')) ∧ PSg h blk v (A ++ T) h4) D.length
      ⟨[], D, by simp, hD, hCh, rfl, fun _ _ h => h, hpD⟩ ?_
    clear hinv hps hp hTX hy1 hy2 hy3 hcnt hmT hgt
    rintro x h4 m ⟨A, T, rfl, hp, hCT, rfl, hinv, hps⟩
    dsimp only [uncur]
    have hcnt : A.length + T.length = xs.length := by have := hp.length_eq; simpa using this
    have hmT : ∀ x ∈ T, mem x := fun x hx => hmem x (hp.mem_iff.1 (List.mem_append_right _ hx))
    have ea : w64i ((A.length : Int) + (b : Int)) = ((A.length + b : Nat) : Int) := by rw [w64i_eq] <;> omega
    have ea2 : w64i (((A.length + 2 * b : Nat) : Int) + ((2 * b : Nat) : Int)) = ((A.length + 2 * b + 2 * b : Nat) : Int) := by rw [w64i_eq] <;> omega
    rw [ea, ea2]
    refine ifT_dec (fun hle => ?_) fun hgt => ifT_dec (fun hmid => ?_) fun hmid => ?_
    · obtain ⟨L, T1, rfl, hL1, hL2, hL3, hL4⟩ := hCT.one (by omega)
      simp only [List.length_append] at hcnt
      obtain ⟨M, T2, rfl, hM1, hM2, hM3, hM4⟩ := hL3.one (by omega)
      simp only [List.length_append] at hcnt
      refine hself _ _ _ _ _ (sym_spec hv R sw hrot hsw hself ha hlen hT (L.length + M.length) A L M T2 h4 _ _ _ _ (Nat.le_refl _) (List.length_pos_iff.1 (by omega)) (List.length_pos_iff.1 (by omega)) (by simp; omega) hps.1 rfl (by rw [hL1]) (by rw [hL1, hM1]; congr 1; omega)
        (fun x hx => hmT x (by rw [← List.append_assoc]; exact List.mem_append_left _ hx)) (ht.later hps) hL2 hM2 (fun x hx y hy => hL4 x hx y (List.mem_append_left _ hy)) fun Z h5 hZ1 hZ2 hp5 => ⟨rfl, T2.length, by simp; omega, A ++ Z, T2, ?_, ?_, hM3, rfl, ?_, ?_⟩)
      · have hzl : Z.length = 2 * b := by rw [hZ1.length_eq, List.length_append]; omega
        rw [List.length_append, hzl]
      · rw [List.append_assoc]
        refine (List.Perm.append_left A (List.Perm.append_right _ hZ1)).trans ?_
        rw [List.append_assoc]; exact hp
      · intro T' hT1 hT2
        rw [List.append_assoc]
        refine hinv _ ((hZ1.append hT1).trans (by rw [List.append_assoc])) (.cons (by rw [hZ1.length_eq, List.length_append]; omega) hZ2 hT2 fun x hx y hy => ?_)
        rcases List.mem_append.1 (hZ1.mem_iff.1 hx) with hx | hx
        · exact hL4 x hx y (List.mem_append_right _ (hT1.mem_iff.1 hy))
        · exact hM4 x hx y (hT1.mem_iff.1 hy)
      · have := hps.trans hp5
        simpa using this
    · obtain ⟨L, M, rfl, hL1, hL2, hL3, hL4⟩ := hCT.one (by omega)
      simp only [List.length_append] at hcnt
      have hMs := hL3.short (by omega)
      refine hself _ _ _ _ _ (sym_spec hv R sw hrot hsw hself ha hlen hT (L.length + M.length) A L M [] h4 _ _ _ _ (Nat.le_refl _) (List.length_pos_iff.1 (by omega)) (List.length_pos_iff.1 (by omega)) (by simp; omega) (by rw [List.append_nil]; exact hps.1) rfl (by rw [hL1]) (by congr 1; omega)
        (fun x hx => hmT x hx) (ht.later hps) hL2 hMs hL4 fun Z h5 hZ1 hZ2 hp5 => ⟨rfl, 2 * xs.length + 20 - 2 * b, by omega, 2 * b, A ++ Z, rfl, by omega, rfl, by omega, (List.Perm.append_left A hZ1).trans hp, hinv Z hZ1 (.last (by rw [hZ1.length_eq, List.length_append]; omega) hZ2), ?_⟩)
      have := hps.trans hp5
      simpa using this
    · exact ⟨2 * xs.length + 20 - 2 * b, by omega, 2 * b, A ++ T, rfl, by omega, rfl, by omega, hp, hinv T (List.Perm.refl _) (.last (by omega) (hCT.short (by omega))), hps⟩
end
end Go.Proofs.YtdjancoknephnaaGreatVc
