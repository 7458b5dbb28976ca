/- Contract: cells are folded, the whole. -/
import Derived.Test.YtfemminjhecocaaVcFoSpec3
set_option linter.unusedSimpArgs false
set_option linter.unusedVariables false
namespace Go.Proofs.YtfemminjhecocaaVc
open Go.Proofs.Try (prog)
section
variable {I : Calls} {Q : Post} {h : Heap}
abbrev Small (i : Nat) (c : Cel) : Prop := (-(1000000 * (i : Int)) ≤ c.many ∧ c.many ≤ 1000000 * i) ∧ (-(1000000000000 * (i : Int)) ≤ c.cents ∧ c.cents ≤ 1000000000000 * i)
theorem Small.up {i : Nat} {c : Cel} (s : Small i c) : Small (i + 1) c := ⟨bnd_mono (by decide) s.1, bnd_mono (by decide) s.2⟩
/-- A row is added up. -/
theorem sum_part (hI : Closed' prog Pm I) {h0 : Heap} {a : Sl} {Z : List Cel} {L : List Ow} (o0 : Owns h0 h ((3, a, rows celC Z) :: L)) (hl : Z.length ≤ 2000) (hkeys : ∀ p ∈ Z, (1, p.kl, strs p.keys) ∈ L) (hkl : ∀ p ∈ Z, p.keys.length < 1000000)
    (hb : ∀ p ∈ Z, Small 1 p) {F : Sl → T} (hF : ∀ s' h', Owns h0 h' ((3, s', rows celC (mergeC Z)) :: (3, a, rows celC Z) :: L) → F s' h') :
    loopK (A := Sl × Int) (({ a := none, len := 0 }, 0))
                    (fun x55 => uncur fun l56 n57 => ifT (decide (n57 < (↑a.len : Int)))
                      (fun h58 =>
                      ((0 ≤ n57) ∧
                      n57 < (↑a.len : Int)) ∧
                      (derefK a.a (fun i59 => fun i60 => fun h61 =>
                      ∃ l62 : Sl, ∃ n63 : Int, ∃ n64 : Int, (h61.read i59 (i60 + n57.toNat * 3) 3 = some [Cell.slice 1 l62, Cell.int IntKind.i64 n63, Cell.int IntKind.i64 n64]) ∧
                      (joinK (A := Bool)
                        (fun b65 => ifT b65
                          (fun h66 =>
                          ((0 ≤ IntKind.i64.wrap ((↑l56.len : Int) - 1)) ∧
                          IntKind.i64.wrap ((↑l56.len : Int) - 1) < (↑l56.len : Int)) ∧
                          (derefK l56.a (fun i67 => fun i68 => fun h69 =>
                          ∃ n70 : Int, (h69.read i67 (i68 + (IntKind.i64.wrap ((↑l56.len : Int) - 1)).toNat * 3 + 1) 1 = some [Cell.int IntKind.i64 n70]) ∧
                          ((0 ≤ IntKind.i64.wrap ((↑l56.len : Int) - 1)) ∧
                          IntKind.i64.wrap ((↑l56.len : Int) - 1) < (↑l56.len : Int)) ∧
                          (derefK l56.a (fun i71 => fun i72 => fun h73 =>
                          (storeK [] i71 (i72 + (IntKind.i64.wrap ((↑l56.len : Int) - 1)).toNat * 3 + 1) [Cell.int IntKind.i64 (IntKind.i64.wrap (n70 + n63))] (fun h74 =>
                          ((0 ≤ IntKind.i64.wrap ((↑l56.len : Int) - 1)) ∧
                          IntKind.i64.wrap ((↑l56.len : Int) - 1) < (↑l56.len : Int)) ∧
                          (derefK l56.a (fun i75 => fun i76 => fun h77 =>
                          ∃ n78 : Int, (h77.read i75 (i76 + (IntKind.i64.wrap ((↑l56.len : Int) - 1)).toNat * 3 + 2) 1 = some [Cell.int IntKind.i64 n78]) ∧
                          ((0 ≤ IntKind.i64.wrap ((↑l56.len : Int) - 1)) ∧
                          IntKind.i64.wrap ((↑l56.len : Int) - 1) < (↑l56.len : Int)) ∧
                          (derefK l56.a (fun i79 => fun i80 => fun h81 =>
                          (storeK [] i79 (i80 + (IntKind.i64.wrap ((↑l56.len : Int) - 1)).toNat * 3 + 2) [Cell.int IntKind.i64 (IntKind.i64.wrap (n78 + n64))] (x55 ((l56, IntKind.i64.wrap (n57 + 1))))) h81)) h77)) h74)) h73)) h69)) h66)
                          (fun h82 =>
                          (appendTo [] 3 40 l56 1 [Cell.slice 1 l62, Cell.int IntKind.i64 n63, Cell.int IntKind.i64 n64] (fun l83 => fun h84 => 
                          x55 ((l83, IntKind.i64.wrap (n57 + 1))) h84)) h82))
                        (fun x85 => ifT (decide (IntKind.i64.wrap ((↑l56.len : Int) - 1) ≥ 0))
                          (fun h86 =>
                          ((0 ≤ IntKind.i64.wrap ((↑l56.len : Int) - 1)) ∧
                          IntKind.i64.wrap ((↑l56.len : Int) - 1) < (↑l56.len : Int)) ∧
                          (derefK l56.a (fun i87 => fun i88 => fun h89 =>
                          ∃ l90 : Sl, (h89.read i87 (i88 + (IntKind.i64.wrap ((↑l56.len : Int) - 1)).toNat * 3 + 0) 1 = some [Cell.slice 1 l90]) ∧
                          I 31 [V.one (Cell.slice 1 l90), V.one (Cell.slice 1 l62)]
                            (fun cs91 => fun h92 => 
                            ∃ b93 : Bool, (cs91 = [V.one (Cell.bool b93)]) ∧
                            x85 b93 h92) h89)) h86)
                          (x85 false))) h61)) h58)
                      (F l56)) h := by
  have la : a.len = Z.length := (o0.at_ List.mem_cons_self).rowsLen celC_length (by decide)
  refine loopK_intro (fun (p : Sl × Int) h' m => ∃ (i : Nat) (out : List Cel), i ≤ Z.length ∧ p.2 = i ∧ Z.length - i = m ∧ out = (Z.take i).foldl addC [] ∧ Owns h0 h' ((3, p.1, rows celC out) :: (3, a, rows celC Z) :: L) ∧
      out.length ≤ i ∧ (∀ c ∈ out, Small i c) ∧ ∀ c ∈ out, (1, c.kl, strs c.keys) ∈ L ∧ c.keys.length < 1000000) Z.length
    ⟨0, [], by omega, rfl, rfl, rfl, o0.none_ 3, by simp, (fun _ h => by cases h), fun _ h => by cases h⟩ ?_
  rintro ⟨s', n⟩ h' m ⟨i, out, hi, rfl, rfl, ho, o, hol, hsm, hok⟩
  dsimp only [uncur] at o ⊢
  refine ifT_dec (fun hlt => ⟨⟨by omega, hlt⟩, ?_⟩) fun hge => ?_
  · have hc := List.getElem?_eq_getElem (show i < Z.length by omega)
    generalize Z[i] = c at hc
    have hcm := List.mem_of_getElem? hc
    have ls : s'.len = out.length := (o.at_ List.mem_cons_self).rowsLen celC_length (by decide)
    have hcL : (1, c.kl, strs c.keys) ∈ L := hkeys c hcm
    have hnext : (Z.take (i + 1)).foldl addC [] = addC out c := by rw [take_snoc hc, List.foldl_append, ← ho]; rfl
    have ew : IntKind.i64.wrap ((i : Int) + 1) = ((i + 1 : Nat) : Int) := by rw [w64] <;> omega
    refine (o.at_ (sz := 3) (s := a) (cs := rows celC Z) (by simp)).row celC_length (by decide) hc fun bb oo hr => ⟨c.kl, c.many, c.cents, hr, ?_⟩
    refine joinK_intro (fun (b : Bool) g => g = h' ∧ (b = true → ∃ P l, out = P ++ [l] ∧ l.keys = c.keys) ∧ (b = false → addC out c = out ++ [c])) ?_ fun jk hjk => ?_
    case refine_2 =>
      rcases last_cases out with e | ⟨P, l, e⟩
      · have h0 : s'.len = 0 := by rw [ls, e]; rfl
        rw [h0]
        refine ifT_dec (fun h1 => absurd h1 (by decide)) fun _ => hjk _ _ ⟨rfl, (fun h1 => by cases h1), fun _ => by rw [e]; rfl⟩
      · have hlen : s'.len = P.length + 1 := by rw [ls, e]; simp
        have ew2 : IntKind.i64.wrap ((s'.len : Int) - 1) = (P.length : Int) := by
          have : out.length = P.length + 1 := by rw [e]; simp
          rw [w64] <;> omega
        rw [ew2]
        have hx : out[P.length]? = some l := by rw [e]; simp
        refine ifT_dec (fun _ => ⟨⟨by omega, by omega⟩, ?_⟩) fun h1 => absurd h1 (by omega)
        refine (o.at_ List.mem_cons_self).rowCell celC_length (by decide) (j := 0) (c := .slice 1 l.kl) hx rfl fun bb oo hr => ⟨l.kl, hr, ?_⟩
        obtain ⟨hlL, hl6⟩ := hok l (by rw [e]; simp)
        refine spec31 hI (a := l.keys) (b := c.keys) (o.at_ (sz := 1) (s := l.kl) (cs := strs l.keys) (by simp [hlL])) (o.at_ (sz := 1) (s := c.kl) (cs := strs c.keys) (by simp [hcL])) hl6 ⟨_, rfl, hjk _ _ ⟨rfl, fun h1 => ⟨P, l, e, of_decide_eq_true h1⟩, fun h1 => by rw [e]; exact addC_ne (of_decide_eq_false h1)⟩⟩
    rintro b g ⟨rfl, hbt, hbf⟩
    refine ifT_intro (fun hb1 => ?_) fun hb1 => ?_
    · obtain ⟨P, l, e, hk⟩ := hbt hb1
      subst e
      have hlen : s'.len = P.length + 1 := by rw [ls]; simp
      have ew2 : IntKind.i64.wrap ((s'.len : Int) - 1) = (P.length : Int) := by
        simp only [List.length_append, List.length_singleton] at hol
        rw [w64] <;> omega
      rw [ew2]
      have hx : (P ++ [l])[P.length]? = some l := by simp
      have hne : rows celC (P ++ [l]) ≠ [] := by
        rw [rows_snoc]; simp [celC]
      obtain ⟨bi, hs', hbi⟩ := o.has List.mem_cons_self hne
      have hll : (rows celC (P ++ [l])).length = (P.length + 1) * 3 := by rw [rows_length celC_length]; simp
      have hcell : ∀ (d : Cel) {j : Nat} {x : Cell} {g : Heap}, g bi = some (.cells false (rows celC (P ++ [d]))) → (celC d)[j]? = some x → g.read bi (0 + ((P.length : Nat) : Int).toNat * 3 + j) 1 = some [x] := fun d j x g hg hj => by
        rw [Int.toNat_natCast, Nat.zero_add]
        exact read_cell hg (rows_cell celC_length (by simp) hj)
      have hsa : s'.a = some (bi, 0) := by rw [hs']
      obtain ⟨sm1, sm2⟩ := hsm l (by simp)
      obtain ⟨sc1, sc2⟩ := hb c hcm
      have n1 := bnd_add (b := c.many) sm1 (by omega)
      have n2 := bnd_add (b := c.cents) sm2 (by omega)
      have w1 : IntKind.i64.wrap (l.many + c.many) = l.many + c.many := by rw [w64] <;> omega
      have w2 : IntKind.i64.wrap (l.cents + c.cents) = l.cents + c.cents := by rw [w64] <;> omega
      refine ⟨⟨by omega, by omega⟩, derefK_intro hsa ⟨l.many, hcell l hbi rfl, ⟨by omega, by omega⟩, derefK_intro hsa ?_⟩⟩
      rw [w1]
      refine storeK_one hbi (by rw [hll, Int.toNat_natCast]; omega) ?_
      have st1 : (rows celC (P ++ [l])).set (0 + ((P.length : Nat) : Int).toNat * 3 + 1) (.int .i64 (l.many + c.many)) = rows celC (P ++ [⟨l.kl, l.keys, l.many + c.many, l.cents⟩]) := by
        rw [Int.toNat_natCast, Nat.zero_add, rows_set celC_length hx (b := ⟨l.kl, l.keys, l.many + c.many, l.cents⟩) (by decide) rfl, set_last]
      rw [st1]
      have hb2 := set_eq g bi (.cells false (rows celC (P ++ [(⟨l.kl, l.keys, l.many + c.many, l.cents⟩ : Cel)])))
      refine ⟨⟨by omega, by omega⟩, derefK_intro hsa ⟨l.cents, hcell _ hb2 rfl, ⟨by omega, by omega⟩, derefK_intro hsa ?_⟩⟩
      rw [w2]
      refine storeK_one hb2 (by rw [rows_length celC_length, Int.toNat_natCast]; simp; omega) ?_
      have st2 : (rows celC (P ++ [(⟨l.kl, l.keys, l.many + c.many, l.cents⟩ : Cel)])).set (0 + ((P.length : Nat) : Int).toNat * 3 + 2) (.int .i64 (l.cents + c.cents)) = rows celC (P ++ [⟨l.kl, l.keys, l.many + c.many, l.cents + c.cents⟩]) := by
        rw [Int.toNat_natCast, Nat.zero_add, rows_set celC_length (show (P ++ [(⟨l.kl, l.keys, l.many + c.many, l.cents⟩ : Cel)])[P.length]? = some (⟨l.kl, l.keys, l.many + c.many, l.cents⟩ : Cel) by simp) (b := ⟨l.kl, l.keys, l.many + c.many, l.cents + c.cents⟩) (by decide) rfl, set_last]
      rw [st2, set_set]
      have hadd := addC_eq (P := P) hk
      refine ⟨Z.length - (i + 1), by omega, i + 1, addC (P ++ [l]) c, by omega, ew, rfl, hnext.symm, ?_, ?_, ?_, ?_⟩
      · rw [hadd]
        have o2 : Owns h0 g ((3, ⟨some (bi, 0), s'.len⟩, rows celC (P ++ [l])) :: (3, a, rows celC Z) :: L) := by rw [← hs']; exact o
        have o3 := o2.change (n' := s'.len) (sz' := 3) (cs' := rows celC (P ++ [⟨l.kl, l.keys, l.many + c.many, l.cents + c.cents⟩])) (by rw [rows_length celC_length, hlen]; simp)
        rw [← hs'] at o3
        exact o3
      · rw [hadd]; simp only [List.length_append, List.length_singleton] at hol ⊢; omega
      · intro d hd
        rw [hadd] at hd
        rcases List.mem_append.1 hd with hd | hd
        · exact (hsm d (by simp [hd])).up
        · have := List.mem_singleton.1 hd; subst this; exact ⟨n1, n2⟩
      · intro d hd
        rw [hadd] at hd
        rcases List.mem_append.1 hd with hd | hd
        · exact hok d (by simp [hd])
        · have := List.mem_singleton.1 hd; subst this; exact hok l (by simp)
    · have hadd := hbf hb1
      refine appendTo_owns (m := 0) o rfl (by omega) (by simp) fun bn g2 o3 => ⟨Z.length - (i + 1), by omega, i + 1, addC out c, by omega, ew, rfl, hnext.symm, ?_, ?_, ?_, ?_⟩
      · rw [hadd, rows_snoc]; exact o3
      · rw [hadd]; simp; omega
      · intro d hd
        rw [hadd] at hd
        rcases List.mem_append.1 hd with hd | hd
        · exact (hsm d hd).up
        · have := List.mem_singleton.1 hd; subst this
          obtain ⟨sc1, sc2⟩ := hb d hcm
          exact ⟨by omega, by omega⟩
      · intro d hd
        rw [hadd] at hd
        rcases List.mem_append.1 hd with hd | hd
        · exact hok d hd
        · have := List.mem_singleton.1 hd; subst this; exact ⟨hcL, hkl d hcm⟩
  · have : i = Z.length := by omega
    subst this
    rw [List.take_length] at ho
    refine hF s' h' ?_
    unfold mergeC
    rw [← ho]; exact o
end
end Go.Proofs.YtfemminjhecocaaVc
