/- Contract: cells are folded. -/
import Derived.Test.YtfemminjhecocaaVcFoSpec2
set_option linter.unusedSimpArgs false
set_option linter.unusedVariables false
namespace Go.Proofs.YtfemminjhecocaaVc
open Go.Proofs.Try (prog)
section
variable {I : Calls} {Q : Post} {h : Heap}
theorem strs_snoc (a : List ByteArray) (x : ByteArray) : strs (a ++ [x]) = strs a ++ [.str x] := by simp [strs]
theorem rows_snoc (a : List Cel) (x : Cel) : rows celC (a ++ [x]) = rows celC a ++ celC x := by simp [rows]
theorem prK_snoc {keep : List Int} {j : Nat} {k : Int} {c : Cel} {s : ByteArray} (hk : keep[j]? = some k) (hs : c.keys[k.toNat]? = some s) : prK (keep.take (j + 1)) c = prK (keep.take j) c ++ [s] := by
  unfold prK
  rw [take_snoc hk, List.map_append]
  simp [hs]
theorem set_last {P : List Cel} {l d : Cel} : (P ++ [l]).set P.length d = P ++ [d] := by simp
theorem bnd_add {B a b : Int} {i : Nat} (h1 : -(B * i) ≤ a ∧ a ≤ B * i) (h2 : -B ≤ b ∧ b ≤ B) : -(B * (i + 1 : Nat)) ≤ a + b ∧ a + b ≤ B * (i + 1 : Nat) := by
  have : B * ((i + 1 : Nat) : Int) = B * i + B := by rw [Int.natCast_add, Int.mul_add]; simp
  omega
theorem bnd_mono {B a : Int} {i : Nat} (hB : 0 ≤ B) (h1 : -(B * i) ≤ a ∧ a ≤ B * i) : -(B * (i + 1 : Nat)) ≤ a ∧ a ≤ B * (i + 1 : Nat) := by
  have := bnd_add (b := 0) h1 ⟨by omega, hB⟩
  simpa using this

/-- The cells with the keys that are kept. -/
theorem fold_part (hI : Closed' prog Pm I) {s t : Sl} {xs : List Cel} {keep : List Int} (hx : Cels h s xs) (hkp : At h 1 t (ints keep)) (hl : xs.length ≤ 2000) (hkl : keep.length < 1000) (hin : ∀ c ∈ xs, ∀ k ∈ keep, 0 ≤ k ∧ k < (c.keys.length : Int))
    {F : Sl → T} (hF : ∀ s' ps L h', Owns h h' ((3, s', rows celC ps) :: L) → ps.map pc = xs.map (fun c => (prK keep c, c.many, c.cents)) → (∀ p ∈ ps, (1, p.kl, strs p.keys) ∈ L) → F s' h') :
    loopK (A := Sl × Int) (({ a := none, len := 0 }, 0))
              (fun x22 => uncur fun l23 n24 => ifT (decide (n24 < (↑s.len : Int)))
                (fun h25 =>
                ((0 ≤ n24) ∧
                n24 < (↑s.len : Int)) ∧
                (derefK s.a (fun i26 => fun i27 => fun h28 =>
                ∃ l29 : Sl, ∃ n30 : Int, ∃ n31 : Int, (h28.read i26 (i27 + n24.toNat * 3) 3 = some [Cell.slice 1 l29, Cell.int IntKind.i64 n30, Cell.int IntKind.i64 n31]) ∧
                (loopK (A := (Sl × Int × Int × PUnit) × Int) ((({ a := none, len := 0 }, n30, n31, ()), 0))
                  (fun x32 => uncur (uncur fun l33 => uncur fun n34 => uncur fun n35 x36 => fun n37 => ifT (decide (n37 < (↑t.len : Int)))
                    (fun h38 =>
                    ((0 ≤ n37) ∧
                    n37 < (↑t.len : Int)) ∧
                    (derefK t.a (fun i39 => fun i40 => fun h41 =>
                    ∃ n42 : Int, (h41.read i39 (i40 + n37.toNat * 1) 1 = some [Cell.int IntKind.i64 n42]) ∧
                    ((0 ≤ n42) ∧
                    n42 < (↑l29.len : Int)) ∧
                    (derefK l29.a (fun i43 => fun i44 => fun h45 =>
                    ∃ s46 : ByteArray, (h45.read i43 (i44 + n42.toNat * 1) 1 = some [Cell.str s46]) ∧
                    (appendTo [] 1 16 l33 1 [Cell.str s46] (fun l47 => fun h48 => 
                    x32 (((l47, n34, n35, ()), IntKind.i64.wrap (n37 + 1))) h48)) h45)) h41)) h38)
                    (fun h49 =>
                    (appendTo [] 3 40 l23 1 [Cell.slice 1 l33, Cell.int IntKind.i64 n34, Cell.int IntKind.i64 n35] (fun l50 => fun h51 => 
                    x22 ((l50, IntKind.i64.wrap (n24 + 1))) h51)) h49)))) h28)) h25)
                (F l23)) h := by
  have ls := hx.len
  have lt : t.len = keep.length := by have := hkp.1; simpa [ints] using this
  refine loopK_intro (fun (a : Sl × Int) h' m => ∃ (i : Nat) (ps : List Cel) (L : List Ow), i ≤ xs.length ∧ a.2 = i ∧ xs.length - i = m ∧ ps.length = i ∧ Owns h h' ((3, a.1, rows celC ps) :: L) ∧
      ps.map pc = (xs.take i).map (fun c => (prK keep c, c.many, c.cents)) ∧ ∀ p ∈ ps, (1, p.kl, strs p.keys) ∈ L) xs.length
    ⟨0, [], [], by omega, rfl, rfl, rfl, (Owns.nil h).none_ 3, rfl, by simp⟩ ?_
  rintro ⟨s', n⟩ h' m ⟨i, ps, L, hi, rfl, rfl, hpl, o, hps, hkeys⟩
  dsimp only [uncur] at o ⊢
  refine ifT_dec (fun hlt => ⟨⟨by omega, hlt⟩, ?_⟩) fun hge => ?_
  · have hc := List.getElem?_eq_getElem (show i < xs.length by omega)
    generalize xs[i] = c at hc
    have hcm := List.mem_of_getElem? hc
    have lc := strs_len (hx.keys c hcm)
    refine (o.ext.at_ hx.at_).row celC_length (by decide) hc fun bb oo hr => ⟨c.kl, c.many, c.cents, hr, ?_⟩
    refine loopK_intro (fun (a : (Sl × Int × Int × PUnit) × Int) g m => ∃ (j : Nat), j ≤ keep.length ∧ a = ((a.1.1, c.many, c.cents, ()), (j : Int)) ∧ keep.length - j = m ∧ Owns h g ((1, a.1.1, strs (prK (keep.take j) c)) :: (3, s', rows celC ps) :: L)) keep.length
      ⟨0, by omega, rfl, rfl, by simpa [prK, strs] using o.none_ 1⟩ ?_
    rintro ⟨⟨s3, n2, n3, u⟩, n4⟩ g m ⟨j, hj, he, rfl, o2⟩
    obtain ⟨⟨rfl, rfl, -⟩, rfl⟩ : (n2 = c.many ∧ n3 = c.cents ∧ True) ∧ n4 = (j : Int) := by simp at he; exact ⟨⟨he.1.1, he.1.2, trivial⟩, he.2⟩
    dsimp only [uncur] at o2 ⊢
    have ls3 : s3.len = j := by
      have := strs_len (o2.at_ List.mem_cons_self)
      rw [this]; simp [prK]; omega
    refine ifT_dec (fun hlt2 => ⟨⟨by omega, hlt2⟩, ?_⟩) fun hge2 => ?_
    · have hk := List.getElem?_eq_getElem (show j < keep.length by omega)
      generalize keep[j] = k at hk
      obtain ⟨hk0, hk1⟩ := hin c hcm k (List.mem_of_getElem? hk)
      refine (o2.ext.at_ hkp).cell (ints_get hk) fun b1 o1 hr1 => ⟨k, hr1, ⟨hk0, by omega⟩, ?_⟩
      obtain ⟨k, rfl⟩ := Int.eq_ofNat_of_zero_le hk0
      have hs := List.getElem?_eq_getElem (show k < c.keys.length by omega)
      generalize c.keys[k] = x at hs
      refine (o2.ext.at_ (hx.keys c hcm)).strRow hs fun b2 o22 hr2 => ⟨x, hr2, ?_⟩
      refine appendTo_owns (m := 0) o2 rfl (by omega) (by simp) fun bn g2 o3 => ⟨keep.length - (j + 1), by omega, j + 1, by omega, ?_, rfl, ?_⟩
      · rw [show IntKind.i64.wrap ((j : Int) + 1) = ((j + 1 : Nat) : Int) by rw [w64] <;> omega]
      · rw [prK_snoc hk (s := x) (by simpa using hs), strs_snoc]; exact o3
    · have hjk : j = keep.length := by omega
      subst hjk
      rw [List.take_length] at o2
      refine appendTo_owns (m := 0) o2.swp rfl (by rw [(o2.at_ (sz := 3) (s := s') (cs := rows celC ps) (by simp)).rowsLen celC_length (by decide)]; omega) (by simp) fun bn g2 o3 => ⟨xs.length - (i + 1), by omega, i + 1, ps ++ [⟨s3, prK keep c, c.many, c.cents⟩], (1, s3, strs (prK keep c)) :: L, by omega, ?_, rfl, by simp [hpl], ?_, ?_, ?_⟩
      · show IntKind.i64.wrap _ = _; rw [w64] <;> omega
      · rw [rows_snoc]; exact o3
      · rw [take_snoc hc, List.map_append, List.map_append, hps]; rfl
      · intro p hp
        rcases List.mem_append.1 hp with hp | hp
        · exact List.mem_cons_of_mem _ (hkeys p hp)
        · have := List.mem_singleton.1 hp; subst this; exact List.mem_cons_self
  · have : i = xs.length := by omega
    subst this
    rw [List.take_length] at hps
    exact hF s' ps L h' o hps hkeys
end
end Go.Proofs.YtfemminjhecocaaVc
