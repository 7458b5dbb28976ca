/- StepsFall: the law's contract. -/
import Derived.Test.YtfemminjhecocaaVcStSpec2
import Derived.Test.YtfemminjhecocaaVcStKeys
set_option linter.unusedSimpArgs false
set_option linter.unusedVariables false
namespace Go.Proofs.YtfemminjhecocaaVc
open Go.Proofs.Try (prog)
theorem letters_eq {ks a b : List ByteArray} (ha : a.Perm ks) (hb : b.Perm ks) (h1 : a.Pairwise (fun a b => bl a ≤ bl b)) (h2 : b.Pairwise (fun a b => bl a ≤ bl b)) : a = b := by
  refine List.Perm.eq_of_pairwise (le := fun a b => bl a ≤ bl b) (fun x y _ _ h3 h4 => ?_) h1 h2 (ha.trans hb.symm)
  exact bl_inj (List.le_antisymm h3 h4)
section
variable {I : Calls} {h : Heap}
theorem spec3 (hI : Closed' prog Pm I) {s : Sl} {zs : List Int} (hs : At h 1 s (ints zs)) : I 3 [.one (.slice 1 s)] tru h := by
  refine hI.go _ _ (den3 I s tru) ?_
  refine newK_intro fun i2 h1 hn1 he1 => ?_
  have S0 : Strm h1 i2 s zs 0 := he1 ▸ Strm.make hs hn1
  refine spec5 hI S0 (by decide) S0.owns (by decide) fun l6 h6 xs t6 o6 ht6 hxl => ⟨l6, rfl, ?_⟩
  refine spec6 hI S0 o6 (by omega) (List.mem_cons_self) hxl fun l9 h9 acs t9 o9 ht9 hal => ⟨l9, rfl, ?_⟩
  refine spec7 hI (o9.toStrm S0 (t' := t9) (by simp) (by omega)) (by decide) (by decide) fun n hn0 hn1 => ⟨n, rfl, ?_⟩
  have o10 := o9.next (t' := t9 + 1)
  obtain ⟨h10, hh10⟩ : ∃ h10, h9.set i2 (strm s (t9 + 1)) = h10 := ⟨_, rfl⟩
  rw [hh10] at o10 ⊢
  have hat1 := o10.at_ (sz := 4) (s := l6) (cs := rows sentC xs) (by simp)
  have hat2 := o10.at_ (sz := 3) (s := l9) (cs := rows actC acs) (by simp)
  have fin : ∀ (s1 s2 : Sl) (e : Int) (ls : List ByteArray) (D1 D2 : Nat → Nat → Bool) (g : Heap), (∀ i k, D1 i k = true → D2 i k = true) → At g 6 s1 (rows rowC (ls.map (rowF xs D1 xs.length))) → At g 6 s2 (rows rowC (ls.map (rowF xs D2 xs.length))) → ls.length ≤ 30 →
      (loopK (A := Int) 0 (fun x25 => fun n26 => ifT (decide (n26 < (↑s1.len : Int))) (fun h27 => ((0 ≤ n26) ∧ n26 < (↑s1.len : Int)) ∧ (derefK s1.a (fun i28 => fun i29 => fun h30 =>
        ∃ s31 : ByteArray, ∃ n32 : Int, ∃ n33 : Int, ∃ n34 : Int, ∃ n35 : Int, ∃ n36 : Int, (h30.read i28 (i29 + n26.toNat * 6) 6 = some [Cell.str s31, Cell.int IntKind.i64 n32, Cell.int IntKind.i64 n33, Cell.int IntKind.i64 n34, Cell.int IntKind.i64 n35, Cell.int IntKind.i64 n36]) ∧
        ((0 ≤ n26) ∧ n26 < (↑s2.len : Int)) ∧ (derefK s2.a (fun i37 => fun i38 => fun h39 =>
        ∃ s40 : ByteArray, ∃ n41 : Int, ∃ n42 : Int, ∃ n43 : Int, ∃ n44 : Int, ∃ n45 : Int, (h39.read i37 (i38 + n26.toNat * 6) 6 = some [Cell.str s40, Cell.int IntKind.i64 n41, Cell.int IntKind.i64 n42, Cell.int IntKind.i64 n43, Cell.int IntKind.i64 n44, Cell.int IntKind.i64 n45]) ∧
        (ifT (decide (n32 < n33)) (tru [V.one (Cell.bool false)]) (ifT (decide (n33 < n34)) (tru [V.one (Cell.bool false)]) (ifT (decide (n34 < n35)) (tru [V.one (Cell.bool false)]) (ifT (decide (n35 < 0)) (tru [V.one (Cell.bool false)]) (ifT (decide (n36 > n32)) (tru [V.one (Cell.bool false)])
        (ifT (!decide (n32 = n41)) (tru [V.one (Cell.bool false)]) (ifT (decide (n42 < n33)) (tru [V.one (Cell.bool false)]) (ifT (decide (n43 < n34)) (tru [V.one (Cell.bool false)]) (ifT (decide (n44 < n35)) (tru [V.one (Cell.bool false)]) (ifT (decide (n45 < n36)) (tru [V.one (Cell.bool false)])
        (x25 (IntKind.i64.wrap (n26 + 1))))))))))))) h39)) h30)) h27)
        (fun h46 => I 9 [] (fun cs47 => fun h48 => ∃ b49 : Bool, (cs47 = [V.one (Cell.bool b49)]) ∧ tru [V.one (Cell.bool b49)] h48) h46))) g := by
    intro s1 s2 e ls D1 D2 g hD a1 a2 hl
    have hl1 : s1.len = ls.length := by have := a1.rowsLen rowC_length (by decide); rw [List.length_map] at this; exact this
    have hl2 : s2.len = ls.length := by have := a2.rowsLen rowC_length (by decide); rw [List.length_map] at this; exact this
    refine loopK_intro (fun (a : Int) h' m => h' = g ∧ ∃ k : Nat, k ≤ ls.length ∧ a = (k : Int) ∧ m = ls.length - k) ls.length ⟨rfl, 0, by omega, rfl, rfl⟩ ?_
    rintro a h' m ⟨rfl, k, hk, rfl, rfl⟩
    refine ifT_dec (fun hlt => ⟨⟨by omega, hlt⟩, ?_⟩) fun hge => spec9 hI ⟨true, rfl, rfl⟩
    have hx := List.getElem?_eq_getElem (show k < ls.length by omega)
    generalize ls[k] = L at hx
    have hx1 : (ls.map (rowF xs D1 xs.length))[k]? = some (rowF xs D1 xs.length L) := by rw [List.getElem?_map, hx]; rfl
    have hx2 : (ls.map (rowF xs D2 xs.length))[k]? = some (rowF xs D2 xs.length L) := by rw [List.getElem?_map, hx]; rfl
    refine a1.row rowC_length (by decide) hx1 fun bb oo hr => ⟨_, _, _, _, _, _, hr, ⟨by omega, by omega⟩, a2.row rowC_length (by decide) hx2 fun bb oo hr => ⟨_, _, _, _, _, _, hr, ?_⟩⟩
    have c1 : ∀ (p q : Nat → Bool), (∀ i, p i = true → q i = true) → ((cnt xs xs.length p L : Nat) : Int) ≤ ((cnt xs xs.length q L : Nat) : Int) := fun p q hpq => by
      have := cnt_mono (xs := xs) (n := xs.length) (L := L) hpq; omega
    refine ifT_dec (fun h9 => absurd (c1 _ _ (fun i _ => rfl)) (Int.not_le.2 h9)) fun _ => ?_
    refine ifT_dec (fun h9 => absurd (c1 _ _ (fun i hi => by rw [hi]; simp)) (Int.not_le.2 h9)) fun _ => ?_
    refine ifT_dec (fun h9 => absurd (c1 _ _ (fun i hi => by rw [hi]; simp)) (Int.not_le.2 h9)) fun _ => ?_
    refine ifT_dec (fun h9 => absurd (Int.natCast_nonneg _) (Int.not_le.2 h9)) fun _ => ?_
    refine ifT_dec (fun h9 => absurd (c1 _ _ (fun i _ => rfl)) (Int.not_le.2 h9)) fun _ => ?_
    refine ifT_intro (fun h9 => absurd rfl (nd h9)) fun _ => ?_
    refine ifT_dec (fun h9 => absurd (c1 _ _ (fun i hi => ?_)) (Int.not_le.2 h9)) fun _ => ?_
    · simp only [Bool.or_eq_true] at hi ⊢
      exact hi.imp (hD i 1) (fun h => h.imp (hD i 2) (hD i 3))
    refine ifT_dec (fun h9 => absurd (c1 _ _ (fun i hi => ?_)) (Int.not_le.2 h9)) fun _ => ?_
    · simp only [Bool.or_eq_true] at hi ⊢
      exact hi.imp (hD i 2) (hD i 3)
    refine ifT_dec (fun h9 => absurd (c1 _ _ (fun i hi => hD i 3 hi)) (Int.not_le.2 h9)) fun _ => ?_
    refine ifT_dec (fun h9 => absurd (c1 _ _ (fun i hi => hD i 4 hi)) (Int.not_le.2 h9)) fun _ => ?_
    exact ⟨ls.length - (k + 1), by omega, rfl, k + 1, by omega, by rw [w64 (by omega) (by omega)]; rfl, rfl⟩
  have hll := lets_length xs
  refine spec8 hI hat1 hat2 hxl hal ⟨by omega, by omega⟩ (fun g1 e1 hb => ⟨_, _, rfl, ?_⟩) fun s1 z1 g1 hE e1 hp1 hz1 nw1 a1 => ⟨_, _, rfl, ?_⟩
  · have o11 := o10.mono e1
    refine spec7 hI (o11.toStrm S0 (t' := t9 + 1) (by simp) (by omega)) (by decide) (by decide) fun n2 hn20 hn21 => ⟨n2, rfl, ?_⟩
    have o12 := o11.next (t' := t9 + 1 + 1)
    have ew : IntKind.i64.wrap (n + n2) = n + n2 := by rw [w64] <;> omega
    rw [ew]
    refine spec8 hI (o12.at_ (sz := 4) (s := l6) (cs := rows sentC xs) (by simp)) (o12.at_ (sz := 3) (s := l9) (cs := rows actC acs) (by simp)) hxl hal ⟨by omega, by omega⟩ (fun g2 e2 _ => ⟨_, _, rfl, ?_⟩) fun s1 z1 g2 hE => absurd hE hb
    refine joinK_intro (fun (b : Bool) h' => b = false ∧ h' = g2) ?_ fun j hj => ifT_intro (fun h9 => absurd rfl (nd h9)) fun _ => hj _ _ ⟨by simp, rfl⟩
    rintro b h' ⟨rfl, rfl⟩
    refine ifT_intro (fun h9 => by cases h9) fun _ => ?_
    exact fin _ _ 0 [] (fun _ _ => false) (fun _ _ => false) h' (fun _ _ h => h) ⟨rfl, .inl rfl⟩ ⟨rfl, .inl rfl⟩ (by simp)
  · -- the stream's block is not one of the rows'
    have o11 := o10.mono e1
    refine spec7 hI (o11.toStrm S0 (t' := t9 + 1) (by simp) (by omega)) (by decide) (by decide) fun n2 hn20 hn21 => ⟨n2, rfl, ?_⟩
    have o12 := o11.next (t' := t9 + 1 + 1)
    have ew : IntKind.i64.wrap (n + n2) = n + n2 := by rw [w64] <;> omega
    rw [ew]
    have a1 := a1.set_new (X := strm s (t9 + 1 + 1)) nw1 (b := i2) (by rw [(o10.toStrm S0 (t' := t9 + 1) (by simp) (by omega)).cell]; simp)
    refine spec8 hI (o12.at_ (sz := 4) (s := l6) (cs := rows sentC xs) (by simp)) (o12.at_ (sz := 3) (s := l9) (cs := rows actC acs) (by simp)) hxl hal ⟨by omega, by omega⟩ (fun g2 e2 hb => absurd hE hb) fun s2 z2 g2 _ e2 hp2 hz2 _ a2 => ⟨_, _, rfl, ?_⟩
    have hzz := letters_eq hp1 hp2 hz1 hz2
    subst hzz
    have hl1 : s1.len = z1.length := by have := a1.rowsLen rowC_length (by decide); rw [List.length_map] at this; exact this
    have hl2 : s2.len = z1.length := by have := a2.rowsLen rowC_length (by decide); rw [List.length_map] at this; exact this
    have hzl := hp1.length_eq
    refine joinK_intro (fun (b : Bool) h' => b = false ∧ h' = g2) ?_ fun j hj => ifT_intro (fun h9 => absurd rfl (nd h9)) fun _ => hj _ _ ⟨by rw [hl1, hl2]; simp, rfl⟩
    rintro b h' ⟨rfl, rfl⟩
    refine ifT_intro (fun h9 => by cases h9) fun _ => ?_
    exact fin _ _ 0 z1 _ _ h' (fun i k hd => didF_mono (by omega) hd) (e2.at_ a1) a2 (by omega)
end
theorem pm_sound : Sound prog Pm := or_sound keysP_sound sortedP_sound
end Go.Proofs.YtfemminjhecocaaVc
