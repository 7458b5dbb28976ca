/- Contract: cells are drawn, the whole. -/
import Derived.Test.YtfemminjhecocaaVcFoSpec6
set_option linter.unusedSimpArgs false
set_option linter.unusedVariables false
namespace Go.Proofs.YtfemminjhecocaaVc
open Go.Proofs.Try (prog)
section
variable {I : Calls} {Q : Post} {h : Heap} {hb : Heap} {i : Nat} {l : Sl} {zs : List Int} {t0 : Nat}
theorem sS : strs [⟨#[97]⟩, ⟨#[98]⟩] = [.str ⟨#[97]⟩, .str ⟨#[98]⟩] := rfl
/-- One flip, or none. -/
theorem flip_k (hI : Closed' prog Pm I) (S0 : Strm hb i l zs t0) {t : Nat} {L : List Ow} (o : Owns (hb.del i) h (owS i l t :: L)) (ht : t < 900000000) {n : Int} (h1 : 1 ≤ n) (h2 : n < 4611686018427387904) {F : Bool → T}
    (hF : ∀ b h', Owns (hb.del i) h' (owS i l (t + 1) :: L) → F b h') : I 15 [.one (.ptr (some (i, 0))), int n] (fun cs h' => ∃ b : Bool, cs = [boo b] ∧ F b h') h :=
  spec15 hI (o.toStrm S0 (t' := t) (by simp) (by omega)) h1 h2 fun b => ⟨b, rfl, hF b _ o.next⟩
theorem spec10 (hI : Closed' prog Pm I) (S0 : Strm hb i l zs t0) {t : Nat} {L0 : List Ow} (o : Owns (hb.del i) h (owS i l t :: L0)) (ht : t < 100000)
    (hQ : ∀ s' h' xs t' L, Owns (hb.del i) h' (owS i l t' :: (3, s', rows celC xs) :: L) → KL 4 L xs → (∀ p ∈ L0, p ∈ L) → t' ≤ t + 1000 → xs.length ≤ 8 → Q [sls 3 s'] h') : I 10 [.one (.ptr (some (i, 0)))] Q h := by
  refine hI.go _ _ (den10 I (some (i, 0)) Q) ?_
  refine spec17 hI (o.toStrm S0 (t' := t) (by simp) (by omega)) fun d hd0 hd3 => ⟨d, rfl, ?_⟩
  obtain ⟨d, rfl⟩ := Int.eq_ofNat_of_zero_le hd0
  refine new_strs (o.next (t' := t + 1)) [⟨#[97]⟩, ⟨#[98]⟩] fun i5 g5 o5 => ?_
  have o5' := (o5.swp.none_ 3).swp
  clear o o5
  refine loopK_intro (fun (a : Sl × Int) h' m => ∃ (j t' : Nat) (xs : List Cel) (L : List Ow), j ≤ 2 ∧ a.2 = j ∧ 2 - j = m ∧ t' ≤ t + 1 + 100 * j ∧ xs.length ≤ 4 * j ∧ Owns (hb.del i) h' (owS i l t' :: (3, a.1, rows celC xs) :: L) ∧
      KL 3 L xs ∧ (∀ p ∈ L0, p ∈ L) ∧ (1, ⟨some (i5, 0), 2⟩, strs [⟨#[97]⟩, ⟨#[98]⟩]) ∈ L) 2
    ⟨0, t + 1, [], _, by omega, rfl, rfl, by omega, by simp, o5', (fun _ h => by cases h), (fun p hp => by simp [hp]), by simp⟩ ?_
  clear o5'
  rintro ⟨s1, n1⟩ h1 m ⟨j1, t1, x1, L1, hj1, rfl, rfl, ht1, hl1, o1, k1, sub1, lit1⟩
  dsimp only [uncur] at o1 ⊢
  refine ifT_dec (fun hlt => ⟨⟨by omega, hlt⟩, ?_⟩) fun hge => ?_
  · obtain ⟨sa, hx⟩ : ∃ x, [(⟨#[97]⟩ : ByteArray), ⟨#[98]⟩][j1]? = some x := ⟨_, List.getElem?_eq_getElem (show j1 < [(⟨#[97]⟩ : ByteArray), ⟨#[98]⟩].length by simp; omega)⟩
    refine ⟨sa, read_cell (o1.block (by simp; exact .inr (.inr lit1))).1 ?_, ?_⟩
    · rw [Int.toNat_natCast, Nat.zero_add, Nat.mul_one]; unfold strs; rw [List.getElem?_map, hx]; rfl
    refine new_strs o1 [⟨#[120]⟩, ⟨#[121]⟩] fun i11 g11 o11 => ?_
    have o11' := o11.back
    clear o11
    refine loopK_intro (fun (a : Sl × Int) h' m => ∃ (j t' : Nat) (xs : List Cel) (L : List Ow), j ≤ 2 ∧ a.2 = j ∧ 2 - j = m ∧ t' ≤ t1 + 40 * j ∧ xs.length ≤ 4 * j1 + 2 * j ∧ Owns (hb.del i) h' (owS i l t' :: (3, a.1, rows celC xs) :: L) ∧
        KL 3 L xs ∧ (∀ p ∈ L0, p ∈ L) ∧ (1, ⟨some (i5, 0), 2⟩, strs [⟨#[97]⟩, ⟨#[98]⟩]) ∈ L ∧ (1, ⟨some (i11, 0), 2⟩, strs [⟨#[120]⟩, ⟨#[121]⟩]) ∈ L) 2
      ⟨0, t1, x1, _, by omega, rfl, rfl, by omega, by omega, o11', k1.mono (Nat.le_refl _) (fun p hp => by simp [hp]), (fun p hp => by simp [sub1 p hp]), by simp [lit1], by simp⟩ ?_
    clear o11' o1
    rintro ⟨s2, n2⟩ h2 m ⟨j2, t2, x2, L2, hj2, rfl, rfl, ht2, hl2, o2, k2, sub2, lit2, lit3⟩
    dsimp only [uncur] at o2 ⊢
    refine ifT_dec (fun hlt2 => ⟨⟨by omega, hlt2⟩, ?_⟩) fun hge2 => ⟨2 - (j1 + 1), by omega, j1 + 1, t2, x2, L2, by omega, by show IntKind.i64.wrap _ = _; rw [w64] <;> omega, rfl, by omega, by omega, o2, k2, sub2, lit2⟩
    obtain ⟨sb, hx2⟩ : ∃ x, [(⟨#[120]⟩ : ByteArray), ⟨#[121]⟩][j2]? = some x := ⟨_, List.getElem?_eq_getElem (show j2 < [(⟨#[120]⟩ : ByteArray), ⟨#[121]⟩].length by simp; omega)⟩
    refine ⟨sb, read_cell (o2.block (by simp; exact .inr (.inr lit3))).1 ?_, ?_⟩
    · rw [Int.toNat_natCast, Nat.zero_add, Nat.mul_one]; unfold strs; rw [List.getElem?_map, hx2]; rfl
    refine new_strs o2 [⟨#[109]⟩, ⟨#[110]⟩] fun i17 g17 o17 => ?_
    have o17' := o17.back
    clear o17
    refine loopK_intro (fun (a : Sl × Int) h' m => ∃ (j t' : Nat) (xs : List Cel) (L : List Ow), j ≤ 2 ∧ a.2 = j ∧ 2 - j = m ∧ t' ≤ t2 + 10 * j ∧ xs.length ≤ 4 * j1 + 2 * j2 + j ∧ Owns (hb.del i) h' (owS i l t' :: (3, a.1, rows celC xs) :: L) ∧
        KL 3 L xs ∧ (∀ p ∈ L0, p ∈ L) ∧ (1, ⟨some (i5, 0), 2⟩, strs [⟨#[97]⟩, ⟨#[98]⟩]) ∈ L ∧ (1, ⟨some (i11, 0), 2⟩, strs [⟨#[120]⟩, ⟨#[121]⟩]) ∈ L ∧ (1, ⟨some (i17, 0), 2⟩, strs [⟨#[109]⟩, ⟨#[110]⟩]) ∈ L) 2
      ⟨0, t2, x2, _, by omega, rfl, rfl, by omega, by omega, o17', k2.mono (Nat.le_refl _) (fun p hp => by simp [hp]), (fun p hp => by simp [sub2 p hp]), by simp [lit2], by simp [lit3], by simp⟩ ?_
    clear o17' o2
    rintro ⟨s3, n3⟩ h3 m ⟨j3, t3, x3, L3, hj3, rfl, rfl, ht3, hl3, o3, k3, sub3, lit4, lit5, lit6⟩
    dsimp only [uncur] at o3 ⊢
    refine ifT_dec (fun hlt3 => ⟨⟨by omega, hlt3⟩, ?_⟩) fun hge3 => ⟨2 - (j2 + 1), by omega, j2 + 1, t3, x3, L3, by omega, by show IntKind.i64.wrap _ = _; rw [w64] <;> omega, rfl, by omega, by omega, o3, k3, sub3, lit4, lit5⟩
    obtain ⟨sc, hx3⟩ : ∃ x, [(⟨#[109]⟩ : ByteArray), ⟨#[110]⟩][j3]? = some x := ⟨_, List.getElem?_eq_getElem (show j3 < [(⟨#[109]⟩ : ByteArray), ⟨#[110]⟩].length by simp; omega)⟩
    refine ⟨sc, read_cell (o3.block (by simp; exact .inr (.inr lit6))).1 ?_, ?_⟩
    · rw [Int.toNat_natCast, Nat.zero_add, Nat.mul_one]; unfold strs; rw [List.getElem?_map, hx3]; rfl
    have ew3 : IntKind.i64.wrap ((j3 : Int) + 1) = ((j3 + 1 : Nat) : Int) := by rw [w64] <;> omega
    refine joinK_intro (fun (b : Bool) g => ∃ t', t' ≤ t3 + 1 ∧ Owns (hb.del i) g (owS i l t' :: (3, s3, rows celC x3) :: L3)) ?_ fun jk hjk => ?_
    case refine_2 =>
      have tr : ∀ b, jk b h3 := fun b => hjk b h3 ⟨t3, by omega, o3⟩
      have fl : I 15 [.one (.ptr (some (i, 0))), int 3] (fun cs h' => ∃ b : Bool, cs = [boo b] ∧ jk b h') h3 := flip_k hI S0 o3 (by omega) (by decide) (by decide) fun b h' o' => hjk b h' ⟨_, by omega, o'⟩
      repeat' first
        | exact tr _
        | exact fl
        | refine ifT_intro (fun _ => ?_) fun _ => ?_
    rintro b g ⟨t4, ht4, o4⟩
    refine ifT_intro (fun _ => ⟨2 - (j3 + 1), by omega, j3 + 1, t4, x3, L3, by omega, ew3, rfl, by omega, by omega, o4, k3, sub3, lit4, lit5, lit6⟩) fun _ => ⟨⟨by omega, by omega⟩, ?_⟩
    refine pick_lit hI S0 o4 (by omega) [0, 1, 5, 999999, 1000000] (by simp) (by simp) fun v hv g5 o5 => ?_
    refine pick_lit hI S0 o5 (by omega) [0, 7, -7, 1000000000000, -1000000000000] (by simp) (by simp) fun u hu g6 o6 => ?_
    refine new_strs o6 [sa, sb, sc] fun i35 g7 o7 => ?_
    have hs3 : s3.len = x3.length := (o6.at_ (sz := 3) (s := s3) (cs := rows celC x3) (by simp)).rowsLen celC_length (by decide)
    refine appendTo_owns (m := 0) o7.back.swp rfl (by omega) (by simp) fun bn g8 o8 => ?_
    have ex : rows celC x3 ++ [Cell.slice 1 ⟨some (i35, 0), ((d : Nat) : Int).toNat⟩, .int .i64 v, .int .i64 u] = rows celC (x3 ++ [⟨⟨some (i35, 0), d⟩, [sa, sb, sc].take d, v, u⟩]) := by rw [rows_snoc]; rfl
    rw [ex] at o8
    refine ⟨2 - (j3 + 1), by omega, j3 + 1, t4 + 1 + 1, _, _, by omega, ew3, rfl, by omega, by simp; omega, o8.swp, ?_, (fun p hp => by simp [sub3 p hp]), by simp [lit4], by simp [lit5], by simp [lit6]⟩
    intro c hc
    rcases List.mem_append.1 hc with hc | hc
    · exact k3.mono (Nat.le_refl _) (fun p hp => by simp [hp]) c hc
    · have := List.mem_singleton.1 hc; subst this
      exact ⟨i35, [sa, sb, sc], d, by simp, rfl, by simp; omega, rfl, by simp⟩
  · have hl8 : x1.length ≤ 8 := by omega
    have hs1 : s1.len = x1.length := (o1.at_ (sz := 3) (s := s1) (cs := rows celC x1) (by simp)).rowsLen celC_length (by decide)
    have done : ∀ (g : Heap) t', t' ≤ t + 1000 → Owns (hb.del i) g (owS i l t' :: (3, s1, rows celC x1) :: L1) → Q [sls 3 s1] g := fun g t' h1 h2 => hQ s1 g x1 t' L1 h2 (k1.mono (by omega) fun _ h => h) sub1 h1 hl8
    refine joinK_intro (fun (b : Bool) g => ∃ t', t' ≤ t1 + 1 ∧ Owns (hb.del i) g (owS i l t' :: (3, s1, rows celC x1) :: L1) ∧ (b = true → 0 < x1.length)) ?_ fun jk hjk => ?_
    case refine_2 =>
      refine flip_k hI S0 o1 (by omega) (by decide) (by decide) fun b h' o' => ?_
      refine ifT_intro (fun _ => hjk _ _ ⟨_, by omega, o', fun h => ?_⟩) fun _ => hjk _ _ ⟨_, by omega, o', fun h => by cases h⟩
      have := of_decide_eq_true h
      omega
    rintro b g ⟨t2, ht2, o2, hb2⟩
    refine ifT_intro (fun h => ?_) fun _ => done g t2 (by omega) o2
    have hpos := hb2 h
    refine spec7 hI (o2.toStrm S0 (t' := t2) (by simp) (by omega)) (by omega) (by omega) fun e he0 he1 => ⟨e, rfl, ⟨he0, he1⟩, ?_⟩
    obtain ⟨e, rfl⟩ := Int.eq_ofNat_of_zero_le he0
    have o3 := o2.next (t' := t2 + 1)
    have hx := List.getElem?_eq_getElem (show e < x1.length by omega)
    generalize x1[e] = c at hx
    have hcm := List.mem_of_getElem? hx
    have hll : (rows celC x1).length = x1.length * 3 := rows_length celC_length x1
    have hne : rows celC x1 ≠ [] := fun h => by rw [h] at hll; simp at hll; omega
    obtain ⟨bi, hsb, _⟩ := o3.has (sz := 3) (s := s1) (cs := rows celC x1) (by simp) hne
    have hsa : s1.a = some (bi, 0) := by rw [hsb]
    refine derefK_intro hsa ?_
    refine spec7 hI (o3.toStrm S0 (t' := t2 + 1) (by simp) (by omega)) (by decide) (by decide) fun k _ _ => ⟨k, rfl, ?_⟩
    have o4 := o3.next (t' := t2 + 1 + 1)
    have put : ∀ (j : Nat) (x : Cell) (c2 : Cel) (g2 : Heap) (t' : Nat) (L : List Ow), j < 3 → (celC c).set j x = celC c2 → t' ≤ t2 + 10 → Owns (hb.del i) g2 (owS i l t' :: (3, s1, rows celC x1) :: L) → KL 4 L (x1.set e c2) → (∀ p ∈ L0, p ∈ L) →
        storeK [] bi (0 + ((e : Nat) : Int).toNat * 3 + j) [x] (Q [sls 3 s1]) g2 := fun j x c2 g2 t' L hj hs ht' o' hk hsub => by
      have hble := (o'.block (sz := 3) (i := bi) (n := s1.len) (cs := rows celC x1) (by rw [← hsb]; simp)).1
      refine storeK_one hble (by rw [hll, Int.toNat_natCast]; omega) ?_
      rw [Int.toNat_natCast, Nat.zero_add, rows_set celC_length hx hj hs]
      have o6 : Owns (hb.del i) g2 ((3, ⟨some (bi, 0), s1.len⟩, rows celC x1) :: owS i l t' :: L) := by rw [← hsb]; exact o'.swp
      have o7 := o6.change (n' := s1.len) (sz' := 3) (cs' := rows celC (x1.set e c2)) (by rw [rows_length celC_length, List.length_set]; omega)
      rw [← hsb] at o7
      exact hQ s1 _ _ t' L o7.swp hk hsub (by omega) (by simp; omega)
    have ksame : ∀ c2 : Cel, c2.kl = c.kl → c2.keys = c.keys → KL 4 L1 (x1.set e c2) := fun c2 h1 h2 p hp => by
      rcases List.mem_or_eq_of_mem_set hp with hp | rfl
      · exact k1.mono (by omega) (fun _ h => h) p hp
      · obtain ⟨b, ks, n, a1, a2, a3, a4, a5⟩ := k1 c hcm
        exact ⟨b, ks, n, a1, h1.trans a2, a3, h2.trans a4, by omega⟩
    refine ifT_intro (fun _ => ?_) fun _ => ifT_intro (fun _ => ?_) fun _ => ?_
    · have hbl := (o4.block (sz := 3) (i := bi) (n := s1.len) (cs := rows celC x1) (by rw [← hsb]; simp)).1
      refine ⟨c.kl, ?_, ?_⟩
      · rw [Int.toNat_natCast, Nat.zero_add]
        exact read_cell hbl (rows_cell celC_length hx rfl)
      refine new_strs o4 [⟨#[97]⟩, ⟨#[]⟩, ⟨#[122]⟩] fun i85 g5 o5 => ?_
      have o5' := o5.back
      have hne85 : i85 ≠ i := fun e => o5.ne (q := owS i l (t2 + 1 + 1)) (by simp) (i := i85) (j := i) rfl rfl e
      refine spec16 hI (xs := [⟨#[97]⟩, ⟨#[]⟩, ⟨#[122]⟩]) (o5'.toStrm S0 (t' := t2 + 1 + 1) (by simp) (by omega)) ?_ (by simp) (by simp) fun v _ => ⟨?_, v, rfl, ?_⟩
      · have o6 := o5'.next (t' := t2 + 1 + 1 + 1)
        exact o6.at_ (sz := 1) (s := ⟨some (i85, 0), 3⟩) (cs := strs [⟨#[97]⟩, ⟨#[]⟩, ⟨#[122]⟩]) (by simp)
      · refine set_ne _ _ fun e => ?_
        have h9 := hsb
        rw [e] at h9
        have o9 := o5'
        rw [h9] at o9
        exact o9.ne (q := (3, ⟨some (i, 0), s1.len⟩, rows celC x1)) (by simp) (i := i) (j := i) rfl rfl rfl
      have o6 := o5'.next (t' := t2 + 1 + 1 + 1)
      refine new_strs o6 [v] fun i90 g8 o8 => ?_
      have hsub : ∀ p ∈ L1, p ∈ (L1 ++ [] : List Ow) := fun p hp => by simp [hp]
      obtain ⟨hkat, hk3⟩ := (k1.mono (B' := 3) (Nat.le_refl _) (L' := (1, ⟨some (i90, 0), [v].length⟩, strs [v]) :: owS i l (t2 + 1 + 1 + 1) :: (3, s1, rows celC x1) :: (L1 ++ [(1, ⟨some (i85, 0), [(⟨#[97]⟩ : ByteArray), ⟨#[]⟩, ⟨#[122]⟩].length⟩, strs [⟨#[97]⟩, ⟨#[]⟩, ⟨#[122]⟩])])) (fun p hp => by simp [hp])).key (o8.perm (by
        refine List.Perm.cons _ (List.Perm.cons _ (List.Perm.cons _ ?_))
        exact (List.perm_append_singleton _ _).symm)) hcm
      refine ⟨strs c.keys, ?_, ?_⟩
      · rcases hkat.2 with h0 | h0
        · have hl0 : c.kl.len = 0 := by rw [strs_len hkat, show c.keys = [] by simpa [strs] using h0]; rfl
          obtain ⟨b, ks, n, a1, a2, a3, a4, a5⟩ := k1 c hcm
          have hbk := (o8.block (sz := 1) (i := b) (n := ks.length) (cs := strs ks) (by simp [a1])).1
          rw [a2] at hl0 ⊢
          simp only at hl0
          subst hl0
          rw [h0]
          show g8.read b 0 (0 * 1) = some []
          rw [read_block hbk (by simp)]
          simp
        · exact h0
      · have hlk := strs_len hkat
        refine appendTo_ownsN o8 (by rw [hlk]; simp [strs]) (by rw [hlk]; omega) fun jn g9 o9 => ?_
        have es : strs [v] ++ strs c.keys = strs (v :: c.keys) := by simp [strs]
        rw [es] at o9
        have o10 := o9.back
        have e3 : 1 + c.kl.len = (v :: c.keys).length := by rw [hlk]; simp; omega
        rw [e3] at o10 ⊢
        refine put 0 _ ⟨⟨some (jn, 0), (v :: c.keys).length⟩, v :: c.keys, c.many, c.cents⟩ g9 _ _ (by omega) rfl (by omega) o10 (fun p hp => ?_) fun p hp => by simp [sub1 p hp]
        rcases List.mem_or_eq_of_mem_set hp with hp | rfl
        · exact k1.mono (by omega) (fun q hq => by simp [hq]) p hp
        · exact ⟨jn, v :: c.keys, (v :: c.keys).length, by simp, rfl, Nat.le_refl _, by rw [List.take_length], by simp; omega⟩
    · exact pick_lit hI S0 o4 (by omega) [-1, 1000001] (by simp) (by simp) fun v _ g5 o5 => put 1 _ ⟨c.kl, c.keys, v, c.cents⟩ g5 _ _ (by omega) rfl (by omega) o5 (ksame _ rfl rfl) sub1
    · exact pick_lit hI S0 o4 (by omega) [1000000000001, -1000000000001] (by simp) (by simp) fun v _ g5 o5 => put 2 _ ⟨c.kl, c.keys, c.many, v⟩ g5 _ _ (by omega) rfl (by omega) o5 (ksame _ rfl rfl) sub1
end
end Go.Proofs.YtfemminjhecocaaVc
