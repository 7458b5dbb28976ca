/- Contracts of what CentsShared reaches, part 4: the law. -/
import Derived.Test.YtihnjdhjkpmggaaVcCsSpec3
set_option linter.unusedSimpArgs false
set_option linter.unusedVariables false
namespace Go.Proofs.YtihnjdhjkpmggaaVc
open Go.Proofs.YtihnjdhjkpmggaaShares
open Go.Proofs.Try (prog)

abbrev okC (w : Int) : Prop := 0 ≤ w ∧ w ≤ 1000000000000
/-- What is wrong with the arguments. -/
def errOf (c : Int) (xs : List Int) : Int :=
  if ¬ okC c then 1 else if 50 < xs.length then 2 else if ∃ w ∈ xs, ¬ okC w then 1 else if ∀ w ∈ xs, w = 0 then 8 else 0

/-- Right arguments. -/
structure Right (c : Int) (xs : List Int) (C : Nat) (ws : List Nat) : Prop where
  c : c = (C : Int)
  xs : xs = ws.map fun n : Nat => (n : Int)
  c1 : C ≤ 1000000000000
  ws1 : ∀ w ∈ ws, w ≤ 1000000000000
  pos : 0 < ws.sum
  len : ws.length ≤ 50

theorem right_of {c : Int} {xs : List Int} (h1 : okC c) (h2 : ¬ 50 < xs.length) (h3 : ∀ w ∈ xs, okC w) (h4 : ¬ ∀ w ∈ xs, w = 0) : Right c xs c.toNat (xs.map Int.toNat) := by
  refine ⟨by omega, ?_, by omega, fun w hw => ?_, ?_, by simp; omega⟩
  · rw [List.map_map]
    conv => lhs; rw [← List.map_id xs]
    refine List.map_congr_left fun y hy => ?_
    have := h3 y hy
    exact (Int.toNat_of_nonneg this.1).symm
  · obtain ⟨y, hy, rfl⟩ := List.mem_map.1 hw
    have := h3 y hy
    omega
  · obtain ⟨w, hw, hne⟩ : ∃ w ∈ xs, w ≠ 0 := by
      by_cases h : ∃ w ∈ xs, w ≠ 0
      · exact h
      · exact absurd (fun w hw => by
          by_cases e : w = 0
          · exact e
          · exact absurd ⟨w, hw, e⟩ h) h4
    have h5 := mem_le_sum (List.mem_map.2 ⟨w, hw, rfl⟩ : w.toNat ∈ xs.map Int.toNat)
    have := h3 w hw
    omega

section
variable {I : Calls} {Q : Post} {h : Heap}

theorem spec48 (hI : Closed' prog Pm I) {s : Sl} {c : Int} {xs : List Int} (hs : At h 1 s (ints xs)) (hlen : xs.length < 1000) (hsm : errOf c xs = 0 → xs.length < 20)
    (hQe : errOf c xs ≠ 0 → Q [.one (.slice 1 ⟨none, 0⟩), int (errOf c xs)] h) (hQ : ∀ C ws, errOf c xs = 0 → Right c xs C ws → ∀ s' h', Ext h h' → At h' 1 s' (nats (shared C ws)) → Q [.one (.slice 1 s'), int 0] h') :
    I 48 [int c, .one (.slice 1 s)] Q h := by
  have hl : s.len = xs.length := by rw [hs.len1, ints_length]
  refine hI.go _ _ (den48 I c s Q) ?_
  refine spec72 hI ⟨_, rfl, ifT_intro (fun hb => ?_) fun hb => ?_⟩
  · have hno : ¬ okC c := by simp at hb; unfold okC; omega
    have e : errOf c xs = 1 := by unfold errOf; rw [if_pos hno]
    rw [e] at hQe
    exact hQe (by decide)
  have hyes : okC c := by simp at hb; unfold okC; omega
  rw [hl]
  refine ifT_dec (fun hgt => ?_) fun hgt => ?_
  · have e : errOf c xs = 2 := by unfold errOf; rw [if_neg (by simpa using hyes), if_pos (by omega)]
    rw [e] at hQe
    exact hQe (by decide)
  have e0 : errOf c xs = if ∃ w ∈ xs, ¬ okC w then 1 else if ∀ w ∈ xs, w = 0 then 8 else 0 := by unfold errOf; rw [if_neg (by simpa using hyes), if_neg (by omega)]
  refine loopK_intro (fun (a : Bool × Int) h' m => h' = h ∧ ∃ i : Nat, i ≤ xs.length ∧ a.2 = (i : Int) ∧ xs.length - i = m ∧ (a.1 = true ↔ ∀ w ∈ xs.take i, w = 0) ∧ ∀ w ∈ xs.take i, okC w) xs.length
    ⟨rfl, 0, by omega, rfl, rfl, by simp, by simp⟩ ?_
  rintro ⟨b, y⟩ h' m ⟨rfl, i, hi, rfl, rfl, hb0, hall⟩
  simp only at hb0
  dsimp only [uncur]
  refine ifT_dec (fun hlt => ⟨⟨by omega, by omega⟩, ?_⟩) (fun hge => ?_)
  · have hx := List.getElem?_eq_getElem (show i < xs.length by omega)
    have hxm : xs[i] ∈ xs := List.getElem_mem _
    generalize xs[i] = x at hx hxm
    have htk : xs.take (i + 1) = xs.take i ++ [x] := by rw [List.take_add_one, hx]; rfl
    refine hs.cell (ints_get hx) fun bb o hr => ⟨x, hr, spec72 hI ⟨_, rfl, ifT_intro (fun hb => ?_) fun hb => ?_⟩⟩
    · have hno : ¬ okC x := by simp at hb; unfold okC; omega
      have e : errOf c xs = 1 := by rw [e0, if_pos ⟨x, hxm, hno⟩]
      rw [e] at hQe
      exact hQe (by decide)
    · have hyx : okC x := by simp at hb; unfold okC; omega
      have wi : IntKind.i64.wrap ((i : Int) + 1) = ((i + 1 : Nat) : Int) := by rw [w64] <;> omega
      have hall' : ∀ w ∈ xs.take (i + 1), okC w := fun w hw => by
        rw [htk] at hw
        rcases List.mem_append.1 hw with hw | hw
        · exact hall w hw
        · have : w = x := by simpa using hw
          rw [this]; exact hyx
      rw [wi]
      refine ifT_intro (fun hbt => ?_) fun hbf => ?_
      · refine ⟨xs.length - (i + 1), by omega, rfl, i + 1, by omega, rfl, rfl, ?_, hall'⟩
        rw [htk]
        have := hb0.1 hbt
        constructor
        · intro hx0 w hw
          rcases List.mem_append.1 hw with hw | hw
          · exact this w hw
          · have e1 : w = x := by simpa using hw
            rw [e1]; simpa using hx0
        · intro hw
          have := hw x (by simp)
          simpa using this
      · refine ⟨xs.length - (i + 1), by omega, rfl, i + 1, by omega, rfl, rfl, ?_, hall'⟩
        constructor
        · intro h; cases h
        · intro hw
          have : b = true := hb0.2 fun w hw' => hw w (by rw [htk]; exact List.mem_append_left _ hw')
          rw [this] at hbf; cases hbf
  · have : i = xs.length := by omega
    subst this
    rw [List.take_length] at hb0 hall
    have hno : ¬ ∃ w ∈ xs, ¬ okC w := fun ⟨w, hw, h⟩ => h (hall w hw)
    refine ifT_intro (fun hbt => ?_) fun hbf => ?_
    · have e : errOf c xs = 8 := by rw [e0, if_neg hno, if_pos (hb0.1 hbt)]
      rw [e] at hQe
      exact hQe (by decide)
    · have hnz : ¬ ∀ w ∈ xs, w = 0 := fun h => by rw [hb0.2 h] at hbf; cases hbf
      have e : errOf c xs = 0 := by rw [e0, if_neg hno, if_neg hnz]
      have R := right_of hyes (by omega) hall hnz
      have hs' := hs
      rw [R.xs, ← nats_ints] at hs'
      have hlen' := hsm e
      show I 101 [int c, .one (.slice 1 s)] _ h'
      rw [R.c]
      exact spec101 hI hs' R.c1 R.ws1 R.pos (by simp; exact hlen') fun s' h2 hext hat => ⟨_, rfl, hQ _ _ e R _ _ hext hat⟩

theorem spec49 (hI : Closed' prog Pm I) {s : Sl} {c : Int} {xs : List Int} (hs : At h 1 s (ints xs)) (hlen : xs.length < 1000)
    (hQe : errOf c xs ≠ 0 → Q [.one (.slice 1 ⟨none, 0⟩), int (errOf c xs)] h) (hQ : ∀ C ws, errOf c xs = 0 → Right c xs C ws → ∀ s' h', Ext h h' → At h' 1 s' (nats (shared C ws)) → Q [.one (.slice 1 s'), int 0] h') :
    I 49 [int c, .one (.slice 1 s)] Q h := by
  have hl : s.len = xs.length := by rw [hs.len1, ints_length]
  refine hI.go _ _ (den49 I c s Q) ?_
  refine joinK_intro (fun (b : Bool) h' => h' = h ∧ (b = true ↔ ¬ okC c)) ?_ ?_
  · rintro b h' ⟨rfl, hb⟩
    refine ifT_intro (fun hbt => ?_) fun hbf => ?_
    · have e : errOf c xs = 1 := by unfold errOf; rw [if_pos (hb.1 hbt)]
      rw [e] at hQe
      exact hQe (by decide)
    have hyes : okC c := by
      by_cases h : okC c
      · exact h
      · rw [hb.2 h] at hbf; cases hbf
    rw [hl]
    refine ifT_dec (fun hgt => ?_) fun hgt => ?_
    · have e : errOf c xs = 2 := by unfold errOf; rw [if_neg (by simpa using hyes), if_pos (by omega)]
      rw [e] at hQe
      exact hQe (by decide)
    have e0 : errOf c xs = if ∃ w ∈ xs, ¬ okC w then 1 else if ∀ w ∈ xs, w = 0 then 8 else 0 := by unfold errOf; rw [if_neg (by simpa using hyes), if_neg (by omega)]
    refine loopK_intro (fun (a : Int) h'' m => h'' = h' ∧ ∃ i : Nat, i ≤ xs.length ∧ a = (i : Int) ∧ xs.length - i = m ∧ ∀ w ∈ xs.take i, okC w) xs.length
      ⟨rfl, 0, by omega, rfl, rfl, by simp⟩ ?_
    rintro a h'' m ⟨rfl, i, hi, rfl, rfl, hall⟩
    refine ifT_dec (fun hlt => ⟨⟨by omega, by omega⟩, ?_⟩) (fun hge => ?_)
    · have hx := List.getElem?_eq_getElem (show i < xs.length by omega)
      have hxm : xs[i] ∈ xs := List.getElem_mem _
      generalize xs[i] = x at hx hxm
      have htk : xs.take (i + 1) = xs.take i ++ [x] := by rw [List.take_add_one, hx]; rfl
      have bad : ¬ okC x → Q [.one (.slice 1 ⟨none, 0⟩), int 1] h'' := fun hno => by
        have e : errOf c xs = 1 := by rw [e0, if_pos ⟨x, hxm, hno⟩]
        rw [e] at hQe
        exact hQe (by decide)
      refine hs.cell (ints_get hx) fun bb o hr => ⟨x, hr, ifT_dec (fun h1 => bad (by unfold okC; omega)) fun h1 => ifT_dec (fun h2 => bad (by unfold okC; omega)) fun h2 => ?_⟩
      refine ⟨xs.length - (i + 1), by omega, rfl, i + 1, by omega, by rw [w64] <;> omega, rfl, fun w hw => ?_⟩
      rw [htk] at hw
      rcases List.mem_append.1 hw with hw | hw
      · exact hall w hw
      · have : w = x := by simpa using hw
        rw [this]; exact ⟨by omega, by omega⟩
    · have : i = xs.length := by omega
      subst this
      rw [List.take_length] at hall
      have hno : ¬ ∃ w ∈ xs, ¬ okC w := fun ⟨w, hw, h⟩ => h (hall w hw)
      have hxs : xs = (xs.map Int.toNat).map fun n : Nat => (n : Int) := by
        rw [List.map_map]
        conv => lhs; rw [← List.map_id xs]
        refine List.map_congr_left fun y hy => ?_
        have := hall y hy
        exact (Int.toNat_of_nonneg this.1).symm
      have hs' := hs
      rw [hxs, ← nats_ints] at hs'
      have hb1 : ∀ w ∈ xs.map Int.toNat, w ≤ 1000000000000 := fun w hw => by
        obtain ⟨y, hy, rfl⟩ := List.mem_map.1 hw
        have := hall y hy
        omega
      have hb2 := sum_le hb1
      rw [List.length_map] at hb2
      refine spec102 hI hs' (by simp; omega) (by omega) ⟨_, rfl, ?_⟩
      refine ifT_dec (fun hz => ?_) fun hz => ?_
      · have hz' : ∀ w ∈ xs, w = 0 := fun w hw => by
          have h5 := mem_le_sum (List.mem_map.2 ⟨w, hw, rfl⟩ : w.toNat ∈ xs.map Int.toNat)
          have := hall w hw
          omega
        have e : errOf c xs = 8 := by rw [e0, if_neg hno, if_pos hz']
        rw [e] at hQe
        exact hQe (by decide)
      · have hnz : ¬ ∀ w ∈ xs, w = 0 := fun h => by
          apply hz
          have : (xs.map Int.toNat).sum ≤ 0 * (xs.map Int.toNat).length := sum_le fun w hw => by
            obtain ⟨y, hy, rfl⟩ := List.mem_map.1 hw
            rw [h y hy]; exact Nat.le_refl _
          omega
        have e : errOf c xs = 0 := by rw [e0, if_neg hno, if_neg hnz]
        have R := right_of hyes (by omega) hall hnz
        show I 103 [int c, .one (.slice 1 s), boo false] _ h''
        rw [R.c]
        exact spec103 hI hs' R.c1 R.ws1 R.pos (by simp; omega) fun s' h2 hext hat => ⟨_, rfl, hQ _ _ e R _ _ hext hat⟩
  · intro j hj
    refine ifT_dec (fun h1 => hj _ _ ⟨rfl, ?_⟩) fun h1 => hj _ _ ⟨rfl, ?_⟩
    · unfold okC; simp; omega
    · unfold okC; simp; omega

/-- The law. -/
theorem spec9 (hI : Closed' prog Pm I) {s : Sl} {zs : List Int} (hs : At h 1 s (ints zs)) : I 9 [.one (.slice 1 s)] tru h := by
  refine hI.go _ _ (den9 I s tru) ?_
  refine newK_intro fun i2 h1 hn1 he1 => newK_intro fun i4 h2 hn2 he2 => ?_
  have S0 : Strm h1 i2 s zs 0 := he1 ▸ Strm.make hs hn1
  have S1 : Strm h2 i2 s zs 0 := S0.ext (he2 ▸ Ext.new hn2)
  have hne : i4 ≠ i2 := fun h => by subst h; rw [S0.cell] at hn2; cases hn2
  have hlit : At (h2.set i2 (strm s (0 + 1))) 1 ⟨some (i4, 0), 8⟩ (ints [0, 1, 7, 100, 500, 1000000000000, -1, 1000000000001]) := by
    refine ⟨rfl, .inr ?_⟩
    show (h2.set i2 _).read i4 0 8 = _
    unfold Heap.read
    rw [set_ne _ _ hne, he2, set_eq]
    rfl
  refine spec30 hI S1 hlit (by decide) (by decide) fun c _ => ⟨c, rfl, ?_⟩
  refine spec47 hI (S1.next (by decide)) (by decide) fun l h3 xs hx hlen hsm => ⟨l, rfl, ?_⟩
  have hsm' : errOf c xs = 0 → xs.length < 20 := fun he => by
    rcases hsm with h | h | h
    · omega
    · exfalso
      unfold errOf at he
      repeat' split at he
      all_goals first | exact absurd he (by decide) | contradiction
    · exfalso
      unfold errOf at he
      repeat' split at he
      all_goals first | exact absurd he (by decide) | contradiction
  refine spec48 hI hx (by omega) hsm' (fun he => ?_) fun C ws he R s1 h4 hext hat => ?_
  · refine ⟨_, _, rfl, spec49 hI hx (by omega) (fun _ => ?_) fun _ _ he' => absurd he' he⟩
    refine ⟨_, _, rfl, spec50 hI ⟨true, rfl, ifT_intro (fun _ => ifT_intro (fun _ => ?_) fun h => by simp at h) fun h => by cases h⟩⟩
    exact spec51 hI (zs := []) ⟨rfl, .inl rfl⟩ ⟨rfl, .inl rfl⟩ (by decide) ⟨true, rfl, rfl⟩
  · refine ⟨_, _, rfl, spec49 hI (hext.at_ hx) (by omega) (fun he' => absurd he he') fun C' ws' _ R' s2 h5 hext2 hat2 => ?_⟩
    have eC : C' = C := by have := R.c; have := R'.c; omega
    have ew : ws' = ws := by
      have h1 := R.xs
      rw [R'.xs] at h1
      have h2 := congrArg (List.map Int.toNat) h1
      rw [List.map_map, List.map_map] at h2
      have e : (Int.toNat ∘ fun n : Nat => (n : Int)) = id := by funext n; simp
      rw [e, List.map_id, List.map_id] at h2
      exact h2
    subst eC ew
    refine ⟨_, _, rfl, spec50 hI ⟨true, rfl, ifT_intro (fun _ => ifT_intro (fun _ => ?_) fun h => by simp at h) fun h => by cases h⟩⟩
    have hat' := hext2.at_ hat
    rw [nats_ints] at hat' hat2
    refine spec51 hI hat' hat2 ?_ ⟨true, rfl, rfl⟩
    have := R.len
    simp [shared, dealtK, qs]
    omega

end
end Go.Proofs.YtihnjdhjkpmggaaVc
