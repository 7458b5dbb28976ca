/- Contracts of what CodesCount reaches, part 4: the law. -/
import Derived.Test.YtihnjdhjkpmggaaVcCcSpec3
set_option linter.unusedSimpArgs false
set_option linter.unusedVariables false
namespace Go.Proofs.YtihnjdhjkpmggaaVc
open Go.Proofs.YtihnjdhjkpmggaaCodes
open Go.Proofs.Try (prog)

section
variable {I : Calls} {Q : Post} {h : Heap}

theorem full_ok {ds gs : List Nat} {n x : Nat} (hds : ∀ d ∈ ds, d < 31) (hg : ∀ d ∈ gs, d < 31) (hx : x < 31) : ∀ d ∈ ds ++ gs ++ [x], d < 31 := fun d hd => by
  rcases List.mem_append.1 hd with hd | hd
  · rcases List.mem_append.1 hd with hd | hd
    · exact hds d hd
    · exact hg d hd
  · have : d = x := by simpa using hd
    omega

theorem IsCode.inj {ds : List Nat} {n k m1 m2 : Nat} {b : ByteArray} (hc : IsCode ds n k m1 b) (hd : IsCode ds n k m2 b) (hm : Mods (31 ^ n)) (hk : k < 31 ^ n) (hds : ∀ d ∈ ds, d < 31) (h1 : m1 < 31 ^ n) (h2 : m2 < 31 ^ n) : m1 = m2 := by
  obtain ⟨x, hx, hs, rfl⟩ := hc
  obtain ⟨y, hy, hs', he⟩ := hd
  have hl : ∀ v z, z < 31 → ∀ d ∈ ds ++ digs n v ++ [z], d < 31 := fun v z hz => full_ok (n := n) hds (digs_lt _ _) hz
  have h3 := code_inj (hl _ x hx) (hl _ y hy) he
  have h4 := (List.append_inj' h3 rfl).1
  have h5 : digs n (valOf k (31 ^ n) m1) = digs n (valOf k (31 ^ n) m2) := by simpa using h4
  have h6 := congrArg undigs h5
  rw [undigs_digs, undigs_digs] at h6
  have l5 := (lz_ok hm).2.2.2.2
  have p1 := undo (x := m1) hm
  have p2 := undo (x := m2) hm
  have q1 := Nat.mod_lt (m1 * 7919) l5
  have q2 := Nat.mod_lt (m2 * 7919) l5
  rw [Nat.mod_eq_of_lt h1] at p1
  rw [Nat.mod_eq_of_lt h2] at p2
  generalize 31 ^ n = all at *
  rw [valOf, valOf, Nat.mod_mod, Nat.mod_mod] at h6
  have h7 : m1 * 7919 % all = m2 * 7919 % all := by
    have b1 := back q1 hk
    have b2 := back q2 hk
    omega
  rw [← p1, ← p2, h7]

theorem spec42 (hI : Closed' prog Pm I) {ds : List Nat} {n k num : Nat} {b : ByteArray} (hc : IsCode ds n k num b) (hds : ∀ d ∈ ds, d < 31) (h1 : ds.length ≤ 12) (h2 : 3 ≤ n) (h3 : n ≤ 11) (h4 : k < 31 ^ n) (h5 : num < 31 ^ n) (hm : Mods (31 ^ n))
    (hQ : Q [int num, int 0] h) : I 42 [str (code ds), int n, int k, str b] Q h := by
  obtain ⟨l1, l2, l3, l4, l5⟩ := lz_ok hm
  obtain ⟨x, hx, hs, rfl⟩ := hc
  have hun := undigs_digs n (valOf k (31 ^ n) num)
  have hlen := digs_length n (valOf k (31 ^ n) num)
  have hdl := digs_lt n (valOf k (31 ^ n) num)
  have hval : valOf k (31 ^ n) num % 31 ^ n = valOf k (31 ^ n) num := by unfold valOf; rw [Nat.mod_mod]
  rw [hval] at hun
  generalize hg : digs n (valOf k (31 ^ n) num) = gs at *
  have hsz : (code (ds ++ gs ++ [x])).size = ds.length + n + 1 := by rw [code_size]; simp [hlen]; omega
  refine hI.go _ _ (den42 I _ _ _ _ Q) ?_
  refine spec82 hI hds h1 h2 h3 (by omega) (by omega) ⟨_, rfl, ifT_intro (fun h => by simp at h) fun _ => ?_⟩
  have he1 := full_ok (n := n) hds hdl hx
  refine spec27 hI he1 (by simp [hlen]; omega) (by simp [hlen]; omega) hs ⟨_, rfl, ?_⟩
  refine ifT_intro (fun h => by simp at h) fun _ => ?_
  refine joinK_intro (fun (b : Bool) h' => h' = h ∧ b = false) ?_ ?_
  · rintro _ h ⟨rfl, rfl⟩
    refine ifT_intro (fun h => by cases h) fun _ => ?_
    refine spec83 hI h3 ⟨_, rfl, ?_⟩
    have hp := fun j => pow31_le (n := j)
    refine loopK_intro (fun (a : Int × Int) h' m => h' = h ∧ ∃ j : Nat, j ≤ n ∧ a = (((undigs (gs.take j) : Nat) : Int), (j : Int)) ∧ n - j = m) n ⟨rfl, 0, by omega, rfl, rfl⟩ ?_
    rintro a h' m ⟨rfl, j, hj, rfl, rfl⟩
    dsimp only [uncur]
    rw [code_size]
    refine ifT_dec (fun hlt => ?_) (fun hge => ?_)
    · have hlt' : j < gs.length := by omega
      have e1 : IntKind.i64.wrap ((ds.length : Int) + (j : Int)) = ((ds.length + j : Nat) : Int) := by rw [w64] <;> omega
      rw [e1]
      have hd : (ds ++ gs ++ [x])[ds.length + j]? = some gs[j] := by
        rw [List.append_assoc, List.getElem?_append_right (by omega), show ds.length + j - ds.length = j by omega, List.getElem?_append_left hlt', List.getElem?_eq_getElem hlt']
      refine ⟨⟨by omega, by rw [hsz]; omega⟩, ?_⟩
      refine spec86_code hI he1 hd ⟨_, rfl, n - (j + 1), by omega, rfl, j + 1, by omega, ?_, rfl⟩
      have hb := undigs_lt (gs.take j) fun d hd => hdl d (List.mem_of_mem_take hd)
      have h10 := hdl _ (List.getElem_mem hlt')
      rw [List.length_take, Nat.min_eq_left (by omega)] at hb
      have hp2 := hp (j + 1) (by omega)
      rw [Nat.pow_succ] at hp2
      rw [List.take_add_one, List.getElem?_eq_getElem hlt']
      show _ = (((undigs (gs.take j ++ [gs[j]]) : Nat) : Int), _)
      rw [undigs_snoc]
      generalize undigs (gs.take j) = u at *
      generalize 31 ^ j = z at *
      rw [w64 (n := (u : Int) * 31) (by omega) (by omega), w64 (by omega) (by omega), w64 (by omega) (by omega)]
      rfl
    · have : j = n := by omega
      subst this
      rw [List.take_of_length_le (by omega), hun]
      refine ⟨by omega, spec87 hI hm ⟨_, rfl, ?_⟩⟩
      have hund := undo (x := num) hm
      obtain ⟨_, hi2, _⟩ := inv_ok hm
      have hw := Nat.mod_lt (num * 7919) l5
      rw [Nat.mod_eq_of_lt h5] at hund
      rw [valOf]
      generalize 31 ^ j = all at *
      have ew : (IntKind.i64.wrap (IntKind.i64.wrap ((((num * 7919 % all + k) % all : Nat) : Int) - (k : Int)) + (all : Int))).tmod (all : Int) = ((num * 7919 % all : Nat) : Int) := by
        have hb := back hw h4
        generalize num * 7919 % all = w at *
        generalize (w + k) % all = v at *
        rw [w64 (n := (v : Int) - (k : Int)) (by omega) (by omega), w64 (by omega) (by omega)]
        rcases hb with ⟨hb, _⟩ | hb
        · rw [show (v : Int) - (k : Int) + (all : Int) = ((w + all : Nat) : Int) by omega, ← Int.ofNat_tmod, Nat.add_mod_right, Nat.mod_eq_of_lt hw]
        · rw [show (v : Int) - (k : Int) + (all : Int) = ((w : Nat) : Int) by omega, ← Int.ofNat_tmod, Nat.mod_eq_of_lt hw]
      rw [ew]
      refine spec84 hI hm (by omega) (by omega) ⟨_, rfl, ?_⟩
      rw [hund]
      exact hQ
  · intro j hj
    have e1 : IntKind.i64.wrap (IntKind.i64.wrap (((code ds).size : Int) + (n : Int)) + 1) = ((ds.length + n + 1 : Nat) : Int) := by
      rw [code_size, w64 (n := (ds.length : Int) + (n : Int)) (by omega) (by omega), w64 (by omega) (by omega)]; rfl
    rw [e1, hsz]
    refine ifT_intro (fun h => by simp at h) fun _ => ?_
    rw [List.append_assoc]
    exact spec85 hI ⟨_, rfl, hj _ _ ⟨rfl, rfl⟩⟩

theorem Strm.make {h : Heap} {i : Nat} {l : Sl} {zs : List Int} (hs : At h 1 l (ints zs)) (hi : h i = none) : Strm (h.set i (strm l 0)) i l zs 0 := by
  refine ⟨set_eq _ _ _, (Ext.new hi).at_ hs, ?_, by decide⟩
  rcases hs.2 with h1 | h1
  · left; simpa [ints] using h1
  · right
    rintro b o ha rfl
    unfold Heap.sl at h1
    rw [ha] at h1
    simp only [Heap.read, hi] at h1
    cases h1

/-- The law. -/
theorem spec7 (hI : Closed' prog Pm I) {s : Sl} {zs : List Int} (hs : At h 1 s (ints zs)) : I 7 [.one (.slice 1 s)] tru h := by
  refine hI.go _ _ (den7 I s tru) ?_
  refine newK_intro fun i2 h1 hn1 he1 => newK_intro fun i4 h2 hn2 he2 => ?_
  have S0 : Strm h1 i2 s zs 0 := he1 ▸ Strm.make hs hn1
  have S1 : Strm h2 i2 s zs 0 := S0.ext (he2 ▸ Ext.new hn2)
  have hne : i4 ≠ i2 := fun h => by subst h; rw [S0.cell] at hn2; cases hn2
  have hlit : At (h2.set i2 (strm s (0 + 1))) 1 ⟨some (i4, 0), 3⟩ (ints [3, 4, 11]) := by
    refine ⟨rfl, .inr ?_⟩
    show (h2.set i2 _).read i4 0 3 = _
    unfold Heap.read
    rw [set_ne _ _ hne, he2, set_eq]
    rfl
  refine spec30 hI S1 hlit (by decide) (by decide) fun v hv => ⟨v, rfl, ?_⟩
  obtain ⟨n, rfl, hm, hn3, hn11⟩ : ∃ n : Nat, v = n ∧ Mods (31 ^ n) ∧ 3 ≤ n ∧ n ≤ 11 := by
    simp only [List.mem_cons, List.not_mem_nil, or_false] at hv
    rcases hv with rfl | rfl | rfl
    · exact ⟨3, rfl, .inl rfl, by decide, by decide⟩
    · exact ⟨4, rfl, .inr (.inl rfl), by decide, by decide⟩
    · exact ⟨11, rfl, .inr (.inr rfl), by decide, by decide⟩
  have hall : 29791 ≤ 31 ^ n := by
    have : 31 ^ 3 ≤ 31 ^ n := Nat.pow_le_pow_right (by decide) hn3
    exact this
  have S2 := S1.next (by decide)
  refine spec12 hI S2 (by decide) (by decide) fun v2 h20 h21 => ⟨v2, rfl, ?_⟩
  have S3 := S2.next (by decide)
  refine spec12 hI S3 (by decide) (by decide) fun v3 h30 h31 => ⟨v3, rfl, ?_⟩
  have S4 := S3.next (by decide)
  refine spec12 hI S4 (by decide) (by decide) fun v4 h40 h41 => ⟨v4, rfl, ?_⟩
  obtain ⟨k, rfl⟩ := Int.eq_ofNat_of_zero_le h20
  obtain ⟨f, rfl⟩ := Int.eq_ofNat_of_zero_le h30
  obtain ⟨c, rfl⟩ := Int.eq_ofNat_of_zero_le h40
  have e : (ByteArray.mk #[88]) = code [29] := by decide
  have hds : ∀ d ∈ [29], d < 31 := by decide
  rw [e]
  refine spec41 hI hds (by decide) hn3 hn11 (by omega) (by omega) (by omega) (by omega) (by omega) hm fun sl h' cs hext hat hcl hcs => ⟨_, _, rfl, ?_⟩
  refine ifT_intro (fun h => by simp at h) fun _ => ?_
  have hlen : sl.len = cs.length := by simpa [strs] using hat.1
  refine loopK_intro (fun a h'' m => h'' = h' ∧ ∃ i : Nat, i ≤ cs.length ∧ a = i ∧ cs.length - i = m) cs.length ⟨rfl, 0, by omega, rfl, rfl⟩ ?_
  rintro a h'' m ⟨rfl, i, hi, rfl, rfl⟩
  refine ifT_dec (fun hlt => ⟨⟨by omega, hlt⟩, hat.one (by omega) hlt fun b o cl hc hr => ?_⟩) (fun hge => ?_)
  · simp only [strs, Int.toNat_natCast, List.getElem?_map] at hc
    cases hz : cs[i]? with
    | none => rw [hz] at hc; cases hc
    | some b =>
      rw [hz] at hc
      cases hc
      have hb := hcs i b hz
      refine ⟨b, hr, spec42 hI hb hds (by decide) hn3 hn11 (by omega) (by omega) hm ⟨_, _, rfl, ifT_intro (fun h => by simp at h) fun _ => ?_⟩⟩
      have ew : IntKind.i64.wrap ((f : Int) + (i : Int)) = ((f + i : Nat) : Int) := by rw [w64] <;> omega
      rw [ew]
      refine ifT_intro (fun h => by simp at h) fun _ => ⟨⟨by omega, by omega, by omega⟩, ?_⟩
      rw [Int.toNat_natCast]
      have hsub : At h'' 1 (sl.sub 1 0 i) (strs (cs.take i)) := by
        have := hat.sub 0 i (by omega) (by omega)
        simpa [strs, List.map_take] using this
      refine spec43 hI hsub (by simp; omega) ?_ ⟨false, rfl, ifT_intro (fun h => by cases h) fun _ => ?_⟩
      · intro hmem
        obtain ⟨j, hj, hjb⟩ := List.getElem_of_mem hmem
        rw [List.length_take] at hj
        rw [List.getElem_take] at hjb
        have hb2 := hcs j b (by rw [List.getElem?_eq_getElem (by omega), hjb])
        have := IsCode.inj hb hb2 hm (by omega) hds (by omega) (by omega)
        omega
      · obtain ⟨x, hx, hsum, rfl⟩ := hb
        refine spec27 hI (full_ok (n := n) hds (digs_lt _ _) hx) (by simp [digs_length]; omega) (by simp [digs_length]; omega) hsum ⟨_, rfl, ifT_intro (fun h => by simp at h) fun _ => ?_⟩
        exact ⟨cs.length - (i + 1), by omega, rfl, i + 1, by omega, by rw [w64] <;> omega, rfl⟩
  · exact spec26 hI ⟨true, rfl, rfl⟩

end
end Go.Proofs.YtihnjdhjkpmggaaVc
