/- Contracts of what CodesNotice reaches, part 2: writing a code, and the law. -/
import Derived.Test.YtihnjdhjkpmggaaVcCnSpec
set_option linter.unusedSimpArgs false
set_option linter.unusedVariables false
namespace Go.Proofs.YtihnjdhjkpmggaaVc
open Go.Proofs.YtihnjdhjkpmggaaCodes
open Go.Proofs.Try (prog)

section
variable {I : Calls} {Q : Post} {h : Heap}

theorem spec28 (hI : Closed' prog Pm I) {es : List Nat} (hds : ∀ d ∈ es, d < 31) (h1 : 4 ≤ es.length) (h2 : es.length ≤ 24) (h3 : wsum es % 31 = 0)
    (hQ : ∀ w h', Ext h h' → w.size ≤ 100 → (∀ b ∈ w.data.toList, b = 45 ∨ ∃ d, d < 31 ∧ b = sgn d) → w.data.toList.filter (· ≠ 45) = es.map sgn → Q [str w, int 0] h') : I 28 [str (code es)] Q h := by
  refine hI.go _ _ (den28 I (code es) Q) ?_
  refine spec27 hI hds h1 h2 h3 ⟨_, rfl, ifT_intro (fun h => by simp at h) fun _ => ?_⟩
  refine loopK_intro (fun (a : ByteArray × Sl) h' m => ∃ gs rest, a.1 = code rest ∧ Own h h' 1 a.2 (strs (gs.map code)) ∧ gs.flatten ++ rest = es ∧ gs.length * 4 + rest.length = es.length ∧ rest.length = m) es.length
    ⟨[], es, rfl, Own.nil _ _, rfl, by simp, rfl⟩ ?_
  rintro ⟨_, s⟩ h' m ⟨gs, rest, rfl, ho, hfl, hlen, rfl⟩
  have hsl : s.len = gs.length := by have := ho.len; simpa [strs] using this
  dsimp only [uncur]
  rw [code_size]
  refine ifT_dec (fun hlt => ⟨⟨by decide, by decide, by omega⟩, ?_⟩) (fun hge => ?_)
  · refine appendTo_own (m := 0) ho (by rfl) (by omega) fun s' h2' ho' hl' => ⟨⟨by decide, by omega, by omega⟩, rest.length - 4, by omega, gs ++ [rest.take 4], rest.drop 4, ?_, ?_, ?_, ?_, ?_⟩
    · rw [code_extract]
      congr 1
      rw [List.take_of_length_le]
      simp
    · rw [code_extract] at ho'
      simpa [strs] using ho'
    · rw [← hfl]; simp
    · simp; omega
    · simp
  · refine appendTo_own (m := 0) ho (by rfl) (by omega) fun s' h2' ho' hl' => ?_
    have hfl' : (gs ++ [rest]).flatten = es := by rw [← hfl]; simp
    have hmap : ((gs ++ [rest]).map code).map (fun b => b.data.toList) = (gs ++ [rest]).map (·.map sgn) := by simp [List.map_map, code_list, Function.comp_def]
    have hno : ∀ x ∈ (gs ++ [rest]).map (·.map sgn), ∀ b ∈ x, b ≠ 45 := fun x hx b hb => by
      obtain ⟨g, hg, rfl⟩ := List.mem_map.1 hx
      obtain ⟨d, hd, rfl⟩ := List.mem_map.1 hb
      exact (sgn_plain d (hds d (by rw [← hfl']; exact List.mem_flatten.2 ⟨g, hg, hd⟩))).1
    have hflat : ((gs ++ [rest]).map (·.map sgn)).flatten = es.map sgn := by rw [← List.map_flatten, hfl']
    obtain ⟨f1, f2, f3⟩ := join_facts _ (by simp) hno
    rw [hflat] at f1 f2 f3
    simp only [List.length_map, List.length_append, List.length_singleton] at f3
    have hdata : (joined ((gs ++ [rest]).map code) (ByteArray.mk #[45])).data.toList = Lib.join ((gs ++ [rest]).map (·.map sgn)) [45] := by
      unfold joined
      rw [hmap]
    refine hI.prim _ _ _ _ (.inr ⟨rfl, s', (gs ++ [rest]).map code, _, rfl, ?_, by simp, by simp; omega, ?_, _, rfl, hQ _ _ ho'.ext ?_ ?_ ?_⟩)
    · have := ho'.at_
      simpa [strs] using this
    · rw [hmap]
      show (Lib.join _ [45]).length ≤ _
      omega
    · rw [size_list, hdata]; omega
    · rw [hdata]
      intro b hb
      rcases f1 b hb with h4 | h4
      · exact .inl h4
      · obtain ⟨d, hd, rfl⟩ := List.mem_map.1 h4
        exact .inr ⟨d, hds d hd, rfl⟩
    · rw [hdata]
      exact f2

theorem block_sl {h : Heap} {i n : Nat} {ro : Bool} {cs : List Cell} (hi : h i = some (.cells ro cs)) (hn : cs.length = n) : h.sl 1 ⟨some (i, 0), n⟩ = some cs := by
  show h.read i 0 (n * 1) = _
  rw [read_block hi (by omega), List.drop_zero, List.take_of_length_le (by omega)]

theorem bytes_set (es : List Nat) (i d : Nat) : (byteCells (code es)).set i (.int .u8 ((sgn d).toNat : Int)) = byteCells (code (es.set i d)) := by
  rw [code_bytes, code_bytes, List.map_set]
theorem bytes_get {es : List Nat} {i d : Nat} (h : es[i]? = some d) : (byteCells (code es))[i]? = some (.int .u8 ((sgn d).toNat : Int)) := by
  rw [code_bytes, List.getElem?_map, h]; rfl
theorem bytes_len (es : List Nat) : (byteCells (code es)).length = es.length := by rw [code_bytes]; simp

/-- The law. -/
theorem spec5 (hI : Closed' prog Pm I) {s : Sl} {zs : List Int} (hs : At h 1 s (ints zs)) : I 5 [.one (.slice 1 s)] tru h := by
  refine hI.go _ _ (den5 I s tru) ?_
  refine newK_intro fun i2 h1 hn1 he1 => ?_
  have S0 : Strm h1 i2 s zs 0 := he1 ▸ Strm.make hs hn1
  refine spec25 hI S0 (by decide) fun r h2 t2 S2 ht2 hr => ⟨r, rfl, ?_⟩
  refine spec24g hI (by omega) (fun r n hn => ⟨r, n, rfl, ifT_intro (fun _ => spec26 hI ⟨true, rfl, rfl⟩) fun h => by simp [hn] at h⟩) fun ds x hds hl1 hl2 hx hsum => ⟨_, _, rfl, ifT_intro (fun h => by simp at h) fun _ => ?_⟩
  have hall : ∀ d ∈ ds ++ [x], d < 31 := fun d hd => by
    rcases List.mem_append.1 hd with hd | hd
    · exact hds d hd
    · have : d = x := by simpa using hd
      omega
  have hlen : 4 ≤ (ds ++ [x]).length ∧ (ds ++ [x]).length ≤ 24 := by simp; omega
  generalize ds ++ [x] = es at *
  obtain ⟨g1, g2⟩ := hlen
  rw [code_size]
  refine ifT_dec (fun h => by omega) fun _ => ?_
  refine spec12 hI S2 (by omega) (by omega) fun a ha0 ha1 => ⟨a, rfl, ?_⟩
  have S3 := S2.next (by omega)
  refine spec12 hI S3 (by omega) (by omega) fun b hb0 hb1 => ⟨b, rfl, ?_⟩
  have S4 := S3.next (by omega)
  obtain ⟨i, rfl⟩ := Int.eq_ofNat_of_zero_le ha0
  obtain ⟨j, rfl⟩ := Int.eq_ofNat_of_zero_le hb0
  have hi : i < es.length := by omega
  have hj : j < es.length := by omega
  have gi := List.getElem?_eq_getElem hi
  have gj := List.getElem?_eq_getElem hj
  have di := hall _ (List.getElem_mem hi)
  have dj := hall _ (List.getElem_mem hj)
  have ei : 0 + (i : Int).toNat * 1 = i := by simp
  have ej : 0 + (j : Int).toNat * 1 = j := by simp
  generalize es[i] = p at *
  generalize es[j] = q at *
  refine newK_intro fun i22 h5 hn5 he5 => ?_
  subst he5
  have hne22 : i22 ≠ i2 := fun h => by subst h; rw [S4.cell] at hn5; cases hn5
  simp only [ei, ej]
  refine ⟨⟨by omega, by omega⟩, _, read_cell (set_eq _ _ _) (bytes_get gj), ⟨by omega, by omega⟩, _, read_cell (set_eq _ _ _) (bytes_get gi), ⟨by omega, by omega⟩, storeK_one (set_eq _ _ _) (by rw [bytes_len]; omega) ⟨⟨by omega, by omega⟩, ?_⟩⟩
  rw [bytes_set, set_set]
  refine storeK_one (set_eq _ _ _) (by rw [bytes_len]; simp; omega) ?_
  rw [bytes_set, set_set]
  have S6 := S4.ext (Ext.new (o := .cells false (byteCells (code ((es.set i q).set j p)))) hn5)
  have hall2 : ∀ d ∈ (es.set i q).set j p, d < 31 := fun d hd => by
    rcases List.mem_or_eq_of_mem_set hd with hd | hd
    · rcases List.mem_or_eq_of_mem_set hd with hd | hd
      · exact hall d hd
      · omega
    · omega
  have hall3 : ∀ v, v < 31 → ∀ d ∈ es.set i v, d < 31 := fun v hv d hd => by
    rcases List.mem_or_eq_of_mem_set hd with hd | hd
    · exact hall d hd
    · omega
  have hinj : ∀ gs : List Nat, (∀ d ∈ gs, d < 31) → code gs ≠ code es → gs ≠ es := fun gs _ h e => h (by rw [e])
  refine joinK_intro (fun (b : Bool) h' => b = false ∧ Strm h' i2 s zs (t2 + 1 + 1)) ?_ (fun jk hjk => ?_)
  rotate_left
  · have hbl : ∀ H : Heap, (H.set i22 (.cells false (byteCells (code ((es.set i q).set j p))))).sl 1 ⟨some (i22, 0), es.length⟩ = some (byteCells (code ((es.set i q).set j p))) := fun H => block_sl (set_eq _ _ _) (by rw [bytes_len]; simp)
    refine ⟨_, hbl _, ifT_intro (fun hne => ⟨_, hbl _, ?_⟩) fun _ => hjk _ _ ⟨rfl, S6⟩⟩
    have hne' : code ((es.set i q).set j p) ≠ code es := by simpa using hne
    exact spec27b hI hall2 (by simp; omega) (by simp; omega) (swap_bad gi gj (by omega) (by omega) di dj hsum (hinj _ hall2 hne')) ⟨_, rfl, hjk _ _ ⟨rfl, S6⟩⟩
  · clear S6
    rintro _ h' ⟨rfl, S6⟩
    refine ifT_intro (fun h => by cases h) fun _ => ?_
    refine newK_intro fun i29 h7 hn7 he7 => ?_
    subst he7
    have hne29 : i29 ≠ i2 := fun h => by subst h; rw [S6.cell] at hn7; cases hn7
    have S7 := S6.ext (Ext.new (o := .cells false (byteCells (code es))) hn7)
    refine spec12 hI S7 (by decide) (by decide) fun v hv0 hv1 => ⟨v, rfl, ⟨hv0, hv1⟩, ⟨by omega, by omega⟩, ?_⟩
    obtain ⟨k, rfl⟩ := Int.eq_ofNat_of_zero_le hv0
    have hk : k < 31 := by omega
    rw [sign_at hk]
    refine storeK_one (by rw [set_ne _ _ hne29]; exact set_eq _ _ _) (by rw [bytes_len]; omega) ?_
    rw [bytes_set]
    refine joinK_intro (fun (b : Bool) h' => b = false) ?_ (fun jk hjk => ?_)
    rotate_left
    · have hbl : ∀ H : Heap, (H.set i29 (.cells false (byteCells (code (es.set i k))))).sl 1 ⟨some (i29, 0), es.length⟩ = some (byteCells (code (es.set i k))) := fun H => block_sl (set_eq _ _ _) (by rw [bytes_len]; simp)
      refine ⟨_, hbl _, ifT_intro (fun hne => ⟨_, hbl _, ?_⟩) fun _ => hjk _ _ rfl⟩
      have hne' : code (es.set i k) ≠ code es := by simpa using hne
      have hkp : k ≠ p := by
        rintro rfl
        apply hne'
        congr 1
        apply List.ext_getElem?
        intro m
        rw [List.getElem?_set]
        split
        · rename_i h; subst h; simp [hi]; exact (List.getElem?_eq_some_iff.1 gi).2.symm
        · rfl
      exact spec27b hI (hall3 k hk) (by simp; omega) (by simp; omega) (set_bad gi (by omega) di hk hkp hsum) ⟨_, rfl, hjk _ _ rfl⟩
    · rintro _ h8 rfl
      refine ifT_intro (fun h => by cases h) fun _ => ?_
      refine spec28 hI hall g1 g2 hsum fun w h9 _ hw1 hw2 hw3 => ⟨_, _, rfl, ?_⟩
      refine spec29 hI hw1 hw2 hw3 hall g1 g2 hsum fun h10 _ => ⟨_, _, rfl, ?_⟩
      refine spec26 hI ⟨true, rfl, ifT_intro (fun _ => ?_) fun h => by cases h⟩
      refine spec27 hI hall g1 g2 hsum ⟨_, rfl, ifT_intro (fun _ => ifT_intro (fun _ => ifT_intro (fun _ => ?_) fun h => by simp at h) fun h => by simp at h) fun h => by simp at h⟩
      show [boo _] = [boo true]
      simp

end
end Go.Proofs.YtihnjdhjkpmggaaVc
