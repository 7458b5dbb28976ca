/- Contracts of what CodesNotice reaches beyond CodesCount. -/
import Derived.Test.YtihnjdhjkpmggaaVcCnVc
import Derived.Test.YtihnjdhjkpmggaaVcCnMath
set_option linter.unusedSimpArgs false
set_option linter.unusedVariables false
namespace Go.Proofs.YtihnjdhjkpmggaaVc
open Go.Proofs.YtihnjdhjkpmggaaCodes
open Go.Proofs.Try (prog)

section
variable {I : Calls} {Q : Post} {h : Heap}

theorem spec67 (hI : Closed' prog Pm I) {i : Nat} {l : Sl} {zs : List Int} {t : Nat} {n : Int} (S : Strm h i l zs t) (h1 : 1 ≤ n) (h2 : n < 4611686018427387904)
    (hQ : ∀ b, Q [boo b] (h.set i (strm l (t + 1)))) : I 67 [.one (.ptr (some (i, 0))), int n] Q h := by
  refine hI.go _ _ (den67 I (some (i, 0)) n Q) ?_
  exact spec12 hI S h1 h2 fun v _ _ => ⟨v, rfl, hQ _⟩

theorem encode_size (n : Int) : (Utf8.encode n).size ≤ 4 := by
  unfold Utf8.encode
  simp only
  repeat' split
  all_goals first | exact (show (1 : Nat) ≤ 4 by decide) | exact (show (2 : Nat) ≤ 4 by decide) | exact (show (3 : Nat) ≤ 4 by decide) | exact (show (4 : Nat) ≤ 4 by decide)
theorem extract_le (s : ByteArray) (a b : Nat) : (s.extract a b).size ≤ s.size := by
  rw [ByteArray.size_extract]; omega
theorem nonempty_size {s : ByteArray} (h : s ≠ ⟨#[]⟩) : 0 < s.size := by
  rcases Nat.eq_zero_or_pos s.size with h1 | h1
  · exfalso
    apply h
    obtain ⟨⟨l⟩⟩ := s
    cases l with
    | nil => rfl
    | cons x l => simp [ByteArray.size] at h1
  · exact h1

theorem spec75 (hI : Closed' prog Pm I) {i : Nat} {l : Sl} {zs : List Int} {t : Nat} {s w : ByteArray} (S : Strm h i l zs t) (ht : t < 1000) (h1 : s.size < 1000) (h2 : w.size < 1000)
    (hQ : ∀ r h' t', Strm h' i l zs t' → t' ≤ t + 3 → r.size ≤ s.size + w.size + 4 → Q [str r] h') : I 75 [.one (.ptr (some (i, 0))), str s, str w] Q h := by
  refine hI.go _ _ (den75 I (some (i, 0)) s w Q) ?_
  refine joinK_intro (fun (b : Bool) h' => h' = h ∧ (b = false → 0 < s.size ∧ 0 < w.size)) ?_ ?_
  · rintro b h' ⟨rfl, hb⟩
    refine ifT_intro (fun _ => hQ _ _ _ S (by omega) (by omega)) fun hf => ?_
    obtain ⟨hs, hw⟩ := hb hf
    refine spec12 hI S (by omega) (by omega) fun a ha0 ha1 => ⟨a, rfl, ?_⟩
    have S1 := S.next (by omega)
    refine spec12 hI S1 (by omega) (by omega) fun b hb0 hb1 => ⟨b, rfl, ⟨hb0, hb1⟩, ?_⟩
    have S2 := S1.next (by omega)
    refine spec12 hI S2 (by decide) (by decide) fun c _ _ => ⟨c, rfl, ?_⟩
    have S3 := S2.next (by omega)
    have ew : IntKind.i64.wrap (a + 1) = a + 1 := w64 (by omega) (by omega)
    have z1 := extract_le s 0 a.toNat
    have z2 := encode_size (IntKind.i32.wrap (byteAt w b))
    have z3 := extract_le s (a + 1).toNat (s.size : Int).toNat
    have z4 := extract_le s a.toNat (s.size : Int).toNat
    have y1 : (s.extract 0 a.toNat).size = min a.toNat s.size - 0 := ByteArray.size_extract
    have y3 : (s.extract (a + 1).toNat (s.size : Int).toNat).size = min (s.size : Int).toNat s.size - (a + 1).toNat := ByteArray.size_extract
    have y4 : (s.extract a.toNat (s.size : Int).toNat).size = min (s.size : Int).toNat s.size - a.toNat := ByteArray.size_extract
    rw [ew]
    refine ifT_dec (fun _ => ?_) fun _ => ifT_dec (fun _ => ?_) fun _ => ?_
    · exact ⟨⟨by omega, by omega, by omega⟩, by omega, ⟨by omega, by omega, by omega⟩, by rw [ByteArray.size_append]; omega, hQ _ _ _ S3 (by omega) (by rw [ByteArray.size_append, ByteArray.size_append]; omega)⟩
    · exact ⟨⟨by omega, by omega, by omega⟩, by omega, ⟨by omega, by omega, by omega⟩, by rw [ByteArray.size_append]; omega, hQ _ _ _ S3 (by omega) (by rw [ByteArray.size_append, ByteArray.size_append]; omega)⟩
    · exact ⟨⟨by omega, by omega, by omega⟩, ⟨by omega, by omega, by omega⟩, by omega, hQ _ _ _ S3 (by omega) (by rw [ByteArray.size_append]; omega)⟩
  · intro j hj
    refine ifT_dec (fun h3 => hj _ _ ⟨rfl, fun h => by cases h⟩) fun h3 => hj _ _ ⟨rfl, fun h4 => ⟨nonempty_size h3, nonempty_size (by simpa using h4)⟩⟩

theorem spec25 (hI : Closed' prog Pm I) {i : Nat} {l : Sl} {zs : List Int} {t : Nat} (S : Strm h i l zs t) (ht : t < 100)
    (hQ : ∀ r h' t', Strm h' i l zs t' → t' ≤ t + 40 → r.size ≤ 100 → Q [str r] h') : I 25 [.one (.ptr (some (i, 0)))] Q h := by
  refine hI.go _ _ (den25 I (some (i, 0)) Q) ?_
  refine newK_intro fun i4 h2 hn2 he2 => ?_
  have S1 : Strm h2 i l zs t := S.ext (he2 ▸ Ext.new hn2)
  have hne : i4 ≠ i := fun h => by subst h; rw [S.cell] at hn2; cases hn2
  have hlit : At (h2.set i (strm l (t + 1))) 1 ⟨some (i4, 0), 8⟩ (ints [2, 3, 3, 5, 8, 22, 23, 24]) := by
    refine ⟨rfl, .inr ?_⟩
    show (h2.set i _).read i4 0 8 = _
    unfold Heap.read
    rw [set_ne _ _ hne, he2, set_eq]
    rfl
  refine spec30 hI S1 hlit (by decide) (by decide) fun v hv => ⟨v, rfl, ?_⟩
  have hv1 : 0 ≤ v ∧ v ≤ 24 := by
    have : ∀ v ∈ [(2 : Int), 3, 3, 5, 8, 22, 23, 24], 0 ≤ v ∧ v ≤ 24 := by decide
    exact this v hv
  have S2 := S1.next (by omega)
  refine loopK_intro (fun (a : ByteArray × Int) h'' m => ∃ j : Nat, (j : Int) ≤ v ∧ a.2 = j ∧ a.1.size ≤ j ∧ Strm h'' i l zs (t + 1 + j) ∧ 24 - j = m) 24 ⟨0, by omega, rfl, by decide, S2, rfl⟩ ?_
  rintro ⟨s, y⟩ h'' m ⟨j, hj, rfl, hsz, S3, rfl⟩
  simp only at hsz
  dsimp only [uncur]
  refine ifT_dec (fun hlt => ?_) (fun hge => ?_)
  · refine spec12 hI S3 (by decide) (by decide) fun k hk0 hk1 => ⟨k, rfl, ?_⟩
    have ew : IntKind.i64.wrap (k + 1) = k + 1 := w64 (by omega) (by omega)
    rw [ew]
    have hx : (signS.extract k.toNat (k + 1).toNat).size = min (k + 1).toNat signS.size - k.toNat := ByteArray.size_extract
    refine ⟨⟨hk0, by omega, by show k + 1 ≤ ((31 : Nat) : Int); omega⟩, by omega, 24 - (j + 1), by omega, j + 1, by omega, ?_, ?_, S3.next (by omega), rfl⟩
    · show IntKind.i64.wrap ((j : Int) + 1) = _
      rw [w64] <;> omega
    · show (s ++ _).size ≤ _
      rw [ByteArray.size_append]; omega
  · refine spec67 hI S3 (by decide) (by decide) fun b => ⟨b, rfl, ?_⟩
    have S4 := S3.next (by omega)
    refine ifT_intro (fun _ => ?_) fun _ => hQ _ _ _ S4 (by omega) (by omega)
    exact spec75 hI S4 (by omega) (by omega) (by decide) fun r h' t' S5 ht' hr => ⟨r, rfl, hQ _ _ _ S5 (by omega) (by
      have : (ByteArray.mk #[79, 73, 76, 83, 90, 97, 45]).size = 7 := rfl
      omega)⟩

/-- Are all bytes signs? -/
theorem spec73g (hI : Closed' prog Pm I) {s : ByteArray} (hl : s.size < 1000) (hy : ∀ ds, s = code ds → (∀ d ∈ ds, d < 31) → Q [boo true] h) (hn : Q [boo false] h) : I 73 [str s] Q h := by
  refine hI.go _ _ (den73 I s Q) ?_
  refine loopK_intro (fun a h' m => h' = h ∧ ∃ i : Nat, i ≤ s.size ∧ a = i ∧ m = s.size - i ∧ ∀ b ∈ s.data.toList.take i, ∃ d, d < 31 ∧ b = sgn d) s.size ⟨rfl, 0, by omega, rfl, rfl, by simp⟩ ?_
  rintro a h' m ⟨rfl, i, hi, rfl, rfl, hall⟩
  refine ifT_dec (fun hlt => ⟨⟨by omega, hlt⟩, ?_⟩) (fun hge => ?_)
  · have hlt' : i < s.data.toList.length := by rw [← size_list]; omega
    have hb := List.getElem?_eq_getElem hlt'
    refine spec86 hI ⟨_, rfl, ?_⟩
    rw [byteAt_u8 hb]
    refine ifT_dec (fun _ => hn) fun h1 => ?_
    refine ⟨s.size - (i + 1), by omega, rfl, i + 1, by omega, by rw [w64] <;> omega, rfl, fun b hb' => ?_⟩
    rw [List.take_add_one, hb] at hb'
    rcases List.mem_append.1 hb' with h2 | h2
    · exact hall b h2
    · have : b = s.data.toList[i] := by simpa using h2
      rw [this]
      exact (sign_iff _).1 (by omega)
  · have : i = s.size := by omega
    subst this
    rw [size_list, List.take_length] at hall
    obtain ⟨ds, h1, h2⟩ := code_of _ hall
    exact hy ds (eq_code h1) h2

/-- Seal: of what is no body there is an error. -/
theorem spec24g (hI : Closed' prog Pm I) {s : ByteArray} (hl : s.size < 1000) (hn : ∀ r n, n ≠ 0 → Q [str r, int n] h)
    (hy : ∀ ds x, (∀ d ∈ ds, d < 31) → 3 ≤ ds.length → ds.length ≤ 23 → x < 31 → wsum (ds ++ [x]) % 31 = 0 → Q [str (code (ds ++ [x])), int 0] h) : I 24 [str s] Q h := by
  refine hI.go _ _ (den24 I s Q) ?_
  refine spec72 hI ⟨_, rfl, ifT_intro (fun _ => hn _ _ (by decide)) fun hb => ?_⟩
  have hb' : 3 ≤ s.size ∧ s.size ≤ 23 := by simp at hb; omega
  refine spec73g hI hl (fun ds he hds => ⟨true, rfl, ifT_intro (fun h => by cases h) fun _ => ?_⟩) ⟨false, rfl, ifT_intro (fun _ => hn _ _ (by decide)) fun h => by cases h⟩
  subst he
  rw [code_size] at hb'
  exact spec74 hI hds (by omega) fun x h3 h4 => ⟨_, rfl, hy ds x hds hb'.1 hb'.2 h3 h4⟩

theorem spec27b (hI : Closed' prog Pm I) {ds : List Nat} (hds : ∀ d ∈ ds, d < 31) (h1 : 4 ≤ ds.length) (h2 : ds.length ≤ 24) (h3 : wsum ds % 31 ≠ 0) (hQ : Q [int 15] h) : I 27 [str (code ds)] Q h := by
  refine hI.go _ _ (den27 I (code ds) Q) ?_
  refine spec72 hI ⟨_, rfl, ?_⟩
  rw [code_size]
  have hb : (decide ((4 : Int) ≤ (ds.length : Int)) && decide ((ds.length : Int) ≤ 24)) = true := by simp; omega
  rw [hb]
  refine ifT_intro (fun h => by cases h) fun _ => ?_
  refine spec73 hI hds (by omega) ⟨true, rfl, ifT_intro (fun h => by cases h) fun _ => ?_⟩
  refine spec76 hI hds (by omega) ⟨_, rfl, ifT_intro (fun _ => hQ) fun h => ?_⟩
  simp at h
  omega

/-- A sign is typed as it is. -/
theorem spec78 (hI : Closed' prog Pm I) {d : Nat} (hd : d < 31) (hQ : Q [.one (.int .u8 ((sgn d).toNat : Int))] h) : I 78 [.one (.int .u8 ((sgn d).toNat : Int))] Q h := by
  obtain ⟨_, _, _, a1, a2, a3, a4, a5, a6⟩ := sgn_plain d hd
  refine hI.go _ _ (den78 I _ Q) ?_
  refine joinK_intro (fun (b : Bool) h' => h' = h ∧ b = false) ?_ fun j hj => ifT_dec (fun h => by omega) fun _ => hj _ _ ⟨rfl, rfl⟩
  rintro _ h' ⟨rfl, rfl⟩
  refine joinK_intro (fun (n : Int) h'' => h'' = h' ∧ n = ((sgn d).toNat : Int)) ?_ fun j hj => ifT_intro (fun h => by cases h) fun _ => hj _ _ ⟨rfl, rfl⟩
  rintro _ h'' ⟨rfl, rfl⟩
  exact ifT_dec (fun h => by omega) fun _ => ifT_dec (fun h => by omega) fun _ => ifT_dec (fun h => by omega) fun _ => ifT_dec (fun h => by omega) fun _ => ifT_dec (fun h => by omega) fun _ => hQ

/-- What is typed with hyphens is read as the code. -/
theorem spec29 (hI : Closed' prog Pm I) {w : ByteArray} {ds : List Nat} (hw : w.size ≤ 100) (hb : ∀ b ∈ w.data.toList, b = 45 ∨ ∃ d, d < 31 ∧ b = sgn d) (hf : w.data.toList.filter (· ≠ 45) = ds.map sgn)
    (hds : ∀ d ∈ ds, d < 31) (h1 : 4 ≤ ds.length) (h2 : ds.length ≤ 24) (h3 : wsum ds % 31 = 0) (hQ : ∀ h', Ext h h' → Q [str (code ds), int 0] h') : I 29 [str w] Q h := by
  refine hI.go _ _ (den29 I w Q) ?_
  refine ifT_dec (fun h => by omega) fun _ => ?_
  refine loopK_intro (fun (a : Sl × Int) h' m => ∃ i : Nat, i ≤ w.size ∧ a.2 = i ∧ m = w.size - i ∧ ∃ es, Own h h' 1 a.1 (bytesOf es) ∧ es.map sgn = (w.data.toList.take i).filter (· ≠ 45) ∧ es.length ≤ i ∧ ∀ d ∈ es, d < 31) w.size
    ⟨0, by omega, rfl, rfl, [], Own.nil _ _, rfl, by simp, by simp⟩ ?_
  rintro ⟨s, y⟩ h' m ⟨i, hi, rfl, rfl, es, ho, he, hel, hes⟩
  dsimp only [uncur]
  refine ifT_dec (fun hlt => ⟨⟨by omega, hlt⟩, ?_⟩) (fun hge => ?_)
  · have hlt' : i < w.data.toList.length := by rw [← size_list]; omega
    have hg := List.getElem?_eq_getElem hlt'
    generalize hbv : w.data.toList[i] = b at *
    have hbs := hb b (List.mem_of_getElem? hg)
    rw [byteAt_get hg]
    have ew : IntKind.i64.wrap ((i : Int) + 1) = ((i + 1 : Nat) : Int) := by rw [w64] <;> omega
    have htk : (w.data.toList.take (i + 1)).filter (· ≠ 45) = (w.data.toList.take i).filter (· ≠ 45) ++ [b].filter (· ≠ 45) := by
      rw [List.take_add_one, hg, List.filter_append]; rfl
    refine joinK_intro (fun (c : Bool) h'' => h'' = h' ∧ (c = true → ∃ d, d < 31 ∧ b = sgn d) ∧ (c = false → b = 45)) ?_ ?_
    · rintro c h'' ⟨rfl, hc1, hc2⟩
      refine ifT_intro (fun hc => ?_) (fun hc => ?_)
      · obtain ⟨d, hd, rfl⟩ := hc1 hc
        refine spec78 hI hd ⟨_, rfl, ?_⟩
        refine appendTo_own (m := 0) ho (by rfl) ?_ fun s' h3' ho' hl' => ?_
        · have := ho.len
          simp [bytesOf] at this
          omega
        · refine ⟨w.size - (i + 1), by omega, i + 1, by omega, ew, rfl, es ++ [d], by simpa [bytesOf] using ho', ?_, by simp; omega, fun e he' => (List.mem_append.1 he').elim (hes e) fun h => by
            have : e = d := by simpa using h
            omega⟩
          rw [htk, ← he]
          have := (sgn_plain d hd).1
          simp [this]
      · have := hc2 hc
        subst this
        refine ⟨w.size - (i + 1), by omega, i + 1, by omega, ew, rfl, es, ho, ?_, by omega, hes⟩
        rw [htk, ← he]
        simp
    · intro j hj
      rcases hbs with rfl | ⟨d, hd, rfl⟩
      · exact ifT_intro (fun _ => ifT_intro (fun h => by simp at h) fun _ => hj _ _ ⟨rfl, (fun h => by cases h), fun _ => rfl⟩) fun h => by simp at h
      · obtain ⟨b1, b2, b3, _⟩ := sgn_plain d hd
        have c1 : ¬ (((sgn d).toNat : Int) = 32) := fun h => b2 (by apply UInt8.toNat_inj.1; show _ = 32; omega)
        have c2 : ¬ (((sgn d).toNat : Int) = 45) := fun h => b1 (by apply UInt8.toNat_inj.1; show _ = 45; omega)
        have c3 : ¬ (((sgn d).toNat : Int) = 46) := fun h => b3 (by apply UInt8.toNat_inj.1; show _ = 46; omega)
        refine ifT_intro (fun _ => ifT_intro (fun _ => hj _ _ ⟨rfl, fun _ => ⟨d, hd, rfl⟩, fun h => ?_⟩) fun h => ?_) fun h => ?_
        · simp [c3] at h
        · simp [c2] at h
        · simp [c1] at h
  · have : i = w.size := by omega
    subst this
    rw [size_list, List.take_length, hf] at he
    have hde : es = ds := by
      have e1 : code es = code ds := by unfold code; rw [he]
      exact code_inj hes hds e1
    subst hde
    have hsl : h'.sl 1 s = some (byteCells (code es)) := by rw [code_bytes]; exact ho.sl
    refine ⟨code es, hsl, spec27 hI hds h1 h2 h3 ⟨_, rfl, ifT_intro (fun h => by simp at h) fun _ => ⟨code es, hsl, hQ _ ho.ext⟩⟩⟩

end
end Go.Proofs.YtihnjdhjkpmggaaVc
