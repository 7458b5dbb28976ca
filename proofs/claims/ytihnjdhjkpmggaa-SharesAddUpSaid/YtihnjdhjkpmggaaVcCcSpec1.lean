/- Contracts of what CodesCount reaches, part 1. -/
import Derived.Test.YtihnjdhjkpmggaaVcCcVc
import Derived.Test.YtihnjdhjkpmggaaVcCnJoin
set_option linter.unusedSimpArgs false
set_option linter.unusedVariables false
namespace Go.Proofs.YtihnjdhjkpmggaaVc
open Go.Proofs.YtihnjdhjkpmggaaCodes
open Go.Proofs.Try (prog)
abbrev Pm : Prim := fun f args Q h => IdxPrim 138 f args Q h ∨ JoinPrim 77 f args Q h
theorem pm_sound : Sound prog Pm := fun f args Q h hp => hp.elim
  (idx_sound Go.Proofs.Try.func138 (by kernel_rfl) (by kernel_rfl) (by kernel_rfl) (by kernel_rfl) f args Q h) (join_sound f args Q h)
abbrev int (n : Int) : V := .one (.int .i64 n)
abbrev u64 (n : Int) : V := .one (.int .u64 n)
abbrev str (s : ByteArray) : V := .one (.str s)
abbrev boo (b : Bool) : V := .one (.bool b)
def ints (zs : List Int) : List Cell := zs.map (.int .i64)

section
variable {I : Calls} {Q : Post} {h : Heap}

/-! ### the stream -/
theorem spec55 (hI : Closed' prog Pm I) {x n : Int} (h1 : 1 ≤ n) (h2 : n < 4611686018427387904) (hQ : ∀ v, 0 ≤ v → v < n → Q [int v] h) : I 55 [int x, int n] Q h := by
  refine hI.go _ _ (den55 I x n Q) ?_
  refine ifT_dec (fun h3 => by omega) (fun h3 => ⟨by omega, ifT_dec (fun h4 => ?_) (fun h4 => ?_)⟩)
  · have h5 := Int.lt_tmod_of_pos x (show 0 < n by omega)
    have h6 : IntKind.i64.wrap (x.tmod n + n) = x.tmod n + n := w64 (by omega) (by omega)
    rw [h6]
    exact hQ _ (by omega) (by omega)
  · exact hQ _ (by omega) (Int.tmod_lt_of_pos x (by omega))

/-- A stream at place i: its numbers, and how many have been asked for. -/
structure Strm (h : Heap) (i : Nat) (l : Sl) (zs : List Int) (t : Nat) : Prop where
  cell : h i = some (.cells false [.slice 1 l, .int .i64 t])
  lies : At h 1 l (ints zs)
  apart : zs = [] ∨ ∀ b o, l.a = some (b, o) → b ≠ i
  small : t < 1000000000

abbrev strm (l : Sl) (t : Nat) : Obj := .cells false [.slice 1 l, .int .i64 t]

theorem Strm.at_ {h h' : Heap} {i : Nat} {l : Sl} {zs : List Int} {t : Nat} (S : Strm h i l zs t) (hf : ∀ j o, j ≠ i → h j = some o → h' j = some o) : At h' 1 l (ints zs) := by
  refine ⟨S.lies.1, ?_⟩
  rcases S.lies.2 with h1 | h1
  · exact .inl h1
  · rcases S.apart with h2 | h2
    · left; rw [h2]; rfl
    · right
      unfold Heap.sl at h1 ⊢
      cases ha : l.a with
      | none => rw [ha] at h1; exact h1
      | some p =>
        obtain ⟨b, o⟩ := p
        rw [ha] at h1
        have hb := h2 b o ha
        unfold Heap.read at h1 ⊢
        simp only at h1 ⊢
        cases hh : h b with
        | none => rw [hh] at h1; cases h1
        | some ob => rw [hf b ob hb hh]; rw [hh] at h1; exact h1

theorem Strm.frame {h h' : Heap} {i : Nat} {l : Sl} {zs : List Int} {t t' : Nat} (S : Strm h i l zs t) (hc : h' i = some (strm l t')) (hf : ∀ j o, j ≠ i → h j = some o → h' j = some o) (ht : t' < 1000000000) : Strm h' i l zs t' :=
  ⟨hc, S.at_ hf, S.apart, ht⟩

theorem Strm.next {h : Heap} {i : Nat} {l : Sl} {zs : List Int} {t : Nat} (S : Strm h i l zs t) (ht : t + 1 < 1000000000) : Strm (h.set i (strm l (t + 1))) i l zs (t + 1) :=
  S.frame (set_eq _ _ _) (fun j o hj hh => by rw [set_ne _ _ hj]; exact hh) ht
theorem Strm.ext {h h' : Heap} {i : Nat} {l : Sl} {zs : List Int} {t : Nat} (S : Strm h i l zs t) (he : Ext h h') : Strm h' i l zs t :=
  S.frame (he _ _ S.cell) (fun j o _ hh => he _ _ hh) S.small

theorem spec12 (hI : Closed' prog Pm I) {i : Nat} {l : Sl} {zs : List Int} {t : Nat} {n : Int} (S : Strm h i l zs t) (h1 : 1 ≤ n) (h2 : n < 4611686018427387904)
    (hQ : ∀ v, 0 ≤ v → v < n → Q [int v] (h.set i (strm l (t + 1)))) : I 12 [.one (.ptr (some (i, 0))), int n] Q h := by
  have ht := S.small
  have hw : IntKind.i64.wrap ((t : Int) + 1) = ((t + 1 : Nat) : Int) := by rw [w64] <;> omega
  have hw2 : IntKind.i64.wrap (((t + 1 : Nat) : Int) - 1) = t := by rw [w64] <;> omega
  have hc' : (h.set i (strm l (t + 1))) i = some (strm l (t + 1)) := set_eq _ _ _
  have S' : At (h.set i (strm l (t + 1))) 1 l (ints zs) := S.at_ fun j o hj hh => by rw [set_ne _ _ hj]; exact hh
  have r0 : ∀ {o : Nat}, o = 0 → (h.set i (strm l (t + 1))).read i o 1 = some [.slice 1 l] := fun e => by subst e; exact read_cell hc' rfl
  have r1 : ∀ {o : Nat}, o = 1 → (h.set i (strm l (t + 1))).read i o 1 = some [.int .i64 ((t + 1 : Nat) : Int)] := fun e => by subst e; exact read_cell hc' rfl
  refine hI.go _ _ (den12 I (some (i, 0)) n Q) ?_
  refine derefK_intro rfl ⟨t, read_cell S.cell rfl, derefK_intro rfl (storeK_one S.cell (by simp) ?_)⟩
  rw [hw]
  show derefK _ _ (h.set i (strm l (t + 1)))
  refine derefK_intro rfl ⟨l, r0 rfl, ifT_dec (fun h3 => ?_) (fun h3 => ?_)⟩
  · refine derefK_intro rfl ⟨_, r1 rfl, spec55 hI h1 h2 fun v h4 h5 => ⟨v, rfl, hQ v h4 h5⟩⟩
  · have hp : 0 < (l.len : Int) := by omega
    have hm := Int.tmod_lt_of_pos (t : Int) hp
    have hm0 : 0 ≤ (t : Int).tmod l.len := Int.tmod_nonneg _ (by omega)
    refine derefK_intro rfl ⟨_, r1 rfl, derefK_intro rfl ⟨l, r0 rfl, h3, derefK_intro rfl ⟨_, r1 rfl, derefK_intro rfl ⟨l, r0 rfl, h3, derefK_intro rfl ⟨l, r0 rfl, ?_⟩⟩⟩⟩⟩
    rw [hw2]
    refine ⟨⟨hm0, hm⟩, S'.one hm0 hm fun b o c hc hr => ?_⟩
    simp only [ints, List.getElem?_map] at hc
    cases hz : zs[((t : Int).tmod l.len).toNat]? with
    | none => rw [hz] at hc; cases hc
    | some z =>
      rw [hz] at hc
      cases hc
      exact ⟨z, hr, spec55 hI (by decide) (by decide) fun w _ _ => ⟨w, rfl, spec55 hI h1 h2 fun v h4 h5 => ⟨v, rfl, hQ v h4 h5⟩⟩⟩

/-- One of some numbers. -/
theorem spec30 (hI : Closed' prog Pm I) {i : Nat} {l : Sl} {zs : List Int} {t : Nat} {s : Sl} {xs : List Int} (S : Strm h i l zs t) (hs : At (h.set i (strm l (t + 1))) 1 s (ints xs)) (h1 : xs ≠ []) (h2 : xs.length < 1000)
    (hQ : ∀ v ∈ xs, Q [int v] (h.set i (strm l (t + 1)))) : I 30 [.one (.ptr (some (i, 0))), .one (.slice 1 s)] Q h := by
  have hl : s.len = xs.length := by simpa [ints] using hs.1
  have hpos := List.length_pos_iff.2 h1
  refine hI.go _ _ (den30 I (some (i, 0)) s Q) ?_
  refine spec12 hI S (by omega) (by omega) fun v h3 h4 => ⟨v, rfl, ⟨h3, h4⟩, hs.one h3 h4 fun b o c hc hr => ?_⟩
  simp only [ints, List.getElem?_map] at hc
  cases hz : xs[v.toNat]? with
  | none => rw [hz] at hc; cases hc
  | some z =>
    rw [hz] at hc
    cases hc
    exact ⟨z, hr, hQ z (List.mem_of_getElem? hz)⟩

/-! ### codes -/
theorem spec72 (hI : Closed' prog Pm I) {n a b : Int} (hQ : Q [boo (decide (a ≤ n) && decide (n ≤ b))] h) : I 72 [int n, int a, int b] Q h := by
  refine hI.go _ _ (den72 I n a b Q) ?_
  refine ifT_dec (fun h1 => ?_) (fun h1 => ?_)
  · simpa [h1] using hQ
  · simpa [h1] using hQ
theorem spec120 (hI : Closed' prog Pm I) {s : ByteArray} {c : Int} (hQ : Q [int (firstIdx s c.toNat.toUInt8)] h) : I 120 [str s, .one (.int .u8 c)] Q h := by
  refine hI.go _ _ (den120 I s c Q) ?_
  exact hI.prim _ _ _ _ (.inl ⟨rfl, s, c, rfl, _, rfl, hQ⟩)
theorem spec86 (hI : Closed' prog Pm I) {s : ByteArray} {c : Int} (hQ : Q [int (firstIdx s c.toNat.toUInt8)] h) : I 86 [str s, .one (.int .u8 c)] Q h := by
  refine hI.go _ _ (den86 I s c Q) ?_
  exact spec120 hI ⟨_, rfl, hQ⟩

/-- The number of a sign of a code. -/
theorem spec86_code (hI : Closed' prog Pm I) {ds : List Nat} (hds : ∀ d ∈ ds, d < 31) {i d : Nat} (hd : ds[i]? = some d) (hQ : Q [int (d : Int)] h) : I 86 [str signS, .one (.int .u8 (byteAt (code ds) (i : Int)))] Q h := by
  refine spec86 hI ?_
  rw [byteAt_code hd, idx_code (hds d (List.mem_of_getElem? hd))]
  exact hQ

theorem spec73 (hI : Closed' prog Pm I) {ds : List Nat} (hds : ∀ d ∈ ds, d < 31) (hl : ds.length < 1000) (hQ : Q [boo true] h) : I 73 [str (code ds)] Q h := by
  refine hI.go _ _ (den73 I (code ds) Q) ?_
  have hsz := code_size ds
  refine loopK_intro (fun a h' m => h' = h ∧ ∃ i : Nat, i ≤ ds.length ∧ a = i ∧ m = ds.length - i) ds.length ⟨rfl, 0, by omega, rfl, rfl⟩ ?_
  rintro a h' m ⟨rfl, i, hi, rfl, rfl⟩
  refine ifT_dec (fun hlt => ⟨⟨by omega, hlt⟩, ?_⟩) (fun hge => hQ)
  have hlt' : i < ds.length := by omega
  refine spec86_code hI hds (List.getElem?_eq_getElem hlt') ⟨_, rfl, ifT_dec (fun h1 => by omega) (fun h1 => ?_)⟩
  exact ⟨ds.length - (i + 1), by omega, rfl, i + 1, by omega, by rw [w64] <;> omega, rfl⟩

theorem spec76 (hI : Closed' prog Pm I) {ds : List Nat} (hds : ∀ d ∈ ds, d < 31) (hl : ds.length < 1000) (hQ : Q [int ((wsum ds % 31 : Nat) : Int)] h) : I 76 [str (code ds)] Q h := by
  refine hI.go _ _ (den76 I (code ds) Q) ?_
  have hsz := code_size ds
  refine loopK_intro (fun (a : Int × Int) h' m => h' = h ∧ ∃ i : Nat, i ≤ ds.length ∧ a = (((wsum (ds.take i) : Nat) : Int), (i : Int)) ∧ m = ds.length - i) ds.length ⟨rfl, 0, by omega, by simp [wsum], rfl⟩ ?_
  rintro a h' m ⟨rfl, i, hi, rfl, rfl⟩
  refine ifT_dec (fun hlt => ⟨⟨by omega, hlt⟩, ?_⟩) (fun hge => ?_)
  · have hlt' : i < ds.length := by omega
    have hd := List.getElem?_eq_getElem hlt'
    refine spec86_code hI hds hd ⟨_, rfl, ds.length - (i + 1), by omega, rfl, i + 1, by omega, ?_, rfl⟩
    have h1 := wsum_le ds hds i hi
    have h2 : i * i ≤ 1000 * 1000 := Nat.mul_le_mul (by omega) (by omega)
    have h3 := hds _ (List.getElem_mem hlt')
    have h4 : (i + 1) * ds[i] ≤ 1000 * 31 := Nat.mul_le_mul (by omega) (by omega)
    rw [wsum_take ds i _ hd]
    have e1 : IntKind.i64.wrap ((i : Int) + 1) = ((i + 1 : Nat) : Int) := by rw [w64] <;> omega
    rw [e1, ← Int.natCast_mul]
    generalize (i + 1) * ds[i] = z at *
    generalize wsum (ds.take i) = y at *
    rw [w64 (n := (z : Int)) (by omega) (by omega), w64 (by omega) (by omega)]
    rfl
  · have : i = ds.length := by omega
    subst this
    have e : ((wsum ds : Nat) : Int).tmod 31 = ((wsum ds % 31 : Nat) : Int) := by
      rw [Int.tmod_eq_emod_of_nonneg (by omega)]; omega
    simp only [List.take_length]
    rw [e]
    exact hQ

/-- A code gets the sign with which its sum is nothing. -/
theorem spec74 (hI : Closed' prog Pm I) {ds : List Nat} (hds : ∀ d ∈ ds, d < 31) (hl : ds.length < 25)
    (hQ : ∀ x, x < 31 → wsum (ds ++ [x]) % 31 = 0 → Q [str (code (ds ++ [x]))] h) : I 74 [str (code ds)] Q h := by
  refine hI.go _ _ (den74 I (code ds) Q) ?_
  have hsz := code_size ds
  refine loopK_intro (fun a h' m => h' = h ∧ ∃ i : Nat, i ≤ 31 ∧ a = i ∧ m = 31 - i ∧ ∀ x, x < i → wsum (ds ++ [x]) % 31 ≠ 0) 31 ⟨rfl, 0, by omega, rfl, rfl, fun x hx => by omega⟩ ?_
  rintro a h' m ⟨rfl, i, hi, rfl, rfl, hno⟩
  have e1 : IntKind.i64.wrap ((i : Int) + 1) = ((i + 1 : Nat) : Int) := by rw [w64] <;> omega
  refine ifT_dec (fun hlt => ?_) (fun hge => ?_)
  · have hlt' : i < 31 := by omega
    rw [e1]
    simp only [Int.toNat_natCast]
    rw [sign_one hlt', code_append]
    refine ⟨⟨by omega, by omega, by show ((i + 1 : Nat) : Int) ≤ ((31 : Nat) : Int); omega⟩, by rw [code_size, code_size]; simp; omega, ?_⟩
    have hds' : ∀ d ∈ ds ++ [i], d < 31 := fun d hd => by
      rcases List.mem_append.1 hd with hd | hd
      · exact hds d hd
      · have : d = i := by simpa using hd
        omega
    refine spec76 hI hds' (by simp; omega) ⟨_, rfl, ifT_dec (fun h0 => ?_) (fun h0 => ?_)⟩
    · exact hQ i hlt' (by omega)
    · refine ⟨31 - (i + 1), by omega, rfl, i + 1, by omega, rfl, rfl, fun x hx => ?_⟩
      rcases Nat.lt_or_ge x i with hx' | hx'
      · exact hno x hx'
      · have : x = i := by omega
        subst this
        intro h; exact h0 (by rw [h]; rfl)
  · exfalso
    obtain ⟨x, hx, he⟩ := seal_exists ds.length hl (wsum ds % 31) (Nat.mod_lt _ (by decide))
    refine hno x (by omega) ?_
    rw [wsum_snoc]
    generalize (ds.length + 1) * x = p at *
    omega

theorem spec24 (hI : Closed' prog Pm I) {ds : List Nat} (hds : ∀ d ∈ ds, d < 31) (h1 : 3 ≤ ds.length) (h2 : ds.length ≤ 23)
    (hQ : ∀ x, x < 31 → wsum (ds ++ [x]) % 31 = 0 → Q [str (code (ds ++ [x])), int 0] h) : I 24 [str (code ds)] Q h := by
  refine hI.go _ _ (den24 I (code ds) Q) ?_
  refine spec72 hI ⟨_, rfl, ?_⟩
  rw [code_size]
  have hb : (decide ((3 : Int) ≤ (ds.length : Int)) && decide ((ds.length : Int) ≤ 23)) = true := by simp; omega
  rw [hb]
  refine ifT_intro (fun h => by cases h) fun _ => ?_
  refine spec73 hI hds (by omega) ⟨true, rfl, ifT_intro (fun h => by cases h) fun _ => ?_⟩
  exact spec74 hI hds (by omega) fun x h3 h4 => ⟨_, rfl, hQ x h3 h4⟩

theorem spec26 (hI : Closed' prog Pm I) (hQ : Q [boo true] h) : I 26 [] Q h := by
  refine hI.go _ _ (den26 I Q) ?_
  have e : (ByteArray.mk #[49, 50, 51]) = code [1, 2, 3] := by decide
  show I 24 [str (ByteArray.mk #[49, 50, 51])] _ h
  rw [e]
  refine spec24 hI (by decide) (by decide) (by decide) fun x h1 h2 => ⟨_, _, rfl, ?_⟩
  have hx : x = 12 := seal_unique x h1 (by rw [wsum_snoc] at h2; simpa [wsum] using h2)
  subst hx
  refine ifT_intro (fun _ => ?_) (fun h => by simp at h)
  have e2 : decide (code ([1, 2, 3] ++ [12]) = ByteArray.mk #[49, 50, 51, 67]) = true := by decide
  rw [e2]
  exact hQ

theorem spec27 (hI : Closed' prog Pm I) {ds : List Nat} (hds : ∀ d ∈ ds, d < 31) (h1 : 4 ≤ ds.length) (h2 : ds.length ≤ 24) (h3 : wsum ds % 31 = 0) (hQ : Q [int 0] h) : I 27 [str (code ds)] Q h := by
  refine hI.go _ _ (den27 I (code ds) Q) ?_
  refine spec72 hI ⟨_, rfl, ?_⟩
  rw [code_size]
  have hb : (decide ((4 : Int) ≤ (ds.length : Int)) && decide ((ds.length : Int) ≤ 24)) = true := by simp; omega
  rw [hb]
  refine ifT_intro (fun h => by cases h) fun _ => ?_
  refine spec73 hI hds (by omega) ⟨true, rfl, ifT_intro (fun h => by cases h) fun _ => ?_⟩
  refine spec76 hI hds (by omega) ⟨_, rfl, ?_⟩
  rw [h3]
  exact ifT_intro (fun h => by simp at h) fun _ => hQ

theorem pow31_le {n : Nat} (h : n ≤ 11) : 31 ^ n ≤ 25408476896404831 := by
  have : 31 ^ n ≤ 31 ^ 11 := Nat.pow_le_pow_right (by decide) h
  exact this
theorem spec83 (hI : Closed' prog Pm I) {n : Nat} (h1 : n ≤ 11) (hQ : Q [int ((31 ^ n : Nat) : Int)] h) : I 83 [int n] Q h := by
  refine hI.go _ _ (den83 I n Q) ?_
  refine loopK_intro (fun (a : Int × Int) h' m => h' = h ∧ ∃ i : Nat, i ≤ n ∧ a = (((31 ^ i : Nat) : Int), (i : Int)) ∧ m = n - i) n ⟨rfl, 0, by omega, rfl, rfl⟩ ?_
  rintro a h' m ⟨rfl, i, hi, rfl, rfl⟩
  refine ifT_dec (fun hlt => ?_) (fun hge => ?_)
  · have h3 := pow31_le (n := i + 1) (by omega)
    refine ⟨n - (i + 1), by omega, rfl, i + 1, by omega, ?_, rfl⟩
    rw [Nat.pow_succ] at h3 ⊢
    generalize 31 ^ i = z at *
    rw [w64 (by omega) (by omega), w64 (by omega) (by omega)]
    rfl
  · have : i = n := by omega
    subst this
    exact hQ

theorem spec82 (hI : Closed' prog Pm I) {ds : List Nat} {n : Nat} {k : Int} (hds : ∀ d ∈ ds, d < 31) (h1 : ds.length ≤ 12) (h2 : 3 ≤ n) (h3 : n ≤ 11) (h4 : 0 ≤ k) (h5 : k < ((31 ^ n : Nat) : Int)) (hQ : Q [int 0] h) :
    I 82 [str (code ds), int n, int k] Q h := by
  refine hI.go _ _ (den82 I (code ds) n k Q) ?_
  have hsz := code_size ds
  refine ifT_dec (fun h => by omega) fun _ => ?_
  refine spec73 hI hds (by omega) ⟨true, rfl, ifT_intro (fun h => by cases h) fun _ => ?_⟩
  refine spec72 hI ⟨_, rfl, ?_⟩
  have hb : (decide ((3 : Int) ≤ (n : Int)) && decide ((n : Int) ≤ 11)) = true := by simp; omega
  rw [hb]
  refine ifT_intro (fun h => by cases h) fun _ => ?_
  refine spec83 hI h3 ⟨_, rfl, ?_⟩
  have h6 := pow31_le h3
  rw [w64 (by omega) (by omega)]
  refine spec72 hI ⟨_, rfl, ?_⟩
  have hb : (decide ((0 : Int) ≤ k) && decide (k ≤ ((31 ^ n : Nat) : Int) - 1)) = true := by simp only [Bool.and_eq_true, decide_eq_true_eq]; omega
  rw [hb]
  exact ifT_intro (fun h => by cases h) fun _ => hQ

theorem spec119 (hI : Closed' prog Pm I) {ds es : List Nat} (hQ : Q [boo true] h) : I 119 [str (code (ds ++ es)), str (code ds)] Q h := by
  refine hI.go _ _ (den119 I _ _ Q) ?_
  have h1 := code_size (ds ++ es)
  have h2 := code_size ds
  rw [List.length_append] at h1
  refine ifT_dec (fun _ => ⟨⟨by omega, by omega, by omega⟩, ?_⟩) fun h => by omega
  rw [Int.toNat_natCast, code_extract, h2]
  simpa using hQ
theorem spec85 (hI : Closed' prog Pm I) {ds es : List Nat} (hQ : Q [boo true] h) : I 85 [str (code (ds ++ es)), str (code ds)] Q h := by
  refine hI.go _ _ (den85 I _ _ Q) ?_
  exact spec119 hI ⟨_, rfl, hQ⟩

/-! ### looking a string up -/
def strs (l : List ByteArray) : List Cell := l.map .str
theorem spec88 (hI : Closed' prog Pm I) {s : Sl} {xs : List ByteArray} {x : ByteArray} (hs : At h 1 s (strs xs)) (hl : xs.length < 1000000) (hno : x ∉ xs) (hQ : Q [int (-1)] h) : I 88 [.one (.slice 1 s), str x] Q h := by
  refine hI.go _ _ (den88 I s x Q) ?_
  have hlen : s.len = xs.length := by simpa [strs] using hs.1
  refine loopK_intro (fun a h' m => h' = h ∧ ∃ i : Nat, i ≤ xs.length ∧ a = i ∧ m = xs.length - i) xs.length ⟨rfl, 0, by omega, rfl, rfl⟩ ?_
  rintro a h' m ⟨rfl, i, hi, rfl, rfl⟩
  refine ifT_dec (fun hlt => ⟨⟨by omega, hlt⟩, hs.one (by omega) hlt fun b o c hc hr => ?_⟩) (fun hge => hQ)
  simp only [strs, Int.toNat_natCast, List.getElem?_map] at hc
  cases hz : xs[i]? with
  | none => rw [hz] at hc; cases hc
  | some z =>
    rw [hz] at hc
    cases hc
    refine ⟨z, hr, ifT_dec (fun h => ?_) fun _ => ⟨xs.length - (i + 1), by omega, rfl, i + 1, by omega, by rw [w64] <;> omega, rfl⟩⟩
    subst h
    exact absurd (List.mem_of_getElem? hz) hno
theorem spec43 (hI : Closed' prog Pm I) {s : Sl} {xs : List ByteArray} {x : ByteArray} (hs : At h 1 s (strs xs)) (hl : xs.length < 1000000) (hno : x ∉ xs) (hQ : Q [boo false] h) : I 43 [.one (.slice 1 s), str x] Q h := by
  refine hI.go _ _ (den43 I s x Q) ?_
  exact spec88 hI hs hl hno ⟨_, rfl, hQ⟩

end
end Go.Proofs.YtihnjdhjkpmggaaVc
