/- Contracts of what PursesHold reaches: codes, checks. -/
import Derived.Test.YtihnjdhjkpmggaaDoorVcPuVc
import Derived.Test.YtihnjdhjkpmggaaDoorVcPuMath
import Derived.Test.YtihnjdhjkpmggaaDoorVcCodeStr
set_option linter.unusedSimpArgs false
set_option linter.unusedVariables false
namespace Go.Proofs.YtihnjdhjkpmggaaDoorVc
open Go.Proofs.Tryd (prog)
open Go.Proofs.YtihnjdhjkpmggaaDoorCodes

section
variable {I : Calls} {Q : Post} {h : Heap}

/-! ### codes -/
theorem spec73 (hI : Closed' prog Pm I) {n a b : Int} (hQ : Q [boo (decide (a ≤ n) && decide (n ≤ b))] h) : I 73 [int n, int a, int b] Q h := by
  refine hI.go _ _ (den73 I n a b Q) ?_
  refine ifT_dec (fun h1 => ?_) (fun h1 => ?_)
  · simpa [h1] using hQ
  · simpa [h1] using hQ
theorem spec102 (hI : Closed' prog Pm I) {s : ByteArray} {c : Int} (hQ : Q [int (firstIdx s c.toNat.toUInt8)] h) : I 102 [str s, .one (.int .u8 c)] Q h := by
  refine hI.go _ _ (den102 I s c Q) ?_
  exact hI.prim _ _ _ _ ⟨rfl, s, c, rfl, _, rfl, hQ⟩
theorem spec99 (hI : Closed' prog Pm I) {s : ByteArray} {c : Int} (hQ : Q [int (firstIdx s c.toNat.toUInt8)] h) : I 99 [str s, .one (.int .u8 c)] Q h := by
  refine hI.go _ _ (den99 I s c Q) ?_
  exact spec102 hI ⟨_, rfl, hQ⟩

/-- The number of a sign of a code. -/
theorem spec99_code (hI : Closed' prog Pm I) {ds : List Nat} (hds : ∀ d ∈ ds, d < 31) {i d : Nat} (hd : ds[i]? = some d) (hQ : Q [int (d : Int)] h) : I 99 [str signS, .one (.int .u8 (byteAt (code ds) (i : Int)))] Q h := by
  refine spec99 hI ?_
  rw [byteAt_code hd, idx_code (hds d (List.mem_of_getElem? hd))]
  exact hQ

theorem spec91 (hI : Closed' prog Pm I) {ds : List Nat} (hds : ∀ d ∈ ds, d < 31) (hl : ds.length < 1000) (hQ : Q [boo true] h) : I 91 [str (code ds)] Q h := by
  refine hI.go _ _ (den91 I (code ds) Q) ?_
  have hsz := code_size ds
  refine loopK_intro (fun a h' m => h' = h ∧ ∃ i : Nat, i ≤ ds.length ∧ a = i ∧ m = ds.length - i) ds.length ⟨rfl, 0, by omega, rfl, rfl⟩ ?_
  rintro a h' m ⟨rfl, i, hi, rfl, rfl⟩
  refine ifT_dec (fun hlt => ⟨⟨by omega, hlt⟩, ?_⟩) (fun hge => hQ)
  have hlt' : i < ds.length := by omega
  refine spec99_code hI hds (List.getElem?_eq_getElem hlt') ⟨_, rfl, ifT_dec (fun h1 => by omega) (fun h1 => ?_)⟩
  exact ⟨ds.length - (i + 1), by omega, rfl, i + 1, by omega, by rw [w64] <;> omega, rfl⟩

theorem spec100 (hI : Closed' prog Pm I) {ds : List Nat} (hds : ∀ d ∈ ds, d < 31) (hl : ds.length < 1000) (hQ : Q [int ((wsum ds % 31 : Nat) : Int)] h) : I 100 [str (code ds)] Q h := by
  refine hI.go _ _ (den100 I (code ds) Q) ?_
  have hsz := code_size ds
  refine loopK_intro (fun (a : Int × Int) h' m => h' = h ∧ ∃ i : Nat, i ≤ ds.length ∧ a = (((wsum (ds.take i) : Nat) : Int), (i : Int)) ∧ m = ds.length - i) ds.length ⟨rfl, 0, by omega, by simp [wsum], rfl⟩ ?_
  rintro a h' m ⟨rfl, i, hi, rfl, rfl⟩
  refine ifT_dec (fun hlt => ⟨⟨by omega, hlt⟩, ?_⟩) (fun hge => ?_)
  · have hlt' : i < ds.length := by omega
    have hd := List.getElem?_eq_getElem hlt'
    refine spec99_code hI hds hd ⟨_, rfl, ds.length - (i + 1), by omega, rfl, i + 1, by omega, ?_, rfl⟩
    have h1 := wsum_le ds hds i hi
    have h2 : i * i ≤ 1000 * 1000 := Nat.mul_le_mul (by omega) (by omega)
    have h3 := hds _ (List.getElem_mem hlt')
    have h4 : (i + 1) * ds[i] ≤ 1000 * 31 := Nat.mul_le_mul (by omega) (by omega)
    rw [wsum_take ds i _ hd]
    have e1 : IntKind.i64.wrap ((i : Int) + 1) = ((i + 1 : Nat) : Int) := by rw [w64] <;> omega
    rw [e1, ← Int.natCast_mul]
    generalize (i + 1) * ds[i] = z at *
    generalize wsum (ds.take i) = y at *
    rw [w64 (n := (z : Int)) (by omega) (by omega), w64 (by omega) (by omega)]
    rfl
  · have : i = ds.length := by omega
    subst this
    have e : ((wsum ds : Nat) : Int).tmod 31 = ((wsum ds % 31 : Nat) : Int) := by
      rw [Int.tmod_eq_emod_of_nonneg (by omega)]; omega
    simp only [List.take_length]
    rw [e]
    exact hQ

/-- A code gets the sign with which its sum is nothing. -/
theorem spec92 (hI : Closed' prog Pm I) {ds : List Nat} (hds : ∀ d ∈ ds, d < 31) (hl : ds.length < 25)
    (hQ : ∀ x, x < 31 → wsum (ds ++ [x]) % 31 = 0 → Q [str (code (ds ++ [x]))] h) : I 92 [str (code ds)] Q h := by
  refine hI.go _ _ (den92 I (code ds) Q) ?_
  have hsz := code_size ds
  refine loopK_intro (fun a h' m => h' = h ∧ ∃ i : Nat, i ≤ 31 ∧ a = i ∧ m = 31 - i ∧ ∀ x, x < i → wsum (ds ++ [x]) % 31 ≠ 0) 31 ⟨rfl, 0, by omega, rfl, rfl, fun x hx => by omega⟩ ?_
  rintro a h' m ⟨rfl, i, hi, rfl, rfl, hno⟩
  have e1 : IntKind.i64.wrap ((i : Int) + 1) = ((i + 1 : Nat) : Int) := by rw [w64] <;> omega
  refine ifT_dec (fun hlt => ?_) (fun hge => ?_)
  · have hlt' : i < 31 := by omega
    rw [e1]
    simp only [Int.toNat_natCast]
    rw [sign_one hlt', code_append]
    refine ⟨⟨by omega, by omega, by show ((i + 1 : Nat) : Int) ≤ ((31 : Nat) : Int); omega⟩, by rw [code_size, code_size]; simp; omega, ?_⟩
    have hds' : ∀ d ∈ ds ++ [i], d < 31 := fun d hd => by
      rcases List.mem_append.1 hd with hd | hd
      · exact hds d hd
      · have : d = i := by simpa using hd
        omega
    refine spec100 hI hds' (by simp; omega) ⟨_, rfl, ifT_dec (fun h0 => ?_) (fun h0 => ?_)⟩
    · exact hQ i hlt' (by omega)
    · refine ⟨31 - (i + 1), by omega, rfl, i + 1, by omega, rfl, rfl, fun x hx => ?_⟩
      rcases Nat.lt_or_ge x i with hx' | hx'
      · exact hno x hx'
      · have : x = i := by omega
        subst this
        intro h; exact h0 (by rw [h]; rfl)
  · exfalso
    obtain ⟨x, hx, he⟩ := seal_exists ds.length hl (wsum ds % 31) (Nat.mod_lt _ (by decide))
    refine hno x (by omega) ?_
    rw [wsum_snoc]
    generalize (ds.length + 1) * x = p at *
    omega

theorem spec66 (hI : Closed' prog Pm I) {ds : List Nat} (hds : ∀ d ∈ ds, d < 31) (h1 : 3 ≤ ds.length) (h2 : ds.length ≤ 23)
    (hQ : ∀ x, x < 31 → wsum (ds ++ [x]) % 31 = 0 → Q [str (code (ds ++ [x])), int 0] h) : I 66 [str (code ds)] Q h := by
  refine hI.go _ _ (den66 I (code ds) Q) ?_
  refine spec73 hI ⟨_, rfl, ?_⟩
  rw [code_size]
  have hb : (decide ((3 : Int) ≤ (ds.length : Int)) && decide ((ds.length : Int) ≤ 23)) = true := by simp; omega
  rw [hb]
  refine ifT_intro (fun h => by cases h) fun _ => ?_
  refine spec91 hI hds (by omega) ⟨true, rfl, ifT_intro (fun h => by cases h) fun _ => ?_⟩
  exact spec92 hI hds (by omega) fun x h3 h4 => ⟨_, rfl, hQ x h3 h4⟩

theorem spec32 (hI : Closed' prog Pm I) (hQ : Q [boo true] h) : I 32 [] Q h := by
  refine hI.go _ _ (den32 I Q) ?_
  have e : (ByteArray.mk #[49, 50, 51]) = code [1, 2, 3] := by decide
  show I 66 [str (ByteArray.mk #[49, 50, 51])] _ h
  rw [e]
  refine spec66 hI (by decide) (by decide) (by decide) fun x h1 h2 => ⟨_, _, rfl, ?_⟩
  have hx : x = 12 := seal_unique x h1 (by rw [wsum_snoc] at h2; simpa [wsum] using h2)
  subst hx
  refine ifT_intro (fun _ => ?_) (fun h => by simp at h)
  have e2 : decide (code ([1, 2, 3] ++ [12]) = ByteArray.mk #[49, 50, 51, 67]) = true := by decide
  rw [e2]
  exact hQ

/-! ### moments -/
theorem spec74 (hI : Closed' prog Pm I) {n : Int} (hQ : Q [boo (decide (momentP n))] h) : I 74 [int n] Q h := by
  refine hI.go _ _ (den74 I n Q) ?_
  refine spec73 hI ⟨_, rfl, ?_⟩
  have e : (decide ((0 : Int) ≤ n) && decide (n ≤ 4321439)) = decide (momentP n) := by simp [momentP]
  rw [← e] at hQ
  exact hQ

/-! ### the budgets before, looked through -/
theorem spec93 (hI : Closed' prog Pm I) {s : Sl} {ys : List Bud} {g : FuncId} {i : Nat} {p : Bud → Bool} (hs : At h 5 s (rows budC ys)) (hlen : ys.length < 1000)
    (hg : ∀ y Q', Q' [boo (p y)] h → I g [.agg (budC y), .one (.ptr (some (i, 0)))] Q' h)
    (hn : (∀ y ∈ ys, p y = false) → Q [int (-1)] h) (hy : ∀ (j : Nat) y, ys[j]? = some y → p y = true → (∀ z ∈ ys.take j, p z = false) → Q [int j] h) : I 93 [.one (.slice 5 s), .one (.func (some (g, [(i, 0)])))] Q h := by
  have hl : s.len = ys.length := hs.rowsLen budC_length (by decide)
  refine hI.go _ _ (den93 I s _ _) ?_
  refine loopK_intro (fun (a : Int) h' m => h' = h ∧ ∃ j : Nat, j ≤ ys.length ∧ a = j ∧ ys.length - j = m ∧ ∀ z ∈ ys.take j, p z = false) ys.length ⟨rfl, 0, by omega, rfl, rfl, by simp⟩ ?_
  rintro a h' m ⟨rfl, j, hj, rfl, rfl, hno⟩
  refine ifT_dec (fun hlt => ⟨⟨by omega, hlt⟩, ?_⟩) (fun hge => ?_)
  · have hx := List.getElem?_eq_getElem (show j < ys.length by omega)
    generalize ys[j] = y at hx
    refine hs.row budC_length (by decide) hx fun bb o hr => ⟨y.key, y.cents, y.first, y.last, y.pace, hr, ?_⟩
    refine hg y _ ⟨_, rfl, ifT_intro (fun h1 => hy j y hx h1 hno) fun h1 => ?_⟩
    refine ⟨ys.length - (j + 1), by omega, rfl, j + 1, by omega, by rw [w64] <;> omega, rfl, fun z hz => ?_⟩
    rw [List.take_add_one, hx] at hz
    rcases List.mem_append.1 hz with hz | hz
    · exact hno z hz
    · have : z = y := by simpa using hz
      rw [this]; exact h1
  · have : j = ys.length := by omega
    subst this
    rw [List.take_length] at hno
    exact hn hno
theorem spec67 (hI : Closed' prog Pm I) {s : Sl} {ys : List Bud} {g : FuncId} {i : Nat} {p : Bud → Bool} (hs : At h 5 s (rows budC ys)) (hlen : ys.length < 1000)
    (hg : ∀ y Q', Q' [boo (p y)] h → I g [.agg (budC y), .one (.ptr (some (i, 0)))] Q' h) (hQ : Q [boo (ys.any p)] h) : I 67 [.one (.slice 5 s), .one (.func (some (g, [(i, 0)])))] Q h := by
  refine hI.go _ _ (den67 I s _ _) ?_
  refine spec93 hI hs hlen hg (fun hn => ⟨_, rfl, ?_⟩) fun j y hx h1 _ => ⟨_, rfl, ?_⟩
  · have e : ys.any p = false := by
      cases h2 : ys.any p with
      | false => rfl
      | true => obtain ⟨y, hy, h3⟩ := List.any_eq_true.1 h2; rw [hn y hy] at h3; cases h3
    rw [e] at hQ; exact hQ
  · have e : ys.any p = true := List.any_eq_true.2 ⟨y, List.mem_of_getElem? hx, h1⟩
    have e2 : decide ((j : Int) ≥ 0) = true := by simp
    rw [e] at hQ; rw [e2]; exact hQ

theorem spec90 (hI : Closed' prog Pm I) {i : Nat} {x y : Bud} (hi : h i = some (.cells false (budC x))) (hQ : Q [boo (decide (y.key = x.key))] h) : I 90 [.agg (budC y), .one (.ptr (some (i, 0)))] Q h := by
  refine hI.go _ _ (den90 I y.key y.cents y.first y.last y.pace i 0 Q) ?_
  exact ⟨x.key, read_cell hi rfl, hQ⟩
theorem spec68 (hI : Closed' prog Pm I) {i : Nat} {x y : Bud} (hi : h i = some (.cells false (budC x))) (hQ : Q [boo (decide (y.key = x.key))] h) : I 68 [.agg (budC y), .one (.ptr (some (i, 0)))] Q h := by
  refine hI.go _ _ (den68 I y.key y.cents y.first y.last y.pace i 0 Q) ?_
  exact ⟨x.key, read_cell hi rfl, hQ⟩
theorem spec94 (hI : Closed' prog Pm I) {i : Nat} {k : ByteArray} {y : Bud} (hi : h i = some (.cells false [.str k])) (hQ : Q [boo (decide (y.key = k))] h) : I 94 [.agg (budC y), .one (.ptr (some (i, 0)))] Q h := by
  refine hI.go _ _ (den94 I y.key y.cents y.first y.last y.pace i 0 Q) ?_
  exact ⟨k, read_cell hi rfl, hQ⟩

/-! ### what is wrong with budgets -/
theorem spec64 (hI : Closed' prog Pm I) {s : Sl} {xs : List Bud} (hs : At h 5 s (rows budC xs)) (hlen : xs.length ≤ 50) (hQ : ∀ h', Ext h h' → Q [int (errB xs)] h') : I 64 [.one (.slice 5 s)] Q h := by
  have hl : s.len = xs.length := hs.rowsLen budC_length (by decide)
  refine hI.go _ _ (den64 I s Q) ?_
  unfold vc64
  rw [hl]
  refine ifT_dec (fun h => by omega) fun _ => ?_
  refine loopK_intro (fun (a : Int) h' m => Ext h h' ∧ ∃ i : Nat, i ≤ xs.length ∧ a = i ∧ xs.length - i = m ∧ errB xs = scanB (xs.take i) (xs.drop i)) xs.length
    ⟨Ext.refl _, 0, by omega, rfl, rfl, rfl⟩ ?_
  rintro a h' m ⟨x', i, hi, rfl, rfl, hsc⟩
  refine ifT_dec (fun hlt => ⟨⟨by omega, by omega⟩, ?_⟩) (fun hge => ?_)
  · have hx := List.getElem?_eq_getElem (show i < xs.length by omega)
    generalize xs[i] = x at hx
    rw [scanB_step hx] at hsc
    refine (x'.at_ hs).row budC_length (by decide) hx fun bb o hr => ⟨x.key, x.cents, x.first, x.last, x.pace, hr, ?_⟩
    refine newK_intro fun i11 h2 hn2 he2 => ?_
    refine storeK_whole (cs := [.str .empty, .int .i64 0, .int .i64 0, .int .i64 0, .bool false]) (by rw [he2, set_eq]) rfl ?_
    rw [he2, set_set]
    have x2 : Ext h (h'.set i11 (.cells false (budC x))) := x'.trans (Ext.new hn2)
    have hc := set_eq h' i11 (.cells false (budC x))
    obtain ⟨g, hg⟩ : ∃ g, g = h'.set i11 (.cells false (budC x)) := ⟨_, rfl⟩
    rw [← hg] at x2 hc
    rw [show h'.set i11 (.cells false [.str x.key, .int .i64 x.cents, .int .i64 x.first, .int .i64 x.last, .bool x.pace]) = g from hg.symm]
    have bad : ∀ e, errB xs = e → Q [int e] g := fun e he => by rw [← he]; exact hQ _ x2
    refine ⟨x.key, read_cell hc rfl, spec43 hI ⟨_, rfl, ifT_intro (fun h1 => bad 5 (by rw [hsc, if_pos (nb h1)])) fun h1 => ?_⟩⟩
    rw [if_neg (by rw [nb' h1]; simp)] at hsc
    have hsub : At g 5 (s.sub 5 0 i) (rows budC (xs.take i)) := by
      have := At.sub (x2.at_ hs) 0 i (by omega) (by omega)
      rw [Nat.zero_mul, List.drop_zero, Nat.sub_zero, rows_take budC_length] at this
      exact this
    refine ⟨⟨by decide, by omega, by omega⟩, ?_⟩
    rw [Int.toNat_natCast]
    refine spec67 hI (p := fun y => decide (y.key = x.key)) hsub (by rw [List.length_take]; omega) (fun y Q' hq => spec90 hI hc hq) ⟨_, rfl, ifT_intro (fun h2 => bad 6 (by rw [hsc, if_pos h2])) fun h2 => ?_⟩
    rw [if_neg (by rw [h2]; simp)] at hsc
    refine ⟨x.cents, read_cell hc rfl, spec73 hI ⟨_, rfl, ifT_intro (fun h3 => bad 1 (by rw [hsc, if_pos]; simp at h3; unfold okB; omega)) fun h3 => ?_⟩⟩
    refine ⟨x.first, read_cell hc rfl, ifT_dec (fun h4 => bad 1 (by rw [hsc, if_pos]; unfold okB; omega)) fun h4 => ⟨x.first, read_cell hc rfl, x.last, read_cell hc rfl, ifT_dec (fun h5 => bad 1 (by rw [hsc, if_pos]; unfold okB; omega)) fun h5 => ⟨x.last, read_cell hc rfl, ifT_dec (fun h6 => bad 1 (by rw [hsc, if_pos]; unfold okB; omega)) fun h6 => ?_⟩⟩⟩
    rw [if_neg (by simp at h3; unfold okB; omega)] at hsc
    exact ⟨xs.length - (i + 1), by omega, x2, i + 1, by omega, by rw [w64] <;> omega, rfl, hsc⟩
  · have : i = xs.length := by omega
    subst this
    rw [List.drop_length] at hsc
    have e : errB xs = 0 := by rw [hsc]; rfl
    rw [← e]
    exact hQ _ x'
theorem spec33 (hI : Closed' prog Pm I) {s : Sl} {xs : List Bud} (hs : At h 5 s (rows budC xs)) (hlen : xs.length ≤ 50) (hQ : ∀ h', Ext h h' → Q [int (errB xs)] h') : I 33 [.one (.slice 5 s)] Q h := by
  have hl : s.len = xs.length := hs.rowsLen budC_length (by decide)
  refine hI.go _ _ (den33 I s Q) ?_
  unfold vc33
  rw [hl]
  refine ifT_dec (fun h => by omega) fun _ => ?_
  refine loopK_intro (fun (a : Int) h' m => Ext h h' ∧ ∃ i : Nat, i ≤ xs.length ∧ a = i ∧ xs.length - i = m ∧ errB xs = scanB (xs.take i) (xs.drop i)) xs.length
    ⟨Ext.refl _, 0, by omega, rfl, rfl, rfl⟩ ?_
  rintro a h' m ⟨x', i, hi, rfl, rfl, hsc⟩
  refine ifT_dec (fun hlt => ⟨⟨by omega, by omega⟩, ?_⟩) (fun hge => ?_)
  · have hx := List.getElem?_eq_getElem (show i < xs.length by omega)
    generalize xs[i] = x at hx
    rw [scanB_step hx] at hsc
    refine (x'.at_ hs).row budC_length (by decide) hx fun bb o hr => ⟨x.key, x.cents, x.first, x.last, x.pace, hr, ?_⟩
    refine newK_intro fun i11 h2 hn2 he2 => ?_
    refine storeK_whole (cs := [.str .empty, .int .i64 0, .int .i64 0, .int .i64 0, .bool false]) (by rw [he2, set_eq]) rfl ?_
    rw [he2, set_set]
    have x2 : Ext h (h'.set i11 (.cells false (budC x))) := x'.trans (Ext.new hn2)
    have hc := set_eq h' i11 (.cells false (budC x))
    obtain ⟨g, hg⟩ : ∃ g, g = h'.set i11 (.cells false (budC x)) := ⟨_, rfl⟩
    rw [← hg] at x2 hc
    rw [show h'.set i11 (.cells false [.str x.key, .int .i64 x.cents, .int .i64 x.first, .int .i64 x.last, .bool x.pace]) = g from hg.symm]
    have bad : ∀ e (g' : Heap), Ext h g' → errB xs = e → Q [int e] g' := fun e g' hg he => by rw [← he]; exact hQ _ hg
    refine ⟨x.key, read_cell hc rfl, spec45 hI fun g1 x1 => ⟨_, rfl, ifT_intro (fun h1 => bad 5 _ (x2.trans x1) (by rw [hsc, if_pos (nb h1)])) fun h1 => ?_⟩⟩
    rw [if_neg (by rw [nb' h1]; simp)] at hsc
    have xx := x2.trans x1
    have hc1 := x1 _ _ hc
    have hsub : At g1 5 (s.sub 5 0 i) (rows budC (xs.take i)) := by
      have := At.sub (xx.at_ hs) 0 i (by omega) (by omega)
      rw [Nat.zero_mul, List.drop_zero, Nat.sub_zero, rows_take budC_length] at this
      exact this
    refine ⟨⟨by decide, by omega, by omega⟩, ?_⟩
    rw [Int.toNat_natCast]
    refine spec67 hI (p := fun y => decide (y.key = x.key)) hsub (by rw [List.length_take]; omega) (fun y Q' hq => spec68 hI hc1 hq) ⟨_, rfl, ifT_intro (fun h2 => bad 6 _ xx (by rw [hsc, if_pos h2])) fun h2 => ?_⟩
    rw [if_neg (by rw [h2]; simp)] at hsc
    refine ⟨x.cents, read_cell hc1 rfl, ifT_dec (fun h3 => bad 1 _ xx (by rw [hsc, if_pos]; unfold okB; omega)) fun h3 => ⟨x.cents, read_cell hc1 rfl, ifT_dec (fun h3' => bad 1 _ xx (by rw [hsc, if_pos]; unfold okB; omega)) fun h3' => ?_⟩⟩
    refine ⟨x.first, read_cell hc1 rfl, ifT_dec (fun h4 => bad 1 _ xx (by rw [hsc, if_pos]; unfold okB; omega)) fun h4 => ⟨x.first, read_cell hc1 rfl, x.last, read_cell hc1 rfl, ifT_dec (fun h5 => bad 1 _ xx (by rw [hsc, if_pos]; unfold okB; omega)) fun h5 => ⟨x.last, read_cell hc1 rfl, ifT_dec (fun h6 => bad 1 _ xx (by rw [hsc, if_pos]; unfold okB; omega)) fun h6 => ?_⟩⟩⟩
    rw [if_neg (by unfold okB; omega)] at hsc
    exact ⟨xs.length - (i + 1), by omega, xx, i + 1, by omega, by rw [w64] <;> omega, rfl, hsc⟩
  · have : i = xs.length := by omega
    subst this
    rw [List.drop_length] at hsc
    have e : errB xs = 0 := by rw [hsc]; rfl
    rw [← e]
    exact hQ _ x'

/-! ### plain ones of a purse -/
theorem spec78 (hI : Closed' prog Pm I) {x : Hld} {t : Int} (hQ : Q [int (stateAt x t)] h) : I 78 [.agg (hldC x), int t] Q h := by
  refine hI.go _ _ (den78 I x.no x.key x.cents x.at_ x.until_ x.state t Q) ?_
  unfold stateAt at hQ
  refine ifT_dec (fun h1 => ifT_dec (fun h2 => ?_) fun h2 => ?_) fun h1 => ?_
  · rw [if_pos h1, if_pos h2] at hQ; exact hQ
  · rw [if_pos h1, if_neg h2] at hQ; exact hQ
  · rw [if_neg h1] at hQ; exact hQ
theorem spec76 (hI : Closed' prog Pm I) {b : Bud} {t : Int} (hb : okB b) (ht : momentP t) (hQ : Q [int (paced b t)] h) : I 76 [.agg (budC b), int t] Q h := by
  refine hI.go _ _ (den76 I b.key b.cents b.first b.last b.pace t Q) ?_
  have hp := paced_le (t := t) hb
  obtain ⟨h1, h2, h3, h4, h5⟩ := hb
  obtain ⟨h6, h7⟩ := ht
  have hd : 0 ≤ t.tdiv 1440 ∧ t.tdiv 1440 ≤ 3001 := by
    rw [Int.tdiv_eq_ediv_of_nonneg h6]; omega
  have ew : IntKind.i64.wrap (t.tdiv 1440) = t.tdiv 1440 := w64 (by omega) (by omega)
  unfold vc76
  rw [ew]
  unfold paced at hQ hp
  generalize t.tdiv 1440 = d at *
  refine ifT_dec (fun h8 => ?_) fun h8 => ?_
  · rw [if_pos h8] at hQ; exact hQ
  rw [if_neg h8] at hQ hp
  have fin : ∀ x : Bool, (x = true ↔ (d ≥ b.last ∨ b.pace = false)) → ifT x (Q [int b.cents]) (fun h7 => (IntKind.i64.wrap (IntKind.i64.wrap (b.last - b.first) + 1) ≠ 0) ∧ Q [int (IntKind.i64.wrap ((IntKind.i64.wrap (b.cents * IntKind.i64.wrap (IntKind.i64.wrap (d - b.first) + 1))).tdiv (IntKind.i64.wrap (IntKind.i64.wrap (b.last - b.first) + 1))))] h7) h := fun x hx => by
    refine ifT_intro (fun h9 => ?_) fun h9 => ?_
    · rw [if_pos (hx.1 h9)] at hQ; exact hQ
    · have hn : ¬ (d ≥ b.last ∨ b.pace = false) := fun h => by rw [hx.2 h] at h9; cases h9
      rw [if_neg hn] at hQ hp
      have h10 : d < b.last := by
        rcases Int.lt_or_le d b.last with h | h
        · exact h
        · exact absurd (.inl h) hn
      have e1 : IntKind.i64.wrap (IntKind.i64.wrap (b.last - b.first) + 1) = b.last - b.first + 1 := by rw [w64 (n := b.last - b.first) (by omega) (by omega), w64 (by omega) (by omega)]
      have e2 : IntKind.i64.wrap (IntKind.i64.wrap (d - b.first) + 1) = d - b.first + 1 := by rw [w64 (n := d - b.first) (by omega) (by omega), w64 (by omega) (by omega)]
      rw [e1, e2]
      have hm0 : 0 ≤ b.cents * (d - b.first + 1) := Int.mul_nonneg h1 (by omega)
      have hm1 : b.cents * (d - b.first + 1) ≤ 1000000000000 * 3001 := Int.mul_le_mul h2 (by omega) (by omega) (by decide)
      rw [w64 (n := b.cents * (d - b.first + 1)) (by omega) (by omega)]
      rw [w64 (by omega) (by omega)]
      exact ⟨by omega, hQ⟩
  refine joinK_intro (fun (x : Bool) h' => h' = h ∧ (x = true ↔ (d ≥ b.last ∨ b.pace = false))) (fun x h' ⟨hh, hx⟩ => by subst hh; exact fin x hx) fun j hj => ifT_dec (fun h9 => hj _ _ ⟨rfl, by simp [h9]⟩) fun h9 => hj _ _ ⟨rfl, by simp; omega⟩
theorem spec75 (hI : Closed' prog Pm I) {p : Nat} {sb sh : Sl} {now : Int} {hs : List Hld} {key : ByteArray} {t : Int} (hp : h p = some (.cells false [.slice 5 sb, .slice 6 sh, .int .i64 now])) (ha : At h 6 sh (rows hldC hs)) (hk : ∀ x ∈ hs, okH x) (hlen : hs.length ≤ 2000)
    (hQ : Q [int (taken key t hs)] h) : I 75 [.one (.ptr (some (p, 0))), str key, int t] Q h := by
  have hl : sh.len = hs.length := ha.rowsLen hldC_length (by decide)
  refine hI.go _ _ (den75 I _ key t Q) ?_
  refine derefK_intro rfl ⟨sh, read_cell hp rfl, ?_⟩
  refine loopK_intro (fun (a : Int × Int) h' m => h' = h ∧ ∃ i : Nat, i ≤ hs.length ∧ a = (taken key t (hs.take i), (i : Int)) ∧ hs.length - i = m) hs.length ⟨rfl, 0, by omega, rfl, rfl⟩ ?_
  rintro a h' m ⟨rfl, i, hi, rfl, rfl⟩
  dsimp only [uncur]
  refine ifT_dec (fun hlt => ⟨⟨by omega, hlt⟩, ?_⟩) (fun hge => ?_)
  · have hx := List.getElem?_eq_getElem (show i < hs.length by omega)
    have hxm : hs[i] ∈ hs := List.getElem_mem _
    generalize hs[i] = x at hx hxm
    have hst := taken_step (key := key) (t := t) hx
    have hb := taken_bound (key := key) (t := t) (xs := hs.take i) fun y hy => hk y (List.mem_of_mem_take hy)
    rw [List.length_take] at hb
    obtain ⟨hx1, hx2⟩ := hk x hxm
    have ew : IntKind.i64.wrap ((i : Int) + 1) = ((i + 1 : Nat) : Int) := by rw [w64] <;> omega
    have hmin : min i hs.length = i := by omega
    rw [hmin] at hb
    have es : IntKind.i64.wrap (taken key t (hs.take i) + x.cents) = taken key t (hs.take i) + x.cents := by rw [w64] <;> omega
    have go : ∀ v : Int, v = taken key t (hs.take (i + 1)) → ∃ m', m' < hs.length - i ∧ h' = h' ∧ ∃ j : Nat, j ≤ hs.length ∧ (v, IntKind.i64.wrap ((i : Int) + 1)) = (taken key t (hs.take j), (j : Int)) ∧ hs.length - j = m' := fun v hv => ⟨hs.length - (i + 1), by omega, rfl, i + 1, by omega, by rw [hv, ew], rfl⟩
    unfold one at hst
    refine ha.row hldC_length (by decide) hx fun bb o hr => ⟨x.no, x.key, x.cents, x.at_, x.until_, x.state, hr, spec78 hI ⟨_, rfl, ifT_dec (fun h1 => ifT_dec (fun h2 => ?_) fun h2 => ifT_dec (fun h3 => ?_) fun h3 => ?_) fun h1 => ?_⟩⟩
    · rw [if_pos h1, if_pos h2] at hst; rw [es]; exact go _ hst.symm
    · rw [if_pos h1, if_neg h2, if_pos h3] at hst; rw [es]; exact go _ hst.symm
    · rw [if_pos h1, if_neg h2, if_neg h3] at hst; exact go _ (by omega)
    · rw [if_neg h1] at hst; exact go _ (by omega)
  · have : i = hs.length := by omega
    subst this
    rw [List.take_length]
    exact hQ
/-- The budget of a key. -/
theorem spec72 (hI : Closed' prog Pm I) {p : Nat} {sb sh : Sl} {now : Int} {bs : List Bud} {key : ByteArray} (hp : h p = some (.cells false [.slice 5 sb, .slice 6 sh, .int .i64 now])) (ha : At h 5 sb (rows budC bs)) (hlen : bs.length < 1000)
    (hn : ∀ h', Ext h h' → findB bs key = none → Q [.agg (budC ⟨.empty, 0, 0, 0, false⟩), boo false] h') (hy : ∀ b h', Ext h h' → findB bs key = some b → Q [.agg (budC b), boo true] h') : I 72 [.one (.ptr (some (p, 0))), str key] Q h := by
  have hl : sb.len = bs.length := ha.rowsLen budC_length (by decide)
  refine hI.go _ _ (den72 I _ key Q) ?_
  refine newK_intro fun i2 h2 hn2 he2 => ?_
  have x2 : Ext h h2 := he2 ▸ Ext.new hn2
  have hp2 := x2 _ _ hp
  have ha2 := x2.at_ ha
  have hc : h2 i2 = some (.cells false [.str key]) := by rw [he2, set_eq]
  refine derefK_intro rfl ⟨sb, read_cell hp2 rfl, ?_⟩
  refine spec93 hI (p := fun y => decide (y.key = key)) ha2 hlen (fun y Q' hq => spec94 hI hc hq) (fun h3 => ⟨_, rfl, ifT_dec (fun _ => hn _ x2 ?_) fun h => by omega⟩) fun j y hx h3 h4 => ⟨_, rfl, ifT_dec (fun h => by omega) fun _ => ?_⟩
  · unfold findB; rw [List.find?_eq_none]
    intro y hy
    have := h3 y hy
    simpa using this
  · have hj : j < bs.length := (List.getElem?_eq_some_iff.1 hx).1
    have hf : findB bs key = some y := by
      unfold findB
      have e : bs = bs.take j ++ y :: bs.drop (j + 1) := by
        obtain ⟨hi, rfl⟩ := List.getElem?_eq_some_iff.1 hx
        rw [← List.drop_eq_getElem_cons hi, List.take_append_drop]
      rw [e, List.find?_append]
      have e2 : (bs.take j).find? (fun b => decide (b.key = key)) = none := by
        rw [List.find?_eq_none]; intro z hz; have := h4 z hz; simpa using this
      rw [e2, Option.none_or, List.find?_cons, h3]
    refine derefK_intro rfl ⟨sb, read_cell hp2 rfl, ⟨by omega, by omega⟩, ha2.row budC_length (by decide) hx fun bb o hr => ⟨y.key, y.cents, y.first, y.last, y.pace, hr, hy y _ x2 hf⟩⟩
theorem spec39 (hI : Closed' prog Pm I) {p : Nat} {sb sh : Sl} {now : Int} {bs : List Bud} {hs : List Hld} {key : ByteArray} {t : Int} (hp : h p = some (.cells false [.slice 5 sb, .slice 6 sh, .int .i64 now])) (ha : At h 5 sb (rows budC bs)) (hah : At h 6 sh (rows hldC hs)) (hlen : bs.length < 1000)
    (hob : ∀ b ∈ bs, okB b) (hk : ∀ x ∈ hs, okH x) (hlen2 : hs.length ≤ 2000) (hQ : ∀ h', Ext h h' → Q [int (leftF bs hs now key t).1, int (leftF bs hs now key t).2] h') : I 39 [.one (.ptr (some (p, 0))), str key, int t] Q h := by
  refine hI.go _ _ (den39 I _ key t Q) ?_
  refine spec72 hI hp ha hlen (fun h' x' hf => ⟨_, _, _, _, _, _, rfl, ifT_intro (fun _ => ?_) fun h => by cases h⟩) fun b h' x' hf => ⟨_, _, _, _, _, _, rfl, ifT_intro (fun h => by cases h) fun _ => ?_⟩
  · have := hQ h' x'
    unfold leftF at this; rw [hf] at this; exact this
  · have hq := hQ h' x'
    unfold leftF at hq; rw [hf] at hq
    simp only at hq
    refine spec74 hI ⟨_, rfl, ifT_intro (fun h1 => ?_) fun h1 => ?_⟩
    · rw [if_pos (nd h1)] at hq; exact hq
    rw [if_neg (nd' h1)] at hq
    have hp' := x' _ _ hp
    refine derefK_intro rfl ⟨now, read_cell hp' rfl, ifT_dec (fun h2 => ?_) fun h2 => ?_⟩
    · rw [if_pos h2] at hq; exact hq
    rw [if_neg h2] at hq
    have hb := hob b (findB_mem hf).1
    refine spec76 hI hb (Decidable.of_not_not (nd' h1)) ⟨_, rfl, spec75 hI hp' (x'.at_ hah) hk hlen2 ⟨_, rfl, ?_⟩⟩
    have h3 := paced_le (t := t) hb
    have h4 := taken_bound (key := key) (t := t) hk
    obtain ⟨_, h5, _⟩ := hb
    rw [w64 (by omega) (by omega)]
    exact hq
end
end Go.Proofs.YtihnjdhjkpmggaaDoorVc
