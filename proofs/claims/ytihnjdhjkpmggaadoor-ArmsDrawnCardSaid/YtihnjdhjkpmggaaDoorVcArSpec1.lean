/- Contracts of what ArmsDrawn reaches: splits and arms of both sides. -/
import Derived.Test.YtihnjdhjkpmggaaDoorVcArVc
import Derived.Test.YtihnjdhjkpmggaaDoorVcArMath
set_option linter.unusedSimpArgs false
set_option linter.unusedVariables false
namespace Go.Proofs.YtihnjdhjkpmggaaDoorVc
open Go.Proofs.Tryd (prog)

section
variable {I : Calls} {Q : Post} {h : Heap}

abbrev splitV (name : ByteArray) (s : Sl) (hold : Int) : V := .agg [.str name, .slice 1 s, .int .i64 hold]

theorem spec57 (hI : Closed' prog Pm I) {s : Sl} {xs : List Int} (hs : At h 1 s (ints xs)) (hlen : xs.length < 1000000) (hQ : Q [int (sumW xs)] h) : I 57 [.one (.slice 1 s)] Q h := by
  have hl : s.len = xs.length := by rw [hs.len1, ints_length]
  refine hI.go _ _ (den57 I s Q) ?_
  refine loopK_intro (fun (a : Int × Int) h' m => h' = h ∧ ∃ i : Nat, i ≤ xs.length ∧ a = (sumW (xs.take i), (i : Int)) ∧ xs.length - i = m) xs.length ⟨rfl, 0, by omega, rfl, rfl⟩ ?_
  rintro a h' m ⟨rfl, i, hi, rfl, rfl⟩
  dsimp only [uncur]
  refine ifT_dec (fun hlt => ⟨⟨by omega, hlt⟩, ?_⟩) (fun hge => ?_)
  · have hx := List.getElem?_eq_getElem (show i < xs.length by omega)
    generalize xs[i] = x at hx
    refine hs.cell (ints_get hx) fun b o hr => ⟨x, hr, xs.length - (i + 1), by omega, rfl, i + 1, by omega, ?_, rfl⟩
    rw [sumW_step hx, w64 (n := (i : Int) + 1) (by omega) (by omega)]
    rfl
  · have : i = xs.length := by omega
    subst this
    rw [List.take_length]
    exact hQ
theorem spec60 (hI : Closed' prog Pm I) {s : Sl} {xs : List Int} (hs : At h 1 s (ints xs)) (hlen : xs.length < 1000000) (hQ : Q [int (sumW xs)] h) : I 60 [.one (.slice 1 s)] Q h := by
  have hl : s.len = xs.length := by rw [hs.len1, ints_length]
  refine hI.go _ _ (den60 I s Q) ?_
  refine loopK_intro (fun (a : Int × Int) h' m => h' = h ∧ ∃ i : Nat, i ≤ xs.length ∧ a = (sumW (xs.take i), (i : Int)) ∧ xs.length - i = m) xs.length ⟨rfl, 0, by omega, rfl, rfl⟩ ?_
  rintro a h' m ⟨rfl, i, hi, rfl, rfl⟩
  dsimp only [uncur]
  refine ifT_dec (fun hlt => ⟨⟨by omega, hlt⟩, ?_⟩) (fun hge => ?_)
  · have hx := List.getElem?_eq_getElem (show i < xs.length by omega)
    generalize xs[i] = x at hx
    refine hs.cell (ints_get hx) fun b o hr => ⟨x, hr, xs.length - (i + 1), by omega, rfl, i + 1, by omega, ?_, rfl⟩
    rw [sumW_step hx, w64 (n := (i : Int) + 1) (by omega) (by omega)]
    rfl
  · have : i = xs.length := by omega
    subst this
    rw [List.take_length]
    exact hQ

theorem within_eq (w : Int) : (decide ((0 : Int) ≤ w) && decide (w ≤ 1000)) = decide (okSp w) := by simp [okSp]
theorem spec58 (hI : Closed' prog Pm I) {s : Sl} {xs : List Int} (hs : At h 1 s (ints xs)) (hlen : xs.length < 1000000) (hQ : Q [boo (xs.any fun w => !decide (okSp w))] h) : I 58 [.one (.slice 1 s), .one (.func (some (59, [])))] Q h := by
  have hl : s.len = xs.length := by rw [hs.len1, ints_length]
  refine hI.go _ _ (den58 I s _ Q) ?_
  refine hI.go _ _ (den88 I s _ _) ?_
  refine loopK_intro (fun (a : Int) h' m => h' = h ∧ ∃ j : Nat, j ≤ xs.length ∧ a = j ∧ xs.length - j = m ∧ ((xs.take j).any fun w => !decide (okSp w)) = false) xs.length ⟨rfl, 0, by omega, rfl, rfl, rfl⟩ ?_
  rintro a h' m ⟨rfl, j, hj, rfl, rfl, hno⟩
  refine ifT_dec (fun hlt => ⟨⟨by omega, hlt⟩, ?_⟩) (fun hge => ?_)
  · have hy := List.getElem?_eq_getElem (show j < xs.length by omega)
    generalize xs[j] = y at hy
    refine hs.cell (ints_get hy) fun bb o hr => ⟨y, hr, ?_⟩
    refine hI.go _ _ (den59 I y _) ?_
    refine spec49 hI ⟨_, rfl, _, rfl, ?_⟩
    rw [within_eq]
    refine ifT_intro (fun h1 => ⟨_, rfl, ?_⟩) fun h1 => ?_
    · have e : (xs.any fun w => !decide (okSp w)) = true := List.any_eq_true.2 ⟨y, List.mem_of_getElem? hy, h1⟩
      rw [e] at hQ
      have e2 : decide ((j : Int) ≥ 0) = true := by simp
      rw [e2]; exact hQ
    · refine ⟨xs.length - (j + 1), by omega, rfl, j + 1, by omega, by rw [w64] <;> omega, rfl, ?_⟩
      rw [any_take_step hy, hno, h1]; rfl
  · have : j = xs.length := by omega
    subst this
    rw [List.take_length] at hno
    rw [hno] at hQ
    exact ⟨_, rfl, hQ⟩

theorem spec22 (hI : Closed' prog Pm I) {name : ByteArray} {s : Sl} {ws : List Int} {hold : Int} (hs : At h 1 s (ints ws)) (hlen : ws.length < 1000000) (hQ : Q [int (errSp name ws hold)] h) : I 22 [splitV name s hold] Q h := by
  have hl : s.len = ws.length := by rw [hs.len1, ints_length]
  refine hI.go _ _ (den22 I name s hold Q) ?_
  unfold errSp at hQ
  unfold vc22
  rw [hl]
  refine spec43 hI ⟨_, rfl, ifT_intro (fun h1 => ?_) fun h1 => ifT_dec (fun h2 => ?_) fun h2 => ifT_dec (fun h3 => ?_) fun h3 => ?_⟩
  · rw [if_pos (nb h1)] at hQ; exact hQ
  · rw [if_neg (by rw [nb' h1]; simp), if_pos (by omega)] at hQ; exact hQ
  · rw [if_neg (by rw [nb' h1]; simp), if_neg (by omega), if_pos (by omega)] at hQ; exact hQ
  rw [if_neg (by rw [nb' h1]; simp), if_neg (by omega), if_neg (by omega)] at hQ
  refine joinK_intro (fun (b : Bool) h' => h' = h ∧ (b = true ↔ ¬ ∀ w ∈ ws ++ [hold], okSp w)) ?_ fun j hj => spec58 hI hs hlen ⟨_, rfl, ifT_intro (fun h4 => hj _ _ ⟨rfl, ?_⟩) fun h4 => spec49 hI ⟨_, rfl, hj _ _ ⟨rfl, ?_⟩⟩⟩
  · rintro b h' ⟨rfl, hb⟩
    refine ifT_intro (fun h5 => ?_) fun h5 => ?_
    · rw [if_pos (hb.1 h5)] at hQ; exact hQ
    · rw [if_neg (fun h => by rw [hb.2 h] at h5; cases h5)] at hQ
      refine spec60 hI hs hlen ⟨_, rfl, ifT_dec (fun h6 => ?_) fun h6 => ?_⟩
      · rw [if_pos h6] at hQ; exact hQ
      · rw [if_neg h6] at hQ; exact hQ
  · refine ⟨fun _ hall => ?_, fun _ => rfl⟩
    obtain ⟨w, hw, h5⟩ := List.any_eq_true.1 h4
    exact nd h5 (hall w (by simp [hw]))
  · rw [within_eq]
    constructor
    · intro h5 hall
      exact nd h5 (hall hold (by simp))
    · intro h5
      cases h6 : (!decide (okSp hold)) with
      | true => rfl
      | false =>
        exfalso
        apply h5
        intro w hw
        rcases List.mem_append.1 hw with hw | hw
        · have := List.any_eq_false.1 h4 w hw
          simpa using this
        · have : w = hold := by simpa using hw
          subst this
          exact Decidable.of_not_not (nd' h6)

theorem spec56 (hI : Closed' prog Pm I) {s : Sl} {xs : List Int} (hs : At h 1 s (ints xs)) (h0 : xs ≠ []) (hlen : xs.length < 1000000) (hQ : ∀ s' h', Own h h' 1 s' (ints xs) → Q [.one (.slice 1 s')] h') : I 56 [.one (.slice 1 s)] Q h := by
  have hl : s.len = xs.length := by rw [hs.len1, ints_length]
  have hne : ints xs ≠ [] := fun e => h0 (List.map_eq_nil_iff.1 e)
  refine hI.go _ _ (den56 I s Q) ?_
  have hsl : h.sl 1 s = some (ints xs) := by
    rcases hs.2 with h1 | h1
    · exact absurd h1 hne
    · exact h1
  refine ifT_intro (fun h1 => ?_) fun h1 => ⟨ints xs, hsl, by omega, newK_intro fun i3 h4 hn4 he4 => hQ _ _ ⟨he4 ▸ Ext.new hn4, by rw [ints_length]; simp [hl], .inr ⟨i3, rfl, hn4, by rw [he4, set_eq]⟩⟩⟩
  obtain ⟨sa, n⟩ := s
  cases sa with
  | none => simp only [Heap.sl, Option.some.injEq] at hsl; exact absurd hsl.symm hne
  | some p => cases h1

theorem spec21 (hI : Closed' prog Pm I) {name : ByteArray} {s : Sl} {ws : List Int} {hold : Int} (hs : At h 1 s (ints ws)) (hlen : ws.length < 1000000) (hQ : ∀ h', Ext h h' → Q [int (errSp name ws hold)] h') : I 21 [splitV name s hold] Q h := by
  have hl : s.len = ws.length := by rw [hs.len1, ints_length]
  refine hI.go _ _ (den21 I name s hold Q) ?_
  unfold errSp at hQ
  unfold vc21
  rw [hl]
  refine spec45 hI fun h1 x1 => ⟨_, rfl, ifT_intro (fun h2 => ?_) fun h2 => ifT_dec (fun h3 => ?_) fun h3 => ifT_dec (fun h4 => ?_) fun h4 => ?_⟩
  · rw [if_pos (nb h2)] at hQ; exact hQ _ x1
  · rw [if_neg (by rw [nb' h2]; simp), if_pos (by omega)] at hQ; exact hQ _ x1
  · rw [if_neg (by rw [nb' h2]; simp), if_neg (by omega), if_pos (by omega)] at hQ; exact hQ _ x1
  rw [if_neg (by rw [nb' h2]; simp), if_neg (by omega), if_neg (by omega)] at hQ
  have hs1 := x1.at_ hs
  refine spec56 hI hs1 (fun e => by rw [e] at h4; simp at h4) (by omega) fun l10 h9 o9 => ⟨_, rfl, ?_⟩
  have hl10 : l10.len = ws.length := by have := o9.len; rw [ints_length] at this; simpa using this
  refine appendTo_own (m := 0) o9 (by rfl) (by omega) fun l11 h11 o11 hl11 => ?_
  have e11 : ints ws ++ [Cell.int .i64 hold] = ints (ws ++ [hold]) := by simp [ints]
  rw [e11] at o11
  have a11 := o11.at_
  have hl11' : l11.len = (ws ++ [hold]).length := by rw [a11.len1, ints_length]
  have hwl : (ws ++ [hold]).length = ws.length + 1 := by simp
  have x11 : Ext h h11 := x1.trans o11.ext
  generalize hW : ws ++ [hold] = W at *
  refine loopK_intro (fun (a : Int) h' m => h' = h11 ∧ ∃ i : Nat, i ≤ W.length ∧ a = i ∧ W.length - i = m ∧ ∀ w ∈ W.take i, okSp w) W.length ⟨rfl, 0, by omega, rfl, rfl, by simp⟩ ?_
  rintro a h' m ⟨rfl, i, hi, rfl, rfl, hall⟩
  refine ifT_dec (fun hlt => ⟨⟨by omega, hlt⟩, ?_⟩) fun hge => ?_
  · have hx := List.getElem?_eq_getElem (show i < W.length by omega)
    have hxm : W[i] ∈ W := List.getElem_mem _
    generalize W[i] = x at hx hxm
    have no : ¬ okSp x → Q [int 1] h' := fun hno => by
      rw [if_pos (fun h => hno (h x hxm))] at hQ
      exact hQ _ x11
    refine a11.cell (ints_get hx) fun bb o hr => ⟨x, hr, ifT_dec (fun h5 => no (by unfold okSp; omega)) fun h5 => ifT_dec (fun h6 => no (by unfold okSp; omega)) fun h6 => ?_⟩
    refine ⟨W.length - (i + 1), by omega, rfl, i + 1, by omega, by rw [w64] <;> omega, rfl, fun w hw => ?_⟩
    rw [take_snoc hx] at hw
    rcases List.mem_append.1 hw with hw | hw
    · exact hall w hw
    · have : w = x := by simpa using hw
      rw [this]; unfold okSp; omega
  · have : i = W.length := by omega
    subst this
    rw [List.take_length] at hall
    rw [if_neg (fun h => h hall)] at hQ
    refine spec57 hI (x11.at_ hs) hlen ⟨_, rfl, ifT_dec (fun h6 => ?_) fun h6 => ?_⟩
    · rw [if_pos h6] at hQ; exact hQ _ x11
    · rw [if_neg h6] at hQ; exact hQ _ x11

/-! ### the arm of a key -/
theorem wu_ne {n : Int} (h1 : IntKind.i64.wrap n ≠ 0) : IntKind.u64.wrap (IntKind.i64.wrap n) ≠ 0 := by
  rw [IntKind.wrap_i64] at h1 ⊢
  rw [IntKind.wrap_u64]
  omega

theorem armLoop {s : Sl} {ws : List Int} (hs : At h 1 s (ints ws)) (hlen : ws.length < 1000000) {left : Int} (hQ : Q [int (armGo left ws 0)] h) :
    loopK (A := Int × Int) (left, 0) (fun x15 => uncur fun n16 n17 => ifT (decide (n17 < (↑s.len : Int)))
      (fun h18 => ((0 ≤ n17) ∧ n17 < (↑s.len : Int)) ∧ (derefK s.a (fun i19 i20 h21 => ∃ n22 : Int, (h21.read i19 (i20 + n17.toNat * 1) 1 = some [Cell.int IntKind.i64 n22]) ∧
        (ifT (decide (n16 < n22)) (Q [V.one (Cell.int IntKind.i64 n17)]) (x15 ((IntKind.i64.wrap (n16 - n22), IntKind.i64.wrap (n17 + 1))))) h21)) h18)
      (Q [V.one (Cell.int IntKind.i64 (-1))])) h := by
  have hl : s.len = ws.length := by rw [hs.len1, ints_length]
  refine loopK_intro (fun (a : Int × Int) h' m => h' = h ∧ ∃ i : Nat, i ≤ ws.length ∧ a.2 = i ∧ ws.length - i = m ∧ armGo left ws 0 = armGo a.1 (ws.drop i) i) ws.length ⟨rfl, 0, by omega, rfl, rfl, rfl⟩ ?_
  rintro ⟨lf, y⟩ h' m ⟨rfl, i, hi, rfl, rfl, hgo⟩
  dsimp only [uncur]
  simp only at hgo
  refine ifT_dec (fun hlt => ⟨⟨by omega, hlt⟩, ?_⟩) fun hge => ?_
  · have hx := List.getElem?_eq_getElem (show i < ws.length by omega)
    generalize ws[i] = x at hx
    have hd : ws.drop i = x :: ws.drop (i + 1) := by
      obtain ⟨hi, rfl⟩ := List.getElem?_eq_some_iff.1 hx
      exact List.drop_eq_getElem_cons hi
    rw [hd] at hgo
    simp only [armGo] at hgo
    refine hs.cell (ints_get hx) fun bb o hr => ⟨x, hr, ifT_dec (fun h1 => ?_) fun h1 => ?_⟩
    · rw [if_pos h1] at hgo
      rw [hgo] at hQ
      exact hQ
    · rw [if_neg h1] at hgo
      refine ⟨ws.length - (i + 1), by omega, rfl, i + 1, by omega, by show IntKind.i64.wrap ((i : Int) + 1) = _; rw [w64] <;> omega, rfl, ?_⟩
      rw [hgo]
      rfl
  · have : i = ws.length := by omega
    subst this
    rw [List.drop_length] at hgo
    rw [hgo] at hQ
    exact hQ

theorem spec62 (hI : Closed' prog Pm I) {s : ByteArray} (hl : s.size < 1000000) (hQ : Q [u64 (hashL (bl s))] h) : I 62 [str s] Q h := by
  refine hI.go _ _ (den62 I s Q) ?_
  refine loopK_intro (fun (a : Int × Int) h' m => h' = h ∧ ∃ i : Nat, i ≤ s.size ∧ a = (hashL ((bl s).take i), (i : Int)) ∧ s.size - i = m) s.size ⟨rfl, 0, by omega, rfl, rfl⟩ ?_
  rintro a h' m ⟨rfl, i, hi, rfl, rfl⟩
  dsimp only [uncur]
  refine ifT_dec (fun hlt => ⟨⟨by omega, hlt⟩, ?_⟩) fun hge => ?_
  · obtain ⟨b, hb⟩ : ∃ b, (bl s)[i]? = some b := ⟨_, List.getElem?_eq_getElem (show i < (bl s).length by rw [← bl_size]; omega)⟩
    rw [byteAt_bl hb]
    refine ⟨s.size - (i + 1), by omega, rfl, i + 1, by omega, ?_, rfl⟩
    rw [hashL_step hb, w64 (n := (i : Int) + 1) (by omega) (by omega)]
    rfl
  · have : i = s.size := by omega
    subst this
    rw [bl_size, List.take_length]
    exact hQ

theorem app_size (a b : ByteArray) : (a ++ b).size = a.size + b.size := by simp [ByteArray.size_append]

theorem spec25 (hI : Closed' prog Pm I) {name key : ByteArray} {s : Sl} {ws : List Int} {hold : Int} (hs : At h 1 s (ints ws)) (hlen : ws.length < 1000000) (hn : name.size < 1000) (hk : key.size < 1000) (hnz : IntKind.i64.wrap (sumW ws + hold) ≠ 0)
    (hQ : Q [int (armOf name ws hold key)] h) : I 25 [splitV name s hold, str key] Q h := by
  have e1 : (name ++ (⟨#[47]⟩ : ByteArray)).size = name.size + 1 := by rw [app_size]; rfl
  refine hI.go _ _ (den25 I name s hold key Q) ?_
  refine ⟨by omega, by omega, spec62 hI (by rw [app_size, e1]; omega) ⟨_, rfl, spec57 hI hs hlen ⟨_, rfl, wu_ne hnz, ?_⟩⟩⟩
  exact armLoop hs hlen hQ

theorem spec61 (hI : Closed' prog Pm I) {name key : ByteArray} {s : Sl} {ws : List Int} {hold : Int} (hs : At h 1 s (ints ws)) (hlen : ws.length < 1000000) (hn : name.size < 1000) (hk : key.size < 1000) (hnz : IntKind.i64.wrap (sumW ws + hold) ≠ 0)
    (hQ : ∀ h', Ext h h' → Q [int (armOf name ws hold key)] h') : I 61 [splitV name s hold, str key] Q h := by
  have e1 : (name ++ (⟨#[47]⟩ : ByteArray)).size = name.size + 1 := by rw [app_size]; rfl
  have e2 : (name ++ (⟨#[47]⟩ : ByteArray) ++ key).size = name.size + 1 + key.size := by rw [app_size, e1]
  refine hI.go _ _ (den61 I name s hold key Q) ?_
  unfold armOf at hQ
  refine ⟨by omega, by omega, newK_intro fun i5 h2 hn2 he2 => ?_⟩
  have x2 : Ext h h2 := he2 ▸ Ext.new hn2
  generalize name ++ (⟨#[47]⟩ : ByteArray) ++ key = t at *
  refine loopK_intro (fun (a : Int × Int) h' m => h' = h2 ∧ ∃ i : Nat, i ≤ t.size ∧ a = (hashL ((bl t).take i), (i : Int)) ∧ t.size - i = m) t.size ⟨rfl, 0, by omega, rfl, rfl⟩ ?_
  rintro a h' m ⟨rfl, i, hi, rfl, rfl⟩
  dsimp only [uncur]
  refine ifT_dec (fun hlt => ⟨⟨by omega, hlt⟩, ?_⟩) fun hge => ?_
  · obtain ⟨b, hb⟩ : ∃ b, (bl t)[i]? = some b := ⟨_, List.getElem?_eq_getElem (show i < (bl t).length by rw [← bl_size]; omega)⟩
    refine ⟨(b.toNat : Int), ?_, t.size - (i + 1), by omega, rfl, i + 1, by omega, ?_, rfl⟩
    · rw [Int.toNat_natCast, Nat.mul_one, Nat.zero_add]
      refine read_cell (by rw [he2, set_eq]) ?_
      unfold byteCells
      rw [List.getElem?_map, hb]; rfl
    · rw [hashL_step hb, w64 (n := (i : Int) + 1) (by omega) (by omega)]
      rfl
  · have : i = t.size := by omega
    subst this
    rw [bl_size, List.take_length]
    refine spec60 hI (x2.at_ hs) hlen ⟨_, rfl, wu_ne hnz, ?_⟩
    exact armLoop (x2.at_ hs) hlen (hQ _ x2)

theorem spec24 (hI : Closed' prog Pm I) {name key : ByteArray} {s : Sl} {ws : List Int} {hold : Int} (hs : At h 1 s (ints ws)) (hlen : ws.length < 1000000)
    (hQ : ∀ v e h', Ext h h' → (errSp name ws hold ≠ 0 → e = errSp name ws hold) → (errSp name ws hold = 0 → isKey key = false → e = 5) → (errSp name ws hold = 0 → isKey key = true → e = 0 ∧ v = armOf name ws hold key) → Q [int v, int e] h') : I 24 [splitV name s hold, str key] Q h := by
  refine hI.go _ _ (den24 I name s hold key Q) ?_
  refine spec22 hI hs hlen ⟨_, rfl, ifT_intro (fun h1 => hQ _ _ _ (Ext.refl _) (fun _ => rfl) (fun h => absurd h (nd h1)) fun h => absurd h (nd h1)) fun h1 => ?_⟩
  have h0 : errSp name ws hold = 0 := Decidable.of_not_not (nd' h1)
  refine spec43 hI ⟨_, rfl, ifT_intro (fun h2 => hQ _ _ _ (Ext.refl _) (fun h => absurd h0 h) (fun _ _ => rfl) fun _ h => by (rw [nb h2] at h; cases h)) fun h2 => ?_⟩
  obtain ⟨h3, h4, h5⟩ := errSp_zero h0
  have hks := isKey_size h3
  have hks2 := isKey_size (nb' h2)
  exact spec61 hI hs hlen (by omega) (by omega) h5 fun h' x' => ⟨_, rfl, hQ _ _ _ x' (fun h => absurd h0 h) (fun _ h => by (rw [nb' h2] at h; cases h)) fun _ _ => ⟨rfl, rfl⟩⟩

end
end Go.Proofs.YtihnjdhjkpmggaaDoorVc
