/- Splits: what is wrong with them, the arm of a key, the keys of each arm. -/
import Derived.Test.YtihnjdhjkpmggaaDoorVcSeMath
set_option linter.unusedVariables false
namespace Go.Proofs.YtihnjdhjkpmggaaDoorVc

def sumW (ws : List Int) : Int := ws.foldl (fun a x => IntKind.i64.wrap (a + x)) 0
theorem sumW_step {ws : List Int} {i : Nat} {x : Int} (h : ws[i]? = some x) : sumW (ws.take (i + 1)) = IntKind.i64.wrap (sumW (ws.take i) + x) := by
  have : ws.take (i + 1) = ws.take i ++ [x] := by rw [List.take_add_one, h]; rfl
  rw [this]
  unfold sumW
  rw [List.foldl_append]
  rfl
def hstep (h : Int) (b : UInt8) : Int := IntKind.u64.wrap (IntKind.u64.wrap (((BitVec.ofInt 64 h ^^^ BitVec.ofInt 64 (IntKind.u64.wrap (b.toNat : Int))).toNat : Nat) : Int) * 1099511628211)
def hashL (l : List UInt8) : Int := l.foldl hstep 14695981039346656037
theorem hashL_step {l : List UInt8} {i : Nat} {b : UInt8} (h : l[i]? = some b) : hashL (l.take (i + 1)) = hstep (hashL (l.take i)) b := by
  have : l.take (i + 1) = l.take i ++ [b] := by rw [List.take_add_one, h]; rfl
  rw [this]
  unfold hashL
  rw [List.foldl_append]
  rfl
def armGo : Int → List Int → Int → Int
  | _, [], _ => -1
  | left, w :: l, i => if left < w then i else armGo (IntKind.i64.wrap (left - w)) l (i + 1)
theorem armGo_range : ∀ (l : List Int) (left i : Int), 0 ≤ i → armGo left l i = -1 ∨ (0 ≤ armGo left l i ∧ armGo left l i < i + l.length)
  | [], _, _, _ => .inl rfl
  | w :: l, left, i, hi => by
    simp only [armGo, List.length_cons]
    split
    · right; omega
    · rcases armGo_range l (IntKind.i64.wrap (left - w)) (i + 1) (by omega) with h | h
      · exact .inl h
      · right; omega
def armOf (name : ByteArray) (ws : List Int) (hold : Int) (key : ByteArray) : Int :=
  armGo (IntKind.i64.wrap ((hashL (bl (name ++ ⟨#[47]⟩ ++ key))).tmod (IntKind.u64.wrap (IntKind.i64.wrap (sumW ws + hold))))) ws 0

abbrev okSp (w : Int) : Prop := 0 ≤ w ∧ w ≤ 1000
def errSp (name : ByteArray) (ws : List Int) (hold : Int) : Int :=
  if isKey name = false then 5 else if 10 < ws.length then 2 else if ws.length = 0 then 8 else if ¬ (∀ w ∈ ws ++ [hold], okSp w) then 1 else if IntKind.i64.wrap (sumW ws + hold) = 0 then 8 else 0
theorem errSp_zero {name : ByteArray} {ws : List Int} {hold : Int} (h : errSp name ws hold = 0) : isKey name = true ∧ ws.length ≤ 10 ∧ IntKind.i64.wrap (sumW ws + hold) ≠ 0 := by
  unfold errSp at h
  split at h
  · cases h
  rename_i h1
  split at h
  · cases h
  rename_i h2
  split at h
  · cases h
  split at h
  · cases h
  split at h
  · cases h
  rename_i h5
  exact ⟨by cases hk : isKey name <;> simp_all, by omega, h5⟩
theorem isKey_size {s : ByteArray} (h : isKey s = true) : s.size ≤ 40 := by
  unfold isKey at h
  rw [bl_size]
  cases hl : bl s with
  | nil => simp
  | cons b l =>
    rw [hl] at h
    simp only [isKeyL, Bool.and_eq_true, decide_eq_true_eq] at h
    simp only [List.length_cons]
    omega

/-- What is wrong with keys, behind some that are right. -/
def scanK : List ByteArray → List ByteArray → Int
  | _, [] => 0
  | pre, x :: l => if isKey x = false then 5 else if (pre.any fun y => decide (y = x)) = true then 6 else scanK (pre ++ [x]) l
theorem scanK_step {xs : List ByteArray} {i : Nat} {x : ByteArray} (hx : xs[i]? = some x) : scanK (xs.take i) (xs.drop i) = if isKey x = false then 5 else if ((xs.take i).any fun y => decide (y = x)) = true then 6 else scanK (xs.take (i + 1)) (xs.drop (i + 1)) := by
  have h1 : xs.drop i = x :: xs.drop (i + 1) := by
    obtain ⟨hi, rfl⟩ := List.getElem?_eq_some_iff.1 hx
    exact List.drop_eq_getElem_cons hi
  have h2 : xs.take (i + 1) = xs.take i ++ [x] := by rw [List.take_add_one, hx]; rfl
  rw [h1, h2]
  rfl
theorem scanK_keys : ∀ (l pre : List ByteArray), scanK pre l = 0 → ∀ x ∈ l, isKey x = true
  | [], _, _, x, hx => by cases hx
  | y :: l, pre, h, x, hx => by
    simp only [scanK] at h
    split at h
    · cases h
    rename_i hk
    split at h
    · cases h
    rcases List.mem_cons.1 hx with rfl | hx
    · cases hh : isKey x <;> simp_all
    · exact scanK_keys l _ h x hx

/-- The arm's place: those that are held out come last. -/
def armIx (name : ByteArray) (ws : List Int) (hold : Int) (k : ByteArray) : Nat := if armOf name ws hold k < 0 then ws.length else (armOf name ws hold k).toNat
theorem armIx_le (name : ByteArray) (ws : List Int) (hold : Int) (k : ByteArray) : armIx name ws hold k < ws.length + 1 := by
  unfold armIx
  split
  · omega
  · have h := armGo_range ws (IntKind.i64.wrap ((hashL (bl (name ++ ⟨#[47]⟩ ++ k))).tmod (IntKind.u64.wrap (IntKind.i64.wrap (sumW ws + hold))))) 0 (by decide)
    have e : armGo (IntKind.i64.wrap ((hashL (bl (name ++ ⟨#[47]⟩ ++ k))).tmod (IntKind.u64.wrap (IntKind.i64.wrap (sumW ws + hold))))) ws 0 = armOf name ws hold k := rfl
    rw [e] at h
    omega
def grp (f : ByteArray → Nat) (n : Nat) (ks : List ByteArray) : List (List ByteArray) := (List.range n).map fun a => ks.filter fun k => decide (f k = a)
theorem grp_get {f : ByteArray → Nat} {n a : Nat} (ks : List ByteArray) (ha : a < n) : (grp f n ks)[a]? = some (ks.filter fun k => decide (f k = a)) := by
  unfold grp
  rw [List.getElem?_map, List.getElem?_range ha]; rfl
theorem grp_length (f : ByteArray → Nat) (n : Nat) (ks : List ByteArray) : (grp f n ks).length = n := by simp [grp]
theorem grp_nil (f : ByteArray → Nat) (n : Nat) : grp f n [] = List.replicate n [] := by
  apply List.ext_getElem?
  intro i
  rcases Nat.lt_or_ge i n with h | h
  · rw [grp_get _ h, List.getElem?_replicate, if_pos h]; rfl
  · rw [List.getElem?_eq_none (by rw [grp_length]; exact h), List.getElem?_eq_none (by rw [List.length_replicate]; exact h)]
theorem grp_step {f : ByteArray → Nat} {n : Nat} {ks : List ByteArray} {k : ByteArray} {g : List ByteArray} (ha : f k < n) (hg : (grp f n ks)[f k]? = some g) : grp f n (ks ++ [k]) = (grp f n ks).set (f k) (g ++ [k]) := by
  rw [grp_get _ ha] at hg
  cases hg
  apply List.ext_getElem?
  intro i
  rw [List.getElem?_set]
  rcases Nat.lt_or_ge i n with h | h
  · rw [grp_get _ h, grp_get _ h, List.filter_append]
    by_cases e : f k = i
    · subst e
      rw [if_pos rfl, if_pos (by rw [grp_length]; exact ha)]
      simp
    · rw [if_neg e]
      simp [e]
  · rw [if_neg (by omega), List.getElem?_eq_none (by rw [grp_length]; exact h), List.getElem?_eq_none (by rw [grp_length]; exact h)]
end Go.Proofs.YtihnjdhjkpmggaaDoorVc
