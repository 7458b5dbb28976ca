/- Conditions: what is wrong with them (no program in sight). -/
import Derived.Test.YtadakbmoanbcgaaGreatDoorVcCondT
import Derived.Test.YtadakbmoanbcgaaGreatDoorVcSeMath
import Derived.Lib.ValidU
set_option linter.unusedSimpArgs false
set_option linter.unusedVariables false
namespace Go.Proofs.YtadakbmoanbcgaaGreatDoorVc
abbrev tE : ByteArray := ⟨#[]⟩
def sgs : List ByteArray := [⟨#[61]⟩, ⟨#[33, 61]⟩, ⟨#[60]⟩, ⟨#[60, 61]⟩, ⟨#[62]⟩, ⟨#[62, 61]⟩]
/-- Where a text stands in a list, from a number on; -1: nowhere. -/
def idxS (s : ByteArray) : List ByteArray → Nat → Int
  | [], _ => -1
  | x :: l, k => if s = x then (k : Int) else idxS s l (k + 1)
def signNo (s : ByteArray) : Int := idxS s sgs 0
theorem idxS_at {s : ByteArray} : ∀ {l : List ByteArray} {i k : Nat}, (∀ x ∈ l.take i, s ≠ x) → l[i]? = some s → idxS s l k = ((k + i : Nat) : Int)
  | [], i, k, _, h => by simp at h
  | x :: l, 0, k, _, h => by cases h; unfold idxS; rw [if_pos rfl]; rfl
  | x :: l, i + 1, k, h0, h => by
    unfold idxS
    rw [if_neg (h0 x (by simp)), idxS_at (i := i) (fun y hy => h0 y (by simp [hy])) (by simpa using h)]
    congr 1; omega
theorem idxS_none {s : ByteArray} : ∀ {l : List ByteArray} {k : Nat}, (∀ x ∈ l, s ≠ x) → idxS s l k = -1
  | [], _, _ => rfl
  | x :: l, k, h => by unfold idxS; rw [if_neg (h x (by simp)), idxS_none fun y hy => h y (by simp [hy])]
def words : List ByteArray := [⟨#[97, 108, 108]⟩, ⟨#[110, 111, 110, 101]⟩, ⟨#[97, 110, 100]⟩, ⟨#[111, 114]⟩, ⟨#[110, 111, 116]⟩, ⟨#[104, 97, 115]⟩, ⟨#[105, 110]⟩, ⟨#[98, 101, 103, 105, 110, 115]⟩,
  ⟨#[99, 111, 110, 116, 97, 105, 110, 115]⟩, ⟨#[99, 111, 117, 110, 116]⟩, ⟨#[115, 117, 109]⟩, ⟨#[115, 105, 110, 99, 101]⟩, ⟨#[116, 104, 101, 110]⟩, ⟨#[119, 104, 101, 114, 101]⟩, ⟨#[119, 105, 116, 104, 105, 110]⟩,
  ⟨#[100, 97, 121, 115]⟩, ⟨#[104, 111, 117, 114, 115]⟩, ⟨#[109, 105, 110, 117, 116, 101, 115]⟩, ⟨#[121, 101, 115]⟩, ⟨#[110, 111]⟩]
def wordB (s : ByteArray) : Bool := words.any fun w => decide (s = w)
def nameB (s : ByteArray) : Bool := isKey s && !wordB s
def validS (s : ByteArray) : Bool := Lib.validD s.data.toList
def plainB (c : UInt8) : Bool := decide (32 ≤ c.toNat) && !decide (c.toNat = 127)
/-- What is wrong with the text of a value. -/
def errT (s : ByteArray) : Int := if 200 < s.size then 2 else if validS s = false then 3 else if (bl s).all plainB = false then 3 else 0
def boundsV (k : Int) : Option (Int × Int) := if k = 2 then some (-1000000000000, 1000000000000) else if k = 3 then some (0, 1) else if k = 4 then some (0, 4321439) else none
/-- .. with a value. -/
def errV (v : Val) : Int := if v.kind = 1 then (if v.num ≠ 0 then 3 else errT v.text) else match boundsV v.kind with
  | none => 4
  | some (a, b) => if v.text ≠ tE then 3 else if a ≤ v.num ∧ v.num ≤ b then 0 else 1
/-- .. with comparisons. -/
def errW (w : Whr) : Int := if nameB w.field = false then 5 else if signNo w.sign < 0 then 4 else errV w.val
def errWs : List Whr → Int
  | [] => 0
  | w :: l => if errW w ≠ 0 then errW w else errWs l
/-- .. with the values of a condition of a kind. -/
def errVs (k : Int) : List Val → Int
  | [] => 0
  | v :: l => if errV v ≠ 0 then errV v else if (k = 9 ∨ k = 10) ∧ v.kind ≠ 1 then 10 else errVs k l
structure Use where
  n : Bool
  f : Bool
  s : Bool
  w : Bool
  i : Bool
  m : Bool
  vl : Int
  vh : Int
  al : Int
  ah : Int
def useOf (k : Int) : Option Use :=
  if k = 1 ∨ k = 2 then some ⟨false, false, false, false, false, false, 0, 0, 0, 0⟩
  else if k = 3 ∨ k = 4 then some ⟨false, false, false, false, false, false, 0, 0, 2, 1073741824⟩
  else if k = 5 then some ⟨false, false, false, false, false, false, 0, 0, 1, 1⟩
  else if k = 6 then some ⟨true, false, false, false, false, false, 0, 0, 0, 0⟩
  else if k = 7 then some ⟨true, false, true, false, false, false, 1, 1, 0, 0⟩
  else if k = 8 then some ⟨true, false, false, false, false, false, 1, 50, 0, 0⟩
  else if k = 9 ∨ k = 10 then some ⟨true, false, false, false, false, false, 1, 1, 0, 0⟩
  else if k = 11 then some ⟨true, false, true, true, true, true, 0, 0, 0, 0⟩
  else if k = 12 then some ⟨true, true, true, true, true, true, 0, 0, 0, 0⟩
  else if k = 13 then some ⟨true, false, true, true, false, true, 0, 0, 0, 0⟩
  else if k = 14 then some ⟨true, true, false, false, true, false, 0, 0, 0, 0⟩
  else none
def noUse : Use := ⟨false, false, false, false, false, false, 0, 0, 0, 0⟩
/-- Are there parts that the kind does not use? -/
def spare (u : Use) (name field sign : ByteArray) (within num : Int) : Bool :=
  (!u.n && !decide (name = tE)) || (!u.f && !decide (field = tE)) || (!u.s && !decide (sign = tE)) || (!u.i && !decide (within = 0)) || (!u.m && !decide (num = 0))
def formedB (c : CT) (u : Use) : Bool := !spare u c.name c.field c.sign c.within c.num &&
  (decide (u.vl ≤ (c.vals.length : Int)) && decide ((c.vals.length : Int) ≤ u.vh)) && (decide (u.al ≤ (c.args.length : Int)) && decide ((c.args.length : Int) ≤ u.ah)) &&
  (decide ((c.whs.length : Int) = 0) || (u.w && decide ((c.whs.length : Int) ≤ 5)))
def boundsN (k : Int) : Int × Int := if k = 13 then (0, 4321440) else (-5000000000000000, 5000000000000000)
/-- .. with a condition, without those within. -/
def errN (c : CT) : Int := match useOf c.kind with
  | none => 4
  | some u => if formedB c u = false then 3 else if (u.n && !nameB c.name || u.f && !nameB c.field) = true then 5 else if (u.s && decide (signNo c.sign < 0)) = true then 4
    else if errVs c.kind c.vals ≠ 0 then errVs c.kind c.vals else if errWs c.whs ≠ 0 then errWs c.whs
    else if ¬ (0 ≤ c.within ∧ c.within ≤ 4321440) then 1 else if ¬ ((boundsN c.kind).1 ≤ c.num ∧ c.num ≤ (boundsN c.kind).2) then 1 else 0
mutual
/-- The first that is wrong, of a condition and those within, one after the other. -/
def trE (e : CT → Int) : CT → Int
  | .mk k n f s vs ws wi nu as => if e (.mk k n f s vs ws wi nu as) ≠ 0 then e (.mk k n f s vs ws wi nu as) else trsE e as
def trsE (e : CT → Int) : List CT → Int
  | [] => 0
  | a :: as => if trE e a ≠ 0 then trE e a else trsE e as
end
/-- .. and as a whole. -/
def errCond (c : CT) : Int := if 300 < c.size ∨ 20 < c.deep then 2 else trE errN c
theorem trE_eq (e : CT → Int) (c : CT) : trE e c = if e c ≠ 0 then e c else trsE e c.args := by
  cases c; simp only [trE, CT.args]
theorem errVs_at {k : Int} {l : List Val} {i : Nat} {v : Val} (hx : l[i]? = some v) : errVs k (l.drop i) = if errV v ≠ 0 then errV v else if (k = 9 ∨ k = 10) ∧ v.kind ≠ 1 then 10 else errVs k (l.drop (i + 1)) := by
  obtain ⟨hi, rfl⟩ := List.getElem?_eq_some_iff.1 hx
  rw [List.drop_eq_getElem_cons hi]; rfl
theorem errWs_at {l : List Whr} {i : Nat} {w : Whr} (hx : l[i]? = some w) : errWs (l.drop i) = if errW w ≠ 0 then errW w else errWs (l.drop (i + 1)) := by
  obtain ⟨hi, rfl⟩ := List.getElem?_eq_some_iff.1 hx
  rw [List.drop_eq_getElem_cons hi]; rfl
theorem trsE_at {e : CT → Int} {l : List CT} {i : Nat} {c : CT} (hx : l[i]? = some c) : trsE e (l.drop i) = if trE e c ≠ 0 then trE e c else trsE e (l.drop (i + 1)) := by
  obtain ⟨hi, rfl⟩ := List.getElem?_eq_some_iff.1 hx
  rw [List.drop_eq_getElem_cons hi]; rw [trsE]
theorem CT.size_eq (c : CT) : c.size = 1 + sizes c.args := by cases c; simp only [CT.size, CT.args]
theorem CT.deep_eq (c : CT) : c.deep = 1 + deeps c.args := by cases c; simp only [CT.deep, CT.args]
theorem CT.one_le (c : CT) : 1 ≤ c.size := by rw [c.size_eq]; omega
theorem args_le : ∀ (as : List CT), as.length ≤ sizes as
  | [] => Nat.le_refl _
  | a :: as => by
    have := args_le as
    have := a.one_le
    simp only [List.length_cons, sizes]; omega
theorem sizes_take {l : List CT} {i : Nat} {c : CT} (hx : l[i]? = some c) : sizes (l.take (i + 1)) = sizes (l.take i) + c.size := by rw [List.take_add_one, hx]; exact sizes_append _ _
theorem deeps_take {l : List CT} {i : Nat} {c : CT} (hx : l[i]? = some c) : deeps (l.take (i + 1)) = max (deeps (l.take i)) c.deep := by rw [List.take_add_one, hx]; exact deeps_append _ _
theorem sizes_take_le : ∀ (l : List CT) (i : Nat), sizes (l.take i) ≤ sizes l
  | [], i => by simp
  | a :: l, 0 => by simp [sizes]
  | a :: l, i + 1 => by simp only [List.take_succ_cons, sizes]; have := sizes_take_le l i; omega
theorem deeps_take_le : ∀ (l : List CT) (i : Nat), deeps (l.take i) ≤ deeps l
  | [], i => by simp
  | a :: l, 0 => by simp [deeps]
  | a :: l, i + 1 => by simp only [List.take_succ_cons, deeps]; have := deeps_take_le l i; omega
mutual
/-- No list in it is too long to be counted. -/
def CT.narrow : CT → Prop
  | .mk _ _ _ _ vs ws _ _ as => vs.length < 1000000 ∧ ws.length < 1000000 ∧ narrows as
def narrows : List CT → Prop
  | [] => True
  | a :: as => a.narrow ∧ narrows as
end
theorem CT.narrow_eq (c : CT) : c.narrow ↔ c.vals.length < 1000000 ∧ c.whs.length < 1000000 ∧ narrows c.args := by cases c; simp only [CT.narrow, CT.vals, CT.whs, CT.args]
theorem narrows_mem {a : CT} : ∀ {as : List CT}, narrows as → a ∈ as → a.narrow
  | b :: as, H, h => by
    unfold narrows at H
    rcases List.mem_cons.1 h with rfl | h
    · exact H.1
    · exact narrows_mem H.2 h
  | [], _, h => by cases h
theorem CT.narrow_arg {c a : CT} (h : c.narrow) (ha : a ∈ c.args) : a.narrow := narrows_mem ((c.narrow_eq).1 h).2.2 ha
end Go.Proofs.YtadakbmoanbcgaaGreatDoorVc
