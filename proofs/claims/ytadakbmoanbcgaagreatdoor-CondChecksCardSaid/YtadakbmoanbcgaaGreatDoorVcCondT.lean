/- Conditions, records and events, as the heap has them (no program in sight). -/
import Derived.Test.YtadakbmoanbcgaaGreatDoorVcOwns
import Derived.Test.YtadakbmoanbcgaaGreatDoorVcRows4
import Derived.Test.YtadakbmoanbcgaaGreatDoorVcNewB
import Derived.Test.YtadakbmoanbcgaaGreatDoorVcGridB
set_option linter.unusedSimpArgs false
set_option linter.unusedVariables false
namespace Go.Proofs.YtadakbmoanbcgaaGreatDoorVc

structure Val where
  kind : Int
  text : ByteArray
  num : Int
def valC (v : Val) : List Cell := [.int .i64 v.kind, .str v.text, .int .i64 v.num]
theorem valC_length (v : Val) : (valC v).length = 3 := rfl
structure Whr where
  field : ByteArray
  sign : ByteArray
  val : Val
def whrC (w : Whr) : List Cell := [.str w.field, .str w.sign, .int .i64 w.val.kind, .str w.val.text, .int .i64 w.val.num]
theorem whrC_length (w : Whr) : (whrC w).length = 5 := rfl
structure Fld where
  name : ByteArray
  val : Val
def fldC (f : Fld) : List Cell := [.str f.name, .int .i64 f.val.kind, .str f.val.text, .int .i64 f.val.num]
theorem fldC_length (f : Fld) : (fldC f).length = 4 := rfl
structure Evt where
  id : ByteArray
  name : ByteArray
  at_ : Int
  whoK : Int
  whoT : ByteArray
  fields : List Fld
def evtC (e : Evt) (s : Sl) : List Cell := [.str e.id, .str e.name, .int .i64 e.at_, .int .i64 e.whoK, .str e.whoT, .slice 4 s]
theorem evtC_length (e : Evt) (s : Sl) : (evtC e s).length = 6 := rfl

/-- A condition. -/
inductive CT where
  | mk (kind : Int) (name field sign : ByteArray) (vals : List Val) (whs : List Whr) (within num : Int) (args : List CT)
def CT.kind : CT → Int
  | .mk k _ _ _ _ _ _ _ _ => k
def CT.name : CT → ByteArray
  | .mk _ n _ _ _ _ _ _ _ => n
def CT.field : CT → ByteArray
  | .mk _ _ f _ _ _ _ _ _ => f
def CT.sign : CT → ByteArray
  | .mk _ _ _ s _ _ _ _ _ => s
def CT.vals : CT → List Val
  | .mk _ _ _ _ v _ _ _ _ => v
def CT.whs : CT → List Whr
  | .mk _ _ _ _ _ w _ _ _ => w
def CT.within : CT → Int
  | .mk _ _ _ _ _ _ w _ _ => w
def CT.num : CT → Int
  | .mk _ _ _ _ _ _ _ n _ => n
def CT.args : CT → List CT
  | .mk _ _ _ _ _ _ _ _ a => a

/-- The header's cells, where its lists lie. -/
def condC (c : CT) (sv sw sa : Sl) : List Cell := [.int .i64 c.kind, .str c.name, .str c.field, .str c.sign, .slice 3 sv, .slice 5 sw, .int .i64 c.within, .int .i64 c.num, .slice 9 sa]
theorem condC_length (c : CT) (sv sw sa : Sl) : (condC c sv sw sa).length = 9 := rfl
/-- A slice that is known even where it is empty. -/
structure AtS (h : Heap) (sz : Nat) (s : Sl) (xs : List Cell) : Prop where
  len : s.len * sz = xs.length
  sl : h.sl sz s = some xs
theorem AtS.at_ {h : Heap} {sz : Nat} {s : Sl} {xs : List Cell} (a : AtS h sz s xs) : At h sz s xs := ⟨a.len, .inr a.sl⟩
theorem AtS.ext {h h' : Heap} (e : Ext h h') {sz : Nat} {s : Sl} {xs : List Cell} (a : AtS h sz s xs) : AtS h' sz s xs := ⟨a.len, e.sl a.sl⟩
theorem AtS.stay {h h' : Heap} {k : Nat} {s : Sl} {cs : List Cell} (a : AtS h k s cs) (hs : ∀ j o x, s.a = some (j, o) → h j = some x → h' j = some x) : AtS h' k s cs := by
  refine ⟨a.len, ?_⟩
  have h1 := a.sl
  unfold Heap.sl at h1 ⊢
  cases ha : s.a with
  | none => rw [ha] at h1; exact h1
  | some p =>
    obtain ⟨j, o⟩ := p
    rw [ha] at h1
    simp only at h1 ⊢
    unfold Heap.read at h1 ⊢
    cases hj : h j with
    | none => rw [hj] at h1; cases h1
    | some x => rw [hs j o x ha hj]; rw [hj] at h1; exact h1
theorem AtS.nil (h : Heap) (sz : Nat) : AtS h sz ⟨none, 0⟩ [] := ⟨by simp, rfl⟩
theorem OwnB.sl {h0 h : Heap} {sz : Nat} {s : Sl} {cs : List Cell} (o : OwnB h0 h (sz, s, cs)) : AtS h sz s cs := by
  obtain ⟨h1, ⟨a, b⟩ | ⟨i, a, _, c⟩⟩ := o
  · simp only at a b; subst b; exact ⟨h1, by unfold Heap.sl; rw [a]⟩
  · simp only at a c h1
    refine ⟨h1, ?_⟩
    unfold Heap.sl
    rw [a]
    show h.read i 0 _ = _
    rw [read_block c (by rw [h1]; omega), h1, List.drop_zero, List.take_length]
mutual
/-- A condition's cells. -/
def CondAt (h : Heap) : CT → List Cell → Prop
  | .mk k n f s vs ws wi nu as, cs => ∃ sv sw sa : Sl, cs = condC (.mk k n f s vs ws wi nu as) sv sw sa ∧ AtS h 3 sv (rows valC vs) ∧ AtS h 5 sw (rows whrC ws) ∧ ∃ rs : List (List Cell), AtS h 9 sa rs.flatten ∧ CondsAt h as rs
def CondsAt (h : Heap) : List CT → List (List Cell) → Prop
  | [], [] => True
  | a :: as, r :: rs => CondAt h a r ∧ CondsAt h as rs
  | _, _ => False
end
mutual
theorem CondAt.ext {h h' : Heap} (e : Ext h h') : ∀ {c : CT} {cs : List Cell}, CondAt h c cs → CondAt h' c cs
  | .mk k n f s vs ws wi nu as, cs, H => by
    unfold CondAt at H ⊢
    obtain ⟨sv, sw, sa, h1, h2, h3, rs, h4, h5⟩ := H
    exact ⟨sv, sw, sa, h1, h2.ext e, h3.ext e, rs, h4.ext e, CondsAt.ext e h5⟩
theorem CondsAt.ext {h h' : Heap} (e : Ext h h') : ∀ {as : List CT} {rs : List (List Cell)}, CondsAt h as rs → CondsAt h' as rs
  | [], [], _ => by unfold CondsAt; trivial
  | a :: as, r :: rs, H => by
    unfold CondsAt at H ⊢
    exact ⟨CondAt.ext e H.1, CondsAt.ext e H.2⟩
  | [], _ :: _, H => by unfold CondsAt at H; exact H.elim
  | _ :: _, [], H => by unfold CondsAt at H; exact H.elim
end
theorem CondAt.partsS {h : Heap} {c : CT} {cs : List Cell} (H : CondAt h c cs) : ∃ sv sw sa : Sl, cs = condC c sv sw sa ∧ AtS h 3 sv (rows valC c.vals) ∧ AtS h 5 sw (rows whrC c.whs) ∧ ∃ rs : List (List Cell), AtS h 9 sa rs.flatten ∧ CondsAt h c.args rs := by
  cases c
  unfold CondAt at H
  exact H
theorem CondAt.parts {h : Heap} {c : CT} {cs : List Cell} (H : CondAt h c cs) : ∃ sv sw sa : Sl, cs = condC c sv sw sa ∧ At h 3 sv (rows valC c.vals) ∧ At h 5 sw (rows whrC c.whs) ∧ ∃ rs : List (List Cell), At h 9 sa rs.flatten ∧ CondsAt h c.args rs := by
  obtain ⟨sv, sw, sa, h1, h2, h3, rs, h4, h5⟩ := H.partsS
  exact ⟨sv, sw, sa, h1, h2.at_, h3.at_, rs, h4.at_, h5⟩
theorem CondAt.make {h : Heap} {c : CT} {sv sw sa : Sl} {rs : List (List Cell)} (h1 : AtS h 3 sv (rows valC c.vals)) (h2 : AtS h 5 sw (rows whrC c.whs)) (h3 : AtS h 9 sa rs.flatten) (h4 : CondsAt h c.args rs) : CondAt h c (condC c sv sw sa) := by
  cases c
  unfold CondAt
  exact ⟨sv, sw, sa, rfl, h1, h2, rs, h3, h4⟩
theorem CondAt.length {h : Heap} {c : CT} {cs : List Cell} (H : CondAt h c cs) : cs.length = 9 := by
  obtain ⟨_, _, _, rfl, _⟩ := H.parts; rfl
theorem CondsAt.len {h : Heap} : ∀ {as : List CT} {rs : List (List Cell)}, CondsAt h as rs → as.length = rs.length ∧ ∀ r ∈ rs, r.length = 9
  | [], [], _ => ⟨rfl, by simp⟩
  | a :: as, r :: rs, H => by
    unfold CondsAt at H
    obtain ⟨h1, h2⟩ := CondsAt.len H.2
    refine ⟨by simp [h1], fun x hx => ?_⟩
    rcases List.mem_cons.1 hx with rfl | hx
    · exact H.1.length
    · exact h2 x hx
  | [], _ :: _, H => by unfold CondsAt at H; exact H.elim
  | _ :: _, [], H => by unfold CondsAt at H; exact H.elim
theorem CondsAt.get {h : Heap} : ∀ {as : List CT} {rs : List (List Cell)} {i : Nat} {a : CT}, CondsAt h as rs → as[i]? = some a → ∃ r, rs[i]? = some r ∧ CondAt h a r
  | a :: as, r :: rs, 0, b, H, hi => by
    unfold CondsAt at H
    simp at hi; subst hi; exact ⟨r, rfl, H.1⟩
  | a :: as, r :: rs, i + 1, b, H, hi => by
    unfold CondsAt at H
    exact CondsAt.get (i := i) H.2 (by simpa using hi)
  | [], _, i, _, _, hi => by simp at hi
  | a :: as, [], _, _, H, _ => by unfold CondsAt at H; exact H.elim
theorem CondsAt.append {h : Heap} : ∀ {as : List CT} {rs : List (List Cell)} {a : CT} {r : List Cell}, CondsAt h as rs → CondAt h a r → CondsAt h (as ++ [a]) (rs ++ [r])
  | [], [], a, r, _, H => by unfold CondsAt; exact ⟨H, by unfold CondsAt; trivial⟩
  | b :: as, q :: rs, a, r, H, H2 => by
    unfold CondsAt at H
    show CondsAt h (b :: (as ++ [a])) (q :: (rs ++ [r]))
    unfold CondsAt
    exact ⟨H.1, CondsAt.append H.2 H2⟩
  | [], _ :: _, _, _, H, _ => by unfold CondsAt at H; exact H.elim
  | _ :: _, [], _, _, H, _ => by unfold CondsAt at H; exact H.elim
theorem CondsAt.nil (h : Heap) : CondsAt h [] [] := by unfold CondsAt; trivial
/-- Rows of nine cells. -/
theorem flat9 {rs : List (List Cell)} (hr : ∀ r ∈ rs, r.length = 9) : rs.flatten.length = rs.length * 9 := by
  induction rs with
  | nil => rfl
  | cons r rs ih =>
    rw [List.flatten_cons, List.length_append, hr r (List.mem_cons_self ..), ih fun x hx => hr x (List.mem_cons_of_mem _ hx), List.length_cons]
    omega
theorem flat9_get {rs : List (List Cell)} (hr : ∀ r ∈ rs, r.length = 9) : ∀ {i : Nat} {r : List Cell}, rs[i]? = some r → (rs.flatten.drop (i * 9)).take 9 = r := by
  induction rs with
  | nil => intro i r hi; simp at hi
  | cons q rs ih =>
    intro i r hi
    have hq := hr q (List.mem_cons_self ..)
    cases i with
    | zero =>
      simp at hi; subst hi
      rw [List.flatten_cons, Nat.zero_mul, List.drop_zero, List.take_append_of_le_length (by omega), List.take_of_length_le (by omega)]
    | succ i =>
      rw [List.flatten_cons, show (i + 1) * 9 = q.length + i * 9 by omega, List.drop_append]
      have : q.drop (q.length + i * 9) = [] := List.drop_eq_nil_of_le (by omega)
      rw [this, List.nil_append, Nat.add_sub_cancel_left]
      exact ih (fun x hx => hr x (List.mem_cons_of_mem _ hx)) (by simpa using hi)
/-- One of the conditions within is read. -/
theorem CondsAt.row {h : Heap} {as : List CT} {rs : List (List Cell)} {s : Sl} {i : Nat} {a : CT} {f : Nat → Nat → T} (H : CondsAt h as rs) (hs : At h 9 s rs.flatten) (ha : as[i]? = some a)
    (hk : ∀ b o r, CondAt h a r → h.read b (o + i * 9) 9 = some r → f b o h) : derefK s.a f h := by
  obtain ⟨r, hr, hc⟩ := H.get ha
  obtain ⟨hl, h9⟩ := H.len
  have hi := (List.getElem?_eq_some_iff.1 hr).1
  have hfl := flat9 h9
  obtain ⟨b, o, hsa, hrd⟩ := hs.lies (by rw [hfl]; omega)
  refine derefK_intro hsa (hk b o r hc ?_)
  rw [hfl] at hrd
  rw [read_part hrd (by omega), flat9_get h9 hr]

/-- .. where they are known to lie in a part of the heap. -/
theorem CondsAt.rowIn {g h : Heap} {as : List CT} {rs : List (List Cell)} {s : Sl} {i : Nat} {a : CT} {f : Nat → Nat → T} (e : Ext g h) (H : CondsAt g as rs) (hs : At g 9 s rs.flatten) (ha : as[i]? = some a)
    (hk : ∀ b o r, CondAt g a r → h.read b (o + i * 9) 9 = some r → f b o h) : derefK s.a f h := by
  obtain ⟨r, hr, hc⟩ := H.get ha
  obtain ⟨hl, h9⟩ := H.len
  have hi := (List.getElem?_eq_some_iff.1 hr).1
  have hfl := flat9 h9
  obtain ⟨b, o, hsa, hrd⟩ := (e.at_ hs).lies (by rw [hfl]; omega)
  refine derefK_intro hsa (hk b o r hc ?_)
  rw [hfl] at hrd
  rw [read_part hrd (by omega), flat9_get h9 hr]
/-! ### measures -/
mutual
def CT.size : CT → Nat
  | .mk _ _ _ _ _ _ _ _ as => 1 + sizes as
def sizes : List CT → Nat
  | [] => 0
  | a :: as => a.size + sizes as
end
mutual
def CT.deep : CT → Nat
  | .mk _ _ _ _ _ _ _ _ as => 1 + deeps as
def deeps : List CT → Nat
  | [] => 0
  | a :: as => max a.deep (deeps as)
end
theorem size_mem {a : CT} : ∀ {as : List CT}, a ∈ as → a.size ≤ sizes as
  | b :: as, h => by
    unfold sizes
    rcases List.mem_cons.1 h with rfl | h
    · omega
    · have := size_mem h; omega
  | [], h => by cases h
theorem CT.size_args {a c : CT} (h : a ∈ c.args) : a.size < c.size := by
  cases c with
  | mk k n f s vs ws wi nu as =>
    have h1 := size_mem (show a ∈ as from h)
    have h2 : (CT.mk k n f s vs ws wi nu as).size = 1 + sizes as := by simp only [CT.size]
    omega
theorem deep_mem {a : CT} : ∀ {as : List CT}, a ∈ as → a.deep ≤ deeps as
  | b :: as, h => by
    unfold deeps
    rcases List.mem_cons.1 h with rfl | h
    · omega
    · have := deep_mem h; omega
  | [], h => by cases h
theorem sizes_append (as : List CT) (a : CT) : sizes (as ++ [a]) = sizes as + a.size := by
  induction as with
  | nil => simp [sizes]
  | cons b as ih => simp only [List.cons_append, sizes, ih]; omega
theorem deeps_append (as : List CT) (a : CT) : deeps (as ++ [a]) = max (deeps as) a.deep := by
  induction as with
  | nil => simp [deeps]
  | cons b as ih => simp only [List.cons_append, deeps, ih]; omega
end Go.Proofs.YtadakbmoanbcgaaGreatDoorVc
