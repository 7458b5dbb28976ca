/- Conditions: what they mean, which reasons they have, how they are ordered (no program in sight). The meaning of conditions: values, comparisons, fields. The meaning of conditions: those about the record, one event before another, comparisons of an event. Conditions for a record and events, al the heap has them; what of a heap one knows after a call (no program in sight). The node of a condition. What a node is at a moment. -/
import Derived.Test.YtadakbmoanbcgaaGreatDoorVcCkD
set_option linter.unusedSimpArgs false
set_option linter.unusedVariables false
-- CkCoMean
namespace Go.Proofs.YtadakbmoanbcgaaGreatDoorVc
def holdsB (s : ByteArray) (n : Int) : Bool :=
  if s = ⟨#[61]⟩ then decide (n = 0) else if s = ⟨#[33, 61]⟩ then !decide (n = 0) else if s = ⟨#[60]⟩ then decide (n < 0) else if s = ⟨#[60, 61]⟩ then decide (n ≤ 0) else if s = ⟨#[62]⟩ then decide (n > 0) else decide (n ≥ 0)
/-- The first that is not nothing. -/
def orL : List Int → Int
  | [] => 0
  | x :: l => if x ≠ 0 then x else orL l
def cmpVT (a b : Val) : Int := orL [cmpS a.text b.text, cmpI a.num b.num]
def comparesB (a : Val) (s : ByteArray) (b : Val) : Bool := decide (a.kind = b.kind) && holdsB s (cmpVT a b)
def matchB (fs : List Fld) (w : Whr) : Bool := match fieldOf fs w.field with
  | none => false
  | some v => comparesB v w.sign w.val
def matchesB (fs : List Fld) (ws : List Whr) : Bool := ws.all (matchB fs)
def preS (s t : ByteArray) : Bool := decide (t.size ≤ s.size) && decide (s.extract 0 t.size = t)
def tEq : ByteArray := ⟨#[61]⟩
/-- What a condition about the record is. -/
def ofFieldB (c : CT) (fs : List Fld) : Bool := match fieldOf fs c.name with
  | none => false
  | some v => if c.kind = 6 then true else if c.kind = 7 then (match c.vals with
      | [] => false
      | w :: _ => comparesB v c.sign w)
    else if c.kind = 8 then c.vals.any fun w => comparesB v tEq w
    else match c.vals with
      | [] => false
      | w :: _ => decide (v.kind = 1) && (if c.kind = 9 then preS v.text w.text else conS v.text w.text)
/-- From when on one event has stood before another one. -/
def firstL (c : CT) : List Evt → Int → Int
  | [], _ => 4321440
  | e :: l, last => if e.name = c.field ∧ last ≥ 0 ∧ (c.within = 0 ∨ IntKind.i64.wrap (e.at_ - last) ≤ c.within) then e.at_ else firstL c l (if e.name = c.name then e.at_ else last)
def hitB (c : CT) (e : Evt) : Bool := decide (e.name = c.name) && matchesB e.fields c.whs
def sumV (c : CT) (acc : Int) (e : Evt) : Int := match fieldOf e.fields c.field with
  | some v => if v.kind = 1 then acc else IntKind.i64.wrap (acc + v.num)
  | none => acc
def timesL (c : CT) (l : List Evt) : List Int := (l.filter (hitB c)).map (·.at_)
def sumsL (c : CT) : List Evt → Int → List Int
  | [], acc => [acc]
  | e :: l, acc => acc :: sumsL c l (sumV c acc e)
def sumsOf (c : CT) (l : List Evt) : List Int := sumsL c (l.filter (hitB c)) 0
def upTo (ts : List Int) (n : Int) : Nat := (ts.filter fun t => decide (t ≤ n)).length
/-- What a test of events is. -/
def testB (c : CT) (l : List Evt) (n : Int) : Bool :=
  let ts := timesL c l
  let to := upTo ts n
  let fr := if c.within > 0 then upTo ts (n - c.within) else 0
  if c.kind = 11 then holdsB c.sign (cmpI ((to : Int) - (fr : Int)) c.num)
  else if c.kind = 12 then holdsB c.sign (cmpI (IntKind.i64.wrap ((sumsOf c l).getD to 0 - (sumsOf c l).getD fr 0)) c.num)
  else if 0 < to then holdsB c.sign (cmpI (IntKind.i64.wrap (n - ts.getD (to - 1) 0)) c.num) else false
/-- What a condition without others in it is. -/
def leafB (fs : List Fld) (l : List Evt) (n : Int) (c : CT) : Bool :=
  if c.kind = 14 then decide (n ≥ firstL c l (-1)) else if c.kind = 11 ∨ c.kind = 12 ∨ c.kind = 13 then testB c l n else ofFieldB c fs
mutual
/-- What a condition is, where it is told what those are that have no others in them. -/
def evC (lf : CT → Bool) : CT → Bool
  | .mk k n f s vs ws wi nu al => if k = 1 then true else if k = 2 then false else if k = 3 then evAll lf al else if k = 4 then evAny lf al else if k = 5 then !evHd lf al else lf (.mk k n f s vs ws wi nu al)
def evAll (lf : CT → Bool) : List CT → Bool
  | [] => true
  | a :: al => evC lf a && evAll lf al
def evAny (lf : CT → Bool) : List CT → Bool
  | [] => false
  | a :: al => evC lf a || evAny lf al
def evHd (lf : CT → Bool) : List CT → Bool
  | [] => true
  | a :: _ => evC lf a
end

def notC (c : CT) : CT := .mk 5 tE tE tE [] [] 0 0 [c]
mutual
/-- Reasons for what a condition is. -/
def whyC (lf : CT → Bool) : CT → List CT
  | .mk k n f s vs ws wi nu al => if k = 1 ∨ k = 2 then [] else if k = 5 then whyHd lf al
    else if k = 3 ∨ k = 4 then whyRow lf (evC lf (.mk k n f s vs ws wi nu al)) (decide (k = 3)) al []
    else if lf (.mk k n f s vs ws wi nu al) = true then [.mk k n f s vs ws wi nu al] else [notC (.mk k n f s vs ws wi nu al)]
def whyHd (lf : CT → Bool) : List CT → List CT
  | [] => []
  | a :: _ => whyC lf a
def whyRow (lf : CT → Bool) (is an : Bool) : List CT → List CT → List CT
  | [], acc => acc
  | a :: al, acc => if (!decide (is = an) && decide (evC lf a = is)) = true then whyC lf a else whyRow lf is an al (acc ++ whyC lf a)
end

def cmpL {α : Type} (f : α → α → Int) : List α → List α → Int
  | [], [] => 0
  | [], _ :: _ => -1
  | _ :: _, [] => 1
  | a :: al, b :: bs => if f a b ≠ 0 then f a b else cmpL f al bs
def cmpV (a b : Val) : Int := orL [cmpI a.kind b.kind, cmpI a.num b.num, cmpS a.text b.text]
def cmpWh (a b : Whr) : Int := orL [cmpS a.field b.field, cmpI (signNo a.sign) (signNo b.sign), cmpV a.val b.val]
mutual
/-- How two conditions are ordered. -/
def cmpC : CT → CT → Int
  | .mk k n f s vs ws wi nu al, d => orL [cmpI k d.kind, cmpS n d.name, cmpS f d.field, cmpI (signNo s) (signNo d.sign), cmpL cmpV vs d.vals, cmpL cmpWh ws d.whs, cmpI wi d.within, cmpI nu d.num, cmpCs al d.args]
def cmpCs : List CT → List CT → Int
  | [], [] => 0
  | [], _ :: _ => -1
  | _ :: _, [] => 1
  | a :: al, b :: bs => if cmpC a b ≠ 0 then cmpC a b else cmpCs al bs
end

/-- Each once. -/
def dedC : List CT → List CT → List CT
  | [], acc => acc
  | x :: l, acc => if (acc.any fun y => decide (cmpC x y = 0)) = true then dedC l acc else dedC l (acc ++ [x])
theorem evC_eq (lf : CT → Bool) (c : CT) : evC lf c = if c.kind = 1 then true else if c.kind = 2 then false else if c.kind = 3 then evAll lf c.args else if c.kind = 4 then evAny lf c.args else if c.kind = 5 then !evHd lf c.args else lf c := by
  cases c; rw [evC]; rfl
theorem whyC_eq (lf : CT → Bool) (c : CT) : whyC lf c = if c.kind = 1 ∨ c.kind = 2 then [] else if c.kind = 5 then whyHd lf c.args else if c.kind = 3 ∨ c.kind = 4 then whyRow lf (evC lf c) (decide (c.kind = 3)) c.args [] else if lf c = true then [c] else [notC c] := by
  cases c; rw [whyC]; rfl
theorem cmpC_eq (c d : CT) : cmpC c d = orL [cmpI c.kind d.kind, cmpS c.name d.name, cmpS c.field d.field, cmpI (signNo c.sign) (signNo d.sign), cmpL cmpV c.vals d.vals, cmpL cmpWh c.whs d.whs, cmpI c.within d.within, cmpI c.num d.num, cmpCs c.args d.args] := by
  cases c; simp only [cmpC, CT.kind, CT.args, CT.name, CT.field, CT.sign, CT.vals, CT.whs, CT.within, CT.num]
theorem evAll_all (lf : CT → Bool) : ∀ al : List CT, evAll lf al = al.all (evC lf)
  | [] => by simp [evAll]
  | a :: al => by simp [evAll, evAll_all lf al]
theorem evAny_any (lf : CT → Bool) : ∀ al : List CT, evAny lf al = al.any (evC lf)
  | [] => by simp [evAny]
  | a :: al => by simp [evAny, evAny_any lf al]
/-! ### what the order tells -/
theorem orL_zero : ∀ {l : List Int}, orL l = 0 → ∀ x ∈ l, x = 0
  | [], _, x, hx => by cases hx
  | y :: l, h, x, hx => by
    unfold orL at h
    by_cases e : y = 0
    · rw [if_neg (by simpa using e)] at h
      rcases List.mem_cons.1 hx with rfl | hx
      · exact e
      · exact orL_zero h x hx
    · rw [if_pos e] at h; exact absurd h e
theorem cmpI_zero {a b : Int} (h : cmpI a b = 0) : a = b := by
  unfold cmpI at h
  split at h
  · cases h
  · split at h
    · cases h
    · omega
theorem cmpL_zero {α : Type} {f : α → α → Int} : ∀ {l m : List α}, (∀ a ∈ l, ∀ b ∈ m, f a b = 0 → a = b) → cmpL f l m = 0 → l = m
  | [], [], _, _ => rfl
  | [], _ :: _, _, h => by cases h
  | _ :: _, [], _, h => by cases h
  | a :: l, b :: m, hf, h => by
    unfold cmpL at h
    by_cases e : f a b = 0
    · rw [if_neg (by simpa using e)] at h
      rw [hf a (by simp) b (by simp) e, cmpL_zero (fun x hx y hy => hf x (by simp [hx]) y (by simp [hy])) h]
    · rw [if_pos e] at h; exact absurd h e
theorem cmpV_zero {a b : Val} (h : cmpV a b = 0) : a = b := by
  have z := orL_zero h
  obtain ⟨ka, ta, na⟩ := a
  obtain ⟨kb, tb, nb⟩ := b
  have h1 := cmpI_zero (z (cmpI ka kb) (by simp))
  have h2 := cmpI_zero (z (cmpI na nb) (by simp))
  have h3 := cmpS_zero.1 (z (cmpS ta tb) (by simp))
  subst h1 h2 h3; rfl
theorem idxS_inj {s t : ByteArray} : ∀ {l : List ByteArray} {k : Nat}, idxS s l k = idxS t l k → ¬ idxS s l k < 0 → s = t
  | [], _, _, h => absurd (show (-1 : Int) < 0 by decide) h
  | x :: l, k, h, hn => by
    have pos : ∀ (u : ByteArray) (l : List ByteArray) (k : Nat), idxS u l k = -1 ∨ (k : Int) ≤ idxS u l k := fun u l => by
      induction l with
      | nil => intro k; exact .inl rfl
      | cons y l ih =>
        intro k
        unfold idxS
        split
        · exact .inr (Int.le_refl _)
        · rcases ih (k + 1) with h | h
          · exact .inl h
          · exact .inr (by omega)
    unfold idxS at h hn
    by_cases e1 : s = x <;> by_cases e2 : t = x
    · rw [e1, e2]
    · rw [if_pos e1, if_neg e2] at h
      rcases pos t l (k + 1) with p | p <;> omega
    · rw [if_neg e1, if_pos e2] at h
      rcases pos s l (k + 1) with p | p <;> omega
    · rw [if_neg e1, if_neg e2] at h
      rw [if_neg e1] at hn
      exact idxS_inj h hn
theorem cmpWh_zero {a b : Whr} (ha : errW a = 0) (h : cmpWh a b = 0) : a = b := by
  have z := orL_zero h
  have h1 := cmpS_zero.1 (z (cmpS a.field b.field) (by simp))
  have h2 := cmpI_zero (z (cmpI (signNo a.sign) (signNo b.sign)) (by simp))
  have h3 := cmpV_zero (z (cmpV a.val b.val) (by simp))
  have hs : ¬ signNo a.sign < 0 := by
    intro e
    unfold errW at ha
    by_cases e1 : nameB a.field = false
    · rw [if_pos e1] at ha; cases ha
    · rw [if_neg e1, if_pos e] at ha; cases ha
  have h4 := idxS_inj (k := 0) h2 hs
  obtain ⟨fa, sa, va⟩ := a
  obtain ⟨fb, sb, vb⟩ := b
  simp only at h1 h3 h4
  subst h1 h3 h4; rfl
theorem errWs_all : ∀ {l : List Whr}, errWs l = 0 → ∀ w ∈ l, errW w = 0
  | [], _, w, hw => by cases hw
  | a :: l, h, w, hw => by
    unfold errWs at h
    by_cases e : errW a = 0
    · rw [if_neg (by simpa using e)] at h
      rcases List.mem_cons.1 hw with rfl | hw
      · exact e
      · exact errWs_all h w hw
    · rw [if_pos e] at h; exact absurd h e
/-- What a right condition's parts are. -/
theorem errN_parts {c : CT} (h : errN c = 0) : ∃ u, useOf c.kind = some u ∧ formedB c u = true ∧ (u.s && decide (signNo c.sign < 0)) = false ∧ errVs c.kind c.vals = 0 ∧ errWs c.whs = 0 ∧ (u.n && !nameB c.name || u.f && !nameB c.field) = false ∧ (0 ≤ c.within ∧ c.within ≤ 4321440) ∧ ((boundsN c.kind).1 ≤ c.num ∧ c.num ≤ (boundsN c.kind).2) := by
  unfold errN at h
  split at h
  · cases h
  · rename_i u hu
    refine ⟨u, hu, ?_⟩
    split at h
    · cases h
    rename_i h1
    split at h
    · cases h
    rename_i h2
    split at h
    · cases h
    rename_i h3
    split at h
    · rename_i h4; exact absurd h h4
    rename_i h4
    split at h
    · rename_i h5; exact absurd h h5
    rename_i h5
    split at h
    · cases h
    rename_i h6
    split at h
    · cases h
    rename_i h7
    exact ⟨by simpa using h1, by simpa using h3, by simpa using h4, by simpa using h5, by simpa using h2, Decidable.of_not_not h6, Decidable.of_not_not h7⟩
theorem formedB_sign {c : CT} {u : Use} (h : formedB c u = true) (hs : u.s = false) : c.sign = tE := by
  unfold formedB spare at h
  simp only [hs, Bool.and_eq_true, Bool.not_eq_true', Bool.or_eq_false_iff] at h
  have := h.1.1.1.1.1.2
  simpa using this
mutual
theorem cmpC_zero : ∀ {c d : CT}, trE errN c = 0 → trE errN d = 0 → cmpC c d = 0 → c = d
  | .mk k n f s vs ws wi nu al, .mk k' n' f' s' vs' ws' wi' nu' al', hc, hd, h => by
    rw [cmpC_eq] at h
    have z := orL_zero h
    simp only [CT.kind, CT.name, CT.field, CT.sign, CT.vals, CT.whs, CT.within, CT.num, CT.args] at z
    have h1 := cmpI_zero (z (cmpI k k') (by simp))
    have h2 := cmpS_zero.1 (z (cmpS n n') (by simp))
    have h3 := cmpS_zero.1 (z (cmpS f f') (by simp))
    have h4 := cmpI_zero (z (cmpI (signNo s) (signNo s')) (by simp))
    have h5 := cmpL_zero (fun a _ b _ h => cmpV_zero h) (z (cmpL cmpV vs vs') (by simp))
    have h6 := z (cmpL cmpWh ws ws') (by simp)
    have h7 := cmpI_zero (z (cmpI wi wi') (by simp))
    have h8 := cmpI_zero (z (cmpI nu nu') (by simp))
    have h9 := z (cmpCs al al') (by simp)
    rw [trE_eq] at hc hd
    by_cases ec : errN (.mk k n f s vs ws wi nu al) = 0
    case neg => rw [if_pos ec] at hc; exact absurd hc ec
    by_cases ed : errN (.mk k' n' f' s' vs' ws' wi' nu' al') = 0
    case neg => rw [if_pos ed] at hd; exact absurd hd ed
    rw [if_neg (by simpa using ec)] at hc
    rw [if_neg (by simpa using ed)] at hd
    obtain ⟨u, hu, f1, s1, v1, w1, _⟩ := errN_parts ec
    obtain ⟨u', hu', f2, s2, v2, w2, _⟩ := errN_parts ed
    have hk : u = u' := by
      simp only [CT.kind] at hu hu'
      rw [h1, hu'] at hu
      exact (Option.some.inj hu).symm
    subst hk
    have hs : s = s' := by
      cases e : u.s with
      | true =>
        rw [e] at s1
        rw [Bool.true_and] at s1
        have : ¬ signNo s < 0 := of_decide_eq_false s1
        exact idxS_inj (k := 0) h4 this
      | false => exact (formedB_sign f1 e).trans (formedB_sign f2 e).symm
    have hw : ws = ws' := cmpL_zero (fun a ha b hb h => cmpWh_zero (errWs_all w1 a ha) h) h6
    have ha : al = al' := cmpCs_zero hc hd h9
    subst h1 h2 h3 hs h5 hw h7 h8 ha
    rfl
theorem cmpCs_zero : ∀ {al bs : List CT}, trsE errN al = 0 → trsE errN bs = 0 → cmpCs al bs = 0 → al = bs
  | [], [], _, _, _ => rfl
  | [], _ :: _, _, _, h => by simp [cmpCs] at h
  | _ :: _, [], _, _, h => by simp [cmpCs] at h
  | a :: al, b :: bs, ha, hb, h => by
    unfold cmpCs at h
    unfold trsE at ha hb
    by_cases e : cmpC a b = 0
    case neg => rw [if_pos e] at h; exact absurd h e
    rw [if_neg (by simpa using e)] at h
    by_cases ea : trE errN a = 0
    case neg => rw [if_pos ea] at ha; exact absurd ha ea
    by_cases eb : trE errN b = 0
    case neg => rw [if_pos eb] at hb; exact absurd hb eb
    rw [if_neg (by simpa using ea)] at ha
    rw [if_neg (by simpa using eb)] at hb
    rw [cmpC_zero ea eb e, cmpCs_zero ha hb h]
end

end Go.Proofs.YtadakbmoanbcgaaGreatDoorVc
-- CkMean2
namespace Go.Proofs.YtadakbmoanbcgaaGreatDoorVc
open Go.Proofs.Tryz (prog)
def upF (fs : List Fld) : Prop := fs.Pairwise fun a b => a.name.toList < b.name.toList
def val0 : Val := ⟨0, ByteArray.empty, 0⟩
theorem fieldOf_at {fs : List Fld} {n : ByteArray} {i : Nat} (hup : upF fs) (hA : ∀ j f, j < i → fs[j]? = some f → cmpS f.name n < 0) (hB : ∀ j f, i ≤ j → fs[j]? = some f → ¬ cmpS f.name n < 0) :
    fieldOf fs n = match fs[i]? with
      | some f => if cmpS f.name n = 0 then some f.val else none
      | none => none := by
  unfold fieldOf
  have none_ : (∀ f ∈ fs, f.name ≠ n) → fs.find? (fun f => decide (f.name = n)) = none := fun h => List.find?_eq_none.2 fun f hf => by simpa using h f hf
  have before : ∀ j f, j < i → fs[j]? = some f → f.name ≠ n := fun j f hj hf e => by
    have := hA j f hj hf
    rw [e, cmpS_zero.2 rfl] at this; omega
  cases hx : fs[i]? with
  | none =>
    simp only
    rw [none_]
    · rfl
    · intro f hf
      obtain ⟨j, hj, rfl⟩ := List.mem_iff_getElem.1 hf
      have := List.getElem?_eq_none_iff.1 hx
      exact before j _ (by omega) (List.getElem?_eq_getElem hj)
  | some f =>
    simp only
    by_cases e : cmpS f.name n = 0
    · rw [if_pos e]
      have hn := cmpS_zero.1 e
      have : fs.find? (fun f => decide (f.name = n)) = some f := by
        rw [List.find?_eq_some_iff_getElem]
        obtain ⟨hi, he⟩ := List.getElem?_eq_some_iff.1 hx
        exact ⟨by simpa using hn, i, hi, he, fun j hj => by simpa using before j _ hj (List.getElem?_eq_getElem _)⟩
      rw [this]; rfl
    · rw [if_neg e, none_]
      · rfl
      · intro g hg e2
        obtain ⟨j, hj, rfl⟩ := List.mem_iff_getElem.1 hg
        rcases Nat.lt_trichotomy j i with h | h | h
        · exact before j _ h (List.getElem?_eq_getElem hj) e2
        · subst h
          rw [List.getElem?_eq_getElem hj] at hx; cases hx
          exact e (cmpS_zero.2 e2)
        · have hp := pair_at (R := fun a b : Fld => a.name.toList < b.name.toList) hup h hx (List.getElem?_eq_getElem hj)
          rw [e2] at hp
          exact hB i f (Nat.le_refl _) hx (cmpS_neg.2 hp)
section
variable {Pm : Prim} {I : Calls} {Q : Post} {h : Heap} {TT : Heap → Prop}
theorem spec98 (hI : Closed' prog Pm I) {s : Sl} {fs : List Fld} {n : ByteArray} (hs : At h 4 s (rows fldC fs)) (hl : fs.length < 1000000) (hup : upF fs)
    (hQ : Q [.agg (valC ((fieldOf fs n).getD val0)), boo (fieldOf fs n).isSome] h) : I 98 [.one (.slice 4 s), str n] Q h := by
  refine hI.go _ _ (den98 I s n Q) ?_
  have ls : s.len = fs.length := hs.rowsLen fldC_length (by decide)
  refine spec123 hI hs hl hup fun i hi hA hB => ⟨_, _, rfl, ?_⟩
  rw [fieldOf_at hup hA hB] at hQ
  cases hx : fs[i]? with
  | none =>
    rw [hx] at hQ
    exact ifT_intro (fun _ => hQ) fun e => by cases e
  | some f =>
    rw [hx] at hQ
    simp only at hQ
    refine ifT_intro (fun e => ?_) fun e => ?_
    · have : ¬ cmpS f.name n = 0 := nd e
      rw [if_neg this] at hQ; exact hQ
    · have : cmpS f.name n = 0 := by simpa using e
      rw [if_pos this] at hQ
      have hlt := (List.getElem?_eq_some_iff.1 hx).1
      obtain ⟨bb, o, ha, hr⟩ := hs.lies (by rw [rows_length fldC_length]; omega)
      refine ⟨⟨by omega, by omega⟩, derefK_intro ha ⟨f.val.kind, f.val.text, f.val.num, ?_, hQ⟩⟩
      have h3 := rows_get fldC_length hx
      rw [rows_length fldC_length] at hr
      have h4 := read_part (j := i * 4 + 1) (m := 3) hr (by omega)
      rw [show o + ((i : Int)).toNat * 4 + 1 = o + (i * 4 + 1) by simp; omega, h4]
      have h5 : ((rows fldC fs).drop (i * 4 + 1)).take 3 = ((((rows fldC fs).drop (i * 4)).take 4).drop 1) := by
        rw [List.drop_take, List.drop_drop]
      rw [h5, h3]; rfl
theorem spec128 (hI : Closed' prog Pm I) {s : ByteArray} {n : Int} (hQ : Q [boo (holdsB s n)] h) : I 128 [str s, int n] Q h := by
  refine hI.go _ _ (den128 I s n Q) ?_
  unfold holdsB at hQ
  refine ifT_dec (fun e => ?_) fun e => ?_
  · rw [if_pos e] at hQ; exact hQ
  rw [if_neg e] at hQ
  refine ifT_dec (fun e => ?_) fun e => ?_
  · rw [if_pos e] at hQ; exact hQ
  rw [if_neg e] at hQ
  refine ifT_dec (fun e => ?_) fun e => ?_
  · rw [if_pos e] at hQ; exact hQ
  rw [if_neg e] at hQ
  refine ifT_dec (fun e => ?_) fun e => ?_
  · rw [if_pos e] at hQ; exact hQ
  rw [if_neg e] at hQ
  refine ifT_dec (fun e => ?_) fun e => ?_
  · rw [if_pos e] at hQ; exact hQ
  rw [if_neg e] at hQ
  exact hQ
/-- The first that is not nothing. -/
theorem spec68L (hI : Closed' prog Pm I) {s : Sl} {zs : List Int} (hs : At h 1 s (ints zs)) (hl : zs.length < 1000000) (hQ : Q [int (orL zs)] h) : I 143 [.one (.slice 1 s)] Q h := by
  refine hI.go _ _ (den143 I s Q) ?_
  have ls : s.len = zs.length := by rw [hs.len1, ints_length]
  refine loopK_intro (fun (n : Int) h' m => h' = h ∧ ∃ i : Nat, i ≤ zs.length ∧ n = i ∧ zs.length - i = m ∧ orL zs = orL (zs.drop i)) zs.length ⟨rfl, 0, by omega, rfl, rfl, rfl⟩ ?_
  rintro n h' m ⟨rfl, i, hi, rfl, rfl, he⟩
  refine ifT_dec (fun hlt => ⟨⟨by omega, hlt⟩, ?_⟩) fun hge => ?_
  · have hx := List.getElem?_eq_getElem (show i < zs.length by omega)
    have hd : zs.drop i = zs[i]'(by omega) :: zs.drop (i + 1) := List.drop_eq_getElem_cons (by omega)
    generalize zs[i] = x at hx hd
    rw [hd] at he
    refine hs.cell (ints_get hx) fun bb oo hr => ⟨x, hr, ifT_intro (fun e => ?_) fun e => ?_⟩
    · rw [show orL (x :: zs.drop (i + 1)) = x from if_pos (nd e)] at he
      rw [he] at hQ; exact hQ
    · rw [orL, if_neg (nd' e)] at he
      exact ⟨zs.length - (i + 1), by omega, rfl, i + 1, by omega, by rw [w64] <;> omega, rfl, he⟩
  · have : i = zs.length := by omega
    subst this
    rw [List.drop_length] at he
    rw [he] at hQ; exact hQ
theorem lit_ints {i : Nat} {h1 : Heap} {zs : List Int} {n : Nat} (he : h1 = h.set i (.cells false (ints zs))) (hn : n = zs.length) : At h1 1 ⟨some (i, 0), n⟩ (ints zs) := by
  subst hn
  refine ⟨by simp [ints_length], .inr ?_⟩
  show h1.read i 0 (zs.length * 1) = _
  rw [he, read_block (Heap.set_same ..) (by simp [ints_length])]
  simp [ints_length]
  exact List.take_of_length_le (by rw [ints_length]; omega)
/-- .. of a literal. -/
theorem or_lit (hI : Closed' prog Pm I) (zs : List Int) (hl : zs.length < 1000000) {F : Int → T} (hF : ∀ h', Ext h h' → F (orL zs) h') :
    newK (.cells false (ints zs)) (fun i h7 => I 143 [.one (.slice 1 ⟨some (i, 0), zs.length⟩)] (fun cs h9 => ∃ n : Int, cs = [int n] ∧ F n h9) h7) h :=
  newK_intro fun i h1 hn he => spec68L hI (lit_ints he rfl) hl ⟨_, rfl, hF h1 (he ▸ Ext.new hn)⟩
theorem spec120 (hI : Closed' prog Pm I) {a b : Val} {s : ByteArray} (hQ : ∀ h', Ext h h' → Q [boo (comparesB a s b)] h') : I 120 [.agg (valC a), str s, .agg (valC b)] Q h := by
  refine hI.go _ _ (den120 I a.kind a.text a.num s b.kind b.text b.num Q) ?_
  unfold comparesB at hQ
  refine ifT_dec (fun e => ?_) fun e => ?_
  · rw [decide_eq_true e] at hQ
    refine spec125 hI ⟨_, rfl, spec129 hI ⟨_, rfl, or_lit hI [cmpS a.text b.text, cmpI a.num b.num] (by simp) fun h1 x1 => spec128 hI ⟨_, rfl, ?_⟩⟩⟩
    exact hQ h1 x1
  · rw [decide_eq_false e] at hQ
    exact hQ h (Ext.refl h)
theorem spec122 (hI : Closed' prog Pm I) {v w : Val} {i o : Nat} (hr : h.read i o 3 = some (valC v)) (hQ : ∀ h', Ext h h' → Q [boo (comparesB v tEq w)] h') : I 122 [.agg (valC w), .one (.ptr (some (i, o)))] Q h := by
  refine hI.go _ _ (den122 I w.kind w.text w.num i o Q) ?_
  exact ⟨v.kind, v.text, v.num, hr, spec120 hI (a := v) (b := w) fun h1 x1 => ⟨_, rfl, hQ h1 x1⟩⟩
theorem spec121 (hI : Closed' prog Pm I) {s : Sl} {vs : List Val} {v : Val} {i o : Nat} (hs : At h 3 s (rows valC vs)) (hl : vs.length < 1000000) (hr : h.read i o 3 = some (valC v))
    (hQ : ∀ h', Ext h h' → Q [boo (vs.any fun w => comparesB v tEq w)] h') : I 121 [.one (.slice 3 s), .one (.func (some (122, [(i, o)])))] Q h := by
  refine hI.go _ _ (den121 I s (some (122, [(i, o)])) Q) ?_
  refine hI.go _ _ (den144 I s (some (122, [(i, o)])) _) ?_
  have ls := hs.rowsLen valC_length (by decide)
  refine loopK_intro (fun (n : Int) h' m => Ext h h' ∧ ∃ k : Nat, k ≤ vs.length ∧ n = k ∧ vs.length - k = m ∧ ((vs.take k).any fun w => comparesB v tEq w) = false) vs.length ⟨Ext.refl h, 0, by omega, rfl, rfl, by simp⟩ ?_
  rintro n h' m ⟨x1, k, hk, rfl, rfl, he⟩
  refine ifT_dec (fun hlt => ⟨⟨by omega, hlt⟩, ?_⟩) fun hge => ?_
  · have hx := List.getElem?_eq_getElem (show k < vs.length by omega)
    generalize vs[k] = w at hx
    refine (x1.at_ hs).row valC_length (by decide) hx fun bb oo hw => ⟨w.kind, w.text, w.num, hw, ?_⟩
    refine spec122 hI (w := w) (x1.read hr) fun h2 x2 => ⟨_, rfl, ifT_intro (fun e => ⟨_, rfl, ?_⟩) fun e => ?_⟩
    · have := hQ h2 (x1.trans x2)
      rw [show (vs.any fun w => comparesB v tEq w) = true from List.any_eq_true.2 ⟨w, List.mem_of_getElem? hx, e⟩] at this
      rw [decide_eq_true (by omega)]; exact this
    · refine ⟨vs.length - (k + 1), by omega, x1.trans x2, k + 1, by omega, by rw [w64] <;> omega, rfl, ?_⟩
      rw [any_take_step hx, he, e]; rfl
  · have : k = vs.length := by omega
    subst this
    rw [List.take_length] at he
    have := hQ h' x1
    rw [he] at this
    exact ⟨_, rfl, this⟩
theorem spec93 (hI : Closed' prog Pm I) {c : CT} {sv sw sa : Sl} (hQ : Q [boo (decide (6 ≤ c.kind ∧ c.kind ≤ 10))] h) : I 93 [.agg (condC c sv sw sa)] Q h := by
  refine hI.go _ _ (den93 I c.kind c.name c.field c.sign sv sw c.within c.num sa Q) ?_
  exact spec48 hI ⟨_, rfl, hQ⟩
theorem spec96 (hI : Closed' prog Pm I) {c : CT} {sv sw sa : Sl} (hQ : Q [boo (decide (11 ≤ c.kind ∧ c.kind ≤ 14))] h) : I 96 [.agg (condC c sv sw sa)] Q h := by
  refine hI.go _ _ (den96 I c.kind c.name c.field c.sign sv sw c.within c.num sa Q) ?_
  exact spec48 hI ⟨_, rfl, hQ⟩
theorem spec32 (hI : Closed' prog Pm I) {s t : ByteArray} (hQ : Q [boo (preS s t)] h) : I 32 [str s, str t] Q h := by
  refine hI.go _ _ (den32 I s t Q) ?_
  refine hI.go _ _ (den58 I s t _) ?_
  unfold preS at hQ
  refine ifT_dec (fun e => ⟨by omega, ?_⟩) fun e => ?_
  · rw [decide_eq_true (show t.size ≤ s.size by omega)] at hQ
    exact ⟨_, rfl, hQ⟩
  · rw [decide_eq_false (show ¬ t.size ≤ s.size by omega)] at hQ
    exact ⟨_, rfl, hQ⟩
end
end Go.Proofs.YtadakbmoanbcgaaGreatDoorVc
-- CkMean3
namespace Go.Proofs.YtadakbmoanbcgaaGreatDoorVc
open Go.Proofs.Tryz (prog)
theorem firstL_at {c : CT} {l : List Evt} {i : Nat} {e : Evt} {last : Int} (hx : l[i]? = some e) : firstL c (l.drop i) last = if e.name = c.field ∧ last ≥ 0 ∧ (c.within = 0 ∨ IntKind.i64.wrap (e.at_ - last) ≤ c.within) then e.at_ else firstL c (l.drop (i + 1)) (if e.name = c.name then e.at_ else last) := by
  obtain ⟨hi, rfl⟩ := List.getElem?_eq_some_iff.1 hx
  rw [List.drop_eq_getElem_cons hi]; rfl
theorem fieldOf_mem {fs : List Fld} {n : ByteArray} {v : Val} (h : fieldOf fs n = some v) : ∃ f ∈ fs, f.val = v := by
  unfold fieldOf at h
  cases e : fs.find? (fun f => decide (f.name = n)) with
  | none => rw [e] at h; cases h
  | some f => rw [e] at h; cases h; exact ⟨f, List.mem_of_find?_eq_some e, rfl⟩
/-- A record of which one can ask. -/
structure RowF (h : Heap) (s : Sl) (fs : List Fld) : Prop where
  at_ : At h 4 s (rows fldC fs)
  len : fs.length < 1000000
  up : upF fs
  size : ∀ f ∈ fs, f.val.text.size ≤ 1000000
theorem RowF.ext {h h' : Heap} {s : Sl} {fs : List Fld} (r : RowF h s fs) (x : Ext h h') : RowF h' s fs := ⟨x.at_ r.at_, r.len, r.up, r.size⟩
section
variable {Pm : Prim} {I : Calls} {Q : Post} {h : Heap} {TT : Heap → Prop}
theorem At.row0 {α : Type} {f : α → List Cell} {k j m : Nat} {s : Sl} {a : α} {xs : List α} {g : Nat → Nat → T} (hf : ∀ a, (f a).length = k) (hk : 0 < k) (hs : At h k s (rows f (a :: xs))) (hj : j + m ≤ k)
    (hg : ∀ bb o, h.read bb (o + j) m = some (((f a).drop j).take m) → g bb o h) : derefK s.a g h := by
  have hl := hf a
  obtain ⟨bb, o, ha, hr⟩ := hs.lies (by rw [rows_length hf]; simp only [List.length_cons, Nat.add_mul]; omega)
  refine derefK_intro ha (hg bb o ?_)
  rw [rows_length hf] at hr
  rw [read_part hr (by simp only [List.length_cons, Nat.add_mul]; omega), rows_cons, List.drop_append_of_le_length (by omega), List.take_append_of_le_length (by simp; omega)]
theorem spec94 (hI : Closed' prog Pm I) (hL : LibI I TT) (hT : TT h) {c : CT} {sv sw sa sr : Sl} {fs : List Fld} (hv : At h 3 sv (rows valC c.vals)) (hvl : c.vals.length < 1000000) (hr : RowF h sr fs)
    (hk : c.kind = 7 ∨ c.kind = 9 ∨ c.kind = 10 → c.vals ≠ []) (h6 : 6 ≤ c.kind ∧ c.kind ≤ 10) (hQ : ∀ h', Ext h h' → Q [boo (ofFieldB c fs)] h') : I 94 [.agg (condC c sv sw sa), .one (.slice 4 sr)] Q h := by
  refine hI.go _ _ (den94 I c.kind c.name c.field c.sign sv sw c.within c.num sa sr Q) ?_
  unfold ofFieldB at hQ
  refine spec98 hI hr.at_ hr.len hr.up ⟨_, _, _, _, rfl, newK_intro fun i1 h1 hn1 he1 => ?_⟩
  have hc1 : h1 i1 = some (.cells false [.int .i64 0, .str ByteArray.empty, .int .i64 0]) := by rw [he1]; exact Heap.set_same ..
  refine storeK_whole (ns := valC ((fieldOf fs c.name).getD val0)) hc1 rfl ?_
  have x2 : Ext h (h1.set i1 (.cells false (valC ((fieldOf fs c.name).getD val0)))) := by rw [he1, set_set]; exact Ext.new hn1
  have hrd : (h1.set i1 (.cells false (valC ((fieldOf fs c.name).getD val0)))) i1 = some (.cells false (valC ((fieldOf fs c.name).getD val0))) := Heap.set_same ..
  have hval : ∀ v, fieldOf fs c.name = some v → v.text.size ≤ 1000000 := fun v hv => by
    obtain ⟨f, hf, rfl⟩ := fieldOf_mem hv
    exact hr.size f hf
  generalize (h1.set i1 (.cells false (valC ((fieldOf fs c.name).getD val0)))) = h2 at x2 hrd
  cases e : fieldOf fs c.name with
  | none =>
    rw [e] at hQ hrd
    exact ifT_intro (fun _ => hQ h2 x2) fun e => by cases e
  | some v =>
    rw [e] at hQ hrd
    have hvs := hval v e
    simp only [Option.getD_some, Option.isSome_some] at hQ hrd ⊢
    refine ifT_intro (fun e => by cases e) fun _ => ?_
    have rd3 : h2.read i1 0 3 = some (valC v) := by rw [read_block hrd (show 0 + 3 ≤ 3 by decide)]; rfl
    have rd0 : h2.read i1 0 1 = some [.int .i64 v.kind] := read_cell hrd rfl
    have rd1 : h2.read i1 1 1 = some [.str v.text] := read_cell hrd rfl
    refine ifT_dec (fun e6 => ?_) fun e6 => ?_
    · simp only [if_pos e6] at hQ; exact hQ h2 x2
    simp only [if_neg e6] at hQ
    have ls := (x2.at_ hv).rowsLen valC_length (by decide)
    refine ifT_dec (fun e7 => ?_) fun e7 => ?_
    · simp only [if_pos e7] at hQ
      have hne := hk (.inl e7)
      obtain ⟨w, ws, hvals⟩ := List.exists_cons_of_ne_nil hne
      rw [hvals] at hv ls hQ
      refine ⟨v.kind, v.text, v.num, rd3, ⟨by omega, by rw [ls]; simp only [List.length_cons]; omega⟩, (x2.at_ hv).row0 (j := 0) (m := 3) valC_length (by decide) (by decide) fun bb o hw => ⟨w.kind, w.text, w.num, hw, ?_⟩⟩
      exact spec120 hI (a := v) (b := w) fun h3 x3 => ⟨_, rfl, hQ h3 (x2.trans x3)⟩
    simp only [if_neg e7] at hQ
    refine ifT_dec (fun e8 => ?_) fun e8 => ?_
    · simp only [if_pos e8] at hQ
      exact spec121 hI (v := v) (x2.at_ hv) hvl rd3 fun h3 x3 => ⟨_, rfl, hQ h3 (x2.trans x3)⟩
    simp only [if_neg e8] at hQ
    have hne := hk (by omega)
    obtain ⟨w, ws, hvals⟩ := List.exists_cons_of_ne_nil hne
    rw [hvals] at hv ls hQ
    simp only at hQ
    have hlt : (((0 : Int) ≤ (0 : Int)) ∧ 0 < (↑sv.len : Int)) := ⟨by omega, by rw [ls]; simp only [List.length_cons]; omega⟩
    refine ifT_dec (fun e9 => ?_) fun e9 => ?_
    · simp only [if_pos e9] at hQ
      refine joinK_intro (fun b h' => h' = h2 ∧ b = (decide (v.kind = 1) && preS v.text w.text)) ?_ fun jk hjk => ⟨v.kind, rd0, ifT_dec (fun e1 => ?_) fun e1 => hjk _ _ ⟨rfl, by rw [decide_eq_false e1]; rfl⟩⟩
      · rintro b _ ⟨rfl, rfl⟩
        exact hQ _ x2
      · refine ⟨v.text, rd1, hlt, (x2.at_ hv).row0 (j := 1) (m := 1) valC_length (by decide) (by decide) fun bb o hw => ⟨w.text, hw, ?_⟩⟩
        exact spec32 hI ⟨_, rfl, hjk _ _ ⟨rfl, by rw [decide_eq_true e1]; rfl⟩⟩
    · simp only [if_neg e9] at hQ
      refine ⟨v.kind, rd0, ifT_dec (fun e1 => ?_) fun e1 => ?_⟩
      · rw [decide_eq_true e1] at hQ
        refine ⟨v.text, rd1, hlt, (x2.at_ hv).row0 (j := 1) (m := 1) valC_length (by decide) (by decide) fun bb o hw => ⟨w.text, hw, ?_⟩⟩
        exact hL.has (hL.ext x2 hT) hvs ⟨_, rfl, hQ h2 x2⟩
      · rw [decide_eq_false e1] at hQ
        exact hQ h2 x2
/-- One event before another one. -/
theorem spec95 (hI : Closed' prog Pm I) {c : CT} {sv sw sa se : Sl} {evs : List (Evt × Sl)} (hs : At h 6 se (rows evP evs)) (hl : evs.length < 1000000) (hQ : Q [int (firstL c (evs.map (·.1)) (-1))] h) : I 95 [.agg (condC c sv sw sa), .one (.slice 6 se)] Q h := by
  refine hI.go _ _ (den95 I c.kind c.name c.field c.sign sv sw c.within c.num sa se Q) ?_
  have ls := hs.rowsLen evP_length (by decide)
  refine loopK_intro (fun (p : Int × Int) h' m => h' = h ∧ ∃ (i : Nat) (last : Int), i ≤ evs.length ∧ p = (last, (i : Int)) ∧ evs.length - i = m ∧ firstL c (evs.map (·.1)) (-1) = firstL c ((evs.map (·.1)).drop i) last) evs.length ⟨rfl, 0, -1, by omega, rfl, rfl, rfl⟩ ?_
  intro p h' m hp
  obtain ⟨rfl, i, last, hi, hp, hm, he⟩ := hp
  subst hp
  subst hm
  dsimp only [uncur]
  refine ifT_dec (fun hlt => ⟨⟨by omega, hlt⟩, ?_⟩) fun hge => ?_
  · have hx := List.getElem?_eq_getElem (show i < evs.length by omega)
    generalize evs[i] = p at hx
    have hx2 : (evs.map (·.1))[i]? = some p.1 := by rw [List.getElem?_map, hx]; rfl
    rw [firstL_at hx2] at he
    refine hs.row evP_length (by decide) hx fun bb oo hr => ⟨p.1.id, p.1.name, p.1.at_, p.1.whoK, p.1.whoT, p.2, hr, ?_⟩
    have next : ∀ z, firstL c (evs.map (·.1)) (-1) = firstL c ((evs.map (·.1)).drop (i + 1)) z → ∃ m', m' < evs.length - i ∧ h' = h' ∧ ∃ (k : Nat) (y : Int), k ≤ evs.length ∧ (z, IntKind.i64.wrap ((i : Int) + 1)) = (y, (k : Int)) ∧ evs.length - k = m' ∧ firstL c (evs.map (·.1)) (-1) = firstL c ((evs.map (·.1)).drop k) y := fun z hz =>
      ⟨evs.length - (i + 1), by omega, rfl, i + 1, z, by omega, by rw [show IntKind.i64.wrap ((i : Int) + 1) = ((i + 1 : Nat) : Int) by rw [w64] <;> omega], rfl, hz⟩
    refine ifT_dec (fun e1 => ifT_dec (fun e2 => ifT_dec (fun e3 => ?_) fun e3 => ifT_dec (fun e4 => ?_) fun e4 => ?_) fun e2 => ?_) fun e1 => ?_
    · rw [if_pos ⟨e1, e2, .inl e3⟩] at he
      rw [he] at hQ; exact hQ
    · rw [if_pos ⟨e1, e2, .inr e4⟩] at he
      rw [he] at hQ; exact hQ
    · rw [if_neg (by rintro ⟨_, _, a | a⟩ <;> contradiction)] at he
      refine ifT_dec (fun e5 => ?_) fun e5 => ?_
      · rw [if_pos e5] at he; exact next _ he
      · rw [if_neg e5] at he; exact next _ he
    · rw [if_neg (by rintro ⟨_, a, _⟩; contradiction)] at he
      refine ifT_dec (fun e5 => ?_) fun e5 => ?_
      · rw [if_pos e5] at he; exact next _ he
      · rw [if_neg e5] at he; exact next _ he
    · rw [if_neg (by rintro ⟨a, _⟩; contradiction)] at he
      refine ifT_dec (fun e5 => ?_) fun e5 => ?_
      · rw [if_pos e5] at he; exact next _ he
      · rw [if_neg e5] at he; exact next _ he
  · have : i = evs.length := by omega
    subst this
    have e0 : (evs.map (·.1)).drop evs.length = [] := List.drop_eq_nil_of_le (by simp)
    rw [e0] at he
    rw [he] at hQ; exact hQ
/-- The comparisons of an event. -/
theorem spec97 (hI : Closed' prog Pm I) {e : Evt} {sf sw : Sl} {ws : List Whr} (hf : At h 4 sf (rows fldC e.fields)) (hfl : e.fields.length < 1000000) (hup : upF e.fields) (hs : At h 5 sw (rows whrC ws)) (hl : ws.length < 1000000)
    (hQ : ∀ h', Ext h h' → Q [boo (matchesB e.fields ws)] h') : I 97 [.agg (evtC e sf), .one (.slice 5 sw)] Q h := by
  refine hI.go _ _ (den97 I e.id e.name e.at_ e.whoK e.whoT sf sw Q) ?_
  have ls := hs.rowsLen whrC_length (by decide)
  refine loopK_intro (fun (n : Int) h' m => Ext h h' ∧ ∃ i : Nat, i ≤ ws.length ∧ n = i ∧ ws.length - i = m ∧ (ws.take i).all (matchB e.fields) = true) ws.length ⟨Ext.refl h, 0, by omega, rfl, rfl, rfl⟩ ?_
  rintro n h' m ⟨x1, i, hi, rfl, rfl, he⟩
  refine ifT_dec (fun hlt => ⟨⟨by omega, hlt⟩, ?_⟩) fun hge => ?_
  · have hx := List.getElem?_eq_getElem (show i < ws.length by omega)
    generalize ws[i] = w at hx
    have no_ : ∀ g, matchB e.fields w = false → Ext h g → Q [boo false] g := fun g h1 x => by
      have := hQ g x
      rw [show matchesB e.fields ws = false from List.all_eq_false.2 ⟨w, List.mem_of_getElem? hx, by simp [h1]⟩] at this
      exact this
    refine (x1.at_ hs).row whrC_length (by decide) hx fun bb oo hr => ⟨w.field, w.sign, w.val.kind, w.val.text, w.val.num, hr, ?_⟩
    refine spec98 hI (x1.at_ hf) hfl hup ⟨_, _, _, _, rfl, ?_⟩
    cases ev : fieldOf e.fields w.field with
    | none =>
      exact ifT_intro (fun _ => no_ _ (by unfold matchB; rw [ev]) x1) fun e => by cases e
    | some v =>
      have em : matchB e.fields w = comparesB v w.sign w.val := by unfold matchB; rw [ev]
      simp only [Option.getD_some, Option.isSome_some]
      refine ifT_intro (fun e => by cases e) fun _ => spec120 hI (a := v) (b := w.val) fun h2 x2 => ⟨_, rfl, ifT_intro (fun e1 => ?_) fun e1 => ?_⟩
      · exact no_ _ (by rw [em]; simpa using e1) (x1.trans x2)
      · refine ⟨ws.length - (i + 1), by omega, x1.trans x2, i + 1, by omega, by rw [w64] <;> omega, rfl, ?_⟩
        rw [take_snoc hx, List.all_append, he]
        simpa [em] using e1
  · have : i = ws.length := by omega
    subst this
    rw [List.take_length] at he
    have := hQ h' x1
    rw [show matchesB e.fields ws = true from he] at this
    exact this
end
end Go.Proofs.YtadakbmoanbcgaaGreatDoorVc
-- CkNodeT
namespace Go.Proofs.YtadakbmoanbcgaaGreatDoorVc
/-- What B tells of h, and what is new since h. -/
def Up (B h h' : Heap) : Heap := fun j => match h j with
  | none => h' j
  | some _ => B j
section
variable {B B2 h h' h2 : Heap}
theorem Up.in_ {j : Nat} (hn : h j = none) : Up B h h' j = h' j := by unfold Up; rw [hn]
theorem Up.out {j : Nat} {x : Obj} (hn : h j = some x) : Up B h h' j = B j := by unfold Up; rw [hn]
/-- What B tells stays told. -/
theorem Up.base (e : Ext B h) : Ext B (Up B h h') := fun j x hx => by
  rw [Up.out (e _ _ hx)]; exact hx
/-- What is told is so. -/
theorem Up.real (e : Ext B h) (x : Ext h h') : Ext (Up B h h') h' := fun j y hy => by
  cases hh : h j with
  | none => rw [Up.in_ hh] at hy; exact hy
  | some z => rw [Up.out hh] at hy; exact x _ _ (e _ _ hy)
theorem Up.more (x : Ext h' h2) : Ext (Up B h h') (Up B h h2) := fun j y hy => by
  cases hh : h j with
  | none => rw [Up.in_ hh] at hy ⊢; exact x _ _ hy
  | some z => rw [Up.out hh] at hy ⊢; exact hy
/-- What a call in between has told. -/
theorem Up.call (e : Ext B h) (x : Ext h h') (hb : ∀ j y, h' j = none → h2 j = some y → B2 j = some y) : Ext (Up B h' h2) (Up B h B2) := fun j y hy => by
  cases hh : h' j with
  | none =>
    have h0 : h j = none := x.none hh
    rw [Up.in_ hh] at hy
    rw [Up.in_ h0]; exact hb j y hh hy
  | some z =>
    rw [Up.out hh] at hy
    rw [Up.out (e _ _ hy)]; exact hy
theorem Up.nw : Ext (Nw h h') (Up B h h') := fun j y hy => by
  obtain ⟨a, b⟩ := Nw_get hy
  rw [Up.in_ a]; exact b
theorem Up.ownS {L : List Ow} (o : Owns h h' L) {sz : Nat} {s : Sl} {cs : List Cell} (hm : (sz, s, cs) ∈ L) : AtS (Up B h h') sz s cs := by
  refine (o.all _ hm).sl.stay fun j b x ha hx => ?_
  rcases (o.all _ hm).2 with ⟨b2, _⟩ | ⟨q, b2, b3, _⟩
  · simp only at b2; rw [b2] at ha; cases ha
  · simp only at b2
    rw [b2] at ha; cases ha
    rw [Up.in_ b3]; exact hx
theorem Up.own {L : List Ow} (o : Owns h h' L) {sz : Nat} {s : Sl} {cs : List Cell} (hm : (sz, s, cs) ∈ L) : At (Up B h h') sz s cs := (Up.ownS o hm).at_
theorem Up.blk {L : List Ow} (o : Owns h h' L) {sz i n : Nat} {cs : List Cell} (hm : (sz, ⟨some (i, 0), n⟩, cs) ∈ L) : Up B h h' i = some (.cells false cs) := by
  rcases (o.all _ hm).2 with ⟨b2, _⟩ | ⟨q, b2, b3, b4⟩
  · cases b2
  · cases b2; rw [Up.in_ b3]; exact b4
theorem Nw.ownS0 {L : List Ow} (o : Owns h h' L) {sz : Nat} {s : Sl} {cs : List Cell} (hm : (sz, s, cs) ∈ L) : AtS (Nw h h') sz s cs := by
  refine (o.all _ hm).sl.stay fun j b x ha hx => ?_
  rcases (o.all _ hm).2 with ⟨b2, _⟩ | ⟨q, b2, b3, _⟩
  · simp only at b2; rw [b2] at ha; cases ha
  · simp only at b2
    rw [b2] at ha; cases ha
    rw [Nw_in b3]; exact hx
/-- What is new since a later moment is new. -/
theorem Nw.later (x : Ext h h2) : Ext (Nw h2 h') (Nw h h') := Nw.mono fun j hj => x.none hj
theorem Nw.grow (x : Ext h' h2) : Ext (Nw h h') (Nw h h2) := fun j y hy => by
  obtain ⟨a, b⟩ := Nw_get hy
  rw [Nw_in a]; exact x _ _ b
end
def ptrs (l : List Nat) : List Cell := l.map fun b => .ptr (some (b, 0))
theorem ptrs_length (l : List Nat) : (ptrs l).length = l.length := by simp [ptrs]
theorem ptrs_get {xs : List Nat} {i n : Nat} (h : xs[i]? = some n) : (ptrs xs)[i]? = some (.ptr (some (n, 0))) := by unfold ptrs; rw [List.getElem?_map, h]; rfl
theorem ptrs_snoc (xs : List Nat) (n : Nat) : ptrs (xs ++ [n]) = ptrs xs ++ [.ptr (some (n, 0))] := by simp [ptrs]
/-- What a node keeps of the record and the events. -/
structure NodeV (h : Heap) (fs : List Fld) (l : List Evt) (c : CT) (fx : Bool) (st ss : Sl) (fi : Int) : Prop where
  fix : 6 ≤ c.kind → c.kind ≤ 10 → fx = ofFieldB c fs
  fst : c.kind = 14 → fi = firstL c l (-1)
  tms : c.kind = 11 ∨ c.kind = 12 ∨ c.kind = 13 → At h 1 st (ints (timesL c l)) ∧ At h 1 ss (ints (sumsOf c l))
  emp : ¬ (c.kind = 11 ∨ c.kind = 12 ∨ c.kind = 13) → st.len = 0
theorem NodeV.ext {h h' : Heap} {fs : List Fld} {l : List Evt} {c : CT} {fx : Bool} {st ss : Sl} {fi : Int} (n : NodeV h fs l c fx st ss fi) (x : Ext h h') : NodeV h' fs l c fx st ss fi := ⟨n.fix, n.fst, fun e => ⟨x.at_ (n.tms e).1, x.at_ (n.tms e).2⟩, n.emp⟩
def nodeC (c : CT) (sv sw sa sk : Sl) (fx : Bool) (st ss : Sl) (fi : Int) : List Cell := condC c sv sw sa ++ [.slice 1 sk, .bool fx, .slice 1 st, .slice 1 ss, .int .i64 fi]
mutual
/-- A node. -/
def NodeAt (h : Heap) (fs : List Fld) (l : List Evt) : CT → Nat → Prop
  | .mk k n f s vs ws wi nu al, b => ∃ (sv sw sa sk : Sl) (fx : Bool) (st ss : Sl) (fi : Int) (ps : List Nat), h b = some (.cells false (nodeC (.mk k n f s vs ws wi nu al) sv sw sa sk fx st ss fi)) ∧
      CondAt h (.mk k n f s vs ws wi nu al) (condC (.mk k n f s vs ws wi nu al) sv sw sa) ∧ At h 1 sk (ptrs ps) ∧ NodeV h fs l (.mk k n f s vs ws wi nu al) fx st ss fi ∧ NodesAt h fs l al ps
def NodesAt (h : Heap) (fs : List Fld) (l : List Evt) : List CT → List Nat → Prop
  | [], [] => True
  | a :: al, p :: ps => NodeAt h fs l a p ∧ NodesAt h fs l al ps
  | _, _ => False
end

theorem NodeAt.parts {h : Heap} {fs : List Fld} {l : List Evt} {c : CT} {b : Nat} (H : NodeAt h fs l c b) : ∃ (sv sw sa sk : Sl) (fx : Bool) (st ss : Sl) (fi : Int) (ps : List Nat), h b = some (.cells false (nodeC c sv sw sa sk fx st ss fi)) ∧
    CondAt h c (condC c sv sw sa) ∧ At h 1 sk (ptrs ps) ∧ NodeV h fs l c fx st ss fi ∧ NodesAt h fs l c.args ps := by
  cases c
  unfold NodeAt at H
  exact H
theorem NodeAt.make {h : Heap} {fs : List Fld} {l : List Evt} {c : CT} {b : Nat} {sv sw sa sk : Sl} {fx : Bool} {st ss : Sl} {fi : Int} {ps : List Nat} (h1 : h b = some (.cells false (nodeC c sv sw sa sk fx st ss fi))) (h2 : CondAt h c (condC c sv sw sa))
    (h3 : At h 1 sk (ptrs ps)) (h4 : NodeV h fs l c fx st ss fi) (h5 : NodesAt h fs l c.args ps) : NodeAt h fs l c b := by
  cases c
  unfold NodeAt
  exact ⟨sv, sw, sa, sk, fx, st, ss, fi, ps, h1, h2, h3, h4, h5⟩
mutual
theorem NodeAt.ext {h h' : Heap} {fs : List Fld} {l : List Evt} (e : Ext h h') : ∀ {c : CT} {b : Nat}, NodeAt h fs l c b → NodeAt h' fs l c b
  | .mk k n f s vs ws wi nu al, b, H => by
    unfold NodeAt at H ⊢
    obtain ⟨sv, sw, sa, sk, fx, st, ss, fi, ps, h1, h2, h3, h4, h5⟩ := H
    exact ⟨sv, sw, sa, sk, fx, st, ss, fi, ps, e _ _ h1, CondAt.ext e h2, e.at_ h3, h4.ext e, NodesAt.ext e h5⟩
theorem NodesAt.ext {h h' : Heap} {fs : List Fld} {l : List Evt} (e : Ext h h') : ∀ {al : List CT} {ps : List Nat}, NodesAt h fs l al ps → NodesAt h' fs l al ps
  | [], [], _ => by unfold NodesAt; trivial
  | a :: al, r :: rs, H => by
    unfold NodesAt at H ⊢
    exact ⟨NodeAt.ext e H.1, NodesAt.ext e H.2⟩
  | [], _ :: _, H => by unfold NodesAt at H; exact H.elim
  | _ :: _, [], H => by unfold NodesAt at H; exact H.elim
end

theorem NodesAt.nil (h : Heap) (fs : List Fld) (l : List Evt) : NodesAt h fs l [] [] := by unfold NodesAt; trivial
theorem NodesAt.len {h : Heap} {fs : List Fld} {l : List Evt} : ∀ {al : List CT} {ps : List Nat}, NodesAt h fs l al ps → al.length = ps.length
  | [], [], _ => rfl
  | a :: al, r :: rs, H => by
    unfold NodesAt at H
    simp [NodesAt.len H.2]
  | [], _ :: _, H => by unfold NodesAt at H; exact H.elim
  | _ :: _, [], H => by unfold NodesAt at H; exact H.elim
theorem NodesAt.get {h : Heap} {fs : List Fld} {l : List Evt} : ∀ {al : List CT} {ps : List Nat} {i : Nat} {a : CT}, NodesAt h fs l al ps → al[i]? = some a → ∃ b, ps[i]? = some b ∧ NodeAt h fs l a b
  | a :: al, r :: rs, 0, b, H, hi => by
    unfold NodesAt at H
    simp at hi; subst hi; exact ⟨r, rfl, H.1⟩
  | a :: al, r :: rs, i + 1, b, H, hi => by
    unfold NodesAt at H
    exact NodesAt.get (i := i) H.2 (by simpa using hi)
  | [], _, i, _, _, hi => by simp at hi
  | a :: al, [], _, _, H, _ => by unfold NodesAt at H; exact H.elim
theorem NodesAt.append {h : Heap} {fs : List Fld} {l : List Evt} : ∀ {al : List CT} {ps : List Nat} {a : CT} {b : Nat}, NodesAt h fs l al ps → NodeAt h fs l a b → NodesAt h fs l (al ++ [a]) (ps ++ [b])
  | [], [], a, r, _, H => by unfold NodesAt; exact ⟨H, by unfold NodesAt; trivial⟩
  | b :: al, q :: rs, a, r, H, H2 => by
    unfold NodesAt at H
    show NodesAt h fs l (b :: (al ++ [a])) (q :: (rs ++ [r]))
    unfold NodesAt
    exact ⟨H.1, NodesAt.append H.2 H2⟩
  | [], _ :: _, _, _, H, _ => by unfold NodesAt at H; exact H.elim
  | _ :: _, [], _, _, H, _ => by unfold NodesAt at H; exact H.elim
/-- Events of which one can ask. -/
structure RowE (h : Heap) (s : Sl) (evs : List (Evt × Sl)) : Prop where
  at_ : At h 6 s (rows evP evs)
  flds : ∀ p ∈ evs, RowF h p.2 p.1.fields
  len : evs.length < 1000000
  order : evs.Pairwise fun a b => a.1.at_ ≤ b.1.at_
  time : ∀ p ∈ evs, 0 ≤ p.1.at_ ∧ p.1.at_ ≤ 4321439
theorem RowE.ext {h h' : Heap} {s : Sl} {evs : List (Evt × Sl)} (r : RowE h s evs) (x : Ext h h') : RowE h' s evs := ⟨x.at_ r.at_, fun p hp => (r.flds p hp).ext x, r.len, r.order, r.time⟩
theorem sumsL_append (c : CT) : ∀ (l : List Evt) (acc : Int), ∃ pre last, sumsL c l acc = pre ++ [last] ∧ pre.length = l.length ∧ ∀ e, sumsL c (l ++ [e]) acc = pre ++ [last, sumV c last e]
  | [], acc => ⟨[], acc, rfl, rfl, fun e => rfl⟩
  | a :: l, acc => by
    obtain ⟨pre, last, h1, h2, h3⟩ := sumsL_append c l (sumV c acc a)
    refine ⟨acc :: pre, last, by simp [sumsL, h1], by simp [h2], fun e => ?_⟩
    simp [sumsL, h3 e]
theorem sumsL_len (c : CT) : ∀ (l : List Evt) (acc : Int), (sumsL c l acc).length = l.length + 1
  | [], acc => rfl
  | a :: l, acc => by simp [sumsL, sumsL_len c l]
end Go.Proofs.YtadakbmoanbcgaaGreatDoorVc
-- CkMean4
namespace Go.Proofs.YtadakbmoanbcgaaGreatDoorVc
open Go.Proofs.Tryz (prog)
/-- Which values a condition has at least. -/
def Vals1 (c : CT) : Prop := c.kind = 7 ∨ c.kind = 9 ∨ c.kind = 10 → c.vals ≠ []
theorem vals1_of {c : CT} (h : errN c = 0) : Vals1 c := fun hk e => by
  obtain ⟨u, hu, f1, _⟩ := errN_parts h
  unfold useOf at hu
  have hvl : u.vl = 1 := by
    rcases hk with hk | hk | hk <;> rw [hk] at hu <;> simp at hu <;> rw [← hu]
  unfold formedB at f1
  simp only [Bool.and_eq_true, decide_eq_true_eq] at f1
  have := f1.1.1.2.1
  rw [e, hvl] at this
  simp at this
mutual
/-- All that one asks of a condition ahead of its node. -/
def Fine : CT → Prop
  | .mk k n f s vs ws wi nu al => errN (.mk k n f s vs ws wi nu al) = 0 ∧ vs.length < 1000000 ∧ ws.length < 1000000 ∧ Fines al
def Fines : List CT → Prop
  | [] => True
  | a :: al => Fine a ∧ Fines al
end

theorem Fine.parts {c : CT} (h : Fine c) : errN c = 0 ∧ c.vals.length < 1000000 ∧ c.whs.length < 1000000 ∧ Fines c.args := by
  cases c; unfold Fine at h; exact h
theorem Fines.mem {a : CT} : ∀ {al : List CT}, Fines al → a ∈ al → Fine a
  | b :: al, H, h => by
    unfold Fines at H
    rcases List.mem_cons.1 h with rfl | h
    · exact H.1
    · exact Fines.mem H.2 h
  | [], _, h => by cases h
mutual
theorem fine_of : ∀ {c : CT}, trE errN c = 0 → c.narrow → Fine c
  | .mk k n f s vs ws wi nu al, h, hn => by
    rw [trE_eq] at h
    by_cases e : errN (.mk k n f s vs ws wi nu al) = 0
    case neg => rw [if_pos e] at h; exact absurd h e
    rw [if_neg (by simpa using e)] at h
    have h3 := (CT.narrow_eq _).1 hn
    unfold Fine
    exact ⟨e, h3.1, h3.2.1, fines_of h h3.2.2⟩
theorem fines_of : ∀ {al : List CT}, trsE errN al = 0 → narrows al → Fines al
  | [], _, _ => by unfold Fines; trivial
  | a :: al, h, hn => by
    unfold trsE at h
    unfold narrows at hn
    by_cases e : trE errN a = 0
    case neg => rw [if_pos e] at h; exact absurd h e
    rw [if_neg (by simpa using e)] at h
    unfold Fines
    exact ⟨fine_of e hn.1, fines_of h hn.2⟩
end

theorem hits_snoc {c : CT} {l : List Evt} {i : Nat} {e : Evt} (hx : l[i]? = some e) : (l.take (i + 1)).filter (hitB c) = (l.take i).filter (hitB c) ++ (if hitB c e = true then [e] else []) := by
  rw [take_snoc hx, List.filter_append]
  congr 1
  by_cases h : hitB c e = true <;> simp [h]
theorem Owns.third {h0 h : Heap} {a b c : Ow} {L : List Ow} (o : Owns h0 h (a :: b :: c :: L)) : Owns h0 h (c :: a :: b :: L) := o.back.back
/-- What a call has told, above what one owns. -/
theorem up_rebase {B h HB h' h2 : Heap} {L : List Ow} (xB : Ext B h) (xH : Ext h HB) (o : Owns HB h' L) (x : Ext h' h2) : ∃ HB2, Owns HB2 h2 L ∧ Ext HB HB2 ∧ Ext (Up B h' h2) (Up B h HB2) := by
  obtain ⟨HB2, o2, x2, hb⟩ := (o.mono x).rebase
  refine ⟨HB2, o2, x2, Up.call xB (xH.trans o.ext) fun j y hj hy => hb j y hy fun p hp hpa => ?_⟩
  rcases (o.all p hp).2 with ⟨b2, _⟩ | ⟨q, b2, _, b4⟩
  · rw [b2] at hpa; cases hpa
  · rw [b2] at hpa; cases hpa; rw [hj] at b4; cases b4
section
variable {Pm : Prim} {I : Calls} {TT : Heap → Prop}
/-- The node of a condition, at a part of the heap that is known and stays. -/
theorem spec66 (hI : Closed' prog Pm I) (hL : LibI I TT) {sr se : Sl} {fs : List Fld} {evs : List (Evt × Sl)} : ∀ (n : Nat) {c : CT}, c.size ≤ n → ∀ {Q : Post} {h B : Heap} {r : List Cell}, TT h → Ext B h → CondAt B c r → Fine c → c.size < 1000000 → RowF B sr fs → RowE B se evs →
    (∀ b h', Ext h h' → h b = none → NodeAt (Up B h h') fs (evs.map (·.1)) c b → Q [.one (.ptr (some (b, 0)))] h') → I 66 [.agg r, .one (.slice 4 sr), .one (.slice 6 se)] Q h := by
  intro n
  induction n with
  | zero => intro c hc; have := c.one_le; omega
  | succ n ih =>
    intro c hc Q h B r hT xB hca hfi hsz hr he hQ
    obtain ⟨sv, sw, sa, rfl, hv, hw, rs, ha, has⟩ := hca.parts
    obtain ⟨f1, f2, f3, f4⟩ := hfi.parts
    refine hI.go _ _ (den66 I c.kind c.name c.field c.sign sv sw c.within c.num sa sr se Q) ?_
    refine newK_intro fun ib h1 hn1 he1 => ?_
    have o1 : Owns h h1 ((14, ⟨some (ib, 0), 1⟩, nodeC c sv sw sa ⟨none, 0⟩ false ⟨none, 0⟩ ⟨none, 0⟩ 0) :: (1, ⟨none, 0⟩, ptrs []) :: []) := by
      have := ((Owns.nil h).none_ 1).new (i := ib) (sz := 14) (n := 1) (cs := nodeC c sv sw sa ⟨none, 0⟩ false ⟨none, 0⟩ ⟨none, 0⟩ 0) hn1 rfl
      rw [he1]; exact this
    have hlen := has.len
    have hal : sa.len = c.args.length := by
      have := ha.1
      rw [flat9 hlen.2] at this
      omega
    have hargs : c.args.length < 1000000 := by
      have := args_le c.args
      have := c.size_eq
      omega
    -- at the end
    have fin : ∀ {h4 HB : Heap} {sk : Sl} {ps : List Nat} {fx : Bool} {st ss : Sl} {fi : Int} {L : List Ow}, Ext h HB → Owns HB h4 ((14, ⟨some (ib, 0), 1⟩, nodeC c sv sw sa sk fx st ss fi) :: L) → (1, sk, ptrs ps) ∈ L → NodesAt (Up B h HB) fs (evs.map (·.1)) c.args ps →
        NodeV (Up B h h4) fs (evs.map (·.1)) c fx st ss fi → Q [.one (.ptr (some (ib, 0)))] h4 := fun {h4 HB sk ps fx st ss fi L} x o hm hn hV => by
      have o' := o.onto x
      exact hQ ib h4 o'.ext hn1 (NodeAt.make (Up.blk o' List.mem_cons_self) (CondAt.ext (Up.base xB) hca) (Up.own o' (List.mem_cons_of_mem _ hm)) hV (NodesAt.ext (Up.more o.ext) hn))
    refine loopK_intro (fun (a : Int) h' m => ∃ (k : Nat) (sk : Sl) (ps : List Nat) (HB : Heap), k ≤ c.args.length ∧ a = k ∧ c.args.length - k = m ∧ Ext h HB ∧ Owns HB h' ((14, ⟨some (ib, 0), 1⟩, nodeC c sv sw sa sk false ⟨none, 0⟩ ⟨none, 0⟩ 0) :: (1, sk, ptrs ps) :: []) ∧ NodesAt (Up B h HB) fs (evs.map (·.1)) (c.args.take k) ps) c.args.length
      ⟨0, _, [], h, by omega, rfl, by omega, Ext.refl h, o1, NodesAt.nil _ _ _⟩ ?_
    rintro _ h' m ⟨k, sk, ps, HB, hk, rfl, rfl, xH, o, hns⟩
    have x1 : Ext h h' := xH.trans o.ext
    refine ifT_dec (fun hlt => ⟨⟨by omega, hlt⟩, ?_⟩) fun hge => ?_
    · have hx := List.getElem?_eq_getElem (show k < c.args.length by omega)
      have hmem := List.getElem_mem (show k < c.args.length by omega)
      generalize c.args[k] = a at hx hmem
      refine CondsAt.rowIn (xB.trans x1) has ha hx fun bb oo r hca2 hrd => ?_
      have hsa := CT.size_args hmem
      obtain ⟨sv2, sw2, sa2, rfl, _⟩ := hca2.parts
      have hcell := (o.block (sz := 14) (i := ib) (n := 1) List.mem_cons_self).1
      refine ⟨_, _, _, _, _, _, _, _, _, hrd, sk, read_cell hcell rfl, ?_⟩
      have hps := hns.len
      have hsk : sk.len = ps.length := by
        have := (o.at_ (sz := 1) (s := sk) (cs := ptrs ps) (by simp)).1
        rw [ptrs_length] at this; omega
      have hps2 : ps.length = k := by rw [← hps]; simp; omega
      refine ih (c := a) (by omega) (hL.ext x1 hT) (xB.trans x1) hca2 (f4.mem hmem) (by omega) hr he fun b h2 x2 hb2 hnode => ⟨?_, some (b, 0), rfl, ?_⟩
      · rw [hcell]; exact x2 _ _ hcell
      obtain ⟨HB2, o2, xHH, xup⟩ := up_rebase xB xH o x2
      refine appendTo_owns (m := 0) o2.swp (by rfl) (by omega) (by simp) fun j h3 o3 => ?_
      have o4 := o3.swp
      have hc3 := (o4.block (sz := 14) (i := ib) (n := 1) List.mem_cons_self).1
      refine storeK_one hc3 (by simp [nodeC, condC]) ?_
      have o5 := o4.change (n' := 1) (sz' := 14) (cs' := nodeC c sv sw sa ⟨some (j, 0), sk.len + (0 + 1)⟩ false ⟨none, 0⟩ ⟨none, 0⟩ 0) rfl
      refine ⟨c.args.length - (k + 1), by omega, k + 1, ⟨some (j, 0), sk.len + (0 + 1)⟩, ps ++ [b], HB2, by omega, by rw [w64] <;> omega, rfl, xH.trans xHH, ?_, ?_⟩
      · rw [ptrs_snoc]; exact o5
      · rw [take_snoc hx]
        exact NodesAt.append (NodesAt.ext (Up.more xHH) hns) (NodeAt.ext xup hnode)
    · have hk2 : k = c.args.length := by omega
      subst hk2
      rw [List.take_length] at hns
      refine spec93 hI (c := c) ⟨_, rfl, ifT_dec (fun e6 => ?_) fun e6 => ?_⟩
      · refine spec94 hI hL (hL.ext x1 hT) ((xB.trans x1).at_ hv) f2 (hr.ext (xB.trans x1)) (vals1_of f1) e6 fun h3 x3 => ⟨_, rfl, ?_⟩
        have o3 := o.mono x3
        refine storeK_one (o3.block (sz := 14) (i := ib) (n := 1) List.mem_cons_self).1 (by simp [nodeC, condC]) ?_
        have o5 := o3.change (n' := 1) (sz' := 14) (cs' := nodeC c sv sw sa sk (ofFieldB c fs) ⟨none, 0⟩ ⟨none, 0⟩ 0) rfl
        exact fin xH o5 (by simp) hns ⟨fun _ _ => rfl, fun e => by omega, fun e => by omega, fun _ => rfl⟩
      refine ifT_dec (fun e14 => ?_) fun e14 => ?_
      · refine spec95 hI (c := c) ((xB.trans x1).at_ he.at_) he.len ⟨_, rfl, ?_⟩
        refine storeK_one (o.block (sz := 14) (i := ib) (n := 1) List.mem_cons_self).1 (by simp [nodeC, condC]) ?_
        have o5 := o.change (n' := 1) (sz' := 14) (cs' := nodeC c sv sw sa sk false ⟨none, 0⟩ ⟨none, 0⟩ (firstL c (evs.map (·.1)) (-1))) rfl
        exact fin xH o5 (by simp) hns ⟨fun _ _ => by omega, fun _ => rfl, fun e => by omega, fun _ => rfl⟩
      refine spec96 hI (c := c) ⟨_, rfl, ifT_dec (fun e11 => ?_) fun e11 => ?_⟩
      case refine_2 => exact fin xH o (by simp) hns ⟨fun a b => absurd ⟨a, b⟩ e6, fun e => absurd e e14, fun e => by omega, fun _ => rfl⟩
      refine newK_intro fun is h2 hn2 he2 => ?_
      have o2 : Owns HB h2 ((1, ⟨some (is, 0), 1⟩, ints [0]) :: (14, ⟨some (ib, 0), 1⟩, nodeC c sv sw sa sk false ⟨none, 0⟩ ⟨none, 0⟩ 0) :: (1, sk, ptrs ps) :: []) := by
        have := o.new (i := is) (sz := 1) (n := 1) (cs := ints [0]) hn2 rfl
        rw [he2]; exact this
      have o3 := o2.swp
      refine storeK_one (o3.block (sz := 14) (i := ib) (n := 1) List.mem_cons_self).1 (by simp [nodeC, condC]) ?_
      have o4 := o3.change (n' := 1) (sz' := 14) (cs' := nodeC c sv sw sa sk false ⟨none, 0⟩ ⟨some (is, 0), 1⟩ 0) rfl
      have o5 := (o4.none_ 1).swp
      refine loopK_intro (fun (a : Int) h' m => ∃ (k : Nat) (st ss : Sl), k ≤ evs.length ∧ a = k ∧ evs.length - k = m ∧ Owns HB h' ((14, ⟨some (ib, 0), 1⟩, nodeC c sv sw sa sk false st ss 0) :: (1, st, ints (timesL c ((evs.map (·.1)).take k))) :: (1, ss, ints (sumsOf c ((evs.map (·.1)).take k))) :: (1, sk, ptrs ps) :: [])) evs.length
        ⟨0, _, _, by omega, rfl, rfl, o5⟩ ?_
      rintro _ h3 m ⟨k, st, ss, hk, rfl, rfl, o⟩
      have x1 : Ext h h3 := xH.trans o.ext
      have hse := ((xB.trans x1).at_ he.at_)
      have hsel := hse.rowsLen evP_length (by decide)
      refine ifT_dec (fun hlt => ⟨⟨by omega, hlt⟩, ?_⟩) fun hge => ?_
      · have hx := List.getElem?_eq_getElem (show k < evs.length by omega)
        have hmem := List.getElem_mem (show k < evs.length by omega)
        generalize evs[k] = p at hx hmem
        have hx2 : (evs.map (·.1))[k]? = some p.1 := by rw [List.getElem?_map, hx]; rfl
        have hits := hits_snoc (c := c) hx2
        refine hse.row evP_length (by decide) hx fun bb oo hrd => ⟨p.1.id, p.1.name, p.1.at_, p.1.whoK, p.1.whoT, p.2, hrd, ?_⟩
        have hpf := he.flds p hmem
        refine joinK_intro (fun (b : Bool) g => Ext h3 g ∧ b = !hitB c p.1) ?_ fun jk hjk => ?_
        case refine_2 =>
          unfold hitB at hjk
          refine ifT_intro (fun e => hjk _ _ ⟨Ext.refl h3, by rw [decide_eq_false (nd e)]; rfl⟩) fun e => ?_
          have hn := Decidable.of_not_not (nd' e)
          refine spec97 hI (e := p.1) ((xB.trans x1).at_ hpf.at_) hpf.len hpf.up ((xB.trans x1).at_ hw) f3 fun g xg => ⟨_, rfl, hjk _ _ ⟨xg, by rw [decide_eq_true hn]; rfl⟩⟩
        rintro b g ⟨xg, rfl⟩
        have o := o.mono xg
        have x1 : Ext h g := xH.trans o.ext
        have again : ∀ {g2 : Heap} {st2 ss2 : Sl}, Owns HB g2 ((14, ⟨some (ib, 0), 1⟩, nodeC c sv sw sa sk false st2 ss2 0) :: (1, st2, ints (timesL c ((evs.map (·.1)).take (k + 1)))) :: (1, ss2, ints (sumsOf c ((evs.map (·.1)).take (k + 1)))) :: (1, sk, ptrs ps) :: []) →
            ∃ m', m' < evs.length - k ∧ ∃ (k' : Nat) (st ss : Sl), k' ≤ evs.length ∧ IntKind.i64.wrap ((k : Int) + 1) = k' ∧ evs.length - k' = m' ∧ Owns HB g2 ((14, ⟨some (ib, 0), 1⟩, nodeC c sv sw sa sk false st ss 0) :: (1, st, ints (timesL c ((evs.map (·.1)).take k'))) :: (1, ss, ints (sumsOf c ((evs.map (·.1)).take k'))) :: (1, sk, ptrs ps) :: []) := fun o =>
          ⟨evs.length - (k + 1), by omega, k + 1, _, _, by omega, by have := he.len; rw [w64] <;> omega, rfl, o⟩
        refine ifT_intro (fun e => ?_) fun e => ?_
        · have hno : ¬ hitB c p.1 = true := by simpa using e
          rw [if_neg hno, List.append_nil] at hits
          refine again (st2 := st) (ss2 := ss) ?_
          unfold timesL sumsOf at o ⊢
          rw [hits]; exact o
        have hyes : hitB c p.1 = true := by simpa using e
        rw [if_pos hyes] at hits
        obtain ⟨pre, last, s1, s2, s3⟩ := sumsL_append c (((evs.map (·.1)).take k).filter (hitB c)) 0
        have hcell := (o.block (sz := 14) (i := ib) (n := 1) List.mem_cons_self).1
        have hss := o.at_ (sz := 1) (s := ss) (cs := ints (sumsOf c ((evs.map (·.1)).take k))) (by simp)
        have hst := o.at_ (sz := 1) (s := st) (cs := ints (timesL c ((evs.map (·.1)).take k))) (by simp)
        have hfl : (((evs.map (·.1)).take k).filter (hitB c)).length ≤ k := Nat.le_trans (List.length_filter_le ..) (by simp; omega)
        have hssl : ss.len = pre.length + 1 := by
          rw [hss.len1, ints_length]; unfold sumsOf; rw [s1]; simp
        have hstl : st.len ≤ k := by rw [hst.len1, ints_length]; unfold timesL; rw [List.length_map]; exact hfl
        have hel := he.len
        have hw1 : IntKind.i64.wrap ((ss.len : Int) - 1) = (pre.length : Int) := by rw [w64] <;> omega
        have rd12 : g.read ib 12 1 = some [.slice 1 ss] := read_cell hcell rfl
        refine ⟨ss, rd12, ss, rd12, ?_⟩
        rw [hw1]
        have hlast : (ints (sumsOf c ((evs.map (·.1)).take k)))[pre.length]? = some (.int .i64 last) := by
          refine ints_get ?_
          unfold sumsOf; rw [s1]; simp
        refine ⟨⟨by omega, by omega⟩, hss.cell hlast fun bb2 oo2 hrd2 => ⟨last, hrd2, ?_⟩⟩
        refine spec98 hI ((xB.trans x1).at_ hpf.at_) hpf.len hpf.up ⟨_, _, _, _, rfl, ?_⟩
        refine joinK_intro (fun (b : Bool) g' => g = g' ∧ b = ((fieldOf p.1.fields c.field).isSome && !decide (((fieldOf p.1.fields c.field).getD val0).kind = 1))) ?_ fun jk hjk => ?_
        case refine_2 =>
          refine ifT_intro (fun e => hjk _ _ ⟨rfl, by rw [e]; rfl⟩) fun e => hjk _ _ ⟨rfl, by rw [e]; rfl⟩
        rintro b _ ⟨rfl, hb⟩
        refine joinK_intro (fun (z : Int) g' => g = g' ∧ z = sumV c last p.1) ?_ fun jk hjk => ?_
        case refine_2 =>
          unfold sumV at hjk
          refine ifT_intro (fun e => hjk _ _ ⟨rfl, ?_⟩) fun e => hjk _ _ ⟨rfl, ?_⟩
          · rw [e] at hb
            cases ef : fieldOf p.1.fields c.field with
            | none => rw [ef] at hb; cases hb
            | some v =>
              rw [ef] at hb
              simp at hb
              simp [hb]
          · rw [e] at hb
            cases ef : fieldOf p.1.fields c.field with
            | none => rfl
            | some v =>
              rw [ef] at hb
              simp at hb
              simp [hb]
        rintro z _ ⟨rfl, rfl⟩
        have rd11 : g.read ib 11 1 = some [.slice 1 st] := read_cell hcell rfl
        refine ⟨st, rd11, ss, rd12, ?_⟩
        refine appendTo_owns (m := 0) o.swp (by rfl) (by omega) (fun i hi => .inr ⟨_, List.mem_cons_self, by simp at hi; subst hi; rfl⟩) fun j1 h4 o4 => ?_
        refine appendTo_owns (m := 0) o4.third (by rfl) (by omega) (by simp) fun j2 h5 o5 => ?_
        have o6 := o5.third
        refine storeK_one (o6.block (sz := 14) (i := ib) (n := 1) List.mem_cons_self).1 (by simp [nodeC, condC]) ?_
        have o7 := o6.change (n' := 1) (sz' := 14) (cs' := nodeC c sv sw sa sk false ⟨some (j1, 0), st.len + (0 + 1)⟩ ss 0) rfl
        refine storeK_one (o7.block (sz := 14) (i := ib) (n := 1) List.mem_cons_self).1 (by simp [nodeC, condC]) ?_
        have o8 := o7.change (n' := 1) (sz' := 14) (cs' := nodeC c sv sw sa sk false ⟨some (j1, 0), st.len + (0 + 1)⟩ ⟨some (j2, 0), ss.len + (0 + 1)⟩ 0) rfl
        have o9 := o8.perm ((List.Perm.swap _ _ _).cons _)
        refine again (st2 := ⟨some (j1, 0), st.len + (0 + 1)⟩) (ss2 := ⟨some (j2, 0), ss.len + (0 + 1)⟩) ?_
        have et : ints (timesL c ((evs.map (·.1)).take (k + 1))) = ints (timesL c ((evs.map (·.1)).take k)) ++ [.int .i64 p.1.at_] := by
          unfold timesL; rw [hits]; simp [ints]
        have es : ints (sumsOf c ((evs.map (·.1)).take (k + 1))) = ints (sumsOf c ((evs.map (·.1)).take k)) ++ [.int .i64 (sumV c last p.1)] := by
          unfold sumsOf; rw [hits, s3, s1]; simp [ints]
        rw [et, es]
        exact o9
      · have : k = evs.length := by omega
        subst this
        have et : (evs.map (·.1)).take evs.length = evs.map (·.1) := List.take_of_length_le (by simp)
        rw [et] at o
        refine fin xH o (by simp) hns ⟨fun a b => absurd ⟨a, b⟩ e6, fun e => absurd e e14, fun _ => ?_, fun e => absurd (show c.kind = 11 ∨ c.kind = 12 ∨ c.kind = 13 by omega) e⟩
        have o' := o.onto xH
        exact ⟨Up.own o' (by simp), Up.own o' (by simp)⟩
end
end Go.Proofs.YtadakbmoanbcgaaGreatDoorVc
-- CkMean5
namespace Go.Proofs.YtadakbmoanbcgaaGreatDoorVc
open Go.Proofs.Tryz (prog)
/-- Events in order. -/
structure GoodL (l : List Evt) : Prop where
  len : l.length < 1000000
  order : l.Pairwise fun a b => a.at_ ≤ b.at_
  time : ∀ e ∈ l, 0 ≤ e.at_ ∧ e.at_ ≤ 4321439
theorem RowE.good {h : Heap} {s : Sl} {evs : List (Evt × Sl)} (r : RowE h s evs) : GoodL (evs.map (·.1)) := by
  refine ⟨by simpa using r.len, ?_, fun e he => ?_⟩
  · rw [List.pairwise_map]; exact r.order
  · obtain ⟨p, hp, rfl⟩ := List.mem_map.1 he
    exact r.time p hp
theorem GoodL.times {l : List Evt} (g : GoodL l) (c : CT) : (timesL c l).Pairwise (· ≤ ·) ∧ (timesL c l).length ≤ l.length ∧ ∀ t ∈ timesL c l, 0 ≤ t ∧ t ≤ 4321439 := by
  refine ⟨?_, ?_, fun t ht => ?_⟩
  · unfold timesL
    rw [List.pairwise_map]; exact g.order.filter _
  · unfold timesL
    rw [List.length_map]; exact List.length_filter_le ..
  · obtain ⟨e, he, rfl⟩ := List.mem_map.1 ht
    exact g.time e (List.mem_filter.1 he).1
theorem upTo_at {ts : List Int} {n : Int} {i : Nat} (hi : i ≤ ts.length) (hA : ∀ a x, a < i → ts[a]? = some x → x ≤ n) (hB : ∀ a x, i ≤ a → ts[a]? = some x → ¬ x ≤ n) : upTo ts n = i := by
  unfold upTo
  have e : ts = ts.take i ++ ts.drop i := (List.take_append_drop i ts).symm
  rw [e, List.filter_append]
  have h1 : (ts.take i).filter (fun t => decide (t ≤ n)) = ts.take i := List.filter_eq_self.2 fun x hx => by
    obtain ⟨a, ha, rfl⟩ := List.mem_iff_getElem.1 hx
    simp at ha
    rw [List.getElem_take]
    exact decide_eq_true (hA a _ (by omega) (List.getElem?_eq_getElem (by omega)))
  have h2 : (ts.drop i).filter (fun t => decide (t ≤ n)) = [] := List.filter_eq_nil_iff.2 fun x hx => by
    obtain ⟨a, ha, rfl⟩ := List.mem_iff_getElem.1 hx
    simp at ha
    rw [List.getElem_drop]
    simpa using hB (i + a) _ (by omega) (List.getElem?_eq_getElem (by omega))
  rw [h1, h2]
  simp
  omega
theorem upTo_le (ts : List Int) (n : Int) : upTo ts n ≤ ts.length := List.length_filter_le ..
section
variable {Pm : Prim} {I : Calls} {Q : Post} {h : Heap} {TT : Heap → Prop}
/-- How many are up to a number. -/
theorem spec146 (hI : Closed' prog Pm I) {s : Sl} {ts : List Int} {n : Int} (hs : At h 1 s (ints ts)) (hl : ts.length < 1000000) (hup : ts.Pairwise (· ≤ ·)) (hQ : ∀ h', Ext h h' → Q [int (upTo ts n)] h') : I 146 [.one (.slice 1 s), int (n + 1)] Q h := by
  refine hI.go _ _ (den146 I s (n + 1) Q) ?_
  refine newK_intro fun i1 h1 hn1 he1 => newK_intro fun i2 h2 hn2 he2 => ?_
  have x1 : Ext h h1 := he1 ▸ Ext.new hn1
  have x2 : Ext h1 h2 := he2 ▸ Ext.new hn2
  have c1 : h2 i1 = some (.cells false [.slice 1 s]) := x2 _ _ (by rw [he1]; exact Heap.set_same ..)
  have c2 : h2 i2 = some (.cells false [.int .i64 (n + 1)]) := by rw [he2]; exact Heap.set_same ..
  have hs2 := (x1.trans x2).at_ hs
  have ls : s.len = ts.length := by rw [hs.len1, ints_length]
  refine ⟨s, read_cell c1 rfl, ?_⟩
  refine hI.go _ _ (den157 I (s.len : Int) (some (158, [(i1, 0), (i2, 0)])) _) ?_
  refine loopK_intro (fun (p : Int × Int) h' m => h2 = h' ∧ ∃ i j : Nat, i ≤ j ∧ j ≤ ts.length ∧ p = ((i : Int), (j : Int)) ∧ j - i = m ∧ (∀ a x, a < i → ts[a]? = some x → x ≤ n) ∧ ∀ a x, j ≤ a → ts[a]? = some x → ¬ x ≤ n) ts.length
    ⟨rfl, 0, ts.length, by omega, by omega, by rw [ls]; rfl, by omega, (fun a c h => by omega), fun a c h h2 => by
      have := (List.getElem?_eq_some_iff.1 h2).1; omega⟩ ?_
  rintro p h' m ⟨rfl, i, j, hij, hj, rfl, rfl, hA, hB⟩
  dsimp only [uncur]
  refine ifT_dec (fun hlt => ?_) fun hge => ?_
  · rw [midq (by omega)]
    have hm : (i + j) / 2 < j ∧ i ≤ (i + j) / 2 := by omega
    generalize (i + j) / 2 = q at hm
    have hx := List.getElem?_eq_getElem (show q < ts.length by omega)
    generalize ts[q] = x at hx
    refine hI.go _ _ (den158 I (q : Int) i1 0 i2 0 _) ?_
    refine ⟨s, read_cell c1 rfl, ⟨by omega, by omega⟩, hs2.cell (ints_get hx) fun bb oo hr => ⟨x, hr, n + 1, read_cell c2 rfl, ?_⟩⟩
    refine ⟨_, rfl, ifT_intro (fun e => ?_) fun e => ?_⟩
    · have hxn : x ≤ n := by have := nd e; omega
      refine ⟨j - (q + 1), by omega, rfl, q + 1, j, by omega, hj, ?_, rfl, fun a y ha hy => ?_, hB⟩
      · rw [w64 (by omega) (by omega)]; rfl
      · by_cases e : a = q
        · subst e; rw [hx] at hy; cases hy; exact hxn
        · exact Int.le_trans (pair_at (R := fun a b : Int => a ≤ b) hup (show a < q by omega) hy hx) hxn
    · have hxn : ¬ x ≤ n := by have := Decidable.of_not_not (nd' e); omega
      refine ⟨q - i, by omega, rfl, i, q, by omega, by omega, rfl, rfl, hA, fun a y ha hy h3 => hxn ?_⟩
      by_cases e : a = q
      · subst e; rw [hx] at hy; cases hy; exact h3
      · exact Int.le_trans (pair_at (R := fun a b : Int => a ≤ b) hup (show q < a by omega) hx hy) h3
  · obtain rfl : i = j := by omega
    have := hQ h2 (x1.trans x2)
    rw [upTo_at hj hA hB] at this
    exact ⟨_, rfl, this⟩
theorem spec127 (hI : Closed' prog Pm I) {fs : List Fld} {l : List Evt} {c : CT} {b : Nat} {n : Int} (hn : NodeAt h fs l c b) (hk : c.kind = 11 ∨ c.kind = 12 ∨ c.kind = 13) (hl : GoodL l) (h1 : -5000000 ≤ n) (h2 : n ≤ 5000000)
    (hQ : ∀ h', Ext h h' → Q [int (upTo (timesL c l) n)] h') : I 127 [.one (.ptr (some (b, 0))), int n] Q h := by
  refine hI.go _ _ (den127 I (some (b, 0)) n Q) ?_
  obtain ⟨sv, sw, sa, sk, fx, st, ss, fi, ps, hcell, _, _, hV, _⟩ := hn.parts
  obtain ⟨g1, g2, g3⟩ := hl.times c
  have := hl.len
  refine derefK_intro rfl ⟨st, read_cell hcell rfl, ?_⟩
  show I 146 [_, int (IntKind.i64.wrap (n + 1))] _ h
  rw [w64 (n := n + 1) (by omega) (by omega)]
  exact spec146 hI (hV.tms hk).1 (by omega) g1 fun h' x => ⟨_, rfl, hQ h' x⟩
/-- A test of events at a moment. -/
theorem spec102 (hI : Closed' prog Pm I) {fs : List Fld} {l : List Evt} {c : CT} {b : Nat} {n : Int} (hn : NodeAt h fs l c b) (hk : c.kind = 11 ∨ c.kind = 12 ∨ c.kind = 13) (hl : GoodL l) (hw : 0 ≤ c.within ∧ c.within ≤ 4321440) (hn0 : 0 ≤ n) (hn1 : n ≤ 4321439)
    (hQ : ∀ h', Ext h h' → Q [boo (testB c l n)] h') : I 102 [.one (.ptr (some (b, 0))), int n] Q h := by
  refine hI.go _ _ (den102 I (some (b, 0)) n Q) ?_
  unfold testB at hQ
  have hto := upTo_le (timesL c l) n
  obtain ⟨g1, g2, g3⟩ := hl.times c
  have hll := hl.len
  refine spec127 hI hn hk hl (by omega) (by omega) fun h1 x1 => ⟨_, rfl, ?_⟩
  have n1 := hn.ext x1
  obtain ⟨sv, sw, sa, sk, fx, st, ss, fi, ps, hcell, _, _, hV, _⟩ := n1.parts
  refine derefK_intro rfl ⟨c.within, read_cell hcell rfl, ?_⟩
  refine joinK_intro (fun (z : Int) g => ∃ f : Nat, z = f ∧ Ext h1 g ∧ f = (if c.within > 0 then upTo (timesL c l) (n - c.within) else 0)) ?_ fun jk hjk => ?_
  case refine_2 =>
    refine ifT_dec (fun e => ?_) fun e => hjk _ _ ⟨0, rfl, Ext.refl _, by rw [if_neg e]⟩
    refine derefK_intro rfl ⟨c.within, read_cell hcell rfl, ?_⟩
    show I 127 [_, int (IntKind.i64.wrap (n - c.within))] _ h1
    rw [w64 (n := n - c.within) (by omega) (by omega)]
    exact spec127 hI n1 hk hl (by omega) (by omega) fun g xg => ⟨_, rfl, hjk _ _ ⟨_, rfl, xg, by rw [if_pos e]⟩⟩
  rintro z h2 ⟨f, rfl, x2, hf⟩
  have n2 := n1.ext x2
  have x12 := x1.trans x2
  obtain ⟨sv, sw, sa, sk, fx, st, ss, fi, ps, hcell, _, _, hV, _⟩ := n2.parts
  obtain ⟨ht, hs⟩ := hV.tms hk
  have hfl : f ≤ (timesL c l).length := by
    rw [hf]; split
    · exact upTo_le ..
    · omega
  dsimp only at hQ
  rw [← hf] at hQ
  have hQ2 := fun g (x : Ext h2 g) => hQ g (x12.trans x)
  clear hQ
  generalize upTo (timesL c l) n = to at *
  have hsl : (sumsOf c l).length = (timesL c l).length + 1 := by unfold sumsOf timesL; rw [sumsL_len, List.length_map]
  have hssl : ss.len = (timesL c l).length + 1 := by rw [hs.len1, ints_length, hsl]
  have hstl : st.len = (timesL c l).length := by rw [ht.len1, ints_length]
  refine derefK_intro rfl ⟨c.kind, read_cell hcell rfl, ifT_dec (fun e => ?_) fun e => ?_⟩
  · simp only [if_pos e] at hQ2
    refine derefK_intro rfl ⟨c.sign, read_cell hcell rfl, derefK_intro rfl ⟨c.num, read_cell hcell rfl, ?_⟩⟩
    show I 129 [int (IntKind.i64.wrap ((to : Int) - (f : Int))), _] _ h2
    rw [w64 (n := (to : Int) - (f : Int)) (by omega) (by omega)]
    exact spec129 hI ⟨rfl, _, rfl, spec128 hI ⟨_, rfl, hQ2 h2 (Ext.refl _)⟩⟩
  simp only [if_neg e] at hQ2
  refine ifT_dec (fun e => ?_) fun e => ?_
  · simp only [if_pos e] at hQ2
    refine derefK_intro rfl ⟨c.sign, read_cell hcell rfl, derefK_intro rfl ⟨ss, read_cell hcell rfl, ⟨by omega, by omega⟩, ?_⟩⟩
    have ha := List.getElem?_eq_getElem (show to < (sumsOf c l).length by omega)
    have hb := List.getElem?_eq_getElem (show f < (sumsOf c l).length by omega)
    rw [List.getD_eq_getElem?_getD, List.getD_eq_getElem?_getD, ha, hb] at hQ2
    generalize (sumsOf c l)[to] = va at ha hQ2
    generalize (sumsOf c l)[f] = vb at hb hQ2
    refine hs.cell (ints_get ha) fun b1 o1 hr1 => ⟨va, hr1, derefK_intro rfl ⟨ss, read_cell hcell rfl, ⟨by omega, by omega⟩, hs.cell (ints_get hb) fun b2 o2 hr2 => ⟨vb, hr2, derefK_intro rfl ⟨c.num, read_cell hcell rfl, ?_⟩⟩⟩⟩
    exact spec129 hI ⟨rfl, _, rfl, spec128 hI ⟨_, rfl, hQ2 h2 (Ext.refl _)⟩⟩
  simp only [if_neg e] at hQ2
  refine ifT_dec (fun e => ?_) fun e => ?_
  · rw [if_pos (by omega)] at hQ2
    refine derefK_intro rfl ⟨c.sign, read_cell hcell rfl, derefK_intro rfl ⟨st, read_cell hcell rfl, ?_⟩⟩
    have hw1 : IntKind.i64.wrap ((to : Int) - 1) = ((to - 1 : Nat) : Int) := by rw [w64] <;> omega
    rw [hw1]
    have ha := List.getElem?_eq_getElem (show to - 1 < (timesL c l).length by omega)
    rw [List.getD_eq_getElem?_getD, ha] at hQ2
    generalize (timesL c l)[to - 1] = va at ha hQ2
    refine ⟨⟨by omega, by omega⟩, ht.cell (ints_get ha) fun b1 o1 hr1 => ⟨va, hr1, derefK_intro rfl ⟨c.num, read_cell hcell rfl, ?_⟩⟩⟩
    exact spec129 hI ⟨rfl, _, rfl, spec128 hI ⟨_, rfl, hQ2 h2 (Ext.refl _)⟩⟩
  · rw [if_neg (by omega)] at hQ2
    exact hQ2 h2 (Ext.refl _)
/-- Is there one among the nodes? -/
theorem spec99 (hI : Closed' prog Pm I) {s : Sl} {ps : List Nat} {al : List CT} {g : FuncId} {i : Nat} {f : CT → Bool} (hs : At h 1 s (ptrs ps)) (hl : al.length = ps.length) (hsz : ps.length < 1000000)
    (hg : ∀ (k : Nat) b a, ps[k]? = some b → al[k]? = some a → ∀ (h1 : Heap) (Q : Post), Ext h h1 → (∀ h2, Ext h1 h2 → Q [boo (f a)] h2) → I g [.one (.ptr (some (b, 0))), .one (.ptr (some (i, 0)))] Q h1)
    (hQ : ∀ h', Ext h h' → Q [boo (al.any f)] h') : I 99 [.one (.slice 1 s), .one (.func (some (g, [(i, 0)])))] Q h := by
  refine hI.go _ _ (den99 I s (some (g, [(i, 0)])) Q) ?_
  refine hI.go _ _ (den126 I s (some (g, [(i, 0)])) _) ?_
  have ls : s.len = ps.length := by rw [hs.len1, ptrs_length]
  refine loopK_intro (fun (n : Int) h' m => Ext h h' ∧ ∃ k : Nat, k ≤ ps.length ∧ n = k ∧ ps.length - k = m ∧ ((al.take k).any f) = false) ps.length ⟨Ext.refl h, 0, by omega, rfl, rfl, by simp⟩ ?_
  rintro n h' m ⟨x1, k, hk, rfl, rfl, he⟩
  refine ifT_dec (fun hlt => ⟨⟨by omega, hlt⟩, ?_⟩) fun hge => ?_
  · have hx := List.getElem?_eq_getElem (show k < ps.length by omega)
    have hy := List.getElem?_eq_getElem (show k < al.length by omega)
    generalize ps[k] = b at hx
    generalize al[k] = a at hy
    refine (x1.at_ hs).cell (ptrs_get hx) fun bb oo hw => ⟨_, hw, ?_⟩
    refine hg k b a hx hy h' _ x1 fun h2 x2 => ⟨_, rfl, ifT_intro (fun e => ⟨_, rfl, ?_⟩) fun e => ?_⟩
    · have := hQ h2 (x1.trans x2)
      rw [show al.any f = true from List.any_eq_true.2 ⟨a, List.mem_of_getElem? hy, e⟩] at this
      rw [decide_eq_true (by omega)]; exact this
    · refine ⟨ps.length - (k + 1), by omega, x1.trans x2, k + 1, by omega, by rw [w64] <;> omega, rfl, ?_⟩
      rw [any_take_step hy, he, e]; rfl
  · have : k = ps.length := by omega
    subst this
    rw [← hl, List.take_length] at he
    have := hQ h' x1
    rw [he] at this
    exact ⟨_, rfl, this⟩
end
/-- Which kinds there are, and what they have within. -/
theorem errN_kind {c : CT} (h : errN c = 0) : (c.kind = 1 ∨ c.kind = 2) ∨ (c.kind = 3 ∨ c.kind = 4) ∨ (c.kind = 5 ∧ c.args.length = 1) ∨ (6 ≤ c.kind ∧ c.kind ≤ 14 ∧ c.args = []) := by
  obtain ⟨u, hu, f1, _⟩ := errN_parts h
  unfold formedB at f1
  simp only [Bool.and_eq_true, decide_eq_true_eq] at f1
  have fa := f1.1.2
  unfold useOf at hu
  have leaf : u.ah = 0 → c.args = [] := fun e => by
    have := fa.2
    rw [e] at this
    exact List.length_eq_zero_iff.1 (by omega)
  split at hu
  · rename_i k; exact .inl k
  split at hu
  · rename_i k; exact .inr (.inl k)
  split at hu
  · rename_i k
    cases hu
    exact .inr (.inr (.inl ⟨k, by simp at fa; omega⟩))
  refine .inr (.inr (.inr ?_))
  repeat' (first
    | (split at hu
       · rename_i k
         cases hu
         exact ⟨by omega, by omega, leaf rfl⟩)
    | cases hu)
section
variable {Pm : Prim} {I : Calls} {TT : Heap → Prop}
/-- What a node is at a moment. -/
theorem spec67 (hI : Closed' prog Pm I) {fs : List Fld} {l : List Evt} (hl : GoodL l) {n : Int} (hn0 : 0 ≤ n) (hn1 : n ≤ 4321439) : ∀ (N : Nat) {c : CT}, c.size ≤ N → ∀ {Q : Post} {h : Heap} {b : Nat}, NodeAt h fs l c b → Fine c → c.size < 1000000 →
    (∀ h', Ext h h' → Q [boo (evC (leafB fs l n) c)] h') → I 67 [.one (.ptr (some (b, 0))), int n] Q h := by
  intro N
  induction N with
  | zero => intro c hc; have := c.one_le; omega
  | succ N ih =>
    intro c hc Q h b hn hf hsz hQ
    refine hI.go _ _ (den67 I (some (b, 0)) n Q) ?_
    obtain ⟨f1, f2, f3, f4⟩ := hf.parts
    refine newK_intro fun i1 h1 hn1' he1 => ?_
    have x1 : Ext h h1 := he1 ▸ Ext.new hn1'
    have c1 : h1 i1 = some (.cells false [.int .i64 n]) := by rw [he1]; exact Heap.set_same ..
    have hn' := hn.ext x1
    obtain ⟨sv, sw, sa, sk, fx, st, ss, fi, ps, hcell, hca, hks, hV, hns⟩ := hn'.parts
    have hargs : c.args.length < 1000000 := by
      have := args_le c.args
      have := c.size_eq
      omega
    have hpl := hns.len
    have kid : ∀ (k : Nat) b a, ps[k]? = some b → c.args[k]? = some a → ∀ (h2 : Heap) (Q : Post), Ext h1 h2 → (∀ h3, Ext h2 h3 → Q [boo (evC (leafB fs l n) a)] h3) → I 67 [.one (.ptr (some (b, 0))), int n] Q h2 := fun k b a hb ha h2 Q x2 hQ => by
      obtain ⟨b', hb', hnode⟩ := hns.get ha
      rw [hb] at hb'; cases hb'
      have hm := List.mem_of_getElem? ha
      have := CT.size_args hm
      exact ih (by omega) (hnode.ext x2) (f4.mem hm) (by omega) hQ
    rw [evC_eq] at hQ
    have hQ2 := fun g (x : Ext h1 g) => hQ g (x1.trans x)
    clear hQ
    have kinds := errN_kind f1
    refine derefK_intro rfl ⟨c.kind, read_cell hcell rfl, ifT_dec (fun e => ?_) fun e => ?_⟩
    · simp only [if_pos e] at hQ2; exact hQ2 h1 (Ext.refl _)
    simp only [if_neg e] at hQ2
    refine ifT_dec (fun e => ?_) fun e => ?_
    · simp only [if_pos e] at hQ2; exact hQ2 h1 (Ext.refl _)
    simp only [if_neg e] at hQ2
    refine ifT_dec (fun e => ?_) fun e => ?_
    · simp only [if_pos e] at hQ2
      refine derefK_intro rfl ⟨sk, read_cell hcell rfl, ?_⟩
      refine spec99 hI (f := fun a => !evC (leafB fs l n) a) hks hpl (by omega) (fun k b a hb ha h2 Q x2 hQ => ?_) fun h3 x3 => ⟨_, rfl, ?_⟩
      · refine hI.go _ _ (den100 I (some (b, 0)) i1 0 Q) ⟨n, read_cell (x2 _ _ c1) rfl, kid k b a hb ha h2 _ x2 fun h3 x3 => ⟨_, rfl, hQ h3 x3⟩⟩
      · have := hQ2 h3 x3
        rw [evAll_all] at this
        rw [show (!c.args.any fun a => !evC (leafB fs l n) a) = c.args.all (evC (leafB fs l n)) by simp [List.any_eq_not_all_not]]
        exact this
    simp only [if_neg e] at hQ2
    refine ifT_dec (fun e => ?_) fun e => ?_
    · simp only [if_pos e] at hQ2
      refine derefK_intro rfl ⟨sk, read_cell hcell rfl, ?_⟩
      refine spec99 hI (f := evC (leafB fs l n)) hks hpl (by omega) (fun k b a hb ha h2 Q x2 hQ => ?_) fun h3 x3 => ⟨_, rfl, ?_⟩
      · refine hI.go _ _ (den101 I (some (b, 0)) i1 0 Q) ⟨n, read_cell (x2 _ _ c1) rfl, kid k b a hb ha h2 _ x2 fun h3 x3 => ⟨_, rfl, hQ h3 x3⟩⟩
      · have := hQ2 h3 x3
        rw [evAny_any] at this
        exact this
    simp only [if_neg e] at hQ2
    refine ifT_dec (fun e5 => ?_) fun e => ?_
    · simp only [if_pos e5] at hQ2
      have ha1 : c.args.length = 1 := by omega
      have hskl : sk.len = ps.length := by rw [hks.len1, ptrs_length]
      obtain ⟨a0, ha0⟩ : ∃ a, c.args[0]? = some a := ⟨_, List.getElem?_eq_getElem (by omega)⟩
      obtain ⟨b0, hb0, hnode⟩ := hns.get ha0
      refine derefK_intro rfl ⟨sk, read_cell hcell rfl, ⟨by omega, by omega⟩, hks.cell (i := 0) (ptrs_get hb0) fun bb oo hr => ⟨_, by simpa using hr, n, read_cell c1 rfl, kid 0 b0 a0 hb0 ha0 h1 _ (Ext.refl _) fun h3 x3 => ⟨_, rfl, ?_⟩⟩⟩
      have := hQ2 h3 x3
      rw [show evHd (leafB fs l n) c.args = evC (leafB fs l n) a0 by
        cases hc : c.args with
        | nil => rw [hc] at ha0; cases ha0
        | cons y ys => rw [hc] at ha0; simp at ha0; subst ha0; simp [evHd]] at this
      exact this
    simp only [if_neg e] at hQ2
    have h6 : 6 ≤ c.kind ∧ c.kind ≤ 14 ∧ c.args = [] := by
      rcases kinds with k | k | ⟨k, _⟩ | k
      · omega
      · omega
      · omega
      · exact k
    unfold leafB at hQ2
    refine ifT_dec (fun e14 => ?_) fun e14 => ?_
    · simp only [if_pos e14] at hQ2
      refine ⟨n, read_cell c1 rfl, derefK_intro rfl ⟨fi, read_cell hcell rfl, ?_⟩⟩
      rw [hV.fst e14]
      exact hQ2 h1 (Ext.refl _)
    simp only [if_neg e14] at hQ2
    refine joinK_intro (fun (z : Bool) g => h1 = g ∧ z = decide (c.kind = 11 ∨ c.kind = 12 ∨ c.kind = 13)) ?_ fun jk hjk => ?_
    case refine_2 =>
      refine ifT_dec (fun e => hjk _ _ ⟨rfl, ?_⟩) fun e => joinK_intro (fun (z : Bool) g => h1 = g ∧ z = decide (c.kind = 11 ∨ c.kind = 12 ∨ c.kind = 13)) (fun z g hz => hjk _ _ hz) fun j2 hj2 => ifT_dec (fun e2 => hj2 _ _ ⟨rfl, ?_⟩) fun e2 => hj2 _ _ ⟨rfl, ?_⟩
      · simp [e]
      · simp [e2]
      · simp [e, e2]
    rintro z _ ⟨rfl, rfl⟩
    refine ifT_dec (fun e => ?_) fun e => ?_
    · simp only [if_pos e] at hQ2
      refine ⟨n, read_cell c1 rfl, spec102 hI hn' e hl (errN_parts f1).choose_spec.2.2.2.2.2.2.1 hn0 hn1 fun h3 x3 => ⟨_, rfl, hQ2 h3 x3⟩⟩
    · simp only [if_neg e] at hQ2
      refine derefK_intro rfl ⟨fx, read_cell hcell rfl, ?_⟩
      have e11 : c.kind ≠ 11 := fun h => e (.inl h)
      have e12 : c.kind ≠ 12 := fun h => e (.inr (.inl h))
      have e13 : c.kind ≠ 13 := fun h => e (.inr (.inr h))
      rw [hV.fix (by omega) (by omega)]
      exact hQ2 h1 (Ext.refl _)
end
end Go.Proofs.YtadakbmoanbcgaaGreatDoorVc
