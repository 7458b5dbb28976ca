/- When a condition changes (no program in sight). The moments at which a node can change. What is told of a window: its moments, and the turns at them. Changes and the next change, as one asks for them. TurnsArePlayed: the law's function answers true. -/
import Derived.Test.YteldpijfienopaaGreatDoorVcRsN
import Derived.Test.YteldpijfienopaaGreatDoorVcTuVc
import Derived.Test.YteldpijfienopaaGreatDoorVcAMap
import Derived.Test.YteldpijfienopaaGreatDoorVcRangeB
import Derived.Test.YteldpijfienopaaGreatDoorVcRows4
set_option linter.unusedSimpArgs false
set_option linter.unusedVariables false
-- CoTurn
namespace Go.Proofs.YteldpijfienopaaGreatDoorVc
/-- The moments that a time of an event of a test makes. -/
def stepM (c : CT) (t : Int) : List Int := if c.kind = 13 then [t, t + c.num, t + c.num + 1] else if c.within > 0 then [t, t + c.within] else [t]
/-- .. that a condition makes by itself. -/
def ownM (l : List Evt) (c : CT) : List Int := (if c.kind = 14 then [firstL c l (-1)] else []) ++ (if c.kind = 11 ∨ c.kind = 12 ∨ c.kind = 13 then (timesL c l).flatMap (stepM c) else [])
mutual
/-- The moments at which a condition can change. -/
def momC (l : List Evt) : CT → List Int
  | .mk k n f s vs ws wi nu al => momCs l al ++ ownM l (.mk k n f s vs ws wi nu al)
def momCs (l : List Evt) : List CT → List Int
  | [] => []
  | a :: al => momC l a ++ momCs l al
end
theorem momC_eq (l : List Evt) (c : CT) : momC l c = momCs l c.args ++ ownM l c := by cases c; rw [momC]; rfl
theorem momCs_mem {l : List Evt} {a : CT} : ∀ {al : List CT}, a ∈ al → ∀ x ∈ momC l a, x ∈ momCs l al
  | b :: al, h, x, hx => by
    rw [momCs, List.mem_append]
    rcases List.mem_cons.1 h with rfl | h
    · exact .inl hx
    · exact .inr (momCs_mem h x hx)
  | [], h, _, _ => by cases h
theorem upTo_const {ts : List Int} {a b : Int} (hab : a ≤ b) (h : ∀ t ∈ ts, ¬ (a < t ∧ t ≤ b)) : upTo ts a = upTo ts b := by
  unfold upTo
  congr 1
  refine List.filter_congr fun t ht => ?_
  rw [decide_eq_decide]
  have := h t ht
  omega
theorem cmpI_shift {a b t n : Int} (hab : a ≤ b) (h1 : ¬ (a < t + n ∧ t + n ≤ b)) (h2 : ¬ (a < t + n + 1 ∧ t + n + 1 ≤ b)) : cmpI (a - t) n = cmpI (b - t) n := by
  unfold cmpI
  have e1 : (a - t < n) = (b - t < n) := propext (by omega)
  have e2 : (a - t > n) = (b - t > n) := propext (by omega)
  simp only [e1, e2]
/-- A test stays what it is between its moments. -/
theorem leafB_const {fs : List Fld} {l : List Evt} (hl : GoodL l) {c : CT} (he : errN c = 0) {a b : Int} (ha : 0 ≤ a) (hab : a ≤ b) (hb : b ≤ 4321439) (h : ∀ m ∈ ownM l c, ¬ (a < m ∧ m ≤ b)) : leafB fs l a c = leafB fs l b c := by
  obtain ⟨u, hu, _, _, _, _, _, hw, hn⟩ := errN_parts he
  unfold leafB
  unfold ownM at h
  by_cases e14 : c.kind = 14
  · rw [if_pos e14, if_pos e14, decide_eq_decide]
    have := h (firstL c l (-1)) (by rw [if_pos e14]; simp)
    omega
  rw [if_neg e14, if_neg e14]
  by_cases et : c.kind = 11 ∨ c.kind = 12 ∨ c.kind = 13
  case neg => rw [if_neg et, if_neg et]
  rw [if_pos et, if_pos et]
  rw [if_neg e14, if_pos et, List.nil_append] at h
  obtain ⟨g1, g2, g3⟩ := hl.times c
  have hst : ∀ t ∈ timesL c l, ∀ m ∈ stepM c t, ¬ (a < m ∧ m ≤ b) := fun t ht m hm => h m (List.mem_flatMap.2 ⟨t, ht, hm⟩)
  have h0 : ∀ t ∈ timesL c l, ¬ (a < t ∧ t ≤ b) := fun t ht => hst t ht t (by unfold stepM; split <;> (try split) <;> simp)
  have hto : upTo (timesL c l) a = upTo (timesL c l) b := upTo_const hab h0
  unfold testB
  dsimp only
  by_cases e13 : c.kind = 13
  · rw [if_neg (show ¬ c.kind = 11 by omega), if_neg (show ¬ c.kind = 12 by omega), if_neg (show ¬ c.kind = 11 by omega), if_neg (show ¬ c.kind = 12 by omega), hto]
    by_cases ep : 0 < upTo (timesL c l) b
    · rw [if_pos ep, if_pos ep]
      have hle := upTo_le (timesL c l) b
      have hx := List.getElem?_eq_getElem (show upTo (timesL c l) b - 1 < (timesL c l).length by omega)
      have hm := List.mem_of_getElem? hx
      rw [List.getD_eq_getElem?_getD, hx]
      generalize (timesL c l)[upTo (timesL c l) b - 1] = t at hm
      have ht := g3 t hm
      simp only [boundsN, e13, if_true] at hn
      have s1 := hst t hm (t + c.num) (by unfold stepM; rw [if_pos e13]; simp)
      have s2 := hst t hm (t + c.num + 1) (by unfold stepM; rw [if_pos e13]; simp)
      simp only [Option.getD_some]
      rw [w64 (n := a - t) (by omega) (by omega), w64 (n := b - t) (by omega) (by omega), cmpI_shift hab s1 s2]
    · rw [if_neg ep, if_neg ep]
  · have hfr : (if c.within > 0 then upTo (timesL c l) (a - c.within) else 0) = (if c.within > 0 then upTo (timesL c l) (b - c.within) else 0) := by
      by_cases ew : c.within > 0
      · rw [if_pos ew, if_pos ew]
        refine upTo_const (by omega) fun t ht hh => ?_
        have := hst t ht (t + c.within) (by unfold stepM; rw [if_neg e13, if_pos ew]; simp)
        omega
      · rw [if_neg ew, if_neg ew]
    rw [hto, hfr]
    have e1 : c.kind = 11 ∨ c.kind = 12 := by omega
    rcases e1 with e1 | e1
    · rw [if_pos e1, if_pos e1]
    · rw [if_neg (show ¬ c.kind = 11 by omega), if_neg (show ¬ c.kind = 11 by omega), if_pos e1, if_pos e1]
/-- A condition stays what it is between its moments. -/
theorem evC_const {fs : List Fld} {l : List Evt} (hl : GoodL l) {a b : Int} (ha : 0 ≤ a) (hab : a ≤ b) (hb : b ≤ 4321439) : ∀ (N : Nat) (c : CT), c.size ≤ N → Fine c → (∀ m ∈ momC l c, ¬ (a < m ∧ m ≤ b)) → evC (leafB fs l a) c = evC (leafB fs l b) c := by
  intro N
  induction N with
  | zero => intro c hc; have := c.one_le; omega
  | succ N ih =>
    intro c hc hf h
    obtain ⟨f1, f2, f3, f4⟩ := hf.parts
    rw [momC_eq] at h
    have kid : ∀ x ∈ c.args, evC (leafB fs l a) x = evC (leafB fs l b) x := fun x hx => by
      have := CT.size_args hx
      exact ih x (by omega) (f4.mem hx) fun m hm => h m (List.mem_append_left _ (momCs_mem hx m hm))
    have row : ∀ al : List CT, (∀ x ∈ al, evC (leafB fs l a) x = evC (leafB fs l b) x) → al.all (evC (leafB fs l a)) = al.all (evC (leafB fs l b)) ∧ al.any (evC (leafB fs l a)) = al.any (evC (leafB fs l b)) ∧ evHd (leafB fs l a) al = evHd (leafB fs l b) al := fun al => by
      induction al with
      | nil => intro _; exact ⟨rfl, rfl, by simp [evHd]⟩
      | cons x al ih =>
        intro h
        obtain ⟨i1, i2, _⟩ := ih fun y hy => h y (by simp [hy])
        simp only [List.all_cons, List.any_cons, evHd, h x (by simp), i1, i2, and_self]
    obtain ⟨r1, r2, r3⟩ := row _ kid
    have hown := leafB_const (fs := fs) hl f1 ha hab hb fun m hm => h m (List.mem_append_right _ hm)
    rw [evC_eq, evC_eq (leafB fs l b), evAll_all, evAll_all, evAny_any, evAny_any, r1, r2, r3, hown]
/-! ### the turns -/
def turnsOf (v : Int → Bool) : Bool → List Int → List (Int × Bool)
  | _, [] => []
  | was, m :: L => if v m = was then turnsOf v was L else (m, v m) :: turnsOf v (v m) L
theorem turnsOf_cons (v : Int → Bool) (was : Bool) (m : Int) (L : List Int) : turnsOf v was (m :: L) = (if v m = was then [] else [(m, v m)]) ++ turnsOf v (v m) L := by
  rw [turnsOf]
  by_cases e : v m = was
  · rw [if_pos e, if_pos e, e]; rfl
  · rw [if_neg e, if_neg e]; rfl
theorem turnsOf_mem {v : Int → Bool} : ∀ {L : List Int} {was : Bool} {t : Int × Bool}, t ∈ turnsOf v was L → t.1 ∈ L ∧ t.2 = v t.1
  | [], _, _, h => by cases h
  | m :: L, was, t, h => by
    rw [turnsOf] at h
    split at h
    · have := turnsOf_mem h; exact ⟨by simp [this.1], this.2⟩
    · rcases List.mem_cons.1 h with rfl | h
      · exact ⟨by simp, rfl⟩
      · have := turnsOf_mem h; exact ⟨by simp [this.1], this.2⟩
/-- Turns turn, and stand in order. -/
def alt : Bool → List (Int × Bool) → Prop
  | _, [] => True
  | b, t :: l => t.2 ≠ b ∧ alt t.2 l
theorem turnsOf_alt {v : Int → Bool} : ∀ {L : List Int} {was : Bool}, alt was (turnsOf v was L)
  | [], _ => trivial
  | m :: L, was => by
    rw [turnsOf]
    split
    · exact turnsOf_alt
    · rename_i e; exact ⟨e, turnsOf_alt⟩
theorem turnsOf_up {v : Int → Bool} : ∀ {L : List Int} {was : Bool}, L.Pairwise (· < ·) → (turnsOf v was L).Pairwise fun a b => a.1 < b.1
  | [], _, _ => by rw [turnsOf]; exact List.Pairwise.nil
  | m :: L, was, h => by
    obtain ⟨h1, h2⟩ := List.pairwise_cons.1 h
    rw [turnsOf]
    split
    · exact turnsOf_up h2
    · exact List.pairwise_cons.2 ⟨fun t ht => h1 _ (turnsOf_mem ht).1, turnsOf_up h2⟩
/-- What the turns tell of a moment. -/
def toldB (n : Int) (b : Bool) (l : List (Int × Bool)) : Bool := l.foldl (fun b t => if t.1 ≤ n then t.2 else b) b
theorem toldB_late {n : Int} : ∀ {l : List (Int × Bool)} {b : Bool}, (∀ t ∈ l, ¬ t.1 ≤ n) → toldB n b l = b
  | [], _, _ => rfl
  | t :: l, b, h => by
    unfold toldB
    rw [List.foldl_cons, if_neg (h t (by simp))]
    exact toldB_late fun x hx => h x (by simp [hx])
theorem toldB_cons (n : Int) (b : Bool) (t : Int × Bool) (l : List (Int × Bool)) : toldB n b (t :: l) = toldB n (if t.1 ≤ n then t.2 else b) l := rfl
/-- They tell what is. -/
theorem told_is {v : Int → Bool} {M : List Int} (hc : ∀ a b, 0 ≤ a → a ≤ b → b ≤ 4321439 → (∀ m ∈ M, ¬ (a < m ∧ m ≤ b)) → v a = v b) {n : Int} (hn : n ≤ 4321439) : ∀ {L : List Int} {m0 : Int}, 0 ≤ m0 → m0 ≤ n → L.Pairwise (· < ·) → (∀ m ∈ L, m0 < m) → (∀ m ∈ M, m0 < m → m ≤ n → m ∈ L) → toldB n (v m0) (turnsOf v (v m0) L) = v n
  | [], m0, h0, h1, _, _, h4 => by
    rw [turnsOf]
    exact hc m0 n h0 h1 hn fun m hm hh => by cases h4 m hm hh.1 hh.2
  | m :: L, m0, h0, h1, h2, h3, h4 => by
    obtain ⟨p1, p2⟩ := List.pairwise_cons.1 h2
    have hm0 := h3 m (by simp)
    by_cases e : m ≤ n
    · have ih := told_is hc hn (L := L) (m0 := m) (by omega) e p2 p1 fun x hx hx1 hx2 => by
        rcases List.mem_cons.1 (h4 x hx (by omega) hx2) with rfl | h
        · omega
        · exact h
      rw [turnsOf_cons]
      by_cases ev : v m = v m0
      · rw [if_pos ev, List.nil_append, ← ev]; exact ih
      · rw [if_neg ev]
        show toldB n (v m0) ((m, v m) :: turnsOf v (v m) L) = v n
        rw [toldB_cons, if_pos (show (m, v m).1 ≤ n from e)]
        exact ih
    · rw [toldB_late]
      · refine hc m0 n h0 h1 hn fun x hx hh => ?_
        rcases List.mem_cons.1 (h4 x hx hh.1 hh.2) with rfl | h
        · omega
        · have := p1 x h; omega
      · intro t ht
        rcases List.mem_cons.1 (turnsOf_mem ht).1 with h | h
        · omega
        · have := p1 _ h; omega
theorem sorted_ext {L K : List Int} (h1 : L.Pairwise (· < ·)) (h2 : K.Pairwise (· < ·)) (h : ∀ x, x ∈ L ↔ x ∈ K) : L = K := by
  induction L generalizing K with
  | nil =>
    cases K with
    | nil => rfl
    | cons k K => exact absurd ((h k).2 (by simp)) (by simp)
  | cons a L ih =>
    cases K with
    | nil => exact absurd ((h a).1 (by simp)) (by simp)
    | cons k K =>
      obtain ⟨a1, a2⟩ := List.pairwise_cons.1 h1
      obtain ⟨k1, k2⟩ := List.pairwise_cons.1 h2
      have e : a = k := by
        rcases List.mem_cons.1 ((h a).1 (by simp)) with e | e
        · exact e
        · rcases List.mem_cons.1 ((h k).2 (by simp)) with e' | e'
          · exact e'.symm
          · have := k1 a e; have := a1 k e'; omega
      subst e
      rw [ih a2 k2 fun x => ?_]
      constructor
      · intro hx
        rcases List.mem_cons.1 ((h x).1 (by simp [hx])) with e | e
        · have := a1 x hx; omega
        · exact e
      · intro hx
        rcases List.mem_cons.1 ((h x).2 (by simp [hx])) with e | e
        · have := k1 x hx; omega
        · exact e
/-- The turns behind a moment. -/
theorem turns_behind {v : Int → Bool} {M : List Int} (hc : ∀ a b, 0 ≤ a → a ≤ b → b ≤ 4321439 → (∀ m ∈ M, ¬ (a < m ∧ m ≤ b)) → v a = v b) {n : Int} (hn : n ≤ 4321439) : ∀ {L : List Int} {m0 : Int}, 0 ≤ m0 → m0 ≤ n → L.Pairwise (· < ·) → (∀ m ∈ L, m0 < m) → (∀ m ∈ M, m0 < m → m ≤ n → m ∈ L) →
    (turnsOf v (v m0) L).filter (fun t => decide (n < t.1)) = turnsOf v (v n) (L.filter fun m => decide (n < m))
  | [], m0, _, _, _, _, _ => by simp [turnsOf]
  | m :: L, m0, h0, h1, h2, h3, h4 => by
    obtain ⟨p1, p2⟩ := List.pairwise_cons.1 h2
    have hm0 := h3 m (by simp)
    by_cases e : m ≤ n
    · have ih := turns_behind hc hn (L := L) (m0 := m) (by omega) e p2 p1 fun x hx hx1 hx2 => by
        rcases List.mem_cons.1 (h4 x hx (by omega) hx2) with rfl | h
        · omega
        · exact h
      rw [turnsOf_cons, List.filter_append, ih, List.filter_cons_of_neg (by simp; omega)]
      have : (if v m = v m0 then [] else [(m, v m)]).filter (fun t : Int × Bool => decide (n < t.1)) = [] := by
        split
        · rfl
        · rw [List.filter_cons_of_neg (by simp; omega)]; rfl
      rw [this]; rfl
    · have hv : v m0 = v n := hc m0 n h0 h1 hn fun x hx hh => by
        rcases List.mem_cons.1 (h4 x hx hh.1 hh.2) with rfl | h
        · omega
        · have := p1 x h; omega
      have f1 : (m :: L).filter (fun m => decide (n < m)) = m :: L := List.filter_eq_self.2 fun x hx => by
        rcases List.mem_cons.1 hx with rfl | h
        · exact decide_eq_true (by omega)
        · have := p1 x h; exact decide_eq_true (by omega)
      rw [f1, ← hv]
      exact List.filter_eq_self.2 fun t ht => by
        rcases List.mem_cons.1 (turnsOf_mem ht).1 with h | h
        · exact decide_eq_true (by omega)
        · have := p1 _ h; exact decide_eq_true (by omega)
/-- The moments of a window, in order. -/
structure MomL (M : List Int) (a b : Int) (L : List Int) : Prop where
  up : L.Pairwise (· < ·)
  mem : ∀ x, x ∈ L ↔ (x = a ∨ x ∈ M) ∧ a ≤ x ∧ x < b
theorem MomL.cons {M : List Int} {a b : Int} {L : List Int} (h : MomL M a b L) (hab : a < b) : ∃ L', L = a :: L' ∧ L'.Pairwise (· < ·) ∧ (∀ m ∈ L', a < m) ∧ ∀ x, x ∈ L' ↔ x ∈ M ∧ a < x ∧ x < b := by
  have ha : a ∈ L := (h.mem a).2 ⟨.inl rfl, by omega, hab⟩
  cases L with
  | nil => cases ha
  | cons k L' =>
    obtain ⟨k1, k2⟩ := List.pairwise_cons.1 h.up
    have hk : k = a := by
      rcases List.mem_cons.1 ha with e | e
      · exact e.symm
      · have := k1 a e
        have := ((h.mem k).1 (by simp)).2.1
        omega
    subst hk
    refine ⟨L', rfl, k2, k1, fun x => ⟨fun hx => ?_, fun hx => ?_⟩⟩
    · obtain ⟨h1, h2, h3⟩ := (h.mem x).1 (by simp [hx])
      have := k1 x hx
      refine ⟨?_, this, h3⟩
      rcases h1 with h1 | h1
      · omega
      · exact h1
    · rcases List.mem_cons.1 ((h.mem x).2 ⟨.inr hx.1, by omega, hx.2.2⟩) with e | e
      · omega
      · exact e
section
variable {v : Int → Bool} {M : List Int} (hc : ∀ a b, 0 ≤ a → a ≤ b → b ≤ 4321439 → (∀ m ∈ M, ¬ (a < m ∧ m ≤ b)) → v a = v b)
include hc
theorem told_all {L : List Int} (hL : MomL M 0 4321440 L) {n : Int} (h0 : 0 ≤ n) (hn : n ≤ 4321439) : toldB n false (turnsOf v false L) = v n := by
  obtain ⟨L', rfl, h1, h2, h3⟩ := hL.cons (by decide)
  have main := told_is hc hn (L := L') (m0 := 0) (by decide) h0 h1 h2 fun m hm hm0 hmn => (h3 m).2 ⟨hm, hm0, by omega⟩
  rw [turnsOf_cons]
  by_cases e : v 0 = false
  · rw [if_pos e, List.nil_append]
    rw [e] at main ⊢
    exact main
  · rw [if_neg e]
    show toldB n false ((0, v 0) :: turnsOf v (v 0) L') = v n
    rw [toldB_cons, if_pos (show ((0 : Int), v 0).1 ≤ n from h0)]
    exact main
theorem next_all {L L2 : List Int} {n : Int} (h0 : 0 ≤ n) (hn : n < 4321439) (hL : MomL M 0 4321440 L) (hL2 : MomL M (n + 1) 4321440 L2) : (turnsOf v false L).filter (fun t => decide (n < t.1)) = turnsOf v (v n) L2 := by
  obtain ⟨L', rfl, h1, h2, h3⟩ := hL.cons (by decide)
  obtain ⟨K', rfl, k1, k2, k3⟩ := hL2.cons (by omega)
  have main := turns_behind hc (by omega : n ≤ 4321439) (L := L') (m0 := 0) (by decide) h0 h1 h2 fun m hm hm0 hmn => (h3 m).2 ⟨hm, hm0, by omega⟩
  have e0 : (turnsOf v false (0 :: L')).filter (fun t => decide (n < t.1)) = (turnsOf v (v 0) L').filter (fun t => decide (n < t.1)) := by
    rw [turnsOf_cons, List.filter_append]
    have : (if v 0 = false then [] else [((0 : Int), v 0)]).filter (fun t : Int × Bool => decide (n < t.1)) = [] := by
      split
      · rfl
      · rw [List.filter_cons_of_neg (by simp; omega)]; rfl
    rw [this]; rfl
  rw [e0, main]
  have hf : ∀ x, x ∈ L'.filter (fun m => decide (n < m)) ↔ x ∈ M ∧ n < x ∧ x < 4321440 := fun x => by
    rw [List.mem_filter, h3]
    constructor
    · rintro ⟨⟨a, b, c⟩, d⟩
      exact ⟨a, of_decide_eq_true d, c⟩
    · rintro ⟨a, b, c⟩
      exact ⟨⟨a, by omega, c⟩, decide_eq_true b⟩
  by_cases e : n + 1 ∈ M
  · congr 1
    refine sorted_ext (h1.filter _) (List.pairwise_cons.2 ⟨k2, k1⟩) fun x => ?_
    rw [hf, List.mem_cons, k3]
    constructor
    · rintro ⟨a, b, c⟩
      by_cases hx : x = n + 1
      · exact .inl hx
      · exact .inr ⟨a, by omega, c⟩
    · rintro (rfl | ⟨a, b, c⟩)
      · exact ⟨e, by omega, by omega⟩
      · exact ⟨a, by omega, c⟩
  · have hv : v (n + 1) = v n := (hc n (n + 1) h0 (by omega) (by omega) fun m hm hh => e (by
      have : m = n + 1 := by omega
      rw [← this]; exact hm)).symm
    rw [turnsOf_cons, if_pos hv, List.nil_append, hv]
    congr 1
    refine sorted_ext (h1.filter _) k1 fun x => ?_
    rw [hf, k3]
    constructor
    · rintro ⟨a, b, c⟩
      refine ⟨a, ?_, c⟩
      have : x ≠ n + 1 := fun h => e (h ▸ a)
      omega
    · rintro ⟨a, b, c⟩
      exact ⟨a, by omega, c⟩
end
end Go.Proofs.YteldpijfienopaaGreatDoorVc
-- TuSpec1
namespace Go.Proofs.YteldpijfienopaaGreatDoorVc
open Go.Proofs.Tryz (prog)
def kI (n : Int) : V := .one (.int .i64 n)
def vB (b : Bool) : V := .one (.bool b)
/-- A set of moments. -/
abbrev momM (l : List (Int × Bool)) : Obj := .map (amap kI vB l)
theorem setM_set (h : Heap) (m : Nat) (a b : Obj) : (h.set m a).set m b = h.set m b := by
  funext j
  by_cases e : j = m
  · subst e; rw [set_eq, set_eq]
  · rw [set_ne _ _ e, set_ne _ _ e, set_ne _ _ e]
theorem setM_self {h : Heap} {m : Nat} {a : Obj} (e : h m = some a) : h.set m a = h := by
  funext j
  by_cases x : j = m
  · subst x; rw [set_eq, e]
  · rw [set_ne _ _ x]
theorem delM_ext (h : Heap) (m : Nat) (o : Obj) : Ext (h.del m) (h.set m o) := fun j x hx => by
  have : j ≠ m := fun e => by subst e; simp [Heap.del] at hx
  rw [del_ne _ this] at hx
  rw [set_ne _ _ this]; exact hx
/-- Which moments stand there. -/
def MomK (l : List (Int × Bool)) (S : Int → Prop) : Prop := (l.map (·.1)).Nodup ∧ ∀ x, x ∈ l.map (·.1) ↔ S x
theorem MomK.add {l : List (Int × Bool)} {S : Int → Prop} (M : MomK l S) (k : Int) (b : Bool) : MomK (aset l k b) (fun x => S x ∨ x = k) := by
  refine ⟨aset_nodup M.1 k b, fun x => ?_⟩
  rw [aset_keys]
  by_cases h : k ∈ l.map (·.1)
  · rw [if_pos h, M.2]
    constructor
    · exact .inl
    · rintro (h1 | rfl)
      · exact h1
      · exact (M.2 _).1 h
  · rw [if_neg h, List.mem_append, M.2]; simp
theorem MomK.to {l : List (Int × Bool)} {S S' : Int → Prop} (M : MomK l S) (h : ∀ x, S x ↔ S' x) : MomK l S' := ⟨M.1, fun x => (M.2 x).trans (h x)⟩
/-- A moment is laid. -/
theorem momK_put {h : Heap} {m : Nat} {l : List (Int × Bool)} {S : Int → Prop} (M : MomK l S) {n : Int} {k : T} (hk : ∀ l', MomK l' (fun x => S x ∨ x = n) → k (h.set m (momM l'))) : mapK [] (some m) (.one (.int .i64 n)) (.one (.bool true)) k (h.set m (momM l)) := by
  refine ⟨_, _, set_eq _ _ _, amap_set keyInt vB n true l, ?_⟩
  rw [setM_set]
  exact hk _ (M.add n true)
theorem keyed_int (n : Int) : keyed prog 3 (.one (.int .i64 n)) = true := by kernel_rfl
/-- .. by halves. -/
theorem entK_put {h : Heap} {m : Nat} {l : List (Int × Bool)} {S : Int → Prop} (M : MomK l S) {n : Int} {k : T} (hk : ∀ l', MomK l' (fun x => S x ∨ x = n) → k (h.set m (momM l'))) :
    entK [] (some m) (.one (.int .i64 n)) (.one (.bool false)) (fun x i g => ∃ b : Bool, x = .one (.bool b) ∧ entStK [] (some m) (keyed prog 3) ((i : Nat) : Int) (.one (.bool true)) k g) (h.set m (momM l)) := by
  have hg := amap_get keyInt vB (.one (.bool false)) n l
  obtain ⟨x0, b, hx⟩ : ∃ (x0 : Bool) (b : Bool), agetV (.one (.bool false)) vB (aget l n) = (vB x0, b) := by
    cases aget l n with
    | none => exact ⟨false, false, rfl⟩
    | some x => exact ⟨x, true, rfl⟩
  rw [hx] at hg
  refine ⟨_, _, vB x0, b, set_eq _ _ _, hg, amap_set keyInt vB n x0 l, fun i => ⟨x0, rfl, _, _, .one (.int .i64 n), i, set_eq _ _ _, rfl, keyed_int n, amap_set keyInt vB n true _, ?_⟩⟩
  rw [setM_set, setM_set]
  exact hk _ (((M.add n x0).add n true).to fun x => by
    constructor
    · rintro ((h | h) | h)
      · exact .inl h
      · exact .inr h
      · exact .inr h
    · rintro (h | h)
      · exact .inl (.inl h)
      · exact .inr h)
theorem momCs_take {l : List Evt} {al : List CT} {k : Nat} {a : CT} (h : al[k]? = some a) (x : Int) : x ∈ momCs l (al.take (k + 1)) ↔ x ∈ momCs l (al.take k) ∨ x ∈ momC l a := by
  have main : ∀ (bs : List CT), x ∈ momCs l (bs ++ [a]) ↔ x ∈ momCs l bs ∨ x ∈ momC l a := fun bs => by
    induction bs with
    | nil => simp [momCs]
    | cons b bs ih =>
      show x ∈ momCs l (b :: (bs ++ [a])) ↔ _
      rw [momCs, momCs, List.mem_append, List.mem_append, ih, or_assoc]
  rw [take_snoc h, main]
theorem wrap_sum {a b : Int} (h1 : 0 ≤ a) (h2 : a ≤ 4321439) (h3 : -5000000 ≤ b) (h4 : b ≤ 5000000) : IntKind.i64.wrap (a + b) = a + b := by rw [w64] <;> omega
section
variable {Pm : Prim} {I : Calls} {TT : Heap → Prop}
theorem flat_take {c : CT} {ts : List Int} {k : Nat} {t : Int} (h : ts[k]? = some t) (x : Int) : x ∈ (ts.take (k + 1)).flatMap (stepM c) ↔ x ∈ (ts.take k).flatMap (stepM c) ∨ x ∈ stepM c t := by
  rw [take_snoc h]; simp
theorem spec85 (hI : Closed' prog Pm I) {fs : List Fld} {lv : List Evt} (hl : GoodL lv) : ∀ (N : Nat) {c : CT}, c.size ≤ N → ∀ {Q : Post} {h : Heap} {b m : Nat} {l : List (Int × Bool)} {S : Int → Prop}, NodeAt (h.del m) fs lv c b → Fine c → c.size < 1000000 → MomK l S →
    (∀ l', MomK l' (fun x => S x ∨ x ∈ momC lv c) → Q [] (h.set m (momM l'))) → I 85 [.one (.ptr (some (b, 0))), .one (.map (some m))] Q (h.set m (momM l)) := by
  intro N
  induction N with
  | zero => intro c hc; have := c.one_le; omega
  | succ N ih =>
    intro c hc Q h b m l S hn hf hsz hM hQ
    refine hI.go _ _ (den85 I (some (b, 0)) (some m) Q) ?_
    obtain ⟨f1, f2, f3, f4⟩ := hf.parts
    obtain ⟨u, hu, _, _, _, _, _, hw, hbn⟩ := errN_parts f1
    have hns0 := hn.parts
    obtain ⟨sv, sw, sa, sk, fx, st, ss, fi, ps, hcell0, hca, hks0, hV0, hns⟩ := hns0
    have hargs : c.args.length < 1000000 := by
      have := args_le c.args
      have := c.size_eq
      omega
    have hpl := hns.len
    have hcell : ∀ l', (h.set m (momM l')) b = some (.cells false (nodeC c sv sw sa sk fx st ss fi)) := fun l' => delM_ext h m _ _ _ hcell0
    have hks : ∀ l', At (h.set m (momM l')) 1 sk (ptrs ps) := fun l' => (delM_ext h m _).at_ hks0
    have ls : sk.len = ps.length := by rw [hks0.len1, ptrs_length]
    refine derefK_intro rfl ⟨sk, read_cell (hcell l) rfl, ?_⟩
    refine loopK_intro (fun (n : Int) g q => ∃ (k : Nat) (l' : List (Int × Bool)), k ≤ ps.length ∧ n = k ∧ ps.length - k = q ∧ g = h.set m (momM l') ∧ MomK l' (fun x => S x ∨ x ∈ momCs lv (c.args.take k))) ps.length
      ⟨0, l, by omega, rfl, rfl, rfl, hM.to fun x => by simp [momCs]⟩ ?_
    rintro n g q ⟨k, l1, hk, rfl, rfl, rfl, hM1⟩
    refine ifT_dec (fun hlt => ⟨⟨by omega, hlt⟩, ?_⟩) fun hge => ?_
    · have hx := List.getElem?_eq_getElem (show k < c.args.length by omega)
      generalize c.args[k] = a at hx
      obtain ⟨b', hb', hnode⟩ := hns.get hx
      have hm := List.mem_of_getElem? hx
      have := CT.size_args hm
      refine (hks l1).cell (ptrs_get hb') fun bb oo hr => ⟨_, hr, ih (by omega) hnode (f4.mem hm) (by omega) hM1 fun l2 hM2 => ⟨rfl, ?_⟩⟩
      refine ⟨ps.length - (k + 1), by omega, k + 1, l2, by omega, by rw [w64] <;> omega, rfl, rfl, hM2.to fun x => ?_⟩
      rw [momCs_take hx, or_assoc]
    have hk2 : k = c.args.length := by omega
    subst hk2
    rw [List.take_length] at hM1
    rw [momC_eq] at hQ
    refine derefK_intro rfl ⟨c.kind, read_cell (hcell l1) rfl, ?_⟩
    refine joinK_intro (fun (_ : PUnit) g => ∃ l2, g = h.set m (momM l2) ∧ MomK l2 (fun x => (S x ∨ x ∈ momCs lv c.args) ∨ x ∈ (if c.kind = 14 then [firstL c lv (-1)] else []))) ?_ fun jk hjk => ?_
    case refine_2 =>
      refine ifT_dec (fun e => ?_) fun e => hjk _ _ ⟨l1, rfl, hM1.to fun x => by rw [if_neg e]; simp⟩
      refine derefK_intro rfl ⟨fi, read_cell (hcell l1) rfl, momK_put hM1 fun l2 hM2 => hjk _ _ ⟨l2, rfl, hM2.to fun x => ?_⟩⟩
      rw [if_pos e, hV0.fst e]; simp
    rintro _ _ ⟨l2, rfl, hM2⟩
    refine derefK_intro rfl ⟨st, read_cell (hcell l2) rfl, ?_⟩
    by_cases ek : c.kind = 11 ∨ c.kind = 12 ∨ c.kind = 13
    case neg =>
      have h0 := hV0.emp ek
      refine loopK_intro (fun (n : Int) g q => n = 0 ∧ g = h.set m (momM l2)) 0 ⟨rfl, rfl⟩ ?_
      rintro n g q ⟨rfl, rfl⟩
      refine ifT_dec (fun hlt => by omega) fun hge => hQ l2 (hM2.to fun x => ?_)
      unfold ownM
      rw [if_neg ek, List.append_nil, List.mem_append, or_assoc]
    obtain ⟨g1, g2, g3⟩ := hl.times c
    have hll := hl.len
    have ht0 := (hV0.tms ek).1
    have hst : st.len = (timesL c lv).length := by rw [ht0.len1, ints_length]
    refine loopK_intro (fun (n : Int) g q => ∃ (k : Nat) (l' : List (Int × Bool)), k ≤ (timesL c lv).length ∧ n = k ∧ (timesL c lv).length - k = q ∧ g = h.set m (momM l') ∧ MomK l' (fun x => ((S x ∨ x ∈ momCs lv c.args) ∨ x ∈ (if c.kind = 14 then [firstL c lv (-1)] else [])) ∨ x ∈ ((timesL c lv).take k).flatMap (stepM c))) (timesL c lv).length
      ⟨0, l2, by omega, rfl, rfl, rfl, hM2.to fun x => by simp⟩ ?_
    rintro n g q ⟨k, l3, hk, rfl, rfl, rfl, hM3⟩
    refine ifT_dec (fun hlt => ⟨⟨by omega, hlt⟩, ?_⟩) fun hge => ?_
    · have hx := List.getElem?_eq_getElem (show k < (timesL c lv).length by omega)
      have hxm := List.mem_of_getElem? hx
      generalize (timesL c lv)[k] = t at hx hxm
      have ht := g3 t hxm
      have next : ∀ l5, MomK l5 (fun x => (((S x ∨ x ∈ momCs lv c.args) ∨ x ∈ (if c.kind = 14 then [firstL c lv (-1)] else [])) ∨ x ∈ ((timesL c lv).take k).flatMap (stepM c)) ∨ x ∈ stepM c t) →
          ∃ q', q' < (timesL c lv).length - k ∧ ∃ (k' : Nat) (l' : List (Int × Bool)), k' ≤ (timesL c lv).length ∧ IntKind.i64.wrap ((k : Int) + 1) = k' ∧ (timesL c lv).length - k' = q' ∧ h.set m (momM l5) = h.set m (momM l') ∧ MomK l' (fun x => ((S x ∨ x ∈ momCs lv c.args) ∨ x ∈ (if c.kind = 14 then [firstL c lv (-1)] else [])) ∨ x ∈ ((timesL c lv).take k').flatMap (stepM c)) := fun l5 hM5 =>
        ⟨(timesL c lv).length - (k + 1), by omega, k + 1, l5, by omega, by rw [w64] <;> omega, rfl, rfl, hM5.to fun x => by rw [flat_take hx, or_assoc]⟩
      refine ((delM_ext h m _).at_ ht0).cell (ints_get hx) fun bb oo hr => ⟨t, hr, momK_put hM3 fun l4 hM4 => ?_⟩
      refine derefK_intro rfl ⟨c.kind, read_cell (hcell l4) rfl, ifT_dec (fun e13 => ?_) fun e13 => ?_⟩
      · simp only [boundsN, e13, if_true] at hbn
        refine derefK_intro rfl ⟨c.num, read_cell (hcell l4) rfl, derefK_intro rfl ⟨c.num, read_cell (hcell l4) rfl, ?_⟩⟩
        rw [wrap_sum ht.1 ht.2 (by omega) (by omega), show IntKind.i64.wrap (t + c.num + 1) = t + c.num + 1 by rw [w64] <;> omega]
        refine entK_put hM4 fun l5 hM5 => entK_put hM5 fun l6 hM6 => next l6 (hM6.to fun x => ?_)
        unfold stepM
        rw [if_pos e13]
        simp only [List.mem_cons, List.not_mem_nil, or_false, or_assoc]
      · refine derefK_intro rfl ⟨c.within, read_cell (hcell l4) rfl, ifT_dec (fun ew => ?_) fun ew => ?_⟩
        · refine derefK_intro rfl ⟨c.within, read_cell (hcell l4) rfl, ?_⟩
          rw [wrap_sum ht.1 ht.2 (by omega) (by omega)]
          refine momK_put hM4 fun l5 hM5 => next l5 (hM5.to fun x => ?_)
          unfold stepM
          rw [if_neg e13, if_pos ew]
          simp only [List.mem_cons, List.not_mem_nil, or_false, or_assoc]
        · refine next l4 (hM4.to fun x => ?_)
          unfold stepM
          rw [if_neg e13, if_neg ew]
          simp only [List.mem_cons, List.not_mem_nil, or_false]
    · have hk3 : k = (timesL c lv).length := by omega
      subst hk3
      rw [List.take_length] at hM3
      refine hQ l3 (hM3.to fun x => ?_)
      unfold ownM
      rw [if_pos ek, List.mem_append, List.mem_append, or_assoc, or_assoc]
end
end Go.Proofs.YteldpijfienopaaGreatDoorVc
-- TuSpec2
namespace Go.Proofs.YteldpijfienopaaGreatDoorVc
open Go.Proofs.Tryz (prog)
/-- What is asked of slices.Sort. -/
structure SortI (I : Calls) : Prop where
  row : ∀ {b : Nat} {zs : List Int} {Q : Post} {h : Heap}, h b = some (.cells false (ints zs)) → zs.length < 1000000 → Q [] (h.set b (.cells false (ints (zs.mergeSort fun x y => decide (x ≤ y))))) → I 86 [.one (.slice 1 ⟨some (b, 0), zs.length⟩)] Q h
  none_ : ∀ {Q : Post} {h : Heap}, Q [] h → I 86 [.one (.slice 1 ⟨none, 0⟩)] Q h
def turnC (t : Int × Bool) : List Cell := [.str ByteArray.empty, .int .i64 t.1, .bool t.2]
theorem turnC_len (t : Int × Bool) : (turnC t).length = 3 := rfl
/-- Is a moment in the window? -/
def inW (a b x : Int) : Bool := decide (a ≤ x) && decide (x < b)
/-- The moments, sorted. -/
theorem momL_sort {l : List (Int × Bool)} {M : List Int} {a b : Int} (hM : MomK l (fun x => (False ∨ x = a) ∨ x ∈ M)) {D : List Int} (hD : D.Perm (l.map (·.1))) : MomL M a b ((D.filter (inW a b)).mergeSort fun x y => decide (x ≤ y)) := by
  have hp := List.mergeSort_perm (D.filter (inW a b)) (fun x y => decide (x ≤ y))
  have hs := List.pairwise_mergeSort (le := fun x y : Int => decide (x ≤ y)) (fun x y z h1 h2 => by simp at *; omega) (fun x y => by simp; omega) (D.filter (inW a b))
  have hn : ((D.filter (inW a b)).mergeSort fun x y => decide (x ≤ y)).Nodup := hp.nodup_iff.2 ((hD.nodup_iff.2 hM.1).filter _)
  generalize (D.filter (inW a b)).mergeSort (fun x y => decide (x ≤ y)) = L at *
  refine ⟨?_, fun x => ?_⟩
  · refine (hs.and hn).imp fun {x y} h => ?_
    have h1 := of_decide_eq_true h.1
    have h2 : x ≠ y := h.2
    omega
  · rw [hp.mem_iff, List.mem_filter, hD.mem_iff, hM.2]
    unfold inW
    simp
theorem momL_len {l : List (Int × Bool)} {M : List Int} {a : Int} (hM : MomK l (fun x => (False ∨ x = a) ∨ x ∈ M)) : l.length ≤ M.length + 1 := by
  have := List.Nodup.length_le_of_subset (l₂ := a :: M) hM.1 fun x hx => by
    rcases (hM.2 x).1 hx with (h | h) | h
    · exact h.elim
    · simp [h]
    · simp [h]
  simpa using this
section
variable {Pm : Prim} {I : Calls} {TT : Heap → Prop}
abbrev fMom (q : Int × Bool) : V × V := (kI q.1, vB q.2)
/-- The range over the moments. -/
theorem range_moms {h : Heap} {m : Nat} {l : List (Int × Bool)} (hm : h m = none) (hl : l.length < 1000000) {n1 n2 : Int} {K : Sl → T}
    (hK : ∀ (s : Sl) (D : List Int) (g : Heap), D.Perm (l.map (·.1)) → Owns h g [(1, s, ints (D.filter (inW n1 n2)))] → K s g) :
    rangeK m (fun i10 => loopK (A := Sl) ({ a := none, len := 0 })
      (fun x11 => fun l12 => fun h13 => 
      (nextK i10
        (K l12)
        (fun x32 => fun x33 => fun h34 => 
        ∃ n35 : Int, ∃ b36 : Bool, (x32 = V.one (Cell.int IntKind.i64 n35)) ∧
        (x33 = V.one (Cell.bool b36)) ∧
        (entryK i10 (fun x37 => fun x38 => fun h39 => 
        ∃ n40 : Int, ∃ b41 : Bool, (x37 = V.one (Cell.int IntKind.i64 n40)) ∧
        (x38 = V.one (Cell.bool b41)) ∧
        (ifT (decide (n1 ≤ n40))
          (ifT (decide (n40 < n2))
            (fun h42 =>
            (appendTo [] 1 8 l12 1 [Cell.int IntKind.i64 n40] (fun l43 => fun h44 => 
            x11 l43 h44)) h42)
            (x11 l12))
          (x11 l12)) h39)) h34)) h13)) (h.set m (momM l)) := by
  refine rangeK_in (φ := fMom) (dm := l) (set_eq _ _ _) fun fc ck j hfc hnd hj hjm => ?_
  have hj0 : h j = none := by rw [set_ne _ _ hjm] at hj; exact hj
  have o0 : Owns h (((h.set m (momM l)).set m (.mapF (fcF fMom fc) ck)).set j (.iter m [] ck)) [(1, ⟨none, 0⟩, ints (([] : List Int).filter (inW n1 n2)))] := by
    have e1 : Ext h (((h.set m (momM l)).set m (.mapF (fcF fMom fc) ck)).set j (.iter m [] ck)) := fun i x hx => by
      have h1 : i ≠ m := fun e => by subst e; rw [hm] at hx; cases hx
      have h2 : i ≠ j := fun e => by subst e; rw [hj0] at hx; cases hx
      rw [set_ne _ _ h2, set_ne _ _ h1, set_ne _ _ h1]; exact hx
    exact ((Owns.nil h).mono e1).none_ 1
  have hmj : m ≠ j := fun e => hjm e.symm
  refine loopK_intro (fun (s : Sl) g n => ∃ (D : List Int) (seen : List Nat), g m = some (.mapF (fcF fMom fc) ck) ∧ g j = some (.iter m seen ck) ∧ Owns h g [(1, s, ints (D.filter (inW n1 n2)))] ∧ (D ++ (leftC fc seen).map (·.1.1)).Perm (l.map (·.1)) ∧ n = (leftC fc seen).length) fc.length
    ⟨[], [], by rw [set_ne _ _ hmj, set_eq], set_eq _ _ _, o0, by rw [leftC_nil, List.nil_append, ← hfc, List.map_map]; exact List.Perm.refl _, by rw [leftC_nil]⟩ ?_
  rintro s g n ⟨D, seen, gm, gj, o, hp, rfl⟩
  refine nextK_in (φ := fMom) gj gm hnd (fun hnil => ?_) fun q hq hpq => ?_
  · rw [hnil] at hp
    simp only [List.map_nil, List.append_nil] at hp
    exact hK s D _ hp (o.setAny hm fun cs e => by rw [gm] at e; cases e)
  · refine ⟨q.1.1, q.1.2, rfl, rfl, ?_⟩
    have gm2 : (g.set j (.iter m (seen ++ [q.2]) ck)) m = some (.mapF (fcF fMom fc) ck) := by rw [set_ne _ _ hmj]; exact gm
    have o2 : Owns h (g.set j (.iter m (seen ++ [q.2]) ck)) [(1, s, ints (D.filter (inW n1 n2)))] := o.setAny hj0 fun cs e => by rw [gj] at e; cases e
    have gj2 : (g.set j (.iter m (seen ++ [q.2]) ck)) j = some (.iter m (seen ++ [q.2]) ck) := set_eq _ _ _
    refine entryK_in (φ := fMom) gj2 gm2 hq ?_
    have hlen := hpq.length_eq
    simp only [List.length_cons] at hlen
    have hp2 : ((D ++ [q.1.1]) ++ (leftC fc (seen ++ [q.2])).map (·.1.1)).Perm (l.map (·.1)) := by
      refine List.Perm.trans ?_ hp
      have := (hpq.map (·.1.1)).append_left D
      rw [List.append_assoc]
      exact this.symm
    have hDl : D.length ≤ l.length := by
      have := hp.length_eq
      simp only [List.length_append, List.length_map] at this
      omega
    have hfl : (D.filter (inW n1 n2)).length ≤ D.length := List.length_filter_le ..
    generalize hg2 : g.set j (.iter m (seen ++ [q.2]) ck) = g2 at gm2 o2 gj2
    refine ⟨q.1.1, q.1.2, rfl, rfl, ?_⟩
    have fin : ∀ s2 g3, g3 m = some (.mapF (fcF fMom fc) ck) → g3 j = some (.iter m (seen ++ [q.2]) ck) → Owns h g3 [(1, s2, ints ((D ++ [q.1.1]).filter (inW n1 n2)))] → ∃ n', n' < (leftC fc seen).length ∧ ∃ (D : List Int) (seen : List Nat), g3 m = some (.mapF (fcF fMom fc) ck) ∧ g3 j = some (.iter m seen ck) ∧ Owns h g3 [(1, s2, ints (D.filter (inW n1 n2)))] ∧ (D ++ (leftC fc seen).map (·.1.1)).Perm (l.map (·.1)) ∧ n' = (leftC fc seen).length :=
      fun s2 g3 a1 a2 a3 => ⟨_, by omega, D ++ [q.1.1], seen ++ [q.2], a1, a2, a3, hp2, rfl⟩
    have skip : inW n1 n2 q.1.1 = false → Owns h g2 [(1, s, ints ((D ++ [q.1.1]).filter (inW n1 n2)))] := fun e => by
      rw [List.filter_append, List.filter_cons_of_neg (by simp [e]), List.filter_nil, List.append_nil]; exact o2
    refine ifT_dec (fun h1 => ifT_dec (fun h2 => ?_) fun h2 => ?_) fun h1 => ?_
    · have hsl : s.len = (D.filter (inW n1 n2)).length := by have := (o2.all _ List.mem_cons_self).1; simpa [ints_length] using this
      refine appendTo_keep2 (m := 0) o2 (by rfl) (by omega) fun j2 g3 keep o3 => fin _ g3 (keep _ _ gm2 fun cs e => by cases e) (keep _ _ gj2 fun cs e => by cases e) ?_
      have e1 : inW n1 n2 q.1.1 = true := by unfold inW; rw [decide_eq_true h1, decide_eq_true h2]; rfl
      rw [List.filter_append, List.filter_cons_of_pos e1, List.filter_nil]
      have : ints (D.filter (inW n1 n2) ++ [q.1.1]) = ints (D.filter (inW n1 n2)) ++ [.int .i64 q.1.1] := by simp [ints]
      rw [this]; exact o3
    · exact fin s g2 gm2 gj2 (skip (by unfold inW; rw [decide_eq_false h2, Bool.and_false]))
    · exact fin s g2 gm2 gj2 (skip (by unfold inW; rw [decide_eq_false h1, Bool.false_and]))
/-- What is told of a window. -/
theorem spec41 (hI : Closed' prog Pm I) (hS : SortI I) {fs : List Fld} {lv : List Evt} (hl : GoodL lv) {c : CT} {Q : Post} {h : Heap} {b : Nat} {n1 n2 : Int} {was : Bool} (hn : NodeAt h fs lv c b) (hf : Fine c) (hsz : c.size < 1000000) (hml : (momC lv c).length < 900000) (h1 : 0 ≤ n1) (h2 : n2 ≤ 4321440)
    (hQ : ∀ s L h', Ext h h' → MomL (momC lv c) n1 n2 L → At (Nw h h') 3 s (rows turnC (turnsOf (fun n => evC (leafB fs lv n) c) was L)) → Q [.one (.slice 3 s)] h') : I 41 [.one (.ptr (some (b, 0))), .agg [.int .i64 n1, .int .i64 n2], boo was] Q h := by
  refine hI.go _ _ (den41 I (some (b, 0)) n1 n2 was Q) ?_
  refine newK_intro fun m h' hm he => ?_
  subst he
  have hmp : MomK ([] : List (Int × Bool)) (fun _ => False) := ⟨List.nodup_nil, fun x => by simp⟩
  refine momK_put (l := []) hmp fun l1 hM1 => ?_
  have hdel : h.del m = h := by
    funext j
    by_cases e : j = m
    · subst e; rw [hm]; simp [Heap.del]
    · rw [del_ne _ e]
  refine spec85 hI hl c.size (Nat.le_refl _) (hdel.symm ▸ hn) hf hsz hM1 fun l2 hM2 => ⟨rfl, ?_⟩
  have hl2 := momL_len hM2
  refine range_moms hm (by omega) fun s D g hD o => ?_
  have hL := momL_sort (a := n1) (b := n2) hM2 hD
  have hlen : ((D.filter (inW n1 n2)).mergeSort fun x y => decide (x ≤ y)).length = (D.filter (inW n1 n2)).length := List.length_mergeSort _
  have hDl := hD.length_eq
  have hfl : (D.filter (inW n1 n2)).length ≤ D.length := List.length_filter_le ..
  rw [List.length_map] at hDl
  have rest : ∀ (s : Sl) (g : Heap), Owns h g [(1, s, ints ((D.filter (inW n1 n2)).mergeSort fun x y => decide (x ≤ y)))] → loopK (A := Bool × Sl × Int) ((was, { a := none, len := 0 }, 0))
            (fun x17 => uncur fun b18 => uncur fun l19 n20 => ifT (decide (n20 < (↑s.len : Int)))
              (fun h21 =>
              ((0 ≤ n20) ∧
              n20 < (↑s.len : Int)) ∧
              (derefK s.a (fun i22 => fun i23 => fun h24 =>
              ∃ n25 : Int, (h24.read i22 (i23 + n20.toNat * 1) 1 = some [Cell.int IntKind.i64 n25]) ∧
              I 38 [V.one (Cell.ptr (some (b, 0))), V.one (Cell.int IntKind.i64 n25)]
                (fun cs26 => fun h27 => 
                ∃ b28 : Bool, (cs26 = [V.one (Cell.bool b28)]) ∧
                (ifT (!decide (b28 = b18))
                  (fun h29 =>
                  (appendTo [] 3 32 l19 1 [Cell.str ByteArray.empty, Cell.int IntKind.i64 n25, Cell.bool b28] (fun l30 => fun h31 => 
                  x17 ((b28, l30, IntKind.i64.wrap (n20 + 1))) h31)) h29)
                  (x17 ((b18, l19, IntKind.i64.wrap (n20 + 1))))) h27) h24)) h21)
              (Q [V.one (Cell.slice 3 l19)])) g := fun s g o => by
    generalize (D.filter (inW n1 n2)).mergeSort (fun x y => decide (x ≤ y)) = L at o hL hlen
    obtain ⟨v, hv⟩ : ∃ v : Int → Bool, (fun n => evC (leafB fs lv n) c) = v := ⟨_, rfl⟩
    rw [hv] at hQ
    have hsl : s.len = L.length := by have := (o.all _ List.mem_cons_self).1; simpa [ints_length] using this
    refine loopK_intro (fun (p : Bool × Sl × Int) g q => ∃ (w : Bool) (s2 : Sl) (k : Nat) (Z : List (Int × Bool)), k ≤ L.length ∧ p = (w, s2, (k : Int)) ∧ L.length - k = q ∧ Owns h g [(3, s2, rows turnC Z), (1, s, ints L)] ∧ turnsOf v was L = Z ++ turnsOf v w (L.drop k) ∧ Z.length ≤ k) L.length
      ⟨was, ⟨none, 0⟩, 0, [], by omega, rfl, rfl, o.none_ 3, by simp, by simp⟩ ?_
    intro p g q hp
    obtain ⟨w, s2, k, Z, hk, hp, hq, o, hZ, hZl⟩ := hp
    subst hp
    subst hq
    dsimp only [uncur]
    refine ifT_dec (fun hlt => ⟨⟨by omega, hlt⟩, ?_⟩) fun hge => ?_
    · have hx := List.getElem?_eq_getElem (show k < L.length by omega)
      have hxm := List.mem_of_getElem? hx
      generalize L[k] = t at hx hxm
      obtain ⟨_, t1, t2⟩ := (hL.mem t).1 hxm
      refine (o.at_ (sz := 1) (s := s) (cs := ints L) (by simp)).cell (ints_get hx) fun bb oo hr => ⟨t, hr, ?_⟩
      refine spec38 hI hl (by omega) (by omega) c.size (Nat.le_refl _) (hn.ext o.ext) hf hsz fun g2 x2 => ⟨_, rfl, ?_⟩
      have hvt : evC (leafB fs lv t) c = v t := by rw [← hv]
      rw [hvt]
      have o2 := o.mono x2
      rw [drop_mid hx, turnsOf] at hZ
      refine ifT_intro (fun e => ?_) fun e => ?_
      · have e := nd e
        have hs2 : s2.len = Z.length := by have := (o2.all _ List.mem_cons_self).1; simp only [rows_length turnC_len] at this; omega
        refine appendTo_owns (m := 0) o2 (by rfl) (by omega) (by simp) fun j g3 o3 => ?_
        rw [if_neg e] at hZ
        refine ⟨L.length - (k + 1), by omega, v t, _, k + 1, Z ++ [(t, v t)], by omega, by rw [show IntKind.i64.wrap ((k : Int) + 1) = ((k + 1 : Nat) : Int) by rw [w64] <;> omega], rfl, ?_, by rw [hZ]; simp, by simp; omega⟩
        rw [rows_append]
        exact o3
      · have e := Decidable.of_not_not (nd' e)
        rw [if_pos e] at hZ
        exact ⟨L.length - (k + 1), by omega, w, s2, k + 1, Z, by omega, by rw [show IntKind.i64.wrap ((k : Int) + 1) = ((k + 1 : Nat) : Int) by rw [w64] <;> omega], rfl, o2, hZ, by omega⟩
    · have hk2 : k = L.length := by omega
      subst hk2
      rw [List.drop_length, turnsOf, List.append_nil] at hZ
      refine hQ s2 L g o.ext hL ?_
      rw [hZ]
      exact (Nw.ownS0 o (by simp)).at_
  have ow := o.all _ List.mem_cons_self
  rcases ow.2 with ⟨a1, a2⟩ | ⟨b2, a1, a2, a3⟩
  · have hsl := ow.1
    simp only at a1 a2 hsl
    have hnil : D.filter (inW n1 n2) = [] := by simpa [ints] using a2
    rw [a2] at hsl
    have hs : s = ⟨none, 0⟩ := by
      obtain ⟨sa, sl⟩ := s
      simp only at a1 hsl
      subst a1
      simp at hsl
      rw [hsl]
    subst hs
    refine hS.none_ ⟨rfl, ?_⟩
    refine rest _ g ?_
    rw [hnil, List.mergeSort_nil, ← hnil]; exact o
  · have hsl := ow.1
    simp only at a1 a3 hsl
    have hs : s = ⟨some (b2, 0), (D.filter (inW n1 n2)).length⟩ := by
      obtain ⟨sa, sl⟩ := s
      simp only at a1 hsl
      subst a1
      rw [ints_length] at hsl
      simp only [Nat.mul_one] at hsl
      rw [hsl]
    subst hs
    refine hS.row a3 (by omega) ⟨rfl, ?_⟩
    refine rest _ _ ?_
    exact o.change (by rw [ints_length, hlen]; simp)
end
end Go.Proofs.YteldpijfienopaaGreatDoorVc
-- TuSpec3
namespace Go.Proofs.YteldpijfienopaaGreatDoorVc
open Go.Proofs.Tryz (prog)
theorem flat_le {c : CT} (ts : List Int) : (ts.flatMap (stepM c)).length ≤ 3 * ts.length := by
  induction ts with
  | nil => simp
  | cons t ts ih =>
    rw [List.flatMap_cons, List.length_append, List.length_cons]
    have : (stepM c t).length ≤ 3 := by unfold stepM; split <;> (try split) <;> simp
    omega
theorem ownM_len (l : List Evt) (c : CT) : (ownM l c).length ≤ 3 * l.length + 1 := by
  have h1 : (timesL c l).length ≤ l.length := by unfold timesL; rw [List.length_map]; exact List.length_filter_le ..
  have h2 := flat_le (c := c) (timesL c l)
  unfold ownM
  rw [List.length_append]
  split <;> split <;> simp at * <;> omega
/-- How many moments there are at most. -/
theorem momC_len {l : List Evt} : ∀ (N : Nat) (c : CT), c.size ≤ N → (momC l c).length ≤ c.size * (3 * l.length + 1) := by
  intro N
  induction N with
  | zero => intro c hc; have := c.one_le; omega
  | succ N ih =>
    intro c hc
    have he := c.size_eq
    have row : ∀ al : List CT, sizes al ≤ N → (momCs l al).length ≤ sizes al * (3 * l.length + 1) := fun al => by
      induction al with
      | nil => intro _; simp [momCs]
      | cons x al ih2 =>
        intro hs
        unfold sizes at hs ⊢
        have h1 := ih x (by omega)
        have h2 := ih2 (by omega)
        rw [momCs, List.length_append, Nat.add_mul]
        omega
    rw [momC_eq, List.length_append, he]
    have h1 := row c.args (by omega)
    have h2 := ownM_len l c
    rw [Nat.add_mul]
    omega
/-- The next turn that is told. -/
def nextT : List (Int × Bool) → Int
  | [] => -1
  | t :: _ => t.1
section
variable {Pm : Prim} {I : Calls} {TT : Heap → Prop}
/-- Changes. -/
theorem spec13 (hI : Closed' prog Pm I) (hL : LibI I TT) (hS : SortI I) {Q : Post} {h : Heap} (hT : TT h) {c : CT} {r : List Cell} {sr se : Sl} {fs : List Fld} {evs : List (Evt × Sl)} (hc : CondAt h c r) (ha : AskC c) (hm : (momC (evs.map (·.1)) c).length < 900000) (hr : RecOk h sr fs) (hv : EvOk h se evs)
    (hQ : ∀ s L h', Ext h h' → MomL (momC (evs.map (·.1)) c) 0 4321440 L → At (Nw h h') 3 s (rows turnC (turnsOf (fun n => evC (leafB fs (evs.map (·.1)) n) c) false L)) → Q [.one (.slice 3 s), int 0] h') : I 13 [.agg r, .one (.slice 4 sr), .one (.slice 6 se), .agg [.int .i64 0, .int .i64 4321440]] Q h := by
  obtain ⟨sv, sw, sa, rfl, _⟩ := hc.parts
  refine hI.go _ _ (den13 I c.kind c.name c.field c.sign sv sw c.within c.num sa sr se 0 4321440 Q) ?_
  refine spec40 hI hL (spec218 hI hL) hT (r := condC c sv sw sa) hc ha.size ha.nar ha.err hr hv fun h1 x1 => ⟨_, rfl, ifT_intro (fun e => absurd rfl (nd e)) fun _ => ?_⟩
  refine joinK_intro (fun (b : Bool) g => h1 = g ∧ b = false) ?_ fun jk hjk => ifT_dec (fun e => absurd e (by decide)) fun _ => ifT_dec (fun e => absurd e (by decide)) fun _ => hjk _ _ ⟨rfl, by decide⟩
  rintro b _ ⟨rfl, rfl⟩
  refine ifT_intro (fun e => by cases e) fun _ => ?_
  refine spec33 hI hL c.size (Nat.le_refl _) (B := h) (r := condC c sv sw sa) (hL.ext x1 hT) x1 hc ha.fine ha.size hr.row hv.row fun b h2 x2 _ hnode => ⟨_, rfl, ?_⟩
  have hnode := hnode.ext (Up.real x1 x2)
  refine ifT_dec (fun e => absurd e (by decide)) fun _ => ?_
  exact spec41 hI hS hv.row.good hnode ha.fine ha.size hm (by decide) (by decide) fun s L h3 x3 hL hat => ⟨_, rfl, hQ s L h3 ((x1.trans x2).trans x3) hL ((Nw.later (h' := h3) (x1.trans x2)).at_ hat)⟩
/-- The next change. -/
theorem spec14 (hI : Closed' prog Pm I) (hL : LibI I TT) (hS : SortI I) {Q : Post} {h : Heap} (hT : TT h) {c : CT} {r : List Cell} {sr se : Sl} {fs : List Fld} {evs : List (Evt × Sl)} {n : Int} (hc : CondAt h c r) (ha : AskC c) (hm : (momC (evs.map (·.1)) c).length < 900000) (hr : RecOk h sr fs) (hv : EvOk h se evs)
    (hn : 0 ≤ n ∧ n < 4321439) (hlast : ∀ p ∈ evs, p.1.at_ ≤ n)
    (hQ : ∀ L h', Ext h h' → MomL (momC (evs.map (·.1)) c) (n + 1) 4321440 L → Q [int (nextT (turnsOf (fun n => evC (leafB fs (evs.map (·.1)) n) c) (evC (leafB fs (evs.map (·.1)) n) c) L)), int 0] h') : I 14 [.agg r, .one (.slice 4 sr), .one (.slice 6 se), int n] Q h := by
  obtain ⟨sv, sw, sa, rfl, _⟩ := hc.parts
  refine hI.go _ _ (den14 I c.kind c.name c.field c.sign sv sw c.within c.num sa sr se n Q) ?_
  refine newK_intro fun i1 h1 hn1 he1 => newK_intro fun i2 h2 hn2 he2 => ?_
  have x1 : Ext h h1 := he1 ▸ Ext.new hn1
  have x2 : Ext h1 h2 := he2 ▸ Ext.new hn2
  have c1 : h2 i1 = some (.cells false [.slice 6 se]) := x2 _ _ (by rw [he1]; exact Heap.set_same ..)
  have c2 : h2 i2 = some (.cells false [.int .i64 n]) := by rw [he2]; exact Heap.set_same ..
  have x12 := x1.trans x2
  refine ⟨se, read_cell c1 rfl, n, read_cell c2 rfl, ?_⟩
  refine spec32 hI hL (spec218 hI hL) (hL.ext x12 hT) (r := condC c sv sw sa) (CondAt.ext x12 hc) ha.size ha.nar ha.err (hr.ext x12) (hv.ext x12) (by omega) fun h3 x3 => ⟨_, rfl, ifT_intro (fun e => absurd rfl (nd e)) fun _ => ?_⟩
  have c1 := x3 _ _ c1
  have c2 := x3 _ _ c2
  have x13 := x12.trans x3
  have hv3 := hv.ext x13
  have lse : se.len = evs.length := hv3.at_.rowsLen evP_length (by decide)
  refine ⟨se, read_cell c1 rfl, ?_⟩
  have hel := hv.len
  refine hI.go _ _ (den42 I (se.len : Int) (some (43, [(i1, 0), (i2, 0)])) _) ?_
  refine loopK_intro (fun (p : Int × Int) h' m => h3 = h' ∧ ∃ i : Nat, i ≤ evs.length ∧ p = ((i : Int), (evs.length : Int)) ∧ evs.length - i = m) evs.length
    ⟨rfl, 0, by omega, by rw [lse]; rfl, rfl⟩ ?_
  rintro p h' m ⟨rfl, i, hi, rfl, rfl⟩
  dsimp only [uncur]
  refine ifT_dec (fun hlt => ?_) fun hge => ?_
  · rw [midq (by omega)]
    have hm : (i + evs.length) / 2 < evs.length ∧ i ≤ (i + evs.length) / 2 := by omega
    generalize (i + evs.length) / 2 = q at hm
    have hx := List.getElem?_eq_getElem (show q < evs.length by omega)
    have hxm := List.mem_of_getElem? hx
    generalize evs[q] = e at hx hxm
    refine hI.go _ _ (den43 I (q : Int) i1 0 i2 0 _) ?_
    refine ⟨se, read_cell c1 rfl, ⟨by omega, by omega⟩, hv3.at_.rowCell (j := 2) evP_length (by decide) hx (c := .int .i64 e.1.at_) rfl fun bb oo hrd => ⟨_, hrd, n, read_cell c2 rfl, _, rfl, ?_⟩⟩
    have hle := hlast e hxm
    refine ifT_intro (fun e => ?_) fun e => ?_
    · exact ⟨evs.length - (q + 1), by omega, rfl, q + 1, by omega, by rw [show IntKind.i64.wrap ((q : Int) + 1) = ((q + 1 : Nat) : Int) by rw [w64] <;> omega], rfl⟩
    · exfalso
      simp at e
      omega
  obtain rfl : i = evs.length := by omega
  refine ⟨_, rfl, se, read_cell c1 rfl, ⟨by decide, by omega, by omega⟩, ?_⟩
  have hsub : EvOk h3 (se.sub 6 0 (evs.length : Int).toNat) evs := by
    refine ⟨?_, hv3.flds, hv3.len, hv3.ids, hv3.good, hv3.order, hv3.time⟩
    have := hv3.at_.sub 0 evs.length (by omega) (by omega)
    rw [Nat.zero_mul, List.drop_zero, List.take_of_length_le (by rw [rows_length evP_length]; simp)] at this
    exact this
  refine spec33 hI hL c.size (Nat.le_refl _) (B := h3) (r := condC c sv sw sa) (hL.ext x13 hT) (Ext.refl _) (CondAt.ext x13 hc) ha.fine ha.size (hr.ext x13).row hsub.row fun b h4 x4 _ hnode => ⟨_, rfl, ?_⟩
  have hnode := hnode.ext (Up.real (Ext.refl _) x4)
  have c2 := x4 _ _ c2
  refine ⟨n, read_cell c2 rfl, n, read_cell c2 rfl, ?_⟩
  refine spec38 hI hv.row.good hn.1 (by omega) c.size (Nat.le_refl _) hnode ha.fine ha.size fun h5 x5 => ⟨(x5 _ _ c2).trans c2.symm, _, rfl, ?_⟩
  rw [show IntKind.i64.wrap (n + 1) = n + 1 by rw [w64] <;> omega]
  refine spec41 hI hS hv.row.good (hnode.ext x5) ha.fine ha.size hm (by omega) (by decide) fun s L h6 x6 hL hat => ⟨_, rfl, ?_⟩
  have hat := (Nw.ext _ _).at_ hat
  have hq := hQ L h6 (((x13.trans x4).trans x5).trans x6) hL
  generalize turnsOf (fun n => evC (leafB fs (evs.map (·.1)) n) c) (evC (leafB fs (evs.map (·.1)) n) c) L = Z at hat hq
  have ls : s.len = Z.length := hat.rowsLen turnC_len (by decide)
  refine ifT_dec (fun e => ⟨⟨by decide, by omega⟩, ?_⟩) fun e => ?_
  · cases Z with
    | nil => simp at ls; omega
    | cons t Z =>
      refine hat.rowCell (i := 0) (j := 1) turnC_len (by decide) rfl (c := .int .i64 t.1) rfl fun bb oo hrd => ⟨t.1, by simpa using hrd, hq⟩
  · cases Z with
    | nil => exact hq
    | cons t Z => simp at ls; omega
/-- The first turn behind a moment. -/
theorem spec15 (hI : Closed' prog Pm I) {Q : Post} {h : Heap} {s : Sl} {Z : List (Int × Bool)} {i : Nat} {n : Int} (hs : At h 3 s (rows turnC Z)) (hl : Z.length < 1000000) (hi : h i = some (.cells false [.int .i64 n]))
    (hQ : ∀ z : Int, ((z = -1 ∧ ∀ t ∈ Z, t.1 ≤ n) ∨ ∃ (k : Nat) (t : Int × Bool), z = k ∧ Z[k]? = some t ∧ n < t.1 ∧ ∀ t' ∈ Z.take k, t'.1 ≤ n) → Q [int z] h) : I 15 [.one (.slice 3 s), .one (.func (some (16, [(i, 0)])))] Q h := by
  refine hI.go _ _ (den15 I s (some (16, [(i, 0)])) Q) ?_
  have ls : s.len = Z.length := hs.rowsLen turnC_len (by decide)
  refine loopK_intro (fun (p : Int) g m => h = g ∧ ∃ k : Nat, k ≤ Z.length ∧ p = k ∧ Z.length - k = m ∧ ∀ t' ∈ Z.take k, t'.1 ≤ n) Z.length ⟨rfl, 0, by omega, rfl, rfl, by simp⟩ ?_
  rintro p g m ⟨rfl, k, hk, rfl, rfl, hall⟩
  refine ifT_dec (fun hlt => ⟨⟨by omega, hlt⟩, ?_⟩) fun hge => ?_
  · have hx := List.getElem?_eq_getElem (show k < Z.length by omega)
    generalize Z[k] = t at hx
    refine hs.row turnC_len (by decide) hx fun bb oo hrd => ⟨_, _, _, hrd, ?_⟩
    refine hI.go _ _ (den16 I _ t.1 t.2 i 0 _) ⟨n, read_cell hi rfl, _, rfl, ifT_intro (fun e => ?_) fun e => ?_⟩
    · exact hQ k (.inr ⟨k, t, rfl, hx, by simpa using e, hall⟩)
    · refine ⟨Z.length - (k + 1), by omega, rfl, k + 1, by omega, by rw [w64] <;> omega, rfl, fun t' ht' => ?_⟩
      rw [take_snoc hx] at ht'
      rcases List.mem_append.1 ht' with h1 | h1
      · exact hall _ h1
      · rw [List.mem_singleton.1 h1]
        simpa using e
  · obtain rfl : k = Z.length := by omega
    rw [List.take_length] at hall
    exact hQ (-1) (.inl ⟨rfl, hall⟩)
end
end Go.Proofs.YteldpijfienopaaGreatDoorVc
-- TuLaw
namespace Go.Proofs.YteldpijfienopaaGreatDoorVc
open Go.Proofs.Tryz (prog)
theorem filter_at {n : Int} {Z : List (Int × Bool)} {k : Nat} {t : Int × Bool} (hx : Z[k]? = some t) (ht : n < t.1) (h : ∀ t' ∈ Z.take k, t'.1 ≤ n) : ∃ R, Z.filter (fun t => decide (n < t.1)) = t :: R := by
  have e : Z = Z.take k ++ t :: Z.drop (k + 1) := by rw [← drop_mid hx, List.take_append_drop]
  have h0 : (Z.take k).filter (fun t => decide (n < t.1)) = [] := List.filter_eq_nil_iff.2 fun x hx => by
    have := h x hx
    simp
    omega
  refine ⟨(Z.drop (k + 1)).filter (fun t => decide (n < t.1)), ?_⟩
  conv => lhs; rw [e]
  rw [List.filter_append, h0, List.nil_append, List.filter_cons_of_pos (p := fun t : Int × Bool => decide (n < t.1)) (decide_eq_true ht)]
section
variable {Pm : Prim} {I : Calls} {Q : Post} {h h' h2 : Heap} {TT : Heap → Prop}
theorem spec4 (hI : Closed' prog Pm I) (hL : LibI I TT) (hS : SortI I) (hT : TT h) {s : Sl} {zs : List Int} (hs : At h 1 s (ints zs)) : I 4 [.one (.slice 1 s)] tru h := by
  refine hI.go _ _ (den4 I s tru) ?_
  refine newK_intro fun i h1 hn1 he1 => ?_
  have S1 : Strm h1 i s zs 0 := he1 ▸ Strm.make hs hn1
  have d1 : h1.del i = h := by rw [he1]; exact set_del0 hn1
  refine cond_g hI 2 (by decide) S1 (by decide) fun c r h2 g2 hc2 gc => ?_
  obtain ⟨sv, sw, sa, rfl, _⟩ := hc2.parts
  refine ⟨_, _, _, _, _, _, _, _, _, rfl, ?_⟩
  obtain ⟨t2, S2, x2, b2⟩ := g2
  have hc2 := CondAt.ext (nw_del S1 x2) hc2
  have zsz := gc.size
  have ask : AskC c := by
    have h1 := gc.size
    have h2 := gc.deep
    simp [Zg, Dg] at h1 h2
    refine ⟨?_, gc.nar, by omega⟩
    unfold errCond; rw [if_neg (by omega)]; exact gc.err
  have kg : Kg 2 ≤ 2930 := by decide
  refine record_g hI S2 (by omega) fun sr fs h3 g3 ar nr vr => ⟨_, rfl, ?_⟩
  obtain ⟨t3, S3, x3, b3⟩ := g3
  refine history_g hI S3 (by omega) (by decide) (by decide) fun se evs h4 _ g4 ae fe le ide ge pe te _ => ⟨_, rfl, ?_⟩
  obtain ⟨t4, S4, x4, b4⟩ := g4
  have hr4 : RecOk (h4.del i) sr fs := (RecOk.drawn ((nw_del S2 x3).at_ ar) nr vr).ext x4
  have hv4 : EvOk (h4.del i) se evs := ⟨(nw_del S3 x4).at_ ae, fun p hp => (nw_del S3 x4).at_ (fe p hp), by omega, ide, ge, pe, fun p hp => by have := te p hp; omega⟩
  have hc4 := CondAt.ext (x3.trans x4) hc2
  have e4 : Ext h (h4.del i) := by rw [← d1]; exact (x2.trans x3).trans x4
  have hmom : (momC (evs.map (·.1)) c).length < 900000 := by
    have h1 := momC_len (l := evs.map (·.1)) c.size c (Nat.le_refl _)
    simp only [List.length_map] at h1
    have h2 : c.size * (3 * evs.length + 1) ≤ 187 * (3 * 6 + 1) := Nat.mul_le_mul (by simp [Zg] at zsz; omega) (by omega)
    omega
  have hgl := hv4.row.good
  have hconst : ∀ a b, 0 ≤ a → a ≤ b → b ≤ 4321439 → (∀ m ∈ momC (evs.map (·.1)) c, ¬ (a < m ∧ m ≤ b)) → (fun n => evC (leafB fs (evs.map (·.1)) n) c) a = (fun n => evC (leafB fs (evs.map (·.1)) n) c) b :=
    fun a b ha hab hb hm => evC_const hgl ha hab hb c.size c (Nat.le_refl _) ask.fine hm
  have hzt : ∀ p ∈ evs, p.1.at_ ≤ 4000000 := fun p hp => by have := te p hp; omega
  clear ar ae fe te ide ge pe hgl gc
  have d4 := ext_del h4 i
  refine spec13 hI hL hS (hL.ext (e4.trans d4) hT) (r := condC c sv sw sa) (CondAt.ext d4 hc4) ask hmom (hr4.ext d4) (hv4.ext d4) fun sz L h5 x5 hML hat => ⟨_, _, rfl, ?_⟩
  have S5 := S4.ext x5
  have x45 : Ext (h4.del i) (h5.del i) := x5.del
  have hc := CondAt.ext x45 hc4
  have hr := hr4.ext x45
  have hv := hv4.ext x45
  have e5 := e4.trans x45
  have hat := (nw_del S4 x45).at_ hat
  have hML0 := hML
  have hlL : L.length ≤ 900000 := by
    have hnd : L.Nodup := hML.up.imp fun h => Int.ne_of_lt h
    have := List.Nodup.length_le_of_subset (l₂ := 0 :: momC (evs.map (·.1)) c) hnd fun x hx => by
      rcases ((hML.mem x).1 hx).1 with h | h
      · simp [h]
      · simp [h]
    simp at this
    omega
  have halt := turnsOf_alt (v := fun n => evC (leafB fs (evs.map (·.1)) n) c) (L := L) (was := false)
  have hup := turnsOf_up (v := fun n => evC (leafB fs (evs.map (·.1)) n) c) (L := L) (was := false) hML.up
  have htold : ∀ n : Int, 0 ≤ n → n ≤ 4321439 → toldB n false (turnsOf (fun n => evC (leafB fs (evs.map (·.1)) n) c) false L) = evC (leafB fs (evs.map (·.1)) n) c := fun n h0 hn => told_all hconst hML h0 hn
  have hnext : ∀ (n : Int) (L2 : List Int), 0 ≤ n → n < 4321439 → MomL (momC (evs.map (·.1)) c) (n + 1) 4321440 L2 → (turnsOf (fun n => evC (leafB fs (evs.map (·.1)) n) c) false L).filter (fun t => decide (n < t.1)) = turnsOf (fun n => evC (leafB fs (evs.map (·.1)) n) c) (evC (leafB fs (evs.map (·.1)) n) c) L2 := fun n L2 h0 hn hL2 => next_all hconst h0 hn hML hL2
  have hzl : (turnsOf (fun n => evC (leafB fs (evs.map (·.1)) n) c) false L).length ≤ L.length := by
    have gen : ∀ (v : Int → Bool) (L : List Int) (b : Bool), (turnsOf v b L).length ≤ L.length := fun v L => by
      induction L with
      | nil => intro b; simp [turnsOf]
      | cons m L ih =>
        intro b
        rw [turnsOf]
        split
        · have := ih b; simp; omega
        · have := ih (v m); simp; omega
    exact gen _ _ _
  generalize turnsOf (fun n => evC (leafB fs (evs.map (·.1)) n) c) false L = Z at hat halt hup htold hnext hzl
  have lz : sz.len = Z.length := hat.rowsLen turnC_len (by decide)
  have d5 := ext_del h5 i
  have hat5 := d5.at_ hat
  refine ifT_intro (fun e => absurd rfl (nd e)) fun _ => ?_
  -- the turns turn, and stand in order
  refine loopK_intro (fun (p : Bool × Int) g m => h5 = g ∧ ∃ (k : Nat) (b : Bool), k ≤ Z.length ∧ p = (b, (k : Int)) ∧ Z.length - k = m ∧ alt b (Z.drop k)) Z.length ⟨rfl, 0, false, by omega, rfl, rfl, halt⟩ ?_
  rintro p g m ⟨rfl, k, b, hk, rfl, rfl, hal⟩
  dsimp only [uncur]
  refine ifT_dec (fun hlt => ⟨⟨by omega, hlt⟩, ?_⟩) fun hge => ?_
  · have hx := List.getElem?_eq_getElem (show k < Z.length by omega)
    generalize Z[k] = t at hx
    rw [drop_mid hx] at hal
    have next : ∃ m', m' < Z.length - k ∧ h5 = h5 ∧ ∃ (k' : Nat) (b : Bool), k' ≤ Z.length ∧ (t.2, IntKind.i64.wrap ((k : Int) + 1)) = (b, (k' : Int)) ∧ Z.length - k' = m' ∧ alt b (Z.drop k') :=
      ⟨Z.length - (k + 1), by omega, rfl, k + 1, t.2, by omega, by rw [show IntKind.i64.wrap ((k : Int) + 1) = ((k + 1 : Nat) : Int) by rw [w64] <;> omega], rfl, hal.2⟩
    refine hat5.row turnC_len (by decide) hx fun bb oo hrd => ⟨_, _, _, hrd, ifT_dec (fun e => absurd e hal.1) fun _ => ifT_dec (fun e0 => ?_) fun _ => next⟩
    have ew : IntKind.i64.wrap ((k : Int) - 1) = ((k - 1 : Nat) : Int) := by rw [w64] <;> omega
    rw [ew]
    have hy := List.getElem?_eq_getElem (show k - 1 < Z.length by omega)
    generalize Z[k - 1] = y at hy
    refine ⟨⟨by omega, by omega⟩, hat5.rowCell (j := 1) turnC_len (by decide) hy (c := .int .i64 y.1) rfl fun bb2 oo2 hrd2 => ⟨y.1, hrd2, ifT_dec (fun e => ?_) fun _ => next⟩⟩
    have := pair_at (R := fun a b : Int × Bool => a.1 < b.1) hup (show k - 1 < k by omega) hy hx
    omega
  -- what is told is what is
  refine loopK_intro (fun (p : Int) g m => ∃ (k t' : Nat), k ≤ 8 ∧ p = (k : Int) ∧ 8 - k = m ∧ Strm g i s zs t' ∧ t' ≤ t4 + k ∧ Ext (h5.del i) (g.del i)) 8 ⟨0, t4, by omega, rfl, rfl, S5, by omega, Ext.refl _⟩ ?_
  intro p g m hp
  obtain ⟨k, t', hk, hp, hm, S, ht', xg⟩ := hp
  subst hp
  subst hm
  refine ifT_dec (fun hlt => ?_) fun hge => ?_
  · refine next_g hI S (by omega) (by decide) (by decide) fun n g1 hn0 hn1 gg => ?_
    obtain ⟨t1, S1', xg1, bt1⟩ := gg
    have dg := ext_del g1 i
    have xg' := xg.trans xg1
    refine spec11 hI hL (hL.ext ((e5.trans xg').trans dg) hT) (r := condC c sv sw sa) (CondAt.ext (xg'.trans dg) hc) ask (hr.ext (xg'.trans dg)) (hv.ext (xg'.trans dg)) ⟨hn0, by omega⟩ fun g2 x2' => ⟨_, _, rfl, ?_⟩
    have hat2 := ((xg'.trans dg).trans x2').at_ hat
    refine loopK_intro (fun (p : Bool × Int) g m => g2 = g ∧ ∃ (j : Nat) (b : Bool), j ≤ Z.length ∧ p = (b, (j : Int)) ∧ Z.length - j = m ∧ toldB n b (Z.drop j) = toldB n false Z) Z.length ⟨rfl, 0, false, by omega, rfl, rfl, rfl⟩ ?_
    rintro p g3 m ⟨rfl, j, b, hj, rfl, rfl, htb⟩
    dsimp only [uncur]
    refine ifT_dec (fun hlt2 => ⟨⟨by omega, hlt2⟩, ?_⟩) fun hge2 => ?_
    · have hx := List.getElem?_eq_getElem (show j < Z.length by omega)
      generalize Z[j] = t at hx
      rw [drop_mid hx, toldB_cons] at htb
      have ew : IntKind.i64.wrap ((j : Int) + 1) = ((j + 1 : Nat) : Int) := by rw [w64] <;> omega
      refine hat2.row turnC_len (by decide) hx fun bb oo hrd => ⟨_, _, _, hrd, ifT_dec (fun e => ?_) fun e => ?_⟩
      · rw [if_pos e] at htb
        exact ⟨Z.length - (j + 1), by omega, rfl, j + 1, t.2, by omega, by rw [ew], rfl, htb⟩
      · rw [if_neg e] at htb
        exact ⟨Z.length - (j + 1), by omega, rfl, j + 1, b, by omega, by rw [ew], rfl, htb⟩
    · obtain rfl : j = Z.length := by omega
      rw [List.drop_length] at htb
      have hbz : b = evC (leafB fs (evs.map (·.1)) n) c := htb.trans (htold n hn0 (by omega))
      refine ifT_intro (fun e => absurd rfl (nd e)) fun _ => ifT_intro (fun e => absurd hbz.symm (nd e)) fun _ => ?_
      exact ⟨8 - (k + 1), by omega, k + 1, t1, by omega, by rw [w64] <;> omega, rfl, S1'.ext x2', by omega, xg'.trans x2'.del⟩
  -- the next one
  have dg := ext_del g i
  have eg : Ext h g := (e5.trans xg).trans dg
  have hvg := hv.ext (xg.trans dg)
  have lse : se.len = evs.length := hvg.at_.rowsLen evP_length (by decide)
  refine newK_intro fun i2 g1 hn2 he2 => ?_
  have y1 : Ext g g1 := he2 ▸ Ext.new hn2
  have c2 : g1 i2 = some (.cells false [.int .i64 0]) := by rw [he2]; exact Heap.set_same ..
  refine storeK_whole (ns := [.int .i64 0]) c2 rfl ?_
  have y2 : Ext g (g1.set i2 (.cells false [.int .i64 0])) := by rw [he2, set_set]; exact Ext.new hn2
  have c3 : (g1.set i2 (.cells false [.int .i64 0])) i2 = some (.cells false [.int .i64 0]) := Heap.set_same ..
  have hrep : ∀ o, (g1.set i2 (.cells false [.int .i64 0])).set i2 o = g.set i2 o := fun o => by rw [he2, set_set, set_set]
  generalize g1.set i2 (.cells false [.int .i64 0]) = g2 at y2 c3 hrep
  refine joinK_intro (fun (_ : PUnit) g3 => ∃ n : Int, 0 ≤ n ∧ n ≤ 4000000 ∧ (∀ p ∈ evs, p.1.at_ ≤ n) ∧ g3 i2 = some (.cells false [.int .i64 n]) ∧ Ext g g3) ?_ fun jk hjk => ?_
  case refine_2 =>
    refine ifT_dec (fun e => ?_) fun e => hjk _ _ ⟨0, by omega, by omega, fun p hp => ?_, c3, y2⟩
    · have ew : IntKind.i64.wrap ((se.len : Int) - 1) = ((evs.length - 1 : Nat) : Int) := by rw [w64] <;> omega
      have hx := List.getElem?_eq_getElem (show evs.length - 1 < evs.length by omega)
      have hxm := List.mem_of_getElem? hx
      generalize evs[evs.length - 1] = p at hx hxm
      rw [ew]
      refine ⟨⟨by omega, by omega⟩, (y2.at_ hvg.at_).rowCell (j := 2) evP_length (by decide) hx (c := .int .i64 p.1.at_) rfl fun bb oo hrd => ⟨p.1.at_, hrd, storeK_whole (ns := [.int .i64 p.1.at_]) c3 rfl (hjk _ _ ⟨p.1.at_, (hvg.time p hxm).1, hzt p hxm, fun q hq => ?_, Heap.set_same .., ?_⟩)⟩⟩
      · obtain ⟨a, ha, rfl⟩ := List.mem_iff_getElem.1 hq
        by_cases e2 : a = evs.length - 1
        · have h1 := List.getElem?_eq_getElem ha
          rw [e2.symm, h1] at hx
          cases hx
          exact Int.le_refl _
        · exact pair_at (R := fun a b : Evt × Sl => a.1.at_ ≤ b.1.at_) hvg.order (show a < evs.length - 1 by omega) (List.getElem?_eq_getElem ha) hx
      · rw [hrep]; exact Ext.new hn2
    · have : evs = [] := List.length_eq_zero_iff.1 (by omega)
      subst this; cases hp
  intro _ g3 hg3
  obtain ⟨n, hn0, hn1, hlast, c4, y3⟩ := hg3
  have xg3 := (xg.trans dg).trans y3
  refine ⟨n, read_cell c4 rfl, ?_⟩
  refine spec14 hI hL hS (hL.ext (eg.trans y3) hT) (r := condC c sv sw sa) (CondAt.ext xg3 hc) ask hmom (hr.ext xg3) (hv.ext xg3) ⟨hn0, by omega⟩ hlast fun L2 g4 x4' hL2 => ⟨_, _, rfl, ?_⟩
  have hnx := hnext n L2 hn0 (by omega) hL2
  rw [← hnx]
  have hat4 := (xg3.trans x4').at_ hat
  refine spec15 hI hat4 (by omega) (x4' _ _ c4) fun z hz => ⟨_, rfl, ?_⟩
  refine spec12 hI hL (hL.ext ((eg.trans y3).trans x4') hT) fun g5 x5' => ⟨_, rfl, ifT_intro (fun _ => ?_) fun e => by cases e⟩
  refine ifT_dec (fun _ => ?_) fun e => absurd rfl e
  have hat6 := x5'.at_ hat4
  rcases hz with ⟨rfl, hall⟩ | ⟨k2, t, rfl, hx, ht, hall⟩
  · have hnil : Z.filter (fun t => decide (n < t.1)) = [] := List.filter_eq_nil_iff.2 fun x hx => by
      have := hall x hx
      simp
      omega
    rw [hnil]
    exact ifT_dec (fun _ => ifT_dec (fun _ => rfl) fun e => absurd rfl e) fun e => absurd (by decide) e
  · obtain ⟨R, hR⟩ := filter_at hx ht hall
    rw [hR]
    have hk2 := (List.getElem?_eq_some_iff.1 hx).1
    refine ifT_dec (fun e => by omega) fun _ => ifT_dec (fun _ => ⟨⟨by omega, by omega⟩, ?_⟩) fun e => by omega
    refine hat6.rowCell (j := 1) turnC_len (by decide) hx (c := .int .i64 t.1) rfl fun bb oo hrd => ⟨t.1, hrd, ?_⟩
    show tru [boo (decide (t.1 = t.1))] g5
    rw [decide_eq_true rfl]
    rfl
end
end Go.Proofs.YteldpijfienopaaGreatDoorVc
