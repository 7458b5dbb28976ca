/- Rows in blocks of their own, which a map leads to. -/
import Derived.Test.YtadakbmoanbcgaaGreatDoorVcNewB
set_option linter.unusedSimpArgs false
set_option linter.unusedVariables false
namespace Go.Proofs.YtadakbmoanbcgaaGreatDoorVc
instance decMemB (l : ByteArray) (ls : List ByteArray) : Decidable (l ∈ ls) := decidable_of_iff ((ls.any fun y => decide (y = l)) = true) (by simp)
/-- What the map of rows holds. -/
def rowM (ls : List ByteArray) (bs : List Nat) : List (V × V) := List.zipWith (fun l b => (.one (.str l), .one (.ptr (some (b, 0))))) ls bs
theorem rowM_keys : ∀ {ls : List ByteArray} {bs : List Nat}, ls.length = bs.length → (rowM ls bs).map (·.1) = ls.map fun k => .one (.str k)
  | [], _, _ => by simp [rowM]
  | l :: ls, [], h => by simp at h
  | l :: ls, b :: bs, h => by
    have := rowM_keys (ls := ls) (bs := bs) (by simpa using h)
    simp only [rowM, List.zipWith_cons_cons, List.map_cons] at this ⊢
    rw [this]
theorem rowM_none {s : ByteArray} : ∀ {ls : List ByteArray} {bs : List Nat}, s ∉ ls → mapGet (.one (.str s)) (.one (.ptr none)) (rowM ls bs) = some (.one (.ptr none), false)
  | [], _, _ => by simp [rowM, mapGet]
  | l :: ls, [], _ => by simp [rowM, mapGet]
  | l :: ls, b :: bs, h => by
    have := rowM_none (s := s) (ls := ls) (bs := bs) (fun hm => h (by simp [hm]))
    have h1 : ¬ s = l := fun e => h (by simp [e])
    simp only [rowM, List.zipWith_cons_cons, mapGet, keyEq, h1, decide_false] at this ⊢
    exact this
theorem rowM_get {s : ByteArray} : ∀ {ls : List ByteArray} {bs : List Nat}, ls.length = bs.length → s ∈ ls → ∃ (q : Nat) (b : Nat), ls[q]? = some s ∧ bs[q]? = some b ∧ mapGet (.one (.str s)) (.one (.ptr none)) (rowM ls bs) = some (.one (.ptr (some (b, 0))), true)
  | [], _, _, h => by cases h
  | l :: ls, [], h, _ => by simp at h
  | l :: ls, b :: bs, hl, h => by
    by_cases e : s = l
    · subst e
      exact ⟨0, b, rfl, rfl, by simp [rowM, mapGet, keyEq]⟩
    · obtain ⟨q, b', h1, h2, h3⟩ := rowM_get (s := s) (ls := ls) (bs := bs) (by simpa using hl) (by
        rcases List.mem_cons.1 h with h | h
        · exact absurd h e
        · exact h)
      refine ⟨q + 1, b', by simpa using h1, by simpa using h2, ?_⟩
      simp only [rowM, List.zipWith_cons_cons, mapGet, keyEq, e, decide_false] at h3 ⊢
      exact h3
theorem rowM_set {s : ByteArray} {b : Nat} : ∀ {ls : List ByteArray} {bs : List Nat}, ls.length = bs.length → s ∉ ls → mapSet (.one (.str s)) (.one (.ptr (some (b, 0)))) (rowM ls bs) = some (rowM (ls ++ [s]) (bs ++ [b]))
  | [], [], _, _ => by simp [rowM, mapSet]
  | [], _ :: _, h, _ => by simp at h
  | l :: ls, [], h, _ => by simp at h
  | l :: ls, b' :: bs, hl, h => by
    have := rowM_set (s := s) (b := b) (ls := ls) (bs := bs) (by simpa using hl) (fun hm => h (by simp [hm]))
    have h1 : ¬ s = l := fun e => h (by simp [e])
    simp only [rowM, List.cons_append, List.zipWith_cons_cons, mapSet, keyEq, h1, decide_false] at this ⊢
    rw [this]; rfl
/-- Rows in blocks of their own. -/
structure RwsG {α : Type} (f : α → List Cell) (h0 h : Heap) (bs : List Nat) (rs : List α) : Prop where
  ext : Ext h0 h
  len : bs.length = rs.length
  cell : ∀ (q b : Nat) r, bs[q]? = some b → rs[q]? = some r → h b = some (.cells false (f r))
  new : ∀ b ∈ bs, h0 b = none
  nodup : bs.Nodup
theorem RwsG.nil {α : Type} (f : α → List Cell) (h : Heap) : RwsG f h h [] [] := ⟨Ext.refl h, rfl, by simp, by simp, by simp⟩
theorem RwsG.get {α : Type} {f : α → List Cell} {h0 h : Heap} {bs : List Nat} {rs : List α} (R : RwsG f h0 h bs rs) {b : Nat} (hb : b ∈ bs) : ∃ r, h b = some (.cells false (f r)) := by
  obtain ⟨q, hq, rfl⟩ := List.mem_iff_getElem.1 hb
  exact ⟨rs[q]'(by rw [← R.len]; exact hq), R.cell q _ _ (List.getElem?_eq_getElem hq) (List.getElem?_eq_getElem _)⟩
theorem RwsG.push {α : Type} {f : α → List Cell} {h0 h : Heap} {bs : List Nat} {rs : List α} (R : RwsG f h0 h bs rs) {i : Nat} {r : α} (hi : h i = none) : RwsG f h0 (h.set i (.cells false (f r))) (bs ++ [i]) (rs ++ [r]) where
  ext := R.ext.set (R.ext.none hi)
  len := by simp [R.len]
  cell q b r' hb hr := by
    rcases Nat.lt_or_ge q bs.length with hq | hq
    · rw [List.getElem?_append_left hq] at hb
      rw [List.getElem?_append_left (by rw [← R.len]; exact hq)] at hr
      have := R.cell q b r' hb hr
      rw [set_ne _ _ (fun e => by subst e; rw [hi] at this; cases this)]
      exact this
    · rw [List.getElem?_append_right hq] at hb
      rw [List.getElem?_append_right (by rw [← R.len]; exact hq)] at hr
      have hq0 : q - bs.length = 0 := by
        have := (List.getElem?_eq_some_iff.1 hb).1
        simp at this; omega
      have hr0 : q - rs.length = 0 := by rw [← R.len]; exact hq0
      rw [hq0] at hb
      rw [hr0] at hr
      simp only [List.getElem?_cons_zero, Option.some.injEq] at hb hr
      subst hb hr
      exact set_eq _ _ _
  new b hb := by
    rcases List.mem_append.1 hb with hb | hb
    · exact R.new b hb
    · rw [List.mem_singleton.1 hb]; exact R.ext.none hi
  nodup := by
    rw [List.nodup_append]
    refine ⟨R.nodup, by simp, fun a ha b hb e => ?_⟩
    rw [List.mem_singleton.1 hb] at e
    subst e
    obtain ⟨r, hr⟩ := R.get ha
    rw [hi] at hr; cases hr
theorem RwsG.setMap {α : Type} {f : α → List Cell} {h0 h : Heap} {bs : List Nat} {rs : List α} (R : RwsG f h0 h bs rs) {i : Nat} {es es' : List (V × V)} (h0i : h0 i = none) (hi : h i = some (.map es)) : RwsG f h0 (h.set i (.map es')) bs rs where
  ext := R.ext.set h0i
  len := R.len
  cell q b r hb hr := by
    have := R.cell q b r hb hr
    rw [set_ne _ _ (fun e => by subst e; rw [hi] at this; cases this)]
    exact this
  new := R.new
  nodup := R.nodup
theorem RwsG.bump {α : Type} {f : α → List Cell} {h0 h h' : Heap} {bs : List Nat} {rs : List α} (R : RwsG f h0 h bs rs) {q b : Nat} {r' : α} (hq : bs[q]? = some b) (hf : ∀ j o, j ≠ b → h j = some o → h' j = some o) (hb : h' b = some (.cells false (f r'))) : RwsG f h0 h' bs (rs.set q r') where
  ext j o hj := by
    have : j ≠ b := fun e => by subst e; rw [R.new j (List.mem_of_getElem? hq)] at hj; cases hj
    exact hf j o this (R.ext j o hj)
  len := by rw [List.length_set, R.len]
  cell p b2 r hp hr := by
    by_cases e : p = q
    · subst e
      rw [hq] at hp; cases hp
      rw [List.getElem?_set] at hr
      simp only [if_true] at hr
      split at hr
      · cases hr; exact hb
      · cases hr
    · rw [List.getElem?_set_ne (fun e' => e e'.symm)] at hr
      refine hf b2 _ (fun e2 => ?_) (R.cell p b2 r hp hr)
      subst e2
      obtain ⟨h1, e1⟩ := List.getElem?_eq_some_iff.1 hp
      obtain ⟨h2, e2⟩ := List.getElem?_eq_some_iff.1 hq
      exact e ((List.getElem_inj R.nodup).1 (e1.trans e2.symm))
  new := R.new
  nodup := R.nodup
theorem RwsG.rebase {α : Type} {f : α → List Cell} {h0 b0 h : Heap} {bs : List Nat} {rs : List α} (R : RwsG f b0 h bs rs) (e : Ext h0 b0) : RwsG f h0 h bs rs := ⟨e.trans R.ext, R.len, R.cell, fun b hb => e.none (R.new b hb), R.nodup⟩
theorem mapK_in {h : Heap} {i : Nat} {es es' : List (V × V)} {kx x : V} {k : T} (hi : h i = some (.map es)) (hs : mapSet kx x es = some es') (hk : k (h.set i (.map es'))) : mapK [] (some i) kx x k h :=
  ⟨es, es', hi, hs, hk⟩
end Go.Proofs.YtadakbmoanbcgaaGreatDoorVc
