/- Slices of slices of ints, each with a block of its own; maps beside them. -/
import Derived.Test.YtadakbmoanbcgaaGreatDoorVcNewB
import Derived.Test.YtadakbmoanbcgaaGreatDoorVcRows4
import Derived.Test.YtadakbmoanbcgaaGreatDoorVcBits
set_option linter.unusedSimpArgs false
set_option linter.unusedVariables false
namespace Go.Proofs.YtadakbmoanbcgaaGreatDoorVc

theorem Owns.setMap {h0 h : Heap} {L : List Ow} {i : Nat} {es es' : List (V × V)} (o : Owns h0 h L) (hb : h0 i = none) (hi : h i = some (.map es)) : Owns h0 (h.set i (.map es')) L where
  ext j x hx := by
    have : j ≠ i := fun e => by subst e; rw [hb] at hx; cases hx
    rw [set_ne _ _ this]; exact o.ext _ _ hx
  all p hp := by
    obtain ⟨b1, b2 | ⟨k, b2, b3, b4⟩⟩ := o.all p hp
    · exact ⟨b1, .inl b2⟩
    · have : k ≠ i := fun e => by subst e; rw [hi] at b4; cases b4
      exact ⟨b1, .inr ⟨k, b2, b3, by rw [set_ne _ _ this]; exact b4⟩⟩
  apart := o.apart
theorem Owns.dropOne {h0 h : Heap} {L : List Ow} {p : Ow} (o : Owns h0 h (p :: L)) : Owns h0 h L := o.tail

abbrev cI (zs : List Int) : List Cell := zs.map (.int .i64)
abbrev owN (ps : List (Sl × List Int)) : List Ow := ps.map fun p => (1, p.1, cI p.2)
abbrev slN (ps : List (Sl × List Int)) : List Cell := ps.map fun p => .slice 1 p.1
theorem Owns.noneN {h0 h : Heap} {L : List Ow} (o : Owns h0 h L) : ∀ n : Nat, Owns h0 h (owN (List.replicate n (⟨none, 0⟩, [])) ++ L)
  | 0 => o
  | n + 1 => by
    rw [List.replicate_succ]
    exact (Owns.noneN o n).none_ 1
theorem slCellsN (k : Kd) (n : Nat) : slCells (.one k) n = List.replicate n k.zero := by
  unfold slCells
  simp
/-- A place for each row. -/
theorem gridNew {base h : Heap} {L : List Ow} {b n : Nat} (o0 : Owns base h L) (hn : h b = none) :
    Owns base (h.set b (.cells false (slCells (VK.one (Kd.slice 1)) n))) ((1, ⟨some (b, 0), n⟩, slN (List.replicate n (⟨none, 0⟩, []))) :: (owN (List.replicate n (⟨none, 0⟩, [])) ++ L)) := by
  have o := (o0.noneN n).new (i := b) (sz := 1) (n := n) (cs := slN (List.replicate n (⟨none, 0⟩, []))) hn (by simp)
  have e : slCells (VK.one (Kd.slice 1)) n = slN (List.replicate n (⟨none, 0⟩, [])) := by
    rw [slCellsN, slN, List.map_replicate]; rfl
  rw [e]
  exact o
theorem split_at {α : Type} {ps : List α} {a : Nat} {p : α} (hp : ps[a]? = some p) : ps = ps.take a ++ p :: ps.drop (a + 1) := by
  obtain ⟨h1, h2⟩ := List.getElem?_eq_some_iff.1 hp
  rw [← h2, ← List.drop_eq_getElem_cons h1, List.take_append_drop]
theorem set_at {α : Type} {ps : List α} {a : Nat} (ha : a < ps.length) (x : α) : ps.set a x = ps.take a ++ x :: ps.drop (a + 1) := by
  rw [List.set_eq_take_append_cons_drop, if_pos ha]
/-- A row gets its block. -/
theorem gridPut {base h : Heap} {L : List Ow} {b n a i m : Nat} {ps : List (Sl × List Int)} {p : Sl × List Int} {g : List Int} (o : Owns base h ((1, ⟨some (b, 0), n⟩, slN ps) :: (owN ps ++ L))) (hp : ps[a]? = some p) (hn : ps.length = n)
    (hi : h i = none) (hg : g.length = m) :
    Owns base ((h.set i (.cells false (cI g))).set b (.cells false ((slN ps).set a (.slice 1 ⟨some (i, 0), m⟩)))) ((1, ⟨some (b, 0), n⟩, slN (ps.set a (⟨some (i, 0), m⟩, g))) :: (owN (ps.set a (⟨some (i, 0), m⟩, g)) ++ L)) := by
  have ha : a < ps.length := (List.getElem?_eq_some_iff.1 hp).1
  have o1 := o.new (i := i) (sz := 1) (n := m) (cs := cI g) hi (by simp [hg])
  have o2 := (o1.perm (List.Perm.swap _ _ _)).change (n' := n) (sz' := 1) (cs' := (slN ps).set a (.slice 1 ⟨some (i, 0), m⟩)) (by simp [hn])
  have ec : (slN ps).set a (.slice 1 ⟨some (i, 0), m⟩) = slN (ps.set a (⟨some (i, 0), m⟩, g)) := by rw [slN, slN, List.map_set]
  rw [ec] at o2 ⊢
  have hperm : ((1, (⟨some (i, 0), m⟩ : Sl), cI g) :: (owN ps ++ L)).Perm ((1, p.1, cI p.2) :: (owN (ps.set a (⟨some (i, 0), m⟩, g)) ++ L)) := by
    have e1 : owN ps = owN (ps.take a) ++ (1, p.1, cI p.2) :: owN (ps.drop (a + 1)) := by conv => lhs; rw [split_at hp, owN, List.map_append, List.map_cons]
    have e2 : owN (ps.set a (⟨some (i, 0), m⟩, g)) = owN (ps.take a) ++ (1, ⟨some (i, 0), m⟩, cI g) :: owN (ps.drop (a + 1)) := by rw [set_at ha, owN, List.map_append, List.map_cons]
    rw [e1, e2, List.append_assoc, List.append_assoc, List.cons_append, List.cons_append]
    refine List.Perm.trans (List.Perm.cons _ List.perm_middle) (List.Perm.trans (List.Perm.swap _ _ _) (List.Perm.cons _ List.perm_middle.symm))
  exact ((o2.perm (List.Perm.cons _ hperm)).perm (List.Perm.swap _ _ _)).tail
/-- A number of a row changes. -/
theorem gridSet {base h : Heap} {L : List Ow} {b n a c : Nat} {ps : List (Sl × List Int)} {j m : Nat} {g : List Int} {x : Int} (o : Owns base h ((1, ⟨some (b, 0), n⟩, slN ps) :: (owN ps ++ L))) (hp : ps[a]? = some (⟨some (j, 0), m⟩, g)) (hc : c < g.length) :
    h j = some (.cells false (cI g)) ∧ Owns base (h.set j (.cells false ((cI g).set c (.int .i64 x)))) ((1, ⟨some (b, 0), n⟩, slN (ps.set a (⟨some (j, 0), m⟩, g.set c x))) :: (owN (ps.set a (⟨some (j, 0), m⟩, g.set c x)) ++ L)) := by
  have ha : a < ps.length := (List.getElem?_eq_some_iff.1 hp).1
  have e1 : owN ps = owN (ps.take a) ++ (1, ⟨some (j, 0), m⟩, cI g) :: owN (ps.drop (a + 1)) := by conv => lhs; rw [split_at hp, owN, List.map_append, List.map_cons]
  have e2 : owN (ps.set a (⟨some (j, 0), m⟩, g.set c x)) = owN (ps.take a) ++ (1, ⟨some (j, 0), m⟩, cI (g.set c x)) :: owN (ps.drop (a + 1)) := by rw [set_at ha, owN, List.map_append, List.map_cons]
  have es : slN (ps.set a (⟨some (j, 0), m⟩, g.set c x)) = slN ps := by
    rw [slN, slN, List.map_set]
    have : (List.map (fun p : Sl × List Int => Cell.slice 1 p.1) ps)[a]? = some (.slice 1 ⟨some (j, 0), m⟩) := by rw [List.getElem?_map, hp]; rfl
    obtain ⟨h1, h2⟩ := List.getElem?_eq_some_iff.1 this
    rw [← h2, List.set_getElem_self]
  have hperm : ∀ G : List Int, ((1, (⟨some (b, 0), n⟩ : Sl), slN ps) :: (owN (ps.take a) ++ (1, (⟨some (j, 0), m⟩ : Sl), cI G) :: owN (ps.drop (a + 1)) ++ L)).Perm ((1, ⟨some (j, 0), m⟩, cI G) :: (1, ⟨some (b, 0), n⟩, slN ps) :: (owN (ps.take a) ++ owN (ps.drop (a + 1)) ++ L)) := fun G => by
    rw [List.append_assoc, List.cons_append, List.append_assoc]
    exact List.Perm.trans (List.Perm.cons _ List.perm_middle) (List.Perm.swap _ _ _)
  rw [e1] at o
  have o1 := o.perm (hperm g)
  have hm : m * 1 = (cI g).length := (o1.block List.mem_cons_self).2
  have ecg : (cI g).set c (.int .i64 x) = cI (g.set c x) := by rw [cI, cI, List.map_set]
  have o2 := o1.change (n' := m) (sz' := 1) (cs' := (cI g).set c (.int .i64 x)) (by simp at hm ⊢; omega)
  refine ⟨(o1.block List.mem_cons_self).1, ?_⟩
  rw [es, e2]
  refine Owns.perm ?_ (hperm _).symm
  rw [← ecg]
  exact o2

/-- Slices of ints, somewhere. -/
structure LieN (h : Heap) (s : Sl) (gs : List (List Int)) : Prop where
  ex : ∃ ps : List (Sl × List Int), ps.map (·.2) = gs ∧ At h 1 s (slN ps) ∧ ∀ p ∈ ps, At h 1 p.1 (cI p.2)
theorem gridLie {base h : Heap} {L : List Ow} {s : Sl} {ps : List (Sl × List Int)} {gs : List (List Int)} (o : Owns base h ((1, s, slN ps) :: (owN ps ++ L))) (hg : ps.map (·.2) = gs) : LieN h s gs :=
  ⟨ps, hg, o.at_ List.mem_cons_self, fun p hp => o.at_ (List.mem_cons_of_mem _ (List.mem_append_left _ (List.mem_map.2 ⟨p, hp, rfl⟩)))⟩
theorem LieN.ext {h h' : Heap} {s : Sl} {gs : List (List Int)} (l : LieN h s gs) (x : Ext h h') : LieN h' s gs := by
  obtain ⟨ps, h1, h2, h3⟩ := l.ex
  exact ⟨ps, h1, x.at_ h2, fun p hp => x.at_ (h3 p hp)⟩
end Go.Proofs.YtadakbmoanbcgaaGreatDoorVc
