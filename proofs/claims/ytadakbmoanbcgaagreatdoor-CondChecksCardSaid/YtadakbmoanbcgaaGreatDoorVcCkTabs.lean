/- The tables of Go's library that the conditions' laws read, in the abstract heap and in the world. -/
import Derived.Test.YtadakbmoanbcgaaGreatDoorVcCkN
import Derived.Test.YtadakbmoanbcgaaGreatDoorVcTopGs
import Derived.Test.YtadakbmoanbcgaaGreatDoorVcPrims
import Derived.Lib.LaidU8
set_option linter.unusedSimpArgs false
set_option linter.unusedVariables false
namespace Go.Proofs.YtadakbmoanbcgaaGreatDoorVc
open Go.Proofs Go.RowKit
def firstC : List Cell := (List.range 256).map fun c => .int .u8 ((Lib.firstT c : Nat) : Int)
def acceptC : List Cell := (List.range 32).map fun c => .int .u8 (((if c % 2 = 0 then Lib.accLo (c / 2) else Lib.accHi (c / 2)) : Nat) : Int)
/-- A variable's cell, where the abstract heap knows the variable. -/
theorem glob_cell {ρ : Rho} {h : Heap} {w : World} (hr : HR ρ h w) {q g i j : Nat} {ro : Bool} {cs : List Cell} {k : IntKind} {n : Int} (hg : GlobIn h q g i) (hi : h i = some (.cells ro cs)) (hj : cs[j]? = some (.int k n)) : w.cell? ⟨g, j, none⟩ = some (.int k n) := by
  obtain ⟨m, hm⟩ := hr.glob q g i hg
  obtain ⟨ob, h1, c, e, fz, rfl, h2, h3, h4, _⟩ := hr.live i _ _ hi hm
  simp only [List.drop_zero] at h1 h3 h4
  obtain ⟨v, hv, hc⟩ := h4.get hj
  obtain rfl : v = .int k n := hc
  rw [List.getElem?_take] at hv
  split at hv
  · rw [Array.getElem?_toList] at hv
    simp [World.cell?, h1, hv]
  · cases hv
structure MaxIn (g : Nat) (h : Heap) : Prop where
  ex : ∃ q i m, GlobIn h q g i ∧ h i = some (.cells true [.int .i64 m])
structure U8In (g1 g2 : Nat) (h : Heap) : Prop where
  ex : ∃ q i j, GlobIn h q g1 i ∧ h i = some (.cells true firstC) ∧ GlobIn h q g2 j ∧ h j = some (.cells true acceptC)
theorem GlobIn.ext {h h' : Heap} (e : Ext h h') {q g i : Nat} (x : GlobIn h q g i) : GlobIn h' q g i := by
  obtain ⟨f, a, b⟩ := x
  exact ⟨f, e _ _ a, b⟩
theorem MaxIn.ext {g : Nat} {h h' : Heap} (e : Ext h h') (x : MaxIn g h) : MaxIn g h' := by
  obtain ⟨q, i, m, a, b⟩ := x.ex
  exact ⟨q, i, m, a.ext e, e _ _ b⟩
theorem U8In.ext {g1 g2 : Nat} {h h' : Heap} (e : Ext h h') (x : U8In g1 g2 h) : U8In g1 g2 h' := by
  obtain ⟨q, i, j, a, b, c, d⟩ := x.ex
  exact ⟨q, i, j, a.ext e, e _ _ b, c.ext e, e _ _ d⟩
theorem MaxIn.cell {g : Nat} {ρ : Rho} {h : Heap} {w : World} (hr : HR ρ h w) (x : MaxIn g h) : ∃ m, w.cell? ⟨g, 0, none⟩ = some (.int .i64 m) := by
  obtain ⟨q, i, m, a, b⟩ := x.ex
  exact ⟨m, glob_cell hr a b rfl⟩
theorem U8In.tabs {g1 g2 : Nat} {ρ : Rho} {h : Heap} {w : World} (hr : HR ρ h w) (x : U8In g1 g2 h) : Lib.Utf8Tabs g1 g2 w := by
  obtain ⟨q, i, j, a, b, c, d⟩ := x.ex
  refine ⟨fun k hk => glob_cell hr a b ?_, fun k hk => ⟨glob_cell hr c d ?_, glob_cell hr c d ?_⟩⟩
  · unfold firstC
    rw [List.getElem?_map, List.getElem?_range hk]; rfl
  · unfold acceptC
    rw [List.getElem?_map, List.getElem?_range (by omega)]
    simp
  · unfold acceptC
    rw [List.getElem?_map, List.getElem?_range (by omega)]
    have e1 : (2 * k + 1) % 2 = 1 := by omega
    have e2 : (2 * k + 1) / 2 = k := by omega
    simp [e1, e2]
/-- A variable's block, and how long it is. -/
theorem glob_block {P : Program} {w : World} {g n : Nat} (h : w.ShapedOpen P) (hg : g < P.globals.size) (hz : (((begin P (fun _ _ => 0) default).world.heap[g]?).bind Obj.row?).map (fun p => p.1.size) = some n) : ∃ c e, w.heap[g]? = some (.cells c e) ∧ c.size = n := by
  cases e : ((begin P (fun _ _ => 0) default).world.heap[g]?).bind Obj.row? with
  | none => rw [e] at hz; cases hz
  | some p =>
    obtain ⟨zero, t⟩ := p
    rw [e] at hz
    simp only [Option.map_some, Option.some.injEq] at hz
    obtain ⟨cs, h1, h2, _⟩ := h.1 g zero t hg e
    exact ⟨cs, t, h1, by omega⟩
theorem crs_of_cells {w : World} {g : Nat} {c : Array Value} {e : TypeId} {cs : List Cell} (hb : w.heap[g]? = some (.cells c e)) (hs : c.size = cs.length) (hc : ∀ j cl, cs[j]? = some cl → ∃ k n, cl = .int k n ∧ w.cell? ⟨g, j, none⟩ = some (.int k n)) (ρ : Rho) : CRs ρ cs c.toList := by
  refine CRs.of_get (by simp [hs]) fun j cl v h1 h2 => ?_
  obtain ⟨k, n, rfl, h3⟩ := hc j cl h1
  rw [Array.getElem?_toList] at h2
  simp [World.cell?, hb] at h3
  rw [h3] at h2
  cases h2
  exact rfl
/-- The three tables. -/
def tabs3 (m : Int) (g0 g1 g2 : Nat) : Tabs := [(g0, [.int .i64 m]), (g1, firstC), (g2, acceptC)]
theorem tabs3_in {P : Program} {w : World} {g0 g1 g2 : Nat} {m : Int} (hd : g0 ≠ g1 ∧ g0 ≠ g2 ∧ g1 ≠ g2) (h : w.ShapedOpen P) (l0 : g0 < P.globals.size) (l1 : g1 < P.globals.size) (l2 : g2 < P.globals.size)
    (z0 : (((begin P (fun _ _ => 0) default).world.heap[g0]?).bind Obj.row?).map (fun p => p.1.size) = some 1) (z1 : (((begin P (fun _ _ => 0) default).world.heap[g1]?).bind Obj.row?).map (fun p => p.1.size) = some 256)
    (z2 : (((begin P (fun _ _ => 0) default).world.heap[g2]?).bind Obj.row?).map (fun p => p.1.size) = some 32) (hm : w.cell? ⟨g0, 0, none⟩ = some (.int .i64 m)) (hu : Lib.Utf8Tabs g1 g2 w) : TabsIn w (tabs3 m g0 g1 g2) := by
  have f1 : ∀ j cl, firstC[j]? = some cl → j < 256 ∧ cl = .int .u8 ((Lib.firstT j : Nat) : Int) := fun j cl hj => by
    unfold firstC at hj
    rw [List.getElem?_map] at hj
    have hlt : j < 256 := by
      have := (List.getElem?_eq_some_iff.1 (show ((List.range 256).map fun c => Cell.int .u8 ((Lib.firstT c : Nat) : Int))[j]? = some cl by rw [List.getElem?_map]; exact hj)).1
      simpa using this
    rw [List.getElem?_range hlt] at hj
    exact ⟨hlt, by simpa using hj.symm⟩
  have f2 : ∀ j cl, acceptC[j]? = some cl → j < 32 ∧ cl = .int .u8 (((if j % 2 = 0 then Lib.accLo (j / 2) else Lib.accHi (j / 2)) : Nat) : Int) := fun j cl hj => by
    unfold acceptC at hj
    have hlt : j < 32 := by
      have := (List.getElem?_eq_some_iff.1 hj).1
      simpa using this
    rw [List.getElem?_map, List.getElem?_range hlt] at hj
    exact ⟨hlt, by simpa using hj.symm⟩
  refine ⟨by simp [tabs3, hd.1, hd.2.1, hd.2.2], fun p hp => ?_, fun p hp c hc => ?_⟩
  · simp only [tabs3, List.mem_cons, List.not_mem_nil, or_false] at hp
    rcases hp with rfl | rfl | rfl
    · obtain ⟨c, e, h1, h2⟩ := glob_block h l0 z0
      refine ⟨c, e, _, h1, by simp [h2], crs_of_cells h1 (by simp [h2]) fun j cl hj => ?_⟩
      match j, hj with
      | 0, hj => cases hj; exact ⟨_, _, rfl, hm⟩
      | j + 1, hj => simp at hj
    · obtain ⟨c, e, h1, h2⟩ := glob_block h l1 z1
      refine ⟨c, e, _, h1, by simp [h2, firstC], crs_of_cells h1 (by simp [h2, firstC]) fun j cl hj => ?_⟩
      obtain ⟨hlt, rfl⟩ := f1 j cl hj
      exact ⟨_, _, rfl, hu.1 j hlt⟩
    · obtain ⟨c, e, h1, h2⟩ := glob_block h l2 z2
      refine ⟨c, e, _, h1, by simp [h2, acceptC], crs_of_cells h1 (by simp [h2, acceptC]) fun j cl hj => ?_⟩
      obtain ⟨hlt, rfl⟩ := f2 j cl hj
      refine ⟨_, _, rfl, ?_⟩
      obtain ⟨u1, u2⟩ := hu.2 (j / 2) (by omega)
      by_cases e : j % 2 = 0
      · rw [if_pos e]; rw [show 2 * (j / 2) = j by omega] at u1; exact u1
      · rw [if_neg e]; rw [show 2 * (j / 2) + 1 = j by omega] at u2; exact u2
  · simp only [tabs3, List.mem_cons, List.not_mem_nil, or_false] at hp
    rcases hp with rfl | rfl | rfl
    · exact ⟨_, _, List.mem_singleton.1 hc⟩
    · obtain ⟨j, hj, rfl⟩ := List.mem_iff_getElem.1 hc
      exact ⟨_, _, (f1 j _ (List.getElem?_eq_getElem hj)).2⟩
    · obtain ⟨j, hj, rfl⟩ := List.mem_iff_getElem.1 hc
      exact ⟨_, _, (f2 j _ (List.getElem?_eq_getElem hj)).2⟩
theorem tabs3_has {m : Int} {g0 g1 g2 : Nat} {h : Heap} (H : ∀ j p, (tabs3 m g0 g1 g2)[j]? = some p → GlobIn h 1 p.1 (j + 2) ∧ h (j + 2) = some (.cells true p.2)) : MaxIn g0 h ∧ U8In g1 g2 h := by
  obtain ⟨a1, a2⟩ := H 0 _ rfl
  obtain ⟨b1, b2⟩ := H 1 _ rfl
  obtain ⟨c1, c2⟩ := H 2 _ rfl
  exact ⟨⟨1, 2, m, a1, a2⟩, ⟨1, 3, 4, b1, b2, c1, c2⟩⟩
end Go.Proofs.YtadakbmoanbcgaaGreatDoorVc
