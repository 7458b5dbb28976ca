/- One table more: what strings.Fields reads. -/
import Derived.Test.YtadakbmoanbcgaaGreatDoorVcCkTabs
import Derived.Lib.LaidTab
import Derived.Shelf.Strings.Fields
set_option linter.unusedSimpArgs false
set_option linter.unusedVariables false
namespace Go.Proofs.YtadakbmoanbcgaaGreatDoorVc
open Go.Proofs Go.RowKit
def spaceC : List Cell := (List.range 256).map fun c => .int .u8 (if Lib.isSp (UInt8.ofNat c) then 1 else 0)
structure SpIn (g : Nat) (h : Heap) : Prop where
  ex : ∃ q i, GlobIn h q g i ∧ h i = some (.cells true spaceC)
theorem SpIn.ext {g : Nat} {h h' : Heap} (e : Ext h h') (x : SpIn g h) : SpIn g h' := by
  obtain ⟨q, i, a, b⟩ := x.ex
  exact ⟨q, i, a.ext e, e _ _ b⟩
theorem space_get {c : Nat} (hc : c < 256) : spaceC[c]? = some (.int .u8 (if Lib.isSp (UInt8.ofNat c) then 1 else 0)) := by
  unfold spaceC
  rw [List.getElem?_map, List.getElem?_range hc]; rfl
theorem SpIn.tab {g : Nat} {ρ : Rho} {h : Heap} {w : World} (hr : HR ρ h w) (x : SpIn g h) : ∀ c : Nat, c < 256 → w.cell? ⟨g, c, none⟩ = some (.int .u8 (if Lib.isSp (UInt8.ofNat c) then 1 else 0)) := fun c hc => by
  obtain ⟨q, i, a, b⟩ := x.ex
  exact glob_cell hr a b (space_get hc)
def tabs4 (m : Int) (g0 g1 g2 g3 : Nat) : Tabs := [(g0, [.int .i64 m]), (g1, firstC), (g2, acceptC), (g3, spaceC)]
theorem tabs4_in {P : Program} {w : World} {g0 g1 g2 g3 : Nat} {m : Int} (hd : g3 ≠ g0 ∧ g3 ≠ g1 ∧ g3 ≠ g2) (h : w.ShapedOpen P) (H : TabsIn w (tabs3 m g0 g1 g2)) (l3 : g3 < P.globals.size)
    (z3 : (((begin P (fun _ _ => 0) default).world.heap[g3]?).bind Obj.row?).map (fun p => p.1.size) = some 256) (hs : ∀ c : Nat, c < 256 → w.cell? ⟨g3, c, none⟩ = some (.int .u8 (if Lib.isSp (UInt8.ofNat c) then 1 else 0))) : TabsIn w (tabs4 m g0 g1 g2 g3) := by
  have e : tabs4 m g0 g1 g2 g3 = tabs3 m g0 g1 g2 ++ [(g3, spaceC)] := rfl
  have f3 : ∀ j cl, spaceC[j]? = some cl → j < 256 ∧ cl = .int .u8 (if Lib.isSp (UInt8.ofNat j) then 1 else 0) := fun j cl hj => by
    have hlt : j < 256 := by
      have := (List.getElem?_eq_some_iff.1 hj).1
      simpa [spaceC] using this
    rw [space_get hlt] at hj
    exact ⟨hlt, by simpa using hj.symm⟩
  rw [e]
  refine ⟨?_, fun p hp => ?_, fun p hp c hc => ?_⟩
  · rw [List.map_append]
    refine List.nodup_append.2 ⟨H.nodup, by simp, fun a ha b hb => ?_⟩
    simp only [List.map_cons, List.map_nil, List.mem_singleton] at hb
    subst hb
    simp only [tabs3, List.map_cons, List.map_nil, List.mem_cons, List.not_mem_nil, or_false] at ha
    omega
  · rcases List.mem_append.1 hp with hp | hp
    · exact H.lies p hp
    · rw [List.mem_singleton.1 hp]
      obtain ⟨c, e, h1, h2⟩ := glob_block h l3 z3
      refine ⟨c, e, _, h1, by simp [h2, spaceC], crs_of_cells h1 (by simp [h2, spaceC]) fun j cl hj => ?_⟩
      obtain ⟨hlt, rfl⟩ := f3 j cl hj
      exact ⟨_, _, rfl, hs j hlt⟩
  · rcases List.mem_append.1 hp with hp | hp
    · exact H.nums p hp c hc
    · rw [List.mem_singleton.1 hp] at hc
      obtain ⟨j, hj⟩ := List.mem_iff_getElem?.1 hc
      exact ⟨_, _, (f3 j _ hj).2⟩
theorem tabs4_has {m : Int} {g0 g1 g2 g3 : Nat} {h : Heap} (H : ∀ j p, (tabs4 m g0 g1 g2 g3)[j]? = some p → GlobIn h 1 p.1 (j + 2) ∧ h (j + 2) = some (.cells true p.2)) : (MaxIn g0 h ∧ U8In g1 g2 h) ∧ SpIn g3 h := by
  obtain ⟨a1, a2⟩ := H 0 _ rfl
  obtain ⟨b1, b2⟩ := H 1 _ rfl
  obtain ⟨c1, c2⟩ := H 2 _ rfl
  obtain ⟨d1, d2⟩ := H 3 _ rfl
  exact ⟨⟨⟨1, 2, m, a1, a2⟩, ⟨1, 3, 4, b1, b2, c1, c2⟩⟩, ⟨1, 5, d1, d2⟩⟩
/-- A listed table of numbers. -/
theorem tabIs_of_reads {P : Program} {W : World} {name : String} {k : IntKind} {zs : List Int} {g : Nat} {t e : TypeId} {n : Nat}
    (hg : P.globalNamed name = some g) (hty : (P.globals[g]?).map (·.type) = some t) (ht : P.underlying t = some (.array n e)) (he : P.underlying e = some (.int k)) (hce : P.cellsOf e = 1) (hct : P.cellsOf t = n)
    (h : Lib.VarReads P W name (Lib.tabData k zs)) : Lib.TabIs P W name k zs := by
  obtain ⟨g', t', cs, fuel, p, hg', ht', hvar, hd⟩ := h
  obtain rfl := Option.some.inj (hg.symm.trans hg')
  obtain rfl := Option.some.inj (hty.symm.trans ht')
  unfold Lib.TabIs
  rw [hvar, ← Lib.cells_of_tab ht he hce hct hd]
end Go.Proofs.YtadakbmoanbcgaaGreatDoorVc
