/- slices.Insert at the rows of this seat: its walk. slices.Insert at the rows of this seat: its walk. slices.Insert at the rows of this seat: its walk. Reverse and the rotations of rows of a slice and two ints. slices.Insert at rows of a slice and two ints: the primitive stands. -/
import Derived.Test.YtdjancoknephnaaDoorVcInsRun
import Derived.Test.YtdjancoknephnaaDoorProg
import Derived.Deep.DeepFit
import Derived.Shelf.Abstract
import Derived.Test.YtdjancoknephnaaDoorVcOwns
import Derived.Test.YtdjancoknephnaaDoorVcRows4
set_option linter.unusedVariables false
set_option linter.unusedSimpArgs false
set_option maxRecDepth 100000
-- InsWalk
namespace Go.Proofs.YtdjancoknephnaaDoorVc
open Go.Proofs Go.RowKit
set_option maxHeartbeats 4000000 in
set_option maxRecDepth 100000 in
/-- i = len(s): append. -/
theorem ins_end {w w' : World} {v' : Value} (base : Option Addr) (n c vb X m vc : Nat) (hm : 0 < m) (hnc : n ≤ c) (hnil : base = none → c = 0)
    (hrun : (Builtin.append_ #[35, 35] 35 #[.slice base n c, .slice (some ⟨vb, X, none⟩) m vc]).run Tryd.prog w = .ok v' w') :
    Go.Calls Tryd.prog 49 #[.slice base n c, .int .i64 n, .slice (some ⟨vb, X, none⟩) m vc] w fun e W => e = .returned v' ∧ W = w' := by
  have t35 := Tryd.underlying35; have a35 := Tryd.isAgg35; have z35 := Tryd.sizeOf35; have v35 := Tryd.zeroValue35
  have t64 := Tryd.underlying64; have a64 := Tryd.isAgg64; have z64 := Tryd.sizeOf64; have v64 := Tryd.zeroValue64
  have t3 := Tryd.underlying3; have a3 := Tryd.isAgg3; have z3 := Tryd.sizeOf3; have v3 := Tryd.zeroValue3
  have t4 := Tryd.underlying4; have a4 := Tryd.isAgg4; have z4 := Tryd.sizeOf4; have v4 := Tryd.zeroValue4
  have u3 := run_underlying Tryd.underlying3; have u4 := run_underlying Tryd.underlying4; have u35 := run_underlying Tryd.underlying35; have u64 := run_underlying Tryd.underlying64
  have hz1 : ¬ ((m : Int) = 0) := by omega
  go_enter Tryd.func49, Tryd.ntmps49
  cases base with
  | none =>
    have h0 := hnil rfl
    subst h0
    obtain rfl : n = 0 := by omega
    go_wp2_with (at_builtin; refine wpList_append_ex _ rfl _ _ _ _ rfl _ _ rfl rfl hrun ?_)
    go_ret
    exact ⟨rfl, rfl⟩
  | some a =>
    obtain ⟨ab, ao, asp⟩ := a
    go_wp2_with (at_builtin; refine wpList_append_ex _ rfl _ _ _ _ rfl _ _ rfl rfl hrun ?_)
    all_goals (go_ret; exact ⟨rfl, rfl⟩)

theorem info64 : ∃ inf z, Tryd.prog.info? 64 = some inf ∧ inf.zero = some z ∧ inf.size = 3 ∧ inf.bytes = 40 ∧ z.cells.size = 3 := by
  obtain ⟨inf, hi⟩ := Option.isSome_iff_exists.1 (show (Tryd.prog.info? 64).isSome = true by kernel_rfl)
  have h2 : ((Tryd.prog.info? 64).bind (·.zero)).isSome = true := by kernel_rfl
  have h3 : (Tryd.prog.info? 64).map (·.size) = some 3 := by kernel_rfl
  have h4 : (Tryd.prog.info? 64).map (·.bytes) = some 40 := by kernel_rfl
  have h5 : ((Tryd.prog.info? 64).bind (·.zero)).map (fun z => z.cells.size) = some 3 := by kernel_rfl
  rw [hi] at h2 h3 h4 h5
  obtain ⟨z, hz⟩ := Option.isSome_iff_exists.1 h2
  rw [hz] at h5
  exact ⟨inf, z, hi, hz, by simpa using h3, by simpa using h4, by simpa using h5⟩
end Go.Proofs.YtdjancoknephnaaDoorVc
-- InsGrow
namespace Go.Proofs.YtdjancoknephnaaDoorVc
open Go.Proofs Go.RowKit
set_option maxHeartbeats 4000000 in
set_option maxRecDepth 100000 in
/-- i < len(s), no room: a new row. -/
theorem ins_grow {w : World} {cb cv : Array Value} {elb elv : TypeId} {fzb fzv : Nat × Nat} (b X n c i vb Y m vc : Nat) (hi : i < n) (hm : 0 < m) (hnc : n ≤ c) (hroom : c < n + m) (hbig : (n + m) * 40 ≤ 140737488355328)
    (hb : w.heap[b]? = some (.cells cb elb fzb)) (hbs : X + n * 3 ≤ cb.size) (hv : w.heap[vb]? = some (.cells cv elv fzv)) (hvs : Y + m * 3 ≤ cv.size)
    (h1b : ∀ u ∈ (cb.toList.drop X).take (n * 3), u.oneCell' = true) (h1v : ∀ u ∈ (cv.toList.drop Y).take (m * 3), u.oneCell' = true) :
    Go.Calls Tryd.prog 49 #[.slice (some ⟨b, X, none⟩) n c, .int .i64 i, .slice (some ⟨vb, Y, none⟩) m vc] w fun e W => ∃ cap c', e = .returned (.slice (some ⟨w.heap.size, 0, none⟩) (n + m) cap) ∧ n + m ≤ cap ∧ Below w.heap.size w W ∧
      W.heap[w.heap.size]? = some (.cells c' 64 (0, 0)) ∧ c'.size = cap * 3 ∧ c'.toList.take ((n + m) * 3) = (cb.toList.drop X).take (i * 3) ++ (cv.toList.drop Y).take (m * 3) ++ (cb.toList.drop (X + i * 3)).take ((n - i) * 3) := by
  have t35 := Tryd.underlying35; have a35 := Tryd.isAgg35; have z35 := Tryd.sizeOf35; have v35 := Tryd.zeroValue35
  have t64 := Tryd.underlying64; have a64 := Tryd.isAgg64; have z64 := Tryd.sizeOf64; have v64 := Tryd.zeroValue64
  have t3 := Tryd.underlying3; have a3 := Tryd.isAgg3; have z3 := Tryd.sizeOf3; have v3 := Tryd.zeroValue3
  have t4 := Tryd.underlying4; have a4 := Tryd.isAgg4; have z4 := Tryd.sizeOf4; have v4 := Tryd.zeroValue4
  have u3 := run_underlying Tryd.underlying3; have u4 := run_underlying Tryd.underlying4; have u35 := run_underlying Tryd.underlying35; have u64 := run_underlying Tryd.underlying64
  have mixed : Tryd.prog.follows .mixedOrders = true := by kernel_rfl
  have hz1 : ¬ ((m : Int) = 0) := by omega
  have hz2 : ¬ ((i : Int) = (n : Int)) := by omega
  have hz3 : (c : Int) < (n : Int) + (m : Int) := by omega
  obtain ⟨inf, z, hinf, hz, hsz, hby, hzs⟩ := info64
  have hbw : b < w.heap.size := (Array.getElem?_eq_some_iff.1 hb).1
  have hvw : vb < w.heap.size := (Array.getElem?_eq_some_iff.1 hv).1
  have hkk : (n : Int) + (m : Int) - (i : Int) = ((n + m - i : Nat) : Int) := by omega
  have hik : i + (n + m - i) = n + m := by omega
  obtain ⟨w1, cap, hcap, c0, hrz, hw1, hc0, hc0s, hc0t⟩ : ∃ w1 cap, n + m ≤ cap ∧ ∃ c0 : Array Value, (Builtin.append_ #[35, 3] 35 #[.slice (some ⟨b, X, none⟩) i c, .int .i64 ((n : Int) + (m : Int) - (i : Int))]).run Tryd.prog w =
      .ok (.slice (some ⟨w.heap.size, 0, none⟩) (n + m) cap) w1 ∧ Below w.heap.size w w1 ∧ w1.heap[w.heap.size]? = some (.cells c0 64 (0, 0)) ∧ c0.size = cap * 3 ∧ c0.toList.take (i * 3) = (cb.toList.drop X).take (i * 3) := by
    have hA := AppRun.zeros (P := Tryd.prog) (w := w) (t := 35) (t' := 3) (ty := 35) (el := 64) (inf := inf) (z := z) (k := .i64) (k' := .i64) (n := (n : Int) + (m : Int) - (i : Int)) t35 hinf hz (by rw [hzs, hsz]) t3 (by omega) (by omega)
      (by rw [hby, hkk, Int.toNat_natCast]; omega)
    have hgr := hA.grow (base := some ⟨b, X, none⟩) (sLen := i) (sCap := c) (olds := (cb.toList.drop X).take (i * 3)) (by
      rw [hsz]
      exact firstCells_block (w := w.drew) hb (by omega)) (by rw [hkk, Int.toNat_natCast]; omega) (by rw [hkk, Int.toNat_natCast]; omega) (by
        rw [hby, hkk, Int.toNat_natCast, hik]
        exact growslice_fits (by omega) hbig)
    rw [hkk, Int.toNat_natCast, hik] at hgr
    have hge := grownCap_ge w (n + m) c 64
    refine ⟨_, grownCap w (n + m) c 64, hge, ((cb.toList.drop X).take (i * 3)).toArray ++ (Builtin.zeroCells z.cells (n + m - i)).toList.toArray ++ Builtin.zeroCells z.cells (grownCap w (n + m) c 64 - (n + m)), by rw [hkk]; exact hgr, ?_, ?_, ?_, ?_⟩
    · exact ⟨rfl, rfl, rfl, by simp, fun k hk => by simp [Array.getElem?_push, Nat.ne_of_lt hk]; rfl⟩
    · simp only [Array.getElem?_push]; simp
    · simp [size_zeroCells, hzs]
      omega
    · simp only [Array.toList_append, List.append_assoc]
      rw [List.take_left' (by simp; omega)]
  have hus1 : ((cb.toList.drop (X + i * 3)).take ((n - i) * 3)).length = (n - i) * 3 := by simp; omega
  have hus2 : ((cv.toList.drop Y).take (m * 3)).length = m * 3 := by simp; omega
  have h1c : ∀ u ∈ (cb.toList.drop (X + i * 3)).take ((n - i) * 3), u.oneCell' = true := fun u hu => by
    refine h1b u ?_
    have e : (cb.toList.drop (X + i * 3)).take ((n - i) * 3) = ((cb.toList.drop X).take (n * 3)).drop (i * 3) := by
      rw [List.drop_take, List.drop_drop]
      congr 1
      omega
    rw [e] at hu
    exact List.mem_of_mem_drop hu
  have hw1b : w1.heap[b]? = some (.cells cb elb fzb) := by rw [hw1.block _ hbw]; exact hb
  have hw1v : w1.heap[vb]? = some (.cells cv elv fzv) := by rw [hw1.block _ hvw]; exact hv
  have hcA : ∀ (W : World), W.heap = w1.heap → ∀ dc, ∃ w', (Builtin.copy_ #[35, 35] 3 #[.slice (some ⟨w.heap.size, i * 3, none⟩) (n + m - i) dc, .slice (some ⟨vb, Y, none⟩) m vc]).run Tryd.prog W = .ok (Go.goInt (m : Nat)) w' ∧
      ∃ c1, OneBlock W w' w.heap.size c0 c1 64 (0, 0) ∧ c1.toList = c0.toList.take (i * 3) ++ (cv.toList.drop Y).take (m * 3) ++ c0.toList.drop (i * 3 + ((cv.toList.drop Y).take (m * 3)).length) := fun W hW dc =>
    copy_block (E := 64) (inf := inf) t35 hinf hsz (show Nat.min m (n + m - i) = m from Nat.min_eq_left (by omega)) rfl (firstCells_block (by rw [hW]; exact hw1v) hvs) (by rw [hW]; exact hc0) (fun j _ => by simp) (by rw [hus2, hc0s]; omega) h1v
  have hG1 : ∀ W : World, W.os = w1.os → W.tape = w1.tape → W.output = w1.output → W.heap = w1.heap → Below w.heap.size w W := fun W e1 e2 e3 e4 => ⟨by rw [e1]; exact hw1.os, by rw [e2]; exact hw1.tape, by rw [e3]; exact hw1.output, by rw [e4]; exact hw1.size, fun k hk => by rw [e4]; exact hw1.block k hk⟩
  have hcA' : ∀ (W : World), (W = w1 ∨ W = w1.drew) → ∀ dc, ∃ w', (Builtin.copy_ #[35, 35] 3 #[.slice (some ⟨w.heap.size, i * 3, none⟩) (n + m - i) dc, .slice (some ⟨vb, Y, none⟩) m vc]).run Tryd.prog W = .ok (Go.goInt (m : Nat)) w' ∧
      (Below w.heap.size w w' ∧ ∃ c1 : Array Value, w'.heap[w.heap.size]? = some (.cells c1 64 (0, 0)) ∧ c1.size = cap * 3 ∧ c1.toList.take ((i + m) * 3) = (cb.toList.drop X).take (i * 3) ++ (cv.toList.drop Y).take (m * 3)) := fun W hW dc => by
    have e4 : W.heap = w1.heap := by rcases hW with rfl | rfl <;> rfl
    obtain ⟨w', hr, c1, hob, htl⟩ := hcA W e4 dc
    have hB : Below w.heap.size w W := by rcases hW with rfl | rfl <;> exact hG1 _ rfl rfl rfl rfl
    refine ⟨w', hr, ⟨hob.os.trans hB.os, hob.tape.trans hB.tape, hob.output.trans hB.output, by rw [hob.size]; exact hB.size, fun k hk => by rw [hob.there k (by omega)]; exact hB.block k hk⟩, c1, hob.here, by rw [hob.same]; exact hc0s, ?_⟩
    rw [htl, hc0t, List.take_left' (by simp; omega)]
  have hcB : ∀ (W : World), (Below w.heap.size w W ∧ ∃ c1 : Array Value, W.heap[w.heap.size]? = some (.cells c1 64 (0, 0)) ∧ c1.size = cap * 3 ∧ c1.toList.take ((i + m) * 3) = (cb.toList.drop X).take (i * 3) ++ (cv.toList.drop Y).take (m * 3)) →
      ∀ dc sc, ∃ w', (Builtin.copy_ #[35, 35] 3 #[.slice (some ⟨w.heap.size, (i + m) * 3, none⟩) (n + m - (i + m)) dc, .slice (some ⟨b, X + i * 3, none⟩) (n - i) sc]).run Tryd.prog W = .ok (Go.goInt ((n - i : Nat) : Nat)) w' ∧
      (Below w.heap.size w w' ∧ ∃ c' : Array Value, w'.heap[w.heap.size]? = some (.cells c' 64 (0, 0)) ∧ c'.size = cap * 3 ∧ c'.toList.take ((n + m) * 3) = (cb.toList.drop X).take (i * 3) ++ (cv.toList.drop Y).take (m * 3) ++ (cb.toList.drop (X + i * 3)).take ((n - i) * 3)) := fun W ⟨hB, c1, h1, h2, h3⟩ dc sc => by
    obtain ⟨w', hr, c', hob, htl⟩ := copy_block (P := Tryd.prog) (w := W) (t := 35) (t' := 35) (ty := 3) (E := 64) (inf := inf) (X := (i + m) * 3) (dn := n + m - (i + m)) (dc := dc) (N := n - i) (x := .slice (some ⟨b, X + i * 3, none⟩) (n - i) sc) (m := n - i)
      t35 hinf hsz (by show min _ _ = _; omega) rfl (firstCells_block (by rw [hB.block _ hbw]; exact hb) (by omega)) h1 (fun j _ => by simp) (by rw [hus1, h2]; omega) h1c
    refine ⟨w', hr, ⟨hob.os.trans hB.os, hob.tape.trans hB.tape, hob.output.trans hB.output, by rw [hob.size]; exact hB.size, fun k hk => by rw [hob.there k (by omega)]; exact hB.block k hk⟩, c', hob.here, by rw [hob.same]; exact h2, ?_⟩
    rw [htl, h3, List.take_left' (by simp; omega)]
  have hw1' : IntKind.i64.wrap ((i : Int) + (m : Int)) = (i : Int) + (m : Int) := by rw [IntKind.wrap_i64]; omega
  have hb1 : (0 : Int) ≤ (i : Int) + (m : Int) := by omega
  have hin : i ≤ n := by omega
  have htn : ((i : Int) + (m : Int)).toNat = i + m := by omega
  have hb3 : (i : Int) ≤ (n : Int) := by omega
  have hGi : ¬ (cap = i) := by omega
  have hGim : ¬ (cap = i + m) := by omega
  have hci : ¬ (c = i) := by omega
  have hcA1 := hcA' w1 (.inl rfl)
  have hcA2 := hcA' w1.drew (.inr rfl)
  clear hcA'
  clear hkk hik hinf hz hsz hby hzs hw1 hc0 hc0s hc0t hcA hG1 hw1b hw1v hus1 hus2 h1c h1b h1v hb hv
  go_enter Tryd.func49, Tryd.ntmps49
  go_wp2_with (first
    | (at_builtin; refine wpList_append_ex _ rfl _ _ _ _ rfl _ _ rfl rfl hrz ?_)
    | (refine wpList_copy_ex _ rfl _ _ 35 35 rfl _ _ rfl rfl (hcA1 _) ?_; intro W2 hW2)
    | (refine wpList_copy_ex _ rfl _ _ 35 35 rfl _ _ rfl rfl (hcA2 _) ?_; intro W2 hW2))
  go_region_law_o (first | (refine step_copy_ex rfl _ _ 35 35 rfl (.slice (some ⟨w.heap.size, (i + m) * 3, none⟩) (n + m - (i + m)) (cap - (i + m))) (.slice (some ⟨b, X + i * 3, none⟩) (n - i) (c - i)) (by simp [Act.eval, Act.put]) (by simp [Act.eval, Act.put]) (hcB W2.drew ⟨hW2.1.drew, hW2.2⟩ (cap - (i + m)) (c - i)) ?_; intro W3 hW3) | (refine step_copy_ex rfl _ _ 35 35 rfl (.slice (some ⟨w.heap.size, (i + m) * 3, none⟩) (n + m - (i + m)) (cap - (i + m))) (.slice (some ⟨b, X + i * 3, none⟩) (n - i) (c - i)) (by simp [Act.eval, Act.put]) (by simp [Act.eval, Act.put]) (hcB W2 hW2 (cap - (i + m)) (c - i)) ?_; intro W3 hW3))
  go_wp2
  try go_ret
  obtain ⟨hB, c', h1, h2, h3⟩ := hW3
  exact ⟨cap, c', rfl, hcap, hB, h1, h2, h3⟩

end Go.Proofs.YtdjancoknephnaaDoorVc
-- InsRoom
namespace Go.Proofs.YtdjancoknephnaaDoorVc
open Go.Proofs Go.RowKit
set_option maxHeartbeats 4000000 in
set_option maxRecDepth 100000 in
/-- i < len(s), there is room: in place, by two copies or by a copy and a rotation. -/
theorem ins_room {w : World} {cb cv : Array Value} {elb elv : TypeId} {fzb fzv : Nat × Nat} {R : Ending → World → Prop} (b X n c i vb Y m vc : Nat) (hi : i < n) (hm : 0 < m) (hroom : n + m ≤ c) (hbig : (n + m) * 40 ≤ 140737488355328) (hvb : vb ≠ b)
    (hb : w.heap[b]? = some (.cells cb elb fzb)) (hbs : X + c * 3 ≤ cb.size) (hfz : ∀ j, j < cb.size → (decide (fzb.1 ≤ j) && decide (j < fzb.2)) = false) (hv : w.heap[vb]? = some (.cells cv elv fzv)) (hvs : Y + m * 3 ≤ cv.size)
    (h1b : ∀ u ∈ (cb.toList.drop X).take (n * 3), u.oneCell' = true) (h1v : ∀ u ∈ (cv.toList.drop Y).take (m * 3), u.oneCell' = true)
    (hhard : ∀ W c', OneBlock w W b cb c' elb fzb → c'.toList = cb.toList.take (X + n * 3) ++ (cv.toList.drop Y).take (m * 3) ++ cb.toList.drop (X + n * 3 + m * 3) → ∀ dc, n + m - i ≤ dc → dc = c - i →
      Go.Calls Tryd.prog 79 #[.slice (some ⟨b, X + i * 3, none⟩) (n + m - i) dc, .int .i64 m] W fun e W' => e = .returned (.tuple #[]) ∧ R (.returned (.slice (some ⟨b, X, none⟩) (n + m) c)) W')
    (hR : ∀ W c', OneBlock w W b cb c' elb fzb → (c'.toList.drop X).take ((n + m) * 3) = (cb.toList.drop X).take (i * 3) ++ (cv.toList.drop Y).take (m * 3) ++ (cb.toList.drop (X + i * 3)).take ((n - i) * 3) → R (.returned (.slice (some ⟨b, X, none⟩) (n + m) c)) W) :
    Go.Calls Tryd.prog 49 #[.slice (some ⟨b, X, none⟩) n c, .int .i64 i, .slice (some ⟨vb, Y, none⟩) m vc] w R := by
  have t35 := Tryd.underlying35; have a35 := Tryd.isAgg35; have z35 := Tryd.sizeOf35; have v35 := Tryd.zeroValue35
  have t64 := Tryd.underlying64; have a64 := Tryd.isAgg64; have z64 := Tryd.sizeOf64; have v64 := Tryd.zeroValue64
  have t3 := Tryd.underlying3; have a3 := Tryd.isAgg3; have z3 := Tryd.sizeOf3; have v3 := Tryd.zeroValue3
  have t4 := Tryd.underlying4; have a4 := Tryd.isAgg4; have z4 := Tryd.sizeOf4; have v4 := Tryd.zeroValue4
  have u3 := run_underlying Tryd.underlying3; have u4 := run_underlying Tryd.underlying4; have u35 := run_underlying Tryd.underlying35; have u64 := run_underlying Tryd.underlying64
  have mixed : Tryd.prog.follows .mixedOrders = true := by kernel_rfl
  have hz1 : ¬ ((m : Int) = 0) := by omega
  have hz2 : ¬ ((i : Int) = (n : Int)) := by omega
  obtain ⟨inf, z, hinf, hz, hsz, hby, hzs⟩ := info64
  have hin : i ≤ n := by omega
  have hus1 : ((cb.toList.drop (X + i * 3)).take ((n - i) * 3)).length = (n - i) * 3 := by simp; omega
  have hus2 : ((cv.toList.drop Y).take (m * 3)).length = m * 3 := by simp; omega
  have h1c : ∀ u ∈ (cb.toList.drop (X + i * 3)).take ((n - i) * 3), u.oneCell' = true := fun u hu => by
    refine h1b u ?_
    have e : (cb.toList.drop (X + i * 3)).take ((n - i) * 3) = ((cb.toList.drop X).take (n * 3)).drop (i * 3) := by
      rw [List.drop_take, List.drop_drop]
      congr 1
      omega
    rw [e] at hu
    exact List.mem_of_mem_drop hu
  obtain ⟨x, wo, hov, hwo⟩ := overlaps_any (P := Tryd.prog) w 35 4 64 t35 3 z64 ⟨vb, Y, none⟩ ⟨b, X + (i + m) * 3, none⟩ m vc (n + m - (i + m)) (c - (i + m)) hvb elv elb cv.size cb.size (by simp [World.shape?, hv]) (by simp [World.shape?, hb])
    (by simp only [World.frozen?, hb]; exact hfz _ (by omega))
  have hcall : (callFunc 78 #[.slice (some ⟨vb, Y, none⟩) m vc, .slice (some ⟨b, X + (i + m) * 3, none⟩) (n + m - (i + m)) (c - (i + m))]).run Tryd.prog w = .ok (.value (.bool x)) wo := by
    rw [run_callFunc_extern Tryd.func78 (by kernel_rfl) (by kernel_rfl) (by kernel_rfl) (e := Extern.SlicesOverlaps.overlaps #[35, 35] #[4]) (by kernel_rfl), hov]
    rfl
  have hwoh : wo.heap = w.heap := by rcases hwo with rfl | rfl <;> rfl
  have hone : ∀ W cc, OneBlock wo W b cb cc elb fzb → OneBlock w W b cb cc elb fzb := fun W cc h => by rcases hwo with rfl | rfl; exact h; exact h.drewL
  have hvbw : ∀ W cc, OneBlock w W b cb cc elb fzb → W.heap[vb]? = some (.cells cv elv fzv) := fun W cc h => by rw [h.there _ hvb]; exact hv
  have hw1' : IntKind.i64.wrap ((i : Int) + (m : Int)) = (i : Int) + (m : Int) := by rw [IntKind.wrap_i64]; omega
  have hw2' : IntKind.i64.wrap ((n : Int) + (m : Int)) = (n : Int) + (m : Int) := by rw [IntKind.wrap_i64]; omega
  have hb1 : (0 : Int) ≤ (i : Int) + (m : Int) := by omega
  have htn : ((i : Int) + (m : Int)).toNat = i + m := by omega
  have htn2 : ((n : Int) + (m : Int)).toNat = n + m := by omega
  have hb2 : ¬ (c = i + m) := by omega
  have hb3 : (i : Int) ≤ (n : Int) + (m : Int) := by omega
  have hb4 : ¬ (c = i) := by omega
  have hb5 : ¬ (c = n) := by omega
  -- the easy case
  have hcA : ∀ W : World, (W = wo ∨ W = wo.drew) → ∃ w', (Builtin.copy_ #[35, 35] 3 #[.slice (some ⟨b, X + (i + m) * 3, none⟩) (n + m - (i + m)) (c - (i + m)), .slice (some ⟨b, X + i * 3, none⟩) (n + m - i) (c - i)]).run Tryd.prog W = .ok (Go.goInt ((n - i : Nat) : Nat)) w' ∧
      ∃ c1, OneBlock w w' b cb c1 elb fzb ∧ c1.toList = cb.toList.take (X + (i + m) * 3) ++ (cb.toList.drop (X + i * 3)).take ((n - i) * 3) ++ cb.toList.drop (X + (i + m) * 3 + ((cb.toList.drop (X + i * 3)).take ((n - i) * 3)).length) := fun W hW => by
    have e4 : W.heap = w.heap := by rcases hW with rfl | rfl <;> exact hwoh
    obtain ⟨w', hr, c1, hob, htl⟩ := copy_block (P := Tryd.prog) (w := W) (t := 35) (t' := 35) (ty := 3) (E := 64) (inf := inf) (X := X + (i + m) * 3) (dn := n + m - (i + m)) (dc := c - (i + m)) (N := n - i) (x := .slice (some ⟨b, X + i * 3, none⟩) (n + m - i) (c - i)) (m := n + m - i)
      t35 hinf hsz (by show min _ _ = _; omega) rfl (firstCells_block (by rw [e4]; exact hb) (by omega)) (by rw [e4]; exact hb) hfz (by rw [hus1]; omega) h1c
    refine ⟨w', hr, c1, hone _ _ ?_, htl⟩
    rcases hW with rfl | rfl
    · exact hob
    · exact hob.drewL
  have hcB : ∀ W : World, (∃ c1, OneBlock w W b cb c1 elb fzb ∧ c1.toList = cb.toList.take (X + (i + m) * 3) ++ (cb.toList.drop (X + i * 3)).take ((n - i) * 3) ++ cb.toList.drop (X + (i + m) * 3 + ((cb.toList.drop (X + i * 3)).take ((n - i) * 3)).length)) →
      ∃ w', (Builtin.copy_ #[35, 35] 3 #[.slice (some ⟨b, X + i * 3, none⟩) (n + m - i) (c - i), .slice (some ⟨vb, Y, none⟩) m vc]).run Tryd.prog W = .ok (Go.goInt (m : Nat)) w' ∧ R (.returned (.slice (some ⟨b, X, none⟩) (n + m) c)) w' := fun W ⟨c1, ho, ht⟩ => by
    obtain ⟨w', hr, c2, hob, htl⟩ := copy_block (P := Tryd.prog) (w := W) (t := 35) (t' := 35) (ty := 3) (E := 64) (inf := inf) (X := X + i * 3) (dn := n + m - i) (dc := c - i) (N := m) (x := .slice (some ⟨vb, Y, none⟩) m vc) (m := m)
      t35 hinf hsz (by show min _ _ = _; omega) rfl (firstCells_block (hvbw _ _ ho) hvs) ho.here (fun j hj => hfz j (by rw [ho.same] at hj; exact hj)) (by rw [hus2, ho.same]; omega) h1v
    refine ⟨w', hr, hR w' c2 (ho.trans hob) ?_⟩
    have hsz2 : cb.toList.length = cb.size := by simp
    rw [htl, ht, hus1, hus2]
    apply List.ext_getElem?
    intro j'
    simp only [List.getElem?_take, List.getElem?_drop, List.getElem?_append, List.length_append, List.length_take, List.length_drop, hsz2, Array.length_toList]
    repeat' split
    all_goals first
      | rfl
      | (exfalso; omega)
      | (congr 1; omega)
      | exact List.getElem?_eq_none (by simp; omega)
      | exact (List.getElem?_eq_none (by simp; omega)).symm
  -- the hard one
  have hcC : ∃ w', (Builtin.copy_ #[35, 35] 3 #[.slice (some ⟨b, X + n * 3, none⟩) m (c - n), .slice (some ⟨vb, Y, none⟩) m vc]).run Tryd.prog wo = .ok (Go.goInt (m : Nat)) w' ∧ (∀ dc, n + m - i ≤ dc → dc = c - i →
      Go.Calls Tryd.prog 79 #[.slice (some ⟨b, X + i * 3, none⟩) (n + m - i) dc, .int .i64 m] w' fun e W' => e = .returned (.tuple #[]) ∧ R (.returned (.slice (some ⟨b, X, none⟩) (n + m) c)) W') := by
    obtain ⟨w', hr, c2, hob, htl⟩ := copy_block (P := Tryd.prog) (w := wo) (t := 35) (t' := 35) (ty := 3) (E := 64) (inf := inf) (X := X + n * 3) (dn := m) (dc := c - n) (N := m) (x := .slice (some ⟨vb, Y, none⟩) m vc) (m := m)
      t35 hinf hsz (by show min _ _ = _; omega) rfl (firstCells_block (by rw [hwoh]; exact hv) hvs) (by rw [hwoh]; exact hb) hfz (by rw [hus2]; omega) h1v
    exact ⟨w', hr, hhard w' c2 (hone _ _ hob) (by rw [htl, hus2])⟩
  clear hinf hz hsz hby hzs hus1 hus2 h1c h1b h1v hb hv hR hhard hov hwoh hone hvbw hfz
  go_enter Tryd.func49, Tryd.ntmps49
  cases x with
  | false =>
    go_wp2_with (simp only [hcall])
    go_region_law_o (refine step_copy_ex rfl _ _ 35 35 rfl _ _ (by simp [Act.eval, Act.put]) (by simp [Act.eval, Act.put]) (hcA _ (by first | exact Or.inl rfl | exact Or.inr rfl)) ?_; intro W1 hW1)
    go_wp2_with (refine wpList_copy_ex _ rfl _ _ 35 35 rfl _ _ rfl rfl (hcB _ (by assumption)) ?_; intro W2 hW2)
    exact hW2
  | true =>
    go_wp2_with (first
      | simp only [hcall]
      | (refine wpList_copy_ex _ rfl _ _ 35 35 rfl _ _ rfl rfl hcC ?_; intro W2 hW2)
)
    refine (hW2 _ (by omega) rfl).mono ?_
    rintro e w' ⟨rfl, hw'⟩
    go_wp2
    exact hw'
end Go.Proofs.YtdjancoknephnaaDoorVc
-- InsRev
namespace Go.Proofs.YtdjancoknephnaaDoorVc
/-- slices.rotateRight[handbill/api.Cell] -/
def vc79 (I : FuncId → List V → Post → T) (l0 : Sl) (n1 : Int) (Q : Post) : T :=
  fun h2 =>
  I 97 [V.one (Cell.slice 3 l0), V.one (Cell.int IntKind.i64 (IntKind.i64.wrap ((↑l0.len : Int) - n1)))]
    (fun cs3 => fun h4 => 
    (cs3 = []) ∧
    Q [] h4) h2
theorem den79 (I : FuncId → List V → Post → T) (l0 : Sl) (n1 : Int) (Q : Post) : denF Go.Proofs.Tryd.prog 0 (⟨[], []⟩) I 79 [V.one (Cell.slice 3 l0), V.one (Cell.int IntKind.i64 n1)] Q = vc79 I l0 n1 Q := by kernel_rfl
/-- slices.rotateLeft[handbill/api.Cell] -/
def vc97 (I : FuncId → List V → Post → T) (l0 : Sl) (n1 : Int) (Q : Post) : T :=
  fun h2 =>
  (((0 : Int) ≤ (0 : Int)) ∧
  (0 ≤ n1) ∧
  n1 ≤ (↑l0.len : Int)) ∧
  I 106 [V.one (Cell.slice 3 (l0.sub 3 0 n1.toNat))]
    (fun cs3 => fun h4 => 
    (cs3 = []) ∧
    ((0 ≤ n1) ∧
    (n1 ≤ (↑l0.len : Int)) ∧
    (↑l0.len : Int) ≤ (↑l0.len : Int)) ∧
    I 106 [V.one (Cell.slice 3 (l0.sub 3 n1.toNat (↑l0.len : Int).toNat))]
      (fun cs5 => fun h6 => 
      (cs5 = []) ∧
      I 106 [V.one (Cell.slice 3 l0)]
        (fun cs7 => fun h8 => 
        (cs7 = []) ∧
        Q [] h8) h6) h4) h2
theorem den97 (I : FuncId → List V → Post → T) (l0 : Sl) (n1 : Int) (Q : Post) : denF Go.Proofs.Tryd.prog 0 (⟨[], []⟩) I 97 [V.one (Cell.slice 3 l0), V.one (Cell.int IntKind.i64 n1)] Q = vc97 I l0 n1 Q := by kernel_rfl
/-- slices.Reverse[[]handbill/api.Cell,handbill/api.Cell] -/
def vc106 (I : FuncId → List V → Post → T) (l0 : Sl) (Q : Post) : T :=
  loopK (A := Int × Int) ((0, IntKind.i64.wrap ((↑l0.len : Int) - 1)))
    (fun x1 => uncur fun n2 n3 => ifT (decide (n2 < n3))
      (fun h4 =>
      ((0 ≤ n3) ∧
      n3 < (↑l0.len : Int)) ∧
      (derefK l0.a (fun i5 => fun i6 => fun h7 =>
      ∃ l8 : Sl, ∃ n9 : Int, ∃ n10 : Int, (h7.read i5 (i6 + n3.toNat * 3) 3 = some [Cell.slice 1 l8, Cell.int IntKind.i64 n9, Cell.int IntKind.i64 n10]) ∧
      ((0 ≤ n2) ∧
      n2 < (↑l0.len : Int)) ∧
      (derefK l0.a (fun i11 => fun i12 => fun h13 =>
      ∃ l14 : Sl, ∃ n15 : Int, ∃ n16 : Int, (h13.read i11 (i12 + n2.toNat * 3) 3 = some [Cell.slice 1 l14, Cell.int IntKind.i64 n15, Cell.int IntKind.i64 n16]) ∧
      ((0 ≤ n2) ∧
      n2 < (↑l0.len : Int)) ∧
      (derefK l0.a (fun i17 => fun i18 => fun h19 => 
      (storeK [] i17 (i18 + n2.toNat * 3) [Cell.slice 1 l8, Cell.int IntKind.i64 n9, Cell.int IntKind.i64 n10] (fun h20 =>
      ((0 ≤ n3) ∧
      n3 < (↑l0.len : Int)) ∧
      (derefK l0.a (fun i21 => fun i22 => fun h23 => 
      (storeK [] i21 (i22 + n3.toNat * 3) [Cell.slice 1 l14, Cell.int IntKind.i64 n15, Cell.int IntKind.i64 n16] (x1 ((IntKind.i64.wrap (n2 + 1), IntKind.i64.wrap (n3 - 1))))) h23)) h20)) h19)) h13)) h7)) h4)
      (Q []))
theorem den106 (I : FuncId → List V → Post → T) (l0 : Sl) (Q : Post) : denF Go.Proofs.Tryd.prog 0 (⟨[], [(6, 268435340, [(2, tk Go.Proofs.Tryd.prog 3), (3, tk Go.Proofs.Tryd.prog 3)])]⟩) I 106 [V.one (Cell.slice 3 l0)] Q = vc106 I l0 Q := by kernel_rfl
open Go.Proofs.Tryd (prog)
theorem set_self3 {h : Heap} {i : Nat} {o : Obj} (hi : h i = some o) : h.set i o = h := by
  funext j
  unfold Heap.set
  by_cases hj : j = i
  · subst hj; simp [hi]
  · simp [hj]
theorem row3_length (x : Sl × Int × Int) : (row3 x).length = 3 := rfl
abbrev rows3 (xs : List (Sl × Int × Int)) : List Cell := rows row3 xs
section
variable {I : Calls} {Q : Post} {h : Heap} {prim : Prim}
theorem rev_get {α : Type} {mid L : List α} {k : Nat} (hl : L.length = mid.length) (h : ∀ j, j < mid.length → L[j]? = if j < k ∨ mid.length - k ≤ j then mid[mid.length - 1 - j]? else mid[j]?) (hk : mid.length ≤ 2 * k + 1) : L = mid.reverse := by
  apply List.ext_getElem?
  intro j
  by_cases hj : j < mid.length
  · rw [h j hj, List.getElem?_reverse hj]
    split
    · rfl
    · congr 1; omega
  · rw [List.getElem?_eq_none (by omega), List.getElem?_eq_none (by simp; omega)]
/-- Reverse of a part of a block. -/
theorem rev_spec (hI : Closed' prog prim I) {b : Nat} {A B mid : List (Sl × Int × Int)} (hb : h b = some (.cells false (rows3 (A ++ mid ++ B)))) (hl : A.length + mid.length + B.length < 4000000000000)
    (hQ : Q [] (h.set b (.cells false (rows3 (A ++ mid.reverse ++ B))))) : I 106 [.one (.slice 3 ⟨some (b, A.length * 3), mid.length⟩)] Q h := by
  refine hI.go _ _ (den106 I _ Q) ?_
  refine loopK_intro (fun (a : Int × Int) h' m => ∃ (k : Nat) (L : List (Sl × Int × Int)), a = ((k : Int), (mid.length : Int) - 1 - k) ∧ k ≤ mid.length ∧ mid.length - k = m ∧ L.length = mid.length ∧ h' = h.set b (.cells false (rows3 (A ++ L ++ B))) ∧
      ∀ j, j < mid.length → L[j]? = if j < k ∨ mid.length - k ≤ j then mid[mid.length - 1 - j]? else mid[j]?) mid.length
    ⟨0, mid, by rw [w64 (n := ((mid.length : Nat) : Int) - 1) (by omega) (by omega)]; simp, by omega, by omega, rfl, (set_self3 hb).symm, fun j hj => by rw [if_neg (by omega)]⟩ ?_
  rintro _ h' m ⟨k, L, rfl, hk, rfl, hL, rfl, hj⟩
  dsimp only [uncur]
  refine ifT_dec (fun hlt => ?_) fun hge => ?_
  · obtain ⟨q, hq⟩ : ∃ q : Nat, (mid.length : Int) - 1 - k = q := ⟨mid.length - 1 - k, by omega⟩
    rw [hq] at hlt ⊢
    have hqn : q = mid.length - 1 - k := by omega
    obtain ⟨x, hx⟩ : ∃ x, L[q]? = some x := ⟨_, List.getElem?_eq_getElem (show q < L.length by omega)⟩
    obtain ⟨y, hy⟩ : ∃ y, L[k]? = some y := ⟨_, List.getElem?_eq_getElem (show k < L.length by omega)⟩
    have hAx : ∀ (M : List (Sl × Int × Int)) (p : Nat) z, M.length = mid.length → M[p]? = some z → (A ++ M ++ B)[A.length + p]? = some z := fun M p z hM hz => by
      have hp := (List.getElem?_eq_some_iff.1 hz).1
      rw [List.append_assoc, List.getElem?_append_right (by omega), Nat.add_sub_cancel_left, List.getElem?_append_left hp]; exact hz
    have rd : ∀ (g : Heap) (M : List (Sl × Int × Int)) (p : Nat) z, M.length = mid.length → g b = some (.cells false (rows3 (A ++ M ++ B))) → M[p]? = some z → g.read b (A.length * 3 + ((p : Nat) : Int).toNat * 3) 3 = some (row3 z) := fun g M p z hM hg hz => by
      have hp := (List.getElem?_eq_some_iff.1 hz).1
      rw [Int.toNat_natCast, ← Nat.add_mul, read_block hg (by rw [rows_length row3_length]; simp; omega), rows_get row3_length (hAx M p z hM hz)]
    have st : ∀ (g : Heap) (M : List (Sl × Int × Int)) (p : Nat) z (K : T), M.length = mid.length → p < mid.length → g b = some (.cells false (rows3 (A ++ M ++ B))) → K (g.set b (.cells false (rows3 (A ++ M.set p z ++ B)))) → storeK [] b (A.length * 3 + ((p : Nat) : Int).toNat * 3) (row3 z) K g := fun g M p z K hM hp hg hK => by
      have e : A ++ M.set p z ++ B = (A ++ M ++ B).take (A.length + p) ++ z :: (A ++ M ++ B).drop (A.length + p + 1) := by
        have e1 : (A ++ M ++ B).set (A.length + p) z = A ++ M.set p z ++ B := by
          rw [List.append_assoc, List.set_append_right _ _ (by omega), Nat.add_sub_cancel_left, List.set_append_left _ _ (by omega), List.append_assoc]
        rw [← e1, List.set_eq_take_append_cons_drop, if_pos (by simp; omega)]
      have hlen : (rows3 (A ++ M ++ B)).length = (A.length + M.length + B.length) * 3 := by rw [rows_length row3_length]; simp; omega
      rw [Int.toNat_natCast, ← Nat.add_mul]
      refine ⟨_, hg, by rw [hlen, row3_length]; omega, ?_⟩
      rw [updCells_eq _ _ _ (by rw [hlen, row3_length]; omega)]
      unfold splice
      rw [row3_length, ← Nat.succ_mul, rows_take row3_length, rows_drop row3_length]
      rw [e] at hK
      unfold rows3 at hK
      rw [rows_append, rows_cons, ← List.append_assoc] at hK
      exact hK
    have hc := set_eq h b (.cells false (rows3 (A ++ L ++ B)))
    refine ⟨⟨by omega, by show (q : Int) < ((mid.length : Nat) : Int); omega⟩, derefK_intro rfl ⟨x.1, x.2.1, x.2.2, rd _ L q x hL hc hx, ⟨by omega, by show (k : Int) < ((mid.length : Nat) : Int); omega⟩, derefK_intro rfl ⟨y.1, y.2.1, y.2.2, rd _ L k y hL hc hy, ⟨by omega, by show (k : Int) < ((mid.length : Nat) : Int); omega⟩, derefK_intro rfl ?_⟩⟩⟩
    refine st _ L k x _ hL (by omega) hc ?_
    rw [set_set]
    have hc2 := set_eq h b (.cells false (rows3 (A ++ L.set k x ++ B)))
    refine ⟨⟨by omega, by show (q : Int) < ((mid.length : Nat) : Int); omega⟩, derefK_intro rfl ?_⟩
    refine st _ (L.set k x) q y _ (by simpa using hL) (by omega) hc2 ?_
    rw [set_set]
    refine ⟨mid.length - (k + 1), by omega, k + 1, (L.set k x).set q y, ?_, by omega, rfl, by simpa using hL, rfl, fun j hj2 => ?_⟩
    · rw [w64 (by omega) (by omega), w64 (by omega) (by omega)]
      simp only [Prod.mk.injEq]
      omega
    · have hxm : mid[q]? = some x := by
        have := hj q (by omega)
        rw [hx] at this
        rw [this]; split
        · omega
        · rfl
      have hym : mid[k]? = some y := by
        have := hj k (by omega)
        rw [hy] at this
        rw [this]; split
        · omega
        · rfl
      by_cases e1 : j = q
      · subst e1
        rw [List.getElem?_set_self (by simp; omega), if_pos (by omega), ← hym]
        congr 1; omega
      · rw [List.getElem?_set_ne (fun e => e1 e.symm)]
        by_cases e2 : j = k
        · subst e2
          rw [List.getElem?_set_self (by omega), if_pos (by omega), ← hxm]
          congr 1
        · rw [List.getElem?_set_ne (fun e => e2 e.symm), hj j hj2]
          by_cases e3 : j < k ∨ mid.length - k ≤ j
          · rw [if_pos e3, if_pos (by omega)]
          · rw [if_neg e3, if_neg (by omega)]
  · rw [rev_get hL hj (by omega)]
    exact hQ
/-- rotateLeft and rotateRight of a part of a block. -/
theorem rotL_spec (hI : Closed' prog prim I) {b : Nat} {A B u v : List (Sl × Int × Int)} (hb : h b = some (.cells false (rows3 (A ++ (u ++ v) ++ B)))) (hl : A.length + (u.length + v.length) + B.length < 4000000000000)
    (hQ : Q [] (h.set b (.cells false (rows3 (A ++ (v ++ u) ++ B))))) : I 97 [.one (.slice 3 ⟨some (b, A.length * 3), u.length + v.length⟩), .one (.int .i64 (u.length : Int))] Q h := by
  refine hI.go _ _ (den97 I _ _ Q) ?_
  refine ⟨⟨by decide, by omega, by show (u.length : Int) ≤ ((u.length + v.length : Nat) : Int); omega⟩, ?_⟩
  have e1 : (⟨some (b, A.length * 3), u.length + v.length⟩ : Sl).sub 3 0 (u.length : Int).toNat = ⟨some (b, A.length * 3), u.length⟩ := by simp [Sl.sub]
  have e2 : (⟨some (b, A.length * 3), u.length + v.length⟩ : Sl).sub 3 (u.length : Int).toNat (((u.length + v.length : Nat) : Int)).toNat = ⟨some (b, (A ++ u.reverse).length * 3), v.length⟩ := by rw [Int.toNat_natCast, Int.toNat_natCast]; simp [Sl.sub, Nat.add_mul]
  rw [e1]
  refine rev_spec hI (A := A) (mid := u) (B := v ++ B) (by simpa using hb) (by simp; omega) ⟨rfl, ⟨by omega, by show (u.length : Int) ≤ ((u.length + v.length : Nat) : Int); omega, by omega⟩, ?_⟩
  show I 106 [.one (.slice 3 ((⟨some (b, A.length * 3), u.length + v.length⟩ : Sl).sub 3 (u.length : Int).toNat (((u.length + v.length : Nat) : Int)).toNat))] _ _
  rw [e2]
  refine rev_spec hI (A := A ++ u.reverse) (mid := v) (B := B) (by rw [set_eq]; simp) (by simp; omega) ⟨rfl, ?_⟩
  rw [set_set]
  have e3 : u.length + v.length = (u.reverse ++ v.reverse).length := by simp
  show I 106 [.one (.slice 3 ⟨some (b, A.length * 3), u.length + v.length⟩)] _ _
  rw [e3]
  refine rev_spec hI (A := A) (mid := u.reverse ++ v.reverse) (B := B) (by rw [set_eq]; simp) (by simp; omega) ⟨rfl, ?_⟩
  rw [set_set]
  simpa using hQ
theorem rotR_spec (hI : Closed' prog prim I) {b : Nat} {A B u v : List (Sl × Int × Int)} (hb : h b = some (.cells false (rows3 (A ++ (u ++ v) ++ B)))) (hl : A.length + (u.length + v.length) + B.length < 4000000000000)
    (hQ : Q [] (h.set b (.cells false (rows3 (A ++ (v ++ u) ++ B))))) : I 79 [.one (.slice 3 ⟨some (b, A.length * 3), u.length + v.length⟩), .one (.int .i64 (v.length : Int))] Q h := by
  refine hI.go _ _ (den79 I _ _ Q) ?_
  have e : IntKind.i64.wrap (((u.length + v.length : Nat) : Int) - (v.length : Int)) = (u.length : Int) := by rw [w64] <;> omega
  show I 97 [_, .one (.int .i64 (IntKind.i64.wrap (((u.length + v.length : Nat) : Int) - (v.length : Int))))] _ _
  rw [e]
  exact rotL_spec hI hb hl ⟨rfl, hQ⟩
end
end Go.Proofs.YtdjancoknephnaaDoorVc
-- InsPm
namespace Go.Proofs.YtdjancoknephnaaDoorVc
open Go.Proofs Go.RowKit
/-- What a call of slices.Insert comes to. -/
def InsOut (ρ : Rho) (h : Heap) (w : World) (j : Nat) (s : Sl) (m : Nat) (cs : List Cell) (e : Ending) (w' : World) : Prop :=
  ∃ v ρ', e = .returned v ∧ CR ρ' (.slice 3 ⟨some (j, 0), s.len + m⟩) v ∧ HR ρ' ((h.drop s).set j (.cells false cs)) w' ∧ Fr ρ h w ρ' ((h.drop s).set j (.cells false cs)) w'
theorem drop_set {h : Heap} {s : Sl} {j : Nat} {o : Obj} (hj : h j = none) (hs : h.mine s) : (h.set j o).drop s = (h.drop s).set j o := by
  unfold Heap.drop
  cases ha : s.a with
  | none => rfl
  | some p =>
    obtain ⟨i, k⟩ := p
    unfold Heap.mine at hs
    rw [ha] at hs
    obtain ⟨cs, hc⟩ := hs
    have hne : i ≠ j := fun e => by subst e; rw [hj] at hc; cases hc
    funext q
    show (h.set j o).del i q = (h.del i).set j o q
    by_cases e1 : q = i
    · subst e1; rw [Heap.del_same, Heap.set_ne _ _ hne, Heap.del_same]
    · rw [Heap.del_ne _ e1]
      by_cases e2 : q = j
      · subst e2; rw [Heap.set_same, Heap.set_same]
      · rw [Heap.set_ne _ _ e2, Heap.set_ne _ _ e2, Heap.del_ne _ e1]
theorem take_app3 {α : Type} (l : List α) (i n : Nat) (h : i ≤ n) (c : List α) (hl : c.take n = l) : c.take i = l.take i := by
  rw [← hl, List.take_take, Nat.min_eq_left h]
theorem ins_sound : Sound Tryd.prog (InsPrim 49 3 40 ok3) := by
  rintro f args Q h ⟨rfl, s, v, i, old, new, ⟨xs, rfl⟩, ⟨ys, rfl⟩, rfl, hold, hmine, hnew, hv0, hi, hap, hbig, hQ⟩ ρ w vs hr hvs
  obtain ⟨vs⟩ := vs
  match vs, hvs with
  | [v0, v1, v2], ⟨h0, h1, h2, _⟩ =>
    obtain rfl : v1 = .int .i64 i := h1
    replace h0 : CR ρ (.slice 3 s) v0 := h0
    replace h2 : CR ρ (.slice 3 v) v2 := h2
    obtain ⟨j, hj, hρ⟩ : ∃ j, h j = none ∧ ρ j = none := by obtain ⟨N, hN⟩ := hr.fresh; exact ⟨N, hN N (Nat.le_refl _)⟩
    refine .inl ⟨⟨_, Tryd.func49, by kernel_rfl, by kernel_rfl⟩, ?_⟩
    suffices key : Go.Calls Tryd.prog 49 #[v0, .int .i64 i, v2] w (InsOut ρ h w j s v.len ((xs.flatMap row3).take (i * 3) ++ ys.flatMap row3 ++ (xs.flatMap row3).drop (i * 3))) from
      key.mono fun e w' ⟨x, ρ', he, hx, hr', fr⟩ => ⟨x, he, ρ', _, [.one (.slice 3 ⟨some (j, 0), s.len + v.len⟩)], hx, hQ j hj, hr', fr⟩
    have hlx : (xs.flatMap row3).length = xs.length * 3 := rows_length row3_length xs
    have hly : (ys.flatMap row3).length = ys.length * 3 := rows_length row3_length ys
    -- the machine's side of v
    obtain ⟨va, m⟩ := v
    change m ≠ 0 at hv0
    cases va with
    | none => exact absurd h2.1 hv0
    | some p =>
    obtain ⟨vi, Y0⟩ := p
    obtain ⟨adv, vc, rfl, hmvc, hor⟩ := h2
    change m ≤ vc at hmvc
    obtain ⟨lv, hlv, rfl, hsv⟩ : ∃ l, ρ vi = some l ∧ adv = ⟨l.block, l.base + Y0, none⟩ ∧ l.base + Y0 + vc * 3 ≤ l.size := by
      rcases hor with h3 | h3
      · exact h3
      · omega
    clear hor
    obtain ⟨cv, elv, fzv, hbv, hlen, hcsv, hspv⟩ := hr.read hnew hlv
    change _ = m * 3 at hlen
    change lv.base + Y0 + m * 3 ≤ cv.size at hspv
    have hym : ys.length = m := by rw [hly] at hlen; omega
    subst hym
    rw [hly] at hcsv
    change (s.len + ys.length) * 40 ≤ _ at hbig
    have h1v := hcsv.all_one
    obtain ⟨os, hos, hol, hfo⟩ := firstCells_slice (P := Tryd.prog) hr h0 hold (n := s.len)
    have hxn : xs.length = s.len := by rw [hlx] at hol; omega
    obtain ⟨inf, z, hinf, hz, hsz, hby, hzs⟩ := info64
    by_cases hend : i = s.len
    · -- behind all
      have hA : AppRun Tryd.prog w 35 35 35 64 inf z (.slice (some ⟨lv.block, lv.base + Y0, none⟩) ys.length vc) ys.length ((cv.toList.drop (lv.base + Y0)).take (ys.length * 3)) :=
        AppRun.plain Tryd.underlying35 hinf hz Tryd.underlying35 (by intro k e; cases e) (fun _ => rfl) fun w1 hw1 => by
          rw [hsz]; exact firstCells_block (by rw [hw1]; exact hbv) hspv
      obtain ⟨v', w', ρ', hrun, hcr, hr', fr⟩ := append_R (j := j) hr Tryd.underlying35 hinf hz hzs hsz (by rw [hby]; decide) h0 hold hmine hA hcsv (by rw [hly]) (by rw [hby]; exact hbig) hj hρ (fun _ => hv0)
      have hcells : (xs.flatMap row3).take (i * 3) ++ ys.flatMap row3 ++ (xs.flatMap row3).drop (i * 3) = xs.flatMap row3 ++ ys.flatMap row3 := by
        rw [List.take_of_length_le (by rw [hlx]; omega), List.drop_eq_nil_of_le (by rw [hlx]; omega), List.append_nil]
      rw [hcells]
      have fin : ∀ base c, v0 = .slice base s.len c → s.len ≤ c → (base = none → c = 0) → Go.Calls Tryd.prog 49 #[v0, .int .i64 i, .slice (some ⟨lv.block, lv.base + Y0, none⟩) ys.length vc] w (InsOut ρ h w j s ys.length (xs.flatMap row3 ++ ys.flatMap row3)) := fun base c e hc hn => by
        subst e
        rw [hend]
        exact (ins_end base s.len c _ _ _ _ (by omega) hc hn hrun).mono fun e W ⟨he, hW⟩ => ⟨v', ρ', he, hcr, hW ▸ hr', hW ▸ fr⟩
      obtain ⟨sa, n⟩ := s
      cases sa with
      | none =>
        obtain ⟨hn, rfl⟩ := h0
        change n = 0 at hn
        subst hn
        exact fin none 0 rfl (Nat.le_refl _) fun _ => rfl
      | some p =>
        obtain ⟨a, o⟩ := p
        obtain ⟨ad, c, rfl, hnc, _⟩ := h0
        exact fin (some ad) c rfl hnc fun e => by cases e
    · -- ahead of some
      obtain ⟨sa, n⟩ := s
      change i ≤ n at hi
      change xs.length = n at hxn
      change ¬ i = n at hend
      change (n + ys.length) * 40 ≤ _ at hbig
      cases sa with
      | none =>
        have : n = 0 := h0.1
        omega
      | some p =>
      obtain ⟨si, o⟩ := p
      obtain ⟨ad, c, rfl, hnc, hor0⟩ := h0
      change n ≤ c at hnc
      obtain ⟨l, hl, rfl, hsp⟩ : ∃ l, ρ si = some l ∧ ad = ⟨l.block, l.base + o, none⟩ ∧ l.base + o + c * 3 ≤ l.size := by
        rcases hor0 with h3 | h3
        · exact h3
        · omega
      clear hor0
      obtain ⟨cb, elb, fzb, hbb, hlen2, hcsb, hspb⟩ := hr.read hold hl
      obtain ⟨cs, hics⟩ := hmine
      obtain ⟨ob, q1, c1, el1, fz1, hob1, q2, q3, q4, q5⟩ := hr.live si _ l hics hl
      rw [hbb] at q1
      cases q1
      cases hob1
      rw [hlx, hxn] at hcsb
      change l.base + o + n * 3 ≤ cb.size at hspb
      have h1b := hcsb.all_one
      have hne : lv.block ≠ l.block := fun e => by
        refine hap si o vi Y0 rfl rfl (hr.inj si vi l lv hl hlv (by rw [hics]; simp) ?_ e.symm)
        intro e2
        unfold Heap.sl Heap.read at hnew
        simp only [e2] at hnew
        cases hnew
      have hin : i < n := by omega
      have hpart1 : CRs ρ ((xs.flatMap row3).take (i * 3)) ((cb.toList.drop (l.base + o)).take (i * 3)) := by
        have := hcsb.take (i * 3)
        rw [List.take_take, Nat.min_eq_left (by omega)] at this
        exact this
      have hpart3 : CRs ρ ((xs.flatMap row3).drop (i * 3)) ((cb.toList.drop (l.base + o + i * 3)).take ((n - i) * 3)) := by
        have := hcsb.drop (i * 3)
        rw [List.drop_take, List.drop_drop] at this
        have e : n * 3 - i * 3 = (n - i) * 3 := by omega
        rw [e] at this
        exact this
      have hall : CRs ρ ((xs.flatMap row3).take (i * 3) ++ ys.flatMap row3 ++ (xs.flatMap row3).drop (i * 3)) ((cb.toList.drop (l.base + o)).take (i * 3) ++ (cv.toList.drop (lv.base + Y0)).take (ys.length * 3) ++ (cb.toList.drop (l.base + o + i * 3)).take ((n - i) * 3)) :=
        (hpart1.append hcsv).append hpart3
      have hallLen : ((xs.flatMap row3).take (i * 3) ++ ys.flatMap row3 ++ (xs.flatMap row3).drop (i * 3)).length = (n + ys.length) * 3 := by
        rw [List.length_append, List.length_append, List.length_take, List.length_drop, hlx, hly, hxn]; omega
      by_cases hroom : n + ys.length ≤ c
      · refine ins_room (cb := cb) (cv := cv) (elb := elb) (elv := elv) (fzb := fzb) (fzv := fzv) l.block (l.base + o) n c i lv.block (lv.base + Y0) ys.length vc hin (by omega) hroom hbig hne hbb (by rw [q2]; omega) (q5 rfl) hbv hspv h1b h1v (fun W c' hob htl dc hdc hdce => ?_) fun W c' hob htl => ?_
        · -- the rotation
          obtain ⟨hr3, fr3⟩ := hr.alias (j := j) (nb := l.base + o) (cs' := xs.flatMap row3 ++ ys.flatMap row3) hics hl hj hρ hbb hob (by rw [List.length_append, hlx, hly, hob.same, q2, hxn]; omega) (by
            have e : (c'.toList.drop (l.base + o)).take (xs.flatMap row3 ++ ys.flatMap row3).length = (cb.toList.drop (l.base + o)).take (n * 3) ++ (cv.toList.drop (lv.base + Y0)).take (ys.length * 3) := by
              have hA : (cb.toList.take (l.base + o + n * 3)).length = l.base + o + n * 3 := by rw [List.length_take, Array.length_toList]; omega
              have hB : ((cv.toList.drop (lv.base + Y0)).take (ys.length * 3)).length = ys.length * 3 := by
                have e0 : cv.toList.length = cv.size := by simp
                rw [List.length_take, List.length_drop, e0]; omega
              rw [htl, List.length_append, hlx, hly, hxn, List.append_assoc, List.drop_append_of_le_length (by rw [hA]; omega), ← List.append_assoc, List.take_append_of_le_length (by
                rw [List.length_append, List.length_drop, hA, hB]; omega), List.take_of_length_le (by rw [List.length_append, List.length_drop, hA, hB]; omega), List.drop_take, show l.base + o + n * 3 - (l.base + o) = n * 3 by omega]
            rw [e]
            exact hcsb.append hcsv)
          have hdoes : Does Tryd.prog (fun _ _ _ _ => False) 79 [.one (.slice 3 ⟨some (j, (xs.take i).length * 3), (xs.drop i).length + ys.length⟩), .one (.int .i64 (ys.length : Int))]
              (fun rs h' => rs = [] ∧ h' = (h.drop ⟨some (si, o), n⟩).set j (.cells false ((xs.flatMap row3).take (i * 3) ++ ys.flatMap row3 ++ (xs.flatMap row3).drop (i * 3)))) ((h.del si).set j (.cells false (xs.flatMap row3 ++ ys.flatMap row3))) := by
            refine Does.intro fun I hI => rotR_spec hI (A := xs.take i) (B := []) (u := xs.drop i) (v := ys) (b := j) ?_ (by simp; omega) ⟨rfl, ?_⟩
            · rw [set_eq]
              unfold rows3 rows
              rw [List.append_nil, ← List.append_assoc, List.take_append_drop, List.flatMap_append]
            · rw [set_set]
              unfold rows3 rows
              rw [List.append_nil, List.flatMap_append, List.flatMap_append]
              have e1 := rows_take row3_length xs i
              have e2 := rows_drop row3_length xs i
              unfold rows at e1 e2
              rw [← e1, ← e2, List.append_assoc]
              rfl
          have hcr1 : CR (ρ.put j ⟨l.block, l.base + o, l.size⟩) (.slice 3 ⟨some (j, (xs.take i).length * 3), (xs.drop i).length + ys.length⟩) (.slice (some ⟨l.block, l.base + o + i * 3, none⟩) (n + ys.length - i) dc) := by
            have eA : (xs.take i).length = i := by simp; omega
            have eB : (xs.drop i).length + ys.length = n + ys.length - i := by simp; omega
            rw [eA, eB]
            exact ⟨_, dc, rfl, hdc, .inl ⟨_, Rho.put_same _ _ _, rfl, by show l.base + o + i * 3 + dc * 3 ≤ l.size; omega⟩⟩
          rcases does_sound (eqOk Tryd.prog) (drawOk (by kernel_rfl) (eqOk Tryd.prog)) (sound_none Tryd.prog) 79 _ _ _ hdoes _ W #[.slice (some ⟨l.block, l.base + o + i * 3, none⟩) (n + ys.length - i) dc, .int .i64 ys.length] hr3 (show VRs _ [_, _] [_, _] from ⟨hcr1, rfl, trivial⟩) with ⟨_, hc⟩ | ⟨x, w', hcf, _⟩
          case inr =>
            exfalso
            simp only [callFunc, Sem.run_bind, Sem.run_pure, Result.andThen_ok, run_program, Tryd.func79, Sem.run_ite] at hcf
            have e1 : (Tryd.f79.name == "runtime.NumGoroutine") = false := by kernel_rfl
            have e2 : Tryd.f79.body.isNone = false := by kernel_rfl
            simp only [e1, e2, Bool.false_eq_true, if_false] at hcf
            cases hcf
          refine hc.mono fun e W' ⟨x, he, ρ', h', rs, hrs, ⟨hrs0, hh'⟩, hr', fr'⟩ => ?_
          subst hrs0
          subst hh'
          obtain ⟨⟨us⟩, rfl, hus⟩ := hrs
          cases us with
          | cons a l => exact hus.elim
          | nil =>
          refine ⟨he, _, ρ', rfl, ?_, hr', fr3.trans fr'⟩
          exact ⟨_, c, rfl, hroom, .inl ⟨_, fr'.sub _ _ (Rho.put_same _ _ _), rfl, by show l.base + o + 0 + c * 3 ≤ l.size; omega⟩⟩
        · obtain ⟨hr3, fr3⟩ := hr.alias (j := j) (nb := l.base + o) hics hl hj hρ hbb hob (by rw [hallLen, hob.same, q2]; omega) (by rw [hallLen, htl]; exact hall)
          exact ⟨_, _, rfl, ⟨_, c, rfl, hroom, .inl ⟨_, Rho.put_same _ _ _, rfl, by show l.base + o + 0 + c * 3 ≤ l.size; omega⟩⟩, hr3, fr3⟩
      · refine (ins_grow (cb := cb) (cv := cv) (elb := elb) (elv := elv) (fzb := fzb) (fzv := fzv) l.block (l.base + o) n c i lv.block (lv.base + Y0) ys.length vc hin (by omega) hnc (by omega) hbig hbb hspb hbv hspv h1b h1v).mono fun e W ⟨cap, c', he, hcap, hB, hW, hsz', htk⟩ => ?_
        obtain ⟨hr3, fr3⟩ := hr.named (cs := (xs.flatMap row3).take (i * 3) ++ ys.flatMap row3 ++ (xs.flatMap row3).drop (i * 3)) hB hj hρ (Nat.le_refl _) hW (by rw [hallLen, hsz']; omega) (fun ρ' hle => by rw [hallLen, htk]; exact CRs.mono hle hall)
        obtain ⟨hr4, fr4⟩ := hr3.drop (⟨some (si, o), n⟩ : Sl)
        rw [drop_set hj (show h.mine ⟨some (si, o), n⟩ from ⟨cs, hics⟩)] at hr4 fr4
        exact ⟨_, _, he, ⟨_, cap, rfl, hcap, .inl ⟨_, Rho.put_same _ _ _, by simp, by show 0 + 0 + cap * 3 ≤ c'.size; omega⟩⟩, hr4, fr3.trans fr4⟩
end Go.Proofs.YtdjancoknephnaaDoorVc
