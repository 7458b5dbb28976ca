-- By a program of this session (an altered copy of the printer of the kit); Lean checks it.
import Derived.Test.YtihnjdhjkpmggaaPTestsExactx0
import Derived.Test.YtihnjdhjkpmggaaPTestsExactx1
import Derived.Test.YtihnjdhjkpmggaaPTestsExactx2
import Derived.Test.YtihnjdhjkpmggaaPTestsExactx3
namespace Go.Proofs.Ytihnjdhjkpmggaa.PTestsExact
open Go.RowKit Go.Proofs.YtihnjdhjkpmggaaW.PrintWords Go.Proofs.YtihnjdhjkpmggaaW.PrintLast Go.Proofs.YtihnjdhjkpmggaaW.PrintMore
attribute [local go_sem] max2_int min2_int max_two min_two max_three min_three max_four min_four   -- for this text's walks alone
set_option linter.unusedVariables false
set_option linter.unusedSimpArgs false
theorem q1x4_ {p : Prop} (h : p := by repeat (first | (with_reducible first | exact HB.out | apply below_alloc | apply pw_below_drewN | apply below_drew1 | refine below_set ?_ GE120.out | refine below_set ?_ GE121.out | refine below_set ?_ GE122.out | refine below_set ?_ GE123.out | refine below_set ?_ GE124.out) | exact HB.out)) : p := h
theorem q2x4_ {p : Prop} (h : p := by (with_reducible repeat (first | refine blk_drewN ?_ _ | refine blk_drew ?_ | refine blk_alloc ?_ _)); exact BK120.out) : p := h
theorem q3x4_ {p : Prop} (h : p := by (with_reducible repeat (first | refine blk_drewN ?_ _ | refine blk_drew ?_ | refine blk_alloc ?_ _)); exact BK121.out) : p := h
theorem q4x4_ {p : Prop} (h : p := by (with_reducible repeat (first | refine blk_drewN ?_ _ | refine blk_drew ?_ | refine blk_alloc ?_ _)); exact BK122.out) : p := h
theorem q5x4_ {p : Prop} (h : p := by (with_reducible repeat (first | refine blk_drewN ?_ _ | refine blk_drew ?_ | refine blk_alloc ?_ _)); exact BK123.out) : p := h
theorem q6x4_ {p : Prop} (h : p := by repeat (first | (with_reducible first | exact HB.out | apply below_alloc | apply pw_below_drewN | apply below_drew1) | exact HB.out)) : p := h
theorem q7x4_ {p : Prop} (h : p := by (try simp only [List.map_toArray, List.map_cons, List.map_nil]); first | done | rfl | (simp only [List.length_drop, List.length_take]; rfl)) : p := h
theorem q8x4_ {p : Prop} (h : p := by repeat (first | (with_reducible first | exact HB.out | apply below_alloc | apply pw_below_drewN | apply below_drew1 | refine below_set ?_ GE135.out) | exact HB.out)) : p := h
theorem q9x4_ {p : Prop} (h : p := by (with_reducible repeat (first | refine blk_drewN ?_ _ | refine blk_drew ?_ | refine blk_alloc ?_ _)); exact BK124.out) : p := h
theorem q10x4_ {p : Prop} (h : p := by first | rfl | (simp; done) | (simp [*]; done)) : p := h
theorem q11x4_ {p : Prop} (h : p := by repeat (first | (with_reducible first | exact HB.out | apply below_alloc | apply pw_below_drewN | apply below_drew1 | refine below_set ?_ GE142.out) | exact HB.out)) : p := h
theorem q12x4_ {p : Prop} (h : p := by (with_reducible repeat (first | refine blk_drewN ?_ _ | refine blk_drew ?_ | refine blk_alloc ?_ _)); exact BK135.out) : p := h
theorem q13x4_ {p : Prop} (h : p := by first | rfl | (simp [errW_none, errW_some] <;> rfl) | (simp [*, errW_none, errW_some] <;> rfl)) : p := h
theorem q14x4_ {p : Prop} (h : p := by repeat (first | (with_reducible first | exact HB.out | apply below_alloc | apply pw_below_drewN | apply below_drew1 | refine below_set ?_ GE120.out | refine below_set ?_ GE121.out | refine below_set ?_ GE122.out | refine below_set ?_ GE123.out) | exact HB.out)) : p := h
theorem q15x4_ {p : Prop} (h : p := by repeat (first | (with_reducible first | exact HB.out | apply below_alloc | apply pw_below_drewN | apply below_drew1 | refine below_set ?_ GE120.out | refine below_set ?_ GE121.out | refine below_set ?_ GE122.out) | exact HB.out)) : p := h
theorem q16x4_ {p : Prop} (h : p := by (with_reducible repeat (first | refine blk_drewN ?_ _ | refine blk_drew ?_ | refine blk_alloc ?_ _)); refine blk_put (cs := #[.int .i64 0, .int .i64 0]) ?_ 1 _ rfl; (with_reducible repeat (first | refine blk_drewN ?_ _ | refine blk_drew ?_ | refine blk_alloc ?_ _)); refine blk_put (cs := #[.int .i64 0, .int .i64 0]) ?_ 0 _ rfl; (with_reducible repeat (first | refine blk_drewN ?_ _ | refine blk_drew ?_ | refine blk_alloc ?_ _)); exact BK124.out) : p := h
theorem q17x4_ {p : Prop} (h : p := by (with_reducible repeat (first | refine blk_drewN ?_ _ | refine blk_drew ?_ | refine blk_alloc ?_ _)); refine blk_put (cs := #[.int .i64 0, .int .i64 0]) ?_ 1 _ rfl; (with_reducible repeat (first | refine blk_drewN ?_ _ | refine blk_drew ?_ | refine blk_alloc ?_ _)); refine blk_put (cs := #[.int .i64 0, .int .i64 0]) ?_ 0 _ rfl; (with_reducible repeat (first | refine blk_drewN ?_ _ | refine blk_drew ?_ | refine blk_alloc ?_ _)); exact BK142.out) : p := h
theorem q18x4_ {p : Prop} (h : p := by repeat (first | (with_reducible first | exact HB.out | apply below_alloc | apply pw_below_drewN | apply below_drew1 | refine below_set ?_ GE120.out | refine below_set ?_ GE121.out) | exact HB.out)) : p := h
theorem q19x4_ {p : Prop} (h : p := by repeat (first | (with_reducible first | exact HB.out | apply below_alloc | apply pw_below_drewN | apply below_drew1 | refine below_set ?_ GE120.out) | exact HB.out)) : p := h
theorem q20x4_ {p : Prop} (h : p := by (with_reducible repeat (first | refine blk_drewN ?_ _ | refine blk_drew ?_ | refine blk_alloc ?_ _)); exact BK142.out) : p := h
theorem q21x4_ {p : Prop} (h : p := by (with_reducible repeat (first | apply Kd.R_alloc | apply Kd.R_drewN | apply Kd.R_drew)); exact HO127.out) : p := h
theorem q22x4_ {p : Prop} (h : p := by repeat (first | (with_reducible first | exact HB.out | apply below_alloc | apply pw_below_drewN | apply below_drew1 | refine below_set ?_ GE150.out) | exact HB.out)) : p := h
theorem q23x4_ {p : Prop} (h : p := by first | omega | exact Nat.le_refl _) : p := h

attribute [local go_sem high] eqA28
/-! ### measure_Exact: function 13 -/
mutual
def measure_Exact.j0 : Nat → Bool → Int → Int → Int → Int → Option (Int × Int × Int)
  | 0, _, _, _, _, _ => none
  | k + 1, x33, x121000, x122000, x123000, x124000 => if x33 = true then (some (0, 0, 2)) else ((measure_Exact_1.f k x121000 x121000 x122000 x123000 x124000).bind fun t131 => (measure_Exact.l0 k t131 0 0 (wrap64 ((wrap64 (x121000 + x123000)) + 1)) 0 x121000 x122000 x123000 x124000))
def measure_Exact.l0 : Nat → Int → Int → Int → Int → Int → Int → Int → Int → Int → Option (Int × Int × Int)
  | 0, _, _, _, _, _, _, _, _, _ => none
  | k + 1, x12, x13, x14, x42, x43, x121000, x122000, x123000, x124000 => if x43 < x42 then ((measure_Exact_1.f k x43 x121000 x122000 x123000 x124000).bind fun t132 => (if t132 ≤ x12 then (measure_Exact.l0 k x12 (wrap64 (x13 + t132)) (wrap64 (x14 + t132)) x42 (wrap64 (x43 + 1)) x121000 x122000 x123000 x124000) else (measure_Exact.l0 k x12 x13 (wrap64 (x14 + t132)) x42 (wrap64 (x43 + 1)) x121000 x122000 x123000 x124000))) else ((measure_reduce.f k x13 x14).bind fun bt133 => (some (bt133.1, bt133.2, 0)))
end
def measure_Exact.f (k : Nat) (a0 : Int) (a1 : Int) (a2 : Int) (a3 : Int) : Option (Int × Int × Int) := (some (([a0, a1, a2, a3] : List Int) : List Int)).bind fun y125 => ((slices_Min_int_int.f k y125).bind fun t128 => (if t128 < 0 then (some (0, 0, 1)) else ((slices_Max_int_int.f k y125).bind fun t129 => (if t129 > 60 then (measure_Exact.j0 k true a0 a1 a2 a3) else ((measure_sumOf.f k y125).bind fun t130 => (measure_Exact.j0 k (decide (t130 > 60)) a0 a1 a2 a3))))))
theorem measure_Exact.mono_l : ∀ k, (∀ y0 y1 y2 y3 y4, LeO (measure_Exact.j0 k y0 y1 y2 y3 y4) (measure_Exact.j0 (k + 1) y0 y1 y2 y3 y4)) ∧ (∀ y0 y1 y2 y3 y4 y5 y6 y7 y8, LeO (measure_Exact.l0 k y0 y1 y2 y3 y4 y5 y6 y7 y8) (measure_Exact.l0 (k + 1) y0 y1 y2 y3 y4 y5 y6 y7 y8))
  | 0 => ⟨fun _ _ _ _ _ r h => by simp [measure_Exact.j0] at h, fun _ _ _ _ _ _ _ _ _ r h => by simp [measure_Exact.l0] at h⟩
  | k + 1 => by
    obtain ⟨ih0, ih1⟩ := measure_Exact.mono_l k
    refine ⟨?_, ?_⟩
    · intro y0 y1 y2 y3 y4
      unfold measure_Exact.j0
      repeat' first
      | (with_reducible exact ih0 _ _ _ _ _)
      | (with_reducible exact ih1 _ _ _ _ _ _ _ _ _)
      | (with_reducible exact measure_Exact_1.mono _ _ _ _ _ _)
      | (with_reducible exact measure_reduce.mono _ _ _)
      | (with_reducible exact measure_sumOf.mono _ _)
      | (with_reducible exact slices_Max_int_int.mono _ _)
      | (with_reducible exact slices_Min_int_int.mono _ _)
      | (with_reducible exact LeO.refl _)
      | (with_reducible exact LeO.none _)
      | (with_reducible refine LeO.ite ?_ ?_)
      | (with_reducible refine LeO.bind ?_ (fun _ => ?_))
      | exact ih0 _ _ _ _ _
      | exact ih1 _ _ _ _ _ _ _ _ _
      | exact measure_Exact_1.mono _ _ _ _ _ _
      | exact measure_reduce.mono _ _ _
      | exact measure_sumOf.mono _ _
      | exact slices_Max_int_int.mono _ _
      | exact slices_Min_int_int.mono _ _
      | exact LeO.none _
      | refine LeO.ite ?_ ?_
      | refine LeO.bind ?_ (fun _ => ?_)
    · intro y0 y1 y2 y3 y4 y5 y6 y7 y8
      unfold measure_Exact.l0
      repeat' first
      | (with_reducible exact ih0 _ _ _ _ _)
      | (with_reducible exact ih1 _ _ _ _ _ _ _ _ _)
      | (with_reducible exact measure_Exact_1.mono _ _ _ _ _ _)
      | (with_reducible exact measure_reduce.mono _ _ _)
      | (with_reducible exact measure_sumOf.mono _ _)
      | (with_reducible exact slices_Max_int_int.mono _ _)
      | (with_reducible exact slices_Min_int_int.mono _ _)
      | (with_reducible exact LeO.refl _)
      | (with_reducible exact LeO.none _)
      | (with_reducible refine LeO.ite ?_ ?_)
      | (with_reducible refine LeO.bind ?_ (fun _ => ?_))
      | exact ih0 _ _ _ _ _
      | exact ih1 _ _ _ _ _ _ _ _ _
      | exact measure_Exact_1.mono _ _ _ _ _ _
      | exact measure_reduce.mono _ _ _
      | exact measure_sumOf.mono _ _
      | exact slices_Max_int_int.mono _ _
      | exact slices_Min_int_int.mono _ _
      | exact LeO.none _
      | refine LeO.ite ?_ ?_
      | refine LeO.bind ?_ (fun _ => ?_)
theorem measure_Exact.mono : ∀ a0 a1 a2 a3 k, LeO (measure_Exact.f k a0 a1 a2 a3) (measure_Exact.f (k + 1) a0 a1 a2 a3) := by
  intro a0 a1 a2 a3 k
  obtain ⟨ih0, ih1⟩ := measure_Exact.mono_l k
  unfold measure_Exact.f
  repeat' first
      | (with_reducible exact ih0 _ _ _ _ _)
      | (with_reducible exact ih1 _ _ _ _ _ _ _ _ _)
      | (with_reducible exact measure_Exact_1.mono _ _ _ _ _ _)
      | (with_reducible exact measure_reduce.mono _ _ _)
      | (with_reducible exact measure_sumOf.mono _ _)
      | (with_reducible exact slices_Max_int_int.mono _ _)
      | (with_reducible exact slices_Min_int_int.mono _ _)
      | (with_reducible exact LeO.refl _)
      | (with_reducible exact LeO.none _)
      | (with_reducible refine LeO.ite ?_ ?_)
      | (with_reducible refine LeO.bind ?_ (fun _ => ?_))
      | exact ih0 _ _ _ _ _
      | exact ih1 _ _ _ _ _ _ _ _ _
      | exact measure_Exact_1.mono _ _ _ _ _ _
      | exact measure_reduce.mono _ _ _
      | exact measure_sumOf.mono _ _
      | exact slices_Max_int_int.mono _ _
      | exact slices_Min_int_int.mono _ _
      | exact LeO.none _
      | refine LeO.ite ?_ ?_
      | refine LeO.bind ?_ (fun _ => ?_)
set_option maxHeartbeats 8000000 in
set_option maxRecDepth 100000 in
theorem measure_Exact.calls (k : Nat) (a0 : Int) (a1 : Int) (a2 : Int) (a3 : Int) (r1 : Int) (r2 : Int) (r3 : Int) (w : World) (h : measure_Exact.f k a0 a1 a2 a3 = some (r1, r2, r3)) :
    Calls Try.prog 13 #[.int .i64 a0, .int .i64 a1, .int .i64 a2, .int .i64 a3] w fun e w' => e = .returned (.tuple #[.agg #[.int .i64 r1, .int .i64 r2], .int .i64 r3]) ∧ Below w.heap.size w w' := by
  have hu3 := Try.underlying3
  have hu28 := Try.underlying28
  have HB := Aside0.mk (Below.refl w.heap.size w)
  have H : ((some (([a0, a1, a2, a3] : List Int) : List Int)).bind fun y125 => ((slices_Min_int_int.f k y125).bind fun t128 => (if t128 < 0 then (some (0, 0, 1)) else ((slices_Max_int_int.f k y125).bind fun t129 => (if t129 > 60 then (measure_Exact.j0 k true a0 a1 a2 a3) else ((measure_sumOf.f k y125).bind fun t130 => (measure_Exact.j0 k (decide (t130 > 60)) a0 a1 a2 a3))))))) = some (r1, r2, r3) := h
  clear h
  obtain ⟨y125, hy125⟩ : ∃ y_ : List Int, y_ = (([a0, a1, a2, a3] : List Int)) := ⟨_, rfl⟩
  replace H : ((slices_Min_int_int.f k y125).bind fun t128 => (if t128 < 0 then (some (0, 0, 1)) else ((slices_Max_int_int.f k y125).bind fun t129 => (if t129 > 60 then (measure_Exact.j0 k true a0 a1 a2 a3) else ((measure_sumOf.f k y125).bind fun t130 => (measure_Exact.j0 k (decide (t130 > 60)) a0 a1 a2 a3)))))) = some (r1, r2, r3) := by first | (rw [hy125]; with_reducible exact H) | (have H2_ := (Option.bind_some _ _).symm.trans H; rw [hy125]; with_reducible exact H2_) | (have H2_ := (Option.bind_some _ _).symm.trans H; with_reducible exact H2_) | with_reducible exact H | (rw [hy125]; exact H) | exact H
  have Ny125 := Aside0.mk hy125
  clear hy125
  replace H := Option.bind_eq_some_iff.mp H
  obtain ⟨t128, A50, H⟩ := H
  replace H : (if t128 < 0 then (some (0, 0, 1)) else ((slices_Max_int_int.f k y125).bind fun t129 => (if t129 > 60 then (measure_Exact.j0 k true a0 a1 a2 a3) else ((measure_sumOf.f k y125).bind fun t130 => (measure_Exact.j0 k (decide (t130 > 60)) a0 a1 a2 a3))))) = some (r1, r2, r3) := H
  have A5 := Aside0.mk A50
  clear A50
  have HC6 := Aside0.mk H
  clear H
  go_enter Try.func13, Try.ntmps13
  go_upto_if 24 with (first | ((with_reducible refine gate_dst (N := 4) rfl ?_); refine box_event ?hg (N := 4) ?hd (cs := #[.int .i64 a0]) (t := 3) ?hr ?_; (case hd => rfl); (case hg => rfl); (case hr => first | (go_simp; done) | (go_simp; rfl)); intro gb120 hg w7 hbox hb; have n0_ := Aside0.mk (below_step q6x4_ hb); have n1_ := Aside0.mk (hbox); have n2_ := Aside0.mk ((by rw [hg]; exact (below_size q6x4_) : w.heap.size ≤ gb120)); have n3_ := Aside0.mk ((by rw [hg]; exact (below_size q6x4_) : w.heap.size ≤ gb120)); clear HB; have HB := n0_; have BK120 := n1_; have GW120 := n2_; have GE120 := n3_; clear n0_ n1_ n2_ n3_; clear hb hbox hg) | ((with_reducible refine gate_dst (N := 5) rfl ?_); refine box_event ?hg (N := 5) ?hd (cs := #[.int .i64 a1]) (t := 3) ?hr ?_; (case hd => rfl); (case hg => rfl); (case hr => first | (go_simp; done) | (go_simp; rfl)); intro gb121 hg w8 hbox hb; have n0_ := Aside0.mk (blk_below (g := gb120) (o := .cells #[.int .i64 a0] 3 (0, 0)) q2x4_ hb); have n1_ := Aside0.mk (below_step q19x4_ hb); have n2_ := Aside0.mk (hbox); have n3_ := Aside0.mk ((by rw [hg]; exact (below_size q19x4_) : w.heap.size ≤ gb121)); have n4_ := Aside0.mk ((by rw [hg]; exact (below_size q19x4_) : w.heap.size ≤ gb121)); have n5_ := Aside0.mk ((by rw [hg]; exact Nat.ne_of_lt (blk_lt (g := gb120) (o := .cells #[.int .i64 a0] 3 (0, 0)) q2x4_) : gb120 ≠ gb121)); have n6_ := Aside0.mk ((by rw [hg]; exact Nat.ne_of_gt (blk_lt (g := gb120) (o := .cells #[.int .i64 a0] 3 (0, 0)) q2x4_) : gb121 ≠ gb120)); clear BK120; clear HB; have BK120 := n0_; have HB := n1_; have BK121 := n2_; have GW121 := n3_; have GE121 := n4_; have NB120_121 := n5_; have NB121_120 := n6_; clear n0_ n1_ n2_ n3_ n4_ n5_ n6_; clear hb hbox hg) | ((with_reducible refine gate_dst (N := 6) rfl ?_); refine box_event ?hg (N := 6) ?hd (cs := #[.int .i64 a2]) (t := 3) ?hr ?_; (case hd => rfl); (case hg => rfl); (case hr => first | (go_simp; done) | (go_simp; rfl)); intro gb122 hg w9 hbox hb; have n0_ := Aside0.mk (blk_below (g := gb120) (o := .cells #[.int .i64 a0] 3 (0, 0)) q2x4_ hb); have n1_ := Aside0.mk (blk_below (g := gb121) (o := .cells #[.int .i64 a1] 3 (0, 0)) q3x4_ hb); have n2_ := Aside0.mk (below_step q18x4_ hb); have n3_ := Aside0.mk (hbox); have n4_ := Aside0.mk ((by rw [hg]; exact (below_size q18x4_) : w.heap.size ≤ gb122)); have n5_ := Aside0.mk ((by rw [hg]; exact (below_size q18x4_) : w.heap.size ≤ gb122)); have n6_ := Aside0.mk ((by rw [hg]; exact Nat.ne_of_lt (blk_lt (g := gb120) (o := .cells #[.int .i64 a0] 3 (0, 0)) q2x4_) : gb120 ≠ gb122)); have n7_ := Aside0.mk ((by rw [hg]; exact Nat.ne_of_gt (blk_lt (g := gb120) (o := .cells #[.int .i64 a0] 3 (0, 0)) q2x4_) : gb122 ≠ gb120)); have n8_ := Aside0.mk ((by rw [hg]; exact Nat.ne_of_lt (blk_lt (g := gb121) (o := .cells #[.int .i64 a1] 3 (0, 0)) q3x4_) : gb121 ≠ gb122)); have n9_ := Aside0.mk ((by rw [hg]; exact Nat.ne_of_gt (blk_lt (g := gb121) (o := .cells #[.int .i64 a1] 3 (0, 0)) q3x4_) : gb122 ≠ gb121)); clear BK120; clear BK121; clear HB; have BK120 := n0_; have BK121 := n1_; have HB := n2_; have BK122 := n3_; have GW122 := n4_; have GE122 := n5_; have NB120_122 := n6_; have NB122_120 := n7_; have NB121_122 := n8_; have NB122_121 := n9_; clear n0_ n1_ n2_ n3_ n4_ n5_ n6_ n7_ n8_ n9_; clear hb hbox hg) | ((with_reducible refine gate_dst (N := 7) rfl ?_); refine box_event ?hg (N := 7) ?hd (cs := #[.int .i64 a3]) (t := 3) ?hr ?_; (case hd => rfl); (case hg => rfl); (case hr => first | (go_simp; done) | (go_simp; rfl)); intro gb123 hg w10 hbox hb; have n0_ := Aside0.mk (blk_below (g := gb120) (o := .cells #[.int .i64 a0] 3 (0, 0)) q2x4_ hb); have n1_ := Aside0.mk (blk_below (g := gb121) (o := .cells #[.int .i64 a1] 3 (0, 0)) q3x4_ hb); have n2_ := Aside0.mk (blk_below (g := gb122) (o := .cells #[.int .i64 a2] 3 (0, 0)) q4x4_ hb); have n3_ := Aside0.mk (below_step q15x4_ hb); have n4_ := Aside0.mk (hbox); have n5_ := Aside0.mk ((by rw [hg]; exact (below_size q15x4_) : w.heap.size ≤ gb123)); have n6_ := Aside0.mk ((by rw [hg]; exact (below_size q15x4_) : w.heap.size ≤ gb123)); have n7_ := Aside0.mk ((by rw [hg]; exact Nat.ne_of_lt (blk_lt (g := gb120) (o := .cells #[.int .i64 a0] 3 (0, 0)) q2x4_) : gb120 ≠ gb123)); have n8_ := Aside0.mk ((by rw [hg]; exact Nat.ne_of_gt (blk_lt (g := gb120) (o := .cells #[.int .i64 a0] 3 (0, 0)) q2x4_) : gb123 ≠ gb120)); have n9_ := Aside0.mk ((by rw [hg]; exact Nat.ne_of_lt (blk_lt (g := gb121) (o := .cells #[.int .i64 a1] 3 (0, 0)) q3x4_) : gb121 ≠ gb123)); have n10_ := Aside0.mk ((by rw [hg]; exact Nat.ne_of_gt (blk_lt (g := gb121) (o := .cells #[.int .i64 a1] 3 (0, 0)) q3x4_) : gb123 ≠ gb121)); have n11_ := Aside0.mk ((by rw [hg]; exact Nat.ne_of_lt (blk_lt (g := gb122) (o := .cells #[.int .i64 a2] 3 (0, 0)) q4x4_) : gb122 ≠ gb123)); have n12_ := Aside0.mk ((by rw [hg]; exact Nat.ne_of_gt (blk_lt (g := gb122) (o := .cells #[.int .i64 a2] 3 (0, 0)) q4x4_) : gb123 ≠ gb122)); clear BK120; clear BK121; clear BK122; clear HB; have BK120 := n0_; have BK121 := n1_; have BK122 := n2_; have HB := n3_; have BK123 := n4_; have GW123 := n5_; have GE123 := n6_; have NB120_123 := n7_; have NB123_120 := n8_; have NB121_123 := n9_; have NB123_121 := n10_; have NB122_123 := n11_; have NB123_122 := n12_; clear n0_ n1_ n2_ n3_ n4_ n5_ n6_ n7_ n8_ n9_ n10_ n11_ n12_; clear hb hbox hg) | ((with_reducible refine gate_dst (N := 8) rfl ?_); refine box_event ?hg (N := 8) ?hd (cs := #[.int .i64 0, .int .i64 0]) (t := 28) ?hr ?_; (case hd => rfl); (case hg => rfl); (case hr => first | (go_simp; done) | (go_simp; rfl)); intro gb124 hg w11 hbox hb; have n0_ := Aside0.mk (blk_below (g := gb120) (o := .cells #[.int .i64 a0] 3 (0, 0)) q2x4_ hb); have n1_ := Aside0.mk (blk_below (g := gb121) (o := .cells #[.int .i64 a1] 3 (0, 0)) q3x4_ hb); have n2_ := Aside0.mk (blk_below (g := gb122) (o := .cells #[.int .i64 a2] 3 (0, 0)) q4x4_ hb); have n3_ := Aside0.mk (blk_below (g := gb123) (o := .cells #[.int .i64 a3] 3 (0, 0)) q5x4_ hb); have n4_ := Aside0.mk (below_step q14x4_ hb); have n5_ := Aside0.mk (hbox); have n6_ := Aside0.mk ((by rw [hg]; exact (below_size q14x4_) : w.heap.size ≤ gb124)); have n7_ := Aside0.mk ((by rw [hg]; exact (below_size q14x4_) : w.heap.size ≤ gb124)); have n8_ := Aside0.mk ((by rw [hg]; exact Nat.ne_of_lt (blk_lt (g := gb120) (o := .cells #[.int .i64 a0] 3 (0, 0)) q2x4_) : gb120 ≠ gb124)); have n9_ := Aside0.mk ((by rw [hg]; exact Nat.ne_of_gt (blk_lt (g := gb120) (o := .cells #[.int .i64 a0] 3 (0, 0)) q2x4_) : gb124 ≠ gb120)); have n10_ := Aside0.mk ((by rw [hg]; exact Nat.ne_of_lt (blk_lt (g := gb121) (o := .cells #[.int .i64 a1] 3 (0, 0)) q3x4_) : gb121 ≠ gb124)); have n11_ := Aside0.mk ((by rw [hg]; exact Nat.ne_of_gt (blk_lt (g := gb121) (o := .cells #[.int .i64 a1] 3 (0, 0)) q3x4_) : gb124 ≠ gb121)); have n12_ := Aside0.mk ((by rw [hg]; exact Nat.ne_of_lt (blk_lt (g := gb122) (o := .cells #[.int .i64 a2] 3 (0, 0)) q4x4_) : gb122 ≠ gb124)); have n13_ := Aside0.mk ((by rw [hg]; exact Nat.ne_of_gt (blk_lt (g := gb122) (o := .cells #[.int .i64 a2] 3 (0, 0)) q4x4_) : gb124 ≠ gb122)); have n14_ := Aside0.mk ((by rw [hg]; exact Nat.ne_of_lt (blk_lt (g := gb123) (o := .cells #[.int .i64 a3] 3 (0, 0)) q5x4_) : gb123 ≠ gb124)); have n15_ := Aside0.mk ((by rw [hg]; exact Nat.ne_of_gt (blk_lt (g := gb123) (o := .cells #[.int .i64 a3] 3 (0, 0)) q5x4_) : gb124 ≠ gb123)); clear BK120; clear BK121; clear BK122; clear BK123; clear HB; have BK120 := n0_; have BK121 := n1_; have BK122 := n2_; have BK123 := n3_; have HB := n4_; have BK124 := n5_; have GW124 := n6_; have GE124 := n7_; have NB120_124 := n8_; have NB124_120 := n9_; have NB121_124 := n10_; have NB124_121 := n11_; have NB122_124 := n12_; have NB124_122 := n13_; have NB123_124 := n14_; have NB124_123 := n15_; clear n0_ n1_ n2_ n3_ n4_ n5_ n6_ n7_ n8_ n9_ n10_ n11_ n12_ n13_ n14_ n15_; clear hb hbox hg; have hnb12 := NB120_121.out; have hnc12 := NB121_120.out; have hnb13 := NB120_122.out; have hnc13 := NB122_120.out; have hnb14 := NB120_123.out; have hnc14 := NB123_120.out; have hnb15 := NB120_124.out; have hnc15 := NB124_120.out; have hcz16_0 : w11.cell? ⟨gb120, 0, none⟩ = some (.int .i64 a0) := (blk_cell BK120.out 0).trans rfl; have hfz16_0 := blk_frozen BK120.out 0; have hnb17 := NB121_122.out; have hnc17 := NB122_121.out; have hnb18 := NB121_123.out; have hnc18 := NB123_121.out; have hnb19 := NB121_124.out; have hnc19 := NB124_121.out; have hcz20_0 : w11.cell? ⟨gb121, 0, none⟩ = some (.int .i64 a1) := (blk_cell BK121.out 0).trans rfl; have hfz20_0 := blk_frozen BK121.out 0; have hnb21 := NB122_123.out; have hnc21 := NB123_122.out; have hnb22 := NB122_124.out; have hnc22 := NB124_122.out; have hcz23_0 : w11.cell? ⟨gb122, 0, none⟩ = some (.int .i64 a2) := (blk_cell BK122.out 0).trans rfl; have hfz23_0 := blk_frozen BK122.out 0; have hnb24 := NB123_124.out; have hnc24 := NB124_123.out; have hcz25_0 : w11.cell? ⟨gb123, 0, none⟩ = some (.int .i64 a3) := (blk_cell BK123.out 0).trans rfl; have hfz25_0 := blk_frozen BK123.out 0) | ((with_reducible refine gate_dst (N := 21) rfl ?_); refine Kd.R_lit (Kd.int .i64) _ 3 ?hg (N := 21) ?hd (xs := ([a0, a1, a2, a3] : List Int)) (inner := [.int .i64 a0, .int .i64 a1, .int .i64 a2, .int .i64 a3]) (ok := fun _ => True) (okp := fun _ => True) ?hr ?hp (fun _ hk => hk) trivial (Below.refl _ _) (Nat.le_refl _) (by simp) ?_; (case hd => rfl); (case hg => rfl); (case hr => first | (go_simp; done) | (go_simp; rfl)); (case hp => exact (Reps.one (show Kd.M (Kd.int .i64) _ _ _ a0 [.int .i64 a0] from rfl) (Reps.one (show Kd.M (Kd.int .i64) _ _ _ a1 [.int .i64 a1] from rfl) (Reps.one (show Kd.M (Kd.int .i64) _ _ _ a2 [.int .i64 a2] from rfl) (Reps.one (show Kd.M (Kd.int .i64) _ _ _ a3 [.int .i64 a3] from rfl) (Reps.none _ _)))))); intro v126 w26 ho27 hb hg_ hnew_; clear hg_ hnew_; (first | rw [← Ny125.out] at ho27 | (simp only [Int.reduceToNat] at ho27; rw [← Ny125.out] at ho27)); have n0_ := Aside0.mk (Kd.R_lower (Kd.R_newB (Kd.R_newB (Kd.R_newB (Kd.R_newB ho27 (g := gb120) (o := .cells #[.int .i64 a0] 3 (0, 0)) q2x4_) (g := gb121) (o := .cells #[.int .i64 a1] 3 (0, 0)) q3x4_) (g := gb122) (o := .cells #[.int .i64 a2] 3 (0, 0)) q4x4_) (g := gb123) (o := .cells #[.int .i64 a3] 3 (0, 0)) q5x4_) (below_size q1x4_)); have n1_ := Aside0.mk (blk_below (g := gb120) (o := .cells #[.int .i64 a0] 3 (0, 0)) q2x4_ hb); have n2_ := Aside0.mk (blk_below (g := gb121) (o := .cells #[.int .i64 a1] 3 (0, 0)) q3x4_ hb); have n3_ := Aside0.mk (blk_below (g := gb122) (o := .cells #[.int .i64 a2] 3 (0, 0)) q4x4_ hb); have n4_ := Aside0.mk (blk_below (g := gb123) (o := .cells #[.int .i64 a3] 3 (0, 0)) q5x4_ hb); have n5_ := Aside0.mk (blk_below (g := gb124) (o := .cells #[.int .i64 0, .int .i64 0] 28 (0, 0)) q9x4_ hb); have n6_ := Aside0.mk (below_step q1x4_ hb); clear BK120; clear BK121; clear BK122; clear BK123; clear BK124; clear HB; have HO127 := n0_; have BK120 := n1_; have BK121 := n2_; have BK122 := n3_; have BK123 := n4_; have BK124 := n5_; have HB := n6_; clear n0_ n1_ n2_ n3_ n4_ n5_ n6_; clear hb ho27; obtain ⟨Ao28, co28, eo28⟩ := Kd.R_slice HO127.out; subst eo28) | ((with_reducible refine gate_callee (f := 59) rfl ?_); refine goesL_ (some 23) rfl rfl Try.func59 (by kernel_rfl) rfl #[.slice Ao28 y125.length co28] rfl q7x4_ ?_; (with_reducible refine (slices_Min_int_int.calls k _ _ y125 t128 _ ?side1 ?side2 A5.out).mono ?_); (case side1 => repeat (first | exact (Kd.R_reads' HO127.out).2.2 | (with_reducible refine Kd.C_alloc ?_ _) | (with_reducible refine Kd.C_drewN ?_ _) | (with_reducible refine Kd.C_drew ?_))); (case side2 => exact (Kd.R_reads' HO127.out).2.1); rintro e w29 ⟨rfl, hb⟩; refine ⟨_, rfl, ?_⟩; have n0_ := Aside0.mk (Kd.R_below q21x4_ hb); have n1_ := Aside0.mk (blk_below (g := gb120) (o := .cells #[.int .i64 a0] 3 (0, 0)) q2x4_ hb); have n2_ := Aside0.mk (blk_below (g := gb121) (o := .cells #[.int .i64 a1] 3 (0, 0)) q3x4_ hb); have n3_ := Aside0.mk (blk_below (g := gb122) (o := .cells #[.int .i64 a2] 3 (0, 0)) q4x4_ hb); have n4_ := Aside0.mk (blk_below (g := gb123) (o := .cells #[.int .i64 a3] 3 (0, 0)) q5x4_ hb); have n5_ := Aside0.mk (blk_below (g := gb124) (o := .cells #[.int .i64 0, .int .i64 0] 28 (0, 0)) q9x4_ hb); have n6_ := Aside0.mk (below_step q1x4_ hb); clear HO127; clear BK120; clear BK121; clear BK122; clear BK123; clear BK124; clear HB; have HO127 := n0_; have BK120 := n1_; have BK121 := n2_; have BK122 := n3_; have BK123 := n4_; have BK124 := n5_; have HB := n6_; clear n0_ n1_ n2_ n3_ n4_ n5_ n6_; (try clear hb); (try clear hb2); (try clear hk); (try clear hi)))
  (try simp only [Act.put, List.setIfInBounds_toArray, List.set_cons_zero, List.set_cons_succ])
  have H := HC6.out
  clear HC6
  by_cases c30 : t128 < 0
  · rw [if_pos c30] at H
    have c30b0 : decide (t128 < 0) = true := decide_eq_true c30
    clear c30
    (first | rw [c30b0] | (simp only [i64_w, i32_w]; rw [c30b0]) | skip)
    as_aux_lemma =>
      simp only [Option.some.injEq, Prod.mk.injEq] at H
      obtain ⟨rfl, rfl, rfl⟩ := H
      have hnb31 := NB124_120.out
      have hnc31 := NB120_124.out
      have hnb32 := NB124_121.out
      have hnc32 := NB121_124.out
      have hnb33 := NB124_122.out
      have hnc33 := NB122_124.out
      have hnb34 := NB124_123.out
      have hnc34 := NB123_124.out
      have hcz35_0 : w29.cell? ⟨gb124, 0, none⟩ = some (.int .i64 0) := (blk_cell BK124.out 0).trans rfl
      have hcz35_1 : w29.cell? ⟨gb124, 1, none⟩ = some (.int .i64 0) := (blk_cell BK124.out 1).trans rfl
      have hfz35_0 := blk_frozen BK124.out 0
      have hfz35_1 := blk_frozen BK124.out 1
      go_wp2
      refine bodyPost_ret (results_ct rfl _ _ gb124 28 #[.int .i64 0, .int .i64 0] (0, 0) _ rfl q16x4_ Try.underlying28 rfl (by kernel_rfl)) rfl ?_
      exact ⟨q13x4_, q1x4_⟩
  rw [if_neg c30] at H
  have c30b0 : decide (t128 < 0) = false := decide_eq_false c30
  clear c30
  (first | rw [c30b0] | (simp only [i64_w, i32_w]; rw [c30b0]) | skip)
  have HC36 := Aside0.mk H
  clear H
  go_upto_region 4 with (fail)
  go_cut [33] (fun v33 wc => ∃ (kq : Nat) (x33_35 : Bool), v33 = .bool x33_35 ∧ Aside0 (measure_Exact.j0 kq x33_35 a0 a1 a2 a3 = some (r1, r2, r3)) ∧ Aside0 (kq ≤ k) ∧ Aside0 (wc.heap[gb120]? = some (.cells #[.int .i64 a0] 3 (0, 0))) ∧ Aside0 (wc.heap[gb121]? = some (.cells #[.int .i64 a1] 3 (0, 0))) ∧ Aside0 (wc.heap[gb122]? = some (.cells #[.int .i64 a2] 3 (0, 0))) ∧ Aside0 (wc.heap[gb123]? = some (.cells #[.int .i64 a3] 3 (0, 0))) ∧ Aside0 (wc.heap[gb124]? = some (.cells #[.int .i64 0, .int .i64 0] 28 (0, 0))) ∧ Aside0 (Below w.heap.size w wc))
  case first =>
    have H := HC36.out
    clear HC36
    replace H := Option.bind_eq_some_iff.mp H
    obtain ⟨t129, A370, H⟩ := H
    replace H : (if t129 > 60 then (measure_Exact.j0 k true a0 a1 a2 a3) else ((measure_sumOf.f k y125).bind fun t130 => (measure_Exact.j0 k (decide (t130 > 60)) a0 a1 a2 a3))) = some (r1, r2, r3) := H
    have A37 := Aside0.mk A370
    clear A370
    by_cases c38 : t129 > 60
    · rw [if_pos c38] at H
      have c38b0 : decide (60 < t129) = true := decide_eq_true c38
      clear c38
      (first | rw [c38b0] | (simp only [i64_w, i32_w]; rw [c38b0]) | skip)
      as_aux_lemma =>
        have H' := Aside0.mk H
        clear H
        go_wp2_with (first | ((with_reducible refine gate_callee (f := 60) rfl ?_); refine goesL_ (some 27) rfl rfl Try.func60 (by kernel_rfl) rfl #[.slice Ao28 y125.length co28] rfl q7x4_ ?_; (with_reducible refine (slices_Max_int_int.calls k _ _ y125 t129 _ ?side1 ?side2 A37.out).mono ?_); (case side1 => repeat (first | exact (Kd.R_reads' HO127.out).2.2 | (with_reducible refine Kd.C_alloc ?_ _) | (with_reducible refine Kd.C_drewN ?_ _) | (with_reducible refine Kd.C_drew ?_))); (case side2 => exact (Kd.R_reads' HO127.out).2.1); rintro e w39 ⟨rfl, hb⟩; refine ⟨_, rfl, ?_⟩; have n0_ := Aside0.mk (Kd.R_below q21x4_ hb); have n1_ := Aside0.mk (blk_below (g := gb120) (o := .cells #[.int .i64 a0] 3 (0, 0)) q2x4_ hb); have n2_ := Aside0.mk (blk_below (g := gb121) (o := .cells #[.int .i64 a1] 3 (0, 0)) q3x4_ hb); have n3_ := Aside0.mk (blk_below (g := gb122) (o := .cells #[.int .i64 a2] 3 (0, 0)) q4x4_ hb); have n4_ := Aside0.mk (blk_below (g := gb123) (o := .cells #[.int .i64 a3] 3 (0, 0)) q5x4_ hb); have n5_ := Aside0.mk (blk_below (g := gb124) (o := .cells #[.int .i64 0, .int .i64 0] 28 (0, 0)) q9x4_ hb); have n6_ := Aside0.mk (below_step q1x4_ hb); clear HO127; clear BK120; clear BK121; clear BK122; clear BK123; clear BK124; clear HB; have HO127 := n0_; have BK120 := n1_; have BK121 := n2_; have BK122 := n3_; have BK123 := n4_; have BK124 := n5_; have HB := n6_; clear n0_ n1_ n2_ n3_ n4_ n5_ n6_; (try clear hb); (try clear hb2); (try clear hk); (try clear hi)))
        go_meet
        case rel => exact ⟨_, (true), q10x4_, H', ⟨q23x4_⟩, ⟨q2x4_⟩, ⟨q3x4_⟩, ⟨q4x4_⟩, ⟨q5x4_⟩, ⟨q9x4_⟩, ⟨q1x4_⟩⟩
    rw [if_neg c38] at H
    have c38b0 : decide (60 < t129) = false := decide_eq_false c38
    clear c38
    (first | rw [c38b0] | (simp only [i64_w, i32_w]; rw [c38b0]) | skip)
    replace H := Option.bind_eq_some_iff.mp H
    obtain ⟨t130, A400, H⟩ := H
    replace H : (measure_Exact.j0 k (decide (t130 > 60)) a0 a1 a2 a3) = some (r1, r2, r3) := H
    have A40 := Aside0.mk A400
    clear A400
    as_aux_lemma =>
      have H' := Aside0.mk H
      clear H
      go_wp2_with (first | ((with_reducible refine gate_callee (f := 60) rfl ?_); refine goesL_ (some 27) rfl rfl Try.func60 (by kernel_rfl) rfl #[.slice Ao28 y125.length co28] rfl q7x4_ ?_; (with_reducible refine (slices_Max_int_int.calls k _ _ y125 t129 _ ?side1 ?side2 A37.out).mono ?_); (case side1 => repeat (first | exact (Kd.R_reads' HO127.out).2.2 | (with_reducible refine Kd.C_alloc ?_ _) | (with_reducible refine Kd.C_drewN ?_ _) | (with_reducible refine Kd.C_drew ?_))); (case side2 => exact (Kd.R_reads' HO127.out).2.1); rintro e w41 ⟨rfl, hb⟩; refine ⟨_, rfl, ?_⟩; have n0_ := Aside0.mk (Kd.R_below q21x4_ hb); have n1_ := Aside0.mk (blk_below (g := gb120) (o := .cells #[.int .i64 a0] 3 (0, 0)) q2x4_ hb); have n2_ := Aside0.mk (blk_below (g := gb121) (o := .cells #[.int .i64 a1] 3 (0, 0)) q3x4_ hb); have n3_ := Aside0.mk (blk_below (g := gb122) (o := .cells #[.int .i64 a2] 3 (0, 0)) q4x4_ hb); have n4_ := Aside0.mk (blk_below (g := gb123) (o := .cells #[.int .i64 a3] 3 (0, 0)) q5x4_ hb); have n5_ := Aside0.mk (blk_below (g := gb124) (o := .cells #[.int .i64 0, .int .i64 0] 28 (0, 0)) q9x4_ hb); have n6_ := Aside0.mk (below_step q1x4_ hb); clear HO127; clear BK120; clear BK121; clear BK122; clear BK123; clear BK124; clear HB; have HO127 := n0_; have BK120 := n1_; have BK121 := n2_; have BK122 := n3_; have BK123 := n4_; have BK124 := n5_; have HB := n6_; clear n0_ n1_ n2_ n3_ n4_ n5_ n6_; (try clear hb); (try clear hb2); (try clear hk); (try clear hi)) | (go_at_call 61; (with_reducible refine (measure_sumOf.calls k _ _ y125 t130 _ ?side1 ?side2 A40.out).mono ?_); (case side1 => repeat (first | exact (Kd.R_reads' HO127.out).2.2 | (with_reducible refine Kd.C_alloc ?_ _) | (with_reducible refine Kd.C_drewN ?_ _) | (with_reducible refine Kd.C_drew ?_))); (case side2 => exact (Kd.R_reads' HO127.out).2.1); rintro e w' ⟨rfl, ⟨nd, rfl⟩⟩))
      go_meet
      case rel => exact ⟨_, (decide (t130 > 60)), q10x4_, H', ⟨q23x4_⟩, ⟨q2x4_⟩, ⟨q3x4_⟩, ⟨q4x4_⟩, ⟨q5x4_⟩, ⟨q9x4_⟩, ⟨q1x4_⟩⟩
  clear HC36; (try clear c1); (try clear c2); (try clear p2); (try clear c3); (try clear c5); (try clear c6); (try clear c12); (try clear c13); (try clear c14); (try clear c15); (try clear c17); (try clear c18); (try clear c19); (try clear c21); (try clear c22); (try clear c24); (try clear c30); (try clear c30b0); (try clear c31); (try clear c32); (try clear c33); (try clear c34); (try clear c38); (try clear c38b0); (try clear hcz16_0); (try clear hcz20_0); (try clear hcz23_0); (try clear hcz25_0); (try clear hcz35_0); (try clear hcz35_1); (try clear hfz16_0); (try clear hfz20_0); (try clear hfz23_0); (try clear hfz25_0); (try clear hfz35_0); (try clear hfz35_1)
  obtain ⟨kq, x33_35, rfl, HA, HJ35, BK120, BK121, BK122, BK123, BK124, HB⟩ := hcut
  rcases kq with _ | kj35
  · exact absurd HA.out (by simp [measure_Exact.j0])
  have H := HA.out
  clear HA
  simp only [measure_Exact.j0] at H
  by_cases c42 : x33_35 = true
  · subst c42
    have H1 : (some (0, 0, 2)) = some (r1, r2, r3) := by rw [if_pos rfl] at H; exact H
    clear H
    have H := H1
    clear H1
    as_aux_lemma =>
      simp only [Option.some.injEq, Prod.mk.injEq] at H
      obtain ⟨rfl, rfl, rfl⟩ := H
      have hnb43 := NB124_120.out
      have hnc43 := NB120_124.out
      have hnb44 := NB124_121.out
      have hnc44 := NB121_124.out
      have hnb45 := NB124_122.out
      have hnc45 := NB122_124.out
      have hnb46 := NB124_123.out
      have hnc46 := NB123_124.out
      have hcz47_0 : wc.cell? ⟨gb124, 0, none⟩ = some (.int .i64 0) := (blk_cell BK124.out 0).trans rfl
      have hcz47_1 : wc.cell? ⟨gb124, 1, none⟩ = some (.int .i64 0) := (blk_cell BK124.out 1).trans rfl
      have hfz47_0 := blk_frozen BK124.out 0
      have hfz47_1 := blk_frozen BK124.out 1
      go_wp2
      refine bodyPost_ret (results_ct rfl _ _ gb124 28 #[.int .i64 0, .int .i64 0] (0, 0) _ rfl q16x4_ Try.underlying28 rfl (by kernel_rfl)) rfl ?_
      exact ⟨q13x4_, q1x4_⟩
  replace c42 := Bool.eq_false_iff.mpr c42
  subst c42
  have H1 : ((measure_Exact_1.f kj35 a0 a0 a1 a2 a3).bind fun t131 => (measure_Exact.l0 kj35 t131 0 0 (wrap64 ((wrap64 (a0 + a2)) + 1)) 0 a0 a1 a2 a3)) = some (r1, r2, r3) := by rw [if_neg (show ¬ (false = true) by decide)] at H; exact H
  clear H
  have H := H1
  clear H1
  replace H := Option.bind_eq_some_iff.mp H
  obtain ⟨t131, A480, H⟩ := H
  replace H : (measure_Exact.l0 kj35 t131 0 0 (wrap64 ((wrap64 (a0 + a2)) + 1)) 0 a0 a1 a2 a3) = some (r1, r2, r3) := H
  have A48 := Aside0.mk A480
  clear A480
  have H' := Aside0.mk H
  clear H
  have hnb49 := NB120_121.out
  have hnc49 := NB121_120.out
  have hnb50 := NB120_122.out
  have hnc50 := NB122_120.out
  have hnb51 := NB120_123.out
  have hnc51 := NB123_120.out
  have hnb52 := NB120_124.out
  have hnc52 := NB124_120.out
  have hcz53_0 : wc.cell? ⟨gb120, 0, none⟩ = some (.int .i64 a0) := (blk_cell BK120.out 0).trans rfl
  have hfz53_0 := blk_frozen BK120.out 0
  go_wp2_with (first | (go_at_call 62; (with_reducible refine (measure_Exact_1.calls kj35 a0 gb120 a0 gb121 a1 gb122 a2 gb123 a3 t131 _ ?side1 ?side2 ?side3 ?side4 A48.out).mono ?_); (case side1 => exact q2x4_); (case side2 => exact q3x4_); (case side3 => exact q4x4_); (case side4 => exact q5x4_); rintro e w54 ⟨rfl, hb⟩; have n0_ := Aside0.mk (blk_below (g := gb120) (o := .cells #[.int .i64 a0] 3 (0, 0)) q2x4_ hb); have n1_ := Aside0.mk (blk_below (g := gb121) (o := .cells #[.int .i64 a1] 3 (0, 0)) q3x4_ hb); have n2_ := Aside0.mk (blk_below (g := gb122) (o := .cells #[.int .i64 a2] 3 (0, 0)) q4x4_ hb); have n3_ := Aside0.mk (blk_below (g := gb123) (o := .cells #[.int .i64 a3] 3 (0, 0)) q5x4_ hb); have n4_ := Aside0.mk (blk_below (g := gb124) (o := .cells #[.int .i64 0, .int .i64 0] 28 (0, 0)) q9x4_ hb); have n5_ := Aside0.mk (below_step q1x4_ hb); clear BK120; clear BK121; clear BK122; clear BK123; clear BK124; clear HB; have BK120 := n0_; have BK121 := n1_; have BK122 := n2_; have BK123 := n3_; have BK124 := n4_; have HB := n5_; clear n0_ n1_ n2_ n3_ n4_ n5_; (try clear hb); (try clear hb2); (try clear hk); (try clear hi); have hcz55_0 : w54.cell? ⟨gb120, 0, none⟩ = some (.int .i64 a0) := (blk_cell BK120.out 0).trans rfl; have hfz55_0 := blk_frozen BK120.out 0; have hnb56 := NB122_121.out; have hnc56 := NB121_122.out; have hnb57 := NB122_123.out; have hnc57 := NB123_122.out; have hnb58 := NB122_124.out; have hnc58 := NB124_122.out; have hcz59_0 : w54.cell? ⟨gb122, 0, none⟩ = some (.int .i64 a2) := (blk_cell BK122.out 0).trans rfl; have hfz59_0 := blk_frozen BK122.out 0))
  go_loopg [13, 14, 43] kj35 (fun kq v13 v14 v43 w' => ∃ (x13_2 : Int) (x14_2 : Int) (x43_2 : Int), v13 = .int .i64 x13_2 ∧ v14 = .int .i64 x14_2 ∧ v43 = .int .i64 x43_2 ∧ Aside0 (measure_Exact.l0 kq t131 x13_2 x14_2 (wrap64 ((wrap64 (a0 + a2)) + 1)) x43_2 a0 a1 a2 a3 = some (r1, r2, r3)) ∧ Aside0 (kq ≤ kj35) ∧ Aside0 (w'.heap[gb120]? = some (.cells #[.int .i64 a0] 3 (0, 0))) ∧ Aside0 (w'.heap[gb121]? = some (.cells #[.int .i64 a1] 3 (0, 0))) ∧ Aside0 (w'.heap[gb122]? = some (.cells #[.int .i64 a2] 3 (0, 0))) ∧ Aside0 (w'.heap[gb123]? = some (.cells #[.int .i64 a3] 3 (0, 0))) ∧ Aside0 (w'.heap[gb124]? = some (.cells #[.int .i64 0, .int .i64 0] 28 (0, 0))) ∧ Aside0 (Below w.heap.size w w'))
  case atStart => exact ⟨(0), (0), (0), q10x4_, q10x4_, q10x4_, H', ⟨Nat.le_refl _⟩, ⟨q2x4_⟩, ⟨q3x4_⟩, ⟨q4x4_⟩, ⟨q5x4_⟩, ⟨q9x4_⟩, ⟨q1x4_⟩⟩
  case round =>
    clear H'
    (try clear c1); (try clear c2); (try clear p2); (try clear c3); (try clear c4); (try clear c5); (try clear c6); (try clear p6); (try clear c12); (try clear c13); (try clear c14); (try clear c15); (try clear c17); (try clear c18); (try clear c19); (try clear c21); (try clear c22); (try clear c24); (try clear c30); (try clear c30b0); (try clear c31); (try clear c32); (try clear c33); (try clear c34); (try clear c38); (try clear c38b0); (try clear c42); (try clear c43); (try clear c44); (try clear c45); (try clear c46); (try clear c49); (try clear c50); (try clear c51); (try clear c52); (try clear c56); (try clear c57); (try clear c58); (try clear c59); (try clear hcz16_0); (try clear hcz20_0); (try clear hcz23_0); (try clear hcz25_0); (try clear hcz35_0); (try clear hcz35_1); (try clear hcz47_0); (try clear hcz47_1); (try clear hcz53_0); (try clear hcz55_0); (try clear hcz59_0); (try clear hfz16_0); (try clear hfz20_0); (try clear hfz23_0); (try clear hfz25_0); (try clear hfz35_0); (try clear hfz35_1); (try clear hfz47_0); (try clear hfz47_1); (try clear hfz53_0); (try clear hfz55_0); (try clear hfz59_0); (try clear p2)
    obtain ⟨x13_2, x14_2, x43_2, rfl, rfl, rfl, HA, HK2, BK120, BK121, BK122, BK123, BK124, HB⟩ := hrel
    rcases gk with _ | k2
    · exact absurd HA.out (by simp [measure_Exact.l0])
    have H := HA.out
    clear HA
    simp only [measure_Exact.l0] at H
    by_cases c60 : x43_2 < (wrap64 ((wrap64 (a0 + a2)) + 1))
    · rw [if_pos c60] at H
      have c60b0 : decide (x43_2 < (wrap64 ((wrap64 (a0 + a2)) + 1))) = true := decide_eq_true c60
      clear c60
      replace H := Option.bind_eq_some_iff.mp H
      obtain ⟨t132, A610, H⟩ := H
      replace H : (if t132 ≤ t131 then (measure_Exact.l0 k2 t131 (wrap64 (x13_2 + t132)) (wrap64 (x14_2 + t132)) (wrap64 ((wrap64 (a0 + a2)) + 1)) (wrap64 (x43_2 + 1)) a0 a1 a2 a3) else (measure_Exact.l0 k2 t131 x13_2 (wrap64 (x14_2 + t132)) (wrap64 ((wrap64 (a0 + a2)) + 1)) (wrap64 (x43_2 + 1)) a0 a1 a2 a3)) = some (r1, r2, r3) := H
      have A61 := Aside0.mk A610
      clear A610
      by_cases c62 : t132 ≤ t131
      · rw [if_pos c62] at H
        have c62b0 : decide (t132 ≤ t131) = true := decide_eq_true c62
        clear c62
        as_aux_lemma =>
          have H' := Aside0.mk H
          clear H
          go_wp2_with (first | (go_at_call 62; (with_reducible refine (measure_Exact_1.calls k2 x43_2 gb120 a0 gb121 a1 gb122 a2 gb123 a3 t132 _ ?side1 ?side2 ?side3 ?side4 A61.out).mono ?_); (case side1 => exact q2x4_); (case side2 => exact q3x4_); (case side3 => exact q4x4_); (case side4 => exact q5x4_); rintro e w63 ⟨rfl, hb⟩; have n0_ := Aside0.mk (blk_below (g := gb120) (o := .cells #[.int .i64 a0] 3 (0, 0)) q2x4_ hb); have n1_ := Aside0.mk (blk_below (g := gb121) (o := .cells #[.int .i64 a1] 3 (0, 0)) q3x4_ hb); have n2_ := Aside0.mk (blk_below (g := gb122) (o := .cells #[.int .i64 a2] 3 (0, 0)) q4x4_ hb); have n3_ := Aside0.mk (blk_below (g := gb123) (o := .cells #[.int .i64 a3] 3 (0, 0)) q5x4_ hb); have n4_ := Aside0.mk (blk_below (g := gb124) (o := .cells #[.int .i64 0, .int .i64 0] 28 (0, 0)) q9x4_ hb); have n5_ := Aside0.mk (below_step q1x4_ hb); clear BK120; clear BK121; clear BK122; clear BK123; clear BK124; clear HB; have BK120 := n0_; have BK121 := n1_; have BK122 := n2_; have BK123 := n3_; have BK124 := n4_; have HB := n5_; clear n0_ n1_ n2_ n3_ n4_ n5_; (try clear hb); (try clear hb2); (try clear hk); (try clear hi)))
          go_roundg k2
          case measure => have := HJ35.out; have := HK2.out; omega
          case rel => exact ⟨(wrap64 (x13_2 + t132)), (wrap64 (x14_2 + t132)), (wrap64 (x43_2 + 1)), q10x4_, q10x4_, q10x4_, H', ⟨by have := HJ35.out; have := HK2.out; omega⟩, ⟨q2x4_⟩, ⟨q3x4_⟩, ⟨q4x4_⟩, ⟨q5x4_⟩, ⟨q9x4_⟩, ⟨q1x4_⟩⟩
      rw [if_neg c62] at H
      have c62b0 : decide (t132 ≤ t131) = false := decide_eq_false c62
      clear c62
      as_aux_lemma =>
        have H' := Aside0.mk H
        clear H
        go_wp2_with (first | (go_at_call 62; (with_reducible refine (measure_Exact_1.calls k2 x43_2 gb120 a0 gb121 a1 gb122 a2 gb123 a3 t132 _ ?side1 ?side2 ?side3 ?side4 A61.out).mono ?_); (case side1 => exact q2x4_); (case side2 => exact q3x4_); (case side3 => exact q4x4_); (case side4 => exact q5x4_); rintro e w64 ⟨rfl, hb⟩; have n0_ := Aside0.mk (blk_below (g := gb120) (o := .cells #[.int .i64 a0] 3 (0, 0)) q2x4_ hb); have n1_ := Aside0.mk (blk_below (g := gb121) (o := .cells #[.int .i64 a1] 3 (0, 0)) q3x4_ hb); have n2_ := Aside0.mk (blk_below (g := gb122) (o := .cells #[.int .i64 a2] 3 (0, 0)) q4x4_ hb); have n3_ := Aside0.mk (blk_below (g := gb123) (o := .cells #[.int .i64 a3] 3 (0, 0)) q5x4_ hb); have n4_ := Aside0.mk (blk_below (g := gb124) (o := .cells #[.int .i64 0, .int .i64 0] 28 (0, 0)) q9x4_ hb); have n5_ := Aside0.mk (below_step q1x4_ hb); clear BK120; clear BK121; clear BK122; clear BK123; clear BK124; clear HB; have BK120 := n0_; have BK121 := n1_; have BK122 := n2_; have BK123 := n3_; have BK124 := n4_; have HB := n5_; clear n0_ n1_ n2_ n3_ n4_ n5_; (try clear hb); (try clear hb2); (try clear hk); (try clear hi)))
        go_roundg k2
        case measure => have := HJ35.out; have := HK2.out; omega
        case rel => exact ⟨(x13_2), (wrap64 (x14_2 + t132)), (wrap64 (x43_2 + 1)), q10x4_, q10x4_, q10x4_, H', ⟨by have := HJ35.out; have := HK2.out; omega⟩, ⟨q2x4_⟩, ⟨q3x4_⟩, ⟨q4x4_⟩, ⟨q5x4_⟩, ⟨q9x4_⟩, ⟨q1x4_⟩⟩
    rw [if_neg c60] at H
    have c60b0 : decide (x43_2 < (wrap64 ((wrap64 (a0 + a2)) + 1))) = false := decide_eq_false c60
    clear c60
    replace H := Option.bind_eq_some_iff.mp H
    obtain ⟨⟨t133, t134⟩, A650, H⟩ := H
    replace H : (some (t133, t134, 0)) = some (r1, r2, r3) := H
    have A65 := Aside0.mk A650
    clear A650
    as_aux_lemma =>
      simp only [Option.some.injEq, Prod.mk.injEq] at H
      obtain ⟨rfl, rfl, rfl⟩ := H
      go_wp2_with (first | ((with_reducible refine gate_callee (f := 64) rfl ?_); refine goesL_ (some 61) rfl rfl Try.func64 (by kernel_rfl) rfl #[.int .i64 x13_2, .int .i64 x14_2] rfl q7x4_ ?_; (with_reducible refine (measure_reduce.calls k2 x13_2 x14_2 t133 t134 _ A65.out).mono ?_); rintro e w66 ⟨rfl, hb⟩; refine ⟨_, rfl, ?_⟩; have n0_ := Aside0.mk (blk_below (g := gb120) (o := .cells #[.int .i64 a0] 3 (0, 0)) q2x4_ hb); have n1_ := Aside0.mk (blk_below (g := gb121) (o := .cells #[.int .i64 a1] 3 (0, 0)) q3x4_ hb); have n2_ := Aside0.mk (blk_below (g := gb122) (o := .cells #[.int .i64 a2] 3 (0, 0)) q4x4_ hb); have n3_ := Aside0.mk (blk_below (g := gb123) (o := .cells #[.int .i64 a3] 3 (0, 0)) q5x4_ hb); have n4_ := Aside0.mk (blk_below (g := gb124) (o := .cells #[.int .i64 0, .int .i64 0] 28 (0, 0)) q9x4_ hb); have n5_ := Aside0.mk (below_step q1x4_ hb); clear BK120; clear BK121; clear BK122; clear BK123; clear BK124; clear HB; have BK120 := n0_; have BK121 := n1_; have BK122 := n2_; have BK123 := n3_; have BK124 := n4_; have HB := n5_; clear n0_ n1_ n2_ n3_ n4_ n5_; (try clear hb); (try clear hb2); (try clear hk); (try clear hi); have hnb67 := NB124_120.out; have hnc67 := NB120_124.out; have hnb68 := NB124_121.out; have hnc68 := NB121_124.out; have hnb69 := NB124_122.out; have hnc69 := NB122_124.out; have hnb70 := NB124_123.out; have hnc70 := NB123_124.out; have hcz71_0 : w66.cell? ⟨gb124, 0, none⟩ = some (.int .i64 0) := (blk_cell BK124.out 0).trans rfl; have hcz71_1 : w66.cell? ⟨gb124, 1, none⟩ = some (.int .i64 0) := (blk_cell BK124.out 1).trans rfl; have hfz71_0 := blk_frozen BK124.out 0; have hfz71_1 := blk_frozen BK124.out 1))
      refine bodyPost_ret (results_ct rfl _ _ gb124 28 #[.int .i64 t133, .int .i64 t134] (0, 0) _ rfl (by (with_reducible repeat (first | refine blk_drewN ?_ _ | refine blk_drew ?_ | refine blk_alloc ?_ _)); refine blk_put (cs := #[.int .i64 t133, .int .i64 0]) ?_ 1 _ rfl; (with_reducible repeat (first | refine blk_drewN ?_ _ | refine blk_drew ?_ | refine blk_alloc ?_ _)); refine blk_put (cs := #[.int .i64 0, .int .i64 0]) ?_ 0 _ rfl; (with_reducible repeat (first | refine blk_drewN ?_ _ | refine blk_drew ?_ | refine blk_alloc ?_ _)); exact BK124.out) Try.underlying28 rfl (by kernel_rfl)) rfl ?_
      exact ⟨q13x4_, q1x4_⟩

/-! ### measure_within: function 65 -/
def measure_within.f (a0 : Int) (a1 : Int) (a2 : Int) : Option (Bool) := if a1 ≤ a0 then (some (decide (a0 ≤ a2))) else (some false)
set_option maxHeartbeats 8000000 in
set_option maxRecDepth 100000 in
theorem measure_within.calls (a0 : Int) (a1 : Int) (a2 : Int) (r : Bool) (w : World) (h : measure_within.f a0 a1 a2 = some r) :
    Calls Try.prog 65 #[.int .i64 a0, .int .i64 a1, .int .i64 a2] w fun e w' => e = .returned (.bool r) ∧ Drawn0 w w' := by
  have H : (if a1 ≤ a0 then (some (decide (a0 ≤ a2))) else (some false)) = some r := h
  clear h
  by_cases c4 : a1 ≤ a0
  · rw [if_pos c4] at H
    have c4b0 : decide (a1 ≤ a0) = true := decide_eq_true c4
    clear c4
    as_aux_lemma =>
      obtain rfl := Option.some.inj H
      go_enter Try.func65, Try.ntmps65
      go_wp2
      go_ret
      exact ⟨q10x4_, by repeat (first | exact Drawn0.refl _ | apply Drawn0.step)⟩
  rw [if_neg c4] at H
  have c4b0 : decide (a1 ≤ a0) = false := decide_eq_false c4
  clear c4
  as_aux_lemma =>
    obtain rfl := Option.some.inj H
    go_enter Try.func65, Try.ntmps65
    go_wp2
    go_ret
    exact ⟨q10x4_, by repeat (first | exact Drawn0.refl _ | apply Drawn0.step)⟩

/-! ### measure_Signs: function 14 -/
mutual
def measure_Signs.j0 : Nat → Int → Int → Bool → Option (Int × Int × Int)
  | 0, _, _, _ => none
  | k + 1, x0, x1, x17 => if x17 = true then (some (0, 0, 1)) else (measure_Signs.l0 k x0 x1 0 (wrap64 (x0 + 1)) 0)
def measure_Signs.l0 : Nat → Int → Int → Int → Int → Int → Option (Int × Int × Int)
  | 0, _, _, _, _, _ => none
  | k + 1, x0, x1, x6, x20, x21 => if x21 < x20 then ((measure_choose.f k x0 x21).bind fun t140 => ((measure_choose.f k x0 x1).bind fun t141 => (if t140 ≤ t141 then (measure_Signs.l0 k x0 x1 (wrap64 (x6 + t140)) x20 (wrap64 (x21 + 1))) else (measure_Signs.l0 k x0 x1 x6 x20 (wrap64 (x21 + 1)))))) else (if 0 ≤ x0 then ((measure_reduce.f k x6 (shl .i64 1 x0)).bind fun bt138 => (some (bt138.1, bt138.2, 0))) else (none))
end
def measure_Signs.f (k : Nat) (a0 : Int) (a1 : Int) : Option (Int × Int × Int) := (measure_within.f a0 0 60).bind fun t136 => (if t136 = true then ((measure_within.f a1 0 a0).bind fun t137 => (measure_Signs.j0 k a0 a1 (!t137))) else (measure_Signs.j0 k a0 a1 true))
theorem measure_Signs.mono_l : ∀ k, (∀ y0 y1 y2, LeO (measure_Signs.j0 k y0 y1 y2) (measure_Signs.j0 (k + 1) y0 y1 y2)) ∧ (∀ y0 y1 y2 y3 y4, LeO (measure_Signs.l0 k y0 y1 y2 y3 y4) (measure_Signs.l0 (k + 1) y0 y1 y2 y3 y4))
  | 0 => ⟨fun _ _ _ r h => by simp [measure_Signs.j0] at h, fun _ _ _ _ _ r h => by simp [measure_Signs.l0] at h⟩
  | k + 1 => by
    obtain ⟨ih0, ih1⟩ := measure_Signs.mono_l k
    refine ⟨?_, ?_⟩
    · intro y0 y1 y2
      unfold measure_Signs.j0
      repeat' first
      | (with_reducible exact ih0 _ _ _)
      | (with_reducible exact ih1 _ _ _ _ _)
      | (with_reducible exact measure_choose.mono _ _ _)
      | (with_reducible exact measure_reduce.mono _ _ _)
      | (with_reducible exact LeO.refl _)
      | (with_reducible exact LeO.none _)
      | (with_reducible refine LeO.ite ?_ ?_)
      | (with_reducible refine LeO.bind ?_ (fun _ => ?_))
      | exact ih0 _ _ _
      | exact ih1 _ _ _ _ _
      | exact measure_choose.mono _ _ _
      | exact measure_reduce.mono _ _ _
      | exact LeO.none _
      | refine LeO.ite ?_ ?_
      | refine LeO.bind ?_ (fun _ => ?_)
    · intro y0 y1 y2 y3 y4
      unfold measure_Signs.l0
      repeat' first
      | (with_reducible exact ih0 _ _ _)
      | (with_reducible exact ih1 _ _ _ _ _)
      | (with_reducible exact measure_choose.mono _ _ _)
      | (with_reducible exact measure_reduce.mono _ _ _)
      | (with_reducible exact LeO.refl _)
      | (with_reducible exact LeO.none _)
      | (with_reducible refine LeO.ite ?_ ?_)
      | (with_reducible refine LeO.bind ?_ (fun _ => ?_))
      | exact ih0 _ _ _
      | exact ih1 _ _ _ _ _
      | exact measure_choose.mono _ _ _
      | exact measure_reduce.mono _ _ _
      | exact LeO.none _
      | refine LeO.ite ?_ ?_
      | refine LeO.bind ?_ (fun _ => ?_)
theorem measure_Signs.mono : ∀ a0 a1 k, LeO (measure_Signs.f k a0 a1) (measure_Signs.f (k + 1) a0 a1) := by
  intro a0 a1 k
  obtain ⟨ih0, ih1⟩ := measure_Signs.mono_l k
  unfold measure_Signs.f
  repeat' first
      | (with_reducible exact ih0 _ _ _)
      | (with_reducible exact ih1 _ _ _ _ _)
      | (with_reducible exact measure_choose.mono _ _ _)
      | (with_reducible exact measure_reduce.mono _ _ _)
      | (with_reducible exact LeO.refl _)
      | (with_reducible exact LeO.none _)
      | (with_reducible refine LeO.ite ?_ ?_)
      | (with_reducible refine LeO.bind ?_ (fun _ => ?_))
      | exact ih0 _ _ _
      | exact ih1 _ _ _ _ _
      | exact measure_choose.mono _ _ _
      | exact measure_reduce.mono _ _ _
      | exact LeO.none _
      | refine LeO.ite ?_ ?_
      | refine LeO.bind ?_ (fun _ => ?_)
set_option maxHeartbeats 8000000 in
set_option maxRecDepth 100000 in
theorem measure_Signs.calls (k : Nat) (a0 : Int) (a1 : Int) (r1 : Int) (r2 : Int) (r3 : Int) (w : World) (h : measure_Signs.f k a0 a1 = some (r1, r2, r3)) :
    Calls Try.prog 14 #[.int .i64 a0, .int .i64 a1] w fun e w' => e = .returned (.tuple #[.agg #[.int .i64 r1, .int .i64 r2], .int .i64 r3]) ∧ Below w.heap.size w w' := by
  have hu28 := Try.underlying28
  have HB := Aside0.mk (Below.refl w.heap.size w)
  have H : ((measure_within.f a0 0 60).bind fun t136 => (if t136 = true then ((measure_within.f a1 0 a0).bind fun t137 => (measure_Signs.j0 k a0 a1 (!t137))) else (measure_Signs.j0 k a0 a1 true))) = some (r1, r2, r3) := h
  clear h
  have HC3 := Aside0.mk H
  clear H
  go_enter Try.func14, Try.ntmps14
  go_upto_region 1 with (first | ((with_reducible refine gate_dst (N := 4) rfl ?_); refine box_event ?hg (N := 4) ?hd (cs := #[.int .i64 0, .int .i64 0]) (t := 28) ?hr ?_; (case hd => rfl); (case hg => rfl); (case hr => first | (go_simp; done) | (go_simp; rfl)); intro gb135 hg w4 hbox hb; have n0_ := Aside0.mk (below_step q6x4_ hb); have n1_ := Aside0.mk (hbox); have n2_ := Aside0.mk ((by rw [hg]; exact (below_size q6x4_) : w.heap.size ≤ gb135)); have n3_ := Aside0.mk ((by rw [hg]; exact (below_size q6x4_) : w.heap.size ≤ gb135)); clear HB; have HB := n0_; have BK135 := n1_; have GW135 := n2_; have GE135 := n3_; clear n0_ n1_ n2_ n3_; clear hb hbox hg))
  (try simp only [Act.put, List.setIfInBounds_toArray, List.set_cons_zero, List.set_cons_succ])
  go_cut [17] (fun v17 wc => ∃ (kq : Nat) (x17_2 : Bool), v17 = .bool x17_2 ∧ Aside0 (measure_Signs.j0 kq a0 a1 x17_2 = some (r1, r2, r3)) ∧ Aside0 (kq ≤ k) ∧ Aside0 (wc.heap[gb135]? = some (.cells #[.int .i64 0, .int .i64 0] 28 (0, 0))) ∧ Aside0 (Below w.heap.size w wc))
  case first =>
    have H := HC3.out
    clear HC3
    replace H := Option.bind_eq_some_iff.mp H
    obtain ⟨t136, A50, H⟩ := H
    replace H : (if t136 = true then ((measure_within.f a1 0 a0).bind fun t137 => (measure_Signs.j0 k a0 a1 (!t137))) else (measure_Signs.j0 k a0 a1 true)) = some (r1, r2, r3) := H
    have A5 := Aside0.mk A50
    clear A50
    by_cases c6 : t136 = true
    · subst c6
      have H1 : ((measure_within.f a1 0 a0).bind fun t137 => (measure_Signs.j0 k a0 a1 (!t137))) = some (r1, r2, r3) := by rw [if_pos rfl] at H; exact H
      clear H
      have H := H1
      clear H1
      replace H := Option.bind_eq_some_iff.mp H
      obtain ⟨t137, A70, H⟩ := H
      replace H : (measure_Signs.j0 k a0 a1 (!t137)) = some (r1, r2, r3) := H
      have A7 := Aside0.mk A70
      clear A70
      as_aux_lemma =>
        have H' := Aside0.mk H
        clear H
        go_wp2_with (first | ((with_reducible refine gate_callee (f := 65) rfl ?_); refine goesL_ (some 10) rfl rfl Try.func65 (by kernel_rfl) rfl #[.int .i64 a0, .int .i64 0, .int .i64 60] rfl q7x4_ ?_; (with_reducible refine (measure_within.calls a0 0 60 true _ A5.out).mono ?_); rintro e w' ⟨rfl, ⟨nd, rfl⟩⟩; refine ⟨_, rfl, ?_⟩) | (go_at_call 65; (with_reducible refine (measure_within.calls a1 0 a0 t137 _ A7.out).mono ?_); rintro e w' ⟨rfl, ⟨nd, rfl⟩⟩))
        go_meet
        case rel => exact ⟨_, (!t137), q10x4_, H', ⟨q23x4_⟩, ⟨q12x4_⟩, ⟨q8x4_⟩⟩
    replace c6 := Bool.eq_false_iff.mpr c6
    subst c6
    have H1 : (measure_Signs.j0 k a0 a1 true) = some (r1, r2, r3) := by rw [if_neg (show ¬ (false = true) by decide)] at H; exact H
    clear H
    have H := H1
    clear H1
    as_aux_lemma =>
      have H' := Aside0.mk H
      clear H
      go_wp2_with (first | ((with_reducible refine gate_callee (f := 65) rfl ?_); refine goesL_ (some 10) rfl rfl Try.func65 (by kernel_rfl) rfl #[.int .i64 a0, .int .i64 0, .int .i64 60] rfl q7x4_ ?_; (with_reducible refine (measure_within.calls a0 0 60 false _ A5.out).mono ?_); rintro e w' ⟨rfl, ⟨nd, rfl⟩⟩; refine ⟨_, rfl, ?_⟩))
      go_meet
      case rel => exact ⟨_, (true), q10x4_, H', ⟨q23x4_⟩, ⟨q12x4_⟩, ⟨q8x4_⟩⟩
  clear HC3; (try clear c1); (try clear p2); (try clear c6)
  obtain ⟨kq, x17_2, rfl, HA, HJ2, BK135, HB⟩ := hcut
  rcases kq with _ | kj2
  · exact absurd HA.out (by simp [measure_Signs.j0])
  have H := HA.out
  clear HA
  simp only [measure_Signs.j0] at H
  by_cases c8 : x17_2 = true
  · subst c8
    have H1 : (some (0, 0, 1)) = some (r1, r2, r3) := by rw [if_pos rfl] at H; exact H
    clear H
    have H := H1
    clear H1
    as_aux_lemma =>
      simp only [Option.some.injEq, Prod.mk.injEq] at H
      obtain ⟨rfl, rfl, rfl⟩ := H
      have hcz9_0 : wc.cell? ⟨gb135, 0, none⟩ = some (.int .i64 0) := (blk_cell BK135.out 0).trans rfl
      have hcz9_1 : wc.cell? ⟨gb135, 1, none⟩ = some (.int .i64 0) := (blk_cell BK135.out 1).trans rfl
      have hfz9_0 := blk_frozen BK135.out 0
      have hfz9_1 := blk_frozen BK135.out 1
      go_wp2
      refine bodyPost_ret (results_ct rfl _ _ gb135 28 #[.int .i64 0, .int .i64 0] (0, 0) _ rfl (by (with_reducible repeat (first | refine blk_drewN ?_ _ | refine blk_drew ?_ | refine blk_alloc ?_ _)); refine blk_put (cs := #[.int .i64 0, .int .i64 0]) ?_ 1 _ rfl; (with_reducible repeat (first | refine blk_drewN ?_ _ | refine blk_drew ?_ | refine blk_alloc ?_ _)); refine blk_put (cs := #[.int .i64 0, .int .i64 0]) ?_ 0 _ rfl; (with_reducible repeat (first | refine blk_drewN ?_ _ | refine blk_drew ?_ | refine blk_alloc ?_ _)); exact BK135.out) Try.underlying28 rfl (by kernel_rfl)) rfl ?_
      exact ⟨q13x4_, q8x4_⟩
  replace c8 := Bool.eq_false_iff.mpr c8
  subst c8
  have H1 : (measure_Signs.l0 kj2 a0 a1 0 (wrap64 (a0 + 1)) 0) = some (r1, r2, r3) := by rw [if_neg (show ¬ (false = true) by decide)] at H; exact H
  clear H
  have H := H1
  clear H1
  have H' := Aside0.mk H
  clear H
  go_wp2
  go_loopg [6, 21] kj2 (fun kq v6 v21 w' => ∃ (x6_2 : Int) (x21_2 : Int), v6 = .int .i64 x6_2 ∧ v21 = .int .i64 x21_2 ∧ Aside0 (measure_Signs.l0 kq a0 a1 x6_2 (wrap64 (a0 + 1)) x21_2 = some (r1, r2, r3)) ∧ Aside0 (kq ≤ kj2) ∧ Aside0 (w'.heap[gb135]? = some (.cells #[.int .i64 0, .int .i64 0] 28 (0, 0))) ∧ Aside0 (Below w.heap.size w w'))
  case atStart => exact ⟨(0), (0), q10x4_, q10x4_, H', ⟨Nat.le_refl _⟩, ⟨q12x4_⟩, ⟨q8x4_⟩⟩
  case round =>
    clear H'
    (try clear c1); (try clear p2); (try clear c6); (try clear p6); (try clear c8); (try clear hcz9_0); (try clear hcz9_1); (try clear hfz9_0); (try clear hfz9_1); (try clear p2)
    obtain ⟨x6_2, x21_2, rfl, rfl, HA, HK2, BK135, HB⟩ := hrel
    rcases gk with _ | k2
    · exact absurd HA.out (by simp [measure_Signs.l0])
    have H := HA.out
    clear HA
    simp only [measure_Signs.l0] at H
    by_cases c10 : x21_2 < (wrap64 (a0 + 1))
    · rw [if_pos c10] at H
      have c10b0 : decide (x21_2 < (wrap64 (a0 + 1))) = true := decide_eq_true c10
      clear c10
      replace H := Option.bind_eq_some_iff.mp H
      obtain ⟨t140, A110, H⟩ := H
      replace H : ((measure_choose.f k2 a0 a1).bind fun t141 => (if t140 ≤ t141 then (measure_Signs.l0 k2 a0 a1 (wrap64 (x6_2 + t140)) (wrap64 (a0 + 1)) (wrap64 (x21_2 + 1))) else (measure_Signs.l0 k2 a0 a1 x6_2 (wrap64 (a0 + 1)) (wrap64 (x21_2 + 1))))) = some (r1, r2, r3) := H
      have A11 := Aside0.mk A110
      clear A110
      replace H := Option.bind_eq_some_iff.mp H
      obtain ⟨t141, A120, H⟩ := H
      replace H : (if t140 ≤ t141 then (measure_Signs.l0 k2 a0 a1 (wrap64 (x6_2 + t140)) (wrap64 (a0 + 1)) (wrap64 (x21_2 + 1))) else (measure_Signs.l0 k2 a0 a1 x6_2 (wrap64 (a0 + 1)) (wrap64 (x21_2 + 1)))) = some (r1, r2, r3) := H
      have A12 := Aside0.mk A120
      clear A120
      have HC13 := Aside0.mk H
      clear H
      go_upto_if 31 with (first | ((with_reducible refine gate_callee (f := 63) rfl ?_); refine goesL_ (some 26) rfl rfl Try.func63 (by kernel_rfl) rfl #[.int .i64 a0, .int .i64 x21_2] rfl q7x4_ ?_; (with_reducible refine (measure_choose.calls k2 a0 x21_2 t140 _ A11.out).mono ?_); rintro e w14 ⟨rfl, hb⟩; refine ⟨_, rfl, ?_⟩; have n0_ := Aside0.mk (blk_below (g := gb135) (o := .cells #[.int .i64 0, .int .i64 0] 28 (0, 0)) q12x4_ hb); have n1_ := Aside0.mk (below_step q8x4_ hb); clear BK135; clear HB; have BK135 := n0_; have HB := n1_; clear n0_ n1_; (try clear hb); (try clear hb2); (try clear hk); (try clear hi)) | ((with_reducible refine gate_callee (f := 63) rfl ?_); refine goesL_ (some 30) rfl rfl Try.func63 (by kernel_rfl) rfl #[.int .i64 a0, .int .i64 a1] rfl q7x4_ ?_; (with_reducible refine (measure_choose.calls k2 a0 a1 t141 _ A12.out).mono ?_); rintro e w15 ⟨rfl, hb⟩; refine ⟨_, rfl, ?_⟩; have n0_ := Aside0.mk (blk_below (g := gb135) (o := .cells #[.int .i64 0, .int .i64 0] 28 (0, 0)) q12x4_ hb); have n1_ := Aside0.mk (below_step q8x4_ hb); clear BK135; clear HB; have BK135 := n0_; have HB := n1_; clear n0_ n1_; (try clear hb); (try clear hb2); (try clear hk); (try clear hi)))
      (try simp only [Act.put, List.setIfInBounds_toArray, List.set_cons_zero, List.set_cons_succ])
      have H := HC13.out
      clear HC13
      by_cases c16 : t140 ≤ t141
      · rw [if_pos c16] at H
        have c16b0 : decide (t140 ≤ t141) = true := decide_eq_true c16
        clear c16
        (first | rw [c16b0] | (simp only [i64_w, i32_w]; rw [c16b0]) | skip)
        as_aux_lemma =>
          have H' := Aside0.mk H
          clear H
          go_wp2
          go_roundg k2
          case measure => have := HJ2.out; have := HK2.out; omega
          case rel => exact ⟨(wrap64 (x6_2 + t140)), (wrap64 (x21_2 + 1)), q10x4_, q10x4_, H', ⟨by have := HJ2.out; have := HK2.out; omega⟩, ⟨q12x4_⟩, ⟨q8x4_⟩⟩
      rw [if_neg c16] at H
      have c16b0 : decide (t140 ≤ t141) = false := decide_eq_false c16
      clear c16
      (first | rw [c16b0] | (simp only [i64_w, i32_w]; rw [c16b0]) | skip)
      as_aux_lemma =>
        have H' := Aside0.mk H
        clear H
        go_wp2
        go_roundg k2
        case measure => have := HJ2.out; have := HK2.out; omega
        case rel => exact ⟨(x6_2), (wrap64 (x21_2 + 1)), q10x4_, q10x4_, H', ⟨by have := HJ2.out; have := HK2.out; omega⟩, ⟨q12x4_⟩, ⟨q8x4_⟩⟩
    rw [if_neg c10] at H
    have c10b0 : decide (x21_2 < (wrap64 (a0 + 1))) = false := decide_eq_false c10
    clear c10
    by_cases c17 : 0 ≤ a0
    · rw [if_pos c17] at H
      have c17b0 := eq_true c17
      have c17b1 : decide (0 ≤ a0) = true := decide_eq_true c17
      clear c17
      obtain ⟨ji18, hji18⟩ : ∃ j_ : Int, (shl .i64 1 a0) = j_ := ⟨_, rfl⟩
      replace H : ((measure_reduce.f k2 x6_2 (ji18)).bind fun bt138 => (some (bt138.1, bt138.2, 0))) = some (r1, r2, r3) := by first | (rw [hji18] at H; exact H) | (simp only [hji18] at H ⊢; exact H)
      have hji18_ : (IntKind.i64.wrap (1 * 2 ^ min a0.toNat 64)) = ji18 := hji18
      have hji18z : a0 ≤ 64 → (IntKind.i64.wrap (1 * 2 ^ a0.toNat)) = ji18 := shl_small hji18
      have hji18u : (IntKind.i64.wrap (2 ^ min a0.toNat 64)) = ji18 := by have h_ := hji18_; rw [Int.one_mul] at h_; exact h_
      have hji18v : a0 ≤ 64 → (IntKind.i64.wrap (2 ^ a0.toNat)) = ji18 := fun hle_ => by have h_ := hji18z hle_; rw [Int.one_mul] at h_; exact h_
      have hji18y : (wrap64 (1 * 2 ^ min a0.toNat 64)) = ji18 := (i64_w _).symm.trans hji18_
      have hji18x : a0 ≤ 64 → (wrap64 (1 * 2 ^ a0.toNat)) = ji18 := fun h_ => (i64_w _).symm.trans (hji18z h_)
      replace H := Option.bind_eq_some_iff.mp H
      obtain ⟨⟨t138, t139⟩, A190, H⟩ := H
      replace H : (some (t138, t139, 0)) = some (r1, r2, r3) := H
      have A19 := Aside0.mk A190
      clear A190
      as_aux_lemma =>
        simp only [Option.some.injEq, Prod.mk.injEq] at H
        obtain ⟨rfl, rfl, rfl⟩ := H
        go_wp2_with (first | ((with_reducible refine gate_callee (f := 64) rfl ?_); refine goesL_ (some 39) rfl rfl Try.func64 (by kernel_rfl) rfl #[.int .i64 x6_2, .int .i64 ji18] rfl (by (try simp only [List.map_toArray, List.map_cons, List.map_nil]); first | done | (simp only [hji18]; rfl) | rfl | (simp only [List.length_drop, List.length_take]; rfl)) ?_; (with_reducible refine (measure_reduce.calls k2 x6_2 ji18 t138 t139 _ A19.out).mono ?_); rintro e w20 ⟨rfl, hb⟩; refine ⟨_, rfl, ?_⟩; have n0_ := Aside0.mk (blk_below (g := gb135) (o := .cells #[.int .i64 0, .int .i64 0] 28 (0, 0)) q12x4_ hb); have n1_ := Aside0.mk (below_step q8x4_ hb); clear BK135; clear HB; have BK135 := n0_; have HB := n1_; clear n0_ n1_; (try clear hb); (try clear hb2); (try clear hk); (try clear hi); have hcz21_0 : w20.cell? ⟨gb135, 0, none⟩ = some (.int .i64 0) := (blk_cell BK135.out 0).trans rfl; have hcz21_1 : w20.cell? ⟨gb135, 1, none⟩ = some (.int .i64 0) := (blk_cell BK135.out 1).trans rfl; have hfz21_0 := blk_frozen BK135.out 0; have hfz21_1 := blk_frozen BK135.out 1))
        refine bodyPost_ret (results_ct rfl _ _ gb135 28 #[.int .i64 t138, .int .i64 t139] (0, 0) _ rfl (by (with_reducible repeat (first | refine blk_drewN ?_ _ | refine blk_drew ?_ | refine blk_alloc ?_ _)); refine blk_put (cs := #[.int .i64 t138, .int .i64 0]) ?_ 1 _ rfl; (with_reducible repeat (first | refine blk_drewN ?_ _ | refine blk_drew ?_ | refine blk_alloc ?_ _)); refine blk_put (cs := #[.int .i64 0, .int .i64 0]) ?_ 0 _ rfl; (with_reducible repeat (first | refine blk_drewN ?_ _ | refine blk_drew ?_ | refine blk_alloc ?_ _)); exact BK135.out) Try.underlying28 rfl (by kernel_rfl)) rfl ?_
        exact ⟨by first | rfl | (simp [errW_none, errW_some] <;> rfl) | (simp only [← hji18]; first | rfl | (simp [errW_none, errW_some] <;> rfl)) | (simp [*, errW_none, errW_some] <;> rfl), q8x4_⟩
    rw [if_neg c17] at H
    exact absurd H (by simp)

/-! ### measure_Reduce: function 17 -/
def measure_Reduce.j0 : Nat → Int → Int → Bool → Option (Int × Int × Int)
  | 0, _, _, _ => none
  | k + 1, x0, x1, x6 => if x6 = true then (some (0, 0, 1)) else (if x1 = 0 then (some (0, 0, 8)) else ((measure_reduce.f k x0 x1).bind fun bt145 => (some (bt145.1, bt145.2, 0))))
def measure_Reduce.f (k : Nat) (a0 : Int) (a1 : Int) : Option (Int × Int × Int) := (measure_within.f a0 (-4611686018427387904) 4611686018427387904).bind fun t143 => (if t143 = true then ((measure_within.f a1 (-4611686018427387904) 4611686018427387904).bind fun t144 => (measure_Reduce.j0 k a0 a1 (!t144))) else (measure_Reduce.j0 k a0 a1 true))
theorem measure_Reduce.mono_l : ∀ k, (∀ y0 y1 y2, LeO (measure_Reduce.j0 k y0 y1 y2) (measure_Reduce.j0 (k + 1) y0 y1 y2))
  | 0 => fun _ _ _ r h => by simp [measure_Reduce.j0] at h
  | k + 1 => by
    have ih0 := measure_Reduce.mono_l k
    · intro y0 y1 y2
      unfold measure_Reduce.j0
      repeat' first
      | (with_reducible exact ih0 _ _ _)
      | (with_reducible exact measure_reduce.mono _ _ _)
      | (with_reducible exact LeO.refl _)
      | (with_reducible exact LeO.none _)
      | (with_reducible refine LeO.ite ?_ ?_)
      | (with_reducible refine LeO.bind ?_ (fun _ => ?_))
      | exact ih0 _ _ _
      | exact measure_reduce.mono _ _ _
      | exact LeO.none _
      | refine LeO.ite ?_ ?_
      | refine LeO.bind ?_ (fun _ => ?_)
theorem measure_Reduce.mono : ∀ a0 a1 k, LeO (measure_Reduce.f k a0 a1) (measure_Reduce.f (k + 1) a0 a1) := by
  intro a0 a1 k
  have ih0 := measure_Reduce.mono_l k
  unfold measure_Reduce.f
  repeat' first
      | (with_reducible exact ih0 _ _ _)
      | (with_reducible exact measure_reduce.mono _ _ _)
      | (with_reducible exact LeO.refl _)
      | (with_reducible exact LeO.none _)
      | (with_reducible refine LeO.ite ?_ ?_)
      | (with_reducible refine LeO.bind ?_ (fun _ => ?_))
      | exact ih0 _ _ _
      | exact measure_reduce.mono _ _ _
      | exact LeO.none _
      | refine LeO.ite ?_ ?_
      | refine LeO.bind ?_ (fun _ => ?_)
set_option maxHeartbeats 8000000 in
set_option maxRecDepth 100000 in
theorem measure_Reduce.calls (k : Nat) (a0 : Int) (a1 : Int) (r1 : Int) (r2 : Int) (r3 : Int) (w : World) (h : measure_Reduce.f k a0 a1 = some (r1, r2, r3)) :
    Calls Try.prog 17 #[.int .i64 a0, .int .i64 a1] w fun e w' => e = .returned (.tuple #[.agg #[.int .i64 r1, .int .i64 r2], .int .i64 r3]) ∧ Below w.heap.size w w' := by
  have hu28 := Try.underlying28
  have HB := Aside0.mk (Below.refl w.heap.size w)
  have H : ((measure_within.f a0 (-4611686018427387904) 4611686018427387904).bind fun t143 => (if t143 = true then ((measure_within.f a1 (-4611686018427387904) 4611686018427387904).bind fun t144 => (measure_Reduce.j0 k a0 a1 (!t144))) else (measure_Reduce.j0 k a0 a1 true))) = some (r1, r2, r3) := h
  clear h
  have HC3 := Aside0.mk H
  clear H
  go_enter Try.func17, Try.ntmps17
  go_upto_region 1 with (first | ((with_reducible refine gate_dst (N := 4) rfl ?_); refine box_event ?hg (N := 4) ?hd (cs := #[.int .i64 0, .int .i64 0]) (t := 28) ?hr ?_; (case hd => rfl); (case hg => rfl); (case hr => first | (go_simp; done) | (go_simp; rfl)); intro gb142 hg w4 hbox hb; have n0_ := Aside0.mk (below_step q6x4_ hb); have n1_ := Aside0.mk (hbox); have n2_ := Aside0.mk ((by rw [hg]; exact (below_size q6x4_) : w.heap.size ≤ gb142)); have n3_ := Aside0.mk ((by rw [hg]; exact (below_size q6x4_) : w.heap.size ≤ gb142)); clear HB; have HB := n0_; have BK142 := n1_; have GW142 := n2_; have GE142 := n3_; clear n0_ n1_ n2_ n3_; clear hb hbox hg))
  (try simp only [Act.put, List.setIfInBounds_toArray, List.set_cons_zero, List.set_cons_succ])
  go_cut [6] (fun v6 wc => ∃ (kq : Nat) (x6_2 : Bool), v6 = .bool x6_2 ∧ Aside0 (measure_Reduce.j0 kq a0 a1 x6_2 = some (r1, r2, r3)) ∧ Aside0 (kq ≤ k) ∧ Aside0 (wc.heap[gb142]? = some (.cells #[.int .i64 0, .int .i64 0] 28 (0, 0))) ∧ Aside0 (Below w.heap.size w wc))
  case first =>
    have H := HC3.out
    clear HC3
    replace H := Option.bind_eq_some_iff.mp H
    obtain ⟨t143, A50, H⟩ := H
    replace H : (if t143 = true then ((measure_within.f a1 (-4611686018427387904) 4611686018427387904).bind fun t144 => (measure_Reduce.j0 k a0 a1 (!t144))) else (measure_Reduce.j0 k a0 a1 true)) = some (r1, r2, r3) := H
    have A5 := Aside0.mk A50
    clear A50
    by_cases c6 : t143 = true
    · subst c6
      have H1 : ((measure_within.f a1 (-4611686018427387904) 4611686018427387904).bind fun t144 => (measure_Reduce.j0 k a0 a1 (!t144))) = some (r1, r2, r3) := by rw [if_pos rfl] at H; exact H
      clear H
      have H := H1
      clear H1
      replace H := Option.bind_eq_some_iff.mp H
      obtain ⟨t144, A70, H⟩ := H
      replace H : (measure_Reduce.j0 k a0 a1 (!t144)) = some (r1, r2, r3) := H
      have A7 := Aside0.mk A70
      clear A70
      as_aux_lemma =>
        have H' := Aside0.mk H
        clear H
        go_wp2_with (first | ((with_reducible refine gate_callee (f := 65) rfl ?_); refine goesL_ (some 8) rfl rfl Try.func65 (by kernel_rfl) rfl #[.int .i64 a0, .int .i64 (-4611686018427387904), .int .i64 4611686018427387904] rfl q7x4_ ?_; (with_reducible refine (measure_within.calls a0 (-4611686018427387904) 4611686018427387904 true _ A5.out).mono ?_); rintro e w' ⟨rfl, ⟨nd, rfl⟩⟩; refine ⟨_, rfl, ?_⟩) | (go_at_call 65; (with_reducible refine (measure_within.calls a1 (-4611686018427387904) 4611686018427387904 t144 _ A7.out).mono ?_); rintro e w' ⟨rfl, ⟨nd, rfl⟩⟩))
        go_meet
        case rel => exact ⟨_, (!t144), q10x4_, H', ⟨q23x4_⟩, ⟨q20x4_⟩, ⟨q11x4_⟩⟩
    replace c6 := Bool.eq_false_iff.mpr c6
    subst c6
    have H1 : (measure_Reduce.j0 k a0 a1 true) = some (r1, r2, r3) := by rw [if_neg (show ¬ (false = true) by decide)] at H; exact H
    clear H
    have H := H1
    clear H1
    as_aux_lemma =>
      have H' := Aside0.mk H
      clear H
      go_wp2_with (first | ((with_reducible refine gate_callee (f := 65) rfl ?_); refine goesL_ (some 8) rfl rfl Try.func65 (by kernel_rfl) rfl #[.int .i64 a0, .int .i64 (-4611686018427387904), .int .i64 4611686018427387904] rfl q7x4_ ?_; (with_reducible refine (measure_within.calls a0 (-4611686018427387904) 4611686018427387904 false _ A5.out).mono ?_); rintro e w' ⟨rfl, ⟨nd, rfl⟩⟩; refine ⟨_, rfl, ?_⟩))
      go_meet
      case rel => exact ⟨_, (true), q10x4_, H', ⟨q23x4_⟩, ⟨q20x4_⟩, ⟨q11x4_⟩⟩
  clear HC3; (try clear c1); (try clear p2); (try clear c6)
  obtain ⟨kq, x6_2, rfl, HA, HJ2, BK142, HB⟩ := hcut
  rcases kq with _ | kj2
  · exact absurd HA.out (by simp [measure_Reduce.j0])
  have H := HA.out
  clear HA
  simp only [measure_Reduce.j0] at H
  by_cases c8 : x6_2 = true
  · subst c8
    have H1 : (some (0, 0, 1)) = some (r1, r2, r3) := by rw [if_pos rfl] at H; exact H
    clear H
    have H := H1
    clear H1
    as_aux_lemma =>
      simp only [Option.some.injEq, Prod.mk.injEq] at H
      obtain ⟨rfl, rfl, rfl⟩ := H
      have hcz9_0 : wc.cell? ⟨gb142, 0, none⟩ = some (.int .i64 0) := (blk_cell BK142.out 0).trans rfl
      have hcz9_1 : wc.cell? ⟨gb142, 1, none⟩ = some (.int .i64 0) := (blk_cell BK142.out 1).trans rfl
      have hfz9_0 := blk_frozen BK142.out 0
      have hfz9_1 := blk_frozen BK142.out 1
      go_wp2
      refine bodyPost_ret (results_ct rfl _ _ gb142 28 #[.int .i64 0, .int .i64 0] (0, 0) _ rfl q17x4_ Try.underlying28 rfl (by kernel_rfl)) rfl ?_
      exact ⟨q13x4_, q11x4_⟩
  replace c8 := Bool.eq_false_iff.mpr c8
  subst c8
  have H1 : (if a1 = 0 then (some (0, 0, 8)) else ((measure_reduce.f kj2 a0 a1).bind fun bt145 => (some (bt145.1, bt145.2, 0)))) = some (r1, r2, r3) := by rw [if_neg (show ¬ (false = true) by decide)] at H; exact H
  clear H
  have H := H1
  clear H1
  by_cases c10 : a1 = 0
  · rw [if_pos c10] at H
    have c10b0 : (a1 == 0) = true := beq_iff_eq.mpr c10
    have c10b1 : (a1 != 0) = false := bne_eq_false_iff_eq.mpr c10
    clear c10
    as_aux_lemma =>
      simp only [Option.some.injEq, Prod.mk.injEq] at H
      obtain ⟨rfl, rfl, rfl⟩ := H
      have hcz11_0 : wc.cell? ⟨gb142, 0, none⟩ = some (.int .i64 0) := (blk_cell BK142.out 0).trans rfl
      have hcz11_1 : wc.cell? ⟨gb142, 1, none⟩ = some (.int .i64 0) := (blk_cell BK142.out 1).trans rfl
      have hfz11_0 := blk_frozen BK142.out 0
      have hfz11_1 := blk_frozen BK142.out 1
      go_wp2
      refine bodyPost_ret (results_ct rfl _ _ gb142 28 #[.int .i64 0, .int .i64 0] (0, 0) _ rfl q17x4_ Try.underlying28 rfl (by kernel_rfl)) rfl ?_
      exact ⟨q13x4_, q11x4_⟩
  rw [if_neg c10] at H
  have c10b0 : (a1 == 0) = false := beq_eq_false_iff_ne.mpr c10
  have c10b1 : (a1 != 0) = true := bne_iff_ne.mpr c10
  replace H := Option.bind_eq_some_iff.mp H
  obtain ⟨⟨t145, t146⟩, A120, H⟩ := H
  replace H : (some (t145, t146, 0)) = some (r1, r2, r3) := H
  have A12 := Aside0.mk A120
  clear A120
  as_aux_lemma =>
    simp only [Option.some.injEq, Prod.mk.injEq] at H
    obtain ⟨rfl, rfl, rfl⟩ := H
    go_wp2_with (first | ((with_reducible refine gate_callee (f := 64) rfl ?_); refine goesL_ (some 22) rfl rfl Try.func64 (by kernel_rfl) rfl #[.int .i64 a0, .int .i64 a1] rfl q7x4_ ?_; (with_reducible refine (measure_reduce.calls kj2 a0 a1 t145 t146 _ A12.out).mono ?_); rintro e w13 ⟨rfl, hb⟩; refine ⟨_, rfl, ?_⟩; have n0_ := Aside0.mk (blk_below (g := gb142) (o := .cells #[.int .i64 0, .int .i64 0] 28 (0, 0)) q20x4_ hb); have n1_ := Aside0.mk (below_step q11x4_ hb); clear BK142; clear HB; have BK142 := n0_; have HB := n1_; clear n0_ n1_; (try clear hb); (try clear hb2); (try clear hk); (try clear hi); have hcz14_0 : w13.cell? ⟨gb142, 0, none⟩ = some (.int .i64 0) := (blk_cell BK142.out 0).trans rfl; have hcz14_1 : w13.cell? ⟨gb142, 1, none⟩ = some (.int .i64 0) := (blk_cell BK142.out 1).trans rfl; have hfz14_0 := blk_frozen BK142.out 0; have hfz14_1 := blk_frozen BK142.out 1))
    refine bodyPost_ret (results_ct rfl _ _ gb142 28 #[.int .i64 t145, .int .i64 t146] (0, 0) _ rfl (by (with_reducible repeat (first | refine blk_drewN ?_ _ | refine blk_drew ?_ | refine blk_alloc ?_ _)); refine blk_put (cs := #[.int .i64 t145, .int .i64 0]) ?_ 1 _ rfl; (with_reducible repeat (first | refine blk_drewN ?_ _ | refine blk_drew ?_ | refine blk_alloc ?_ _)); refine blk_put (cs := #[.int .i64 0, .int .i64 0]) ?_ 0 _ rfl; (with_reducible repeat (first | refine blk_drewN ?_ _ | refine blk_drew ?_ | refine blk_alloc ?_ _)); exact BK142.out) Try.underlying28 rfl (by kernel_rfl)) rfl ?_
    exact ⟨q13x4_, q11x4_⟩

/-! ### handlaw1_measures: function 22 -/
def handlaw1_measures.f (k : Nat)  : Option (Bool) := (measure_Reduce.f k 2 4).bind fun bt147 => (if bt147.2.2 = 0 then (some (bt147.1 == 1 && (bt147.2.1 == 2))) else (some false))
theorem handlaw1_measures.mono : ∀ k, LeO (handlaw1_measures.f k ) (handlaw1_measures.f (k + 1) ) := by
  intro  k
  unfold handlaw1_measures.f
  repeat' first
      | (with_reducible exact measure_Reduce.mono _ _ _)
      | (with_reducible exact LeO.refl _)
      | (with_reducible exact LeO.none _)
      | (with_reducible refine LeO.ite ?_ ?_)
      | (with_reducible refine LeO.bind ?_ (fun _ => ?_))
      | exact measure_Reduce.mono _ _ _
      | exact LeO.none _
      | refine LeO.ite ?_ ?_
      | refine LeO.bind ?_ (fun _ => ?_)
set_option maxHeartbeats 8000000 in
set_option maxRecDepth 100000 in
theorem handlaw1_measures.calls (k : Nat)  (r : Bool) (w : World) (h : handlaw1_measures.f k  = some r) :
    Calls Try.prog 22 #[] w fun e w' => e = .returned (.bool r) ∧ Below w.heap.size w w' := by
  have hu28 := Try.underlying28
  have HB := Aside0.mk (Below.refl w.heap.size w)
  have H : ((measure_Reduce.f k 2 4).bind fun bt147 => (if bt147.2.2 = 0 then (some (bt147.1 == 1 && (bt147.2.1 == 2))) else (some false))) = some r := h
  clear h
  replace H := Option.bind_eq_some_iff.mp H
  obtain ⟨⟨t147, t148, t149⟩, A10, H⟩ := H
  replace H : (if t149 = 0 then (some (t147 == 1 && (t148 == 2))) else (some false)) = some r := H
  have A1 := Aside0.mk A10
  clear A10
  by_cases c2 : t149 = 0
  · rw [if_pos c2] at H
    have c2b0 : (t149 == 0) = true := beq_iff_eq.mpr c2
    have c2b1 : (t149 != 0) = false := bne_eq_false_iff_eq.mpr c2
    clear c2
    as_aux_lemma =>
      obtain rfl := Option.some.inj H
      go_enter Try.func22, Try.ntmps22
      go_wp2_with (first | ((with_reducible refine gate_callee (f := 17) rfl ?_); refine goesL_ (some 4) rfl rfl Try.func17 (by kernel_rfl) rfl #[.int .i64 2, .int .i64 4] rfl q7x4_ ?_; (with_reducible refine (measure_Reduce.calls k 2 4 t147 t148 t149 _ A1.out).mono ?_); rintro e w3 ⟨rfl, hb⟩; refine ⟨_, rfl, ?_⟩; have n0_ := Aside0.mk (below_step q6x4_ hb); clear HB; have HB := n0_; clear n0_; (try clear hb); (try clear hb2); (try clear hk); (try clear hi)) | ((with_reducible refine gate_dst (N := 1) rfl ?_); refine box_event ?hg (N := 1) ?hd (cs := #[.int .i64 0, .int .i64 0]) (t := 28) ?hr ?_; (case hd => rfl); (case hg => rfl); (case hr => first | (go_simp; done) | (go_simp; rfl)); intro gb150 hg w4 hbox hb; have n0_ := Aside0.mk (below_step q6x4_ hb); have n1_ := Aside0.mk (hbox); have n2_ := Aside0.mk ((by rw [hg]; exact (below_size q6x4_) : w.heap.size ≤ gb150)); have n3_ := Aside0.mk ((by rw [hg]; exact (below_size q6x4_) : w.heap.size ≤ gb150)); clear HB; have HB := n0_; have BK150 := n1_; have GW150 := n2_; have GE150 := n3_; clear n0_ n1_ n2_ n3_; clear hb hbox hg; have hcz5_0 : w4.cell? ⟨gb150, 0, none⟩ = some (.int .i64 0) := (blk_cell BK150.out 0).trans rfl; have hcz5_1 : w4.cell? ⟨gb150, 1, none⟩ = some (.int .i64 0) := (blk_cell BK150.out 1).trans rfl; have hfz5_0 := blk_frozen BK150.out 0; have hfz5_1 := blk_frozen BK150.out 1))
      go_ret
      exact ⟨q13x4_, q22x4_⟩
  rw [if_neg c2] at H
  have c2b0 : (t149 == 0) = false := beq_eq_false_iff_ne.mpr c2
  have c2b1 : (t149 != 0) = true := bne_iff_ne.mpr c2
  as_aux_lemma =>
    obtain rfl := Option.some.inj H
    go_enter Try.func22, Try.ntmps22
    go_wp2_with (first | ((with_reducible refine gate_callee (f := 17) rfl ?_); refine goesL_ (some 4) rfl rfl Try.func17 (by kernel_rfl) rfl #[.int .i64 2, .int .i64 4] rfl q7x4_ ?_; (with_reducible refine (measure_Reduce.calls k 2 4 t147 t148 t149 _ A1.out).mono ?_); rintro e w6 ⟨rfl, hb⟩; refine ⟨_, rfl, ?_⟩; have n0_ := Aside0.mk (below_step q6x4_ hb); clear HB; have HB := n0_; clear n0_; (try clear hb); (try clear hb2); (try clear hk); (try clear hi)) | ((with_reducible refine gate_dst (N := 1) rfl ?_); refine box_event ?hg (N := 1) ?hd (cs := #[.int .i64 0, .int .i64 0]) (t := 28) ?hr ?_; (case hd => rfl); (case hg => rfl); (case hr => first | (go_simp; done) | (go_simp; rfl)); intro gb150 hg w7 hbox hb; have n0_ := Aside0.mk (below_step q6x4_ hb); have n1_ := Aside0.mk (hbox); have n2_ := Aside0.mk ((by rw [hg]; exact (below_size q6x4_) : w.heap.size ≤ gb150)); have n3_ := Aside0.mk ((by rw [hg]; exact (below_size q6x4_) : w.heap.size ≤ gb150)); clear HB; have HB := n0_; have BK150 := n1_; have GW150 := n2_; have GE150 := n3_; clear n0_ n1_ n2_ n3_; clear hb hbox hg; have hcz8_0 : w7.cell? ⟨gb150, 0, none⟩ = some (.int .i64 0) := (blk_cell BK150.out 0).trans rfl; have hcz8_1 : w7.cell? ⟨gb150, 1, none⟩ = some (.int .i64 0) := (blk_cell BK150.out 1).trans rfl; have hfz8_0 := blk_frozen BK150.out 0; have hfz8_1 := blk_frozen BK150.out 1))
    go_ret
    exact ⟨q13x4_, q22x4_⟩

end Go.Proofs.Ytihnjdhjkpmggaa.PTestsExact
