-- By a program of this session (an altered copy of the printer of the kit); Lean checks it.
import Derived.Test.YtihnjdhjkpmggaaPTestsExactx0
import Derived.Test.YtihnjdhjkpmggaaPTestsExactx4
import Derived.Test.YtihnjdhjkpmggaaPTestsExactx5
import Derived.Test.YtihnjdhjkpmggaaPTestsExactx6
namespace Go.Proofs.Ytihnjdhjkpmggaa.PTestsExact
open Go.RowKit Go.Proofs.YtihnjdhjkpmggaaW.PrintWords Go.Proofs.YtihnjdhjkpmggaaW.PrintLast Go.Proofs.YtihnjdhjkpmggaaW.PrintMore
attribute [local go_sem] max2_int min2_int max_two min_two max_three min_three max_four min_four   -- for this text's walks alone
set_option linter.unusedVariables false
set_option linter.unusedSimpArgs false
theorem q1x7_ {p : Prop} (h : p := by (try simp only [List.map_toArray, List.map_cons, List.map_nil]); first | done | rfl | (simp only [List.length_drop, List.length_take]; rfl)) : p := h
theorem q2x7_ {p : Prop} (h : p := by (with_reducible repeat (first | refine blk_drewN ?_ _ | refine blk_drew ?_ | refine blk_alloc ?_ _)); exact BK216.out) : p := h
theorem q3x7_ {p : Prop} (h : p := by (with_reducible repeat (first | refine blk_drewN ?_ _ | refine blk_drew ?_ | refine blk_alloc ?_ _)); exact BK217.out) : p := h
theorem q4x7_ {p : Prop} (h : p := by repeat (first | (with_reducible first | exact HB.out | apply below_alloc | apply pw_below_drewN | apply below_drew1 | refine below_set ?_ GE216.out | refine below_set ?_ GE217.out | refine below_set ?_ GE218.out | refine below_set ?_ GE219.out | refine below_set ?_ GE220.out) | exact HB.out)) : p := h
theorem q5x7_ {p : Prop} (h : p := by repeat (first | (with_reducible first | exact HB.out | apply below_alloc | apply pw_below_drewN | apply below_drew1) | exact HB.out)) : p := h
theorem q6x7_ {p : Prop} (h : p := by (with_reducible repeat (first | refine blk_drewN ?_ _ | refine blk_drew ?_ | refine blk_alloc ?_ _)); exact BK218.out) : p := h
theorem q7x7_ {p : Prop} (h : p := by repeat (first | (with_reducible first | exact HB.out | apply below_alloc | apply pw_below_drewN | apply below_drew1 | refine below_set ?_ GE243.out) | exact HB.out)) : p := h
theorem q8x7_ {p : Prop} (h : p := by first | rfl | (simp; done) | (simp [*]; done)) : p := h
theorem q9x7_ {p : Prop} (h : p := by (with_reducible repeat (first | refine blk_drewN ?_ _ | refine blk_drew ?_ | refine blk_alloc ?_ _)); exact BK219.out) : p := h
theorem q10x7_ {p : Prop} (h : p := by repeat (first | exact Drawn0.refl _ | apply Drawn0.step)) : p := h
theorem q11x7_ {p : Prop} (h : p := by (with_reducible repeat (first | refine blk_drewN ?_ _ | refine blk_drew ?_ | refine blk_alloc ?_ _)); refine blk_put (cs := #[.int .i64 t240, .int .i64 0]) ?_ 1 _ rfl; (with_reducible repeat (first | refine blk_drewN ?_ _ | refine blk_drew ?_ | refine blk_alloc ?_ _)); refine blk_put (cs := #[.int .i64 0, .int .i64 0]) ?_ 0 _ rfl; (with_reducible repeat (first | refine blk_drewN ?_ _ | refine blk_drew ?_ | refine blk_alloc ?_ _)); exact BK243.out) : p := h
theorem q12x7_ {p : Prop} (h : p := by first | rfl | (simp [errW_none, errW_some] <;> rfl) | (simp [*, errW_none, errW_some] <;> rfl)) : p := h
theorem q13x7_ {p : Prop} (h : p := by (with_reducible repeat (first | refine blk_drewN ?_ _ | refine blk_drew ?_ | refine blk_alloc ?_ _)); exact BK220.out) : p := h
theorem q14x7_ {p : Prop} (h : p := by repeat (first | (with_reducible first | exact HB.out | apply below_alloc | apply pw_below_drewN | apply below_drew1 | refine below_set ?_ GE216.out | refine below_set ?_ GE217.out | refine below_set ?_ GE218.out | refine below_set ?_ GE219.out) | exact HB.out)) : p := h
theorem q15x7_ {p : Prop} (h : p := by repeat (first | (with_reducible first | exact HB.out | apply below_alloc | apply pw_below_drewN | apply below_drew1 | refine below_set ?_ GE216.out | refine below_set ?_ GE217.out | refine below_set ?_ GE218.out) | exact HB.out)) : p := h
theorem q16x7_ {p : Prop} (h : p := by repeat (first | (with_reducible first | exact HB.out | apply below_alloc | apply pw_below_drewN | apply below_drew1 | refine below_set ?_ GE216.out | refine below_set ?_ GE217.out) | exact HB.out)) : p := h
theorem q17x7_ {p : Prop} (h : p := by repeat (first | (with_reducible first | exact HB.out | apply below_alloc | apply pw_below_drewN | apply below_drew1 | refine below_set ?_ GE216.out) | exact HB.out)) : p := h
theorem q18x7_ {p : Prop} (h : p := by kernel_rfl) : p := h
theorem q19x7_ {p : Prop} (h : p := by first | (with_reducible assumption) | assumption) : p := h

/-! ### handref1_ExactOf: function 36 -/
def handref1_ExactOf.l0 : Nat → Int → Int → Int → Int → Int → Int → Int → Int → Option (Int × Int)
  | 0, _, _, _, _, _, _, _, _ => none
  | k + 1, x10, x11, x18, x19, x217000, x218000, x219000, x220000 => if x19 < x18 then ((handref1_ExactOf_1.f k x19 x217000 x219000 x218000 x220000).bind fun t223 => ((handref1_ExactOf_1.f k x217000 x217000 x219000 x218000 x220000).bind fun t224 => (if t223 ≤ t224 then (handref1_ExactOf.l0 k (wrap64 (x10 + t223)) (wrap64 (x11 + t223)) x18 (wrap64 (x19 + 1)) x217000 x218000 x219000 x220000) else (handref1_ExactOf.l0 k x10 (wrap64 (x11 + t223)) x18 (wrap64 (x19 + 1)) x217000 x218000 x219000 x220000)))) else ((handref1_reduced.f k x10 x11).bind fun bt221 => (some (bt221.1, bt221.2)))
def handref1_ExactOf.f (k : Nat) (a0 : Int) (a1 : Int) (a2 : Int) (a3 : Int) : Option (Int × Int) := handref1_ExactOf.l0 k 0 0 (wrap64 ((wrap64 (a0 + a2)) + 1)) 0 a0 a1 a2 a3
theorem handref1_ExactOf.mono_l : ∀ k, (∀ y0 y1 y2 y3 y4 y5 y6 y7, LeO (handref1_ExactOf.l0 k y0 y1 y2 y3 y4 y5 y6 y7) (handref1_ExactOf.l0 (k + 1) y0 y1 y2 y3 y4 y5 y6 y7))
  | 0 => fun _ _ _ _ _ _ _ _ r h => by simp [handref1_ExactOf.l0] at h
  | k + 1 => by
    have ih0 := handref1_ExactOf.mono_l k
    · intro y0 y1 y2 y3 y4 y5 y6 y7
      unfold handref1_ExactOf.l0
      repeat' first
      | (with_reducible exact ih0 _ _ _ _ _ _ _ _)
      | (with_reducible exact handref1_ExactOf_1.mono _ _ _ _ _ _)
      | (with_reducible exact handref1_reduced.mono _ _ _)
      | (with_reducible exact LeO.refl _)
      | (with_reducible exact LeO.none _)
      | (with_reducible refine LeO.ite ?_ ?_)
      | (with_reducible refine LeO.bind ?_ (fun _ => ?_))
      | exact ih0 _ _ _ _ _ _ _ _
      | exact handref1_ExactOf_1.mono _ _ _ _ _ _
      | exact handref1_reduced.mono _ _ _
      | exact LeO.none _
      | refine LeO.ite ?_ ?_
      | refine LeO.bind ?_ (fun _ => ?_)
theorem handref1_ExactOf.mono : ∀ a0 a1 a2 a3 k, LeO (handref1_ExactOf.f k a0 a1 a2 a3) (handref1_ExactOf.f (k + 1) a0 a1 a2 a3) := by
  intro a0 a1 a2 a3 k
  have ih0 := handref1_ExactOf.mono_l k
  unfold handref1_ExactOf.f
  repeat' first
      | (with_reducible exact ih0 _ _ _ _ _ _ _ _)
      | (with_reducible exact handref1_ExactOf_1.mono _ _ _ _ _ _)
      | (with_reducible exact handref1_reduced.mono _ _ _)
      | (with_reducible exact LeO.refl _)
      | (with_reducible exact LeO.none _)
      | (with_reducible refine LeO.ite ?_ ?_)
      | (with_reducible refine LeO.bind ?_ (fun _ => ?_))
      | exact ih0 _ _ _ _ _ _ _ _
      | exact handref1_ExactOf_1.mono _ _ _ _ _ _
      | exact handref1_reduced.mono _ _ _
      | exact LeO.none _
      | refine LeO.ite ?_ ?_
      | refine LeO.bind ?_ (fun _ => ?_)
set_option maxHeartbeats 8000000 in
set_option maxRecDepth 100000 in
theorem handref1_ExactOf.calls (k : Nat) (a0 : Int) (a1 : Int) (a2 : Int) (a3 : Int) (r1 : Int) (r2 : Int) (w : World) (h : handref1_ExactOf.f k a0 a1 a2 a3 = some (r1, r2)) :
    Calls Try.prog 36 #[.int .i64 a0, .int .i64 a1, .int .i64 a2, .int .i64 a3] w fun e w' => e = .returned (.agg #[.int .i64 r1, .int .i64 r2]) ∧ Below w.heap.size w w' := by
  have hu3 := Try.underlying3
  have hu28 := Try.underlying28
  have HB := Aside0.mk (Below.refl w.heap.size w)
  have H : (handref1_ExactOf.l0 k 0 0 (wrap64 ((wrap64 (a0 + a2)) + 1)) 0 a0 a1 a2 a3) = some (r1, r2) := h
  clear h
  have H' := Aside0.mk H
  clear H
  go_enter Try.func36, Try.ntmps36
  go_wp2_with (first | ((with_reducible refine gate_dst (N := 4) rfl ?_); refine box_event ?hg (N := 4) ?hd (cs := #[.int .i64 a0]) (t := 3) ?hr ?_; (case hd => rfl); (case hg => rfl); (case hr => first | (go_simp; done) | (go_simp; rfl)); intro gb216 hg w5 hbox hb; have n0_ := Aside0.mk (below_step q5x7_ hb); have n1_ := Aside0.mk (hbox); have n2_ := Aside0.mk ((by rw [hg]; exact (below_size q5x7_) : w.heap.size ≤ gb216)); have n3_ := Aside0.mk ((by rw [hg]; exact (below_size q5x7_) : w.heap.size ≤ gb216)); clear HB; have HB := n0_; have BK216 := n1_; have GW216 := n2_; have GE216 := n3_; clear n0_ n1_ n2_ n3_; clear hb hbox hg) | ((with_reducible refine gate_dst (N := 5) rfl ?_); refine box_event ?hg (N := 5) ?hd (cs := #[.int .i64 a1]) (t := 3) ?hr ?_; (case hd => rfl); (case hg => rfl); (case hr => first | (go_simp; done) | (go_simp; rfl)); intro gb217 hg w6 hbox hb; have n0_ := Aside0.mk (blk_below (g := gb216) (o := .cells #[.int .i64 a0] 3 (0, 0)) q2x7_ hb); have n1_ := Aside0.mk (below_step q17x7_ hb); have n2_ := Aside0.mk (hbox); have n3_ := Aside0.mk ((by rw [hg]; exact (below_size q17x7_) : w.heap.size ≤ gb217)); have n4_ := Aside0.mk ((by rw [hg]; exact (below_size q17x7_) : w.heap.size ≤ gb217)); have n5_ := Aside0.mk ((by rw [hg]; exact Nat.ne_of_lt (blk_lt (g := gb216) (o := .cells #[.int .i64 a0] 3 (0, 0)) q2x7_) : gb216 ≠ gb217)); have n6_ := Aside0.mk ((by rw [hg]; exact Nat.ne_of_gt (blk_lt (g := gb216) (o := .cells #[.int .i64 a0] 3 (0, 0)) q2x7_) : gb217 ≠ gb216)); clear BK216; clear HB; have BK216 := n0_; have HB := n1_; have BK217 := n2_; have GW217 := n3_; have GE217 := n4_; have NB216_217 := n5_; have NB217_216 := n6_; clear n0_ n1_ n2_ n3_ n4_ n5_ n6_; clear hb hbox hg) | ((with_reducible refine gate_dst (N := 6) rfl ?_); refine box_event ?hg (N := 6) ?hd (cs := #[.int .i64 a2]) (t := 3) ?hr ?_; (case hd => rfl); (case hg => rfl); (case hr => first | (go_simp; done) | (go_simp; rfl)); intro gb218 hg w7 hbox hb; have n0_ := Aside0.mk (blk_below (g := gb216) (o := .cells #[.int .i64 a0] 3 (0, 0)) q2x7_ hb); have n1_ := Aside0.mk (blk_below (g := gb217) (o := .cells #[.int .i64 a1] 3 (0, 0)) q3x7_ hb); have n2_ := Aside0.mk (below_step q16x7_ hb); have n3_ := Aside0.mk (hbox); have n4_ := Aside0.mk ((by rw [hg]; exact (below_size q16x7_) : w.heap.size ≤ gb218)); have n5_ := Aside0.mk ((by rw [hg]; exact (below_size q16x7_) : w.heap.size ≤ gb218)); have n6_ := Aside0.mk ((by rw [hg]; exact Nat.ne_of_lt (blk_lt (g := gb216) (o := .cells #[.int .i64 a0] 3 (0, 0)) q2x7_) : gb216 ≠ gb218)); have n7_ := Aside0.mk ((by rw [hg]; exact Nat.ne_of_gt (blk_lt (g := gb216) (o := .cells #[.int .i64 a0] 3 (0, 0)) q2x7_) : gb218 ≠ gb216)); have n8_ := Aside0.mk ((by rw [hg]; exact Nat.ne_of_lt (blk_lt (g := gb217) (o := .cells #[.int .i64 a1] 3 (0, 0)) q3x7_) : gb217 ≠ gb218)); have n9_ := Aside0.mk ((by rw [hg]; exact Nat.ne_of_gt (blk_lt (g := gb217) (o := .cells #[.int .i64 a1] 3 (0, 0)) q3x7_) : gb218 ≠ gb217)); clear BK216; clear BK217; clear HB; have BK216 := n0_; have BK217 := n1_; have HB := n2_; have BK218 := n3_; have GW218 := n4_; have GE218 := n5_; have NB216_218 := n6_; have NB218_216 := n7_; have NB217_218 := n8_; have NB218_217 := n9_; clear n0_ n1_ n2_ n3_ n4_ n5_ n6_ n7_ n8_ n9_; clear hb hbox hg) | ((with_reducible refine gate_dst (N := 7) rfl ?_); refine box_event ?hg (N := 7) ?hd (cs := #[.int .i64 a3]) (t := 3) ?hr ?_; (case hd => rfl); (case hg => rfl); (case hr => first | (go_simp; done) | (go_simp; rfl)); intro gb219 hg w8 hbox hb; have n0_ := Aside0.mk (blk_below (g := gb216) (o := .cells #[.int .i64 a0] 3 (0, 0)) q2x7_ hb); have n1_ := Aside0.mk (blk_below (g := gb217) (o := .cells #[.int .i64 a1] 3 (0, 0)) q3x7_ hb); have n2_ := Aside0.mk (blk_below (g := gb218) (o := .cells #[.int .i64 a2] 3 (0, 0)) q6x7_ hb); have n3_ := Aside0.mk (below_step q15x7_ hb); have n4_ := Aside0.mk (hbox); have n5_ := Aside0.mk ((by rw [hg]; exact (below_size q15x7_) : w.heap.size ≤ gb219)); have n6_ := Aside0.mk ((by rw [hg]; exact (below_size q15x7_) : w.heap.size ≤ gb219)); have n7_ := Aside0.mk ((by rw [hg]; exact Nat.ne_of_lt (blk_lt (g := gb216) (o := .cells #[.int .i64 a0] 3 (0, 0)) q2x7_) : gb216 ≠ gb219)); have n8_ := Aside0.mk ((by rw [hg]; exact Nat.ne_of_gt (blk_lt (g := gb216) (o := .cells #[.int .i64 a0] 3 (0, 0)) q2x7_) : gb219 ≠ gb216)); have n9_ := Aside0.mk ((by rw [hg]; exact Nat.ne_of_lt (blk_lt (g := gb217) (o := .cells #[.int .i64 a1] 3 (0, 0)) q3x7_) : gb217 ≠ gb219)); have n10_ := Aside0.mk ((by rw [hg]; exact Nat.ne_of_gt (blk_lt (g := gb217) (o := .cells #[.int .i64 a1] 3 (0, 0)) q3x7_) : gb219 ≠ gb217)); have n11_ := Aside0.mk ((by rw [hg]; exact Nat.ne_of_lt (blk_lt (g := gb218) (o := .cells #[.int .i64 a2] 3 (0, 0)) q6x7_) : gb218 ≠ gb219)); have n12_ := Aside0.mk ((by rw [hg]; exact Nat.ne_of_gt (blk_lt (g := gb218) (o := .cells #[.int .i64 a2] 3 (0, 0)) q6x7_) : gb219 ≠ gb218)); clear BK216; clear BK217; clear BK218; clear HB; have BK216 := n0_; have BK217 := n1_; have BK218 := n2_; have HB := n3_; have BK219 := n4_; have GW219 := n5_; have GE219 := n6_; have NB216_219 := n7_; have NB219_216 := n8_; have NB217_219 := n9_; have NB219_217 := n10_; have NB218_219 := n11_; have NB219_218 := n12_; clear n0_ n1_ n2_ n3_ n4_ n5_ n6_ n7_ n8_ n9_ n10_ n11_ n12_; clear hb hbox hg) | ((with_reducible refine gate_dst (N := 8) rfl ?_); refine box_event ?hg (N := 8) ?hd (cs := #[.int .i64 0, .int .i64 0]) (t := 28) ?hr ?_; (case hd => rfl); (case hg => rfl); (case hr => first | (go_simp; done) | (go_simp; rfl)); intro gb220 hg w9 hbox hb; have n0_ := Aside0.mk (blk_below (g := gb216) (o := .cells #[.int .i64 a0] 3 (0, 0)) q2x7_ hb); have n1_ := Aside0.mk (blk_below (g := gb217) (o := .cells #[.int .i64 a1] 3 (0, 0)) q3x7_ hb); have n2_ := Aside0.mk (blk_below (g := gb218) (o := .cells #[.int .i64 a2] 3 (0, 0)) q6x7_ hb); have n3_ := Aside0.mk (blk_below (g := gb219) (o := .cells #[.int .i64 a3] 3 (0, 0)) q9x7_ hb); have n4_ := Aside0.mk (below_step q14x7_ hb); have n5_ := Aside0.mk (hbox); have n6_ := Aside0.mk ((by rw [hg]; exact (below_size q14x7_) : w.heap.size ≤ gb220)); have n7_ := Aside0.mk ((by rw [hg]; exact (below_size q14x7_) : w.heap.size ≤ gb220)); have n8_ := Aside0.mk ((by rw [hg]; exact Nat.ne_of_lt (blk_lt (g := gb216) (o := .cells #[.int .i64 a0] 3 (0, 0)) q2x7_) : gb216 ≠ gb220)); have n9_ := Aside0.mk ((by rw [hg]; exact Nat.ne_of_gt (blk_lt (g := gb216) (o := .cells #[.int .i64 a0] 3 (0, 0)) q2x7_) : gb220 ≠ gb216)); have n10_ := Aside0.mk ((by rw [hg]; exact Nat.ne_of_lt (blk_lt (g := gb217) (o := .cells #[.int .i64 a1] 3 (0, 0)) q3x7_) : gb217 ≠ gb220)); have n11_ := Aside0.mk ((by rw [hg]; exact Nat.ne_of_gt (blk_lt (g := gb217) (o := .cells #[.int .i64 a1] 3 (0, 0)) q3x7_) : gb220 ≠ gb217)); have n12_ := Aside0.mk ((by rw [hg]; exact Nat.ne_of_lt (blk_lt (g := gb218) (o := .cells #[.int .i64 a2] 3 (0, 0)) q6x7_) : gb218 ≠ gb220)); have n13_ := Aside0.mk ((by rw [hg]; exact Nat.ne_of_gt (blk_lt (g := gb218) (o := .cells #[.int .i64 a2] 3 (0, 0)) q6x7_) : gb220 ≠ gb218)); have n14_ := Aside0.mk ((by rw [hg]; exact Nat.ne_of_lt (blk_lt (g := gb219) (o := .cells #[.int .i64 a3] 3 (0, 0)) q9x7_) : gb219 ≠ gb220)); have n15_ := Aside0.mk ((by rw [hg]; exact Nat.ne_of_gt (blk_lt (g := gb219) (o := .cells #[.int .i64 a3] 3 (0, 0)) q9x7_) : gb220 ≠ gb219)); clear BK216; clear BK217; clear BK218; clear BK219; clear HB; have BK216 := n0_; have BK217 := n1_; have BK218 := n2_; have BK219 := n3_; have HB := n4_; have BK220 := n5_; have GW220 := n6_; have GE220 := n7_; have NB216_220 := n8_; have NB220_216 := n9_; have NB217_220 := n10_; have NB220_217 := n11_; have NB218_220 := n12_; have NB220_218 := n13_; have NB219_220 := n14_; have NB220_219 := n15_; clear n0_ n1_ n2_ n3_ n4_ n5_ n6_ n7_ n8_ n9_ n10_ n11_ n12_ n13_ n14_ n15_; clear hb hbox hg; have hnb10 := NB216_217.out; have hnc10 := NB217_216.out; have hnb11 := NB216_218.out; have hnc11 := NB218_216.out; have hnb12 := NB216_219.out; have hnc12 := NB219_216.out; have hnb13 := NB216_220.out; have hnc13 := NB220_216.out; have hcz14_0 : w9.cell? ⟨gb216, 0, none⟩ = some (.int .i64 a0) := (blk_cell BK216.out 0).trans rfl; have hfz14_0 := blk_frozen BK216.out 0; have hnb15 := NB218_217.out; have hnc15 := NB217_218.out; have hnb16 := NB218_219.out; have hnc16 := NB219_218.out; have hnb17 := NB218_220.out; have hnc17 := NB220_218.out; have hcz18_0 : w9.cell? ⟨gb218, 0, none⟩ = some (.int .i64 a2) := (blk_cell BK218.out 0).trans rfl; have hfz18_0 := blk_frozen BK218.out 0))
  go_loopg [10, 11, 19] k (fun kq v10 v11 v19 w' => ∃ (x10_1 : Int) (x11_1 : Int) (x19_1 : Int), v10 = .int .i64 x10_1 ∧ v11 = .int .i64 x11_1 ∧ v19 = .int .i64 x19_1 ∧ Aside0 (handref1_ExactOf.l0 kq x10_1 x11_1 (wrap64 ((wrap64 (a0 + a2)) + 1)) x19_1 a0 a1 a2 a3 = some (r1, r2)) ∧ Aside0 (kq ≤ k) ∧ Aside0 (w'.heap[gb216]? = some (.cells #[.int .i64 a0] 3 (0, 0))) ∧ Aside0 (w'.heap[gb217]? = some (.cells #[.int .i64 a1] 3 (0, 0))) ∧ Aside0 (w'.heap[gb218]? = some (.cells #[.int .i64 a2] 3 (0, 0))) ∧ Aside0 (w'.heap[gb219]? = some (.cells #[.int .i64 a3] 3 (0, 0))) ∧ Aside0 (w'.heap[gb220]? = some (.cells #[.int .i64 0, .int .i64 0] 28 (0, 0))) ∧ Aside0 (Below w.heap.size w w'))
  case atStart => exact ⟨(0), (0), (0), q8x7_, q8x7_, q8x7_, H', ⟨Nat.le_refl _⟩, ⟨q2x7_⟩, ⟨q3x7_⟩, ⟨q6x7_⟩, ⟨q9x7_⟩, ⟨q13x7_⟩, ⟨q4x7_⟩⟩
  case round =>
    clear H'
    (try clear c1); (try clear p2); (try clear c3); (try clear p6); (try clear c10); (try clear c11); (try clear c12); (try clear c13); (try clear c15); (try clear c16); (try clear c17); (try clear hcz14_0); (try clear hcz18_0); (try clear hfz14_0); (try clear hfz18_0)
    obtain ⟨x10_1, x11_1, x19_1, rfl, rfl, rfl, HA, HK1, BK216, BK217, BK218, BK219, BK220, HB⟩ := hrel
    rcases gk with _ | k1
    · exact absurd HA.out (by simp [handref1_ExactOf.l0])
    have H := HA.out
    clear HA
    simp only [handref1_ExactOf.l0] at H
    by_cases c19 : x19_1 < (wrap64 ((wrap64 (a0 + a2)) + 1))
    · rw [if_pos c19] at H
      have c19b0 : decide (x19_1 < (wrap64 ((wrap64 (a0 + a2)) + 1))) = true := decide_eq_true c19
      clear c19
      replace H := Option.bind_eq_some_iff.mp H
      obtain ⟨t223, A200, H⟩ := H
      replace H : ((handref1_ExactOf_1.f k1 a0 a0 a2 a1 a3).bind fun t224 => (if t223 ≤ t224 then (handref1_ExactOf.l0 k1 (wrap64 (x10_1 + t223)) (wrap64 (x11_1 + t223)) (wrap64 ((wrap64 (a0 + a2)) + 1)) (wrap64 (x19_1 + 1)) a0 a1 a2 a3) else (handref1_ExactOf.l0 k1 x10_1 (wrap64 (x11_1 + t223)) (wrap64 ((wrap64 (a0 + a2)) + 1)) (wrap64 (x19_1 + 1)) a0 a1 a2 a3))) = some (r1, r2) := H
      have A20 := Aside0.mk A200
      clear A200
      replace H := Option.bind_eq_some_iff.mp H
      obtain ⟨t224, A210, H⟩ := H
      replace H : (if t223 ≤ t224 then (handref1_ExactOf.l0 k1 (wrap64 (x10_1 + t223)) (wrap64 (x11_1 + t223)) (wrap64 ((wrap64 (a0 + a2)) + 1)) (wrap64 (x19_1 + 1)) a0 a1 a2 a3) else (handref1_ExactOf.l0 k1 x10_1 (wrap64 (x11_1 + t223)) (wrap64 ((wrap64 (a0 + a2)) + 1)) (wrap64 (x19_1 + 1)) a0 a1 a2 a3)) = some (r1, r2) := H
      have A21 := Aside0.mk A210
      clear A210
      have HC22 := Aside0.mk H
      clear H
      go_upto_if 32 with (first | (go_at_call 80; (with_reducible refine (handref1_ExactOf_1.calls k1 x19_1 gb216 a0 gb218 a2 gb217 a1 gb219 a3 t223 _ ?side1 ?side2 ?side3 ?side4 A20.out).mono ?_); (case side1 => exact q2x7_); (case side2 => exact q6x7_); (case side3 => exact q3x7_); (case side4 => exact q9x7_); rintro e w23 ⟨rfl, hb⟩; have n0_ := Aside0.mk (blk_below (g := gb216) (o := .cells #[.int .i64 a0] 3 (0, 0)) q2x7_ hb); have n1_ := Aside0.mk (blk_below (g := gb217) (o := .cells #[.int .i64 a1] 3 (0, 0)) q3x7_ hb); have n2_ := Aside0.mk (blk_below (g := gb218) (o := .cells #[.int .i64 a2] 3 (0, 0)) q6x7_ hb); have n3_ := Aside0.mk (blk_below (g := gb219) (o := .cells #[.int .i64 a3] 3 (0, 0)) q9x7_ hb); have n4_ := Aside0.mk (blk_below (g := gb220) (o := .cells #[.int .i64 0, .int .i64 0] 28 (0, 0)) q13x7_ hb); have n5_ := Aside0.mk (below_step q4x7_ hb); clear BK216; clear BK217; clear BK218; clear BK219; clear BK220; clear HB; have BK216 := n0_; have BK217 := n1_; have BK218 := n2_; have BK219 := n3_; have BK220 := n4_; have HB := n5_; clear n0_ n1_ n2_ n3_ n4_ n5_; (try clear hb); (try clear hb2); (try clear hk); (try clear hi); have hnb24 := NB216_217.out; have hnc24 := NB217_216.out; have hnb25 := NB216_218.out; have hnc25 := NB218_216.out; have hnb26 := NB216_219.out; have hnc26 := NB219_216.out; have hnb27 := NB216_220.out; have hnc27 := NB220_216.out; have hcz28_0 : w23.cell? ⟨gb216, 0, none⟩ = some (.int .i64 a0) := (blk_cell BK216.out 0).trans rfl; have hfz28_0 := blk_frozen BK216.out 0) | (go_at_call 80; (with_reducible refine (handref1_ExactOf_1.calls k1 a0 gb216 a0 gb218 a2 gb217 a1 gb219 a3 t224 _ ?side1 ?side2 ?side3 ?side4 A21.out).mono ?_); (case side1 => exact q2x7_); (case side2 => exact q6x7_); (case side3 => exact q3x7_); (case side4 => exact q9x7_); rintro e w29 ⟨rfl, hb⟩; have n0_ := Aside0.mk (blk_below (g := gb216) (o := .cells #[.int .i64 a0] 3 (0, 0)) q2x7_ hb); have n1_ := Aside0.mk (blk_below (g := gb217) (o := .cells #[.int .i64 a1] 3 (0, 0)) q3x7_ hb); have n2_ := Aside0.mk (blk_below (g := gb218) (o := .cells #[.int .i64 a2] 3 (0, 0)) q6x7_ hb); have n3_ := Aside0.mk (blk_below (g := gb219) (o := .cells #[.int .i64 a3] 3 (0, 0)) q9x7_ hb); have n4_ := Aside0.mk (blk_below (g := gb220) (o := .cells #[.int .i64 0, .int .i64 0] 28 (0, 0)) q13x7_ hb); have n5_ := Aside0.mk (below_step q4x7_ hb); clear BK216; clear BK217; clear BK218; clear BK219; clear BK220; clear HB; have BK216 := n0_; have BK217 := n1_; have BK218 := n2_; have BK219 := n3_; have BK220 := n4_; have HB := n5_; clear n0_ n1_ n2_ n3_ n4_ n5_; (try clear hb); (try clear hb2); (try clear hk); (try clear hi)))
      (try simp only [Act.put, List.setIfInBounds_toArray, List.set_cons_zero, List.set_cons_succ])
      have H := HC22.out
      clear HC22
      by_cases c30 : t223 ≤ t224
      · rw [if_pos c30] at H
        have c30b0 : decide (t223 ≤ t224) = true := decide_eq_true c30
        clear c30
        (first | rw [c30b0] | (simp only [i64_w, i32_w]; rw [c30b0]) | skip)
        as_aux_lemma =>
          have H' := Aside0.mk H
          clear H
          go_wp2
          go_roundg k1
          case measure => have := HK1.out; omega
          case rel => exact ⟨(wrap64 (x10_1 + t223)), (wrap64 (x11_1 + t223)), (wrap64 (x19_1 + 1)), q8x7_, q8x7_, q8x7_, H', ⟨by have := HK1.out; omega⟩, ⟨q2x7_⟩, ⟨q3x7_⟩, ⟨q6x7_⟩, ⟨q9x7_⟩, ⟨q13x7_⟩, ⟨q4x7_⟩⟩
      rw [if_neg c30] at H
      have c30b0 : decide (t223 ≤ t224) = false := decide_eq_false c30
      clear c30
      (first | rw [c30b0] | (simp only [i64_w, i32_w]; rw [c30b0]) | skip)
      as_aux_lemma =>
        have H' := Aside0.mk H
        clear H
        go_wp2
        go_roundg k1
        case measure => have := HK1.out; omega
        case rel => exact ⟨(x10_1), (wrap64 (x11_1 + t223)), (wrap64 (x19_1 + 1)), q8x7_, q8x7_, q8x7_, H', ⟨by have := HK1.out; omega⟩, ⟨q2x7_⟩, ⟨q3x7_⟩, ⟨q6x7_⟩, ⟨q9x7_⟩, ⟨q13x7_⟩, ⟨q4x7_⟩⟩
    rw [if_neg c19] at H
    have c19b0 : decide (x19_1 < (wrap64 ((wrap64 (a0 + a2)) + 1))) = false := decide_eq_false c19
    clear c19
    replace H := Option.bind_eq_some_iff.mp H
    obtain ⟨⟨t221, t222⟩, A310, H⟩ := H
    replace H : (some (t221, t222)) = some (r1, r2) := H
    have A31 := Aside0.mk A310
    clear A310
    as_aux_lemma =>
      simp only [Option.some.injEq, Prod.mk.injEq] at H
      obtain ⟨rfl, rfl⟩ := H
      go_wp2_with (first | ((with_reducible refine gate_callee (f := 66) rfl ?_); refine goesL_ (some 39) rfl rfl Try.func66 q18x7_ rfl #[.int .i64 x10_1, .int .i64 x11_1] rfl q1x7_ ?_; (with_reducible refine (handref1_reduced.calls k1 x10_1 x11_1 t221 t222 _ A31.out).mono ?_); rintro e w32 ⟨rfl, hb⟩; refine ⟨_, rfl, ?_⟩; have n0_ := Aside0.mk (blk_below (g := gb216) (o := .cells #[.int .i64 a0] 3 (0, 0)) q2x7_ hb); have n1_ := Aside0.mk (blk_below (g := gb217) (o := .cells #[.int .i64 a1] 3 (0, 0)) q3x7_ hb); have n2_ := Aside0.mk (blk_below (g := gb218) (o := .cells #[.int .i64 a2] 3 (0, 0)) q6x7_ hb); have n3_ := Aside0.mk (blk_below (g := gb219) (o := .cells #[.int .i64 a3] 3 (0, 0)) q9x7_ hb); have n4_ := Aside0.mk (blk_below (g := gb220) (o := .cells #[.int .i64 0, .int .i64 0] 28 (0, 0)) q13x7_ hb); have n5_ := Aside0.mk (below_step q4x7_ hb); clear BK216; clear BK217; clear BK218; clear BK219; clear BK220; clear HB; have BK216 := n0_; have BK217 := n1_; have BK218 := n2_; have BK219 := n3_; have BK220 := n4_; have HB := n5_; clear n0_ n1_ n2_ n3_ n4_ n5_; (try clear hb); (try clear hb2); (try clear hk); (try clear hi); have hnb33 := NB220_216.out; have hnc33 := NB216_220.out; have hnb34 := NB220_217.out; have hnc34 := NB217_220.out; have hnb35 := NB220_218.out; have hnc35 := NB218_220.out; have hnb36 := NB220_219.out; have hnc36 := NB219_220.out; have hcz37_0 : w32.cell? ⟨gb220, 0, none⟩ = some (.int .i64 0) := (blk_cell BK220.out 0).trans rfl; have hcz37_1 : w32.cell? ⟨gb220, 1, none⟩ = some (.int .i64 0) := (blk_cell BK220.out 1).trans rfl; have hfz37_0 := blk_frozen BK220.out 0; have hfz37_1 := blk_frozen BK220.out 1))
      refine bodyPost_ret (results_cell_row rfl _ _ gb220 28 #[.int .i64 t221, .int .i64 t222] (0, 0) _ rfl (by (with_reducible repeat (first | refine blk_drewN ?_ _ | refine blk_drew ?_ | refine blk_alloc ?_ _)); refine blk_put (cs := #[.int .i64 t221, .int .i64 0]) ?_ 1 _ rfl; (with_reducible repeat (first | refine blk_drewN ?_ _ | refine blk_drew ?_ | refine blk_alloc ?_ _)); refine blk_put (cs := #[.int .i64 0, .int .i64 0]) ?_ 0 _ rfl; (with_reducible repeat (first | refine blk_drewN ?_ _ | refine blk_drew ?_ | refine blk_alloc ?_ _)); exact BK220.out) Try.underlying28 rfl q18x7_) rfl ?_
      exact ⟨q12x7_, q4x7_⟩

/-! ### cmp_isNaN_int: function 111 -/
def cmp_isNaN_int.f (a0 : Int) : Option (Bool) := some (a0 != a0)
set_option maxHeartbeats 8000000 in
set_option maxRecDepth 100000 in
theorem cmp_isNaN_int.calls (a0 : Int) (r : Bool) (w : World) (h : cmp_isNaN_int.f a0 = some r) :
    Calls Try.prog 111 #[.int .i64 a0] w fun e w' => e = .returned (.bool r) ∧ Drawn0 w w' := by
  have H : (some (a0 != a0)) = some r := h
  clear h
  as_aux_lemma =>
    obtain rfl := Option.some.inj H
    go_enter Try.func111, Try.ntmps111
    go_wp2
    go_ret
    exact ⟨q8x7_, q10x7_⟩

/-! ### cmp_Compare_int: function 71 -/
def cmp_Compare_int.f (a0 : Int) (a1 : Int) : Option (Int) := (cmp_isNaN_int.f a0).bind fun t225 => ((cmp_isNaN_int.f a1).bind fun t226 => (if t225 = true then (if t226 = true then (some 0) else (some (-1))) else (if t226 = true then (some 1) else (if a0 < a1 then (some (-1)) else (if a0 > a1 then (some 1) else (some 0))))))
set_option maxHeartbeats 8000000 in
set_option maxRecDepth 100000 in
theorem cmp_Compare_int.calls (a0 : Int) (a1 : Int) (r : Int) (w : World) (h : cmp_Compare_int.f a0 a1 = some r) :
    Calls Try.prog 71 #[.int .i64 a0, .int .i64 a1] w fun e w' => e = .returned (.int .i64 r) ∧ Drawn0 w w' := by
  have H : ((cmp_isNaN_int.f a0).bind fun t225 => ((cmp_isNaN_int.f a1).bind fun t226 => (if t225 = true then (if t226 = true then (some 0) else (some (-1))) else (if t226 = true then (some 1) else (if a0 < a1 then (some (-1)) else (if a0 > a1 then (some 1) else (some 0))))))) = some r := h
  clear h
  replace H := Option.bind_eq_some_iff.mp H
  obtain ⟨t225, A30, H⟩ := H
  replace H : ((cmp_isNaN_int.f a1).bind fun t226 => (if t225 = true then (if t226 = true then (some 0) else (some (-1))) else (if t226 = true then (some 1) else (if a0 < a1 then (some (-1)) else (if a0 > a1 then (some 1) else (some 0)))))) = some r := H
  have A3 := Aside0.mk A30
  clear A30
  replace H := Option.bind_eq_some_iff.mp H
  obtain ⟨t226, A40, H⟩ := H
  replace H : (if t225 = true then (if t226 = true then (some 0) else (some (-1))) else (if t226 = true then (some 1) else (if a0 < a1 then (some (-1)) else (if a0 > a1 then (some 1) else (some 0))))) = some r := H
  have A4 := Aside0.mk A40
  clear A40
  by_cases c5 : t225 = true
  · subst c5
    have H1 : (if t226 = true then (some 0) else (some (-1))) = some r := by rw [if_pos rfl] at H; exact H
    clear H
    have H := H1
    clear H1
    by_cases c6 : t226 = true
    · subst c6
      have H1 : (some 0) = some r := by rw [if_pos rfl] at H; exact H
      clear H
      have H := H1
      clear H1
      as_aux_lemma =>
        obtain rfl := Option.some.inj H
        go_enter Try.func71, Try.ntmps71
        go_wp2_with (first | ((with_reducible refine gate_callee (f := 111) rfl ?_); refine goesL_ (some 8) rfl rfl Try.func111 q18x7_ rfl #[.int .i64 a0] rfl q1x7_ ?_; (with_reducible refine (cmp_isNaN_int.calls a0 true _ A3.out).mono ?_); rintro e w' ⟨rfl, ⟨nd, rfl⟩⟩; refine ⟨_, rfl, ?_⟩) | ((with_reducible refine gate_callee (f := 111) rfl ?_); refine goesL_ (some 10) rfl rfl Try.func111 q18x7_ rfl #[.int .i64 a1] rfl q1x7_ ?_; (with_reducible refine (cmp_isNaN_int.calls a1 true _ A4.out).mono ?_); rintro e w' ⟨rfl, ⟨nd, rfl⟩⟩; refine ⟨_, rfl, ?_⟩))
        go_ret
        exact ⟨q8x7_, q10x7_⟩
    replace c6 := Bool.eq_false_iff.mpr c6
    subst c6
    have H1 : (some (-1)) = some r := by rw [if_neg (show ¬ (false = true) by decide)] at H; exact H
    clear H
    have H := H1
    clear H1
    as_aux_lemma =>
      obtain rfl := Option.some.inj H
      go_enter Try.func71, Try.ntmps71
      go_wp2_with (first | ((with_reducible refine gate_callee (f := 111) rfl ?_); refine goesL_ (some 8) rfl rfl Try.func111 q18x7_ rfl #[.int .i64 a0] rfl q1x7_ ?_; (with_reducible refine (cmp_isNaN_int.calls a0 true _ A3.out).mono ?_); rintro e w' ⟨rfl, ⟨nd, rfl⟩⟩; refine ⟨_, rfl, ?_⟩) | ((with_reducible refine gate_callee (f := 111) rfl ?_); refine goesL_ (some 10) rfl rfl Try.func111 q18x7_ rfl #[.int .i64 a1] rfl q1x7_ ?_; (with_reducible refine (cmp_isNaN_int.calls a1 false _ A4.out).mono ?_); rintro e w' ⟨rfl, ⟨nd, rfl⟩⟩; refine ⟨_, rfl, ?_⟩))
      go_ret
      exact ⟨q8x7_, q10x7_⟩
  replace c5 := Bool.eq_false_iff.mpr c5
  subst c5
  have H1 : (if t226 = true then (some 1) else (if a0 < a1 then (some (-1)) else (if a0 > a1 then (some 1) else (some 0)))) = some r := by rw [if_neg (show ¬ (false = true) by decide)] at H; exact H
  clear H
  have H := H1
  clear H1
  by_cases c7 : t226 = true
  · subst c7
    have H1 : (some 1) = some r := by rw [if_pos rfl] at H; exact H
    clear H
    have H := H1
    clear H1
    as_aux_lemma =>
      obtain rfl := Option.some.inj H
      go_enter Try.func71, Try.ntmps71
      go_wp2_with (first | ((with_reducible refine gate_callee (f := 111) rfl ?_); refine goesL_ (some 8) rfl rfl Try.func111 q18x7_ rfl #[.int .i64 a0] rfl q1x7_ ?_; (with_reducible refine (cmp_isNaN_int.calls a0 false _ A3.out).mono ?_); rintro e w' ⟨rfl, ⟨nd, rfl⟩⟩; refine ⟨_, rfl, ?_⟩) | ((with_reducible refine gate_callee (f := 111) rfl ?_); refine goesL_ (some 10) rfl rfl Try.func111 q18x7_ rfl #[.int .i64 a1] rfl q1x7_ ?_; (with_reducible refine (cmp_isNaN_int.calls a1 true _ A4.out).mono ?_); rintro e w' ⟨rfl, ⟨nd, rfl⟩⟩; refine ⟨_, rfl, ?_⟩))
      go_ret
      exact ⟨q8x7_, q10x7_⟩
  replace c7 := Bool.eq_false_iff.mpr c7
  subst c7
  have H1 : (if a0 < a1 then (some (-1)) else (if a0 > a1 then (some 1) else (some 0))) = some r := by rw [if_neg (show ¬ (false = true) by decide)] at H; exact H
  clear H
  have H := H1
  clear H1
  by_cases c8 : a0 < a1
  · rw [if_pos c8] at H
    have c8b0 : decide (a0 < a1) = true := decide_eq_true c8
    clear c8
    as_aux_lemma =>
      obtain rfl := Option.some.inj H
      go_enter Try.func71, Try.ntmps71
      go_wp2_with (first | ((with_reducible refine gate_callee (f := 111) rfl ?_); refine goesL_ (some 8) rfl rfl Try.func111 q18x7_ rfl #[.int .i64 a0] rfl q1x7_ ?_; (with_reducible refine (cmp_isNaN_int.calls a0 false _ A3.out).mono ?_); rintro e w' ⟨rfl, ⟨nd, rfl⟩⟩; refine ⟨_, rfl, ?_⟩) | ((with_reducible refine gate_callee (f := 111) rfl ?_); refine goesL_ (some 10) rfl rfl Try.func111 q18x7_ rfl #[.int .i64 a1] rfl q1x7_ ?_; (with_reducible refine (cmp_isNaN_int.calls a1 false _ A4.out).mono ?_); rintro e w' ⟨rfl, ⟨nd, rfl⟩⟩; refine ⟨_, rfl, ?_⟩))
      go_ret
      exact ⟨q8x7_, q10x7_⟩
  rw [if_neg c8] at H
  have c8b0 : decide (a0 < a1) = false := decide_eq_false c8
  clear c8
  by_cases c9 : a0 > a1
  · rw [if_pos c9] at H
    have c9b0 : decide (a1 < a0) = true := decide_eq_true c9
    clear c9
    as_aux_lemma =>
      obtain rfl := Option.some.inj H
      go_enter Try.func71, Try.ntmps71
      go_wp2_with (first | ((with_reducible refine gate_callee (f := 111) rfl ?_); refine goesL_ (some 8) rfl rfl Try.func111 q18x7_ rfl #[.int .i64 a0] rfl q1x7_ ?_; (with_reducible refine (cmp_isNaN_int.calls a0 false _ A3.out).mono ?_); rintro e w' ⟨rfl, ⟨nd, rfl⟩⟩; refine ⟨_, rfl, ?_⟩) | ((with_reducible refine gate_callee (f := 111) rfl ?_); refine goesL_ (some 10) rfl rfl Try.func111 q18x7_ rfl #[.int .i64 a1] rfl q1x7_ ?_; (with_reducible refine (cmp_isNaN_int.calls a1 false _ A4.out).mono ?_); rintro e w' ⟨rfl, ⟨nd, rfl⟩⟩; refine ⟨_, rfl, ?_⟩))
      go_ret
      exact ⟨q8x7_, q10x7_⟩
  rw [if_neg c9] at H
  have c9b0 : decide (a1 < a0) = false := decide_eq_false c9
  clear c9
  as_aux_lemma =>
    obtain rfl := Option.some.inj H
    go_enter Try.func71, Try.ntmps71
    go_wp2_with (first | ((with_reducible refine gate_callee (f := 111) rfl ?_); refine goesL_ (some 8) rfl rfl Try.func111 q18x7_ rfl #[.int .i64 a0] rfl q1x7_ ?_; (with_reducible refine (cmp_isNaN_int.calls a0 false _ A3.out).mono ?_); rintro e w' ⟨rfl, ⟨nd, rfl⟩⟩; refine ⟨_, rfl, ?_⟩) | ((with_reducible refine gate_callee (f := 111) rfl ?_); refine goesL_ (some 10) rfl rfl Try.func111 q18x7_ rfl #[.int .i64 a1] rfl q1x7_ ?_; (with_reducible refine (cmp_isNaN_int.calls a1 false _ A4.out).mono ?_); rintro e w' ⟨rfl, ⟨nd, rfl⟩⟩; refine ⟨_, rfl, ?_⟩))
    go_ret
    exact ⟨q8x7_, q10x7_⟩

/-! ### bits_Mul64: function 115 -/
def bits_Mul64.f (a0 : Int) (a1 : Int) : Option (Int × Int) := some (IntKind.u64.wrap ((IntKind.u64.wrap ((IntKind.u64.wrap ((a0 / 4294967296) * (a1 / 4294967296))) + ((IntKind.u64.wrap ((IntKind.u64.wrap ((a0 / 4294967296) * (Go.bits .and .u64 a1 4294967295))) + ((IntKind.u64.wrap ((Go.bits .and .u64 a0 4294967295) * (Go.bits .and .u64 a1 4294967295))) / 4294967296))) / 4294967296))) + ((IntKind.u64.wrap ((Go.bits .and .u64 (IntKind.u64.wrap ((IntKind.u64.wrap ((a0 / 4294967296) * (Go.bits .and .u64 a1 4294967295))) + ((IntKind.u64.wrap ((Go.bits .and .u64 a0 4294967295) * (Go.bits .and .u64 a1 4294967295))) / 4294967296))) 4294967295) + (IntKind.u64.wrap ((Go.bits .and .u64 a0 4294967295) * (a1 / 4294967296))))) / 4294967296)), IntKind.u64.wrap (a0 * a1))
set_option maxHeartbeats 8000000 in
set_option maxRecDepth 100000 in
theorem bits_Mul64.calls (a0 : Int) (a1 : Int) (r1 : Int) (r2 : Int) (w : World) (h : bits_Mul64.f a0 a1 = some (r1, r2)) :
    Calls Try.prog 115 #[.int .u64 a0, .int .u64 a1] w fun e w' => e = .returned (.tuple #[.int .u64 r1, .int .u64 r2]) ∧ Drawn0 w w' := by
  have H : (some (IntKind.u64.wrap ((IntKind.u64.wrap ((IntKind.u64.wrap ((a0 / 4294967296) * (a1 / 4294967296))) + ((IntKind.u64.wrap ((IntKind.u64.wrap ((a0 / 4294967296) * (Go.bits .and .u64 a1 4294967295))) + ((IntKind.u64.wrap ((Go.bits .and .u64 a0 4294967295) * (Go.bits .and .u64 a1 4294967295))) / 4294967296))) / 4294967296))) + ((IntKind.u64.wrap ((Go.bits .and .u64 (IntKind.u64.wrap ((IntKind.u64.wrap ((a0 / 4294967296) * (Go.bits .and .u64 a1 4294967295))) + ((IntKind.u64.wrap ((Go.bits .and .u64 a0 4294967295) * (Go.bits .and .u64 a1 4294967295))) / 4294967296))) 4294967295) + (IntKind.u64.wrap ((Go.bits .and .u64 a0 4294967295) * (a1 / 4294967296))))) / 4294967296)), IntKind.u64.wrap (a0 * a1))) = some (r1, r2) := h
  clear h
  as_aux_lemma =>
    simp only [Option.some.injEq, Prod.mk.injEq] at H
    obtain ⟨rfl, rfl⟩ := H
    go_enter Try.func115, Try.ntmps115
    go_wp2
    go_ret2
    exact ⟨q8x7_, q10x7_⟩

/-! ### cmp_Or_int: function 116 -/
def cmp_Or_int.l0 : Nat → Int → List Int → Int → Int → Option (Int)
  | 0, _, _, _, _ => none
  | k + 1, x3, x6, x7, x8 => if x8 < x7 then (if 0 ≤ x8 then (if x8 < (x6.length : Int) then (if (rd x6 x8) = x3 then (cmp_Or_int.l0 k x3 x6 x7 (wrap64 (x8 + 1))) else (some (rd x6 x8))) else (none)) else (none)) else (some x3)
def cmp_Or_int.f (k : Nat) (l0 : List Int) : Option (Int) := cmp_Or_int.l0 k 0 l0 (l0.length : Int) 0
theorem cmp_Or_int.mono_l : ∀ k, (∀ y0 y1 y2 y3, LeO (cmp_Or_int.l0 k y0 y1 y2 y3) (cmp_Or_int.l0 (k + 1) y0 y1 y2 y3))
  | 0 => fun _ _ _ _ r h => by simp [cmp_Or_int.l0] at h
  | k + 1 => by
    have ih0 := cmp_Or_int.mono_l k
    · intro y0 y1 y2 y3
      unfold cmp_Or_int.l0
      repeat' first
      | (with_reducible exact ih0 _ _ _ _)
      | (with_reducible exact LeO.refl _)
      | (with_reducible exact LeO.none _)
      | (with_reducible refine LeO.ite ?_ ?_)
      | (with_reducible refine LeO.bind ?_ (fun _ => ?_))
      | exact ih0 _ _ _ _
      | exact LeO.none _
      | refine LeO.ite ?_ ?_
      | refine LeO.bind ?_ (fun _ => ?_)
theorem cmp_Or_int.mono : ∀ a0 k, LeO (cmp_Or_int.f k a0) (cmp_Or_int.f (k + 1) a0) := by
  intro a0 k
  have ih0 := cmp_Or_int.mono_l k
  unfold cmp_Or_int.f
  repeat' first
      | (with_reducible exact ih0 _ _ _ _)
      | (with_reducible exact LeO.refl _)
      | (with_reducible exact LeO.none _)
      | (with_reducible refine LeO.ite ?_ ?_)
      | (with_reducible refine LeO.bind ?_ (fun _ => ?_))
      | exact ih0 _ _ _ _
      | exact LeO.none _
      | refine LeO.ite ?_ ?_
      | refine LeO.bind ?_ (fun _ => ?_)
set_option maxHeartbeats 8000000 in
set_option maxRecDepth 100000 in
theorem cmp_Or_int.calls (k : Nat) (A0 : Option Addr) (c0 : Nat) (l0 : List Int) (r : Int) (w : World) (hr0 : Kd.C (Kd.int .i64) w A0 l0.length l0) (hc0 : l0.length ≤ c0) (h : cmp_Or_int.f k l0 = some r) :
    Calls Try.prog 116 #[.slice A0 l0.length c0] w fun e w' => e = .returned (.int .i64 r) ∧ Drawn0 w w' := by
  have HR0 := Aside0.mk hr0
  have HC0 := Aside0.mk hc0
  clear hr0 hc0
  have H : (cmp_Or_int.l0 k 0 l0 (l0.length : Int) 0) = some r := h
  clear h
  have H' := Aside0.mk H
  clear H
  go_enter Try.func116, Try.ntmps116
  go_wp2
  go_loopg [8] k (fun kq v8 w' => ∃ (x8_1 : Int), v8 = .int .i64 x8_1 ∧ Aside0 (cmp_Or_int.l0 kq 0 l0 (l0.length : Int) x8_1 = some r) ∧ Aside0 (kq ≤ k) ∧ Drawn0 w w')
  case atStart => exact ⟨(0), q8x7_, H', ⟨Nat.le_refl _⟩, q10x7_⟩
  case round =>
    clear H'
    (try clear c1)
    obtain ⟨x8_1, rfl, HA, HK1, ⟨m1, rfl⟩⟩ := hrel
    rcases gk with _ | k1
    · exact absurd HA.out (by simp [cmp_Or_int.l0])
    have H := HA.out
    clear HA
    simp only [cmp_Or_int.l0] at H
    by_cases c2 : x8_1 < (l0.length : Int)
    · rw [if_pos c2] at H
      have c2b0 : decide (x8_1 < (l0.length : Int)) = true := decide_eq_true c2
      clear c2
      by_cases c3 : 0 ≤ x8_1
      · rw [if_pos c3] at H
        have c3b0 : decide (0 ≤ x8_1) = true := decide_eq_true c3
        clear c3
        by_cases c4 : x8_1 < (l0.length : Int)
        · rw [if_pos c4] at H
          have c4b0 : decide (x8_1 < (l0.length : Int)) = true := decide_eq_true c4
          clear c4
          by_cases c5 : (rd l0 x8_1) = 0
          · rw [if_pos c5] at H
            have c5b0 : ((rd l0 x8_1) == 0) = true := beq_iff_eq.mpr c5
            have c5b1 : ((rd l0 x8_1) != 0) = false := bne_eq_false_iff_eq.mpr c5
            clear c5
            as_aux_lemma =>
              have H' := Aside0.mk H
              clear H
              have p227 : 0 ≤ (x8_1 : Int) := of_decide_eq_true q19x7_
              have q227 : x8_1 < (l0.length : Int) := of_decide_eq_true q19x7_
              obtain ⟨ad227, e227, hx227_0⟩ := Kd.at_int HR0.out x8_1 p227 q227
              cases e227
              replace p227 := eq_true p227
              replace q227 := eq_true q227
              go_wp2
              go_roundg k1
              case measure => have := HK1.out; omega
              case rel => exact ⟨(wrap64 (x8_1 + 1)), q8x7_, H', ⟨by have := HK1.out; omega⟩, q10x7_⟩
          rw [if_neg c5] at H
          have c5b0 : ((rd l0 x8_1) == 0) = false := beq_eq_false_iff_ne.mpr c5
          have c5b1 : ((rd l0 x8_1) != 0) = true := bne_iff_ne.mpr c5
          as_aux_lemma =>
            obtain rfl := Option.some.inj H
            have p227 : 0 ≤ (x8_1 : Int) := of_decide_eq_true q19x7_
            have q227 : x8_1 < (l0.length : Int) := of_decide_eq_true q19x7_
            obtain ⟨ad227, e227, hx227_0⟩ := Kd.at_int HR0.out x8_1 p227 q227
            cases e227
            replace p227 := eq_true p227
            replace q227 := eq_true q227
            go_wp2
            go_ret
            exact ⟨q8x7_, q10x7_⟩
        rw [if_neg c4] at H
        exact absurd H (by simp)
      rw [if_neg c3] at H
      exact absurd H (by simp)
    rw [if_neg c2] at H
    have c2b0 : decide (x8_1 < (l0.length : Int)) = false := decide_eq_false c2
    clear c2
    as_aux_lemma =>
      obtain rfl := Option.some.inj H
      go_wp2
      go_ret
      exact ⟨q8x7_, q10x7_⟩

/-! ### cmp_isNaN_uint64: function 136 -/
def cmp_isNaN_uint64.f (a0 : Int) : Option (Bool) := some (a0 != a0)
set_option maxHeartbeats 8000000 in
set_option maxRecDepth 100000 in
theorem cmp_isNaN_uint64.calls (a0 : Int) (r : Bool) (w : World) (h : cmp_isNaN_uint64.f a0 = some r) :
    Calls Try.prog 136 #[.int .u64 a0] w fun e w' => e = .returned (.bool r) ∧ Drawn0 w w' := by
  have H : (some (a0 != a0)) = some r := h
  clear h
  as_aux_lemma =>
    obtain rfl := Option.some.inj H
    go_enter Try.func136, Try.ntmps136
    go_wp2
    go_ret
    exact ⟨q8x7_, q10x7_⟩

/-! ### cmp_Compare_uint64: function 117 -/
def cmp_Compare_uint64.f (a0 : Int) (a1 : Int) : Option (Int) := (cmp_isNaN_uint64.f a0).bind fun t228 => ((cmp_isNaN_uint64.f a1).bind fun t229 => (if t228 = true then (if t229 = true then (some 0) else (some (-1))) else (if t229 = true then (some 1) else (if a0 < a1 then (some (-1)) else (if a0 > a1 then (some 1) else (some 0))))))
set_option maxHeartbeats 8000000 in
set_option maxRecDepth 100000 in
theorem cmp_Compare_uint64.calls (a0 : Int) (a1 : Int) (r : Int) (w : World) (h : cmp_Compare_uint64.f a0 a1 = some r) :
    Calls Try.prog 117 #[.int .u64 a0, .int .u64 a1] w fun e w' => e = .returned (.int .i64 r) ∧ Drawn0 w w' := by
  have H : ((cmp_isNaN_uint64.f a0).bind fun t228 => ((cmp_isNaN_uint64.f a1).bind fun t229 => (if t228 = true then (if t229 = true then (some 0) else (some (-1))) else (if t229 = true then (some 1) else (if a0 < a1 then (some (-1)) else (if a0 > a1 then (some 1) else (some 0))))))) = some r := h
  clear h
  replace H := Option.bind_eq_some_iff.mp H
  obtain ⟨t228, A30, H⟩ := H
  replace H : ((cmp_isNaN_uint64.f a1).bind fun t229 => (if t228 = true then (if t229 = true then (some 0) else (some (-1))) else (if t229 = true then (some 1) else (if a0 < a1 then (some (-1)) else (if a0 > a1 then (some 1) else (some 0)))))) = some r := H
  have A3 := Aside0.mk A30
  clear A30
  replace H := Option.bind_eq_some_iff.mp H
  obtain ⟨t229, A40, H⟩ := H
  replace H : (if t228 = true then (if t229 = true then (some 0) else (some (-1))) else (if t229 = true then (some 1) else (if a0 < a1 then (some (-1)) else (if a0 > a1 then (some 1) else (some 0))))) = some r := H
  have A4 := Aside0.mk A40
  clear A40
  by_cases c5 : t228 = true
  · subst c5
    have H1 : (if t229 = true then (some 0) else (some (-1))) = some r := by rw [if_pos rfl] at H; exact H
    clear H
    have H := H1
    clear H1
    by_cases c6 : t229 = true
    · subst c6
      have H1 : (some 0) = some r := by rw [if_pos rfl] at H; exact H
      clear H
      have H := H1
      clear H1
      as_aux_lemma =>
        obtain rfl := Option.some.inj H
        go_enter Try.func117, Try.ntmps117
        go_wp2_with (first | ((with_reducible refine gate_callee (f := 136) rfl ?_); refine goesL_ (some 8) rfl rfl Try.func136 q18x7_ rfl #[.int .u64 a0] rfl q1x7_ ?_; (with_reducible refine (cmp_isNaN_uint64.calls a0 true _ A3.out).mono ?_); rintro e w' ⟨rfl, ⟨nd, rfl⟩⟩; refine ⟨_, rfl, ?_⟩) | ((with_reducible refine gate_callee (f := 136) rfl ?_); refine goesL_ (some 10) rfl rfl Try.func136 q18x7_ rfl #[.int .u64 a1] rfl q1x7_ ?_; (with_reducible refine (cmp_isNaN_uint64.calls a1 true _ A4.out).mono ?_); rintro e w' ⟨rfl, ⟨nd, rfl⟩⟩; refine ⟨_, rfl, ?_⟩))
        go_ret
        exact ⟨q8x7_, q10x7_⟩
    replace c6 := Bool.eq_false_iff.mpr c6
    subst c6
    have H1 : (some (-1)) = some r := by rw [if_neg (show ¬ (false = true) by decide)] at H; exact H
    clear H
    have H := H1
    clear H1
    as_aux_lemma =>
      obtain rfl := Option.some.inj H
      go_enter Try.func117, Try.ntmps117
      go_wp2_with (first | ((with_reducible refine gate_callee (f := 136) rfl ?_); refine goesL_ (some 8) rfl rfl Try.func136 q18x7_ rfl #[.int .u64 a0] rfl q1x7_ ?_; (with_reducible refine (cmp_isNaN_uint64.calls a0 true _ A3.out).mono ?_); rintro e w' ⟨rfl, ⟨nd, rfl⟩⟩; refine ⟨_, rfl, ?_⟩) | ((with_reducible refine gate_callee (f := 136) rfl ?_); refine goesL_ (some 10) rfl rfl Try.func136 q18x7_ rfl #[.int .u64 a1] rfl q1x7_ ?_; (with_reducible refine (cmp_isNaN_uint64.calls a1 false _ A4.out).mono ?_); rintro e w' ⟨rfl, ⟨nd, rfl⟩⟩; refine ⟨_, rfl, ?_⟩))
      go_ret
      exact ⟨q8x7_, q10x7_⟩
  replace c5 := Bool.eq_false_iff.mpr c5
  subst c5
  have H1 : (if t229 = true then (some 1) else (if a0 < a1 then (some (-1)) else (if a0 > a1 then (some 1) else (some 0)))) = some r := by rw [if_neg (show ¬ (false = true) by decide)] at H; exact H
  clear H
  have H := H1
  clear H1
  by_cases c7 : t229 = true
  · subst c7
    have H1 : (some 1) = some r := by rw [if_pos rfl] at H; exact H
    clear H
    have H := H1
    clear H1
    as_aux_lemma =>
      obtain rfl := Option.some.inj H
      go_enter Try.func117, Try.ntmps117
      go_wp2_with (first | ((with_reducible refine gate_callee (f := 136) rfl ?_); refine goesL_ (some 8) rfl rfl Try.func136 q18x7_ rfl #[.int .u64 a0] rfl q1x7_ ?_; (with_reducible refine (cmp_isNaN_uint64.calls a0 false _ A3.out).mono ?_); rintro e w' ⟨rfl, ⟨nd, rfl⟩⟩; refine ⟨_, rfl, ?_⟩) | ((with_reducible refine gate_callee (f := 136) rfl ?_); refine goesL_ (some 10) rfl rfl Try.func136 q18x7_ rfl #[.int .u64 a1] rfl q1x7_ ?_; (with_reducible refine (cmp_isNaN_uint64.calls a1 true _ A4.out).mono ?_); rintro e w' ⟨rfl, ⟨nd, rfl⟩⟩; refine ⟨_, rfl, ?_⟩))
      go_ret
      exact ⟨q8x7_, q10x7_⟩
  replace c7 := Bool.eq_false_iff.mpr c7
  subst c7
  have H1 : (if a0 < a1 then (some (-1)) else (if a0 > a1 then (some 1) else (some 0))) = some r := by rw [if_neg (show ¬ (false = true) by decide)] at H; exact H
  clear H
  have H := H1
  clear H1
  by_cases c8 : a0 < a1
  · rw [if_pos c8] at H
    have c8b0 : decide (a0 < a1) = true := decide_eq_true c8
    clear c8
    as_aux_lemma =>
      obtain rfl := Option.some.inj H
      go_enter Try.func117, Try.ntmps117
      go_wp2_with (first | ((with_reducible refine gate_callee (f := 136) rfl ?_); refine goesL_ (some 8) rfl rfl Try.func136 q18x7_ rfl #[.int .u64 a0] rfl q1x7_ ?_; (with_reducible refine (cmp_isNaN_uint64.calls a0 false _ A3.out).mono ?_); rintro e w' ⟨rfl, ⟨nd, rfl⟩⟩; refine ⟨_, rfl, ?_⟩) | ((with_reducible refine gate_callee (f := 136) rfl ?_); refine goesL_ (some 10) rfl rfl Try.func136 q18x7_ rfl #[.int .u64 a1] rfl q1x7_ ?_; (with_reducible refine (cmp_isNaN_uint64.calls a1 false _ A4.out).mono ?_); rintro e w' ⟨rfl, ⟨nd, rfl⟩⟩; refine ⟨_, rfl, ?_⟩))
      go_ret
      exact ⟨q8x7_, q10x7_⟩
  rw [if_neg c8] at H
  have c8b0 : decide (a0 < a1) = false := decide_eq_false c8
  clear c8
  by_cases c9 : a0 > a1
  · rw [if_pos c9] at H
    have c9b0 : decide (a1 < a0) = true := decide_eq_true c9
    clear c9
    as_aux_lemma =>
      obtain rfl := Option.some.inj H
      go_enter Try.func117, Try.ntmps117
      go_wp2_with (first | ((with_reducible refine gate_callee (f := 136) rfl ?_); refine goesL_ (some 8) rfl rfl Try.func136 q18x7_ rfl #[.int .u64 a0] rfl q1x7_ ?_; (with_reducible refine (cmp_isNaN_uint64.calls a0 false _ A3.out).mono ?_); rintro e w' ⟨rfl, ⟨nd, rfl⟩⟩; refine ⟨_, rfl, ?_⟩) | ((with_reducible refine gate_callee (f := 136) rfl ?_); refine goesL_ (some 10) rfl rfl Try.func136 q18x7_ rfl #[.int .u64 a1] rfl q1x7_ ?_; (with_reducible refine (cmp_isNaN_uint64.calls a1 false _ A4.out).mono ?_); rintro e w' ⟨rfl, ⟨nd, rfl⟩⟩; refine ⟨_, rfl, ?_⟩))
      go_ret
      exact ⟨q8x7_, q10x7_⟩
  rw [if_neg c9] at H
  have c9b0 : decide (a1 < a0) = false := decide_eq_false c9
  clear c9
  as_aux_lemma =>
    obtain rfl := Option.some.inj H
    go_enter Try.func117, Try.ntmps117
    go_wp2_with (first | ((with_reducible refine gate_callee (f := 136) rfl ?_); refine goesL_ (some 8) rfl rfl Try.func136 q18x7_ rfl #[.int .u64 a0] rfl q1x7_ ?_; (with_reducible refine (cmp_isNaN_uint64.calls a0 false _ A3.out).mono ?_); rintro e w' ⟨rfl, ⟨nd, rfl⟩⟩; refine ⟨_, rfl, ?_⟩) | ((with_reducible refine gate_callee (f := 136) rfl ?_); refine goesL_ (some 10) rfl rfl Try.func136 q18x7_ rfl #[.int .u64 a1] rfl q1x7_ ?_; (with_reducible refine (cmp_isNaN_uint64.calls a1 false _ A4.out).mono ?_); rintro e w' ⟨rfl, ⟨nd, rfl⟩⟩; refine ⟨_, rfl, ?_⟩))
    go_ret
    exact ⟨q8x7_, q10x7_⟩

/-! ### measure_products: function 81 -/
def measure_products.f (k : Nat) (a0 : Int) (a1 : Int) (a2 : Int) (a3 : Int) : Option (Int) := (bits_Mul64.f a0 a1).bind fun bt230 => ((bits_Mul64.f a2 a3).bind fun bt232 => ((cmp_Compare_uint64.f bt230.1 bt232.1).bind fun t234 => ((cmp_Compare_uint64.f bt230.2 bt232.2).bind fun t235 => ((cmp_Or_int.f k (([t234, t235] : List Int))).bind fun t239 => (some t239)))))
theorem measure_products.mono : ∀ a0 a1 a2 a3 k, LeO (measure_products.f k a0 a1 a2 a3) (measure_products.f (k + 1) a0 a1 a2 a3) := by
  intro a0 a1 a2 a3 k
  unfold measure_products.f
  repeat' first
      | (with_reducible exact cmp_Or_int.mono _ _)
      | (with_reducible exact LeO.refl _)
      | (with_reducible exact LeO.none _)
      | (with_reducible refine LeO.ite ?_ ?_)
      | (with_reducible refine LeO.bind ?_ (fun _ => ?_))
      | exact cmp_Or_int.mono _ _
      | exact LeO.none _
      | refine LeO.ite ?_ ?_
      | refine LeO.bind ?_ (fun _ => ?_)
set_option maxHeartbeats 8000000 in
set_option maxRecDepth 100000 in
theorem measure_products.calls (k : Nat) (a0 : Int) (a1 : Int) (a2 : Int) (a3 : Int) (r : Int) (w : World) (h : measure_products.f k a0 a1 a2 a3 = some r) :
    Calls Try.prog 81 #[.int .u64 a0, .int .u64 a1, .int .u64 a2, .int .u64 a3] w fun e w' => e = .returned (.int .i64 r) ∧ Below w.heap.size w w' := by
  have HB := Aside0.mk (Below.refl w.heap.size w)
  have H : ((bits_Mul64.f a0 a1).bind fun bt230 => ((bits_Mul64.f a2 a3).bind fun bt232 => ((cmp_Compare_uint64.f bt230.1 bt232.1).bind fun t234 => ((cmp_Compare_uint64.f bt230.2 bt232.2).bind fun t235 => ((cmp_Or_int.f k (([t234, t235] : List Int))).bind fun t239 => (some t239)))))) = some r := h
  clear h
  replace H := Option.bind_eq_some_iff.mp H
  obtain ⟨⟨t230, t231⟩, A50, H⟩ := H
  replace H : ((bits_Mul64.f a2 a3).bind fun bt232 => ((cmp_Compare_uint64.f t230 bt232.1).bind fun t234 => ((cmp_Compare_uint64.f t231 bt232.2).bind fun t235 => ((cmp_Or_int.f k (([t234, t235] : List Int))).bind fun t239 => (some t239))))) = some r := H
  have A5 := Aside0.mk A50
  clear A50
  replace H := Option.bind_eq_some_iff.mp H
  obtain ⟨⟨t232, t233⟩, A60, H⟩ := H
  replace H : ((cmp_Compare_uint64.f t230 t232).bind fun t234 => ((cmp_Compare_uint64.f t231 t233).bind fun t235 => ((cmp_Or_int.f k (([t234, t235] : List Int))).bind fun t239 => (some t239)))) = some r := H
  have A6 := Aside0.mk A60
  clear A60
  replace H := Option.bind_eq_some_iff.mp H
  obtain ⟨t234, A70, H⟩ := H
  replace H : ((cmp_Compare_uint64.f t231 t233).bind fun t235 => ((cmp_Or_int.f k (([t234, t235] : List Int))).bind fun t239 => (some t239))) = some r := H
  have A7 := Aside0.mk A70
  clear A70
  replace H := Option.bind_eq_some_iff.mp H
  obtain ⟨t235, A80, H⟩ := H
  replace H : ((cmp_Or_int.f k (([t234, t235] : List Int))).bind fun t239 => (some t239)) = some r := H
  have A8 := Aside0.mk A80
  clear A80
  obtain ⟨y236, hy236⟩ : ∃ y_ : List Int, y_ = (([t234, t235] : List Int)) := ⟨_, rfl⟩
  replace H : ((cmp_Or_int.f k y236).bind fun t239 => (some t239)) = some r := by first | (rw [hy236]; with_reducible exact H) | (have H2_ := (Option.bind_some _ _).symm.trans H; rw [hy236]; with_reducible exact H2_) | (have H2_ := (Option.bind_some _ _).symm.trans H; with_reducible exact H2_) | with_reducible exact H | (rw [hy236]; exact H) | exact H
  have Ny236 := Aside0.mk hy236
  clear hy236
  replace H := Option.bind_eq_some_iff.mp H
  obtain ⟨t239, A90, H⟩ := H
  replace H : (some t239) = some r := H
  have A9 := Aside0.mk A90
  clear A90
  as_aux_lemma =>
    obtain rfl := Option.some.inj H
    go_enter Try.func81, Try.ntmps81
    go_wp2_with (first | ((with_reducible refine gate_callee (f := 115) rfl ?_); refine goesL_ (some 16) rfl rfl Try.func115 q18x7_ rfl #[.int .u64 a0, .int .u64 a1] rfl q1x7_ ?_; (with_reducible refine (bits_Mul64.calls a0 a1 t230 t231 _ A5.out).mono ?_); rintro e w' ⟨rfl, ⟨nd, rfl⟩⟩; refine ⟨_, rfl, ?_⟩) | ((with_reducible refine gate_callee (f := 115) rfl ?_); refine goesL_ (some 22) rfl rfl Try.func115 q18x7_ rfl #[.int .u64 a2, .int .u64 a3] rfl q1x7_ ?_; (with_reducible refine (bits_Mul64.calls a2 a3 t232 t233 _ A6.out).mono ?_); rintro e w' ⟨rfl, ⟨nd, rfl⟩⟩; refine ⟨_, rfl, ?_⟩) | ((with_reducible refine gate_callee (f := 117) rfl ?_); refine goesL_ (some 27) rfl rfl Try.func117 q18x7_ rfl #[.int .u64 t230, .int .u64 t232] rfl q1x7_ ?_; (with_reducible refine (cmp_Compare_uint64.calls t230 t232 t234 _ A7.out).mono ?_); rintro e w' ⟨rfl, ⟨nd, rfl⟩⟩; refine ⟨_, rfl, ?_⟩) | ((with_reducible refine gate_callee (f := 117) rfl ?_); refine goesL_ (some 30) rfl rfl Try.func117 q18x7_ rfl #[.int .u64 t231, .int .u64 t233] rfl q1x7_ ?_; (with_reducible refine (cmp_Compare_uint64.calls t231 t233 t235 _ A8.out).mono ?_); rintro e w' ⟨rfl, ⟨nd, rfl⟩⟩; refine ⟨_, rfl, ?_⟩) | ((with_reducible refine gate_dst (N := 31) rfl ?_); refine Kd.R_lit (Kd.int .i64) _ 3 ?hg (N := 31) ?hd (xs := ([t234, t235] : List Int)) (inner := [.int .i64 t234, .int .i64 t235]) (ok := fun _ => True) (okp := fun _ => True) ?hr ?hp (fun _ hk => hk) trivial (Below.refl _ _) (Nat.le_refl _) (by simp) ?_; (case hd => rfl); (case hg => rfl); (case hr => first | (go_simp; done) | (go_simp; rfl)); (case hp => exact (Reps.one (show Kd.M (Kd.int .i64) _ _ _ t234 [.int .i64 t234] from rfl) (Reps.one (show Kd.M (Kd.int .i64) _ _ _ t235 [.int .i64 t235] from rfl) (Reps.none _ _)))); intro v237 w10 ho11 hb hg_ hnew_; clear hg_ hnew_; (first | rw [← Ny236.out] at ho11 | (simp only [Int.reduceToNat] at ho11; rw [← Ny236.out] at ho11)); have n0_ := Aside0.mk (Kd.R_lower ho11 (below_size q5x7_)); have n1_ := Aside0.mk (below_step q5x7_ hb); clear HB; have HO238 := n0_; have HB := n1_; clear n0_ n1_; clear hb ho11; obtain ⟨Ao12, co12, eo12⟩ := Kd.R_slice HO238.out; subst eo12) | ((with_reducible refine gate_callee (f := 116) rfl ?_); refine goesL_ (some 32) rfl rfl Try.func116 q18x7_ rfl #[.slice Ao12 y236.length co12] rfl q1x7_ ?_; (with_reducible refine (cmp_Or_int.calls k _ _ y236 t239 _ ?side1 ?side2 A9.out).mono ?_); (case side1 => repeat (first | exact (Kd.R_reads' HO238.out).2.2 | (with_reducible refine Kd.C_alloc ?_ _) | (with_reducible refine Kd.C_drewN ?_ _) | (with_reducible refine Kd.C_drew ?_))); (case side2 => exact (Kd.R_reads' HO238.out).2.1); rintro e w' ⟨rfl, ⟨nd, rfl⟩⟩; refine ⟨_, rfl, ?_⟩))
    go_ret
    exact ⟨q12x7_, q5x7_⟩

/-! ### measure_Verdict: function 37 -/
def measure_Verdict.j0 : Nat → Int → Int → Int → Int → Bool → Option (Int × Int)
  | 0, _, _, _, _, _ => none
  | k + 1, x0, x1, x2, x3, x49 => if x49 = true then (some (0, 0)) else ((cmp_Compare_int.f (wrap64 (x0 * (wrap64 (x2 + x3)))) (wrap64 (x2 * (wrap64 (x0 + x1))))).bind fun t246 => (if t246 = 1 then (some (1, 0)) else (if t246 = (-1) then (some (2, 0)) else (some (0, 0)))))
def measure_Verdict.f (k : Nat) (a0 : Int) (a1 : Int) (a2 : Int) (a3 : Int) (a4 : Int) : Option (Int × Int) := (measure_Exact.f k a0 a1 a2 a3).bind fun bt240 => (if bt240.2.2 = 0 then ((measure_within.f a4 1 500).bind fun t244 => (if t244 = true then (if (wrap64 (a0 + a1)) = 0 then (measure_Verdict.j0 k a0 a1 a2 a3 true) else (if (wrap64 (a2 + a3)) = 0 then (measure_Verdict.j0 k a0 a1 a2 a3 true) else ((measure_products.f k (IntKind.u64.wrap (bt240.1)) 1000 (IntKind.u64.wrap (a4)) (IntKind.u64.wrap (bt240.2.1))).bind fun t245 => (measure_Verdict.j0 k a0 a1 a2 a3 (decide (t245 > 0)))))) else (some (0, 1)))) else (some (0, bt240.2.2)))
theorem measure_Verdict.mono_l : ∀ k, (∀ y0 y1 y2 y3 y4, LeO (measure_Verdict.j0 k y0 y1 y2 y3 y4) (measure_Verdict.j0 (k + 1) y0 y1 y2 y3 y4))
  | 0 => fun _ _ _ _ _ r h => by simp [measure_Verdict.j0] at h
  | k + 1 => by
    have ih0 := measure_Verdict.mono_l k
    · intro y0 y1 y2 y3 y4
      unfold measure_Verdict.j0
      repeat' first
      | (with_reducible exact ih0 _ _ _ _ _)
      | (with_reducible exact measure_Exact.mono _ _ _ _ _)
      | (with_reducible exact measure_products.mono _ _ _ _ _)
      | (with_reducible exact LeO.refl _)
      | (with_reducible exact LeO.none _)
      | (with_reducible refine LeO.ite ?_ ?_)
      | (with_reducible refine LeO.bind ?_ (fun _ => ?_))
      | exact ih0 _ _ _ _ _
      | exact measure_Exact.mono _ _ _ _ _
      | exact measure_products.mono _ _ _ _ _
      | exact LeO.none _
      | refine LeO.ite ?_ ?_
      | refine LeO.bind ?_ (fun _ => ?_)
theorem measure_Verdict.mono : ∀ a0 a1 a2 a3 a4 k, LeO (measure_Verdict.f k a0 a1 a2 a3 a4) (measure_Verdict.f (k + 1) a0 a1 a2 a3 a4) := by
  intro a0 a1 a2 a3 a4 k
  have ih0 := measure_Verdict.mono_l k
  unfold measure_Verdict.f
  repeat' first
      | (with_reducible exact ih0 _ _ _ _ _)
      | (with_reducible exact measure_Exact.mono _ _ _ _ _)
      | (with_reducible exact measure_products.mono _ _ _ _ _)
      | (with_reducible exact LeO.refl _)
      | (with_reducible exact LeO.none _)
      | (with_reducible refine LeO.ite ?_ ?_)
      | (with_reducible refine LeO.bind ?_ (fun _ => ?_))
      | exact ih0 _ _ _ _ _
      | exact measure_Exact.mono _ _ _ _ _
      | exact measure_products.mono _ _ _ _ _
      | exact LeO.none _
      | refine LeO.ite ?_ ?_
      | refine LeO.bind ?_ (fun _ => ?_)
set_option maxHeartbeats 8000000 in
set_option maxRecDepth 100000 in
theorem measure_Verdict.calls (k : Nat) (a0 : Int) (a1 : Int) (a2 : Int) (a3 : Int) (a4 : Int) (r1 : Int) (r2 : Int) (w : World) (h : measure_Verdict.f k a0 a1 a2 a3 a4 = some (r1, r2)) :
    Calls Try.prog 37 #[.int .i64 a0, .int .i64 a1, .int .i64 a2, .int .i64 a3, .int .i64 a4] w fun e w' => e = .returned (.tuple #[.int .i64 r1, .int .i64 r2]) ∧ Below w.heap.size w w' := by
  have hu28 := Try.underlying28
  have HB := Aside0.mk (Below.refl w.heap.size w)
  have H : ((measure_Exact.f k a0 a1 a2 a3).bind fun bt240 => (if bt240.2.2 = 0 then ((measure_within.f a4 1 500).bind fun t244 => (if t244 = true then (if (wrap64 (a0 + a1)) = 0 then (measure_Verdict.j0 k a0 a1 a2 a3 true) else (if (wrap64 (a2 + a3)) = 0 then (measure_Verdict.j0 k a0 a1 a2 a3 true) else ((measure_products.f k (IntKind.u64.wrap (bt240.1)) 1000 (IntKind.u64.wrap (a4)) (IntKind.u64.wrap (bt240.2.1))).bind fun t245 => (measure_Verdict.j0 k a0 a1 a2 a3 (decide (t245 > 0)))))) else (some (0, 1)))) else (some (0, bt240.2.2)))) = some (r1, r2) := h
  clear h
  replace H := Option.bind_eq_some_iff.mp H
  obtain ⟨⟨t240, t241, t242⟩, A60, H⟩ := H
  replace H : (if t242 = 0 then ((measure_within.f a4 1 500).bind fun t244 => (if t244 = true then (if (wrap64 (a0 + a1)) = 0 then (measure_Verdict.j0 k a0 a1 a2 a3 true) else (if (wrap64 (a2 + a3)) = 0 then (measure_Verdict.j0 k a0 a1 a2 a3 true) else ((measure_products.f k (IntKind.u64.wrap (t240)) 1000 (IntKind.u64.wrap (a4)) (IntKind.u64.wrap (t241))).bind fun t245 => (measure_Verdict.j0 k a0 a1 a2 a3 (decide (t245 > 0)))))) else (some (0, 1)))) else (some (0, t242))) = some (r1, r2) := H
  have A6 := Aside0.mk A60
  clear A60
  by_cases c7 : t242 = 0
  · rw [if_pos c7] at H
    have c7b0 : (t242 == 0) = true := beq_iff_eq.mpr c7
    have c7b1 : (t242 != 0) = false := bne_eq_false_iff_eq.mpr c7
    clear c7
    replace H := Option.bind_eq_some_iff.mp H
    obtain ⟨t244, A80, H⟩ := H
    replace H : (if t244 = true then (if (wrap64 (a0 + a1)) = 0 then (measure_Verdict.j0 k a0 a1 a2 a3 true) else (if (wrap64 (a2 + a3)) = 0 then (measure_Verdict.j0 k a0 a1 a2 a3 true) else ((measure_products.f k (IntKind.u64.wrap (t240)) 1000 (IntKind.u64.wrap (a4)) (IntKind.u64.wrap (t241))).bind fun t245 => (measure_Verdict.j0 k a0 a1 a2 a3 (decide (t245 > 0)))))) else (some (0, 1))) = some (r1, r2) := H
    have A8 := Aside0.mk A80
    clear A80
    have HC9 := Aside0.mk H
    clear H
    go_enter Try.func37, Try.ntmps37
    go_upto_if 27 with (first | ((with_reducible refine gate_callee (f := 13) rfl ?_); refine goesL_ (some 19) rfl rfl Try.func13 q18x7_ rfl #[.int .i64 a0, .int .i64 a1, .int .i64 a2, .int .i64 a3] rfl q1x7_ ?_; (with_reducible refine (measure_Exact.calls k a0 a1 a2 a3 t240 t241 t242 _ A6.out).mono ?_); rintro e w10 ⟨rfl, hb⟩; refine ⟨_, rfl, ?_⟩; have n0_ := Aside0.mk (below_step q5x7_ hb); clear HB; have HB := n0_; clear n0_; (try clear hb); (try clear hb2); (try clear hk); (try clear hi)) | ((with_reducible refine gate_dst (N := 12) rfl ?_); refine box_event ?hg (N := 12) ?hd (cs := #[.int .i64 0, .int .i64 0]) (t := 28) ?hr ?_; (case hd => rfl); (case hg => rfl); (case hr => first | (go_simp; done) | (go_simp; rfl)); intro gb243 hg w11 hbox hb; have n0_ := Aside0.mk (below_step q5x7_ hb); have n1_ := Aside0.mk (hbox); have n2_ := Aside0.mk ((by rw [hg]; exact (below_size q5x7_) : w.heap.size ≤ gb243)); have n3_ := Aside0.mk ((by rw [hg]; exact (below_size q5x7_) : w.heap.size ≤ gb243)); clear HB; have HB := n0_; have BK243 := n1_; have GW243 := n2_; have GE243 := n3_; clear n0_ n1_ n2_ n3_; clear hb hbox hg; have hcz12_0 : w11.cell? ⟨gb243, 0, none⟩ = some (.int .i64 0) := (blk_cell BK243.out 0).trans rfl; have hcz12_1 : w11.cell? ⟨gb243, 1, none⟩ = some (.int .i64 0) := (blk_cell BK243.out 1).trans rfl; have hfz12_0 := blk_frozen BK243.out 0; have hfz12_1 := blk_frozen BK243.out 1) | ((with_reducible refine gate_callee (f := 65) rfl ?_); refine goesL_ (some 26) rfl rfl Try.func65 q18x7_ rfl #[.int .i64 a4, .int .i64 1, .int .i64 500] rfl q1x7_ ?_; (with_reducible refine (measure_within.calls a4 1 500 t244 _ A8.out).mono ?_); rintro e w' ⟨rfl, ⟨nd, rfl⟩⟩; refine ⟨_, rfl, ?_⟩))
    (try simp only [Act.put, List.setIfInBounds_toArray, List.set_cons_zero, List.set_cons_succ])
    have H := HC9.out
    clear HC9
    by_cases c13 : t244 = true
    · subst c13
      have H1 : (if (wrap64 (a0 + a1)) = 0 then (measure_Verdict.j0 k a0 a1 a2 a3 true) else (if (wrap64 (a2 + a3)) = 0 then (measure_Verdict.j0 k a0 a1 a2 a3 true) else ((measure_products.f k (IntKind.u64.wrap (t240)) 1000 (IntKind.u64.wrap (a4)) (IntKind.u64.wrap (t241))).bind fun t245 => (measure_Verdict.j0 k a0 a1 a2 a3 (decide (t245 > 0)))))) = some (r1, r2) := by rw [if_pos rfl] at H; exact H
      clear H
      have H := H1
      clear H1
      have HC14 := Aside0.mk H
      clear H
      go_upto_region 6 with (fail)
      go_cut [49] (fun v49 wc => ∃ (kq : Nat) (x49_13 : Bool), v49 = .bool x49_13 ∧ Aside0 (measure_Verdict.j0 kq a0 a1 a2 a3 x49_13 = some (r1, r2)) ∧ Aside0 (kq ≤ k) ∧ Aside0 (wc.heap[gb243]? = some (.cells #[.int .i64 t240, .int .i64 t241] 28 (0, 0))) ∧ Aside0 (Below w.heap.size w wc))
      case first =>
        have H := HC14.out
        clear HC14
        by_cases c15 : (wrap64 (a0 + a1)) = 0
        · rw [if_pos c15] at H
          have c15b0 : ((wrap64 (a0 + a1)) == 0) = true := beq_iff_eq.mpr c15
          have c15b1 : ((wrap64 (a0 + a1)) != 0) = false := bne_eq_false_iff_eq.mpr c15
          clear c15
          (first | rw [c15b0] | (simp only [i64_w, i32_w]; rw [c15b0]) | skip)
          as_aux_lemma =>
            have H' := Aside0.mk H
            clear H
            go_wp2
            go_meet
            case rel => exact ⟨_, (true), q8x7_, H', ⟨by first | omega | exact Nat.le_refl _⟩, ⟨q11x7_⟩, ⟨q7x7_⟩⟩
        rw [if_neg c15] at H
        have c15b0 : ((wrap64 (a0 + a1)) == 0) = false := beq_eq_false_iff_ne.mpr c15
        have c15b1 : ((wrap64 (a0 + a1)) != 0) = true := bne_iff_ne.mpr c15
        (first | rw [c15b0] | (simp only [i64_w, i32_w]; rw [c15b0]) | skip)
        by_cases c16 : (wrap64 (a2 + a3)) = 0
        · rw [if_pos c16] at H
          have c16b0 : ((wrap64 (a2 + a3)) == 0) = true := beq_iff_eq.mpr c16
          have c16b1 : ((wrap64 (a2 + a3)) != 0) = false := bne_eq_false_iff_eq.mpr c16
          clear c16
          as_aux_lemma =>
            have H' := Aside0.mk H
            clear H
            go_wp2
            go_meet
            case rel => exact ⟨_, (true), q8x7_, H', ⟨by first | omega | exact Nat.le_refl _⟩, ⟨q11x7_⟩, ⟨q7x7_⟩⟩
        rw [if_neg c16] at H
        have c16b0 : ((wrap64 (a2 + a3)) == 0) = false := beq_eq_false_iff_ne.mpr c16
        have c16b1 : ((wrap64 (a2 + a3)) != 0) = true := bne_iff_ne.mpr c16
        replace H := Option.bind_eq_some_iff.mp H
        obtain ⟨t245, A170, H⟩ := H
        replace H : (measure_Verdict.j0 k a0 a1 a2 a3 (decide (t245 > 0))) = some (r1, r2) := H
        have A17 := Aside0.mk A170
        clear A170
        as_aux_lemma =>
          have H' := Aside0.mk H
          clear H
          have hcz18_0 : w11.cell? ⟨gb243, 0, none⟩ = some (.int .i64 0) := (blk_cell BK243.out 0).trans rfl
          have hcz18_1 : w11.cell? ⟨gb243, 1, none⟩ = some (.int .i64 0) := (blk_cell BK243.out 1).trans rfl
          have hfz18_0 := blk_frozen BK243.out 0
          have hfz18_1 := blk_frozen BK243.out 1
          go_wp2_with (first | (go_at_call 81; (with_reducible refine (measure_products.calls k (IntKind.u64.wrap (t240)) 1000 (IntKind.u64.wrap (a4)) (IntKind.u64.wrap (t241)) t245 _ A17.out).mono ?_); rintro e w19 ⟨rfl, hb⟩; have n0_ := Aside0.mk (blk_below (g := gb243) (o := .cells #[.int .i64 t240, .int .i64 t241] 28 (0, 0)) q11x7_ hb); have n1_ := Aside0.mk (below_step q7x7_ hb); clear BK243; clear HB; have BK243 := n0_; have HB := n1_; clear n0_ n1_; (try clear hb); (try clear hb2); (try clear hk); (try clear hi)))
          go_meet
          case rel => exact ⟨_, (decide (t245 > 0)), q8x7_, H', ⟨by first | omega | exact Nat.le_refl _⟩, ⟨by (with_reducible repeat (first | refine blk_drewN ?_ _ | refine blk_drew ?_ | refine blk_alloc ?_ _)); exact BK243.out⟩, ⟨q7x7_⟩⟩
      clear HC14; (try clear c1); (try clear p2); (try clear c3); (try clear c6); (try clear p6); (try clear c7); (try clear c7b0); (try clear c7b1); (try clear c13); (try clear c15); (try clear c15b0); (try clear c15b1); (try clear c16); (try clear c16b0); (try clear c16b1); (try clear hcz12_0); (try clear hcz12_1); (try clear hcz18_0); (try clear hcz18_1); (try clear hfz12_0); (try clear hfz12_1); (try clear hfz18_0); (try clear hfz18_1)
      obtain ⟨kq, x49_13, rfl, HA, HJ13, BK243, HB⟩ := hcut
      rcases kq with _ | kj13
      · exact absurd HA.out (by simp [measure_Verdict.j0])
      have H := HA.out
      clear HA
      simp only [measure_Verdict.j0] at H
      by_cases c20 : x49_13 = true
      · subst c20
        have H1 : (some (0, 0)) = some (r1, r2) := by rw [if_pos rfl] at H; exact H
        clear H
        have H := H1
        clear H1
        as_aux_lemma =>
          simp only [Option.some.injEq, Prod.mk.injEq] at H
          obtain ⟨rfl, rfl⟩ := H
          go_wp2
          go_ret2
          exact ⟨q12x7_, q7x7_⟩
      replace c20 := Bool.eq_false_iff.mpr c20
      subst c20
      have H1 : ((cmp_Compare_int.f (wrap64 (a0 * (wrap64 (a2 + a3)))) (wrap64 (a2 * (wrap64 (a0 + a1))))).bind fun t246 => (if t246 = 1 then (some (1, 0)) else (if t246 = (-1) then (some (2, 0)) else (some (0, 0))))) = some (r1, r2) := by rw [if_neg (show ¬ (false = true) by decide)] at H; exact H
      clear H
      have H := H1
      clear H1
      replace H := Option.bind_eq_some_iff.mp H
      obtain ⟨t246, A210, H⟩ := H
      replace H : (if t246 = 1 then (some (1, 0)) else (if t246 = (-1) then (some (2, 0)) else (some (0, 0)))) = some (r1, r2) := H
      have A21 := Aside0.mk A210
      clear A210
      by_cases c22 : t246 = 1
      · rw [if_pos c22] at H
        have c22b0 : (t246 == 1) = true := beq_iff_eq.mpr c22
        have c22b1 : (t246 != 1) = false := bne_eq_false_iff_eq.mpr c22
        clear c22
        as_aux_lemma =>
          simp only [Option.some.injEq, Prod.mk.injEq] at H
          obtain ⟨rfl, rfl⟩ := H
          go_wp2_with (first | ((with_reducible refine gate_callee (f := 71) rfl ?_); refine goesL_ (some 60) rfl rfl Try.func71 q18x7_ rfl #[.int .i64 (wrap64 (a0 * (wrap64 (a2 + a3)))), .int .i64 (wrap64 (a2 * (wrap64 (a0 + a1))))] rfl q1x7_ ?_; (with_reducible refine (cmp_Compare_int.calls (wrap64 (a0 * (wrap64 (a2 + a3)))) (wrap64 (a2 * (wrap64 (a0 + a1)))) t246 _ A21.out).mono ?_); rintro e w' ⟨rfl, ⟨nd, rfl⟩⟩; refine ⟨_, rfl, ?_⟩))
          go_ret2
          exact ⟨q12x7_, q7x7_⟩
      rw [if_neg c22] at H
      have c22b0 : (t246 == 1) = false := beq_eq_false_iff_ne.mpr c22
      have c22b1 : (t246 != 1) = true := bne_iff_ne.mpr c22
      by_cases c23 : t246 = (-1)
      · rw [if_pos c23] at H
        have c23b0 : (t246 == (-1)) = true := beq_iff_eq.mpr c23
        have c23b1 : (t246 != (-1)) = false := bne_eq_false_iff_eq.mpr c23
        clear c23
        as_aux_lemma =>
          simp only [Option.some.injEq, Prod.mk.injEq] at H
          obtain ⟨rfl, rfl⟩ := H
          go_wp2_with (first | ((with_reducible refine gate_callee (f := 71) rfl ?_); refine goesL_ (some 60) rfl rfl Try.func71 q18x7_ rfl #[.int .i64 (wrap64 (a0 * (wrap64 (a2 + a3)))), .int .i64 (wrap64 (a2 * (wrap64 (a0 + a1))))] rfl q1x7_ ?_; (with_reducible refine (cmp_Compare_int.calls (wrap64 (a0 * (wrap64 (a2 + a3)))) (wrap64 (a2 * (wrap64 (a0 + a1)))) t246 _ A21.out).mono ?_); rintro e w' ⟨rfl, ⟨nd, rfl⟩⟩; refine ⟨_, rfl, ?_⟩))
          go_ret2
          exact ⟨q12x7_, q7x7_⟩
      rw [if_neg c23] at H
      have c23b0 : (t246 == (-1)) = false := beq_eq_false_iff_ne.mpr c23
      have c23b1 : (t246 != (-1)) = true := bne_iff_ne.mpr c23
      as_aux_lemma =>
        simp only [Option.some.injEq, Prod.mk.injEq] at H
        obtain ⟨rfl, rfl⟩ := H
        go_wp2_with (first | ((with_reducible refine gate_callee (f := 71) rfl ?_); refine goesL_ (some 60) rfl rfl Try.func71 q18x7_ rfl #[.int .i64 (wrap64 (a0 * (wrap64 (a2 + a3)))), .int .i64 (wrap64 (a2 * (wrap64 (a0 + a1))))] rfl q1x7_ ?_; (with_reducible refine (cmp_Compare_int.calls (wrap64 (a0 * (wrap64 (a2 + a3)))) (wrap64 (a2 * (wrap64 (a0 + a1)))) t246 _ A21.out).mono ?_); rintro e w' ⟨rfl, ⟨nd, rfl⟩⟩; refine ⟨_, rfl, ?_⟩))
        go_ret2
        exact ⟨q12x7_, q7x7_⟩
    replace c13 := Bool.eq_false_iff.mpr c13
    subst c13
    have H1 : (some (0, 1)) = some (r1, r2) := by rw [if_neg (show ¬ (false = true) by decide)] at H; exact H
    clear H
    have H := H1
    clear H1
    as_aux_lemma =>
      simp only [Option.some.injEq, Prod.mk.injEq] at H
      obtain ⟨rfl, rfl⟩ := H
      go_wp2
      go_ret2
      exact ⟨q12x7_, q7x7_⟩
  rw [if_neg c7] at H
  have c7b0 : (t242 == 0) = false := beq_eq_false_iff_ne.mpr c7
  have c7b1 : (t242 != 0) = true := bne_iff_ne.mpr c7
  as_aux_lemma =>
    simp only [Option.some.injEq, Prod.mk.injEq] at H
    obtain ⟨rfl, rfl⟩ := H
    go_enter Try.func37, Try.ntmps37
    go_wp2_with (first | ((with_reducible refine gate_callee (f := 13) rfl ?_); refine goesL_ (some 19) rfl rfl Try.func13 q18x7_ rfl #[.int .i64 a0, .int .i64 a1, .int .i64 a2, .int .i64 a3] rfl q1x7_ ?_; (with_reducible refine (measure_Exact.calls k a0 a1 a2 a3 t240 t241 t242 _ A6.out).mono ?_); rintro e w24 ⟨rfl, hb⟩; refine ⟨_, rfl, ?_⟩; have n0_ := Aside0.mk (below_step q5x7_ hb); clear HB; have HB := n0_; clear n0_; (try clear hb); (try clear hb2); (try clear hk); (try clear hi)) | ((with_reducible refine gate_dst (N := 12) rfl ?_); refine box_event ?hg (N := 12) ?hd (cs := #[.int .i64 0, .int .i64 0]) (t := 28) ?hr ?_; (case hd => rfl); (case hg => rfl); (case hr => first | (go_simp; done) | (go_simp; rfl)); intro gb243 hg w25 hbox hb; have n0_ := Aside0.mk (below_step q5x7_ hb); have n1_ := Aside0.mk (hbox); have n2_ := Aside0.mk ((by rw [hg]; exact (below_size q5x7_) : w.heap.size ≤ gb243)); have n3_ := Aside0.mk ((by rw [hg]; exact (below_size q5x7_) : w.heap.size ≤ gb243)); clear HB; have HB := n0_; have BK243 := n1_; have GW243 := n2_; have GE243 := n3_; clear n0_ n1_ n2_ n3_; clear hb hbox hg; have hcz26_0 : w25.cell? ⟨gb243, 0, none⟩ = some (.int .i64 0) := (blk_cell BK243.out 0).trans rfl; have hcz26_1 : w25.cell? ⟨gb243, 1, none⟩ = some (.int .i64 0) := (blk_cell BK243.out 1).trans rfl; have hfz26_0 := blk_frozen BK243.out 0; have hfz26_1 := blk_frozen BK243.out 1))
    go_ret2
    exact ⟨q12x7_, q7x7_⟩

/-! ### handref1_floor: function 70 -/
def handref1_floor.f (a0 : Int) (a1 : Int) : Option (Int) := if a1 = 0 then (none) else (if (Int.tmod a0 a1) < 0 then (some (wrap64 ((wrap64 (Int.tdiv a0 a1)) - 1))) else (some (wrap64 (Int.tdiv a0 a1))))
set_option maxHeartbeats 8000000 in
set_option maxRecDepth 100000 in
theorem handref1_floor.calls (a0 : Int) (a1 : Int) (r : Int) (w : World) (h : handref1_floor.f a0 a1 = some r) :
    Calls Try.prog 70 #[.int .i64 a0, .int .i64 a1] w fun e w' => e = .returned (.int .i64 r) ∧ Drawn0 w w' := by
  have H : (if a1 = 0 then (none) else (if (Int.tmod a0 a1) < 0 then (some (wrap64 ((wrap64 (Int.tdiv a0 a1)) - 1))) else (some (wrap64 (Int.tdiv a0 a1))))) = some r := h
  clear h
  by_cases c3 : a1 = 0
  · rw [if_pos c3] at H
    exact absurd H (by simp)
  rw [if_neg c3] at H
  have c3b0 : (a1 == 0) = false := beq_eq_false_iff_ne.mpr c3
  have c3b1 : (a1 != 0) = true := bne_iff_ne.mpr c3
  by_cases c4 : (Int.tmod a0 a1) < 0
  · rw [if_pos c4] at H
    have c4b0 : decide ((Int.tmod a0 a1) < 0) = true := decide_eq_true c4
    clear c4
    as_aux_lemma =>
      obtain rfl := Option.some.inj H
      go_enter Try.func70, Try.ntmps70
      go_wp2
      go_ret
      exact ⟨q8x7_, q10x7_⟩
  rw [if_neg c4] at H
  have c4b0 : decide ((Int.tmod a0 a1) < 0) = false := decide_eq_false c4
  clear c4
  as_aux_lemma =>
    obtain rfl := Option.some.inj H
    go_enter Try.func70, Try.ntmps70
    go_wp2
    go_ret
    exact ⟨q8x7_, q10x7_⟩

end Go.Proofs.Ytihnjdhjkpmggaa.PTestsExact
