-- By a program of this session (an altered copy of the printer of the kit); Lean checks it.
import Derived.Test.YtihnjdhjkpmggaaPTestsExactx0
import Derived.Test.YtihnjdhjkpmggaaPTestsExactx3
import Derived.Test.YtihnjdhjkpmggaaPTestsExactx4
import Derived.Test.YtihnjdhjkpmggaaPTestsExactx5
import Derived.Test.YtihnjdhjkpmggaaPTestsExactx6
import Derived.Test.YtihnjdhjkpmggaaPTestsExactx7
namespace Go.Proofs.Ytihnjdhjkpmggaa.PTestsExact
open Go.RowKit Go.Proofs.YtihnjdhjkpmggaaW.PrintWords Go.Proofs.YtihnjdhjkpmggaaW.PrintLast Go.Proofs.YtihnjdhjkpmggaaW.PrintMore
attribute [local go_sem] max2_int min2_int max_two min_two max_three min_three max_four min_four   -- for this text's walks alone
set_option linter.unusedVariables false
set_option linter.unusedSimpArgs false
theorem q1x8_ {p : Prop} (h : p := by repeat (first | (with_reducible first | exact HB.out | apply below_alloc | apply pw_below_drewN | apply below_drew1) | exact HB.out)) : p := h
theorem q2x8_ {p : Prop} (h : p := by repeat (first | (with_reducible first | exact HB.out | apply below_alloc | apply pw_below_drewN | apply below_drew1 | refine below_set ?_ GE268.out) | exact HB.out)) : p := h
theorem q3x8_ {p : Prop} (h : p := by repeat (first | (with_reducible first | exact HB.out | apply below_alloc | apply pw_below_drewN | apply below_drew1 | refine below_set ?_ GE275.out) | exact HB.out)) : p := h
theorem q4x8_ {p : Prop} (h : p := by repeat (first | (with_reducible first | exact HB.out | apply below_alloc | apply pw_below_drewN | apply below_drew1 | refine below_set ?_ GE247.out) | exact HB.out)) : p := h
theorem q5x8_ {p : Prop} (h : p := by (with_reducible repeat (first | refine blk_drewN ?_ _ | refine blk_drew ?_ | refine blk_alloc ?_ _)); exact BK247.out) : p := h
theorem q6x8_ {p : Prop} (h : p := by (with_reducible repeat (first | refine blk_drewN ?_ _ | refine blk_drew ?_ | refine blk_alloc ?_ _)); refine blk_put (cs := #[.int .i64 0, .int .i64 x276001_1]) ?_ 1 _ rfl; (with_reducible repeat (first | refine blk_drewN ?_ _ | refine blk_drew ?_ | refine blk_alloc ?_ _)); refine blk_put (cs := #[.int .i64 x276000_1, .int .i64 x276001_1]) ?_ 0 _ rfl; (with_reducible repeat (first | refine blk_drewN ?_ _ | refine blk_drew ?_ | refine blk_alloc ?_ _)); refine blk_far ?_ NB275_280.out _; (with_reducible repeat (first | refine blk_drewN ?_ _ | refine blk_drew ?_ | refine blk_alloc ?_ _)); refine blk_far ?_ NB275_280.out _; (with_reducible repeat (first | refine blk_drewN ?_ _ | refine blk_drew ?_ | refine blk_alloc ?_ _)); exact BK275.out) : p := h
theorem q7x8_ {p : Prop} (h : p := by (with_reducible repeat (first | refine blk_drewN ?_ _ | refine blk_drew ?_ | refine blk_alloc ?_ _)); exact BK275.out) : p := h
theorem q8x8_ {p : Prop} (h : p := by rw [← hq_]; exact (by (with_reducible repeat (first | refine blk_drewN ?_ _ | refine blk_drew ?_ | refine blk_alloc ?_ _)); exact BK268.out)) : p := h
theorem q9x8_ {p : Prop} (h : p := by first | rfl | (simp [errW_none, errW_some] <;> rfl) | (simp [*, errW_none, errW_some] <;> rfl)) : p := h
theorem q10x8_ {p : Prop} (h : p := by (try simp only [List.map_toArray, List.map_cons, List.map_nil]); first | done | rfl | (simp only [List.length_drop, List.length_take]; rfl)) : p := h
theorem q11x8_ {p : Prop} (h : p := by repeat (first | (with_reducible first | exact HB.out | apply below_alloc | apply pw_below_drewN | apply below_drew1 | refine below_set ?_ GE247.out | refine below_set ?_ GE248.out) | exact HB.out)) : p := h
theorem q12x8_ {p : Prop} (h : p := by (with_reducible repeat (first | refine blk_drewN ?_ _ | refine blk_drew ?_ | refine blk_alloc ?_ _)); refine blk_put (cs := #[.int .i64 0, .int .i64 0]) ?_ 1 _ rfl; (with_reducible repeat (first | refine blk_drewN ?_ _ | refine blk_drew ?_ | refine blk_alloc ?_ _)); refine blk_put (cs := #[.int .i64 0, .int .i64 0]) ?_ 0 _ rfl; (with_reducible repeat (first | refine blk_drewN ?_ _ | refine blk_drew ?_ | refine blk_alloc ?_ _)); exact BK268.out) : p := h
theorem q13x8_ {p : Prop} (h : p := by repeat (first | (with_reducible first | exact HB.out | apply below_alloc | apply pw_below_drewN | apply below_drew1 | refine below_set ?_ GE275.out | refine below_set ?_ GE280.out) | exact HB.out)) : p := h
theorem q14x8_ {p : Prop} (h : p := by (with_reducible repeat (first | apply Kd.R_alloc | apply Kd.R_drewN | apply Kd.R_drew)); exact HO_18.out) : p := h
theorem q15x8_ {p : Prop} (h : p := by (with_reducible repeat (first | refine blk_drewN ?_ _ | refine blk_drew ?_ | refine blk_alloc ?_ _)); exact BK248.out) : p := h
theorem q16x8_ {p : Prop} (h : p := by first | (with_reducible assumption) | assumption) : p := h
theorem q17x8_ {p : Prop} (h : p := by first | rfl | (simp; done) | (simp [*]; done)) : p := h
theorem q18x8_ {p : Prop} (h : p := by rw [← hq_]; exact q2x8_) : p := h

/-! ### handref1_CompareOf: function 23 -/
mutual
def handref1_CompareOf.j0 : Nat → Int → Int → Bool → Int → Int → Int → Int → Option (Int)
  | 0, _, _, _, _, _, _, _ => none
  | k + 1, x7, x8, x40, x248000, x248001, x249000, x249001 => if x40 = true then ((cmp_Compare_int.f x7 x8).bind fun t251 => (some t251)) else ((handref1_CompareOf.f k x249001 x8 x248001 x7).bind fun t252 => (some t252))
def handref1_CompareOf.f : Nat → Int → Int → Int → Int → Option (Int)
  | 0, _, _, _, _ => none
  | k + 1, a0_0, a0_1, a1_0, a1_1 => (handref1_floor.f a0_0 a0_1).bind fun t249 => ((handref1_floor.f a1_0 a1_1).bind fun t250 => (if t249 = t250 then (if (wrap64 (a0_0 - (wrap64 (t249 * a0_1)))) = 0 then (handref1_CompareOf.j0 k (wrap64 (a0_0 - (wrap64 (t249 * a0_1)))) (wrap64 (a1_0 - (wrap64 (t250 * a1_1)))) true a0_0 a0_1 a1_0 a1_1) else (handref1_CompareOf.j0 k (wrap64 (a0_0 - (wrap64 (t249 * a0_1)))) (wrap64 (a1_0 - (wrap64 (t250 * a1_1)))) ((wrap64 (a1_0 - (wrap64 (t250 * a1_1)))) == 0) a0_0 a0_1 a1_0 a1_1)) else ((cmp_Compare_int.f t249 t250).bind fun t253 => (some t253))))
end
theorem handref1_CompareOf.mono_l : ∀ k, (∀ y0 y1 y2 y3, LeO (handref1_CompareOf.f k y0 y1 y2 y3) (handref1_CompareOf.f (k + 1) y0 y1 y2 y3)) ∧ (∀ y0 y1 y2 y3 y4 y5 y6, LeO (handref1_CompareOf.j0 k y0 y1 y2 y3 y4 y5 y6) (handref1_CompareOf.j0 (k + 1) y0 y1 y2 y3 y4 y5 y6))
  | 0 => ⟨fun _ _ _ _ r h => by simp [handref1_CompareOf.f] at h, fun _ _ _ _ _ _ _ r h => by simp [handref1_CompareOf.j0] at h⟩
  | k + 1 => by
    obtain ⟨ih0, ih1⟩ := handref1_CompareOf.mono_l k
    refine ⟨?_, ?_⟩
    · intro y0 y1 y2 y3
      unfold handref1_CompareOf.f
      repeat' first
      | (with_reducible exact ih0 _ _ _ _)
      | (with_reducible exact ih1 _ _ _ _ _ _ _)
      | (with_reducible exact LeO.refl _)
      | (with_reducible exact LeO.none _)
      | (with_reducible refine LeO.ite ?_ ?_)
      | (with_reducible refine LeO.bind ?_ (fun _ => ?_))
      | exact ih0 _ _ _ _
      | exact ih1 _ _ _ _ _ _ _
      | exact LeO.none _
      | refine LeO.ite ?_ ?_
      | refine LeO.bind ?_ (fun _ => ?_)
    · intro y0 y1 y2 y3 y4 y5 y6
      unfold handref1_CompareOf.j0
      repeat' first
      | (with_reducible exact ih0 _ _ _ _)
      | (with_reducible exact ih1 _ _ _ _ _ _ _)
      | (with_reducible exact LeO.refl _)
      | (with_reducible exact LeO.none _)
      | (with_reducible refine LeO.ite ?_ ?_)
      | (with_reducible refine LeO.bind ?_ (fun _ => ?_))
      | exact ih0 _ _ _ _
      | exact ih1 _ _ _ _ _ _ _
      | exact LeO.none _
      | refine LeO.ite ?_ ?_
      | refine LeO.bind ?_ (fun _ => ?_)
theorem handref1_CompareOf.mono : ∀ a0 a1 a2 a3 k, LeO (handref1_CompareOf.f k a0 a1 a2 a3) (handref1_CompareOf.f (k + 1) a0 a1 a2 a3) := by
  intro a0 a1 a2 a3 k
  obtain ⟨ih0, ih1⟩ := handref1_CompareOf.mono_l k
  exact ih0 a0 a1 a2 a3
set_option maxHeartbeats 8000000 in
set_option maxRecDepth 100000 in
theorem handref1_CompareOf.calls (k : Nat) : ∀ (a0_0 : Int) (a0_1 : Int) (a1_0 : Int) (a1_1 : Int) (r : Int) (w : World) (h : handref1_CompareOf.f k a0_0 a0_1 a1_0 a1_1 = some r),
    Calls Try.prog 23 #[.agg #[.int .i64 a0_0, .int .i64 a0_1], .agg #[.int .i64 a1_0, .int .i64 a1_1]] w fun e w' => e = .returned (.int .i64 r) ∧ Below w.heap.size w w' := by
  induction k using Nat.strongRecOn with
  | _ k ih =>
  intro a0_0 a0_1 a1_0 a1_1 r w h
  cases k with
  | zero => exact absurd h (by simp [handref1_CompareOf.f])
  | succ k =>
  simp only [handref1_CompareOf.f] at h
  have hu28 := Try.underlying28
  have HB := Aside0.mk (Below.refl w.heap.size w)
  have H : ((handref1_floor.f a0_0 a0_1).bind fun t249 => ((handref1_floor.f a1_0 a1_1).bind fun t250 => (if t249 = t250 then (if (wrap64 (a0_0 - (wrap64 (t249 * a0_1)))) = 0 then (handref1_CompareOf.j0 k (wrap64 (a0_0 - (wrap64 (t249 * a0_1)))) (wrap64 (a1_0 - (wrap64 (t250 * a1_1)))) true a0_0 a0_1 a1_0 a1_1) else (handref1_CompareOf.j0 k (wrap64 (a0_0 - (wrap64 (t249 * a0_1)))) (wrap64 (a1_0 - (wrap64 (t250 * a1_1)))) ((wrap64 (a1_0 - (wrap64 (t250 * a1_1)))) == 0) a0_0 a0_1 a1_0 a1_1)) else ((cmp_Compare_int.f t249 t250).bind fun t253 => (some t253))))) = some r := h
  clear h
  replace H := Option.bind_eq_some_iff.mp H
  obtain ⟨t249, A30, H⟩ := H
  replace H : ((handref1_floor.f a1_0 a1_1).bind fun t250 => (if t249 = t250 then (if (wrap64 (a0_0 - (wrap64 (t249 * a0_1)))) = 0 then (handref1_CompareOf.j0 k (wrap64 (a0_0 - (wrap64 (t249 * a0_1)))) (wrap64 (a1_0 - (wrap64 (t250 * a1_1)))) true a0_0 a0_1 a1_0 a1_1) else (handref1_CompareOf.j0 k (wrap64 (a0_0 - (wrap64 (t249 * a0_1)))) (wrap64 (a1_0 - (wrap64 (t250 * a1_1)))) ((wrap64 (a1_0 - (wrap64 (t250 * a1_1)))) == 0) a0_0 a0_1 a1_0 a1_1)) else ((cmp_Compare_int.f t249 t250).bind fun t253 => (some t253)))) = some r := H
  have A3 := Aside0.mk A30
  clear A30
  replace H := Option.bind_eq_some_iff.mp H
  obtain ⟨t250, A40, H⟩ := H
  replace H : (if t249 = t250 then (if (wrap64 (a0_0 - (wrap64 (t249 * a0_1)))) = 0 then (handref1_CompareOf.j0 k (wrap64 (a0_0 - (wrap64 (t249 * a0_1)))) (wrap64 (a1_0 - (wrap64 (t250 * a1_1)))) true a0_0 a0_1 a1_0 a1_1) else (handref1_CompareOf.j0 k (wrap64 (a0_0 - (wrap64 (t249 * a0_1)))) (wrap64 (a1_0 - (wrap64 (t250 * a1_1)))) ((wrap64 (a1_0 - (wrap64 (t250 * a1_1)))) == 0) a0_0 a0_1 a1_0 a1_1)) else ((cmp_Compare_int.f t249 t250).bind fun t253 => (some t253))) = some r := H
  have A4 := Aside0.mk A40
  clear A40
  by_cases c5 : t249 = t250
  · rw [if_pos c5] at H
    have c5b0 : (t249 == t250) = true := beq_iff_eq.mpr c5
    have c5b1 : (t249 != t250) = false := bne_eq_false_iff_eq.mpr c5
    clear c5
    have HC6 := Aside0.mk H
    clear H
    go_enter Try.func23, Try.ntmps23
    go_upto_region 5 with (first | ((with_reducible refine gate_dst (N := 2) rfl ?_); refine box_event ?hg (N := 2) ?hd (cs := #[.int .i64 a0_0, .int .i64 a0_1]) (t := 28) ?hr ?_; (case hd => rfl); (case hg => rfl); (case hr => first | (go_simp; done) | (go_simp; rfl)); intro gb247 hg w7 hbox hb; have n0_ := Aside0.mk (below_step q1x8_ hb); have n1_ := Aside0.mk (hbox); have n2_ := Aside0.mk ((by rw [hg]; exact (below_size q1x8_) : w.heap.size ≤ gb247)); have n3_ := Aside0.mk ((by rw [hg]; exact (below_size q1x8_) : w.heap.size ≤ gb247)); clear HB; have HB := n0_; have BK247 := n1_; have GW247 := n2_; have GE247 := n3_; clear n0_ n1_ n2_ n3_; clear hb hbox hg) | ((with_reducible refine gate_dst (N := 3) rfl ?_); refine box_event ?hg (N := 3) ?hd (cs := #[.int .i64 a1_0, .int .i64 a1_1]) (t := 28) ?hr ?_; (case hd => rfl); (case hg => rfl); (case hr => first | (go_simp; done) | (go_simp; rfl)); intro gb248 hg w8 hbox hb; have n0_ := Aside0.mk (blk_below (g := gb247) (o := .cells #[.int .i64 a0_0, .int .i64 a0_1] 28 (0, 0)) q5x8_ hb); have n1_ := Aside0.mk (below_step q4x8_ hb); have n2_ := Aside0.mk (hbox); have n3_ := Aside0.mk ((by rw [hg]; exact (below_size q4x8_) : w.heap.size ≤ gb248)); have n4_ := Aside0.mk ((by rw [hg]; exact (below_size q4x8_) : w.heap.size ≤ gb248)); have n5_ := Aside0.mk ((by rw [hg]; exact Nat.ne_of_lt (blk_lt (g := gb247) (o := .cells #[.int .i64 a0_0, .int .i64 a0_1] 28 (0, 0)) q5x8_) : gb247 ≠ gb248)); have n6_ := Aside0.mk ((by rw [hg]; exact Nat.ne_of_gt (blk_lt (g := gb247) (o := .cells #[.int .i64 a0_0, .int .i64 a0_1] 28 (0, 0)) q5x8_) : gb248 ≠ gb247)); clear BK247; clear HB; have BK247 := n0_; have HB := n1_; have BK248 := n2_; have GW248 := n3_; have GE248 := n4_; have NB247_248 := n5_; have NB248_247 := n6_; clear n0_ n1_ n2_ n3_ n4_ n5_ n6_; clear hb hbox hg; have hnb9 := NB247_248.out; have hnc9 := NB248_247.out; have hcz10_0 : w8.cell? ⟨gb247, 0, none⟩ = some (.int .i64 a0_0) := (blk_cell BK247.out 0).trans rfl; have hcz10_1 : w8.cell? ⟨gb247, 1, none⟩ = some (.int .i64 a0_1) := (blk_cell BK247.out 1).trans rfl; have hfz10_0 := blk_frozen BK247.out 0; have hfz10_1 := blk_frozen BK247.out 1) | (go_at_call 70; (with_reducible refine (handref1_floor.calls a0_0 a0_1 t249 _ A3.out).mono ?_); rintro e w' ⟨rfl, ⟨nd, rfl⟩⟩; (try first | exact ⟨rfl, _, World.drewN_drewN _ _ _⟩ | exact ⟨rfl, _, Eq.trans (World.drewN_drewN _ _ _) (congrArg (World.drewN _) (Nat.add_assoc _ _ _))⟩); have hcz11_0 : w8.cell? ⟨gb248, 0, none⟩ = some (.int .i64 a1_0) := (blk_cell BK248.out 0).trans rfl; have hcz11_1 : w8.cell? ⟨gb248, 1, none⟩ = some (.int .i64 a1_1) := (blk_cell BK248.out 1).trans rfl; have hfz11_0 := blk_frozen BK248.out 0; have hfz11_1 := blk_frozen BK248.out 1) | (go_at_call 70; (with_reducible refine (handref1_floor.calls a1_0 a1_1 t250 _ A4.out).mono ?_); rintro e w' ⟨rfl, ⟨nd, rfl⟩⟩; (try first | exact ⟨rfl, _, World.drewN_drewN _ _ _⟩ | exact ⟨rfl, _, Eq.trans (World.drewN_drewN _ _ _) (congrArg (World.drewN _) (Nat.add_assoc _ _ _))⟩)))
    repeat (go_quiet (first | ((with_reducible refine gate_dst (N := 2) rfl ?_); refine box_event ?hg (N := 2) ?hd (cs := #[.int .i64 a0_0, .int .i64 a0_1]) (t := 28) ?hr ?_; (case hd => rfl); (case hg => rfl); (case hr => first | (go_simp; done) | (go_simp; rfl)); intro gb247 hg w7 hbox hb; have n0_ := Aside0.mk (below_step q1x8_ hb); have n1_ := Aside0.mk (hbox); have n2_ := Aside0.mk ((by rw [hg]; exact (below_size q1x8_) : w.heap.size ≤ gb247)); have n3_ := Aside0.mk ((by rw [hg]; exact (below_size q1x8_) : w.heap.size ≤ gb247)); clear HB; have HB := n0_; have BK247 := n1_; have GW247 := n2_; have GE247 := n3_; clear n0_ n1_ n2_ n3_; clear hb hbox hg) | ((with_reducible refine gate_dst (N := 3) rfl ?_); refine box_event ?hg (N := 3) ?hd (cs := #[.int .i64 a1_0, .int .i64 a1_1]) (t := 28) ?hr ?_; (case hd => rfl); (case hg => rfl); (case hr => first | (go_simp; done) | (go_simp; rfl)); intro gb248 hg w8 hbox hb; have n0_ := Aside0.mk (blk_below (g := gb247) (o := .cells #[.int .i64 a0_0, .int .i64 a0_1] 28 (0, 0)) q5x8_ hb); have n1_ := Aside0.mk (below_step q4x8_ hb); have n2_ := Aside0.mk (hbox); have n3_ := Aside0.mk ((by rw [hg]; exact (below_size q4x8_) : w.heap.size ≤ gb248)); have n4_ := Aside0.mk ((by rw [hg]; exact (below_size q4x8_) : w.heap.size ≤ gb248)); have n5_ := Aside0.mk ((by rw [hg]; exact Nat.ne_of_lt (blk_lt (g := gb247) (o := .cells #[.int .i64 a0_0, .int .i64 a0_1] 28 (0, 0)) q5x8_) : gb247 ≠ gb248)); have n6_ := Aside0.mk ((by rw [hg]; exact Nat.ne_of_gt (blk_lt (g := gb247) (o := .cells #[.int .i64 a0_0, .int .i64 a0_1] 28 (0, 0)) q5x8_) : gb248 ≠ gb247)); clear BK247; clear HB; have BK247 := n0_; have HB := n1_; have BK248 := n2_; have GW248 := n3_; have GE248 := n4_; have NB247_248 := n5_; have NB248_247 := n6_; clear n0_ n1_ n2_ n3_ n4_ n5_ n6_; clear hb hbox hg; have hnb9 := NB247_248.out; have hnc9 := NB248_247.out; have hcz10_0 : w8.cell? ⟨gb247, 0, none⟩ = some (.int .i64 a0_0) := (blk_cell BK247.out 0).trans rfl; have hcz10_1 : w8.cell? ⟨gb247, 1, none⟩ = some (.int .i64 a0_1) := (blk_cell BK247.out 1).trans rfl; have hfz10_0 := blk_frozen BK247.out 0; have hfz10_1 := blk_frozen BK247.out 1) | (go_at_call 70; (with_reducible refine (handref1_floor.calls a0_0 a0_1 t249 _ A3.out).mono ?_); rintro e w' ⟨rfl, ⟨nd, rfl⟩⟩; (try first | exact ⟨rfl, _, World.drewN_drewN _ _ _⟩ | exact ⟨rfl, _, Eq.trans (World.drewN_drewN _ _ _) (congrArg (World.drewN _) (Nat.add_assoc _ _ _))⟩); have hcz11_0 : w8.cell? ⟨gb248, 0, none⟩ = some (.int .i64 a1_0) := (blk_cell BK248.out 0).trans rfl; have hcz11_1 : w8.cell? ⟨gb248, 1, none⟩ = some (.int .i64 a1_1) := (blk_cell BK248.out 1).trans rfl; have hfz11_0 := blk_frozen BK248.out 0; have hfz11_1 := blk_frozen BK248.out 1) | (go_at_call 70; (with_reducible refine (handref1_floor.calls a1_0 a1_1 t250 _ A4.out).mono ?_); rintro e w' ⟨rfl, ⟨nd, rfl⟩⟩; (try first | exact ⟨rfl, _, World.drewN_drewN _ _ _⟩ | exact ⟨rfl, _, Eq.trans (World.drewN_drewN _ _ _) (congrArg (World.drewN _) (Nat.add_assoc _ _ _))⟩))); go_upto_region 5 with (first | ((with_reducible refine gate_dst (N := 2) rfl ?_); refine box_event ?hg (N := 2) ?hd (cs := #[.int .i64 a0_0, .int .i64 a0_1]) (t := 28) ?hr ?_; (case hd => rfl); (case hg => rfl); (case hr => first | (go_simp; done) | (go_simp; rfl)); intro gb247 hg w7 hbox hb; have n0_ := Aside0.mk (below_step q1x8_ hb); have n1_ := Aside0.mk (hbox); have n2_ := Aside0.mk ((by rw [hg]; exact (below_size q1x8_) : w.heap.size ≤ gb247)); have n3_ := Aside0.mk ((by rw [hg]; exact (below_size q1x8_) : w.heap.size ≤ gb247)); clear HB; have HB := n0_; have BK247 := n1_; have GW247 := n2_; have GE247 := n3_; clear n0_ n1_ n2_ n3_; clear hb hbox hg) | ((with_reducible refine gate_dst (N := 3) rfl ?_); refine box_event ?hg (N := 3) ?hd (cs := #[.int .i64 a1_0, .int .i64 a1_1]) (t := 28) ?hr ?_; (case hd => rfl); (case hg => rfl); (case hr => first | (go_simp; done) | (go_simp; rfl)); intro gb248 hg w8 hbox hb; have n0_ := Aside0.mk (blk_below (g := gb247) (o := .cells #[.int .i64 a0_0, .int .i64 a0_1] 28 (0, 0)) q5x8_ hb); have n1_ := Aside0.mk (below_step q4x8_ hb); have n2_ := Aside0.mk (hbox); have n3_ := Aside0.mk ((by rw [hg]; exact (below_size q4x8_) : w.heap.size ≤ gb248)); have n4_ := Aside0.mk ((by rw [hg]; exact (below_size q4x8_) : w.heap.size ≤ gb248)); have n5_ := Aside0.mk ((by rw [hg]; exact Nat.ne_of_lt (blk_lt (g := gb247) (o := .cells #[.int .i64 a0_0, .int .i64 a0_1] 28 (0, 0)) q5x8_) : gb247 ≠ gb248)); have n6_ := Aside0.mk ((by rw [hg]; exact Nat.ne_of_gt (blk_lt (g := gb247) (o := .cells #[.int .i64 a0_0, .int .i64 a0_1] 28 (0, 0)) q5x8_) : gb248 ≠ gb247)); clear BK247; clear HB; have BK247 := n0_; have HB := n1_; have BK248 := n2_; have GW248 := n3_; have GE248 := n4_; have NB247_248 := n5_; have NB248_247 := n6_; clear n0_ n1_ n2_ n3_ n4_ n5_ n6_; clear hb hbox hg; have hnb9 := NB247_248.out; have hnc9 := NB248_247.out; have hcz10_0 : w8.cell? ⟨gb247, 0, none⟩ = some (.int .i64 a0_0) := (blk_cell BK247.out 0).trans rfl; have hcz10_1 : w8.cell? ⟨gb247, 1, none⟩ = some (.int .i64 a0_1) := (blk_cell BK247.out 1).trans rfl; have hfz10_0 := blk_frozen BK247.out 0; have hfz10_1 := blk_frozen BK247.out 1) | (go_at_call 70; (with_reducible refine (handref1_floor.calls a0_0 a0_1 t249 _ A3.out).mono ?_); rintro e w' ⟨rfl, ⟨nd, rfl⟩⟩; (try first | exact ⟨rfl, _, World.drewN_drewN _ _ _⟩ | exact ⟨rfl, _, Eq.trans (World.drewN_drewN _ _ _) (congrArg (World.drewN _) (Nat.add_assoc _ _ _))⟩); have hcz11_0 : w8.cell? ⟨gb248, 0, none⟩ = some (.int .i64 a1_0) := (blk_cell BK248.out 0).trans rfl; have hcz11_1 : w8.cell? ⟨gb248, 1, none⟩ = some (.int .i64 a1_1) := (blk_cell BK248.out 1).trans rfl; have hfz11_0 := blk_frozen BK248.out 0; have hfz11_1 := blk_frozen BK248.out 1) | (go_at_call 70; (with_reducible refine (handref1_floor.calls a1_0 a1_1 t250 _ A4.out).mono ?_); rintro e w' ⟨rfl, ⟨nd, rfl⟩⟩; (try first | exact ⟨rfl, _, World.drewN_drewN _ _ _⟩ | exact ⟨rfl, _, Eq.trans (World.drewN_drewN _ _ _) (congrArg (World.drewN _) (Nat.add_assoc _ _ _))⟩))))
    (try simp only [Act.put, List.setIfInBounds_toArray, List.set_cons_zero, List.set_cons_succ])
    go_cut [40] (fun v40 wc => ∃ (kq : Nat) (x40_5 : Bool), v40 = .bool x40_5 ∧ Aside0 (handref1_CompareOf.j0 kq (wrap64 (a0_0 - (wrap64 (t249 * a0_1)))) (wrap64 (a1_0 - (wrap64 (t250 * a1_1)))) x40_5 a0_0 a0_1 a1_0 a1_1 = some r) ∧ Aside0 (kq ≤ k) ∧ Aside0 (wc.heap[gb247]? = some (.cells #[.int .i64 a0_0, .int .i64 a0_1] 28 (0, 0))) ∧ Aside0 (wc.heap[gb248]? = some (.cells #[.int .i64 a1_0, .int .i64 a1_1] 28 (0, 0))) ∧ Aside0 (Below w.heap.size w wc))
    case first =>
      have H := HC6.out
      clear HC6
      by_cases c12 : (wrap64 (a0_0 - (wrap64 (t249 * a0_1)))) = 0
      · rw [if_pos c12] at H
        have c12b0 : ((wrap64 (a0_0 - (wrap64 (t249 * a0_1)))) == 0) = true := beq_iff_eq.mpr c12
        have c12b1 : ((wrap64 (a0_0 - (wrap64 (t249 * a0_1)))) != 0) = false := bne_eq_false_iff_eq.mpr c12
        clear c12
        (first | rw [c12b0] | (simp only [i64_w, i32_w]; rw [c12b0]) | skip)
        as_aux_lemma =>
          have H' := Aside0.mk H
          clear H
          go_wp2
          repeat (go_quiet (fail); try go_wp2)
          go_meet
          case rel => exact ⟨_, (true), q17x8_, H', ⟨by first | omega | exact Nat.le_refl _⟩, ⟨q5x8_⟩, ⟨q15x8_⟩, ⟨q11x8_⟩⟩
      rw [if_neg c12] at H
      have c12b0 : ((wrap64 (a0_0 - (wrap64 (t249 * a0_1)))) == 0) = false := beq_eq_false_iff_ne.mpr c12
      have c12b1 : ((wrap64 (a0_0 - (wrap64 (t249 * a0_1)))) != 0) = true := bne_iff_ne.mpr c12
      (first | rw [c12b0] | (simp only [i64_w, i32_w]; rw [c12b0]) | skip)
      as_aux_lemma =>
        have H' := Aside0.mk H
        clear H
        go_wp2
        repeat (go_quiet (fail); try go_wp2)
        go_meet
        case rel => exact ⟨_, (((wrap64 (a1_0 - (wrap64 (t250 * a1_1)))) == 0)), q17x8_, H', ⟨by first | omega | exact Nat.le_refl _⟩, ⟨q5x8_⟩, ⟨q15x8_⟩, ⟨q11x8_⟩⟩
    clear HC6; (try clear c1); (try clear c2); (try clear p2); (try clear c5); (try clear c5b0); (try clear c5b1); (try clear p6); (try clear c9); (try clear c12); (try clear c12b0); (try clear c12b1); (try clear hcz10_0); (try clear hcz10_1); (try clear hcz11_0); (try clear hcz11_1); (try clear hfz10_0); (try clear hfz10_1); (try clear hfz11_0); (try clear hfz11_1)
    obtain ⟨kq, x40_5, rfl, HA, HJ5, BK247, BK248, HB⟩ := hcut
    rcases kq with _ | kj5
    · exact absurd HA.out (by simp [handref1_CompareOf.j0])
    have H := HA.out
    clear HA
    simp only [handref1_CompareOf.j0] at H
    by_cases c13 : x40_5 = true
    · subst c13
      have H1 : ((cmp_Compare_int.f (wrap64 (a0_0 - (wrap64 (t249 * a0_1)))) (wrap64 (a1_0 - (wrap64 (t250 * a1_1))))).bind fun t251 => (some t251)) = some r := by rw [if_pos rfl] at H; exact H
      clear H
      have H := H1
      clear H1
      replace H := Option.bind_eq_some_iff.mp H
      obtain ⟨t251, A140, H⟩ := H
      replace H : (some t251) = some r := H
      have A14 := Aside0.mk A140
      clear A140
      as_aux_lemma =>
        obtain rfl := Option.some.inj H
        go_wp2_with (first | (go_at_call 71; (with_reducible refine (cmp_Compare_int.calls (wrap64 (a0_0 - (wrap64 (t249 * a0_1)))) (wrap64 (a1_0 - (wrap64 (t250 * a1_1)))) t251 _ A14.out).mono ?_); rintro e w' ⟨rfl, ⟨nd, rfl⟩⟩; (try first | exact ⟨rfl, _, World.drewN_drewN _ _ _⟩ | exact ⟨rfl, _, Eq.trans (World.drewN_drewN _ _ _) (congrArg (World.drewN _) (Nat.add_assoc _ _ _))⟩)))
        repeat (go_quiet (first | (go_at_call 71; (with_reducible refine (cmp_Compare_int.calls (wrap64 (a0_0 - (wrap64 (t249 * a0_1)))) (wrap64 (a1_0 - (wrap64 (t250 * a1_1)))) t251 _ A14.out).mono ?_); rintro e w' ⟨rfl, ⟨nd, rfl⟩⟩; (try first | exact ⟨rfl, _, World.drewN_drewN _ _ _⟩ | exact ⟨rfl, _, Eq.trans (World.drewN_drewN _ _ _) (congrArg (World.drewN _) (Nat.add_assoc _ _ _))⟩))); try go_wp2_with (first | (go_at_call 71; (with_reducible refine (cmp_Compare_int.calls (wrap64 (a0_0 - (wrap64 (t249 * a0_1)))) (wrap64 (a1_0 - (wrap64 (t250 * a1_1)))) t251 _ A14.out).mono ?_); rintro e w' ⟨rfl, ⟨nd, rfl⟩⟩; (try first | exact ⟨rfl, _, World.drewN_drewN _ _ _⟩ | exact ⟨rfl, _, Eq.trans (World.drewN_drewN _ _ _) (congrArg (World.drewN _) (Nat.add_assoc _ _ _))⟩))))
        go_ret
        exact ⟨q9x8_, q11x8_⟩
    replace c13 := Bool.eq_false_iff.mpr c13
    subst c13
    have H1 : ((handref1_CompareOf.f kj5 a1_1 (wrap64 (a1_0 - (wrap64 (t250 * a1_1)))) a0_1 (wrap64 (a0_0 - (wrap64 (t249 * a0_1))))).bind fun t252 => (some t252)) = some r := by rw [if_neg (show ¬ (false = true) by decide)] at H; exact H
    clear H
    have H := H1
    clear H1
    replace H := Option.bind_eq_some_iff.mp H
    obtain ⟨t252, A150, H⟩ := H
    replace H : (some t252) = some r := H
    have A15 := Aside0.mk A150
    clear A150
    as_aux_lemma =>
      obtain rfl := Option.some.inj H
      have hnb16 := NB248_247.out
      have hnc16 := NB247_248.out
      have hcz17_0 : wc.cell? ⟨gb248, 0, none⟩ = some (.int .i64 a1_0) := (blk_cell BK248.out 0).trans rfl
      have hcz17_1 : wc.cell? ⟨gb248, 1, none⟩ = some (.int .i64 a1_1) := (blk_cell BK248.out 1).trans rfl
      have hfz17_0 := blk_frozen BK248.out 0
      have hfz17_1 := blk_frozen BK248.out 1
      have hcz18_0 : wc.cell? ⟨gb247, 0, none⟩ = some (.int .i64 a0_0) := (blk_cell BK247.out 0).trans rfl
      have hcz18_1 : wc.cell? ⟨gb247, 1, none⟩ = some (.int .i64 a0_1) := (blk_cell BK247.out 1).trans rfl
      have hfz18_0 := blk_frozen BK247.out 0
      have hfz18_1 := blk_frozen BK247.out 1
      go_wp2_with (first | (go_at_call 23; (with_reducible refine (ih kj5 (by have := HJ5.out; omega) a1_1 (wrap64 (a1_0 - (wrap64 (t250 * a1_1)))) a0_1 (wrap64 (a0_0 - (wrap64 (t249 * a0_1)))) t252 _ A15.out).mono ?_); rintro e w19 ⟨rfl, hb⟩; have n0_ := Aside0.mk (blk_below (g := gb247) (o := .cells #[.int .i64 a0_0, .int .i64 a0_1] 28 (0, 0)) q5x8_ hb); have n1_ := Aside0.mk (blk_below (g := gb248) (o := .cells #[.int .i64 a1_0, .int .i64 a1_1] 28 (0, 0)) q15x8_ hb); have n2_ := Aside0.mk (below_step q11x8_ hb); clear BK247; clear BK248; clear HB; have BK247 := n0_; have BK248 := n1_; have HB := n2_; clear n0_ n1_ n2_; (try clear hb); (try clear hb2); (try clear hk); (try clear hi)))
      repeat (go_quiet (first | (go_at_call 23; (with_reducible refine (ih kj5 (by have := HJ5.out; omega) a1_1 (wrap64 (a1_0 - (wrap64 (t250 * a1_1)))) a0_1 (wrap64 (a0_0 - (wrap64 (t249 * a0_1)))) t252 _ A15.out).mono ?_); rintro e w19 ⟨rfl, hb⟩; have n0_ := Aside0.mk (blk_below (g := gb247) (o := .cells #[.int .i64 a0_0, .int .i64 a0_1] 28 (0, 0)) q5x8_ hb); have n1_ := Aside0.mk (blk_below (g := gb248) (o := .cells #[.int .i64 a1_0, .int .i64 a1_1] 28 (0, 0)) q15x8_ hb); have n2_ := Aside0.mk (below_step q11x8_ hb); clear BK247; clear BK248; clear HB; have BK247 := n0_; have BK248 := n1_; have HB := n2_; clear n0_ n1_ n2_; (try clear hb); (try clear hb2); (try clear hk); (try clear hi))); try go_wp2_with (first | (go_at_call 23; (with_reducible refine (ih kj5 (by have := HJ5.out; omega) a1_1 (wrap64 (a1_0 - (wrap64 (t250 * a1_1)))) a0_1 (wrap64 (a0_0 - (wrap64 (t249 * a0_1)))) t252 _ A15.out).mono ?_); rintro e w19 ⟨rfl, hb⟩; have n0_ := Aside0.mk (blk_below (g := gb247) (o := .cells #[.int .i64 a0_0, .int .i64 a0_1] 28 (0, 0)) q5x8_ hb); have n1_ := Aside0.mk (blk_below (g := gb248) (o := .cells #[.int .i64 a1_0, .int .i64 a1_1] 28 (0, 0)) q15x8_ hb); have n2_ := Aside0.mk (below_step q11x8_ hb); clear BK247; clear BK248; clear HB; have BK247 := n0_; have BK248 := n1_; have HB := n2_; clear n0_ n1_ n2_; (try clear hb); (try clear hb2); (try clear hk); (try clear hi))))
      go_ret
      exact ⟨q9x8_, q11x8_⟩
  rw [if_neg c5] at H
  have c5b0 : (t249 == t250) = false := beq_eq_false_iff_ne.mpr c5
  have c5b1 : (t249 != t250) = true := bne_iff_ne.mpr c5
  replace H := Option.bind_eq_some_iff.mp H
  obtain ⟨t253, A200, H⟩ := H
  replace H : (some t253) = some r := H
  have A20 := Aside0.mk A200
  clear A200
  as_aux_lemma =>
    obtain rfl := Option.some.inj H
    go_enter Try.func23, Try.ntmps23
    go_wp2_with (first | ((with_reducible refine gate_dst (N := 2) rfl ?_); refine box_event ?hg (N := 2) ?hd (cs := #[.int .i64 a0_0, .int .i64 a0_1]) (t := 28) ?hr ?_; (case hd => rfl); (case hg => rfl); (case hr => first | (go_simp; done) | (go_simp; rfl)); intro gb247 hg w21 hbox hb; have n0_ := Aside0.mk (below_step q1x8_ hb); have n1_ := Aside0.mk (hbox); have n2_ := Aside0.mk ((by rw [hg]; exact (below_size q1x8_) : w.heap.size ≤ gb247)); have n3_ := Aside0.mk ((by rw [hg]; exact (below_size q1x8_) : w.heap.size ≤ gb247)); clear HB; have HB := n0_; have BK247 := n1_; have GW247 := n2_; have GE247 := n3_; clear n0_ n1_ n2_ n3_; clear hb hbox hg) | ((with_reducible refine gate_dst (N := 3) rfl ?_); refine box_event ?hg (N := 3) ?hd (cs := #[.int .i64 a1_0, .int .i64 a1_1]) (t := 28) ?hr ?_; (case hd => rfl); (case hg => rfl); (case hr => first | (go_simp; done) | (go_simp; rfl)); intro gb248 hg w22 hbox hb; have n0_ := Aside0.mk (blk_below (g := gb247) (o := .cells #[.int .i64 a0_0, .int .i64 a0_1] 28 (0, 0)) q5x8_ hb); have n1_ := Aside0.mk (below_step q4x8_ hb); have n2_ := Aside0.mk (hbox); have n3_ := Aside0.mk ((by rw [hg]; exact (below_size q4x8_) : w.heap.size ≤ gb248)); have n4_ := Aside0.mk ((by rw [hg]; exact (below_size q4x8_) : w.heap.size ≤ gb248)); have n5_ := Aside0.mk ((by rw [hg]; exact Nat.ne_of_lt (blk_lt (g := gb247) (o := .cells #[.int .i64 a0_0, .int .i64 a0_1] 28 (0, 0)) q5x8_) : gb247 ≠ gb248)); have n6_ := Aside0.mk ((by rw [hg]; exact Nat.ne_of_gt (blk_lt (g := gb247) (o := .cells #[.int .i64 a0_0, .int .i64 a0_1] 28 (0, 0)) q5x8_) : gb248 ≠ gb247)); clear BK247; clear HB; have BK247 := n0_; have HB := n1_; have BK248 := n2_; have GW248 := n3_; have GE248 := n4_; have NB247_248 := n5_; have NB248_247 := n6_; clear n0_ n1_ n2_ n3_ n4_ n5_ n6_; clear hb hbox hg; have hnb23 := NB247_248.out; have hnc23 := NB248_247.out; have hcz24_0 : w22.cell? ⟨gb247, 0, none⟩ = some (.int .i64 a0_0) := (blk_cell BK247.out 0).trans rfl; have hcz24_1 : w22.cell? ⟨gb247, 1, none⟩ = some (.int .i64 a0_1) := (blk_cell BK247.out 1).trans rfl; have hfz24_0 := blk_frozen BK247.out 0; have hfz24_1 := blk_frozen BK247.out 1) | (go_at_call 70; (with_reducible refine (handref1_floor.calls a0_0 a0_1 t249 _ A3.out).mono ?_); rintro e w' ⟨rfl, ⟨nd, rfl⟩⟩; (try first | exact ⟨rfl, _, World.drewN_drewN _ _ _⟩ | exact ⟨rfl, _, Eq.trans (World.drewN_drewN _ _ _) (congrArg (World.drewN _) (Nat.add_assoc _ _ _))⟩); have hcz25_0 : w22.cell? ⟨gb248, 0, none⟩ = some (.int .i64 a1_0) := (blk_cell BK248.out 0).trans rfl; have hcz25_1 : w22.cell? ⟨gb248, 1, none⟩ = some (.int .i64 a1_1) := (blk_cell BK248.out 1).trans rfl; have hfz25_0 := blk_frozen BK248.out 0; have hfz25_1 := blk_frozen BK248.out 1) | (go_at_call 70; (with_reducible refine (handref1_floor.calls a1_0 a1_1 t250 _ A4.out).mono ?_); rintro e w' ⟨rfl, ⟨nd, rfl⟩⟩; (try first | exact ⟨rfl, _, World.drewN_drewN _ _ _⟩ | exact ⟨rfl, _, Eq.trans (World.drewN_drewN _ _ _) (congrArg (World.drewN _) (Nat.add_assoc _ _ _))⟩)) | (go_at_call 71; (with_reducible refine (cmp_Compare_int.calls t249 t250 t253 _ A20.out).mono ?_); rintro e w' ⟨rfl, ⟨nd, rfl⟩⟩; (try first | exact ⟨rfl, _, World.drewN_drewN _ _ _⟩ | exact ⟨rfl, _, Eq.trans (World.drewN_drewN _ _ _) (congrArg (World.drewN _) (Nat.add_assoc _ _ _))⟩)))
    repeat (go_quiet (first | ((with_reducible refine gate_dst (N := 2) rfl ?_); refine box_event ?hg (N := 2) ?hd (cs := #[.int .i64 a0_0, .int .i64 a0_1]) (t := 28) ?hr ?_; (case hd => rfl); (case hg => rfl); (case hr => first | (go_simp; done) | (go_simp; rfl)); intro gb247 hg w21 hbox hb; have n0_ := Aside0.mk (below_step q1x8_ hb); have n1_ := Aside0.mk (hbox); have n2_ := Aside0.mk ((by rw [hg]; exact (below_size q1x8_) : w.heap.size ≤ gb247)); have n3_ := Aside0.mk ((by rw [hg]; exact (below_size q1x8_) : w.heap.size ≤ gb247)); clear HB; have HB := n0_; have BK247 := n1_; have GW247 := n2_; have GE247 := n3_; clear n0_ n1_ n2_ n3_; clear hb hbox hg) | ((with_reducible refine gate_dst (N := 3) rfl ?_); refine box_event ?hg (N := 3) ?hd (cs := #[.int .i64 a1_0, .int .i64 a1_1]) (t := 28) ?hr ?_; (case hd => rfl); (case hg => rfl); (case hr => first | (go_simp; done) | (go_simp; rfl)); intro gb248 hg w22 hbox hb; have n0_ := Aside0.mk (blk_below (g := gb247) (o := .cells #[.int .i64 a0_0, .int .i64 a0_1] 28 (0, 0)) q5x8_ hb); have n1_ := Aside0.mk (below_step q4x8_ hb); have n2_ := Aside0.mk (hbox); have n3_ := Aside0.mk ((by rw [hg]; exact (below_size q4x8_) : w.heap.size ≤ gb248)); have n4_ := Aside0.mk ((by rw [hg]; exact (below_size q4x8_) : w.heap.size ≤ gb248)); have n5_ := Aside0.mk ((by rw [hg]; exact Nat.ne_of_lt (blk_lt (g := gb247) (o := .cells #[.int .i64 a0_0, .int .i64 a0_1] 28 (0, 0)) q5x8_) : gb247 ≠ gb248)); have n6_ := Aside0.mk ((by rw [hg]; exact Nat.ne_of_gt (blk_lt (g := gb247) (o := .cells #[.int .i64 a0_0, .int .i64 a0_1] 28 (0, 0)) q5x8_) : gb248 ≠ gb247)); clear BK247; clear HB; have BK247 := n0_; have HB := n1_; have BK248 := n2_; have GW248 := n3_; have GE248 := n4_; have NB247_248 := n5_; have NB248_247 := n6_; clear n0_ n1_ n2_ n3_ n4_ n5_ n6_; clear hb hbox hg; have hnb23 := NB247_248.out; have hnc23 := NB248_247.out; have hcz24_0 : w22.cell? ⟨gb247, 0, none⟩ = some (.int .i64 a0_0) := (blk_cell BK247.out 0).trans rfl; have hcz24_1 : w22.cell? ⟨gb247, 1, none⟩ = some (.int .i64 a0_1) := (blk_cell BK247.out 1).trans rfl; have hfz24_0 := blk_frozen BK247.out 0; have hfz24_1 := blk_frozen BK247.out 1) | (go_at_call 70; (with_reducible refine (handref1_floor.calls a0_0 a0_1 t249 _ A3.out).mono ?_); rintro e w' ⟨rfl, ⟨nd, rfl⟩⟩; (try first | exact ⟨rfl, _, World.drewN_drewN _ _ _⟩ | exact ⟨rfl, _, Eq.trans (World.drewN_drewN _ _ _) (congrArg (World.drewN _) (Nat.add_assoc _ _ _))⟩); have hcz25_0 : w22.cell? ⟨gb248, 0, none⟩ = some (.int .i64 a1_0) := (blk_cell BK248.out 0).trans rfl; have hcz25_1 : w22.cell? ⟨gb248, 1, none⟩ = some (.int .i64 a1_1) := (blk_cell BK248.out 1).trans rfl; have hfz25_0 := blk_frozen BK248.out 0; have hfz25_1 := blk_frozen BK248.out 1) | (go_at_call 70; (with_reducible refine (handref1_floor.calls a1_0 a1_1 t250 _ A4.out).mono ?_); rintro e w' ⟨rfl, ⟨nd, rfl⟩⟩; (try first | exact ⟨rfl, _, World.drewN_drewN _ _ _⟩ | exact ⟨rfl, _, Eq.trans (World.drewN_drewN _ _ _) (congrArg (World.drewN _) (Nat.add_assoc _ _ _))⟩)) | (go_at_call 71; (with_reducible refine (cmp_Compare_int.calls t249 t250 t253 _ A20.out).mono ?_); rintro e w' ⟨rfl, ⟨nd, rfl⟩⟩; (try first | exact ⟨rfl, _, World.drewN_drewN _ _ _⟩ | exact ⟨rfl, _, Eq.trans (World.drewN_drewN _ _ _) (congrArg (World.drewN _) (Nat.add_assoc _ _ _))⟩))); try go_wp2_with (first | ((with_reducible refine gate_dst (N := 2) rfl ?_); refine box_event ?hg (N := 2) ?hd (cs := #[.int .i64 a0_0, .int .i64 a0_1]) (t := 28) ?hr ?_; (case hd => rfl); (case hg => rfl); (case hr => first | (go_simp; done) | (go_simp; rfl)); intro gb247 hg w21 hbox hb; have n0_ := Aside0.mk (below_step q1x8_ hb); have n1_ := Aside0.mk (hbox); have n2_ := Aside0.mk ((by rw [hg]; exact (below_size q1x8_) : w.heap.size ≤ gb247)); have n3_ := Aside0.mk ((by rw [hg]; exact (below_size q1x8_) : w.heap.size ≤ gb247)); clear HB; have HB := n0_; have BK247 := n1_; have GW247 := n2_; have GE247 := n3_; clear n0_ n1_ n2_ n3_; clear hb hbox hg) | ((with_reducible refine gate_dst (N := 3) rfl ?_); refine box_event ?hg (N := 3) ?hd (cs := #[.int .i64 a1_0, .int .i64 a1_1]) (t := 28) ?hr ?_; (case hd => rfl); (case hg => rfl); (case hr => first | (go_simp; done) | (go_simp; rfl)); intro gb248 hg w22 hbox hb; have n0_ := Aside0.mk (blk_below (g := gb247) (o := .cells #[.int .i64 a0_0, .int .i64 a0_1] 28 (0, 0)) q5x8_ hb); have n1_ := Aside0.mk (below_step q4x8_ hb); have n2_ := Aside0.mk (hbox); have n3_ := Aside0.mk ((by rw [hg]; exact (below_size q4x8_) : w.heap.size ≤ gb248)); have n4_ := Aside0.mk ((by rw [hg]; exact (below_size q4x8_) : w.heap.size ≤ gb248)); have n5_ := Aside0.mk ((by rw [hg]; exact Nat.ne_of_lt (blk_lt (g := gb247) (o := .cells #[.int .i64 a0_0, .int .i64 a0_1] 28 (0, 0)) q5x8_) : gb247 ≠ gb248)); have n6_ := Aside0.mk ((by rw [hg]; exact Nat.ne_of_gt (blk_lt (g := gb247) (o := .cells #[.int .i64 a0_0, .int .i64 a0_1] 28 (0, 0)) q5x8_) : gb248 ≠ gb247)); clear BK247; clear HB; have BK247 := n0_; have HB := n1_; have BK248 := n2_; have GW248 := n3_; have GE248 := n4_; have NB247_248 := n5_; have NB248_247 := n6_; clear n0_ n1_ n2_ n3_ n4_ n5_ n6_; clear hb hbox hg; have hnb23 := NB247_248.out; have hnc23 := NB248_247.out; have hcz24_0 : w22.cell? ⟨gb247, 0, none⟩ = some (.int .i64 a0_0) := (blk_cell BK247.out 0).trans rfl; have hcz24_1 : w22.cell? ⟨gb247, 1, none⟩ = some (.int .i64 a0_1) := (blk_cell BK247.out 1).trans rfl; have hfz24_0 := blk_frozen BK247.out 0; have hfz24_1 := blk_frozen BK247.out 1) | (go_at_call 70; (with_reducible refine (handref1_floor.calls a0_0 a0_1 t249 _ A3.out).mono ?_); rintro e w' ⟨rfl, ⟨nd, rfl⟩⟩; (try first | exact ⟨rfl, _, World.drewN_drewN _ _ _⟩ | exact ⟨rfl, _, Eq.trans (World.drewN_drewN _ _ _) (congrArg (World.drewN _) (Nat.add_assoc _ _ _))⟩); have hcz25_0 : w22.cell? ⟨gb248, 0, none⟩ = some (.int .i64 a1_0) := (blk_cell BK248.out 0).trans rfl; have hcz25_1 : w22.cell? ⟨gb248, 1, none⟩ = some (.int .i64 a1_1) := (blk_cell BK248.out 1).trans rfl; have hfz25_0 := blk_frozen BK248.out 0; have hfz25_1 := blk_frozen BK248.out 1) | (go_at_call 70; (with_reducible refine (handref1_floor.calls a1_0 a1_1 t250 _ A4.out).mono ?_); rintro e w' ⟨rfl, ⟨nd, rfl⟩⟩; (try first | exact ⟨rfl, _, World.drewN_drewN _ _ _⟩ | exact ⟨rfl, _, Eq.trans (World.drewN_drewN _ _ _) (congrArg (World.drewN _) (Nat.add_assoc _ _ _))⟩)) | (go_at_call 71; (with_reducible refine (cmp_Compare_int.calls t249 t250 t253 _ A20.out).mono ?_); rintro e w' ⟨rfl, ⟨nd, rfl⟩⟩; (try first | exact ⟨rfl, _, World.drewN_drewN _ _ _⟩ | exact ⟨rfl, _, Eq.trans (World.drewN_drewN _ _ _) (congrArg (World.drewN _) (Nat.add_assoc _ _ _))⟩))))
    go_ret
    exact ⟨q9x8_, q11x8_⟩

/-! ### handref1_VerdictOf: function 38 -/
mutual
def handref1_VerdictOf.j0 : Nat → Int → Int → Int → Int → Int → Bool → Option (Int × Int)
  | 0, _, _, _, _, _, _ => none
  | k + 1, x0, x1, x2, x3, x4, x27 => if x27 = true then (some (0, 1)) else (if (wrap64 (x0 + x1)) = 0 then (handref1_VerdictOf.j1 k x0 x1 x2 x3 true) else (if (wrap64 (x2 + x3)) = 0 then (handref1_VerdictOf.j1 k x0 x1 x2 x3 true) else ((handref1_ExactOf.f k x0 x1 x2 x3).bind fun bt258 => ((handref1_reduced.f k x4 1000).bind fun bt260 => ((handref1_CompareOf.f k bt258.1 bt258.2 bt260.1 bt260.2).bind fun t262 => (handref1_VerdictOf.j1 k x0 x1 x2 x3 (decide (t262 > 0))))))))
def handref1_VerdictOf.j1 : Nat → Int → Int → Int → Int → Bool → Option (Int × Int)
  | 0, _, _, _, _, _ => none
  | k + 1, x0, x1, x2, x3, x48 => if x48 = true then (some (0, 0)) else ((handref1_reduced.f k x0 (wrap64 (x0 + x1))).bind fun bt263 => ((handref1_reduced.f k x2 (wrap64 (x2 + x3))).bind fun bt265 => ((handref1_CompareOf.f k bt263.1 bt263.2 bt265.1 bt265.2).bind fun t267 => (if t267 = 1 then (some (1, 0)) else (if t267 = (-1) then (some (2, 0)) else (some (0, 0)))))))
end
def handref1_VerdictOf.f (k : Nat) (a0 : Int) (a1 : Int) (a2 : Int) (a3 : Int) (a4 : Int) : Option (Int × Int) := (handref1_ExactFault.f k (([a0, a1, a2, a3] : List Int))).bind fun t257 => (if t257 = 0 then (if a4 < 1 then (handref1_VerdictOf.j0 k a0 a1 a2 a3 a4 true) else (handref1_VerdictOf.j0 k a0 a1 a2 a3 a4 (decide (a4 > 500)))) else (some (0, t257)))
theorem handref1_VerdictOf.mono_l : ∀ k, (∀ y0 y1 y2 y3 y4 y5, LeO (handref1_VerdictOf.j0 k y0 y1 y2 y3 y4 y5) (handref1_VerdictOf.j0 (k + 1) y0 y1 y2 y3 y4 y5)) ∧ (∀ y0 y1 y2 y3 y4, LeO (handref1_VerdictOf.j1 k y0 y1 y2 y3 y4) (handref1_VerdictOf.j1 (k + 1) y0 y1 y2 y3 y4))
  | 0 => ⟨fun _ _ _ _ _ _ r h => by simp [handref1_VerdictOf.j0] at h, fun _ _ _ _ _ r h => by simp [handref1_VerdictOf.j1] at h⟩
  | k + 1 => by
    obtain ⟨ih0, ih1⟩ := handref1_VerdictOf.mono_l k
    refine ⟨?_, ?_⟩
    · intro y0 y1 y2 y3 y4 y5
      unfold handref1_VerdictOf.j0
      repeat' first
      | (with_reducible exact ih0 _ _ _ _ _ _)
      | (with_reducible exact ih1 _ _ _ _ _)
      | (with_reducible exact handref1_CompareOf.mono _ _ _ _ _)
      | (with_reducible exact handref1_ExactFault.mono _ _)
      | (with_reducible exact handref1_ExactOf.mono _ _ _ _ _)
      | (with_reducible exact handref1_reduced.mono _ _ _)
      | (with_reducible exact LeO.refl _)
      | (with_reducible exact LeO.none _)
      | (with_reducible refine LeO.ite ?_ ?_)
      | (with_reducible refine LeO.bind ?_ (fun _ => ?_))
      | exact ih0 _ _ _ _ _ _
      | exact ih1 _ _ _ _ _
      | exact handref1_CompareOf.mono _ _ _ _ _
      | exact handref1_ExactFault.mono _ _
      | exact handref1_ExactOf.mono _ _ _ _ _
      | exact handref1_reduced.mono _ _ _
      | exact LeO.none _
      | refine LeO.ite ?_ ?_
      | refine LeO.bind ?_ (fun _ => ?_)
    · intro y0 y1 y2 y3 y4
      unfold handref1_VerdictOf.j1
      repeat' first
      | (with_reducible exact ih0 _ _ _ _ _ _)
      | (with_reducible exact ih1 _ _ _ _ _)
      | (with_reducible exact handref1_CompareOf.mono _ _ _ _ _)
      | (with_reducible exact handref1_ExactFault.mono _ _)
      | (with_reducible exact handref1_ExactOf.mono _ _ _ _ _)
      | (with_reducible exact handref1_reduced.mono _ _ _)
      | (with_reducible exact LeO.refl _)
      | (with_reducible exact LeO.none _)
      | (with_reducible refine LeO.ite ?_ ?_)
      | (with_reducible refine LeO.bind ?_ (fun _ => ?_))
      | exact ih0 _ _ _ _ _ _
      | exact ih1 _ _ _ _ _
      | exact handref1_CompareOf.mono _ _ _ _ _
      | exact handref1_ExactFault.mono _ _
      | exact handref1_ExactOf.mono _ _ _ _ _
      | exact handref1_reduced.mono _ _ _
      | exact LeO.none _
      | refine LeO.ite ?_ ?_
      | refine LeO.bind ?_ (fun _ => ?_)
theorem handref1_VerdictOf.mono : ∀ a0 a1 a2 a3 a4 k, LeO (handref1_VerdictOf.f k a0 a1 a2 a3 a4) (handref1_VerdictOf.f (k + 1) a0 a1 a2 a3 a4) := by
  intro a0 a1 a2 a3 a4 k
  obtain ⟨ih0, ih1⟩ := handref1_VerdictOf.mono_l k
  unfold handref1_VerdictOf.f
  repeat' first
      | (with_reducible exact ih0 _ _ _ _ _ _)
      | (with_reducible exact ih1 _ _ _ _ _)
      | (with_reducible exact handref1_CompareOf.mono _ _ _ _ _)
      | (with_reducible exact handref1_ExactFault.mono _ _)
      | (with_reducible exact handref1_ExactOf.mono _ _ _ _ _)
      | (with_reducible exact handref1_reduced.mono _ _ _)
      | (with_reducible exact LeO.refl _)
      | (with_reducible exact LeO.none _)
      | (with_reducible refine LeO.ite ?_ ?_)
      | (with_reducible refine LeO.bind ?_ (fun _ => ?_))
      | exact ih0 _ _ _ _ _ _
      | exact ih1 _ _ _ _ _
      | exact handref1_CompareOf.mono _ _ _ _ _
      | exact handref1_ExactFault.mono _ _
      | exact handref1_ExactOf.mono _ _ _ _ _
      | exact handref1_reduced.mono _ _ _
      | exact LeO.none _
      | refine LeO.ite ?_ ?_
      | refine LeO.bind ?_ (fun _ => ?_)
set_option maxHeartbeats 8000000 in
set_option maxRecDepth 100000 in
theorem handref1_VerdictOf.calls (k : Nat) (a0 : Int) (a1 : Int) (a2 : Int) (a3 : Int) (a4 : Int) (r1 : Int) (r2 : Int) (w : World) (h : handref1_VerdictOf.f k a0 a1 a2 a3 a4 = some (r1, r2)) :
    Calls Try.prog 38 #[.int .i64 a0, .int .i64 a1, .int .i64 a2, .int .i64 a3, .int .i64 a4] w fun e w' => e = .returned (.tuple #[.int .i64 r1, .int .i64 r2]) ∧ Below w.heap.size w w' := by
  have HB := Aside0.mk (Below.refl w.heap.size w)
  have H : ((handref1_ExactFault.f k (([a0, a1, a2, a3] : List Int))).bind fun t257 => (if t257 = 0 then (if a4 < 1 then (handref1_VerdictOf.j0 k a0 a1 a2 a3 a4 true) else (handref1_VerdictOf.j0 k a0 a1 a2 a3 a4 (decide (a4 > 500)))) else (some (0, t257)))) = some (r1, r2) := h
  clear h
  obtain ⟨y254, hy254⟩ : ∃ y_ : List Int, y_ = (([a0, a1, a2, a3] : List Int)) := ⟨_, rfl⟩
  replace H : ((handref1_ExactFault.f k y254).bind fun t257 => (if t257 = 0 then (if a4 < 1 then (handref1_VerdictOf.j0 k a0 a1 a2 a3 a4 true) else (handref1_VerdictOf.j0 k a0 a1 a2 a3 a4 (decide (a4 > 500)))) else (some (0, t257)))) = some (r1, r2) := by first | (rw [hy254]; with_reducible exact H) | (have H2_ := (Option.bind_some _ _).symm.trans H; rw [hy254]; with_reducible exact H2_) | (have H2_ := (Option.bind_some _ _).symm.trans H; with_reducible exact H2_) | with_reducible exact H | (rw [hy254]; exact H) | exact H
  have Ny254 := Aside0.mk hy254
  clear hy254
  replace H := Option.bind_eq_some_iff.mp H
  obtain ⟨t257, A60, H⟩ := H
  replace H : (if t257 = 0 then (if a4 < 1 then (handref1_VerdictOf.j0 k a0 a1 a2 a3 a4 true) else (handref1_VerdictOf.j0 k a0 a1 a2 a3 a4 (decide (a4 > 500)))) else (some (0, t257))) = some (r1, r2) := H
  have A6 := Aside0.mk A60
  clear A60
  by_cases c7 : t257 = 0
  · rw [if_pos c7] at H
    have c7b0 : (t257 == 0) = true := beq_iff_eq.mpr c7
    have c7b1 : (t257 != 0) = false := bne_eq_false_iff_eq.mpr c7
    clear c7
    have HC8 := Aside0.mk H
    clear H
    go_enter Try.func38, Try.ntmps38
    go_upto_region 4 with (first | ((with_reducible refine gate_dst (N := 17) rfl ?_); refine Kd.R_lit (Kd.int .i64) _ 3 ?hg (N := 17) ?hd (xs := ([a0, a1, a2, a3] : List Int)) (inner := [.int .i64 a0, .int .i64 a1, .int .i64 a2, .int .i64 a3]) (ok := fun _ => True) (okp := fun _ => True) ?hr ?hp (fun _ hk => hk) trivial (Below.refl _ _) (Nat.le_refl _) (by simp) ?_; (case hd => rfl); (case hg => rfl); (case hr => first | (go_simp; done) | (go_simp; rfl)); (case hp => exact (Reps.one (show Kd.M (Kd.int .i64) _ _ _ a0 [.int .i64 a0] from rfl) (Reps.one (show Kd.M (Kd.int .i64) _ _ _ a1 [.int .i64 a1] from rfl) (Reps.one (show Kd.M (Kd.int .i64) _ _ _ a2 [.int .i64 a2] from rfl) (Reps.one (show Kd.M (Kd.int .i64) _ _ _ a3 [.int .i64 a3] from rfl) (Reps.none _ _)))))); intro v255 w9 ho10 hb hg_ hnew_; clear hg_ hnew_; (first | rw [← Ny254.out] at ho10 | (simp only [Int.reduceToNat] at ho10; rw [← Ny254.out] at ho10)); have n0_ := Aside0.mk (Kd.R_lower ho10 (below_size q1x8_)); have n1_ := Aside0.mk (below_step q1x8_ hb); clear HB; have HO256 := n0_; have HB := n1_; clear n0_ n1_; clear hb ho10; obtain ⟨Ao11, co11, eo11⟩ := Kd.R_slice HO256.out; subst eo11) | ((with_reducible refine gate_callee (f := 35) rfl ?_); refine goesL_ (some 18) rfl rfl Try.func35 (by kernel_rfl) rfl #[.slice Ao11 y254.length co11] rfl q10x8_ ?_; (with_reducible refine (handref1_ExactFault.calls k _ _ y254 t257 _ ?side1 ?side2 A6.out).mono ?_); (case side1 => repeat (first | exact (Kd.R_reads' HO256.out).2.2 | (with_reducible refine Kd.C_alloc ?_ _) | (with_reducible refine Kd.C_drewN ?_ _) | (with_reducible refine Kd.C_drew ?_))); (case side2 => exact (Kd.R_reads' HO256.out).2.1); rintro e w' ⟨rfl, ⟨nd, rfl⟩⟩; refine ⟨_, rfl, ?_⟩))
    (try simp only [Act.put, List.setIfInBounds_toArray, List.set_cons_zero, List.set_cons_succ])
    go_cut [27] (fun v27 wc => ∃ (kq : Nat) (x27_7 : Bool), v27 = .bool x27_7 ∧ Aside0 (handref1_VerdictOf.j0 kq a0 a1 a2 a3 a4 x27_7 = some (r1, r2)) ∧ Aside0 (kq ≤ k) ∧ Aside0 (Below w.heap.size w wc))
    case first =>
      have H := HC8.out
      clear HC8
      by_cases c12 : a4 < 1
      · rw [if_pos c12] at H
        have c12b0 : decide (a4 < 1) = true := decide_eq_true c12
        clear c12
        (first | rw [c12b0] | (simp only [i64_w, i32_w]; rw [c12b0]) | skip)
        as_aux_lemma =>
          have H' := Aside0.mk H
          clear H
          go_wp2
          go_meet
          case rel => exact ⟨_, (true), q17x8_, H', ⟨by first | omega | exact Nat.le_refl _⟩, ⟨q1x8_⟩⟩
      rw [if_neg c12] at H
      have c12b0 : decide (a4 < 1) = false := decide_eq_false c12
      clear c12
      (first | rw [c12b0] | (simp only [i64_w, i32_w]; rw [c12b0]) | skip)
      as_aux_lemma =>
        have H' := Aside0.mk H
        clear H
        go_wp2
        go_meet
        case rel => exact ⟨_, (decide (a4 > 500)), q17x8_, H', ⟨by first | omega | exact Nat.le_refl _⟩, ⟨q1x8_⟩⟩
    clear HC8; (try clear c1); (try clear p2); (try clear c3); (try clear c7); (try clear c7b0); (try clear c7b1); (try clear c12); (try clear c12b0)
    obtain ⟨kq, x27_7, rfl, HA, HJ7, HB⟩ := hcut
    rcases kq with _ | kj7
    · exact absurd HA.out (by simp [handref1_VerdictOf.j0])
    have H := HA.out
    clear HA
    simp only [handref1_VerdictOf.j0] at H
    by_cases c13 : x27_7 = true
    · subst c13
      have H1 : (some (0, 1)) = some (r1, r2) := by rw [if_pos rfl] at H; exact H
      clear H
      have H := H1
      clear H1
      as_aux_lemma =>
        simp only [Option.some.injEq, Prod.mk.injEq] at H
        obtain ⟨rfl, rfl⟩ := H
        go_wp2
        go_ret2
        exact ⟨q9x8_, q1x8_⟩
    replace c13 := Bool.eq_false_iff.mpr c13
    subst c13
    have H1 : (if (wrap64 (a0 + a1)) = 0 then (handref1_VerdictOf.j1 kj7 a0 a1 a2 a3 true) else (if (wrap64 (a2 + a3)) = 0 then (handref1_VerdictOf.j1 kj7 a0 a1 a2 a3 true) else ((handref1_ExactOf.f kj7 a0 a1 a2 a3).bind fun bt258 => ((handref1_reduced.f kj7 a4 1000).bind fun bt260 => ((handref1_CompareOf.f kj7 bt258.1 bt258.2 bt260.1 bt260.2).bind fun t262 => (handref1_VerdictOf.j1 kj7 a0 a1 a2 a3 (decide (t262 > 0)))))))) = some (r1, r2) := by rw [if_neg (show ¬ (false = true) by decide)] at H; exact H
    clear H
    have H := H1
    clear H1
    have HC14 := Aside0.mk H
    clear H
    go_upto_region 6 with (fail)
    go_cut [48] (fun v48 wc => ∃ (kq : Nat) (x48_13 : Bool), v48 = .bool x48_13 ∧ Aside0 (handref1_VerdictOf.j1 kq a0 a1 a2 a3 x48_13 = some (r1, r2)) ∧ Aside0 (kq ≤ kj7) ∧ Aside0 (Below w.heap.size w wc))
    case first =>
      have H := HC14.out
      clear HC14
      by_cases c15 : (wrap64 (a0 + a1)) = 0
      · rw [if_pos c15] at H
        have c15b0 : ((wrap64 (a0 + a1)) == 0) = true := beq_iff_eq.mpr c15
        have c15b1 : ((wrap64 (a0 + a1)) != 0) = false := bne_eq_false_iff_eq.mpr c15
        clear c15
        (first | rw [c15b0] | (simp only [i64_w, i32_w]; rw [c15b0]) | skip)
        as_aux_lemma =>
          have H' := Aside0.mk H
          clear H
          go_wp2
          go_meet
          case rel => exact ⟨_, (true), q17x8_, H', ⟨by have := HJ7.out; first | omega | exact Nat.le_refl _⟩, ⟨q1x8_⟩⟩
      rw [if_neg c15] at H
      have c15b0 : ((wrap64 (a0 + a1)) == 0) = false := beq_eq_false_iff_ne.mpr c15
      have c15b1 : ((wrap64 (a0 + a1)) != 0) = true := bne_iff_ne.mpr c15
      (first | rw [c15b0] | (simp only [i64_w, i32_w]; rw [c15b0]) | skip)
      by_cases c16 : (wrap64 (a2 + a3)) = 0
      · rw [if_pos c16] at H
        have c16b0 : ((wrap64 (a2 + a3)) == 0) = true := beq_iff_eq.mpr c16
        have c16b1 : ((wrap64 (a2 + a3)) != 0) = false := bne_eq_false_iff_eq.mpr c16
        clear c16
        as_aux_lemma =>
          have H' := Aside0.mk H
          clear H
          go_wp2
          go_meet
          case rel => exact ⟨_, (true), q17x8_, H', ⟨by have := HJ7.out; first | omega | exact Nat.le_refl _⟩, ⟨q1x8_⟩⟩
      rw [if_neg c16] at H
      have c16b0 : ((wrap64 (a2 + a3)) == 0) = false := beq_eq_false_iff_ne.mpr c16
      have c16b1 : ((wrap64 (a2 + a3)) != 0) = true := bne_iff_ne.mpr c16
      replace H := Option.bind_eq_some_iff.mp H
      obtain ⟨⟨t258, t259⟩, A170, H⟩ := H
      replace H : ((handref1_reduced.f kj7 a4 1000).bind fun bt260 => ((handref1_CompareOf.f kj7 t258 t259 bt260.1 bt260.2).bind fun t262 => (handref1_VerdictOf.j1 kj7 a0 a1 a2 a3 (decide (t262 > 0))))) = some (r1, r2) := H
      have A17 := Aside0.mk A170
      clear A170
      replace H := Option.bind_eq_some_iff.mp H
      obtain ⟨⟨t260, t261⟩, A180, H⟩ := H
      replace H : ((handref1_CompareOf.f kj7 t258 t259 t260 t261).bind fun t262 => (handref1_VerdictOf.j1 kj7 a0 a1 a2 a3 (decide (t262 > 0)))) = some (r1, r2) := H
      have A18 := Aside0.mk A180
      clear A180
      replace H := Option.bind_eq_some_iff.mp H
      obtain ⟨t262, A190, H⟩ := H
      replace H : (handref1_VerdictOf.j1 kj7 a0 a1 a2 a3 (decide (t262 > 0))) = some (r1, r2) := H
      have A19 := Aside0.mk A190
      clear A190
      as_aux_lemma =>
        have H' := Aside0.mk H
        clear H
        go_wp2_with (first | (go_at_call 36; (with_reducible refine (handref1_ExactOf.calls kj7 a0 a1 a2 a3 t258 t259 _ A17.out).mono ?_); rintro e w20 ⟨rfl, hb⟩; have n0_ := Aside0.mk (below_step q1x8_ hb); clear HB; have HB := n0_; clear n0_; (try clear hb); (try clear hb2); (try clear hk); (try clear hi)) | (go_at_call 66; (with_reducible refine (handref1_reduced.calls kj7 a4 1000 t260 t261 _ A18.out).mono ?_); rintro e w21 ⟨rfl, hb⟩; have n0_ := Aside0.mk (below_step q1x8_ hb); clear HB; have HB := n0_; clear n0_; (try clear hb); (try clear hb2); (try clear hk); (try clear hi)) | (go_at_call 23; (with_reducible refine (handref1_CompareOf.calls kj7 t258 t259 t260 t261 t262 _ A19.out).mono ?_); rintro e w22 ⟨rfl, hb⟩; have n0_ := Aside0.mk (below_step q1x8_ hb); clear HB; have HB := n0_; clear n0_; (try clear hb); (try clear hb2); (try clear hk); (try clear hi)))
        go_meet
        case rel => exact ⟨_, (decide (t262 > 0)), q17x8_, H', ⟨by have := HJ7.out; first | omega | exact Nat.le_refl _⟩, ⟨q1x8_⟩⟩
    clear HC14; (try clear c1); (try clear p2); (try clear c3); (try clear p6); (try clear c7); (try clear c7b0); (try clear c7b1); (try clear c12); (try clear c12b0); (try clear c13); (try clear c15); (try clear c15b0); (try clear c15b1); (try clear c16); (try clear c16b0); (try clear c16b1); (try clear p2)
    obtain ⟨kq, x48_13, rfl, HA, HJ13, HB⟩ := hcut
    rcases kq with _ | kj13
    · exact absurd HA.out (by simp [handref1_VerdictOf.j1])
    have H := HA.out
    clear HA
    simp only [handref1_VerdictOf.j1] at H
    by_cases c23 : x48_13 = true
    · subst c23
      have H1 : (some (0, 0)) = some (r1, r2) := by rw [if_pos rfl] at H; exact H
      clear H
      have H := H1
      clear H1
      as_aux_lemma =>
        simp only [Option.some.injEq, Prod.mk.injEq] at H
        obtain ⟨rfl, rfl⟩ := H
        go_wp2
        go_ret2
        exact ⟨q9x8_, q1x8_⟩
    replace c23 := Bool.eq_false_iff.mpr c23
    subst c23
    have H1 : ((handref1_reduced.f kj13 a0 (wrap64 (a0 + a1))).bind fun bt263 => ((handref1_reduced.f kj13 a2 (wrap64 (a2 + a3))).bind fun bt265 => ((handref1_CompareOf.f kj13 bt263.1 bt263.2 bt265.1 bt265.2).bind fun t267 => (if t267 = 1 then (some (1, 0)) else (if t267 = (-1) then (some (2, 0)) else (some (0, 0))))))) = some (r1, r2) := by rw [if_neg (show ¬ (false = true) by decide)] at H; exact H
    clear H
    have H := H1
    clear H1
    replace H := Option.bind_eq_some_iff.mp H
    obtain ⟨⟨t263, t264⟩, A240, H⟩ := H
    replace H : ((handref1_reduced.f kj13 a2 (wrap64 (a2 + a3))).bind fun bt265 => ((handref1_CompareOf.f kj13 t263 t264 bt265.1 bt265.2).bind fun t267 => (if t267 = 1 then (some (1, 0)) else (if t267 = (-1) then (some (2, 0)) else (some (0, 0)))))) = some (r1, r2) := H
    have A24 := Aside0.mk A240
    clear A240
    replace H := Option.bind_eq_some_iff.mp H
    obtain ⟨⟨t265, t266⟩, A250, H⟩ := H
    replace H : ((handref1_CompareOf.f kj13 t263 t264 t265 t266).bind fun t267 => (if t267 = 1 then (some (1, 0)) else (if t267 = (-1) then (some (2, 0)) else (some (0, 0))))) = some (r1, r2) := H
    have A25 := Aside0.mk A250
    clear A250
    replace H := Option.bind_eq_some_iff.mp H
    obtain ⟨t267, A260, H⟩ := H
    replace H : (if t267 = 1 then (some (1, 0)) else (if t267 = (-1) then (some (2, 0)) else (some (0, 0)))) = some (r1, r2) := H
    have A26 := Aside0.mk A260
    clear A260
    have HC27 := Aside0.mk H
    clear H
    go_upto_if 60 with (first | ((with_reducible refine gate_callee (f := 66) rfl ?_); refine goesL_ (some 53) rfl rfl Try.func66 (by kernel_rfl) rfl #[.int .i64 a0, .int .i64 (wrap64 (a0 + a1))] rfl q10x8_ ?_; (with_reducible refine (handref1_reduced.calls kj13 a0 (wrap64 (a0 + a1)) t263 t264 _ A24.out).mono ?_); rintro e w28 ⟨rfl, hb⟩; refine ⟨_, rfl, ?_⟩; have n0_ := Aside0.mk (below_step q1x8_ hb); clear HB; have HB := n0_; clear n0_; (try clear hb); (try clear hb2); (try clear hk); (try clear hi)) | ((with_reducible refine gate_callee (f := 66) rfl ?_); refine goesL_ (some 58) rfl rfl Try.func66 (by kernel_rfl) rfl #[.int .i64 a2, .int .i64 (wrap64 (a2 + a3))] rfl q10x8_ ?_; (with_reducible refine (handref1_reduced.calls kj13 a2 (wrap64 (a2 + a3)) t265 t266 _ A25.out).mono ?_); rintro e w29 ⟨rfl, hb⟩; refine ⟨_, rfl, ?_⟩; have n0_ := Aside0.mk (below_step q1x8_ hb); clear HB; have HB := n0_; clear n0_; (try clear hb); (try clear hb2); (try clear hk); (try clear hi)) | ((with_reducible refine gate_callee (f := 23) rfl ?_); refine goesL_ (some 59) rfl rfl Try.func23 (by kernel_rfl) rfl #[.agg #[.int .i64 t263, .int .i64 t264], .agg #[.int .i64 t265, .int .i64 t266]] rfl q10x8_ ?_; (with_reducible refine (handref1_CompareOf.calls kj13 t263 t264 t265 t266 t267 _ A26.out).mono ?_); rintro e w30 ⟨rfl, hb⟩; refine ⟨_, rfl, ?_⟩; have n0_ := Aside0.mk (below_step q1x8_ hb); clear HB; have HB := n0_; clear n0_; (try clear hb); (try clear hb2); (try clear hk); (try clear hi)))
    (try simp only [Act.put, List.setIfInBounds_toArray, List.set_cons_zero, List.set_cons_succ])
    have H := HC27.out
    clear HC27
    by_cases c31 : t267 = 1
    · rw [if_pos c31] at H
      have c31b0 : (t267 == 1) = true := beq_iff_eq.mpr c31
      have c31b1 : (t267 != 1) = false := bne_eq_false_iff_eq.mpr c31
      clear c31
      (first | rw [c31b0] | (simp only [i64_w, i32_w]; rw [c31b0]) | skip)
      as_aux_lemma =>
        simp only [Option.some.injEq, Prod.mk.injEq] at H
        obtain ⟨rfl, rfl⟩ := H
        go_wp2
        go_ret2
        exact ⟨q9x8_, q1x8_⟩
    rw [if_neg c31] at H
    have c31b0 : (t267 == 1) = false := beq_eq_false_iff_ne.mpr c31
    have c31b1 : (t267 != 1) = true := bne_iff_ne.mpr c31
    (first | rw [c31b0] | (simp only [i64_w, i32_w]; rw [c31b0]) | skip)
    by_cases c32 : t267 = (-1)
    · rw [if_pos c32] at H
      have c32b0 : (t267 == (-1)) = true := beq_iff_eq.mpr c32
      have c32b1 : (t267 != (-1)) = false := bne_eq_false_iff_eq.mpr c32
      clear c32
      as_aux_lemma =>
        simp only [Option.some.injEq, Prod.mk.injEq] at H
        obtain ⟨rfl, rfl⟩ := H
        go_wp2
        go_ret2
        exact ⟨q9x8_, q1x8_⟩
    rw [if_neg c32] at H
    have c32b0 : (t267 == (-1)) = false := beq_eq_false_iff_ne.mpr c32
    have c32b1 : (t267 != (-1)) = true := bne_iff_ne.mpr c32
    as_aux_lemma =>
      simp only [Option.some.injEq, Prod.mk.injEq] at H
      obtain ⟨rfl, rfl⟩ := H
      go_wp2
      go_ret2
      exact ⟨q9x8_, q1x8_⟩
  rw [if_neg c7] at H
  have c7b0 : (t257 == 0) = false := beq_eq_false_iff_ne.mpr c7
  have c7b1 : (t257 != 0) = true := bne_iff_ne.mpr c7
  as_aux_lemma =>
    simp only [Option.some.injEq, Prod.mk.injEq] at H
    obtain ⟨rfl, rfl⟩ := H
    go_enter Try.func38, Try.ntmps38
    go_wp2_with (first | ((with_reducible refine gate_dst (N := 17) rfl ?_); refine Kd.R_lit (Kd.int .i64) _ 3 ?hg (N := 17) ?hd (xs := ([a0, a1, a2, a3] : List Int)) (inner := [.int .i64 a0, .int .i64 a1, .int .i64 a2, .int .i64 a3]) (ok := fun _ => True) (okp := fun _ => True) ?hr ?hp (fun _ hk => hk) trivial (Below.refl _ _) (Nat.le_refl _) (by simp) ?_; (case hd => rfl); (case hg => rfl); (case hr => first | (go_simp; done) | (go_simp; rfl)); (case hp => exact (Reps.one (show Kd.M (Kd.int .i64) _ _ _ a0 [.int .i64 a0] from rfl) (Reps.one (show Kd.M (Kd.int .i64) _ _ _ a1 [.int .i64 a1] from rfl) (Reps.one (show Kd.M (Kd.int .i64) _ _ _ a2 [.int .i64 a2] from rfl) (Reps.one (show Kd.M (Kd.int .i64) _ _ _ a3 [.int .i64 a3] from rfl) (Reps.none _ _)))))); intro v255 w33 ho34 hb hg_ hnew_; clear hg_ hnew_; (first | rw [← Ny254.out] at ho34 | (simp only [Int.reduceToNat] at ho34; rw [← Ny254.out] at ho34)); have n0_ := Aside0.mk (Kd.R_lower ho34 (below_size q1x8_)); have n1_ := Aside0.mk (below_step q1x8_ hb); clear HB; have HO256 := n0_; have HB := n1_; clear n0_ n1_; clear hb ho34; obtain ⟨Ao35, co35, eo35⟩ := Kd.R_slice HO256.out; subst eo35) | ((with_reducible refine gate_callee (f := 35) rfl ?_); refine goesL_ (some 18) rfl rfl Try.func35 (by kernel_rfl) rfl #[.slice Ao35 y254.length co35] rfl q10x8_ ?_; (with_reducible refine (handref1_ExactFault.calls k _ _ y254 t257 _ ?side1 ?side2 A6.out).mono ?_); (case side1 => repeat (first | exact (Kd.R_reads' HO256.out).2.2 | (with_reducible refine Kd.C_alloc ?_ _) | (with_reducible refine Kd.C_drewN ?_ _) | (with_reducible refine Kd.C_drew ?_))); (case side2 => exact (Kd.R_reads' HO256.out).2.1); rintro e w' ⟨rfl, ⟨nd, rfl⟩⟩; refine ⟨_, rfl, ?_⟩))
    go_ret2
    exact ⟨q9x8_, q1x8_⟩

/-! ### measure_Extra: function 39 -/
def measure_Extra.f (k : Nat) (a0 : Int) (a1 : Int) (a2 : Int) (a3 : Int) : Option (Int × Int × Int) := (measure_within.f a0 1 1000000).bind fun t269 => (if t269 = true then ((measure_within.f a2 1 1000000).bind fun t270 => (if t270 = true then ((measure_within.f a1 0 a0).bind fun t271 => (if t271 = true then ((measure_within.f a3 0 a2).bind fun t272 => (if t272 = true then ((measure_reduce.f k (wrap64 ((wrap64 (a1 * a2)) - (wrap64 (a3 * a0)))) (wrap64 (a0 * a2))).bind fun bt273 => (some (bt273.1, bt273.2, 0))) else (some (0, 0, 1)))) else (some (0, 0, 1)))) else (some (0, 0, 1)))) else (some (0, 0, 1)))
theorem measure_Extra.mono : ∀ a0 a1 a2 a3 k, LeO (measure_Extra.f k a0 a1 a2 a3) (measure_Extra.f (k + 1) a0 a1 a2 a3) := by
  intro a0 a1 a2 a3 k
  unfold measure_Extra.f
  repeat' first
      | (with_reducible exact measure_reduce.mono _ _ _)
      | (with_reducible exact LeO.refl _)
      | (with_reducible exact LeO.none _)
      | (with_reducible refine LeO.ite ?_ ?_)
      | (with_reducible refine LeO.bind ?_ (fun _ => ?_))
      | exact measure_reduce.mono _ _ _
      | exact LeO.none _
      | refine LeO.ite ?_ ?_
      | refine LeO.bind ?_ (fun _ => ?_)
set_option maxHeartbeats 8000000 in
set_option maxRecDepth 100000 in
theorem measure_Extra.calls (k : Nat) (a0 : Int) (a1 : Int) (a2 : Int) (a3 : Int) (r1 : Int) (r2 : Int) (r3 : Int) (w : World) (h : measure_Extra.f k a0 a1 a2 a3 = some (r1, r2, r3)) :
    Calls Try.prog 39 #[.int .i64 a0, .int .i64 a1, .int .i64 a2, .int .i64 a3] w fun e w' => e = .returned (.tuple #[.agg #[.int .i64 r1, .int .i64 r2], .int .i64 r3]) ∧ Below w.heap.size w w' := by
  have hu28 := Try.underlying28
  have HB := Aside0.mk (Below.refl w.heap.size w)
  have H : ((measure_within.f a0 1 1000000).bind fun t269 => (if t269 = true then ((measure_within.f a2 1 1000000).bind fun t270 => (if t270 = true then ((measure_within.f a1 0 a0).bind fun t271 => (if t271 = true then ((measure_within.f a3 0 a2).bind fun t272 => (if t272 = true then ((measure_reduce.f k (wrap64 ((wrap64 (a1 * a2)) - (wrap64 (a3 * a0)))) (wrap64 (a0 * a2))).bind fun bt273 => (some (bt273.1, bt273.2, 0))) else (some (0, 0, 1)))) else (some (0, 0, 1)))) else (some (0, 0, 1)))) else (some (0, 0, 1)))) = some (r1, r2, r3) := h
  clear h
  replace H := Option.bind_eq_some_iff.mp H
  obtain ⟨t269, A50, H⟩ := H
  replace H : (if t269 = true then ((measure_within.f a2 1 1000000).bind fun t270 => (if t270 = true then ((measure_within.f a1 0 a0).bind fun t271 => (if t271 = true then ((measure_within.f a3 0 a2).bind fun t272 => (if t272 = true then ((measure_reduce.f k (wrap64 ((wrap64 (a1 * a2)) - (wrap64 (a3 * a0)))) (wrap64 (a0 * a2))).bind fun bt273 => (some (bt273.1, bt273.2, 0))) else (some (0, 0, 1)))) else (some (0, 0, 1)))) else (some (0, 0, 1)))) else (some (0, 0, 1))) = some (r1, r2, r3) := H
  have A5 := Aside0.mk A50
  clear A50
  by_cases c6 : t269 = true
  · subst c6
    have H1 : ((measure_within.f a2 1 1000000).bind fun t270 => (if t270 = true then ((measure_within.f a1 0 a0).bind fun t271 => (if t271 = true then ((measure_within.f a3 0 a2).bind fun t272 => (if t272 = true then ((measure_reduce.f k (wrap64 ((wrap64 (a1 * a2)) - (wrap64 (a3 * a0)))) (wrap64 (a0 * a2))).bind fun bt273 => (some (bt273.1, bt273.2, 0))) else (some (0, 0, 1)))) else (some (0, 0, 1)))) else (some (0, 0, 1)))) = some (r1, r2, r3) := by rw [if_pos rfl] at H; exact H
    clear H
    have H := H1
    clear H1
    replace H := Option.bind_eq_some_iff.mp H
    obtain ⟨t270, A70, H⟩ := H
    replace H : (if t270 = true then ((measure_within.f a1 0 a0).bind fun t271 => (if t271 = true then ((measure_within.f a3 0 a2).bind fun t272 => (if t272 = true then ((measure_reduce.f k (wrap64 ((wrap64 (a1 * a2)) - (wrap64 (a3 * a0)))) (wrap64 (a0 * a2))).bind fun bt273 => (some (bt273.1, bt273.2, 0))) else (some (0, 0, 1)))) else (some (0, 0, 1)))) else (some (0, 0, 1))) = some (r1, r2, r3) := H
    have A7 := Aside0.mk A70
    clear A70
    by_cases c8 : t270 = true
    · subst c8
      have H1 : ((measure_within.f a1 0 a0).bind fun t271 => (if t271 = true then ((measure_within.f a3 0 a2).bind fun t272 => (if t272 = true then ((measure_reduce.f k (wrap64 ((wrap64 (a1 * a2)) - (wrap64 (a3 * a0)))) (wrap64 (a0 * a2))).bind fun bt273 => (some (bt273.1, bt273.2, 0))) else (some (0, 0, 1)))) else (some (0, 0, 1)))) = some (r1, r2, r3) := by rw [if_pos rfl] at H; exact H
      clear H
      have H := H1
      clear H1
      replace H := Option.bind_eq_some_iff.mp H
      obtain ⟨t271, A90, H⟩ := H
      replace H : (if t271 = true then ((measure_within.f a3 0 a2).bind fun t272 => (if t272 = true then ((measure_reduce.f k (wrap64 ((wrap64 (a1 * a2)) - (wrap64 (a3 * a0)))) (wrap64 (a0 * a2))).bind fun bt273 => (some (bt273.1, bt273.2, 0))) else (some (0, 0, 1)))) else (some (0, 0, 1))) = some (r1, r2, r3) := H
      have A9 := Aside0.mk A90
      clear A90
      by_cases c10 : t271 = true
      · subst c10
        have H1 : ((measure_within.f a3 0 a2).bind fun t272 => (if t272 = true then ((measure_reduce.f k (wrap64 ((wrap64 (a1 * a2)) - (wrap64 (a3 * a0)))) (wrap64 (a0 * a2))).bind fun bt273 => (some (bt273.1, bt273.2, 0))) else (some (0, 0, 1)))) = some (r1, r2, r3) := by rw [if_pos rfl] at H; exact H
        clear H
        have H := H1
        clear H1
        replace H := Option.bind_eq_some_iff.mp H
        obtain ⟨t272, A110, H⟩ := H
        replace H : (if t272 = true then ((measure_reduce.f k (wrap64 ((wrap64 (a1 * a2)) - (wrap64 (a3 * a0)))) (wrap64 (a0 * a2))).bind fun bt273 => (some (bt273.1, bt273.2, 0))) else (some (0, 0, 1))) = some (r1, r2, r3) := H
        have A11 := Aside0.mk A110
        clear A110
        by_cases c12 : t272 = true
        · subst c12
          have H1 : ((measure_reduce.f k (wrap64 ((wrap64 (a1 * a2)) - (wrap64 (a3 * a0)))) (wrap64 (a0 * a2))).bind fun bt273 => (some (bt273.1, bt273.2, 0))) = some (r1, r2, r3) := by rw [if_pos rfl] at H; exact H
          clear H
          have H := H1
          clear H1
          replace H := Option.bind_eq_some_iff.mp H
          obtain ⟨⟨t273, t274⟩, A130, H⟩ := H
          replace H : (some (t273, t274, 0)) = some (r1, r2, r3) := H
          have A13 := Aside0.mk A130
          clear A130
          as_aux_lemma =>
            simp only [Option.some.injEq, Prod.mk.injEq] at H
            obtain ⟨rfl, rfl, rfl⟩ := H
            go_enter Try.func39, Try.ntmps39
            go_wp2_with (first | ((with_reducible refine gate_dst (N := 8) rfl ?_); refine box_event ?hg (N := 8) ?hd (cs := #[.int .i64 0, .int .i64 0]) (t := 28) ?hr ?_; (case hd => rfl); (case hg => rfl); (case hr => first | (go_simp; done) | (go_simp; rfl)); intro gb268 hg w14 hbox hb; have n0_ := Aside0.mk (below_step q1x8_ hb); have n1_ := Aside0.mk (hbox); have n2_ := Aside0.mk ((by rw [hg]; exact (below_size q1x8_) : w.heap.size ≤ gb268)); have n3_ := Aside0.mk ((by rw [hg]; exact (below_size q1x8_) : w.heap.size ≤ gb268)); clear HB; have HB := n0_; have BK268 := n1_; have GW268 := n2_; have GE268 := n3_; clear n0_ n1_ n2_ n3_; clear hb hbox hg) | ((with_reducible refine gate_callee (f := 65) rfl ?_); refine goesL_ (some 11) rfl rfl Try.func65 (by kernel_rfl) rfl #[.int .i64 a0, .int .i64 1, .int .i64 1000000] rfl q10x8_ ?_; (with_reducible refine (measure_within.calls a0 1 1000000 true _ A5.out).mono ?_); rintro e w' ⟨rfl, ⟨nd, rfl⟩⟩; refine ⟨_, rfl, ?_⟩; (try (rw [drewN_self w14]; generalize hq_ : World.drewN w14 _ = w14; have n0_ : Aside0 (w14.heap[gb268]? = some (.cells #[.int .i64 0, .int .i64 0] 28 (0, 0))) := ⟨q8x8_⟩; have n1_ : Aside0 (Below w.heap.size w w14) := ⟨q18x8_⟩; clear BK268 HB hq_; have BK268 := n0_; have HB := n1_; clear n0_ n1_))) | (go_at_call 65; (with_reducible refine (measure_within.calls a2 1 1000000 true _ A7.out).mono ?_); rintro e w' ⟨rfl, ⟨nd, rfl⟩⟩; (try (rw [drewN_self w14]; generalize hq_ : World.drewN w14 _ = w14; have n0_ : Aside0 (w14.heap[gb268]? = some (.cells #[.int .i64 0, .int .i64 0] 28 (0, 0))) := ⟨q8x8_⟩; have n1_ : Aside0 (Below w.heap.size w w14) := ⟨q18x8_⟩; clear BK268 HB hq_; have BK268 := n0_; have HB := n1_; clear n0_ n1_))) | (go_at_call 65; (with_reducible refine (measure_within.calls a1 0 a0 true _ A9.out).mono ?_); rintro e w' ⟨rfl, ⟨nd, rfl⟩⟩; (try (rw [drewN_self w14]; generalize hq_ : World.drewN w14 _ = w14; have n0_ : Aside0 (w14.heap[gb268]? = some (.cells #[.int .i64 0, .int .i64 0] 28 (0, 0))) := ⟨q8x8_⟩; have n1_ : Aside0 (Below w.heap.size w w14) := ⟨q18x8_⟩; clear BK268 HB hq_; have BK268 := n0_; have HB := n1_; clear n0_ n1_))) | (go_at_call 65; (with_reducible refine (measure_within.calls a3 0 a2 true _ A11.out).mono ?_); rintro e w' ⟨rfl, ⟨nd, rfl⟩⟩; (try (rw [drewN_self w14]; generalize hq_ : World.drewN w14 _ = w14; have n0_ : Aside0 (w14.heap[gb268]? = some (.cells #[.int .i64 0, .int .i64 0] 28 (0, 0))) := ⟨q8x8_⟩; have n1_ : Aside0 (Below w.heap.size w w14) := ⟨q18x8_⟩; clear BK268 HB hq_; have BK268 := n0_; have HB := n1_; clear n0_ n1_))) | ((with_reducible refine gate_callee (f := 64) rfl ?_); refine goesL_ (some 41) rfl rfl Try.func64 (by kernel_rfl) rfl #[.int .i64 (wrap64 ((wrap64 (a1 * a2)) - (wrap64 (a3 * a0)))), .int .i64 (wrap64 (a0 * a2))] rfl q10x8_ ?_; (with_reducible refine (measure_reduce.calls k (wrap64 ((wrap64 (a1 * a2)) - (wrap64 (a3 * a0)))) (wrap64 (a0 * a2)) t273 t274 _ A13.out).mono ?_); rintro e w15 ⟨rfl, hb⟩; refine ⟨_, rfl, ?_⟩; have n0_ := Aside0.mk (blk_below (g := gb268) (o := .cells #[.int .i64 0, .int .i64 0] 28 (0, 0)) (by (with_reducible repeat (first | refine blk_drewN ?_ _ | refine blk_drew ?_ | refine blk_alloc ?_ _)); exact BK268.out) hb); have n1_ := Aside0.mk (below_step q2x8_ hb); clear BK268; clear HB; have BK268 := n0_; have HB := n1_; clear n0_ n1_; (try clear hb); (try clear hb2); (try clear hk); (try clear hi); have hcz16_0 : w15.cell? ⟨gb268, 0, none⟩ = some (.int .i64 0) := (blk_cell BK268.out 0).trans rfl; have hcz16_1 : w15.cell? ⟨gb268, 1, none⟩ = some (.int .i64 0) := (blk_cell BK268.out 1).trans rfl; have hfz16_0 := blk_frozen BK268.out 0; have hfz16_1 := blk_frozen BK268.out 1))
            refine bodyPost_ret (results_ct rfl _ _ gb268 28 #[.int .i64 t273, .int .i64 t274] (0, 0) _ rfl (by (with_reducible repeat (first | refine blk_drewN ?_ _ | refine blk_drew ?_ | refine blk_alloc ?_ _)); refine blk_put (cs := #[.int .i64 t273, .int .i64 0]) ?_ 1 _ rfl; (with_reducible repeat (first | refine blk_drewN ?_ _ | refine blk_drew ?_ | refine blk_alloc ?_ _)); refine blk_put (cs := #[.int .i64 0, .int .i64 0]) ?_ 0 _ rfl; (with_reducible repeat (first | refine blk_drewN ?_ _ | refine blk_drew ?_ | refine blk_alloc ?_ _)); exact BK268.out) Try.underlying28 rfl (by kernel_rfl)) rfl ?_
            exact ⟨q9x8_, q2x8_⟩
        replace c12 := Bool.eq_false_iff.mpr c12
        subst c12
        have H1 : (some (0, 0, 1)) = some (r1, r2, r3) := by rw [if_neg (show ¬ (false = true) by decide)] at H; exact H
        clear H
        have H := H1
        clear H1
        as_aux_lemma =>
          simp only [Option.some.injEq, Prod.mk.injEq] at H
          obtain ⟨rfl, rfl, rfl⟩ := H
          go_enter Try.func39, Try.ntmps39
          go_wp2_with (first | ((with_reducible refine gate_dst (N := 8) rfl ?_); refine box_event ?hg (N := 8) ?hd (cs := #[.int .i64 0, .int .i64 0]) (t := 28) ?hr ?_; (case hd => rfl); (case hg => rfl); (case hr => first | (go_simp; done) | (go_simp; rfl)); intro gb268 hg w17 hbox hb; have n0_ := Aside0.mk (below_step q1x8_ hb); have n1_ := Aside0.mk (hbox); have n2_ := Aside0.mk ((by rw [hg]; exact (below_size q1x8_) : w.heap.size ≤ gb268)); have n3_ := Aside0.mk ((by rw [hg]; exact (below_size q1x8_) : w.heap.size ≤ gb268)); clear HB; have HB := n0_; have BK268 := n1_; have GW268 := n2_; have GE268 := n3_; clear n0_ n1_ n2_ n3_; clear hb hbox hg) | ((with_reducible refine gate_callee (f := 65) rfl ?_); refine goesL_ (some 11) rfl rfl Try.func65 (by kernel_rfl) rfl #[.int .i64 a0, .int .i64 1, .int .i64 1000000] rfl q10x8_ ?_; (with_reducible refine (measure_within.calls a0 1 1000000 true _ A5.out).mono ?_); rintro e w' ⟨rfl, ⟨nd, rfl⟩⟩; refine ⟨_, rfl, ?_⟩; (try (rw [drewN_self w17]; generalize hq_ : World.drewN w17 _ = w17; have n0_ : Aside0 (w17.heap[gb268]? = some (.cells #[.int .i64 0, .int .i64 0] 28 (0, 0))) := ⟨q8x8_⟩; have n1_ : Aside0 (Below w.heap.size w w17) := ⟨q18x8_⟩; clear BK268 HB hq_; have BK268 := n0_; have HB := n1_; clear n0_ n1_))) | (go_at_call 65; (with_reducible refine (measure_within.calls a2 1 1000000 true _ A7.out).mono ?_); rintro e w' ⟨rfl, ⟨nd, rfl⟩⟩; (try (rw [drewN_self w17]; generalize hq_ : World.drewN w17 _ = w17; have n0_ : Aside0 (w17.heap[gb268]? = some (.cells #[.int .i64 0, .int .i64 0] 28 (0, 0))) := ⟨q8x8_⟩; have n1_ : Aside0 (Below w.heap.size w w17) := ⟨q18x8_⟩; clear BK268 HB hq_; have BK268 := n0_; have HB := n1_; clear n0_ n1_))) | (go_at_call 65; (with_reducible refine (measure_within.calls a1 0 a0 true _ A9.out).mono ?_); rintro e w' ⟨rfl, ⟨nd, rfl⟩⟩; (try (rw [drewN_self w17]; generalize hq_ : World.drewN w17 _ = w17; have n0_ : Aside0 (w17.heap[gb268]? = some (.cells #[.int .i64 0, .int .i64 0] 28 (0, 0))) := ⟨q8x8_⟩; have n1_ : Aside0 (Below w.heap.size w w17) := ⟨q18x8_⟩; clear BK268 HB hq_; have BK268 := n0_; have HB := n1_; clear n0_ n1_))) | (go_at_call 65; (with_reducible refine (measure_within.calls a3 0 a2 false _ A11.out).mono ?_); rintro e w' ⟨rfl, ⟨nd, rfl⟩⟩; (try (rw [drewN_self w17]; generalize hq_ : World.drewN w17 _ = w17; have n0_ : Aside0 (w17.heap[gb268]? = some (.cells #[.int .i64 0, .int .i64 0] 28 (0, 0))) := ⟨q8x8_⟩; have n1_ : Aside0 (Below w.heap.size w w17) := ⟨q18x8_⟩; clear BK268 HB hq_; have BK268 := n0_; have HB := n1_; clear n0_ n1_)); have hcz18_0 : w17.cell? ⟨gb268, 0, none⟩ = some (.int .i64 0) := (blk_cell BK268.out 0).trans rfl; have hcz18_1 : w17.cell? ⟨gb268, 1, none⟩ = some (.int .i64 0) := (blk_cell BK268.out 1).trans rfl; have hfz18_0 := blk_frozen BK268.out 0; have hfz18_1 := blk_frozen BK268.out 1))
          refine bodyPost_ret (results_ct rfl _ _ gb268 28 #[.int .i64 0, .int .i64 0] (0, 0) _ rfl q12x8_ Try.underlying28 rfl (by kernel_rfl)) rfl ?_
          exact ⟨q9x8_, q2x8_⟩
      replace c10 := Bool.eq_false_iff.mpr c10
      subst c10
      have H1 : (some (0, 0, 1)) = some (r1, r2, r3) := by rw [if_neg (show ¬ (false = true) by decide)] at H; exact H
      clear H
      have H := H1
      clear H1
      as_aux_lemma =>
        simp only [Option.some.injEq, Prod.mk.injEq] at H
        obtain ⟨rfl, rfl, rfl⟩ := H
        go_enter Try.func39, Try.ntmps39
        go_wp2_with (first | ((with_reducible refine gate_dst (N := 8) rfl ?_); refine box_event ?hg (N := 8) ?hd (cs := #[.int .i64 0, .int .i64 0]) (t := 28) ?hr ?_; (case hd => rfl); (case hg => rfl); (case hr => first | (go_simp; done) | (go_simp; rfl)); intro gb268 hg w19 hbox hb; have n0_ := Aside0.mk (below_step q1x8_ hb); have n1_ := Aside0.mk (hbox); have n2_ := Aside0.mk ((by rw [hg]; exact (below_size q1x8_) : w.heap.size ≤ gb268)); have n3_ := Aside0.mk ((by rw [hg]; exact (below_size q1x8_) : w.heap.size ≤ gb268)); clear HB; have HB := n0_; have BK268 := n1_; have GW268 := n2_; have GE268 := n3_; clear n0_ n1_ n2_ n3_; clear hb hbox hg) | ((with_reducible refine gate_callee (f := 65) rfl ?_); refine goesL_ (some 11) rfl rfl Try.func65 (by kernel_rfl) rfl #[.int .i64 a0, .int .i64 1, .int .i64 1000000] rfl q10x8_ ?_; (with_reducible refine (measure_within.calls a0 1 1000000 true _ A5.out).mono ?_); rintro e w' ⟨rfl, ⟨nd, rfl⟩⟩; refine ⟨_, rfl, ?_⟩; (try (rw [drewN_self w19]; generalize hq_ : World.drewN w19 _ = w19; have n0_ : Aside0 (w19.heap[gb268]? = some (.cells #[.int .i64 0, .int .i64 0] 28 (0, 0))) := ⟨q8x8_⟩; have n1_ : Aside0 (Below w.heap.size w w19) := ⟨q18x8_⟩; clear BK268 HB hq_; have BK268 := n0_; have HB := n1_; clear n0_ n1_))) | (go_at_call 65; (with_reducible refine (measure_within.calls a2 1 1000000 true _ A7.out).mono ?_); rintro e w' ⟨rfl, ⟨nd, rfl⟩⟩; (try (rw [drewN_self w19]; generalize hq_ : World.drewN w19 _ = w19; have n0_ : Aside0 (w19.heap[gb268]? = some (.cells #[.int .i64 0, .int .i64 0] 28 (0, 0))) := ⟨q8x8_⟩; have n1_ : Aside0 (Below w.heap.size w w19) := ⟨q18x8_⟩; clear BK268 HB hq_; have BK268 := n0_; have HB := n1_; clear n0_ n1_))) | (go_at_call 65; (with_reducible refine (measure_within.calls a1 0 a0 false _ A9.out).mono ?_); rintro e w' ⟨rfl, ⟨nd, rfl⟩⟩; (try (rw [drewN_self w19]; generalize hq_ : World.drewN w19 _ = w19; have n0_ : Aside0 (w19.heap[gb268]? = some (.cells #[.int .i64 0, .int .i64 0] 28 (0, 0))) := ⟨q8x8_⟩; have n1_ : Aside0 (Below w.heap.size w w19) := ⟨q18x8_⟩; clear BK268 HB hq_; have BK268 := n0_; have HB := n1_; clear n0_ n1_)); have hcz20_0 : w19.cell? ⟨gb268, 0, none⟩ = some (.int .i64 0) := (blk_cell BK268.out 0).trans rfl; have hcz20_1 : w19.cell? ⟨gb268, 1, none⟩ = some (.int .i64 0) := (blk_cell BK268.out 1).trans rfl; have hfz20_0 := blk_frozen BK268.out 0; have hfz20_1 := blk_frozen BK268.out 1))
        refine bodyPost_ret (results_ct rfl _ _ gb268 28 #[.int .i64 0, .int .i64 0] (0, 0) _ rfl q12x8_ Try.underlying28 rfl (by kernel_rfl)) rfl ?_
        exact ⟨q9x8_, q2x8_⟩
    replace c8 := Bool.eq_false_iff.mpr c8
    subst c8
    have H1 : (some (0, 0, 1)) = some (r1, r2, r3) := by rw [if_neg (show ¬ (false = true) by decide)] at H; exact H
    clear H
    have H := H1
    clear H1
    as_aux_lemma =>
      simp only [Option.some.injEq, Prod.mk.injEq] at H
      obtain ⟨rfl, rfl, rfl⟩ := H
      go_enter Try.func39, Try.ntmps39
      go_wp2_with (first | ((with_reducible refine gate_dst (N := 8) rfl ?_); refine box_event ?hg (N := 8) ?hd (cs := #[.int .i64 0, .int .i64 0]) (t := 28) ?hr ?_; (case hd => rfl); (case hg => rfl); (case hr => first | (go_simp; done) | (go_simp; rfl)); intro gb268 hg w21 hbox hb; have n0_ := Aside0.mk (below_step q1x8_ hb); have n1_ := Aside0.mk (hbox); have n2_ := Aside0.mk ((by rw [hg]; exact (below_size q1x8_) : w.heap.size ≤ gb268)); have n3_ := Aside0.mk ((by rw [hg]; exact (below_size q1x8_) : w.heap.size ≤ gb268)); clear HB; have HB := n0_; have BK268 := n1_; have GW268 := n2_; have GE268 := n3_; clear n0_ n1_ n2_ n3_; clear hb hbox hg) | ((with_reducible refine gate_callee (f := 65) rfl ?_); refine goesL_ (some 11) rfl rfl Try.func65 (by kernel_rfl) rfl #[.int .i64 a0, .int .i64 1, .int .i64 1000000] rfl q10x8_ ?_; (with_reducible refine (measure_within.calls a0 1 1000000 true _ A5.out).mono ?_); rintro e w' ⟨rfl, ⟨nd, rfl⟩⟩; refine ⟨_, rfl, ?_⟩; (try (rw [drewN_self w21]; generalize hq_ : World.drewN w21 _ = w21; have n0_ : Aside0 (w21.heap[gb268]? = some (.cells #[.int .i64 0, .int .i64 0] 28 (0, 0))) := ⟨q8x8_⟩; have n1_ : Aside0 (Below w.heap.size w w21) := ⟨q18x8_⟩; clear BK268 HB hq_; have BK268 := n0_; have HB := n1_; clear n0_ n1_))) | (go_at_call 65; (with_reducible refine (measure_within.calls a2 1 1000000 false _ A7.out).mono ?_); rintro e w' ⟨rfl, ⟨nd, rfl⟩⟩; (try (rw [drewN_self w21]; generalize hq_ : World.drewN w21 _ = w21; have n0_ : Aside0 (w21.heap[gb268]? = some (.cells #[.int .i64 0, .int .i64 0] 28 (0, 0))) := ⟨q8x8_⟩; have n1_ : Aside0 (Below w.heap.size w w21) := ⟨q18x8_⟩; clear BK268 HB hq_; have BK268 := n0_; have HB := n1_; clear n0_ n1_)); have hcz22_0 : w21.cell? ⟨gb268, 0, none⟩ = some (.int .i64 0) := (blk_cell BK268.out 0).trans rfl; have hcz22_1 : w21.cell? ⟨gb268, 1, none⟩ = some (.int .i64 0) := (blk_cell BK268.out 1).trans rfl; have hfz22_0 := blk_frozen BK268.out 0; have hfz22_1 := blk_frozen BK268.out 1))
      refine bodyPost_ret (results_ct rfl _ _ gb268 28 #[.int .i64 0, .int .i64 0] (0, 0) _ rfl q12x8_ Try.underlying28 rfl (by kernel_rfl)) rfl ?_
      exact ⟨q9x8_, q2x8_⟩
  replace c6 := Bool.eq_false_iff.mpr c6
  subst c6
  have H1 : (some (0, 0, 1)) = some (r1, r2, r3) := by rw [if_neg (show ¬ (false = true) by decide)] at H; exact H
  clear H
  have H := H1
  clear H1
  as_aux_lemma =>
    simp only [Option.some.injEq, Prod.mk.injEq] at H
    obtain ⟨rfl, rfl, rfl⟩ := H
    go_enter Try.func39, Try.ntmps39
    go_wp2_with (first | ((with_reducible refine gate_dst (N := 8) rfl ?_); refine box_event ?hg (N := 8) ?hd (cs := #[.int .i64 0, .int .i64 0]) (t := 28) ?hr ?_; (case hd => rfl); (case hg => rfl); (case hr => first | (go_simp; done) | (go_simp; rfl)); intro gb268 hg w23 hbox hb; have n0_ := Aside0.mk (below_step q1x8_ hb); have n1_ := Aside0.mk (hbox); have n2_ := Aside0.mk ((by rw [hg]; exact (below_size q1x8_) : w.heap.size ≤ gb268)); have n3_ := Aside0.mk ((by rw [hg]; exact (below_size q1x8_) : w.heap.size ≤ gb268)); clear HB; have HB := n0_; have BK268 := n1_; have GW268 := n2_; have GE268 := n3_; clear n0_ n1_ n2_ n3_; clear hb hbox hg) | ((with_reducible refine gate_callee (f := 65) rfl ?_); refine goesL_ (some 11) rfl rfl Try.func65 (by kernel_rfl) rfl #[.int .i64 a0, .int .i64 1, .int .i64 1000000] rfl q10x8_ ?_; (with_reducible refine (measure_within.calls a0 1 1000000 false _ A5.out).mono ?_); rintro e w' ⟨rfl, ⟨nd, rfl⟩⟩; refine ⟨_, rfl, ?_⟩; (try (rw [drewN_self w23]; generalize hq_ : World.drewN w23 _ = w23; have n0_ : Aside0 (w23.heap[gb268]? = some (.cells #[.int .i64 0, .int .i64 0] 28 (0, 0))) := ⟨q8x8_⟩; have n1_ : Aside0 (Below w.heap.size w w23) := ⟨q18x8_⟩; clear BK268 HB hq_; have BK268 := n0_; have HB := n1_; clear n0_ n1_)); have hcz24_0 : w23.cell? ⟨gb268, 0, none⟩ = some (.int .i64 0) := (blk_cell BK268.out 0).trans rfl; have hcz24_1 : w23.cell? ⟨gb268, 1, none⟩ = some (.int .i64 0) := (blk_cell BK268.out 1).trans rfl; have hfz24_0 := blk_frozen BK268.out 0; have hfz24_1 := blk_frozen BK268.out 1))
    refine bodyPost_ret (results_ct rfl _ _ gb268 28 #[.int .i64 0, .int .i64 0] (0, 0) _ rfl q12x8_ Try.underlying28 rfl (by kernel_rfl)) rfl ?_
    exact ⟨q9x8_, q2x8_⟩

/-! ### handref1_ExtraOf: function 40 -/
def handref1_ExtraOf.l0 : Nat → Int → Int → Int → Int → List (S87) → Int → Int → Option (Int × Int × Int)
  | 0, _, _, _, _, _, _, _ => none
  | k + 1, x0, x1, x2, x3, x18, x19, x20 => if x20 < x19 then (if 0 ≤ x20 then (if x20 < (x18.length : Int) then (if ((rd_T87 x18 x20).f0) < 1 then (some (0, 0, 1)) else (if ((rd_T87 x18 x20).f0) > 1000000 then (some (0, 0, 1)) else (if ((rd_T87 x18 x20).f1) < 0 then (some (0, 0, 1)) else (if ((rd_T87 x18 x20).f1) > ((rd_T87 x18 x20).f0) then (some (0, 0, 1)) else (handref1_ExtraOf.l0 k x0 x1 x2 x3 x18 x19 (wrap64 (x20 + 1))))))) else (none)) else (none)) else ((handref1_reduced.f k (wrap64 ((wrap64 (x1 * x2)) - (wrap64 (x3 * x0)))) (wrap64 (x0 * x2))).bind fun bt281 => (some (bt281.1, bt281.2, 0)))
def handref1_ExtraOf.f (k : Nat) (a0 : Int) (a1 : Int) (a2 : Int) (a3 : Int) : Option (Int × Int × Int) := (some (([(⟨a0, a1⟩ : S87), (⟨a2, a3⟩ : S87)] : List (S87)) : List (S87))).bind fun y276 => (handref1_ExtraOf.l0 k a0 a1 a2 a3 y276 (y276.length : Int) 0)
theorem handref1_ExtraOf.mono_l : ∀ k, (∀ y0 y1 y2 y3 y4 y5 y6, LeO (handref1_ExtraOf.l0 k y0 y1 y2 y3 y4 y5 y6) (handref1_ExtraOf.l0 (k + 1) y0 y1 y2 y3 y4 y5 y6))
  | 0 => fun _ _ _ _ _ _ _ r h => by simp [handref1_ExtraOf.l0] at h
  | k + 1 => by
    have ih0 := handref1_ExtraOf.mono_l k
    · intro y0 y1 y2 y3 y4 y5 y6
      unfold handref1_ExtraOf.l0
      repeat' first
      | (with_reducible exact ih0 _ _ _ _ _ _ _)
      | (with_reducible exact handref1_reduced.mono _ _ _)
      | (with_reducible exact LeO.refl _)
      | (with_reducible exact LeO.none _)
      | (with_reducible refine LeO.ite ?_ ?_)
      | (with_reducible refine LeO.bind ?_ (fun _ => ?_))
      | exact ih0 _ _ _ _ _ _ _
      | exact handref1_reduced.mono _ _ _
      | exact LeO.none _
      | refine LeO.ite ?_ ?_
      | refine LeO.bind ?_ (fun _ => ?_)
theorem handref1_ExtraOf.mono : ∀ a0 a1 a2 a3 k, LeO (handref1_ExtraOf.f k a0 a1 a2 a3) (handref1_ExtraOf.f (k + 1) a0 a1 a2 a3) := by
  intro a0 a1 a2 a3 k
  have ih0 := handref1_ExtraOf.mono_l k
  unfold handref1_ExtraOf.f
  repeat' first
      | (with_reducible exact ih0 _ _ _ _ _ _ _)
      | (with_reducible exact handref1_reduced.mono _ _ _)
      | (with_reducible exact LeO.refl _)
      | (with_reducible exact LeO.none _)
      | (with_reducible refine LeO.ite ?_ ?_)
      | (with_reducible refine LeO.bind ?_ (fun _ => ?_))
      | exact ih0 _ _ _ _ _ _ _
      | exact handref1_reduced.mono _ _ _
      | exact LeO.none _
      | refine LeO.ite ?_ ?_
      | refine LeO.bind ?_ (fun _ => ?_)
set_option maxHeartbeats 8000000 in
set_option maxRecDepth 100000 in
theorem handref1_ExtraOf.calls (k : Nat) (a0 : Int) (a1 : Int) (a2 : Int) (a3 : Int) (r1 : Int) (r2 : Int) (r3 : Int) (w : World) (h : handref1_ExtraOf.f k a0 a1 a2 a3 = some (r1, r2, r3)) :
    Calls Try.prog 40 #[.int .i64 a0, .int .i64 a1, .int .i64 a2, .int .i64 a3] w fun e w' => e = .returned (.tuple #[.agg #[.int .i64 r1, .int .i64 r2], .int .i64 r3]) ∧ Below w.heap.size w w' := by
  have hu28 := Try.underlying28
  have hu87 := Try.underlying87
  have HB := Aside0.mk (Below.refl w.heap.size w)
  have H : ((some (([(⟨a0, a1⟩ : S87), (⟨a2, a3⟩ : S87)] : List (S87)) : List (S87))).bind fun y276 => (handref1_ExtraOf.l0 k a0 a1 a2 a3 y276 (y276.length : Int) 0)) = some (r1, r2, r3) := h
  clear h
  obtain ⟨y276, hy276⟩ : ∃ y_ : List (S87), y_ = (([(⟨a0, a1⟩ : S87), (⟨a2, a3⟩ : S87)] : List (S87))) := ⟨_, rfl⟩
  replace H : (handref1_ExtraOf.l0 k a0 a1 a2 a3 y276 (y276.length : Int) 0) = some (r1, r2, r3) := by first | (rw [hy276]; with_reducible exact H) | (have H2_ := (Option.bind_some _ _).symm.trans H; rw [hy276]; with_reducible exact H2_) | (have H2_ := (Option.bind_some _ _).symm.trans H; with_reducible exact H2_) | with_reducible exact H | (rw [hy276]; exact H) | exact H
  have Ny276 := Aside0.mk hy276
  clear hy276
  have H' := Aside0.mk H
  clear H
  go_enter Try.func40, Try.ntmps40
  go_wp2_with (first | ((with_reducible refine gate_dst (N := 8) rfl ?_); refine box_event ?hg (N := 8) ?hd (cs := #[.int .i64 0, .int .i64 0]) (t := 28) ?hr ?_; (case hd => rfl); (case hg => rfl); (case hr => first | (go_simp; done) | (go_simp; rfl)); intro gb275 hg w5 hbox hb; have n0_ := Aside0.mk (below_step q1x8_ hb); have n1_ := Aside0.mk (hbox); have n2_ := Aside0.mk ((by rw [hg]; exact (below_size q1x8_) : w.heap.size ≤ gb275)); have n3_ := Aside0.mk ((by rw [hg]; exact (below_size q1x8_) : w.heap.size ≤ gb275)); clear HB; have HB := n0_; have BK275 := n1_; have GW275 := n2_; have GE275 := n3_; clear n0_ n1_ n2_ n3_; clear hb hbox hg) | ((with_reducible refine gate_dst (N := 18) rfl ?_); refine Kd.R_lit k87 _ 87 ?hg (N := 18) ?hd (xs := ([(⟨a0, a1⟩ : S87), (⟨a2, a3⟩ : S87)] : List (S87))) (inner := [.int .i64 a0, .int .i64 a1, .int .i64 a2, .int .i64 a3]) (ok := fun _ => True) (okp := fun _ => True) ?hr ?hp (fun _ hk => hk) trivial (Below.refl _ _) (Nat.le_refl _) (by simp) ?_; (case hd => rfl); (case hg => rfl); (case hr => first | (go_simp; done) | (go_simp; rfl)); (case hp => exact (Reps.c2 (show Kd.M k87 _ _ _ (⟨a0, a1⟩ : S87) [.int .i64 a0, .int .i64 a1] from (k87_mkM _ _ _ (⟨a0, a1⟩ : S87) )) (Reps.c2 (show Kd.M k87 _ _ _ (⟨a2, a3⟩ : S87) [.int .i64 a2, .int .i64 a3] from (k87_mkM _ _ _ (⟨a2, a3⟩ : S87) )) (Reps.none _ _)))); intro v277 w6 ho7 hb hg_ hnew_; clear hg_ hnew_; (first | rw [← Ny276.out] at ho7 | (simp only [Int.reduceToNat] at ho7; rw [← Ny276.out] at ho7)); have n0_ := Aside0.mk (Kd.R_lower ho7 (below_size q3x8_)); have n1_ := Aside0.mk (blk_below (g := gb275) (o := .cells #[.int .i64 0, .int .i64 0] 28 (0, 0)) q7x8_ hb); have n2_ := Aside0.mk (below_step q3x8_ hb); clear BK275; clear HB; have HO278 := n0_; have BK275 := n1_; have HB := n2_; clear n0_ n1_ n2_; clear hb ho7; obtain ⟨Ao8, co8, eo8⟩ := Kd.R_slice HO278.out; subst eo8))
  go_loopg [20] k (fun kq v20 w' => ∃ (x20_1 : Int) (x276000_1 : Int) (x276001_1 : Int), v20 = .int .i64 x20_1 ∧ Aside0 (handref1_ExtraOf.l0 kq a0 a1 a2 a3 y276 (y276.length : Int) x20_1 = some (r1, r2, r3)) ∧ Aside0 (kq ≤ k) ∧ Aside0 (Kd.R k87 87 w' w.heap.size (fun _ => True) (.slice Ao8 y276.length co8) y276) ∧ Aside0 (w'.heap[gb275]? = some (.cells #[.int .i64 x276000_1, .int .i64 x276001_1] 28 (0, 0))) ∧ Aside0 (Below w.heap.size w w'))
  case atStart => exact ⟨(0), (0), (0), q17x8_, H', ⟨Nat.le_refl _⟩, ⟨by (with_reducible repeat (first | apply Kd.R_alloc | apply Kd.R_drewN | apply Kd.R_drew)); exact HO278.out⟩, ⟨q7x8_⟩, ⟨q3x8_⟩⟩
  case round =>
    clear H'
    (try clear c2); (try clear p2); (try clear c4)
    obtain ⟨x20_1, x276000_1, x276001_1, rfl, HA, HK1, HO_18, BK275, HB⟩ := hrel
    rcases gk with _ | k1
    · exact absurd HA.out (by simp [handref1_ExtraOf.l0])
    have H := HA.out
    clear HA
    simp only [handref1_ExtraOf.l0] at H
    by_cases c9 : x20_1 < (y276.length : Int)
    · rw [if_pos c9] at H
      have c9b0 : decide (x20_1 < (y276.length : Int)) = true := decide_eq_true c9
      clear c9
      by_cases c10 : 0 ≤ x20_1
      · rw [if_pos c10] at H
        have c10b0 : decide (0 ≤ x20_1) = true := decide_eq_true c10
        clear c10
        by_cases c11 : x20_1 < (y276.length : Int)
        · rw [if_pos c11] at H
          have c11b0 : decide (x20_1 < (y276.length : Int)) = true := decide_eq_true c11
          clear c11
          by_cases c12 : ((rd_T87 y276 x20_1).f0) < 1
          · rw [if_pos c12] at H
            have c12b0 : decide (((rd_T87 y276 x20_1).f0) < 1) = true := decide_eq_true c12
            clear c12
            as_aux_lemma =>
              simp only [Option.some.injEq, Prod.mk.injEq] at H
              obtain ⟨rfl, rfl, rfl⟩ := H
              have p279 : 0 ≤ (x20_1 : Int) := of_decide_eq_true q16x8_
              have q279 : x20_1 < (y276.length : Int) := of_decide_eq_true q16x8_
              obtain ⟨ad279, e279, hx279_0, hx279_1⟩ := at_T87 (Kd.R_reads' HO_18.out).2.2 x20_1 p279 q279
              cases e279
              replace p279 := eq_true p279
              replace q279 := eq_true q279
              go_wp2_with (first | ((with_reducible refine gate_dst (N := 11) rfl ?_); refine box_event ?hg (N := 11) ?hd (cs := #[.int .i64 0, .int .i64 0]) (t := 87) ?hr ?_; (case hd => rfl); (case hg => rfl); (case hr => first | (go_simp; done) | (go_simp; rfl)); intro gb280 hg w13 hbox hb; have n0_ := Aside0.mk (Kd.R_below (Kd.R_elderB q14x8_ gb280 (Nat.le_of_eq hg.symm)) hb); have n1_ := Aside0.mk (blk_below (g := gb275) (o := .cells #[.int .i64 x276000_1, .int .i64 x276001_1] 28 (0, 0)) q7x8_ hb); have n2_ := Aside0.mk (below_step q3x8_ hb); have n3_ := Aside0.mk (hbox); have n4_ := Aside0.mk ((by rw [hg]; exact (below_size q3x8_) : w.heap.size ≤ gb280)); have n5_ := Aside0.mk ((by rw [hg]; exact (below_size q3x8_) : w.heap.size ≤ gb280)); have n6_ := Aside0.mk ((by rw [hg]; exact Nat.ne_of_lt (blk_lt (g := gb275) (o := .cells #[.int .i64 x276000_1, .int .i64 x276001_1] 28 (0, 0)) q7x8_) : gb275 ≠ gb280)); have n7_ := Aside0.mk ((by rw [hg]; exact Nat.ne_of_gt (blk_lt (g := gb275) (o := .cells #[.int .i64 x276000_1, .int .i64 x276001_1] 28 (0, 0)) q7x8_) : gb280 ≠ gb275)); clear HO_18; clear BK275; clear HB; have HO_18 := n0_; have BK275 := n1_; have HB := n2_; have BK280 := n3_; have GW280 := n4_; have GE280 := n5_; have NB275_280 := n6_; have NB280_275 := n7_; clear n0_ n1_ n2_ n3_ n4_ n5_ n6_ n7_; clear hb hbox hg; have hnb14 := NB280_275.out; have hnc14 := NB275_280.out; have hcz15_0 : w13.cell? ⟨gb280, 0, none⟩ = some (.int .i64 0) := (blk_cell BK280.out 0).trans rfl; have hcz15_1 : w13.cell? ⟨gb280, 1, none⟩ = some (.int .i64 0) := (blk_cell BK280.out 1).trans rfl; have hfz15_0 := blk_frozen BK280.out 0; have hfz15_1 := blk_frozen BK280.out 1; have hcz16_0 : w13.cell? ⟨gb275, 0, none⟩ = some (.int .i64 x276000_1) := (blk_cell BK275.out 0).trans rfl; have hcz16_1 : w13.cell? ⟨gb275, 1, none⟩ = some (.int .i64 x276001_1) := (blk_cell BK275.out 1).trans rfl; have hfz16_0 := blk_frozen BK275.out 0; have hfz16_1 := blk_frozen BK275.out 1))
              refine bodyPost_ret (results_ct rfl _ _ gb275 28 #[.int .i64 0, .int .i64 0] (0, 0) _ rfl q6x8_ Try.underlying28 rfl (by kernel_rfl)) rfl ?_
              exact ⟨q9x8_, q13x8_⟩
          rw [if_neg c12] at H
          have c12b0 : decide (((rd_T87 y276 x20_1).f0) < 1) = false := decide_eq_false c12
          clear c12
          by_cases c17 : ((rd_T87 y276 x20_1).f0) > 1000000
          · rw [if_pos c17] at H
            have c17b0 : decide (1000000 < ((rd_T87 y276 x20_1).f0)) = true := decide_eq_true c17
            clear c17
            as_aux_lemma =>
              simp only [Option.some.injEq, Prod.mk.injEq] at H
              obtain ⟨rfl, rfl, rfl⟩ := H
              have p279 : 0 ≤ (x20_1 : Int) := of_decide_eq_true q16x8_
              have q279 : x20_1 < (y276.length : Int) := of_decide_eq_true q16x8_
              obtain ⟨ad279, e279, hx279_0, hx279_1⟩ := at_T87 (Kd.R_reads' HO_18.out).2.2 x20_1 p279 q279
              cases e279
              replace p279 := eq_true p279
              replace q279 := eq_true q279
              go_wp2_with (first | ((with_reducible refine gate_dst (N := 11) rfl ?_); refine box_event ?hg (N := 11) ?hd (cs := #[.int .i64 0, .int .i64 0]) (t := 87) ?hr ?_; (case hd => rfl); (case hg => rfl); (case hr => first | (go_simp; done) | (go_simp; rfl)); intro gb280 hg w18 hbox hb; have n0_ := Aside0.mk (Kd.R_below (Kd.R_elderB q14x8_ gb280 (Nat.le_of_eq hg.symm)) hb); have n1_ := Aside0.mk (blk_below (g := gb275) (o := .cells #[.int .i64 x276000_1, .int .i64 x276001_1] 28 (0, 0)) q7x8_ hb); have n2_ := Aside0.mk (below_step q3x8_ hb); have n3_ := Aside0.mk (hbox); have n4_ := Aside0.mk ((by rw [hg]; exact (below_size q3x8_) : w.heap.size ≤ gb280)); have n5_ := Aside0.mk ((by rw [hg]; exact (below_size q3x8_) : w.heap.size ≤ gb280)); have n6_ := Aside0.mk ((by rw [hg]; exact Nat.ne_of_lt (blk_lt (g := gb275) (o := .cells #[.int .i64 x276000_1, .int .i64 x276001_1] 28 (0, 0)) q7x8_) : gb275 ≠ gb280)); have n7_ := Aside0.mk ((by rw [hg]; exact Nat.ne_of_gt (blk_lt (g := gb275) (o := .cells #[.int .i64 x276000_1, .int .i64 x276001_1] 28 (0, 0)) q7x8_) : gb280 ≠ gb275)); clear HO_18; clear BK275; clear HB; have HO_18 := n0_; have BK275 := n1_; have HB := n2_; have BK280 := n3_; have GW280 := n4_; have GE280 := n5_; have NB275_280 := n6_; have NB280_275 := n7_; clear n0_ n1_ n2_ n3_ n4_ n5_ n6_ n7_; clear hb hbox hg; have hnb19 := NB280_275.out; have hnc19 := NB275_280.out; have hcz20_0 : w18.cell? ⟨gb280, 0, none⟩ = some (.int .i64 0) := (blk_cell BK280.out 0).trans rfl; have hcz20_1 : w18.cell? ⟨gb280, 1, none⟩ = some (.int .i64 0) := (blk_cell BK280.out 1).trans rfl; have hfz20_0 := blk_frozen BK280.out 0; have hfz20_1 := blk_frozen BK280.out 1; have hcz21_0 : w18.cell? ⟨gb275, 0, none⟩ = some (.int .i64 x276000_1) := (blk_cell BK275.out 0).trans rfl; have hcz21_1 : w18.cell? ⟨gb275, 1, none⟩ = some (.int .i64 x276001_1) := (blk_cell BK275.out 1).trans rfl; have hfz21_0 := blk_frozen BK275.out 0; have hfz21_1 := blk_frozen BK275.out 1))
              refine bodyPost_ret (results_ct rfl _ _ gb275 28 #[.int .i64 0, .int .i64 0] (0, 0) _ rfl q6x8_ Try.underlying28 rfl (by kernel_rfl)) rfl ?_
              exact ⟨q9x8_, q13x8_⟩
          rw [if_neg c17] at H
          have c17b0 : decide (1000000 < ((rd_T87 y276 x20_1).f0)) = false := decide_eq_false c17
          clear c17
          by_cases c22 : ((rd_T87 y276 x20_1).f1) < 0
          · rw [if_pos c22] at H
            have c22b0 : decide (((rd_T87 y276 x20_1).f1) < 0) = true := decide_eq_true c22
            clear c22
            as_aux_lemma =>
              simp only [Option.some.injEq, Prod.mk.injEq] at H
              obtain ⟨rfl, rfl, rfl⟩ := H
              have p279 : 0 ≤ (x20_1 : Int) := of_decide_eq_true q16x8_
              have q279 : x20_1 < (y276.length : Int) := of_decide_eq_true q16x8_
              obtain ⟨ad279, e279, hx279_0, hx279_1⟩ := at_T87 (Kd.R_reads' HO_18.out).2.2 x20_1 p279 q279
              cases e279
              replace p279 := eq_true p279
              replace q279 := eq_true q279
              go_wp2_with (first | ((with_reducible refine gate_dst (N := 11) rfl ?_); refine box_event ?hg (N := 11) ?hd (cs := #[.int .i64 0, .int .i64 0]) (t := 87) ?hr ?_; (case hd => rfl); (case hg => rfl); (case hr => first | (go_simp; done) | (go_simp; rfl)); intro gb280 hg w23 hbox hb; have n0_ := Aside0.mk (Kd.R_below (Kd.R_elderB q14x8_ gb280 (Nat.le_of_eq hg.symm)) hb); have n1_ := Aside0.mk (blk_below (g := gb275) (o := .cells #[.int .i64 x276000_1, .int .i64 x276001_1] 28 (0, 0)) q7x8_ hb); have n2_ := Aside0.mk (below_step q3x8_ hb); have n3_ := Aside0.mk (hbox); have n4_ := Aside0.mk ((by rw [hg]; exact (below_size q3x8_) : w.heap.size ≤ gb280)); have n5_ := Aside0.mk ((by rw [hg]; exact (below_size q3x8_) : w.heap.size ≤ gb280)); have n6_ := Aside0.mk ((by rw [hg]; exact Nat.ne_of_lt (blk_lt (g := gb275) (o := .cells #[.int .i64 x276000_1, .int .i64 x276001_1] 28 (0, 0)) q7x8_) : gb275 ≠ gb280)); have n7_ := Aside0.mk ((by rw [hg]; exact Nat.ne_of_gt (blk_lt (g := gb275) (o := .cells #[.int .i64 x276000_1, .int .i64 x276001_1] 28 (0, 0)) q7x8_) : gb280 ≠ gb275)); clear HO_18; clear BK275; clear HB; have HO_18 := n0_; have BK275 := n1_; have HB := n2_; have BK280 := n3_; have GW280 := n4_; have GE280 := n5_; have NB275_280 := n6_; have NB280_275 := n7_; clear n0_ n1_ n2_ n3_ n4_ n5_ n6_ n7_; clear hb hbox hg; have hnb24 := NB280_275.out; have hnc24 := NB275_280.out; have hcz25_0 : w23.cell? ⟨gb280, 0, none⟩ = some (.int .i64 0) := (blk_cell BK280.out 0).trans rfl; have hcz25_1 : w23.cell? ⟨gb280, 1, none⟩ = some (.int .i64 0) := (blk_cell BK280.out 1).trans rfl; have hfz25_0 := blk_frozen BK280.out 0; have hfz25_1 := blk_frozen BK280.out 1; have hcz26_0 : w23.cell? ⟨gb275, 0, none⟩ = some (.int .i64 x276000_1) := (blk_cell BK275.out 0).trans rfl; have hcz26_1 : w23.cell? ⟨gb275, 1, none⟩ = some (.int .i64 x276001_1) := (blk_cell BK275.out 1).trans rfl; have hfz26_0 := blk_frozen BK275.out 0; have hfz26_1 := blk_frozen BK275.out 1))
              refine bodyPost_ret (results_ct rfl _ _ gb275 28 #[.int .i64 0, .int .i64 0] (0, 0) _ rfl q6x8_ Try.underlying28 rfl (by kernel_rfl)) rfl ?_
              exact ⟨q9x8_, q13x8_⟩
          rw [if_neg c22] at H
          have c22b0 : decide (((rd_T87 y276 x20_1).f1) < 0) = false := decide_eq_false c22
          clear c22
          by_cases c27 : ((rd_T87 y276 x20_1).f1) > ((rd_T87 y276 x20_1).f0)
          · rw [if_pos c27] at H
            have c27b0 : decide (((rd_T87 y276 x20_1).f0) < ((rd_T87 y276 x20_1).f1)) = true := decide_eq_true c27
            clear c27
            as_aux_lemma =>
              simp only [Option.some.injEq, Prod.mk.injEq] at H
              obtain ⟨rfl, rfl, rfl⟩ := H
              have p279 : 0 ≤ (x20_1 : Int) := of_decide_eq_true q16x8_
              have q279 : x20_1 < (y276.length : Int) := of_decide_eq_true q16x8_
              obtain ⟨ad279, e279, hx279_0, hx279_1⟩ := at_T87 (Kd.R_reads' HO_18.out).2.2 x20_1 p279 q279
              cases e279
              replace p279 := eq_true p279
              replace q279 := eq_true q279
              go_wp2_with (first | ((with_reducible refine gate_dst (N := 11) rfl ?_); refine box_event ?hg (N := 11) ?hd (cs := #[.int .i64 0, .int .i64 0]) (t := 87) ?hr ?_; (case hd => rfl); (case hg => rfl); (case hr => first | (go_simp; done) | (go_simp; rfl)); intro gb280 hg w28 hbox hb; have n0_ := Aside0.mk (Kd.R_below (Kd.R_elderB q14x8_ gb280 (Nat.le_of_eq hg.symm)) hb); have n1_ := Aside0.mk (blk_below (g := gb275) (o := .cells #[.int .i64 x276000_1, .int .i64 x276001_1] 28 (0, 0)) q7x8_ hb); have n2_ := Aside0.mk (below_step q3x8_ hb); have n3_ := Aside0.mk (hbox); have n4_ := Aside0.mk ((by rw [hg]; exact (below_size q3x8_) : w.heap.size ≤ gb280)); have n5_ := Aside0.mk ((by rw [hg]; exact (below_size q3x8_) : w.heap.size ≤ gb280)); have n6_ := Aside0.mk ((by rw [hg]; exact Nat.ne_of_lt (blk_lt (g := gb275) (o := .cells #[.int .i64 x276000_1, .int .i64 x276001_1] 28 (0, 0)) q7x8_) : gb275 ≠ gb280)); have n7_ := Aside0.mk ((by rw [hg]; exact Nat.ne_of_gt (blk_lt (g := gb275) (o := .cells #[.int .i64 x276000_1, .int .i64 x276001_1] 28 (0, 0)) q7x8_) : gb280 ≠ gb275)); clear HO_18; clear BK275; clear HB; have HO_18 := n0_; have BK275 := n1_; have HB := n2_; have BK280 := n3_; have GW280 := n4_; have GE280 := n5_; have NB275_280 := n6_; have NB280_275 := n7_; clear n0_ n1_ n2_ n3_ n4_ n5_ n6_ n7_; clear hb hbox hg; have hnb29 := NB280_275.out; have hnc29 := NB275_280.out; have hcz30_0 : w28.cell? ⟨gb280, 0, none⟩ = some (.int .i64 0) := (blk_cell BK280.out 0).trans rfl; have hcz30_1 : w28.cell? ⟨gb280, 1, none⟩ = some (.int .i64 0) := (blk_cell BK280.out 1).trans rfl; have hfz30_0 := blk_frozen BK280.out 0; have hfz30_1 := blk_frozen BK280.out 1; have hcz31_0 : w28.cell? ⟨gb275, 0, none⟩ = some (.int .i64 x276000_1) := (blk_cell BK275.out 0).trans rfl; have hcz31_1 : w28.cell? ⟨gb275, 1, none⟩ = some (.int .i64 x276001_1) := (blk_cell BK275.out 1).trans rfl; have hfz31_0 := blk_frozen BK275.out 0; have hfz31_1 := blk_frozen BK275.out 1))
              refine bodyPost_ret (results_ct rfl _ _ gb275 28 #[.int .i64 0, .int .i64 0] (0, 0) _ rfl q6x8_ Try.underlying28 rfl (by kernel_rfl)) rfl ?_
              exact ⟨q9x8_, q13x8_⟩
          rw [if_neg c27] at H
          have c27b0 : decide (((rd_T87 y276 x20_1).f0) < ((rd_T87 y276 x20_1).f1)) = false := decide_eq_false c27
          clear c27
          as_aux_lemma =>
            have H' := Aside0.mk H
            clear H
            have p279 : 0 ≤ (x20_1 : Int) := of_decide_eq_true q16x8_
            have q279 : x20_1 < (y276.length : Int) := of_decide_eq_true q16x8_
            obtain ⟨ad279, e279, hx279_0, hx279_1⟩ := at_T87 (Kd.R_reads' HO_18.out).2.2 x20_1 p279 q279
            cases e279
            replace p279 := eq_true p279
            replace q279 := eq_true q279
            go_wp2_with (first | ((with_reducible refine gate_dst (N := 11) rfl ?_); refine box_event ?hg (N := 11) ?hd (cs := #[.int .i64 0, .int .i64 0]) (t := 87) ?hr ?_; (case hd => rfl); (case hg => rfl); (case hr => first | (go_simp; done) | (go_simp; rfl)); intro gb280 hg w32 hbox hb; have n0_ := Aside0.mk (Kd.R_below (Kd.R_elderB q14x8_ gb280 (Nat.le_of_eq hg.symm)) hb); have n1_ := Aside0.mk (blk_below (g := gb275) (o := .cells #[.int .i64 x276000_1, .int .i64 x276001_1] 28 (0, 0)) q7x8_ hb); have n2_ := Aside0.mk (below_step q3x8_ hb); have n3_ := Aside0.mk (hbox); have n4_ := Aside0.mk ((by rw [hg]; exact (below_size q3x8_) : w.heap.size ≤ gb280)); have n5_ := Aside0.mk ((by rw [hg]; exact (below_size q3x8_) : w.heap.size ≤ gb280)); have n6_ := Aside0.mk ((by rw [hg]; exact Nat.ne_of_lt (blk_lt (g := gb275) (o := .cells #[.int .i64 x276000_1, .int .i64 x276001_1] 28 (0, 0)) q7x8_) : gb275 ≠ gb280)); have n7_ := Aside0.mk ((by rw [hg]; exact Nat.ne_of_gt (blk_lt (g := gb275) (o := .cells #[.int .i64 x276000_1, .int .i64 x276001_1] 28 (0, 0)) q7x8_) : gb280 ≠ gb275)); clear HO_18; clear BK275; clear HB; have HO_18 := n0_; have BK275 := n1_; have HB := n2_; have BK280 := n3_; have GW280 := n4_; have GE280 := n5_; have NB275_280 := n6_; have NB280_275 := n7_; clear n0_ n1_ n2_ n3_ n4_ n5_ n6_ n7_; clear hb hbox hg; have hnb33 := NB280_275.out; have hnc33 := NB275_280.out; have hcz34_0 : w32.cell? ⟨gb280, 0, none⟩ = some (.int .i64 0) := (blk_cell BK280.out 0).trans rfl; have hcz34_1 : w32.cell? ⟨gb280, 1, none⟩ = some (.int .i64 0) := (blk_cell BK280.out 1).trans rfl; have hfz34_0 := blk_frozen BK280.out 0; have hfz34_1 := blk_frozen BK280.out 1))
            go_roundg k1
            case measure => have := HK1.out; omega
            case rel => exact ⟨(wrap64 (x20_1 + 1)), (x276000_1), (x276001_1), q17x8_, H', ⟨by have := HK1.out; omega⟩, ⟨by (with_reducible repeat (first | apply Kd.R_alloc | apply Kd.R_drewN | apply Kd.R_drew)); exact Kd.R_mono (Kd.R_far (p := ⟨gb280, 1, none⟩) (Kd.R_far (p := ⟨gb280, 0, none⟩) (Kd.R_mono HO_18.out (fun k_ hk => (⟨hk, hk.2⟩ : _ ∧ k_ ≠ gb280))) (fun _ hk => hk.2) (.int .i64 ((rd_T87 y276 x20_1).f0))) (fun _ hk => hk.2) (.int .i64 ((rd_T87 y276 x20_1).f1))) (fun _ hk => trivial)⟩, ⟨by (with_reducible repeat (first | refine blk_drewN ?_ _ | refine blk_drew ?_ | refine blk_alloc ?_ _)); refine blk_far ?_ NB275_280.out _; (with_reducible repeat (first | refine blk_drewN ?_ _ | refine blk_drew ?_ | refine blk_alloc ?_ _)); refine blk_far ?_ NB275_280.out _; (with_reducible repeat (first | refine blk_drewN ?_ _ | refine blk_drew ?_ | refine blk_alloc ?_ _)); exact BK275.out⟩, ⟨q13x8_⟩⟩
        rw [if_neg c11] at H
        exact absurd H (by simp)
      rw [if_neg c10] at H
      exact absurd H (by simp)
    rw [if_neg c9] at H
    have c9b0 : decide (x20_1 < (y276.length : Int)) = false := decide_eq_false c9
    clear c9
    replace H := Option.bind_eq_some_iff.mp H
    obtain ⟨⟨t281, t282⟩, A350, H⟩ := H
    replace H : (some (t281, t282, 0)) = some (r1, r2, r3) := H
    have A35 := Aside0.mk A350
    clear A350
    as_aux_lemma =>
      simp only [Option.some.injEq, Prod.mk.injEq] at H
      obtain ⟨rfl, rfl, rfl⟩ := H
      go_wp2_with (first | ((with_reducible refine gate_callee (f := 66) rfl ?_); refine goesL_ (some 56) rfl rfl Try.func66 (by kernel_rfl) rfl #[.int .i64 (wrap64 ((wrap64 (a1 * a2)) - (wrap64 (a3 * a0)))), .int .i64 (wrap64 (a0 * a2))] rfl q10x8_ ?_; (with_reducible refine (handref1_reduced.calls k1 (wrap64 ((wrap64 (a1 * a2)) - (wrap64 (a3 * a0)))) (wrap64 (a0 * a2)) t281 t282 _ A35.out).mono ?_); rintro e w36 ⟨rfl, hb⟩; refine ⟨_, rfl, ?_⟩; have n0_ := Aside0.mk (Kd.R_below q14x8_ hb); have n1_ := Aside0.mk (blk_below (g := gb275) (o := .cells #[.int .i64 x276000_1, .int .i64 x276001_1] 28 (0, 0)) q7x8_ hb); have n2_ := Aside0.mk (below_step q3x8_ hb); clear HO_18; clear BK275; clear HB; have HO_18 := n0_; have BK275 := n1_; have HB := n2_; clear n0_ n1_ n2_; (try clear hb); (try clear hb2); (try clear hk); (try clear hi); have hcz37_0 : w36.cell? ⟨gb275, 0, none⟩ = some (.int .i64 x276000_1) := (blk_cell BK275.out 0).trans rfl; have hcz37_1 : w36.cell? ⟨gb275, 1, none⟩ = some (.int .i64 x276001_1) := (blk_cell BK275.out 1).trans rfl; have hfz37_0 := blk_frozen BK275.out 0; have hfz37_1 := blk_frozen BK275.out 1))
      refine bodyPost_ret (results_ct rfl _ _ gb275 28 #[.int .i64 t281, .int .i64 t282] (0, 0) _ rfl (by (with_reducible repeat (first | refine blk_drewN ?_ _ | refine blk_drew ?_ | refine blk_alloc ?_ _)); refine blk_put (cs := #[.int .i64 t281, .int .i64 x276001_1]) ?_ 1 _ rfl; (with_reducible repeat (first | refine blk_drewN ?_ _ | refine blk_drew ?_ | refine blk_alloc ?_ _)); refine blk_put (cs := #[.int .i64 x276000_1, .int .i64 x276001_1]) ?_ 0 _ rfl; (with_reducible repeat (first | refine blk_drewN ?_ _ | refine blk_drew ?_ | refine blk_alloc ?_ _)); exact BK275.out) Try.underlying28 rfl (by kernel_rfl)) rfl ?_
      exact ⟨q9x8_, q3x8_⟩

end Go.Proofs.Ytihnjdhjkpmggaa.PTestsExact
