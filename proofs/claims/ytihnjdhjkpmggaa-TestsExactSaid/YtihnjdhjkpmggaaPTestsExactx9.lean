-- By a program of this session (an altered copy of the printer of the kit); Lean checks it.
import Derived.Test.YtihnjdhjkpmggaaPTestsExactx0
import Derived.Test.YtihnjdhjkpmggaaPTestsExactx1
import Derived.Test.YtihnjdhjkpmggaaPTestsExactx2
import Derived.Test.YtihnjdhjkpmggaaPTestsExactx4
import Derived.Test.YtihnjdhjkpmggaaPTestsExactx5
import Derived.Test.YtihnjdhjkpmggaaPTestsExactx6
import Derived.Test.YtihnjdhjkpmggaaPTestsExactx7
import Derived.Test.YtihnjdhjkpmggaaPTestsExactx8
namespace Go.Proofs.Ytihnjdhjkpmggaa.PTestsExact
open Go.RowKit Go.Proofs.YtihnjdhjkpmggaaW.PrintWords Go.Proofs.YtihnjdhjkpmggaaW.PrintLast Go.Proofs.YtihnjdhjkpmggaaW.PrintMore
attribute [local go_sem] max2_int min2_int max_two min_two max_three min_three max_four min_four   -- for this text's walks alone
set_option linter.unusedVariables false
set_option linter.unusedSimpArgs false
theorem q1x9_ {p : Prop} (h : p := by repeat (first | (with_reducible first | exact HB.out | apply below_alloc | apply pw_below_drewN | apply below_drew1 | refine below_set ?_ (IsS25.ge HI283.out) | refine below_set ?_ GE299.out | refine below_set ?_ GE319.out) | exact HB.out)) : p := h
theorem q2x9_ {p : Prop} (h : p := by repeat (first | (with_reducible first | exact HB.out | apply below_alloc | apply pw_below_drewN | apply below_drew1 | refine below_set ?_ (IsS25.ge HI283.out) | refine below_set ?_ GE299.out) | exact HB.out)) : p := h
theorem q3x9_ {p : Prop} (h : p := by (with_reducible repeat (first | refine blk_drewN ?_ _ | refine blk_drew ?_ | refine blk_alloc ?_ _)); exact BK299.out) : p := h
theorem q4x9_ {p : Prop} (h : p := by repeat (first | (with_reducible first | exact HI283.out | apply IsS25.alloc | apply IsS25.drewN | apply IsS25.drew | apply IsS25.set_1 | refine IsS25.far ?_ NB283_299.out _ | refine IsS25.far ?_ NB283_319.out _) | exact HI283.out)) : p := h
theorem q5x9_ {p : Prop} (h : p := by (with_reducible repeat (first | refine blk_drewN ?_ _ | refine blk_drew ?_ | refine blk_alloc ?_ _)); exact BK319.out) : p := h
theorem q6x9_ {p : Prop} (h : p := by repeat (first | (with_reducible first | exact HI283.out | apply IsS25.alloc | apply IsS25.drewN | apply IsS25.drew | apply IsS25.set_1 | refine IsS25.far ?_ NB283_299.out _) | exact HI283.out)) : p := h
theorem q7x9_ {p : Prop} (h : p := by (try simp only [List.map_toArray, List.map_cons, List.map_nil]); first | done | rfl | (simp only [List.length_drop, List.length_take]; rfl)) : p := h
theorem q8x9_ {p : Prop} (h : p := by repeat (first | (with_reducible first | exact HB.out | apply below_alloc | apply pw_below_drewN | apply below_drew1 | refine below_set ?_ (IsS25.ge HI283.out) | refine below_set ?_ GE299.out | refine below_set ?_ GE319.out | refine below_set ?_ GE359.out | refine below_set ?_ GE363.out) | exact HB.out)) : p := h
theorem q9x9_ {p : Prop} (h : p := by have hne_ := Kd.own_blk (Kd.R_ne HO305.out BK319.out (by decide)); first | exact hne_ | (rw [add_block]; exact hne_) | (show (Addr.add _ _).block ≠ _; rw [add_block]; exact hne_) | (dsimp only; exact hne_)) : p := h
theorem q10x9_ {p : Prop} (h : p := by (with_reducible repeat (first | refine blk_drewN ?_ _ | refine blk_drew ?_ | refine blk_alloc ?_ _)); refine blk_put (cs := #[.int .i64 t296, .int .i64 0]) ?_ 1 _ rfl; (with_reducible repeat (first | refine blk_drewN ?_ _ | refine blk_drew ?_ | refine blk_alloc ?_ _)); refine blk_put (cs := #[.int .i64 0, .int .i64 0]) ?_ 0 _ rfl; (with_reducible repeat (first | refine blk_drewN ?_ _ | refine blk_drew ?_ | refine blk_alloc ?_ _)); exact BK299.out) : p := h
theorem q11x9_ {p : Prop} (h : p := by kernel_rfl) : p := h
theorem q12x9_ {p : Prop} (h : p := by repeat (first | (with_reducible first | exact HB.out | apply below_alloc | apply pw_below_drewN | apply below_drew1 | refine below_set ?_ (IsS25.ge HI283.out)) | exact HB.out)) : p := h
theorem q13x9_ {p : Prop} (h : p := by (with_reducible repeat (first | apply Kd.R_alloc | apply Kd.R_drewN | apply Kd.R_drew)); exact HO305.out) : p := h
theorem q14x9_ {p : Prop} (h : p := by (with_reducible repeat (first | apply Kd.R_alloc | apply Kd.R_drewN | apply Kd.R_drew)); exact HO341.out) : p := h
theorem q15x9_ {p : Prop} (h : p := by (with_reducible repeat (first | refine blk_drewN ?_ _ | refine blk_drew ?_ | refine blk_alloc ?_ _)); refine blk_put (cs := #[.int .i64 t360, .int .i64 0]) ?_ 1 _ rfl; (with_reducible repeat (first | refine blk_drewN ?_ _ | refine blk_drew ?_ | refine blk_alloc ?_ _)); refine blk_put (cs := #[.int .i64 0, .int .i64 0]) ?_ 0 _ rfl; (with_reducible repeat (first | refine blk_drewN ?_ _ | refine blk_drew ?_ | refine blk_alloc ?_ _)); exact BK363.out) : p := h
theorem q16x9_ {p : Prop} (h : p := by (with_reducible repeat (first | refine blk_drewN ?_ _ | refine blk_drew ?_ | refine blk_alloc ?_ _)); refine blk_put (cs := #[.int .i64 t316, .int .i64 0]) ?_ 1 _ rfl; (with_reducible repeat (first | refine blk_drewN ?_ _ | refine blk_drew ?_ | refine blk_alloc ?_ _)); refine blk_put (cs := #[.int .i64 0, .int .i64 0]) ?_ 0 _ rfl; (with_reducible repeat (first | refine blk_drewN ?_ _ | refine blk_drew ?_ | refine blk_alloc ?_ _)); exact BK319.out) : p := h
theorem q17x9_ {p : Prop} (h : p := by repeat (first | (with_reducible first | exact HB.out | apply below_alloc | apply pw_below_drewN | apply below_drew1 | refine below_set ?_ (IsS25.ge HI283.out) | refine below_set ?_ GE299.out | refine below_set ?_ GE319.out | refine below_set ?_ GE359.out) | exact HB.out)) : p := h
theorem q18x9_ {p : Prop} (h : p := by (with_reducible repeat (first | apply Kd.R_alloc | apply Kd.R_drewN | apply Kd.R_drew)); exact HO309.out) : p := h
theorem q19x9_ {p : Prop} (h : p := by (with_reducible repeat (first | refine blk_drewN ?_ _ | refine blk_drew ?_ | refine blk_alloc ?_ _)); refine blk_far ?_ NB299_363.out _; (with_reducible repeat (first | refine blk_drewN ?_ _ | refine blk_drew ?_ | refine blk_alloc ?_ _)); refine blk_far ?_ NB299_363.out _; (with_reducible repeat (first | refine blk_drewN ?_ _ | refine blk_drew ?_ | refine blk_alloc ?_ _)); exact BK299.out) : p := h
theorem q20x9_ {p : Prop} (h : p := by (with_reducible repeat (first | refine blk_drewN ?_ _ | refine blk_drew ?_ | refine blk_alloc ?_ _)); refine blk_far ?_ NB319_363.out _; (with_reducible repeat (first | refine blk_drewN ?_ _ | refine blk_drew ?_ | refine blk_alloc ?_ _)); refine blk_far ?_ NB319_363.out _; (with_reducible repeat (first | refine blk_drewN ?_ _ | refine blk_drew ?_ | refine blk_alloc ?_ _)); exact BK319.out) : p := h
theorem q21x9_ {p : Prop} (h : p := by (with_reducible repeat (first | refine blk_drewN ?_ _ | refine blk_drew ?_ | refine blk_alloc ?_ _)); refine blk_far ?_ NB359_363.out _; (with_reducible repeat (first | refine blk_drewN ?_ _ | refine blk_drew ?_ | refine blk_alloc ?_ _)); refine blk_far ?_ NB359_363.out _; (with_reducible repeat (first | refine blk_drewN ?_ _ | refine blk_drew ?_ | refine blk_alloc ?_ _)); exact BK359.out) : p := h
theorem q22x9_ {p : Prop} (h : p := by (with_reducible repeat (first | refine blk_drewN ?_ _ | refine blk_drew ?_ | refine blk_alloc ?_ _)); refine blk_far ?_ NB299_319.out _; (with_reducible repeat (first | refine blk_drewN ?_ _ | refine blk_drew ?_ | refine blk_alloc ?_ _)); refine blk_far ?_ NB299_319.out _; (with_reducible repeat (first | refine blk_drewN ?_ _ | refine blk_drew ?_ | refine blk_alloc ?_ _)); exact BK299.out) : p := h
theorem q23x9_ {p : Prop} (h : p := by (with_reducible repeat (first | apply Kd.R_alloc | apply Kd.R_drewN | apply Kd.R_drew)); exact HO346.out) : p := h
theorem q24x9_ {p : Prop} (h : p := by first | (with_reducible assumption) | assumption) : p := h
theorem q25x9_ {p : Prop} (h : p := by (with_reducible repeat (first | apply Kd.R_alloc | apply Kd.R_drewN | apply Kd.R_drew)); exact (Kd.R_mono (Kd.R_far (p := ⟨gb363, 1, none⟩) (Kd.R_far (p := ⟨gb363, 0, none⟩) (Kd.R_types HO341.out BK363.out (by decide)) (fun _ hk => hk.2) (.int .i64 t360)) (fun _ hk => hk.2) (.int .i64 t361)) (fun _ h_ => h_.1))) : p := h
theorem q26x9_ {p : Prop} (h : p := by (with_reducible repeat (first | apply Kd.R_alloc | apply Kd.R_drewN | apply Kd.R_drew)); exact (Kd.R_mono (Kd.R_far (p := ⟨gb363, 1, none⟩) (Kd.R_far (p := ⟨gb363, 0, none⟩) (Kd.R_types HO346.out BK363.out (by decide)) (fun _ hk => hk.2) (.int .i64 t360)) (fun _ hk => hk.2) (.int .i64 t361)) (fun _ h_ => h_.1))) : p := h
theorem q27x9_ {p : Prop} (h : p := by (with_reducible repeat (first | apply Kd.R_alloc | apply Kd.R_drewN | apply Kd.R_drew)); exact (Kd.R_mono (Kd.R_far (p := ⟨gb363, 1, none⟩) (Kd.R_far (p := ⟨gb363, 0, none⟩) (Kd.R_types HO353.out BK363.out (by decide)) (fun _ hk => hk.2) (.int .i64 t360)) (fun _ hk => hk.2) (.int .i64 t361)) (fun _ h_ => h_.1))) : p := h
theorem q28x9_ {p : Prop} (h : p := by (with_reducible repeat (first | apply Kd.R_alloc | apply Kd.R_drewN | apply Kd.R_drew)); exact Kd.R_mono (Kd.R_far (p := ⟨gb319, 1, none⟩) (Kd.R_far (p := ⟨gb319, 0, none⟩) (Kd.R_types HO305.out BK319.out (by decide)) (fun _ hk => hk.2) (.int .i64 t316)) (fun _ hk => hk.2) (.int .i64 t317)) (fun _ hk => hk.1)) : p := h
theorem q29x9_ {p : Prop} (h : p := by (with_reducible repeat (first | apply Kd.R_alloc | apply Kd.R_drewN | apply Kd.R_drew)); exact Kd.R_mono (Kd.R_far (p := ⟨gb319, 1, none⟩) (Kd.R_far (p := ⟨gb319, 0, none⟩) (Kd.R_types HO309.out BK319.out (by decide)) (fun _ hk => hk.2) (.int .i64 t316)) (fun _ hk => hk.2) (.int .i64 t317)) (fun _ hk => hk.1)) : p := h
theorem q30x9_ {p : Prop} (h : p := by first | rfl | (simp [errW_none, errW_some] <;> rfl) | (simp [*, errW_none, errW_some] <;> rfl)) : p := h
theorem q31x9_ {p : Prop} (h : p := by (with_reducible repeat (first | apply Kd.R_alloc | apply Kd.R_drewN | apply Kd.R_drew)); exact HO286.out) : p := h
theorem q32x9_ {p : Prop} (h : p := by repeat (first | (with_reducible first | exact HI283.out | apply IsS25.alloc | apply IsS25.drewN | apply IsS25.drew | apply IsS25.set_1) | exact HI283.out)) : p := h
theorem q33x9_ {p : Prop} (h : p := by first | rfl | (simp [errW_none, errW_some] <;> rfl) | (simp only [← hji89]; first | rfl | (simp [errW_none, errW_some] <;> rfl)) | (simp [*, errW_none, errW_some] <;> rfl)) : p := h
theorem q34x9_ {p : Prop} (h : p := by first | rfl | (simp; done) | (simp [*]; done)) : p := h
theorem q35x9_ {p : Prop} (h : p := by (with_reducible repeat (first | apply Kd.R_alloc | apply Kd.R_drewN | apply Kd.R_drew)); exact HO291.out) : p := h
theorem q36x9_ {p : Prop} (h : p := by (with_reducible repeat (first | apply Kd.R_alloc | apply Kd.R_drewN | apply Kd.R_drew)); exact HO353.out) : p := h
theorem q37x9_ {p : Prop} (h : p := by (with_reducible repeat (first | apply Kd.R_alloc | apply Kd.R_drewN | apply Kd.R_drew)); exact Kd.R_mono HO305.out (fun _ hk => trivial)) : p := h
theorem q38x9_ {p : Prop} (h : p := by repeat (first | (with_reducible first | exact HB.out | apply below_alloc | apply pw_below_drewN | apply below_drew1) | exact HB.out)) : p := h
theorem q39x9_ {p : Prop} (h : p := by (with_reducible repeat (first | refine blk_drewN ?_ _ | refine blk_drew ?_ | refine blk_alloc ?_ _)); exact BK359.out) : p := h
theorem q40x9_ {p : Prop} (h : p := by (with_reducible repeat (first | apply Kd.R_alloc | apply Kd.R_drewN | apply Kd.R_drew)); exact HO_10.out) : p := h
theorem q41x9_ {p : Prop} (h : p := by repeat (first | (with_reducible first | exact HB.out | apply below_alloc | apply pw_below_drewN | apply below_drew1 | refine below_set ?_ GE283.out) | exact HB.out)) : p := h
theorem q42x9_ {p : Prop} (h : p := by have := HJ5.out; have := HJ23.out; first | omega | exact Nat.le_refl _) : p := h
theorem q43x9_ {p : Prop} (h : p := by (with_reducible repeat (first | apply Kd.R_alloc | apply Kd.R_drewN | apply Kd.R_drew)); exact Kd.R_mono HO305.out (fun _ hk => hk.2)) : p := h
theorem q44x9_ {p : Prop} (h : p := by (with_reducible repeat (first | apply Kd.R_alloc | apply Kd.R_drewN | apply Kd.R_drew)); exact Kd.R_mono HO309.out (fun _ hk => hk.2)) : p := h
theorem q45x9_ {p : Prop} (h : p := by rw [← hq_]; exact q3x9_) : p := h

attribute [local go_sem high] eqA28
/-! ### handlaw1_TestsExact: function 6 -/
mutual
def handlaw1_TestsExact.j0 : Nat → Int → Int → Int → Int → Int → Bool → List Int → Int → Int → Int → Option (Bool)
  | 0, _, _, _, _, _, _, _, _, _, _ => none
  | k + 1, x4, x5, x6, x7, x9, x67, x284000, x284001, x300000, x300001 => if x67 = true then (if x7 = 1 then (if x9 = 1 then (handlaw1_TestsExact.j1 k x284000 x284001) else (some false)) else (some false)) else (if x7 = 0 then (if x9 = 0 then ((handref1_ChooseOf.f k x4 x5).bind fun t300 => (if x6 = t300 then ((handref1_SignsOf.f k x4 x5).bind fun bt301 => (if (!(x300000 == bt301.1) || (!(x300001 == bt301.2))) = true then (some false) else (handlaw1_TestsExact.j1 k x284000 x284001))) else (some false))) else (some false)) else (some false))
def handlaw1_TestsExact.j1 : Nat → List Int → Int → Option (Bool)
  | 0, _, _ => none
  | k + 1, x284000, x284001 => (handmake_Stream_Four.f x284000 x284001).bind fun bt303 => ((handmake_Stream_Pick.f x284000 bt303.2 (([1, 50, 100, 500, 0, 501] : List Int))).bind fun bt310 => (if 0 < (bt303.1.length : Int) then (if 1 < (bt303.1.length : Int) then (if 2 < (bt303.1.length : Int) then (if 3 < (bt303.1.length : Int) then ((measure_Exact.f k (rd bt303.1 0) (rd bt303.1 1) (rd bt303.1 2) (rd bt303.1 3)).bind fun bt316 => ((handref1_ExactFault.f k bt303.1).bind fun t320 => (if bt316.2.2 = t320 then (if t320 = 0 then ((handref1_ExactOf.f k (rd bt303.1 0) (rd bt303.1 1) (rd bt303.1 2) (rd bt303.1 3)).bind fun bt325 => (handlaw1_TestsExact.j2 k bt303.1 bt310.1 (!(bt316.1 == bt325.1) || (!(bt316.2.1 == bt325.2))) x284000 bt310.2)) else (handlaw1_TestsExact.j2 k bt303.1 bt310.1 false x284000 bt310.2)) else (handlaw1_TestsExact.j2 k bt303.1 bt310.1 true x284000 bt310.2)))) else (none)) else (none)) else (none)) else (none)))
def handlaw1_TestsExact.j2 : Nat → List Int → Int → Bool → List Int → Int → Option (Bool)
  | 0, _, _, _, _, _ => none
  | k + 1, x10, x11, x140, x284000, x284001 => if x140 = true then (some false) else (if 0 < (x10.length : Int) then (if 1 < (x10.length : Int) then (if 2 < (x10.length : Int) then (if 3 < (x10.length : Int) then ((measure_Verdict.f k (rd x10 0) (rd x10 1) (rd x10 2) (rd x10 3) x11).bind fun bt331 => ((handref1_VerdictOf.f k (rd x10 0) (rd x10 1) (rd x10 2) (rd x10 3) x11).bind fun bt337 => (if bt331.2 = bt337.2 then (handlaw1_TestsExact.j3 k (bt331.1 != bt337.1) x284000 x284001) else (handlaw1_TestsExact.j3 k true x284000 x284001)))) else (none)) else (none)) else (none)) else (none))
def handlaw1_TestsExact.j3 : Nat → Bool → List Int → Int → Option (Bool)
  | 0, _, _, _ => none
  | k + 1, x182, x284000, x284001 => if x182 = true then (some false) else ((handmake_Stream_Pick.f x284000 x284001 (([1, 4, 1000, 1000000, 0, 1000001] : List Int))).bind fun bt342 => ((handmake_Stream_Pick.f x284000 bt342.2 (([1, 4, 999999, 0] : List Int))).bind fun bt347 => ((handmake_Stream_Next.f x284000 bt347.2 (wrap64 ((mx bt342.1 1) + 1))).bind fun bt349 => ((handmake_Stream_Pick.f x284000 bt349.2 (([0, bt347.1, wrap64 (bt347.1 + 1), 1] : List Int))).bind fun bt354 => ((measure_Extra.f k bt342.1 bt349.1 bt347.1 bt354.1).bind fun bt356 => ((handref1_ExtraOf.f k bt342.1 bt349.1 bt347.1 bt354.1).bind fun bt360 => ((handlaw1_measures.f k).bind fun t364 => (if t364 = true then (if bt356.2.2 = bt360.2.2 then (some (bt356.1 == bt360.1 && (bt356.2.1 == bt360.2.1))) else (some false)) else (some false)))))))))
end
def handlaw1_TestsExact.f (k : Nat) (l0 : List Int) : Option (Bool) := (handmake_Stream_Pick.f l0 0 (([0, 1, 5, 30, 59, 60, 61, (-1)] : List Int))).bind fun bt287 => ((handmake_Stream_Pick.f l0 bt287.2 (([0, 1, wrap64 (Int.tdiv bt287.1 2), bt287.1, wrap64 (bt287.1 + 1), (-1)] : List Int))).bind fun bt292 => ((measure_Choose.f k bt287.1 bt292.1).bind fun bt294 => ((measure_Signs.f k bt287.1 bt292.1).bind fun bt296 => (if bt287.1 < 0 then (handlaw1_TestsExact.j0 k bt287.1 bt292.1 bt294.1 bt294.2 bt296.2.2 true l0 bt292.2 bt296.1 bt296.2.1) else (if bt287.1 > 60 then (handlaw1_TestsExact.j0 k bt287.1 bt292.1 bt294.1 bt294.2 bt296.2.2 true l0 bt292.2 bt296.1 bt296.2.1) else (if bt292.1 < 0 then (handlaw1_TestsExact.j0 k bt287.1 bt292.1 bt294.1 bt294.2 bt296.2.2 true l0 bt292.2 bt296.1 bt296.2.1) else (handlaw1_TestsExact.j0 k bt287.1 bt292.1 bt294.1 bt294.2 bt296.2.2 (decide (bt292.1 > bt287.1)) l0 bt292.2 bt296.1 bt296.2.1)))))))
theorem handlaw1_TestsExact.mono_l : ∀ k, (∀ y0 y1 y2 y3 y4 y5 y6 y7 y8 y9, LeO (handlaw1_TestsExact.j0 k y0 y1 y2 y3 y4 y5 y6 y7 y8 y9) (handlaw1_TestsExact.j0 (k + 1) y0 y1 y2 y3 y4 y5 y6 y7 y8 y9)) ∧ (∀ y0 y1, LeO (handlaw1_TestsExact.j1 k y0 y1) (handlaw1_TestsExact.j1 (k + 1) y0 y1)) ∧ (∀ y0 y1 y2 y3 y4, LeO (handlaw1_TestsExact.j2 k y0 y1 y2 y3 y4) (handlaw1_TestsExact.j2 (k + 1) y0 y1 y2 y3 y4)) ∧ (∀ y0 y1 y2, LeO (handlaw1_TestsExact.j3 k y0 y1 y2) (handlaw1_TestsExact.j3 (k + 1) y0 y1 y2))
  | 0 => ⟨fun _ _ _ _ _ _ _ _ _ _ r h => by simp [handlaw1_TestsExact.j0] at h, fun _ _ r h => by simp [handlaw1_TestsExact.j1] at h, fun _ _ _ _ _ r h => by simp [handlaw1_TestsExact.j2] at h, fun _ _ _ r h => by simp [handlaw1_TestsExact.j3] at h⟩
  | k + 1 => by
    obtain ⟨ih0, ih1, ih2, ih3⟩ := handlaw1_TestsExact.mono_l k
    refine ⟨?_, ?_, ?_, ?_⟩
    · intro y0 y1 y2 y3 y4 y5 y6 y7 y8 y9
      unfold handlaw1_TestsExact.j0
      repeat' first
      | (with_reducible exact ih0 _ _ _ _ _ _ _ _ _ _)
      | (with_reducible exact ih1 _ _)
      | (with_reducible exact ih2 _ _ _ _ _)
      | (with_reducible exact ih3 _ _ _)
      | (with_reducible exact handlaw1_measures.mono _)
      | (with_reducible exact handref1_ChooseOf.mono _ _ _)
      | (with_reducible exact handref1_ExactFault.mono _ _)
      | (with_reducible exact handref1_ExactOf.mono _ _ _ _ _)
      | (with_reducible exact handref1_ExtraOf.mono _ _ _ _ _)
      | (with_reducible exact handref1_SignsOf.mono _ _ _)
      | (with_reducible exact handref1_VerdictOf.mono _ _ _ _ _ _)
      | (with_reducible exact measure_Choose.mono _ _ _)
      | (with_reducible exact measure_Exact.mono _ _ _ _ _)
      | (with_reducible exact measure_Extra.mono _ _ _ _ _)
      | (with_reducible exact measure_Signs.mono _ _ _)
      | (with_reducible exact measure_Verdict.mono _ _ _ _ _ _)
      | (with_reducible exact LeO.refl _)
      | (with_reducible exact LeO.none _)
      | (with_reducible refine LeO.ite ?_ ?_)
      | (with_reducible refine LeO.bind ?_ (fun _ => ?_))
      | exact ih0 _ _ _ _ _ _ _ _ _ _
      | exact ih1 _ _
      | exact ih2 _ _ _ _ _
      | exact ih3 _ _ _
      | exact handlaw1_measures.mono _
      | exact handref1_ChooseOf.mono _ _ _
      | exact handref1_ExactFault.mono _ _
      | exact handref1_ExactOf.mono _ _ _ _ _
      | exact handref1_ExtraOf.mono _ _ _ _ _
      | exact handref1_SignsOf.mono _ _ _
      | exact handref1_VerdictOf.mono _ _ _ _ _ _
      | exact measure_Choose.mono _ _ _
      | exact measure_Exact.mono _ _ _ _ _
      | exact measure_Extra.mono _ _ _ _ _
      | exact measure_Signs.mono _ _ _
      | exact measure_Verdict.mono _ _ _ _ _ _
      | exact LeO.none _
      | refine LeO.ite ?_ ?_
      | refine LeO.bind ?_ (fun _ => ?_)
    · intro y0 y1
      unfold handlaw1_TestsExact.j1
      repeat' first
      | (with_reducible exact ih0 _ _ _ _ _ _ _ _ _ _)
      | (with_reducible exact ih1 _ _)
      | (with_reducible exact ih2 _ _ _ _ _)
      | (with_reducible exact ih3 _ _ _)
      | (with_reducible exact handlaw1_measures.mono _)
      | (with_reducible exact handref1_ChooseOf.mono _ _ _)
      | (with_reducible exact handref1_ExactFault.mono _ _)
      | (with_reducible exact handref1_ExactOf.mono _ _ _ _ _)
      | (with_reducible exact handref1_ExtraOf.mono _ _ _ _ _)
      | (with_reducible exact handref1_SignsOf.mono _ _ _)
      | (with_reducible exact handref1_VerdictOf.mono _ _ _ _ _ _)
      | (with_reducible exact measure_Choose.mono _ _ _)
      | (with_reducible exact measure_Exact.mono _ _ _ _ _)
      | (with_reducible exact measure_Extra.mono _ _ _ _ _)
      | (with_reducible exact measure_Signs.mono _ _ _)
      | (with_reducible exact measure_Verdict.mono _ _ _ _ _ _)
      | (with_reducible exact LeO.refl _)
      | (with_reducible exact LeO.none _)
      | (with_reducible refine LeO.ite ?_ ?_)
      | (with_reducible refine LeO.bind ?_ (fun _ => ?_))
      | exact ih0 _ _ _ _ _ _ _ _ _ _
      | exact ih1 _ _
      | exact ih2 _ _ _ _ _
      | exact ih3 _ _ _
      | exact handlaw1_measures.mono _
      | exact handref1_ChooseOf.mono _ _ _
      | exact handref1_ExactFault.mono _ _
      | exact handref1_ExactOf.mono _ _ _ _ _
      | exact handref1_ExtraOf.mono _ _ _ _ _
      | exact handref1_SignsOf.mono _ _ _
      | exact handref1_VerdictOf.mono _ _ _ _ _ _
      | exact measure_Choose.mono _ _ _
      | exact measure_Exact.mono _ _ _ _ _
      | exact measure_Extra.mono _ _ _ _ _
      | exact measure_Signs.mono _ _ _
      | exact measure_Verdict.mono _ _ _ _ _ _
      | exact LeO.none _
      | refine LeO.ite ?_ ?_
      | refine LeO.bind ?_ (fun _ => ?_)
    · intro y0 y1 y2 y3 y4
      unfold handlaw1_TestsExact.j2
      repeat' first
      | (with_reducible exact ih0 _ _ _ _ _ _ _ _ _ _)
      | (with_reducible exact ih1 _ _)
      | (with_reducible exact ih2 _ _ _ _ _)
      | (with_reducible exact ih3 _ _ _)
      | (with_reducible exact handlaw1_measures.mono _)
      | (with_reducible exact handref1_ChooseOf.mono _ _ _)
      | (with_reducible exact handref1_ExactFault.mono _ _)
      | (with_reducible exact handref1_ExactOf.mono _ _ _ _ _)
      | (with_reducible exact handref1_ExtraOf.mono _ _ _ _ _)
      | (with_reducible exact handref1_SignsOf.mono _ _ _)
      | (with_reducible exact handref1_VerdictOf.mono _ _ _ _ _ _)
      | (with_reducible exact measure_Choose.mono _ _ _)
      | (with_reducible exact measure_Exact.mono _ _ _ _ _)
      | (with_reducible exact measure_Extra.mono _ _ _ _ _)
      | (with_reducible exact measure_Signs.mono _ _ _)
      | (with_reducible exact measure_Verdict.mono _ _ _ _ _ _)
      | (with_reducible exact LeO.refl _)
      | (with_reducible exact LeO.none _)
      | (with_reducible refine LeO.ite ?_ ?_)
      | (with_reducible refine LeO.bind ?_ (fun _ => ?_))
      | exact ih0 _ _ _ _ _ _ _ _ _ _
      | exact ih1 _ _
      | exact ih2 _ _ _ _ _
      | exact ih3 _ _ _
      | exact handlaw1_measures.mono _
      | exact handref1_ChooseOf.mono _ _ _
      | exact handref1_ExactFault.mono _ _
      | exact handref1_ExactOf.mono _ _ _ _ _
      | exact handref1_ExtraOf.mono _ _ _ _ _
      | exact handref1_SignsOf.mono _ _ _
      | exact handref1_VerdictOf.mono _ _ _ _ _ _
      | exact measure_Choose.mono _ _ _
      | exact measure_Exact.mono _ _ _ _ _
      | exact measure_Extra.mono _ _ _ _ _
      | exact measure_Signs.mono _ _ _
      | exact measure_Verdict.mono _ _ _ _ _ _
      | exact LeO.none _
      | refine LeO.ite ?_ ?_
      | refine LeO.bind ?_ (fun _ => ?_)
    · intro y0 y1 y2
      unfold handlaw1_TestsExact.j3
      repeat' first
      | (with_reducible exact ih0 _ _ _ _ _ _ _ _ _ _)
      | (with_reducible exact ih1 _ _)
      | (with_reducible exact ih2 _ _ _ _ _)
      | (with_reducible exact ih3 _ _ _)
      | (with_reducible exact handlaw1_measures.mono _)
      | (with_reducible exact handref1_ChooseOf.mono _ _ _)
      | (with_reducible exact handref1_ExactFault.mono _ _)
      | (with_reducible exact handref1_ExactOf.mono _ _ _ _ _)
      | (with_reducible exact handref1_ExtraOf.mono _ _ _ _ _)
      | (with_reducible exact handref1_SignsOf.mono _ _ _)
      | (with_reducible exact handref1_VerdictOf.mono _ _ _ _ _ _)
      | (with_reducible exact measure_Choose.mono _ _ _)
      | (with_reducible exact measure_Exact.mono _ _ _ _ _)
      | (with_reducible exact measure_Extra.mono _ _ _ _ _)
      | (with_reducible exact measure_Signs.mono _ _ _)
      | (with_reducible exact measure_Verdict.mono _ _ _ _ _ _)
      | (with_reducible exact LeO.refl _)
      | (with_reducible exact LeO.none _)
      | (with_reducible refine LeO.ite ?_ ?_)
      | (with_reducible refine LeO.bind ?_ (fun _ => ?_))
      | exact ih0 _ _ _ _ _ _ _ _ _ _
      | exact ih1 _ _
      | exact ih2 _ _ _ _ _
      | exact ih3 _ _ _
      | exact handlaw1_measures.mono _
      | exact handref1_ChooseOf.mono _ _ _
      | exact handref1_ExactFault.mono _ _
      | exact handref1_ExactOf.mono _ _ _ _ _
      | exact handref1_ExtraOf.mono _ _ _ _ _
      | exact handref1_SignsOf.mono _ _ _
      | exact handref1_VerdictOf.mono _ _ _ _ _ _
      | exact measure_Choose.mono _ _ _
      | exact measure_Exact.mono _ _ _ _ _
      | exact measure_Extra.mono _ _ _ _ _
      | exact measure_Signs.mono _ _ _
      | exact measure_Verdict.mono _ _ _ _ _ _
      | exact LeO.none _
      | refine LeO.ite ?_ ?_
      | refine LeO.bind ?_ (fun _ => ?_)
theorem handlaw1_TestsExact.mono : ∀ a0 k, LeO (handlaw1_TestsExact.f k a0) (handlaw1_TestsExact.f (k + 1) a0) := by
  intro a0 k
  obtain ⟨ih0, ih1, ih2, ih3⟩ := handlaw1_TestsExact.mono_l k
  unfold handlaw1_TestsExact.f
  repeat' first
      | (with_reducible exact ih0 _ _ _ _ _ _ _ _ _ _)
      | (with_reducible exact ih1 _ _)
      | (with_reducible exact ih2 _ _ _ _ _)
      | (with_reducible exact ih3 _ _ _)
      | (with_reducible exact handlaw1_measures.mono _)
      | (with_reducible exact handref1_ChooseOf.mono _ _ _)
      | (with_reducible exact handref1_ExactFault.mono _ _)
      | (with_reducible exact handref1_ExactOf.mono _ _ _ _ _)
      | (with_reducible exact handref1_ExtraOf.mono _ _ _ _ _)
      | (with_reducible exact handref1_SignsOf.mono _ _ _)
      | (with_reducible exact handref1_VerdictOf.mono _ _ _ _ _ _)
      | (with_reducible exact measure_Choose.mono _ _ _)
      | (with_reducible exact measure_Exact.mono _ _ _ _ _)
      | (with_reducible exact measure_Extra.mono _ _ _ _ _)
      | (with_reducible exact measure_Signs.mono _ _ _)
      | (with_reducible exact measure_Verdict.mono _ _ _ _ _ _)
      | (with_reducible exact LeO.refl _)
      | (with_reducible exact LeO.none _)
      | (with_reducible refine LeO.ite ?_ ?_)
      | (with_reducible refine LeO.bind ?_ (fun _ => ?_))
      | exact ih0 _ _ _ _ _ _ _ _ _ _
      | exact ih1 _ _
      | exact ih2 _ _ _ _ _
      | exact ih3 _ _ _
      | exact handlaw1_measures.mono _
      | exact handref1_ChooseOf.mono _ _ _
      | exact handref1_ExactFault.mono _ _
      | exact handref1_ExactOf.mono _ _ _ _ _
      | exact handref1_ExtraOf.mono _ _ _ _ _
      | exact handref1_SignsOf.mono _ _ _
      | exact handref1_VerdictOf.mono _ _ _ _ _ _
      | exact measure_Choose.mono _ _ _
      | exact measure_Exact.mono _ _ _ _ _
      | exact measure_Extra.mono _ _ _ _ _
      | exact measure_Signs.mono _ _ _
      | exact measure_Verdict.mono _ _ _ _ _ _
      | exact LeO.none _
      | refine LeO.ite ?_ ?_
      | refine LeO.bind ?_ (fun _ => ?_)
def handlaw1_TestsExact.T9 : Bool × List (List Nat × List Nat) := (true, [([], []), ([0], [0]), ([1], [1]), ([2], [2]), ([3, 2], [2, 3]), ([2, 4], [2, 4]), ([5, 2], [5]), ([6], [6]), ([6], [6]), ([6], [6]), ([8, 9, 6, 6], [6, 8, 9]), ([7, 10, 6], [6, 7, 10]), ([6, 11], [6, 11]), ([12, 10], [12]), ([13], [13]), ([13], [13]), ([13], [13]), ([15, 16, 13, 13], [13, 15, 16]), ([14, 17, 13], [13, 14, 17]), ([13, 18], [13, 18])])
def handlaw1_TestsExact.B9 : List Nat := [0, 1, 3, 7, 15, 31, 63, 127, 127, 127, 895, 2047, 4095, 8191, 16383, 16383, 16383, 114687, 262143, 524287]
theorem handlaw1_TestsExact.tab9 : rtab .any (opsOf Try.f6 9) = handlaw1_TestsExact.T9 := by kernel_rfl
theorem handlaw1_TestsExact.bits9 : waitsOk handlaw1_TestsExact.T9.2 handlaw1_TestsExact.B9 = true := by kernel_rfl
def handlaw1_TestsExact.T12 : Bool × List (List Nat × List Nat) := (true, [([], []), ([0], [0]), ([1], [1]), ([], []), ([3], [3]), ([4], [4]), ([], []), ([6], [6]), ([7], [7]), ([], []), ([9], [9]), ([10], [10]), ([2, 5, 8, 11], [2, 5, 8, 11]), ([12], [12]), ([13], [13]), ([13], [13]), ([], []), ([16, 14, 12, 0, 1, 2, 3, 4, 5, 6, 7, 8, 9, 10, 11, 12, 13, 14, 16], [14, 16]), ([15, 17, 0, 1, 2, 3, 4, 5, 6, 7, 8, 9, 10, 11, 12, 13, 14, 15, 16, 17], [15])])
def handlaw1_TestsExact.B12 : List Nat := [0, 1, 3, 0, 8, 24, 0, 64, 192, 0, 512, 1536, 4095, 8191, 16383, 16383, 0, 98303, 262143]
theorem handlaw1_TestsExact.tab12 : rtab .any (opsOf Try.f6 12) = handlaw1_TestsExact.T12 := by kernel_rfl
theorem handlaw1_TestsExact.bits12 : waitsOk handlaw1_TestsExact.T12.2 handlaw1_TestsExact.B12 = true := by kernel_rfl
def handlaw1_TestsExact.T14 : Bool × List (List Nat × List Nat) := (true, [([], []), ([], []), ([0, 1], [0, 1]), ([2], [2]), ([3], [3]), ([4, 3], [3, 4]), ([5, 3, 3], [3, 5]), ([6], [6]), ([6], [6]), ([8, 6], [6, 8]), ([9, 6], [6, 9]), ([6], [6]), ([11, 6], [6, 11]), ([12, 6], [6, 12]), ([6], [6]), ([14, 6], [6, 14]), ([15, 6], [6, 15]), ([6], [6]), ([17, 6], [6, 17]), ([18, 6], [6, 18]), ([10, 13, 16, 19, 6, 6], [6, 10, 13, 16, 19]), ([7, 20, 6], [6, 7, 20]), ([6, 21, 3], [3, 6, 21]), ([3, 22], [3, 22])])
def handlaw1_TestsExact.B14 : List Nat := [0, 0, 3, 7, 15, 31, 63, 127, 127, 383, 895, 127, 2175, 6271, 127, 16511, 49279, 127, 131199, 393343, 1048447, 2097151, 4194303, 8388607]
theorem handlaw1_TestsExact.tab14 : rtab .any (opsOf Try.f6 14) = handlaw1_TestsExact.T14 := by kernel_rfl
theorem handlaw1_TestsExact.bits14 : waitsOk handlaw1_TestsExact.T14.2 handlaw1_TestsExact.B14 = true := by kernel_rfl
def handlaw1_TestsExact.T16 : Bool × List (List Nat × List Nat) := (true, [([], []), ([0], [0]), ([1], [1]), ([], []), ([3], [3]), ([4], [4]), ([], []), ([6], [6]), ([7], [7]), ([], []), ([9], [9]), ([10], [10]), ([], []), ([2, 5, 8, 11, 12], [2, 5, 8, 11, 12]), ([13], [13]), ([14], [14]), ([14], [14]), ([15, 13, 0, 1, 2, 3, 4, 5, 6, 7, 8, 9, 10, 11, 12, 13, 14, 15], [15]), ([16, 17, 0, 1, 2, 3, 4, 5, 6, 7, 8, 9, 10, 11, 12, 13, 14, 15, 16, 17], [16])])
def handlaw1_TestsExact.B16 : List Nat := [0, 1, 3, 0, 8, 24, 0, 64, 192, 0, 512, 1536, 0, 8191, 16383, 32767, 32767, 65535, 262143]
theorem handlaw1_TestsExact.tab16 : rtab .any (opsOf Try.f6 16) = handlaw1_TestsExact.T16 := by kernel_rfl
theorem handlaw1_TestsExact.bits16 : waitsOk handlaw1_TestsExact.T16.2 handlaw1_TestsExact.B16 = true := by kernel_rfl
def handlaw1_TestsExact.T17 : Bool × List (List Nat × List Nat) := (true, [([], []), ([0], [0]), ([1], [1]), ([], []), ([3], [3]), ([4], [4]), ([], []), ([6], [6]), ([7], [7]), ([], []), ([9], [9]), ([10], [10]), ([], []), ([2, 5, 8, 11, 12], [2, 5, 8, 11, 12]), ([13], [13]), ([14], [14]), ([14], [14]), ([15, 13, 0, 1, 2, 3, 4, 5, 6, 7, 8, 9, 10, 11, 12, 13, 14, 15], [15]), ([16, 17, 0, 1, 2, 3, 4, 5, 6, 7, 8, 9, 10, 11, 12, 13, 14, 15, 16, 17], [16])])
def handlaw1_TestsExact.B17 : List Nat := [0, 1, 3, 0, 8, 24, 0, 64, 192, 0, 512, 1536, 0, 8191, 16383, 32767, 32767, 65535, 262143]
theorem handlaw1_TestsExact.tab17 : rtab .any (opsOf Try.f6 17) = handlaw1_TestsExact.T17 := by kernel_rfl
theorem handlaw1_TestsExact.bits17 : waitsOk handlaw1_TestsExact.T17.2 handlaw1_TestsExact.B17 = true := by kernel_rfl
set_option maxHeartbeats 8000000 in
set_option maxRecDepth 100000 in
theorem handlaw1_TestsExact.calls (k : Nat) (A0 : Option Addr) (c0 : Nat) (l0 : List Int) (r : Bool) (w : World) (hr0 : Kd.C (Kd.int .i64) w A0 l0.length l0) (hc0 : l0.length ≤ c0) (h : handlaw1_TestsExact.f k l0 = some r) :
    Calls Try.prog 6 #[.slice A0 l0.length c0] w fun e w' => e = .returned (.bool r) ∧ Below w.heap.size w w' := by
  have hu25 := Try.underlying25
  have hu28 := Try.underlying28
  have HR0 := Aside0.mk hr0
  have HC0 := Aside0.mk hc0
  clear hr0 hc0
  have HB := Aside0.mk (Below.refl w.heap.size w)
  have H : ((handmake_Stream_Pick.f l0 0 (([0, 1, 5, 30, 59, 60, 61, (-1)] : List Int))).bind fun bt287 => ((handmake_Stream_Pick.f l0 bt287.2 (([0, 1, wrap64 (Int.tdiv bt287.1 2), bt287.1, wrap64 (bt287.1 + 1), (-1)] : List Int))).bind fun bt292 => ((measure_Choose.f k bt287.1 bt292.1).bind fun bt294 => ((measure_Signs.f k bt287.1 bt292.1).bind fun bt296 => (if bt287.1 < 0 then (handlaw1_TestsExact.j0 k bt287.1 bt292.1 bt294.1 bt294.2 bt296.2.2 true l0 bt292.2 bt296.1 bt296.2.1) else (if bt287.1 > 60 then (handlaw1_TestsExact.j0 k bt287.1 bt292.1 bt294.1 bt294.2 bt296.2.2 true l0 bt292.2 bt296.1 bt296.2.1) else (if bt292.1 < 0 then (handlaw1_TestsExact.j0 k bt287.1 bt292.1 bt294.1 bt294.2 bt296.2.2 true l0 bt292.2 bt296.1 bt296.2.1) else (handlaw1_TestsExact.j0 k bt287.1 bt292.1 bt294.1 bt294.2 bt296.2.2 (decide (bt292.1 > bt287.1)) l0 bt292.2 bt296.1 bt296.2.1)))))))) = some r := h
  clear h
  obtain ⟨y284, hy284⟩ : ∃ y_ : List Int, y_ = (([0, 1, 5, 30, 59, 60, 61, (-1)] : List Int)) := ⟨_, rfl⟩
  replace H : ((handmake_Stream_Pick.f l0 0 y284).bind fun bt287 => ((handmake_Stream_Pick.f l0 bt287.2 (([0, 1, wrap64 (Int.tdiv bt287.1 2), bt287.1, wrap64 (bt287.1 + 1), (-1)] : List Int))).bind fun bt292 => ((measure_Choose.f k bt287.1 bt292.1).bind fun bt294 => ((measure_Signs.f k bt287.1 bt292.1).bind fun bt296 => (if bt287.1 < 0 then (handlaw1_TestsExact.j0 k bt287.1 bt292.1 bt294.1 bt294.2 bt296.2.2 true l0 bt292.2 bt296.1 bt296.2.1) else (if bt287.1 > 60 then (handlaw1_TestsExact.j0 k bt287.1 bt292.1 bt294.1 bt294.2 bt296.2.2 true l0 bt292.2 bt296.1 bt296.2.1) else (if bt292.1 < 0 then (handlaw1_TestsExact.j0 k bt287.1 bt292.1 bt294.1 bt294.2 bt296.2.2 true l0 bt292.2 bt296.1 bt296.2.1) else (handlaw1_TestsExact.j0 k bt287.1 bt292.1 bt294.1 bt294.2 bt296.2.2 (decide (bt292.1 > bt287.1)) l0 bt292.2 bt296.1 bt296.2.1)))))))) = some r := by first | (rw [hy284]; with_reducible exact H) | (have H2_ := (Option.bind_some _ _).symm.trans H; rw [hy284]; with_reducible exact H2_) | (have H2_ := (Option.bind_some _ _).symm.trans H; with_reducible exact H2_) | with_reducible exact H | (rw [hy284]; exact H) | exact H
  have Ny284 := Aside0.mk hy284
  clear hy284
  replace H := Option.bind_eq_some_iff.mp H
  obtain ⟨⟨t287, t288⟩, A20, H⟩ := H
  replace H : ((handmake_Stream_Pick.f l0 t288 (([0, 1, wrap64 (Int.tdiv t287 2), t287, wrap64 (t287 + 1), (-1)] : List Int))).bind fun bt292 => ((measure_Choose.f k t287 bt292.1).bind fun bt294 => ((measure_Signs.f k t287 bt292.1).bind fun bt296 => (if t287 < 0 then (handlaw1_TestsExact.j0 k t287 bt292.1 bt294.1 bt294.2 bt296.2.2 true l0 bt292.2 bt296.1 bt296.2.1) else (if t287 > 60 then (handlaw1_TestsExact.j0 k t287 bt292.1 bt294.1 bt294.2 bt296.2.2 true l0 bt292.2 bt296.1 bt296.2.1) else (if bt292.1 < 0 then (handlaw1_TestsExact.j0 k t287 bt292.1 bt294.1 bt294.2 bt296.2.2 true l0 bt292.2 bt296.1 bt296.2.1) else (handlaw1_TestsExact.j0 k t287 bt292.1 bt294.1 bt294.2 bt296.2.2 (decide (bt292.1 > t287)) l0 bt292.2 bt296.1 bt296.2.1))))))) = some r := H
  have A2 := Aside0.mk A20
  clear A20
  obtain ⟨y289, hy289⟩ : ∃ y_ : List Int, y_ = (([0, 1, wrap64 (Int.tdiv t287 2), t287, wrap64 (t287 + 1), (-1)] : List Int)) := ⟨_, rfl⟩
  replace H : ((handmake_Stream_Pick.f l0 t288 y289).bind fun bt292 => ((measure_Choose.f k t287 bt292.1).bind fun bt294 => ((measure_Signs.f k t287 bt292.1).bind fun bt296 => (if t287 < 0 then (handlaw1_TestsExact.j0 k t287 bt292.1 bt294.1 bt294.2 bt296.2.2 true l0 bt292.2 bt296.1 bt296.2.1) else (if t287 > 60 then (handlaw1_TestsExact.j0 k t287 bt292.1 bt294.1 bt294.2 bt296.2.2 true l0 bt292.2 bt296.1 bt296.2.1) else (if bt292.1 < 0 then (handlaw1_TestsExact.j0 k t287 bt292.1 bt294.1 bt294.2 bt296.2.2 true l0 bt292.2 bt296.1 bt296.2.1) else (handlaw1_TestsExact.j0 k t287 bt292.1 bt294.1 bt294.2 bt296.2.2 (decide (bt292.1 > t287)) l0 bt292.2 bt296.1 bt296.2.1))))))) = some r := by first | (rw [hy289]; with_reducible exact H) | (have H2_ := (Option.bind_some _ _).symm.trans H; rw [hy289]; with_reducible exact H2_) | (have H2_ := (Option.bind_some _ _).symm.trans H; with_reducible exact H2_) | with_reducible exact H | (rw [hy289]; exact H) | exact H
  have Ny289 := Aside0.mk hy289
  clear hy289
  replace H := Option.bind_eq_some_iff.mp H
  obtain ⟨⟨t292, t293⟩, A30, H⟩ := H
  replace H : ((measure_Choose.f k t287 t292).bind fun bt294 => ((measure_Signs.f k t287 t292).bind fun bt296 => (if t287 < 0 then (handlaw1_TestsExact.j0 k t287 t292 bt294.1 bt294.2 bt296.2.2 true l0 t293 bt296.1 bt296.2.1) else (if t287 > 60 then (handlaw1_TestsExact.j0 k t287 t292 bt294.1 bt294.2 bt296.2.2 true l0 t293 bt296.1 bt296.2.1) else (if t292 < 0 then (handlaw1_TestsExact.j0 k t287 t292 bt294.1 bt294.2 bt296.2.2 true l0 t293 bt296.1 bt296.2.1) else (handlaw1_TestsExact.j0 k t287 t292 bt294.1 bt294.2 bt296.2.2 (decide (t292 > t287)) l0 t293 bt296.1 bt296.2.1)))))) = some r := H
  have A3 := Aside0.mk A30
  clear A30
  replace H := Option.bind_eq_some_iff.mp H
  obtain ⟨⟨t294, t295⟩, A40, H⟩ := H
  replace H : ((measure_Signs.f k t287 t292).bind fun bt296 => (if t287 < 0 then (handlaw1_TestsExact.j0 k t287 t292 t294 t295 bt296.2.2 true l0 t293 bt296.1 bt296.2.1) else (if t287 > 60 then (handlaw1_TestsExact.j0 k t287 t292 t294 t295 bt296.2.2 true l0 t293 bt296.1 bt296.2.1) else (if t292 < 0 then (handlaw1_TestsExact.j0 k t287 t292 t294 t295 bt296.2.2 true l0 t293 bt296.1 bt296.2.1) else (handlaw1_TestsExact.j0 k t287 t292 t294 t295 bt296.2.2 (decide (t292 > t287)) l0 t293 bt296.1 bt296.2.1))))) = some r := H
  have A4 := Aside0.mk A40
  clear A40
  replace H := Option.bind_eq_some_iff.mp H
  obtain ⟨⟨t296, t297, t298⟩, A50, H⟩ := H
  replace H : (if t287 < 0 then (handlaw1_TestsExact.j0 k t287 t292 t294 t295 t298 true l0 t293 t296 t297) else (if t287 > 60 then (handlaw1_TestsExact.j0 k t287 t292 t294 t295 t298 true l0 t293 t296 t297) else (if t292 < 0 then (handlaw1_TestsExact.j0 k t287 t292 t294 t295 t298 true l0 t293 t296 t297) else (handlaw1_TestsExact.j0 k t287 t292 t294 t295 t298 (decide (t292 > t287)) l0 t293 t296 t297)))) = some r := H
  have A5 := Aside0.mk A50
  clear A50
  have HC6 := Aside0.mk H
  clear H
  go_enter Try.func6, Try.ntmps6
  go_upto_region 6 with (first | ((with_reducible refine gate_dst (N := 29) rfl ?_); refine box_event ?hg (N := 29) ?hd (cs := #[.slice A0 l0.length c0, .int .i64 0]) (t := 25) ?hr ?_; (case hd => rfl); (case hg => rfl); (case hr => first | (go_simp; done) | (go_simp; rfl)); intro gb283 hg w7 hbox hb; have n0_ := Aside0.mk (below_step q38x9_ hb); have n1_ := Aside0.mk (hbox); have n2_ := Aside0.mk ((by rw [hg]; exact (below_size q38x9_) : w.heap.size ≤ gb283)); have n3_ := Aside0.mk ((by rw [hg]; exact (below_size q38x9_) : w.heap.size ≤ gb283)); clear HB; have HB := n0_; have BK283 := n1_; have GW283 := n2_; have GE283 := n3_; clear n0_ n1_ n2_ n3_; clear hb hbox hg) | ((with_reducible refine gate_dst (N := 31) rfl ?_); refine Kd.R_lit (Kd.int .i64) _ 3 ?hg (N := 31) ?hd (xs := ([0, 1, 5, 30, 59, 60, 61, (-1)] : List Int)) (inner := [.int .i64 0, .int .i64 1, .int .i64 5, .int .i64 30, .int .i64 59, .int .i64 60, .int .i64 61, .int .i64 (-1)]) (ok := fun _ => True) (okp := fun _ => True) ?hr ?hp (fun _ hk => hk) trivial (Below.refl _ _) (Nat.le_refl _) (by simp) ?_; (case hd => rfl); (case hg => rfl); (case hr => first | (go_simp; done) | (go_simp; rfl)); (case hp => exact (Reps.one (show Kd.M (Kd.int .i64) _ _ _ 0 [.int .i64 0] from rfl) (Reps.one (show Kd.M (Kd.int .i64) _ _ _ 1 [.int .i64 1] from rfl) (Reps.one (show Kd.M (Kd.int .i64) _ _ _ 5 [.int .i64 5] from rfl) (Reps.one (show Kd.M (Kd.int .i64) _ _ _ 30 [.int .i64 30] from rfl) (Reps.one (show Kd.M (Kd.int .i64) _ _ _ 59 [.int .i64 59] from rfl) (Reps.one (show Kd.M (Kd.int .i64) _ _ _ 60 [.int .i64 60] from rfl) (Reps.one (show Kd.M (Kd.int .i64) _ _ _ 61 [.int .i64 61] from rfl) (Reps.one (show Kd.M (Kd.int .i64) _ _ _ (-1) [.int .i64 (-1)] from rfl) (Reps.none _ _)))))))))); intro v285 w8 ho9 hb hg_ hnew_; clear hg_ hnew_; (first | rw [← Ny284.out] at ho9 | (simp only [Int.reduceToNat] at ho9; rw [← Ny284.out] at ho9)); have n0_ := Aside0.mk (Kd.R_lower ho9 (below_size q41x9_)); have n1_ := Aside0.mk (blk_below (g := gb283) (o := .cells #[.slice A0 l0.length c0, .int .i64 0] 25 (0, 0)) (by (with_reducible repeat (first | refine blk_drewN ?_ _ | refine blk_drew ?_ | refine blk_alloc ?_ _)); exact BK283.out) hb); have n2_ := Aside0.mk (below_step q41x9_ hb); clear BK283; clear HB; have HO286 := n0_; have BK283 := n1_; have HB := n2_; clear n0_ n1_ n2_; clear hb ho9; obtain ⟨Ao10, co10, eo10⟩ := Kd.R_slice HO286.out; subst eo10; have HI283 := Aside0.mk (show IsS25 w w8 gb283 l0 0 from ⟨_, _, BK283.out, GW283.out, HR0.out⟩)) | ((with_reducible refine gate_callee (f := 30) rfl ?_); refine goesL_ (some 32) rfl rfl Try.func30 q11x9_ rfl #[.pointer (some ⟨gb283, 0, none⟩), .slice Ao10 y284.length co10] rfl q7x9_ ?_; (with_reducible refine (handmake_Stream_Pick.calls gb283 l0 0 _ _ y284 t287 t288 w _ ?side1 ?side2 ?side3 ?side4 ?side5 A2.out).mono ?_); (case side1 => repeat (first | (with_reducible first | exact HI283.out | apply IsS25.alloc | apply IsS25.drewN | apply IsS25.drew | apply IsS25.set_1) | exact HI283.out)); (case side2 => repeat (first | (with_reducible first | exact HB.out | apply below_alloc | apply pw_below_drewN | apply below_drew1 | refine below_set ?_ (IsS25.ge HI283.out)) | exact HB.out)); (case side3 => repeat (first | exact (Kd.R_reads' HO286.out).2.2 | (with_reducible refine Kd.C_alloc ?_ _) | (with_reducible refine Kd.C_drewN ?_ _) | (with_reducible refine Kd.C_drew ?_))); (case side4 => exact (Kd.R_reads' HO286.out).2.1); (case side5 => exact far_slice (IsS25.own_ne HI283.out HO286.out (by decide))); rintro e w11 ⟨rfl, hi, hb, hk⟩; refine ⟨_, rfl, ?_⟩; have n0_ := Aside0.mk (Kd.R_mono (Kd.R_keep (IsS25.apart (show IsS25 w _ gb283 l0 0 from by repeat (first | (with_reducible first | exact HI283.out | apply IsS25.alloc | apply IsS25.drewN | apply IsS25.drew | apply IsS25.set_1) | exact HI283.out)) q31x9_ (by decide)) hk (fun _ h => h.2)) (fun _ h => h.1)); have n1_ := Aside0.mk (hb); have n2_ := Aside0.mk (hi); clear HO286; clear HB; clear HI283; have HO286 := n0_; have HB := n1_; have HI283 := n2_; clear n0_ n1_ n2_; (try clear hb); (try clear hb2); (try clear hk); (try clear hi)) | ((with_reducible refine gate_dst (N := 39) rfl ?_); refine Kd.R_lit (Kd.int .i64) _ 3 ?hg (N := 39) ?hd (xs := ([0, 1, wrap64 (Int.tdiv t287 2), t287, wrap64 (t287 + 1), (-1)] : List Int)) (inner := [.int .i64 0, .int .i64 1, .int .i64 (wrap64 (Int.tdiv t287 2)), .int .i64 t287, .int .i64 (wrap64 (t287 + 1)), .int .i64 (-1)]) (ok := fun _ => True) (okp := fun _ => True) ?hr ?hp (fun _ hk => hk) trivial (Below.refl _ _) (Nat.le_refl _) (by simp) ?_; (case hd => rfl); (case hg => rfl); (case hr => first | (go_simp; done) | (go_simp; rfl)); (case hp => exact (Reps.one (show Kd.M (Kd.int .i64) _ _ _ 0 [.int .i64 0] from rfl) (Reps.one (show Kd.M (Kd.int .i64) _ _ _ 1 [.int .i64 1] from rfl) (Reps.one (show Kd.M (Kd.int .i64) _ _ _ (wrap64 (Int.tdiv t287 2)) [.int .i64 (wrap64 (Int.tdiv t287 2))] from rfl) (Reps.one (show Kd.M (Kd.int .i64) _ _ _ t287 [.int .i64 t287] from rfl) (Reps.one (show Kd.M (Kd.int .i64) _ _ _ (wrap64 (t287 + 1)) [.int .i64 (wrap64 (t287 + 1))] from rfl) (Reps.one (show Kd.M (Kd.int .i64) _ _ _ (-1) [.int .i64 (-1)] from rfl) (Reps.none _ _)))))))); intro v290 w12 ho13 hb hg_ hnew_; clear hg_ hnew_; (first | rw [← Ny289.out] at ho13 | (simp only [Int.reduceToNat] at ho13; rw [← Ny289.out] at ho13)); have n0_ := Aside0.mk (Kd.R_elder' q31x9_ (Kd.R_base ho13) hb); have n1_ := Aside0.mk (Kd.R_lower (Kd.R_new' ho13 (Kd.R_lt q31x9_)) (below_size q12x9_)); have n2_ := Aside0.mk (IsS25.below q32x9_ hb); have n3_ := Aside0.mk (below_step q12x9_ hb); clear HO286; clear HI283; clear HB; have HO286 := n0_; have HO291 := n1_; have HI283 := n2_; have HB := n3_; clear n0_ n1_ n2_ n3_; clear hb ho13; obtain ⟨Ao14, co14, eo14⟩ := Kd.R_slice HO291.out; subst eo14) | ((with_reducible refine gate_callee (f := 30) rfl ?_); refine goesL_ (some 40) rfl rfl Try.func30 q11x9_ rfl #[.pointer (some ⟨gb283, 0, none⟩), .slice Ao14 y289.length co14] rfl q7x9_ ?_; (with_reducible refine (handmake_Stream_Pick.calls gb283 l0 t288 _ _ y289 t292 t293 w _ ?side1 ?side2 ?side3 ?side4 ?side5 A3.out).mono ?_); (case side1 => repeat (first | (with_reducible first | exact HI283.out | apply IsS25.alloc | apply IsS25.drewN | apply IsS25.drew | apply IsS25.set_1) | exact HI283.out)); (case side2 => repeat (first | (with_reducible first | exact HB.out | apply below_alloc | apply pw_below_drewN | apply below_drew1 | refine below_set ?_ (IsS25.ge HI283.out)) | exact HB.out)); (case side3 => repeat (first | exact (Kd.R_reads' HO291.out).2.2 | (with_reducible refine Kd.C_alloc ?_ _) | (with_reducible refine Kd.C_drewN ?_ _) | (with_reducible refine Kd.C_drew ?_))); (case side4 => exact (Kd.R_reads' HO291.out).2.1); (case side5 => exact far_slice (IsS25.own_ne HI283.out HO291.out (by decide))); rintro e w15 ⟨rfl, hi, hb, hk⟩; refine ⟨_, rfl, ?_⟩; have n0_ := Aside0.mk (Kd.R_mono (Kd.R_keep (IsS25.apart (show IsS25 w _ gb283 l0 t288 from by repeat (first | (with_reducible first | exact HI283.out | apply IsS25.alloc | apply IsS25.drewN | apply IsS25.drew | apply IsS25.set_1) | exact HI283.out)) q31x9_ (by decide)) hk (fun _ h => h.2)) (fun _ h => h.1)); have n1_ := Aside0.mk (Kd.R_mono (Kd.R_keep (IsS25.apart (show IsS25 w _ gb283 l0 t288 from by repeat (first | (with_reducible first | exact HI283.out | apply IsS25.alloc | apply IsS25.drewN | apply IsS25.drew | apply IsS25.set_1) | exact HI283.out)) q35x9_ (by decide)) hk (fun _ h => h.2)) (fun _ h => h.1)); have n2_ := Aside0.mk (hb); have n3_ := Aside0.mk (hi); clear HO286; clear HO291; clear HB; clear HI283; have HO286 := n0_; have HO291 := n1_; have HB := n2_; have HI283 := n3_; clear n0_ n1_ n2_ n3_; (try clear hb); (try clear hb2); (try clear hk); (try clear hi)) | ((with_reducible refine gate_callee (f := 31) rfl ?_); refine goesL_ (some 44) rfl rfl Try.func31 q11x9_ rfl #[.int .i64 t287, .int .i64 t292] rfl q7x9_ ?_; (with_reducible refine (measure_Choose.calls k t287 t292 t294 t295 _ A4.out).mono ?_); rintro e w16 ⟨rfl, hb⟩; refine ⟨_, rfl, ?_⟩; have n0_ := Aside0.mk (Kd.R_below q31x9_ hb); have n1_ := Aside0.mk (Kd.R_below q35x9_ hb); have n2_ := Aside0.mk (IsS25.below q32x9_ hb); have n3_ := Aside0.mk (below_step q12x9_ hb); clear HO286; clear HO291; clear HI283; clear HB; have HO286 := n0_; have HO291 := n1_; have HI283 := n2_; have HB := n3_; clear n0_ n1_ n2_ n3_; (try clear hb); (try clear hb2); (try clear hk); (try clear hi)) | ((with_reducible refine gate_callee (f := 14) rfl ?_); refine goesL_ (some 50) rfl rfl Try.func14 q11x9_ rfl #[.int .i64 t287, .int .i64 t292] rfl q7x9_ ?_; (with_reducible refine (measure_Signs.calls k t287 t292 t296 t297 t298 _ A5.out).mono ?_); rintro e w17 ⟨rfl, hb⟩; refine ⟨_, rfl, ?_⟩; have n0_ := Aside0.mk (Kd.R_below q31x9_ hb); have n1_ := Aside0.mk (Kd.R_below q35x9_ hb); have n2_ := Aside0.mk (IsS25.below q32x9_ hb); have n3_ := Aside0.mk (below_step q12x9_ hb); clear HO286; clear HO291; clear HI283; clear HB; have HO286 := n0_; have HO291 := n1_; have HI283 := n2_; have HB := n3_; clear n0_ n1_ n2_ n3_; (try clear hb); (try clear hb2); (try clear hk); (try clear hi)) | ((with_reducible refine gate_dst (N := 8) rfl ?_); refine box_event ?hg (N := 8) ?hd (cs := #[.int .i64 0, .int .i64 0]) (t := 28) ?hr ?_; (case hd => rfl); (case hg => rfl); (case hr => first | (go_simp; done) | (go_simp; rfl)); intro gb299 hg w18 hbox hb; have n0_ := Aside0.mk (Kd.R_below q31x9_ hb); have n1_ := Aside0.mk (Kd.R_below q35x9_ hb); have n2_ := Aside0.mk (IsS25.below q32x9_ hb); have n3_ := Aside0.mk (below_step q12x9_ hb); have n4_ := Aside0.mk (hbox); have n5_ := Aside0.mk ((by rw [hg]; exact (below_size q12x9_) : w.heap.size ≤ gb299)); have n6_ := Aside0.mk ((by rw [hg]; exact (below_size q12x9_) : w.heap.size ≤ gb299)); have n7_ := Aside0.mk ((by rw [hg]; exact Nat.ne_of_lt (IsS25.lt (show IsS25 w _ gb283 l0 t293 from by repeat (first | (with_reducible first | exact HI283.out | apply IsS25.alloc | apply IsS25.drewN | apply IsS25.drew | apply IsS25.set_1) | exact HI283.out))) : gb283 ≠ gb299)); have n8_ := Aside0.mk ((by rw [hg]; exact Nat.ne_of_gt (IsS25.lt (show IsS25 w _ gb283 l0 t293 from by repeat (first | (with_reducible first | exact HI283.out | apply IsS25.alloc | apply IsS25.drewN | apply IsS25.drew | apply IsS25.set_1) | exact HI283.out))) : gb299 ≠ gb283)); clear HO286; clear HO291; clear HI283; clear HB; have HO286 := n0_; have HO291 := n1_; have HI283 := n2_; have HB := n3_; have BK299 := n4_; have GW299 := n5_; have GE299 := n6_; have NB283_299 := n7_; have NB299_283 := n8_; clear n0_ n1_ n2_ n3_ n4_ n5_ n6_ n7_ n8_; clear hb hbox hg; have hnb19 := NB299_283.out; have hnc19 := NB283_299.out; have hcz20_0 : w18.cell? ⟨gb299, 0, none⟩ = some (.int .i64 0) := (blk_cell BK299.out 0).trans rfl; have hcz20_1 : w18.cell? ⟨gb299, 1, none⟩ = some (.int .i64 0) := (blk_cell BK299.out 1).trans rfl; have hfz20_0 := blk_frozen BK299.out 0; have hfz20_1 := blk_frozen BK299.out 1))
  (try simp only [Act.put, List.setIfInBounds_toArray, List.set_cons_zero, List.set_cons_succ])
  go_cut [67] (fun v67 wc => ∃ (kq : Nat) (x67_5 : Bool), v67 = .bool x67_5 ∧ Aside0 (handlaw1_TestsExact.j0 kq t287 t292 t294 t295 t298 x67_5 l0 t293 t296 t297 = some r) ∧ Aside0 (kq ≤ k) ∧ Aside0 (wc.heap[gb299]? = some (.cells #[.int .i64 t296, .int .i64 t297] 28 (0, 0))) ∧ Aside0 (IsS25 w wc gb283 l0 t293) ∧ Aside0 (Below w.heap.size w wc))
  case first =>
    have H := HC6.out
    clear HC6
    by_cases c21 : t287 < 0
    · rw [if_pos c21] at H
      have c21b0 : decide (t287 < 0) = true := decide_eq_true c21
      clear c21
      (first | rw [c21b0] | (simp only [i64_w, i32_w]; rw [c21b0]) | skip)
      as_aux_lemma =>
        have H' := Aside0.mk H
        clear H
        go_wp2
        go_meet
        case rel => exact ⟨_, (true), q34x9_, H', ⟨by first | omega | exact Nat.le_refl _⟩, ⟨q10x9_⟩, ⟨q6x9_⟩, ⟨q2x9_⟩⟩
    rw [if_neg c21] at H
    have c21b0 : decide (t287 < 0) = false := decide_eq_false c21
    clear c21
    (first | rw [c21b0] | (simp only [i64_w, i32_w]; rw [c21b0]) | skip)
    by_cases c22 : t287 > 60
    · rw [if_pos c22] at H
      have c22b0 : decide (60 < t287) = true := decide_eq_true c22
      clear c22
      as_aux_lemma =>
        have H' := Aside0.mk H
        clear H
        go_wp2
        go_meet
        case rel => exact ⟨_, (true), q34x9_, H', ⟨by first | omega | exact Nat.le_refl _⟩, ⟨q10x9_⟩, ⟨q6x9_⟩, ⟨q2x9_⟩⟩
    rw [if_neg c22] at H
    have c22b0 : decide (60 < t287) = false := decide_eq_false c22
    clear c22
    by_cases c23 : t292 < 0
    · rw [if_pos c23] at H
      have c23b0 : decide (t292 < 0) = true := decide_eq_true c23
      clear c23
      as_aux_lemma =>
        have H' := Aside0.mk H
        clear H
        go_wp2
        go_meet
        case rel => exact ⟨_, (true), q34x9_, H', ⟨by first | omega | exact Nat.le_refl _⟩, ⟨q10x9_⟩, ⟨q6x9_⟩, ⟨q2x9_⟩⟩
    rw [if_neg c23] at H
    have c23b0 : decide (t292 < 0) = false := decide_eq_false c23
    clear c23
    as_aux_lemma =>
      have H' := Aside0.mk H
      clear H
      go_wp2
      go_meet
      case rel => exact ⟨_, (decide (t292 > t287)), q34x9_, H', ⟨by first | omega | exact Nat.le_refl _⟩, ⟨q10x9_⟩, ⟨q6x9_⟩, ⟨q2x9_⟩⟩
  clear HC6; (try clear c1); (try clear c2); (try clear p2); (try clear c3); (try clear c6); (try clear p6); (try clear c14); (try clear c19); (try clear c21); (try clear c21b0); (try clear c22); (try clear c22b0); (try clear c23); (try clear c23b0); (try clear hcz20_0); (try clear hcz20_1); (try clear hfz20_0); (try clear hfz20_1)
  obtain ⟨kq, x67_5, rfl, HA, HJ5, BK299, HI283, HB⟩ := hcut
  rcases kq with _ | kj5
  · exact absurd HA.out (by simp [handlaw1_TestsExact.j0])
  have H := HA.out
  clear HA
  simp only [handlaw1_TestsExact.j0] at H
  have HC24 := Aside0.mk H
  clear H
  go_upto_if 67 with (fail)
  go_cut [] (fun wc => ∃ (kq : Nat), Aside0 (handlaw1_TestsExact.j1 kq l0 t293 = some r) ∧ Aside0 (kq ≤ kj5) ∧ Aside0 (wc.heap[gb299]? = some (.cells #[.int .i64 t296, .int .i64 t297] 28 (0, 0))) ∧ Aside0 (IsS25 w wc gb283 l0 t293) ∧ Aside0 (Below w.heap.size w wc))
  case first =>
    have H := HC24.out
    clear HC24
    by_cases c25 : x67_5 = true
    · subst c25
      have H1 : (if t295 = 1 then (if t298 = 1 then (handlaw1_TestsExact.j1 kj5 l0 t293) else (some false)) else (some false)) = some r := by rw [if_pos rfl] at H; exact H
      clear H
      have H := H1
      clear H1
      by_cases c26 : t295 = 1
      · rw [if_pos c26] at H
        have c26b0 : (t295 == 1) = true := beq_iff_eq.mpr c26
        have c26b1 : (t295 != 1) = false := bne_eq_false_iff_eq.mpr c26
        clear c26
        (first | rw [c26b0] | (simp only [i64_w, i32_w]; rw [c26b0]) | skip)
        by_cases c27 : t298 = 1
        · rw [if_pos c27] at H
          have c27b0 : (t298 == 1) = true := beq_iff_eq.mpr c27
          have c27b1 : (t298 != 1) = false := bne_eq_false_iff_eq.mpr c27
          clear c27
          as_aux_lemma =>
            have H' := Aside0.mk H
            clear H
            go_wp2
            go_meet
            case rel => exact ⟨_, H', ⟨by have := HJ5.out; first | omega | exact Nat.le_refl _⟩, ⟨q3x9_⟩, ⟨q6x9_⟩, ⟨q2x9_⟩⟩
        rw [if_neg c27] at H
        have c27b0 : (t298 == 1) = false := beq_eq_false_iff_ne.mpr c27
        have c27b1 : (t298 != 1) = true := bne_iff_ne.mpr c27
        as_aux_lemma =>
          obtain rfl := Option.some.inj H
          go_wp2
          go_ret
          exact ⟨q30x9_, q2x9_⟩
      rw [if_neg c26] at H
      have c26b0 : (t295 == 1) = false := beq_eq_false_iff_ne.mpr c26
      have c26b1 : (t295 != 1) = true := bne_iff_ne.mpr c26
      (first | rw [c26b0] | (simp only [i64_w, i32_w]; rw [c26b0]) | skip)
      as_aux_lemma =>
        obtain rfl := Option.some.inj H
        go_wp2
        go_ret
        exact ⟨q30x9_, q2x9_⟩
    replace c25 := Bool.eq_false_iff.mpr c25
    subst c25
    have H1 : (if t295 = 0 then (if t298 = 0 then ((handref1_ChooseOf.f kj5 t287 t292).bind fun t300 => (if t294 = t300 then ((handref1_SignsOf.f kj5 t287 t292).bind fun bt301 => (if (!(t296 == bt301.1) || (!(t297 == bt301.2))) = true then (some false) else (handlaw1_TestsExact.j1 kj5 l0 t293))) else (some false))) else (some false)) else (some false)) = some r := by rw [if_neg (show ¬ (false = true) by decide)] at H; exact H
    clear H
    have H := H1
    clear H1
    by_cases c28 : t295 = 0
    · rw [if_pos c28] at H
      have c28b0 : (t295 == 0) = true := beq_iff_eq.mpr c28
      have c28b1 : (t295 != 0) = false := bne_eq_false_iff_eq.mpr c28
      clear c28
      by_cases c29 : t298 = 0
      · rw [if_pos c29] at H
        have c29b0 : (t298 == 0) = true := beq_iff_eq.mpr c29
        have c29b1 : (t298 != 0) = false := bne_eq_false_iff_eq.mpr c29
        clear c29
        replace H := Option.bind_eq_some_iff.mp H
        obtain ⟨t300, A300, H⟩ := H
        replace H : (if t294 = t300 then ((handref1_SignsOf.f kj5 t287 t292).bind fun bt301 => (if (!(t296 == bt301.1) || (!(t297 == bt301.2))) = true then (some false) else (handlaw1_TestsExact.j1 kj5 l0 t293))) else (some false)) = some r := H
        have A30 := Aside0.mk A300
        clear A300
        by_cases c31 : t294 = t300
        · rw [if_pos c31] at H
          have c31b0 : (t294 == t300) = true := beq_iff_eq.mpr c31
          have c31b1 : (t294 != t300) = false := bne_eq_false_iff_eq.mpr c31
          clear c31
          replace H := Option.bind_eq_some_iff.mp H
          obtain ⟨⟨t301, t302⟩, A320, H⟩ := H
          replace H : (if (!(t296 == t301) || (!(t297 == t302))) = true then (some false) else (handlaw1_TestsExact.j1 kj5 l0 t293)) = some r := H
          have A32 := Aside0.mk A320
          clear A320
          have HC33 := Aside0.mk H
          clear H
          try go_wp2
          (try (rw [drewN_self wc]; generalize hq_ : World.drewN wc _ = wc; have n0_ : Aside0 (wc.heap[gb299]? = some (.cells #[.int .i64 t296, .int .i64 t297] 28 (0, 0))) := ⟨q45x9_⟩; have n1_ : Aside0 (IsS25 w wc gb283 l0 t293) := ⟨by rw [← hq_]; exact q6x9_⟩; have n2_ : Aside0 (Below w.heap.size w wc) := ⟨by rw [← hq_]; exact q2x9_⟩; clear BK299 HI283 HB hq_; have BK299 := n0_; have HI283 := n1_; have HB := n2_; clear n0_ n1_ n2_))
          have n0_ := Aside0.mk (blk_drew BK299.out)
          have n1_ := Aside0.mk (IsS25.drew HI283.out)
          have n2_ := Aside0.mk (below_drew1 HB.out)
          clear BK299; clear HI283; clear HB; have BK299 := n0_; have HI283 := n1_; have HB := n2_; clear n0_ n1_ n2_
          refine start_ (n := 20) (S := fun w' => w'.cell? ⟨gb299, 0, none⟩ = some (.int .i64 t296) ∧ w'.cell? ⟨gb299, 1, none⟩ = some (.int .i64 t297)) (ds := []) #[false, false, false, false, false, false, false, false, false, false, false, false, false, false, false, false, false, false, false, false] q11x9_ rfl rfl ⟨(blk_cell BK299.out 0).trans rfl, (blk_cell BK299.out 1).trans rfl⟩ (fun hHeld => ?_); refine with_tabW handlaw1_TestsExact.tab9 handlaw1_TestsExact.bits9 (fun HT_ HW_ => ?_)
          generalize wc.drew = w34 at BK299 HI283 HB hHeld ⊢
          refine pure_ (i := 0) (N := some 74) (v := ?_) (a' := ?_) #[true, false, false, false, false, false, false, false, false, false, false, false, false, false, false, false, false, false, false, false] rfl rfl (any_of HT_.out q11x9_) (fun _ _ _ h => h) (Or.inl ⟨by rfl, ?_⟩) ?_ ?_
          rotate_left
          · intro w'
            go_simp
            with_reducible rfl
          rotate_left
          · simp only [Act.put, List.setIfInBounds_toArray, List.set_cons_zero, List.set_cons_succ, i64_w, i32_w]
            rfl
          refine pure_ (i := 1) (N := some 75) (v := ?_) (a' := ?_) #[true, true, false, false, false, false, false, false, false, false, false, false, false, false, false, false, false, false, false, false] rfl rfl (any_of HT_.out q11x9_) (fun _ _ _ h => h) (Or.inl ⟨by rfl, ?_⟩) ?_ ?_
          rotate_left
          · intro w'
            go_simp
            with_reducible rfl
          rotate_left
          · simp only [Act.put, List.setIfInBounds_toArray, List.set_cons_zero, List.set_cons_succ, i64_w, i32_w]
            rfl
          refine pure_ (i := 2) (N := some 76) (v := ?_) (a' := ?_) #[true, true, true, false, false, false, false, false, false, false, false, false, false, false, false, false, false, false, false, false] rfl rfl (any_of HT_.out q11x9_) (fun _ _ _ h => h) (Or.inl ⟨by rfl, ?_⟩) ?_ ?_
          rotate_left
          · intro w'
            go_simp
            with_reducible rfl
          rotate_left
          · simp only [Act.put, List.setIfInBounds_toArray, List.set_cons_zero, List.set_cons_succ, i64_w, i32_w]
            rfl
          refine pure_ (i := 3) (N := some 77) (v := ?_) (a' := ?_) #[true, true, true, true, false, false, false, false, false, false, false, false, false, false, false, false, false, false, false, false] rfl rfl (any_of HT_.out q11x9_) (fun _ _ _ h => h) (Or.inl ⟨by rfl, ?_⟩) ?_ ?_
          rotate_left
          · intro w'
            go_simp
            with_reducible rfl
          rotate_left
          · simp only [Act.put, List.setIfInBounds_toArray, List.set_cons_zero, List.set_cons_succ, i64_w, i32_w]
            rfl
          refine pure_ (i := 4) (N := some 78) (v := ?_) (a' := ?_) #[true, true, true, true, true, false, false, false, false, false, false, false, false, false, false, false, false, false, false, false] rfl rfl (any_of HT_.out q11x9_) (fun _ _ _ h => h) (Or.inl ⟨by rfl, ?_⟩) ?_ ?_
          rotate_left
          · intro w'
            go_simp
            with_reducible rfl
          rotate_left
          · simp only [Act.put, List.setIfInBounds_toArray, List.set_cons_zero, List.set_cons_succ, i64_w, i32_w]
            rfl
          refine pure_ (i := 5) (N := some 79) (v := ?_) (a' := ?_) #[true, true, true, true, true, true, false, false, false, false, false, false, false, false, false, false, false, false, false, false] rfl rfl (any_of HT_.out q11x9_) (fun _ _ _ h => h) (Or.inl ⟨by rfl, ?_⟩) ?_ ?_
          rotate_left
          · intro w'
            go_simp
            with_reducible rfl
          rotate_left
          · simp only [Act.put, List.setIfInBounds_toArray, List.set_cons_zero, List.set_cons_succ, i64_w, i32_w]
            rfl
          refine pure_ (i := 6) (N := some 80) (v := ?_) (a' := ?_) #[true, true, true, true, true, true, true, false, false, false, false, false, false, false, false, false, false, false, false, false] rfl rfl (any_of HT_.out q11x9_) (fun _ _ _ h => h) (Or.inl ⟨by rfl, ?_⟩) ?_ ?_
          rotate_left
          · intro w'
            go_simp
            with_reducible rfl
          rotate_left
          · simp only [Act.put, List.setIfInBounds_toArray, List.set_cons_zero, List.set_cons_succ, i64_w, i32_w]
            rfl
          refine pure_ (i := 7) (N := some 81) (v := ?_) (a' := ?_) #[true, true, true, true, true, true, true, true, false, false, false, false, false, false, false, false, false, false, false, false] rfl rfl (any_of HT_.out q11x9_) (fun _ _ _ h => h) (Or.inl ⟨by rfl, ?_⟩) ?_ ?_
          rotate_left
          · intro w'
            go_simp
            with_reducible rfl
          rotate_left
          · simp only [Act.put, List.setIfInBounds_toArray, List.set_cons_zero, List.set_cons_succ, i64_w, i32_w]
            rfl
          refine pure_ (i := 8) (N := some 82) (v := ?_) (a' := ?_) #[true, true, true, true, true, true, true, true, true, false, false, false, false, false, false, false, false, false, false, false] rfl rfl (any_of HT_.out q11x9_) (fun _ _ _ h => h) (Or.inl ⟨by rfl, ?_⟩) ?_ ?_
          rotate_left
          · intro w'
            go_simp
            with_reducible rfl
          rotate_left
          · simp only [Act.put, List.setIfInBounds_toArray, List.set_cons_zero, List.set_cons_succ, i64_w, i32_w]
            rfl
          refine pure_ (i := 9) (N := some 83) (v := ?_) (a' := ?_) #[true, true, true, true, true, true, true, true, true, true, false, false, false, false, false, false, false, false, false, false] rfl rfl (any_of HT_.out q11x9_) (fun _ _ _ h => h) (Or.inl ⟨by rfl, ?_⟩) ?_ ?_
          rotate_left
          · intro w'
            go_simp
            with_reducible rfl
          rotate_left
          · simp only [Act.put, List.setIfInBounds_toArray, List.set_cons_zero, List.set_cons_succ, i64_w, i32_w]
            rfl
          refine one_ (i := 10) (N := some 84) #[true, true, true, true, true, true, true, true, true, true, true, false, false, false, false, false, false, false, false, false] rfl rfl (one_of HT_.out q11x9_) (by decide) (fun K hK => ?_)
          refine goes_ Try.func32 q11x9_ rfl #[.int .i64 t287, .int .i64 t292] (by rfl) rfl rfl q7x9_ ?_
          with_reducible refine (handref1_ChooseOf.calls kj5 t287 t292 t300 _ A30.out).mono ?_
          rintro e w35 ⟨rfl, hb⟩
          refine ⟨_, rfl, ?_⟩
          have n0_ := Aside0.mk (blk_below (g := gb299) (o := .cells #[.int .i64 t296, .int .i64 t297] 28 (0, 0)) q3x9_ hb)
          have n1_ := Aside0.mk (IsS25.below q6x9_ hb)
          have n2_ := Aside0.mk (below_step q2x9_ hb)
          clear BK299; clear HI283; clear HB; have BK299 := n0_; have HI283 := n1_; have HB := n2_; clear n0_ n1_ n2_; (try clear hb); (try clear hb2); (try clear hk); (try clear hi)
          refine hK.out _ _ ⟨(blk_cell BK299.out 0).trans rfl, (blk_cell BK299.out 1).trans rfl⟩ (fun hHeld => ?_)
          clear hK K
          refine norm_ (a' := ?_) ?_ ?_
          rotate_left
          · show Act.put _ (some 84) _ = _
            simp only [Act.put, List.setIfInBounds_toArray, List.set_cons_zero, List.set_cons_succ, i64_w, i32_w]
            rfl
          refine pure_ (i := 11) (N := some 85) (v := ?_) (a' := ?_) #[true, true, true, true, true, true, true, true, true, true, true, true, false, false, false, false, false, false, false, false] rfl rfl (any_of HT_.out q11x9_) (fun _ _ _ h => h) (Or.inl ⟨by rfl, ?_⟩) ?_ ?_
          rotate_left
          · intro w'
            go_simp
            with_reducible rfl
          rotate_left
          · simp only [Act.put, List.setIfInBounds_toArray, List.set_cons_zero, List.set_cons_succ, i64_w, i32_w]
            rfl
          refine pure_ (i := 12) (N := some 86) (v := ?_) (a' := ?_) #[true, true, true, true, true, true, true, true, true, true, true, true, true, false, false, false, false, false, false, false] rfl rfl (any_of HT_.out q11x9_) (fun _ _ _ h => h) (Or.inl ⟨by rfl, ?_⟩) ?_ ?_
          rotate_left
          · intro w'
            go_simp
            with_reducible rfl
          rotate_left
          · simp only [Act.put, List.setIfInBounds_toArray, List.set_cons_zero, List.set_cons_succ, i64_w, i32_w]
            rfl
          refine pure_ (i := 13) (N := some 87) (v := ?_) (a' := ?_) #[true, true, true, true, true, true, true, true, true, true, true, true, true, true, false, false, false, false, false, false] rfl rfl (any_of HT_.out q11x9_) (fun _ _ _ h => h) (Or.inl ⟨by rfl, ?_⟩) ?_ ?_
          rotate_left
          · intro w'
            go_simp
            with_reducible rfl
          rotate_left
          · simp only [Act.put, List.setIfInBounds_toArray, List.set_cons_zero, List.set_cons_succ, i64_w, i32_w]
            rfl
          refine pure_ (i := 15) (N := some 89) (v := ?_) (a' := ?_) #[true, true, true, true, true, true, true, true, true, true, true, true, true, true, false, true, false, false, false, false] rfl rfl (any_of HT_.out q11x9_) (fun _ _ _ h => h) (Or.inl ⟨by rfl, ?_⟩) ?_ ?_
          rotate_left
          · intro w'
            go_simp
            with_reducible rfl
          rotate_left
          · simp only [Act.put, List.setIfInBounds_toArray, List.set_cons_zero, List.set_cons_succ, i64_w, i32_w]
            rfl
          refine pure_ (i := 16) (N := some 90) (v := ?_) (a' := ?_) #[true, true, true, true, true, true, true, true, true, true, true, true, true, true, false, true, true, false, false, false] rfl rfl (any_of HT_.out q11x9_) (fun _ _ _ h => h) (Or.inl ⟨by rfl, ?_⟩) ?_ ?_
          rotate_left
          · intro w'
            go_simp
            with_reducible rfl
          rotate_left
          · simp only [Act.put, List.setIfInBounds_toArray, List.set_cons_zero, List.set_cons_succ, i64_w, i32_w]
            rfl
          refine take_ (i := 14) (N := some 88) (v := ?_) (a' := ?_) #[true, true, true, true, true, true, true, true, true, true, true, true, true, true, true, true, true, false, false, false] rfl rfl (take_ofW HT_.out HW_.out q11x9_) (fun _ _ _ h => h) (Or.inl ⟨by rfl, ?_⟩) hHeld ?_ ?_
          rotate_left
          · rintro w' ⟨s0, s1⟩
            go_simp
            with_reducible rfl
          rotate_left
          · simp only [Act.put, List.setIfInBounds_toArray, List.set_cons_zero, List.set_cons_succ, i64_w, i32_w]
            rfl
          refine one_ (i := 17) (N := some 91) #[true, true, true, true, true, true, true, true, true, true, true, true, true, true, true, true, true, true, false, false] rfl rfl (one_of HT_.out q11x9_) (by decide) (fun K hK => ?_)
          refine goes_ Try.func33 q11x9_ rfl #[.int .i64 t287, .int .i64 t292] (by rfl) rfl rfl q7x9_ ?_
          with_reducible refine (handref1_SignsOf.calls kj5 t287 t292 t301 t302 _ A32.out).mono ?_
          rintro e w36 ⟨rfl, hb⟩
          refine ⟨_, rfl, ?_⟩
          have n0_ := Aside0.mk (blk_below (g := gb299) (o := .cells #[.int .i64 t296, .int .i64 t297] 28 (0, 0)) q3x9_ hb)
          have n1_ := Aside0.mk (IsS25.below q6x9_ hb)
          have n2_ := Aside0.mk (below_step q2x9_ hb)
          clear BK299; clear HI283; clear HB; have BK299 := n0_; have HI283 := n1_; have HB := n2_; clear n0_ n1_ n2_; (try clear hb); (try clear hb2); (try clear hk); (try clear hi)
          refine hK.out _ _ ⟨(blk_cell BK299.out 0).trans rfl, (blk_cell BK299.out 1).trans rfl⟩ (fun hHeld => ?_)
          clear hK K
          refine norm_ (a' := ?_) ?_ ?_
          rotate_left
          · show Act.put _ (some 91) _ = _
            simp only [Act.put, List.setIfInBounds_toArray, List.set_cons_zero, List.set_cons_succ, i64_w, i32_w]
            rfl
          refine pure_ (i := 18) (N := some 92) (v := ?_) (a' := ?_) #[true, true, true, true, true, true, true, true, true, true, true, true, true, true, true, true, true, true, true, false] rfl rfl (any_of HT_.out q11x9_) (fun _ _ _ h => h) (Or.inl ⟨by rfl, ?_⟩) ?_ ?_
          rotate_left
          · intro w'
            go_simp
            with_reducible rfl
          rotate_left
          · simp only [Act.put, List.setIfInBounds_toArray, List.set_cons_zero, List.set_cons_succ, i64_w, i32_w]
            rfl
          refine pure_ (i := 19) (N := some 93) (v := ?_) (a' := ?_) #[true, true, true, true, true, true, true, true, true, true, true, true, true, true, true, true, true, true, true, true] rfl rfl (any_of HT_.out q11x9_) (fun _ _ _ h => h) (Or.inl ⟨by rfl, ?_⟩) ?_ ?_
          rotate_left
          · intro w'
            go_simp
            with_reducible rfl
          rotate_left
          · simp only [Act.put, List.setIfInBounds_toArray, List.set_cons_zero, List.set_cons_succ, i64_w, i32_w]
            rfl
          refine done_ (done_of HT_.out q11x9_) ?_
          go_upto_if 93 with (fail)
          have H := HC33.out
          clear HC33
          by_cases c37 : (!(t296 == t301) || (!(t297 == t302))) = true
          · rw [if_pos c37] at H
            have c37b0 : (!(t296 == t301) || (!(t297 == t302))) = true := c37
            clear c37
            (first | rw [c37b0] | (simp only [i64_w, i32_w]; rw [c37b0]) | skip)
            as_aux_lemma =>
              obtain rfl := Option.some.inj H
              go_wp2
              go_ret
              exact ⟨q30x9_, q2x9_⟩
          rw [if_neg c37] at H
          have c37b0 : (!(t296 == t301) || (!(t297 == t302))) = false := by simpa using c37
          clear c37
          (first | rw [c37b0] | (simp only [i64_w, i32_w]; rw [c37b0]) | skip)
          as_aux_lemma =>
            have H' := Aside0.mk H
            clear H
            go_wp2
            go_meet
            case rel => exact ⟨_, H', ⟨by have := HJ5.out; first | omega | exact Nat.le_refl _⟩, ⟨q3x9_⟩, ⟨q6x9_⟩, ⟨q2x9_⟩⟩
        rw [if_neg c31] at H
        have c31b0 : (t294 == t300) = false := beq_eq_false_iff_ne.mpr c31
        have c31b1 : (t294 != t300) = true := bne_iff_ne.mpr c31
        as_aux_lemma =>
          obtain rfl := Option.some.inj H
          try go_wp2
          (try (rw [drewN_self wc]; generalize hq_ : World.drewN wc _ = wc; have n0_ : Aside0 (wc.heap[gb299]? = some (.cells #[.int .i64 t296, .int .i64 t297] 28 (0, 0))) := ⟨q45x9_⟩; have n1_ : Aside0 (IsS25 w wc gb283 l0 t293) := ⟨by rw [← hq_]; exact q6x9_⟩; have n2_ : Aside0 (Below w.heap.size w wc) := ⟨by rw [← hq_]; exact q2x9_⟩; clear BK299 HI283 HB hq_; have BK299 := n0_; have HI283 := n1_; have HB := n2_; clear n0_ n1_ n2_))
          have n0_ := Aside0.mk (blk_drew BK299.out)
          have n1_ := Aside0.mk (IsS25.drew HI283.out)
          have n2_ := Aside0.mk (below_drew1 HB.out)
          clear BK299; clear HI283; clear HB; have BK299 := n0_; have HI283 := n1_; have HB := n2_; clear n0_ n1_ n2_
          refine start_ (n := 20) (S := fun w' => True) (ds := []) #[false, false, false, false, false, false, false, false, false, false, false, false, false, false, false, false, false, false, false, false] q11x9_ rfl rfl trivial (fun hHeld => ?_); refine with_tabW handlaw1_TestsExact.tab9 handlaw1_TestsExact.bits9 (fun HT_ HW_ => ?_)
          generalize wc.drew = w38 at BK299 HI283 HB hHeld ⊢
          refine pure_ (i := 0) (N := some 74) (v := ?_) (a' := ?_) #[true, false, false, false, false, false, false, false, false, false, false, false, false, false, false, false, false, false, false, false] rfl rfl (any_of HT_.out q11x9_) (fun _ _ _ h => h) (Or.inl ⟨by rfl, ?_⟩) ?_ ?_
          rotate_left
          · intro w'
            go_simp
            with_reducible rfl
          rotate_left
          · simp only [Act.put, List.setIfInBounds_toArray, List.set_cons_zero, List.set_cons_succ, i64_w, i32_w]
            rfl
          refine pure_ (i := 1) (N := some 75) (v := ?_) (a' := ?_) #[true, true, false, false, false, false, false, false, false, false, false, false, false, false, false, false, false, false, false, false] rfl rfl (any_of HT_.out q11x9_) (fun _ _ _ h => h) (Or.inl ⟨by rfl, ?_⟩) ?_ ?_
          rotate_left
          · intro w'
            go_simp
            with_reducible rfl
          rotate_left
          · simp only [Act.put, List.setIfInBounds_toArray, List.set_cons_zero, List.set_cons_succ, i64_w, i32_w]
            rfl
          refine pure_ (i := 2) (N := some 76) (v := ?_) (a' := ?_) #[true, true, true, false, false, false, false, false, false, false, false, false, false, false, false, false, false, false, false, false] rfl rfl (any_of HT_.out q11x9_) (fun _ _ _ h => h) (Or.inl ⟨by rfl, ?_⟩) ?_ ?_
          rotate_left
          · intro w'
            go_simp
            with_reducible rfl
          rotate_left
          · simp only [Act.put, List.setIfInBounds_toArray, List.set_cons_zero, List.set_cons_succ, i64_w, i32_w]
            rfl
          refine pure_ (i := 3) (N := some 77) (v := ?_) (a' := ?_) #[true, true, true, true, false, false, false, false, false, false, false, false, false, false, false, false, false, false, false, false] rfl rfl (any_of HT_.out q11x9_) (fun _ _ _ h => h) (Or.inl ⟨by rfl, ?_⟩) ?_ ?_
          rotate_left
          · intro w'
            go_simp
            with_reducible rfl
          rotate_left
          · simp only [Act.put, List.setIfInBounds_toArray, List.set_cons_zero, List.set_cons_succ, i64_w, i32_w]
            rfl
          refine pure_ (i := 4) (N := some 78) (v := ?_) (a' := ?_) #[true, true, true, true, true, false, false, false, false, false, false, false, false, false, false, false, false, false, false, false] rfl rfl (any_of HT_.out q11x9_) (fun _ _ _ h => h) (Or.inl ⟨by rfl, ?_⟩) ?_ ?_
          rotate_left
          · intro w'
            go_simp
            with_reducible rfl
          rotate_left
          · simp only [Act.put, List.setIfInBounds_toArray, List.set_cons_zero, List.set_cons_succ, i64_w, i32_w]
            rfl
          refine pure_ (i := 5) (N := some 79) (v := ?_) (a' := ?_) #[true, true, true, true, true, true, false, false, false, false, false, false, false, false, false, false, false, false, false, false] rfl rfl (any_of HT_.out q11x9_) (fun _ _ _ h => h) (Or.inl ⟨by rfl, ?_⟩) ?_ ?_
          rotate_left
          · intro w'
            go_simp
            with_reducible rfl
          rotate_left
          · simp only [Act.put, List.setIfInBounds_toArray, List.set_cons_zero, List.set_cons_succ, i64_w, i32_w]
            rfl
          refine pure_ (i := 6) (N := some 80) (v := ?_) (a' := ?_) #[true, true, true, true, true, true, true, false, false, false, false, false, false, false, false, false, false, false, false, false] rfl rfl (any_of HT_.out q11x9_) (fun _ _ _ h => h) (Or.inl ⟨by rfl, ?_⟩) ?_ ?_
          rotate_left
          · intro w'
            go_simp
            with_reducible rfl
          rotate_left
          · simp only [Act.put, List.setIfInBounds_toArray, List.set_cons_zero, List.set_cons_succ, i64_w, i32_w]
            rfl
          refine pure_ (i := 7) (N := some 81) (v := ?_) (a' := ?_) #[true, true, true, true, true, true, true, true, false, false, false, false, false, false, false, false, false, false, false, false] rfl rfl (any_of HT_.out q11x9_) (fun _ _ _ h => h) (Or.inl ⟨by rfl, ?_⟩) ?_ ?_
          rotate_left
          · intro w'
            go_simp
            with_reducible rfl
          rotate_left
          · simp only [Act.put, List.setIfInBounds_toArray, List.set_cons_zero, List.set_cons_succ, i64_w, i32_w]
            rfl
          refine pure_ (i := 8) (N := some 82) (v := ?_) (a' := ?_) #[true, true, true, true, true, true, true, true, true, false, false, false, false, false, false, false, false, false, false, false] rfl rfl (any_of HT_.out q11x9_) (fun _ _ _ h => h) (Or.inl ⟨by rfl, ?_⟩) ?_ ?_
          rotate_left
          · intro w'
            go_simp
            with_reducible rfl
          rotate_left
          · simp only [Act.put, List.setIfInBounds_toArray, List.set_cons_zero, List.set_cons_succ, i64_w, i32_w]
            rfl
          refine pure_ (i := 9) (N := some 83) (v := ?_) (a' := ?_) #[true, true, true, true, true, true, true, true, true, true, false, false, false, false, false, false, false, false, false, false] rfl rfl (any_of HT_.out q11x9_) (fun _ _ _ h => h) (Or.inl ⟨by rfl, ?_⟩) ?_ ?_
          rotate_left
          · intro w'
            go_simp
            with_reducible rfl
          rotate_left
          · simp only [Act.put, List.setIfInBounds_toArray, List.set_cons_zero, List.set_cons_succ, i64_w, i32_w]
            rfl
          refine one_ (i := 10) (N := some 84) #[true, true, true, true, true, true, true, true, true, true, true, false, false, false, false, false, false, false, false, false] rfl rfl (one_of HT_.out q11x9_) (by decide) (fun K hK => ?_)
          refine goes_ Try.func32 q11x9_ rfl #[.int .i64 t287, .int .i64 t292] (by rfl) rfl rfl q7x9_ ?_
          with_reducible refine (handref1_ChooseOf.calls kj5 t287 t292 t300 _ A30.out).mono ?_
          rintro e w39 ⟨rfl, hb⟩
          refine ⟨_, rfl, ?_⟩
          have n0_ := Aside0.mk (blk_below (g := gb299) (o := .cells #[.int .i64 t296, .int .i64 t297] 28 (0, 0)) q3x9_ hb)
          have n1_ := Aside0.mk (IsS25.below q6x9_ hb)
          have n2_ := Aside0.mk (below_step q2x9_ hb)
          clear BK299; clear HI283; clear HB; have BK299 := n0_; have HI283 := n1_; have HB := n2_; clear n0_ n1_ n2_; (try clear hb); (try clear hb2); (try clear hk); (try clear hi)
          refine hK.out _ _ trivial (fun hHeld => ?_)
          clear hK K
          refine norm_ (a' := ?_) ?_ ?_
          rotate_left
          · show Act.put _ (some 84) _ = _
            simp only [Act.put, List.setIfInBounds_toArray, List.set_cons_zero, List.set_cons_succ, i64_w, i32_w]
            rfl
          refine pure_ (i := 11) (N := some 85) (v := ?_) (a' := ?_) #[true, true, true, true, true, true, true, true, true, true, true, true, false, false, false, false, false, false, false, false] rfl rfl (any_of HT_.out q11x9_) (fun _ _ _ h => h) (Or.inl ⟨by rfl, ?_⟩) ?_ ?_
          rotate_left
          · intro w'
            go_simp
            with_reducible rfl
          rotate_left
          · simp only [Act.put, List.setIfInBounds_toArray, List.set_cons_zero, List.set_cons_succ, i64_w, i32_w]
            rfl
          refine pure_ (i := 12) (N := some 86) (v := ?_) (a' := ?_) #[true, true, true, true, true, true, true, true, true, true, true, true, true, false, false, false, false, false, false, false] rfl rfl (any_of HT_.out q11x9_) (fun _ _ _ h => h) (Or.inl ⟨by rfl, ?_⟩) ?_ ?_
          rotate_left
          · intro w'
            go_simp
            with_reducible rfl
          rotate_left
          · simp only [Act.put, List.setIfInBounds_toArray, List.set_cons_zero, List.set_cons_succ, i64_w, i32_w]
            rfl
          refine pure_ (i := 13) (N := some 87) (v := ?_) (a' := ?_) #[true, true, true, true, true, true, true, true, true, true, true, true, true, true, false, false, false, false, false, false] rfl rfl (any_of HT_.out q11x9_) (fun _ _ _ h => h) (Or.inl ⟨by rfl, ?_⟩) ?_ ?_
          rotate_left
          · intro w'
            go_simp
            with_reducible rfl
          rotate_left
          · simp only [Act.put, List.setIfInBounds_toArray, List.set_cons_zero, List.set_cons_succ, i64_w, i32_w]
            rfl
          refine pure_ (i := 14) (N := some 88) (v := undef) (a' := ?_) #[true, true, true, true, true, true, true, true, true, true, true, true, true, true, true, false, false, false, false, false] rfl rfl (any_of HT_.out q11x9_) (fun _ _ _ h => h) (Or.inr ⟨by rfl, rfl⟩) ?_ ?_
          rotate_left
          · simp only [Act.put, List.setIfInBounds_toArray, List.set_cons_zero, List.set_cons_succ, i64_w, i32_w]
            rfl
          refine pure_ (i := 15) (N := some 89) (v := undef) (a' := ?_) #[true, true, true, true, true, true, true, true, true, true, true, true, true, true, true, true, false, false, false, false] rfl rfl (any_of HT_.out q11x9_) (fun _ _ _ h => h) (Or.inr ⟨by rfl, rfl⟩) ?_ ?_
          rotate_left
          · simp only [Act.put, List.setIfInBounds_toArray, List.set_cons_zero, List.set_cons_succ, i64_w, i32_w]
            rfl
          refine pure_ (i := 16) (N := some 90) (v := undef) (a' := ?_) #[true, true, true, true, true, true, true, true, true, true, true, true, true, true, true, true, true, false, false, false] rfl rfl (any_of HT_.out q11x9_) (fun _ _ _ h => h) (Or.inr ⟨by rfl, rfl⟩) ?_ ?_
          rotate_left
          · simp only [Act.put, List.setIfInBounds_toArray, List.set_cons_zero, List.set_cons_succ, i64_w, i32_w]
            rfl
          refine pure_ (i := 17) (N := some 91) (v := undef) (a' := ?_) #[true, true, true, true, true, true, true, true, true, true, true, true, true, true, true, true, true, true, false, false] rfl rfl (any_of HT_.out q11x9_) (fun _ _ _ h => h) (Or.inr ⟨by rfl, rfl⟩) ?_ ?_
          rotate_left
          · simp only [Act.put, List.setIfInBounds_toArray, List.set_cons_zero, List.set_cons_succ, i64_w, i32_w]
            rfl
          refine pure_ (i := 18) (N := some 92) (v := undef) (a' := ?_) #[true, true, true, true, true, true, true, true, true, true, true, true, true, true, true, true, true, true, true, false] rfl rfl (any_of HT_.out q11x9_) (fun _ _ _ h => h) (Or.inr ⟨by rfl, rfl⟩) ?_ ?_
          rotate_left
          · simp only [Act.put, List.setIfInBounds_toArray, List.set_cons_zero, List.set_cons_succ, i64_w, i32_w]
            rfl
          refine pure_ (i := 19) (N := some 93) (v := ?_) (a' := ?_) #[true, true, true, true, true, true, true, true, true, true, true, true, true, true, true, true, true, true, true, true] rfl rfl (any_of HT_.out q11x9_) (fun _ _ _ h => h) (Or.inl ⟨by rfl, ?_⟩) ?_ ?_
          rotate_left
          · intro w'
            go_simp
            with_reducible rfl
          rotate_left
          · simp only [Act.put, List.setIfInBounds_toArray, List.set_cons_zero, List.set_cons_succ, i64_w, i32_w]
            rfl
          refine done_ (done_of HT_.out q11x9_) ?_
          try go_wp2
          go_ret
          exact ⟨q30x9_, q2x9_⟩
      rw [if_neg c29] at H
      have c29b0 : (t298 == 0) = false := beq_eq_false_iff_ne.mpr c29
      have c29b1 : (t298 != 0) = true := bne_iff_ne.mpr c29
      as_aux_lemma =>
        obtain rfl := Option.some.inj H
        try go_wp2
        (try (rw [drewN_self wc]; generalize hq_ : World.drewN wc _ = wc; have n0_ : Aside0 (wc.heap[gb299]? = some (.cells #[.int .i64 t296, .int .i64 t297] 28 (0, 0))) := ⟨q45x9_⟩; have n1_ : Aside0 (IsS25 w wc gb283 l0 t293) := ⟨by rw [← hq_]; exact q6x9_⟩; have n2_ : Aside0 (Below w.heap.size w wc) := ⟨by rw [← hq_]; exact q2x9_⟩; clear BK299 HI283 HB hq_; have BK299 := n0_; have HI283 := n1_; have HB := n2_; clear n0_ n1_ n2_))
        have n0_ := Aside0.mk (blk_drew BK299.out)
        have n1_ := Aside0.mk (IsS25.drew HI283.out)
        have n2_ := Aside0.mk (below_drew1 HB.out)
        clear BK299; clear HI283; clear HB; have BK299 := n0_; have HI283 := n1_; have HB := n2_; clear n0_ n1_ n2_
        refine start_ (n := 20) (S := fun w' => True) (ds := []) #[false, false, false, false, false, false, false, false, false, false, false, false, false, false, false, false, false, false, false, false] q11x9_ rfl rfl trivial (fun hHeld => ?_); refine with_tabW handlaw1_TestsExact.tab9 handlaw1_TestsExact.bits9 (fun HT_ HW_ => ?_)
        generalize wc.drew = w40 at BK299 HI283 HB hHeld ⊢
        refine pure_ (i := 0) (N := some 74) (v := ?_) (a' := ?_) #[true, false, false, false, false, false, false, false, false, false, false, false, false, false, false, false, false, false, false, false] rfl rfl (any_of HT_.out q11x9_) (fun _ _ _ h => h) (Or.inl ⟨by rfl, ?_⟩) ?_ ?_
        rotate_left
        · intro w'
          go_simp
          with_reducible rfl
        rotate_left
        · simp only [Act.put, List.setIfInBounds_toArray, List.set_cons_zero, List.set_cons_succ, i64_w, i32_w]
          rfl
        refine pure_ (i := 1) (N := some 75) (v := ?_) (a' := ?_) #[true, true, false, false, false, false, false, false, false, false, false, false, false, false, false, false, false, false, false, false] rfl rfl (any_of HT_.out q11x9_) (fun _ _ _ h => h) (Or.inl ⟨by rfl, ?_⟩) ?_ ?_
        rotate_left
        · intro w'
          go_simp
          with_reducible rfl
        rotate_left
        · simp only [Act.put, List.setIfInBounds_toArray, List.set_cons_zero, List.set_cons_succ, i64_w, i32_w]
          rfl
        refine pure_ (i := 2) (N := some 76) (v := ?_) (a' := ?_) #[true, true, true, false, false, false, false, false, false, false, false, false, false, false, false, false, false, false, false, false] rfl rfl (any_of HT_.out q11x9_) (fun _ _ _ h => h) (Or.inl ⟨by rfl, ?_⟩) ?_ ?_
        rotate_left
        · intro w'
          go_simp
          with_reducible rfl
        rotate_left
        · simp only [Act.put, List.setIfInBounds_toArray, List.set_cons_zero, List.set_cons_succ, i64_w, i32_w]
          rfl
        refine pure_ (i := 3) (N := some 77) (v := ?_) (a' := ?_) #[true, true, true, true, false, false, false, false, false, false, false, false, false, false, false, false, false, false, false, false] rfl rfl (any_of HT_.out q11x9_) (fun _ _ _ h => h) (Or.inl ⟨by rfl, ?_⟩) ?_ ?_
        rotate_left
        · intro w'
          go_simp
          with_reducible rfl
        rotate_left
        · simp only [Act.put, List.setIfInBounds_toArray, List.set_cons_zero, List.set_cons_succ, i64_w, i32_w]
          rfl
        refine pure_ (i := 4) (N := some 78) (v := ?_) (a' := ?_) #[true, true, true, true, true, false, false, false, false, false, false, false, false, false, false, false, false, false, false, false] rfl rfl (any_of HT_.out q11x9_) (fun _ _ _ h => h) (Or.inl ⟨by rfl, ?_⟩) ?_ ?_
        rotate_left
        · intro w'
          go_simp
          with_reducible rfl
        rotate_left
        · simp only [Act.put, List.setIfInBounds_toArray, List.set_cons_zero, List.set_cons_succ, i64_w, i32_w]
          rfl
        refine pure_ (i := 5) (N := some 79) (v := ?_) (a' := ?_) #[true, true, true, true, true, true, false, false, false, false, false, false, false, false, false, false, false, false, false, false] rfl rfl (any_of HT_.out q11x9_) (fun _ _ _ h => h) (Or.inl ⟨by rfl, ?_⟩) ?_ ?_
        rotate_left
        · intro w'
          go_simp
          with_reducible rfl
        rotate_left
        · simp only [Act.put, List.setIfInBounds_toArray, List.set_cons_zero, List.set_cons_succ, i64_w, i32_w]
          rfl
        refine pure_ (i := 6) (N := some 80) (v := ?_) (a' := ?_) #[true, true, true, true, true, true, true, false, false, false, false, false, false, false, false, false, false, false, false, false] rfl rfl (any_of HT_.out q11x9_) (fun _ _ _ h => h) (Or.inl ⟨by rfl, ?_⟩) ?_ ?_
        rotate_left
        · intro w'
          go_simp
          with_reducible rfl
        rotate_left
        · simp only [Act.put, List.setIfInBounds_toArray, List.set_cons_zero, List.set_cons_succ, i64_w, i32_w]
          rfl
        refine pure_ (i := 7) (N := some 81) (v := undef) (a' := ?_) #[true, true, true, true, true, true, true, true, false, false, false, false, false, false, false, false, false, false, false, false] rfl rfl (any_of HT_.out q11x9_) (fun _ _ _ h => h) (Or.inr ⟨by rfl, rfl⟩) ?_ ?_
        rotate_left
        · simp only [Act.put, List.setIfInBounds_toArray, List.set_cons_zero, List.set_cons_succ, i64_w, i32_w]
          rfl
        refine pure_ (i := 8) (N := some 82) (v := undef) (a' := ?_) #[true, true, true, true, true, true, true, true, true, false, false, false, false, false, false, false, false, false, false, false] rfl rfl (any_of HT_.out q11x9_) (fun _ _ _ h => h) (Or.inr ⟨by rfl, rfl⟩) ?_ ?_
        rotate_left
        · simp only [Act.put, List.setIfInBounds_toArray, List.set_cons_zero, List.set_cons_succ, i64_w, i32_w]
          rfl
        refine pure_ (i := 9) (N := some 83) (v := undef) (a' := ?_) #[true, true, true, true, true, true, true, true, true, true, false, false, false, false, false, false, false, false, false, false] rfl rfl (any_of HT_.out q11x9_) (fun _ _ _ h => h) (Or.inr ⟨by rfl, rfl⟩) ?_ ?_
        rotate_left
        · simp only [Act.put, List.setIfInBounds_toArray, List.set_cons_zero, List.set_cons_succ, i64_w, i32_w]
          rfl
        refine pure_ (i := 10) (N := some 84) (v := undef) (a' := ?_) #[true, true, true, true, true, true, true, true, true, true, true, false, false, false, false, false, false, false, false, false] rfl rfl (any_of HT_.out q11x9_) (fun _ _ _ h => h) (Or.inr ⟨by rfl, rfl⟩) ?_ ?_
        rotate_left
        · simp only [Act.put, List.setIfInBounds_toArray, List.set_cons_zero, List.set_cons_succ, i64_w, i32_w]
          rfl
        refine pure_ (i := 11) (N := some 85) (v := undef) (a' := ?_) #[true, true, true, true, true, true, true, true, true, true, true, true, false, false, false, false, false, false, false, false] rfl rfl (any_of HT_.out q11x9_) (fun _ _ _ h => h) (Or.inr ⟨by rfl, rfl⟩) ?_ ?_
        rotate_left
        · simp only [Act.put, List.setIfInBounds_toArray, List.set_cons_zero, List.set_cons_succ, i64_w, i32_w]
          rfl
        refine pure_ (i := 12) (N := some 86) (v := ?_) (a' := ?_) #[true, true, true, true, true, true, true, true, true, true, true, true, true, false, false, false, false, false, false, false] rfl rfl (any_of HT_.out q11x9_) (fun _ _ _ h => h) (Or.inl ⟨by rfl, ?_⟩) ?_ ?_
        rotate_left
        · intro w'
          go_simp
          with_reducible rfl
        rotate_left
        · simp only [Act.put, List.setIfInBounds_toArray, List.set_cons_zero, List.set_cons_succ, i64_w, i32_w]
          rfl
        refine pure_ (i := 13) (N := some 87) (v := ?_) (a' := ?_) #[true, true, true, true, true, true, true, true, true, true, true, true, true, true, false, false, false, false, false, false] rfl rfl (any_of HT_.out q11x9_) (fun _ _ _ h => h) (Or.inl ⟨by rfl, ?_⟩) ?_ ?_
        rotate_left
        · intro w'
          go_simp
          with_reducible rfl
        rotate_left
        · simp only [Act.put, List.setIfInBounds_toArray, List.set_cons_zero, List.set_cons_succ, i64_w, i32_w]
          rfl
        refine pure_ (i := 14) (N := some 88) (v := undef) (a' := ?_) #[true, true, true, true, true, true, true, true, true, true, true, true, true, true, true, false, false, false, false, false] rfl rfl (any_of HT_.out q11x9_) (fun _ _ _ h => h) (Or.inr ⟨by rfl, rfl⟩) ?_ ?_
        rotate_left
        · simp only [Act.put, List.setIfInBounds_toArray, List.set_cons_zero, List.set_cons_succ, i64_w, i32_w]
          rfl
        refine pure_ (i := 15) (N := some 89) (v := undef) (a' := ?_) #[true, true, true, true, true, true, true, true, true, true, true, true, true, true, true, true, false, false, false, false] rfl rfl (any_of HT_.out q11x9_) (fun _ _ _ h => h) (Or.inr ⟨by rfl, rfl⟩) ?_ ?_
        rotate_left
        · simp only [Act.put, List.setIfInBounds_toArray, List.set_cons_zero, List.set_cons_succ, i64_w, i32_w]
          rfl
        refine pure_ (i := 16) (N := some 90) (v := undef) (a' := ?_) #[true, true, true, true, true, true, true, true, true, true, true, true, true, true, true, true, true, false, false, false] rfl rfl (any_of HT_.out q11x9_) (fun _ _ _ h => h) (Or.inr ⟨by rfl, rfl⟩) ?_ ?_
        rotate_left
        · simp only [Act.put, List.setIfInBounds_toArray, List.set_cons_zero, List.set_cons_succ, i64_w, i32_w]
          rfl
        refine pure_ (i := 17) (N := some 91) (v := undef) (a' := ?_) #[true, true, true, true, true, true, true, true, true, true, true, true, true, true, true, true, true, true, false, false] rfl rfl (any_of HT_.out q11x9_) (fun _ _ _ h => h) (Or.inr ⟨by rfl, rfl⟩) ?_ ?_
        rotate_left
        · simp only [Act.put, List.setIfInBounds_toArray, List.set_cons_zero, List.set_cons_succ, i64_w, i32_w]
          rfl
        refine pure_ (i := 18) (N := some 92) (v := undef) (a' := ?_) #[true, true, true, true, true, true, true, true, true, true, true, true, true, true, true, true, true, true, true, false] rfl rfl (any_of HT_.out q11x9_) (fun _ _ _ h => h) (Or.inr ⟨by rfl, rfl⟩) ?_ ?_
        rotate_left
        · simp only [Act.put, List.setIfInBounds_toArray, List.set_cons_zero, List.set_cons_succ, i64_w, i32_w]
          rfl
        refine pure_ (i := 19) (N := some 93) (v := ?_) (a' := ?_) #[true, true, true, true, true, true, true, true, true, true, true, true, true, true, true, true, true, true, true, true] rfl rfl (any_of HT_.out q11x9_) (fun _ _ _ h => h) (Or.inl ⟨by rfl, ?_⟩) ?_ ?_
        rotate_left
        · intro w'
          go_simp
          with_reducible rfl
        rotate_left
        · simp only [Act.put, List.setIfInBounds_toArray, List.set_cons_zero, List.set_cons_succ, i64_w, i32_w]
          rfl
        refine done_ (done_of HT_.out q11x9_) ?_
        try go_wp2
        go_ret
        exact ⟨q30x9_, q2x9_⟩
    rw [if_neg c28] at H
    have c28b0 : (t295 == 0) = false := beq_eq_false_iff_ne.mpr c28
    have c28b1 : (t295 != 0) = true := bne_iff_ne.mpr c28
    as_aux_lemma =>
      obtain rfl := Option.some.inj H
      try go_wp2
      (try (rw [drewN_self wc]; generalize hq_ : World.drewN wc _ = wc; have n0_ : Aside0 (wc.heap[gb299]? = some (.cells #[.int .i64 t296, .int .i64 t297] 28 (0, 0))) := ⟨q45x9_⟩; have n1_ : Aside0 (IsS25 w wc gb283 l0 t293) := ⟨by rw [← hq_]; exact q6x9_⟩; have n2_ : Aside0 (Below w.heap.size w wc) := ⟨by rw [← hq_]; exact q2x9_⟩; clear BK299 HI283 HB hq_; have BK299 := n0_; have HI283 := n1_; have HB := n2_; clear n0_ n1_ n2_))
      have n0_ := Aside0.mk (blk_drew BK299.out)
      have n1_ := Aside0.mk (IsS25.drew HI283.out)
      have n2_ := Aside0.mk (below_drew1 HB.out)
      clear BK299; clear HI283; clear HB; have BK299 := n0_; have HI283 := n1_; have HB := n2_; clear n0_ n1_ n2_
      refine start_ (n := 20) (S := fun w' => True) (ds := []) #[false, false, false, false, false, false, false, false, false, false, false, false, false, false, false, false, false, false, false, false] q11x9_ rfl rfl trivial (fun hHeld => ?_); refine with_tabW handlaw1_TestsExact.tab9 handlaw1_TestsExact.bits9 (fun HT_ HW_ => ?_)
      generalize wc.drew = w41 at BK299 HI283 HB hHeld ⊢
      refine pure_ (i := 0) (N := some 74) (v := ?_) (a' := ?_) #[true, false, false, false, false, false, false, false, false, false, false, false, false, false, false, false, false, false, false, false] rfl rfl (any_of HT_.out q11x9_) (fun _ _ _ h => h) (Or.inl ⟨by rfl, ?_⟩) ?_ ?_
      rotate_left
      · intro w'
        go_simp
        with_reducible rfl
      rotate_left
      · simp only [Act.put, List.setIfInBounds_toArray, List.set_cons_zero, List.set_cons_succ, i64_w, i32_w]
        rfl
      refine pure_ (i := 1) (N := some 75) (v := ?_) (a' := ?_) #[true, true, false, false, false, false, false, false, false, false, false, false, false, false, false, false, false, false, false, false] rfl rfl (any_of HT_.out q11x9_) (fun _ _ _ h => h) (Or.inl ⟨by rfl, ?_⟩) ?_ ?_
      rotate_left
      · intro w'
        go_simp
        with_reducible rfl
      rotate_left
      · simp only [Act.put, List.setIfInBounds_toArray, List.set_cons_zero, List.set_cons_succ, i64_w, i32_w]
        rfl
      refine pure_ (i := 2) (N := some 76) (v := ?_) (a' := ?_) #[true, true, true, false, false, false, false, false, false, false, false, false, false, false, false, false, false, false, false, false] rfl rfl (any_of HT_.out q11x9_) (fun _ _ _ h => h) (Or.inl ⟨by rfl, ?_⟩) ?_ ?_
      rotate_left
      · intro w'
        go_simp
        with_reducible rfl
      rotate_left
      · simp only [Act.put, List.setIfInBounds_toArray, List.set_cons_zero, List.set_cons_succ, i64_w, i32_w]
        rfl
      refine pure_ (i := 3) (N := some 77) (v := undef) (a' := ?_) #[true, true, true, true, false, false, false, false, false, false, false, false, false, false, false, false, false, false, false, false] rfl rfl (any_of HT_.out q11x9_) (fun _ _ _ h => h) (Or.inr ⟨by rfl, rfl⟩) ?_ ?_
      rotate_left
      · simp only [Act.put, List.setIfInBounds_toArray, List.set_cons_zero, List.set_cons_succ, i64_w, i32_w]
        rfl
      refine pure_ (i := 4) (N := some 78) (v := undef) (a' := ?_) #[true, true, true, true, true, false, false, false, false, false, false, false, false, false, false, false, false, false, false, false] rfl rfl (any_of HT_.out q11x9_) (fun _ _ _ h => h) (Or.inr ⟨by rfl, rfl⟩) ?_ ?_
      rotate_left
      · simp only [Act.put, List.setIfInBounds_toArray, List.set_cons_zero, List.set_cons_succ, i64_w, i32_w]
        rfl
      refine pure_ (i := 5) (N := some 79) (v := ?_) (a' := ?_) #[true, true, true, true, true, true, false, false, false, false, false, false, false, false, false, false, false, false, false, false] rfl rfl (any_of HT_.out q11x9_) (fun _ _ _ h => h) (Or.inl ⟨by rfl, ?_⟩) ?_ ?_
      rotate_left
      · intro w'
        go_simp
        with_reducible rfl
      rotate_left
      · simp only [Act.put, List.setIfInBounds_toArray, List.set_cons_zero, List.set_cons_succ, i64_w, i32_w]
        rfl
      refine pure_ (i := 6) (N := some 80) (v := ?_) (a' := ?_) #[true, true, true, true, true, true, true, false, false, false, false, false, false, false, false, false, false, false, false, false] rfl rfl (any_of HT_.out q11x9_) (fun _ _ _ h => h) (Or.inl ⟨by rfl, ?_⟩) ?_ ?_
      rotate_left
      · intro w'
        go_simp
        with_reducible rfl
      rotate_left
      · simp only [Act.put, List.setIfInBounds_toArray, List.set_cons_zero, List.set_cons_succ, i64_w, i32_w]
        rfl
      refine pure_ (i := 7) (N := some 81) (v := undef) (a' := ?_) #[true, true, true, true, true, true, true, true, false, false, false, false, false, false, false, false, false, false, false, false] rfl rfl (any_of HT_.out q11x9_) (fun _ _ _ h => h) (Or.inr ⟨by rfl, rfl⟩) ?_ ?_
      rotate_left
      · simp only [Act.put, List.setIfInBounds_toArray, List.set_cons_zero, List.set_cons_succ, i64_w, i32_w]
        rfl
      refine pure_ (i := 8) (N := some 82) (v := undef) (a' := ?_) #[true, true, true, true, true, true, true, true, true, false, false, false, false, false, false, false, false, false, false, false] rfl rfl (any_of HT_.out q11x9_) (fun _ _ _ h => h) (Or.inr ⟨by rfl, rfl⟩) ?_ ?_
      rotate_left
      · simp only [Act.put, List.setIfInBounds_toArray, List.set_cons_zero, List.set_cons_succ, i64_w, i32_w]
        rfl
      refine pure_ (i := 9) (N := some 83) (v := undef) (a' := ?_) #[true, true, true, true, true, true, true, true, true, true, false, false, false, false, false, false, false, false, false, false] rfl rfl (any_of HT_.out q11x9_) (fun _ _ _ h => h) (Or.inr ⟨by rfl, rfl⟩) ?_ ?_
      rotate_left
      · simp only [Act.put, List.setIfInBounds_toArray, List.set_cons_zero, List.set_cons_succ, i64_w, i32_w]
        rfl
      refine pure_ (i := 10) (N := some 84) (v := undef) (a' := ?_) #[true, true, true, true, true, true, true, true, true, true, true, false, false, false, false, false, false, false, false, false] rfl rfl (any_of HT_.out q11x9_) (fun _ _ _ h => h) (Or.inr ⟨by rfl, rfl⟩) ?_ ?_
      rotate_left
      · simp only [Act.put, List.setIfInBounds_toArray, List.set_cons_zero, List.set_cons_succ, i64_w, i32_w]
        rfl
      refine pure_ (i := 11) (N := some 85) (v := undef) (a' := ?_) #[true, true, true, true, true, true, true, true, true, true, true, true, false, false, false, false, false, false, false, false] rfl rfl (any_of HT_.out q11x9_) (fun _ _ _ h => h) (Or.inr ⟨by rfl, rfl⟩) ?_ ?_
      rotate_left
      · simp only [Act.put, List.setIfInBounds_toArray, List.set_cons_zero, List.set_cons_succ, i64_w, i32_w]
        rfl
      refine pure_ (i := 12) (N := some 86) (v := ?_) (a' := ?_) #[true, true, true, true, true, true, true, true, true, true, true, true, true, false, false, false, false, false, false, false] rfl rfl (any_of HT_.out q11x9_) (fun _ _ _ h => h) (Or.inl ⟨by rfl, ?_⟩) ?_ ?_
      rotate_left
      · intro w'
        go_simp
        with_reducible rfl
      rotate_left
      · simp only [Act.put, List.setIfInBounds_toArray, List.set_cons_zero, List.set_cons_succ, i64_w, i32_w]
        rfl
      refine pure_ (i := 13) (N := some 87) (v := ?_) (a' := ?_) #[true, true, true, true, true, true, true, true, true, true, true, true, true, true, false, false, false, false, false, false] rfl rfl (any_of HT_.out q11x9_) (fun _ _ _ h => h) (Or.inl ⟨by rfl, ?_⟩) ?_ ?_
      rotate_left
      · intro w'
        go_simp
        with_reducible rfl
      rotate_left
      · simp only [Act.put, List.setIfInBounds_toArray, List.set_cons_zero, List.set_cons_succ, i64_w, i32_w]
        rfl
      refine pure_ (i := 14) (N := some 88) (v := undef) (a' := ?_) #[true, true, true, true, true, true, true, true, true, true, true, true, true, true, true, false, false, false, false, false] rfl rfl (any_of HT_.out q11x9_) (fun _ _ _ h => h) (Or.inr ⟨by rfl, rfl⟩) ?_ ?_
      rotate_left
      · simp only [Act.put, List.setIfInBounds_toArray, List.set_cons_zero, List.set_cons_succ, i64_w, i32_w]
        rfl
      refine pure_ (i := 15) (N := some 89) (v := undef) (a' := ?_) #[true, true, true, true, true, true, true, true, true, true, true, true, true, true, true, true, false, false, false, false] rfl rfl (any_of HT_.out q11x9_) (fun _ _ _ h => h) (Or.inr ⟨by rfl, rfl⟩) ?_ ?_
      rotate_left
      · simp only [Act.put, List.setIfInBounds_toArray, List.set_cons_zero, List.set_cons_succ, i64_w, i32_w]
        rfl
      refine pure_ (i := 16) (N := some 90) (v := undef) (a' := ?_) #[true, true, true, true, true, true, true, true, true, true, true, true, true, true, true, true, true, false, false, false] rfl rfl (any_of HT_.out q11x9_) (fun _ _ _ h => h) (Or.inr ⟨by rfl, rfl⟩) ?_ ?_
      rotate_left
      · simp only [Act.put, List.setIfInBounds_toArray, List.set_cons_zero, List.set_cons_succ, i64_w, i32_w]
        rfl
      refine pure_ (i := 17) (N := some 91) (v := undef) (a' := ?_) #[true, true, true, true, true, true, true, true, true, true, true, true, true, true, true, true, true, true, false, false] rfl rfl (any_of HT_.out q11x9_) (fun _ _ _ h => h) (Or.inr ⟨by rfl, rfl⟩) ?_ ?_
      rotate_left
      · simp only [Act.put, List.setIfInBounds_toArray, List.set_cons_zero, List.set_cons_succ, i64_w, i32_w]
        rfl
      refine pure_ (i := 18) (N := some 92) (v := undef) (a' := ?_) #[true, true, true, true, true, true, true, true, true, true, true, true, true, true, true, true, true, true, true, false] rfl rfl (any_of HT_.out q11x9_) (fun _ _ _ h => h) (Or.inr ⟨by rfl, rfl⟩) ?_ ?_
      rotate_left
      · simp only [Act.put, List.setIfInBounds_toArray, List.set_cons_zero, List.set_cons_succ, i64_w, i32_w]
        rfl
      refine pure_ (i := 19) (N := some 93) (v := ?_) (a' := ?_) #[true, true, true, true, true, true, true, true, true, true, true, true, true, true, true, true, true, true, true, true] rfl rfl (any_of HT_.out q11x9_) (fun _ _ _ h => h) (Or.inl ⟨by rfl, ?_⟩) ?_ ?_
      rotate_left
      · intro w'
        go_simp
        with_reducible rfl
      rotate_left
      · simp only [Act.put, List.setIfInBounds_toArray, List.set_cons_zero, List.set_cons_succ, i64_w, i32_w]
        rfl
      refine done_ (done_of HT_.out q11x9_) ?_
      try go_wp2
      go_ret
      exact ⟨q30x9_, q2x9_⟩
  clear HC24; (try clear c2); (try clear p2); (try clear c3); (try clear c28); (try clear c28b0); (try clear c28b1); (try clear c29); (try clear c29b0); (try clear c29b1); (try clear c31); (try clear c31b0); (try clear c31b1); (try clear c32); (try clear c33); (try clear c37); (try clear c37b0)
  obtain ⟨kq, HA, HJ23, BK299, HI283, HB⟩ := hcut
  rcases kq with _ | kj23
  · exact absurd HA.out (by simp [handlaw1_TestsExact.j1])
  have H := HA.out
  clear HA
  simp only [handlaw1_TestsExact.j1] at H
  replace H := Option.bind_eq_some_iff.mp H
  obtain ⟨⟨t303, t306⟩, A420, H⟩ := H
  replace H : ((handmake_Stream_Pick.f l0 t306 (([1, 50, 100, 500, 0, 501] : List Int))).bind fun bt310 => (if 0 < (t303.length : Int) then (if 1 < (t303.length : Int) then (if 2 < (t303.length : Int) then (if 3 < (t303.length : Int) then ((measure_Exact.f kj23 (rd t303 0) (rd t303 1) (rd t303 2) (rd t303 3)).bind fun bt316 => ((handref1_ExactFault.f kj23 t303).bind fun t320 => (if bt316.2.2 = t320 then (if t320 = 0 then ((handref1_ExactOf.f kj23 (rd t303 0) (rd t303 1) (rd t303 2) (rd t303 3)).bind fun bt325 => (handlaw1_TestsExact.j2 kj23 t303 bt310.1 (!(bt316.1 == bt325.1) || (!(bt316.2.1 == bt325.2))) l0 bt310.2)) else (handlaw1_TestsExact.j2 kj23 t303 bt310.1 false l0 bt310.2)) else (handlaw1_TestsExact.j2 kj23 t303 bt310.1 true l0 bt310.2)))) else (none)) else (none)) else (none)) else (none))) = some r := H
  have A42 := Aside0.mk A420
  clear A420
  obtain ⟨y307, hy307⟩ : ∃ y_ : List Int, y_ = (([1, 50, 100, 500, 0, 501] : List Int)) := ⟨_, rfl⟩
  replace H : ((handmake_Stream_Pick.f l0 t306 y307).bind fun bt310 => (if 0 < (t303.length : Int) then (if 1 < (t303.length : Int) then (if 2 < (t303.length : Int) then (if 3 < (t303.length : Int) then ((measure_Exact.f kj23 (rd t303 0) (rd t303 1) (rd t303 2) (rd t303 3)).bind fun bt316 => ((handref1_ExactFault.f kj23 t303).bind fun t320 => (if bt316.2.2 = t320 then (if t320 = 0 then ((handref1_ExactOf.f kj23 (rd t303 0) (rd t303 1) (rd t303 2) (rd t303 3)).bind fun bt325 => (handlaw1_TestsExact.j2 kj23 t303 bt310.1 (!(bt316.1 == bt325.1) || (!(bt316.2.1 == bt325.2))) l0 bt310.2)) else (handlaw1_TestsExact.j2 kj23 t303 bt310.1 false l0 bt310.2)) else (handlaw1_TestsExact.j2 kj23 t303 bt310.1 true l0 bt310.2)))) else (none)) else (none)) else (none)) else (none))) = some r := by first | (rw [hy307]; with_reducible exact H) | (have H2_ := (Option.bind_some _ _).symm.trans H; rw [hy307]; with_reducible exact H2_) | (have H2_ := (Option.bind_some _ _).symm.trans H; with_reducible exact H2_) | with_reducible exact H | (rw [hy307]; exact H) | exact H
  have Ny307 := Aside0.mk hy307
  clear hy307
  replace H := Option.bind_eq_some_iff.mp H
  obtain ⟨⟨t310, t311⟩, A430, H⟩ := H
  replace H : (if 0 < (t303.length : Int) then (if 1 < (t303.length : Int) then (if 2 < (t303.length : Int) then (if 3 < (t303.length : Int) then ((measure_Exact.f kj23 (rd t303 0) (rd t303 1) (rd t303 2) (rd t303 3)).bind fun bt316 => ((handref1_ExactFault.f kj23 t303).bind fun t320 => (if bt316.2.2 = t320 then (if t320 = 0 then ((handref1_ExactOf.f kj23 (rd t303 0) (rd t303 1) (rd t303 2) (rd t303 3)).bind fun bt325 => (handlaw1_TestsExact.j2 kj23 t303 t310 (!(bt316.1 == bt325.1) || (!(bt316.2.1 == bt325.2))) l0 t311)) else (handlaw1_TestsExact.j2 kj23 t303 t310 false l0 t311)) else (handlaw1_TestsExact.j2 kj23 t303 t310 true l0 t311)))) else (none)) else (none)) else (none)) else (none)) = some r := H
  have A43 := Aside0.mk A430
  clear A430
  by_cases c44 : 0 < (t303.length : Int)
  · rw [if_pos c44] at H
    have c44b0 : decide (0 < (t303.length : Int)) = true := decide_eq_true c44
    have c44b1 : decide (0 < t303.length) = true := decide_eq_true (by omega)
    clear c44
    by_cases c45 : 1 < (t303.length : Int)
    · rw [if_pos c45] at H
      have c45b0 : decide (1 < (t303.length : Int)) = true := decide_eq_true c45
      have c45b1 : decide (1 < t303.length) = true := decide_eq_true (by omega)
      clear c45
      by_cases c46 : 2 < (t303.length : Int)
      · rw [if_pos c46] at H
        have c46b0 : decide (2 < (t303.length : Int)) = true := decide_eq_true c46
        have c46b1 : decide (2 < t303.length) = true := decide_eq_true (by omega)
        clear c46
        by_cases c47 : 3 < (t303.length : Int)
        · rw [if_pos c47] at H
          have c47b0 : decide (3 < (t303.length : Int)) = true := decide_eq_true c47
          have c47b1 : decide (3 < t303.length) = true := decide_eq_true (by omega)
          clear c47
          replace H := Option.bind_eq_some_iff.mp H
          obtain ⟨⟨t316, t317, t318⟩, A480, H⟩ := H
          replace H : ((handref1_ExactFault.f kj23 t303).bind fun t320 => (if t318 = t320 then (if t320 = 0 then ((handref1_ExactOf.f kj23 (rd t303 0) (rd t303 1) (rd t303 2) (rd t303 3)).bind fun bt325 => (handlaw1_TestsExact.j2 kj23 t303 t310 (!(t316 == bt325.1) || (!(t317 == bt325.2))) l0 t311)) else (handlaw1_TestsExact.j2 kj23 t303 t310 false l0 t311)) else (handlaw1_TestsExact.j2 kj23 t303 t310 true l0 t311))) = some r := H
          have A48 := Aside0.mk A480
          clear A480
          replace H := Option.bind_eq_some_iff.mp H
          obtain ⟨t320, A490, H⟩ := H
          replace H : (if t318 = t320 then (if t320 = 0 then ((handref1_ExactOf.f kj23 (rd t303 0) (rd t303 1) (rd t303 2) (rd t303 3)).bind fun bt325 => (handlaw1_TestsExact.j2 kj23 t303 t310 (!(t316 == bt325.1) || (!(t317 == bt325.2))) l0 t311)) else (handlaw1_TestsExact.j2 kj23 t303 t310 false l0 t311)) else (handlaw1_TestsExact.j2 kj23 t303 t310 true l0 t311)) = some r := H
          have A49 := Aside0.mk A490
          clear A490
          have HC50 := Aside0.mk H
          clear H
          try go_wp2_with (first | ((with_reducible refine gate_callee (f := 34) rfl ?_); refine goesL_ (some 95) rfl rfl Try.func34 q11x9_ rfl #[.pointer (some ⟨gb283, 0, none⟩)] rfl q7x9_ ?_; (with_reducible refine (handmake_Stream_Four.calls gb283 l0 t293 t303 t306 w _ ?side1 ?side2 A42.out).mono ?_); (case side1 => repeat (first | (with_reducible first | exact HI283.out | apply IsS25.alloc | apply IsS25.drewN | apply IsS25.drew | apply IsS25.set_1 | refine IsS25.far ?_ NB283_299.out _) | exact HI283.out)); (case side2 => repeat (first | (with_reducible first | exact HB.out | apply below_alloc | apply pw_below_drewN | apply below_drew1 | refine below_set ?_ (IsS25.ge HI283.out) | refine below_set ?_ GE299.out) | exact HB.out)); rintro e w51 ⟨v304, rfl, ho0, hi, hb, hk⟩; refine ⟨_, rfl, ?_⟩; have n0_ := Aside0.mk (KeepBut.blk hk (g' := gb299) (o := .cells #[.int .i64 t296, .int .i64 t297] 28 (0, 0)) q3x9_ NB299_283.out (by simp)); have n1_ := Aside0.mk (Kd.R_lower ho0 (below_size q2x9_)); have n2_ := Aside0.mk (hb); have n3_ := Aside0.mk (hi); clear BK299; clear HB; clear HI283; have BK299 := n0_; have HO305 := n1_; have HB := n2_; have HI283 := n3_; clear n0_ n1_ n2_ n3_; (try clear hb); (try clear hb2); (try clear hk); (try clear hi); (try clear ho0)) | ((with_reducible refine gate_dst (N := 97) rfl ?_); refine Kd.R_lit (Kd.int .i64) _ 3 ?hg (N := 97) ?hd (xs := ([1, 50, 100, 500, 0, 501] : List Int)) (inner := [.int .i64 1, .int .i64 50, .int .i64 100, .int .i64 500, .int .i64 0, .int .i64 501]) (ok := fun _ => True) (okp := fun _ => True) ?hr ?hp (fun _ hk => hk) trivial (Below.refl _ _) (Nat.le_refl _) (by simp) ?_; (case hd => rfl); (case hg => rfl); (case hr => first | (go_simp; done) | (go_simp; rfl)); (case hp => exact (Reps.one (show Kd.M (Kd.int .i64) _ _ _ 1 [.int .i64 1] from rfl) (Reps.one (show Kd.M (Kd.int .i64) _ _ _ 50 [.int .i64 50] from rfl) (Reps.one (show Kd.M (Kd.int .i64) _ _ _ 100 [.int .i64 100] from rfl) (Reps.one (show Kd.M (Kd.int .i64) _ _ _ 500 [.int .i64 500] from rfl) (Reps.one (show Kd.M (Kd.int .i64) _ _ _ 0 [.int .i64 0] from rfl) (Reps.one (show Kd.M (Kd.int .i64) _ _ _ 501 [.int .i64 501] from rfl) (Reps.none _ _)))))))); intro v308 w52 ho53 hb hg_ hnew_; clear hg_ hnew_; (first | rw [← Ny307.out] at ho53 | (simp only [Int.reduceToNat] at ho53; rw [← Ny307.out] at ho53)); have n0_ := Aside0.mk (Kd.R_elder' q13x9_ (Kd.R_base ho53) hb); have n1_ := Aside0.mk (Kd.R_lower (Kd.R_new' ho53 (Kd.R_lt q13x9_)) (below_size q2x9_)); have n2_ := Aside0.mk (blk_below (g := gb299) (o := .cells #[.int .i64 t296, .int .i64 t297] 28 (0, 0)) q3x9_ hb); have n3_ := Aside0.mk (IsS25.below q6x9_ hb); have n4_ := Aside0.mk (below_step q2x9_ hb); clear HO305; clear BK299; clear HI283; clear HB; have HO305 := n0_; have HO309 := n1_; have BK299 := n2_; have HI283 := n3_; have HB := n4_; clear n0_ n1_ n2_ n3_ n4_; clear hb ho53; obtain ⟨Ao54, co54, eo54⟩ := Kd.R_slice HO309.out; subst eo54) | ((with_reducible refine gate_callee (f := 30) rfl ?_); refine goesL_ (some 98) rfl rfl Try.func30 q11x9_ rfl #[.pointer (some ⟨gb283, 0, none⟩), .slice Ao54 y307.length co54] rfl q7x9_ ?_; (with_reducible refine (handmake_Stream_Pick.calls gb283 l0 t306 _ _ y307 t310 t311 w _ ?side1 ?side2 ?side3 ?side4 ?side5 A43.out).mono ?_); (case side1 => repeat (first | (with_reducible first | exact HI283.out | apply IsS25.alloc | apply IsS25.drewN | apply IsS25.drew | apply IsS25.set_1 | refine IsS25.far ?_ NB283_299.out _) | exact HI283.out)); (case side2 => repeat (first | (with_reducible first | exact HB.out | apply below_alloc | apply pw_below_drewN | apply below_drew1 | refine below_set ?_ (IsS25.ge HI283.out) | refine below_set ?_ GE299.out) | exact HB.out)); (case side3 => repeat (first | exact (Kd.R_reads' HO309.out).2.2 | (with_reducible refine Kd.C_alloc ?_ _) | (with_reducible refine Kd.C_drewN ?_ _) | (with_reducible refine Kd.C_drew ?_))); (case side4 => exact (Kd.R_reads' HO309.out).2.1); (case side5 => exact far_slice (IsS25.own_ne HI283.out HO309.out (by decide))); rintro e w55 ⟨rfl, hi, hb, hk⟩; refine ⟨_, rfl, ?_⟩; have n0_ := Aside0.mk (KeepBut.blk hk (g' := gb299) (o := .cells #[.int .i64 t296, .int .i64 t297] 28 (0, 0)) q3x9_ NB299_283.out (by simp)); have n1_ := Aside0.mk (Kd.R_mono (Kd.R_keep (IsS25.apart (show IsS25 w _ gb283 l0 t306 from by repeat (first | (with_reducible first | exact HI283.out | apply IsS25.alloc | apply IsS25.drewN | apply IsS25.drew | apply IsS25.set_1 | refine IsS25.far ?_ NB283_299.out _) | exact HI283.out)) q13x9_ (by decide)) hk (fun _ h => h.2)) (fun _ h => h.1)); have n2_ := Aside0.mk (Kd.R_mono (Kd.R_keep (IsS25.apart (show IsS25 w _ gb283 l0 t306 from by repeat (first | (with_reducible first | exact HI283.out | apply IsS25.alloc | apply IsS25.drewN | apply IsS25.drew | apply IsS25.set_1 | refine IsS25.far ?_ NB283_299.out _) | exact HI283.out)) q18x9_ (by decide)) hk (fun _ h => h.2)) (fun _ h => h.1)); have n3_ := Aside0.mk (hb); have n4_ := Aside0.mk (hi); clear BK299; clear HO305; clear HO309; clear HB; clear HI283; have BK299 := n0_; have HO305 := n1_; have HO309 := n2_; have HB := n3_; have HI283 := n4_; clear n0_ n1_ n2_ n3_ n4_; (try clear hb); (try clear hb2); (try clear hk); (try clear hi)))
          have n0_ := Aside0.mk (Kd.R_drew HO305.out)
          have n1_ := Aside0.mk (Kd.R_drew HO309.out)
          have n2_ := Aside0.mk (blk_drew BK299.out)
          have n3_ := Aside0.mk (IsS25.drew HI283.out)
          have n4_ := Aside0.mk (below_drew1 HB.out)
          clear HO305; clear HO309; clear BK299; clear HI283; clear HB; have HO305 := n0_; have HO309 := n1_; have BK299 := n2_; have HI283 := n3_; have HB := n4_; clear n0_ n1_ n2_ n3_ n4_
          obtain ⟨Ao57, co57, eo57⟩ := Kd.R_slice HO305.out
          (first | subst eo57 | (injection eo57 with f1_ f2_ f3_; have f4_ := f1_.symm; have f5_ := f3_.symm; clear f1_ f2_ f3_; subst f4_; subst f5_))
          have p312 : 0 ≤ (0 : Int) := (by omega)
          have q312 : 0 < (t303.length : Int) := of_decide_eq_true q24x9_
          obtain ⟨ad312, e312, hx312_0⟩ := Kd.at_int (Kd.R_reads' HO305.out).2.2 0 p312 q312
          cases e312
          have qi312 : (0 < t303.length) = True := eq_true (by omega)
          (try rw [show ((0 : Int)).toNat = 0 from rfl] at hx312_0)
          (try rw [Addr.add_zero'] at hx312_0)
          replace p312 := eq_true p312
          replace q312 := eq_true q312
          have p313 : 0 ≤ (1 : Int) := (by omega)
          have q313 : 1 < (t303.length : Int) := of_decide_eq_true q24x9_
          obtain ⟨ad313, e313, hx313_0⟩ := Kd.at_int (Kd.R_reads' HO305.out).2.2 1 p313 q313
          obtain rfl : ad312 = ad313 := (by injection e313)
          (try simp only [show (1 : Int).toNat = 1 from rfl, Nat.reduceMul, Nat.reduceEqDiff, Go.Addr.add, ↓reduceIte] at hx313_0)
          have qi313 : (1 < t303.length) = True := eq_true (by omega)
          (try rw [show ((1 : Int)).toNat = 1 from rfl] at hx313_0)
          replace p313 := eq_true p313
          replace q313 := eq_true q313
          have p314 : 0 ≤ (2 : Int) := (by omega)
          have q314 : 2 < (t303.length : Int) := of_decide_eq_true q24x9_
          obtain ⟨ad314, e314, hx314_0⟩ := Kd.at_int (Kd.R_reads' HO305.out).2.2 2 p314 q314
          obtain rfl : ad312 = ad314 := (by injection e314)
          (try simp only [show (2 : Int).toNat = 2 from rfl, Nat.reduceMul, Nat.reduceEqDiff, Go.Addr.add, ↓reduceIte] at hx314_0)
          have qi314 : (2 < t303.length) = True := eq_true (by omega)
          (try rw [show ((2 : Int)).toNat = 2 from rfl] at hx314_0)
          replace p314 := eq_true p314
          replace q314 := eq_true q314
          have p315 : 0 ≤ (3 : Int) := (by omega)
          have q315 : 3 < (t303.length : Int) := of_decide_eq_true q24x9_
          obtain ⟨ad315, e315, hx315_0⟩ := Kd.at_int (Kd.R_reads' HO305.out).2.2 3 p315 q315
          obtain rfl : ad312 = ad315 := (by injection e315)
          (try simp only [show (3 : Int).toNat = 3 from rfl, Nat.reduceMul, Nat.reduceEqDiff, Go.Addr.add, ↓reduceIte] at hx315_0)
          have qi315 : (3 < t303.length) = True := eq_true (by omega)
          (try rw [show ((3 : Int)).toNat = 3 from rfl] at hx315_0)
          replace p315 := eq_true p315
          replace q315 := eq_true q315
          refine start_ (n := 19) (S := fun w' => w'.cell? ad312 = some (.int .i64 (rd t303 0)) ∧ w'.cell? ⟨ad312.block, ad312.off + 1, none⟩ = some (.int .i64 (rd t303 1)) ∧ w'.cell? ⟨ad312.block, ad312.off + 2, none⟩ = some (.int .i64 (rd t303 2)) ∧ w'.cell? ⟨ad312.block, ad312.off + 3, none⟩ = some (.int .i64 (rd t303 3))) (ds := []) #[false, false, false, false, false, false, false, false, false, false, false, false, false, false, false, false, false, false, false] q11x9_ rfl rfl ⟨hx312_0, hx313_0, hx314_0, hx315_0⟩ (fun hHeld => ?_); refine with_tabW handlaw1_TestsExact.tab12 handlaw1_TestsExact.bits12 (fun HT_ HW_ => ?_)
          generalize w55.drew = w56 at HO305 HO309 BK299 HI283 HB hx312_0 hx313_0 hx314_0 hx315_0 hHeld ⊢
          refine pure_ (i := 0) (N := some 100) (v := ?_) (a' := ?_) #[true, false, false, false, false, false, false, false, false, false, false, false, false, false, false, false, false, false, false] rfl rfl (any_of HT_.out q11x9_) (fun _ _ _ h => h) (Or.inl ⟨by rfl, ?_⟩) ?_ ?_
          rotate_left
          · intro w'
            go_simp
            with_reducible rfl
          rotate_left
          · simp only [Act.put, List.setIfInBounds_toArray, List.set_cons_zero, List.set_cons_succ, i64_w, i32_w]
            rfl
          refine pure_ (i := 1) (N := some 101) (v := ?_) (a' := ?_) #[true, true, false, false, false, false, false, false, false, false, false, false, false, false, false, false, false, false, false] rfl rfl (any_of HT_.out q11x9_) (fun _ _ _ h => h) (Or.inl ⟨by rfl, ?_⟩) ?_ ?_
          rotate_left
          · intro w'
            go_simp
            with_reducible rfl
          rotate_left
          · simp only [Act.put, List.setIfInBounds_toArray, List.set_cons_zero, List.set_cons_succ, i64_w, i32_w]
            rfl
          refine pure_ (i := 3) (N := some 103) (v := ?_) (a' := ?_) #[true, true, false, true, false, false, false, false, false, false, false, false, false, false, false, false, false, false, false] rfl rfl (any_of HT_.out q11x9_) (fun _ _ _ h => h) (Or.inl ⟨by rfl, ?_⟩) ?_ ?_
          rotate_left
          · intro w'
            go_simp
            with_reducible rfl
          rotate_left
          · simp only [Act.put, List.setIfInBounds_toArray, List.set_cons_zero, List.set_cons_succ, i64_w, i32_w]
            rfl
          refine pure_ (i := 4) (N := some 104) (v := ?_) (a' := ?_) #[true, true, false, true, true, false, false, false, false, false, false, false, false, false, false, false, false, false, false] rfl rfl (any_of HT_.out q11x9_) (fun _ _ _ h => h) (Or.inl ⟨by rfl, ?_⟩) ?_ ?_
          rotate_left
          · intro w'
            go_simp
            with_reducible rfl
          rotate_left
          · simp only [Act.put, List.setIfInBounds_toArray, List.set_cons_zero, List.set_cons_succ, i64_w, i32_w]
            rfl
          refine pure_ (i := 6) (N := some 106) (v := ?_) (a' := ?_) #[true, true, false, true, true, false, true, false, false, false, false, false, false, false, false, false, false, false, false] rfl rfl (any_of HT_.out q11x9_) (fun _ _ _ h => h) (Or.inl ⟨by rfl, ?_⟩) ?_ ?_
          rotate_left
          · intro w'
            go_simp
            with_reducible rfl
          rotate_left
          · simp only [Act.put, List.setIfInBounds_toArray, List.set_cons_zero, List.set_cons_succ, i64_w, i32_w]
            rfl
          refine pure_ (i := 7) (N := some 107) (v := ?_) (a' := ?_) #[true, true, false, true, true, false, true, true, false, false, false, false, false, false, false, false, false, false, false] rfl rfl (any_of HT_.out q11x9_) (fun _ _ _ h => h) (Or.inl ⟨by rfl, ?_⟩) ?_ ?_
          rotate_left
          · intro w'
            go_simp
            with_reducible rfl
          rotate_left
          · simp only [Act.put, List.setIfInBounds_toArray, List.set_cons_zero, List.set_cons_succ, i64_w, i32_w]
            rfl
          refine pure_ (i := 9) (N := some 109) (v := ?_) (a' := ?_) #[true, true, false, true, true, false, true, true, false, true, false, false, false, false, false, false, false, false, false] rfl rfl (any_of HT_.out q11x9_) (fun _ _ _ h => h) (Or.inl ⟨by rfl, ?_⟩) ?_ ?_
          rotate_left
          · intro w'
            go_simp
            with_reducible rfl
          rotate_left
          · simp only [Act.put, List.setIfInBounds_toArray, List.set_cons_zero, List.set_cons_succ, i64_w, i32_w]
            rfl
          refine pure_ (i := 10) (N := some 110) (v := ?_) (a' := ?_) #[true, true, false, true, true, false, true, true, false, true, true, false, false, false, false, false, false, false, false] rfl rfl (any_of HT_.out q11x9_) (fun _ _ _ h => h) (Or.inl ⟨by rfl, ?_⟩) ?_ ?_
          rotate_left
          · intro w'
            go_simp
            with_reducible rfl
          rotate_left
          · simp only [Act.put, List.setIfInBounds_toArray, List.set_cons_zero, List.set_cons_succ, i64_w, i32_w]
            rfl
          refine take_ (i := 2) (N := some 102) (v := ?_) (a' := ?_) #[true, true, true, true, true, false, true, true, false, true, true, false, false, false, false, false, false, false, false] rfl rfl (take_ofW HT_.out HW_.out q11x9_) (fun _ _ _ h => h) (Or.inl ⟨by rfl, ?_⟩) hHeld ?_ ?_
          rotate_left
          · rintro w' ⟨s0, s1, s2, s3⟩
            go_simp
            with_reducible rfl
          rotate_left
          · simp only [Act.put, List.setIfInBounds_toArray, List.set_cons_zero, List.set_cons_succ, i64_w, i32_w]
            rfl
          refine take_ (i := 5) (N := some 105) (v := ?_) (a' := ?_) #[true, true, true, true, true, true, true, true, false, true, true, false, false, false, false, false, false, false, false] rfl rfl (take_ofW HT_.out HW_.out q11x9_) (fun _ _ _ h => h) (Or.inl ⟨by rfl, ?_⟩) hHeld ?_ ?_
          rotate_left
          · rintro w' ⟨s0, s1, s2, s3⟩
            go_simp
            with_reducible rfl
          rotate_left
          · simp only [Act.put, List.setIfInBounds_toArray, List.set_cons_zero, List.set_cons_succ, i64_w, i32_w]
            rfl
          refine take_ (i := 8) (N := some 108) (v := ?_) (a' := ?_) #[true, true, true, true, true, true, true, true, true, true, true, false, false, false, false, false, false, false, false] rfl rfl (take_ofW HT_.out HW_.out q11x9_) (fun _ _ _ h => h) (Or.inl ⟨by rfl, ?_⟩) hHeld ?_ ?_
          rotate_left
          · rintro w' ⟨s0, s1, s2, s3⟩
            go_simp
            with_reducible rfl
          rotate_left
          · simp only [Act.put, List.setIfInBounds_toArray, List.set_cons_zero, List.set_cons_succ, i64_w, i32_w]
            rfl
          refine take_ (i := 11) (N := some 111) (v := ?_) (a' := ?_) #[true, true, true, true, true, true, true, true, true, true, true, true, false, false, false, false, false, false, false] rfl rfl (take_ofW HT_.out HW_.out q11x9_) (fun _ _ _ h => h) (Or.inl ⟨by rfl, ?_⟩) hHeld ?_ ?_
          rotate_left
          · rintro w' ⟨s0, s1, s2, s3⟩
            go_simp
            with_reducible rfl
          rotate_left
          · simp only [Act.put, List.setIfInBounds_toArray, List.set_cons_zero, List.set_cons_succ, i64_w, i32_w]
            rfl
          refine join_ (σ := Nat) 2 #[true, true, true, true, true, true, true, true, true, true, true, true, true, true, true, true, true, false, false] (fun s_ => [(112, .tuple #[.agg #[.int .i64 t316, .int .i64 t317], .int .i64 t318]), (12, .pointer (some ⟨s_, 0, none⟩)), (99, .tuple #[.agg #[.int .i64 t316, .int .i64 t317], .int .i64 t318]), (113, .agg #[.int .i64 t316, .int .i64 t317]), (114, .int .i64 t318)]) (fun s_ w' => (w'.cell? ad312 = some (.int .i64 (rd t303 0)) ∧ w'.cell? ⟨ad312.block, ad312.off + 1, none⟩ = some (.int .i64 (rd t303 1)) ∧ w'.cell? ⟨ad312.block, ad312.off + 2, none⟩ = some (.int .i64 (rd t303 2)) ∧ w'.cell? ⟨ad312.block, ad312.off + 3, none⟩ = some (.int .i64 (rd t303 3))) ∧ (Kd.R (Kd.int .i64) 3 w' w.heap.size (fun k_ => some k_ ≠ (.slice Ao54 y307.length co54 : Value).ownBlock) (.slice (some ad312) t303.length co57) t303) ∧ (Kd.R (Kd.int .i64) 3 w' w.heap.size (fun k_ => some k_ ≠ (.slice (some ad312) t303.length co57 : Value).ownBlock) (.slice Ao54 y307.length co54) y307) ∧ (w'.heap[gb299]? = some (.cells #[.int .i64 t296, .int .i64 t297] 28 (0, 0))) ∧ (w'.heap[s_]? = some (.cells #[.int .i64 0, .int .i64 0] 28 (0, 0))) ∧ (w.heap.size ≤ s_) ∧ (w.heap.size ≤ s_) ∧ (gb283 ≠ s_) ∧ (s_ ≠ gb283) ∧ (gb299 ≠ s_) ∧ (s_ ≠ gb299) ∧ (IsS25 w w' gb283 l0 t311) ∧ (Below w.heap.size w w')) ?_ ?_
          rotate_left
          · intro hCont
            refine two_ (i := 12) (j := 16) (Ni := some 112) (Nj := some 12) #[true, true, true, true, true, true, true, true, true, true, true, true, true, false, false, false, false, false, false] #[true, true, true, true, true, true, true, true, true, true, true, true, false, false, false, false, true, false, false] rfl rfl rfl rfl (two_of HT_.out q11x9_) (by decide) (by decide) (fun K hK => ?_) (fun K hK => ?_)
            · skip
              refine goes_ Try.func13 q11x9_ rfl #[.int .i64 (rd t303 0), .int .i64 (rd t303 1), .int .i64 (rd t303 2), .int .i64 (rd t303 3)] (by rfl) rfl rfl q7x9_ ?_
              with_reducible refine (measure_Exact.calls kj23 (rd t303 0) (rd t303 1) (rd t303 2) (rd t303 3) t316 t317 t318 _ A48.out).mono ?_
              rintro e w58 ⟨rfl, hb⟩
              have HS0_ := (hb.cell (World.block_lt_of_cell? _ _ (hHeld.1))).trans (hHeld.1)
              have HS1_ := (hb.cell (World.block_lt_of_cell? _ _ (hHeld.2.1))).trans (hHeld.2.1)
              have HS2_ := (hb.cell (World.block_lt_of_cell? _ _ (hHeld.2.2.1))).trans (hHeld.2.2.1)
              have HS3_ := (hb.cell (World.block_lt_of_cell? _ _ (hHeld.2.2.2))).trans (hHeld.2.2.2)
              refine ⟨_, rfl, ?_⟩
              have n0_ := Aside0.mk (Kd.R_below q13x9_ hb)
              have n1_ := Aside0.mk (Kd.R_below q18x9_ hb)
              have n2_ := Aside0.mk (blk_below (g := gb299) (o := .cells #[.int .i64 t296, .int .i64 t297] 28 (0, 0)) q3x9_ hb)
              have n3_ := Aside0.mk (IsS25.below q6x9_ hb)
              have n4_ := Aside0.mk (below_step q2x9_ hb)
              clear HO305; clear HO309; clear BK299; clear HI283; clear HB; have HO305 := n0_; have HO309 := n1_; have BK299 := n2_; have HI283 := n3_; have HB := n4_; clear n0_ n1_ n2_ n3_ n4_; (try clear hb); (try clear hb2); (try clear hk); (try clear hi)
              refine hK.out _ _ ⟨HS0_, HS1_, HS2_, HS3_⟩ (fun hHeld => ?_)
              clear hK K
              refine norm_ (a' := ?_) ?_ ?_
              rotate_left
              · show Act.put _ (some 112) _ = _
                simp only [Act.put, List.setIfInBounds_toArray, List.set_cons_zero, List.set_cons_succ, i64_w, i32_w]
                rfl
              refine pure_ (i := 13) (N := some 99) (v := ?_) (a' := ?_) #[true, true, true, true, true, true, true, true, true, true, true, true, true, true, false, false, false, false, false] rfl rfl (any_of HT_.out q11x9_) (fun _ _ _ h => h) (Or.inl ⟨by rfl, ?_⟩) ?_ ?_
              rotate_left
              · intro w'
                go_simp
                with_reducible rfl
              rotate_left
              · simp only [Act.put, List.setIfInBounds_toArray, List.set_cons_zero, List.set_cons_succ, i64_w, i32_w]
                rfl
              refine pure_ (i := 14) (N := some 113) (v := ?_) (a' := ?_) #[true, true, true, true, true, true, true, true, true, true, true, true, true, true, true, false, false, false, false] rfl rfl (any_of HT_.out q11x9_) (fun _ _ _ h => h) (Or.inl ⟨by rfl, ?_⟩) ?_ ?_
              rotate_left
              · intro w'
                go_simp
                with_reducible rfl
              rotate_left
              · simp only [Act.put, List.setIfInBounds_toArray, List.set_cons_zero, List.set_cons_succ, i64_w, i32_w]
                rfl
              refine pure_ (i := 15) (N := some 114) (v := ?_) (a' := ?_) #[true, true, true, true, true, true, true, true, true, true, true, true, true, true, true, true, false, false, false] rfl rfl (any_of HT_.out q11x9_) (fun _ _ _ h => h) (Or.inl ⟨by rfl, ?_⟩) ?_ ?_
              rotate_left
              · intro w'
                go_simp
                with_reducible rfl
              rotate_left
              · simp only [Act.put, List.setIfInBounds_toArray, List.set_cons_zero, List.set_cons_succ, i64_w, i32_w]
                rfl
              refine one_ (i := 16) (N := some 12) #[true, true, true, true, true, true, true, true, true, true, true, true, true, true, true, true, true, false, false] rfl rfl (one_of HT_.out q11x9_) (by decide) (fun K hK => ?_)
              refine box_step ?hg (N := 12) ?hd (cs := #[.int .i64 0, .int .i64 0]) (t := 28) ?hr ?_; (case hd => rfl); (case hg => rfl); (case hr => first | (go_simp; done) | (go_simp; rfl))
              intro gb319 hg w59 hbox hb
              have HS0_ := (hb.cell (World.block_lt_of_cell? _ _ (hHeld.1))).trans (hHeld.1)
              have HS1_ := (hb.cell (World.block_lt_of_cell? _ _ (hHeld.2.1))).trans (hHeld.2.1)
              have HS2_ := (hb.cell (World.block_lt_of_cell? _ _ (hHeld.2.2.1))).trans (hHeld.2.2.1)
              have HS3_ := (hb.cell (World.block_lt_of_cell? _ _ (hHeld.2.2.2))).trans (hHeld.2.2.2)
              have n0_ := Aside0.mk (Kd.R_below q13x9_ hb)
              have n1_ := Aside0.mk (Kd.R_below q18x9_ hb)
              have n2_ := Aside0.mk (blk_below (g := gb299) (o := .cells #[.int .i64 t296, .int .i64 t297] 28 (0, 0)) q3x9_ hb)
              have n3_ := Aside0.mk (IsS25.below q6x9_ hb)
              have n4_ := Aside0.mk (below_step q2x9_ hb)
              have n5_ := Aside0.mk (hbox)
              have n6_ := Aside0.mk ((by rw [hg]; exact (below_size q2x9_) : w.heap.size ≤ gb319))
              have n7_ := Aside0.mk ((by rw [hg]; exact (below_size q2x9_) : w.heap.size ≤ gb319))
              have n8_ := Aside0.mk ((by rw [hg]; exact Nat.ne_of_lt (blk_lt (g := gb299) (o := .cells #[.int .i64 t296, .int .i64 t297] 28 (0, 0)) q3x9_) : gb299 ≠ gb319))
              have n9_ := Aside0.mk ((by rw [hg]; exact Nat.ne_of_gt (blk_lt (g := gb299) (o := .cells #[.int .i64 t296, .int .i64 t297] 28 (0, 0)) q3x9_) : gb319 ≠ gb299))
              have n10_ := Aside0.mk ((by rw [hg]; exact Nat.ne_of_lt (IsS25.lt (show IsS25 w _ gb283 l0 t311 from by repeat (first | (with_reducible first | exact HI283.out | apply IsS25.alloc | apply IsS25.drewN | apply IsS25.drew | apply IsS25.set_1 | refine IsS25.far ?_ NB283_299.out _) | exact HI283.out))) : gb283 ≠ gb319))
              have n11_ := Aside0.mk ((by rw [hg]; exact Nat.ne_of_gt (IsS25.lt (show IsS25 w _ gb283 l0 t311 from by repeat (first | (with_reducible first | exact HI283.out | apply IsS25.alloc | apply IsS25.drewN | apply IsS25.drew | apply IsS25.set_1 | refine IsS25.far ?_ NB283_299.out _) | exact HI283.out))) : gb319 ≠ gb283))
              clear HO305; clear HO309; clear BK299; clear HI283; clear HB; have HO305 := n0_; have HO309 := n1_; have BK299 := n2_; have HI283 := n3_; have HB := n4_; have BK319 := n5_; have GW319 := n6_; have GE319 := n7_; have NB299_319 := n8_; have NB319_299 := n9_; have NB283_319 := n10_; have NB319_283 := n11_; clear n0_ n1_ n2_ n3_ n4_ n5_ n6_ n7_ n8_ n9_ n10_ n11_; clear hb hbox hg
              refine hK.out _ _ ⟨HS0_, HS1_, HS2_, HS3_⟩ (fun hHeld => ?_)
              clear hK K
              refine norm_ (a' := ?_) ?_ ?_
              rotate_left
              · show Act.put _ (some 12) _ = _
                simp only [Act.put, List.setIfInBounds_toArray, List.set_cons_zero, List.set_cons_succ, i64_w, i32_w]
                rfl
              exact norm_ (by simp only [putAll, Act.put, List.setIfInBounds_toArray, List.set_cons_zero, List.set_cons_succ]) (hCont (gb319) _ ⟨hHeld, q43x9_, q44x9_, q3x9_, q5x9_, GW319.out, GE319.out, NB283_319.out, NB319_283.out, NB299_319.out, NB319_299.out, q4x9_, q1x9_⟩)
            skip
            refine box_step ?hg (N := 12) ?hd (cs := #[.int .i64 0, .int .i64 0]) (t := 28) ?hr ?_; (case hd => rfl); (case hg => rfl); (case hr => first | (go_simp; done) | (go_simp; rfl))
            intro gb319 hg w58 hbox hb
            have HS0_ := (hb.cell (World.block_lt_of_cell? _ _ (hHeld.1))).trans (hHeld.1)
            have HS1_ := (hb.cell (World.block_lt_of_cell? _ _ (hHeld.2.1))).trans (hHeld.2.1)
            have HS2_ := (hb.cell (World.block_lt_of_cell? _ _ (hHeld.2.2.1))).trans (hHeld.2.2.1)
            have HS3_ := (hb.cell (World.block_lt_of_cell? _ _ (hHeld.2.2.2))).trans (hHeld.2.2.2)
            have n0_ := Aside0.mk (Kd.R_below q13x9_ hb)
            have n1_ := Aside0.mk (Kd.R_below q18x9_ hb)
            have n2_ := Aside0.mk (blk_below (g := gb299) (o := .cells #[.int .i64 t296, .int .i64 t297] 28 (0, 0)) q3x9_ hb)
            have n3_ := Aside0.mk (IsS25.below q6x9_ hb)
            have n4_ := Aside0.mk (below_step q2x9_ hb)
            have n5_ := Aside0.mk (hbox)
            have n6_ := Aside0.mk ((by rw [hg]; exact (below_size q2x9_) : w.heap.size ≤ gb319))
            have n7_ := Aside0.mk ((by rw [hg]; exact (below_size q2x9_) : w.heap.size ≤ gb319))
            have n8_ := Aside0.mk ((by rw [hg]; exact Nat.ne_of_lt (blk_lt (g := gb299) (o := .cells #[.int .i64 t296, .int .i64 t297] 28 (0, 0)) q3x9_) : gb299 ≠ gb319))
            have n9_ := Aside0.mk ((by rw [hg]; exact Nat.ne_of_gt (blk_lt (g := gb299) (o := .cells #[.int .i64 t296, .int .i64 t297] 28 (0, 0)) q3x9_) : gb319 ≠ gb299))
            have n10_ := Aside0.mk ((by rw [hg]; exact Nat.ne_of_lt (IsS25.lt (show IsS25 w _ gb283 l0 t311 from by repeat (first | (with_reducible first | exact HI283.out | apply IsS25.alloc | apply IsS25.drewN | apply IsS25.drew | apply IsS25.set_1 | refine IsS25.far ?_ NB283_299.out _) | exact HI283.out))) : gb283 ≠ gb319))
            have n11_ := Aside0.mk ((by rw [hg]; exact Nat.ne_of_gt (IsS25.lt (show IsS25 w _ gb283 l0 t311 from by repeat (first | (with_reducible first | exact HI283.out | apply IsS25.alloc | apply IsS25.drewN | apply IsS25.drew | apply IsS25.set_1 | refine IsS25.far ?_ NB283_299.out _) | exact HI283.out))) : gb319 ≠ gb283))
            clear HO305; clear HO309; clear BK299; clear HI283; clear HB; have HO305 := n0_; have HO309 := n1_; have BK299 := n2_; have HI283 := n3_; have HB := n4_; have BK319 := n5_; have GW319 := n6_; have GE319 := n7_; have NB299_319 := n8_; have NB319_299 := n9_; have NB283_319 := n10_; have NB319_283 := n11_; clear n0_ n1_ n2_ n3_ n4_ n5_ n6_ n7_ n8_ n9_ n10_ n11_; clear hb hbox hg
            refine hK.out _ _ ⟨HS0_, HS1_, HS2_, HS3_⟩ (fun hHeld => ?_)
            clear hK K
            refine norm_ (a' := ?_) ?_ ?_
            rotate_left
            · show Act.put _ (some 12) _ = _
              simp only [Act.put, List.setIfInBounds_toArray, List.set_cons_zero, List.set_cons_succ, i64_w, i32_w]
              rfl
            refine one_ (i := 12) (N := some 112) #[true, true, true, true, true, true, true, true, true, true, true, true, true, false, false, false, true, false, false] rfl rfl (one_of HT_.out q11x9_) (by decide) (fun K hK => ?_)
            refine goes_ Try.func13 q11x9_ rfl #[.int .i64 (rd t303 0), .int .i64 (rd t303 1), .int .i64 (rd t303 2), .int .i64 (rd t303 3)] (by rfl) rfl rfl q7x9_ ?_
            with_reducible refine (measure_Exact.calls kj23 (rd t303 0) (rd t303 1) (rd t303 2) (rd t303 3) t316 t317 t318 _ A48.out).mono ?_
            rintro e w59 ⟨rfl, hb⟩
            have HS0_ := (hb.cell (World.block_lt_of_cell? _ _ (hHeld.1))).trans (hHeld.1)
            have HS1_ := (hb.cell (World.block_lt_of_cell? _ _ (hHeld.2.1))).trans (hHeld.2.1)
            have HS2_ := (hb.cell (World.block_lt_of_cell? _ _ (hHeld.2.2.1))).trans (hHeld.2.2.1)
            have HS3_ := (hb.cell (World.block_lt_of_cell? _ _ (hHeld.2.2.2))).trans (hHeld.2.2.2)
            refine ⟨_, rfl, ?_⟩
            have n0_ := Aside0.mk (Kd.R_below q13x9_ hb)
            have n1_ := Aside0.mk (Kd.R_below q18x9_ hb)
            have n2_ := Aside0.mk (blk_below (g := gb299) (o := .cells #[.int .i64 t296, .int .i64 t297] 28 (0, 0)) q3x9_ hb)
            have n3_ := Aside0.mk (IsS25.below q4x9_ hb)
            have n4_ := Aside0.mk (blk_below (g := gb319) (o := .cells #[.int .i64 0, .int .i64 0] 28 (0, 0)) q5x9_ hb)
            have n5_ := Aside0.mk (below_step q1x9_ hb)
            clear HO305; clear HO309; clear BK299; clear HI283; clear BK319; clear HB; have HO305 := n0_; have HO309 := n1_; have BK299 := n2_; have HI283 := n3_; have BK319 := n4_; have HB := n5_; clear n0_ n1_ n2_ n3_ n4_ n5_; (try clear hb); (try clear hb2); (try clear hk); (try clear hi)
            refine hK.out _ _ ⟨HS0_, HS1_, HS2_, HS3_⟩ (fun hHeld => ?_)
            clear hK K
            refine norm_ (a' := ?_) ?_ ?_
            rotate_left
            · show Act.put _ (some 112) _ = _
              simp only [Act.put, List.setIfInBounds_toArray, List.set_cons_zero, List.set_cons_succ, i64_w, i32_w]
              rfl
            refine pure_ (i := 13) (N := some 99) (v := ?_) (a' := ?_) #[true, true, true, true, true, true, true, true, true, true, true, true, true, true, false, false, true, false, false] rfl rfl (any_of HT_.out q11x9_) (fun _ _ _ h => h) (Or.inl ⟨by rfl, ?_⟩) ?_ ?_
            rotate_left
            · intro w'
              go_simp
              with_reducible rfl
            rotate_left
            · simp only [Act.put, List.setIfInBounds_toArray, List.set_cons_zero, List.set_cons_succ, i64_w, i32_w]
              rfl
            refine pure_ (i := 14) (N := some 113) (v := ?_) (a' := ?_) #[true, true, true, true, true, true, true, true, true, true, true, true, true, true, true, false, true, false, false] rfl rfl (any_of HT_.out q11x9_) (fun _ _ _ h => h) (Or.inl ⟨by rfl, ?_⟩) ?_ ?_
            rotate_left
            · intro w'
              go_simp
              with_reducible rfl
            rotate_left
            · simp only [Act.put, List.setIfInBounds_toArray, List.set_cons_zero, List.set_cons_succ, i64_w, i32_w]
              rfl
            refine pure_ (i := 15) (N := some 114) (v := ?_) (a' := ?_) #[true, true, true, true, true, true, true, true, true, true, true, true, true, true, true, true, true, false, false] rfl rfl (any_of HT_.out q11x9_) (fun _ _ _ h => h) (Or.inl ⟨by rfl, ?_⟩) ?_ ?_
            rotate_left
            · intro w'
              go_simp
              with_reducible rfl
            rotate_left
            · simp only [Act.put, List.setIfInBounds_toArray, List.set_cons_zero, List.set_cons_succ, i64_w, i32_w]
              rfl
            exact norm_ (by simp only [putAll, Act.put, List.setIfInBounds_toArray, List.set_cons_zero, List.set_cons_succ]) (hCont (gb319) _ ⟨hHeld, q43x9_, q44x9_, q3x9_, q5x9_, GW319.out, GE319.out, NB283_319.out, NB319_283.out, NB299_319.out, NB319_299.out, q4x9_, q1x9_⟩)
          rintro gb319 w60 ⟨hS_, h0_, h1_, h2_, h3_, h4_, h5_, h6_, h7_, h8_, h9_, h10_, h11_⟩
          have n0_ : Aside0 (Kd.R (Kd.int .i64) 3 w60 w.heap.size (fun k_ => some k_ ≠ (.slice Ao54 y307.length co54 : Value).ownBlock) (.slice (some ad312) t303.length co57) t303) := ⟨h0_⟩
          have n1_ : Aside0 (Kd.R (Kd.int .i64) 3 w60 w.heap.size (fun k_ => some k_ ≠ (.slice (some ad312) t303.length co57 : Value).ownBlock) (.slice Ao54 y307.length co54) y307) := ⟨h1_⟩
          have n2_ : Aside0 (w60.heap[gb299]? = some (.cells #[.int .i64 t296, .int .i64 t297] 28 (0, 0))) := ⟨h2_⟩
          have n3_ : Aside0 (w60.heap[gb319]? = some (.cells #[.int .i64 0, .int .i64 0] 28 (0, 0))) := ⟨h3_⟩
          have n4_ : Aside0 (w.heap.size ≤ gb319) := ⟨h4_⟩
          have n5_ : Aside0 (w.heap.size ≤ gb319) := ⟨h5_⟩
          have n6_ : Aside0 (gb283 ≠ gb319) := ⟨h6_⟩
          have n7_ : Aside0 (gb319 ≠ gb283) := ⟨h7_⟩
          have n8_ : Aside0 (gb299 ≠ gb319) := ⟨h8_⟩
          have n9_ : Aside0 (gb319 ≠ gb299) := ⟨h9_⟩
          have n10_ : Aside0 (IsS25 w w60 gb283 l0 t311) := ⟨h10_⟩
          have n11_ : Aside0 (Below w.heap.size w w60) := ⟨h11_⟩
          clear HO305; clear HO309; clear BK299; clear HI283; clear HB; clear h0_ h1_ h2_ h3_ h4_ h5_ h6_ h7_ h8_ h9_ h10_ h11_; have HO305 := n0_; have HO309 := n1_; have BK299 := n2_; have BK319 := n3_; have GW319 := n4_; have GE319 := n5_; have NB283_319 := n6_; have NB319_283 := n7_; have NB299_319 := n8_; have NB319_299 := n9_; have HI283 := n10_; have HB := n11_; clear n0_ n1_ n2_ n3_ n4_ n5_ n6_ n7_ n8_ n9_ n10_ n11_
          have hHeld : w60.cell? ad312 = some (.int .i64 (rd t303 0)) ∧ w60.cell? ⟨ad312.block, ad312.off + 1, none⟩ = some (.int .i64 (rd t303 1)) ∧ w60.cell? ⟨ad312.block, ad312.off + 2, none⟩ = some (.int .i64 (rd t303 2)) ∧ w60.cell? ⟨ad312.block, ad312.off + 3, none⟩ = some (.int .i64 (rd t303 3)) := hS_
          refine norm_ (a' := ?_) ?_ ?_
          rotate_left
          · simp only [putAll, Act.put, List.setIfInBounds_toArray, List.set_cons_zero, List.set_cons_succ]
            rfl
          refine one_ (i := 17) (N := none) #[true, true, true, true, true, true, true, true, true, true, true, true, true, true, true, true, true, true, false] rfl rfl (one_of HT_.out q11x9_) (by decide) (fun K hK => ?_)
          have hs61 : w60.cell? ⟨gb319, 0, none⟩ = some (.int .i64 0) := (blk_cell BK319.out 0).trans rfl
          have hfs61 := blk_frozen BK319.out 0
          have hns61_0 := NB299_319.out
          have hms61_0 := NB319_299.out
          have hs62 : w60.cell? ⟨gb319, 1, none⟩ = some (.int .i64 0) := (blk_cell BK319.out 1).trans rfl
          have hfs62 := blk_frozen BK319.out 1
          have hns62_0 := NB299_319.out
          have hms62_0 := NB319_299.out
          refine skip_ (w1 := ?_) (by rfl) rfl ?_ ?_
          rotate_left
          · go_simp
            rfl
          refine hK.out _ _ ⟨((cell_far (p := ⟨gb319, _, none⟩) q9x9_ _).trans (((cell_far (p := ⟨gb319, _, none⟩) q9x9_ _).trans (hHeld.1)))), ((cell_far (p := ⟨gb319, _, none⟩) q9x9_ _).trans (((cell_far (p := ⟨gb319, _, none⟩) q9x9_ _).trans (hHeld.2.1)))), ((cell_far (p := ⟨gb319, _, none⟩) q9x9_ _).trans (((cell_far (p := ⟨gb319, _, none⟩) q9x9_ _).trans (hHeld.2.2.1)))), ((cell_far (p := ⟨gb319, _, none⟩) q9x9_ _).trans (((cell_far (p := ⟨gb319, _, none⟩) q9x9_ _).trans (hHeld.2.2.2))))⟩ (fun hHeld => ?_)
          clear hK K
          refine pure_ (i := 18) (N := some 13) (v := ?_) (a' := ?_) #[true, true, true, true, true, true, true, true, true, true, true, true, true, true, true, true, true, true, true] rfl rfl (any_of HT_.out q11x9_) (fun _ _ _ h => h) (Or.inl ⟨by rfl, ?_⟩) ?_ ?_
          rotate_left
          · intro w'
            go_simp
            with_reducible rfl
          rotate_left
          · simp only [Act.put, List.setIfInBounds_toArray, List.set_cons_zero, List.set_cons_succ, i64_w, i32_w]
            rfl
          refine done_ (done_of HT_.out q11x9_) ?_
          go_upto_region 14 with (first | ((with_reducible refine gate_callee (f := 35) rfl ?_); refine goesL_ (some 116) rfl rfl Try.func35 q11x9_ rfl #[.slice (some ad312) t303.length co57] rfl q7x9_ ?_; (with_reducible refine (handref1_ExactFault.calls kj23 _ _ t303 t320 _ ?side1 ?side2 A49.out).mono ?_); (case side1 => refine (Kd.R_reads' (e := 3) (base := w.heap.size) (ok := fun k_ => some k_ ≠ (.slice Ao54 y307.length co54 : Value).ownBlock) (n := t303.length) (c := co57) ?_).2.2; exact (by (with_reducible repeat (first | apply Kd.R_alloc | apply Kd.R_drewN | apply Kd.R_drew)); exact (Kd.R_mono (Kd.R_far (p := ⟨gb319, 1, none⟩) (Kd.R_far (p := ⟨gb319, 0, none⟩) (Kd.R_types HO305.out BK319.out (by decide)) (fun _ hk => hk.2) (.int .i64 t316)) (fun _ hk => hk.2) (.int .i64 t317)) (fun _ h_ => h_.1)))); (case side2 => exact (Kd.R_reads' HO305.out).2.1); rintro e w' ⟨rfl, ⟨nd, rfl⟩⟩; refine ⟨_, rfl, ?_⟩))
          (try simp only [Act.put, List.setIfInBounds_toArray, List.set_cons_zero, List.set_cons_succ])
          go_cut [140] (fun v140 wc => ∃ (kq : Nat) (x140_49 : Bool), v140 = .bool x140_49 ∧ Aside0 (handlaw1_TestsExact.j2 kq t303 t310 x140_49 l0 t311 = some r) ∧ Aside0 (kq ≤ kj23) ∧ Aside0 (Kd.R (Kd.int .i64) 3 wc w.heap.size (fun _ => True) (.slice (some ad312) t303.length co57) t303) ∧ Aside0 (wc.heap[gb299]? = some (.cells #[.int .i64 t296, .int .i64 t297] 28 (0, 0))) ∧ Aside0 (wc.heap[gb319]? = some (.cells #[.int .i64 t316, .int .i64 t317] 28 (0, 0))) ∧ Aside0 (IsS25 w wc gb283 l0 t311) ∧ Aside0 (Below w.heap.size w wc))
          case first =>
            have H := HC50.out
            clear HC50
            by_cases c63 : t318 = t320
            · rw [if_pos c63] at H
              have c63b0 : (t318 == t320) = true := beq_iff_eq.mpr c63
              have c63b1 : (t318 != t320) = false := bne_eq_false_iff_eq.mpr c63
              clear c63
              (first | rw [c63b0] | (simp only [i64_w, i32_w]; rw [c63b0]) | skip)
              by_cases c64 : t320 = 0
              · rw [if_pos c64] at H
                have c64b0 : (t320 == 0) = true := beq_iff_eq.mpr c64
                have c64b1 : (t320 != 0) = false := bne_eq_false_iff_eq.mpr c64
                clear c64
                replace H := Option.bind_eq_some_iff.mp H
                obtain ⟨⟨t325, t326⟩, A650, H⟩ := H
                replace H : (handlaw1_TestsExact.j2 kj23 t303 t310 (!(t316 == t325) || (!(t317 == t326))) l0 t311) = some r := H
                have A65 := Aside0.mk A650
                clear A650
                as_aux_lemma =>
                  have H' := Aside0.mk H
                  clear H
                  try go_wp2
                  have n0_ : Aside0 (Kd.R (Kd.int .i64) 3 ((w60.setCell ⟨gb319, 0, none⟩ (.int .i64 t316)).setCell ⟨gb319, 1, none⟩ (.int .i64 t317)) w.heap.size (fun k_ => some k_ ≠ (.slice Ao54 y307.length co54 : Value).ownBlock) (.slice (some ad312) t303.length co57) t303) := ⟨q28x9_⟩
                  have n1_ : Aside0 (Kd.R (Kd.int .i64) 3 ((w60.setCell ⟨gb319, 0, none⟩ (.int .i64 t316)).setCell ⟨gb319, 1, none⟩ (.int .i64 t317)) w.heap.size (fun k_ => some k_ ≠ (.slice (some ad312) t303.length co57 : Value).ownBlock) (.slice Ao54 y307.length co54) y307) := ⟨q29x9_⟩
                  have n2_ : Aside0 (((w60.setCell ⟨gb319, 0, none⟩ (.int .i64 t316)).setCell ⟨gb319, 1, none⟩ (.int .i64 t317)).heap[gb299]? = some (.cells #[.int .i64 t296, .int .i64 t297] 28 (0, 0))) := ⟨q22x9_⟩
                  have n3_ : Aside0 (((w60.setCell ⟨gb319, 0, none⟩ (.int .i64 t316)).setCell ⟨gb319, 1, none⟩ (.int .i64 t317)).heap[gb319]? = some (.cells #[.int .i64 t316, .int .i64 t317] 28 (0, 0))) := ⟨q16x9_⟩
                  have n4_ : Aside0 (IsS25 w ((w60.setCell ⟨gb319, 0, none⟩ (.int .i64 t316)).setCell ⟨gb319, 1, none⟩ (.int .i64 t317)) gb283 l0 t311) := ⟨q4x9_⟩
                  have n5_ : Aside0 (Below w.heap.size w ((w60.setCell ⟨gb319, 0, none⟩ (.int .i64 t316)).setCell ⟨gb319, 1, none⟩ (.int .i64 t317))) := ⟨q1x9_⟩
                  (try clear HO305); (try clear HO309); (try clear BK299); (try clear BK319); (try clear HI283); (try clear HB)
                  generalize ((w60.setCell ⟨gb319, 0, none⟩ (.int .i64 t316)).setCell ⟨gb319, 1, none⟩ (.int .i64 t317)) = w66 at n0_ n1_ n2_ n3_ n4_ n5_ ⊢
                  have HO305 := n0_; have HO309 := n1_; have BK299 := n2_; have BK319 := n3_; have HI283 := n4_; have HB := n5_; clear n0_ n1_ n2_ n3_ n4_ n5_
                  (try (rw [drewN_self w66]; generalize hq_ : World.drewN w66 _ = w66; have n0_ : Aside0 (Kd.R (Kd.int .i64) 3 w66 w.heap.size (fun k_ => some k_ ≠ (.slice Ao54 y307.length co54 : Value).ownBlock) (.slice (some ad312) t303.length co57) t303) := ⟨by rw [← hq_]; exact q13x9_⟩; have n1_ : Aside0 (Kd.R (Kd.int .i64) 3 w66 w.heap.size (fun k_ => some k_ ≠ (.slice (some ad312) t303.length co57 : Value).ownBlock) (.slice Ao54 y307.length co54) y307) := ⟨by rw [← hq_]; exact q18x9_⟩; have n2_ : Aside0 (w66.heap[gb299]? = some (.cells #[.int .i64 t296, .int .i64 t297] 28 (0, 0))) := ⟨q45x9_⟩; have n3_ : Aside0 (w66.heap[gb319]? = some (.cells #[.int .i64 t316, .int .i64 t317] 28 (0, 0))) := ⟨by rw [← hq_]; exact q5x9_⟩; have n4_ : Aside0 (IsS25 w w66 gb283 l0 t311) := ⟨by rw [← hq_]; exact q4x9_⟩; have n5_ : Aside0 (Below w.heap.size w w66) := ⟨by rw [← hq_]; exact q1x9_⟩; clear HO305 HO309 BK299 BK319 HI283 HB hq_; have HO305 := n0_; have HO309 := n1_; have BK299 := n2_; have BK319 := n3_; have HI283 := n4_; have HB := n5_; clear n0_ n1_ n2_ n3_ n4_ n5_))
                  have n0_ := Aside0.mk (Kd.R_drew HO305.out)
                  have n1_ := Aside0.mk (Kd.R_drew HO309.out)
                  have n2_ := Aside0.mk (blk_drew BK299.out)
                  have n3_ := Aside0.mk (blk_drew BK319.out)
                  have n4_ := Aside0.mk (IsS25.drew HI283.out)
                  have n5_ := Aside0.mk (below_drew1 HB.out)
                  clear HO305; clear HO309; clear BK299; clear BK319; clear HI283; clear HB; have HO305 := n0_; have HO309 := n1_; have BK299 := n2_; have BK319 := n3_; have HI283 := n4_; have HB := n5_; clear n0_ n1_ n2_ n3_ n4_ n5_
                  have p321 : 0 ≤ (0 : Int) := (by omega)
                  have q321 : 0 < (t303.length : Int) := of_decide_eq_true q24x9_
                  obtain ⟨ad321, e321, hx321_0⟩ := Kd.at_int (Kd.R_reads' HO305.out).2.2 0 p321 q321
                  obtain rfl : ad312 = ad321 := (by injection e321)
                  have qi321 : (0 < t303.length) = True := eq_true (by omega)
                  (try rw [show ((0 : Int)).toNat = 0 from rfl] at hx321_0)
                  (try rw [Addr.add_zero'] at hx321_0)
                  replace p321 := eq_true p321
                  replace q321 := eq_true q321
                  have p322 : 0 ≤ (1 : Int) := (by omega)
                  have q322 : 1 < (t303.length : Int) := of_decide_eq_true q24x9_
                  obtain ⟨ad322, e322, hx322_0⟩ := Kd.at_int (Kd.R_reads' HO305.out).2.2 1 p322 q322
                  obtain rfl : ad312 = ad322 := (by injection e322)
                  (try simp only [show (1 : Int).toNat = 1 from rfl, Nat.reduceMul, Nat.reduceEqDiff, Go.Addr.add, ↓reduceIte] at hx322_0)
                  have qi322 : (1 < t303.length) = True := eq_true (by omega)
                  (try rw [show ((1 : Int)).toNat = 1 from rfl] at hx322_0)
                  replace p322 := eq_true p322
                  replace q322 := eq_true q322
                  have p323 : 0 ≤ (2 : Int) := (by omega)
                  have q323 : 2 < (t303.length : Int) := of_decide_eq_true q24x9_
                  obtain ⟨ad323, e323, hx323_0⟩ := Kd.at_int (Kd.R_reads' HO305.out).2.2 2 p323 q323
                  obtain rfl : ad312 = ad323 := (by injection e323)
                  (try simp only [show (2 : Int).toNat = 2 from rfl, Nat.reduceMul, Nat.reduceEqDiff, Go.Addr.add, ↓reduceIte] at hx323_0)
                  have qi323 : (2 < t303.length) = True := eq_true (by omega)
                  (try rw [show ((2 : Int)).toNat = 2 from rfl] at hx323_0)
                  replace p323 := eq_true p323
                  replace q323 := eq_true q323
                  have p324 : 0 ≤ (3 : Int) := (by omega)
                  have q324 : 3 < (t303.length : Int) := of_decide_eq_true q24x9_
                  obtain ⟨ad324, e324, hx324_0⟩ := Kd.at_int (Kd.R_reads' HO305.out).2.2 3 p324 q324
                  obtain rfl : ad312 = ad324 := (by injection e324)
                  (try simp only [show (3 : Int).toNat = 3 from rfl, Nat.reduceMul, Nat.reduceEqDiff, Go.Addr.add, ↓reduceIte] at hx324_0)
                  have qi324 : (3 < t303.length) = True := eq_true (by omega)
                  (try rw [show ((3 : Int)).toNat = 3 from rfl] at hx324_0)
                  replace p324 := eq_true p324
                  replace q324 := eq_true q324
                  refine start_ (n := 24) (S := fun w' => w'.cell? ⟨gb319, 0, none⟩ = some (.int .i64 t316) ∧ w'.cell? ⟨gb319, 1, none⟩ = some (.int .i64 t317) ∧ w'.cell? ad312 = some (.int .i64 (rd t303 0)) ∧ w'.cell? ⟨ad312.block, ad312.off + 1, none⟩ = some (.int .i64 (rd t303 1)) ∧ w'.cell? ⟨ad312.block, ad312.off + 2, none⟩ = some (.int .i64 (rd t303 2)) ∧ w'.cell? ⟨ad312.block, ad312.off + 3, none⟩ = some (.int .i64 (rd t303 3))) (ds := []) #[false, false, false, false, false, false, false, false, false, false, false, false, false, false, false, false, false, false, false, false, false, false, false, false] q11x9_ rfl rfl ⟨(blk_cell BK319.out 0).trans rfl, (blk_cell BK319.out 1).trans rfl, hx321_0, hx322_0, hx323_0, hx324_0⟩ (fun hHeld => ?_); refine with_tabW handlaw1_TestsExact.tab14 handlaw1_TestsExact.bits14 (fun HT_ HW_ => ?_)
                  generalize w66.drew = w67 at HO305 HO309 BK299 BK319 HI283 HB hx321_0 hx322_0 hx323_0 hx324_0 hHeld ⊢
                  refine pure_ (i := 0) (N := some 117) (v := ?_) (a' := ?_) #[true, false, false, false, false, false, false, false, false, false, false, false, false, false, false, false, false, false, false, false, false, false, false, false] rfl rfl (any_of HT_.out q11x9_) (fun _ _ _ h => h) (Or.inl ⟨by rfl, ?_⟩) ?_ ?_
                  rotate_left
                  · intro w'
                    go_simp
                    with_reducible rfl
                  rotate_left
                  · simp only [Act.put, List.setIfInBounds_toArray, List.set_cons_zero, List.set_cons_succ, i64_w, i32_w]
                    rfl
                  refine pure_ (i := 1) (N := some 118) (v := ?_) (a' := ?_) #[true, true, false, false, false, false, false, false, false, false, false, false, false, false, false, false, false, false, false, false, false, false, false, false] rfl rfl (any_of HT_.out q11x9_) (fun _ _ _ h => h) (Or.inl ⟨by rfl, ?_⟩) ?_ ?_
                  rotate_left
                  · intro w'
                    go_simp
                    with_reducible rfl
                  rotate_left
                  · simp only [Act.put, List.setIfInBounds_toArray, List.set_cons_zero, List.set_cons_succ, i64_w, i32_w]
                    rfl
                  refine pure_ (i := 2) (N := some 119) (v := ?_) (a' := ?_) #[true, true, true, false, false, false, false, false, false, false, false, false, false, false, false, false, false, false, false, false, false, false, false, false] rfl rfl (any_of HT_.out q11x9_) (fun _ _ _ h => h) (Or.inl ⟨by rfl, ?_⟩) ?_ ?_
                  rotate_left
                  · intro w'
                    go_simp
                    with_reducible rfl
                  rotate_left
                  · simp only [Act.put, List.setIfInBounds_toArray, List.set_cons_zero, List.set_cons_succ, i64_w, i32_w]
                    rfl
                  refine pure_ (i := 3) (N := some 120) (v := ?_) (a' := ?_) #[true, true, true, true, false, false, false, false, false, false, false, false, false, false, false, false, false, false, false, false, false, false, false, false] rfl rfl (any_of HT_.out q11x9_) (fun _ _ _ h => h) (Or.inl ⟨by rfl, ?_⟩) ?_ ?_
                  rotate_left
                  · intro w'
                    go_simp
                    with_reducible rfl
                  rotate_left
                  · simp only [Act.put, List.setIfInBounds_toArray, List.set_cons_zero, List.set_cons_succ, i64_w, i32_w]
                    rfl
                  refine pure_ (i := 4) (N := some 121) (v := ?_) (a' := ?_) #[true, true, true, true, true, false, false, false, false, false, false, false, false, false, false, false, false, false, false, false, false, false, false, false] rfl rfl (any_of HT_.out q11x9_) (fun _ _ _ h => h) (Or.inl ⟨by rfl, ?_⟩) ?_ ?_
                  rotate_left
                  · intro w'
                    go_simp
                    with_reducible rfl
                  rotate_left
                  · simp only [Act.put, List.setIfInBounds_toArray, List.set_cons_zero, List.set_cons_succ, i64_w, i32_w]
                    rfl
                  refine pure_ (i := 5) (N := some 122) (v := ?_) (a' := ?_) #[true, true, true, true, true, true, false, false, false, false, false, false, false, false, false, false, false, false, false, false, false, false, false, false] rfl rfl (any_of HT_.out q11x9_) (fun _ _ _ h => h) (Or.inl ⟨by rfl, ?_⟩) ?_ ?_
                  rotate_left
                  · intro w'
                    go_simp
                    with_reducible rfl
                  rotate_left
                  · simp only [Act.put, List.setIfInBounds_toArray, List.set_cons_zero, List.set_cons_succ, i64_w, i32_w]
                    rfl
                  refine pure_ (i := 6) (N := some 123) (v := ?_) (a' := ?_) #[true, true, true, true, true, true, true, false, false, false, false, false, false, false, false, false, false, false, false, false, false, false, false, false] rfl rfl (any_of HT_.out q11x9_) (fun _ _ _ h => h) (Or.inl ⟨by rfl, ?_⟩) ?_ ?_
                  rotate_left
                  · intro w'
                    go_simp
                    with_reducible rfl
                  rotate_left
                  · simp only [Act.put, List.setIfInBounds_toArray, List.set_cons_zero, List.set_cons_succ, i64_w, i32_w]
                    rfl
                  refine pure_ (i := 8) (N := some 125) (v := ?_) (a' := ?_) #[true, true, true, true, true, true, true, false, true, false, false, false, false, false, false, false, false, false, false, false, false, false, false, false] rfl rfl (any_of HT_.out q11x9_) (fun _ _ _ h => h) (Or.inl ⟨by rfl, ?_⟩) ?_ ?_
                  rotate_left
                  · intro w'
                    go_simp
                    with_reducible rfl
                  rotate_left
                  · simp only [Act.put, List.setIfInBounds_toArray, List.set_cons_zero, List.set_cons_succ, i64_w, i32_w]
                    rfl
                  refine pure_ (i := 9) (N := some 126) (v := ?_) (a' := ?_) #[true, true, true, true, true, true, true, false, true, true, false, false, false, false, false, false, false, false, false, false, false, false, false, false] rfl rfl (any_of HT_.out q11x9_) (fun _ _ _ h => h) (Or.inl ⟨by rfl, ?_⟩) ?_ ?_
                  rotate_left
                  · intro w'
                    go_simp
                    with_reducible rfl
                  rotate_left
                  · simp only [Act.put, List.setIfInBounds_toArray, List.set_cons_zero, List.set_cons_succ, i64_w, i32_w]
                    rfl
                  refine pure_ (i := 11) (N := some 128) (v := ?_) (a' := ?_) #[true, true, true, true, true, true, true, false, true, true, false, true, false, false, false, false, false, false, false, false, false, false, false, false] rfl rfl (any_of HT_.out q11x9_) (fun _ _ _ h => h) (Or.inl ⟨by rfl, ?_⟩) ?_ ?_
                  rotate_left
                  · intro w'
                    go_simp
                    with_reducible rfl
                  rotate_left
                  · simp only [Act.put, List.setIfInBounds_toArray, List.set_cons_zero, List.set_cons_succ, i64_w, i32_w]
                    rfl
                  refine pure_ (i := 12) (N := some 129) (v := ?_) (a' := ?_) #[true, true, true, true, true, true, true, false, true, true, false, true, true, false, false, false, false, false, false, false, false, false, false, false] rfl rfl (any_of HT_.out q11x9_) (fun _ _ _ h => h) (Or.inl ⟨by rfl, ?_⟩) ?_ ?_
                  rotate_left
                  · intro w'
                    go_simp
                    with_reducible rfl
                  rotate_left
                  · simp only [Act.put, List.setIfInBounds_toArray, List.set_cons_zero, List.set_cons_succ, i64_w, i32_w]
                    rfl
                  refine pure_ (i := 14) (N := some 131) (v := ?_) (a' := ?_) #[true, true, true, true, true, true, true, false, true, true, false, true, true, false, true, false, false, false, false, false, false, false, false, false] rfl rfl (any_of HT_.out q11x9_) (fun _ _ _ h => h) (Or.inl ⟨by rfl, ?_⟩) ?_ ?_
                  rotate_left
                  · intro w'
                    go_simp
                    with_reducible rfl
                  rotate_left
                  · simp only [Act.put, List.setIfInBounds_toArray, List.set_cons_zero, List.set_cons_succ, i64_w, i32_w]
                    rfl
                  refine pure_ (i := 15) (N := some 132) (v := ?_) (a' := ?_) #[true, true, true, true, true, true, true, false, true, true, false, true, true, false, true, true, false, false, false, false, false, false, false, false] rfl rfl (any_of HT_.out q11x9_) (fun _ _ _ h => h) (Or.inl ⟨by rfl, ?_⟩) ?_ ?_
                  rotate_left
                  · intro w'
                    go_simp
                    with_reducible rfl
                  rotate_left
                  · simp only [Act.put, List.setIfInBounds_toArray, List.set_cons_zero, List.set_cons_succ, i64_w, i32_w]
                    rfl
                  refine pure_ (i := 17) (N := some 134) (v := ?_) (a' := ?_) #[true, true, true, true, true, true, true, false, true, true, false, true, true, false, true, true, false, true, false, false, false, false, false, false] rfl rfl (any_of HT_.out q11x9_) (fun _ _ _ h => h) (Or.inl ⟨by rfl, ?_⟩) ?_ ?_
                  rotate_left
                  · intro w'
                    go_simp
                    with_reducible rfl
                  rotate_left
                  · simp only [Act.put, List.setIfInBounds_toArray, List.set_cons_zero, List.set_cons_succ, i64_w, i32_w]
                    rfl
                  refine pure_ (i := 18) (N := some 135) (v := ?_) (a' := ?_) #[true, true, true, true, true, true, true, false, true, true, false, true, true, false, true, true, false, true, true, false, false, false, false, false] rfl rfl (any_of HT_.out q11x9_) (fun _ _ _ h => h) (Or.inl ⟨by rfl, ?_⟩) ?_ ?_
                  rotate_left
                  · intro w'
                    go_simp
                    with_reducible rfl
                  rotate_left
                  · simp only [Act.put, List.setIfInBounds_toArray, List.set_cons_zero, List.set_cons_succ, i64_w, i32_w]
                    rfl
                  refine take_ (i := 7) (N := some 124) (v := ?_) (a' := ?_) #[true, true, true, true, true, true, true, true, true, true, false, true, true, false, true, true, false, true, true, false, false, false, false, false] rfl rfl (take_ofW HT_.out HW_.out q11x9_) (fun _ _ _ h => h) (Or.inl ⟨by rfl, ?_⟩) hHeld ?_ ?_
                  rotate_left
                  · rintro w' ⟨s0, s1, s2, s3, s4, s5⟩
                    go_simp
                    with_reducible rfl
                  rotate_left
                  · simp only [Act.put, List.setIfInBounds_toArray, List.set_cons_zero, List.set_cons_succ, i64_w, i32_w]
                    rfl
                  refine take_ (i := 10) (N := some 127) (v := ?_) (a' := ?_) #[true, true, true, true, true, true, true, true, true, true, true, true, true, false, true, true, false, true, true, false, false, false, false, false] rfl rfl (take_ofW HT_.out HW_.out q11x9_) (fun _ _ _ h => h) (Or.inl ⟨by rfl, ?_⟩) hHeld ?_ ?_
                  rotate_left
                  · rintro w' ⟨s0, s1, s2, s3, s4, s5⟩
                    go_simp
                    with_reducible rfl
                  rotate_left
                  · simp only [Act.put, List.setIfInBounds_toArray, List.set_cons_zero, List.set_cons_succ, i64_w, i32_w]
                    rfl
                  refine take_ (i := 13) (N := some 130) (v := ?_) (a' := ?_) #[true, true, true, true, true, true, true, true, true, true, true, true, true, true, true, true, false, true, true, false, false, false, false, false] rfl rfl (take_ofW HT_.out HW_.out q11x9_) (fun _ _ _ h => h) (Or.inl ⟨by rfl, ?_⟩) hHeld ?_ ?_
                  rotate_left
                  · rintro w' ⟨s0, s1, s2, s3, s4, s5⟩
                    go_simp
                    with_reducible rfl
                  rotate_left
                  · simp only [Act.put, List.setIfInBounds_toArray, List.set_cons_zero, List.set_cons_succ, i64_w, i32_w]
                    rfl
                  refine take_ (i := 16) (N := some 133) (v := ?_) (a' := ?_) #[true, true, true, true, true, true, true, true, true, true, true, true, true, true, true, true, true, true, true, false, false, false, false, false] rfl rfl (take_ofW HT_.out HW_.out q11x9_) (fun _ _ _ h => h) (Or.inl ⟨by rfl, ?_⟩) hHeld ?_ ?_
                  rotate_left
                  · rintro w' ⟨s0, s1, s2, s3, s4, s5⟩
                    go_simp
                    with_reducible rfl
                  rotate_left
                  · simp only [Act.put, List.setIfInBounds_toArray, List.set_cons_zero, List.set_cons_succ, i64_w, i32_w]
                    rfl
                  refine take_ (i := 19) (N := some 136) (v := ?_) (a' := ?_) #[true, true, true, true, true, true, true, true, true, true, true, true, true, true, true, true, true, true, true, true, false, false, false, false] rfl rfl (take_ofW HT_.out HW_.out q11x9_) (fun _ _ _ h => h) (Or.inl ⟨by rfl, ?_⟩) hHeld ?_ ?_
                  rotate_left
                  · rintro w' ⟨s0, s1, s2, s3, s4, s5⟩
                    go_simp
                    with_reducible rfl
                  rotate_left
                  · simp only [Act.put, List.setIfInBounds_toArray, List.set_cons_zero, List.set_cons_succ, i64_w, i32_w]
                    rfl
                  refine one_ (i := 20) (N := some 137) #[true, true, true, true, true, true, true, true, true, true, true, true, true, true, true, true, true, true, true, true, true, false, false, false] rfl rfl (one_of HT_.out q11x9_) (by decide) (fun K hK => ?_)
                  refine goes_ Try.func36 q11x9_ rfl #[.int .i64 (rd t303 0), .int .i64 (rd t303 1), .int .i64 (rd t303 2), .int .i64 (rd t303 3)] (by rfl) rfl rfl q7x9_ ?_
                  with_reducible refine (handref1_ExactOf.calls kj23 (rd t303 0) (rd t303 1) (rd t303 2) (rd t303 3) t325 t326 _ A65.out).mono ?_
                  rintro e w68 ⟨rfl, hb⟩
                  have HS2_ := (hb.cell (World.block_lt_of_cell? _ _ (hHeld.2.2.1))).trans (hHeld.2.2.1)
                  have HS3_ := (hb.cell (World.block_lt_of_cell? _ _ (hHeld.2.2.2.1))).trans (hHeld.2.2.2.1)
                  have HS4_ := (hb.cell (World.block_lt_of_cell? _ _ (hHeld.2.2.2.2.1))).trans (hHeld.2.2.2.2.1)
                  have HS5_ := (hb.cell (World.block_lt_of_cell? _ _ (hHeld.2.2.2.2.2))).trans (hHeld.2.2.2.2.2)
                  refine ⟨_, rfl, ?_⟩
                  have n0_ := Aside0.mk (Kd.R_below q13x9_ hb)
                  have n1_ := Aside0.mk (Kd.R_below q18x9_ hb)
                  have n2_ := Aside0.mk (blk_below (g := gb299) (o := .cells #[.int .i64 t296, .int .i64 t297] 28 (0, 0)) q3x9_ hb)
                  have n3_ := Aside0.mk (IsS25.below q4x9_ hb)
                  have n4_ := Aside0.mk (blk_below (g := gb319) (o := .cells #[.int .i64 t316, .int .i64 t317] 28 (0, 0)) q5x9_ hb)
                  have n5_ := Aside0.mk (below_step q1x9_ hb)
                  clear HO305; clear HO309; clear BK299; clear HI283; clear BK319; clear HB; have HO305 := n0_; have HO309 := n1_; have BK299 := n2_; have HI283 := n3_; have BK319 := n4_; have HB := n5_; clear n0_ n1_ n2_ n3_ n4_ n5_; (try clear hb); (try clear hb2); (try clear hk); (try clear hi)
                  refine hK.out _ _ ⟨(blk_cell BK319.out 0).trans rfl, (blk_cell BK319.out 1).trans rfl, HS2_, HS3_, HS4_, HS5_⟩ (fun hHeld => ?_)
                  clear hK K
                  refine norm_ (a' := ?_) ?_ ?_
                  rotate_left
                  · show Act.put _ (some 137) _ = _
                    simp only [Act.put, List.setIfInBounds_toArray, List.set_cons_zero, List.set_cons_succ, i64_w, i32_w]
                    rfl
                  refine pure_ (i := 21) (N := some 138) (v := ?_) (a' := ?_) #[true, true, true, true, true, true, true, true, true, true, true, true, true, true, true, true, true, true, true, true, true, true, false, false] rfl rfl (any_of HT_.out q11x9_) (fun _ _ _ h => h) (Or.inl ⟨by rfl, ?_⟩) ?_ ?_
                  rotate_left
                  · intro w'
                    go_simp
                    with_reducible rfl
                  rotate_left
                  · simp only [Act.put, List.setIfInBounds_toArray, List.set_cons_zero, List.set_cons_succ, i64_w, i32_w]
                    rfl
                  refine pure_ (i := 22) (N := some 139) (v := ?_) (a' := ?_) #[true, true, true, true, true, true, true, true, true, true, true, true, true, true, true, true, true, true, true, true, true, true, true, false] rfl rfl (any_of HT_.out q11x9_) (fun _ _ _ h => h) (Or.inl ⟨by rfl, ?_⟩) ?_ ?_
                  rotate_left
                  · intro w'
                    go_simp
                    with_reducible rfl
                  rotate_left
                  · simp only [Act.put, List.setIfInBounds_toArray, List.set_cons_zero, List.set_cons_succ, i64_w, i32_w]
                    rfl
                  refine pure_ (i := 23) (N := some 140) (v := ?_) (a' := ?_) #[true, true, true, true, true, true, true, true, true, true, true, true, true, true, true, true, true, true, true, true, true, true, true, true] rfl rfl (any_of HT_.out q11x9_) (fun _ _ _ h => h) (Or.inl ⟨by rfl, ?_⟩) ?_ ?_
                  rotate_left
                  · intro w'
                    go_simp
                    with_reducible rfl
                  rotate_left
                  · simp only [Act.put, List.setIfInBounds_toArray, List.set_cons_zero, List.set_cons_succ, i64_w, i32_w]
                    rfl
                  refine done_ (done_of HT_.out q11x9_) ?_
                  try go_wp2
                  go_meet
                  case rel => exact ⟨_, ((!(t316 == t325) || (!(t317 == t326)))), q34x9_, H', ⟨q42x9_⟩, ⟨q37x9_⟩, ⟨q3x9_⟩, ⟨q5x9_⟩, ⟨q4x9_⟩, ⟨q1x9_⟩⟩
              rw [if_neg c64] at H
              have c64b0 : (t320 == 0) = false := beq_eq_false_iff_ne.mpr c64
              have c64b1 : (t320 != 0) = true := bne_iff_ne.mpr c64
              as_aux_lemma =>
                have H' := Aside0.mk H
                clear H
                try go_wp2
                have n0_ : Aside0 (Kd.R (Kd.int .i64) 3 ((w60.setCell ⟨gb319, 0, none⟩ (.int .i64 t316)).setCell ⟨gb319, 1, none⟩ (.int .i64 t317)) w.heap.size (fun k_ => some k_ ≠ (.slice Ao54 y307.length co54 : Value).ownBlock) (.slice (some ad312) t303.length co57) t303) := ⟨q28x9_⟩
                have n1_ : Aside0 (Kd.R (Kd.int .i64) 3 ((w60.setCell ⟨gb319, 0, none⟩ (.int .i64 t316)).setCell ⟨gb319, 1, none⟩ (.int .i64 t317)) w.heap.size (fun k_ => some k_ ≠ (.slice (some ad312) t303.length co57 : Value).ownBlock) (.slice Ao54 y307.length co54) y307) := ⟨q29x9_⟩
                have n2_ : Aside0 (((w60.setCell ⟨gb319, 0, none⟩ (.int .i64 t316)).setCell ⟨gb319, 1, none⟩ (.int .i64 t317)).heap[gb299]? = some (.cells #[.int .i64 t296, .int .i64 t297] 28 (0, 0))) := ⟨q22x9_⟩
                have n3_ : Aside0 (((w60.setCell ⟨gb319, 0, none⟩ (.int .i64 t316)).setCell ⟨gb319, 1, none⟩ (.int .i64 t317)).heap[gb319]? = some (.cells #[.int .i64 t316, .int .i64 t317] 28 (0, 0))) := ⟨q16x9_⟩
                have n4_ : Aside0 (IsS25 w ((w60.setCell ⟨gb319, 0, none⟩ (.int .i64 t316)).setCell ⟨gb319, 1, none⟩ (.int .i64 t317)) gb283 l0 t311) := ⟨q4x9_⟩
                have n5_ : Aside0 (Below w.heap.size w ((w60.setCell ⟨gb319, 0, none⟩ (.int .i64 t316)).setCell ⟨gb319, 1, none⟩ (.int .i64 t317))) := ⟨q1x9_⟩
                (try clear HO305); (try clear HO309); (try clear BK299); (try clear BK319); (try clear HI283); (try clear HB)
                generalize ((w60.setCell ⟨gb319, 0, none⟩ (.int .i64 t316)).setCell ⟨gb319, 1, none⟩ (.int .i64 t317)) = w69 at n0_ n1_ n2_ n3_ n4_ n5_ ⊢
                have HO305 := n0_; have HO309 := n1_; have BK299 := n2_; have BK319 := n3_; have HI283 := n4_; have HB := n5_; clear n0_ n1_ n2_ n3_ n4_ n5_
                (try (rw [drewN_self w69]; generalize hq_ : World.drewN w69 _ = w69; have n0_ : Aside0 (Kd.R (Kd.int .i64) 3 w69 w.heap.size (fun k_ => some k_ ≠ (.slice Ao54 y307.length co54 : Value).ownBlock) (.slice (some ad312) t303.length co57) t303) := ⟨by rw [← hq_]; exact q13x9_⟩; have n1_ : Aside0 (Kd.R (Kd.int .i64) 3 w69 w.heap.size (fun k_ => some k_ ≠ (.slice (some ad312) t303.length co57 : Value).ownBlock) (.slice Ao54 y307.length co54) y307) := ⟨by rw [← hq_]; exact q18x9_⟩; have n2_ : Aside0 (w69.heap[gb299]? = some (.cells #[.int .i64 t296, .int .i64 t297] 28 (0, 0))) := ⟨q45x9_⟩; have n3_ : Aside0 (w69.heap[gb319]? = some (.cells #[.int .i64 t316, .int .i64 t317] 28 (0, 0))) := ⟨by rw [← hq_]; exact q5x9_⟩; have n4_ : Aside0 (IsS25 w w69 gb283 l0 t311) := ⟨by rw [← hq_]; exact q4x9_⟩; have n5_ : Aside0 (Below w.heap.size w w69) := ⟨by rw [← hq_]; exact q1x9_⟩; clear HO305 HO309 BK299 BK319 HI283 HB hq_; have HO305 := n0_; have HO309 := n1_; have BK299 := n2_; have BK319 := n3_; have HI283 := n4_; have HB := n5_; clear n0_ n1_ n2_ n3_ n4_ n5_))
                have n0_ := Aside0.mk (Kd.R_drew HO305.out)
                have n1_ := Aside0.mk (Kd.R_drew HO309.out)
                have n2_ := Aside0.mk (blk_drew BK299.out)
                have n3_ := Aside0.mk (blk_drew BK319.out)
                have n4_ := Aside0.mk (IsS25.drew HI283.out)
                have n5_ := Aside0.mk (below_drew1 HB.out)
                clear HO305; clear HO309; clear BK299; clear BK319; clear HI283; clear HB; have HO305 := n0_; have HO309 := n1_; have BK299 := n2_; have BK319 := n3_; have HI283 := n4_; have HB := n5_; clear n0_ n1_ n2_ n3_ n4_ n5_
                refine start_ (n := 24) (S := fun w' => True) (ds := []) #[false, false, false, false, false, false, false, false, false, false, false, false, false, false, false, false, false, false, false, false, false, false, false, false] q11x9_ rfl rfl trivial (fun hHeld => ?_); refine with_tabW handlaw1_TestsExact.tab14 handlaw1_TestsExact.bits14 (fun HT_ HW_ => ?_)
                generalize w69.drew = w70 at HO305 HO309 BK299 BK319 HI283 HB hHeld ⊢
                refine pure_ (i := 0) (N := some 117) (v := ?_) (a' := ?_) #[true, false, false, false, false, false, false, false, false, false, false, false, false, false, false, false, false, false, false, false, false, false, false, false] rfl rfl (any_of HT_.out q11x9_) (fun _ _ _ h => h) (Or.inl ⟨by rfl, ?_⟩) ?_ ?_
                rotate_left
                · intro w'
                  go_simp
                  with_reducible rfl
                rotate_left
                · simp only [Act.put, List.setIfInBounds_toArray, List.set_cons_zero, List.set_cons_succ, i64_w, i32_w]
                  rfl
                refine pure_ (i := 1) (N := some 118) (v := ?_) (a' := ?_) #[true, true, false, false, false, false, false, false, false, false, false, false, false, false, false, false, false, false, false, false, false, false, false, false] rfl rfl (any_of HT_.out q11x9_) (fun _ _ _ h => h) (Or.inl ⟨by rfl, ?_⟩) ?_ ?_
                rotate_left
                · intro w'
                  go_simp
                  with_reducible rfl
                rotate_left
                · simp only [Act.put, List.setIfInBounds_toArray, List.set_cons_zero, List.set_cons_succ, i64_w, i32_w]
                  rfl
                refine pure_ (i := 2) (N := some 119) (v := ?_) (a' := ?_) #[true, true, true, false, false, false, false, false, false, false, false, false, false, false, false, false, false, false, false, false, false, false, false, false] rfl rfl (any_of HT_.out q11x9_) (fun _ _ _ h => h) (Or.inl ⟨by rfl, ?_⟩) ?_ ?_
                rotate_left
                · intro w'
                  go_simp
                  with_reducible rfl
                rotate_left
                · simp only [Act.put, List.setIfInBounds_toArray, List.set_cons_zero, List.set_cons_succ, i64_w, i32_w]
                  rfl
                refine pure_ (i := 3) (N := some 120) (v := ?_) (a' := ?_) #[true, true, true, true, false, false, false, false, false, false, false, false, false, false, false, false, false, false, false, false, false, false, false, false] rfl rfl (any_of HT_.out q11x9_) (fun _ _ _ h => h) (Or.inl ⟨by rfl, ?_⟩) ?_ ?_
                rotate_left
                · intro w'
                  go_simp
                  with_reducible rfl
                rotate_left
                · simp only [Act.put, List.setIfInBounds_toArray, List.set_cons_zero, List.set_cons_succ, i64_w, i32_w]
                  rfl
                refine pure_ (i := 4) (N := some 121) (v := ?_) (a' := ?_) #[true, true, true, true, true, false, false, false, false, false, false, false, false, false, false, false, false, false, false, false, false, false, false, false] rfl rfl (any_of HT_.out q11x9_) (fun _ _ _ h => h) (Or.inl ⟨by rfl, ?_⟩) ?_ ?_
                rotate_left
                · intro w'
                  go_simp
                  with_reducible rfl
                rotate_left
                · simp only [Act.put, List.setIfInBounds_toArray, List.set_cons_zero, List.set_cons_succ, i64_w, i32_w]
                  rfl
                refine pure_ (i := 5) (N := some 122) (v := ?_) (a' := ?_) #[true, true, true, true, true, true, false, false, false, false, false, false, false, false, false, false, false, false, false, false, false, false, false, false] rfl rfl (any_of HT_.out q11x9_) (fun _ _ _ h => h) (Or.inl ⟨by rfl, ?_⟩) ?_ ?_
                rotate_left
                · intro w'
                  go_simp
                  with_reducible rfl
                rotate_left
                · simp only [Act.put, List.setIfInBounds_toArray, List.set_cons_zero, List.set_cons_succ, i64_w, i32_w]
                  rfl
                refine pure_ (i := 6) (N := some 123) (v := ?_) (a' := ?_) #[true, true, true, true, true, true, true, false, false, false, false, false, false, false, false, false, false, false, false, false, false, false, false, false] rfl rfl (any_of HT_.out q11x9_) (fun _ _ _ h => h) (Or.inl ⟨by rfl, ?_⟩) ?_ ?_
                rotate_left
                · intro w'
                  go_simp
                  with_reducible rfl
                rotate_left
                · simp only [Act.put, List.setIfInBounds_toArray, List.set_cons_zero, List.set_cons_succ, i64_w, i32_w]
                  rfl
                refine pure_ (i := 7) (N := some 124) (v := undef) (a' := ?_) #[true, true, true, true, true, true, true, true, false, false, false, false, false, false, false, false, false, false, false, false, false, false, false, false] rfl rfl (any_of HT_.out q11x9_) (fun _ _ _ h => h) (Or.inr ⟨by rfl, rfl⟩) ?_ ?_
                rotate_left
                · simp only [Act.put, List.setIfInBounds_toArray, List.set_cons_zero, List.set_cons_succ, i64_w, i32_w]
                  rfl
                refine pure_ (i := 8) (N := some 125) (v := undef) (a' := ?_) #[true, true, true, true, true, true, true, true, true, false, false, false, false, false, false, false, false, false, false, false, false, false, false, false] rfl rfl (any_of HT_.out q11x9_) (fun _ _ _ h => h) (Or.inr ⟨by rfl, rfl⟩) ?_ ?_
                rotate_left
                · simp only [Act.put, List.setIfInBounds_toArray, List.set_cons_zero, List.set_cons_succ, i64_w, i32_w]
                  rfl
                refine pure_ (i := 9) (N := some 126) (v := undef) (a' := ?_) #[true, true, true, true, true, true, true, true, true, true, false, false, false, false, false, false, false, false, false, false, false, false, false, false] rfl rfl (any_of HT_.out q11x9_) (fun _ _ _ h => h) (Or.inr ⟨by rfl, rfl⟩) ?_ ?_
                rotate_left
                · simp only [Act.put, List.setIfInBounds_toArray, List.set_cons_zero, List.set_cons_succ, i64_w, i32_w]
                  rfl
                refine pure_ (i := 10) (N := some 127) (v := undef) (a' := ?_) #[true, true, true, true, true, true, true, true, true, true, true, false, false, false, false, false, false, false, false, false, false, false, false, false] rfl rfl (any_of HT_.out q11x9_) (fun _ _ _ h => h) (Or.inr ⟨by rfl, rfl⟩) ?_ ?_
                rotate_left
                · simp only [Act.put, List.setIfInBounds_toArray, List.set_cons_zero, List.set_cons_succ, i64_w, i32_w]
                  rfl
                refine pure_ (i := 11) (N := some 128) (v := undef) (a' := ?_) #[true, true, true, true, true, true, true, true, true, true, true, true, false, false, false, false, false, false, false, false, false, false, false, false] rfl rfl (any_of HT_.out q11x9_) (fun _ _ _ h => h) (Or.inr ⟨by rfl, rfl⟩) ?_ ?_
                rotate_left
                · simp only [Act.put, List.setIfInBounds_toArray, List.set_cons_zero, List.set_cons_succ, i64_w, i32_w]
                  rfl
                refine pure_ (i := 12) (N := some 129) (v := undef) (a' := ?_) #[true, true, true, true, true, true, true, true, true, true, true, true, true, false, false, false, false, false, false, false, false, false, false, false] rfl rfl (any_of HT_.out q11x9_) (fun _ _ _ h => h) (Or.inr ⟨by rfl, rfl⟩) ?_ ?_
                rotate_left
                · simp only [Act.put, List.setIfInBounds_toArray, List.set_cons_zero, List.set_cons_succ, i64_w, i32_w]
                  rfl
                refine pure_ (i := 13) (N := some 130) (v := undef) (a' := ?_) #[true, true, true, true, true, true, true, true, true, true, true, true, true, true, false, false, false, false, false, false, false, false, false, false] rfl rfl (any_of HT_.out q11x9_) (fun _ _ _ h => h) (Or.inr ⟨by rfl, rfl⟩) ?_ ?_
                rotate_left
                · simp only [Act.put, List.setIfInBounds_toArray, List.set_cons_zero, List.set_cons_succ, i64_w, i32_w]
                  rfl
                refine pure_ (i := 14) (N := some 131) (v := undef) (a' := ?_) #[true, true, true, true, true, true, true, true, true, true, true, true, true, true, true, false, false, false, false, false, false, false, false, false] rfl rfl (any_of HT_.out q11x9_) (fun _ _ _ h => h) (Or.inr ⟨by rfl, rfl⟩) ?_ ?_
                rotate_left
                · simp only [Act.put, List.setIfInBounds_toArray, List.set_cons_zero, List.set_cons_succ, i64_w, i32_w]
                  rfl
                refine pure_ (i := 15) (N := some 132) (v := undef) (a' := ?_) #[true, true, true, true, true, true, true, true, true, true, true, true, true, true, true, true, false, false, false, false, false, false, false, false] rfl rfl (any_of HT_.out q11x9_) (fun _ _ _ h => h) (Or.inr ⟨by rfl, rfl⟩) ?_ ?_
                rotate_left
                · simp only [Act.put, List.setIfInBounds_toArray, List.set_cons_zero, List.set_cons_succ, i64_w, i32_w]
                  rfl
                refine pure_ (i := 16) (N := some 133) (v := undef) (a' := ?_) #[true, true, true, true, true, true, true, true, true, true, true, true, true, true, true, true, true, false, false, false, false, false, false, false] rfl rfl (any_of HT_.out q11x9_) (fun _ _ _ h => h) (Or.inr ⟨by rfl, rfl⟩) ?_ ?_
                rotate_left
                · simp only [Act.put, List.setIfInBounds_toArray, List.set_cons_zero, List.set_cons_succ, i64_w, i32_w]
                  rfl
                refine pure_ (i := 17) (N := some 134) (v := undef) (a' := ?_) #[true, true, true, true, true, true, true, true, true, true, true, true, true, true, true, true, true, true, false, false, false, false, false, false] rfl rfl (any_of HT_.out q11x9_) (fun _ _ _ h => h) (Or.inr ⟨by rfl, rfl⟩) ?_ ?_
                rotate_left
                · simp only [Act.put, List.setIfInBounds_toArray, List.set_cons_zero, List.set_cons_succ, i64_w, i32_w]
                  rfl
                refine pure_ (i := 18) (N := some 135) (v := undef) (a' := ?_) #[true, true, true, true, true, true, true, true, true, true, true, true, true, true, true, true, true, true, true, false, false, false, false, false] rfl rfl (any_of HT_.out q11x9_) (fun _ _ _ h => h) (Or.inr ⟨by rfl, rfl⟩) ?_ ?_
                rotate_left
                · simp only [Act.put, List.setIfInBounds_toArray, List.set_cons_zero, List.set_cons_succ, i64_w, i32_w]
                  rfl
                refine pure_ (i := 19) (N := some 136) (v := undef) (a' := ?_) #[true, true, true, true, true, true, true, true, true, true, true, true, true, true, true, true, true, true, true, true, false, false, false, false] rfl rfl (any_of HT_.out q11x9_) (fun _ _ _ h => h) (Or.inr ⟨by rfl, rfl⟩) ?_ ?_
                rotate_left
                · simp only [Act.put, List.setIfInBounds_toArray, List.set_cons_zero, List.set_cons_succ, i64_w, i32_w]
                  rfl
                refine pure_ (i := 20) (N := some 137) (v := undef) (a' := ?_) #[true, true, true, true, true, true, true, true, true, true, true, true, true, true, true, true, true, true, true, true, true, false, false, false] rfl rfl (any_of HT_.out q11x9_) (fun _ _ _ h => h) (Or.inr ⟨by rfl, rfl⟩) ?_ ?_
                rotate_left
                · simp only [Act.put, List.setIfInBounds_toArray, List.set_cons_zero, List.set_cons_succ, i64_w, i32_w]
                  rfl
                refine pure_ (i := 21) (N := some 138) (v := undef) (a' := ?_) #[true, true, true, true, true, true, true, true, true, true, true, true, true, true, true, true, true, true, true, true, true, true, false, false] rfl rfl (any_of HT_.out q11x9_) (fun _ _ _ h => h) (Or.inr ⟨by rfl, rfl⟩) ?_ ?_
                rotate_left
                · simp only [Act.put, List.setIfInBounds_toArray, List.set_cons_zero, List.set_cons_succ, i64_w, i32_w]
                  rfl
                refine pure_ (i := 22) (N := some 139) (v := ?_) (a' := ?_) #[true, true, true, true, true, true, true, true, true, true, true, true, true, true, true, true, true, true, true, true, true, true, true, false] rfl rfl (any_of HT_.out q11x9_) (fun _ _ _ h => h) (Or.inl ⟨by rfl, ?_⟩) ?_ ?_
                rotate_left
                · intro w'
                  go_simp
                  with_reducible rfl
                rotate_left
                · simp only [Act.put, List.setIfInBounds_toArray, List.set_cons_zero, List.set_cons_succ, i64_w, i32_w]
                  rfl
                refine pure_ (i := 23) (N := some 140) (v := ?_) (a' := ?_) #[true, true, true, true, true, true, true, true, true, true, true, true, true, true, true, true, true, true, true, true, true, true, true, true] rfl rfl (any_of HT_.out q11x9_) (fun _ _ _ h => h) (Or.inl ⟨by rfl, ?_⟩) ?_ ?_
                rotate_left
                · intro w'
                  go_simp
                  with_reducible rfl
                rotate_left
                · simp only [Act.put, List.setIfInBounds_toArray, List.set_cons_zero, List.set_cons_succ, i64_w, i32_w]
                  rfl
                refine done_ (done_of HT_.out q11x9_) ?_
                try go_wp2
                go_meet
                case rel => exact ⟨_, (false), q34x9_, H', ⟨q42x9_⟩, ⟨q37x9_⟩, ⟨q3x9_⟩, ⟨q5x9_⟩, ⟨q4x9_⟩, ⟨q1x9_⟩⟩
            rw [if_neg c63] at H
            have c63b0 : (t318 == t320) = false := beq_eq_false_iff_ne.mpr c63
            have c63b1 : (t318 != t320) = true := bne_iff_ne.mpr c63
            (first | rw [c63b0] | (simp only [i64_w, i32_w]; rw [c63b0]) | skip)
            as_aux_lemma =>
              have H' := Aside0.mk H
              clear H
              try go_wp2
              have n0_ : Aside0 (Kd.R (Kd.int .i64) 3 ((w60.setCell ⟨gb319, 0, none⟩ (.int .i64 t316)).setCell ⟨gb319, 1, none⟩ (.int .i64 t317)) w.heap.size (fun k_ => some k_ ≠ (.slice Ao54 y307.length co54 : Value).ownBlock) (.slice (some ad312) t303.length co57) t303) := ⟨q28x9_⟩
              have n1_ : Aside0 (Kd.R (Kd.int .i64) 3 ((w60.setCell ⟨gb319, 0, none⟩ (.int .i64 t316)).setCell ⟨gb319, 1, none⟩ (.int .i64 t317)) w.heap.size (fun k_ => some k_ ≠ (.slice (some ad312) t303.length co57 : Value).ownBlock) (.slice Ao54 y307.length co54) y307) := ⟨q29x9_⟩
              have n2_ : Aside0 (((w60.setCell ⟨gb319, 0, none⟩ (.int .i64 t316)).setCell ⟨gb319, 1, none⟩ (.int .i64 t317)).heap[gb299]? = some (.cells #[.int .i64 t296, .int .i64 t297] 28 (0, 0))) := ⟨q22x9_⟩
              have n3_ : Aside0 (((w60.setCell ⟨gb319, 0, none⟩ (.int .i64 t316)).setCell ⟨gb319, 1, none⟩ (.int .i64 t317)).heap[gb319]? = some (.cells #[.int .i64 t316, .int .i64 t317] 28 (0, 0))) := ⟨q16x9_⟩
              have n4_ : Aside0 (IsS25 w ((w60.setCell ⟨gb319, 0, none⟩ (.int .i64 t316)).setCell ⟨gb319, 1, none⟩ (.int .i64 t317)) gb283 l0 t311) := ⟨q4x9_⟩
              have n5_ : Aside0 (Below w.heap.size w ((w60.setCell ⟨gb319, 0, none⟩ (.int .i64 t316)).setCell ⟨gb319, 1, none⟩ (.int .i64 t317))) := ⟨q1x9_⟩
              (try clear HO305); (try clear HO309); (try clear BK299); (try clear BK319); (try clear HI283); (try clear HB)
              generalize ((w60.setCell ⟨gb319, 0, none⟩ (.int .i64 t316)).setCell ⟨gb319, 1, none⟩ (.int .i64 t317)) = w71 at n0_ n1_ n2_ n3_ n4_ n5_ ⊢
              have HO305 := n0_; have HO309 := n1_; have BK299 := n2_; have BK319 := n3_; have HI283 := n4_; have HB := n5_; clear n0_ n1_ n2_ n3_ n4_ n5_
              (try (rw [drewN_self w71]; generalize hq_ : World.drewN w71 _ = w71; have n0_ : Aside0 (Kd.R (Kd.int .i64) 3 w71 w.heap.size (fun k_ => some k_ ≠ (.slice Ao54 y307.length co54 : Value).ownBlock) (.slice (some ad312) t303.length co57) t303) := ⟨by rw [← hq_]; exact q13x9_⟩; have n1_ : Aside0 (Kd.R (Kd.int .i64) 3 w71 w.heap.size (fun k_ => some k_ ≠ (.slice (some ad312) t303.length co57 : Value).ownBlock) (.slice Ao54 y307.length co54) y307) := ⟨by rw [← hq_]; exact q18x9_⟩; have n2_ : Aside0 (w71.heap[gb299]? = some (.cells #[.int .i64 t296, .int .i64 t297] 28 (0, 0))) := ⟨q45x9_⟩; have n3_ : Aside0 (w71.heap[gb319]? = some (.cells #[.int .i64 t316, .int .i64 t317] 28 (0, 0))) := ⟨by rw [← hq_]; exact q5x9_⟩; have n4_ : Aside0 (IsS25 w w71 gb283 l0 t311) := ⟨by rw [← hq_]; exact q4x9_⟩; have n5_ : Aside0 (Below w.heap.size w w71) := ⟨by rw [← hq_]; exact q1x9_⟩; clear HO305 HO309 BK299 BK319 HI283 HB hq_; have HO305 := n0_; have HO309 := n1_; have BK299 := n2_; have BK319 := n3_; have HI283 := n4_; have HB := n5_; clear n0_ n1_ n2_ n3_ n4_ n5_))
              have n0_ := Aside0.mk (Kd.R_drew HO305.out)
              have n1_ := Aside0.mk (Kd.R_drew HO309.out)
              have n2_ := Aside0.mk (blk_drew BK299.out)
              have n3_ := Aside0.mk (blk_drew BK319.out)
              have n4_ := Aside0.mk (IsS25.drew HI283.out)
              have n5_ := Aside0.mk (below_drew1 HB.out)
              clear HO305; clear HO309; clear BK299; clear BK319; clear HI283; clear HB; have HO305 := n0_; have HO309 := n1_; have BK299 := n2_; have BK319 := n3_; have HI283 := n4_; have HB := n5_; clear n0_ n1_ n2_ n3_ n4_ n5_
              refine start_ (n := 24) (S := fun w' => True) (ds := []) #[false, false, false, false, false, false, false, false, false, false, false, false, false, false, false, false, false, false, false, false, false, false, false, false] q11x9_ rfl rfl trivial (fun hHeld => ?_); refine with_tabW handlaw1_TestsExact.tab14 handlaw1_TestsExact.bits14 (fun HT_ HW_ => ?_)
              generalize w71.drew = w72 at HO305 HO309 BK299 BK319 HI283 HB hHeld ⊢
              refine pure_ (i := 0) (N := some 117) (v := ?_) (a' := ?_) #[true, false, false, false, false, false, false, false, false, false, false, false, false, false, false, false, false, false, false, false, false, false, false, false] rfl rfl (any_of HT_.out q11x9_) (fun _ _ _ h => h) (Or.inl ⟨by rfl, ?_⟩) ?_ ?_
              rotate_left
              · intro w'
                go_simp
                with_reducible rfl
              rotate_left
              · simp only [Act.put, List.setIfInBounds_toArray, List.set_cons_zero, List.set_cons_succ, i64_w, i32_w]
                rfl
              refine pure_ (i := 1) (N := some 118) (v := ?_) (a' := ?_) #[true, true, false, false, false, false, false, false, false, false, false, false, false, false, false, false, false, false, false, false, false, false, false, false] rfl rfl (any_of HT_.out q11x9_) (fun _ _ _ h => h) (Or.inl ⟨by rfl, ?_⟩) ?_ ?_
              rotate_left
              · intro w'
                go_simp
                with_reducible rfl
              rotate_left
              · simp only [Act.put, List.setIfInBounds_toArray, List.set_cons_zero, List.set_cons_succ, i64_w, i32_w]
                rfl
              refine pure_ (i := 2) (N := some 119) (v := ?_) (a' := ?_) #[true, true, true, false, false, false, false, false, false, false, false, false, false, false, false, false, false, false, false, false, false, false, false, false] rfl rfl (any_of HT_.out q11x9_) (fun _ _ _ h => h) (Or.inl ⟨by rfl, ?_⟩) ?_ ?_
              rotate_left
              · intro w'
                go_simp
                with_reducible rfl
              rotate_left
              · simp only [Act.put, List.setIfInBounds_toArray, List.set_cons_zero, List.set_cons_succ, i64_w, i32_w]
                rfl
              refine pure_ (i := 3) (N := some 120) (v := ?_) (a' := ?_) #[true, true, true, true, false, false, false, false, false, false, false, false, false, false, false, false, false, false, false, false, false, false, false, false] rfl rfl (any_of HT_.out q11x9_) (fun _ _ _ h => h) (Or.inl ⟨by rfl, ?_⟩) ?_ ?_
              rotate_left
              · intro w'
                go_simp
                with_reducible rfl
              rotate_left
              · simp only [Act.put, List.setIfInBounds_toArray, List.set_cons_zero, List.set_cons_succ, i64_w, i32_w]
                rfl
              refine pure_ (i := 4) (N := some 121) (v := undef) (a' := ?_) #[true, true, true, true, true, false, false, false, false, false, false, false, false, false, false, false, false, false, false, false, false, false, false, false] rfl rfl (any_of HT_.out q11x9_) (fun _ _ _ h => h) (Or.inr ⟨by rfl, rfl⟩) ?_ ?_
              rotate_left
              · simp only [Act.put, List.setIfInBounds_toArray, List.set_cons_zero, List.set_cons_succ, i64_w, i32_w]
                rfl
              refine pure_ (i := 5) (N := some 122) (v := undef) (a' := ?_) #[true, true, true, true, true, true, false, false, false, false, false, false, false, false, false, false, false, false, false, false, false, false, false, false] rfl rfl (any_of HT_.out q11x9_) (fun _ _ _ h => h) (Or.inr ⟨by rfl, rfl⟩) ?_ ?_
              rotate_left
              · simp only [Act.put, List.setIfInBounds_toArray, List.set_cons_zero, List.set_cons_succ, i64_w, i32_w]
                rfl
              refine pure_ (i := 6) (N := some 123) (v := undef) (a' := ?_) #[true, true, true, true, true, true, true, false, false, false, false, false, false, false, false, false, false, false, false, false, false, false, false, false] rfl rfl (any_of HT_.out q11x9_) (fun _ _ _ h => h) (Or.inr ⟨by rfl, rfl⟩) ?_ ?_
              rotate_left
              · simp only [Act.put, List.setIfInBounds_toArray, List.set_cons_zero, List.set_cons_succ, i64_w, i32_w]
                rfl
              refine pure_ (i := 7) (N := some 124) (v := undef) (a' := ?_) #[true, true, true, true, true, true, true, true, false, false, false, false, false, false, false, false, false, false, false, false, false, false, false, false] rfl rfl (any_of HT_.out q11x9_) (fun _ _ _ h => h) (Or.inr ⟨by rfl, rfl⟩) ?_ ?_
              rotate_left
              · simp only [Act.put, List.setIfInBounds_toArray, List.set_cons_zero, List.set_cons_succ, i64_w, i32_w]
                rfl
              refine pure_ (i := 8) (N := some 125) (v := undef) (a' := ?_) #[true, true, true, true, true, true, true, true, true, false, false, false, false, false, false, false, false, false, false, false, false, false, false, false] rfl rfl (any_of HT_.out q11x9_) (fun _ _ _ h => h) (Or.inr ⟨by rfl, rfl⟩) ?_ ?_
              rotate_left
              · simp only [Act.put, List.setIfInBounds_toArray, List.set_cons_zero, List.set_cons_succ, i64_w, i32_w]
                rfl
              refine pure_ (i := 9) (N := some 126) (v := undef) (a' := ?_) #[true, true, true, true, true, true, true, true, true, true, false, false, false, false, false, false, false, false, false, false, false, false, false, false] rfl rfl (any_of HT_.out q11x9_) (fun _ _ _ h => h) (Or.inr ⟨by rfl, rfl⟩) ?_ ?_
              rotate_left
              · simp only [Act.put, List.setIfInBounds_toArray, List.set_cons_zero, List.set_cons_succ, i64_w, i32_w]
                rfl
              refine pure_ (i := 10) (N := some 127) (v := undef) (a' := ?_) #[true, true, true, true, true, true, true, true, true, true, true, false, false, false, false, false, false, false, false, false, false, false, false, false] rfl rfl (any_of HT_.out q11x9_) (fun _ _ _ h => h) (Or.inr ⟨by rfl, rfl⟩) ?_ ?_
              rotate_left
              · simp only [Act.put, List.setIfInBounds_toArray, List.set_cons_zero, List.set_cons_succ, i64_w, i32_w]
                rfl
              refine pure_ (i := 11) (N := some 128) (v := undef) (a' := ?_) #[true, true, true, true, true, true, true, true, true, true, true, true, false, false, false, false, false, false, false, false, false, false, false, false] rfl rfl (any_of HT_.out q11x9_) (fun _ _ _ h => h) (Or.inr ⟨by rfl, rfl⟩) ?_ ?_
              rotate_left
              · simp only [Act.put, List.setIfInBounds_toArray, List.set_cons_zero, List.set_cons_succ, i64_w, i32_w]
                rfl
              refine pure_ (i := 12) (N := some 129) (v := undef) (a' := ?_) #[true, true, true, true, true, true, true, true, true, true, true, true, true, false, false, false, false, false, false, false, false, false, false, false] rfl rfl (any_of HT_.out q11x9_) (fun _ _ _ h => h) (Or.inr ⟨by rfl, rfl⟩) ?_ ?_
              rotate_left
              · simp only [Act.put, List.setIfInBounds_toArray, List.set_cons_zero, List.set_cons_succ, i64_w, i32_w]
                rfl
              refine pure_ (i := 13) (N := some 130) (v := undef) (a' := ?_) #[true, true, true, true, true, true, true, true, true, true, true, true, true, true, false, false, false, false, false, false, false, false, false, false] rfl rfl (any_of HT_.out q11x9_) (fun _ _ _ h => h) (Or.inr ⟨by rfl, rfl⟩) ?_ ?_
              rotate_left
              · simp only [Act.put, List.setIfInBounds_toArray, List.set_cons_zero, List.set_cons_succ, i64_w, i32_w]
                rfl
              refine pure_ (i := 14) (N := some 131) (v := undef) (a' := ?_) #[true, true, true, true, true, true, true, true, true, true, true, true, true, true, true, false, false, false, false, false, false, false, false, false] rfl rfl (any_of HT_.out q11x9_) (fun _ _ _ h => h) (Or.inr ⟨by rfl, rfl⟩) ?_ ?_
              rotate_left
              · simp only [Act.put, List.setIfInBounds_toArray, List.set_cons_zero, List.set_cons_succ, i64_w, i32_w]
                rfl
              refine pure_ (i := 15) (N := some 132) (v := undef) (a' := ?_) #[true, true, true, true, true, true, true, true, true, true, true, true, true, true, true, true, false, false, false, false, false, false, false, false] rfl rfl (any_of HT_.out q11x9_) (fun _ _ _ h => h) (Or.inr ⟨by rfl, rfl⟩) ?_ ?_
              rotate_left
              · simp only [Act.put, List.setIfInBounds_toArray, List.set_cons_zero, List.set_cons_succ, i64_w, i32_w]
                rfl
              refine pure_ (i := 16) (N := some 133) (v := undef) (a' := ?_) #[true, true, true, true, true, true, true, true, true, true, true, true, true, true, true, true, true, false, false, false, false, false, false, false] rfl rfl (any_of HT_.out q11x9_) (fun _ _ _ h => h) (Or.inr ⟨by rfl, rfl⟩) ?_ ?_
              rotate_left
              · simp only [Act.put, List.setIfInBounds_toArray, List.set_cons_zero, List.set_cons_succ, i64_w, i32_w]
                rfl
              refine pure_ (i := 17) (N := some 134) (v := undef) (a' := ?_) #[true, true, true, true, true, true, true, true, true, true, true, true, true, true, true, true, true, true, false, false, false, false, false, false] rfl rfl (any_of HT_.out q11x9_) (fun _ _ _ h => h) (Or.inr ⟨by rfl, rfl⟩) ?_ ?_
              rotate_left
              · simp only [Act.put, List.setIfInBounds_toArray, List.set_cons_zero, List.set_cons_succ, i64_w, i32_w]
                rfl
              refine pure_ (i := 18) (N := some 135) (v := undef) (a' := ?_) #[true, true, true, true, true, true, true, true, true, true, true, true, true, true, true, true, true, true, true, false, false, false, false, false] rfl rfl (any_of HT_.out q11x9_) (fun _ _ _ h => h) (Or.inr ⟨by rfl, rfl⟩) ?_ ?_
              rotate_left
              · simp only [Act.put, List.setIfInBounds_toArray, List.set_cons_zero, List.set_cons_succ, i64_w, i32_w]
                rfl
              refine pure_ (i := 19) (N := some 136) (v := undef) (a' := ?_) #[true, true, true, true, true, true, true, true, true, true, true, true, true, true, true, true, true, true, true, true, false, false, false, false] rfl rfl (any_of HT_.out q11x9_) (fun _ _ _ h => h) (Or.inr ⟨by rfl, rfl⟩) ?_ ?_
              rotate_left
              · simp only [Act.put, List.setIfInBounds_toArray, List.set_cons_zero, List.set_cons_succ, i64_w, i32_w]
                rfl
              refine pure_ (i := 20) (N := some 137) (v := undef) (a' := ?_) #[true, true, true, true, true, true, true, true, true, true, true, true, true, true, true, true, true, true, true, true, true, false, false, false] rfl rfl (any_of HT_.out q11x9_) (fun _ _ _ h => h) (Or.inr ⟨by rfl, rfl⟩) ?_ ?_
              rotate_left
              · simp only [Act.put, List.setIfInBounds_toArray, List.set_cons_zero, List.set_cons_succ, i64_w, i32_w]
                rfl
              refine pure_ (i := 21) (N := some 138) (v := undef) (a' := ?_) #[true, true, true, true, true, true, true, true, true, true, true, true, true, true, true, true, true, true, true, true, true, true, false, false] rfl rfl (any_of HT_.out q11x9_) (fun _ _ _ h => h) (Or.inr ⟨by rfl, rfl⟩) ?_ ?_
              rotate_left
              · simp only [Act.put, List.setIfInBounds_toArray, List.set_cons_zero, List.set_cons_succ, i64_w, i32_w]
                rfl
              refine pure_ (i := 22) (N := some 139) (v := undef) (a' := ?_) #[true, true, true, true, true, true, true, true, true, true, true, true, true, true, true, true, true, true, true, true, true, true, true, false] rfl rfl (any_of HT_.out q11x9_) (fun _ _ _ h => h) (Or.inr ⟨by rfl, rfl⟩) ?_ ?_
              rotate_left
              · simp only [Act.put, List.setIfInBounds_toArray, List.set_cons_zero, List.set_cons_succ, i64_w, i32_w]
                rfl
              refine pure_ (i := 23) (N := some 140) (v := ?_) (a' := ?_) #[true, true, true, true, true, true, true, true, true, true, true, true, true, true, true, true, true, true, true, true, true, true, true, true] rfl rfl (any_of HT_.out q11x9_) (fun _ _ _ h => h) (Or.inl ⟨by rfl, ?_⟩) ?_ ?_
              rotate_left
              · intro w'
                go_simp
                with_reducible rfl
              rotate_left
              · simp only [Act.put, List.setIfInBounds_toArray, List.set_cons_zero, List.set_cons_succ, i64_w, i32_w]
                rfl
              refine done_ (done_of HT_.out q11x9_) ?_
              try go_wp2
              go_meet
              case rel => exact ⟨_, (true), q34x9_, H', ⟨q42x9_⟩, ⟨q37x9_⟩, ⟨q3x9_⟩, ⟨q5x9_⟩, ⟨q4x9_⟩, ⟨q1x9_⟩⟩
          clear HC50; (try clear p2); (try clear c3); (try clear p3); (try clear q3); (try clear hx3); (try clear qi3); (try clear c6); (try clear p32); (try clear q32); (try clear hx32); (try clear qi32); (try clear c36); (try clear c63); (try clear c63b0); (try clear c63b1); (try clear c64); (try clear c64b0); (try clear c64b1); (try clear hx321_0); (try clear hx322_0); (try clear hx323_0); (try clear hx324_0); (try clear p323); (try clear p324); (try clear q323); (try clear q324)
          obtain ⟨kq, x140_49, rfl, HA, HJ49, HO_10, BK299, BK319, HI283, HB⟩ := hcut
          rcases kq with _ | kj49
          · exact absurd HA.out (by simp [handlaw1_TestsExact.j2])
          have H := HA.out
          clear HA
          simp only [handlaw1_TestsExact.j2] at H
          by_cases c73 : x140_49 = true
          · subst c73
            have H1 : (some false) = some r := by rw [if_pos rfl] at H; exact H
            clear H
            have H := H1
            clear H1
            as_aux_lemma =>
              obtain rfl := Option.some.inj H
              go_wp2
              go_ret
              exact ⟨q30x9_, q1x9_⟩
          replace c73 := Bool.eq_false_iff.mpr c73
          subst c73
          have H1 : (if 0 < (t303.length : Int) then (if 1 < (t303.length : Int) then (if 2 < (t303.length : Int) then (if 3 < (t303.length : Int) then ((measure_Verdict.f kj49 (rd t303 0) (rd t303 1) (rd t303 2) (rd t303 3) t310).bind fun bt331 => ((handref1_VerdictOf.f kj49 (rd t303 0) (rd t303 1) (rd t303 2) (rd t303 3) t310).bind fun bt337 => (if bt331.2 = bt337.2 then (handlaw1_TestsExact.j3 kj49 (bt331.1 != bt337.1) l0 t311) else (handlaw1_TestsExact.j3 kj49 true l0 t311)))) else (none)) else (none)) else (none)) else (none)) = some r := by rw [if_neg (show ¬ (false = true) by decide)] at H; exact H
          clear H
          have H := H1
          clear H1
          by_cases c74 : 0 < (t303.length : Int)
          · rw [if_pos c74] at H
            have c74b0 : decide (0 < (t303.length : Int)) = true := decide_eq_true c74
            have c74b1 : decide (0 < t303.length) = true := decide_eq_true (by omega)
            clear c74
            by_cases c75 : 1 < (t303.length : Int)
            · rw [if_pos c75] at H
              have c75b0 : decide (1 < (t303.length : Int)) = true := decide_eq_true c75
              have c75b1 : decide (1 < t303.length) = true := decide_eq_true (by omega)
              clear c75
              by_cases c76 : 2 < (t303.length : Int)
              · rw [if_pos c76] at H
                have c76b0 : decide (2 < (t303.length : Int)) = true := decide_eq_true c76
                have c76b1 : decide (2 < t303.length) = true := decide_eq_true (by omega)
                clear c76
                by_cases c77 : 3 < (t303.length : Int)
                · rw [if_pos c77] at H
                  have c77b0 : decide (3 < (t303.length : Int)) = true := decide_eq_true c77
                  have c77b1 : decide (3 < t303.length) = true := decide_eq_true (by omega)
                  clear c77
                  replace H := Option.bind_eq_some_iff.mp H
                  obtain ⟨⟨t331, t332⟩, A780, H⟩ := H
                  replace H : ((handref1_VerdictOf.f kj49 (rd t303 0) (rd t303 1) (rd t303 2) (rd t303 3) t310).bind fun bt337 => (if t332 = bt337.2 then (handlaw1_TestsExact.j3 kj49 (t331 != bt337.1) l0 t311) else (handlaw1_TestsExact.j3 kj49 true l0 t311))) = some r := H
                  have A78 := Aside0.mk A780
                  clear A780
                  replace H := Option.bind_eq_some_iff.mp H
                  obtain ⟨⟨t337, t338⟩, A790, H⟩ := H
                  replace H : (if t332 = t338 then (handlaw1_TestsExact.j3 kj49 (t331 != t337) l0 t311) else (handlaw1_TestsExact.j3 kj49 true l0 t311)) = some r := H
                  have A79 := Aside0.mk A790
                  clear A790
                  have HC80 := Aside0.mk H
                  clear H
                  try go_wp2
                  (try (rw [drewN_self wc]; generalize hq_ : World.drewN wc _ = wc; have n0_ : Aside0 (Kd.R (Kd.int .i64) 3 wc w.heap.size (fun _ => True) (.slice (some ad312) t303.length co57) t303) := ⟨by rw [← hq_]; exact q40x9_⟩; have n1_ : Aside0 (wc.heap[gb299]? = some (.cells #[.int .i64 t296, .int .i64 t297] 28 (0, 0))) := ⟨q45x9_⟩; have n2_ : Aside0 (wc.heap[gb319]? = some (.cells #[.int .i64 t316, .int .i64 t317] 28 (0, 0))) := ⟨by rw [← hq_]; exact q5x9_⟩; have n3_ : Aside0 (IsS25 w wc gb283 l0 t311) := ⟨by rw [← hq_]; exact q4x9_⟩; have n4_ : Aside0 (Below w.heap.size w wc) := ⟨by rw [← hq_]; exact q1x9_⟩; clear HO_10 BK299 BK319 HI283 HB hq_; have HO_10 := n0_; have BK299 := n1_; have BK319 := n2_; have HI283 := n3_; have HB := n4_; clear n0_ n1_ n2_ n3_ n4_))
                  have n0_ := Aside0.mk (Kd.R_drew HO_10.out)
                  have n1_ := Aside0.mk (blk_drew BK299.out)
                  have n2_ := Aside0.mk (blk_drew BK319.out)
                  have n3_ := Aside0.mk (IsS25.drew HI283.out)
                  have n4_ := Aside0.mk (below_drew1 HB.out)
                  clear HO_10; clear BK299; clear BK319; clear HI283; clear HB; have HO_10 := n0_; have BK299 := n1_; have BK319 := n2_; have HI283 := n3_; have HB := n4_; clear n0_ n1_ n2_ n3_ n4_
                  have p327 : 0 ≤ (0 : Int) := (by omega)
                  have q327 : 0 < (t303.length : Int) := of_decide_eq_true q24x9_
                  obtain ⟨ad327, e327, hx327_0⟩ := Kd.at_int (Kd.R_reads' HO_10.out).2.2 0 p327 q327
                  obtain rfl : ad312 = ad327 := (by injection e327)
                  have qi327 : (0 < t303.length) = True := eq_true (by omega)
                  (try rw [show ((0 : Int)).toNat = 0 from rfl] at hx327_0)
                  (try rw [Addr.add_zero'] at hx327_0)
                  replace p327 := eq_true p327
                  replace q327 := eq_true q327
                  have p328 : 0 ≤ (1 : Int) := (by omega)
                  have q328 : 1 < (t303.length : Int) := of_decide_eq_true q24x9_
                  obtain ⟨ad328, e328, hx328_0⟩ := Kd.at_int (Kd.R_reads' HO_10.out).2.2 1 p328 q328
                  obtain rfl : ad312 = ad328 := (by injection e328)
                  (try simp only [show (1 : Int).toNat = 1 from rfl, Nat.reduceMul, Nat.reduceEqDiff, Go.Addr.add, ↓reduceIte] at hx328_0)
                  have qi328 : (1 < t303.length) = True := eq_true (by omega)
                  (try rw [show ((1 : Int)).toNat = 1 from rfl] at hx328_0)
                  replace p328 := eq_true p328
                  replace q328 := eq_true q328
                  have p329 : 0 ≤ (2 : Int) := (by omega)
                  have q329 : 2 < (t303.length : Int) := of_decide_eq_true q24x9_
                  obtain ⟨ad329, e329, hx329_0⟩ := Kd.at_int (Kd.R_reads' HO_10.out).2.2 2 p329 q329
                  obtain rfl : ad312 = ad329 := (by injection e329)
                  (try simp only [show (2 : Int).toNat = 2 from rfl, Nat.reduceMul, Nat.reduceEqDiff, Go.Addr.add, ↓reduceIte] at hx329_0)
                  have qi329 : (2 < t303.length) = True := eq_true (by omega)
                  (try rw [show ((2 : Int)).toNat = 2 from rfl] at hx329_0)
                  replace p329 := eq_true p329
                  replace q329 := eq_true q329
                  have p330 : 0 ≤ (3 : Int) := (by omega)
                  have q330 : 3 < (t303.length : Int) := of_decide_eq_true q24x9_
                  obtain ⟨ad330, e330, hx330_0⟩ := Kd.at_int (Kd.R_reads' HO_10.out).2.2 3 p330 q330
                  obtain rfl : ad312 = ad330 := (by injection e330)
                  (try simp only [show (3 : Int).toNat = 3 from rfl, Nat.reduceMul, Nat.reduceEqDiff, Go.Addr.add, ↓reduceIte] at hx330_0)
                  have qi330 : (3 < t303.length) = True := eq_true (by omega)
                  (try rw [show ((3 : Int)).toNat = 3 from rfl] at hx330_0)
                  replace p330 := eq_true p330
                  replace q330 := eq_true q330
                  refine start_ (n := 19) (S := fun w' => w'.cell? ad312 = some (.int .i64 (rd t303 0)) ∧ w'.cell? ⟨ad312.block, ad312.off + 1, none⟩ = some (.int .i64 (rd t303 1)) ∧ w'.cell? ⟨ad312.block, ad312.off + 2, none⟩ = some (.int .i64 (rd t303 2)) ∧ w'.cell? ⟨ad312.block, ad312.off + 3, none⟩ = some (.int .i64 (rd t303 3))) (ds := []) #[false, false, false, false, false, false, false, false, false, false, false, false, false, false, false, false, false, false, false] q11x9_ rfl rfl ⟨hx327_0, hx328_0, hx329_0, hx330_0⟩ (fun hHeld => ?_); refine with_tabW handlaw1_TestsExact.tab16 handlaw1_TestsExact.bits16 (fun HT_ HW_ => ?_)
                  generalize wc.drew = w81 at HO_10 BK299 BK319 HI283 HB hx327_0 hx328_0 hx329_0 hx330_0 hHeld ⊢
                  refine pure_ (i := 0) (N := some 142) (v := ?_) (a' := ?_) #[true, false, false, false, false, false, false, false, false, false, false, false, false, false, false, false, false, false, false] rfl rfl (any_of HT_.out q11x9_) (fun _ _ _ h => h) (Or.inl ⟨by rfl, ?_⟩) ?_ ?_
                  rotate_left
                  · intro w'
                    go_simp
                    with_reducible rfl
                  rotate_left
                  · simp only [Act.put, List.setIfInBounds_toArray, List.set_cons_zero, List.set_cons_succ, i64_w, i32_w]
                    rfl
                  refine pure_ (i := 1) (N := some 143) (v := ?_) (a' := ?_) #[true, true, false, false, false, false, false, false, false, false, false, false, false, false, false, false, false, false, false] rfl rfl (any_of HT_.out q11x9_) (fun _ _ _ h => h) (Or.inl ⟨by rfl, ?_⟩) ?_ ?_
                  rotate_left
                  · intro w'
                    go_simp
                    with_reducible rfl
                  rotate_left
                  · simp only [Act.put, List.setIfInBounds_toArray, List.set_cons_zero, List.set_cons_succ, i64_w, i32_w]
                    rfl
                  refine pure_ (i := 3) (N := some 145) (v := ?_) (a' := ?_) #[true, true, false, true, false, false, false, false, false, false, false, false, false, false, false, false, false, false, false] rfl rfl (any_of HT_.out q11x9_) (fun _ _ _ h => h) (Or.inl ⟨by rfl, ?_⟩) ?_ ?_
                  rotate_left
                  · intro w'
                    go_simp
                    with_reducible rfl
                  rotate_left
                  · simp only [Act.put, List.setIfInBounds_toArray, List.set_cons_zero, List.set_cons_succ, i64_w, i32_w]
                    rfl
                  refine pure_ (i := 4) (N := some 146) (v := ?_) (a' := ?_) #[true, true, false, true, true, false, false, false, false, false, false, false, false, false, false, false, false, false, false] rfl rfl (any_of HT_.out q11x9_) (fun _ _ _ h => h) (Or.inl ⟨by rfl, ?_⟩) ?_ ?_
                  rotate_left
                  · intro w'
                    go_simp
                    with_reducible rfl
                  rotate_left
                  · simp only [Act.put, List.setIfInBounds_toArray, List.set_cons_zero, List.set_cons_succ, i64_w, i32_w]
                    rfl
                  refine pure_ (i := 6) (N := some 148) (v := ?_) (a' := ?_) #[true, true, false, true, true, false, true, false, false, false, false, false, false, false, false, false, false, false, false] rfl rfl (any_of HT_.out q11x9_) (fun _ _ _ h => h) (Or.inl ⟨by rfl, ?_⟩) ?_ ?_
                  rotate_left
                  · intro w'
                    go_simp
                    with_reducible rfl
                  rotate_left
                  · simp only [Act.put, List.setIfInBounds_toArray, List.set_cons_zero, List.set_cons_succ, i64_w, i32_w]
                    rfl
                  refine pure_ (i := 7) (N := some 149) (v := ?_) (a' := ?_) #[true, true, false, true, true, false, true, true, false, false, false, false, false, false, false, false, false, false, false] rfl rfl (any_of HT_.out q11x9_) (fun _ _ _ h => h) (Or.inl ⟨by rfl, ?_⟩) ?_ ?_
                  rotate_left
                  · intro w'
                    go_simp
                    with_reducible rfl
                  rotate_left
                  · simp only [Act.put, List.setIfInBounds_toArray, List.set_cons_zero, List.set_cons_succ, i64_w, i32_w]
                    rfl
                  refine pure_ (i := 9) (N := some 151) (v := ?_) (a' := ?_) #[true, true, false, true, true, false, true, true, false, true, false, false, false, false, false, false, false, false, false] rfl rfl (any_of HT_.out q11x9_) (fun _ _ _ h => h) (Or.inl ⟨by rfl, ?_⟩) ?_ ?_
                  rotate_left
                  · intro w'
                    go_simp
                    with_reducible rfl
                  rotate_left
                  · simp only [Act.put, List.setIfInBounds_toArray, List.set_cons_zero, List.set_cons_succ, i64_w, i32_w]
                    rfl
                  refine pure_ (i := 10) (N := some 152) (v := ?_) (a' := ?_) #[true, true, false, true, true, false, true, true, false, true, true, false, false, false, false, false, false, false, false] rfl rfl (any_of HT_.out q11x9_) (fun _ _ _ h => h) (Or.inl ⟨by rfl, ?_⟩) ?_ ?_
                  rotate_left
                  · intro w'
                    go_simp
                    with_reducible rfl
                  rotate_left
                  · simp only [Act.put, List.setIfInBounds_toArray, List.set_cons_zero, List.set_cons_succ, i64_w, i32_w]
                    rfl
                  refine pure_ (i := 12) (N := some 154) (v := ?_) (a' := ?_) #[true, true, false, true, true, false, true, true, false, true, true, false, true, false, false, false, false, false, false] rfl rfl (any_of HT_.out q11x9_) (fun _ _ _ h => h) (Or.inl ⟨by rfl, ?_⟩) ?_ ?_
                  rotate_left
                  · intro w'
                    go_simp
                    with_reducible rfl
                  rotate_left
                  · simp only [Act.put, List.setIfInBounds_toArray, List.set_cons_zero, List.set_cons_succ, i64_w, i32_w]
                    rfl
                  refine take_ (i := 2) (N := some 144) (v := ?_) (a' := ?_) #[true, true, true, true, true, false, true, true, false, true, true, false, true, false, false, false, false, false, false] rfl rfl (take_ofW HT_.out HW_.out q11x9_) (fun _ _ _ h => h) (Or.inl ⟨by rfl, ?_⟩) hHeld ?_ ?_
                  rotate_left
                  · rintro w' ⟨s0, s1, s2, s3⟩
                    go_simp
                    with_reducible rfl
                  rotate_left
                  · simp only [Act.put, List.setIfInBounds_toArray, List.set_cons_zero, List.set_cons_succ, i64_w, i32_w]
                    rfl
                  refine take_ (i := 5) (N := some 147) (v := ?_) (a' := ?_) #[true, true, true, true, true, true, true, true, false, true, true, false, true, false, false, false, false, false, false] rfl rfl (take_ofW HT_.out HW_.out q11x9_) (fun _ _ _ h => h) (Or.inl ⟨by rfl, ?_⟩) hHeld ?_ ?_
                  rotate_left
                  · rintro w' ⟨s0, s1, s2, s3⟩
                    go_simp
                    with_reducible rfl
                  rotate_left
                  · simp only [Act.put, List.setIfInBounds_toArray, List.set_cons_zero, List.set_cons_succ, i64_w, i32_w]
                    rfl
                  refine take_ (i := 8) (N := some 150) (v := ?_) (a' := ?_) #[true, true, true, true, true, true, true, true, true, true, true, false, true, false, false, false, false, false, false] rfl rfl (take_ofW HT_.out HW_.out q11x9_) (fun _ _ _ h => h) (Or.inl ⟨by rfl, ?_⟩) hHeld ?_ ?_
                  rotate_left
                  · rintro w' ⟨s0, s1, s2, s3⟩
                    go_simp
                    with_reducible rfl
                  rotate_left
                  · simp only [Act.put, List.setIfInBounds_toArray, List.set_cons_zero, List.set_cons_succ, i64_w, i32_w]
                    rfl
                  refine take_ (i := 11) (N := some 153) (v := ?_) (a' := ?_) #[true, true, true, true, true, true, true, true, true, true, true, true, true, false, false, false, false, false, false] rfl rfl (take_ofW HT_.out HW_.out q11x9_) (fun _ _ _ h => h) (Or.inl ⟨by rfl, ?_⟩) hHeld ?_ ?_
                  rotate_left
                  · rintro w' ⟨s0, s1, s2, s3⟩
                    go_simp
                    with_reducible rfl
                  rotate_left
                  · simp only [Act.put, List.setIfInBounds_toArray, List.set_cons_zero, List.set_cons_succ, i64_w, i32_w]
                    rfl
                  refine one_ (i := 13) (N := some 155) #[true, true, true, true, true, true, true, true, true, true, true, true, true, true, false, false, false, false, false] rfl rfl (one_of HT_.out q11x9_) (by decide) (fun K hK => ?_)
                  refine goes_ Try.func37 q11x9_ rfl #[.int .i64 (rd t303 0), .int .i64 (rd t303 1), .int .i64 (rd t303 2), .int .i64 (rd t303 3), .int .i64 t310] (by rfl) rfl rfl q7x9_ ?_
                  with_reducible refine (measure_Verdict.calls kj49 (rd t303 0) (rd t303 1) (rd t303 2) (rd t303 3) t310 t331 t332 _ A78.out).mono ?_
                  rintro e w82 ⟨rfl, hb⟩
                  have HS0_ := (hb.cell (World.block_lt_of_cell? _ _ (hHeld.1))).trans (hHeld.1)
                  have HS1_ := (hb.cell (World.block_lt_of_cell? _ _ (hHeld.2.1))).trans (hHeld.2.1)
                  have HS2_ := (hb.cell (World.block_lt_of_cell? _ _ (hHeld.2.2.1))).trans (hHeld.2.2.1)
                  have HS3_ := (hb.cell (World.block_lt_of_cell? _ _ (hHeld.2.2.2))).trans (hHeld.2.2.2)
                  refine ⟨_, rfl, ?_⟩
                  have n0_ := Aside0.mk (Kd.R_below q40x9_ hb)
                  have n1_ := Aside0.mk (blk_below (g := gb299) (o := .cells #[.int .i64 t296, .int .i64 t297] 28 (0, 0)) q3x9_ hb)
                  have n2_ := Aside0.mk (blk_below (g := gb319) (o := .cells #[.int .i64 t316, .int .i64 t317] 28 (0, 0)) q5x9_ hb)
                  have n3_ := Aside0.mk (IsS25.below q4x9_ hb)
                  have n4_ := Aside0.mk (below_step q1x9_ hb)
                  clear HO_10; clear BK299; clear BK319; clear HI283; clear HB; have HO_10 := n0_; have BK299 := n1_; have BK319 := n2_; have HI283 := n3_; have HB := n4_; clear n0_ n1_ n2_ n3_ n4_; (try clear hb); (try clear hb2); (try clear hk); (try clear hi)
                  refine hK.out _ _ ⟨HS0_, HS1_, HS2_, HS3_⟩ (fun hHeld => ?_)
                  clear hK K
                  refine norm_ (a' := ?_) ?_ ?_
                  rotate_left
                  · show Act.put _ (some 155) _ = _
                    simp only [Act.put, List.setIfInBounds_toArray, List.set_cons_zero, List.set_cons_succ, i64_w, i32_w]
                    rfl
                  refine pure_ (i := 14) (N := some 141) (v := ?_) (a' := ?_) #[true, true, true, true, true, true, true, true, true, true, true, true, true, true, true, false, false, false, false] rfl rfl (any_of HT_.out q11x9_) (fun _ _ _ h => h) (Or.inl ⟨by rfl, ?_⟩) ?_ ?_
                  rotate_left
                  · intro w'
                    go_simp
                    with_reducible rfl
                  rotate_left
                  · simp only [Act.put, List.setIfInBounds_toArray, List.set_cons_zero, List.set_cons_succ, i64_w, i32_w]
                    rfl
                  refine pure_ (i := 15) (N := some 156) (v := ?_) (a' := ?_) #[true, true, true, true, true, true, true, true, true, true, true, true, true, true, true, true, false, false, false] rfl rfl (any_of HT_.out q11x9_) (fun _ _ _ h => h) (Or.inl ⟨by rfl, ?_⟩) ?_ ?_
                  rotate_left
                  · intro w'
                    go_simp
                    with_reducible rfl
                  rotate_left
                  · simp only [Act.put, List.setIfInBounds_toArray, List.set_cons_zero, List.set_cons_succ, i64_w, i32_w]
                    rfl
                  refine pure_ (i := 16) (N := some 157) (v := ?_) (a' := ?_) #[true, true, true, true, true, true, true, true, true, true, true, true, true, true, true, true, true, false, false] rfl rfl (any_of HT_.out q11x9_) (fun _ _ _ h => h) (Or.inl ⟨by rfl, ?_⟩) ?_ ?_
                  rotate_left
                  · intro w'
                    go_simp
                    with_reducible rfl
                  rotate_left
                  · simp only [Act.put, List.setIfInBounds_toArray, List.set_cons_zero, List.set_cons_succ, i64_w, i32_w]
                    rfl
                  refine pure_ (i := 17) (N := some 15) (v := ?_) (a' := ?_) #[true, true, true, true, true, true, true, true, true, true, true, true, true, true, true, true, true, true, false] rfl rfl (any_of HT_.out q11x9_) (fun _ _ _ h => h) (Or.inl ⟨by rfl, ?_⟩) ?_ ?_
                  rotate_left
                  · intro w'
                    go_simp
                    with_reducible rfl
                  rotate_left
                  · simp only [Act.put, List.setIfInBounds_toArray, List.set_cons_zero, List.set_cons_succ, i64_w, i32_w]
                    rfl
                  refine pure_ (i := 18) (N := some 16) (v := ?_) (a' := ?_) #[true, true, true, true, true, true, true, true, true, true, true, true, true, true, true, true, true, true, true] rfl rfl (any_of HT_.out q11x9_) (fun _ _ _ h => h) (Or.inl ⟨by rfl, ?_⟩) ?_ ?_
                  rotate_left
                  · intro w'
                    go_simp
                    with_reducible rfl
                  rotate_left
                  · simp only [Act.put, List.setIfInBounds_toArray, List.set_cons_zero, List.set_cons_succ, i64_w, i32_w]
                    rfl
                  refine done_ (done_of HT_.out q11x9_) ?_
                  try go_wp2
                  have n0_ := Aside0.mk (Kd.R_drew HO_10.out)
                  have n1_ := Aside0.mk (blk_drew BK299.out)
                  have n2_ := Aside0.mk (blk_drew BK319.out)
                  have n3_ := Aside0.mk (IsS25.drew HI283.out)
                  have n4_ := Aside0.mk (below_drew1 HB.out)
                  clear HO_10; clear BK299; clear BK319; clear HI283; clear HB; have HO_10 := n0_; have BK299 := n1_; have BK319 := n2_; have HI283 := n3_; have HB := n4_; clear n0_ n1_ n2_ n3_ n4_
                  have p333 : 0 ≤ (0 : Int) := (by omega)
                  have q333 : 0 < (t303.length : Int) := of_decide_eq_true q24x9_
                  obtain ⟨ad333, e333, hx333_0⟩ := Kd.at_int (Kd.R_reads' HO_10.out).2.2 0 p333 q333
                  obtain rfl : ad312 = ad333 := (by injection e333)
                  have qi333 : (0 < t303.length) = True := eq_true (by omega)
                  (try rw [show ((0 : Int)).toNat = 0 from rfl] at hx333_0)
                  (try rw [Addr.add_zero'] at hx333_0)
                  replace p333 := eq_true p333
                  replace q333 := eq_true q333
                  have p334 : 0 ≤ (1 : Int) := (by omega)
                  have q334 : 1 < (t303.length : Int) := of_decide_eq_true q24x9_
                  obtain ⟨ad334, e334, hx334_0⟩ := Kd.at_int (Kd.R_reads' HO_10.out).2.2 1 p334 q334
                  obtain rfl : ad312 = ad334 := (by injection e334)
                  (try simp only [show (1 : Int).toNat = 1 from rfl, Nat.reduceMul, Nat.reduceEqDiff, Go.Addr.add, ↓reduceIte] at hx334_0)
                  have qi334 : (1 < t303.length) = True := eq_true (by omega)
                  (try rw [show ((1 : Int)).toNat = 1 from rfl] at hx334_0)
                  replace p334 := eq_true p334
                  replace q334 := eq_true q334
                  have p335 : 0 ≤ (2 : Int) := (by omega)
                  have q335 : 2 < (t303.length : Int) := of_decide_eq_true q24x9_
                  obtain ⟨ad335, e335, hx335_0⟩ := Kd.at_int (Kd.R_reads' HO_10.out).2.2 2 p335 q335
                  obtain rfl : ad312 = ad335 := (by injection e335)
                  (try simp only [show (2 : Int).toNat = 2 from rfl, Nat.reduceMul, Nat.reduceEqDiff, Go.Addr.add, ↓reduceIte] at hx335_0)
                  have qi335 : (2 < t303.length) = True := eq_true (by omega)
                  (try rw [show ((2 : Int)).toNat = 2 from rfl] at hx335_0)
                  replace p335 := eq_true p335
                  replace q335 := eq_true q335
                  have p336 : 0 ≤ (3 : Int) := (by omega)
                  have q336 : 3 < (t303.length : Int) := of_decide_eq_true q24x9_
                  obtain ⟨ad336, e336, hx336_0⟩ := Kd.at_int (Kd.R_reads' HO_10.out).2.2 3 p336 q336
                  obtain rfl : ad312 = ad336 := (by injection e336)
                  (try simp only [show (3 : Int).toNat = 3 from rfl, Nat.reduceMul, Nat.reduceEqDiff, Go.Addr.add, ↓reduceIte] at hx336_0)
                  have qi336 : (3 < t303.length) = True := eq_true (by omega)
                  (try rw [show ((3 : Int)).toNat = 3 from rfl] at hx336_0)
                  replace p336 := eq_true p336
                  replace q336 := eq_true q336
                  refine start_ (n := 19) (S := fun w' => w'.cell? ad312 = some (.int .i64 (rd t303 0)) ∧ w'.cell? ⟨ad312.block, ad312.off + 1, none⟩ = some (.int .i64 (rd t303 1)) ∧ w'.cell? ⟨ad312.block, ad312.off + 2, none⟩ = some (.int .i64 (rd t303 2)) ∧ w'.cell? ⟨ad312.block, ad312.off + 3, none⟩ = some (.int .i64 (rd t303 3))) (ds := []) #[false, false, false, false, false, false, false, false, false, false, false, false, false, false, false, false, false, false, false] q11x9_ rfl rfl ⟨hx333_0, hx334_0, hx335_0, hx336_0⟩ (fun hHeld => ?_); refine with_tabW handlaw1_TestsExact.tab17 handlaw1_TestsExact.bits17 (fun HT_ HW_ => ?_)
                  generalize w82.drew = w83 at HO_10 BK299 BK319 HI283 HB hx333_0 hx334_0 hx335_0 hx336_0 hHeld ⊢
                  refine pure_ (i := 0) (N := some 159) (v := ?_) (a' := ?_) #[true, false, false, false, false, false, false, false, false, false, false, false, false, false, false, false, false, false, false] rfl rfl (any_of HT_.out q11x9_) (fun _ _ _ h => h) (Or.inl ⟨by rfl, ?_⟩) ?_ ?_
                  rotate_left
                  · intro w'
                    go_simp
                    with_reducible rfl
                  rotate_left
                  · simp only [Act.put, List.setIfInBounds_toArray, List.set_cons_zero, List.set_cons_succ, i64_w, i32_w]
                    rfl
                  refine pure_ (i := 1) (N := some 160) (v := ?_) (a' := ?_) #[true, true, false, false, false, false, false, false, false, false, false, false, false, false, false, false, false, false, false] rfl rfl (any_of HT_.out q11x9_) (fun _ _ _ h => h) (Or.inl ⟨by rfl, ?_⟩) ?_ ?_
                  rotate_left
                  · intro w'
                    go_simp
                    with_reducible rfl
                  rotate_left
                  · simp only [Act.put, List.setIfInBounds_toArray, List.set_cons_zero, List.set_cons_succ, i64_w, i32_w]
                    rfl
                  refine pure_ (i := 3) (N := some 162) (v := ?_) (a' := ?_) #[true, true, false, true, false, false, false, false, false, false, false, false, false, false, false, false, false, false, false] rfl rfl (any_of HT_.out q11x9_) (fun _ _ _ h => h) (Or.inl ⟨by rfl, ?_⟩) ?_ ?_
                  rotate_left
                  · intro w'
                    go_simp
                    with_reducible rfl
                  rotate_left
                  · simp only [Act.put, List.setIfInBounds_toArray, List.set_cons_zero, List.set_cons_succ, i64_w, i32_w]
                    rfl
                  refine pure_ (i := 4) (N := some 163) (v := ?_) (a' := ?_) #[true, true, false, true, true, false, false, false, false, false, false, false, false, false, false, false, false, false, false] rfl rfl (any_of HT_.out q11x9_) (fun _ _ _ h => h) (Or.inl ⟨by rfl, ?_⟩) ?_ ?_
                  rotate_left
                  · intro w'
                    go_simp
                    with_reducible rfl
                  rotate_left
                  · simp only [Act.put, List.setIfInBounds_toArray, List.set_cons_zero, List.set_cons_succ, i64_w, i32_w]
                    rfl
                  refine pure_ (i := 6) (N := some 165) (v := ?_) (a' := ?_) #[true, true, false, true, true, false, true, false, false, false, false, false, false, false, false, false, false, false, false] rfl rfl (any_of HT_.out q11x9_) (fun _ _ _ h => h) (Or.inl ⟨by rfl, ?_⟩) ?_ ?_
                  rotate_left
                  · intro w'
                    go_simp
                    with_reducible rfl
                  rotate_left
                  · simp only [Act.put, List.setIfInBounds_toArray, List.set_cons_zero, List.set_cons_succ, i64_w, i32_w]
                    rfl
                  refine pure_ (i := 7) (N := some 166) (v := ?_) (a' := ?_) #[true, true, false, true, true, false, true, true, false, false, false, false, false, false, false, false, false, false, false] rfl rfl (any_of HT_.out q11x9_) (fun _ _ _ h => h) (Or.inl ⟨by rfl, ?_⟩) ?_ ?_
                  rotate_left
                  · intro w'
                    go_simp
                    with_reducible rfl
                  rotate_left
                  · simp only [Act.put, List.setIfInBounds_toArray, List.set_cons_zero, List.set_cons_succ, i64_w, i32_w]
                    rfl
                  refine pure_ (i := 9) (N := some 168) (v := ?_) (a' := ?_) #[true, true, false, true, true, false, true, true, false, true, false, false, false, false, false, false, false, false, false] rfl rfl (any_of HT_.out q11x9_) (fun _ _ _ h => h) (Or.inl ⟨by rfl, ?_⟩) ?_ ?_
                  rotate_left
                  · intro w'
                    go_simp
                    with_reducible rfl
                  rotate_left
                  · simp only [Act.put, List.setIfInBounds_toArray, List.set_cons_zero, List.set_cons_succ, i64_w, i32_w]
                    rfl
                  refine pure_ (i := 10) (N := some 169) (v := ?_) (a' := ?_) #[true, true, false, true, true, false, true, true, false, true, true, false, false, false, false, false, false, false, false] rfl rfl (any_of HT_.out q11x9_) (fun _ _ _ h => h) (Or.inl ⟨by rfl, ?_⟩) ?_ ?_
                  rotate_left
                  · intro w'
                    go_simp
                    with_reducible rfl
                  rotate_left
                  · simp only [Act.put, List.setIfInBounds_toArray, List.set_cons_zero, List.set_cons_succ, i64_w, i32_w]
                    rfl
                  refine pure_ (i := 12) (N := some 171) (v := ?_) (a' := ?_) #[true, true, false, true, true, false, true, true, false, true, true, false, true, false, false, false, false, false, false] rfl rfl (any_of HT_.out q11x9_) (fun _ _ _ h => h) (Or.inl ⟨by rfl, ?_⟩) ?_ ?_
                  rotate_left
                  · intro w'
                    go_simp
                    with_reducible rfl
                  rotate_left
                  · simp only [Act.put, List.setIfInBounds_toArray, List.set_cons_zero, List.set_cons_succ, i64_w, i32_w]
                    rfl
                  refine take_ (i := 2) (N := some 161) (v := ?_) (a' := ?_) #[true, true, true, true, true, false, true, true, false, true, true, false, true, false, false, false, false, false, false] rfl rfl (take_ofW HT_.out HW_.out q11x9_) (fun _ _ _ h => h) (Or.inl ⟨by rfl, ?_⟩) hHeld ?_ ?_
                  rotate_left
                  · rintro w' ⟨s0, s1, s2, s3⟩
                    go_simp
                    with_reducible rfl
                  rotate_left
                  · simp only [Act.put, List.setIfInBounds_toArray, List.set_cons_zero, List.set_cons_succ, i64_w, i32_w]
                    rfl
                  refine take_ (i := 5) (N := some 164) (v := ?_) (a' := ?_) #[true, true, true, true, true, true, true, true, false, true, true, false, true, false, false, false, false, false, false] rfl rfl (take_ofW HT_.out HW_.out q11x9_) (fun _ _ _ h => h) (Or.inl ⟨by rfl, ?_⟩) hHeld ?_ ?_
                  rotate_left
                  · rintro w' ⟨s0, s1, s2, s3⟩
                    go_simp
                    with_reducible rfl
                  rotate_left
                  · simp only [Act.put, List.setIfInBounds_toArray, List.set_cons_zero, List.set_cons_succ, i64_w, i32_w]
                    rfl
                  refine take_ (i := 8) (N := some 167) (v := ?_) (a' := ?_) #[true, true, true, true, true, true, true, true, true, true, true, false, true, false, false, false, false, false, false] rfl rfl (take_ofW HT_.out HW_.out q11x9_) (fun _ _ _ h => h) (Or.inl ⟨by rfl, ?_⟩) hHeld ?_ ?_
                  rotate_left
                  · rintro w' ⟨s0, s1, s2, s3⟩
                    go_simp
                    with_reducible rfl
                  rotate_left
                  · simp only [Act.put, List.setIfInBounds_toArray, List.set_cons_zero, List.set_cons_succ, i64_w, i32_w]
                    rfl
                  refine take_ (i := 11) (N := some 170) (v := ?_) (a' := ?_) #[true, true, true, true, true, true, true, true, true, true, true, true, true, false, false, false, false, false, false] rfl rfl (take_ofW HT_.out HW_.out q11x9_) (fun _ _ _ h => h) (Or.inl ⟨by rfl, ?_⟩) hHeld ?_ ?_
                  rotate_left
                  · rintro w' ⟨s0, s1, s2, s3⟩
                    go_simp
                    with_reducible rfl
                  rotate_left
                  · simp only [Act.put, List.setIfInBounds_toArray, List.set_cons_zero, List.set_cons_succ, i64_w, i32_w]
                    rfl
                  refine one_ (i := 13) (N := some 172) #[true, true, true, true, true, true, true, true, true, true, true, true, true, true, false, false, false, false, false] rfl rfl (one_of HT_.out q11x9_) (by decide) (fun K hK => ?_)
                  refine goes_ Try.func38 q11x9_ rfl #[.int .i64 (rd t303 0), .int .i64 (rd t303 1), .int .i64 (rd t303 2), .int .i64 (rd t303 3), .int .i64 t310] (by rfl) rfl rfl q7x9_ ?_
                  with_reducible refine (handref1_VerdictOf.calls kj49 (rd t303 0) (rd t303 1) (rd t303 2) (rd t303 3) t310 t337 t338 _ A79.out).mono ?_
                  rintro e w84 ⟨rfl, hb⟩
                  have HS0_ := (hb.cell (World.block_lt_of_cell? _ _ (hHeld.1))).trans (hHeld.1)
                  have HS1_ := (hb.cell (World.block_lt_of_cell? _ _ (hHeld.2.1))).trans (hHeld.2.1)
                  have HS2_ := (hb.cell (World.block_lt_of_cell? _ _ (hHeld.2.2.1))).trans (hHeld.2.2.1)
                  have HS3_ := (hb.cell (World.block_lt_of_cell? _ _ (hHeld.2.2.2))).trans (hHeld.2.2.2)
                  refine ⟨_, rfl, ?_⟩
                  have n0_ := Aside0.mk (Kd.R_below q40x9_ hb)
                  have n1_ := Aside0.mk (blk_below (g := gb299) (o := .cells #[.int .i64 t296, .int .i64 t297] 28 (0, 0)) q3x9_ hb)
                  have n2_ := Aside0.mk (blk_below (g := gb319) (o := .cells #[.int .i64 t316, .int .i64 t317] 28 (0, 0)) q5x9_ hb)
                  have n3_ := Aside0.mk (IsS25.below q4x9_ hb)
                  have n4_ := Aside0.mk (below_step q1x9_ hb)
                  clear HO_10; clear BK299; clear BK319; clear HI283; clear HB; have HO_10 := n0_; have BK299 := n1_; have BK319 := n2_; have HI283 := n3_; have HB := n4_; clear n0_ n1_ n2_ n3_ n4_; (try clear hb); (try clear hb2); (try clear hk); (try clear hi)
                  refine hK.out _ _ ⟨HS0_, HS1_, HS2_, HS3_⟩ (fun hHeld => ?_)
                  clear hK K
                  refine norm_ (a' := ?_) ?_ ?_
                  rotate_left
                  · show Act.put _ (some 172) _ = _
                    simp only [Act.put, List.setIfInBounds_toArray, List.set_cons_zero, List.set_cons_succ, i64_w, i32_w]
                    rfl
                  refine pure_ (i := 14) (N := some 158) (v := ?_) (a' := ?_) #[true, true, true, true, true, true, true, true, true, true, true, true, true, true, true, false, false, false, false] rfl rfl (any_of HT_.out q11x9_) (fun _ _ _ h => h) (Or.inl ⟨by rfl, ?_⟩) ?_ ?_
                  rotate_left
                  · intro w'
                    go_simp
                    with_reducible rfl
                  rotate_left
                  · simp only [Act.put, List.setIfInBounds_toArray, List.set_cons_zero, List.set_cons_succ, i64_w, i32_w]
                    rfl
                  refine pure_ (i := 15) (N := some 173) (v := ?_) (a' := ?_) #[true, true, true, true, true, true, true, true, true, true, true, true, true, true, true, true, false, false, false] rfl rfl (any_of HT_.out q11x9_) (fun _ _ _ h => h) (Or.inl ⟨by rfl, ?_⟩) ?_ ?_
                  rotate_left
                  · intro w'
                    go_simp
                    with_reducible rfl
                  rotate_left
                  · simp only [Act.put, List.setIfInBounds_toArray, List.set_cons_zero, List.set_cons_succ, i64_w, i32_w]
                    rfl
                  refine pure_ (i := 16) (N := some 174) (v := ?_) (a' := ?_) #[true, true, true, true, true, true, true, true, true, true, true, true, true, true, true, true, true, false, false] rfl rfl (any_of HT_.out q11x9_) (fun _ _ _ h => h) (Or.inl ⟨by rfl, ?_⟩) ?_ ?_
                  rotate_left
                  · intro w'
                    go_simp
                    with_reducible rfl
                  rotate_left
                  · simp only [Act.put, List.setIfInBounds_toArray, List.set_cons_zero, List.set_cons_succ, i64_w, i32_w]
                    rfl
                  refine pure_ (i := 17) (N := some 17) (v := ?_) (a' := ?_) #[true, true, true, true, true, true, true, true, true, true, true, true, true, true, true, true, true, true, false] rfl rfl (any_of HT_.out q11x9_) (fun _ _ _ h => h) (Or.inl ⟨by rfl, ?_⟩) ?_ ?_
                  rotate_left
                  · intro w'
                    go_simp
                    with_reducible rfl
                  rotate_left
                  · simp only [Act.put, List.setIfInBounds_toArray, List.set_cons_zero, List.set_cons_succ, i64_w, i32_w]
                    rfl
                  refine pure_ (i := 18) (N := some 18) (v := ?_) (a' := ?_) #[true, true, true, true, true, true, true, true, true, true, true, true, true, true, true, true, true, true, true] rfl rfl (any_of HT_.out q11x9_) (fun _ _ _ h => h) (Or.inl ⟨by rfl, ?_⟩) ?_ ?_
                  rotate_left
                  · intro w'
                    go_simp
                    with_reducible rfl
                  rotate_left
                  · simp only [Act.put, List.setIfInBounds_toArray, List.set_cons_zero, List.set_cons_succ, i64_w, i32_w]
                    rfl
                  refine done_ (done_of HT_.out q11x9_) ?_
                  go_upto_region 18 with (fail)
                  go_cut [182] (fun v182 wc => ∃ (kq : Nat) (x182_79 : Bool), v182 = .bool x182_79 ∧ Aside0 (handlaw1_TestsExact.j3 kq x182_79 l0 t311 = some r) ∧ Aside0 (kq ≤ kj49) ∧ Aside0 (wc.heap[gb299]? = some (.cells #[.int .i64 t296, .int .i64 t297] 28 (0, 0))) ∧ Aside0 (wc.heap[gb319]? = some (.cells #[.int .i64 t316, .int .i64 t317] 28 (0, 0))) ∧ Aside0 (IsS25 w wc gb283 l0 t311) ∧ Aside0 (Below w.heap.size w wc))
                  case first =>
                    have H := HC80.out
                    clear HC80
                    by_cases c85 : t332 = t338
                    · rw [if_pos c85] at H
                      have c85b0 : (t332 == t338) = true := beq_iff_eq.mpr c85
                      have c85b1 : (t332 != t338) = false := bne_eq_false_iff_eq.mpr c85
                      clear c85
                      (first | rw [c85b0] | (simp only [i64_w, i32_w]; rw [c85b0]) | skip)
                      as_aux_lemma =>
                        have H' := Aside0.mk H
                        clear H
                        go_wp2
                        go_meet
                        case rel => exact ⟨_, ((t331 != t337)), q34x9_, H', ⟨by have := HJ5.out; have := HJ23.out; have := HJ49.out; first | omega | exact Nat.le_refl _⟩, ⟨q3x9_⟩, ⟨q5x9_⟩, ⟨q4x9_⟩, ⟨q1x9_⟩⟩
                    rw [if_neg c85] at H
                    have c85b0 : (t332 == t338) = false := beq_eq_false_iff_ne.mpr c85
                    have c85b1 : (t332 != t338) = true := bne_iff_ne.mpr c85
                    (first | rw [c85b0] | (simp only [i64_w, i32_w]; rw [c85b0]) | skip)
                    as_aux_lemma =>
                      have H' := Aside0.mk H
                      clear H
                      go_wp2
                      go_meet
                      case rel => exact ⟨_, (true), q34x9_, H', ⟨by have := HJ5.out; have := HJ23.out; have := HJ49.out; first | omega | exact Nat.le_refl _⟩, ⟨q3x9_⟩, ⟨q5x9_⟩, ⟨q4x9_⟩, ⟨q1x9_⟩⟩
                  clear HC80; (try clear p2); (try clear c3); (try clear p3); (try clear q3); (try clear hx3); (try clear qi3); (try clear c6); (try clear c7); (try clear c8); (try clear p32); (try clear q32); (try clear hx32); (try clear qi32); (try clear p33); (try clear q33); (try clear hx33); (try clear qi33); (try clear c36); (try clear c37); (try clear c38); (try clear c63); (try clear c63b0); (try clear c63b1); (try clear c64); (try clear c64b0); (try clear c64b1); (try clear c73); (try clear c74); (try clear c74b0); (try clear c74b1); (try clear c75); (try clear c75b0); (try clear c75b1); (try clear c76); (try clear c76b0); (try clear c76b1); (try clear c77); (try clear c77b0); (try clear c77b1); (try clear c85); (try clear c85b0); (try clear c85b1); (try clear hx321_0); (try clear hx322_0); (try clear hx323_0); (try clear hx324_0); (try clear hx327_0); (try clear hx328_0); (try clear hx329_0); (try clear hx330_0); (try clear hx333_0); (try clear hx334_0); (try clear hx335_0); (try clear hx336_0); (try clear p2); (try clear p3); (try clear p32); (try clear p323); (try clear p324); (try clear p327); (try clear p328); (try clear p329); (try clear p330); (try clear p333); (try clear p334); (try clear p335); (try clear p336); (try clear q3); (try clear q32); (try clear q323); (try clear q324); (try clear q327); (try clear q328); (try clear q329); (try clear q330); (try clear q333); (try clear q334); (try clear q335); (try clear q336)
                  obtain ⟨kq, x182_79, rfl, HA, HJ79, BK299, BK319, HI283, HB⟩ := hcut
                  rcases kq with _ | kj79
                  · exact absurd HA.out (by simp [handlaw1_TestsExact.j3])
                  have H := HA.out
                  clear HA
                  simp only [handlaw1_TestsExact.j3] at H
                  by_cases c86 : x182_79 = true
                  · subst c86
                    have H1 : (some false) = some r := by rw [if_pos rfl] at H; exact H
                    clear H
                    have H := H1
                    clear H1
                    as_aux_lemma =>
                      obtain rfl := Option.some.inj H
                      go_wp2
                      go_ret
                      exact ⟨q30x9_, q1x9_⟩
                  replace c86 := Bool.eq_false_iff.mpr c86
                  subst c86
                  have H1 : ((handmake_Stream_Pick.f l0 t311 (([1, 4, 1000, 1000000, 0, 1000001] : List Int))).bind fun bt342 => ((handmake_Stream_Pick.f l0 bt342.2 (([1, 4, 999999, 0] : List Int))).bind fun bt347 => ((handmake_Stream_Next.f l0 bt347.2 (wrap64 ((mx bt342.1 1) + 1))).bind fun bt349 => ((handmake_Stream_Pick.f l0 bt349.2 (([0, bt347.1, wrap64 (bt347.1 + 1), 1] : List Int))).bind fun bt354 => ((measure_Extra.f kj79 bt342.1 bt349.1 bt347.1 bt354.1).bind fun bt356 => ((handref1_ExtraOf.f kj79 bt342.1 bt349.1 bt347.1 bt354.1).bind fun bt360 => ((handlaw1_measures.f kj79).bind fun t364 => (if t364 = true then (if bt356.2.2 = bt360.2.2 then (some (bt356.1 == bt360.1 && (bt356.2.1 == bt360.2.1))) else (some false)) else (some false))))))))) = some r := by rw [if_neg (show ¬ (false = true) by decide)] at H; exact H
                  clear H
                  have H := H1
                  clear H1
                  obtain ⟨y339, hy339⟩ : ∃ y_ : List Int, y_ = (([1, 4, 1000, 1000000, 0, 1000001] : List Int)) := ⟨_, rfl⟩
                  replace H : ((handmake_Stream_Pick.f l0 t311 y339).bind fun bt342 => ((handmake_Stream_Pick.f l0 bt342.2 (([1, 4, 999999, 0] : List Int))).bind fun bt347 => ((handmake_Stream_Next.f l0 bt347.2 (wrap64 ((mx bt342.1 1) + 1))).bind fun bt349 => ((handmake_Stream_Pick.f l0 bt349.2 (([0, bt347.1, wrap64 (bt347.1 + 1), 1] : List Int))).bind fun bt354 => ((measure_Extra.f kj79 bt342.1 bt349.1 bt347.1 bt354.1).bind fun bt356 => ((handref1_ExtraOf.f kj79 bt342.1 bt349.1 bt347.1 bt354.1).bind fun bt360 => ((handlaw1_measures.f kj79).bind fun t364 => (if t364 = true then (if bt356.2.2 = bt360.2.2 then (some (bt356.1 == bt360.1 && (bt356.2.1 == bt360.2.1))) else (some false)) else (some false))))))))) = some r := by first | (rw [hy339]; with_reducible exact H) | (have H2_ := (Option.bind_some _ _).symm.trans H; rw [hy339]; with_reducible exact H2_) | (have H2_ := (Option.bind_some _ _).symm.trans H; with_reducible exact H2_) | with_reducible exact H | (rw [hy339]; exact H) | exact H
                  have Ny339 := Aside0.mk hy339
                  clear hy339
                  replace H := Option.bind_eq_some_iff.mp H
                  obtain ⟨⟨t342, t343⟩, A870, H⟩ := H
                  replace H : ((handmake_Stream_Pick.f l0 t343 (([1, 4, 999999, 0] : List Int))).bind fun bt347 => ((handmake_Stream_Next.f l0 bt347.2 (wrap64 ((mx t342 1) + 1))).bind fun bt349 => ((handmake_Stream_Pick.f l0 bt349.2 (([0, bt347.1, wrap64 (bt347.1 + 1), 1] : List Int))).bind fun bt354 => ((measure_Extra.f kj79 t342 bt349.1 bt347.1 bt354.1).bind fun bt356 => ((handref1_ExtraOf.f kj79 t342 bt349.1 bt347.1 bt354.1).bind fun bt360 => ((handlaw1_measures.f kj79).bind fun t364 => (if t364 = true then (if bt356.2.2 = bt360.2.2 then (some (bt356.1 == bt360.1 && (bt356.2.1 == bt360.2.1))) else (some false)) else (some false)))))))) = some r := H
                  have A87 := Aside0.mk A870
                  clear A870
                  obtain ⟨y344, hy344⟩ : ∃ y_ : List Int, y_ = (([1, 4, 999999, 0] : List Int)) := ⟨_, rfl⟩
                  replace H : ((handmake_Stream_Pick.f l0 t343 y344).bind fun bt347 => ((handmake_Stream_Next.f l0 bt347.2 (wrap64 ((mx t342 1) + 1))).bind fun bt349 => ((handmake_Stream_Pick.f l0 bt349.2 (([0, bt347.1, wrap64 (bt347.1 + 1), 1] : List Int))).bind fun bt354 => ((measure_Extra.f kj79 t342 bt349.1 bt347.1 bt354.1).bind fun bt356 => ((handref1_ExtraOf.f kj79 t342 bt349.1 bt347.1 bt354.1).bind fun bt360 => ((handlaw1_measures.f kj79).bind fun t364 => (if t364 = true then (if bt356.2.2 = bt360.2.2 then (some (bt356.1 == bt360.1 && (bt356.2.1 == bt360.2.1))) else (some false)) else (some false)))))))) = some r := by first | (rw [hy344]; with_reducible exact H) | (have H2_ := (Option.bind_some _ _).symm.trans H; rw [hy344]; with_reducible exact H2_) | (have H2_ := (Option.bind_some _ _).symm.trans H; with_reducible exact H2_) | with_reducible exact H | (rw [hy344]; exact H) | exact H
                  have Ny344 := Aside0.mk hy344
                  clear hy344
                  replace H := Option.bind_eq_some_iff.mp H
                  obtain ⟨⟨t347, t348⟩, A880, H⟩ := H
                  replace H : ((handmake_Stream_Next.f l0 t348 (wrap64 ((mx t342 1) + 1))).bind fun bt349 => ((handmake_Stream_Pick.f l0 bt349.2 (([0, t347, wrap64 (t347 + 1), 1] : List Int))).bind fun bt354 => ((measure_Extra.f kj79 t342 bt349.1 t347 bt354.1).bind fun bt356 => ((handref1_ExtraOf.f kj79 t342 bt349.1 t347 bt354.1).bind fun bt360 => ((handlaw1_measures.f kj79).bind fun t364 => (if t364 = true then (if bt356.2.2 = bt360.2.2 then (some (bt356.1 == bt360.1 && (bt356.2.1 == bt360.2.1))) else (some false)) else (some false))))))) = some r := H
                  have A88 := Aside0.mk A880
                  clear A880
                  obtain ⟨ji89, hji89⟩ : ∃ j_ : Int, (mx t342 1) = j_ := ⟨_, rfl⟩
                  replace H : ((handmake_Stream_Next.f l0 t348 (wrap64 ((ji89) + 1))).bind fun bt349 => ((handmake_Stream_Pick.f l0 bt349.2 (([0, t347, wrap64 (t347 + 1), 1] : List Int))).bind fun bt354 => ((measure_Extra.f kj79 t342 bt349.1 t347 bt354.1).bind fun bt356 => ((handref1_ExtraOf.f kj79 t342 bt349.1 t347 bt354.1).bind fun bt360 => ((handlaw1_measures.f kj79).bind fun t364 => (if t364 = true then (if bt356.2.2 = bt360.2.2 then (some (bt356.1 == bt360.1 && (bt356.2.1 == bt360.2.1))) else (some false)) else (some false))))))) = some r := by first | (rw [hji89] at H; exact H) | (simp only [hji89] at H ⊢; exact H)
                  (try rw [hji89] at A87)
                  (try rw [hji89] at A88)
                  (try (have hji89l : 1 ≤ ji89 := by (rw [← hji89]; unfold mx; (repeat' split) <;> omega)))
                  (try (have hji89m : 0 ≤ ji89 := by omega))
                  have hji89_ : (if t342 < 1 then 1 else t342) = ji89 := hji89
                  replace H := Option.bind_eq_some_iff.mp H
                  obtain ⟨⟨t349, t350⟩, A900, H⟩ := H
                  replace H : ((handmake_Stream_Pick.f l0 t350 (([0, t347, wrap64 (t347 + 1), 1] : List Int))).bind fun bt354 => ((measure_Extra.f kj79 t342 t349 t347 bt354.1).bind fun bt356 => ((handref1_ExtraOf.f kj79 t342 t349 t347 bt354.1).bind fun bt360 => ((handlaw1_measures.f kj79).bind fun t364 => (if t364 = true then (if bt356.2.2 = bt360.2.2 then (some (bt356.1 == bt360.1 && (bt356.2.1 == bt360.2.1))) else (some false)) else (some false)))))) = some r := H
                  have A90 := Aside0.mk A900
                  clear A900
                  obtain ⟨y351, hy351⟩ : ∃ y_ : List Int, y_ = (([0, t347, wrap64 (t347 + 1), 1] : List Int)) := ⟨_, rfl⟩
                  replace H : ((handmake_Stream_Pick.f l0 t350 y351).bind fun bt354 => ((measure_Extra.f kj79 t342 t349 t347 bt354.1).bind fun bt356 => ((handref1_ExtraOf.f kj79 t342 t349 t347 bt354.1).bind fun bt360 => ((handlaw1_measures.f kj79).bind fun t364 => (if t364 = true then (if bt356.2.2 = bt360.2.2 then (some (bt356.1 == bt360.1 && (bt356.2.1 == bt360.2.1))) else (some false)) else (some false)))))) = some r := by first | (rw [hy351]; with_reducible exact H) | (have H2_ := (Option.bind_some _ _).symm.trans H; rw [hy351]; with_reducible exact H2_) | (have H2_ := (Option.bind_some _ _).symm.trans H; with_reducible exact H2_) | with_reducible exact H | (rw [hy351]; exact H) | exact H
                  have Ny351 := Aside0.mk hy351
                  clear hy351
                  replace H := Option.bind_eq_some_iff.mp H
                  obtain ⟨⟨t354, t355⟩, A910, H⟩ := H
                  replace H : ((measure_Extra.f kj79 t342 t349 t347 t354).bind fun bt356 => ((handref1_ExtraOf.f kj79 t342 t349 t347 t354).bind fun bt360 => ((handlaw1_measures.f kj79).bind fun t364 => (if t364 = true then (if bt356.2.2 = bt360.2.2 then (some (bt356.1 == bt360.1 && (bt356.2.1 == bt360.2.1))) else (some false)) else (some false))))) = some r := H
                  have A91 := Aside0.mk A910
                  clear A910
                  replace H := Option.bind_eq_some_iff.mp H
                  obtain ⟨⟨t356, t357, t358⟩, A920, H⟩ := H
                  replace H : ((handref1_ExtraOf.f kj79 t342 t349 t347 t354).bind fun bt360 => ((handlaw1_measures.f kj79).bind fun t364 => (if t364 = true then (if t358 = bt360.2.2 then (some (t356 == bt360.1 && (t357 == bt360.2.1))) else (some false)) else (some false)))) = some r := H
                  have A92 := Aside0.mk A920
                  clear A920
                  replace H := Option.bind_eq_some_iff.mp H
                  obtain ⟨⟨t360, t361, t362⟩, A930, H⟩ := H
                  replace H : ((handlaw1_measures.f kj79).bind fun t364 => (if t364 = true then (if t358 = t362 then (some (t356 == t360 && (t357 == t361))) else (some false)) else (some false))) = some r := H
                  have A93 := Aside0.mk A930
                  clear A930
                  have HC94 := Aside0.mk H
                  clear H
                  go_upto_region 24 with (first | ((with_reducible refine gate_dst (N := 184) rfl ?_); refine Kd.R_lit (Kd.int .i64) _ 3 ?hg (N := 184) ?hd (xs := ([1, 4, 1000, 1000000, 0, 1000001] : List Int)) (inner := [.int .i64 1, .int .i64 4, .int .i64 1000, .int .i64 1000000, .int .i64 0, .int .i64 1000001]) (ok := fun _ => True) (okp := fun _ => True) ?hr ?hp (fun _ hk => hk) trivial (Below.refl _ _) (Nat.le_refl _) (by simp) ?_; (case hd => rfl); (case hg => rfl); (case hr => first | (go_simp; done) | (go_simp; rfl)); (case hp => exact (Reps.one (show Kd.M (Kd.int .i64) _ _ _ 1 [.int .i64 1] from rfl) (Reps.one (show Kd.M (Kd.int .i64) _ _ _ 4 [.int .i64 4] from rfl) (Reps.one (show Kd.M (Kd.int .i64) _ _ _ 1000 [.int .i64 1000] from rfl) (Reps.one (show Kd.M (Kd.int .i64) _ _ _ 1000000 [.int .i64 1000000] from rfl) (Reps.one (show Kd.M (Kd.int .i64) _ _ _ 0 [.int .i64 0] from rfl) (Reps.one (show Kd.M (Kd.int .i64) _ _ _ 1000001 [.int .i64 1000001] from rfl) (Reps.none _ _)))))))); intro v340 w95 ho96 hb hg_ hnew_; clear hg_ hnew_; (first | rw [← Ny339.out] at ho96 | (simp only [Int.reduceToNat] at ho96; rw [← Ny339.out] at ho96)); have n0_ := Aside0.mk (Kd.R_lower ho96 (below_size q1x9_)); have n1_ := Aside0.mk (blk_below (g := gb299) (o := .cells #[.int .i64 t296, .int .i64 t297] 28 (0, 0)) q3x9_ hb); have n2_ := Aside0.mk (blk_below (g := gb319) (o := .cells #[.int .i64 t316, .int .i64 t317] 28 (0, 0)) q5x9_ hb); have n3_ := Aside0.mk (IsS25.below q4x9_ hb); have n4_ := Aside0.mk (below_step q1x9_ hb); clear BK299; clear BK319; clear HI283; clear HB; have HO341 := n0_; have BK299 := n1_; have BK319 := n2_; have HI283 := n3_; have HB := n4_; clear n0_ n1_ n2_ n3_ n4_; clear hb ho96; obtain ⟨Ao97, co97, eo97⟩ := Kd.R_slice HO341.out; subst eo97) | ((with_reducible refine gate_callee (f := 30) rfl ?_); refine goesL_ (some 185) rfl rfl Try.func30 q11x9_ rfl #[.pointer (some ⟨gb283, 0, none⟩), .slice Ao97 y339.length co97] rfl q7x9_ ?_; (with_reducible refine (handmake_Stream_Pick.calls gb283 l0 t311 _ _ y339 t342 t343 w _ ?side1 ?side2 ?side3 ?side4 ?side5 A87.out).mono ?_); (case side1 => repeat (first | (with_reducible first | exact HI283.out | apply IsS25.alloc | apply IsS25.drewN | apply IsS25.drew | apply IsS25.set_1 | refine IsS25.far ?_ NB283_299.out _ | refine IsS25.far ?_ NB283_319.out _) | exact HI283.out)); (case side2 => repeat (first | (with_reducible first | exact HB.out | apply below_alloc | apply pw_below_drewN | apply below_drew1 | refine below_set ?_ (IsS25.ge HI283.out) | refine below_set ?_ GE299.out | refine below_set ?_ GE319.out) | exact HB.out)); (case side3 => repeat (first | exact (Kd.R_reads' HO341.out).2.2 | (with_reducible refine Kd.C_alloc ?_ _) | (with_reducible refine Kd.C_drewN ?_ _) | (with_reducible refine Kd.C_drew ?_))); (case side4 => exact (Kd.R_reads' HO341.out).2.1); (case side5 => exact far_slice (IsS25.own_ne HI283.out HO341.out (by decide))); rintro e w98 ⟨rfl, hi, hb, hk⟩; refine ⟨_, rfl, ?_⟩; have n0_ := Aside0.mk (KeepBut.blk hk (g' := gb299) (o := .cells #[.int .i64 t296, .int .i64 t297] 28 (0, 0)) q3x9_ NB299_283.out (by simp)); have n1_ := Aside0.mk (KeepBut.blk hk (g' := gb319) (o := .cells #[.int .i64 t316, .int .i64 t317] 28 (0, 0)) q5x9_ NB319_283.out (by simp)); have n2_ := Aside0.mk (Kd.R_mono (Kd.R_keep (IsS25.apart (show IsS25 w _ gb283 l0 t311 from by repeat (first | (with_reducible first | exact HI283.out | apply IsS25.alloc | apply IsS25.drewN | apply IsS25.drew | apply IsS25.set_1 | refine IsS25.far ?_ NB283_299.out _ | refine IsS25.far ?_ NB283_319.out _) | exact HI283.out)) q14x9_ (by decide)) hk (fun _ h => h.2)) (fun _ h => h.1)); have n3_ := Aside0.mk (hb); have n4_ := Aside0.mk (hi); clear BK299; clear BK319; clear HO341; clear HB; clear HI283; have BK299 := n0_; have BK319 := n1_; have HO341 := n2_; have HB := n3_; have HI283 := n4_; clear n0_ n1_ n2_ n3_ n4_; (try clear hb); (try clear hb2); (try clear hk); (try clear hi)) | ((with_reducible refine gate_dst (N := 187) rfl ?_); refine Kd.R_lit (Kd.int .i64) _ 3 ?hg (N := 187) ?hd (xs := ([1, 4, 999999, 0] : List Int)) (inner := [.int .i64 1, .int .i64 4, .int .i64 999999, .int .i64 0]) (ok := fun _ => True) (okp := fun _ => True) ?hr ?hp (fun _ hk => hk) trivial (Below.refl _ _) (Nat.le_refl _) (by simp) ?_; (case hd => rfl); (case hg => rfl); (case hr => first | (go_simp; done) | (go_simp; rfl)); (case hp => exact (Reps.one (show Kd.M (Kd.int .i64) _ _ _ 1 [.int .i64 1] from rfl) (Reps.one (show Kd.M (Kd.int .i64) _ _ _ 4 [.int .i64 4] from rfl) (Reps.one (show Kd.M (Kd.int .i64) _ _ _ 999999 [.int .i64 999999] from rfl) (Reps.one (show Kd.M (Kd.int .i64) _ _ _ 0 [.int .i64 0] from rfl) (Reps.none _ _)))))); intro v345 w99 ho100 hb hg_ hnew_; clear hg_ hnew_; (first | rw [← Ny344.out] at ho100 | (simp only [Int.reduceToNat] at ho100; rw [← Ny344.out] at ho100)); have n0_ := Aside0.mk (Kd.R_elder' q14x9_ (Kd.R_base ho100) hb); have n1_ := Aside0.mk (Kd.R_lower (Kd.R_new' ho100 (Kd.R_lt q14x9_)) (below_size q1x9_)); have n2_ := Aside0.mk (blk_below (g := gb299) (o := .cells #[.int .i64 t296, .int .i64 t297] 28 (0, 0)) q3x9_ hb); have n3_ := Aside0.mk (blk_below (g := gb319) (o := .cells #[.int .i64 t316, .int .i64 t317] 28 (0, 0)) q5x9_ hb); have n4_ := Aside0.mk (IsS25.below q4x9_ hb); have n5_ := Aside0.mk (below_step q1x9_ hb); clear HO341; clear BK299; clear BK319; clear HI283; clear HB; have HO341 := n0_; have HO346 := n1_; have BK299 := n2_; have BK319 := n3_; have HI283 := n4_; have HB := n5_; clear n0_ n1_ n2_ n3_ n4_ n5_; clear hb ho100; obtain ⟨Ao101, co101, eo101⟩ := Kd.R_slice HO346.out; subst eo101) | ((with_reducible refine gate_callee (f := 30) rfl ?_); refine goesL_ (some 188) rfl rfl Try.func30 q11x9_ rfl #[.pointer (some ⟨gb283, 0, none⟩), .slice Ao101 y344.length co101] rfl q7x9_ ?_; (with_reducible refine (handmake_Stream_Pick.calls gb283 l0 t343 _ _ y344 t347 t348 w _ ?side1 ?side2 ?side3 ?side4 ?side5 A88.out).mono ?_); (case side1 => repeat (first | (with_reducible first | exact HI283.out | apply IsS25.alloc | apply IsS25.drewN | apply IsS25.drew | apply IsS25.set_1 | refine IsS25.far ?_ NB283_299.out _ | refine IsS25.far ?_ NB283_319.out _) | exact HI283.out)); (case side2 => repeat (first | (with_reducible first | exact HB.out | apply below_alloc | apply pw_below_drewN | apply below_drew1 | refine below_set ?_ (IsS25.ge HI283.out) | refine below_set ?_ GE299.out | refine below_set ?_ GE319.out) | exact HB.out)); (case side3 => repeat (first | exact (Kd.R_reads' HO346.out).2.2 | (with_reducible refine Kd.C_alloc ?_ _) | (with_reducible refine Kd.C_drewN ?_ _) | (with_reducible refine Kd.C_drew ?_))); (case side4 => exact (Kd.R_reads' HO346.out).2.1); (case side5 => exact far_slice (IsS25.own_ne HI283.out HO346.out (by decide))); rintro e w102 ⟨rfl, hi, hb, hk⟩; refine ⟨_, rfl, ?_⟩; have n0_ := Aside0.mk (KeepBut.blk hk (g' := gb299) (o := .cells #[.int .i64 t296, .int .i64 t297] 28 (0, 0)) q3x9_ NB299_283.out (by simp)); have n1_ := Aside0.mk (KeepBut.blk hk (g' := gb319) (o := .cells #[.int .i64 t316, .int .i64 t317] 28 (0, 0)) q5x9_ NB319_283.out (by simp)); have n2_ := Aside0.mk (Kd.R_mono (Kd.R_keep (IsS25.apart (show IsS25 w _ gb283 l0 t343 from by repeat (first | (with_reducible first | exact HI283.out | apply IsS25.alloc | apply IsS25.drewN | apply IsS25.drew | apply IsS25.set_1 | refine IsS25.far ?_ NB283_299.out _ | refine IsS25.far ?_ NB283_319.out _) | exact HI283.out)) q14x9_ (by decide)) hk (fun _ h => h.2)) (fun _ h => h.1)); have n3_ := Aside0.mk (Kd.R_mono (Kd.R_keep (IsS25.apart (show IsS25 w _ gb283 l0 t343 from by repeat (first | (with_reducible first | exact HI283.out | apply IsS25.alloc | apply IsS25.drewN | apply IsS25.drew | apply IsS25.set_1 | refine IsS25.far ?_ NB283_299.out _ | refine IsS25.far ?_ NB283_319.out _) | exact HI283.out)) q23x9_ (by decide)) hk (fun _ h => h.2)) (fun _ h => h.1)); have n4_ := Aside0.mk (hb); have n5_ := Aside0.mk (hi); clear BK299; clear BK319; clear HO341; clear HO346; clear HB; clear HI283; have BK299 := n0_; have BK319 := n1_; have HO341 := n2_; have HO346 := n3_; have HB := n4_; have HI283 := n5_; clear n0_ n1_ n2_ n3_ n4_ n5_; (try clear hb); (try clear hb2); (try clear hk); (try clear hi)) | ((with_reducible refine gate_callee (f := 12) rfl ?_); refine goesL_ (some 193) rfl rfl Try.func12 q11x9_ rfl #[.pointer (some ⟨gb283, 0, none⟩), .int .i64 (wrap64 ((ji89) + 1))] rfl (by (try simp only [List.map_toArray, List.map_cons, List.map_nil]); first | done | (simp only [hji89]; rfl) | rfl | (simp only [List.length_drop, List.length_take]; rfl)) ?_; (with_reducible refine (handmake_Stream_Next.calls gb283 l0 t348 (wrap64 ((ji89) + 1)) t349 t350 w _ ?side1 ?side2 A90.out).mono ?_); (case side1 => repeat (first | (with_reducible first | exact HI283.out | apply IsS25.alloc | apply IsS25.drewN | apply IsS25.drew | apply IsS25.set_1 | refine IsS25.far ?_ NB283_299.out _ | refine IsS25.far ?_ NB283_319.out _) | exact HI283.out)); (case side2 => repeat (first | (with_reducible first | exact HB.out | apply below_alloc | apply pw_below_drewN | apply below_drew1 | refine below_set ?_ (IsS25.ge HI283.out) | refine below_set ?_ GE299.out | refine below_set ?_ GE319.out) | exact HB.out)); rintro e w103 ⟨rfl, hi, hb, hk⟩; refine ⟨_, rfl, ?_⟩; have n0_ := Aside0.mk (KeepBut.blk hk (g' := gb299) (o := .cells #[.int .i64 t296, .int .i64 t297] 28 (0, 0)) q3x9_ NB299_283.out (by simp)); have n1_ := Aside0.mk (KeepBut.blk hk (g' := gb319) (o := .cells #[.int .i64 t316, .int .i64 t317] 28 (0, 0)) q5x9_ NB319_283.out (by simp)); have n2_ := Aside0.mk (Kd.R_mono (Kd.R_keep (IsS25.apart (show IsS25 w _ gb283 l0 t348 from by repeat (first | (with_reducible first | exact HI283.out | apply IsS25.alloc | apply IsS25.drewN | apply IsS25.drew | apply IsS25.set_1 | refine IsS25.far ?_ NB283_299.out _ | refine IsS25.far ?_ NB283_319.out _) | exact HI283.out)) q14x9_ (by decide)) hk (fun _ h => h.2)) (fun _ h => h.1)); have n3_ := Aside0.mk (Kd.R_mono (Kd.R_keep (IsS25.apart (show IsS25 w _ gb283 l0 t348 from by repeat (first | (with_reducible first | exact HI283.out | apply IsS25.alloc | apply IsS25.drewN | apply IsS25.drew | apply IsS25.set_1 | refine IsS25.far ?_ NB283_299.out _ | refine IsS25.far ?_ NB283_319.out _) | exact HI283.out)) q23x9_ (by decide)) hk (fun _ h => h.2)) (fun _ h => h.1)); have n4_ := Aside0.mk (hb); have n5_ := Aside0.mk (hi); clear BK299; clear BK319; clear HO341; clear HO346; clear HB; clear HI283; have BK299 := n0_; have BK319 := n1_; have HO341 := n2_; have HO346 := n3_; have HB := n4_; have HI283 := n5_; clear n0_ n1_ n2_ n3_ n4_ n5_; (try clear hb); (try clear hb2); (try clear hk); (try clear hi)) | ((with_reducible refine gate_dst (N := 198) rfl ?_); refine Kd.R_lit (Kd.int .i64) _ 3 ?hg (N := 198) ?hd (xs := ([0, t347, wrap64 (t347 + 1), 1] : List Int)) (inner := [.int .i64 0, .int .i64 t347, .int .i64 (wrap64 (t347 + 1)), .int .i64 1]) (ok := fun _ => True) (okp := fun _ => True) ?hr ?hp (fun _ hk => hk) trivial (Below.refl _ _) (Nat.le_refl _) (by simp) ?_; (case hd => rfl); (case hg => rfl); (case hr => first | (go_simp; done) | (go_simp; rfl)); (case hp => exact (Reps.one (show Kd.M (Kd.int .i64) _ _ _ 0 [.int .i64 0] from rfl) (Reps.one (show Kd.M (Kd.int .i64) _ _ _ t347 [.int .i64 t347] from rfl) (Reps.one (show Kd.M (Kd.int .i64) _ _ _ (wrap64 (t347 + 1)) [.int .i64 (wrap64 (t347 + 1))] from rfl) (Reps.one (show Kd.M (Kd.int .i64) _ _ _ 1 [.int .i64 1] from rfl) (Reps.none _ _)))))); intro v352 w104 ho105 hb hg_ hnew_; clear hg_ hnew_; (first | rw [← Ny351.out] at ho105 | (simp only [Int.reduceToNat] at ho105; rw [← Ny351.out] at ho105)); have n0_ := Aside0.mk (Kd.R_elder' q14x9_ (Kd.R_base ho105) hb); have n1_ := Aside0.mk (Kd.R_elder' q23x9_ (Kd.R_base ho105) hb); have n2_ := Aside0.mk (Kd.R_lower (Kd.R_new' (Kd.R_new' ho105 (Kd.R_lt q14x9_)) (Kd.R_lt q23x9_)) (below_size q1x9_)); have n3_ := Aside0.mk (blk_below (g := gb299) (o := .cells #[.int .i64 t296, .int .i64 t297] 28 (0, 0)) q3x9_ hb); have n4_ := Aside0.mk (blk_below (g := gb319) (o := .cells #[.int .i64 t316, .int .i64 t317] 28 (0, 0)) q5x9_ hb); have n5_ := Aside0.mk (IsS25.below q4x9_ hb); have n6_ := Aside0.mk (below_step q1x9_ hb); clear HO341; clear HO346; clear BK299; clear BK319; clear HI283; clear HB; have HO341 := n0_; have HO346 := n1_; have HO353 := n2_; have BK299 := n3_; have BK319 := n4_; have HI283 := n5_; have HB := n6_; clear n0_ n1_ n2_ n3_ n4_ n5_ n6_; clear hb ho105; obtain ⟨Ao106, co106, eo106⟩ := Kd.R_slice HO353.out; subst eo106) | ((with_reducible refine gate_callee (f := 30) rfl ?_); refine goesL_ (some 199) rfl rfl Try.func30 q11x9_ rfl #[.pointer (some ⟨gb283, 0, none⟩), .slice Ao106 y351.length co106] rfl q7x9_ ?_; (with_reducible refine (handmake_Stream_Pick.calls gb283 l0 t350 _ _ y351 t354 t355 w _ ?side1 ?side2 ?side3 ?side4 ?side5 A91.out).mono ?_); (case side1 => repeat (first | (with_reducible first | exact HI283.out | apply IsS25.alloc | apply IsS25.drewN | apply IsS25.drew | apply IsS25.set_1 | refine IsS25.far ?_ NB283_299.out _ | refine IsS25.far ?_ NB283_319.out _) | exact HI283.out)); (case side2 => repeat (first | (with_reducible first | exact HB.out | apply below_alloc | apply pw_below_drewN | apply below_drew1 | refine below_set ?_ (IsS25.ge HI283.out) | refine below_set ?_ GE299.out | refine below_set ?_ GE319.out) | exact HB.out)); (case side3 => repeat (first | exact (Kd.R_reads' HO353.out).2.2 | (with_reducible refine Kd.C_alloc ?_ _) | (with_reducible refine Kd.C_drewN ?_ _) | (with_reducible refine Kd.C_drew ?_))); (case side4 => exact (Kd.R_reads' HO353.out).2.1); (case side5 => exact far_slice (IsS25.own_ne HI283.out HO353.out (by decide))); rintro e w107 ⟨rfl, hi, hb, hk⟩; refine ⟨_, rfl, ?_⟩; have n0_ := Aside0.mk (KeepBut.blk hk (g' := gb299) (o := .cells #[.int .i64 t296, .int .i64 t297] 28 (0, 0)) q3x9_ NB299_283.out (by simp)); have n1_ := Aside0.mk (KeepBut.blk hk (g' := gb319) (o := .cells #[.int .i64 t316, .int .i64 t317] 28 (0, 0)) q5x9_ NB319_283.out (by simp)); have n2_ := Aside0.mk (Kd.R_mono (Kd.R_keep (IsS25.apart (show IsS25 w _ gb283 l0 t350 from by repeat (first | (with_reducible first | exact HI283.out | apply IsS25.alloc | apply IsS25.drewN | apply IsS25.drew | apply IsS25.set_1 | refine IsS25.far ?_ NB283_299.out _ | refine IsS25.far ?_ NB283_319.out _) | exact HI283.out)) q14x9_ (by decide)) hk (fun _ h => h.2)) (fun _ h => h.1)); have n3_ := Aside0.mk (Kd.R_mono (Kd.R_keep (IsS25.apart (show IsS25 w _ gb283 l0 t350 from by repeat (first | (with_reducible first | exact HI283.out | apply IsS25.alloc | apply IsS25.drewN | apply IsS25.drew | apply IsS25.set_1 | refine IsS25.far ?_ NB283_299.out _ | refine IsS25.far ?_ NB283_319.out _) | exact HI283.out)) q23x9_ (by decide)) hk (fun _ h => h.2)) (fun _ h => h.1)); have n4_ := Aside0.mk (Kd.R_mono (Kd.R_keep (IsS25.apart (show IsS25 w _ gb283 l0 t350 from by repeat (first | (with_reducible first | exact HI283.out | apply IsS25.alloc | apply IsS25.drewN | apply IsS25.drew | apply IsS25.set_1 | refine IsS25.far ?_ NB283_299.out _ | refine IsS25.far ?_ NB283_319.out _) | exact HI283.out)) q36x9_ (by decide)) hk (fun _ h => h.2)) (fun _ h => h.1)); have n5_ := Aside0.mk (hb); have n6_ := Aside0.mk (hi); clear BK299; clear BK319; clear HO341; clear HO346; clear HO353; clear HB; clear HI283; have BK299 := n0_; have BK319 := n1_; have HO341 := n2_; have HO346 := n3_; have HO353 := n4_; have HB := n5_; have HI283 := n6_; clear n0_ n1_ n2_ n3_ n4_ n5_ n6_; (try clear hb); (try clear hb2); (try clear hk); (try clear hi)) | ((with_reducible refine gate_callee (f := 39) rfl ?_); refine goesL_ (some 205) rfl rfl Try.func39 q11x9_ rfl #[.int .i64 t342, .int .i64 t349, .int .i64 t347, .int .i64 t354] rfl q7x9_ ?_; (with_reducible refine (measure_Extra.calls kj79 t342 t349 t347 t354 t356 t357 t358 _ A92.out).mono ?_); rintro e w108 ⟨rfl, hb⟩; refine ⟨_, rfl, ?_⟩; have n0_ := Aside0.mk (Kd.R_below q14x9_ hb); have n1_ := Aside0.mk (Kd.R_below q23x9_ hb); have n2_ := Aside0.mk (Kd.R_below q36x9_ hb); have n3_ := Aside0.mk (blk_below (g := gb299) (o := .cells #[.int .i64 t296, .int .i64 t297] 28 (0, 0)) q3x9_ hb); have n4_ := Aside0.mk (blk_below (g := gb319) (o := .cells #[.int .i64 t316, .int .i64 t317] 28 (0, 0)) q5x9_ hb); have n5_ := Aside0.mk (IsS25.below q4x9_ hb); have n6_ := Aside0.mk (below_step q1x9_ hb); clear HO341; clear HO346; clear HO353; clear BK299; clear BK319; clear HI283; clear HB; have HO341 := n0_; have HO346 := n1_; have HO353 := n2_; have BK299 := n3_; have BK319 := n4_; have HI283 := n5_; have HB := n6_; clear n0_ n1_ n2_ n3_ n4_ n5_ n6_; (try clear hb); (try clear hb2); (try clear hk); (try clear hi)) | ((with_reducible refine gate_dst (N := 23) rfl ?_); refine box_event ?hg (N := 23) ?hd (cs := #[.int .i64 0, .int .i64 0]) (t := 28) ?hr ?_; (case hd => rfl); (case hg => rfl); (case hr => first | (go_simp; done) | (go_simp; rfl)); intro gb359 hg w109 hbox hb; have n0_ := Aside0.mk (Kd.R_below q14x9_ hb); have n1_ := Aside0.mk (Kd.R_below q23x9_ hb); have n2_ := Aside0.mk (Kd.R_below q36x9_ hb); have n3_ := Aside0.mk (blk_below (g := gb299) (o := .cells #[.int .i64 t296, .int .i64 t297] 28 (0, 0)) q3x9_ hb); have n4_ := Aside0.mk (blk_below (g := gb319) (o := .cells #[.int .i64 t316, .int .i64 t317] 28 (0, 0)) q5x9_ hb); have n5_ := Aside0.mk (IsS25.below q4x9_ hb); have n6_ := Aside0.mk (below_step q1x9_ hb); have n7_ := Aside0.mk (hbox); have n8_ := Aside0.mk ((by rw [hg]; exact (below_size q1x9_) : w.heap.size ≤ gb359)); have n9_ := Aside0.mk ((by rw [hg]; exact (below_size q1x9_) : w.heap.size ≤ gb359)); have n10_ := Aside0.mk ((by rw [hg]; exact Nat.ne_of_lt (blk_lt (g := gb299) (o := .cells #[.int .i64 t296, .int .i64 t297] 28 (0, 0)) q3x9_) : gb299 ≠ gb359)); have n11_ := Aside0.mk ((by rw [hg]; exact Nat.ne_of_gt (blk_lt (g := gb299) (o := .cells #[.int .i64 t296, .int .i64 t297] 28 (0, 0)) q3x9_) : gb359 ≠ gb299)); have n12_ := Aside0.mk ((by rw [hg]; exact Nat.ne_of_lt (blk_lt (g := gb319) (o := .cells #[.int .i64 t316, .int .i64 t317] 28 (0, 0)) q5x9_) : gb319 ≠ gb359)); have n13_ := Aside0.mk ((by rw [hg]; exact Nat.ne_of_gt (blk_lt (g := gb319) (o := .cells #[.int .i64 t316, .int .i64 t317] 28 (0, 0)) q5x9_) : gb359 ≠ gb319)); have n14_ := Aside0.mk ((by rw [hg]; exact Nat.ne_of_lt (IsS25.lt (show IsS25 w _ gb283 l0 t355 from by repeat (first | (with_reducible first | exact HI283.out | apply IsS25.alloc | apply IsS25.drewN | apply IsS25.drew | apply IsS25.set_1 | refine IsS25.far ?_ NB283_299.out _ | refine IsS25.far ?_ NB283_319.out _) | exact HI283.out))) : gb283 ≠ gb359)); have n15_ := Aside0.mk ((by rw [hg]; exact Nat.ne_of_gt (IsS25.lt (show IsS25 w _ gb283 l0 t355 from by repeat (first | (with_reducible first | exact HI283.out | apply IsS25.alloc | apply IsS25.drewN | apply IsS25.drew | apply IsS25.set_1 | refine IsS25.far ?_ NB283_299.out _ | refine IsS25.far ?_ NB283_319.out _) | exact HI283.out))) : gb359 ≠ gb283)); clear HO341; clear HO346; clear HO353; clear BK299; clear BK319; clear HI283; clear HB; have HO341 := n0_; have HO346 := n1_; have HO353 := n2_; have BK299 := n3_; have BK319 := n4_; have HI283 := n5_; have HB := n6_; have BK359 := n7_; have GW359 := n8_; have GE359 := n9_; have NB299_359 := n10_; have NB359_299 := n11_; have NB319_359 := n12_; have NB359_319 := n13_; have NB283_359 := n14_; have NB359_283 := n15_; clear n0_ n1_ n2_ n3_ n4_ n5_ n6_ n7_ n8_ n9_ n10_ n11_ n12_ n13_ n14_ n15_; clear hb hbox hg; have hnb110 := NB359_299.out; have hnc110 := NB299_359.out; have hnb111 := NB359_319.out; have hnc111 := NB319_359.out; have hnb112 := NB359_283.out; have hnc112 := NB283_359.out; have hcz113_0 : w109.cell? ⟨gb359, 0, none⟩ = some (.int .i64 0) := (blk_cell BK359.out 0).trans rfl; have hcz113_1 : w109.cell? ⟨gb359, 1, none⟩ = some (.int .i64 0) := (blk_cell BK359.out 1).trans rfl; have hfz113_0 := blk_frozen BK359.out 0; have hfz113_1 := blk_frozen BK359.out 1) | ((with_reducible refine gate_callee (f := 40) rfl ?_); refine goesL_ (some 213) rfl rfl Try.func40 q11x9_ rfl #[.int .i64 t342, .int .i64 t349, .int .i64 t347, .int .i64 t354] rfl q7x9_ ?_; (with_reducible refine (handref1_ExtraOf.calls kj79 t342 t349 t347 t354 t360 t361 t362 _ A93.out).mono ?_); rintro e w114 ⟨rfl, hb⟩; refine ⟨_, rfl, ?_⟩; have n0_ := Aside0.mk (Kd.R_below (by (with_reducible repeat (first | apply Kd.R_alloc | apply Kd.R_drewN | apply Kd.R_drew)); exact (Kd.R_mono (Kd.R_far (p := ⟨gb359, 1, none⟩) (Kd.R_far (p := ⟨gb359, 0, none⟩) (Kd.R_types HO341.out BK359.out (by decide)) (fun _ hk => hk.2) (.int .i64 t356)) (fun _ hk => hk.2) (.int .i64 t357)) (fun _ h_ => h_.1))) hb); have n1_ := Aside0.mk (Kd.R_below (by (with_reducible repeat (first | apply Kd.R_alloc | apply Kd.R_drewN | apply Kd.R_drew)); exact (Kd.R_mono (Kd.R_far (p := ⟨gb359, 1, none⟩) (Kd.R_far (p := ⟨gb359, 0, none⟩) (Kd.R_types HO346.out BK359.out (by decide)) (fun _ hk => hk.2) (.int .i64 t356)) (fun _ hk => hk.2) (.int .i64 t357)) (fun _ h_ => h_.1))) hb); have n2_ := Aside0.mk (Kd.R_below (by (with_reducible repeat (first | apply Kd.R_alloc | apply Kd.R_drewN | apply Kd.R_drew)); exact (Kd.R_mono (Kd.R_far (p := ⟨gb359, 1, none⟩) (Kd.R_far (p := ⟨gb359, 0, none⟩) (Kd.R_types HO353.out BK359.out (by decide)) (fun _ hk => hk.2) (.int .i64 t356)) (fun _ hk => hk.2) (.int .i64 t357)) (fun _ h_ => h_.1))) hb); have n3_ := Aside0.mk (blk_below (g := gb299) (o := .cells #[.int .i64 t296, .int .i64 t297] 28 (0, 0)) (by (with_reducible repeat (first | refine blk_drewN ?_ _ | refine blk_drew ?_ | refine blk_alloc ?_ _)); refine blk_far ?_ NB299_359.out _; (with_reducible repeat (first | refine blk_drewN ?_ _ | refine blk_drew ?_ | refine blk_alloc ?_ _)); refine blk_far ?_ NB299_359.out _; (with_reducible repeat (first | refine blk_drewN ?_ _ | refine blk_drew ?_ | refine blk_alloc ?_ _)); exact BK299.out) hb); have n4_ := Aside0.mk (blk_below (g := gb319) (o := .cells #[.int .i64 t316, .int .i64 t317] 28 (0, 0)) (by (with_reducible repeat (first | refine blk_drewN ?_ _ | refine blk_drew ?_ | refine blk_alloc ?_ _)); refine blk_far ?_ NB319_359.out _; (with_reducible repeat (first | refine blk_drewN ?_ _ | refine blk_drew ?_ | refine blk_alloc ?_ _)); refine blk_far ?_ NB319_359.out _; (with_reducible repeat (first | refine blk_drewN ?_ _ | refine blk_drew ?_ | refine blk_alloc ?_ _)); exact BK319.out) hb); have n5_ := Aside0.mk (IsS25.below (show IsS25 w ((w109.setCell ⟨gb359, 0, none⟩ (.int .i64 t356)).setCell ⟨gb359, 1, none⟩ (.int .i64 t357)) gb283 l0 t355 from by repeat (first | (with_reducible first | exact HI283.out | apply IsS25.alloc | apply IsS25.drewN | apply IsS25.drew | apply IsS25.set_1 | refine IsS25.far ?_ NB283_299.out _ | refine IsS25.far ?_ NB283_319.out _ | refine IsS25.far ?_ NB283_359.out _) | exact HI283.out)) hb); have n6_ := Aside0.mk (blk_below (g := gb359) (o := .cells #[.int .i64 t356, .int .i64 t357] 28 (0, 0)) (by (with_reducible repeat (first | refine blk_drewN ?_ _ | refine blk_drew ?_ | refine blk_alloc ?_ _)); refine blk_put (cs := #[.int .i64 t356, .int .i64 0]) ?_ 1 _ rfl; (with_reducible repeat (first | refine blk_drewN ?_ _ | refine blk_drew ?_ | refine blk_alloc ?_ _)); refine blk_put (cs := #[.int .i64 0, .int .i64 0]) ?_ 0 _ rfl; (with_reducible repeat (first | refine blk_drewN ?_ _ | refine blk_drew ?_ | refine blk_alloc ?_ _)); exact BK359.out) hb); have n7_ := Aside0.mk (below_step q17x9_ hb); clear HO341; clear HO346; clear HO353; clear BK299; clear BK319; clear HI283; clear BK359; clear HB; have HO341 := n0_; have HO346 := n1_; have HO353 := n2_; have BK299 := n3_; have BK319 := n4_; have HI283 := n5_; have BK359 := n6_; have HB := n7_; clear n0_ n1_ n2_ n3_ n4_ n5_ n6_ n7_; (try clear hb); (try clear hb2); (try clear hk); (try clear hi)) | ((with_reducible refine gate_dst (N := 25) rfl ?_); refine box_event ?hg (N := 25) ?hd (cs := #[.int .i64 0, .int .i64 0]) (t := 28) ?hr ?_; (case hd => rfl); (case hg => rfl); (case hr => first | (go_simp; done) | (go_simp; rfl)); intro gb363 hg w115 hbox hb; have n0_ := Aside0.mk (Kd.R_below q14x9_ hb); have n1_ := Aside0.mk (Kd.R_below q23x9_ hb); have n2_ := Aside0.mk (Kd.R_below q36x9_ hb); have n3_ := Aside0.mk (blk_below (g := gb299) (o := .cells #[.int .i64 t296, .int .i64 t297] 28 (0, 0)) q3x9_ hb); have n4_ := Aside0.mk (blk_below (g := gb319) (o := .cells #[.int .i64 t316, .int .i64 t317] 28 (0, 0)) q5x9_ hb); have n5_ := Aside0.mk (IsS25.below (by repeat (first | (with_reducible first | exact HI283.out | apply IsS25.alloc | apply IsS25.drewN | apply IsS25.drew | apply IsS25.set_1 | refine IsS25.far ?_ NB283_299.out _ | refine IsS25.far ?_ NB283_319.out _ | refine IsS25.far ?_ NB283_359.out _) | exact HI283.out)) hb); have n6_ := Aside0.mk (blk_below (g := gb359) (o := .cells #[.int .i64 t356, .int .i64 t357] 28 (0, 0)) q39x9_ hb); have n7_ := Aside0.mk (below_step q17x9_ hb); have n8_ := Aside0.mk (hbox); have n9_ := Aside0.mk ((by rw [hg]; exact (below_size q17x9_) : w.heap.size ≤ gb363)); have n10_ := Aside0.mk ((by rw [hg]; exact (below_size q17x9_) : w.heap.size ≤ gb363)); have n11_ := Aside0.mk ((by rw [hg]; exact Nat.ne_of_lt (blk_lt (g := gb299) (o := .cells #[.int .i64 t296, .int .i64 t297] 28 (0, 0)) q3x9_) : gb299 ≠ gb363)); have n12_ := Aside0.mk ((by rw [hg]; exact Nat.ne_of_gt (blk_lt (g := gb299) (o := .cells #[.int .i64 t296, .int .i64 t297] 28 (0, 0)) q3x9_) : gb363 ≠ gb299)); have n13_ := Aside0.mk ((by rw [hg]; exact Nat.ne_of_lt (blk_lt (g := gb319) (o := .cells #[.int .i64 t316, .int .i64 t317] 28 (0, 0)) q5x9_) : gb319 ≠ gb363)); have n14_ := Aside0.mk ((by rw [hg]; exact Nat.ne_of_gt (blk_lt (g := gb319) (o := .cells #[.int .i64 t316, .int .i64 t317] 28 (0, 0)) q5x9_) : gb363 ≠ gb319)); have n15_ := Aside0.mk ((by rw [hg]; exact Nat.ne_of_lt (blk_lt (g := gb359) (o := .cells #[.int .i64 t356, .int .i64 t357] 28 (0, 0)) q39x9_) : gb359 ≠ gb363)); have n16_ := Aside0.mk ((by rw [hg]; exact Nat.ne_of_gt (blk_lt (g := gb359) (o := .cells #[.int .i64 t356, .int .i64 t357] 28 (0, 0)) q39x9_) : gb363 ≠ gb359)); have n17_ := Aside0.mk ((by rw [hg]; exact Nat.ne_of_lt (IsS25.lt (show IsS25 w _ gb283 l0 t355 from by repeat (first | (with_reducible first | exact HI283.out | apply IsS25.alloc | apply IsS25.drewN | apply IsS25.drew | apply IsS25.set_1 | refine IsS25.far ?_ NB283_299.out _ | refine IsS25.far ?_ NB283_319.out _ | refine IsS25.far ?_ NB283_359.out _) | exact HI283.out))) : gb283 ≠ gb363)); have n18_ := Aside0.mk ((by rw [hg]; exact Nat.ne_of_gt (IsS25.lt (show IsS25 w _ gb283 l0 t355 from by repeat (first | (with_reducible first | exact HI283.out | apply IsS25.alloc | apply IsS25.drewN | apply IsS25.drew | apply IsS25.set_1 | refine IsS25.far ?_ NB283_299.out _ | refine IsS25.far ?_ NB283_319.out _ | refine IsS25.far ?_ NB283_359.out _) | exact HI283.out))) : gb363 ≠ gb283)); clear HO341; clear HO346; clear HO353; clear BK299; clear BK319; clear HI283; clear BK359; clear HB; have HO341 := n0_; have HO346 := n1_; have HO353 := n2_; have BK299 := n3_; have BK319 := n4_; have HI283 := n5_; have BK359 := n6_; have HB := n7_; have BK363 := n8_; have GW363 := n9_; have GE363 := n10_; have NB299_363 := n11_; have NB363_299 := n12_; have NB319_363 := n13_; have NB363_319 := n14_; have NB359_363 := n15_; have NB363_359 := n16_; have NB283_363 := n17_; have NB363_283 := n18_; clear n0_ n1_ n2_ n3_ n4_ n5_ n6_ n7_ n8_ n9_ n10_ n11_ n12_ n13_ n14_ n15_ n16_ n17_ n18_; clear hb hbox hg; have hnb116 := NB363_299.out; have hnc116 := NB299_363.out; have hnb117 := NB363_319.out; have hnc117 := NB319_363.out; have hnb118 := NB363_359.out; have hnc118 := NB359_363.out; have hnb119 := NB363_283.out; have hnc119 := NB283_363.out; have hcz120_0 : w115.cell? ⟨gb363, 0, none⟩ = some (.int .i64 0) := (blk_cell BK363.out 0).trans rfl; have hcz120_1 : w115.cell? ⟨gb363, 1, none⟩ = some (.int .i64 0) := (blk_cell BK363.out 1).trans rfl; have hfz120_0 := blk_frozen BK363.out 0; have hfz120_1 := blk_frozen BK363.out 1))
                  (try simp only [Act.put, List.setIfInBounds_toArray, List.set_cons_zero, List.set_cons_succ])
                  have H := HC94.out
                  clear HC94
                  replace H := Option.bind_eq_some_iff.mp H
                  obtain ⟨t364, A1210, H⟩ := H
                  replace H : (if t364 = true then (if t358 = t362 then (some (t356 == t360 && (t357 == t361))) else (some false)) else (some false)) = some r := H
                  have A121 := Aside0.mk A1210
                  clear A1210
                  by_cases c122 : t364 = true
                  · subst c122
                    have H1 : (if t358 = t362 then (some (t356 == t360 && (t357 == t361))) else (some false)) = some r := by rw [if_pos rfl] at H; exact H
                    clear H
                    have H := H1
                    clear H1
                    by_cases c123 : t358 = t362
                    · rw [if_pos c123] at H
                      have c123b0 : (t358 == t362) = true := beq_iff_eq.mpr c123
                      have c123b1 : (t358 != t362) = false := bne_eq_false_iff_eq.mpr c123
                      clear c123
                      (first | rw [c123b0] | (simp only [i64_w, i32_w]; rw [c123b0]) | skip)
                      as_aux_lemma =>
                        obtain rfl := Option.some.inj H
                        go_wp2_with (first | ((with_reducible refine gate_callee (f := 22) rfl ?_); refine goesL_ (some 216) rfl rfl Try.func22 q11x9_ rfl #[] rfl q7x9_ ?_; (with_reducible refine (handlaw1_measures.calls kj79  true _ A121.out).mono ?_); rintro e w124 ⟨rfl, hb⟩; refine ⟨_, rfl, ?_⟩; have n0_ := Aside0.mk (Kd.R_below q25x9_ hb); have n1_ := Aside0.mk (Kd.R_below q26x9_ hb); have n2_ := Aside0.mk (Kd.R_below q27x9_ hb); have n3_ := Aside0.mk (blk_below (g := gb299) (o := .cells #[.int .i64 t296, .int .i64 t297] 28 (0, 0)) q19x9_ hb); have n4_ := Aside0.mk (blk_below (g := gb319) (o := .cells #[.int .i64 t316, .int .i64 t317] 28 (0, 0)) q20x9_ hb); have n5_ := Aside0.mk (IsS25.below (show IsS25 w ((w115.setCell ⟨gb363, 0, none⟩ (.int .i64 t360)).setCell ⟨gb363, 1, none⟩ (.int .i64 t361)) gb283 l0 t355 from by repeat (first | (with_reducible first | exact HI283.out | apply IsS25.alloc | apply IsS25.drewN | apply IsS25.drew | apply IsS25.set_1 | refine IsS25.far ?_ NB283_299.out _ | refine IsS25.far ?_ NB283_319.out _ | refine IsS25.far ?_ NB283_359.out _ | refine IsS25.far ?_ NB283_363.out _) | exact HI283.out)) hb); have n6_ := Aside0.mk (blk_below (g := gb359) (o := .cells #[.int .i64 t356, .int .i64 t357] 28 (0, 0)) q21x9_ hb); have n7_ := Aside0.mk (blk_below (g := gb363) (o := .cells #[.int .i64 t360, .int .i64 t361] 28 (0, 0)) q15x9_ hb); have n8_ := Aside0.mk (below_step q8x9_ hb); clear HO341; clear HO346; clear HO353; clear BK299; clear BK319; clear HI283; clear BK359; clear BK363; clear HB; have HO341 := n0_; have HO346 := n1_; have HO353 := n2_; have BK299 := n3_; have BK319 := n4_; have HI283 := n5_; have BK359 := n6_; have BK363 := n7_; have HB := n8_; clear n0_ n1_ n2_ n3_ n4_ n5_ n6_ n7_ n8_; (try clear hb); (try clear hb2); (try clear hk); (try clear hi); have hnb125 := NB359_299.out; have hnc125 := NB299_359.out; have hnb126 := NB359_319.out; have hnc126 := NB319_359.out; have hnb127 := NB359_363.out; have hnc127 := NB363_359.out; have hnb128 := NB359_283.out; have hnc128 := NB283_359.out; have hcz129_0 : w124.cell? ⟨gb359, 0, none⟩ = some (.int .i64 t356) := (blk_cell BK359.out 0).trans rfl; have hcz129_1 : w124.cell? ⟨gb359, 1, none⟩ = some (.int .i64 t357) := (blk_cell BK359.out 1).trans rfl; have hfz129_0 := blk_frozen BK359.out 0; have hfz129_1 := blk_frozen BK359.out 1; have hnb130 := NB363_299.out; have hnc130 := NB299_363.out; have hnb131 := NB363_319.out; have hnc131 := NB319_363.out; have hnb132 := NB363_283.out; have hnc132 := NB283_363.out; have hcz133_0 : w124.cell? ⟨gb363, 0, none⟩ = some (.int .i64 t360) := (blk_cell BK363.out 0).trans rfl; have hcz133_1 : w124.cell? ⟨gb363, 1, none⟩ = some (.int .i64 t361) := (blk_cell BK363.out 1).trans rfl; have hfz133_0 := blk_frozen BK363.out 0; have hfz133_1 := blk_frozen BK363.out 1))
                        go_ret
                        exact ⟨q33x9_, q8x9_⟩
                    rw [if_neg c123] at H
                    have c123b0 : (t358 == t362) = false := beq_eq_false_iff_ne.mpr c123
                    have c123b1 : (t358 != t362) = true := bne_iff_ne.mpr c123
                    (first | rw [c123b0] | (simp only [i64_w, i32_w]; rw [c123b0]) | skip)
                    as_aux_lemma =>
                      obtain rfl := Option.some.inj H
                      go_wp2_with (first | ((with_reducible refine gate_callee (f := 22) rfl ?_); refine goesL_ (some 216) rfl rfl Try.func22 q11x9_ rfl #[] rfl q7x9_ ?_; (with_reducible refine (handlaw1_measures.calls kj79  true _ A121.out).mono ?_); rintro e w134 ⟨rfl, hb⟩; refine ⟨_, rfl, ?_⟩; have n0_ := Aside0.mk (Kd.R_below q25x9_ hb); have n1_ := Aside0.mk (Kd.R_below q26x9_ hb); have n2_ := Aside0.mk (Kd.R_below q27x9_ hb); have n3_ := Aside0.mk (blk_below (g := gb299) (o := .cells #[.int .i64 t296, .int .i64 t297] 28 (0, 0)) q19x9_ hb); have n4_ := Aside0.mk (blk_below (g := gb319) (o := .cells #[.int .i64 t316, .int .i64 t317] 28 (0, 0)) q20x9_ hb); have n5_ := Aside0.mk (IsS25.below (show IsS25 w ((w115.setCell ⟨gb363, 0, none⟩ (.int .i64 t360)).setCell ⟨gb363, 1, none⟩ (.int .i64 t361)) gb283 l0 t355 from by repeat (first | (with_reducible first | exact HI283.out | apply IsS25.alloc | apply IsS25.drewN | apply IsS25.drew | apply IsS25.set_1 | refine IsS25.far ?_ NB283_299.out _ | refine IsS25.far ?_ NB283_319.out _ | refine IsS25.far ?_ NB283_359.out _ | refine IsS25.far ?_ NB283_363.out _) | exact HI283.out)) hb); have n6_ := Aside0.mk (blk_below (g := gb359) (o := .cells #[.int .i64 t356, .int .i64 t357] 28 (0, 0)) q21x9_ hb); have n7_ := Aside0.mk (blk_below (g := gb363) (o := .cells #[.int .i64 t360, .int .i64 t361] 28 (0, 0)) q15x9_ hb); have n8_ := Aside0.mk (below_step q8x9_ hb); clear HO341; clear HO346; clear HO353; clear BK299; clear BK319; clear HI283; clear BK359; clear BK363; clear HB; have HO341 := n0_; have HO346 := n1_; have HO353 := n2_; have BK299 := n3_; have BK319 := n4_; have HI283 := n5_; have BK359 := n6_; have BK363 := n7_; have HB := n8_; clear n0_ n1_ n2_ n3_ n4_ n5_ n6_ n7_ n8_; (try clear hb); (try clear hb2); (try clear hk); (try clear hi)))
                      go_ret
                      exact ⟨q33x9_, q8x9_⟩
                  replace c122 := Bool.eq_false_iff.mpr c122
                  subst c122
                  have H1 : (some false) = some r := by rw [if_neg (show ¬ (false = true) by decide)] at H; exact H
                  clear H
                  have H := H1
                  clear H1
                  as_aux_lemma =>
                    obtain rfl := Option.some.inj H
                    go_wp2_with (first | ((with_reducible refine gate_callee (f := 22) rfl ?_); refine goesL_ (some 216) rfl rfl Try.func22 q11x9_ rfl #[] rfl q7x9_ ?_; (with_reducible refine (handlaw1_measures.calls kj79  false _ A121.out).mono ?_); rintro e w135 ⟨rfl, hb⟩; refine ⟨_, rfl, ?_⟩; have n0_ := Aside0.mk (Kd.R_below q25x9_ hb); have n1_ := Aside0.mk (Kd.R_below q26x9_ hb); have n2_ := Aside0.mk (Kd.R_below q27x9_ hb); have n3_ := Aside0.mk (blk_below (g := gb299) (o := .cells #[.int .i64 t296, .int .i64 t297] 28 (0, 0)) q19x9_ hb); have n4_ := Aside0.mk (blk_below (g := gb319) (o := .cells #[.int .i64 t316, .int .i64 t317] 28 (0, 0)) q20x9_ hb); have n5_ := Aside0.mk (IsS25.below (show IsS25 w ((w115.setCell ⟨gb363, 0, none⟩ (.int .i64 t360)).setCell ⟨gb363, 1, none⟩ (.int .i64 t361)) gb283 l0 t355 from by repeat (first | (with_reducible first | exact HI283.out | apply IsS25.alloc | apply IsS25.drewN | apply IsS25.drew | apply IsS25.set_1 | refine IsS25.far ?_ NB283_299.out _ | refine IsS25.far ?_ NB283_319.out _ | refine IsS25.far ?_ NB283_359.out _ | refine IsS25.far ?_ NB283_363.out _) | exact HI283.out)) hb); have n6_ := Aside0.mk (blk_below (g := gb359) (o := .cells #[.int .i64 t356, .int .i64 t357] 28 (0, 0)) q21x9_ hb); have n7_ := Aside0.mk (blk_below (g := gb363) (o := .cells #[.int .i64 t360, .int .i64 t361] 28 (0, 0)) q15x9_ hb); have n8_ := Aside0.mk (below_step q8x9_ hb); clear HO341; clear HO346; clear HO353; clear BK299; clear BK319; clear HI283; clear BK359; clear BK363; clear HB; have HO341 := n0_; have HO346 := n1_; have HO353 := n2_; have BK299 := n3_; have BK319 := n4_; have HI283 := n5_; have BK359 := n6_; have BK363 := n7_; have HB := n8_; clear n0_ n1_ n2_ n3_ n4_ n5_ n6_ n7_ n8_; (try clear hb); (try clear hb2); (try clear hk); (try clear hi)))
                    go_ret
                    exact ⟨q33x9_, q8x9_⟩
                rw [if_neg c77] at H
                exact absurd H (by simp)
              rw [if_neg c76] at H
              exact absurd H (by simp)
            rw [if_neg c75] at H
            exact absurd H (by simp)
          rw [if_neg c74] at H
          exact absurd H (by simp)
        rw [if_neg c47] at H
        exact absurd H (by simp)
      rw [if_neg c46] at H
      exact absurd H (by simp)
    rw [if_neg c45] at H
    exact absurd H (by simp)
  rw [if_neg c44] at H
  exact absurd H (by simp)

/-- THE ONE PURE STATEMENT of handlaw1_TestsExact: yours. -/
def handlaw1_TestsExact.Pure : Prop := ∀ (l0 : List Int), l0.length ≤ maxLen → l0.length * 8 ≤ 140737488351232 → (∀ x ∈ l0, (Lit.int .i64 x).wf = true) → ∃ k, handlaw1_TestsExact.f k l0 = some true
theorem handlaw1_TestsExact.walk (P : handlaw1_TestsExact.Pure) (a0 : Option Addr) (len0 cap0 : Nat) (z0 : List Int) (w : World) (w0 : (a0 = none ∧ len0 = 0 ∧ cap0 = 0 ∧ z0 = []) ∨ ∃ x, a0 = some x ∧ len0 ≤ cap0 ∧ cap0 ≤ maxLen ∧ z0.length = cap0 ∧ (∀ i, i < z0.length → w.cell? (x.add i) = some (.int .i64 (z0.getD i 0))) ∧ ∀ n ∈ z0, (Lit.int .i64 n).wf = true) (y0 : len0 * 8 ≤ 140737488351232) :
    Calls Try.prog 6 #[.slice a0 len0 cap0] w fun e w' => e = .returned (.bool true) ∧ Below w.heap.size w w' := by
  obtain ⟨l0, rfl, hr0, hm0, hw0, hc0⟩ := ReadsInt.ofRowC w0
  obtain ⟨k, h⟩ := P l0 hm0 y0 hw0
  refine (handlaw1_TestsExact.calls k _ _ l0 true w (Kd.C_of_reads (d := (0 : Int)) (h1 := fun _ => rfl) hr0) hc0 h).mono ?_
  rintro e w' ⟨rfl, hd⟩
  exact ⟨rfl, hd⟩

end Go.Proofs.Ytihnjdhjkpmggaa.PTestsExact
