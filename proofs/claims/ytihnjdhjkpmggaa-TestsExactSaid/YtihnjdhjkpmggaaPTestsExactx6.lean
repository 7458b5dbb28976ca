-- By a program of this session (an altered copy of the printer of the kit); Lean checks it.
import Derived.Test.YtihnjdhjkpmggaaPTestsExactx0
import Derived.Test.YtihnjdhjkpmggaaPTestsExactx2
import Derived.Test.YtihnjdhjkpmggaaPTestsExactx5
namespace Go.Proofs.Ytihnjdhjkpmggaa.PTestsExact
open Go.RowKit Go.Proofs.YtihnjdhjkpmggaaW.PrintWords Go.Proofs.YtihnjdhjkpmggaaW.PrintLast Go.Proofs.YtihnjdhjkpmggaaW.PrintMore
attribute [local go_sem] max2_int min2_int max_two min_two max_three min_three max_four min_four   -- for this text's walks alone
set_option linter.unusedVariables false
set_option linter.unusedSimpArgs false
theorem q1x6_ {p : Prop} (h : p := by repeat (first | (with_reducible first | exact HK.out | apply KeepBut.set_ | apply keep_drewN | apply keep_drew | apply keep_alloc) | exact HK.out)) : p := h
theorem q2x6_ {p : Prop} (h : p := by repeat (first | (with_reducible first | exact HB.out | apply below_alloc | apply pw_below_drewN | apply below_drew1 | refine below_set ?_ GE1.out | refine below_set ?_ GE2.out | refine below_set ?_ GE3.out | refine below_set ?_ GE4.out) | exact HB.out)) : p := h
theorem q3x6_ {p : Prop} (h : p := by (try simp only [List.map_toArray, List.map_cons, List.map_nil]); first | done | rfl | (simp only [List.length_drop, List.length_take]; rfl)) : p := h
theorem q4x6_ {p : Prop} (h : p := by (with_reducible repeat (first | apply Kd.R_alloc | apply Kd.R_drewN | apply Kd.R_drew)); exact HO188.out) : p := h
theorem q5x6_ {p : Prop} (h : p := by repeat (first | (with_reducible first | exact HB.out | apply below_alloc | apply pw_below_drewN | apply below_drew1 | refine below_set ?_ GE179.out) | exact HB.out)) : p := h
theorem q6x6_ {p : Prop} (h : p := by repeat (first | (with_reducible first | exact HI0.out | apply IsS25.alloc | apply IsS25.drewN | apply IsS25.drew | apply IsS25.set_1) | exact HI0.out)) : p := h
theorem q7x6_ {p : Prop} (h : p := by repeat (first | (with_reducible first | exact HB.out | apply below_alloc | apply pw_below_drewN | apply below_drew1 | refine below_set ?_ (IsS25.ge HI0.out)) | exact HB.out)) : p := h
theorem q8x6_ {p : Prop} (h : p := by first | rfl | (simp; done) | (simp [*]; done)) : p := h
theorem q9x6_ {p : Prop} (h : p := by (with_reducible repeat (first | refine blk_drewN ?_ _ | refine blk_drew ?_ | refine blk_alloc ?_ _)); exact BK1.out) : p := h
theorem q10x6_ {p : Prop} (h : p := by (with_reducible repeat (first | refine blk_drewN ?_ _ | refine blk_drew ?_ | refine blk_alloc ?_ _)); exact BK2.out) : p := h
theorem q11x6_ {p : Prop} (h : p := by (with_reducible repeat (first | refine blk_drewN ?_ _ | refine blk_drew ?_ | refine blk_alloc ?_ _)); exact BK3.out) : p := h
theorem q12x6_ {p : Prop} (h : p := by (with_reducible repeat (first | refine blk_drewN ?_ _ | refine blk_drew ?_ | refine blk_alloc ?_ _)); exact BK4.out) : p := h
theorem q13x6_ {p : Prop} (h : p := by (with_reducible repeat (first | refine blk_drewN ?_ _ | refine blk_drew ?_ | refine blk_alloc ?_ _)); exact BK179.out) : p := h
theorem q14x6_ {p : Prop} (h : p := by first | (with_reducible assumption) | assumption) : p := h
theorem q15x6_ {p : Prop} (h : p := by (with_reducible repeat (first | apply Kd.R_alloc | apply Kd.R_drewN | apply Kd.R_drew)); exact HO201.out) : p := h
theorem q16x6_ {p : Prop} (h : p := by first | rfl | (simp [errW_none, errW_some] <;> rfl) | (simp [*, errW_none, errW_some] <;> rfl)) : p := h
theorem q17x6_ {p : Prop} (h : p := by repeat (first | exact Drawn0.refl _ | apply Drawn0.step)) : p := h
theorem q18x6_ {p : Prop} (h : p := by repeat (first | (with_reducible first | exact HB.out | apply below_alloc | apply pw_below_drewN | apply below_drew1) | exact HB.out)) : p := h
theorem q19x6_ {p : Prop} (h : p := by (with_reducible repeat (first | apply Kd.R_alloc | apply Kd.R_drewN | apply Kd.R_drew)); exact Kd.R_mono HO201.out (fun _ hk => trivial)) : p := h

/-! ### handref1_SignsOf: function 33 -/
def handref1_SignsOf.l0 : Nat → Int → Int → Int → Int → Int → Option (Int × Int)
  | 0, _, _, _, _, _ => none
  | k + 1, x0, x1, x5, x9, x10 => if x10 < x9 then ((handref1_ChooseOf.f k x0 x10).bind fun t182 => ((handref1_ChooseOf.f k x0 x1).bind fun t183 => (if t182 ≤ t183 then (handref1_SignsOf.l0 k x0 x1 (wrap64 (x5 + t182)) x9 (wrap64 (x10 + 1))) else (handref1_SignsOf.l0 k x0 x1 x5 x9 (wrap64 (x10 + 1)))))) else (if 0 ≤ x0 then ((handref1_reduced.f k x5 (shl .i64 1 x0)).bind fun bt180 => (some (bt180.1, bt180.2))) else (none))
def handref1_SignsOf.f (k : Nat) (a0 : Int) (a1 : Int) : Option (Int × Int) := handref1_SignsOf.l0 k a0 a1 0 (wrap64 (a0 + 1)) 0
theorem handref1_SignsOf.mono_l : ∀ k, (∀ y0 y1 y2 y3 y4, LeO (handref1_SignsOf.l0 k y0 y1 y2 y3 y4) (handref1_SignsOf.l0 (k + 1) y0 y1 y2 y3 y4))
  | 0 => fun _ _ _ _ _ r h => by simp [handref1_SignsOf.l0] at h
  | k + 1 => by
    have ih0 := handref1_SignsOf.mono_l k
    · intro y0 y1 y2 y3 y4
      unfold handref1_SignsOf.l0
      repeat' first
      | (with_reducible exact ih0 _ _ _ _ _)
      | (with_reducible exact handref1_ChooseOf.mono _ _ _)
      | (with_reducible exact handref1_reduced.mono _ _ _)
      | (with_reducible exact LeO.refl _)
      | (with_reducible exact LeO.none _)
      | (with_reducible refine LeO.ite ?_ ?_)
      | (with_reducible refine LeO.bind ?_ (fun _ => ?_))
      | exact ih0 _ _ _ _ _
      | exact handref1_ChooseOf.mono _ _ _
      | exact handref1_reduced.mono _ _ _
      | exact LeO.none _
      | refine LeO.ite ?_ ?_
      | refine LeO.bind ?_ (fun _ => ?_)
theorem handref1_SignsOf.mono : ∀ a0 a1 k, LeO (handref1_SignsOf.f k a0 a1) (handref1_SignsOf.f (k + 1) a0 a1) := by
  intro a0 a1 k
  have ih0 := handref1_SignsOf.mono_l k
  unfold handref1_SignsOf.f
  repeat' first
      | (with_reducible exact ih0 _ _ _ _ _)
      | (with_reducible exact handref1_ChooseOf.mono _ _ _)
      | (with_reducible exact handref1_reduced.mono _ _ _)
      | (with_reducible exact LeO.refl _)
      | (with_reducible exact LeO.none _)
      | (with_reducible refine LeO.ite ?_ ?_)
      | (with_reducible refine LeO.bind ?_ (fun _ => ?_))
      | exact ih0 _ _ _ _ _
      | exact handref1_ChooseOf.mono _ _ _
      | exact handref1_reduced.mono _ _ _
      | exact LeO.none _
      | refine LeO.ite ?_ ?_
      | refine LeO.bind ?_ (fun _ => ?_)
set_option maxHeartbeats 8000000 in
set_option maxRecDepth 100000 in
theorem handref1_SignsOf.calls (k : Nat) (a0 : Int) (a1 : Int) (r1 : Int) (r2 : Int) (w : World) (h : handref1_SignsOf.f k a0 a1 = some (r1, r2)) :
    Calls Try.prog 33 #[.int .i64 a0, .int .i64 a1] w fun e w' => e = .returned (.agg #[.int .i64 r1, .int .i64 r2]) ∧ Below w.heap.size w w' := by
  have hu28 := Try.underlying28
  have HB := Aside0.mk (Below.refl w.heap.size w)
  have H : (handref1_SignsOf.l0 k a0 a1 0 (wrap64 (a0 + 1)) 0) = some (r1, r2) := h
  clear h
  have H' := Aside0.mk H
  clear H
  go_enter Try.func33, Try.ntmps33
  go_wp2_with (first | ((with_reducible refine gate_dst (N := 4) rfl ?_); refine box_event ?hg (N := 4) ?hd (cs := #[.int .i64 0, .int .i64 0]) (t := 28) ?hr ?_; (case hd => rfl); (case hg => rfl); (case hr => first | (go_simp; done) | (go_simp; rfl)); intro gb179 hg w3 hbox hb; have n0_ := Aside0.mk (below_step q18x6_ hb); have n1_ := Aside0.mk (hbox); have n2_ := Aside0.mk ((by rw [hg]; exact (below_size q18x6_) : w.heap.size ≤ gb179)); have n3_ := Aside0.mk ((by rw [hg]; exact (below_size q18x6_) : w.heap.size ≤ gb179)); clear HB; have HB := n0_; have BK179 := n1_; have GW179 := n2_; have GE179 := n3_; clear n0_ n1_ n2_ n3_; clear hb hbox hg))
  go_loopg [5, 10] k (fun kq v5 v10 w' => ∃ (x5_1 : Int) (x10_1 : Int), v5 = .int .i64 x5_1 ∧ v10 = .int .i64 x10_1 ∧ Aside0 (handref1_SignsOf.l0 kq a0 a1 x5_1 (wrap64 (a0 + 1)) x10_1 = some (r1, r2)) ∧ Aside0 (kq ≤ k) ∧ Aside0 (w'.heap[gb179]? = some (.cells #[.int .i64 0, .int .i64 0] 28 (0, 0))) ∧ Aside0 (Below w.heap.size w w'))
  case atStart => exact ⟨(0), (0), q8x6_, q8x6_, H', ⟨Nat.le_refl _⟩, ⟨q13x6_⟩, ⟨q5x6_⟩⟩
  case round =>
    clear H'
    (try clear p2); (try clear c3)
    obtain ⟨x5_1, x10_1, rfl, rfl, HA, HK1, BK179, HB⟩ := hrel
    rcases gk with _ | k1
    · exact absurd HA.out (by simp [handref1_SignsOf.l0])
    have H := HA.out
    clear HA
    simp only [handref1_SignsOf.l0] at H
    by_cases c4 : x10_1 < (wrap64 (a0 + 1))
    · rw [if_pos c4] at H
      have c4b0 : decide (x10_1 < (wrap64 (a0 + 1))) = true := decide_eq_true c4
      clear c4
      replace H := Option.bind_eq_some_iff.mp H
      obtain ⟨t182, A50, H⟩ := H
      replace H : ((handref1_ChooseOf.f k1 a0 a1).bind fun t183 => (if t182 ≤ t183 then (handref1_SignsOf.l0 k1 a0 a1 (wrap64 (x5_1 + t182)) (wrap64 (a0 + 1)) (wrap64 (x10_1 + 1))) else (handref1_SignsOf.l0 k1 a0 a1 x5_1 (wrap64 (a0 + 1)) (wrap64 (x10_1 + 1))))) = some (r1, r2) := H
      have A5 := Aside0.mk A50
      clear A50
      replace H := Option.bind_eq_some_iff.mp H
      obtain ⟨t183, A60, H⟩ := H
      replace H : (if t182 ≤ t183 then (handref1_SignsOf.l0 k1 a0 a1 (wrap64 (x5_1 + t182)) (wrap64 (a0 + 1)) (wrap64 (x10_1 + 1))) else (handref1_SignsOf.l0 k1 a0 a1 x5_1 (wrap64 (a0 + 1)) (wrap64 (x10_1 + 1)))) = some (r1, r2) := H
      have A6 := Aside0.mk A60
      clear A60
      have HC7 := Aside0.mk H
      clear H
      go_upto_if 20 with (first | ((with_reducible refine gate_callee (f := 32) rfl ?_); refine goesL_ (some 15) rfl rfl Try.func32 (by kernel_rfl) rfl #[.int .i64 a0, .int .i64 x10_1] rfl q3x6_ ?_; (with_reducible refine (handref1_ChooseOf.calls k1 a0 x10_1 t182 _ A5.out).mono ?_); rintro e w8 ⟨rfl, hb⟩; refine ⟨_, rfl, ?_⟩; have n0_ := Aside0.mk (blk_below (g := gb179) (o := .cells #[.int .i64 0, .int .i64 0] 28 (0, 0)) q13x6_ hb); have n1_ := Aside0.mk (below_step q5x6_ hb); clear BK179; clear HB; have BK179 := n0_; have HB := n1_; clear n0_ n1_; (try clear hb); (try clear hb2); (try clear hk); (try clear hi)) | ((with_reducible refine gate_callee (f := 32) rfl ?_); refine goesL_ (some 19) rfl rfl Try.func32 (by kernel_rfl) rfl #[.int .i64 a0, .int .i64 a1] rfl q3x6_ ?_; (with_reducible refine (handref1_ChooseOf.calls k1 a0 a1 t183 _ A6.out).mono ?_); rintro e w9 ⟨rfl, hb⟩; refine ⟨_, rfl, ?_⟩; have n0_ := Aside0.mk (blk_below (g := gb179) (o := .cells #[.int .i64 0, .int .i64 0] 28 (0, 0)) q13x6_ hb); have n1_ := Aside0.mk (below_step q5x6_ hb); clear BK179; clear HB; have BK179 := n0_; have HB := n1_; clear n0_ n1_; (try clear hb); (try clear hb2); (try clear hk); (try clear hi)))
      (try simp only [Act.put, List.setIfInBounds_toArray, List.set_cons_zero, List.set_cons_succ])
      have H := HC7.out
      clear HC7
      by_cases c10 : t182 ≤ t183
      · rw [if_pos c10] at H
        have c10b0 : decide (t182 ≤ t183) = true := decide_eq_true c10
        clear c10
        (first | rw [c10b0] | (simp only [i64_w, i32_w]; rw [c10b0]) | skip)
        as_aux_lemma =>
          have H' := Aside0.mk H
          clear H
          go_wp2
          go_roundg k1
          case measure => have := HK1.out; omega
          case rel => exact ⟨(wrap64 (x5_1 + t182)), (wrap64 (x10_1 + 1)), q8x6_, q8x6_, H', ⟨by have := HK1.out; omega⟩, ⟨q13x6_⟩, ⟨q5x6_⟩⟩
      rw [if_neg c10] at H
      have c10b0 : decide (t182 ≤ t183) = false := decide_eq_false c10
      clear c10
      (first | rw [c10b0] | (simp only [i64_w, i32_w]; rw [c10b0]) | skip)
      as_aux_lemma =>
        have H' := Aside0.mk H
        clear H
        go_wp2
        go_roundg k1
        case measure => have := HK1.out; omega
        case rel => exact ⟨(x5_1), (wrap64 (x10_1 + 1)), q8x6_, q8x6_, H', ⟨by have := HK1.out; omega⟩, ⟨q13x6_⟩, ⟨q5x6_⟩⟩
    rw [if_neg c4] at H
    have c4b0 : decide (x10_1 < (wrap64 (a0 + 1))) = false := decide_eq_false c4
    clear c4
    by_cases c11 : 0 ≤ a0
    · rw [if_pos c11] at H
      have c11b0 := eq_true c11
      have c11b1 : decide (0 ≤ a0) = true := decide_eq_true c11
      clear c11
      obtain ⟨ji12, hji12⟩ : ∃ j_ : Int, (shl .i64 1 a0) = j_ := ⟨_, rfl⟩
      replace H : ((handref1_reduced.f k1 x5_1 (ji12)).bind fun bt180 => (some (bt180.1, bt180.2))) = some (r1, r2) := by first | (rw [hji12] at H; exact H) | (simp only [hji12] at H ⊢; exact H)
      have hji12_ : (IntKind.i64.wrap (1 * 2 ^ min a0.toNat 64)) = ji12 := hji12
      have hji12z : a0 ≤ 64 → (IntKind.i64.wrap (1 * 2 ^ a0.toNat)) = ji12 := shl_small hji12
      have hji12u : (IntKind.i64.wrap (2 ^ min a0.toNat 64)) = ji12 := by have h_ := hji12_; rw [Int.one_mul] at h_; exact h_
      have hji12v : a0 ≤ 64 → (IntKind.i64.wrap (2 ^ a0.toNat)) = ji12 := fun hle_ => by have h_ := hji12z hle_; rw [Int.one_mul] at h_; exact h_
      have hji12y : (wrap64 (1 * 2 ^ min a0.toNat 64)) = ji12 := (i64_w _).symm.trans hji12_
      have hji12x : a0 ≤ 64 → (wrap64 (1 * 2 ^ a0.toNat)) = ji12 := fun h_ => (i64_w _).symm.trans (hji12z h_)
      replace H := Option.bind_eq_some_iff.mp H
      obtain ⟨⟨t180, t181⟩, A130, H⟩ := H
      replace H : (some (t180, t181)) = some (r1, r2) := H
      have A13 := Aside0.mk A130
      clear A130
      as_aux_lemma =>
        simp only [Option.some.injEq, Prod.mk.injEq] at H
        obtain ⟨rfl, rfl⟩ := H
        go_wp2_with (first | ((with_reducible refine gate_callee (f := 66) rfl ?_); refine goesL_ (some 28) rfl rfl Try.func66 (by kernel_rfl) rfl #[.int .i64 x5_1, .int .i64 ji12] rfl (by (try simp only [List.map_toArray, List.map_cons, List.map_nil]); first | done | (simp only [hji12]; rfl) | rfl | (simp only [List.length_drop, List.length_take]; rfl)) ?_; (with_reducible refine (handref1_reduced.calls k1 x5_1 ji12 t180 t181 _ A13.out).mono ?_); rintro e w14 ⟨rfl, hb⟩; refine ⟨_, rfl, ?_⟩; have n0_ := Aside0.mk (blk_below (g := gb179) (o := .cells #[.int .i64 0, .int .i64 0] 28 (0, 0)) q13x6_ hb); have n1_ := Aside0.mk (below_step q5x6_ hb); clear BK179; clear HB; have BK179 := n0_; have HB := n1_; clear n0_ n1_; (try clear hb); (try clear hb2); (try clear hk); (try clear hi); have hcz15_0 : w14.cell? ⟨gb179, 0, none⟩ = some (.int .i64 0) := (blk_cell BK179.out 0).trans rfl; have hcz15_1 : w14.cell? ⟨gb179, 1, none⟩ = some (.int .i64 0) := (blk_cell BK179.out 1).trans rfl; have hfz15_0 := blk_frozen BK179.out 0; have hfz15_1 := blk_frozen BK179.out 1))
        refine bodyPost_ret (results_cell_row rfl _ _ gb179 28 #[.int .i64 t180, .int .i64 t181] (0, 0) _ rfl (by (with_reducible repeat (first | refine blk_drewN ?_ _ | refine blk_drew ?_ | refine blk_alloc ?_ _)); refine blk_put (cs := #[.int .i64 t180, .int .i64 0]) ?_ 1 _ rfl; (with_reducible repeat (first | refine blk_drewN ?_ _ | refine blk_drew ?_ | refine blk_alloc ?_ _)); refine blk_put (cs := #[.int .i64 0, .int .i64 0]) ?_ 0 _ rfl; (with_reducible repeat (first | refine blk_drewN ?_ _ | refine blk_drew ?_ | refine blk_alloc ?_ _)); exact BK179.out) Try.underlying28 rfl (by kernel_rfl)) rfl ?_
        exact ⟨by first | rfl | (simp [errW_none, errW_some] <;> rfl) | (simp only [← hji12]; first | rfl | (simp [errW_none, errW_some] <;> rfl)) | (simp [*, errW_none, errW_some] <;> rfl), q5x6_⟩
    rw [if_neg c11] at H
    exact absurd H (by simp)

/-! ### handmake_Stream_Flip: function 67 -/
def handmake_Stream_Flip.f (s0_0 : List Int) (s0_1 : Int) (a1 : Int) : Option (Bool × Int) := (handmake_Stream_Next.f s0_0 s0_1 a1).bind fun bt184 => (some ((bt184.1 == 0), bt184.2))
set_option maxHeartbeats 8000000 in
set_option maxRecDepth 100000 in
theorem handmake_Stream_Flip.calls (g : Nat) (s0_0 : List Int) (s0_1 : Int) (a1 : Int) (r1 : Bool) (r2 : Int) (w0 w : World) (hI : IsS25 w0 w g s0_0 s0_1) (hB : Below w0.heap.size w0 w) (h : handmake_Stream_Flip.f s0_0 s0_1 a1 = some (r1, r2)) :
    Calls Try.prog 67 #[.pointer (some ⟨g, 0, none⟩), .int .i64 a1] w fun e w' => e = .returned (.bool r1) ∧ IsS25 w0 w' g s0_0 r2 ∧ Below w0.heap.size w0 w' ∧ KeepBut w w' g none := by
  have HI0 := Aside0.mk hI
  have HK := Aside0.mk (KeepBut.refl w g none)
  have HL := Aside0.mk hB.size
  clear hI
  have HW0 := Aside0.mk hB.size
  have HB := Aside0.mk hB
  clear hB
  have H : ((handmake_Stream_Next.f s0_0 s0_1 a1).bind fun bt184 => (some ((bt184.1 == 0), bt184.2))) = some (r1, r2) := h
  clear h
  replace H := Option.bind_eq_some_iff.mp H
  obtain ⟨⟨t184, t185⟩, A30, H⟩ := H
  replace H : (some ((t184 == 0), t185)) = some (r1, r2) := H
  have A3 := Aside0.mk A30
  clear A30
  as_aux_lemma =>
    simp only [Option.some.injEq, Prod.mk.injEq] at H
    obtain ⟨rfl, rfl⟩ := H
    go_enter Try.func67, Try.ntmps67
    go_wp2_with (first | ((with_reducible refine gate_callee (f := 12) rfl ?_); refine goesL_ (some 7) rfl rfl Try.func12 (by kernel_rfl) rfl #[.pointer (some ⟨g, 0, none⟩), .int .i64 a1] rfl q3x6_ ?_; (with_reducible refine (handmake_Stream_Next.calls g s0_0 s0_1 a1 t184 t185 w0 _ ?side1 ?side2 A3.out).mono ?_); (case side1 => repeat (first | (with_reducible first | exact HI0.out | apply IsS25.alloc | apply IsS25.drewN | apply IsS25.drew | apply IsS25.set_1) | exact HI0.out)); (case side2 => repeat (first | (with_reducible first | exact HB.out | apply below_alloc | apply pw_below_drewN | apply below_drew1 | refine below_set ?_ (IsS25.ge HI0.out)) | exact HB.out)); rintro e w4 ⟨rfl, hi, hb, hk⟩; refine ⟨_, rfl, ?_⟩; have n0_ := Aside0.mk (KeepBut.trans q1x6_ hk (.inl rfl)); have n1_ := Aside0.mk (hb); have n2_ := Aside0.mk (hi); clear HK; clear HB; clear HI0; have HK := n0_; have HB := n1_; have HI0 := n2_; clear n0_ n1_ n2_; (try clear hb); (try clear hb2); (try clear hk); (try clear hi)))
    go_ret
    exact ⟨q16x6_, q6x6_, q7x6_, q1x6_⟩

/-! ### handmake_Stream_Four: function 34 -/
def handmake_Stream_Four.f (s0_0 : List Int) (s0_1 : Int) : Option (List Int × Int) := (handmake_Stream_Pick.f s0_0 s0_1 (([4, 10, 15, 16] : List Int))).bind fun bt189 => ((handmake_Stream_Next.f s0_0 bt189.2 (wrap64 (bt189.1 + 1))).bind fun bt191 => ((handmake_Stream_Next.f s0_0 bt191.2 (wrap64 (bt189.1 + 1))).bind fun bt193 => ((handmake_Stream_Next.f s0_0 bt193.2 (wrap64 (bt189.1 + 1))).bind fun bt195 => ((handmake_Stream_Next.f s0_0 bt195.2 (wrap64 (bt189.1 + 1))).bind fun bt197 => ((some (([bt191.1, bt193.1, bt195.1, bt197.1] : List Int) : List Int)).bind fun y199 => ((handmake_Stream_Flip.f s0_0 bt197.2 12).bind fun bt202 => (if bt202.1 = true then ((handmake_Stream_Next.f s0_0 bt202.2 4).bind fun bt204 => ((handmake_Stream_Pick.f s0_0 bt204.2 (([(-1), 60, 61, 9223372036854775807] : List Int))).bind fun bt209 => (if 0 ≤ bt204.1 then (if bt204.1 < (y199.length : Int) then (some ((y199.set (bt204.1 : Int).toNat bt209.1), bt209.2)) else (none)) else (none)))) else (some (y199, bt202.2)))))))))
set_option maxHeartbeats 8000000 in
set_option maxRecDepth 100000 in
theorem handmake_Stream_Four.calls (g : Nat) (s0_0 : List Int) (s0_1 : Int) (r1 : List Int) (r2 : Int) (w0 w : World) (hI : IsS25 w0 w g s0_0 s0_1) (hB : Below w0.heap.size w0 w) (h : handmake_Stream_Four.f s0_0 s0_1 = some (r1, r2)) :
    Calls Try.prog 34 #[.pointer (some ⟨g, 0, none⟩)] w fun e w' => ∃ v0_ : Value, e = .returned (v0_) ∧ Kd.R (Kd.int .i64) 3 w' w.heap.size (fun _ => True) v0_ r1 ∧ IsS25 w0 w' g s0_0 r2 ∧ Below w0.heap.size w0 w' ∧ KeepBut w w' g none := by
  have HI0 := Aside0.mk hI
  have HK := Aside0.mk (KeepBut.refl w g none)
  have HL := Aside0.mk hB.size
  clear hI
  have HW0 := Aside0.mk hB.size
  have HB := Aside0.mk hB
  clear hB
  have H : ((handmake_Stream_Pick.f s0_0 s0_1 (([4, 10, 15, 16] : List Int))).bind fun bt189 => ((handmake_Stream_Next.f s0_0 bt189.2 (wrap64 (bt189.1 + 1))).bind fun bt191 => ((handmake_Stream_Next.f s0_0 bt191.2 (wrap64 (bt189.1 + 1))).bind fun bt193 => ((handmake_Stream_Next.f s0_0 bt193.2 (wrap64 (bt189.1 + 1))).bind fun bt195 => ((handmake_Stream_Next.f s0_0 bt195.2 (wrap64 (bt189.1 + 1))).bind fun bt197 => ((some (([bt191.1, bt193.1, bt195.1, bt197.1] : List Int) : List Int)).bind fun y199 => ((handmake_Stream_Flip.f s0_0 bt197.2 12).bind fun bt202 => (if bt202.1 = true then ((handmake_Stream_Next.f s0_0 bt202.2 4).bind fun bt204 => ((handmake_Stream_Pick.f s0_0 bt204.2 (([(-1), 60, 61, 9223372036854775807] : List Int))).bind fun bt209 => (if 0 ≤ bt204.1 then (if bt204.1 < (y199.length : Int) then (some ((y199.set (bt204.1 : Int).toNat bt209.1), bt209.2)) else (none)) else (none)))) else (some (y199, bt202.2)))))))))) = some (r1, r2) := h
  clear h
  obtain ⟨y186, hy186⟩ : ∃ y_ : List Int, y_ = (([4, 10, 15, 16] : List Int)) := ⟨_, rfl⟩
  replace H : ((handmake_Stream_Pick.f s0_0 s0_1 y186).bind fun bt189 => ((handmake_Stream_Next.f s0_0 bt189.2 (wrap64 (bt189.1 + 1))).bind fun bt191 => ((handmake_Stream_Next.f s0_0 bt191.2 (wrap64 (bt189.1 + 1))).bind fun bt193 => ((handmake_Stream_Next.f s0_0 bt193.2 (wrap64 (bt189.1 + 1))).bind fun bt195 => ((handmake_Stream_Next.f s0_0 bt195.2 (wrap64 (bt189.1 + 1))).bind fun bt197 => ((some (([bt191.1, bt193.1, bt195.1, bt197.1] : List Int) : List Int)).bind fun y199 => ((handmake_Stream_Flip.f s0_0 bt197.2 12).bind fun bt202 => (if bt202.1 = true then ((handmake_Stream_Next.f s0_0 bt202.2 4).bind fun bt204 => ((handmake_Stream_Pick.f s0_0 bt204.2 (([(-1), 60, 61, 9223372036854775807] : List Int))).bind fun bt209 => (if 0 ≤ bt204.1 then (if bt204.1 < (y199.length : Int) then (some ((y199.set (bt204.1 : Int).toNat bt209.1), bt209.2)) else (none)) else (none)))) else (some (y199, bt202.2)))))))))) = some (r1, r2) := by first | (rw [hy186]; with_reducible exact H) | (have H2_ := (Option.bind_some _ _).symm.trans H; rw [hy186]; with_reducible exact H2_) | (have H2_ := (Option.bind_some _ _).symm.trans H; with_reducible exact H2_) | with_reducible exact H | (rw [hy186]; exact H) | exact H
  have Ny186 := Aside0.mk hy186
  clear hy186
  replace H := Option.bind_eq_some_iff.mp H
  obtain ⟨⟨t189, t190⟩, A20, H⟩ := H
  replace H : ((handmake_Stream_Next.f s0_0 t190 (wrap64 (t189 + 1))).bind fun bt191 => ((handmake_Stream_Next.f s0_0 bt191.2 (wrap64 (t189 + 1))).bind fun bt193 => ((handmake_Stream_Next.f s0_0 bt193.2 (wrap64 (t189 + 1))).bind fun bt195 => ((handmake_Stream_Next.f s0_0 bt195.2 (wrap64 (t189 + 1))).bind fun bt197 => ((some (([bt191.1, bt193.1, bt195.1, bt197.1] : List Int) : List Int)).bind fun y199 => ((handmake_Stream_Flip.f s0_0 bt197.2 12).bind fun bt202 => (if bt202.1 = true then ((handmake_Stream_Next.f s0_0 bt202.2 4).bind fun bt204 => ((handmake_Stream_Pick.f s0_0 bt204.2 (([(-1), 60, 61, 9223372036854775807] : List Int))).bind fun bt209 => (if 0 ≤ bt204.1 then (if bt204.1 < (y199.length : Int) then (some ((y199.set (bt204.1 : Int).toNat bt209.1), bt209.2)) else (none)) else (none)))) else (some (y199, bt202.2))))))))) = some (r1, r2) := H
  have A2 := Aside0.mk A20
  clear A20
  replace H := Option.bind_eq_some_iff.mp H
  obtain ⟨⟨t191, t192⟩, A30, H⟩ := H
  replace H : ((handmake_Stream_Next.f s0_0 t192 (wrap64 (t189 + 1))).bind fun bt193 => ((handmake_Stream_Next.f s0_0 bt193.2 (wrap64 (t189 + 1))).bind fun bt195 => ((handmake_Stream_Next.f s0_0 bt195.2 (wrap64 (t189 + 1))).bind fun bt197 => ((some (([t191, bt193.1, bt195.1, bt197.1] : List Int) : List Int)).bind fun y199 => ((handmake_Stream_Flip.f s0_0 bt197.2 12).bind fun bt202 => (if bt202.1 = true then ((handmake_Stream_Next.f s0_0 bt202.2 4).bind fun bt204 => ((handmake_Stream_Pick.f s0_0 bt204.2 (([(-1), 60, 61, 9223372036854775807] : List Int))).bind fun bt209 => (if 0 ≤ bt204.1 then (if bt204.1 < (y199.length : Int) then (some ((y199.set (bt204.1 : Int).toNat bt209.1), bt209.2)) else (none)) else (none)))) else (some (y199, bt202.2)))))))) = some (r1, r2) := H
  have A3 := Aside0.mk A30
  clear A30
  replace H := Option.bind_eq_some_iff.mp H
  obtain ⟨⟨t193, t194⟩, A40, H⟩ := H
  replace H : ((handmake_Stream_Next.f s0_0 t194 (wrap64 (t189 + 1))).bind fun bt195 => ((handmake_Stream_Next.f s0_0 bt195.2 (wrap64 (t189 + 1))).bind fun bt197 => ((some (([t191, t193, bt195.1, bt197.1] : List Int) : List Int)).bind fun y199 => ((handmake_Stream_Flip.f s0_0 bt197.2 12).bind fun bt202 => (if bt202.1 = true then ((handmake_Stream_Next.f s0_0 bt202.2 4).bind fun bt204 => ((handmake_Stream_Pick.f s0_0 bt204.2 (([(-1), 60, 61, 9223372036854775807] : List Int))).bind fun bt209 => (if 0 ≤ bt204.1 then (if bt204.1 < (y199.length : Int) then (some ((y199.set (bt204.1 : Int).toNat bt209.1), bt209.2)) else (none)) else (none)))) else (some (y199, bt202.2))))))) = some (r1, r2) := H
  have A4 := Aside0.mk A40
  clear A40
  replace H := Option.bind_eq_some_iff.mp H
  obtain ⟨⟨t195, t196⟩, A50, H⟩ := H
  replace H : ((handmake_Stream_Next.f s0_0 t196 (wrap64 (t189 + 1))).bind fun bt197 => ((some (([t191, t193, t195, bt197.1] : List Int) : List Int)).bind fun y199 => ((handmake_Stream_Flip.f s0_0 bt197.2 12).bind fun bt202 => (if bt202.1 = true then ((handmake_Stream_Next.f s0_0 bt202.2 4).bind fun bt204 => ((handmake_Stream_Pick.f s0_0 bt204.2 (([(-1), 60, 61, 9223372036854775807] : List Int))).bind fun bt209 => (if 0 ≤ bt204.1 then (if bt204.1 < (y199.length : Int) then (some ((y199.set (bt204.1 : Int).toNat bt209.1), bt209.2)) else (none)) else (none)))) else (some (y199, bt202.2)))))) = some (r1, r2) := H
  have A5 := Aside0.mk A50
  clear A50
  replace H := Option.bind_eq_some_iff.mp H
  obtain ⟨⟨t197, t198⟩, A60, H⟩ := H
  replace H : ((some (([t191, t193, t195, t197] : List Int) : List Int)).bind fun y199 => ((handmake_Stream_Flip.f s0_0 t198 12).bind fun bt202 => (if bt202.1 = true then ((handmake_Stream_Next.f s0_0 bt202.2 4).bind fun bt204 => ((handmake_Stream_Pick.f s0_0 bt204.2 (([(-1), 60, 61, 9223372036854775807] : List Int))).bind fun bt209 => (if 0 ≤ bt204.1 then (if bt204.1 < (y199.length : Int) then (some ((y199.set (bt204.1 : Int).toNat bt209.1), bt209.2)) else (none)) else (none)))) else (some (y199, bt202.2))))) = some (r1, r2) := H
  have A6 := Aside0.mk A60
  clear A60
  obtain ⟨y199, hy199⟩ : ∃ y_ : List Int, y_ = (([t191, t193, t195, t197] : List Int)) := ⟨_, rfl⟩
  replace H : ((handmake_Stream_Flip.f s0_0 t198 12).bind fun bt202 => (if bt202.1 = true then ((handmake_Stream_Next.f s0_0 bt202.2 4).bind fun bt204 => ((handmake_Stream_Pick.f s0_0 bt204.2 (([(-1), 60, 61, 9223372036854775807] : List Int))).bind fun bt209 => (if 0 ≤ bt204.1 then (if bt204.1 < (y199.length : Int) then (some ((y199.set (bt204.1 : Int).toNat bt209.1), bt209.2)) else (none)) else (none)))) else (some (y199, bt202.2)))) = some (r1, r2) := by first | (rw [hy199]; with_reducible exact H) | (have H2_ := (Option.bind_some _ _).symm.trans H; rw [hy199]; with_reducible exact H2_) | (have H2_ := (Option.bind_some _ _).symm.trans H; with_reducible exact H2_) | with_reducible exact H | (rw [hy199]; exact H) | exact H
  have Ny199 := Aside0.mk hy199
  clear hy199
  replace H := Option.bind_eq_some_iff.mp H
  obtain ⟨⟨t202, t203⟩, A70, H⟩ := H
  replace H : (if t202 = true then ((handmake_Stream_Next.f s0_0 t203 4).bind fun bt204 => ((handmake_Stream_Pick.f s0_0 bt204.2 (([(-1), 60, 61, 9223372036854775807] : List Int))).bind fun bt209 => (if 0 ≤ bt204.1 then (if bt204.1 < (y199.length : Int) then (some ((y199.set (bt204.1 : Int).toNat bt209.1), bt209.2)) else (none)) else (none)))) else (some (y199, t203))) = some (r1, r2) := H
  have A7 := Aside0.mk A70
  clear A70
  have HC8 := Aside0.mk H
  clear H
  go_enter Try.func34, Try.ntmps34
  go_upto_if 26 with (first | ((with_reducible refine gate_dst (N := 6) rfl ?_); refine Kd.R_lit (Kd.int .i64) _ 3 ?hg (N := 6) ?hd (xs := ([4, 10, 15, 16] : List Int)) (inner := [.int .i64 4, .int .i64 10, .int .i64 15, .int .i64 16]) (ok := fun _ => True) (okp := fun _ => True) ?hr ?hp (fun _ hk => hk) trivial (Below.refl _ _) (Nat.le_refl _) (by simp) ?_; (case hd => rfl); (case hg => rfl); (case hr => first | (go_simp; done) | (go_simp; rfl)); (case hp => exact (Reps.one (show Kd.M (Kd.int .i64) _ _ _ 4 [.int .i64 4] from rfl) (Reps.one (show Kd.M (Kd.int .i64) _ _ _ 10 [.int .i64 10] from rfl) (Reps.one (show Kd.M (Kd.int .i64) _ _ _ 15 [.int .i64 15] from rfl) (Reps.one (show Kd.M (Kd.int .i64) _ _ _ 16 [.int .i64 16] from rfl) (Reps.none _ _)))))); intro v187 w9 ho10 hb hg_ hnew_; clear hg_ hnew_; (first | rw [← Ny186.out] at ho10 | (simp only [Int.reduceToNat] at ho10; rw [← Ny186.out] at ho10)); have n0_ := Aside0.mk (Kd.R_lower ho10 (keep_size (w := w) (g := g) (row := none) q1x6_)); have n1_ := Aside0.mk (IsS25.below q6x6_ hb); have n2_ := Aside0.mk (KeepBut.trans q1x6_ (KeepBut.of_below hb g none) (.inl rfl)); have n3_ := Aside0.mk (below_step q7x6_ hb); clear HI0; clear HK; clear HB; have HO188 := n0_; have HI0 := n1_; have HK := n2_; have HB := n3_; clear n0_ n1_ n2_ n3_; clear hb ho10; obtain ⟨Ao11, co11, eo11⟩ := Kd.R_slice HO188.out; subst eo11) | ((with_reducible refine gate_callee (f := 30) rfl ?_); refine goesL_ (some 7) rfl rfl Try.func30 (by kernel_rfl) rfl #[.pointer (some ⟨g, 0, none⟩), .slice Ao11 y186.length co11] rfl q3x6_ ?_; (with_reducible refine (handmake_Stream_Pick.calls g s0_0 s0_1 _ _ y186 t189 t190 w0 _ ?side1 ?side2 ?side3 ?side4 ?side5 A2.out).mono ?_); (case side1 => repeat (first | (with_reducible first | exact HI0.out | apply IsS25.alloc | apply IsS25.drewN | apply IsS25.drew | apply IsS25.set_1) | exact HI0.out)); (case side2 => repeat (first | (with_reducible first | exact HB.out | apply below_alloc | apply pw_below_drewN | apply below_drew1 | refine below_set ?_ (IsS25.ge HI0.out)) | exact HB.out)); (case side3 => repeat (first | exact (Kd.R_reads' HO188.out).2.2 | (with_reducible refine Kd.C_alloc ?_ _) | (with_reducible refine Kd.C_drewN ?_ _) | (with_reducible refine Kd.C_drew ?_))); (case side4 => exact (Kd.R_reads' HO188.out).2.1); (case side5 => exact far_slice (IsS25.own_ne HI0.out HO188.out (by decide))); rintro e w12 ⟨rfl, hi, hb, hk⟩; refine ⟨_, rfl, ?_⟩; have n0_ := Aside0.mk (Kd.R_mono (Kd.R_keep (IsS25.apart (show IsS25 w0 _ g s0_0 s0_1 from by repeat (first | (with_reducible first | exact HI0.out | apply IsS25.alloc | apply IsS25.drewN | apply IsS25.drew | apply IsS25.set_1) | exact HI0.out)) q4x6_ (by decide)) hk (fun _ h => h.2)) (fun _ h => h.1)); have n1_ := Aside0.mk (KeepBut.trans q1x6_ hk (.inl rfl)); have n2_ := Aside0.mk (hb); have n3_ := Aside0.mk (hi); clear HO188; clear HK; clear HB; clear HI0; have HO188 := n0_; have HK := n1_; have HB := n2_; have HI0 := n3_; clear n0_ n1_ n2_ n3_; (try clear hb); (try clear hb2); (try clear hk); (try clear hi)) | ((with_reducible refine gate_callee (f := 12) rfl ?_); refine goesL_ (some 11) rfl rfl Try.func12 (by kernel_rfl) rfl #[.pointer (some ⟨g, 0, none⟩), .int .i64 (wrap64 (t189 + 1))] rfl q3x6_ ?_; (with_reducible refine (handmake_Stream_Next.calls g s0_0 t190 (wrap64 (t189 + 1)) t191 t192 w0 _ ?side1 ?side2 A3.out).mono ?_); (case side1 => repeat (first | (with_reducible first | exact HI0.out | apply IsS25.alloc | apply IsS25.drewN | apply IsS25.drew | apply IsS25.set_1) | exact HI0.out)); (case side2 => repeat (first | (with_reducible first | exact HB.out | apply below_alloc | apply pw_below_drewN | apply below_drew1 | refine below_set ?_ (IsS25.ge HI0.out)) | exact HB.out)); rintro e w13 ⟨rfl, hi, hb, hk⟩; refine ⟨_, rfl, ?_⟩; have n0_ := Aside0.mk (Kd.R_mono (Kd.R_keep (IsS25.apart (show IsS25 w0 _ g s0_0 t190 from by repeat (first | (with_reducible first | exact HI0.out | apply IsS25.alloc | apply IsS25.drewN | apply IsS25.drew | apply IsS25.set_1) | exact HI0.out)) q4x6_ (by decide)) hk (fun _ h => h.2)) (fun _ h => h.1)); have n1_ := Aside0.mk (KeepBut.trans q1x6_ hk (.inl rfl)); have n2_ := Aside0.mk (hb); have n3_ := Aside0.mk (hi); clear HO188; clear HK; clear HB; clear HI0; have HO188 := n0_; have HK := n1_; have HB := n2_; have HI0 := n3_; clear n0_ n1_ n2_ n3_; (try clear hb); (try clear hb2); (try clear hk); (try clear hi)) | ((with_reducible refine gate_callee (f := 12) rfl ?_); refine goesL_ (some 15) rfl rfl Try.func12 (by kernel_rfl) rfl #[.pointer (some ⟨g, 0, none⟩), .int .i64 (wrap64 (t189 + 1))] rfl q3x6_ ?_; (with_reducible refine (handmake_Stream_Next.calls g s0_0 t192 (wrap64 (t189 + 1)) t193 t194 w0 _ ?side1 ?side2 A4.out).mono ?_); (case side1 => repeat (first | (with_reducible first | exact HI0.out | apply IsS25.alloc | apply IsS25.drewN | apply IsS25.drew | apply IsS25.set_1) | exact HI0.out)); (case side2 => repeat (first | (with_reducible first | exact HB.out | apply below_alloc | apply pw_below_drewN | apply below_drew1 | refine below_set ?_ (IsS25.ge HI0.out)) | exact HB.out)); rintro e w14 ⟨rfl, hi, hb, hk⟩; refine ⟨_, rfl, ?_⟩; have n0_ := Aside0.mk (Kd.R_mono (Kd.R_keep (IsS25.apart (show IsS25 w0 _ g s0_0 t192 from by repeat (first | (with_reducible first | exact HI0.out | apply IsS25.alloc | apply IsS25.drewN | apply IsS25.drew | apply IsS25.set_1) | exact HI0.out)) q4x6_ (by decide)) hk (fun _ h => h.2)) (fun _ h => h.1)); have n1_ := Aside0.mk (KeepBut.trans q1x6_ hk (.inl rfl)); have n2_ := Aside0.mk (hb); have n3_ := Aside0.mk (hi); clear HO188; clear HK; clear HB; clear HI0; have HO188 := n0_; have HK := n1_; have HB := n2_; have HI0 := n3_; clear n0_ n1_ n2_ n3_; (try clear hb); (try clear hb2); (try clear hk); (try clear hi)) | ((with_reducible refine gate_callee (f := 12) rfl ?_); refine goesL_ (some 19) rfl rfl Try.func12 (by kernel_rfl) rfl #[.pointer (some ⟨g, 0, none⟩), .int .i64 (wrap64 (t189 + 1))] rfl q3x6_ ?_; (with_reducible refine (handmake_Stream_Next.calls g s0_0 t194 (wrap64 (t189 + 1)) t195 t196 w0 _ ?side1 ?side2 A5.out).mono ?_); (case side1 => repeat (first | (with_reducible first | exact HI0.out | apply IsS25.alloc | apply IsS25.drewN | apply IsS25.drew | apply IsS25.set_1) | exact HI0.out)); (case side2 => repeat (first | (with_reducible first | exact HB.out | apply below_alloc | apply pw_below_drewN | apply below_drew1 | refine below_set ?_ (IsS25.ge HI0.out)) | exact HB.out)); rintro e w15 ⟨rfl, hi, hb, hk⟩; refine ⟨_, rfl, ?_⟩; have n0_ := Aside0.mk (Kd.R_mono (Kd.R_keep (IsS25.apart (show IsS25 w0 _ g s0_0 t194 from by repeat (first | (with_reducible first | exact HI0.out | apply IsS25.alloc | apply IsS25.drewN | apply IsS25.drew | apply IsS25.set_1) | exact HI0.out)) q4x6_ (by decide)) hk (fun _ h => h.2)) (fun _ h => h.1)); have n1_ := Aside0.mk (KeepBut.trans q1x6_ hk (.inl rfl)); have n2_ := Aside0.mk (hb); have n3_ := Aside0.mk (hi); clear HO188; clear HK; clear HB; clear HI0; have HO188 := n0_; have HK := n1_; have HB := n2_; have HI0 := n3_; clear n0_ n1_ n2_ n3_; (try clear hb); (try clear hb2); (try clear hk); (try clear hi)) | ((with_reducible refine gate_callee (f := 12) rfl ?_); refine goesL_ (some 23) rfl rfl Try.func12 (by kernel_rfl) rfl #[.pointer (some ⟨g, 0, none⟩), .int .i64 (wrap64 (t189 + 1))] rfl q3x6_ ?_; (with_reducible refine (handmake_Stream_Next.calls g s0_0 t196 (wrap64 (t189 + 1)) t197 t198 w0 _ ?side1 ?side2 A6.out).mono ?_); (case side1 => repeat (first | (with_reducible first | exact HI0.out | apply IsS25.alloc | apply IsS25.drewN | apply IsS25.drew | apply IsS25.set_1) | exact HI0.out)); (case side2 => repeat (first | (with_reducible first | exact HB.out | apply below_alloc | apply pw_below_drewN | apply below_drew1 | refine below_set ?_ (IsS25.ge HI0.out)) | exact HB.out)); rintro e w16 ⟨rfl, hi, hb, hk⟩; refine ⟨_, rfl, ?_⟩; have n0_ := Aside0.mk (Kd.R_mono (Kd.R_keep (IsS25.apart (show IsS25 w0 _ g s0_0 t196 from by repeat (first | (with_reducible first | exact HI0.out | apply IsS25.alloc | apply IsS25.drewN | apply IsS25.drew | apply IsS25.set_1) | exact HI0.out)) q4x6_ (by decide)) hk (fun _ h => h.2)) (fun _ h => h.1)); have n1_ := Aside0.mk (KeepBut.trans q1x6_ hk (.inl rfl)); have n2_ := Aside0.mk (hb); have n3_ := Aside0.mk (hi); clear HO188; clear HK; clear HB; clear HI0; have HO188 := n0_; have HK := n1_; have HB := n2_; have HI0 := n3_; clear n0_ n1_ n2_ n3_; (try clear hb); (try clear hb2); (try clear hk); (try clear hi)) | ((with_reducible refine gate_dst (N := 24) rfl ?_); refine Kd.R_lit (Kd.int .i64) _ 3 ?hg (N := 24) ?hd (xs := ([t191, t193, t195, t197] : List Int)) (inner := [.int .i64 t191, .int .i64 t193, .int .i64 t195, .int .i64 t197]) (ok := fun _ => True) (okp := fun _ => True) ?hr ?hp (fun _ hk => hk) trivial (Below.refl _ _) (Nat.le_refl _) (by simp) ?_; (case hd => rfl); (case hg => rfl); (case hr => first | (go_simp; done) | (go_simp; rfl)); (case hp => exact (Reps.one (show Kd.M (Kd.int .i64) _ _ _ t191 [.int .i64 t191] from rfl) (Reps.one (show Kd.M (Kd.int .i64) _ _ _ t193 [.int .i64 t193] from rfl) (Reps.one (show Kd.M (Kd.int .i64) _ _ _ t195 [.int .i64 t195] from rfl) (Reps.one (show Kd.M (Kd.int .i64) _ _ _ t197 [.int .i64 t197] from rfl) (Reps.none _ _)))))); intro v200 w17 ho18 hb hg_ hnew_; clear hg_ hnew_; (first | rw [← Ny199.out] at ho18 | (simp only [Int.reduceToNat] at ho18; rw [← Ny199.out] at ho18)); have n0_ := Aside0.mk (Kd.R_elder' q4x6_ (Kd.R_base ho18) hb); have n1_ := Aside0.mk (Kd.R_lower (Kd.R_new' ho18 (Kd.R_lt q4x6_)) (keep_size (w := w) (g := g) (row := none) q1x6_)); have n2_ := Aside0.mk (IsS25.below q6x6_ hb); have n3_ := Aside0.mk (KeepBut.trans q1x6_ (KeepBut.of_below hb g none) (.inl rfl)); have n4_ := Aside0.mk (below_step q7x6_ hb); clear HO188; clear HI0; clear HK; clear HB; have HO188 := n0_; have HO201 := n1_; have HI0 := n2_; have HK := n3_; have HB := n4_; clear n0_ n1_ n2_ n3_ n4_; clear hb ho18) | ((with_reducible refine gate_callee (f := 67) rfl ?_); refine goesL_ (some 26) rfl rfl Try.func67 (by kernel_rfl) rfl #[.pointer (some ⟨g, 0, none⟩), .int .i64 12] rfl q3x6_ ?_; (with_reducible refine (handmake_Stream_Flip.calls g s0_0 t198 12 t202 t203 w0 _ ?side1 ?side2 A7.out).mono ?_); (case side1 => repeat (first | (with_reducible first | exact HI0.out | apply IsS25.alloc | apply IsS25.drewN | apply IsS25.drew | apply IsS25.set_1) | exact HI0.out)); (case side2 => repeat (first | (with_reducible first | exact HB.out | apply below_alloc | apply pw_below_drewN | apply below_drew1 | refine below_set ?_ (IsS25.ge HI0.out)) | exact HB.out)); rintro e w19 ⟨rfl, hi, hb, hk⟩; refine ⟨_, rfl, ?_⟩; have n0_ := Aside0.mk (Kd.R_mono (Kd.R_keep (IsS25.apart (show IsS25 w0 _ g s0_0 t198 from by repeat (first | (with_reducible first | exact HI0.out | apply IsS25.alloc | apply IsS25.drewN | apply IsS25.drew | apply IsS25.set_1) | exact HI0.out)) q4x6_ (by decide)) hk (fun _ h => h.2)) (fun _ h => h.1)); have n1_ := Aside0.mk (Kd.R_mono (Kd.R_keep (IsS25.apart (show IsS25 w0 _ g s0_0 t198 from by repeat (first | (with_reducible first | exact HI0.out | apply IsS25.alloc | apply IsS25.drewN | apply IsS25.drew | apply IsS25.set_1) | exact HI0.out)) q15x6_ (by decide)) hk (fun _ h => h.2)) (fun _ h => h.1)); have n2_ := Aside0.mk (KeepBut.trans q1x6_ hk (.inl rfl)); have n3_ := Aside0.mk (hb); have n4_ := Aside0.mk (hi); clear HO188; clear HO201; clear HK; clear HB; clear HI0; have HO188 := n0_; have HO201 := n1_; have HK := n2_; have HB := n3_; have HI0 := n4_; clear n0_ n1_ n2_ n3_ n4_; (try clear hb); (try clear hb2); (try clear hk); (try clear hi)))
  (try simp only [Act.put, List.setIfInBounds_toArray, List.set_cons_zero, List.set_cons_succ])
  have H := HC8.out
  clear HC8
  by_cases c20 : t202 = true
  · subst c20
    have H1 : ((handmake_Stream_Next.f s0_0 t203 4).bind fun bt204 => ((handmake_Stream_Pick.f s0_0 bt204.2 (([(-1), 60, 61, 9223372036854775807] : List Int))).bind fun bt209 => (if 0 ≤ bt204.1 then (if bt204.1 < (y199.length : Int) then (some ((y199.set (bt204.1 : Int).toNat bt209.1), bt209.2)) else (none)) else (none)))) = some (r1, r2) := by rw [if_pos rfl] at H; exact H
    clear H
    have H := H1
    clear H1
    replace H := Option.bind_eq_some_iff.mp H
    obtain ⟨⟨t204, t205⟩, A210, H⟩ := H
    replace H : ((handmake_Stream_Pick.f s0_0 t205 (([(-1), 60, 61, 9223372036854775807] : List Int))).bind fun bt209 => (if 0 ≤ t204 then (if t204 < (y199.length : Int) then (some ((y199.set (t204 : Int).toNat bt209.1), bt209.2)) else (none)) else (none))) = some (r1, r2) := H
    have A21 := Aside0.mk A210
    clear A210
    obtain ⟨y206, hy206⟩ : ∃ y_ : List Int, y_ = (([(-1), 60, 61, 9223372036854775807] : List Int)) := ⟨_, rfl⟩
    replace H : ((handmake_Stream_Pick.f s0_0 t205 y206).bind fun bt209 => (if 0 ≤ t204 then (if t204 < (y199.length : Int) then (some ((y199.set (t204 : Int).toNat bt209.1), bt209.2)) else (none)) else (none))) = some (r1, r2) := by first | (rw [hy206]; with_reducible exact H) | (have H2_ := (Option.bind_some _ _).symm.trans H; rw [hy206]; with_reducible exact H2_) | (have H2_ := (Option.bind_some _ _).symm.trans H; with_reducible exact H2_) | with_reducible exact H | (rw [hy206]; exact H) | exact H
    have Ny206 := Aside0.mk hy206
    clear hy206
    replace H := Option.bind_eq_some_iff.mp H
    obtain ⟨⟨t209, t210⟩, A220, H⟩ := H
    replace H : (if 0 ≤ t204 then (if t204 < (y199.length : Int) then (some ((y199.set (t204 : Int).toNat t209), t210)) else (none)) else (none)) = some (r1, r2) := H
    have A22 := Aside0.mk A220
    clear A220
    by_cases c23 : 0 ≤ t204
    · rw [if_pos c23] at H
      have c23b0 : decide (0 ≤ t204) = true := decide_eq_true c23
      clear c23
      (first | rw [c23b0] | (simp only [i64_w, i32_w]; rw [c23b0]) | skip)
      by_cases c24 : t204 < (y199.length : Int)
      · rw [if_pos c24] at H
        have c24b0 : decide (t204 < (y199.length : Int)) = true := decide_eq_true c24
        clear c24
        obtain ⟨y211, hy211⟩ : ∃ y_ : List Int, y_ = (y199.set (t204 : Int).toNat t209) := ⟨_, rfl⟩
        replace H : (some (y211, t210)) = some (r1, r2) := by first | (rw [hy211]; with_reducible exact H) | (have H2_ := (Option.bind_some _ _).symm.trans H; rw [hy211]; with_reducible exact H2_) | (have H2_ := (Option.bind_some _ _).symm.trans H; with_reducible exact H2_) | with_reducible exact H | (rw [hy211]; exact H) | exact H
        have Ny211 := Aside0.mk hy211
        clear hy211
        as_aux_lemma =>
          simp only [Option.some.injEq, Prod.mk.injEq] at H
          obtain ⟨rfl, rfl⟩ := H
          go_wp2_with (first | ((with_reducible refine gate_callee (f := 12) rfl ?_); refine goesL_ (some 29) rfl rfl Try.func12 (by kernel_rfl) rfl #[.pointer (some ⟨g, 0, none⟩), .int .i64 4] rfl q3x6_ ?_; (with_reducible refine (handmake_Stream_Next.calls g s0_0 t203 4 t204 t205 w0 _ ?side1 ?side2 A21.out).mono ?_); (case side1 => repeat (first | (with_reducible first | exact HI0.out | apply IsS25.alloc | apply IsS25.drewN | apply IsS25.drew | apply IsS25.set_1) | exact HI0.out)); (case side2 => repeat (first | (with_reducible first | exact HB.out | apply below_alloc | apply pw_below_drewN | apply below_drew1 | refine below_set ?_ (IsS25.ge HI0.out)) | exact HB.out)); rintro e w26 ⟨rfl, hi, hb, hk⟩; refine ⟨_, rfl, ?_⟩; have n0_ := Aside0.mk (Kd.R_mono (Kd.R_keep (IsS25.apart (show IsS25 w0 _ g s0_0 t203 from by repeat (first | (with_reducible first | exact HI0.out | apply IsS25.alloc | apply IsS25.drewN | apply IsS25.drew | apply IsS25.set_1) | exact HI0.out)) q4x6_ (by decide)) hk (fun _ h => h.2)) (fun _ h => h.1)); have n1_ := Aside0.mk (Kd.R_mono (Kd.R_keep (IsS25.apart (show IsS25 w0 _ g s0_0 t203 from by repeat (first | (with_reducible first | exact HI0.out | apply IsS25.alloc | apply IsS25.drewN | apply IsS25.drew | apply IsS25.set_1) | exact HI0.out)) q15x6_ (by decide)) hk (fun _ h => h.2)) (fun _ h => h.1)); have n2_ := Aside0.mk (KeepBut.trans q1x6_ hk (.inl rfl)); have n3_ := Aside0.mk (hb); have n4_ := Aside0.mk (hi); clear HO188; clear HO201; clear HK; clear HB; clear HI0; have HO188 := n0_; have HO201 := n1_; have HK := n2_; have HB := n3_; have HI0 := n4_; clear n0_ n1_ n2_ n3_ n4_; (try clear hb); (try clear hb2); (try clear hk); (try clear hi)) | ((with_reducible refine gate_dst (N := 31) rfl ?_); refine Kd.R_lit (Kd.int .i64) _ 3 ?hg (N := 31) ?hd (xs := ([(-1), 60, 61, 9223372036854775807] : List Int)) (inner := [.int .i64 (-1), .int .i64 60, .int .i64 61, .int .i64 9223372036854775807]) (ok := fun _ => True) (okp := fun _ => True) ?hr ?hp (fun _ hk => hk) trivial (Below.refl _ _) (Nat.le_refl _) (by simp) ?_; (case hd => rfl); (case hg => rfl); (case hr => first | (go_simp; done) | (go_simp; rfl)); (case hp => exact (Reps.one (show Kd.M (Kd.int .i64) _ _ _ (-1) [.int .i64 (-1)] from rfl) (Reps.one (show Kd.M (Kd.int .i64) _ _ _ 60 [.int .i64 60] from rfl) (Reps.one (show Kd.M (Kd.int .i64) _ _ _ 61 [.int .i64 61] from rfl) (Reps.one (show Kd.M (Kd.int .i64) _ _ _ 9223372036854775807 [.int .i64 9223372036854775807] from rfl) (Reps.none _ _)))))); intro v207 w27 ho28 hb hg_ hnew_; clear hg_ hnew_; (first | rw [← Ny206.out] at ho28 | (simp only [Int.reduceToNat] at ho28; rw [← Ny206.out] at ho28)); have n0_ := Aside0.mk (Kd.R_elder' q4x6_ (Kd.R_base ho28) hb); have n1_ := Aside0.mk (Kd.R_elder' q15x6_ (Kd.R_base ho28) hb); have n2_ := Aside0.mk (Kd.R_lower (Kd.R_new' (Kd.R_new' ho28 (Kd.R_lt q4x6_)) (Kd.R_lt q15x6_)) (keep_size (w := w) (g := g) (row := none) q1x6_)); have n3_ := Aside0.mk (IsS25.below q6x6_ hb); have n4_ := Aside0.mk (KeepBut.trans q1x6_ (KeepBut.of_below hb g none) (.inl rfl)); have n5_ := Aside0.mk (below_step q7x6_ hb); clear HO188; clear HO201; clear HI0; clear HK; clear HB; have HO188 := n0_; have HO201 := n1_; have HO208 := n2_; have HI0 := n3_; have HK := n4_; have HB := n5_; clear n0_ n1_ n2_ n3_ n4_ n5_; clear hb ho28; obtain ⟨Ao29, co29, eo29⟩ := Kd.R_slice HO208.out; subst eo29) | ((with_reducible refine gate_callee (f := 30) rfl ?_); refine goesL_ (some 32) rfl rfl Try.func30 (by kernel_rfl) rfl #[.pointer (some ⟨g, 0, none⟩), .slice Ao29 y206.length co29] rfl q3x6_ ?_; (with_reducible refine (handmake_Stream_Pick.calls g s0_0 t205 _ _ y206 t209 t210 w0 _ ?side1 ?side2 ?side3 ?side4 ?side5 A22.out).mono ?_); (case side1 => repeat (first | (with_reducible first | exact HI0.out | apply IsS25.alloc | apply IsS25.drewN | apply IsS25.drew | apply IsS25.set_1) | exact HI0.out)); (case side2 => repeat (first | (with_reducible first | exact HB.out | apply below_alloc | apply pw_below_drewN | apply below_drew1 | refine below_set ?_ (IsS25.ge HI0.out)) | exact HB.out)); (case side3 => repeat (first | exact (Kd.R_reads' HO208.out).2.2 | (with_reducible refine Kd.C_alloc ?_ _) | (with_reducible refine Kd.C_drewN ?_ _) | (with_reducible refine Kd.C_drew ?_))); (case side4 => exact (Kd.R_reads' HO208.out).2.1); (case side5 => exact far_slice (IsS25.own_ne HI0.out HO208.out (by decide))); rintro e w30 ⟨rfl, hi, hb, hk⟩; refine ⟨_, rfl, ?_⟩; have n0_ := Aside0.mk (Kd.R_mono (Kd.R_keep (IsS25.apart (show IsS25 w0 _ g s0_0 t205 from by repeat (first | (with_reducible first | exact HI0.out | apply IsS25.alloc | apply IsS25.drewN | apply IsS25.drew | apply IsS25.set_1) | exact HI0.out)) q4x6_ (by decide)) hk (fun _ h => h.2)) (fun _ h => h.1)); have n1_ := Aside0.mk (Kd.R_mono (Kd.R_keep (IsS25.apart (show IsS25 w0 _ g s0_0 t205 from by repeat (first | (with_reducible first | exact HI0.out | apply IsS25.alloc | apply IsS25.drewN | apply IsS25.drew | apply IsS25.set_1) | exact HI0.out)) q15x6_ (by decide)) hk (fun _ h => h.2)) (fun _ h => h.1)); have n2_ := Aside0.mk (Kd.R_mono (Kd.R_keep (IsS25.apart (show IsS25 w0 _ g s0_0 t205 from by repeat (first | (with_reducible first | exact HI0.out | apply IsS25.alloc | apply IsS25.drewN | apply IsS25.drew | apply IsS25.set_1) | exact HI0.out)) (by (with_reducible repeat (first | apply Kd.R_alloc | apply Kd.R_drewN | apply Kd.R_drew)); exact HO208.out) (by decide)) hk (fun _ h => h.2)) (fun _ h => h.1)); have n3_ := Aside0.mk (KeepBut.trans q1x6_ hk (.inl rfl)); have n4_ := Aside0.mk (hb); have n5_ := Aside0.mk (hi); clear HO188; clear HO201; clear HO208; clear HK; clear HB; clear HI0; have HO188 := n0_; have HO201 := n1_; have HO208 := n2_; have HK := n3_; have HB := n4_; have HI0 := n5_; clear n0_ n1_ n2_ n3_ n4_ n5_; (try clear hb); (try clear hb2); (try clear hk); (try clear hi); have p25 : 0 ≤ (t204 : Int) := of_decide_eq_true q14x6_; have q25 : (t204 : Int) < ((y199.length : Int) : Int) := of_decide_eq_true q14x6_; obtain ⟨go25, co25, eo25, gb25, gl25, cl25, HG25⟩ := Kd.R_form HO201.out (by omega); (first | cases eo25 | (injection eo25 with ea_ en_ ec_; (first | subst ea_ | (injection ea_ with ea_; subst ea_)); subst ec_; clear en_)); have GB25 := Aside0.mk gb25; have GG25 := Aside0.mk HG25; clear gb25 gl25 HG25; obtain ⟨hx25_0, hf25_0⟩ := Kd.R_celln 0 HO201.out (t204 : Int) p25 q25; replace p25 := eq_true p25; replace q25 := eq_true q25; have n_ := Aside0.mk (Kd.R_mono (ok' := (fun k_ => some k_ ≠ (.slice Ao11 y186.length co11 : Value).ownBlock ∧ some k_ ≠ (.slice Ao29 y206.length co29 : Value).ownBlock)) HO201.out (fun k_ hk => ⟨hk.1.2, hk.2⟩)); clear HO201; have HO201 := n_; clear n_; obtain ⟨hy31_, hz31_⟩ := Kd.R_celln 0 HO201.out (t204 : Int) (of_decide_eq_true q14x6_) (of_decide_eq_true q14x6_); have HP31 := Kd.R_putg HO201.out (t204 : Int) t209) | ((with_reducible refine gate_store (t := 3) (p := 33) rfl ?_); refine store_event (t := 3) (p := 33) (v := ?vo_w32) (w1 := (w30.setCell ⟨go25, (t204 : Int).toNat, none⟩ (.int .i64 t209))) ?hg ?ho ?hn ?hr ?_; (case ho => rfl); (case hg => rfl); (case hn => rfl); (case hr => first | (go_simp; done) | (go_simp; rfl)); intro w32 hw; have hg : w30.grownBy w32 (some go25) := (by rw [hw]; exact HP31.2); have hp_ : Kd.R (Kd.int .i64) 3 w32 w.heap.size (fun k_ => some k_ ≠ (.slice Ao11 y186.length co11 : Value).ownBlock ∧ some k_ ≠ (.slice Ao29 y206.length co29 : Value).ownBlock) (.slice (some ⟨go25, 0, none⟩) y199.length co25) y211 := (by rw [hw, Ny211.out]; exact HP31.1); clear HP31; have n0_ := Aside0.mk (IsS25.grown q6x6_ hg (IsS25.own_ne HI0.out HO201.out (by decide))); have n1_ := Aside0.mk (Kd.R_after (v := (.slice (some ⟨go25, 0, none⟩) y199.length co25)) (v1 := (.slice (some ⟨go25, 0, none⟩) y199.length co25)) (ok := (fun k_ => some k_ ≠ (.slice Ao29 y206.length co29 : Value).ownBlock)) (by (with_reducible repeat (first | apply Kd.R_alloc | apply Kd.R_drewN | apply Kd.R_drew)); exact Kd.R_mono HO188.out (fun _ hk => ⟨hk.2, hk.1.2⟩)) hg (.inl rfl)); have n2_ := Aside0.mk (hp_); have n3_ := Aside0.mk (Kd.R_after (v := (.slice (some ⟨go25, 0, none⟩) y199.length co25)) (v1 := (.slice (some ⟨go25, 0, none⟩) y199.length co25)) (ok := (fun k_ => some k_ ≠ (.slice Ao11 y186.length co11 : Value).ownBlock)) (by (with_reducible repeat (first | apply Kd.R_alloc | apply Kd.R_drewN | apply Kd.R_drew)); exact Kd.R_mono HO208.out (fun _ hk => ⟨hk.1.2, hk.2⟩)) hg (.inl rfl)); have n4_ := Aside0.mk ((by rw [hw]; exact below_set (HB.out) (Nat.le_trans HL.out GB25.out) : Below w0.heap.size w0 w32)); have n5_ := Aside0.mk (KeepBut.trans q1x6_ (KeepBut.of_grown hg g) (Kd.R_base2 HO201.out)); clear HI0; clear HO188; clear HO201; clear HO208; clear HB; clear HK; have HI0 := n0_; have HO188 := n1_; have HO201 := n2_; have HO208 := n3_; have HB := n4_; have HK := n5_; clear n0_ n1_ n2_ n3_ n4_ n5_; clear hg hw hp_))
          go_ret
          exact ⟨_, q16x6_, q19x6_, q6x6_, q7x6_, q1x6_⟩
      rw [if_neg c24] at H
      exact absurd H (by simp)
    rw [if_neg c23] at H
    exact absurd H (by simp)
  replace c20 := Bool.eq_false_iff.mpr c20
  subst c20
  have H1 : (some (y199, t203)) = some (r1, r2) := by rw [if_neg (show ¬ (false = true) by decide)] at H; exact H
  clear H
  have H := H1
  clear H1
  as_aux_lemma =>
    simp only [Option.some.injEq, Prod.mk.injEq] at H
    obtain ⟨rfl, rfl⟩ := H
    go_wp2
    go_ret
    exact ⟨_, q16x6_, q19x6_, q6x6_, q7x6_, q1x6_⟩

/-! ### handref1_ExactFault: function 35 -/
mutual
def handref1_ExactFault.l0 : Nat → List Int → List Int → Int → Int → Option (Int)
  | 0, _, _, _, _ => none
  | k + 1, x0, x8, x9, x10 => if x10 < x9 then (if 0 ≤ x10 then (if x10 < (x8.length : Int) then (if (rd x8 x10) < 0 then (some 1) else (handref1_ExactFault.l0 k x0 x8 x9 (wrap64 (x10 + 1)))) else (none)) else (none)) else (handref1_ExactFault.l1 k 0 x0 (x0.length : Int) 0)
def handref1_ExactFault.l1 : Nat → Int → List Int → Int → Int → Option (Int)
  | 0, _, _, _, _ => none
  | k + 1, x5, x17, x18, x19 => if x19 < x18 then (if 0 ≤ x19 then (if x19 < (x17.length : Int) then (if (rd x17 x19) > 60 then (some 2) else (handref1_ExactFault.l1 k (wrap64 (x5 + (rd x17 x19))) x17 x18 (wrap64 (x19 + 1)))) else (none)) else (none)) else (if x5 > 60 then (some 2) else (some 0))
end
def handref1_ExactFault.f (k : Nat) (l0 : List Int) : Option (Int) := handref1_ExactFault.l0 k l0 l0 (l0.length : Int) 0
theorem handref1_ExactFault.mono_l : ∀ k, (∀ y0 y1 y2 y3, LeO (handref1_ExactFault.l0 k y0 y1 y2 y3) (handref1_ExactFault.l0 (k + 1) y0 y1 y2 y3)) ∧ (∀ y0 y1 y2 y3, LeO (handref1_ExactFault.l1 k y0 y1 y2 y3) (handref1_ExactFault.l1 (k + 1) y0 y1 y2 y3))
  | 0 => ⟨fun _ _ _ _ r h => by simp [handref1_ExactFault.l0] at h, fun _ _ _ _ r h => by simp [handref1_ExactFault.l1] at h⟩
  | k + 1 => by
    obtain ⟨ih0, ih1⟩ := handref1_ExactFault.mono_l k
    refine ⟨?_, ?_⟩
    · intro y0 y1 y2 y3
      unfold handref1_ExactFault.l0
      repeat' first
      | (with_reducible exact ih0 _ _ _ _)
      | (with_reducible exact ih1 _ _ _ _)
      | (with_reducible exact LeO.refl _)
      | (with_reducible exact LeO.none _)
      | (with_reducible refine LeO.ite ?_ ?_)
      | (with_reducible refine LeO.bind ?_ (fun _ => ?_))
      | exact ih0 _ _ _ _
      | exact ih1 _ _ _ _
      | exact LeO.none _
      | refine LeO.ite ?_ ?_
      | refine LeO.bind ?_ (fun _ => ?_)
    · intro y0 y1 y2 y3
      unfold handref1_ExactFault.l1
      repeat' first
      | (with_reducible exact ih0 _ _ _ _)
      | (with_reducible exact ih1 _ _ _ _)
      | (with_reducible exact LeO.refl _)
      | (with_reducible exact LeO.none _)
      | (with_reducible refine LeO.ite ?_ ?_)
      | (with_reducible refine LeO.bind ?_ (fun _ => ?_))
      | exact ih0 _ _ _ _
      | exact ih1 _ _ _ _
      | exact LeO.none _
      | refine LeO.ite ?_ ?_
      | refine LeO.bind ?_ (fun _ => ?_)
theorem handref1_ExactFault.mono : ∀ a0 k, LeO (handref1_ExactFault.f k a0) (handref1_ExactFault.f (k + 1) a0) := by
  intro a0 k
  obtain ⟨ih0, ih1⟩ := handref1_ExactFault.mono_l k
  unfold handref1_ExactFault.f
  repeat' first
      | (with_reducible exact ih0 _ _ _ _)
      | (with_reducible exact ih1 _ _ _ _)
      | (with_reducible exact LeO.refl _)
      | (with_reducible exact LeO.none _)
      | (with_reducible refine LeO.ite ?_ ?_)
      | (with_reducible refine LeO.bind ?_ (fun _ => ?_))
      | exact ih0 _ _ _ _
      | exact ih1 _ _ _ _
      | exact LeO.none _
      | refine LeO.ite ?_ ?_
      | refine LeO.bind ?_ (fun _ => ?_)
set_option maxHeartbeats 8000000 in
set_option maxRecDepth 100000 in
theorem handref1_ExactFault.calls (k : Nat) (A0 : Option Addr) (c0 : Nat) (l0 : List Int) (r : Int) (w : World) (hr0 : Kd.C (Kd.int .i64) w A0 l0.length l0) (hc0 : l0.length ≤ c0) (h : handref1_ExactFault.f k l0 = some r) :
    Calls Try.prog 35 #[.slice A0 l0.length c0] w fun e w' => e = .returned (.int .i64 r) ∧ Drawn0 w w' := by
  have HR0 := Aside0.mk hr0
  have HC0 := Aside0.mk hc0
  clear hr0 hc0
  have H : (handref1_ExactFault.l0 k l0 l0 (l0.length : Int) 0) = some r := h
  clear h
  have H' := Aside0.mk H
  clear H
  go_enter Try.func35, Try.ntmps35
  go_wp2
  go_loopg [10] k (fun kq v10 w' => ∃ (x10_1 : Int), v10 = .int .i64 x10_1 ∧ Aside0 (handref1_ExactFault.l0 kq l0 l0 (l0.length : Int) x10_1 = some r) ∧ Aside0 (kq ≤ k) ∧ Drawn0 w w')
  case atStart => exact ⟨(0), q8x6_, H', ⟨Nat.le_refl _⟩, q17x6_⟩
  case round =>
    clear H'
    obtain ⟨x10_1, rfl, HA, HK1, ⟨m1, rfl⟩⟩ := hrel
    rcases gk with _ | k1
    · exact absurd HA.out (by simp [handref1_ExactFault.l0])
    have H := HA.out
    clear HA
    simp only [handref1_ExactFault.l0] at H
    by_cases c2 : x10_1 < (l0.length : Int)
    · rw [if_pos c2] at H
      have c2b0 : decide (x10_1 < (l0.length : Int)) = true := decide_eq_true c2
      clear c2
      by_cases c3 : 0 ≤ x10_1
      · rw [if_pos c3] at H
        have c3b0 : decide (0 ≤ x10_1) = true := decide_eq_true c3
        clear c3
        by_cases c4 : x10_1 < (l0.length : Int)
        · rw [if_pos c4] at H
          have c4b0 : decide (x10_1 < (l0.length : Int)) = true := decide_eq_true c4
          clear c4
          by_cases c5 : (rd l0 x10_1) < 0
          · rw [if_pos c5] at H
            have c5b0 : decide ((rd l0 x10_1) < 0) = true := decide_eq_true c5
            clear c5
            as_aux_lemma =>
              obtain rfl := Option.some.inj H
              have p212 : 0 ≤ (x10_1 : Int) := of_decide_eq_true q14x6_
              have q212 : x10_1 < (l0.length : Int) := of_decide_eq_true q14x6_
              obtain ⟨ad212, e212, hx212_0⟩ := Kd.at_int HR0.out x10_1 p212 q212
              cases e212
              replace p212 := eq_true p212
              replace q212 := eq_true q212
              go_wp2
              go_ret
              exact ⟨q8x6_, q17x6_⟩
          rw [if_neg c5] at H
          have c5b0 : decide ((rd l0 x10_1) < 0) = false := decide_eq_false c5
          clear c5
          as_aux_lemma =>
            have H' := Aside0.mk H
            clear H
            have p212 : 0 ≤ (x10_1 : Int) := of_decide_eq_true q14x6_
            have q212 : x10_1 < (l0.length : Int) := of_decide_eq_true q14x6_
            obtain ⟨ad212, e212, hx212_0⟩ := Kd.at_int HR0.out x10_1 p212 q212
            cases e212
            replace p212 := eq_true p212
            replace q212 := eq_true q212
            go_wp2
            go_roundg k1
            case measure => have := HK1.out; omega
            case rel => exact ⟨(wrap64 (x10_1 + 1)), q8x6_, H', ⟨by have := HK1.out; omega⟩, q17x6_⟩
        rw [if_neg c4] at H
        exact absurd H (by simp)
      rw [if_neg c3] at H
      exact absurd H (by simp)
    rw [if_neg c2] at H
    have c2b0 : decide (x10_1 < (l0.length : Int)) = false := decide_eq_false c2
    clear c2
    have H' := Aside0.mk H
    clear H
    go_wp2
    go_loopg [5, 19] k1 (fun kq v5 v19 w' => ∃ (x5_2 : Int) (x19_2 : Int), v5 = .int .i64 x5_2 ∧ v19 = .int .i64 x19_2 ∧ Aside0 (handref1_ExactFault.l1 kq x5_2 l0 (l0.length : Int) x19_2 = some r) ∧ Aside0 (kq ≤ k1) ∧ Drawn0 w w')
    case atStart => exact ⟨(0), (0), q8x6_, q8x6_, H', ⟨Nat.le_refl _⟩, q17x6_⟩
    case round =>
      clear H'
      (try clear c2); (try clear c2b0); (try clear p2); (try clear q2); (try clear hx2); (try clear c3); (try clear c3b0); (try clear c4); (try clear c4b0); (try clear c5); (try clear c5b0); (try clear hx212_0); (try clear p212); (try clear q212)
      obtain ⟨x5_2, x19_2, rfl, rfl, HA, HK2, ⟨m2, rfl⟩⟩ := hrel
      rcases gk with _ | k2
      · exact absurd HA.out (by simp [handref1_ExactFault.l1])
      have H := HA.out
      clear HA
      simp only [handref1_ExactFault.l1] at H
      by_cases c6 : x19_2 < (l0.length : Int)
      · rw [if_pos c6] at H
        have c6b0 : decide (x19_2 < (l0.length : Int)) = true := decide_eq_true c6
        clear c6
        by_cases c7 : 0 ≤ x19_2
        · rw [if_pos c7] at H
          have c7b0 : decide (0 ≤ x19_2) = true := decide_eq_true c7
          clear c7
          by_cases c8 : x19_2 < (l0.length : Int)
          · rw [if_pos c8] at H
            have c8b0 : decide (x19_2 < (l0.length : Int)) = true := decide_eq_true c8
            clear c8
            by_cases c9 : (rd l0 x19_2) > 60
            · rw [if_pos c9] at H
              have c9b0 : decide (60 < (rd l0 x19_2)) = true := decide_eq_true c9
              clear c9
              as_aux_lemma =>
                obtain rfl := Option.some.inj H
                have p213 : 0 ≤ (x19_2 : Int) := of_decide_eq_true q14x6_
                have q213 : x19_2 < (l0.length : Int) := of_decide_eq_true q14x6_
                obtain ⟨ad213, e213, hx213_0⟩ := Kd.at_int HR0.out x19_2 p213 q213
                cases e213
                replace p213 := eq_true p213
                replace q213 := eq_true q213
                go_wp2
                go_ret
                exact ⟨q8x6_, q17x6_⟩
            rw [if_neg c9] at H
            have c9b0 : decide (60 < (rd l0 x19_2)) = false := decide_eq_false c9
            clear c9
            as_aux_lemma =>
              have H' := Aside0.mk H
              clear H
              have p213 : 0 ≤ (x19_2 : Int) := of_decide_eq_true q14x6_
              have q213 : x19_2 < (l0.length : Int) := of_decide_eq_true q14x6_
              obtain ⟨ad213, e213, hx213_0⟩ := Kd.at_int HR0.out x19_2 p213 q213
              cases e213
              replace p213 := eq_true p213
              replace q213 := eq_true q213
              go_wp2
              go_roundg k2
              case measure => have := HK1.out; have := HK2.out; omega
              case rel => exact ⟨(wrap64 (x5_2 + (rd l0 x19_2))), (wrap64 (x19_2 + 1)), q8x6_, q8x6_, H', ⟨by have := HK1.out; have := HK2.out; omega⟩, q17x6_⟩
          rw [if_neg c8] at H
          exact absurd H (by simp)
        rw [if_neg c7] at H
        exact absurd H (by simp)
      rw [if_neg c6] at H
      have c6b0 : decide (x19_2 < (l0.length : Int)) = false := decide_eq_false c6
      clear c6
      by_cases c10 : x5_2 > 60
      · rw [if_pos c10] at H
        have c10b0 : decide (60 < x5_2) = true := decide_eq_true c10
        clear c10
        as_aux_lemma =>
          obtain rfl := Option.some.inj H
          go_wp2
          go_ret
          exact ⟨q8x6_, q17x6_⟩
      rw [if_neg c10] at H
      have c10b0 : decide (60 < x5_2) = false := decide_eq_false c10
      clear c10
      as_aux_lemma =>
        obtain rfl := Option.some.inj H
        go_wp2
        go_ret
        exact ⟨q8x6_, q17x6_⟩

/-! ### handref1_ExactOf_1: function 80 -/
def handref1_ExactOf_1.j0 : Nat → Int → Int → Bool → Int → Int → Int → Int → Option (Int)
  | 0, _, _, _, _, _, _, _ => none
  | k + 1, x0, x7, x32, x2000, x3000, x4000, x5000 => if x32 = true then (some 0) else ((handref1_ChooseOf.f k (wrap64 (x2000 + x4000)) x0).bind fun t214 => ((handref1_ChooseOf.f k (wrap64 (x3000 + x5000)) x7).bind fun t215 => (some (wrap64 (t214 * t215)))))
def handref1_ExactOf_1.f (k : Nat) (a0 : Int) (a1_0 : Int) (a2_0 : Int) (a3_0 : Int) (a4_0 : Int) : Option (Int) := if a0 < 0 then (handref1_ExactOf_1.j0 k a0 (wrap64 ((wrap64 (a1_0 + a2_0)) - a0)) true a1_0 a2_0 a3_0 a4_0) else (if (wrap64 ((wrap64 (a1_0 + a2_0)) - a0)) < 0 then (handref1_ExactOf_1.j0 k a0 (wrap64 ((wrap64 (a1_0 + a2_0)) - a0)) true a1_0 a2_0 a3_0 a4_0) else (if a0 > (wrap64 (a1_0 + a3_0)) then (handref1_ExactOf_1.j0 k a0 (wrap64 ((wrap64 (a1_0 + a2_0)) - a0)) true a1_0 a2_0 a3_0 a4_0) else (handref1_ExactOf_1.j0 k a0 (wrap64 ((wrap64 (a1_0 + a2_0)) - a0)) (decide ((wrap64 ((wrap64 (a1_0 + a2_0)) - a0)) > (wrap64 (a2_0 + a4_0)))) a1_0 a2_0 a3_0 a4_0)))
theorem handref1_ExactOf_1.mono_l : ∀ k, (∀ y0 y1 y2 y3 y4 y5 y6, LeO (handref1_ExactOf_1.j0 k y0 y1 y2 y3 y4 y5 y6) (handref1_ExactOf_1.j0 (k + 1) y0 y1 y2 y3 y4 y5 y6))
  | 0 => fun _ _ _ _ _ _ _ r h => by simp [handref1_ExactOf_1.j0] at h
  | k + 1 => by
    have ih0 := handref1_ExactOf_1.mono_l k
    · intro y0 y1 y2 y3 y4 y5 y6
      unfold handref1_ExactOf_1.j0
      repeat' first
      | (with_reducible exact ih0 _ _ _ _ _ _ _)
      | (with_reducible exact handref1_ChooseOf.mono _ _ _)
      | (with_reducible exact LeO.refl _)
      | (with_reducible exact LeO.none _)
      | (with_reducible refine LeO.ite ?_ ?_)
      | (with_reducible refine LeO.bind ?_ (fun _ => ?_))
      | exact ih0 _ _ _ _ _ _ _
      | exact handref1_ChooseOf.mono _ _ _
      | exact LeO.none _
      | refine LeO.ite ?_ ?_
      | refine LeO.bind ?_ (fun _ => ?_)
theorem handref1_ExactOf_1.mono : ∀ a0 a1 a2 a3 a4 k, LeO (handref1_ExactOf_1.f k a0 a1 a2 a3 a4) (handref1_ExactOf_1.f (k + 1) a0 a1 a2 a3 a4) := by
  intro a0 a1 a2 a3 a4 k
  have ih0 := handref1_ExactOf_1.mono_l k
  unfold handref1_ExactOf_1.f
  repeat' first
      | (with_reducible exact ih0 _ _ _ _ _ _ _)
      | (with_reducible exact handref1_ChooseOf.mono _ _ _)
      | (with_reducible exact LeO.refl _)
      | (with_reducible exact LeO.none _)
      | (with_reducible refine LeO.ite ?_ ?_)
      | (with_reducible refine LeO.bind ?_ (fun _ => ?_))
      | exact ih0 _ _ _ _ _ _ _
      | exact handref1_ChooseOf.mono _ _ _
      | exact LeO.none _
      | refine LeO.ite ?_ ?_
      | refine LeO.bind ?_ (fun _ => ?_)
def handref1_ExactOf_1.T4 : Bool × List (List Nat × List Nat) := (true, [([], []), ([], []), ([0, 1], [0, 1]), ([], []), ([2, 3], [2, 3]), ([], []), ([], []), ([5, 6], [5, 6]), ([], []), ([7, 8, 4], [7, 8]), ([4, 9], [4, 9]), ([10, 9, 0, 1, 2, 3, 4, 5, 6, 7, 8, 9, 10], [10])])
def handref1_ExactOf_1.B4 : List Nat := [0, 0, 3, 0, 15, 0, 0, 96, 0, 511, 1023, 2047]
theorem handref1_ExactOf_1.tab4 : rtab .any (opsOf Try.f80 4) = handref1_ExactOf_1.T4 := by kernel_rfl
theorem handref1_ExactOf_1.bits4 : waitsOk handref1_ExactOf_1.T4.2 handref1_ExactOf_1.B4 = true := by kernel_rfl
set_option maxHeartbeats 8000000 in
set_option maxRecDepth 100000 in
theorem handref1_ExactOf_1.calls (k : Nat) (a0 : Int) (gc1 : Nat) (a1_0 : Int) (gc2 : Nat) (a2_0 : Int) (gc3 : Nat) (a3_0 : Int) (gc4 : Nat) (a4_0 : Int) (r : Int) (w : World) (hv1 : w.heap[gc1]? = some (.cells #[.int .i64 a1_0] 3 (0, 0))) (hv2 : w.heap[gc2]? = some (.cells #[.int .i64 a2_0] 3 (0, 0))) (hv3 : w.heap[gc3]? = some (.cells #[.int .i64 a3_0] 3 (0, 0))) (hv4 : w.heap[gc4]? = some (.cells #[.int .i64 a4_0] 3 (0, 0))) (h : handref1_ExactOf_1.f k a0 a1_0 a2_0 a3_0 a4_0 = some r) :
    Calls Try.prog 80 #[.int .i64 a0, .pointer (some ⟨gc1, 0, none⟩), .pointer (some ⟨gc2, 0, none⟩), .pointer (some ⟨gc3, 0, none⟩), .pointer (some ⟨gc4, 0, none⟩)] w fun e w' => e = .returned (.int .i64 r) ∧ Below w.heap.size w w' := by
  have BK1 := Aside0.mk hv1
  clear hv1
  have BK2 := Aside0.mk hv2
  clear hv2
  have BK3 := Aside0.mk hv3
  clear hv3
  have BK4 := Aside0.mk hv4
  clear hv4
  have HB := Aside0.mk (Below.refl w.heap.size w)
  have H : (if a0 < 0 then (handref1_ExactOf_1.j0 k a0 (wrap64 ((wrap64 (a1_0 + a2_0)) - a0)) true a1_0 a2_0 a3_0 a4_0) else (if (wrap64 ((wrap64 (a1_0 + a2_0)) - a0)) < 0 then (handref1_ExactOf_1.j0 k a0 (wrap64 ((wrap64 (a1_0 + a2_0)) - a0)) true a1_0 a2_0 a3_0 a4_0) else (if a0 > (wrap64 (a1_0 + a3_0)) then (handref1_ExactOf_1.j0 k a0 (wrap64 ((wrap64 (a1_0 + a2_0)) - a0)) true a1_0 a2_0 a3_0 a4_0) else (handref1_ExactOf_1.j0 k a0 (wrap64 ((wrap64 (a1_0 + a2_0)) - a0)) (decide ((wrap64 ((wrap64 (a1_0 + a2_0)) - a0)) > (wrap64 (a2_0 + a4_0)))) a1_0 a2_0 a3_0 a4_0)))) = some r := h
  clear h
  have HC6 := Aside0.mk H
  clear H
  have hcz7_0 : w.cell? ⟨gc1, 0, none⟩ = some (.int .i64 a1_0) := (blk_cell BK1.out 0).trans rfl
  have hfz7_0 := blk_frozen BK1.out 0
  have hcz8_0 : w.cell? ⟨gc2, 0, none⟩ = some (.int .i64 a2_0) := (blk_cell BK2.out 0).trans rfl
  have hfz8_0 := blk_frozen BK2.out 0
  go_enter Try.func80, Try.ntmps80
  go_upto_region 2 with (fail)
  go_cut [32] (fun v32 wc => ∃ (kq : Nat) (x32_5 : Bool), v32 = .bool x32_5 ∧ Aside0 (handref1_ExactOf_1.j0 kq a0 (wrap64 ((wrap64 (a1_0 + a2_0)) - a0)) x32_5 a1_0 a2_0 a3_0 a4_0 = some r) ∧ Aside0 (kq ≤ k) ∧ Aside0 (wc.heap[gc1]? = some (.cells #[.int .i64 a1_0] 3 (0, 0))) ∧ Aside0 (wc.heap[gc2]? = some (.cells #[.int .i64 a2_0] 3 (0, 0))) ∧ Aside0 (wc.heap[gc3]? = some (.cells #[.int .i64 a3_0] 3 (0, 0))) ∧ Aside0 (wc.heap[gc4]? = some (.cells #[.int .i64 a4_0] 3 (0, 0))) ∧ Aside0 (Below w.heap.size w wc))
  case first =>
    have H := HC6.out
    clear HC6
    by_cases c9 : a0 < 0
    · rw [if_pos c9] at H
      have c9b0 : decide (a0 < 0) = true := decide_eq_true c9
      clear c9
      (first | rw [c9b0] | (simp only [i64_w, i32_w]; rw [c9b0]) | skip)
      as_aux_lemma =>
        have H' := Aside0.mk H
        clear H
        go_wp2
        go_meet
        case rel => exact ⟨_, (true), q8x6_, H', ⟨by first | omega | exact Nat.le_refl _⟩, ⟨q9x6_⟩, ⟨q10x6_⟩, ⟨q11x6_⟩, ⟨q12x6_⟩, ⟨q2x6_⟩⟩
    rw [if_neg c9] at H
    have c9b0 : decide (a0 < 0) = false := decide_eq_false c9
    clear c9
    (first | rw [c9b0] | (simp only [i64_w, i32_w]; rw [c9b0]) | skip)
    by_cases c10 : (wrap64 ((wrap64 (a1_0 + a2_0)) - a0)) < 0
    · rw [if_pos c10] at H
      have c10b0 : decide ((wrap64 ((wrap64 (a1_0 + a2_0)) - a0)) < 0) = true := decide_eq_true c10
      clear c10
      as_aux_lemma =>
        have H' := Aside0.mk H
        clear H
        go_wp2
        go_meet
        case rel => exact ⟨_, (true), q8x6_, H', ⟨by first | omega | exact Nat.le_refl _⟩, ⟨q9x6_⟩, ⟨q10x6_⟩, ⟨q11x6_⟩, ⟨q12x6_⟩, ⟨q2x6_⟩⟩
    rw [if_neg c10] at H
    have c10b0 : decide ((wrap64 ((wrap64 (a1_0 + a2_0)) - a0)) < 0) = false := decide_eq_false c10
    clear c10
    by_cases c11 : a0 > (wrap64 (a1_0 + a3_0))
    · rw [if_pos c11] at H
      have c11b0 : decide ((wrap64 (a1_0 + a3_0)) < a0) = true := decide_eq_true c11
      clear c11
      as_aux_lemma =>
        have H' := Aside0.mk H
        clear H
        have hcz12_0 : w.cell? ⟨gc1, 0, none⟩ = some (.int .i64 a1_0) := (blk_cell BK1.out 0).trans rfl
        have hfz12_0 := blk_frozen BK1.out 0
        have hcz13_0 : w.cell? ⟨gc3, 0, none⟩ = some (.int .i64 a3_0) := (blk_cell BK3.out 0).trans rfl
        have hfz13_0 := blk_frozen BK3.out 0
        go_wp2
        go_meet
        case rel => exact ⟨_, (true), q8x6_, H', ⟨by first | omega | exact Nat.le_refl _⟩, ⟨q9x6_⟩, ⟨q10x6_⟩, ⟨q11x6_⟩, ⟨q12x6_⟩, ⟨q2x6_⟩⟩
    rw [if_neg c11] at H
    have c11b0 : decide ((wrap64 (a1_0 + a3_0)) < a0) = false := decide_eq_false c11
    clear c11
    as_aux_lemma =>
      have H' := Aside0.mk H
      clear H
      have hcz14_0 : w.cell? ⟨gc1, 0, none⟩ = some (.int .i64 a1_0) := (blk_cell BK1.out 0).trans rfl
      have hfz14_0 := blk_frozen BK1.out 0
      have hcz15_0 : w.cell? ⟨gc3, 0, none⟩ = some (.int .i64 a3_0) := (blk_cell BK3.out 0).trans rfl
      have hfz15_0 := blk_frozen BK3.out 0
      have hcz16_0 : w.cell? ⟨gc2, 0, none⟩ = some (.int .i64 a2_0) := (blk_cell BK2.out 0).trans rfl
      have hfz16_0 := blk_frozen BK2.out 0
      have hcz17_0 : w.cell? ⟨gc4, 0, none⟩ = some (.int .i64 a4_0) := (blk_cell BK4.out 0).trans rfl
      have hfz17_0 := blk_frozen BK4.out 0
      go_wp2
      go_meet
      case rel => exact ⟨_, (decide ((wrap64 ((wrap64 (a1_0 + a2_0)) - a0)) > (wrap64 (a2_0 + a4_0)))), q8x6_, H', ⟨by first | omega | exact Nat.le_refl _⟩, ⟨q9x6_⟩, ⟨q10x6_⟩, ⟨q11x6_⟩, ⟨q12x6_⟩, ⟨q2x6_⟩⟩
  clear HC6; (try clear c1); (try clear c2); (try clear p2); (try clear c3); (try clear c4); (try clear p6); (try clear c8); (try clear c9); (try clear c9b0); (try clear c10); (try clear c10b0); (try clear c11); (try clear c11b0); (try clear hcz12_0); (try clear hcz13_0); (try clear hcz14_0); (try clear hcz15_0); (try clear hcz16_0); (try clear hcz17_0); (try clear hcz7_0); (try clear hcz8_0); (try clear hfz12_0); (try clear hfz13_0); (try clear hfz14_0); (try clear hfz15_0); (try clear hfz16_0); (try clear hfz17_0); (try clear hfz7_0); (try clear hfz8_0)
  obtain ⟨kq, x32_5, rfl, HA, HJ5, BK1, BK2, BK3, BK4, HB⟩ := hcut
  rcases kq with _ | kj5
  · exact absurd HA.out (by simp [handref1_ExactOf_1.j0])
  have H := HA.out
  clear HA
  simp only [handref1_ExactOf_1.j0] at H
  by_cases c18 : x32_5 = true
  · subst c18
    have H1 : (some 0) = some r := by rw [if_pos rfl] at H; exact H
    clear H
    have H := H1
    clear H1
    as_aux_lemma =>
      obtain rfl := Option.some.inj H
      go_wp2
      go_ret
      exact ⟨q16x6_, q2x6_⟩
  replace c18 := Bool.eq_false_iff.mpr c18
  subst c18
  have H1 : ((handref1_ChooseOf.f kj5 (wrap64 (a1_0 + a3_0)) a0).bind fun t214 => ((handref1_ChooseOf.f kj5 (wrap64 (a2_0 + a4_0)) (wrap64 ((wrap64 (a1_0 + a2_0)) - a0))).bind fun t215 => (some (wrap64 (t214 * t215))))) = some r := by rw [if_neg (show ¬ (false = true) by decide)] at H; exact H
  clear H
  have H := H1
  clear H1
  replace H := Option.bind_eq_some_iff.mp H
  obtain ⟨t214, A190, H⟩ := H
  replace H : ((handref1_ChooseOf.f kj5 (wrap64 (a2_0 + a4_0)) (wrap64 ((wrap64 (a1_0 + a2_0)) - a0))).bind fun t215 => (some (wrap64 (t214 * t215)))) = some r := H
  have A19 := Aside0.mk A190
  clear A190
  replace H := Option.bind_eq_some_iff.mp H
  obtain ⟨t215, A200, H⟩ := H
  replace H : (some (wrap64 (t214 * t215))) = some r := H
  have A20 := Aside0.mk A200
  clear A200
  as_aux_lemma =>
    obtain rfl := Option.some.inj H
    try go_wp2
    (try (rw [drewN_self wc]; generalize hq_ : World.drewN wc _ = wc; have n0_ : Aside0 (wc.heap[gc1]? = some (.cells #[.int .i64 a1_0] 3 (0, 0))) := ⟨by rw [← hq_]; exact q9x6_⟩; have n1_ : Aside0 (wc.heap[gc2]? = some (.cells #[.int .i64 a2_0] 3 (0, 0))) := ⟨by rw [← hq_]; exact q10x6_⟩; have n2_ : Aside0 (wc.heap[gc3]? = some (.cells #[.int .i64 a3_0] 3 (0, 0))) := ⟨by rw [← hq_]; exact q11x6_⟩; have n3_ : Aside0 (wc.heap[gc4]? = some (.cells #[.int .i64 a4_0] 3 (0, 0))) := ⟨by rw [← hq_]; exact q12x6_⟩; have n4_ : Aside0 (Below w.heap.size w wc) := ⟨by rw [← hq_]; exact q2x6_⟩; clear BK1 BK2 BK3 BK4 HB hq_; have BK1 := n0_; have BK2 := n1_; have BK3 := n2_; have BK4 := n3_; have HB := n4_; clear n0_ n1_ n2_ n3_ n4_))
    have n0_ := Aside0.mk (blk_drew BK1.out)
    have n1_ := Aside0.mk (blk_drew BK2.out)
    have n2_ := Aside0.mk (blk_drew BK3.out)
    have n3_ := Aside0.mk (blk_drew BK4.out)
    have n4_ := Aside0.mk (below_drew1 HB.out)
    clear BK1; clear BK2; clear BK3; clear BK4; clear HB; have BK1 := n0_; have BK2 := n1_; have BK3 := n2_; have BK4 := n3_; have HB := n4_; clear n0_ n1_ n2_ n3_ n4_
    refine start_ (n := 12) (S := fun w' => w'.cell? ⟨gc1, 0, none⟩ = some (.int .i64 a1_0) ∧ w'.cell? ⟨gc3, 0, none⟩ = some (.int .i64 a3_0) ∧ w'.cell? ⟨gc2, 0, none⟩ = some (.int .i64 a2_0) ∧ w'.cell? ⟨gc4, 0, none⟩ = some (.int .i64 a4_0)) (ds := []) #[false, false, false, false, false, false, false, false, false, false, false, false] (by kernel_rfl) rfl rfl ⟨(blk_cell BK1.out 0).trans rfl, (blk_cell BK3.out 0).trans rfl, (blk_cell BK2.out 0).trans rfl, (blk_cell BK4.out 0).trans rfl⟩ (fun hHeld => ?_); refine with_tabW handref1_ExactOf_1.tab4 handref1_ExactOf_1.bits4 (fun HT_ HW_ => ?_)
    generalize wc.drew = w21 at BK1 BK2 BK3 BK4 HB hHeld ⊢
    refine pure_ (i := 3) (N := some 36) (v := ?_) (a' := ?_) #[false, false, false, true, false, false, false, false, false, false, false, false] rfl rfl (any_of HT_.out (by kernel_rfl)) (fun _ _ _ h => h) (Or.inl ⟨by rfl, ?_⟩) ?_ ?_
    rotate_left
    · intro w'
      go_simp
      with_reducible rfl
    rotate_left
    · simp only [Act.put, List.setIfInBounds_toArray, List.set_cons_zero, List.set_cons_succ, i64_w, i32_w]
      rfl
    refine pure_ (i := 8) (N := some 41) (v := ?_) (a' := ?_) #[false, false, false, true, false, false, false, false, true, false, false, false] rfl rfl (any_of HT_.out (by kernel_rfl)) (fun _ _ _ h => h) (Or.inl ⟨by rfl, ?_⟩) ?_ ?_
    rotate_left
    · intro w'
      go_simp
      with_reducible rfl
    rotate_left
    · simp only [Act.put, List.setIfInBounds_toArray, List.set_cons_zero, List.set_cons_succ, i64_w, i32_w]
      rfl
    refine take_ (i := 0) (N := some 33) (v := ?_) (a' := ?_) #[true, false, false, true, false, false, false, false, true, false, false, false] rfl rfl (take_ofW HT_.out HW_.out (by kernel_rfl)) (fun _ _ _ h => h) (Or.inl ⟨by rfl, ?_⟩) hHeld ?_ ?_
    rotate_left
    · rintro w' ⟨s0, s1, s2, s3⟩
      go_simp
      with_reducible rfl
    rotate_left
    · simp only [Act.put, List.setIfInBounds_toArray, List.set_cons_zero, List.set_cons_succ, i64_w, i32_w]
      rfl
    refine take_ (i := 1) (N := some 34) (v := ?_) (a' := ?_) #[true, true, false, true, false, false, false, false, true, false, false, false] rfl rfl (take_ofW HT_.out HW_.out (by kernel_rfl)) (fun _ _ _ h => h) (Or.inl ⟨by rfl, ?_⟩) hHeld ?_ ?_
    rotate_left
    · rintro w' ⟨s0, s1, s2, s3⟩
      go_simp
      with_reducible rfl
    rotate_left
    · simp only [Act.put, List.setIfInBounds_toArray, List.set_cons_zero, List.set_cons_succ, i64_w, i32_w]
      rfl
    refine pure_ (i := 2) (N := some 35) (v := ?_) (a' := ?_) #[true, true, true, true, false, false, false, false, true, false, false, false] rfl rfl (any_of HT_.out (by kernel_rfl)) (fun _ _ _ h => h) (Or.inl ⟨by rfl, ?_⟩) ?_ ?_
    rotate_left
    · intro w'
      go_simp
      with_reducible rfl
    rotate_left
    · simp only [Act.put, List.setIfInBounds_toArray, List.set_cons_zero, List.set_cons_succ, i64_w, i32_w]
      rfl
    refine take_ (i := 5) (N := some 38) (v := ?_) (a' := ?_) #[true, true, true, true, false, true, false, false, true, false, false, false] rfl rfl (take_ofW HT_.out HW_.out (by kernel_rfl)) (fun _ _ _ h => h) (Or.inl ⟨by rfl, ?_⟩) hHeld ?_ ?_
    rotate_left
    · rintro w' ⟨s0, s1, s2, s3⟩
      go_simp
      with_reducible rfl
    rotate_left
    · simp only [Act.put, List.setIfInBounds_toArray, List.set_cons_zero, List.set_cons_succ, i64_w, i32_w]
      rfl
    refine take_ (i := 6) (N := some 39) (v := ?_) (a' := ?_) #[true, true, true, true, false, true, true, false, true, false, false, false] rfl rfl (take_ofW HT_.out HW_.out (by kernel_rfl)) (fun _ _ _ h => h) (Or.inl ⟨by rfl, ?_⟩) hHeld ?_ ?_
    rotate_left
    · rintro w' ⟨s0, s1, s2, s3⟩
      go_simp
      with_reducible rfl
    rotate_left
    · simp only [Act.put, List.setIfInBounds_toArray, List.set_cons_zero, List.set_cons_succ, i64_w, i32_w]
      rfl
    refine pure_ (i := 7) (N := some 40) (v := ?_) (a' := ?_) #[true, true, true, true, false, true, true, true, true, false, false, false] rfl rfl (any_of HT_.out (by kernel_rfl)) (fun _ _ _ h => h) (Or.inl ⟨by rfl, ?_⟩) ?_ ?_
    rotate_left
    · intro w'
      go_simp
      with_reducible rfl
    rotate_left
    · simp only [Act.put, List.setIfInBounds_toArray, List.set_cons_zero, List.set_cons_succ, i64_w, i32_w]
      rfl
    refine one_ (i := 4) (N := some 37) #[true, true, true, true, true, true, true, true, true, false, false, false] rfl rfl (one_of HT_.out (by kernel_rfl)) (by decide) (fun K hK => ?_)
    refine goes_ Try.func32 (by kernel_rfl) rfl #[.int .i64 (wrap64 (a1_0 + a3_0)), .int .i64 a0] (by rfl) rfl rfl q3x6_ ?_
    with_reducible refine (handref1_ChooseOf.calls kj5 (wrap64 (a1_0 + a3_0)) a0 t214 _ A19.out).mono ?_
    rintro e w22 ⟨rfl, hb⟩
    refine ⟨_, rfl, ?_⟩
    have n0_ := Aside0.mk (blk_below (g := gc1) (o := .cells #[.int .i64 a1_0] 3 (0, 0)) q9x6_ hb)
    have n1_ := Aside0.mk (blk_below (g := gc2) (o := .cells #[.int .i64 a2_0] 3 (0, 0)) q10x6_ hb)
    have n2_ := Aside0.mk (blk_below (g := gc3) (o := .cells #[.int .i64 a3_0] 3 (0, 0)) q11x6_ hb)
    have n3_ := Aside0.mk (blk_below (g := gc4) (o := .cells #[.int .i64 a4_0] 3 (0, 0)) q12x6_ hb)
    have n4_ := Aside0.mk (below_step q2x6_ hb)
    clear BK1; clear BK2; clear BK3; clear BK4; clear HB; have BK1 := n0_; have BK2 := n1_; have BK3 := n2_; have BK4 := n3_; have HB := n4_; clear n0_ n1_ n2_ n3_ n4_; (try clear hb); (try clear hb2); (try clear hk); (try clear hi)
    refine hK.out _ _ ⟨(blk_cell BK1.out 0).trans rfl, (blk_cell BK3.out 0).trans rfl, (blk_cell BK2.out 0).trans rfl, (blk_cell BK4.out 0).trans rfl⟩ (fun hHeld => ?_)
    clear hK K
    refine norm_ (a' := ?_) ?_ ?_
    rotate_left
    · show Act.put _ (some 37) _ = _
      simp only [Act.put, List.setIfInBounds_toArray, List.set_cons_zero, List.set_cons_succ, i64_w, i32_w]
      rfl
    refine one_ (i := 9) (N := some 42) #[true, true, true, true, true, true, true, true, true, true, false, false] rfl rfl (one_of HT_.out (by kernel_rfl)) (by decide) (fun K hK => ?_)
    refine goes_ Try.func32 (by kernel_rfl) rfl #[.int .i64 (wrap64 (a2_0 + a4_0)), .int .i64 (wrap64 ((wrap64 (a1_0 + a2_0)) - a0))] (by rfl) rfl rfl q3x6_ ?_
    with_reducible refine (handref1_ChooseOf.calls kj5 (wrap64 (a2_0 + a4_0)) (wrap64 ((wrap64 (a1_0 + a2_0)) - a0)) t215 _ A20.out).mono ?_
    rintro e w23 ⟨rfl, hb⟩
    refine ⟨_, rfl, ?_⟩
    have n0_ := Aside0.mk (blk_below (g := gc1) (o := .cells #[.int .i64 a1_0] 3 (0, 0)) q9x6_ hb)
    have n1_ := Aside0.mk (blk_below (g := gc2) (o := .cells #[.int .i64 a2_0] 3 (0, 0)) q10x6_ hb)
    have n2_ := Aside0.mk (blk_below (g := gc3) (o := .cells #[.int .i64 a3_0] 3 (0, 0)) q11x6_ hb)
    have n3_ := Aside0.mk (blk_below (g := gc4) (o := .cells #[.int .i64 a4_0] 3 (0, 0)) q12x6_ hb)
    have n4_ := Aside0.mk (below_step q2x6_ hb)
    clear BK1; clear BK2; clear BK3; clear BK4; clear HB; have BK1 := n0_; have BK2 := n1_; have BK3 := n2_; have BK4 := n3_; have HB := n4_; clear n0_ n1_ n2_ n3_ n4_; (try clear hb); (try clear hb2); (try clear hk); (try clear hi)
    refine hK.out _ _ ⟨(blk_cell BK1.out 0).trans rfl, (blk_cell BK3.out 0).trans rfl, (blk_cell BK2.out 0).trans rfl, (blk_cell BK4.out 0).trans rfl⟩ (fun hHeld => ?_)
    clear hK K
    refine norm_ (a' := ?_) ?_ ?_
    rotate_left
    · show Act.put _ (some 42) _ = _
      simp only [Act.put, List.setIfInBounds_toArray, List.set_cons_zero, List.set_cons_succ, i64_w, i32_w]
      rfl
    refine pure_ (i := 10) (N := some 43) (v := ?_) (a' := ?_) #[true, true, true, true, true, true, true, true, true, true, true, false] rfl rfl (any_of HT_.out (by kernel_rfl)) (fun _ _ _ h => h) (Or.inl ⟨by rfl, ?_⟩) ?_ ?_
    rotate_left
    · intro w'
      go_simp
      with_reducible rfl
    rotate_left
    · simp only [Act.put, List.setIfInBounds_toArray, List.set_cons_zero, List.set_cons_succ, i64_w, i32_w]
      rfl
    refine pure_ (i := 11) (N := some 6) (v := ?_) (a' := ?_) #[true, true, true, true, true, true, true, true, true, true, true, true] rfl rfl (any_of HT_.out (by kernel_rfl)) (fun _ _ _ h => h) (Or.inl ⟨by rfl, ?_⟩) ?_ ?_
    rotate_left
    · intro w'
      go_simp
      with_reducible rfl
    rotate_left
    · simp only [Act.put, List.setIfInBounds_toArray, List.set_cons_zero, List.set_cons_succ, i64_w, i32_w]
      rfl
    refine done_ (done_of HT_.out (by kernel_rfl)) ?_
    try go_wp2
    go_ret
    exact ⟨q16x6_, q2x6_⟩

end Go.Proofs.Ytihnjdhjkpmggaa.PTestsExact
