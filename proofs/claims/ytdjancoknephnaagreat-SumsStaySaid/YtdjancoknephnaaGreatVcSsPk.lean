/- Contracts, turned by a program to the numbers of this seat. -/
import Derived.Test.YtdjancoknephnaaGreatVcSsPr3
import Derived.Test.YtdjancoknephnaaGreatVcPuMath
set_option linter.unusedSimpArgs false
set_option linter.unusedVariables false
-- from PkOld
namespace Go.Proofs.YtdjancoknephnaaGreatVc
open Go.Proofs.Tryz (prog)
section
variable {I : Calls} {Q : Post} {h : Heap}
/-! ### the stream -/
/-! ### codes -/
/-! ### looking a string up -/
end
end Go.Proofs.YtdjancoknephnaaGreatVc
-- from CcSpec2
namespace Go.Proofs.YtdjancoknephnaaGreatVc
open Go.Proofs.Tryz (prog)
section
variable {I : Calls} {Q : Post} {h : Heap}
end
end Go.Proofs.YtdjancoknephnaaGreatVc
-- from CcSpec4
namespace Go.Proofs.YtdjancoknephnaaGreatVc
open Go.Proofs.Tryz (prog)
section
variable {I : Calls} {Q : Post} {h : Heap}
end
end Go.Proofs.YtdjancoknephnaaGreatVc
-- from CnSpec
namespace Go.Proofs.YtdjancoknephnaaGreatVc
open Go.Proofs.Tryz (prog)
section
variable {I : Calls} {Q : Post} {h : Heap}
end
end Go.Proofs.YtdjancoknephnaaGreatVc
-- from CsSort
namespace Go.Proofs.YtdjancoknephnaaGreatVc
open Go.Proofs.Tryz (prog)
section
variable {I : Calls} {Q : Post} {h : Heap}
end
end Go.Proofs.YtdjancoknephnaaGreatVc
-- from CsSpec1
namespace Go.Proofs.YtdjancoknephnaaGreatVc
open Go.Proofs.Tryz (prog)
section
variable {I : Calls} {Q : Post} {h : Heap}
/-! ### the stream's block, among one's own -/
end
end Go.Proofs.YtdjancoknephnaaGreatVc
-- from SpSpec1
namespace Go.Proofs.YtdjancoknephnaaGreatVc
open Go.Proofs.Tryz (prog)
section
variable {I : Calls} {Q : Post} {h : Heap}
/-! ### weights -/
end
end Go.Proofs.YtdjancoknephnaaGreatVc
-- from QfSpec3
namespace Go.Proofs.YtdjancoknephnaaGreatVc
open Go.Proofs.Tryz (prog)
section
variable {I : Calls} {Q : Post} {h : Heap}
end
end Go.Proofs.YtdjancoknephnaaGreatVc
-- from SeKey
namespace Go.Proofs.YtdjancoknephnaaGreatVc
open Go.Proofs.Tryz (prog)
section
variable {I : Calls} {Q : Post} {h : Heap}
/-! ### strings.Trim -/
end
end Go.Proofs.YtdjancoknephnaaGreatVc
-- from SeSpec2
namespace Go.Proofs.YtdjancoknephnaaGreatVc
open Go.Proofs.Tryz (prog)
section
variable {I : Calls} {Q : Post} {h : Heap}
/-! ### the answer's -/
end
end Go.Proofs.YtdjancoknephnaaGreatVc
-- from SeSpec3
namespace Go.Proofs.YtdjancoknephnaaGreatVc
open Go.Proofs.Tryz (prog)
section
variable {I : Calls} {Q : Post} {h : Heap}
end
end Go.Proofs.YtdjancoknephnaaGreatVc
-- from SeSpec4
namespace Go.Proofs.YtdjancoknephnaaGreatVc
open Go.Proofs.Tryz (prog)
section
variable {I : Calls} {Q : Post} {h : Heap}
section
variable {hb : Heap} {i : Nat} {l : Sl} {zs : List Int} {t0 : Nat}
end
end
end Go.Proofs.YtdjancoknephnaaGreatVc
-- from PuSpec1
namespace Go.Proofs.YtdjancoknephnaaGreatVc
open Go.Proofs.Tryz (prog)
section
variable {I : Calls} {Q : Post} {h : Heap}
/-! ### codes -/
/-! ### moments -/
/-! ### the budgets before, looked through -/
theorem spec65 (hI : Closed' prog Pm I) {s : Sl} {ys : List Bud} {g : FuncId} {i : Nat} {p : Bud → Bool} (hs : At h 5 s (rows budC ys)) (hlen : ys.length < 1000)
    (hg : ∀ y Q', Q' [boo (p y)] h → I g [.agg (budC y), .one (.ptr (some (i, 0)))] Q' h)
    (hn : (∀ y ∈ ys, p y = false) → Q [int (-1)] h) (hy : ∀ (j : Nat) y, ys[j]? = some y → p y = true → (∀ z ∈ ys.take j, p z = false) → Q [int j] h) : I 65 [.one (.slice 5 s), .one (.func (some (g, [(i, 0)])))] Q h := by
  have hl : s.len = ys.length := hs.rowsLen budC_length (by decide)
  refine hI.go _ _ (den65 I s _ _) ?_
  refine loopK_intro (fun (a : Int) h' m => h' = h ∧ ∃ j : Nat, j ≤ ys.length ∧ a = j ∧ ys.length - j = m ∧ ∀ z ∈ ys.take j, p z = false) ys.length ⟨rfl, 0, by omega, rfl, rfl, by simp⟩ ?_
  rintro a h' m ⟨rfl, j, hj, rfl, rfl, hno⟩
  refine ifT_dec (fun hlt => ⟨⟨by omega, hlt⟩, ?_⟩) (fun hge => ?_)
  · have hx := List.getElem?_eq_getElem (show j < ys.length by omega)
    generalize ys[j] = y at hx
    refine hs.row budC_length (by decide) hx fun bb o hr => ⟨y.key, y.cents, y.first, y.last, y.pace, hr, ?_⟩
    refine hg y _ ⟨_, rfl, ifT_intro (fun h1 => hy j y hx h1 hno) fun h1 => ?_⟩
    refine ⟨ys.length - (j + 1), by omega, rfl, j + 1, by omega, by rw [w64] <;> omega, rfl, fun z hz => ?_⟩
    rw [List.take_add_one, hx] at hz
    rcases List.mem_append.1 hz with hz | hz
    · exact hno z hz
    · have : z = y := by simpa using hz
      rw [this]; exact h1
  · have : j = ys.length := by omega
    subst this
    rw [List.take_length] at hno
    exact hn hno
theorem spec62 (hI : Closed' prog Pm I) {s : Sl} {ys : List Bud} {g : FuncId} {i : Nat} {p : Bud → Bool} (hs : At h 5 s (rows budC ys)) (hlen : ys.length < 1000)
    (hg : ∀ y Q', Q' [boo (p y)] h → I g [.agg (budC y), .one (.ptr (some (i, 0)))] Q' h) (hQ : Q [boo (ys.any p)] h) : I 62 [.one (.slice 5 s), .one (.func (some (g, [(i, 0)])))] Q h := by
  refine hI.go _ _ (den62 I s _ _) ?_
  refine spec65 hI hs hlen hg (fun hn => ⟨_, rfl, ?_⟩) fun j y hx h1 _ => ⟨_, rfl, ?_⟩
  · have e : ys.any p = false := by
      cases h2 : ys.any p with
      | false => rfl
      | true => obtain ⟨y, hy, h3⟩ := List.any_eq_true.1 h2; rw [hn y hy] at h3; cases h3
    rw [e] at hQ; exact hQ
  · have e : ys.any p = true := List.any_eq_true.2 ⟨y, List.mem_of_getElem? hx, h1⟩
    have e2 : decide ((j : Int) ≥ 0) = true := by simp
    rw [e] at hQ; rw [e2]; exact hQ
theorem spec63 (hI : Closed' prog Pm I) {i : Nat} {x y : Bud} (hi : h i = some (.cells false (budC x))) (hQ : Q [boo (decide (y.key = x.key))] h) : I 63 [.agg (budC y), .one (.ptr (some (i, 0)))] Q h := by
  refine hI.go _ _ (den63 I y.key y.cents y.first y.last y.pace i 0 Q) ?_
  exact ⟨x.key, read_cell hi rfl, hQ⟩
theorem spec66 (hI : Closed' prog Pm I) {i : Nat} {k : ByteArray} {y : Bud} (hi : h i = some (.cells false [.str k])) (hQ : Q [boo (decide (y.key = k))] h) : I 66 [.agg (budC y), .one (.ptr (some (i, 0)))] Q h := by
  refine hI.go _ _ (den66 I y.key y.cents y.first y.last y.pace i 0 Q) ?_
  exact ⟨k, read_cell hi rfl, hQ⟩
/-! ### what is wrong with budgets -/
theorem spec41 (hI : Closed' prog Pm I) {s : Sl} {xs : List Bud} (hs : At h 5 s (rows budC xs)) (hlen : xs.length ≤ 50) (hQ : ∀ h', Ext h h' → Q [int (errB xs)] h') : I 41 [.one (.slice 5 s)] Q h := by
  have hl : s.len = xs.length := hs.rowsLen budC_length (by decide)
  refine hI.go _ _ (den41 I s Q) ?_
  unfold vc41
  rw [hl]
  refine ifT_dec (fun h => by omega) fun _ => ?_
  refine loopK_intro (fun (a : Int) h' m => Ext h h' ∧ ∃ i : Nat, i ≤ xs.length ∧ a = i ∧ xs.length - i = m ∧ errB xs = scanB (xs.take i) (xs.drop i)) xs.length
    ⟨Ext.refl _, 0, by omega, rfl, rfl, rfl⟩ ?_
  rintro a h' m ⟨x', i, hi, rfl, rfl, hsc⟩
  refine ifT_dec (fun hlt => ⟨⟨by omega, by omega⟩, ?_⟩) (fun hge => ?_)
  · have hx := List.getElem?_eq_getElem (show i < xs.length by omega)
    generalize xs[i] = x at hx
    rw [scanB_step hx] at hsc
    refine (x'.at_ hs).row budC_length (by decide) hx fun bb o hr => ⟨x.key, x.cents, x.first, x.last, x.pace, hr, ?_⟩
    refine newK_intro fun i11 h2 hn2 he2 => ?_
    refine storeK_whole (cs := [.str .empty, .int .i64 0, .int .i64 0, .int .i64 0, .bool false]) (by rw [he2, set_eq]) rfl ?_
    rw [he2, set_set]
    have x2 : Ext h (h'.set i11 (.cells false (budC x))) := x'.trans (Ext.new hn2)
    have hc := set_eq h' i11 (.cells false (budC x))
    obtain ⟨g, hg⟩ : ∃ g, g = h'.set i11 (.cells false (budC x)) := ⟨_, rfl⟩
    rw [← hg] at x2 hc
    rw [show h'.set i11 (.cells false [.str x.key, .int .i64 x.cents, .int .i64 x.first, .int .i64 x.last, .bool x.pace]) = g from hg.symm]
    have bad : ∀ e, errB xs = e → Q [int e] g := fun e he => by rw [← he]; exact hQ _ x2
    refine ⟨x.key, read_cell hc rfl, spec52 hI ⟨_, rfl, ifT_intro (fun h1 => bad 5 (by rw [hsc, if_pos (nb h1)])) fun h1 => ?_⟩⟩
    rw [if_neg (by rw [nb' h1]; simp)] at hsc
    have hsub : At g 5 (s.sub 5 0 i) (rows budC (xs.take i)) := by
      have := At.sub (x2.at_ hs) 0 i (by omega) (by omega)
      rw [Nat.zero_mul, List.drop_zero, Nat.sub_zero, rows_take budC_length] at this
      exact this
    refine ⟨⟨by decide, by omega, by omega⟩, ?_⟩
    rw [Int.toNat_natCast]
    refine spec62 hI (p := fun y => decide (y.key = x.key)) hsub (by rw [List.length_take]; omega) (fun y Q' hq => spec63 hI hc hq) ⟨_, rfl, ifT_intro (fun h2 => bad 6 (by rw [hsc, if_pos h2])) fun h2 => ?_⟩
    rw [if_neg (by rw [h2]; simp)] at hsc
    refine ⟨x.cents, read_cell hc rfl, spec64 hI ⟨_, rfl, ifT_intro (fun h3 => bad 1 (by rw [hsc, if_pos]; simp at h3; unfold okB; omega)) fun h3 => ?_⟩⟩
    refine ⟨x.first, read_cell hc rfl, ifT_dec (fun h4 => bad 1 (by rw [hsc, if_pos]; unfold okB; omega)) fun h4 => ⟨x.first, read_cell hc rfl, x.last, read_cell hc rfl, ifT_dec (fun h5 => bad 1 (by rw [hsc, if_pos]; unfold okB; omega)) fun h5 => ⟨x.last, read_cell hc rfl, ifT_dec (fun h6 => bad 1 (by rw [hsc, if_pos]; unfold okB; omega)) fun h6 => ?_⟩⟩⟩
    rw [if_neg (by simp at h3; unfold okB; omega)] at hsc
    exact ⟨xs.length - (i + 1), by omega, x2, i + 1, by omega, by rw [w64] <;> omega, rfl, hsc⟩
  · have : i = xs.length := by omega
    subst this
    rw [List.drop_length] at hsc
    have e : errB xs = 0 := by rw [hsc]; rfl
    rw [← e]
    exact hQ _ x'
/-! ### plain ones of a purse -/
theorem spec67 (hI : Closed' prog Pm I) {x : Hld} {t : Int} (hQ : Q [int (stateAt x t)] h) : I 67 [.agg (hldC x), int t] Q h := by
  refine hI.go _ _ (den67 I x.no x.key x.cents x.at_ x.until_ x.state t Q) ?_
  unfold stateAt at hQ
  refine ifT_dec (fun h1 => ifT_dec (fun h2 => ?_) fun h2 => ?_) fun h1 => ?_
  · rw [if_pos h1, if_pos h2] at hQ; exact hQ
  · rw [if_pos h1, if_neg h2] at hQ; exact hQ
  · rw [if_neg h1] at hQ; exact hQ
theorem spec45 (hI : Closed' prog Pm I) {b : Bud} {t : Int} (hb : okB b) (ht : momentP t) (hQ : Q [int (paced b t)] h) : I 45 [.agg (budC b), int t] Q h := by
  refine hI.go _ _ (den45 I b.key b.cents b.first b.last b.pace t Q) ?_
  have hp := paced_le (t := t) hb
  obtain ⟨h1, h2, h3, h4, h5⟩ := hb
  obtain ⟨h6, h7⟩ := ht
  have hd : 0 ≤ t.tdiv 1440 ∧ t.tdiv 1440 ≤ 3001 := by
    rw [Int.tdiv_eq_ediv_of_nonneg h6]; omega
  have ew : IntKind.i64.wrap (t.tdiv 1440) = t.tdiv 1440 := w64 (by omega) (by omega)
  unfold vc45
  rw [ew]
  unfold paced at hQ hp
  generalize t.tdiv 1440 = d at *
  refine ifT_dec (fun h8 => ?_) fun h8 => ?_
  · rw [if_pos h8] at hQ; exact hQ
  rw [if_neg h8] at hQ hp
  have fin : ∀ x : Bool, (x = true ↔ (d ≥ b.last ∨ b.pace = false)) → ifT x (Q [int b.cents]) (fun h7 => (IntKind.i64.wrap (IntKind.i64.wrap (b.last - b.first) + 1) ≠ 0) ∧ Q [int (IntKind.i64.wrap ((IntKind.i64.wrap (b.cents * IntKind.i64.wrap (IntKind.i64.wrap (d - b.first) + 1))).tdiv (IntKind.i64.wrap (IntKind.i64.wrap (b.last - b.first) + 1))))] h7) h := fun x hx => by
    refine ifT_intro (fun h9 => ?_) fun h9 => ?_
    · rw [if_pos (hx.1 h9)] at hQ; exact hQ
    · have hn : ¬ (d ≥ b.last ∨ b.pace = false) := fun h => by rw [hx.2 h] at h9; cases h9
      rw [if_neg hn] at hQ hp
      have h10 : d < b.last := by
        rcases Int.lt_or_le d b.last with h | h
        · exact h
        · exact absurd (.inl h) hn
      have e1 : IntKind.i64.wrap (IntKind.i64.wrap (b.last - b.first) + 1) = b.last - b.first + 1 := by rw [w64 (n := b.last - b.first) (by omega) (by omega), w64 (by omega) (by omega)]
      have e2 : IntKind.i64.wrap (IntKind.i64.wrap (d - b.first) + 1) = d - b.first + 1 := by rw [w64 (n := d - b.first) (by omega) (by omega), w64 (by omega) (by omega)]
      rw [e1, e2]
      have hm0 : 0 ≤ b.cents * (d - b.first + 1) := Int.mul_nonneg h1 (by omega)
      have hm1 : b.cents * (d - b.first + 1) ≤ 1000000000000 * 3001 := Int.mul_le_mul h2 (by omega) (by omega) (by decide)
      rw [w64 (n := b.cents * (d - b.first + 1)) (by omega) (by omega)]
      rw [w64 (by omega) (by omega)]
      exact ⟨by omega, hQ⟩
  refine joinK_intro (fun (x : Bool) h' => h' = h ∧ (x = true ↔ (d ≥ b.last ∨ b.pace = false))) (fun x h' ⟨hh, hx⟩ => by subst hh; exact fin x hx) fun j hj => ifT_dec (fun h9 => hj _ _ ⟨rfl, by simp [h9]⟩) fun h9 => hj _ _ ⟨rfl, by simp; omega⟩
theorem spec46 (hI : Closed' prog Pm I) {p : Nat} {sb sh : Sl} {now : Int} {hs : List Hld} {key : ByteArray} {t : Int} (hp : h p = some (.cells false [.slice 5 sb, .slice 6 sh, .int .i64 now])) (ha : At h 6 sh (rows hldC hs)) (hk : ∀ x ∈ hs, okH x) (hlen : hs.length ≤ 2000)
    (hQ : Q [int (taken key t hs)] h) : I 46 [.one (.ptr (some (p, 0))), str key, int t] Q h := by
  have hl : sh.len = hs.length := ha.rowsLen hldC_length (by decide)
  refine hI.go _ _ (den46 I _ key t Q) ?_
  refine derefK_intro rfl ⟨sh, read_cell hp rfl, ?_⟩
  refine loopK_intro (fun (a : Int × Int) h' m => h' = h ∧ ∃ i : Nat, i ≤ hs.length ∧ a = (taken key t (hs.take i), (i : Int)) ∧ hs.length - i = m) hs.length ⟨rfl, 0, by omega, rfl, rfl⟩ ?_
  rintro a h' m ⟨rfl, i, hi, rfl, rfl⟩
  dsimp only [uncur]
  refine ifT_dec (fun hlt => ⟨⟨by omega, hlt⟩, ?_⟩) (fun hge => ?_)
  · have hx := List.getElem?_eq_getElem (show i < hs.length by omega)
    have hxm : hs[i] ∈ hs := List.getElem_mem _
    generalize hs[i] = x at hx hxm
    have hst := taken_step (key := key) (t := t) hx
    have hb := taken_bound (key := key) (t := t) (xs := hs.take i) fun y hy => hk y (List.mem_of_mem_take hy)
    rw [List.length_take] at hb
    obtain ⟨hx1, hx2⟩ := hk x hxm
    have ew : IntKind.i64.wrap ((i : Int) + 1) = ((i + 1 : Nat) : Int) := by rw [w64] <;> omega
    have hmin : min i hs.length = i := by omega
    rw [hmin] at hb
    have es : IntKind.i64.wrap (taken key t (hs.take i) + x.cents) = taken key t (hs.take i) + x.cents := by rw [w64] <;> omega
    have go : ∀ v : Int, v = taken key t (hs.take (i + 1)) → ∃ m', m' < hs.length - i ∧ h' = h' ∧ ∃ j : Nat, j ≤ hs.length ∧ (v, IntKind.i64.wrap ((i : Int) + 1)) = (taken key t (hs.take j), (j : Int)) ∧ hs.length - j = m' := fun v hv => ⟨hs.length - (i + 1), by omega, rfl, i + 1, by omega, by rw [hv, ew], rfl⟩
    unfold one at hst
    refine ha.row hldC_length (by decide) hx fun bb o hr => ⟨x.no, x.key, x.cents, x.at_, x.until_, x.state, hr, spec67 hI ⟨_, rfl, ifT_dec (fun h1 => ifT_dec (fun h2 => ?_) fun h2 => ifT_dec (fun h3 => ?_) fun h3 => ?_) fun h1 => ?_⟩⟩
    · rw [if_pos h1, if_pos h2] at hst; rw [es]; exact go _ hst.symm
    · rw [if_pos h1, if_neg h2, if_pos h3] at hst; rw [es]; exact go _ hst.symm
    · rw [if_pos h1, if_neg h2, if_neg h3] at hst; exact go _ (by omega)
    · rw [if_neg h1] at hst; exact go _ (by omega)
  · have : i = hs.length := by omega
    subst this
    rw [List.take_length]
    exact hQ
/-- The budget of a key. -/
theorem spec43 (hI : Closed' prog Pm I) {p : Nat} {sb sh : Sl} {now : Int} {bs : List Bud} {key : ByteArray} (hp : h p = some (.cells false [.slice 5 sb, .slice 6 sh, .int .i64 now])) (ha : At h 5 sb (rows budC bs)) (hlen : bs.length < 1000)
    (hn : ∀ h', Ext h h' → findB bs key = none → Q [.agg (budC ⟨.empty, 0, 0, 0, false⟩), boo false] h') (hy : ∀ b h', Ext h h' → findB bs key = some b → Q [.agg (budC b), boo true] h') : I 43 [.one (.ptr (some (p, 0))), str key] Q h := by
  have hl : sb.len = bs.length := ha.rowsLen budC_length (by decide)
  refine hI.go _ _ (den43 I _ key Q) ?_
  refine newK_intro fun i2 h2 hn2 he2 => ?_
  have x2 : Ext h h2 := he2 ▸ Ext.new hn2
  have hp2 := x2 _ _ hp
  have ha2 := x2.at_ ha
  have hc : h2 i2 = some (.cells false [.str key]) := by rw [he2, set_eq]
  refine derefK_intro rfl ⟨sb, read_cell hp2 rfl, ?_⟩
  refine spec65 hI (p := fun y => decide (y.key = key)) ha2 hlen (fun y Q' hq => spec66 hI hc hq) (fun h3 => ⟨_, rfl, ifT_dec (fun _ => hn _ x2 ?_) fun h => by omega⟩) fun j y hx h3 h4 => ⟨_, rfl, ifT_dec (fun h => by omega) fun _ => ?_⟩
  · unfold findB; rw [List.find?_eq_none]
    intro y hy
    have := h3 y hy
    simpa using this
  · have hj : j < bs.length := (List.getElem?_eq_some_iff.1 hx).1
    have hf : findB bs key = some y := by
      unfold findB
      have e : bs = bs.take j ++ y :: bs.drop (j + 1) := by
        obtain ⟨hi, rfl⟩ := List.getElem?_eq_some_iff.1 hx
        rw [← List.drop_eq_getElem_cons hi, List.take_append_drop]
      rw [e, List.find?_append]
      have e2 : (bs.take j).find? (fun b => decide (b.key = key)) = none := by
        rw [List.find?_eq_none]; intro z hz; have := h4 z hz; simpa using this
      rw [e2, Option.none_or, List.find?_cons, h3]
    refine derefK_intro rfl ⟨sb, read_cell hp2 rfl, ⟨by omega, by omega⟩, ha2.row budC_length (by decide) hx fun bb o hr => ⟨y.key, y.cents, y.first, y.last, y.pace, hr, hy y _ x2 hf⟩⟩
theorem spec13 (hI : Closed' prog Pm I) {p : Nat} {sb sh : Sl} {now : Int} {bs : List Bud} {hs : List Hld} {key : ByteArray} {t : Int} (hp : h p = some (.cells false [.slice 5 sb, .slice 6 sh, .int .i64 now])) (ha : At h 5 sb (rows budC bs)) (hah : At h 6 sh (rows hldC hs)) (hlen : bs.length < 1000)
    (hob : ∀ b ∈ bs, okB b) (hk : ∀ x ∈ hs, okH x) (hlen2 : hs.length ≤ 2000) (hQ : ∀ h', Ext h h' → Q [int (leftP bs hs now key t).1, int (leftP bs hs now key t).2] h') : I 13 [.one (.ptr (some (p, 0))), str key, int t] Q h := by
  refine hI.go _ _ (den13 I _ key t Q) ?_
  refine spec43 hI hp ha hlen (fun h' x' hf => ⟨_, _, _, _, _, _, rfl, ifT_intro (fun _ => ?_) fun h => by cases h⟩) fun b h' x' hf => ⟨_, _, _, _, _, _, rfl, ifT_intro (fun h => by cases h) fun _ => ?_⟩
  · have := hQ h' x'
    unfold leftP at this; rw [hf] at this; exact this
  · have hq := hQ h' x'
    unfold leftP at hq; rw [hf] at hq
    simp only at hq
    refine spec44 hI ⟨_, rfl, ifT_intro (fun h1 => ?_) fun h1 => ?_⟩
    · rw [if_pos (nd h1)] at hq; exact hq
    rw [if_neg (nd' h1)] at hq
    have hp' := x' _ _ hp
    refine derefK_intro rfl ⟨now, read_cell hp' rfl, ifT_dec (fun h2 => ?_) fun h2 => ?_⟩
    · rw [if_pos h2] at hq; exact hq
    rw [if_neg h2] at hq
    have hb := hob b (findB_mem hf).1
    refine spec45 hI hb (Decidable.of_not_not (nd' h1)) ⟨_, rfl, spec46 hI hp' (x'.at_ hah) hk hlen2 ⟨_, rfl, ?_⟩⟩
    have h3 := paced_le (t := t) hb
    have h4 := taken_bound (key := key) (t := t) hk
    obtain ⟨_, h5, _⟩ := hb
    rw [w64 (by omega) (by omega)]
    exact hq
end
end Go.Proofs.YtdjancoknephnaaGreatVc
-- from PuSpec2
namespace Go.Proofs.YtdjancoknephnaaGreatVc
open Go.Proofs.Tryz (prog)
section
variable {I : Calls} {Q : Post} {h h0 : Heap}
theorem spec42 (hI : Closed' prog Pm I) {s : Sl} {xs : List Bud} {L : List Ow} (o : Owns h0 h L) (hm : (5, s, rows budC xs) ∈ L) (hlen : xs.length < 10000) (hQ : ∀ s' h', Owns h0 h' ((5, s', rows budC xs) :: L) → Q [.one (.slice 5 s')] h') : I 42 [.one (.slice 5 s)] Q h := by
  refine hI.go _ _ (den42 I s Q) ?_
  have hsl := o.slg hm
  have hl := (o.at_ hm).rowsLen budC_length (by decide)
  refine ifT_intro (fun h1 => ?_) fun h1 => ⟨_, hsl, by omega, newK_intro fun i3 h4 hn4 he4 => ?_⟩
  · have ha : s.a = none := by simpa using h1
    have e : rows budC xs = [] := by
      unfold Heap.sl at hsl
      rw [ha] at hsl
      simpa using hsl.symm
    have := o.none_ 5
    rw [← e] at this
    exact hQ _ _ this
  · subst he4
    exact hQ _ _ (o.new hn4 (by rw [rows_length budC_length, hl]))
theorem spec12 (hI : Closed' prog Pm I) {s : Sl} {xs : List Bud} {L : List Ow} (o : Owns h0 h L) (hm : (5, s, rows budC xs) ∈ L) (hlen : xs.length ≤ 50)
    (hQe : errB xs ≠ 0 → ∀ h', Owns h0 h' L → Q [.one (.ptr none), int (errB xs)] h')
    (hQ : errB xs = 0 → ∀ p sb h', Owns h0 h' (owP p sb ⟨none, 0⟩ 0 :: (6, ⟨none, 0⟩, rows hldC []) :: (5, sb, rows budC xs) :: L) → Q [.one (.ptr (some (p, 0))), int 0] h') : I 12 [.one (.slice 5 s)] Q h := by
  refine hI.go _ _ (den12 I s Q) ?_
  refine spec41 hI (o.at_ hm) hlen fun h1 x1 => ⟨_, rfl, ifT_intro (fun h2 => hQe (nd h2) _ (o.mono x1)) fun h2 => ?_⟩
  refine spec42 hI (o.mono x1) hm (by omega) fun sb h3 o3 => ⟨sb, rfl, newK_intro fun i9 h9 hn9 he9 => ?_⟩
  subst he9
  exact hQ (Decidable.of_not_not (nd' h2)) i9 sb _ ((o3.new hn9 rfl).none_ 6).swp
end
end Go.Proofs.YtdjancoknephnaaGreatVc
-- from PuSpec
namespace Go.Proofs.YtdjancoknephnaaGreatVc
open Go.Proofs.Tryz (prog)
/-! ### open and committed -/
def opn (key : ByteArray) (x : Hld) : Int := if x.key = key then if x.state = 1 then x.cents else 0 else 0
def cmt (key : ByteArray) (x : Hld) : Int := if x.key = key then if x.state = 2 then x.cents else 0 else 0
theorem opn_cmt {key : ByteArray} {now : Int} : ∀ {hs : List Hld}, (∀ x ∈ hs, okH x) → ((hs.map fun x : Hld => { x with state := stateAt x now }).map (opn key)).sum + ((hs.map fun x : Hld => { x with state := stateAt x now }).map (cmt key)).sum = taken key now hs ∧
    0 ≤ ((hs.map fun x : Hld => { x with state := stateAt x now }).map (opn key)).sum ∧ 0 ≤ ((hs.map fun x : Hld => { x with state := stateAt x now }).map (cmt key)).sum
  | [], _ => by simp [taken]
  | x :: hs, h => by
    obtain ⟨h1, h2, h3⟩ := opn_cmt (key := key) (now := now) (hs := hs) fun y hy => h y (by simp [hy])
    have h4 : opn key { x with state := stateAt x now } + cmt key { x with state := stateAt x now } = one key now x ∧ 0 ≤ opn key { x with state := stateAt x now } ∧ 0 ≤ cmt key { x with state := stateAt x now } := by
      obtain ⟨h5, _⟩ := h x (by simp)
      unfold opn cmt one
      simp only
      generalize stateAt x now = s
      repeat' split
      all_goals omega
    unfold taken at h1 ⊢
    simp only [List.map_cons, List.sum_cons]
    omega
theorem part_bound {key : ByteArray} {f : Hld → Int} (hf : ∀ x, okH x → 0 ≤ f x ∧ f x ≤ 1000000000000) : ∀ {ys : List Hld}, (∀ x ∈ ys, okH x) → 0 ≤ (ys.map f).sum ∧ (ys.map f).sum ≤ ys.length * 1000000000000
  | [], _ => by simp
  | x :: ys, h => by
    have h1 := hf x (h x (by simp))
    have h2 := part_bound (key := key) hf (ys := ys) fun y hy => h y (by simp [hy])
    rw [List.map_cons, List.sum_cons, List.length_cons]
    omega
theorem opn_ge (key : ByteArray) : ∀ x, okH x → 0 ≤ opn key x ∧ opn key x ≤ 1000000000000 := fun x ⟨h1, h2⟩ => by
  unfold opn
  repeat' split
  all_goals omega
theorem cmt_ge (key : ByteArray) : ∀ x, okH x → 0 ≤ cmt key x ∧ cmt key x ≤ 1000000000000 := fun x ⟨h1, h2⟩ => by
  unfold cmt
  repeat' split
  all_goals omega
section
variable {I : Calls} {Q : Post} {h : Heap}
section
variable {hb : Heap} {i : Nat} {l : Sl} {zs : List Int} {t0 : Nat}
theorem spec7 (hI : Closed' prog Pm I) (S0 : Strm hb i l zs t0) {t : Nat} {L : List Ow} (o : Owns (hb.del i) h (owS i l t :: L)) (ht : t < 1000)
    (hQ : ∀ s' xs t' h', Owns (hb.del i) h' (owS i l t' :: (5, s', rows budC xs) :: L) → t' ≤ t + 100 → xs.length ≤ 3 → Q [.one (.slice 5 s')] h') : I 7 [.one (.ptr (some (i, 0)))] Q h := by
  refine hI.go _ _ (den7 I (some (i, 0)) Q) ?_
  refine newK_intro fun i2 h2 hn2 he2 => ?_
  subst he2
  have o2 := (o.new (sz := 1) (n := 3) (cs := strs [⟨#[109, 97, 121]⟩, ⟨#[106, 117, 110, 101]⟩, ⟨#[97, 108, 108]⟩]) hn2 rfl).swp
  refine loopK_intro (fun (a : Sl × Int) h' m => ∃ j t' : Nat, j ≤ 3 ∧ a.2 = j ∧ 3 - j = m ∧ t' ≤ t + 5 * j ∧ ∃ xs : List Bud, xs.length ≤ j ∧ Owns (hb.del i) h' (owS i l t' :: (5, a.1, rows budC xs) :: (1, ⟨some (i2, 0), 3⟩, strs [⟨#[109, 97, 121]⟩, ⟨#[106, 117, 110, 101]⟩, ⟨#[97, 108, 108]⟩]) :: L)) 3
    ⟨0, t, by omega, rfl, rfl, by omega, [], by simp, (o2.none_ 5).swp⟩ ?_
  rintro ⟨s, y⟩ h' m ⟨j, t', hj, rfl, rfl, ht', xs, hxl, o⟩
  dsimp only [uncur] at o ⊢
  have hal : s.len = xs.length := (o.at_ (s := s) (by simp)).rowsLen budC_length (by decide)
  refine ifT_dec (fun hlt => ⟨⟨by omega, by omega⟩, ?_⟩) (fun hge => ?_)
  · have hlt : j < 3 := by have : (j : Int) < 3 := hlt
                           omega
    obtain ⟨k, hk⟩ : ∃ k, ([⟨#[109, 97, 121]⟩, ⟨#[106, 117, 110, 101]⟩, ⟨#[97, 108, 108]⟩] : List ByteArray)[j]? = some k := ⟨_, List.getElem?_eq_getElem hlt⟩
    refine ⟨k, ?_, ?_⟩
    · rw [Int.toNat_natCast, Nat.mul_one, Nat.zero_add]
      exact read_cell (o.block (sz := 1) (i := i2) (n := 3) (by simp)).1 (strs_get hk)
    have ew : IntKind.i64.wrap ((j : Int) + 1) = ((j + 1 : Nat) : Int) := by rw [w64] <;> omega
    rw [ew]
    refine spec17 hI (o.toStrm S0 (t' := t') (by simp) (by omega)) (by decide) (by decide) fun b => ⟨b, rfl, ?_⟩
    have o3 := o.next (t' := t' + 1)
    refine ifT_intro (fun _ => ⟨3 - (j + 1), by omega, j + 1, t' + 1, by omega, rfl, rfl, by omega, xs, by omega, o3⟩) fun _ => ?_
    refine newK_intro fun i4 h4 hn4 he4 => ?_
    have hne4 := o3.lit_ne hn4
    have o4 := o3.mono (he4 ▸ Ext.new hn4 : Ext _ h4)
    refine spec18 hI (xs := [0, 0, 1, 5]) (o4.toStrm S0 (t' := t' + 1) (by simp) (by omega)) (lit_at hne4 he4 rfl) (by simp) (by simp) fun f _ => ⟨f, rfl, ?_⟩
    have o5 := o4.next (t' := t' + 1 + 1)
    refine newK_intro fun i6 h6 hn6 he6 => ?_
    have hne6 := o5.lit_ne hn6
    have o6 := o5.mono (he6 ▸ Ext.new hn6 : Ext _ h6)
    refine spec18 hI (xs := [0, 100, 1000, 1001, 1000000000000]) (o6.toStrm S0 (t' := t' + 1 + 1) (by simp) (by omega)) (lit_at hne6 he6 rfl) (by simp) (by simp) fun c _ => ⟨c, rfl, ?_⟩
    have o7 := o6.next (t' := t' + 1 + 1 + 1)
    refine newK_intro fun i8 h8 hn8 he8 => ?_
    have hne8 := o7.lit_ne hn8
    have o8 := o7.mono (he8 ▸ Ext.new hn8 : Ext _ h8)
    refine spec18 hI (xs := [0, 2, 9, 2000]) (o8.toStrm S0 (t' := t' + 1 + 1 + 1) (by simp) (by omega)) (lit_at hne8 he8 rfl) (by simp) (by simp) fun g _ => ⟨g, rfl, ?_⟩
    have o9 := o8.next (t' := t' + 1 + 1 + 1 + 1)
    refine spec17 hI (o9.toStrm S0 (t' := t' + 1 + 1 + 1 + 1) (by simp) (by omega)) (by decide) (by decide) fun b => ⟨b, rfl, ?_⟩
    have o10 := o9.next (t' := t' + 1 + 1 + 1 + 1 + 1)
    refine appendTo_owns (m := 0) o10.swp (by rfl) (by omega) (by simp) fun bn h11 o11 => ⟨3 - (j + 1), by omega, j + 1, t' + 1 + 1 + 1 + 1 + 1, by omega, rfl, rfl, by omega, xs ++ [⟨k, c, f, IntKind.i64.wrap (f + g), b⟩], by simp; omega, ?_⟩
    have := o11.swp
    rw [rows_append]
    simpa [rows, budC] using this
  · -- one cell of one budget is turned, or none
    have fin0 : ∀ (s' : Sl) (ys : List Bud) (t9 : Nat) (h9 : Heap), ys.length ≤ 3 → t9 ≤ t + 100 → Owns (hb.del i) h9 (owS i l t9 :: (5, s', rows budC ys) :: (1, ⟨some (i2, 0), 3⟩, strs [⟨#[109, 97, 121]⟩, ⟨#[106, 117, 110, 101]⟩, ⟨#[97, 108, 108]⟩]) :: L) → Q [.one (.slice 5 s')] h9 := fun s' ys t9 h9 hy h9' o9 => hQ s' ys t9 h9 (o9.rot'.tail) h9' hy
    refine joinK_intro (fun (b : Bool) h3 => Owns (hb.del i) h3 (owS i l (t' + 1) :: (5, s, rows budC xs) :: (1, ⟨some (i2, 0), 3⟩, strs [⟨#[109, 97, 121]⟩, ⟨#[106, 117, 110, 101]⟩, ⟨#[97, 108, 108]⟩]) :: L) ∧ (b = true → 0 < xs.length)) ?_ ?_
    · rintro b h3 ⟨o3, hbp⟩
      refine ifT_intro (fun hbt => ?_) fun _ => fin0 _ _ _ _ (by omega) (by omega) o3
      have hpos := hbp hbt
      have S3 := o3.toStrm S0 (t' := t' + 1) (by simp) (by omega)
      refine spec19 hI S3 (by omega) (by omega) fun e he0 he1 => ⟨e, rfl, ⟨he0, he1⟩, ?_⟩
      obtain ⟨e, rfl⟩ := Int.eq_ofNat_of_zero_le he0
      have o4 := o3.next (t' := t' + 1 + 1)
      have hrl := rows_length budC_length xs
      obtain ⟨bs, hbs, hcs⟩ := o4.has (s := s) (cs := rows budC xs) (sz := 5) (by simp) (fun h => by rw [h] at hrl; simp at hrl; omega)
      rw [hbs] at o4 ⊢
      refine derefK_intro rfl ?_
      refine spec19 hI (o4.toStrm S0 (t' := t' + 1 + 1) (by simp) (by omega)) (by decide) (by decide) fun c hc0 hc1 => ⟨c, rfl, ?_⟩
      have o5 := o4.next (t' := t' + 1 + 1 + 1)
      have hx := List.getElem?_eq_getElem (show e < xs.length by omega)
      generalize xs[e] = x at hx
      have fin : ∀ (j2 : Nat) (c2 : Cell) (x' : Bud) (h9 : Heap) (t9 : Nat), j2 < 5 → (budC x).set j2 c2 = budC x' → t9 ≤ t' + 5 → Owns (hb.del i) h9 (owS i l t9 :: (5, ⟨some (bs, 0), s.len⟩, rows budC xs) :: (1, ⟨some (i2, 0), 3⟩, strs [⟨#[109, 97, 121]⟩, ⟨#[106, 117, 110, 101]⟩, ⟨#[97, 108, 108]⟩]) :: L) → storeK [] bs (0 + ((e : Nat) : Int).toNat * 5 + j2) [c2] (Q [.one (.slice 5 ⟨some (bs, 0), s.len⟩)]) h9 := by
        intro j2 c2 x' h9 t9 hj2 hset ht9 o9
        have o10 := o9.swp
        rw [Int.toNat_natCast, Nat.zero_add]
        refine storeK_one (o10.block List.mem_cons_self).1 (by rw [hrl]; omega) ?_
        rw [rows_set budC_length hx hj2 hset]
        have o11 := (o10.change (n' := s.len) (sz' := 5) (cs' := rows budC (xs.set e x')) (by rw [rows_length budC_length]; simp; omega)).swp
        exact fin0 _ _ _ _ (by simp; omega) (by omega) o11
      refine ifT_dec (fun h1 => ?_) fun h1 => ifT_dec (fun h2 => ?_) fun h2 => ifT_dec (fun h3 => ?_) fun h3 => ?_
      · refine newK_intro fun i6 h6 hn6 he6 => ?_
        have hne6 := o5.lit_ne hn6
        have o6 := o5.mono (he6 ▸ Ext.new hn6 : Ext _ h6)
        refine spec20 hI (xs := [⟨#[]⟩, ⟨#[109, 97, 121]⟩, ⟨#[77, 97, 121]⟩]) (o6.toStrm S0 (t' := t' + 1 + 1 + 1) (by simp) (by omega)) (lit_atC hne6 he6 rfl) (by simp) (by simp) fun v _ => ⟨v, rfl, ?_⟩
        exact fin 0 (.str v) { x with key := v } _ (t' + 1 + 1 + 1 + 1) (by decide) rfl (by omega) o6.next
      · refine newK_intro fun i6 h6 hn6 he6 => ?_
        have hne6 := o5.lit_ne hn6
        have o6 := o5.mono (he6 ▸ Ext.new hn6 : Ext _ h6)
        refine spec18 hI (xs := [-1, 1000000000001]) (o6.toStrm S0 (t' := t' + 1 + 1 + 1) (by simp) (by omega)) (lit_at hne6 he6 rfl) (by simp) (by simp) fun v _ => ⟨v, rfl, ?_⟩
        exact fin 1 (.int .i64 v) { x with cents := v } _ (t' + 1 + 1 + 1 + 1) (by decide) rfl (by omega) o6.next
      · refine ⟨x.last, ?_, newK_intro fun i6 h6 hn6 he6 => ?_⟩
        · rw [Int.toNat_natCast, Nat.zero_add]
          exact read_cell (o5.block (sz := 5) (i := bs) (n := s.len) (by simp)).1 (rows_cell budC_length hx rfl)
        have hne6 := o5.lit_ne hn6
        have o6 := o5.mono (he6 ▸ Ext.new hn6 : Ext _ h6)
        refine spec18 hI (xs := [-1, IntKind.i64.wrap (x.last + 1)]) (o6.toStrm S0 (t' := t' + 1 + 1 + 1) (by simp) (by omega)) (lit_at hne6 he6 rfl) (by simp) (by simp) fun v _ => ⟨v, rfl, ?_⟩
        exact fin 2 (.int .i64 v) { x with first := v } _ (t' + 1 + 1 + 1 + 1) (by decide) rfl (by omega) o6.next
      · refine newK_intro fun i6 h6 hn6 he6 => ?_
        have hne6 := o5.lit_ne hn6
        have o6 := o5.mono (he6 ▸ Ext.new hn6 : Ext _ h6)
        refine spec18 hI (xs := [3000, 3001]) (o6.toStrm S0 (t' := t' + 1 + 1 + 1) (by simp) (by omega)) (lit_at hne6 he6 rfl) (by simp) (by simp) fun v _ => ⟨v, rfl, ?_⟩
        exact fin 3 (.int .i64 v) { x with last := v } _ (t' + 1 + 1 + 1 + 1) (by decide) rfl (by omega) o6.next
    · intro jk hjk
      refine spec17 hI (o.toStrm S0 (t' := t') (by simp) (by omega)) (by decide) (by decide) fun b => ⟨b, rfl, ?_⟩
      have o3 := o.next (t' := t' + 1)
      refine ifT_intro (fun _ => hjk _ _ ⟨o3, fun h => ?_⟩) fun _ => hjk _ _ ⟨o3, fun h => by cases h⟩
      have := of_decide_eq_true h
      omega
end
/-- What is known of the purse between the rounds. -/
structure Mid (bs : List Bud) (hs : List Hld) (now t : Int) (k : Nat) : Prop where
  r : Right bs hs now
  le : now ≤ t
  t0 : 0 ≤ t
  t1 : t ≤ 1440 * k
  len : hs.length ≤ k
end
end Go.Proofs.YtdjancoknephnaaGreatVc
