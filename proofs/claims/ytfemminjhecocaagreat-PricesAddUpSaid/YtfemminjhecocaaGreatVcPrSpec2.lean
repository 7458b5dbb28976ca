/- Contracts: the pieces of a basket, repeated and sorted. -/
import Derived.Test.YtfemminjhecocaaGreatVcPrSpec1
set_option linter.unusedSimpArgs false
set_option linter.unusedVariables false
namespace Go.Proofs.YtfemminjhecocaaGreatVc
open Go.Proofs.Tryz (prog)
open Go.Proofs.YtfemminjhecocaaGreatShares
def pcC (x : Pc) : List Cell := [.int .i64 (x.1 : Int), .int .i64 (x.2 : Int)]
theorem pcC_length (x : Pc) : (pcC x).length = 2 := rfl
theorem pc_fits (x : Pc) : pcK.fits (.agg (pcC x)) := by simp [VK.fits, fitsAll, pcC, Kd.fits]
section
variable {I : Calls} {Q : Post} {h : Heap}
theorem spec93 (hI : Closed' prog Pm I) {x y : Nat} (hx : x < 18446744073709551616) (hy : y < 18446744073709551616) (hQ : Q [u64 ((x * y / 18446744073709551616 : Nat) : Int), u64 ((x * y % 18446744073709551616 : Nat) : Int)] h) : I 93 [u64 x, u64 y] Q h := by
  refine hI.go _ _ (den93 I x y Q) ?_
  exact spec88 hI hx hy ⟨_, _, rfl, hQ⟩
theorem spec74 (hI : Closed' prog Pm I) {i n : Nat} {x : Pc} (hc : h i = some (.cells false (pcC x))) (h1 : 1 ≤ n) (h2 : n ≤ 1000)
    (hQ : ∀ i' h', Ext h h' → h' i' = some (.cells false (rows pcC (List.replicate n x))) → Q [.one (.slice 2 ⟨some (i', 0), n⟩)] h') : I 74 [.one (.slice 2 ⟨some (i, 0), 1⟩), int n] Q h := by
  refine hI.go _ _ (den74 I _ n Q) ?_
  refine joinK_intro (fun (_ : PUnit) h' => h' = h) ?_ fun j hj => ifT_dec (fun h1 => by omega) fun _ => hj _ _ rfl
  rintro _ h' rfl
  dsimp only
  rw [wN n (by omega), wN 1 (by omega)]
  refine spec93 hI (by omega) (by omega) ⟨_, _, rfl, ?_⟩
  have e1 : 1 * n / 18446744073709551616 = 0 := by omega
  have e2 : 1 * n % 18446744073709551616 = n := by omega
  have e3 : IntKind.i64.wrap (n : Int) = (n : Int) := w64 (by omega) (by omega)
  rw [e1, e2, e3]
  refine joinK_intro (fun (b : Bool) h2 => h2 = h' ∧ b = false) ?_ fun j hj => ifT_dec (fun h1 => by omega) fun _ => hj _ _ ⟨rfl, by simp; omega⟩
  rintro _ h2 ⟨rfl, rfl⟩
  refine joinK_intro (fun (_ : PUnit) h3 => h3 = h2) ?_ fun j hj => hj _ _ rfl
  rintro _ h3 rfl
  rw [Int.toNat_natCast]
  refine ⟨rfl, by omega, by omega, by show (n : Int) * ((16 : Nat) : Int) ≤ _; omega, newK_intro fun i2 h4 hn he => ⟨pcC x, ?_, ?_⟩⟩
  · have : h4 i = some (.cells false (pcC x)) := by
      rw [he, set_ne _ _ (fun e => by subst e; rw [hn] at hc; cases hc)]; exact hc
    show h4.read i 0 (1 * 2) = _
    rw [read_block this (by show 0 + 1 * 2 ≤ 2; decide)]; rfl
  have hz : (slCells (VK.agg [Kd.int IntKind.i64, Kd.int IntKind.i64]) n).length = n * 2 := by
    simp [slCells, List.length_flatten]
  obtain ⟨zs, hzs⟩ : ∃ zs, slCells (VK.agg [Kd.int IntKind.i64, Kd.int IntKind.i64]) n = zs := ⟨_, rfl⟩
  rw [hzs] at he hz
  have hm1 : min 1 n = 1 := by omega
  show storeK [] i2 0 (List.take (min 1 n * 2) (pcC x)) _ h4
  rw [hm1]
  have x4 : Ext h3 h4 := he ▸ Ext.new hn
  refine ⟨zs, by rw [he, set_eq], by rw [hz]; show 0 + 2 ≤ _; omega, ?_⟩
  show loopK _ _ _
  rw [updCells_splice (by rw [hz]; show 0 + 2 ≤ _; omega)]
  refine loopK_intro (fun (a : Int) h5 m => ∃ k rest, 1 ≤ k ∧ k ≤ n ∧ a = (k : Int) ∧ m = n - k ∧ rest.length = (n - k) * 2 ∧ h5 = h3.set i2 (.cells false (rows pcC (List.replicate k x) ++ rest))) (n - 1)
    ⟨1, zs.drop 2, by omega, h1, rfl, rfl, by rw [List.length_drop, hz]; omega, by rw [he, set_set]; rfl⟩ ?_
  rintro a h5 m ⟨k, rest, hk1, hk2, rfl, rfl, hrl, rfl⟩
  have hrep : (rows pcC (List.replicate k x)).length = k * 2 := by rw [rows_length pcC_length, List.length_replicate]
  refine ifT_dec (fun hlt => ⟨⟨by omega, by omega, by omega⟩, ⟨by omega, by omega, by omega⟩, rows pcC (List.replicate k x), ?_, ?_⟩) fun hge => ?_
  · show Heap.read _ i2 (0 + 0 * 2) ((Int.toNat (k : Int) - 0) * 2) = _
    rw [read_block (set_eq _ _ _) (by rw [List.length_append, hrep, Int.toNat_natCast]; omega), Int.toNat_natCast]
    show some (List.take ((k - 0) * 2) (List.drop 0 _)) = _
    rw [List.drop_zero, Nat.sub_zero, ← hrep, List.take_left]
  · rw [Int.toNat_natCast, Nat.sub_zero, rows_take pcC_length, List.take_replicate]
    have hm : min (min k (n - k)) k = min k (n - k) := by omega
    rw [hm]
    obtain ⟨j, hj⟩ : ∃ j, min k (n - k) = j := ⟨_, rfl⟩
    rw [hj]
    have hjl : (rows pcC (List.replicate j x)).length = j * 2 := by rw [rows_length pcC_length, List.length_replicate]
    have hle : 0 + k * 2 + (rows pcC (List.replicate j x)).length ≤ (rows pcC (List.replicate k x) ++ rest).length := by rw [List.length_append, hrep, hjl, hrl]; omega
    refine ⟨_, set_eq _ _ _, hle, ?_⟩
    show _
    rw [updCells_splice hle, set_set]
    refine ⟨n - (k + j), by omega, k + j, rest.drop (j * 2), by omega, by omega, by rw [w64 (by omega) (by omega)]; omega, rfl, by rw [List.length_drop, hrl]; omega, ?_⟩
    congr 2
    unfold splice
    rw [Nat.zero_add, ← hrep, List.take_left, ← List.drop_drop, List.drop_left, hjl, ← List.replicate_append_replicate, rows_append]
  · have hk : k = n := by omega
    subst hk
    have hr0 : rest = [] := List.length_eq_zero_iff.1 (by rw [hrl]; omega)
    subst hr0
    refine hQ i2 _ (Ext.new hn) (by rw [set_eq, List.append_nil])
theorem spec76 (hI : Closed' prog Pm I) {x y : Pc} (hQ : ∀ c, (c < 0 ↔ y.2 < x.2) → Q [int c] h) : I 76 [.agg (pcC x), .agg (pcC y)] Q h := by
  refine hI.go _ _ (den76 I x.1 x.2 y.1 y.2 Q) ?_
  exact spec27 hI fun c h1 _ => ⟨c, rfl, hQ c (h1.trans Int.ofNat_lt)⟩
def ltP (x y : Pc) : Bool := decide (y.2 < x.2)
theorem pc_tells (hI : Closed' prog Pm I) (blk : Nat) : TellsG I h blk 76 [] (fun x : Pc => V.agg (pcC x)) (fun _ => True) ltP := fun a b _ _ h' Q' _ hq => spec76 hI fun c hc => hq c h' (Ext.refl _) (by unfold ltP; rw [decide_eq_true_eq]; exact hc)
/-- The pieces are sorted. -/
theorem spec75 (hI : Closed' prog Pm I) {h0 : Heap} {s : Sl} {xs : List Pc} {L : List Ow} (o : Owns h0 h ((2, s, rows pcC xs) :: L)) (hlen : xs.length < 100000) (hord : xs.Pairwise fun a b => a.1 ≤ b.1)
    (hQ : ∀ h', Owns h0 h' ((2, s, rows pcC (sorted xs)) :: L) → Q [] h') : I 75 [.one (.slice 2 s), .one (.func (some (76, [])))] Q h := by
  refine hI.go _ _ (den75 I s _ Q) ?_
  refine hI.go _ _ (den94 I s _ _ _) ?_
  rw [den94g]
  have hl : s.len = xs.length := (o.at_ List.mem_cons_self).rowsLen pcC_length (by decide)
  have h105 : ∀ a b Q h, insF pcK I s a b (some (76, [])) Q h → I 105 [.one (.slice 2 s), ii a, ii b, fp (some (76, []))] Q h := fun a b Q h hq => hI.go _ _ (den105 I s a b _ Q) (by rw [den105g]; exact hq)
  have h112 : ∀ a b n Q h, swapF pcK s a b n Q h → I 112 [.one (.slice 2 s), ii a, ii b, ii n, fp (some (76, []))] Q h := fun a b n Q h hq => hI.go _ _ (den112 I s a b n _ Q) (by rw [den112g]; exact hq)
  have h110 : ∀ a m b Q h, rotF pcK I 112 s a m b (some (76, [])) Q h → I 110 [.one (.slice 2 s), ii a, ii m, ii b, fp (some (76, []))] Q h := fun a m b Q h hq => hI.go _ _ (den110 I s a m b _ Q) (by rw [den110g]; exact hq)
  have h106 : ∀ a m b Q h, symF pcK I 110 106 s a m b (some (76, [])) Q h → I 106 [.one (.slice 2 s), ii a, ii m, ii b, fp (some (76, []))] Q h := fun a m b Q h hq => hI.go _ _ (den106 I s a m b _ Q) (by rw [den106g]; exact hq)
  obtain ⟨ho1, ho2 | ⟨blk, ho2, ho3, ho4⟩⟩ := o.all _ List.mem_cons_self
  · have hx : xs = [] := by
      have := congrArg List.length ho2.2
      simp only [rows_length pcC_length, List.length_nil] at this
      exact List.length_eq_zero_iff.1 (by omega)
    subst hx
    have h0l : s.len = 0 := hl
    have done : Q [] h := hQ h (by simpa [sorted] using o)
    unfold stabF
    rw [h0l]
    refine loopK_intro (fun (a : Int × Int) h' m => h' = h ∧ a = (0, 20)) 0 ⟨rfl, rfl⟩ ?_
    rintro _ h' m ⟨rfl, rfl⟩
    dsimp only [uncur]
    refine ifT_dec (fun h1 => absurd h1 (by decide)) fun _ => h105 _ _ _ _ (insF_none (by decide) (by decide) (by decide) ⟨rfl, ?_⟩)
    refine loopK_intro (fun (a : Int) h2 m => h2 = h' ∧ a = 20) 0 ⟨rfl, rfl⟩ ?_
    rintro _ h2 m ⟨rfl, rfl⟩
    exact ifT_dec (fun h1 => absurd h1 (by decide)) fun _ => ⟨rfl, done⟩
  · refine stab_spec pc_fits (v := fun x => V.agg (pcC x)) (blk := blk) (mem := fun _ => True) (lt := ltP) (fun a b => pcLe a b = true) h105 h110 h112 h106 ho2 (by omega) hl ho4 (by rw [hl]) (fun a b c _ _ _ => pcLe_trans a b c) (fun _ _ => trivial) (pc_tells hI blk) ?_ fun Z h' hp hs hps => ⟨rfl, hQ h' ?_⟩
    · refine hord.imp fun {a b} hab => ?_
      unfold Xrel ltP pcLe
      simp only [decide_eq_true_eq, decide_eq_false_iff_not]
      omega
    · have e := sorted_eq hp hs
      subst e
      have e2 : s = ⟨some (blk, 0), s.len⟩ := by cases s; simp only at ho2; rw [ho2]
      have o2 : Owns h0 h ((pcK.kds.length, ⟨some (blk, 0), s.len⟩, rws (fun x : Pc => V.agg (pcC x)) xs) :: L) := by
        rw [← e2]; exact o
      have := o2.psg pc_fits hps hp.length_eq
      rw [e2]; exact this
end
end Go.Proofs.YtfemminjhecocaaGreatVc
