/- Contracts, turned by a program to the numbers of this seat. -/
import Derived.Test.YtfemminjhecocaaDoorVcPkVc
import Derived.Test.YtfemminjhecocaaDoorVcSortList
import Derived.Test.YtfemminjhecocaaDoorVcStrB
import Derived.Test.YtfemminjhecocaaDoorVcRows4
import Derived.Test.YtfemminjhecocaaDoorVcPuMath
import Derived.Test.YtfemminjhecocaaDoorVcCodeStr
import Derived.Test.YtfemminjhecocaaDoorVcSeMath
set_option linter.unusedSimpArgs false
set_option linter.unusedVariables false
-- from SeSpec1
namespace Go.Proofs.YtfemminjhecocaaDoorVc
open Go.Proofs.Tryd (prog)
abbrev Pm : Prim := IdxPrim 155
theorem pm_sound : Sound prog Pm := idx_sound Go.Proofs.Tryd.func155 (by kernel_rfl) (by kernel_rfl) (by kernel_rfl) (by kernel_rfl)
abbrev int (n : Int) : V := .one (.int .i64 n)
abbrev u64 (n : Int) : V := .one (.int .u64 n)
abbrev str (s : ByteArray) : V := .one (.str s)
abbrev boo (b : Bool) : V := .one (.bool b)
def ints (zs : List Int) : List Cell := zs.map (.int .i64)
section
variable {I : Calls} {Q : Post} {h : Heap}
/-! ### the stream -/
theorem spec64 (hI : Closed' prog Pm I) {x n : Int} (h1 : 1 ≤ n) (h2 : n < 4611686018427387904) (hQ : ∀ v, 0 ≤ v → v < n → Q [int v] h) : I 64 [int x, int n] Q h := by
  refine hI.go _ _ (den64 I x n Q) ?_
  refine ifT_dec (fun h3 => by omega) (fun h3 => ⟨by omega, ifT_dec (fun h4 => ?_) (fun h4 => ?_)⟩)
  · have h5 := Int.lt_tmod_of_pos x (show 0 < n by omega)
    have h6 : IntKind.i64.wrap (x.tmod n + n) = x.tmod n + n := w64 (by omega) (by omega)
    rw [h6]
    exact hQ _ (by omega) (by omega)
  · exact hQ _ (by omega) (Int.tmod_lt_of_pos x (by omega))
/-- A stream at place i: its numbers, and how many have been asked for. -/
structure Strm (h : Heap) (i : Nat) (l : Sl) (zs : List Int) (t : Nat) : Prop where
  cell : h i = some (.cells false [.slice 1 l, .int .i64 t])
  lies : At h 1 l (ints zs)
  apart : zs = [] ∨ ∀ b o, l.a = some (b, o) → b ≠ i
  small : t < 1000000000
abbrev strm (l : Sl) (t : Nat) : Obj := .cells false [.slice 1 l, .int .i64 t]
theorem Strm.at_ {h h' : Heap} {i : Nat} {l : Sl} {zs : List Int} {t : Nat} (S : Strm h i l zs t) (hf : ∀ j o, j ≠ i → h j = some o → h' j = some o) : At h' 1 l (ints zs) := by
  refine ⟨S.lies.1, ?_⟩
  rcases S.lies.2 with h1 | h1
  · exact .inl h1
  · rcases S.apart with h2 | h2
    · left; rw [h2]; rfl
    · right
      unfold Heap.sl at h1 ⊢
      cases ha : l.a with
      | none => rw [ha] at h1; exact h1
      | some p =>
        obtain ⟨b, o⟩ := p
        rw [ha] at h1
        have hb := h2 b o ha
        unfold Heap.read at h1 ⊢
        simp only at h1 ⊢
        cases hh : h b with
        | none => rw [hh] at h1; cases h1
        | some ob => rw [hf b ob hb hh]; rw [hh] at h1; exact h1
theorem Strm.frame {h h' : Heap} {i : Nat} {l : Sl} {zs : List Int} {t t' : Nat} (S : Strm h i l zs t) (hc : h' i = some (strm l t')) (hf : ∀ j o, j ≠ i → h j = some o → h' j = some o) (ht : t' < 1000000000) : Strm h' i l zs t' :=
  ⟨hc, S.at_ hf, S.apart, ht⟩
theorem Strm.next {h : Heap} {i : Nat} {l : Sl} {zs : List Int} {t : Nat} (S : Strm h i l zs t) (ht : t + 1 < 1000000000) : Strm (h.set i (strm l (t + 1))) i l zs (t + 1) :=
  S.frame (set_eq _ _ _) (fun j o hj hh => by rw [set_ne _ _ hj]; exact hh) ht
theorem Strm.ext {h h' : Heap} {i : Nat} {l : Sl} {zs : List Int} {t : Nat} (S : Strm h i l zs t) (he : Ext h h') : Strm h' i l zs t :=
  S.frame (he _ _ S.cell) (fun j o _ hh => he _ _ hh) S.small
theorem spec16 (hI : Closed' prog Pm I) {i : Nat} {l : Sl} {zs : List Int} {t : Nat} {n : Int} (S : Strm h i l zs t) (h1 : 1 ≤ n) (h2 : n < 4611686018427387904)
    (hQ : ∀ v, 0 ≤ v → v < n → Q [int v] (h.set i (strm l (t + 1)))) : I 16 [.one (.ptr (some (i, 0))), int n] Q h := by
  have ht := S.small
  have hw : IntKind.i64.wrap ((t : Int) + 1) = ((t + 1 : Nat) : Int) := by rw [w64] <;> omega
  have hw2 : IntKind.i64.wrap (((t + 1 : Nat) : Int) - 1) = t := by rw [w64] <;> omega
  have hc' : (h.set i (strm l (t + 1))) i = some (strm l (t + 1)) := set_eq _ _ _
  have S' : At (h.set i (strm l (t + 1))) 1 l (ints zs) := S.at_ fun j o hj hh => by rw [set_ne _ _ hj]; exact hh
  have r0 : ∀ {o : Nat}, o = 0 → (h.set i (strm l (t + 1))).read i o 1 = some [.slice 1 l] := fun e => by subst e; exact read_cell hc' rfl
  have r1 : ∀ {o : Nat}, o = 1 → (h.set i (strm l (t + 1))).read i o 1 = some [.int .i64 ((t + 1 : Nat) : Int)] := fun e => by subst e; exact read_cell hc' rfl
  refine hI.go _ _ (den16 I (some (i, 0)) n Q) ?_
  refine derefK_intro rfl ⟨t, read_cell S.cell rfl, derefK_intro rfl (storeK_one S.cell (by simp) ?_)⟩
  rw [hw]
  show derefK _ _ (h.set i (strm l (t + 1)))
  refine derefK_intro rfl ⟨l, r0 rfl, ifT_dec (fun h3 => ?_) (fun h3 => ?_)⟩
  · refine derefK_intro rfl ⟨_, r1 rfl, spec64 hI h1 h2 fun v h4 h5 => ⟨v, rfl, hQ v h4 h5⟩⟩
  · have hp : 0 < (l.len : Int) := by omega
    have hm := Int.tmod_lt_of_pos (t : Int) hp
    have hm0 : 0 ≤ (t : Int).tmod l.len := Int.tmod_nonneg _ (by omega)
    refine derefK_intro rfl ⟨_, r1 rfl, derefK_intro rfl ⟨l, r0 rfl, h3, derefK_intro rfl ⟨_, r1 rfl, derefK_intro rfl ⟨l, r0 rfl, h3, derefK_intro rfl ⟨l, r0 rfl, ?_⟩⟩⟩⟩⟩
    rw [hw2]
    refine ⟨⟨hm0, hm⟩, S'.one hm0 hm fun b o c hc hr => ?_⟩
    simp only [ints, List.getElem?_map] at hc
    cases hz : zs[((t : Int).tmod l.len).toNat]? with
    | none => rw [hz] at hc; cases hc
    | some z =>
      rw [hz] at hc
      cases hc
      exact ⟨z, hr, spec64 hI (by decide) (by decide) fun w _ _ => ⟨w, rfl, spec64 hI h1 h2 fun v h4 h5 => ⟨v, rfl, hQ v h4 h5⟩⟩⟩
/-- One of some numbers. -/
theorem spec9 (hI : Closed' prog Pm I) {i : Nat} {l : Sl} {zs : List Int} {t : Nat} {s : Sl} {xs : List Int} (S : Strm h i l zs t) (hs : At (h.set i (strm l (t + 1))) 1 s (ints xs)) (h1 : xs ≠ []) (h2 : xs.length < 1000)
    (hQ : ∀ v ∈ xs, Q [int v] (h.set i (strm l (t + 1)))) : I 9 [.one (.ptr (some (i, 0))), .one (.slice 1 s)] Q h := by
  have hl : s.len = xs.length := by simpa [ints] using hs.1
  have hpos := List.length_pos_iff.2 h1
  refine hI.go _ _ (den9 I (some (i, 0)) s Q) ?_
  refine spec16 hI S (by omega) (by omega) fun v h3 h4 => ⟨v, rfl, ⟨h3, h4⟩, hs.one h3 h4 fun b o c hc hr => ?_⟩
  simp only [ints, List.getElem?_map] at hc
  cases hz : xs[v.toNat]? with
  | none => rw [hz] at hc; cases hc
  | some z =>
    rw [hz] at hc
    cases hc
    exact ⟨z, hr, hQ z (List.mem_of_getElem? hz)⟩
/-! ### codes -/
/-! ### looking a string up -/
def strs (l : List ByteArray) : List Cell := l.map .str
end
end Go.Proofs.YtfemminjhecocaaDoorVc
-- from CcSpec2
namespace Go.Proofs.YtfemminjhecocaaDoorVc
open Go.Proofs.Tryd (prog)
section
variable {I : Calls} {Q : Post} {h : Heap}
theorem shr32 (a : Nat) : shr .u64 (a : Int) 32 = ((a / 4294967296 : Nat) : Int) := shr_nat a 32 .u64 rfl (by decide)
theorem mask32 (a : Nat) (ha : a < 18446744073709551616) : IntKind.u64.wrap ((BitVec.ofInt 64 (a : Int) &&& BitVec.ofInt 64 4294967295).toNat : Int) = ((a % 4294967296 : Nat) : Int) := and_mask a ha
theorem wN (a : Nat) (ha : a < 18446744073709551616) : IntKind.u64.wrap (a : Int) = (a : Int) := wu64 (by omega) (by omega)
theorem wM (a : Nat) : IntKind.u64.wrap (a : Int) = ((a % 18446744073709551616 : Nat) : Int) := by rw [IntKind.wrap_u64]; omega
theorem mN (a b : Nat) : (a : Int) * (b : Int) = ((a * b : Nat) : Int) := (Int.natCast_mul a b).symm
theorem aN (a b : Nat) : (a : Int) + (b : Int) = ((a + b : Nat) : Int) := (Int.natCast_add a b).symm
theorem div_start {U Y : Nat} (hU : U < 18446744073709551616) : IntKind.u64.wrap ((U : Int).tdiv (Y : Int)) = ((U / Y : Nat) : Int) ∧ IntKind.u64.wrap ((U : Int) - IntKind.u64.wrap (((U / Y : Nat) : Int) * (Y : Int))) = ((U % Y : Nat) : Int) := by
  have h1 : U / Y ≤ U := Nat.div_le_self _ _
  have h2 := Nat.div_add_mod U Y
  rw [Nat.mul_comm] at h2
  constructor
  · rw [← Int.ofNat_tdiv, wN _ (by omega)]
  · rw [mN]
    generalize U / Y * Y = z at *
    rw [wN _ (by omega), wu64 (by omega) (by omega)]
    omega
end
end Go.Proofs.YtfemminjhecocaaDoorVc
-- from CcSpec4
namespace Go.Proofs.YtfemminjhecocaaDoorVc
open Go.Proofs.Tryd (prog)
section
variable {I : Calls} {Q : Post} {h : Heap}
theorem full_ok {ds gs : List Nat} {n x : Nat} (hds : ∀ d ∈ ds, d < 31) (hg : ∀ d ∈ gs, d < 31) (hx : x < 31) : ∀ d ∈ ds ++ gs ++ [x], d < 31 := fun d hd => by
  rcases List.mem_append.1 hd with hd | hd
  · rcases List.mem_append.1 hd with hd | hd
    · exact hds d hd
    · exact hg d hd
  · have : d = x := by simpa using hd
    omega
theorem Strm.make {h : Heap} {i : Nat} {l : Sl} {zs : List Int} (hs : At h 1 l (ints zs)) (hi : h i = none) : Strm (h.set i (strm l 0)) i l zs 0 := by
  refine ⟨set_eq _ _ _, (Ext.new hi).at_ hs, ?_, by decide⟩
  rcases hs.2 with h1 | h1
  · left; simpa [ints] using h1
  · right
    rintro b o ha rfl
    unfold Heap.sl at h1
    rw [ha] at h1
    simp only [Heap.read, hi] at h1
    cases h1
end
end Go.Proofs.YtfemminjhecocaaDoorVc
-- from CnSpec
namespace Go.Proofs.YtfemminjhecocaaDoorVc
open Go.Proofs.Tryd (prog)
section
variable {I : Calls} {Q : Post} {h : Heap}
theorem spec17 (hI : Closed' prog Pm I) {i : Nat} {l : Sl} {zs : List Int} {t : Nat} {n : Int} (S : Strm h i l zs t) (h1 : 1 ≤ n) (h2 : n < 4611686018427387904)
    (hQ : ∀ b, Q [boo b] (h.set i (strm l (t + 1)))) : I 17 [.one (.ptr (some (i, 0))), int n] Q h := by
  refine hI.go _ _ (den17 I (some (i, 0)) n Q) ?_
  exact spec16 hI S h1 h2 fun v _ _ => ⟨v, rfl, hQ _⟩
theorem extract_le (s : ByteArray) (a b : Nat) : (s.extract a b).size ≤ s.size := by
  rw [ByteArray.size_extract]; omega
theorem nonempty_size {s : ByteArray} (h : s ≠ ⟨#[]⟩) : 0 < s.size := by
  rcases Nat.eq_zero_or_pos s.size with h1 | h1
  · exfalso
    apply h
    obtain ⟨⟨l⟩⟩ := s
    cases l with
    | nil => rfl
    | cons x l => simp [ByteArray.size] at h1
  · exact h1
end
end Go.Proofs.YtfemminjhecocaaDoorVc
-- from CsSort
namespace Go.Proofs.YtfemminjhecocaaDoorVc
open Go.Proofs.Tryd (prog)
section
variable {I : Calls} {Q : Post} {h : Heap}
theorem ints_get {xs : List Int} {i : Nat} {x : Int} (h : xs[i]? = some x) : (ints xs)[i]? = some (.int .i64 x) := by
  unfold ints; rw [List.getElem?_map, h]; rfl
theorem ints_set (xs : List Int) (i : Nat) (x : Int) : (ints xs).set i (.int .i64 x) = ints (xs.set i x) := by
  unfold ints; rw [List.map_set]
theorem ints_length (xs : List Int) : (ints xs).length = xs.length := by simp [ints]
theorem set_self {h : Heap} {i : Nat} {o : Obj} (hi : h i = some o) : h.set i o = h := by
  funext j
  unfold Heap.set
  by_cases hj : j = i
  · subst hj; simp [hi]
  · simp [hj]
end
end Go.Proofs.YtfemminjhecocaaDoorVc
-- from CsSpec1
namespace Go.Proofs.YtfemminjhecocaaDoorVc
open Go.Proofs.Tryd (prog)
def nats (l : List Nat) : List Cell := l.map fun n : Nat => .int .i64 (n : Int)
theorem nats_ints (l : List Nat) : nats l = ints (l.map fun n : Nat => (n : Int)) := by simp [nats, ints, List.map_map, Function.comp_def]
theorem nats_length (l : List Nat) : (nats l).length = l.length := by simp [nats]
theorem nats_get {xs : List Nat} {i n : Nat} (h : xs[i]? = some n) : (nats xs)[i]? = some (.int .i64 (n : Int)) := by unfold nats; rw [List.getElem?_map, h]; rfl
theorem nats_set (xs : List Nat) (i n : Nat) : (nats xs).set i (.int .i64 (n : Int)) = nats (xs.set i n) := by unfold nats; rw [List.map_set]
section
variable {I : Calls} {Q : Post} {h : Heap}
/-- A cell is read of a slice. -/
theorem At.cell {s : Sl} {xs : List Cell} {i : Nat} {c : Cell} {f : Nat → Nat → T} (hs : At h 1 s xs) (hx : xs[i]? = some c) (hk : ∀ b o, h.read b (o + (i : Int).toNat * 1) 1 = some [c] → f b o h) : derefK s.a f h := by
  have hlt : i < xs.length := (List.getElem?_eq_some_iff.1 hx).1
  have hl := hs.1
  refine hs.one (i := (i : Int)) (by omega) (by omega) fun b o c' hc hr => ?_
  rw [Int.toNat_natCast] at hc
  rw [hx] at hc
  cases hc
  exact hk b o hr
theorem At.len1 {s : Sl} {xs : List Cell} (hs : At h 1 s xs) : s.len = xs.length := by simpa using hs.1
/-! ### the stream's block, among one's own -/
abbrev owS (i : Nat) (l : Sl) (t : Nat) : Ow := (1, ⟨some (i, 0), 2⟩, [.slice 1 l, .int .i64 t])
theorem Strm.owns {i : Nat} {l : Sl} {zs : List Int} {t : Nat} (S : Strm h i l zs t) : Owns (h.del i) h [owS i l t] := by
  refine ⟨fun j o hj => ?_, fun p hp => ?_, by simp⟩
  · by_cases e : j = i
    · subst e; simp [Heap.del] at hj
    · rw [del_ne _ e] at hj; exact hj
  · have : p = owS i l t := by simpa using hp
    subst this
    exact ⟨rfl, .inr ⟨i, rfl, by simp [Heap.del], S.cell⟩⟩
theorem Owns.toStrm {h' : Heap} {L : List Ow} {i : Nat} {l : Sl} {zs : List Int} {t t' : Nat} (S : Strm h i l zs t) (o : Owns (h.del i) h' L) (hm : owS i l t' ∈ L) (ht : t' < 1000000000) : Strm h' i l zs t' :=
  S.frame (o.block hm).1 (fun j x hj hx => o.ext _ _ (by rw [del_ne _ hj]; exact hx)) ht
theorem Owns.strmCell {h' : Heap} {L : List Ow} {i : Nat} {l : Sl} {t : Nat} (o : Owns h h' L) (hm : owS i l t ∈ L) : h' i = some (strm l t) := (o.block hm).1
theorem Owns.next {h' : Heap} {L : List Ow} {i : Nat} {l : Sl} {t t' : Nat} (o : Owns h h' (owS i l t :: L)) : Owns h (h'.set i (strm l t')) (owS i l t' :: L) := o.change rfl
theorem Owns.slen {h' : Heap} {L : List Ow} {s : Sl} {cs : List Cell} (o : Owns h h' L) (hm : (1, s, cs) ∈ L) : s.len = cs.length := by
  have := (o.all _ hm).1; simpa using this
theorem Owns.sl {h' : Heap} {L : List Ow} {s : Sl} {cs : List Cell} (o : Owns h h' L) (hm : (1, s, cs) ∈ L) : h'.sl 1 s = some cs := by
  obtain ⟨h1, h2 | ⟨k, h2, _, h3⟩⟩ := o.all _ hm
  · simp only at h2; unfold Heap.sl; rw [h2.1, h2.2]
  · simp only at h1 h2 h3
    unfold Heap.sl
    rw [h2]
    show h'.read k 0 (s.len * 1) = _
    rw [read_block h3 (by omega), h1, List.drop_zero, List.take_length]
theorem Owns.has {h' : Heap} {L : List Ow} {s : Sl} {cs : List Cell} {sz : Nat} (o : Owns h h' L) (hm : (sz, s, cs) ∈ L) (hne : cs ≠ []) : ∃ i, s = ⟨some (i, 0), s.len⟩ ∧ h' i = some (.cells false cs) := by
  obtain ⟨h1, h2 | ⟨k, h2, _, h3⟩⟩ := o.all _ hm
  · exact absurd h2.2 hne
  · obtain ⟨a, n⟩ := s
    simp only at h2
    subst h2
    exact ⟨k, rfl, h3⟩
end
end Go.Proofs.YtfemminjhecocaaDoorVc
-- from SpSpec1
namespace Go.Proofs.YtfemminjhecocaaDoorVc
open Go.Proofs.Tryd (prog)
section
variable {I : Calls} {Q : Post} {h : Heap}
abbrev frac (a b : Int) : V := .agg [.int .i64 a, .int .i64 b]
theorem sum_step {xs : List Nat} {i : Nat} (h : i < xs.length) : (xs.take (i + 1)).sum = (xs.take i).sum + xs[i] := by
  rw [List.take_add_one, List.getElem?_eq_getElem h]
  show (xs.take i ++ [xs[i]]).sum = _
  rw [List.sum_append]; simp
/-! ### weights -/
structure RightW (xs : List Int) (ws : List Nat) : Prop where
  xs : xs = ws.map fun n : Nat => (n : Int)
  ws1 : ∀ w ∈ ws, w ≤ 1000000
  pos : 0 < ws.sum
  len : ws.length ≤ 12
end
end Go.Proofs.YtfemminjhecocaaDoorVc
-- from QfSpec3
namespace Go.Proofs.YtfemminjhecocaaDoorVc
open Go.Proofs.Tryd (prog)
section
variable {I : Calls} {Q : Post} {h : Heap}
/-- A literal lies where it was put, whatever becomes of the stream. -/
theorem lit_at {h h0 : Heap} {i j n : Nat} {o : Obj} {xs : List Int} (hne : j ≠ i) (he : h = h0.set j (.cells false (ints xs))) (hn : n = xs.length) : At (h.set i o) 1 ⟨some (j, 0), n⟩ (ints xs) := by
  refine ⟨by rw [ints_length]; simp [hn], .inr ?_⟩
  show (h.set i o).read j 0 (n * 1) = _
  unfold Heap.read
  rw [set_ne _ _ hne, he, set_eq]
  subst hn
  simp [ints, List.take_of_length_le]
end
end Go.Proofs.YtfemminjhecocaaDoorVc
-- from SeKey
namespace Go.Proofs.YtfemminjhecocaaDoorVc
open Go.Proofs.Tryd (prog)
section
variable {I : Calls} {Q : Post} {h : Heap}
theorem spec109 (hI : Closed' prog Pm I) {n a b : Int} (hQ : Q [boo (decide (a ≤ n) && decide (n ≤ b))] h) : I 109 [int n, int a, int b] Q h := by
  refine hI.go _ _ (den109 I n a b Q) ?_
  refine ifT_dec (fun h1 => ?_) (fun h1 => ?_)
  · simpa [h1] using hQ
  · simpa [h1] using hQ
theorem spec131 (hI : Closed' prog Pm I) {n a b : Int} (hQ : Q [boo (decide (a ≤ n) && decide (n ≤ b))] h) : I 131 [int n, int a, int b] Q h := by
  refine hI.go _ _ (den131 I n a b Q) ?_
  refine ifT_dec (fun h1 => ?_) (fun h1 => ?_)
  · simpa [h1] using hQ
  · simpa [h1] using hQ
abbrev u8 (b : UInt8) : V := .one (.int .u8 (b.toNat : Int))
theorem spec110 (hI : Closed' prog Pm I) {b : UInt8} (hQ : Q [boo (smallB b)] h) : I 110 [u8 b] Q h := by
  refine hI.go _ _ (den110 I _ Q) ?_
  unfold smallB at hQ
  refine ifT_dec (fun h1 => ?_) (fun h1 => ?_)
  · have e : decide (97 ≤ b.toNat) = true := by simp; omega
    rw [e, Bool.true_and] at hQ
    have e2 : decide ((b.toNat : Int) ≤ 122) = decide (b.toNat ≤ 122) := by rw [decide_eq_decide]; omega
    rw [e2]; exact hQ
  · have e : decide (97 ≤ b.toNat) = false := by simp; omega
    rw [e, Bool.false_and] at hQ
    exact hQ
theorem spec113 (hI : Closed' prog Pm I) {b : UInt8} (hQ : Q [boo (digitB b)] h) : I 113 [u8 b] Q h := by
  refine hI.go _ _ (den113 I _ Q) ?_
  unfold digitB at hQ
  refine ifT_dec (fun h1 => ?_) (fun h1 => ?_)
  · have e : decide (48 ≤ b.toNat) = true := by simp; omega
    rw [e, Bool.true_and] at hQ
    have e2 : decide ((b.toNat : Int) ≤ 57) = decide (b.toNat ≤ 57) := by rw [decide_eq_decide]; omega
    rw [e2]; exact hQ
  · have e : decide (48 ≤ b.toNat) = false := by simp; omega
    rw [e, Bool.false_and] at hQ
    exact hQ
theorem spec112 (hI : Closed' prog Pm I) {b : UInt8} (hQ : Q [boo (keyB b)] h) : I 112 [u8 b] Q h := by
  refine hI.go _ _ (den112 I _ Q) ?_
  unfold keyB at hQ
  refine spec110 hI ⟨_, rfl, ifT_intro (fun h1 => ?_) fun h1 => spec113 hI ⟨_, rfl, ifT_intro (fun h2 => ?_) fun h2 => ifT_dec (fun h3 => ?_) fun h3 => ?_⟩⟩
  · rw [h1] at hQ; simpa using hQ
  · rw [h1, h2] at hQ; simpa using hQ
  · have e : decide (b.toNat = 45) = true := by simp; omega
    rw [h1, h2, e] at hQ; simpa using hQ
  · have e : decide (b.toNat = 45) = false := by simp; omega
    rw [h1, h2, e] at hQ
    have e2 : decide ((b.toNat : Int) = 95) = decide (b.toNat = 95) := by rw [decide_eq_decide]; omega
    rw [e2]; simpa using hQ
theorem all_take_step {l : List UInt8} {p : UInt8 → Bool} {i : Nat} {b : UInt8} (hb : l[i]? = some b) : (l.take (i + 1)).all p = ((l.take i).all p && p b) := by
  rw [List.take_add_one, hb]
  show (l.take i ++ [b]).all p = _
  rw [List.all_append]; simp
theorem spec111 (hI : Closed' prog Pm I) {s : ByteArray} (hl : s.size < 1000) (hQ : Q [boo ((bl s).all keyB)] h) : I 111 [str s, .one (.func (some (112, [])))] Q h := by
  refine hI.go _ _ (den111 I s _ Q) ?_
  refine loopK_intro (fun (a : Int) h' m => h' = h ∧ ∃ i : Nat, i ≤ s.size ∧ a = i ∧ m = s.size - i ∧ ((bl s).take i).all keyB = true) s.size ⟨rfl, 0, by omega, rfl, rfl, rfl⟩ ?_
  rintro a h' m ⟨rfl, i, hi, rfl, rfl, hall⟩
  refine ifT_dec (fun hlt => ⟨⟨by omega, hlt⟩, ?_⟩) (fun hge => ?_)
  · have hlt' : i < (bl s).length := by rw [← bl_size]; omega
    have hb := List.getElem?_eq_getElem hlt'
    generalize (bl s)[i] = b at hb
    rw [byteAt_bl hb]
    refine spec112 hI ⟨_, rfl, ifT_intro (fun h1 => ?_) fun h1 => ?_⟩
    · have e : (bl s).all keyB = false := by
        rw [List.all_eq_false]
        exact ⟨b, List.mem_of_getElem? hb, by simpa using h1⟩
      rw [e] at hQ; exact hQ
    · refine ⟨s.size - (i + 1), by omega, rfl, i + 1, by omega, by rw [w64] <;> omega, rfl, ?_⟩
      rw [all_take_step hb, hall]
      simpa using h1
  · have : i = s.size := by omega
    subst this
    rw [bl_size, List.take_length] at hall
    rw [hall] at hQ
    exact hQ
theorem spec57 (hI : Closed' prog Pm I) {s : ByteArray} (hQ : Q [boo (isKey s)] h) : I 57 [str s] Q h := by
  refine hI.go _ _ (den57 I s Q) ?_
  unfold isKey at hQ
  have hsz := bl_size s
  refine spec109 hI ⟨_, rfl, ifT_intro (fun hb => ?_) fun hb => ?_⟩
  · have hb' : 1 ≤ s.size ∧ s.size ≤ 40 := by simp at hb; omega
    cases hl : bl s with
    | nil =>
      rw [hl] at hsz
      have : s.size = 0 := hsz
      omega
    | cons b l =>
      have h0 : (bl s)[0]? = some b := by rw [hl]; rfl
      have e0 := byteAt_bl h0
      rw [hl] at hQ
      have e1 : decide (l.length + 1 ≤ 40) = true := by rw [hl] at hsz; simp at hsz ⊢; omega
      refine ⟨⟨by decide, by omega⟩, ?_⟩
      have e0' : byteAt s 0 = (b.toNat : Int) := e0
      rw [e0']
      simp only [isKeyL, e1, Bool.true_and] at hQ
      refine spec110 hI ⟨_, rfl, ifT_intro (fun h1 => ?_) fun h1 => ?_⟩
      · rw [h1, Bool.true_and, ← hl] at hQ
        exact spec111 hI (by omega) ⟨_, rfl, hQ⟩
      · rw [h1, Bool.false_and] at hQ
        exact hQ
  · have hb' : ¬ (1 ≤ s.size ∧ s.size ≤ 40) := fun h => by
      have : (decide ((1 : Int) ≤ (s.size : Int)) && decide ((s.size : Int) ≤ 40)) = true := by simp; omega
      rw [this] at hb; cases hb
    have e : isKeyL (bl s) = false := by
      cases hl : bl s with
      | nil => rfl
      | cons b l =>
        have : decide (l.length + 1 ≤ 40) = false := by rw [hl] at hsz; simp at hsz ⊢; omega
        simp only [isKeyL, this, Bool.false_and]
    rw [e] at hQ
    exact hQ
/-! ### strings.Trim -/
theorem storeK_whole {i : Nat} {cs ns : List Cell} {k : T} (hi : h i = some (.cells false cs)) (hl : ns.length = cs.length) (hk : k (h.set i (.cells false ns))) : storeK [] i 0 ns k h := by
  have e : updCells cs 0 ns = ns := by
    rw [updCells_eq cs 0 ns (by omega)]
    unfold splice
    simp [hl]
  refine ⟨cs, hi, by omega, ?_⟩
  show k (h.set i (.cells false (updCells cs 0 ns)))
  rw [e]
  exact hk
theorem spec150 (hI : Closed' prog Pm I) {c : ByteArray} (hc : ∀ b ∈ bl c, b.toNat < 128) (hl : c.size < 1000) (hQ : ∀ h', Ext h h' → Q [.agg (setC (inC (bl c))), boo true] h') : I 150 [str c] Q h := by
  refine hI.go _ _ (den150 I c Q) ?_
  refine newK_intro fun i2 h2 hn2 he2 => ?_
  refine loopK_intro (fun (a : Int) h' m => ∃ i : Nat, i ≤ c.size ∧ a = i ∧ m = c.size - i ∧ h' = h.set i2 (.cells false (setC (inC ((bl c).take i))))) c.size ⟨0, by omega, rfl, rfl, by rw [he2]; rw [← setC_none]; rfl⟩ ?_
  rintro a h' m ⟨i, hi, rfl, rfl, rfl⟩
  refine ifT_dec (fun hlt => ⟨⟨by omega, hlt⟩, ?_⟩) (fun hge => ?_)
  · have hlt' : i < (bl c).length := by rw [← bl_size]; omega
    have hb := List.getElem?_eq_getElem hlt'
    have hbm := hc _ (List.getElem_mem hlt')
    generalize (bl c)[i] = b at hb hbm
    rw [byteAt_bl hb]
    refine ifT_dec (fun h1 => by omega) fun h1 => ⟨⟨by omega, by omega⟩, ?_⟩
    rw [Int.toNat_natCast, Nat.mul_one, Nat.zero_add]
    refine storeK_one (set_eq _ _ _) (by rw [setC_length]; omega) ⟨c.size - (i + 1), by omega, i + 1, by omega, by rw [w64] <;> omega, rfl, ?_⟩
    rw [set_set]
    congr 2
    refine setC_set _ _ (by omega) fun n => ?_
    unfold inC
    rw [List.take_add_one, hb]
    show (((bl c).take i) ++ [b]).any _ = _
    rw [List.any_append]
    simp only [List.any_cons, List.any_nil, Bool.or_false]
    rw [Bool.or_comm]
    congr 1
    rw [decide_eq_decide]
    omega
  · have : i = c.size := by omega
    subst this
    rw [bl_size, List.take_length]
    have hr : ∀ h0 : Heap, h0 i2 = some (.cells false (setC (inC (bl c)))) → h0.read i2 0 256 = some (setC (inC (bl c))) := fun h0 hh => by
      rw [read_block hh (by rw [setC_length]; omega), List.drop_zero, List.take_of_length_le (by rw [setC_length]; omega)]
    refine exCells_in (setC_fits (inC (bl c))) ⟨hr _ (set_eq _ _ _), storeK_whole (set_eq _ _ _) rfl ?_⟩
    refine exCells_in (setC_fits (inC (bl c))) ⟨hr _ (set_eq _ _ _), ?_⟩
    rw [set_set]
    exact hQ _ (Ext.new hn2)
theorem spec157 (hI : Closed' prog Pm I) {i : Nat} {S : Nat → Bool} {b : UInt8} (hi : h i = some (.cells false (setC S))) (hQ : Q [boo (S b.toNat)] h) : I 157 [.one (.ptr (some (i, 0))), u8 b] Q h := by
  refine hI.go _ _ (den157 I _ _ Q) ?_
  have hb := b.toNat_lt
  refine derefK_intro rfl ⟨⟨by omega, by omega⟩, S b.toNat, ?_, hQ⟩
  rw [Int.toNat_natCast, Nat.mul_one, Nat.zero_add]
  exact read_cell hi (setC_get _ (by omega))
/-- From the right: what is left ends in a sign that is not of the set. -/
theorem spec152 (hI : Closed' prog Pm I) {i : Nat} {S : Nat → Bool} {s : ByteArray} (hi : h i = some (.cells false (setC S))) (hl : s.size < 1000)
    (hQ : ∀ m, m ≤ s.size → (∀ j b, m ≤ j → (bl s)[j]? = some b → S b.toNat = true) → (∀ b, 0 < m → (bl s)[m - 1]? = some b → S b.toNat = false) → ∀ t, bl t = (bl s).take m → Q [str t] h) : I 152 [str s, .one (.ptr (some (i, 0)))] Q h := by
  refine hI.go _ _ (den152 I s _ Q) ?_
  refine loopK_intro (fun (a : ByteArray) h' m => h' = h ∧ m ≤ s.size ∧ bl a = (bl s).take m ∧ ∀ j b, m ≤ j → (bl s)[j]? = some b → S b.toNat = true) s.size ⟨rfl, by omega, by rw [bl_size, List.take_length], fun j b hj hb => by
    rw [List.getElem?_eq_none (by rw [← bl_size]; omega)] at hb; cases hb⟩ ?_
  rintro a h' m ⟨rfl, hm, ha, hall⟩
  have hsz : a.size = m := by rw [bl_size, ha, List.length_take, ← bl_size]; omega
  refine ifT_dec (fun hlt => ⟨⟨?_, ?_⟩, ?_⟩) (fun hge => ?_)
  · rw [w64] <;> omega
  · rw [w64] <;> omega
  · have hm1 : m - 1 < (bl s).length := by rw [← bl_size]; omega
    have hb := List.getElem?_eq_getElem hm1
    generalize (bl s)[m - 1] = b at hb
    have hb' : (bl a)[m - 1]? = some b := by rw [ha, List.getElem?_take_of_lt (by omega)]; exact hb
    have ew : IntKind.i64.wrap ((a.size : Int) - 1) = ((m - 1 : Nat) : Int) := by rw [w64] <;> omega
    rw [ew, byteAt_bl hb']
    refine spec157 hI hi ⟨_, rfl, ifT_intro (fun h1 => ?_) fun h1 => ⟨⟨by decide, by omega, by omega⟩, m - 1, by omega, rfl, by omega, ?_, fun j b' hj hb2 => ?_⟩⟩
    · exact hQ m hm hall (fun b2 _ hb2 => by rw [hb] at hb2; cases hb2; simpa using h1) a ha
    · rw [bl_extract, ha, Int.toNat_natCast, List.drop_zero, List.take_take]
      congr 1
      omega
    · rcases Nat.lt_or_ge j m with h2 | h2
      · have : j = m - 1 := by omega
        subst this
        rw [hb] at hb2
        cases hb2
        simpa using h1
      · exact hall j b' h2 hb2
  · have : m = 0 := by omega
    subst this
    exact hQ 0 hm hall (fun _ h => by omega) a ha
/-- From the left: nothing is left just where all signs are of the set. -/
theorem spec151 (hI : Closed' prog Pm I) {i : Nat} {S : Nat → Bool} {s : ByteArray} (hi : h i = some (.cells false (setC S))) (hl : s.size < 1000)
    (hQ : ∀ t, (bl t = [] ↔ ∀ b ∈ bl s, S b.toNat = true) → Q [str t] h) : I 151 [str s, .one (.ptr (some (i, 0)))] Q h := by
  refine hI.go _ _ (den151 I s _ Q) ?_
  refine loopK_intro (fun (a : ByteArray) h' m => h' = h ∧ a.size = m ∧ m < 1000 ∧ ((∀ b ∈ bl a, S b.toNat = true) ↔ ∀ b ∈ bl s, S b.toNat = true)) s.size ⟨rfl, rfl, hl, Iff.rfl⟩ ?_
  rintro a h' m ⟨rfl, hm, hm2, hall⟩
  refine ifT_dec (fun hlt => ⟨⟨by decide, by omega⟩, ?_⟩) (fun hge => ?_)
  · cases ha : bl a with
    | nil => rw [bl_size, ha] at hlt; simp at hlt
    | cons b l =>
      have hb : (bl a)[0]? = some b := by rw [ha]; rfl
      have e0 : byteAt a 0 = (b.toNat : Int) := byteAt_bl hb
      rw [e0]
      rw [ha] at hall
      refine spec157 hI hi ⟨_, rfl, ifT_intro (fun h1 => ?_) fun h1 => ⟨⟨by decide, by omega, by omega⟩, m - 1, by omega, rfl, ?_, by omega, ?_⟩⟩
      · have h1' : S b.toNat = false := by simpa using h1
        refine hQ a ⟨fun h => by (rw [ha] at h; cases h), fun h => ?_⟩
        have := hall.2 h b (by simp)
        rw [h1'] at this; cases this
      · rw [bl_size, bl_extract, ha]
        have : (b :: l).length = m := by rw [← ha, ← bl_size]; exact hm
        simp at this ⊢
        omega
      · rw [← hall, bl_extract, ha, Int.toNat_natCast]
        have hl' : (b :: l).length = a.size := by rw [← ha, ← bl_size]
        have e : ((b :: l).drop 1).take (a.size - 1) = l := by
          simp only [List.drop_succ_cons, List.drop_zero]
          exact List.take_of_length_le (by simp at hl'; omega)
        rw [e]
        have h1' : S b.toNat = true := by simpa using h1
        constructor
        · intro h2 b' hb'
          rcases List.mem_cons.1 hb' with rfl | hb'
          · exact h1'
          · exact h2 b' hb'
        · intro h2 b' hb'
          exact h2 b' (by simp [hb'])
  · have h0 : bl a = [] := List.length_eq_zero_iff.1 (by rw [← bl_size]; omega)
    rw [h0] at hall
    exact hQ a ⟨fun _ => hall.1 (by simp), fun _ => h0⟩
theorem spec132 (hI : Closed' prog Pm I) {s c : ByteArray} (hc : ∀ b ∈ bl c, b.toNat < 128) (hcl : c.size < 1000) (hc2 : 2 ≤ c.size) (hs : s.size < 1000) (hs0 : 0 < s.size)
    (hQ : ∀ h', Ext h h' → Q [boo ((bl s).all fun b => inC (bl c) b.toNat)] h') : I 132 [str s, str c] Q h := by
  refine hI.go _ _ (den132 I s c Q) ?_
  refine hI.go _ _ (den144 I s c _) ?_
  have hsn : s ≠ ⟨#[]⟩ := fun e => by rw [e] at hs0; exact absurd hs0 (by decide)
  have hcn : c ≠ ⟨#[]⟩ := fun e => by rw [e] at hc2; exact absurd hc2 (by decide)
  refine joinK_intro (fun (b : Bool) h' => h' = h ∧ b = false) ?_ fun j hj => ifT_dec (fun h => absurd h hsn) fun _ => hj _ _ ⟨rfl, by simpa using hcn⟩
  rintro _ h' ⟨rfl, rfl⟩
  refine ifT_intro (fun h => by cases h) fun _ => ?_
  refine joinK_intro (fun (b : Bool) h'' => h'' = h' ∧ b = false) ?_ fun j hj => ifT_dec (fun h => by omega) fun _ => hj _ _ ⟨rfl, rfl⟩
  rintro _ h'' ⟨rfl, rfl⟩
  refine ifT_intro (fun h => by cases h) fun _ => ?_
  refine spec150 hI hc hcl fun h3 x3 => exCells_in (setC_fits (inC (bl c))) ⟨true, rfl, newK_intro fun i4 h4 hn4 he4 => ?_⟩
  have x4 : Ext h3 h4 := he4 ▸ Ext.new hn4
  refine storeK_whole (cs := List.replicate 256 (.bool false)) (by rw [he4, set_eq]) (by rw [setC_length, List.length_replicate]) ?_
  rw [he4, set_set]
  have x5 : Ext h'' (h3.set i4 (.cells false (setC (inC (bl c))))) := x3.trans (Ext.new hn4)
  have hi := set_eq h3 i4 (.cells false (setC (inC (bl c))))
  refine ifT_intro (fun _ => ?_) fun h => by cases h
  refine spec152 hI hi hs fun m hm hm1 hm2 t ht => ⟨_, rfl, ?_⟩
  refine spec151 hI hi (by rw [bl_size, ht, List.length_take, ← bl_size]; omega) fun r hr => ⟨_, rfl, _, rfl, ?_⟩
  have e : decide (r = (⟨#[]⟩ : ByteArray)) = (bl s).all fun b => inC (bl c) b.toNat := by
    rw [Bool.eq_iff_iff, decide_eq_true_iff, List.all_eq_true, bl_nil, hr]
    constructor
    · intro h1 b hb
      obtain ⟨j, hj, rfl⟩ := List.getElem_of_mem hb
      rcases Nat.lt_or_ge j m with h2 | h2
      · refine h1 _ ?_
        rw [ht]
        exact List.mem_of_getElem? (by rw [List.getElem?_take_of_lt h2]; exact List.getElem?_eq_getElem hj)
      · exact hm1 j _ h2 (List.getElem?_eq_getElem hj)
    · intro h1 b hb
      rw [ht] at hb
      exact h1 b (List.mem_of_mem_take hb)
  show Q [boo (decide (r = (⟨#[]⟩ : ByteArray)))] _
  rw [e]
  exact hQ _ x5
def smallsS : ByteArray := ⟨#[97, 98, 99, 100, 101, 102, 103, 104, 105, 106, 107, 108, 109, 110, 111, 112, 113, 114, 115, 116, 117, 118, 119, 120, 121, 122]⟩
def keysS : ByteArray := ⟨#[97, 98, 99, 100, 101, 102, 103, 104, 105, 106, 107, 108, 109, 110, 111, 112, 113, 114, 115, 116, 117, 118, 119, 120, 121, 122, 48, 49, 50, 51, 52, 53, 54, 55, 56, 57, 45, 95]⟩
theorem smalls_in : ∀ n : Nat, n < 256 → inC (bl smallsS) n = smallB n.toUInt8 := by decide +kernel
theorem keys_in : ∀ n : Nat, n < 256 → inC (bl keysS) n = keyB n.toUInt8 := by decide +kernel
theorem spec54 (hI : Closed' prog Pm I) {s : ByteArray} (hQ : ∀ h', Ext h h' → Q [boo (isKey s)] h') : I 54 [str s] Q h := by
  refine hI.go _ _ (den54 I s Q) ?_
  refine hI.go _ _ (den107 I s _) ?_
  unfold isKey at hQ
  have hsz := bl_size s
  refine spec131 hI ⟨_, rfl, ifT_intro (fun hb => ?_) fun hb => ?_⟩
  · have hb' : 1 ≤ s.size ∧ s.size ≤ 40 := by simp at hb; omega
    cases hl : bl s with
    | nil =>
      rw [hl] at hsz
      have : s.size = 0 := hsz
      omega
    | cons b l =>
      rw [hl] at hQ
      have e1 : decide (l.length + 1 ≤ 40) = true := by rw [hl] at hsz; simp at hsz ⊢; omega
      simp only [isKeyL, e1, Bool.true_and] at hQ
      have eb : b.toNat.toUInt8 = b := by simp
      have hx : bl (s.extract 0 1) = [b] := by rw [bl_extract, hl]; rfl
      refine ⟨⟨by decide, by decide, by omega⟩, ?_⟩
      refine spec132 hI (c := smallsS) (by decide) (by decide) (by decide) (by rw [bl_size, hx]; simp) (by rw [bl_size, hx]; simp) fun h1 x1 => ⟨_, rfl, ?_⟩
      have e2 : ((bl (s.extract 0 1)).all fun b => inC (bl smallsS) b.toNat) = smallB b := by
        rw [hx]
        simp only [List.all_cons, List.all_nil, Bool.and_true]
        rw [smalls_in _ b.toNat_lt, eb]
      rw [e2]
      refine ifT_intro (fun h2 => ?_) fun h2 => ?_
      · refine spec132 hI (c := keysS) (by decide) (by decide) (by decide) (by omega) (by omega) fun h3 x3 => ⟨_, rfl, _, rfl, ?_⟩
        have e3 : ((bl s).all fun b => inC (bl keysS) b.toNat) = (b :: l).all keyB := by
          rw [← hl]
          congr 1
          funext x
          rw [keys_in _ x.toNat_lt]
          simp
        show Q [boo ((bl s).all fun b => inC (bl keysS) b.toNat)] _
        rw [e3]
        rw [h2] at hQ
        simpa using hQ _ (x1.trans x3)
      · rw [h2] at hQ
        exact ⟨_, rfl, by simpa using hQ _ x1⟩
  · have hb' : ¬ (1 ≤ s.size ∧ s.size ≤ 40) := fun h => by
      have : (decide ((1 : Int) ≤ (s.size : Int)) && decide ((s.size : Int) ≤ 40)) = true := by simp; omega
      rw [this] at hb; cases hb
    have e : isKeyL (bl s) = false := by
      cases hl : bl s with
      | nil => rfl
      | cons b l =>
        have : decide (l.length + 1 ≤ 40) = false := by rw [hl] at hsz; simp at hsz ⊢; omega
        simp only [isKeyL, this, Bool.false_and]
    rw [e] at hQ
    exact ⟨_, rfl, hQ _ (Ext.refl _)⟩
end
end Go.Proofs.YtfemminjhecocaaDoorVc
-- from SeSpec2
namespace Go.Proofs.YtfemminjhecocaaDoorVc
open Go.Proofs.Tryd (prog)
section
variable {I : Calls} {Q : Post} {h : Heap}
theorem spec11 (hI : Closed' prog Pm I) {n : Int} (hQ : Q [boo (decide (moment n))] h) : I 11 [int n] Q h := by
  refine hI.go _ _ (den11 I n Q) ?_
  refine ifT_dec (fun h1 => ?_) fun h1 => ?_
  · have e : decide (n < 4321440) = decide (moment n) := by rw [decide_eq_decide]; unfold moment; omega
    rw [e]; exact hQ
  · have e : decide (moment n) = false := by simp only [decide_eq_false_iff_not]; unfold moment; omega
    rw [e] at hQ; exact hQ
theorem nb {b : Bool} (h : (!b) = true) : b = false := by simpa using h
theorem nb' {b : Bool} (h : (!b) = false) : b = true := by simpa using h
theorem nd {p : Prop} [Decidable p] (h : (!decide p) = true) : ¬ p := by simpa using h
theorem nd' {p : Prop} [Decidable p] (h : (!decide p) = false) : ¬ ¬ p := by simpa using h
/-! ### the answer's -/
theorem any_take_step {α : Type} {l : List α} {p : α → Bool} {i : Nat} {b : α} (hb : l[i]? = some b) : (l.take (i + 1)).any p = ((l.take i).any p || p b) := by
  rw [List.take_add_one, hb]
  show (l.take i ++ [b]).any p = _
  rw [List.any_append]; simp
end
end Go.Proofs.YtfemminjhecocaaDoorVc
-- from SeSpec3
namespace Go.Proofs.YtfemminjhecocaaDoorVc
open Go.Proofs.Tryd (prog)
theorem take_snoc {α : Type} {l : List α} {k : Nat} {x : α} (h : l[k]? = some x) : l.take (k + 1) = l.take k ++ [x] := by rw [List.take_add_one, h]; rfl
section
variable {I : Calls} {Q : Post} {h : Heap}
end
end Go.Proofs.YtfemminjhecocaaDoorVc
-- from SeSpec4
namespace Go.Proofs.YtfemminjhecocaaDoorVc
open Go.Proofs.Tryd (prog)
theorem encode_size (n : Int) : (Utf8.encode n).size ≤ 4 := by
  unfold Utf8.encode
  simp only
  repeat' split
  all_goals first | exact (show (1 : Nat) ≤ 4 by decide) | exact (show (2 : Nat) ≤ 4 by decide) | exact (show (3 : Nat) ≤ 4 by decide) | exact (show (4 : Nat) ≤ 4 by decide)
section
variable {I : Calls} {Q : Post} {h : Heap}
theorem Owns.ne {h0 h : Heap} {p q : Ow} {l : List Ow} {i j : Nat} (o : Owns h0 h (p :: l)) (hq : q ∈ l) (hi : p.2.1.a = some (i, 0)) (hj : q.2.1.a = some (j, 0)) : i ≠ j := fun e => by
  subst e; exact (List.pairwise_cons.1 o.apart).1 q hq i hi hj
theorem lit_atC {h h0 : Heap} {i j n : Nat} {o : Obj} {cs : List Cell} (hne : j ≠ i) (he : h = h0.set j (.cells false cs)) (hn : n = cs.length) : At (h.set i o) 1 ⟨some (j, 0), n⟩ cs := by
  refine ⟨by simp [hn], .inr ?_⟩
  show (h.set i o).read j 0 (n * 1) = _
  unfold Heap.read
  rw [set_ne _ _ hne, he, set_eq]
  subst hn
  simp
theorem spec53 (hI : Closed' prog Pm I) {i : Nat} {l : Sl} {zs : List Int} {t : Nat} {s : Sl} {xs : List ByteArray} (S : Strm h i l zs t) (hs : At (h.set i (strm l (t + 1))) 1 s (strs xs)) (h1 : xs ≠ []) (h2 : xs.length < 1000)
    (hQ : ∀ v ∈ xs, Q [str v] (h.set i (strm l (t + 1)))) : I 53 [.one (.ptr (some (i, 0))), .one (.slice 1 s)] Q h := by
  have hl : s.len = xs.length := by simpa [strs] using hs.1
  have hpos := List.length_pos_iff.2 h1
  refine hI.go _ _ (den53 I (some (i, 0)) s Q) ?_
  refine spec16 hI S (by omega) (by omega) fun v h3 h4 => ⟨v, rfl, ⟨h3, h4⟩, hs.one h3 h4 fun b o c hc hr => ?_⟩
  simp only [strs, List.getElem?_map] at hc
  cases hz : xs[v.toNat]? with
  | none => rw [hz] at hc; cases hc
  | some z =>
    rw [hz] at hc
    cases hc
    exact ⟨z, hr, hQ z (List.mem_of_getElem? hz)⟩
section
variable {hb : Heap} {i : Nat} {l : Sl} {zs : List Int} {t0 : Nat}
/-- A new literal is not the stream's block. -/
theorem Owns.lit_ne {h : Heap} {t j : Nat} {L : List Ow} (o : Owns (hb.del i) h (owS i l t :: L)) (hn : h j = none) : j ≠ i := fun e => by
  subst e; rw [o.strmCell (l := l) (t := t) (by simp)] at hn; cases hn
end
end
end Go.Proofs.YtfemminjhecocaaDoorVc
-- from PuSpec1
namespace Go.Proofs.YtfemminjhecocaaDoorVc
open Go.Proofs.Tryd (prog)
open Go.Proofs.YtfemminjhecocaaDoorCodes
section
variable {I : Calls} {Q : Post} {h : Heap}
/-! ### codes -/
theorem spec59 (hI : Closed' prog Pm I) {n a b : Int} (hQ : Q [boo (decide (a ≤ n) && decide (n ≤ b))] h) : I 59 [int n, int a, int b] Q h := by
  refine hI.go _ _ (den59 I n a b Q) ?_
  refine ifT_dec (fun h1 => ?_) (fun h1 => ?_)
  · simpa [h1] using hQ
  · simpa [h1] using hQ
theorem spec145 (hI : Closed' prog Pm I) {s : ByteArray} {c : Int} (hQ : Q [int (firstIdx s c.toNat.toUInt8)] h) : I 145 [str s, .one (.int .u8 c)] Q h := by
  refine hI.go _ _ (den145 I s c Q) ?_
  exact hI.prim _ _ _ _ ⟨rfl, s, c, rfl, _, rfl, hQ⟩
theorem spec133 (hI : Closed' prog Pm I) {s : ByteArray} {c : Int} (hQ : Q [int (firstIdx s c.toNat.toUInt8)] h) : I 133 [str s, .one (.int .u8 c)] Q h := by
  refine hI.go _ _ (den133 I s c Q) ?_
  exact spec145 hI ⟨_, rfl, hQ⟩
/-- The number of a sign of a code. -/
theorem spec133_code (hI : Closed' prog Pm I) {ds : List Nat} (hds : ∀ d ∈ ds, d < 31) {i d : Nat} (hd : ds[i]? = some d) (hQ : Q [int (d : Int)] h) : I 133 [str signS, .one (.int .u8 (byteAt (code ds) (i : Int)))] Q h := by
  refine spec133 hI ?_
  rw [byteAt_code hd, idx_code (hds d (List.mem_of_getElem? hd))]
  exact hQ
theorem spec114 (hI : Closed' prog Pm I) {ds : List Nat} (hds : ∀ d ∈ ds, d < 31) (hl : ds.length < 1000) (hQ : Q [boo true] h) : I 114 [str (code ds)] Q h := by
  refine hI.go _ _ (den114 I (code ds) Q) ?_
  have hsz := code_size ds
  refine loopK_intro (fun a h' m => h' = h ∧ ∃ i : Nat, i ≤ ds.length ∧ a = i ∧ m = ds.length - i) ds.length ⟨rfl, 0, by omega, rfl, rfl⟩ ?_
  rintro a h' m ⟨rfl, i, hi, rfl, rfl⟩
  refine ifT_dec (fun hlt => ⟨⟨by omega, hlt⟩, ?_⟩) (fun hge => hQ)
  have hlt' : i < ds.length := by omega
  refine spec133_code hI hds (List.getElem?_eq_getElem hlt') ⟨_, rfl, ifT_dec (fun h1 => by omega) (fun h1 => ?_)⟩
  exact ⟨ds.length - (i + 1), by omega, rfl, i + 1, by omega, by rw [w64] <;> omega, rfl⟩
theorem spec134 (hI : Closed' prog Pm I) {ds : List Nat} (hds : ∀ d ∈ ds, d < 31) (hl : ds.length < 1000) (hQ : Q [int ((wsum ds % 31 : Nat) : Int)] h) : I 134 [str (code ds)] Q h := by
  refine hI.go _ _ (den134 I (code ds) Q) ?_
  have hsz := code_size ds
  refine loopK_intro (fun (a : Int × Int) h' m => h' = h ∧ ∃ i : Nat, i ≤ ds.length ∧ a = (((wsum (ds.take i) : Nat) : Int), (i : Int)) ∧ m = ds.length - i) ds.length ⟨rfl, 0, by omega, by simp [wsum], rfl⟩ ?_
  rintro a h' m ⟨rfl, i, hi, rfl, rfl⟩
  refine ifT_dec (fun hlt => ⟨⟨by omega, hlt⟩, ?_⟩) (fun hge => ?_)
  · have hlt' : i < ds.length := by omega
    have hd := List.getElem?_eq_getElem hlt'
    refine spec133_code hI hds hd ⟨_, rfl, ds.length - (i + 1), by omega, rfl, i + 1, by omega, ?_, rfl⟩
    have h1 := wsum_le ds hds i hi
    have h2 : i * i ≤ 1000 * 1000 := Nat.mul_le_mul (by omega) (by omega)
    have h3 := hds _ (List.getElem_mem hlt')
    have h4 : (i + 1) * ds[i] ≤ 1000 * 31 := Nat.mul_le_mul (by omega) (by omega)
    rw [wsum_take ds i _ hd]
    have e1 : IntKind.i64.wrap ((i : Int) + 1) = ((i + 1 : Nat) : Int) := by rw [w64] <;> omega
    rw [e1, ← Int.natCast_mul]
    generalize (i + 1) * ds[i] = z at *
    generalize wsum (ds.take i) = y at *
    rw [w64 (n := (z : Int)) (by omega) (by omega), w64 (by omega) (by omega)]
    rfl
  · have : i = ds.length := by omega
    subst this
    have e : ((wsum ds : Nat) : Int).tmod 31 = ((wsum ds % 31 : Nat) : Int) := by
      rw [Int.tmod_eq_emod_of_nonneg (by omega)]; omega
    simp only [List.take_length]
    rw [e]
    exact hQ
/-- A code gets the sign with which its sum is nothing. -/
theorem spec115 (hI : Closed' prog Pm I) {ds : List Nat} (hds : ∀ d ∈ ds, d < 31) (hl : ds.length < 25)
    (hQ : ∀ x, x < 31 → wsum (ds ++ [x]) % 31 = 0 → Q [str (code (ds ++ [x]))] h) : I 115 [str (code ds)] Q h := by
  refine hI.go _ _ (den115 I (code ds) Q) ?_
  have hsz := code_size ds
  refine loopK_intro (fun a h' m => h' = h ∧ ∃ i : Nat, i ≤ 31 ∧ a = i ∧ m = 31 - i ∧ ∀ x, x < i → wsum (ds ++ [x]) % 31 ≠ 0) 31 ⟨rfl, 0, by omega, rfl, rfl, fun x hx => by omega⟩ ?_
  rintro a h' m ⟨rfl, i, hi, rfl, rfl, hno⟩
  have e1 : IntKind.i64.wrap ((i : Int) + 1) = ((i + 1 : Nat) : Int) := by rw [w64] <;> omega
  refine ifT_dec (fun hlt => ?_) (fun hge => ?_)
  · have hlt' : i < 31 := by omega
    rw [e1]
    simp only [Int.toNat_natCast]
    rw [sign_one hlt', code_append]
    refine ⟨⟨by omega, by omega, by show ((i + 1 : Nat) : Int) ≤ ((31 : Nat) : Int); omega⟩, by rw [code_size, code_size]; simp; omega, ?_⟩
    have hds' : ∀ d ∈ ds ++ [i], d < 31 := fun d hd => by
      rcases List.mem_append.1 hd with hd | hd
      · exact hds d hd
      · have : d = i := by simpa using hd
        omega
    refine spec134 hI hds' (by simp; omega) ⟨_, rfl, ifT_dec (fun h0 => ?_) (fun h0 => ?_)⟩
    · exact hQ i hlt' (by omega)
    · refine ⟨31 - (i + 1), by omega, rfl, i + 1, by omega, rfl, rfl, fun x hx => ?_⟩
      rcases Nat.lt_or_ge x i with hx' | hx'
      · exact hno x hx'
      · have : x = i := by omega
        subst this
        intro h; exact h0 (by rw [h]; rfl)
  · exfalso
    obtain ⟨x, hx, he⟩ := seal_exists ds.length hl (wsum ds % 31) (Nat.mod_lt _ (by decide))
    refine hno x (by omega) ?_
    rw [wsum_snoc]
    generalize (ds.length + 1) * x = p at *
    omega
theorem spec63 (hI : Closed' prog Pm I) {ds : List Nat} (hds : ∀ d ∈ ds, d < 31) (h1 : 3 ≤ ds.length) (h2 : ds.length ≤ 23)
    (hQ : ∀ x, x < 31 → wsum (ds ++ [x]) % 31 = 0 → Q [str (code (ds ++ [x])), int 0] h) : I 63 [str (code ds)] Q h := by
  refine hI.go _ _ (den63 I (code ds) Q) ?_
  refine spec59 hI ⟨_, rfl, ?_⟩
  rw [code_size]
  have hb : (decide ((3 : Int) ≤ (ds.length : Int)) && decide ((ds.length : Int) ≤ 23)) = true := by simp; omega
  rw [hb]
  refine ifT_intro (fun h => by cases h) fun _ => ?_
  refine spec114 hI hds (by omega) ⟨true, rfl, ifT_intro (fun h => by cases h) fun _ => ?_⟩
  exact spec115 hI hds (by omega) fun x h3 h4 => ⟨_, rfl, hQ x h3 h4⟩
/-! ### moments -/
theorem spec60 (hI : Closed' prog Pm I) {n : Int} (hQ : Q [boo (decide (momentP n))] h) : I 60 [int n] Q h := by
  refine hI.go _ _ (den60 I n Q) ?_
  refine spec59 hI ⟨_, rfl, ?_⟩
  have e : (decide ((0 : Int) ≤ n) && decide (n ≤ 4321439)) = decide (momentP n) := by simp [momentP]
  rw [← e] at hQ
  exact hQ
/-! ### the budgets before, looked through -/
theorem spec108 (hI : Closed' prog Pm I) {s : Sl} {ys : List Bud} {g : FuncId} {i : Nat} {p : Bud → Bool} (hs : At h 5 s (rows budC ys)) (hlen : ys.length < 1000)
    (hg : ∀ y Q', Q' [boo (p y)] h → I g [.agg (budC y), .one (.ptr (some (i, 0)))] Q' h)
    (hn : (∀ y ∈ ys, p y = false) → Q [int (-1)] h) (hy : ∀ (j : Nat) y, ys[j]? = some y → p y = true → (∀ z ∈ ys.take j, p z = false) → Q [int j] h) : I 108 [.one (.slice 5 s), .one (.func (some (g, [(i, 0)])))] Q h := by
  have hl : s.len = ys.length := hs.rowsLen budC_length (by decide)
  refine hI.go _ _ (den108 I s _ _) ?_
  refine loopK_intro (fun (a : Int) h' m => h' = h ∧ ∃ j : Nat, j ≤ ys.length ∧ a = j ∧ ys.length - j = m ∧ ∀ z ∈ ys.take j, p z = false) ys.length ⟨rfl, 0, by omega, rfl, rfl, by simp⟩ ?_
  rintro a h' m ⟨rfl, j, hj, rfl, rfl, hno⟩
  refine ifT_dec (fun hlt => ⟨⟨by omega, hlt⟩, ?_⟩) (fun hge => ?_)
  · have hx := List.getElem?_eq_getElem (show j < ys.length by omega)
    generalize ys[j] = y at hx
    refine hs.row budC_length (by decide) hx fun bb o hr => ⟨y.key, y.cents, y.first, y.last, y.pace, hr, ?_⟩
    refine hg y _ ⟨_, rfl, ifT_intro (fun h1 => hy j y hx h1 hno) fun h1 => ?_⟩
    refine ⟨ys.length - (j + 1), by omega, rfl, j + 1, by omega, by rw [w64] <;> omega, rfl, fun z hz => ?_⟩
    rw [List.take_add_one, hx] at hz
    rcases List.mem_append.1 hz with hz | hz
    · exact hno z hz
    · have : z = y := by simpa using hz
      rw [this]; exact h1
  · have : j = ys.length := by omega
    subst this
    rw [List.take_length] at hno
    exact hn hno
theorem spec55 (hI : Closed' prog Pm I) {s : Sl} {ys : List Bud} {g : FuncId} {i : Nat} {p : Bud → Bool} (hs : At h 5 s (rows budC ys)) (hlen : ys.length < 1000)
    (hg : ∀ y Q', Q' [boo (p y)] h → I g [.agg (budC y), .one (.ptr (some (i, 0)))] Q' h) (hQ : Q [boo (ys.any p)] h) : I 55 [.one (.slice 5 s), .one (.func (some (g, [(i, 0)])))] Q h := by
  refine hI.go _ _ (den55 I s _ _) ?_
  refine spec108 hI hs hlen hg (fun hn => ⟨_, rfl, ?_⟩) fun j y hx h1 _ => ⟨_, rfl, ?_⟩
  · have e : ys.any p = false := by
      cases h2 : ys.any p with
      | false => rfl
      | true => obtain ⟨y, hy, h3⟩ := List.any_eq_true.1 h2; rw [hn y hy] at h3; cases h3
    rw [e] at hQ; exact hQ
  · have e : ys.any p = true := List.any_eq_true.2 ⟨y, List.mem_of_getElem? hx, h1⟩
    have e2 : decide ((j : Int) ≥ 0) = true := by simp
    rw [e] at hQ; rw [e2]; exact hQ
theorem spec58 (hI : Closed' prog Pm I) {i : Nat} {x y : Bud} (hi : h i = some (.cells false (budC x))) (hQ : Q [boo (decide (y.key = x.key))] h) : I 58 [.agg (budC y), .one (.ptr (some (i, 0)))] Q h := by
  refine hI.go _ _ (den58 I y.key y.cents y.first y.last y.pace i 0 Q) ?_
  exact ⟨x.key, read_cell hi rfl, hQ⟩
theorem spec56 (hI : Closed' prog Pm I) {i : Nat} {x y : Bud} (hi : h i = some (.cells false (budC x))) (hQ : Q [boo (decide (y.key = x.key))] h) : I 56 [.agg (budC y), .one (.ptr (some (i, 0)))] Q h := by
  refine hI.go _ _ (den56 I y.key y.cents y.first y.last y.pace i 0 Q) ?_
  exact ⟨x.key, read_cell hi rfl, hQ⟩
theorem spec116 (hI : Closed' prog Pm I) {i : Nat} {k : ByteArray} {y : Bud} (hi : h i = some (.cells false [.str k])) (hQ : Q [boo (decide (y.key = k))] h) : I 116 [.agg (budC y), .one (.ptr (some (i, 0)))] Q h := by
  refine hI.go _ _ (den116 I y.key y.cents y.first y.last y.pace i 0 Q) ?_
  exact ⟨k, read_cell hi rfl, hQ⟩
/-! ### what is wrong with budgets -/
theorem spec8 (hI : Closed' prog Pm I) {s : Sl} {xs : List Bud} (hs : At h 5 s (rows budC xs)) (hlen : xs.length ≤ 50) (hQ : ∀ h', Ext h h' → Q [int (errB xs)] h') : I 8 [.one (.slice 5 s)] Q h := by
  have hl : s.len = xs.length := hs.rowsLen budC_length (by decide)
  refine hI.go _ _ (den8 I s Q) ?_
  unfold vc8
  rw [hl]
  refine ifT_dec (fun h => by omega) fun _ => ?_
  refine loopK_intro (fun (a : Int) h' m => Ext h h' ∧ ∃ i : Nat, i ≤ xs.length ∧ a = i ∧ xs.length - i = m ∧ errB xs = scanB (xs.take i) (xs.drop i)) xs.length
    ⟨Ext.refl _, 0, by omega, rfl, rfl, rfl⟩ ?_
  rintro a h' m ⟨x', i, hi, rfl, rfl, hsc⟩
  refine ifT_dec (fun hlt => ⟨⟨by omega, by omega⟩, ?_⟩) (fun hge => ?_)
  · have hx := List.getElem?_eq_getElem (show i < xs.length by omega)
    generalize xs[i] = x at hx
    rw [scanB_step hx] at hsc
    refine (x'.at_ hs).row budC_length (by decide) hx fun bb o hr => ⟨x.key, x.cents, x.first, x.last, x.pace, hr, ?_⟩
    refine newK_intro fun i11 h2 hn2 he2 => ?_
    refine storeK_whole (cs := [.str .empty, .int .i64 0, .int .i64 0, .int .i64 0, .bool false]) (by rw [he2, set_eq]) rfl ?_
    rw [he2, set_set]
    have x2 : Ext h (h'.set i11 (.cells false (budC x))) := x'.trans (Ext.new hn2)
    have hc := set_eq h' i11 (.cells false (budC x))
    obtain ⟨g, hg⟩ : ∃ g, g = h'.set i11 (.cells false (budC x)) := ⟨_, rfl⟩
    rw [← hg] at x2 hc
    rw [show h'.set i11 (.cells false [.str x.key, .int .i64 x.cents, .int .i64 x.first, .int .i64 x.last, .bool x.pace]) = g from hg.symm]
    have bad : ∀ e, errB xs = e → Q [int e] g := fun e he => by rw [← he]; exact hQ _ x2
    refine ⟨x.key, read_cell hc rfl, spec57 hI ⟨_, rfl, ifT_intro (fun h1 => bad 5 (by rw [hsc, if_pos (nb h1)])) fun h1 => ?_⟩⟩
    rw [if_neg (by rw [nb' h1]; simp)] at hsc
    have hsub : At g 5 (s.sub 5 0 i) (rows budC (xs.take i)) := by
      have := At.sub (x2.at_ hs) 0 i (by omega) (by omega)
      rw [Nat.zero_mul, List.drop_zero, Nat.sub_zero, rows_take budC_length] at this
      exact this
    refine ⟨⟨by decide, by omega, by omega⟩, ?_⟩
    rw [Int.toNat_natCast]
    refine spec55 hI (p := fun y => decide (y.key = x.key)) hsub (by rw [List.length_take]; omega) (fun y Q' hq => spec58 hI hc hq) ⟨_, rfl, ifT_intro (fun h2 => bad 6 (by rw [hsc, if_pos h2])) fun h2 => ?_⟩
    rw [if_neg (by rw [h2]; simp)] at hsc
    refine ⟨x.cents, read_cell hc rfl, spec59 hI ⟨_, rfl, ifT_intro (fun h3 => bad 1 (by rw [hsc, if_pos]; simp at h3; unfold okB; omega)) fun h3 => ?_⟩⟩
    refine ⟨x.first, read_cell hc rfl, ifT_dec (fun h4 => bad 1 (by rw [hsc, if_pos]; unfold okB; omega)) fun h4 => ⟨x.first, read_cell hc rfl, x.last, read_cell hc rfl, ifT_dec (fun h5 => bad 1 (by rw [hsc, if_pos]; unfold okB; omega)) fun h5 => ⟨x.last, read_cell hc rfl, ifT_dec (fun h6 => bad 1 (by rw [hsc, if_pos]; unfold okB; omega)) fun h6 => ?_⟩⟩⟩
    rw [if_neg (by simp at h3; unfold okB; omega)] at hsc
    exact ⟨xs.length - (i + 1), by omega, x2, i + 1, by omega, by rw [w64] <;> omega, rfl, hsc⟩
  · have : i = xs.length := by omega
    subst this
    rw [List.drop_length] at hsc
    have e : errB xs = 0 := by rw [hsc]; rfl
    rw [← e]
    exact hQ _ x'
theorem spec7 (hI : Closed' prog Pm I) {s : Sl} {xs : List Bud} (hs : At h 5 s (rows budC xs)) (hlen : xs.length ≤ 50) (hQ : ∀ h', Ext h h' → Q [int (errB xs)] h') : I 7 [.one (.slice 5 s)] Q h := by
  have hl : s.len = xs.length := hs.rowsLen budC_length (by decide)
  refine hI.go _ _ (den7 I s Q) ?_
  unfold vc7
  rw [hl]
  refine ifT_dec (fun h => by omega) fun _ => ?_
  refine loopK_intro (fun (a : Int) h' m => Ext h h' ∧ ∃ i : Nat, i ≤ xs.length ∧ a = i ∧ xs.length - i = m ∧ errB xs = scanB (xs.take i) (xs.drop i)) xs.length
    ⟨Ext.refl _, 0, by omega, rfl, rfl, rfl⟩ ?_
  rintro a h' m ⟨x', i, hi, rfl, rfl, hsc⟩
  refine ifT_dec (fun hlt => ⟨⟨by omega, by omega⟩, ?_⟩) (fun hge => ?_)
  · have hx := List.getElem?_eq_getElem (show i < xs.length by omega)
    generalize xs[i] = x at hx
    rw [scanB_step hx] at hsc
    refine (x'.at_ hs).row budC_length (by decide) hx fun bb o hr => ⟨x.key, x.cents, x.first, x.last, x.pace, hr, ?_⟩
    refine newK_intro fun i11 h2 hn2 he2 => ?_
    refine storeK_whole (cs := [.str .empty, .int .i64 0, .int .i64 0, .int .i64 0, .bool false]) (by rw [he2, set_eq]) rfl ?_
    rw [he2, set_set]
    have x2 : Ext h (h'.set i11 (.cells false (budC x))) := x'.trans (Ext.new hn2)
    have hc := set_eq h' i11 (.cells false (budC x))
    obtain ⟨g, hg⟩ : ∃ g, g = h'.set i11 (.cells false (budC x)) := ⟨_, rfl⟩
    rw [← hg] at x2 hc
    rw [show h'.set i11 (.cells false [.str x.key, .int .i64 x.cents, .int .i64 x.first, .int .i64 x.last, .bool x.pace]) = g from hg.symm]
    have bad : ∀ e (g' : Heap), Ext h g' → errB xs = e → Q [int e] g' := fun e g' hg he => by rw [← he]; exact hQ _ hg
    refine ⟨x.key, read_cell hc rfl, spec54 hI fun g1 x1 => ⟨_, rfl, ifT_intro (fun h1 => bad 5 _ (x2.trans x1) (by rw [hsc, if_pos (nb h1)])) fun h1 => ?_⟩⟩
    rw [if_neg (by rw [nb' h1]; simp)] at hsc
    have xx := x2.trans x1
    have hc1 := x1 _ _ hc
    have hsub : At g1 5 (s.sub 5 0 i) (rows budC (xs.take i)) := by
      have := At.sub (xx.at_ hs) 0 i (by omega) (by omega)
      rw [Nat.zero_mul, List.drop_zero, Nat.sub_zero, rows_take budC_length] at this
      exact this
    refine ⟨⟨by decide, by omega, by omega⟩, ?_⟩
    rw [Int.toNat_natCast]
    refine spec55 hI (p := fun y => decide (y.key = x.key)) hsub (by rw [List.length_take]; omega) (fun y Q' hq => spec56 hI hc1 hq) ⟨_, rfl, ifT_intro (fun h2 => bad 6 _ xx (by rw [hsc, if_pos h2])) fun h2 => ?_⟩
    rw [if_neg (by rw [h2]; simp)] at hsc
    refine ⟨x.cents, read_cell hc1 rfl, ifT_dec (fun h3 => bad 1 _ xx (by rw [hsc, if_pos]; unfold okB; omega)) fun h3 => ⟨x.cents, read_cell hc1 rfl, ifT_dec (fun h3' => bad 1 _ xx (by rw [hsc, if_pos]; unfold okB; omega)) fun h3' => ?_⟩⟩
    refine ⟨x.first, read_cell hc1 rfl, ifT_dec (fun h4 => bad 1 _ xx (by rw [hsc, if_pos]; unfold okB; omega)) fun h4 => ⟨x.first, read_cell hc1 rfl, x.last, read_cell hc1 rfl, ifT_dec (fun h5 => bad 1 _ xx (by rw [hsc, if_pos]; unfold okB; omega)) fun h5 => ⟨x.last, read_cell hc1 rfl, ifT_dec (fun h6 => bad 1 _ xx (by rw [hsc, if_pos]; unfold okB; omega)) fun h6 => ?_⟩⟩⟩
    rw [if_neg (by unfold okB; omega)] at hsc
    exact ⟨xs.length - (i + 1), by omega, xx, i + 1, by omega, by rw [w64] <;> omega, rfl, hsc⟩
  · have : i = xs.length := by omega
    subst this
    rw [List.drop_length] at hsc
    have e : errB xs = 0 := by rw [hsc]; rfl
    rw [← e]
    exact hQ _ x'
/-! ### plain ones of a purse -/
theorem spec74 (hI : Closed' prog Pm I) {x : Hld} {t : Int} (hQ : Q [int (stateAt x t)] h) : I 74 [.agg (hldC x), int t] Q h := by
  refine hI.go _ _ (den74 I x.no x.key x.cents x.at_ x.until_ x.state t Q) ?_
  unfold stateAt at hQ
  refine ifT_dec (fun h1 => ifT_dec (fun h2 => ?_) fun h2 => ?_) fun h1 => ?_
  · rw [if_pos h1, if_pos h2] at hQ; exact hQ
  · rw [if_pos h1, if_neg h2] at hQ; exact hQ
  · rw [if_neg h1] at hQ; exact hQ
theorem spec61 (hI : Closed' prog Pm I) {b : Bud} {t : Int} (hb : okB b) (ht : momentP t) (hQ : Q [int (paced b t)] h) : I 61 [.agg (budC b), int t] Q h := by
  refine hI.go _ _ (den61 I b.key b.cents b.first b.last b.pace t Q) ?_
  have hp := paced_le (t := t) hb
  obtain ⟨h1, h2, h3, h4, h5⟩ := hb
  obtain ⟨h6, h7⟩ := ht
  have hd : 0 ≤ t.tdiv 1440 ∧ t.tdiv 1440 ≤ 3001 := by
    rw [Int.tdiv_eq_ediv_of_nonneg h6]; omega
  have ew : IntKind.i64.wrap (t.tdiv 1440) = t.tdiv 1440 := w64 (by omega) (by omega)
  unfold vc61
  rw [ew]
  unfold paced at hQ hp
  generalize t.tdiv 1440 = d at *
  refine ifT_dec (fun h8 => ?_) fun h8 => ?_
  · rw [if_pos h8] at hQ; exact hQ
  rw [if_neg h8] at hQ hp
  have fin : ∀ x : Bool, (x = true ↔ (d ≥ b.last ∨ b.pace = false)) → ifT x (Q [int b.cents]) (fun h7 => (IntKind.i64.wrap (IntKind.i64.wrap (b.last - b.first) + 1) ≠ 0) ∧ Q [int (IntKind.i64.wrap ((IntKind.i64.wrap (b.cents * IntKind.i64.wrap (IntKind.i64.wrap (d - b.first) + 1))).tdiv (IntKind.i64.wrap (IntKind.i64.wrap (b.last - b.first) + 1))))] h7) h := fun x hx => by
    refine ifT_intro (fun h9 => ?_) fun h9 => ?_
    · rw [if_pos (hx.1 h9)] at hQ; exact hQ
    · have hn : ¬ (d ≥ b.last ∨ b.pace = false) := fun h => by rw [hx.2 h] at h9; cases h9
      rw [if_neg hn] at hQ hp
      have h10 : d < b.last := by
        rcases Int.lt_or_le d b.last with h | h
        · exact h
        · exact absurd (.inl h) hn
      have e1 : IntKind.i64.wrap (IntKind.i64.wrap (b.last - b.first) + 1) = b.last - b.first + 1 := by rw [w64 (n := b.last - b.first) (by omega) (by omega), w64 (by omega) (by omega)]
      have e2 : IntKind.i64.wrap (IntKind.i64.wrap (d - b.first) + 1) = d - b.first + 1 := by rw [w64 (n := d - b.first) (by omega) (by omega), w64 (by omega) (by omega)]
      rw [e1, e2]
      have hm0 : 0 ≤ b.cents * (d - b.first + 1) := Int.mul_nonneg h1 (by omega)
      have hm1 : b.cents * (d - b.first + 1) ≤ 1000000000000 * 3001 := Int.mul_le_mul h2 (by omega) (by omega) (by decide)
      rw [w64 (n := b.cents * (d - b.first + 1)) (by omega) (by omega)]
      rw [w64 (by omega) (by omega)]
      exact ⟨by omega, hQ⟩
  refine joinK_intro (fun (x : Bool) h' => h' = h ∧ (x = true ↔ (d ≥ b.last ∨ b.pace = false))) (fun x h' ⟨hh, hx⟩ => by subst hh; exact fin x hx) fun j hj => ifT_dec (fun h9 => hj _ _ ⟨rfl, by simp [h9]⟩) fun h9 => hj _ _ ⟨rfl, by simp; omega⟩
theorem spec66 (hI : Closed' prog Pm I) {p : Nat} {sb sh : Sl} {now : Int} {hs : List Hld} {key : ByteArray} {t : Int} (hp : h p = some (.cells false [.slice 5 sb, .slice 6 sh, .int .i64 now])) (ha : At h 6 sh (rows hldC hs)) (hk : ∀ x ∈ hs, okH x) (hlen : hs.length ≤ 2000)
    (hQ : Q [int (taken key t hs)] h) : I 66 [.one (.ptr (some (p, 0))), str key, int t] Q h := by
  have hl : sh.len = hs.length := ha.rowsLen hldC_length (by decide)
  refine hI.go _ _ (den66 I _ key t Q) ?_
  refine derefK_intro rfl ⟨sh, read_cell hp rfl, ?_⟩
  refine loopK_intro (fun (a : Int × Int) h' m => h' = h ∧ ∃ i : Nat, i ≤ hs.length ∧ a = (taken key t (hs.take i), (i : Int)) ∧ hs.length - i = m) hs.length ⟨rfl, 0, by omega, rfl, rfl⟩ ?_
  rintro a h' m ⟨rfl, i, hi, rfl, rfl⟩
  dsimp only [uncur]
  refine ifT_dec (fun hlt => ⟨⟨by omega, hlt⟩, ?_⟩) (fun hge => ?_)
  · have hx := List.getElem?_eq_getElem (show i < hs.length by omega)
    have hxm : hs[i] ∈ hs := List.getElem_mem _
    generalize hs[i] = x at hx hxm
    have hst := taken_step (key := key) (t := t) hx
    have hb := taken_bound (key := key) (t := t) (xs := hs.take i) fun y hy => hk y (List.mem_of_mem_take hy)
    rw [List.length_take] at hb
    obtain ⟨hx1, hx2⟩ := hk x hxm
    have ew : IntKind.i64.wrap ((i : Int) + 1) = ((i + 1 : Nat) : Int) := by rw [w64] <;> omega
    have hmin : min i hs.length = i := by omega
    rw [hmin] at hb
    have es : IntKind.i64.wrap (taken key t (hs.take i) + x.cents) = taken key t (hs.take i) + x.cents := by rw [w64] <;> omega
    have go : ∀ v : Int, v = taken key t (hs.take (i + 1)) → ∃ m', m' < hs.length - i ∧ h' = h' ∧ ∃ j : Nat, j ≤ hs.length ∧ (v, IntKind.i64.wrap ((i : Int) + 1)) = (taken key t (hs.take j), (j : Int)) ∧ hs.length - j = m' := fun v hv => ⟨hs.length - (i + 1), by omega, rfl, i + 1, by omega, by rw [hv, ew], rfl⟩
    unfold one at hst
    refine ha.row hldC_length (by decide) hx fun bb o hr => ⟨x.no, x.key, x.cents, x.at_, x.until_, x.state, hr, spec74 hI ⟨_, rfl, ifT_dec (fun h1 => ifT_dec (fun h2 => ?_) fun h2 => ifT_dec (fun h3 => ?_) fun h3 => ?_) fun h1 => ?_⟩⟩
    · rw [if_pos h1, if_pos h2] at hst; rw [es]; exact go _ hst.symm
    · rw [if_pos h1, if_neg h2, if_pos h3] at hst; rw [es]; exact go _ hst.symm
    · rw [if_pos h1, if_neg h2, if_neg h3] at hst; exact go _ (by omega)
    · rw [if_neg h1] at hst; exact go _ (by omega)
  · have : i = hs.length := by omega
    subst this
    rw [List.take_length]
    exact hQ
/-- The budget of a key. -/
theorem spec65 (hI : Closed' prog Pm I) {p : Nat} {sb sh : Sl} {now : Int} {bs : List Bud} {key : ByteArray} (hp : h p = some (.cells false [.slice 5 sb, .slice 6 sh, .int .i64 now])) (ha : At h 5 sb (rows budC bs)) (hlen : bs.length < 1000)
    (hn : ∀ h', Ext h h' → findB bs key = none → Q [.agg (budC ⟨.empty, 0, 0, 0, false⟩), boo false] h') (hy : ∀ b h', Ext h h' → findB bs key = some b → Q [.agg (budC b), boo true] h') : I 65 [.one (.ptr (some (p, 0))), str key] Q h := by
  have hl : sb.len = bs.length := ha.rowsLen budC_length (by decide)
  refine hI.go _ _ (den65 I _ key Q) ?_
  refine newK_intro fun i2 h2 hn2 he2 => ?_
  have x2 : Ext h h2 := he2 ▸ Ext.new hn2
  have hp2 := x2 _ _ hp
  have ha2 := x2.at_ ha
  have hc : h2 i2 = some (.cells false [.str key]) := by rw [he2, set_eq]
  refine derefK_intro rfl ⟨sb, read_cell hp2 rfl, ?_⟩
  refine spec108 hI (p := fun y => decide (y.key = key)) ha2 hlen (fun y Q' hq => spec116 hI hc hq) (fun h3 => ⟨_, rfl, ifT_dec (fun _ => hn _ x2 ?_) fun h => by omega⟩) fun j y hx h3 h4 => ⟨_, rfl, ifT_dec (fun h => by omega) fun _ => ?_⟩
  · unfold findB; rw [List.find?_eq_none]
    intro y hy
    have := h3 y hy
    simpa using this
  · have hj : j < bs.length := (List.getElem?_eq_some_iff.1 hx).1
    have hf : findB bs key = some y := by
      unfold findB
      have e : bs = bs.take j ++ y :: bs.drop (j + 1) := by
        obtain ⟨hi, rfl⟩ := List.getElem?_eq_some_iff.1 hx
        rw [← List.drop_eq_getElem_cons hi, List.take_append_drop]
      rw [e, List.find?_append]
      have e2 : (bs.take j).find? (fun b => decide (b.key = key)) = none := by
        rw [List.find?_eq_none]; intro z hz; have := h4 z hz; simpa using this
      rw [e2, Option.none_or, List.find?_cons, h3]
    refine derefK_intro rfl ⟨sb, read_cell hp2 rfl, ⟨by omega, by omega⟩, ha2.row budC_length (by decide) hx fun bb o hr => ⟨y.key, y.cents, y.first, y.last, y.pace, hr, hy y _ x2 hf⟩⟩
theorem spec26 (hI : Closed' prog Pm I) {p : Nat} {sb sh : Sl} {now : Int} {bs : List Bud} {hs : List Hld} {key : ByteArray} {t : Int} (hp : h p = some (.cells false [.slice 5 sb, .slice 6 sh, .int .i64 now])) (ha : At h 5 sb (rows budC bs)) (hah : At h 6 sh (rows hldC hs)) (hlen : bs.length < 1000)
    (hob : ∀ b ∈ bs, okB b) (hk : ∀ x ∈ hs, okH x) (hlen2 : hs.length ≤ 2000) (hQ : ∀ h', Ext h h' → Q [int (leftF bs hs now key t).1, int (leftF bs hs now key t).2] h') : I 26 [.one (.ptr (some (p, 0))), str key, int t] Q h := by
  refine hI.go _ _ (den26 I _ key t Q) ?_
  refine spec65 hI hp ha hlen (fun h' x' hf => ⟨_, _, _, _, _, _, rfl, ifT_intro (fun _ => ?_) fun h => by cases h⟩) fun b h' x' hf => ⟨_, _, _, _, _, _, rfl, ifT_intro (fun h => by cases h) fun _ => ?_⟩
  · have := hQ h' x'
    unfold leftF at this; rw [hf] at this; exact this
  · have hq := hQ h' x'
    unfold leftF at hq; rw [hf] at hq
    simp only at hq
    refine spec60 hI ⟨_, rfl, ifT_intro (fun h1 => ?_) fun h1 => ?_⟩
    · rw [if_pos (nd h1)] at hq; exact hq
    rw [if_neg (nd' h1)] at hq
    have hp' := x' _ _ hp
    refine derefK_intro rfl ⟨now, read_cell hp' rfl, ifT_dec (fun h2 => ?_) fun h2 => ?_⟩
    · rw [if_pos h2] at hq; exact hq
    rw [if_neg h2] at hq
    have hb := hob b (findB_mem hf).1
    refine spec61 hI hb (Decidable.of_not_not (nd' h1)) ⟨_, rfl, spec66 hI hp' (x'.at_ hah) hk hlen2 ⟨_, rfl, ?_⟩⟩
    have h3 := paced_le (t := t) hb
    have h4 := taken_bound (key := key) (t := t) hk
    obtain ⟨_, h5, _⟩ := hb
    rw [w64 (by omega) (by omega)]
    exact hq
end
end Go.Proofs.YtfemminjhecocaaDoorVc
-- from PuSpec2
namespace Go.Proofs.YtfemminjhecocaaDoorVc
open Go.Proofs.Tryd (prog)
theorem Owns.slg {h0 h' : Heap} {L : List Ow} {sz : Nat} {s : Sl} {cs : List Cell} (o : Owns h0 h' L) (hm : (sz, s, cs) ∈ L) : h'.sl sz s = some cs := by
  obtain ⟨h1, h2 | ⟨k, h2, _, h3⟩⟩ := o.all _ hm
  · simp only at h2; unfold Heap.sl; rw [h2.1, h2.2]
  · simp only at h1 h2 h3
    unfold Heap.sl
    rw [h2]
    show h'.read k 0 (s.len * sz) = _
    rw [read_block h3 (by omega), h1, List.drop_zero, List.take_length]
theorem Owns.rot {h0 h : Heap} {a b c : Ow} {L : List Ow} (o : Owns h0 h (a :: b :: c :: L)) : Owns h0 h (b :: c :: a :: L) := o.perm ((List.Perm.swap b a _).trans ((List.Perm.swap c a L).cons b))
theorem Owns.rot' {h0 h : Heap} {a b c : Ow} {L : List Ow} (o : Owns h0 h (b :: c :: a :: L)) : Owns h0 h (a :: b :: c :: L) := o.perm (((List.Perm.swap a c L).cons b).trans (List.Perm.swap a b _))
theorem Owns.swp {h0 h : Heap} {a b : Ow} {L : List Ow} (o : Owns h0 h (a :: b :: L)) : Owns h0 h (b :: a :: L) := o.perm (List.Perm.swap _ _ _)
theorem mapSet_get {α : Type} {f : α → α} {xs : List α} {i : Nat} {x : α} (hx : xs[i]? = some x) : ((xs.take i).map f ++ xs.drop i)[i]? = some x := by
  obtain ⟨hi, rfl⟩ := List.getElem?_eq_some_iff.1 hx
  have hl : ((xs.take i).map f).length = i := by simp; omega
  rw [List.getElem?_append_right (by omega), hl, Nat.sub_self, List.drop_eq_getElem_cons hi]; rfl
theorem mapSet_step {α : Type} {f : α → α} {xs : List α} {i : Nat} {x : α} (hx : xs[i]? = some x) : ((xs.take i).map f ++ xs.drop i).set i (f x) = (xs.take (i + 1)).map f ++ xs.drop (i + 1) := by
  have h2 : xs.take (i + 1) = xs.take i ++ [x] := by rw [List.take_add_one, hx]; rfl
  obtain ⟨hi, rfl⟩ := List.getElem?_eq_some_iff.1 hx
  have hl : ((xs.take i).map f).length = i := by simp; omega
  rw [List.set_append, if_neg (by omega), hl, Nat.sub_self, List.drop_eq_getElem_cons hi, List.set_cons_zero, h2]
  simp only [List.map_append, List.map_cons, List.map_nil, List.append_assoc, List.cons_append, List.nil_append]
section
variable {I : Calls} {Q : Post} {h h0 : Heap}
theorem spec62 (hI : Closed' prog Pm I) {s : Sl} {xs : List Bud} {L : List Ow} (o : Owns h0 h L) (hm : (5, s, rows budC xs) ∈ L) (hlen : xs.length < 10000) (hQ : ∀ s' h', Owns h0 h' ((5, s', rows budC xs) :: L) → Q [.one (.slice 5 s')] h') : I 62 [.one (.slice 5 s)] Q h := by
  refine hI.go _ _ (den62 I s Q) ?_
  have hsl := o.slg hm
  have hl := (o.at_ hm).rowsLen budC_length (by decide)
  refine ifT_intro (fun h1 => ?_) fun h1 => ⟨_, hsl, by omega, newK_intro fun i3 h4 hn4 he4 => ?_⟩
  · have ha : s.a = none := by simpa using h1
    have e : rows budC xs = [] := by
      unfold Heap.sl at hsl
      rw [ha] at hsl
      simpa using hsl.symm
    have := o.none_ 5
    rw [← e] at this
    exact hQ _ _ this
  · subst he4
    exact hQ _ _ (o.new hn4 (by rw [rows_length budC_length, hl]))
theorem spec73 (hI : Closed' prog Pm I) {s : Sl} {xs : List Hld} {L : List Ow} (o : Owns h0 h L) (hm : (6, s, rows hldC xs) ∈ L) (hlen : xs.length < 10000) (hQ : ∀ s' h', Owns h0 h' ((6, s', rows hldC xs) :: L) → Q [.one (.slice 6 s')] h') : I 73 [.one (.slice 6 s)] Q h := by
  refine hI.go _ _ (den73 I s Q) ?_
  have hsl := o.slg hm
  have hl := (o.at_ hm).rowsLen hldC_length (by decide)
  refine ifT_intro (fun h1 => ?_) fun h1 => ⟨_, hsl, by omega, newK_intro fun i3 h4 hn4 he4 => ?_⟩
  · have ha : s.a = none := by simpa using h1
    have e : rows hldC xs = [] := by
      unfold Heap.sl at hsl
      rw [ha] at hsl
      simpa using hsl.symm
    have := o.none_ 6
    rw [← e] at this
    exact hQ _ _ this
  · subst he4
    exact hQ _ _ (o.new hn4 (by rw [rows_length hldC_length, hl]))
/-- A purse's own block. -/
abbrev owP (p : Nat) (sb sh : Sl) (now : Int) : Ow := (3, ⟨some (p, 0), 1⟩, [.slice 5 sb, .slice 6 sh, .int .i64 now])
theorem spec13 (hI : Closed' prog Pm I) {s : Sl} {xs : List Bud} {L : List Ow} (o : Owns h0 h L) (hm : (5, s, rows budC xs) ∈ L) (hlen : xs.length ≤ 50)
    (hQe : errB xs ≠ 0 → ∀ h', Owns h0 h' L → Q [.one (.ptr none), int (errB xs)] h')
    (hQ : errB xs = 0 → ∀ p sb h', Owns h0 h' (owP p sb ⟨none, 0⟩ 0 :: (6, ⟨none, 0⟩, rows hldC []) :: (5, sb, rows budC xs) :: L) → Q [.one (.ptr (some (p, 0))), int 0] h') : I 13 [.one (.slice 5 s)] Q h := by
  refine hI.go _ _ (den13 I s Q) ?_
  refine spec8 hI (o.at_ hm) hlen fun h1 x1 => ⟨_, rfl, ifT_intro (fun h2 => hQe (nd h2) _ (o.mono x1)) fun h2 => ?_⟩
  refine spec62 hI (o.mono x1) hm (by omega) fun sb h3 o3 => ⟨sb, rfl, newK_intro fun i9 h9 hn9 he9 => ?_⟩
  subst he9
  exact hQ (Decidable.of_not_not (nd' h2)) i9 sb _ ((o3.new hn9 rfl).none_ 6).swp
/-- The holds, as they are now. -/
theorem spec29 (hI : Closed' prog Pm I) {p : Nat} {sb sh : Sl} {now : Int} {hs : List Hld} {L : List Ow} (o : Owns h0 h L) (hp : owP p sb sh now ∈ L) (hh : (6, sh, rows hldC hs) ∈ L) (hlen : hs.length ≤ 2000)
    (hQ : ∀ s' h', Owns h0 h' ((6, s', rows hldC (hs.map fun x => { x with state := stateAt x now })) :: L) → Q [.one (.slice 6 s')] h') : I 29 [.one (.ptr (some (p, 0)))] Q h := by
  refine hI.go _ _ (den29 I _ Q) ?_
  refine derefK_intro rfl ⟨sh, read_cell (o.block hp).1 rfl, spec73 hI o hh (by omega) fun l7 h6 o6 => ⟨l7, rfl, ?_⟩⟩
  have hl7 : l7.len = hs.length := (o6.at_ List.mem_cons_self).rowsLen hldC_length (by decide)
  refine loopK_intro (fun (a : Int) h' m => ∃ i : Nat, i ≤ hs.length ∧ a = i ∧ hs.length - i = m ∧ Owns h0 h' ((6, l7, rows hldC ((hs.take i).map (fun x : Hld => { x with state := stateAt x now }) ++ hs.drop i)) :: L)) hs.length
    ⟨0, by omega, rfl, rfl, by simpa using o6⟩ ?_
  rintro a h' m ⟨i, hi, rfl, rfl, o⟩
  refine ifT_dec (fun hlt => ⟨⟨by omega, hlt⟩, ?_⟩) (fun hge => ?_)
  · have hx := List.getElem?_eq_getElem (show i < hs.length by omega)
    generalize hs[i] = x at hx
    have hy := mapSet_get (f := fun x : Hld => { x with state := stateAt x now }) hx
    have hst := mapSet_step (f := fun x : Hld => { x with state := stateAt x now }) hx
    have hyl : ((hs.take i).map (fun x : Hld => { x with state := stateAt x now }) ++ hs.drop i).length = hs.length := by simp; omega
    generalize (hs.take i).map (fun x : Hld => { x with state := stateAt x now }) ++ hs.drop i = ys at *
    have hrl := rows_length hldC_length ys
    obtain ⟨bl, hbl, _⟩ := o.has (s := l7) (cs := rows hldC ys) (sz := 6) (by simp) (fun e => by rw [e] at hrl; simp at hrl; omega)
    have hla : l7.a = some (bl, 0) := by rw [hbl]
    refine (o.at_ List.mem_cons_self).row hldC_length (by decide) hy fun bb oo hr => ⟨x.no, x.key, x.cents, x.at_, x.until_, x.state, hr, derefK_intro rfl ⟨now, read_cell (o.block (List.mem_cons_of_mem _ hp)).1 rfl, spec74 hI ⟨_, rfl, ⟨by omega, by omega⟩, derefK_intro hla ?_⟩⟩⟩
    rw [hbl] at o
    rw [Int.toNat_natCast, Nat.zero_add]
    refine storeK_one (o.block List.mem_cons_self).1 (by rw [hrl]; omega) ?_
    rw [rows_set (b := { x with state := stateAt x now }) hldC_length hy (by decide) rfl, hst]
    have o2 := o.change (n' := l7.len) (sz' := 6) (cs' := rows hldC ((hs.take (i + 1)).map (fun x : Hld => { x with state := stateAt x now }) ++ hs.drop (i + 1))) (by rw [rows_length hldC_length]; simp; omega)
    rw [← hbl] at o2
    exact ⟨hs.length - (i + 1), by omega, i + 1, by omega, by rw [w64] <;> omega, rfl, o2⟩
  · have : i = hs.length := by omega
    subst this
    refine hQ _ _ ?_
    simpa using o
theorem spec20 (hI : Closed' prog Pm I) {p : Nat} {sb sh : Sl} {now : Int} {bs : List Bud} {hs : List Hld} {L : List Ow} {key : ByteArray} {cents t u : Int} (o : Owns h0 h (owP p sb sh now :: (6, sh, rows hldC hs) :: L)) (hb : (5, sb, rows budC bs) ∈ L) (hlen : bs.length < 1000)
    (hob : ∀ b ∈ bs, okB b) (hk : ∀ x ∈ hs, okH x) (hlen2 : hs.length ≤ 2000)
    (hQe : errR bs hs now key cents t u ≠ 0 → ∀ h', Owns h0 h' (owP p sb sh now :: (6, sh, rows hldC hs) :: L) → Q [int 0, int (errR bs hs now key cents t u)] h')
    (hQ : errR bs hs now key cents t u = 0 → ∀ sh' h', Owns h0 h' (owP p sb sh' t :: (6, sh', rows hldC (hs ++ [⟨(hs.length : Int) + 1, key, cents, t, u, 1⟩])) :: L) → Q [int ((hs.length : Int) + 1), int 0] h') :
    I 20 [.one (.ptr (some (p, 0))), str key, int cents, int t, int u] Q h := by
  refine hI.go _ _ (den20 I _ key cents t u Q) ?_
  have hl : sh.len = hs.length := (o.at_ (s := sh) (by simp)).rowsLen hldC_length (by decide)
  have hm5 : (5, sb, rows budC bs) ∈ owP p sb sh now :: (6, sh, rows hldC hs) :: L := by simp [hb]
  refine spec65 hI (o.block List.mem_cons_self).1 (o.at_ hm5) hlen (fun h' x' hf => ⟨_, _, _, _, _, _, rfl, ifT_intro (fun _ => ?_) fun h => by cases h⟩) fun b h' x' hf => ⟨_, _, _, _, _, _, rfl, ifT_intro (fun h => by cases h) fun _ => ?_⟩
  · have e : errR bs hs now key cents t u = 8 := by unfold errR; rw [hf]
    have := hQe (by rw [e]; decide) h' (o.mono x')
    rwa [e] at this
  have o' := o.mono x'
  have hc := (o'.block List.mem_cons_self).1
  have eR : errR bs hs now key cents t u = if ¬ (1 ≤ cents ∧ cents ≤ 1000000000000) ∨ ¬ momentP t ∨ ¬ (t + 1 ≤ u ∧ u ≤ 4321440) then 1 else if t < now then 7 else if hs.length ≥ 2000 ∨ taken key t hs + cents > paced b t then 12 else 0 := by unfold errR; rw [hf]
  have bad : ∀ e : Int, errR bs hs now key cents t u = e → e ≠ 0 → Q [int 0, int e] h' := fun e he hne => by
    have := hQe (by rw [he]; exact hne) h' o'
    rwa [he] at this
  refine joinK_intro (fun (x : Bool) h'' => h'' = h' ∧ (x = true ↔ (¬ (1 ≤ cents ∧ cents ≤ 1000000000000) ∨ ¬ momentP t ∨ ¬ (t + 1 ≤ u ∧ u ≤ 4321440)))) ?_ fun j hj => spec59 hI ⟨_, rfl, ifT_intro (fun h1 => hj _ _ ⟨rfl, by simp at h1 ⊢; omega⟩) fun h1 => spec60 hI ⟨_, rfl, ifT_intro (fun h2 => hj _ _ ⟨rfl, by simp at h2 ⊢; omega⟩) fun h2 => spec59 hI ⟨_, rfl, hj _ _ ⟨rfl, ?_⟩⟩⟩⟩
  case refine_2 =>
    have h3 : momentP t := Decidable.of_not_not (nd' h2)
    have h4 : 1 ≤ cents ∧ cents ≤ 1000000000000 := by simp at h1; omega
    rw [w64 (by omega) (by omega)]
    simp
    omega
  rintro x h'' ⟨rfl, hx⟩
  refine ifT_intro (fun h1 => bad 1 (by rw [eR, if_pos (hx.1 h1)]) (by decide)) fun h1 => ?_
  have hnx : ¬ (¬ (1 ≤ cents ∧ cents ≤ 1000000000000) ∨ ¬ momentP t ∨ ¬ (t + 1 ≤ u ∧ u ≤ 4321440)) := fun h => by rw [hx.2 h] at h1; cases h1
  rw [if_neg hnx] at eR
  have hcents : 1 ≤ cents ∧ cents ≤ 1000000000000 := by omega
  have hmt : momentP t := by omega
  refine derefK_intro rfl ⟨now, read_cell hc rfl, ifT_dec (fun h2 => bad 7 (by rw [eR, if_pos h2]) (by decide)) fun h2 => ?_⟩
  rw [if_neg h2] at eR
  have hbb := hob b (findB_mem hf).1
  refine joinK_intro (fun (x : Bool) h1 => h1 = h'' ∧ (x = true ↔ (hs.length ≥ 2000 ∨ taken key t hs + cents > paced b t))) ?_ fun j hj => derefK_intro rfl ⟨sh, read_cell hc rfl, ifT_dec (fun h3 => hj _ _ ⟨rfl, by simp; omega⟩) fun h3 => spec66 hI hc (o'.at_ (by simp)) hk hlen2 ⟨_, rfl, spec61 hI hbb hmt ⟨_, rfl, hj _ _ ⟨rfl, ?_⟩⟩⟩⟩
  case refine_2 =>
    have h4 := taken_bound (key := key) (t := t) hk
    rw [w64 (by omega) (by omega)]
    simp
    omega
  rintro x h1 ⟨rfl, hx⟩
  refine ifT_intro (fun h3 => bad 12 (by rw [eR, if_pos (hx.1 h3)]) (by decide)) fun h3 => ?_
  have hnx2 : ¬ (hs.length ≥ 2000 ∨ taken key t hs + cents > paced b t) := fun h => by rw [hx.2 h] at h3; cases h3
  rw [if_neg hnx2] at eR
  refine derefK_intro rfl (storeK_one hc (by simp) ?_)
  have o2 := o'.change (n' := 1) (sz' := 3) (cs' := [.slice 5 sb, .slice 6 sh, .int .i64 t]) rfl
  show derefK _ _ (h1.set p (.cells false [.slice 5 sb, .slice 6 sh, .int .i64 t]))
  have hc2 := (o2.block List.mem_cons_self).1
  refine derefK_intro rfl ⟨sh, read_cell hc2 rfl, derefK_intro rfl ⟨sh, read_cell hc2 rfl, ?_⟩⟩
  refine appendTo_owns (m := 0) o2.swp (by rfl) (by omega) (by simp) fun bn h8 o8 => ?_
  have o9 := o8.swp
  refine derefK_intro rfl (storeK_one (o9.block List.mem_cons_self).1 (by simp) ?_)
  have ew : IntKind.i64.wrap ((sh.len : Int) + 1) = (hs.length : Int) + 1 := by rw [hl, w64] <;> omega
  have o10 := o9.change (n' := 1) (sz' := 3) (cs' := [.slice 5 sb, .slice 6 ⟨some (bn, 0), sh.len + (0 + 1)⟩, .int .i64 t]) rfl
  rw [ew] at o10 ⊢
  refine hQ eR ⟨some (bn, 0), sh.len + (0 + 1)⟩ _ ?_
  rw [rows_append]
  simpa [rows, hldC] using o10
theorem spec69 (hI : Closed' prog Pm I) {p : Nat} {sb sh : Sl} {now : Int} {hs : List Hld} {L : List Ow} {no t to : Int} {g : FuncId} {may : Int → Bool} (o : Owns h0 h (owP p sb sh now :: (6, sh, rows hldC hs) :: L)) (hlen2 : hs.length ≤ 2000)
    (hg : ∀ n Q' h', Q' [boo (may n)] h' → I g [int n] Q' h')
    (hQe : errT hs now no t may ≠ 0 → Q [int (errT hs now no t may)] h)
    (hQ : errT hs now no t may = 0 → now ≤ t → momentP t → ∀ x, hs[(no - 1).toNat]? = some x → may (stateAt x t) = true → ∀ h', Owns h0 h' (owP p sb sh t :: (6, sh, rows hldC (hs.set (no - 1).toNat { x with state := to })) :: L) → Q [int 0] h') :
    I 69 [.one (.ptr (some (p, 0))), int no, int t, int to, .one (.func (some (g, [])))] Q h := by
  refine hI.go _ _ (den69 I _ no t to _ Q) ?_
  have hl : sh.len = hs.length := (o.at_ (s := sh) (by simp)).rowsLen hldC_length (by decide)
  have hc := (o.block List.mem_cons_self).1
  have bad : ∀ e : Int, errT hs now no t may = e → e ≠ 0 → Q [int e] h := fun e he hne => by
    have := hQe (by rw [he]; exact hne)
    rwa [he] at this
  refine derefK_intro rfl ⟨sh, read_cell hc rfl, spec59 hI ⟨_, rfl, ifT_intro (fun h1 => bad 8 ?_ (by decide)) fun h1 => ?_⟩⟩
  · unfold errT
    have h1 : ¬ (1 ≤ no ∧ no ≤ sh.len) := by simp at h1; omega
    split
    · rfl
    · rename_i x hx
      have := (List.getElem?_eq_some_iff.1 hx).1
      rw [if_pos (by omega)]
  have h1 : 1 ≤ no ∧ no ≤ sh.len := by simp at h1; omega
  have hx := List.getElem?_eq_getElem (show (no - 1).toNat < hs.length by omega)
  generalize hs[(no - 1).toNat] = x at hx
  have eT : errT hs now no t may = if ¬ momentP t then 1 else if t < now then 7 else if may (stateAt x t) = false then 11 else 0 := by unfold errT; rw [hx]; exact if_neg (by omega)
  have ew : IntKind.i64.wrap (no - 1) = (((no - 1).toNat : Nat) : Int) := by rw [w64 (by omega) (by omega)]; omega
  refine spec60 hI ⟨_, rfl, ifT_intro (fun h2 => bad 1 (by rw [eT, if_pos (nd h2)]) (by decide)) fun h2 => ?_⟩
  rw [if_neg (nd' h2)] at eT
  refine derefK_intro rfl ⟨now, read_cell hc rfl, ifT_dec (fun h3 => bad 7 (by rw [eT, if_pos h3]) (by decide)) fun h3 => ?_⟩
  rw [if_neg h3] at eT
  rw [ew]
  have hlt : (no - 1).toNat < hs.length := by omega
  refine derefK_intro rfl ⟨sh, read_cell hc rfl, ⟨by omega, by omega⟩, (o.at_ (s := sh) (by simp)).row hldC_length (by decide) hx fun bb oo hr => ⟨x.no, x.key, x.cents, x.at_, x.until_, x.state, hr, spec74 hI ⟨_, rfl, ?_⟩⟩⟩
  refine hg _ _ _ ⟨_, rfl, ifT_intro (fun h4 => bad 11 (by rw [eT, if_pos (nb h4)]) (by decide)) fun h4 => ?_⟩
  rw [if_neg (by rw [nb' h4]; simp)] at eT
  refine derefK_intro rfl (storeK_one hc (by simp) ?_)
  have o2 := o.change (n' := 1) (sz' := 3) (cs' := [.slice 5 sb, .slice 6 sh, .int .i64 t]) rfl
  show derefK _ _ (h.set p (.cells false [.slice 5 sb, .slice 6 sh, .int .i64 t]))
  have hc2 := (o2.block List.mem_cons_self).1
  have hrl := rows_length hldC_length hs
  have o3 := o2.swp
  obtain ⟨bl, hbl, _⟩ := o3.has (s := sh) (cs := rows hldC hs) (sz := 6) (by simp) (fun e => by rw [e] at hrl; simp at hrl; omega)
  have hla : sh.a = some (bl, 0) := by rw [hbl]
  refine derefK_intro rfl ⟨sh, read_cell hc2 rfl, ⟨by omega, by omega⟩, derefK_intro hla ?_⟩
  generalize hn : (no - 1).toNat = k at *
  rw [Int.toNat_natCast, Nat.zero_add]
  have o4 : Owns h0 (h.set p (.cells false [.slice 5 sb, .slice 6 sh, .int .i64 t])) ((6, ⟨some (bl, 0), sh.len⟩, rows hldC hs) :: owP p sb sh t :: L) := by rw [← hbl]; exact o3
  refine storeK_one (o4.block List.mem_cons_self).1 (by rw [hrl]; omega) ?_
  rw [rows_set (b := { x with state := to }) hldC_length hx (by decide) rfl]
  have o5 := o4.change (n' := sh.len) (sz' := 6) (cs' := rows hldC (hs.set k { x with state := to })) (by rw [rows_length hldC_length]; simp; omega)
  rw [← hbl] at o5
  exact hQ eT (by omega) (Decidable.of_not_not (nd' h2)) x hx (nb' h4) _ o5.swp
theorem spec70 (hI : Closed' prog Pm I) {n : Int} (hQ : Q [boo (decide (n = 1))] h) : I 70 [int n] Q h := hI.go _ _ (den70 I n Q) hQ
theorem spec72 (hI : Closed' prog Pm I) {n : Int} (hQ : Q [boo (decide (n = 1 ∨ n = 2))] h) : I 72 [int n] Q h := by
  refine hI.go _ _ (den72 I n Q) ?_
  refine ifT_dec (fun h1 => ?_) fun h1 => ?_
  · simpa [h1] using hQ
  · simpa [h1] using hQ
end
end Go.Proofs.YtfemminjhecocaaDoorVc
-- from PuSpec
namespace Go.Proofs.YtfemminjhecocaaDoorVc
open Go.Proofs.Tryd (prog)
theorem strs_length (l : List ByteArray) : (strs l).length = l.length := by simp [strs]
theorem strs_get {xs : List ByteArray} {i : Nat} {x : ByteArray} (h : xs[i]? = some x) : (strs xs)[i]? = some (.str x) := by unfold strs; rw [List.getElem?_map, h]; rfl
/-! ### open and committed -/
def opn (key : ByteArray) (x : Hld) : Int := if x.key = key then if x.state = 1 then x.cents else 0 else 0
def cmt (key : ByteArray) (x : Hld) : Int := if x.key = key then if x.state = 2 then x.cents else 0 else 0
theorem opn_cmt {key : ByteArray} {now : Int} : ∀ {hs : List Hld}, (∀ x ∈ hs, okH x) → ((hs.map fun x : Hld => { x with state := stateAt x now }).map (opn key)).sum + ((hs.map fun x : Hld => { x with state := stateAt x now }).map (cmt key)).sum = taken key now hs ∧
    0 ≤ ((hs.map fun x : Hld => { x with state := stateAt x now }).map (opn key)).sum ∧ 0 ≤ ((hs.map fun x : Hld => { x with state := stateAt x now }).map (cmt key)).sum
  | [], _ => by simp [taken]
  | x :: hs, h => by
    obtain ⟨h1, h2, h3⟩ := opn_cmt (key := key) (now := now) (hs := hs) fun y hy => h y (by simp [hy])
    have h4 : opn key { x with state := stateAt x now } + cmt key { x with state := stateAt x now } = one key now x ∧ 0 ≤ opn key { x with state := stateAt x now } ∧ 0 ≤ cmt key { x with state := stateAt x now } := by
      obtain ⟨h5, _⟩ := h x (by simp)
      unfold opn cmt one
      simp only
      generalize stateAt x now = s
      repeat' split
      all_goals omega
    unfold taken at h1 ⊢
    simp only [List.map_cons, List.sum_cons]
    omega
theorem part_bound {key : ByteArray} {f : Hld → Int} (hf : ∀ x, okH x → 0 ≤ f x ∧ f x ≤ 1000000000000) : ∀ {ys : List Hld}, (∀ x ∈ ys, okH x) → 0 ≤ (ys.map f).sum ∧ (ys.map f).sum ≤ ys.length * 1000000000000
  | [], _ => by simp
  | x :: ys, h => by
    have h1 := hf x (h x (by simp))
    have h2 := part_bound (key := key) hf (ys := ys) fun y hy => h y (by simp [hy])
    rw [List.map_cons, List.sum_cons, List.length_cons]
    omega
theorem opn_ge (key : ByteArray) : ∀ x, okH x → 0 ≤ opn key x ∧ opn key x ≤ 1000000000000 := fun x ⟨h1, h2⟩ => by
  unfold opn
  repeat' split
  all_goals omega
theorem cmt_ge (key : ByteArray) : ∀ x, okH x → 0 ≤ cmt key x ∧ cmt key x ≤ 1000000000000 := fun x ⟨h1, h2⟩ => by
  unfold cmt
  repeat' split
  all_goals omega
section
variable {I : Calls} {Q : Post} {h : Heap}
theorem spec19 (hI : Closed' prog Pm I) {i : Nat} {l : Sl} {zs : List Int} {t : Nat} {a b : Int} (S : Strm h i l zs t) (h1 : a ≤ b) (h2 : -1000000000 < a) (h3 : b < 1000000000)
    (hQ : ∀ v, a ≤ v → v ≤ b → Q [int v] (h.set i (strm l (t + 1)))) : I 19 [.one (.ptr (some (i, 0))), int a, int b] Q h := by
  refine hI.go _ _ (den19 I _ a b Q) ?_
  refine ifT_dec (fun h => by omega) fun _ => ?_
  have ew : IntKind.i64.wrap (IntKind.i64.wrap (b - a) + 1) = b - a + 1 := by rw [w64 (n := b - a) (by omega) (by omega), w64 (by omega) (by omega)]
  rw [ew]
  refine spec16 hI S (by omega) (by omega) fun v h4 h5 => ⟨v, rfl, ?_⟩
  rw [w64 (by omega) (by omega)]
  exact hQ _ (by omega) (by omega)
section
variable {hb : Heap} {i : Nat} {l : Sl} {zs : List Int} {t0 : Nat}
theorem spec6 (hI : Closed' prog Pm I) (S0 : Strm hb i l zs t0) {t : Nat} {L : List Ow} (o : Owns (hb.del i) h (owS i l t :: L)) (ht : t < 1000)
    (hQ : ∀ s' xs t' h', Owns (hb.del i) h' (owS i l t' :: (5, s', rows budC xs) :: L) → t' ≤ t + 100 → xs.length ≤ 3 → Q [.one (.slice 5 s')] h') : I 6 [.one (.ptr (some (i, 0)))] Q h := by
  refine hI.go _ _ (den6 I (some (i, 0)) Q) ?_
  refine newK_intro fun i2 h2 hn2 he2 => ?_
  subst he2
  have o2 := (o.new (sz := 1) (n := 3) (cs := strs [⟨#[109, 97, 121]⟩, ⟨#[106, 117, 110, 101]⟩, ⟨#[97, 108, 108]⟩]) hn2 rfl).swp
  refine loopK_intro (fun (a : Sl × Int) h' m => ∃ j t' : Nat, j ≤ 3 ∧ a.2 = j ∧ 3 - j = m ∧ t' ≤ t + 5 * j ∧ ∃ xs : List Bud, xs.length ≤ j ∧ Owns (hb.del i) h' (owS i l t' :: (5, a.1, rows budC xs) :: (1, ⟨some (i2, 0), 3⟩, strs [⟨#[109, 97, 121]⟩, ⟨#[106, 117, 110, 101]⟩, ⟨#[97, 108, 108]⟩]) :: L)) 3
    ⟨0, t, by omega, rfl, rfl, by omega, [], by simp, (o2.none_ 5).swp⟩ ?_
  rintro ⟨s, y⟩ h' m ⟨j, t', hj, rfl, rfl, ht', xs, hxl, o⟩
  dsimp only [uncur] at o ⊢
  have hal : s.len = xs.length := (o.at_ (s := s) (by simp)).rowsLen budC_length (by decide)
  refine ifT_dec (fun hlt => ⟨⟨by omega, by omega⟩, ?_⟩) (fun hge => ?_)
  · have hlt : j < 3 := by have : (j : Int) < 3 := hlt
                           omega
    obtain ⟨k, hk⟩ : ∃ k, ([⟨#[109, 97, 121]⟩, ⟨#[106, 117, 110, 101]⟩, ⟨#[97, 108, 108]⟩] : List ByteArray)[j]? = some k := ⟨_, List.getElem?_eq_getElem hlt⟩
    refine ⟨k, ?_, ?_⟩
    · rw [Int.toNat_natCast, Nat.mul_one, Nat.zero_add]
      exact read_cell (o.block (sz := 1) (i := i2) (n := 3) (by simp)).1 (strs_get hk)
    have ew : IntKind.i64.wrap ((j : Int) + 1) = ((j + 1 : Nat) : Int) := by rw [w64] <;> omega
    rw [ew]
    refine spec17 hI (o.toStrm S0 (t' := t') (by simp) (by omega)) (by decide) (by decide) fun b => ⟨b, rfl, ?_⟩
    have o3 := o.next (t' := t' + 1)
    refine ifT_intro (fun _ => ⟨3 - (j + 1), by omega, j + 1, t' + 1, by omega, rfl, rfl, by omega, xs, by omega, o3⟩) fun _ => ?_
    refine newK_intro fun i4 h4 hn4 he4 => ?_
    have hne4 := o3.lit_ne hn4
    have o4 := o3.mono (he4 ▸ Ext.new hn4 : Ext _ h4)
    refine spec9 hI (xs := [0, 0, 1, 5]) (o4.toStrm S0 (t' := t' + 1) (by simp) (by omega)) (lit_at hne4 he4 rfl) (by simp) (by simp) fun f _ => ⟨f, rfl, ?_⟩
    have o5 := o4.next (t' := t' + 1 + 1)
    refine newK_intro fun i6 h6 hn6 he6 => ?_
    have hne6 := o5.lit_ne hn6
    have o6 := o5.mono (he6 ▸ Ext.new hn6 : Ext _ h6)
    refine spec9 hI (xs := [0, 100, 1000, 1001, 1000000000000]) (o6.toStrm S0 (t' := t' + 1 + 1) (by simp) (by omega)) (lit_at hne6 he6 rfl) (by simp) (by simp) fun c _ => ⟨c, rfl, ?_⟩
    have o7 := o6.next (t' := t' + 1 + 1 + 1)
    refine newK_intro fun i8 h8 hn8 he8 => ?_
    have hne8 := o7.lit_ne hn8
    have o8 := o7.mono (he8 ▸ Ext.new hn8 : Ext _ h8)
    refine spec9 hI (xs := [0, 2, 9, 2000]) (o8.toStrm S0 (t' := t' + 1 + 1 + 1) (by simp) (by omega)) (lit_at hne8 he8 rfl) (by simp) (by simp) fun g _ => ⟨g, rfl, ?_⟩
    have o9 := o8.next (t' := t' + 1 + 1 + 1 + 1)
    refine spec17 hI (o9.toStrm S0 (t' := t' + 1 + 1 + 1 + 1) (by simp) (by omega)) (by decide) (by decide) fun b => ⟨b, rfl, ?_⟩
    have o10 := o9.next (t' := t' + 1 + 1 + 1 + 1 + 1)
    refine appendTo_owns (m := 0) o10.swp (by rfl) (by omega) (by simp) fun bn h11 o11 => ⟨3 - (j + 1), by omega, j + 1, t' + 1 + 1 + 1 + 1 + 1, by omega, rfl, rfl, by omega, xs ++ [⟨k, c, f, IntKind.i64.wrap (f + g), b⟩], by simp; omega, ?_⟩
    have := o11.swp
    rw [rows_append]
    simpa [rows, budC] using this
  · -- one cell of one budget is turned, or none
    have fin0 : ∀ (s' : Sl) (ys : List Bud) (t9 : Nat) (h9 : Heap), ys.length ≤ 3 → t9 ≤ t + 100 → Owns (hb.del i) h9 (owS i l t9 :: (5, s', rows budC ys) :: (1, ⟨some (i2, 0), 3⟩, strs [⟨#[109, 97, 121]⟩, ⟨#[106, 117, 110, 101]⟩, ⟨#[97, 108, 108]⟩]) :: L) → Q [.one (.slice 5 s')] h9 := fun s' ys t9 h9 hy h9' o9 => hQ s' ys t9 h9 (o9.rot'.tail) h9' hy
    refine joinK_intro (fun (b : Bool) h3 => Owns (hb.del i) h3 (owS i l (t' + 1) :: (5, s, rows budC xs) :: (1, ⟨some (i2, 0), 3⟩, strs [⟨#[109, 97, 121]⟩, ⟨#[106, 117, 110, 101]⟩, ⟨#[97, 108, 108]⟩]) :: L) ∧ (b = true → 0 < xs.length)) ?_ ?_
    · rintro b h3 ⟨o3, hbp⟩
      refine ifT_intro (fun hbt => ?_) fun _ => fin0 _ _ _ _ (by omega) (by omega) o3
      have hpos := hbp hbt
      have S3 := o3.toStrm S0 (t' := t' + 1) (by simp) (by omega)
      refine spec16 hI S3 (by omega) (by omega) fun e he0 he1 => ⟨e, rfl, ⟨he0, he1⟩, ?_⟩
      obtain ⟨e, rfl⟩ := Int.eq_ofNat_of_zero_le he0
      have o4 := o3.next (t' := t' + 1 + 1)
      have hrl := rows_length budC_length xs
      obtain ⟨bs, hbs, hcs⟩ := o4.has (s := s) (cs := rows budC xs) (sz := 5) (by simp) (fun h => by rw [h] at hrl; simp at hrl; omega)
      rw [hbs] at o4 ⊢
      refine derefK_intro rfl ?_
      refine spec16 hI (o4.toStrm S0 (t' := t' + 1 + 1) (by simp) (by omega)) (by decide) (by decide) fun c hc0 hc1 => ⟨c, rfl, ?_⟩
      have o5 := o4.next (t' := t' + 1 + 1 + 1)
      have hx := List.getElem?_eq_getElem (show e < xs.length by omega)
      generalize xs[e] = x at hx
      have fin : ∀ (j2 : Nat) (c2 : Cell) (x' : Bud) (h9 : Heap) (t9 : Nat), j2 < 5 → (budC x).set j2 c2 = budC x' → t9 ≤ t' + 5 → Owns (hb.del i) h9 (owS i l t9 :: (5, ⟨some (bs, 0), s.len⟩, rows budC xs) :: (1, ⟨some (i2, 0), 3⟩, strs [⟨#[109, 97, 121]⟩, ⟨#[106, 117, 110, 101]⟩, ⟨#[97, 108, 108]⟩]) :: L) → storeK [] bs (0 + ((e : Nat) : Int).toNat * 5 + j2) [c2] (Q [.one (.slice 5 ⟨some (bs, 0), s.len⟩)]) h9 := by
        intro j2 c2 x' h9 t9 hj2 hset ht9 o9
        have o10 := o9.swp
        rw [Int.toNat_natCast, Nat.zero_add]
        refine storeK_one (o10.block List.mem_cons_self).1 (by rw [hrl]; omega) ?_
        rw [rows_set budC_length hx hj2 hset]
        have o11 := (o10.change (n' := s.len) (sz' := 5) (cs' := rows budC (xs.set e x')) (by rw [rows_length budC_length]; simp; omega)).swp
        exact fin0 _ _ _ _ (by simp; omega) (by omega) o11
      refine ifT_dec (fun h1 => ?_) fun h1 => ifT_dec (fun h2 => ?_) fun h2 => ifT_dec (fun h3 => ?_) fun h3 => ?_
      · refine newK_intro fun i6 h6 hn6 he6 => ?_
        have hne6 := o5.lit_ne hn6
        have o6 := o5.mono (he6 ▸ Ext.new hn6 : Ext _ h6)
        refine spec53 hI (xs := [⟨#[]⟩, ⟨#[109, 97, 121]⟩, ⟨#[77, 97, 121]⟩]) (o6.toStrm S0 (t' := t' + 1 + 1 + 1) (by simp) (by omega)) (lit_atC hne6 he6 rfl) (by simp) (by simp) fun v _ => ⟨v, rfl, ?_⟩
        exact fin 0 (.str v) { x with key := v } _ (t' + 1 + 1 + 1 + 1) (by decide) rfl (by omega) o6.next
      · refine newK_intro fun i6 h6 hn6 he6 => ?_
        have hne6 := o5.lit_ne hn6
        have o6 := o5.mono (he6 ▸ Ext.new hn6 : Ext _ h6)
        refine spec9 hI (xs := [-1, 1000000000001]) (o6.toStrm S0 (t' := t' + 1 + 1 + 1) (by simp) (by omega)) (lit_at hne6 he6 rfl) (by simp) (by simp) fun v _ => ⟨v, rfl, ?_⟩
        exact fin 1 (.int .i64 v) { x with cents := v } _ (t' + 1 + 1 + 1 + 1) (by decide) rfl (by omega) o6.next
      · refine ⟨x.last, ?_, newK_intro fun i6 h6 hn6 he6 => ?_⟩
        · rw [Int.toNat_natCast, Nat.zero_add]
          exact read_cell (o5.block (sz := 5) (i := bs) (n := s.len) (by simp)).1 (rows_cell budC_length hx rfl)
        have hne6 := o5.lit_ne hn6
        have o6 := o5.mono (he6 ▸ Ext.new hn6 : Ext _ h6)
        refine spec9 hI (xs := [-1, IntKind.i64.wrap (x.last + 1)]) (o6.toStrm S0 (t' := t' + 1 + 1 + 1) (by simp) (by omega)) (lit_at hne6 he6 rfl) (by simp) (by simp) fun v _ => ⟨v, rfl, ?_⟩
        exact fin 2 (.int .i64 v) { x with first := v } _ (t' + 1 + 1 + 1 + 1) (by decide) rfl (by omega) o6.next
      · refine newK_intro fun i6 h6 hn6 he6 => ?_
        have hne6 := o5.lit_ne hn6
        have o6 := o5.mono (he6 ▸ Ext.new hn6 : Ext _ h6)
        refine spec9 hI (xs := [3000, 3001]) (o6.toStrm S0 (t' := t' + 1 + 1 + 1) (by simp) (by omega)) (lit_at hne6 he6 rfl) (by simp) (by simp) fun v _ => ⟨v, rfl, ?_⟩
        exact fin 3 (.int .i64 v) { x with last := v } _ (t' + 1 + 1 + 1 + 1) (by decide) rfl (by omega) o6.next
    · intro jk hjk
      refine spec17 hI (o.toStrm S0 (t' := t') (by simp) (by omega)) (by decide) (by decide) fun b => ⟨b, rfl, ?_⟩
      have o3 := o.next (t' := t' + 1)
      refine ifT_intro (fun _ => hjk _ _ ⟨o3, fun h => ?_⟩) fun _ => hjk _ _ ⟨o3, fun h => by cases h⟩
      have := of_decide_eq_true h
      omega
end
/-- What is known of the purse between the rounds. -/
structure Mid (bs : List Bud) (hs : List Hld) (now t : Int) (k : Nat) : Prop where
  r : Right bs hs now
  le : now ≤ t
  t0 : 0 ≤ t
  t1 : t ≤ 1440 * k
  len : hs.length ≤ k
theorem pick_at : ∀ v ∈ ([0, 0, 5, 60, 1440] : List Int), 0 ≤ v ∧ v ≤ 1440 := by decide
theorem pick_cents : ∀ v ∈ ([1, 50, 100, 400] : List Int), 1 ≤ v ∧ v ≤ 400 := by decide
theorem pick_long : ∀ v ∈ ([1, 5, 60, 2000] : List Int), 1 ≤ v ∧ v ≤ 2000 := by decide
/-- What the law looks at, of one budget. -/
theorem law_look (hI : Closed' prog Pm I) {h0 : Heap} {p : Nat} {sb sh : Sl} {now t : Int} {bs : List Bud} {hs : List Hld} {L : List Ow} {b : Bud} {k : Nat} {J : Heap → Prop}
    (o : Owns h0 h L) (hp : owP p sb sh now ∈ L) (hh : (6, sh, rows hldC hs) ∈ L) (h5 : (5, sb, rows budC bs) ∈ L) (hbl : bs.length ≤ 3) (hm : Mid bs hs now t k) (hk : k ≤ 20) (hb : b ∈ bs)
    (hQ : ∀ h', Owns h0 h' L → J h') :
    I 29 [.one (.ptr (some (p, 0)))] (fun cs50 h51 => ∃ l52 : Sl, (cs50 = [V.one (Cell.slice 6 l52)]) ∧
      (loopK (A := Int × Int × Int) ((0, 0, 0))
        (fun x53 => uncur fun n54 => uncur fun n55 n56 => ifT (decide (n56 < (↑l52.len : Int)))
          (fun h57 => ((0 ≤ n56) ∧ n56 < (↑l52.len : Int)) ∧
            (derefK l52.a (fun i58 i59 h60 => ∃ n61 : Int, ∃ s62 : ByteArray, ∃ n63 : Int, ∃ n64 : Int, ∃ n65 : Int, ∃ n66 : Int, (h60.read i58 (i59 + n56.toNat * 6) 6 = some [Cell.int IntKind.i64 n61, Cell.str s62, Cell.int IntKind.i64 n63, Cell.int IntKind.i64 n64, Cell.int IntKind.i64 n65, Cell.int IntKind.i64 n66]) ∧
              (joinK (A := Bool)
                (fun b67 => joinK (A := Int)
                  (fun n68 => ifT (decide (s62 = b.key))
                    (ifT (decide (n66 = 1)) (x53 ((IntKind.i64.wrap (n54 + n63), n68, IntKind.i64.wrap (n56 + 1)))) (x53 ((n54, n68, IntKind.i64.wrap (n56 + 1)))))
                    (x53 ((n54, n68, IntKind.i64.wrap (n56 + 1)))))
                  (fun x69 => ifT b67 (x69 (IntKind.i64.wrap (n55 + n63))) (x69 n55)))
                (fun x70 => ifT (decide (s62 = b.key)) (x70 (decide (n66 = 2))) (x70 false))) h60)) h57)
          (fun h71 => I 26 [V.one (Cell.ptr (some (p, 0))), V.one (Cell.str b.key), V.one (Cell.int IntKind.i64 t)]
            (fun cs72 h73 => ∃ n74 : Int, ∃ n75 : Int, (cs72 = [V.one (Cell.int IntKind.i64 n74), V.one (Cell.int IntKind.i64 n75)]) ∧
              (ifT (decide (n55 > b.cents)) (Q [V.one (Cell.bool false)])
                (ifT (decide (IntKind.i64.wrap (n54 + n55) > b.cents)) (Q [V.one (Cell.bool false)])
                  (ifT (!decide (n75 = 0)) (Q [V.one (Cell.bool false)])
                    (ifT (decide (n74 < 0)) (Q [V.one (Cell.bool false)]) J)))) h73) h71))) h51) h := by
  obtain ⟨r, h1, h2, h3, h4⟩ := hm
  refine spec29 hI o hp hh (by omega) fun l7 h6 o6 => ⟨l7, rfl, ?_⟩
  have hy : ∀ x ∈ hs.map (fun x : Hld => { x with state := stateAt x now }), okH x := fun x hx => by
    obtain ⟨y, hy, rfl⟩ := List.mem_map.1 hx
    exact r.okh y hy
  obtain ⟨e1, e2, e3⟩ := opn_cmt (key := b.key) (now := now) r.okh
  have hinv := r.inv b hb
  have hyl : (hs.map (fun x : Hld => { x with state := stateAt x now })).length = hs.length := by simp
  generalize hs.map (fun x : Hld => { x with state := stateAt x now }) = ys at *
  have a6 := o6.at_ List.mem_cons_self
  have hl7 : l7.len = ys.length := a6.rowsLen hldC_length (by decide)
  refine loopK_intro (fun (a : Int × Int × Int) h' m => h' = h6 ∧ ∃ i : Nat, i ≤ ys.length ∧ a = (((ys.take i).map (opn b.key)).sum, ((ys.take i).map (cmt b.key)).sum, (i : Int)) ∧ ys.length - i = m) ys.length ⟨rfl, 0, by omega, rfl, rfl⟩ ?_
  rintro a h' m ⟨rfl, i, hi, rfl, rfl⟩
  dsimp only [uncur]
  refine ifT_dec (fun hlt => ⟨⟨by omega, hlt⟩, ?_⟩) fun hge => ?_
  · have hx := List.getElem?_eq_getElem (show i < ys.length by omega)
    have hxm : ys[i] ∈ ys := List.getElem_mem _
    generalize ys[i] = x at hx hxm
    obtain ⟨hx1, hx2⟩ := hy x hxm
    have s1 := sum_take_step (f := opn b.key) hx
    have s2 := sum_take_step (f := cmt b.key) hx
    have b1 := part_bound (key := b.key) (opn_ge b.key) (ys := ys.take i) fun z hz => hy z (List.mem_of_mem_take hz)
    have b2 := part_bound (key := b.key) (cmt_ge b.key) (ys := ys.take i) fun z hz => hy z (List.mem_of_mem_take hz)
    rw [List.length_take] at b1 b2
    have hmin : min i ys.length = i := by omega
    rw [hmin] at b1 b2
    have ew : IntKind.i64.wrap ((i : Int) + 1) = ((i + 1 : Nat) : Int) := by rw [w64] <;> omega
    have w1 : IntKind.i64.wrap (((ys.take i).map (opn b.key)).sum + x.cents) = ((ys.take i).map (opn b.key)).sum + x.cents := by rw [w64] <;> omega
    have w2 : IntKind.i64.wrap (((ys.take i).map (cmt b.key)).sum + x.cents) = ((ys.take i).map (cmt b.key)).sum + x.cents := by rw [w64] <;> omega
    rw [ew]
    refine a6.row hldC_length (by decide) hx fun bb oo hr => ⟨x.no, x.key, x.cents, x.at_, x.until_, x.state, hr, ?_⟩
    rw [w1, w2]
    refine joinK_intro (fun (c : Bool) h'' => h'' = h' ∧ (c = true ↔ x.key = b.key ∧ x.state = 2)) ?_ fun j hj => ifT_dec (fun h5 => hj _ _ ⟨rfl, by simp [h5]⟩) fun h5 => hj _ _ ⟨rfl, by simp [h5]⟩
    rintro c h'' ⟨rfl, hc⟩
    refine joinK_intro (fun (n : Int) h1 => h1 = h'' ∧ n = ((ys.take (i + 1)).map (cmt b.key)).sum) ?_ fun j hj => ifT_intro (fun h5 => hj _ _ ⟨rfl, ?_⟩) fun h5 => hj _ _ ⟨rfl, ?_⟩
    · rintro n h1 ⟨rfl, rfl⟩
      unfold opn at s1
      have go : ∀ v : Int, v = ((ys.take (i + 1)).map (opn b.key)).sum → ∃ m', m' < ys.length - i ∧ h1 = h1 ∧ ∃ j : Nat, j ≤ ys.length ∧ (v, ((ys.take (i + 1)).map (cmt b.key)).sum, ((i + 1 : Nat) : Int)) = (((ys.take j).map (opn b.key)).sum, ((ys.take j).map (cmt b.key)).sum, (j : Int)) ∧ ys.length - j = m' := fun v hv => ⟨ys.length - (i + 1), by omega, rfl, i + 1, by omega, by rw [hv], rfl⟩
      refine ifT_dec (fun h5 => ifT_dec (fun h6 => ?_) fun h6 => ?_) fun h5 => ?_
      · rw [if_pos h5, if_pos h6] at s1; exact go _ s1.symm
      · rw [if_pos h5, if_neg h6] at s1; exact go _ (by unfold opn; omega)
      · rw [if_neg h5] at s1; exact go _ (by unfold opn; omega)
    · obtain ⟨h6, h7⟩ := hc.1 h5
      have : cmt b.key x = x.cents := by unfold cmt; rw [if_pos h6, if_pos h7]
      omega
    · have : cmt b.key x = 0 := by
        unfold cmt
        by_cases h6 : x.key = b.key
        · rw [if_pos h6]
          by_cases h7 : x.state = 2
          · rw [hc.2 ⟨h6, h7⟩] at h5; cases h5
          · rw [if_neg h7]
        · rw [if_neg h6]
      omega
  · have : i = ys.length := by omega
    subst this
    rw [List.take_length]
    have hb2 := (r.okb b hb).2.1
    obtain ⟨c, hc⟩ := findB_some hb
    have hmt : momentP t := by unfold momentP; omega
    refine spec26 hI (o6.block (List.mem_cons_of_mem _ hp)).1 (o6.at_ (List.mem_cons_of_mem _ h5)) (o6.at_ (List.mem_cons_of_mem _ hh)) (by omega) r.okb r.okh (by omega) fun h73 x73 => ⟨_, _, rfl, ?_⟩
    have eL : leftF bs hs now b.key t = (max (paced c t - taken b.key t hs) 0, 0) := by
      unfold leftF; rw [hc]; simp only; rw [if_neg (fun h => h hmt), if_neg (by omega)]
    rw [eL]
    rw [w64 (by omega) (by omega)]
    refine ifT_dec (fun h => by omega) fun _ => ifT_dec (fun h => by omega) fun _ => ifT_intro (fun h => by simp at h) fun _ => ifT_dec (fun h => ?_) fun _ => hQ _ (o6.mono x73).tail
    exfalso
    simp only at h
    omega
end
end Go.Proofs.YtfemminjhecocaaDoorVc
