/- Contracts, turned by a program to the numbers of this seat. -/
import Derived.Test.YtdjancoknephnaaGreatVcSsVc
import Derived.Test.YtdjancoknephnaaGreatVcSortList
import Derived.Test.YtdjancoknephnaaGreatVcStrB
import Derived.Test.YtdjancoknephnaaGreatVcRows4
import Derived.Test.YtdjancoknephnaaGreatVcPuMath
import Derived.Test.YtdjancoknephnaaGreatVcCodeStr
import Derived.Test.YtdjancoknephnaaGreatVcSeMath
import Derived.Test.YtdjancoknephnaaGreatVcOfMath
import Derived.Test.YtdjancoknephnaaGreatVcNewB
import Derived.Test.YtdjancoknephnaaGreatVcRowG
set_option linter.unusedSimpArgs false
set_option linter.unusedVariables false
-- from PrOld
namespace Go.Proofs.YtdjancoknephnaaGreatVc
open Go.Proofs.Tryz (prog)
abbrev Pm : Prim := IdxPrim 129
theorem pm_sound : Sound prog Pm := idx_sound Go.Proofs.Tryz.func129 (by kernel_rfl) (by kernel_rfl) (by kernel_rfl) (by kernel_rfl)
abbrev int (n : Int) : V := .one (.int .i64 n)
abbrev u64 (n : Int) : V := .one (.int .u64 n)
abbrev str (s : ByteArray) : V := .one (.str s)
abbrev boo (b : Bool) : V := .one (.bool b)
def ints (zs : List Int) : List Cell := zs.map (.int .i64)
section
variable {I : Calls} {Q : Post} {h : Heap}
/-! ### the stream -/
theorem spec49 (hI : Closed' prog Pm I) {x n : Int} (h1 : 1 ≤ n) (h2 : n < 4611686018427387904) (hQ : ∀ v, 0 ≤ v → v < n → Q [int v] h) : I 49 [int x, int n] Q h := by
  refine hI.go _ _ (den49 I x n Q) ?_
  refine ifT_dec (fun h3 => by omega) (fun h3 => ⟨by omega, ifT_dec (fun h4 => ?_) (fun h4 => ?_)⟩)
  · have h5 := Int.lt_tmod_of_pos x (show 0 < n by omega)
    have h6 : IntKind.i64.wrap (x.tmod n + n) = x.tmod n + n := w64 (by omega) (by omega)
    rw [h6]
    exact hQ _ (by omega) (by omega)
  · exact hQ _ (by omega) (Int.tmod_lt_of_pos x (by omega))
/-- A stream at place i: its numbers, and how many have been asked for. -/
structure Strm (h : Heap) (i : Nat) (l : Sl) (zs : List Int) (t : Nat) : Prop where
  cell : h i = some (.cells false [.slice 1 l, .int .i64 t])
  lies : At h 1 l (ints zs)
  apart : zs = [] ∨ ∀ b o, l.a = some (b, o) → b ≠ i
  small : t < 1000000000
abbrev strm (l : Sl) (t : Nat) : Obj := .cells false [.slice 1 l, .int .i64 t]
theorem Strm.at_ {h h' : Heap} {i : Nat} {l : Sl} {zs : List Int} {t : Nat} (S : Strm h i l zs t) (hf : ∀ j o, j ≠ i → h j = some o → h' j = some o) : At h' 1 l (ints zs) := by
  refine ⟨S.lies.1, ?_⟩
  rcases S.lies.2 with h1 | h1
  · exact .inl h1
  · rcases S.apart with h2 | h2
    · left; rw [h2]; rfl
    · right
      unfold Heap.sl at h1 ⊢
      cases ha : l.a with
      | none => rw [ha] at h1; exact h1
      | some p =>
        obtain ⟨b, o⟩ := p
        rw [ha] at h1
        have hb := h2 b o ha
        unfold Heap.read at h1 ⊢
        simp only at h1 ⊢
        cases hh : h b with
        | none => rw [hh] at h1; cases h1
        | some ob => rw [hf b ob hb hh]; rw [hh] at h1; exact h1
theorem Strm.frame {h h' : Heap} {i : Nat} {l : Sl} {zs : List Int} {t t' : Nat} (S : Strm h i l zs t) (hc : h' i = some (strm l t')) (hf : ∀ j o, j ≠ i → h j = some o → h' j = some o) (ht : t' < 1000000000) : Strm h' i l zs t' :=
  ⟨hc, S.at_ hf, S.apart, ht⟩
theorem Strm.next {h : Heap} {i : Nat} {l : Sl} {zs : List Int} {t : Nat} (S : Strm h i l zs t) (ht : t + 1 < 1000000000) : Strm (h.set i (strm l (t + 1))) i l zs (t + 1) :=
  S.frame (set_eq _ _ _) (fun j o hj hh => by rw [set_ne _ _ hj]; exact hh) ht
theorem Strm.ext {h h' : Heap} {i : Nat} {l : Sl} {zs : List Int} {t : Nat} (S : Strm h i l zs t) (he : Ext h h') : Strm h' i l zs t :=
  S.frame (he _ _ S.cell) (fun j o _ hh => he _ _ hh) S.small
theorem spec19 (hI : Closed' prog Pm I) {i : Nat} {l : Sl} {zs : List Int} {t : Nat} {n : Int} (S : Strm h i l zs t) (h1 : 1 ≤ n) (h2 : n < 4611686018427387904)
    (hQ : ∀ v, 0 ≤ v → v < n → Q [int v] (h.set i (strm l (t + 1)))) : I 19 [.one (.ptr (some (i, 0))), int n] Q h := by
  have ht := S.small
  have hw : IntKind.i64.wrap ((t : Int) + 1) = ((t + 1 : Nat) : Int) := by rw [w64] <;> omega
  have hw2 : IntKind.i64.wrap (((t + 1 : Nat) : Int) - 1) = t := by rw [w64] <;> omega
  have hc' : (h.set i (strm l (t + 1))) i = some (strm l (t + 1)) := set_eq _ _ _
  have S' : At (h.set i (strm l (t + 1))) 1 l (ints zs) := S.at_ fun j o hj hh => by rw [set_ne _ _ hj]; exact hh
  have r0 : ∀ {o : Nat}, o = 0 → (h.set i (strm l (t + 1))).read i o 1 = some [.slice 1 l] := fun e => by subst e; exact read_cell hc' rfl
  have r1 : ∀ {o : Nat}, o = 1 → (h.set i (strm l (t + 1))).read i o 1 = some [.int .i64 ((t + 1 : Nat) : Int)] := fun e => by subst e; exact read_cell hc' rfl
  refine hI.go _ _ (den19 I (some (i, 0)) n Q) ?_
  refine derefK_intro rfl ⟨t, read_cell S.cell rfl, derefK_intro rfl (storeK_one S.cell (by simp) ?_)⟩
  rw [hw]
  show derefK _ _ (h.set i (strm l (t + 1)))
  refine derefK_intro rfl ⟨l, r0 rfl, ifT_dec (fun h3 => ?_) (fun h3 => ?_)⟩
  · refine derefK_intro rfl ⟨_, r1 rfl, spec49 hI h1 h2 fun v h4 h5 => ⟨v, rfl, hQ v h4 h5⟩⟩
  · have hp : 0 < (l.len : Int) := by omega
    have hm := Int.tmod_lt_of_pos (t : Int) hp
    have hm0 : 0 ≤ (t : Int).tmod l.len := Int.tmod_nonneg _ (by omega)
    refine derefK_intro rfl ⟨_, r1 rfl, derefK_intro rfl ⟨l, r0 rfl, h3, derefK_intro rfl ⟨_, r1 rfl, derefK_intro rfl ⟨l, r0 rfl, h3, derefK_intro rfl ⟨l, r0 rfl, ?_⟩⟩⟩⟩⟩
    rw [hw2]
    refine ⟨⟨hm0, hm⟩, S'.one hm0 hm fun b o c hc hr => ?_⟩
    simp only [ints, List.getElem?_map] at hc
    cases hz : zs[((t : Int).tmod l.len).toNat]? with
    | none => rw [hz] at hc; cases hc
    | some z =>
      rw [hz] at hc
      cases hc
      exact ⟨z, hr, spec49 hI (by decide) (by decide) fun w _ _ => ⟨w, rfl, spec49 hI h1 h2 fun v h4 h5 => ⟨v, rfl, hQ v h4 h5⟩⟩⟩
/-- One of some numbers. -/
theorem spec18 (hI : Closed' prog Pm I) {i : Nat} {l : Sl} {zs : List Int} {t : Nat} {s : Sl} {xs : List Int} (S : Strm h i l zs t) (hs : At (h.set i (strm l (t + 1))) 1 s (ints xs)) (h1 : xs ≠ []) (h2 : xs.length < 1000)
    (hQ : ∀ v ∈ xs, Q [int v] (h.set i (strm l (t + 1)))) : I 18 [.one (.ptr (some (i, 0))), .one (.slice 1 s)] Q h := by
  have hl : s.len = xs.length := by simpa [ints] using hs.1
  have hpos := List.length_pos_iff.2 h1
  refine hI.go _ _ (den18 I (some (i, 0)) s Q) ?_
  refine spec19 hI S (by omega) (by omega) fun v h3 h4 => ⟨v, rfl, ⟨h3, h4⟩, hs.one h3 h4 fun b o c hc hr => ?_⟩
  simp only [ints, List.getElem?_map] at hc
  cases hz : xs[v.toNat]? with
  | none => rw [hz] at hc; cases hc
  | some z =>
    rw [hz] at hc
    cases hc
    exact ⟨z, hr, hQ z (List.mem_of_getElem? hz)⟩
/-! ### codes -/
/-! ### looking a string up -/
def strs (l : List ByteArray) : List Cell := l.map .str
end
end Go.Proofs.YtdjancoknephnaaGreatVc
-- from CcSpec2
namespace Go.Proofs.YtdjancoknephnaaGreatVc
open Go.Proofs.Tryz (prog)
section
variable {I : Calls} {Q : Post} {h : Heap}
theorem shr32 (a : Nat) : shr .u64 (a : Int) 32 = ((a / 4294967296 : Nat) : Int) := shr_nat a 32 .u64 rfl (by decide)
theorem mask32 (a : Nat) (ha : a < 18446744073709551616) : IntKind.u64.wrap ((BitVec.ofInt 64 (a : Int) &&& BitVec.ofInt 64 4294967295).toNat : Int) = ((a % 4294967296 : Nat) : Int) := and_mask a ha
theorem wN (a : Nat) (ha : a < 18446744073709551616) : IntKind.u64.wrap (a : Int) = (a : Int) := wu64 (by omega) (by omega)
theorem wM (a : Nat) : IntKind.u64.wrap (a : Int) = ((a % 18446744073709551616 : Nat) : Int) := by rw [IntKind.wrap_u64]; omega
theorem mN (a b : Nat) : (a : Int) * (b : Int) = ((a * b : Nat) : Int) := (Int.natCast_mul a b).symm
theorem aN (a b : Nat) : (a : Int) + (b : Int) = ((a + b : Nat) : Int) := (Int.natCast_add a b).symm
theorem div_start {U Y : Nat} (hU : U < 18446744073709551616) : IntKind.u64.wrap ((U : Int).tdiv (Y : Int)) = ((U / Y : Nat) : Int) ∧ IntKind.u64.wrap ((U : Int) - IntKind.u64.wrap (((U / Y : Nat) : Int) * (Y : Int))) = ((U % Y : Nat) : Int) := by
  have h1 : U / Y ≤ U := Nat.div_le_self _ _
  have h2 := Nat.div_add_mod U Y
  rw [Nat.mul_comm] at h2
  constructor
  · rw [← Int.ofNat_tdiv, wN _ (by omega)]
  · rw [mN]
    generalize U / Y * Y = z at *
    rw [wN _ (by omega), wu64 (by omega) (by omega)]
    omega
end
end Go.Proofs.YtdjancoknephnaaGreatVc
-- from CcSpec4
namespace Go.Proofs.YtdjancoknephnaaGreatVc
open Go.Proofs.Tryz (prog)
section
variable {I : Calls} {Q : Post} {h : Heap}
theorem full_ok {ds gs : List Nat} {n x : Nat} (hds : ∀ d ∈ ds, d < 31) (hg : ∀ d ∈ gs, d < 31) (hx : x < 31) : ∀ d ∈ ds ++ gs ++ [x], d < 31 := fun d hd => by
  rcases List.mem_append.1 hd with hd | hd
  · rcases List.mem_append.1 hd with hd | hd
    · exact hds d hd
    · exact hg d hd
  · have : d = x := by simpa using hd
    omega
theorem Strm.make {h : Heap} {i : Nat} {l : Sl} {zs : List Int} (hs : At h 1 l (ints zs)) (hi : h i = none) : Strm (h.set i (strm l 0)) i l zs 0 := by
  refine ⟨set_eq _ _ _, (Ext.new hi).at_ hs, ?_, by decide⟩
  rcases hs.2 with h1 | h1
  · left; simpa [ints] using h1
  · right
    rintro b o ha rfl
    unfold Heap.sl at h1
    rw [ha] at h1
    simp only [Heap.read, hi] at h1
    cases h1
end
end Go.Proofs.YtdjancoknephnaaGreatVc
-- from CnSpec
namespace Go.Proofs.YtdjancoknephnaaGreatVc
open Go.Proofs.Tryz (prog)
section
variable {I : Calls} {Q : Post} {h : Heap}
theorem spec17 (hI : Closed' prog Pm I) {i : Nat} {l : Sl} {zs : List Int} {t : Nat} {n : Int} (S : Strm h i l zs t) (h1 : 1 ≤ n) (h2 : n < 4611686018427387904)
    (hQ : ∀ b, Q [boo b] (h.set i (strm l (t + 1)))) : I 17 [.one (.ptr (some (i, 0))), int n] Q h := by
  refine hI.go _ _ (den17 I (some (i, 0)) n Q) ?_
  exact spec19 hI S h1 h2 fun v _ _ => ⟨v, rfl, hQ _⟩
theorem extract_le (s : ByteArray) (a b : Nat) : (s.extract a b).size ≤ s.size := by
  rw [ByteArray.size_extract]; omega
theorem nonempty_size {s : ByteArray} (h : s ≠ ⟨#[]⟩) : 0 < s.size := by
  rcases Nat.eq_zero_or_pos s.size with h1 | h1
  · exfalso
    apply h
    obtain ⟨⟨l⟩⟩ := s
    cases l with
    | nil => rfl
    | cons x l => simp [ByteArray.size] at h1
  · exact h1
end
end Go.Proofs.YtdjancoknephnaaGreatVc
-- from CsSort
namespace Go.Proofs.YtdjancoknephnaaGreatVc
open Go.Proofs.Tryz (prog)
section
variable {I : Calls} {Q : Post} {h : Heap}
theorem ints_get {xs : List Int} {i : Nat} {x : Int} (h : xs[i]? = some x) : (ints xs)[i]? = some (.int .i64 x) := by
  unfold ints; rw [List.getElem?_map, h]; rfl
theorem ints_set (xs : List Int) (i : Nat) (x : Int) : (ints xs).set i (.int .i64 x) = ints (xs.set i x) := by
  unfold ints; rw [List.map_set]
theorem ints_length (xs : List Int) : (ints xs).length = xs.length := by simp [ints]
theorem set_self {h : Heap} {i : Nat} {o : Obj} (hi : h i = some o) : h.set i o = h := by
  funext j
  unfold Heap.set
  by_cases hj : j = i
  · subst hj; simp [hi]
  · simp [hj]
end
end Go.Proofs.YtdjancoknephnaaGreatVc
-- from CsSpec1
namespace Go.Proofs.YtdjancoknephnaaGreatVc
open Go.Proofs.Tryz (prog)
def nats (l : List Nat) : List Cell := l.map fun n : Nat => .int .i64 (n : Int)
theorem nats_ints (l : List Nat) : nats l = ints (l.map fun n : Nat => (n : Int)) := by simp [nats, ints, List.map_map, Function.comp_def]
theorem nats_length (l : List Nat) : (nats l).length = l.length := by simp [nats]
theorem nats_get {xs : List Nat} {i n : Nat} (h : xs[i]? = some n) : (nats xs)[i]? = some (.int .i64 (n : Int)) := by unfold nats; rw [List.getElem?_map, h]; rfl
theorem nats_set (xs : List Nat) (i n : Nat) : (nats xs).set i (.int .i64 (n : Int)) = nats (xs.set i n) := by unfold nats; rw [List.map_set]
section
variable {I : Calls} {Q : Post} {h : Heap}
/-- A cell is read of a slice. -/
theorem At.cell {s : Sl} {xs : List Cell} {i : Nat} {c : Cell} {f : Nat → Nat → T} (hs : At h 1 s xs) (hx : xs[i]? = some c) (hk : ∀ b o, h.read b (o + (i : Int).toNat * 1) 1 = some [c] → f b o h) : derefK s.a f h := by
  have hlt : i < xs.length := (List.getElem?_eq_some_iff.1 hx).1
  have hl := hs.1
  refine hs.one (i := (i : Int)) (by omega) (by omega) fun b o c' hc hr => ?_
  rw [Int.toNat_natCast] at hc
  rw [hx] at hc
  cases hc
  exact hk b o hr
theorem At.len1 {s : Sl} {xs : List Cell} (hs : At h 1 s xs) : s.len = xs.length := by simpa using hs.1
/-! ### the stream's block, among one's own -/
abbrev owS (i : Nat) (l : Sl) (t : Nat) : Ow := (1, ⟨some (i, 0), 2⟩, [.slice 1 l, .int .i64 t])
theorem Strm.owns {i : Nat} {l : Sl} {zs : List Int} {t : Nat} (S : Strm h i l zs t) : Owns (h.del i) h [owS i l t] := by
  refine ⟨fun j o hj => ?_, fun p hp => ?_, by simp⟩
  · by_cases e : j = i
    · subst e; simp [Heap.del] at hj
    · rw [del_ne _ e] at hj; exact hj
  · have : p = owS i l t := by simpa using hp
    subst this
    exact ⟨rfl, .inr ⟨i, rfl, by simp [Heap.del], S.cell⟩⟩
theorem Owns.toStrm {h' : Heap} {L : List Ow} {i : Nat} {l : Sl} {zs : List Int} {t t' : Nat} (S : Strm h i l zs t) (o : Owns (h.del i) h' L) (hm : owS i l t' ∈ L) (ht : t' < 1000000000) : Strm h' i l zs t' :=
  S.frame (o.block hm).1 (fun j x hj hx => o.ext _ _ (by rw [del_ne _ hj]; exact hx)) ht
theorem Owns.strmCell {h' : Heap} {L : List Ow} {i : Nat} {l : Sl} {t : Nat} (o : Owns h h' L) (hm : owS i l t ∈ L) : h' i = some (strm l t) := (o.block hm).1
theorem Owns.next {h' : Heap} {L : List Ow} {i : Nat} {l : Sl} {t t' : Nat} (o : Owns h h' (owS i l t :: L)) : Owns h (h'.set i (strm l t')) (owS i l t' :: L) := o.change rfl
theorem Owns.slen {h' : Heap} {L : List Ow} {s : Sl} {cs : List Cell} (o : Owns h h' L) (hm : (1, s, cs) ∈ L) : s.len = cs.length := by
  have := (o.all _ hm).1; simpa using this
theorem Owns.sl {h' : Heap} {L : List Ow} {s : Sl} {cs : List Cell} (o : Owns h h' L) (hm : (1, s, cs) ∈ L) : h'.sl 1 s = some cs := by
  obtain ⟨h1, h2 | ⟨k, h2, _, h3⟩⟩ := o.all _ hm
  · simp only at h2; unfold Heap.sl; rw [h2.1, h2.2]
  · simp only at h1 h2 h3
    unfold Heap.sl
    rw [h2]
    show h'.read k 0 (s.len * 1) = _
    rw [read_block h3 (by omega), h1, List.drop_zero, List.take_length]
theorem Owns.has {h' : Heap} {L : List Ow} {s : Sl} {cs : List Cell} {sz : Nat} (o : Owns h h' L) (hm : (sz, s, cs) ∈ L) (hne : cs ≠ []) : ∃ i, s = ⟨some (i, 0), s.len⟩ ∧ h' i = some (.cells false cs) := by
  obtain ⟨h1, h2 | ⟨k, h2, _, h3⟩⟩ := o.all _ hm
  · exact absurd h2.2 hne
  · obtain ⟨a, n⟩ := s
    simp only at h2
    subst h2
    exact ⟨k, rfl, h3⟩
end
end Go.Proofs.YtdjancoknephnaaGreatVc
-- from SpSpec1
namespace Go.Proofs.YtdjancoknephnaaGreatVc
open Go.Proofs.Tryz (prog)
section
variable {I : Calls} {Q : Post} {h : Heap}
abbrev frac (a b : Int) : V := .agg [.int .i64 a, .int .i64 b]
theorem sum_step {xs : List Nat} {i : Nat} (h : i < xs.length) : (xs.take (i + 1)).sum = (xs.take i).sum + xs[i] := by
  rw [List.take_add_one, List.getElem?_eq_getElem h]
  show (xs.take i ++ [xs[i]]).sum = _
  rw [List.sum_append]; simp
/-! ### weights -/
structure RightW (xs : List Int) (ws : List Nat) : Prop where
  xs : xs = ws.map fun n : Nat => (n : Int)
  ws1 : ∀ w ∈ ws, w ≤ 1000000
  pos : 0 < ws.sum
  len : ws.length ≤ 12
end
end Go.Proofs.YtdjancoknephnaaGreatVc
-- from QfSpec3
namespace Go.Proofs.YtdjancoknephnaaGreatVc
open Go.Proofs.Tryz (prog)
section
variable {I : Calls} {Q : Post} {h : Heap}
/-- A literal lies where it was put, whatever becomes of the stream. -/
theorem lit_at {h h0 : Heap} {i j n : Nat} {o : Obj} {xs : List Int} (hne : j ≠ i) (he : h = h0.set j (.cells false (ints xs))) (hn : n = xs.length) : At (h.set i o) 1 ⟨some (j, 0), n⟩ (ints xs) := by
  refine ⟨by rw [ints_length]; simp [hn], .inr ?_⟩
  show (h.set i o).read j 0 (n * 1) = _
  unfold Heap.read
  rw [set_ne _ _ hne, he, set_eq]
  subst hn
  simp [ints, List.take_of_length_le]
end
end Go.Proofs.YtdjancoknephnaaGreatVc
-- from SeKey
namespace Go.Proofs.YtdjancoknephnaaGreatVc
open Go.Proofs.Tryz (prog)
section
variable {I : Calls} {Q : Post} {h : Heap}
theorem spec72 (hI : Closed' prog Pm I) {n a b : Int} (hQ : Q [boo (decide (a ≤ n) && decide (n ≤ b))] h) : I 72 [int n, int a, int b] Q h := by
  refine hI.go _ _ (den72 I n a b Q) ?_
  refine ifT_dec (fun h1 => ?_) (fun h1 => ?_)
  · simpa [h1] using hQ
  · simpa [h1] using hQ
abbrev u8 (b : UInt8) : V := .one (.int .u8 (b.toNat : Int))
theorem spec73 (hI : Closed' prog Pm I) {b : UInt8} (hQ : Q [boo (smallB b)] h) : I 73 [u8 b] Q h := by
  refine hI.go _ _ (den73 I _ Q) ?_
  unfold smallB at hQ
  refine ifT_dec (fun h1 => ?_) (fun h1 => ?_)
  · have e : decide (97 ≤ b.toNat) = true := by simp; omega
    rw [e, Bool.true_and] at hQ
    have e2 : decide ((b.toNat : Int) ≤ 122) = decide (b.toNat ≤ 122) := by rw [decide_eq_decide]; omega
    rw [e2]; exact hQ
  · have e : decide (97 ≤ b.toNat) = false := by simp; omega
    rw [e, Bool.false_and] at hQ
    exact hQ
theorem spec76 (hI : Closed' prog Pm I) {b : UInt8} (hQ : Q [boo (digitB b)] h) : I 76 [u8 b] Q h := by
  refine hI.go _ _ (den76 I _ Q) ?_
  unfold digitB at hQ
  refine ifT_dec (fun h1 => ?_) (fun h1 => ?_)
  · have e : decide (48 ≤ b.toNat) = true := by simp; omega
    rw [e, Bool.true_and] at hQ
    have e2 : decide ((b.toNat : Int) ≤ 57) = decide (b.toNat ≤ 57) := by rw [decide_eq_decide]; omega
    rw [e2]; exact hQ
  · have e : decide (48 ≤ b.toNat) = false := by simp; omega
    rw [e, Bool.false_and] at hQ
    exact hQ
theorem spec75 (hI : Closed' prog Pm I) {b : UInt8} (hQ : Q [boo (keyB b)] h) : I 75 [u8 b] Q h := by
  refine hI.go _ _ (den75 I _ Q) ?_
  unfold keyB at hQ
  refine spec73 hI ⟨_, rfl, ifT_intro (fun h1 => ?_) fun h1 => spec76 hI ⟨_, rfl, ifT_intro (fun h2 => ?_) fun h2 => ifT_dec (fun h3 => ?_) fun h3 => ?_⟩⟩
  · rw [h1] at hQ; simpa using hQ
  · rw [h1, h2] at hQ; simpa using hQ
  · have e : decide (b.toNat = 45) = true := by simp; omega
    rw [h1, h2, e] at hQ; simpa using hQ
  · have e : decide (b.toNat = 45) = false := by simp; omega
    rw [h1, h2, e] at hQ
    have e2 : decide ((b.toNat : Int) = 95) = decide (b.toNat = 95) := by rw [decide_eq_decide]; omega
    rw [e2]; simpa using hQ
theorem all_take_step {l : List UInt8} {p : UInt8 → Bool} {i : Nat} {b : UInt8} (hb : l[i]? = some b) : (l.take (i + 1)).all p = ((l.take i).all p && p b) := by
  rw [List.take_add_one, hb]
  show (l.take i ++ [b]).all p = _
  rw [List.all_append]; simp
theorem spec74 (hI : Closed' prog Pm I) {s : ByteArray} (hl : s.size < 1000) (hQ : Q [boo ((bl s).all keyB)] h) : I 74 [str s, .one (.func (some (75, [])))] Q h := by
  refine hI.go _ _ (den74 I s _ Q) ?_
  refine loopK_intro (fun (a : Int) h' m => h' = h ∧ ∃ i : Nat, i ≤ s.size ∧ a = i ∧ m = s.size - i ∧ ((bl s).take i).all keyB = true) s.size ⟨rfl, 0, by omega, rfl, rfl, rfl⟩ ?_
  rintro a h' m ⟨rfl, i, hi, rfl, rfl, hall⟩
  refine ifT_dec (fun hlt => ⟨⟨by omega, hlt⟩, ?_⟩) (fun hge => ?_)
  · have hlt' : i < (bl s).length := by rw [← bl_size]; omega
    have hb := List.getElem?_eq_getElem hlt'
    generalize (bl s)[i] = b at hb
    rw [byteAt_bl hb]
    refine spec75 hI ⟨_, rfl, ifT_intro (fun h1 => ?_) fun h1 => ?_⟩
    · have e : (bl s).all keyB = false := by
        rw [List.all_eq_false]
        exact ⟨b, List.mem_of_getElem? hb, by simpa using h1⟩
      rw [e] at hQ; exact hQ
    · refine ⟨s.size - (i + 1), by omega, rfl, i + 1, by omega, by rw [w64] <;> omega, rfl, ?_⟩
      rw [all_take_step hb, hall]
      simpa using h1
  · have : i = s.size := by omega
    subst this
    rw [bl_size, List.take_length] at hall
    rw [hall] at hQ
    exact hQ
theorem spec52 (hI : Closed' prog Pm I) {s : ByteArray} (hQ : Q [boo (isKey s)] h) : I 52 [str s] Q h := by
  refine hI.go _ _ (den52 I s Q) ?_
  unfold isKey at hQ
  have hsz := bl_size s
  refine spec72 hI ⟨_, rfl, ifT_intro (fun hb => ?_) fun hb => ?_⟩
  · have hb' : 1 ≤ s.size ∧ s.size ≤ 40 := by simp at hb; omega
    cases hl : bl s with
    | nil =>
      rw [hl] at hsz
      have : s.size = 0 := hsz
      omega
    | cons b l =>
      have h0 : (bl s)[0]? = some b := by rw [hl]; rfl
      have e0 := byteAt_bl h0
      rw [hl] at hQ
      have e1 : decide (l.length + 1 ≤ 40) = true := by rw [hl] at hsz; simp at hsz ⊢; omega
      refine ⟨⟨by decide, by omega⟩, ?_⟩
      have e0' : byteAt s 0 = (b.toNat : Int) := e0
      rw [e0']
      simp only [isKeyL, e1, Bool.true_and] at hQ
      refine spec73 hI ⟨_, rfl, ifT_intro (fun h1 => ?_) fun h1 => ?_⟩
      · rw [h1, Bool.true_and, ← hl] at hQ
        exact spec74 hI (by omega) ⟨_, rfl, hQ⟩
      · rw [h1, Bool.false_and] at hQ
        exact hQ
  · have hb' : ¬ (1 ≤ s.size ∧ s.size ≤ 40) := fun h => by
      have : (decide ((1 : Int) ≤ (s.size : Int)) && decide ((s.size : Int) ≤ 40)) = true := by simp; omega
      rw [this] at hb; cases hb
    have e : isKeyL (bl s) = false := by
      cases hl : bl s with
      | nil => rfl
      | cons b l =>
        have : decide (l.length + 1 ≤ 40) = false := by rw [hl] at hsz; simp at hsz ⊢; omega
        simp only [isKeyL, this, Bool.false_and]
    rw [e] at hQ
    exact hQ
/-! ### strings.Trim -/
theorem storeK_whole {i : Nat} {cs ns : List Cell} {k : T} (hi : h i = some (.cells false cs)) (hl : ns.length = cs.length) (hk : k (h.set i (.cells false ns))) : storeK [] i 0 ns k h := by
  have e : updCells cs 0 ns = ns := by
    rw [updCells_eq cs 0 ns (by omega)]
    unfold splice
    simp [hl]
  refine ⟨cs, hi, by omega, ?_⟩
  show k (h.set i (.cells false (updCells cs 0 ns)))
  rw [e]
  exact hk
def smallsS : ByteArray := ⟨#[97, 98, 99, 100, 101, 102, 103, 104, 105, 106, 107, 108, 109, 110, 111, 112, 113, 114, 115, 116, 117, 118, 119, 120, 121, 122]⟩
def keysS : ByteArray := ⟨#[97, 98, 99, 100, 101, 102, 103, 104, 105, 106, 107, 108, 109, 110, 111, 112, 113, 114, 115, 116, 117, 118, 119, 120, 121, 122, 48, 49, 50, 51, 52, 53, 54, 55, 56, 57, 45, 95]⟩
theorem smalls_in : ∀ n : Nat, n < 256 → inC (bl smallsS) n = smallB n.toUInt8 := by decide +kernel
theorem keys_in : ∀ n : Nat, n < 256 → inC (bl keysS) n = keyB n.toUInt8 := by decide +kernel
end
end Go.Proofs.YtdjancoknephnaaGreatVc
-- from SeSpec2
namespace Go.Proofs.YtdjancoknephnaaGreatVc
open Go.Proofs.Tryz (prog)
section
variable {I : Calls} {Q : Post} {h : Heap}
theorem nb {b : Bool} (h : (!b) = true) : b = false := by simpa using h
theorem nb' {b : Bool} (h : (!b) = false) : b = true := by simpa using h
theorem nd {p : Prop} [Decidable p] (h : (!decide p) = true) : ¬ p := by simpa using h
theorem nd' {p : Prop} [Decidable p] (h : (!decide p) = false) : ¬ ¬ p := by simpa using h
/-! ### the answer's -/
theorem any_take_step {α : Type} {l : List α} {p : α → Bool} {i : Nat} {b : α} (hb : l[i]? = some b) : (l.take (i + 1)).any p = ((l.take i).any p || p b) := by
  rw [List.take_add_one, hb]
  show (l.take i ++ [b]).any p = _
  rw [List.any_append]; simp
end
end Go.Proofs.YtdjancoknephnaaGreatVc
-- from SeSpec3
namespace Go.Proofs.YtdjancoknephnaaGreatVc
open Go.Proofs.Tryz (prog)
theorem take_snoc {α : Type} {l : List α} {k : Nat} {x : α} (h : l[k]? = some x) : l.take (k + 1) = l.take k ++ [x] := by rw [List.take_add_one, h]; rfl
section
variable {I : Calls} {Q : Post} {h : Heap}
end
end Go.Proofs.YtdjancoknephnaaGreatVc
-- from SeSpec4
namespace Go.Proofs.YtdjancoknephnaaGreatVc
open Go.Proofs.Tryz (prog)
theorem encode_size (n : Int) : (Utf8.encode n).size ≤ 4 := by
  unfold Utf8.encode
  simp only
  repeat' split
  all_goals first | exact (show (1 : Nat) ≤ 4 by decide) | exact (show (2 : Nat) ≤ 4 by decide) | exact (show (3 : Nat) ≤ 4 by decide) | exact (show (4 : Nat) ≤ 4 by decide)
section
variable {I : Calls} {Q : Post} {h : Heap}
theorem Owns.ne {h0 h : Heap} {p q : Ow} {l : List Ow} {i j : Nat} (o : Owns h0 h (p :: l)) (hq : q ∈ l) (hi : p.2.1.a = some (i, 0)) (hj : q.2.1.a = some (j, 0)) : i ≠ j := fun e => by
  subst e; exact (List.pairwise_cons.1 o.apart).1 q hq i hi hj
theorem lit_atC {h h0 : Heap} {i j n : Nat} {o : Obj} {cs : List Cell} (hne : j ≠ i) (he : h = h0.set j (.cells false cs)) (hn : n = cs.length) : At (h.set i o) 1 ⟨some (j, 0), n⟩ cs := by
  refine ⟨by simp [hn], .inr ?_⟩
  show (h.set i o).read j 0 (n * 1) = _
  unfold Heap.read
  rw [set_ne _ _ hne, he, set_eq]
  subst hn
  simp
theorem spec20 (hI : Closed' prog Pm I) {i : Nat} {l : Sl} {zs : List Int} {t : Nat} {s : Sl} {xs : List ByteArray} (S : Strm h i l zs t) (hs : At (h.set i (strm l (t + 1))) 1 s (strs xs)) (h1 : xs ≠ []) (h2 : xs.length < 1000)
    (hQ : ∀ v ∈ xs, Q [str v] (h.set i (strm l (t + 1)))) : I 20 [.one (.ptr (some (i, 0))), .one (.slice 1 s)] Q h := by
  have hl : s.len = xs.length := by simpa [strs] using hs.1
  have hpos := List.length_pos_iff.2 h1
  refine hI.go _ _ (den20 I (some (i, 0)) s Q) ?_
  refine spec19 hI S (by omega) (by omega) fun v h3 h4 => ⟨v, rfl, ⟨h3, h4⟩, hs.one h3 h4 fun b o c hc hr => ?_⟩
  simp only [strs, List.getElem?_map] at hc
  cases hz : xs[v.toNat]? with
  | none => rw [hz] at hc; cases hc
  | some z =>
    rw [hz] at hc
    cases hc
    exact ⟨z, hr, hQ z (List.mem_of_getElem? hz)⟩
section
variable {hb : Heap} {i : Nat} {l : Sl} {zs : List Int} {t0 : Nat}
/-- A new literal is not the stream's block. -/
theorem Owns.lit_ne {h : Heap} {t j : Nat} {L : List Ow} (o : Owns (hb.del i) h (owS i l t :: L)) (hn : h j = none) : j ≠ i := fun e => by
  subst e; rw [o.strmCell (l := l) (t := t) (by simp)] at hn; cases hn
end
end
end Go.Proofs.YtdjancoknephnaaGreatVc
-- from PuSpec1
namespace Go.Proofs.YtdjancoknephnaaGreatVc
open Go.Proofs.Tryz (prog)
open Go.Proofs.YtdjancoknephnaaGreatCodes
section
variable {I : Calls} {Q : Post} {h : Heap}
/-! ### codes -/
theorem spec64 (hI : Closed' prog Pm I) {n a b : Int} (hQ : Q [boo (decide (a ≤ n) && decide (n ≤ b))] h) : I 64 [int n, int a, int b] Q h := by
  refine hI.go _ _ (den64 I n a b Q) ?_
  refine ifT_dec (fun h1 => ?_) (fun h1 => ?_)
  · simpa [h1] using hQ
  · simpa [h1] using hQ
theorem spec110 (hI : Closed' prog Pm I) {s : ByteArray} {c : Int} (hQ : Q [int (firstIdx s c.toNat.toUInt8)] h) : I 110 [str s, .one (.int .u8 c)] Q h := by
  refine hI.go _ _ (den110 I s c Q) ?_
  exact hI.prim _ _ _ _ ⟨rfl, s, c, rfl, _, rfl, hQ⟩
theorem spec95 (hI : Closed' prog Pm I) {s : ByteArray} {c : Int} (hQ : Q [int (firstIdx s c.toNat.toUInt8)] h) : I 95 [str s, .one (.int .u8 c)] Q h := by
  refine hI.go _ _ (den95 I s c Q) ?_
  exact spec110 hI ⟨_, rfl, hQ⟩
/-- The number of a sign of a code. -/
theorem spec95_code (hI : Closed' prog Pm I) {ds : List Nat} (hds : ∀ d ∈ ds, d < 31) {i d : Nat} (hd : ds[i]? = some d) (hQ : Q [int (d : Int)] h) : I 95 [str signS, .one (.int .u8 (byteAt (code ds) (i : Int)))] Q h := by
  refine spec95 hI ?_
  rw [byteAt_code hd, idx_code (hds d (List.mem_of_getElem? hd))]
  exact hQ
theorem spec68 (hI : Closed' prog Pm I) {ds : List Nat} (hds : ∀ d ∈ ds, d < 31) (hl : ds.length < 1000) (hQ : Q [boo true] h) : I 68 [str (code ds)] Q h := by
  refine hI.go _ _ (den68 I (code ds) Q) ?_
  have hsz := code_size ds
  refine loopK_intro (fun a h' m => h' = h ∧ ∃ i : Nat, i ≤ ds.length ∧ a = i ∧ m = ds.length - i) ds.length ⟨rfl, 0, by omega, rfl, rfl⟩ ?_
  rintro a h' m ⟨rfl, i, hi, rfl, rfl⟩
  refine ifT_dec (fun hlt => ⟨⟨by omega, hlt⟩, ?_⟩) (fun hge => hQ)
  have hlt' : i < ds.length := by omega
  refine spec95_code hI hds (List.getElem?_eq_getElem hlt') ⟨_, rfl, ifT_dec (fun h1 => by omega) (fun h1 => ?_)⟩
  exact ⟨ds.length - (i + 1), by omega, rfl, i + 1, by omega, by rw [w64] <;> omega, rfl⟩
theorem spec96 (hI : Closed' prog Pm I) {ds : List Nat} (hds : ∀ d ∈ ds, d < 31) (hl : ds.length < 1000) (hQ : Q [int ((wsum ds % 31 : Nat) : Int)] h) : I 96 [str (code ds)] Q h := by
  refine hI.go _ _ (den96 I (code ds) Q) ?_
  have hsz := code_size ds
  refine loopK_intro (fun (a : Int × Int) h' m => h' = h ∧ ∃ i : Nat, i ≤ ds.length ∧ a = (((wsum (ds.take i) : Nat) : Int), (i : Int)) ∧ m = ds.length - i) ds.length ⟨rfl, 0, by omega, by simp [wsum], rfl⟩ ?_
  rintro a h' m ⟨rfl, i, hi, rfl, rfl⟩
  refine ifT_dec (fun hlt => ⟨⟨by omega, hlt⟩, ?_⟩) (fun hge => ?_)
  · have hlt' : i < ds.length := by omega
    have hd := List.getElem?_eq_getElem hlt'
    refine spec95_code hI hds hd ⟨_, rfl, ds.length - (i + 1), by omega, rfl, i + 1, by omega, ?_, rfl⟩
    have h1 := wsum_le ds hds i hi
    have h2 : i * i ≤ 1000 * 1000 := Nat.mul_le_mul (by omega) (by omega)
    have h3 := hds _ (List.getElem_mem hlt')
    have h4 : (i + 1) * ds[i] ≤ 1000 * 31 := Nat.mul_le_mul (by omega) (by omega)
    rw [wsum_take ds i _ hd]
    have e1 : IntKind.i64.wrap ((i : Int) + 1) = ((i + 1 : Nat) : Int) := by rw [w64] <;> omega
    rw [e1, ← Int.natCast_mul]
    generalize (i + 1) * ds[i] = z at *
    generalize wsum (ds.take i) = y at *
    rw [w64 (n := (z : Int)) (by omega) (by omega), w64 (by omega) (by omega)]
    rfl
  · have : i = ds.length := by omega
    subst this
    have e : ((wsum ds : Nat) : Int).tmod 31 = ((wsum ds % 31 : Nat) : Int) := by
      rw [Int.tmod_eq_emod_of_nonneg (by omega)]; omega
    simp only [List.take_length]
    rw [e]
    exact hQ
/-- A code gets the sign with which its sum is nothing. -/
theorem spec69 (hI : Closed' prog Pm I) {ds : List Nat} (hds : ∀ d ∈ ds, d < 31) (hl : ds.length < 25)
    (hQ : ∀ x, x < 31 → wsum (ds ++ [x]) % 31 = 0 → Q [str (code (ds ++ [x]))] h) : I 69 [str (code ds)] Q h := by
  refine hI.go _ _ (den69 I (code ds) Q) ?_
  have hsz := code_size ds
  refine loopK_intro (fun a h' m => h' = h ∧ ∃ i : Nat, i ≤ 31 ∧ a = i ∧ m = 31 - i ∧ ∀ x, x < i → wsum (ds ++ [x]) % 31 ≠ 0) 31 ⟨rfl, 0, by omega, rfl, rfl, fun x hx => by omega⟩ ?_
  rintro a h' m ⟨rfl, i, hi, rfl, rfl, hno⟩
  have e1 : IntKind.i64.wrap ((i : Int) + 1) = ((i + 1 : Nat) : Int) := by rw [w64] <;> omega
  refine ifT_dec (fun hlt => ?_) (fun hge => ?_)
  · have hlt' : i < 31 := by omega
    rw [e1]
    simp only [Int.toNat_natCast]
    rw [sign_one hlt', code_append]
    refine ⟨⟨by omega, by omega, by show ((i + 1 : Nat) : Int) ≤ ((31 : Nat) : Int); omega⟩, by rw [code_size, code_size]; simp; omega, ?_⟩
    have hds' : ∀ d ∈ ds ++ [i], d < 31 := fun d hd => by
      rcases List.mem_append.1 hd with hd | hd
      · exact hds d hd
      · have : d = i := by simpa using hd
        omega
    refine spec96 hI hds' (by simp; omega) ⟨_, rfl, ifT_dec (fun h0 => ?_) (fun h0 => ?_)⟩
    · exact hQ i hlt' (by omega)
    · refine ⟨31 - (i + 1), by omega, rfl, i + 1, by omega, rfl, rfl, fun x hx => ?_⟩
      rcases Nat.lt_or_ge x i with hx' | hx'
      · exact hno x hx'
      · have : x = i := by omega
        subst this
        intro h; exact h0 (by rw [h]; rfl)
  · exfalso
    obtain ⟨x, hx, he⟩ := seal_exists ds.length hl (wsum ds % 31) (Nat.mod_lt _ (by decide))
    refine hno x (by omega) ?_
    rw [wsum_snoc]
    generalize (ds.length + 1) * x = p at *
    omega
theorem spec47 (hI : Closed' prog Pm I) {ds : List Nat} (hds : ∀ d ∈ ds, d < 31) (h1 : 3 ≤ ds.length) (h2 : ds.length ≤ 23)
    (hQ : ∀ x, x < 31 → wsum (ds ++ [x]) % 31 = 0 → Q [str (code (ds ++ [x])), int 0] h) : I 47 [str (code ds)] Q h := by
  refine hI.go _ _ (den47 I (code ds) Q) ?_
  refine spec64 hI ⟨_, rfl, ?_⟩
  rw [code_size]
  have hb : (decide ((3 : Int) ≤ (ds.length : Int)) && decide ((ds.length : Int) ≤ 23)) = true := by simp; omega
  rw [hb]
  refine ifT_intro (fun h => by cases h) fun _ => ?_
  refine spec68 hI hds (by omega) ⟨true, rfl, ifT_intro (fun h => by cases h) fun _ => ?_⟩
  exact spec69 hI hds (by omega) fun x h3 h4 => ⟨_, rfl, hQ x h3 h4⟩
/-! ### moments -/
theorem spec44 (hI : Closed' prog Pm I) {n : Int} (hQ : Q [boo (decide (momentP n))] h) : I 44 [int n] Q h := by
  refine hI.go _ _ (den44 I n Q) ?_
  refine spec64 hI ⟨_, rfl, ?_⟩
  have e : (decide ((0 : Int) ≤ n) && decide (n ≤ 4321439)) = decide (momentP n) := by simp [momentP]
  rw [← e] at hQ
  exact hQ
/-! ### the budgets before, looked through -/
/-! ### what is wrong with budgets -/
/-! ### plain ones of a purse -/
end
end Go.Proofs.YtdjancoknephnaaGreatVc
-- from PuSpec2
namespace Go.Proofs.YtdjancoknephnaaGreatVc
open Go.Proofs.Tryz (prog)
theorem Owns.slg {h0 h' : Heap} {L : List Ow} {sz : Nat} {s : Sl} {cs : List Cell} (o : Owns h0 h' L) (hm : (sz, s, cs) ∈ L) : h'.sl sz s = some cs := by
  obtain ⟨h1, h2 | ⟨k, h2, _, h3⟩⟩ := o.all _ hm
  · simp only at h2; unfold Heap.sl; rw [h2.1, h2.2]
  · simp only at h1 h2 h3
    unfold Heap.sl
    rw [h2]
    show h'.read k 0 (s.len * sz) = _
    rw [read_block h3 (by omega), h1, List.drop_zero, List.take_length]
theorem Owns.rot {h0 h : Heap} {a b c : Ow} {L : List Ow} (o : Owns h0 h (a :: b :: c :: L)) : Owns h0 h (b :: c :: a :: L) := o.perm ((List.Perm.swap b a _).trans ((List.Perm.swap c a L).cons b))
theorem Owns.rot' {h0 h : Heap} {a b c : Ow} {L : List Ow} (o : Owns h0 h (b :: c :: a :: L)) : Owns h0 h (a :: b :: c :: L) := o.perm (((List.Perm.swap a c L).cons b).trans (List.Perm.swap a b _))
theorem Owns.swp {h0 h : Heap} {a b : Ow} {L : List Ow} (o : Owns h0 h (a :: b :: L)) : Owns h0 h (b :: a :: L) := o.perm (List.Perm.swap _ _ _)
theorem mapSet_get {α : Type} {f : α → α} {xs : List α} {i : Nat} {x : α} (hx : xs[i]? = some x) : ((xs.take i).map f ++ xs.drop i)[i]? = some x := by
  obtain ⟨hi, rfl⟩ := List.getElem?_eq_some_iff.1 hx
  have hl : ((xs.take i).map f).length = i := by simp; omega
  rw [List.getElem?_append_right (by omega), hl, Nat.sub_self, List.drop_eq_getElem_cons hi]; rfl
theorem mapSet_step {α : Type} {f : α → α} {xs : List α} {i : Nat} {x : α} (hx : xs[i]? = some x) : ((xs.take i).map f ++ xs.drop i).set i (f x) = (xs.take (i + 1)).map f ++ xs.drop (i + 1) := by
  have h2 : xs.take (i + 1) = xs.take i ++ [x] := by rw [List.take_add_one, hx]; rfl
  obtain ⟨hi, rfl⟩ := List.getElem?_eq_some_iff.1 hx
  have hl : ((xs.take i).map f).length = i := by simp; omega
  rw [List.set_append, if_neg (by omega), hl, Nat.sub_self, List.drop_eq_getElem_cons hi, List.set_cons_zero, h2]
  simp only [List.map_append, List.map_cons, List.map_nil, List.append_assoc, List.cons_append, List.nil_append]
section
variable {I : Calls} {Q : Post} {h h0 : Heap}
/-- A purse's own block. -/
abbrev owP (p : Nat) (sb sh : Sl) (now : Int) : Ow := (3, ⟨some (p, 0), 1⟩, [.slice 5 sb, .slice 6 sh, .int .i64 now])
end
end Go.Proofs.YtdjancoknephnaaGreatVc
-- from PuSpec
namespace Go.Proofs.YtdjancoknephnaaGreatVc
open Go.Proofs.Tryz (prog)
theorem strs_length (l : List ByteArray) : (strs l).length = l.length := by simp [strs]
theorem strs_get {xs : List ByteArray} {i : Nat} {x : ByteArray} (h : xs[i]? = some x) : (strs xs)[i]? = some (.str x) := by unfold strs; rw [List.getElem?_map, h]; rfl
/-! ### open and committed -/
section
variable {I : Calls} {Q : Post} {h : Heap}
theorem spec16 (hI : Closed' prog Pm I) {i : Nat} {l : Sl} {zs : List Int} {t : Nat} {a b : Int} (S : Strm h i l zs t) (h1 : a ≤ b) (h2 : -1000000000 < a) (h3 : b < 1000000000)
    (hQ : ∀ v, a ≤ v → v ≤ b → Q [int v] (h.set i (strm l (t + 1)))) : I 16 [.one (.ptr (some (i, 0))), int a, int b] Q h := by
  refine hI.go _ _ (den16 I _ a b Q) ?_
  refine ifT_dec (fun h => by omega) fun _ => ?_
  have ew : IntKind.i64.wrap (IntKind.i64.wrap (b - a) + 1) = b - a + 1 := by rw [w64 (n := b - a) (by omega) (by omega), w64 (by omega) (by omega)]
  rw [ew]
  refine spec19 hI S (by omega) (by omega) fun v h4 h5 => ⟨v, rfl, ?_⟩
  rw [w64 (by omega) (by omega)]
  exact hQ _ (by omega) (by omega)
section
variable {hb : Heap} {i : Nat} {l : Sl} {zs : List Int} {t0 : Nat}
end
theorem pick_at : ∀ v ∈ ([0, 0, 5, 60, 1440] : List Int), 0 ≤ v ∧ v ≤ 1440 := by decide
theorem pick_cents : ∀ v ∈ ([1, 50, 100, 400] : List Int), 1 ≤ v ∧ v ≤ 400 := by decide
theorem pick_long : ∀ v ∈ ([1, 5, 60, 2000] : List Int), 1 ≤ v ∧ v ≤ 2000 := by decide
end
end Go.Proofs.YtdjancoknephnaaGreatVc
-- from OfSpec1
namespace Go.Proofs.YtdjancoknephnaaGreatVc
open Go.Proofs.Tryz (prog)
theorem nw {a b n : Int} (h : (!(decide (a ≤ n) && decide (n ≤ b))) = true) : ¬ (a ≤ n ∧ n ≤ b) := fun ⟨h1, h2⟩ => by simp [h1, h2] at h
theorem nw' {a b n : Int} (h : (!(decide (a ≤ n) && decide (n ≤ b))) = false) : a ≤ n ∧ n ≤ b := by
  simp only [Bool.not_eq_false', Bool.and_eq_true, decide_eq_true_eq] at h
  exact h
theorem nwi {a b n : Int} : (!(decide (a ≤ n) && decide (n ≤ b))) = true ↔ ¬ (a ≤ n ∧ n ≤ b) := ⟨nw, fun h => by
  cases h2 : (!(decide (a ≤ n) && decide (n ≤ b))) with
  | true => rfl
  | false => exact absurd (nw' h2) h⟩
/-- A row of strings is read. -/
theorem At.strRow {h : Heap} {s : Sl} {xs : List ByteArray} {i : Nat} {x : ByteArray} {f : Nat → Nat → T} (hs : At h 1 s (strs xs)) (hx : xs[i]? = some x)
    (hk : ∀ b o, h.read b (o + (i : Int).toNat * 1) 1 = some [.str x] → f b o h) : derefK s.a f h := by
  have hl : s.len = xs.length := by have := hs.1; simpa [strs] using this
  have hi : i < xs.length := (List.getElem?_eq_some_iff.1 hx).1
  refine hs.one (i := (i : Int)) (by omega) (by omega) fun b o c hc hr => hk b o ?_
  rw [Int.toNat_natCast] at hc
  have : c = .str x := by
    unfold strs at hc
    rw [List.getElem?_map, hx] at hc
    exact (Option.some.inj hc).symm
  subst this
  exact hr
/-- Offers, items in memory. -/
structure Offs (h : Heap) (s : Sl) (xs : List Offr) : Prop where
  at_ : At h 12 s (rows offC xs)
  tg : ∀ x ∈ xs, At h 1 x.tg (strs x.tags)
theorem Offs.len {h : Heap} {s : Sl} {xs : List Offr} (o : Offs h s xs) : s.len = xs.length := o.at_.rowsLen offC_length (by decide)
theorem Ext.offs {h h' : Heap} (x : Ext h h') {s : Sl} {xs : List Offr} (o : Offs h s xs) : Offs h' s xs := ⟨x.at_ o.at_, fun y hy => x.at_ (o.tg y hy)⟩
structure Itms (h : Heap) (s : Sl) (xs : List Itm) : Prop where
  at_ : At h 4 s (rows itmC xs)
  tg : ∀ x ∈ xs, At h 1 x.tg (strs x.tags)
theorem Itms.len {h : Heap} {s : Sl} {xs : List Itm} (o : Itms h s xs) : s.len = xs.length := o.at_.rowsLen itmC_length (by decide)
theorem Ext.itms {h h' : Heap} (x : Ext h h') {s : Sl} {xs : List Itm} (o : Itms h s xs) : Itms h' s xs := ⟨x.at_ o.at_, fun y hy => x.at_ (o.tg y hy)⟩
/-! ### the document's table of amounts -/
def mostM : List (V × V) := [(.one (.int .i64 1), .one (.int .i64 100)), (.one (.int .i64 2), .one (.int .i64 1000000000000)), (.one (.int .i64 4), .one (.int .i64 1000000000000)), (.one (.int .i64 3), .one (.int .i64 20))]
def mostK (k : Int) : Int := if k = 1 then 100 else if k = 2 then 1000000000000 else if k = 4 then 1000000000000 else if k = 3 then 20 else 0
def lowK (k : Int) : Int := if k = 3 then 1 else 0
def highK (k : Int) : Int := if k = 3 then 20 else 0
theorem most_get (k : Int) : ∃ b, mapGet (.one (.int .i64 k)) (.one (.int .i64 0)) mostM = some (.one (.int .i64 (mostK k)), b) := by
  unfold mostK mostM
  simp only [mapGet, keyEq, eqKind, if_true]
  by_cases h1 : k = 1
  · simp [h1]
  by_cases h2 : k = 2
  · simp [h2]
  by_cases h3 : k = 4
  · simp [h3]
  by_cases h4 : k = 3
  · simp [h4]
  · simp [h1, h2, h3, h4]
theorem mostK_zero (k : Int) : mostK k = 0 ↔ ¬ (1 ≤ k ∧ k ≤ 4) := by
  unfold mostK
  repeat' split
  all_goals omega
theorem okN_iff {x : Offr} (h : 1 ≤ x.kind ∧ x.kind ≤ 4) : okN x ↔ (1 ≤ x.a ∧ x.a ≤ mostK x.kind ∧ lowK x.kind ≤ x.b ∧ x.b ≤ highK x.kind) ∧ 0 ≤ x.least ∧ x.least ≤ 1000000000000 ∧ 0 ≤ x.most ∧ x.most ≤ 1000000000000 ∧ 0 ≤ x.order ∧ x.order ≤ 1000 := by
  unfold okN okAm mostK lowK highK
  repeat' split
  all_goals omega
section
variable {I : Calls} {Q : Post} {h : Heap}
theorem spec58 (hI : Closed' prog Pm I) {s : Sl} {ys : List Offr} {g : FuncId} {i : Nat} {p : Offr → Bool} (hs : At h 12 s (rows offC ys)) (hlen : ys.length < 1000)
    (hg : ∀ y Q', Q' [boo (p y)] h → I g [.agg (offC y), .one (.ptr (some (i, 0)))] Q' h)
    (hn : (∀ y ∈ ys, p y = false) → Q [int (-1)] h) (hy : ∀ (j : Nat) y, ys[j]? = some y → p y = true → (∀ z ∈ ys.take j, p z = false) → Q [int j] h) : I 58 [.one (.slice 12 s), .one (.func (some (g, [(i, 0)])))] Q h := by
  have hl : s.len = ys.length := hs.rowsLen offC_length (by decide)
  refine hI.go _ _ (den58 I s _ _) ?_
  refine loopK_intro (fun (a : Int) h' m => h' = h ∧ ∃ j : Nat, j ≤ ys.length ∧ a = j ∧ ys.length - j = m ∧ ∀ z ∈ ys.take j, p z = false) ys.length ⟨rfl, 0, by omega, rfl, rfl, by simp⟩ ?_
  rintro a h' m ⟨rfl, j, hj, rfl, rfl, hno⟩
  refine ifT_dec (fun hlt => ⟨⟨by omega, hlt⟩, ?_⟩) (fun hge => ?_)
  · have hx := List.getElem?_eq_getElem (show j < ys.length by omega)
    generalize ys[j] = y at hx
    refine hs.row offC_length (by decide) hx fun bb o hr => ⟨y.key, y.kind, y.a, y.b, y.tg, y.least, y.most, y.group, y.alone, y.order, y.from_, y.to_, hr, ?_⟩
    refine hg y _ ⟨_, rfl, ifT_intro (fun h1 => hy j y hx h1 hno) fun h1 => ?_⟩
    refine ⟨ys.length - (j + 1), by omega, rfl, j + 1, by omega, by rw [w64] <;> omega, rfl, fun z hz => ?_⟩
    rw [List.take_add_one, hx] at hz
    rcases List.mem_append.1 hz with hz | hz
    · exact hno z hz
    · have : z = y := by simpa using hz
      rw [this]; exact h1
  · have : j = ys.length := by omega
    subst this
    rw [List.take_length] at hno
    exact hn hno
theorem spec33 (hI : Closed' prog Pm I) {s : Sl} {ys : List Offr} {g : FuncId} {i : Nat} {p : Offr → Bool} (hs : At h 12 s (rows offC ys)) (hlen : ys.length < 1000)
    (hg : ∀ y Q', Q' [boo (p y)] h → I g [.agg (offC y), .one (.ptr (some (i, 0)))] Q' h) (hQ : Q [boo (ys.any p)] h) : I 33 [.one (.slice 12 s), .one (.func (some (g, [(i, 0)])))] Q h := by
  refine hI.go _ _ (den33 I s _ _) ?_
  refine spec58 hI hs hlen hg (fun hn => ⟨_, rfl, ?_⟩) fun j y hx h1 _ => ⟨_, rfl, ?_⟩
  · have e : ys.any p = false := by
      cases h2 : ys.any p with
      | false => rfl
      | true => obtain ⟨y, hy, h3⟩ := List.any_eq_true.1 h2; rw [hn y hy] at h3; cases h3
    rw [e] at hQ; exact hQ
  · have e : ys.any p = true := List.any_eq_true.2 ⟨y, List.mem_of_getElem? hx, h1⟩
    have e2 : decide ((j : Int) ≥ 0) = true := by simp
    rw [e] at hQ; rw [e2]; exact hQ
theorem spec80 (hI : Closed' prog Pm I) {i : Nat} {x y : Offr} (hi : h i = some (.cells false (offC x))) (hQ : Q [boo (decide (y.key = x.key))] h) : I 80 [.agg (offC y), .one (.ptr (some (i, 0)))] Q h := by
  refine hI.go _ _ (den80 I y.key y.kind y.a y.b y.tg y.least y.most y.group y.alone y.order y.from_ y.to_ i 0 Q) ?_
  exact ⟨x.key, read_cell hi rfl, hQ⟩
theorem spec100 (hI : Closed' prog Pm I) {s : Sl} {ys : List Itm} {g : FuncId} {i : Nat} {p : Itm → Bool} (hs : At h 4 s (rows itmC ys)) (hlen : ys.length < 1000)
    (hg : ∀ y Q', Q' [boo (p y)] h → I g [.agg (itmC y), .one (.ptr (some (i, 0)))] Q' h)
    (hn : (∀ y ∈ ys, p y = false) → Q [int (-1)] h) (hy : ∀ (j : Nat) y, ys[j]? = some y → p y = true → (∀ z ∈ ys.take j, p z = false) → Q [int j] h) : I 100 [.one (.slice 4 s), .one (.func (some (g, [(i, 0)])))] Q h := by
  have hl : s.len = ys.length := hs.rowsLen itmC_length (by decide)
  refine hI.go _ _ (den100 I s _ _) ?_
  refine loopK_intro (fun (a : Int) h' m => h' = h ∧ ∃ j : Nat, j ≤ ys.length ∧ a = j ∧ ys.length - j = m ∧ ∀ z ∈ ys.take j, p z = false) ys.length ⟨rfl, 0, by omega, rfl, rfl, by simp⟩ ?_
  rintro a h' m ⟨rfl, j, hj, rfl, rfl, hno⟩
  refine ifT_dec (fun hlt => ⟨⟨by omega, hlt⟩, ?_⟩) (fun hge => ?_)
  · have hx := List.getElem?_eq_getElem (show j < ys.length by omega)
    generalize ys[j] = y at hx
    refine hs.row itmC_length (by decide) hx fun bb o hr => ⟨y.key, y.cents, y.many, y.tg, hr, ?_⟩
    refine hg y _ ⟨_, rfl, ifT_intro (fun h1 => hy j y hx h1 hno) fun h1 => ?_⟩
    refine ⟨ys.length - (j + 1), by omega, rfl, j + 1, by omega, by rw [w64] <;> omega, rfl, fun z hz => ?_⟩
    rw [List.take_add_one, hx] at hz
    rcases List.mem_append.1 hz with hz | hz
    · exact hno z hz
    · have : z = y := by simpa using hz
      rw [this]; exact h1
  · have : j = ys.length := by omega
    subst this
    rw [List.take_length] at hno
    exact hn hno
theorem spec83 (hI : Closed' prog Pm I) {s : Sl} {ys : List Itm} {g : FuncId} {i : Nat} {p : Itm → Bool} (hs : At h 4 s (rows itmC ys)) (hlen : ys.length < 1000)
    (hg : ∀ y Q', Q' [boo (p y)] h → I g [.agg (itmC y), .one (.ptr (some (i, 0)))] Q' h) (hQ : Q [boo (ys.any p)] h) : I 83 [.one (.slice 4 s), .one (.func (some (g, [(i, 0)])))] Q h := by
  refine hI.go _ _ (den83 I s _ _) ?_
  refine spec100 hI hs hlen hg (fun hn => ⟨_, rfl, ?_⟩) fun j y hx h1 _ => ⟨_, rfl, ?_⟩
  · have e : ys.any p = false := by
      cases h2 : ys.any p with
      | false => rfl
      | true => obtain ⟨y, hy, h3⟩ := List.any_eq_true.1 h2; rw [hn y hy] at h3; cases h3
    rw [e] at hQ; exact hQ
  · have e : ys.any p = true := List.any_eq_true.2 ⟨y, List.mem_of_getElem? hx, h1⟩
    have e2 : decide ((j : Int) ≥ 0) = true := by simp
    rw [e] at hQ; rw [e2]; exact hQ
theorem spec84 (hI : Closed' prog Pm I) {i : Nat} {x y : Itm} (hi : h i = some (.cells false (itmC x))) (hQ : Q [boo (decide (y.key = x.key))] h) : I 84 [.agg (itmC y), .one (.ptr (some (i, 0)))] Q h := by
  refine hI.go _ _ (den84 I y.key y.cents y.many y.tg i 0 Q) ?_
  exact ⟨x.key, read_cell hi rfl, hQ⟩
theorem spec81 (hI : Closed' prog Pm I) {x : Offr} (hQ : Q [boo (decide (okAm x))] h) : I 81 [.agg (offC x)] Q h := by
  refine hI.go _ _ (den81 I x.key x.kind x.a x.b x.tg x.least x.most x.group x.alone x.order x.from_ x.to_ Q) ?_
  have fin : ∀ b : Bool, (b = true ↔ okAm x) → Q [boo b] h := fun b hb => by
    have : b = decide (okAm x) := by rw [Bool.eq_iff_iff, hb]; simp
    rw [this]; exact hQ
  have nx {a b n : Int} (h : (decide (a ≤ n) && decide (n ≤ b)) = true) : a ≤ n ∧ n ≤ b := by simpa using h
  have nx' {a b n : Int} (h : (decide (a ≤ n) && decide (n ≤ b)) = false) : ¬ (a ≤ n ∧ n ≤ b) := fun ⟨h1, h2⟩ => by simp [h1, h2] at h
  refine ifT_dec (fun h1 => ?_) fun h1 => ifT_dec (fun h2 => ?_) fun h2 => ?_
  · refine joinK_intro (fun (b : Bool) h' => h' = h ∧ (b = true ↔ okAm x)) (fun b h' ⟨e, hb⟩ => by subst e; exact fin b hb) fun j hj => spec64 hI ⟨_, rfl, ifT_intro (fun h3 => hj _ _ ⟨rfl, ?_⟩) fun h3 => hj _ _ ⟨rfl, ?_⟩⟩
    · have := nx h3; simp only [decide_eq_true_eq]; unfold okAm; omega
    · have := nx' h3; simp only [Bool.false_eq_true, false_iff]; unfold okAm; omega
  · refine joinK_intro (fun (b : Bool) h' => h' = h ∧ (b = true ↔ okAm x)) (fun b h' ⟨e, hb⟩ => by subst e; exact fin b hb) fun j hj => spec64 hI ⟨_, rfl, ifT_intro (fun h3 => spec64 hI ⟨_, rfl, hj _ _ ⟨rfl, ?_⟩⟩) fun h3 => hj _ _ ⟨rfl, ?_⟩⟩
    · have := nx h3; simp only [Bool.and_eq_true, decide_eq_true_eq]; unfold okAm; omega
    · have := nx' h3; simp only [Bool.false_eq_true, false_iff]; unfold okAm; omega
  · refine spec64 hI ⟨_, rfl, ifT_intro (fun h3 => fin _ ?_) fun h3 => fin _ ?_⟩
    · have := nx h3; simp only [decide_eq_true_eq]; unfold okAm; omega
    · have := nx' h3; simp only [Bool.false_eq_true, false_iff]; unfold okAm; omega
/-! ### tags -/
theorem spec82 (hI : Closed' prog Pm I) {s : Sl} {xs : List ByteArray} (hs : At h 1 s (strs xs)) (hQ : ∀ h', Ext h h' → Q [int (errTg xs)] h') : I 82 [.one (.slice 1 s)] Q h := by
  have hl : s.len = xs.length := by have := hs.1; simpa [strs] using this
  refine hI.go _ _ (den82 I s Q) ?_
  unfold vc82
  rw [hl]
  refine ifT_dec (fun h1 => ?_) fun h1 => ?_
  · have e : errTg xs = 2 := if_pos (by omega)
    rw [← e]; exact hQ _ (Ext.refl _)
  have e0 : errTg xs = scanT none xs := if_neg (by omega)
  have bad : ∀ e (g' : Heap), Ext h g' → errTg xs = e → Q [int e] g' := fun e g' hg he => by rw [← he]; exact hQ _ hg
  refine loopK_intro (fun (a : Int) h' m => Ext h h' ∧ ∃ i : Nat, i ≤ xs.length ∧ a = i ∧ xs.length - i = m ∧ errTg xs = scanT (prevOf xs i) (xs.drop i)) xs.length ⟨Ext.refl _, 0, by omega, rfl, rfl, e0⟩ ?_
  rintro a h' m ⟨x', i, hi, rfl, rfl, hsc⟩
  refine ifT_dec (fun hlt => ⟨⟨by omega, by omega⟩, ?_⟩) (fun hge => ?_)
  · have hx := List.getElem?_eq_getElem (show i < xs.length by omega)
    generalize xs[i] = x at hx
    rw [scanT_step hx] at hsc
    refine (x'.at_ hs).strRow hx fun bb o hr => ⟨x, hr, spec52 hI ⟨_, rfl, ifT_intro (fun h1 => bad 5 _ x' (by rw [hsc, if_pos (nb h1)])) fun h1 => ?_⟩⟩
    rw [if_neg (by rw [nb' h1]; simp)] at hsc
    have next : badPrev (prevOf xs i) x = false → Ext h h' ∧ ∃ j : Nat, j ≤ xs.length ∧ IntKind.i64.wrap ((i : Int) + 1) = j ∧ xs.length - j = xs.length - (i + 1) ∧ errTg xs = scanT (prevOf xs j) (xs.drop j) := fun hb => by
      rw [if_neg (by rw [hb]; simp)] at hsc
      exact ⟨x', i + 1, by omega, by rw [w64] <;> omega, rfl, hsc⟩
    refine ifT_dec (fun hpos => ?_) fun hz => ⟨xs.length - (i + 1), by omega, next ?_⟩
    · obtain ⟨k, rfl⟩ : ∃ k, i = k + 1 := ⟨i - 1, by omega⟩
      have hp := List.getElem?_eq_getElem (show k < xs.length by omega)
      generalize xs[k] = p at hp
      have ep : prevOf xs (k + 1) = some p := by unfold prevOf; rw [if_neg (by omega)]; exact hp
      have ew : IntKind.i64.wrap (((k + 1 : Nat) : Int) - 1) = (k : Int) := by rw [w64] <;> omega
      rw [ew]
      refine ⟨⟨by omega, by omega⟩, (x'.at_ hs).strRow hp fun bb o hr => ⟨p, hr, ifT_intro (fun h2 => bad 7 _ x' (by rw [hsc, if_pos]; rw [ep]; exact h2)) fun h2 => ⟨xs.length - (k + 1 + 1), by omega, next (by rw [ep]; exact h2)⟩⟩⟩
    · have : i = 0 := by omega
      subst this; rfl
  · have : i = xs.length := by omega
    subst this
    rw [List.drop_length] at hsc
    exact bad 0 _ x' (by rw [hsc]; rfl)
/-! ### offers -/
theorem spec56 (hI : Closed' prog Pm I) {s : Sl} {xs : List Offr} (hs : Offs h s xs) (hQ : ∀ h', Ext h h' → Q [int (errO xs)] h') : I 56 [.one (.slice 12 s)] Q h := by
  have hl := hs.len
  refine hI.go _ _ (den56 I s Q) ?_
  unfold vc56
  rw [hl]
  refine ifT_dec (fun h1 => ?_) fun h1 => ?_
  · have e : errO xs = 2 := if_pos (by omega)
    rw [← e]; exact hQ _ (Ext.refl _)
  have e0 : errO xs = scanO [] xs := if_neg (by omega)
  have bad : ∀ e (g' : Heap), Ext h g' → errO xs = e → Q [int e] g' := fun e g' hg he => by rw [← he]; exact hQ _ hg
  refine loopK_intro (fun (a : Int) h' m => Ext h h' ∧ ∃ i : Nat, i ≤ xs.length ∧ a = i ∧ xs.length - i = m ∧ errO xs = scanO (xs.take i) (xs.drop i)) xs.length ⟨Ext.refl _, 0, by omega, rfl, rfl, e0⟩ ?_
  rintro a h' m ⟨x', i, hi, rfl, rfl, hsc⟩
  refine ifT_dec (fun hlt => ⟨⟨by omega, by omega⟩, ?_⟩) (fun hge => ?_)
  · have hx := List.getElem?_eq_getElem (show i < xs.length by omega)
    generalize xs[i] = x at hx
    have hxm := List.mem_of_getElem? hx
    rw [scanO_step hx] at hsc
    refine (x'.at_ hs.at_).row offC_length (by decide) hx fun bb o hr => ⟨x.key, x.kind, x.a, x.b, x.tg, x.least, x.most, x.group, x.alone, x.order, x.from_, x.to_, hr, ?_⟩
    refine newK_intro fun i19 h2 hn2 he2 => ?_
    refine storeK_whole (cs := [.str .empty, .int .i64 0, .int .i64 0, .int .i64 0, .slice 1 ⟨none, 0⟩, .int .i64 0, .int .i64 0, .str .empty, .bool false, .int .i64 0, .int .i64 0, .int .i64 0]) (by rw [he2, set_eq]) rfl ?_
    rw [he2, set_set]
    have xx : Ext h (h'.set i19 (.cells false (offC x))) := x'.trans (Ext.new hn2)
    have hc := set_eq h' i19 (.cells false (offC x))
    obtain ⟨g, hg⟩ : ∃ g, g = h'.set i19 (.cells false (offC x)) := ⟨_, rfl⟩
    rw [← hg] at xx hc
    rw [show h'.set i19 (.cells false [.str x.key, .int .i64 x.kind, .int .i64 x.a, .int .i64 x.b, .slice 1 x.tg, .int .i64 x.least, .int .i64 x.most, .str x.group, .bool x.alone, .int .i64 x.order, .int .i64 x.from_, .int .i64 x.to_]) = g from hg.symm]
    refine ⟨x.key, read_cell hc rfl, spec52 hI ⟨_, rfl, ifT_intro (fun h1 => bad 5 _ xx (by rw [hsc, if_pos (nb h1)])) fun h1 => ?_⟩⟩
    rw [if_neg (by rw [nb' h1]; simp)] at hsc
    have hsub : At g 12 (s.sub 12 0 i) (rows offC (xs.take i)) := by
      have := At.sub (xx.at_ hs.at_) 0 i (by omega) (by omega)
      rw [Nat.zero_mul, List.drop_zero, Nat.sub_zero, rows_take offC_length] at this
      exact this
    refine ⟨⟨by decide, by omega, by omega⟩, ?_⟩
    rw [Int.toNat_natCast]
    refine spec33 hI (p := fun y => decide (y.key = x.key)) hsub (by rw [List.length_take]; omega) (fun y Q' hq => spec80 hI hc hq) ⟨_, rfl, ifT_intro (fun h2 => bad 6 _ xx (by rw [hsc, if_pos h2])) fun h2 => ?_⟩
    rw [if_neg (by rw [h2]; simp)] at hsc
    refine ⟨x.kind, read_cell hc rfl, spec64 hI ⟨_, rfl, ifT_intro (fun h3 => bad 4 _ xx (by rw [hsc, if_pos (nw h3)])) fun h3 => ?_⟩⟩
    have h3' := nw' h3
    rw [if_neg (fun h => h h3')] at hsc
    refine joinK_intro (fun (b : Bool) h'' => h'' = g ∧ (b = true ↔ ¬ okN x)) ?_ fun j hj => ⟨x.key, x.kind, x.a, x.b, x.tg, x.least, x.most, x.group, x.alone, x.order, x.from_, x.to_, by rw [read_block hc (show 0 + 12 ≤ (offC x).length from Nat.le_refl 12)]; rfl, spec81 hI (x := x) ⟨_, rfl, ifT_intro (fun h4 => hj _ _ ⟨rfl, by have := nd h4; simp only [true_iff]; exact fun h => this h.1⟩) fun h4 => ⟨x.least, read_cell hc rfl, spec64 hI ⟨_, rfl, ifT_intro (fun h5 => hj _ _ ⟨rfl, by have := nw h5; simp only [true_iff]; exact fun h => this ⟨h.2.1, h.2.2.1⟩⟩) fun h5 => ⟨x.most, read_cell hc rfl, spec64 hI ⟨_, rfl, ifT_intro (fun h6 => hj _ _ ⟨rfl, by have := nw h6; simp only [true_iff]; exact fun h => this ⟨h.2.2.2.1, h.2.2.2.2.1⟩⟩) fun h6 => ⟨x.order, read_cell hc rfl, spec64 hI ⟨_, rfl, hj _ _ ⟨rfl, ?_⟩⟩⟩⟩⟩⟩⟩⟩⟩
    case refine_2 =>
      have h4 := Decidable.of_not_not (nd' h4)
      have h5 := nw' h5
      have h6 := nw' h6
      rw [nwi]
      exact ⟨fun h hn => h ⟨hn.2.2.2.2.2.1, hn.2.2.2.2.2.2⟩, fun h h2 => h ⟨h4, h5.1, h5.2, h6.1, h6.2, h2.1, h2.2⟩⟩
    rintro b g2 ⟨rfl, hb⟩
    refine ifT_intro (fun h4 => bad 1 _ xx (by rw [hsc, if_pos (hb.1 h4)])) fun h4 => ?_
    have hokN : okN x := Decidable.of_not_not fun h => by rw [hb.2 h] at h4; cases h4
    rw [if_neg (fun h => h hokN)] at hsc
    refine joinK_intro (fun (b : Bool) h'' => h'' = g2 ∧ (b = true ↔ ¬ okT x)) ?_ fun j hj => ⟨x.from_, read_cell hc rfl, spec44 hI ⟨_, rfl, ifT_intro (fun h5 => hj _ _ ⟨rfl, by have := nd h5; simp only [true_iff]; unfold okT; unfold momentP at this; omega⟩) fun h5 => ⟨x.to_, read_cell hc rfl, x.from_, read_cell hc rfl, spec64 hI ⟨_, rfl, hj _ _ ⟨rfl, ?_⟩⟩⟩⟩⟩
    case refine_2 =>
      have h5 : momentP x.from_ := Decidable.of_not_not (nd' h5)
      unfold momentP at h5
      rw [nwi, w64 (by omega) (by omega)]
      unfold okT; omega
    rintro b g3 ⟨rfl, hb2⟩
    refine ifT_intro (fun h5 => bad 1 _ xx (by rw [hsc, if_pos (hb2.1 h5)])) fun h5 => ?_
    have hokT : okT x := Decidable.of_not_not fun h => by rw [hb2.2 h] at h5; cases h5
    rw [if_neg (fun h => h hokT)] at hsc
    refine joinK_intro (fun (b : Bool) h'' => Ext g3 h'' ∧ (b = true ↔ (x.group ≠ ⟨#[]⟩ ∧ isKey x.group = false))) ?_ fun j hj => ⟨x.group, read_cell hc rfl, ifT_intro (fun h6 => ⟨x.group, read_cell hc rfl, spec52 hI ⟨_, rfl, hj _ _ ⟨Ext.refl _, by have := nd h6; simp [this]⟩⟩⟩) fun h6 => hj _ _ ⟨Ext.refl _, by have := Decidable.of_not_not (nd' h6); simp [this]⟩⟩
    rintro b g4 ⟨x4, hb3⟩
    have xx := xx.trans x4
    have hc := x4 _ _ hc
    refine ifT_intro (fun h6 => bad 5 _ xx (by rw [hsc, if_pos (hb3.1 h6)])) fun h6 => ?_
    rw [if_neg (fun h => by rw [hb3.2 h] at h6; cases h6)] at hsc
    refine ⟨x.tg, read_cell hc rfl, spec82 hI (xx.at_ (hs.tg x hxm)) fun g5 x5 => ⟨_, rfl, ifT_intro (fun h7 => bad _ _ (xx.trans x5) (by rw [hsc, if_pos (nd h7)])) fun h7 => ?_⟩⟩
    have xx := xx.trans x5
    have hc := x5 _ _ hc
    rw [if_neg (nd' h7)] at hsc
    have htl : x.tg.len = x.tags.length := by have := (hs.tg x hxm).1; simpa [strs] using this
    have next : ¬ (x.tags.length > 0 ∧ x.kind = 4) → ∃ m', m' < xs.length - i ∧ (Ext h g5 ∧ ∃ j : Nat, j ≤ xs.length ∧ IntKind.i64.wrap ((i : Int) + 1) = j ∧ xs.length - j = m' ∧ errO xs = scanO (xs.take j) (xs.drop j)) := fun hn => by
      rw [if_neg hn] at hsc
      exact ⟨xs.length - (i + 1), by omega, xx, i + 1, by omega, by rw [w64] <;> omega, rfl, hsc⟩
    refine ⟨x.tg, read_cell hc rfl, ifT_dec (fun h8 => ⟨x.kind, read_cell hc rfl, ifT_dec (fun h9 => bad 3 _ xx (by rw [hsc, if_pos ⟨by omega, h9⟩])) fun h9 => next fun h => h9 h.2⟩) fun h8 => next fun h => by omega⟩
  · have : i = xs.length := by omega
    subst this
    rw [List.drop_length] at hsc
    exact bad 0 _ x' (by rw [hsc]; rfl)
/-! ### baskets -/
theorem spec57 (hI : Closed' prog Pm I) {s : Sl} {xs : List Itm} {ship : Int} (hs : Itms h s xs) (hQ : ∀ h', Ext h h' → Q [int (errK xs ship)] h') : I 57 [.agg [.slice 4 s, .int .i64 ship]] Q h := by
  have hl := hs.len
  refine hI.go _ _ (den57 I s ship Q) ?_
  unfold vc57
  rw [hl]
  refine ifT_dec (fun h1 => ?_) fun h1 => ?_
  · have e : errK xs ship = 2 := if_pos (by omega)
    rw [← e]; exact hQ _ (Ext.refl _)
  have e0 : errK xs ship = if scanI [] xs ≠ 0 then scanI [] xs else if ¬ (0 ≤ ship ∧ ship ≤ 1000000000000) then 1 else 0 := if_neg (by omega)
  have bad : ∀ e (g' : Heap), Ext h g' → e ≠ 0 → scanI [] xs = e → Q [int e] g' := fun e g' hg hne he => by
    rw [he, if_pos hne] at e0
    rw [← e0]; exact hQ _ hg
  refine loopK_intro (fun (a : Int) h' m => Ext h h' ∧ ∃ i : Nat, i ≤ xs.length ∧ a = i ∧ xs.length - i = m ∧ scanI [] xs = scanI (xs.take i) (xs.drop i)) xs.length ⟨Ext.refl _, 0, by omega, rfl, rfl, rfl⟩ ?_
  rintro a h' m ⟨x', i, hi, rfl, rfl, hsc⟩
  refine ifT_dec (fun hlt => ⟨⟨by omega, by omega⟩, ?_⟩) (fun hge => ?_)
  · have hx := List.getElem?_eq_getElem (show i < xs.length by omega)
    generalize xs[i] = x at hx
    have hxm := List.mem_of_getElem? hx
    rw [scanI_step hx] at hsc
    refine (x'.at_ hs.at_).row itmC_length (by decide) hx fun bb o hr => ⟨x.key, x.cents, x.many, x.tg, hr, ?_⟩
    refine newK_intro fun i19 h2 hn2 he2 => ?_
    refine storeK_whole (cs := [.str .empty, .int .i64 0, .int .i64 0, .slice 1 ⟨none, 0⟩]) (by rw [he2, set_eq]) rfl ?_
    rw [he2, set_set]
    have xx : Ext h (h'.set i19 (.cells false (itmC x))) := x'.trans (Ext.new hn2)
    have hc := set_eq h' i19 (.cells false (itmC x))
    obtain ⟨g, hg⟩ : ∃ g, g = h'.set i19 (.cells false (itmC x)) := ⟨_, rfl⟩
    rw [← hg] at xx hc
    rw [show h'.set i19 (.cells false [.str x.key, .int .i64 x.cents, .int .i64 x.many, .slice 1 x.tg]) = g from hg.symm]
    refine ⟨x.key, read_cell hc rfl, spec52 hI ⟨_, rfl, ifT_intro (fun h1 => bad 5 _ xx (by decide) (by rw [hsc, if_pos (nb h1)])) fun h1 => ?_⟩⟩
    rw [if_neg (by rw [nb' h1]; simp)] at hsc
    have hsub : At g 4 (s.sub 4 0 i) (rows itmC (xs.take i)) := by
      have := At.sub (xx.at_ hs.at_) 0 i (by omega) (by omega)
      rw [Nat.zero_mul, List.drop_zero, Nat.sub_zero, rows_take itmC_length] at this
      exact this
    refine ⟨⟨by decide, by omega, by omega⟩, ?_⟩
    rw [Int.toNat_natCast]
    refine spec83 hI (p := fun y => decide (y.key = x.key)) hsub (by rw [List.length_take]; omega) (fun y Q' hq => spec84 hI hc hq) ⟨_, rfl, ifT_intro (fun h2 => bad 6 _ xx (by decide) (by rw [hsc, if_pos h2])) fun h2 => ?_⟩
    rw [if_neg (by rw [h2]; simp)] at hsc
    refine joinK_intro (fun (b : Bool) h'' => h'' = g ∧ (b = true ↔ ¬ okI x)) ?_ fun j hj => ⟨x.cents, read_cell hc rfl, spec64 hI ⟨_, rfl, ifT_intro (fun h5 => hj _ _ ⟨rfl, by have := nw h5; simp only [true_iff]; unfold okI; omega⟩) fun h5 => ⟨x.many, read_cell hc rfl, spec64 hI ⟨_, rfl, hj _ _ ⟨rfl, by have := nw' h5; rw [nwi]; unfold okI; omega⟩⟩⟩⟩⟩
    rintro b g2 ⟨rfl, hb⟩
    refine ifT_intro (fun h4 => bad 1 _ xx (by decide) (by rw [hsc, if_pos (hb.1 h4)])) fun h4 => ?_
    have hok : okI x := Decidable.of_not_not fun h => by rw [hb.2 h] at h4; cases h4
    rw [if_neg (fun h => h hok)] at hsc
    refine ⟨x.tg, read_cell hc rfl, spec82 hI (xx.at_ (hs.tg x hxm)) fun g5 x5 => ⟨_, rfl, ifT_intro (fun h7 => bad _ _ (xx.trans x5) (nd h7) (by rw [hsc, if_pos (nd h7)])) fun h7 => ?_⟩⟩
    rw [if_neg (nd' h7)] at hsc
    exact ⟨xs.length - (i + 1), by omega, xx.trans x5, i + 1, by omega, by rw [w64] <;> omega, rfl, hsc⟩
  · have : i = xs.length := by omega
    subst this
    rw [List.drop_length] at hsc
    have hz : scanI [] xs = 0 := by rw [hsc]; rfl
    rw [if_neg (fun h => h hz)] at e0
    refine spec64 hI ⟨_, rfl, ifT_intro (fun h1 => ?_) fun h1 => ?_⟩
    · rw [if_pos (nw h1)] at e0; rw [← e0]; exact hQ _ x'
    · rw [if_neg (fun h => h (nw' h1))] at e0; rw [← e0]; exact hQ _ x'
end
end Go.Proofs.YtdjancoknephnaaGreatVc
-- from OfSpec2
namespace Go.Proofs.YtdjancoknephnaaGreatVc
open Go.Proofs.Tryz (prog)
/-- What is wrong with offers, a basket and a moment. -/
def errA (os : List Offr) (xs : List Itm) (ship t : Int) : Int := if errO os ≠ 0 then errO os else if errK xs ship ≠ 0 then errK xs ship else if ¬ momentP t then 1 else 0
theorem errA_ok {os : List Offr} {xs : List Itm} {ship t : Int} (h : errA os xs ship t = 0) : errO os = 0 ∧ errK xs ship = 0 ∧ momentP t := by
  unfold errA at h
  split at h
  · rename_i h1; exact absurd h h1
  rename_i h1
  split at h
  · rename_i h2; exact absurd h h2
  rename_i h2
  split at h
  · cases h
  rename_i h3
  exact ⟨Decidable.of_not_not h1, Decidable.of_not_not h2, Decidable.of_not_not h3⟩
section
variable {I : Calls} {Q : Post} {h : Heap}
theorem spec101 (hI : Closed' prog Pm I) {s : Sl} {xs : List ByteArray} {n : ByteArray} (hs : At h 1 s (strs xs)) (hlen : xs.length < 1000) (hQ : ∀ k : Int, (0 ≤ k ↔ (xs.any fun t => decide (t = n)) = true) → Q [int k] h) : I 101 [.one (.slice 1 s), str n] Q h := by
  refine hI.go _ _ (den101 I s n Q) ?_
  have hl : s.len = xs.length := by have := hs.1; simpa [strs] using this
  refine loopK_intro (fun (a : Int) h' m => h' = h ∧ ∃ i : Nat, i ≤ xs.length ∧ a = i ∧ xs.length - i = m ∧ ((xs.take i).any fun t => decide (t = n)) = false) xs.length ⟨rfl, 0, by omega, rfl, rfl, by simp⟩ ?_
  rintro a h' m ⟨rfl, i, hi, rfl, rfl, hno⟩
  refine ifT_dec (fun hlt => ⟨⟨by omega, by omega⟩, ?_⟩) (fun hge => ?_)
  · have hx := List.getElem?_eq_getElem (show i < xs.length by omega)
    generalize xs[i] = x at hx
    refine hs.strRow hx fun b o hr => ⟨x, hr, ifT_dec (fun he => hQ _ ⟨fun _ => List.any_eq_true.2 ⟨x, List.mem_of_getElem? hx, by simp [he]⟩, fun _ => by omega⟩) fun he => ⟨xs.length - (i + 1), by omega, rfl, i + 1, by omega, by rw [w64] <;> omega, rfl, ?_⟩⟩
    rw [List.take_add_one, hx]
    show ((xs.take i ++ [x]).any _) = false
    rw [List.any_append, hno]
    have : ¬ x = n := fun e => he e.symm
    simp [this]
  · have : i = xs.length := by omega
    subst this
    rw [List.take_length] at hno
    exact hQ _ ⟨fun h => by omega, fun h => by rw [hno] at h; cases h⟩
theorem spec86 (hI : Closed' prog Pm I) {s : Sl} {xs : List ByteArray} {n : ByteArray} (hs : At h 1 s (strs xs)) (hlen : xs.length < 1000) (hQ : Q [boo (xs.any fun t => decide (t = n))] h) : I 86 [.one (.slice 1 s), str n] Q h := by
  refine hI.go _ _ (den86 I s n Q) ?_
  refine spec101 hI hs hlen fun k hk => ⟨k, rfl, ?_⟩
  have : decide (k ≥ 0) = (xs.any fun t => decide (t = n)) := by rw [Bool.eq_iff_iff, ← hk]; simp
  rw [this]; exact hQ
theorem spec71 (hI : Closed' prog Pm I) {s : Sl} {xs : List ByteArray} {g : FuncId} {i : Nat} {p : ByteArray → Bool} (hs : At h 1 s (strs xs)) (hlen : xs.length < 1000)
    (hg : ∀ y Q', Q' [boo (p y)] h → I g [str y, .one (.ptr (some (i, 0)))] Q' h) (hQ : ∀ k : Int, (0 ≤ k ↔ xs.any p = true) → Q [int k] h) : I 71 [.one (.slice 1 s), .one (.func (some (g, [(i, 0)])))] Q h := by
  refine hI.go _ _ (den71 I s _ Q) ?_
  have hl : s.len = xs.length := by have := hs.1; simpa [strs] using this
  refine loopK_intro (fun (a : Int) h' m => h' = h ∧ ∃ i : Nat, i ≤ xs.length ∧ a = i ∧ xs.length - i = m ∧ (xs.take i).any p = false) xs.length ⟨rfl, 0, by omega, rfl, rfl, by simp⟩ ?_
  rintro a h' m ⟨rfl, i, hi, rfl, rfl, hno⟩
  refine ifT_dec (fun hlt => ⟨⟨by omega, by omega⟩, ?_⟩) (fun hge => ?_)
  · have hx := List.getElem?_eq_getElem (show i < xs.length by omega)
    generalize xs[i] = x at hx
    refine hs.strRow hx fun b o hr => ⟨x, hr, hg x _ ⟨_, rfl, ifT_intro (fun he => hQ _ ⟨fun _ => List.any_eq_true.2 ⟨x, List.mem_of_getElem? hx, he⟩, fun _ => by omega⟩) fun he => ⟨xs.length - (i + 1), by omega, rfl, i + 1, by omega, by rw [w64] <;> omega, rfl, ?_⟩⟩⟩
    rw [List.take_add_one, hx]
    show ((xs.take i ++ [x]).any _) = false
    rw [List.any_append, hno]
    simp [he]
  · have : i = xs.length := by omega
    subst this
    rw [List.take_length] at hno
    exact hQ _ ⟨fun h => by omega, fun h => by rw [hno] at h; cases h⟩
theorem spec50 (hI : Closed' prog Pm I) {s : Sl} {xs : List ByteArray} {g : FuncId} {i : Nat} {p : ByteArray → Bool} (hs : At h 1 s (strs xs)) (hlen : xs.length < 1000)
    (hg : ∀ y Q', Q' [boo (p y)] h → I g [str y, .one (.ptr (some (i, 0)))] Q' h) (hQ : Q [boo (xs.any p)] h) : I 50 [.one (.slice 1 s), .one (.func (some (g, [(i, 0)])))] Q h := by
  refine hI.go _ _ (den50 I s _ Q) ?_
  refine spec71 hI hs hlen hg fun k hk => ⟨k, rfl, ?_⟩
  have : decide (k ≥ 0) = xs.any p := by rw [Bool.eq_iff_iff, ← hk]; simp
  rw [this]; exact hQ
theorem spec85 (hI : Closed' prog Pm I) {s : ByteArray} {x : Itm} {i : Nat} (hi : h i = some (.cells false (itmC x))) (ht : At h 1 x.tg (strs x.tags)) (hlen : x.tags.length < 1000) (hQ : Q [boo (x.tags.any fun t => decide (t = s))] h) : I 85 [str s, .one (.ptr (some (i, 0)))] Q h := by
  refine hI.go _ _ (den85 I s i 0 Q) ?_
  exact ⟨x.tg, read_cell hi rfl, spec86 hI ht hlen ⟨_, rfl, hQ⟩⟩
theorem spec59 (hI : Closed' prog Pm I) {o : Offr} {x : Itm} (ho : At h 1 o.tg (strs o.tags)) (hx : At h 1 x.tg (strs x.tags)) (hol : o.tags.length < 1000) (hxl : x.tags.length < 1000) (hQ : ∀ h', Ext h h' → Q [boo (matchB o x)] h') : I 59 [.agg (offC o), .agg (itmC x)] Q h := by
  refine hI.go _ _ (den59 I o.key o.kind o.a o.b o.tg o.least o.most o.group o.alone o.order o.from_ o.to_ x.key x.cents x.many x.tg Q) ?_
  refine newK_intro fun i17 h2 hn2 he2 => ?_
  have x2 : Ext h h2 := he2 ▸ Ext.new hn2
  have hc : h2 i17 = some (.cells false (itmC x)) := by rw [he2, set_eq]; rfl
  have hl : o.tg.len = o.tags.length := by have := ho.1; simpa [strs] using this
  refine ifT_dec (fun h1 => ?_) fun h1 => ?_
  · have e : matchB o x = true := by
      have : o.tags = [] := List.length_eq_zero_iff.1 (by omega)
      unfold matchB; rw [this]; rfl
    have := hQ _ x2
    rw [e] at this; exact this
  · have e : matchB o x = o.tags.any fun s => x.tags.any fun t => decide (t = s) := by
      unfold matchB
      have : o.tags.isEmpty = false := by
        cases h2 : o.tags with
        | nil => rw [h2] at hl; simp at hl; omega
        | cons a l => rfl
      rw [this]; rfl
    have hq := hQ _ x2
    rw [e] at hq
    exact spec50 hI (p := fun s => x.tags.any fun t => decide (t = s)) (x2.at_ ho) hol (fun y Q' hq' => spec85 hI hc (x2.at_ hx) hxl hq') ⟨_, rfl, hq⟩
theorem spec35 (hI : Closed' prog Pm I) {o : Offr} {s : Sl} {xs : List Itm} {ship t : Int} (ho : OkO o) (ht : At h 1 o.tg (strs o.tags)) (hotl : o.tags.length < 1000) (hs : Itms h s xs) (hxs : ∀ x ∈ xs, okI x) (hxl : xs.length ≤ 50) (hxt : ∀ x ∈ xs, x.tags.length < 1000) (hQ : ∀ h', Ext h h' → Q [int (fitsF o xs ship t)] h') : I 35 [.agg (offC o), .agg [.slice 4 s, .int .i64 ship], int t] Q h := by
  have hl := hs.len
  refine hI.go _ _ (den35 I o.key o.kind o.a o.b o.tg o.least o.most o.group o.alone o.order o.from_ o.to_ s ship t Q) ?_
  refine loopK_intro (fun (a : Int × Int) h' m => Ext h h' ∧ ∃ i : Nat, i ≤ xs.length ∧ a = (allF o (xs.take i), (i : Int)) ∧ xs.length - i = m) xs.length ⟨Ext.refl _, 0, by omega, rfl, rfl⟩ ?_
  rintro a h' m ⟨x', i, hi, rfl, rfl⟩
  dsimp only [uncur]
  refine ifT_dec (fun hlt => ⟨⟨by omega, hlt⟩, ?_⟩) (fun hge => ?_)
  · have hx := List.getElem?_eq_getElem (show i < xs.length by omega)
    generalize xs[i] = x at hx
    have hxm := List.mem_of_getElem? hx
    have hst := allF_step (o := o) hx
    have hb := allF_bound (o := o) (xs := xs.take i) fun y hy => hxs y (List.mem_of_mem_take hy)
    have hin := inF_ge (o := o) (hxs x hxm)
    have hlen : (xs.take i).length ≤ 50 := by rw [List.length_take]; omega
    have hok := hxs x hxm
    have hmul : 0 ≤ x.cents * x.many ∧ x.cents * x.many ≤ 1000000000 := by
      obtain ⟨h1, h2, h3, h4⟩ := hok
      exact ⟨Int.mul_nonneg h1 (by omega), Int.le_trans (Int.mul_le_mul h2 h4 (by omega) (by decide)) (by decide)⟩
    have ew : IntKind.i64.wrap ((i : Int) + 1) = ((i + 1 : Nat) : Int) := by rw [w64] <;> omega
    have em : IntKind.i64.wrap (x.cents * x.many) = x.cents * x.many := by rw [w64] <;> omega
    have es : IntKind.i64.wrap (allF o (xs.take i) + x.cents * x.many) = allF o (xs.take i) + x.cents * x.many := by rw [w64] <;> omega
    have go : ∀ (v : Int) (g : Heap), Ext h g → allF o (xs.take (i + 1)) = v → ∃ m', m' < xs.length - i ∧ Ext h g ∧ ∃ j : Nat, j ≤ xs.length ∧ (v, IntKind.i64.wrap ((i : Int) + 1)) = (allF o (xs.take j), (j : Int)) ∧ xs.length - j = m' := fun v g hg hv => ⟨xs.length - (i + 1), by omega, hg, i + 1, by omega, by rw [ew, hv], rfl⟩
    refine (x'.at_ hs.at_).row itmC_length (by decide) hx fun bb oo hr => ⟨x.key, x.cents, x.many, x.tg, hr, ?_⟩
    rw [em, es]
    refine ifT_dec (fun hk => ?_) fun hk => spec59 hI ((x'.at_ ht)) (x'.at_ (hs.tg x hxm)) (by omega) (hxt x hxm) fun g xg => ⟨_, rfl, ifT_intro (fun hm => go _ g (x'.trans xg) (by rw [hst]; unfold inF; rw [if_pos hm])) fun hm => go _ g (x'.trans xg) (by rw [hst]; unfold inF; rw [if_neg (by rw [hm]; simp), Int.add_zero])⟩
    · refine go _ h' x' ?_
      have hm : matchB o x = true := by unfold matchB; rw [ho.ship hk]; rfl
      rw [hst]; unfold inF; rw [if_pos hm]
  · have : i = xs.length := by omega
    subst this
    rw [List.take_length]
    refine joinK_intro (fun (b : Bool) h'' => h'' = h' ∧ b = (if o.kind = 4 then decide (ship = 0) else decide (allF o xs = 0))) ?_ fun j hj => ifT_dec (fun hk => hj _ _ ⟨rfl, by rw [if_pos hk]⟩) fun hk => hj _ _ ⟨rfl, by rw [if_neg hk]⟩
    rintro b h'' ⟨rfl, hb⟩
    have hq := hQ _ x'
    unfold fitsF at hq
    rw [← hb] at hq
    refine ifT_dec (fun h1 => ?_) fun h1 => ifT_dec (fun h2 => ?_) fun h2 => ifT_intro (fun h3 => ?_) fun h3 => ifT_dec (fun h4 => ?_) fun h4 => ?_
    · rw [if_pos h1] at hq; exact hq
    · rw [if_neg h1, if_pos h2] at hq; exact hq
    · rw [if_neg h1, if_neg h2, if_pos h3] at hq; exact hq
    · rw [if_neg h1, if_neg h2, if_neg (by rw [h3]; simp), if_pos h4] at hq; exact hq
    · rw [if_neg h1, if_neg h2, if_neg (by rw [h3]; simp), if_neg h4] at hq; exact hq
/-! ### together -/
theorem grp_any {pre : List Offr} {x : Offr} (hne : x.group ≠ ⟨#[]⟩) : (pre.any fun y => grpB y x) = hasS (pre.map (·.group)) x.group := by
  unfold hasS grpB
  rw [List.any_map]
  have : decide (x.group ≠ ⟨#[]⟩) = true := decide_eq_true hne
  simp only [this, Bool.true_and]
  rfl
theorem grp_none {pre : List Offr} {x : Offr} (he : x.group = ⟨#[]⟩) : (pre.any fun y => grpB y x) = false := by
  unfold grpB
  simp [he]
theorem spec32 (hI : Closed' prog Pm I) {s : Sl} {xs : List Offr} (hs : Offs h s xs) (hlen : xs.length < 1000) (hQ : ∀ h', Ext h h' → Q [boo (togP xs.length [] xs)] h') : I 32 [.one (.slice 12 s)] Q h := by
  have hl := hs.len
  refine hI.go _ _ (den32 I s Q) ?_
  refine newK_intro fun i2 h2 hn2 he2 => ?_
  refine loopK_intro (fun (a : Int) h' m => ∃ (i : Nat) (es : List (V × V)), i ≤ xs.length ∧ a = i ∧ xs.length - i = m ∧ togP xs.length [] xs = togP xs.length (xs.take i) (xs.drop i) ∧ h' = h.set i2 (.map es) ∧ SetOf es ((xs.take i).map (·.group))) xs.length
    ⟨0, [], by omega, rfl, rfl, rfl, he2, SetOf.nil⟩ ?_
  rintro a h' m ⟨i, es, hi, rfl, rfl, htog, rfl, hset⟩
  have x' : Ext h (h.set i2 (.map es)) := Ext.new hn2
  have fin : ∀ b : Bool, togP xs.length [] xs = b → Q [boo b] (h.set i2 (.map es)) := fun b hb => by rw [← hb]; exact hQ _ x'
  refine ifT_dec (fun hlt => ⟨⟨by omega, hlt⟩, ?_⟩) (fun hge => ?_)
  · have hx := List.getElem?_eq_getElem (show i < xs.length by omega)
    generalize xs[i] = x at hx
    rw [togP_step hx] at htog
    obtain ⟨es', hes', hset'⟩ := hset.set x.group
    have go : ¬ ((x.alone = true ∧ xs.length > 1) ∨ ((xs.take i).any fun y => grpB y x) = true) → mapK [] (some i2) (.one (.str x.group)) (.one (.bool true)) (fun h' => ∃ m', m' < xs.length - i ∧ ∃ (j : Nat) (es : List (V × V)), j ≤ xs.length ∧ IntKind.i64.wrap ((i : Int) + 1) = j ∧ xs.length - j = m' ∧ togP xs.length [] xs = togP xs.length (xs.take j) (xs.drop j) ∧ h' = h.set i2 (.map es) ∧ SetOf es ((xs.take j).map (·.group))) (h.set i2 (.map es)) := fun hn => by
      rw [if_neg hn] at htog
      refine mapK_intro (set_eq _ _ _) hes' ⟨xs.length - (i + 1), by omega, i + 1, es', by omega, by rw [w64] <;> omega, rfl, htog, by rw [set_set], ?_⟩
      have : (xs.take (i + 1)).map (·.group) = (xs.take i).map (·.group) ++ [x.group] := by
        rw [List.take_add_one, hx]; simp
      rw [this]; exact hset'
    refine (x'.at_ hs.at_).row offC_length (by decide) hx fun bb o hr => ⟨x.key, x.kind, x.a, x.b, x.tg, x.least, x.most, x.group, x.alone, x.order, x.from_, x.to_, hr, ?_⟩
    have mid : ¬ (x.alone = true ∧ xs.length > 1) → ifT (!decide (x.group = ⟨#[]⟩))
          (fun h21 => ∃ b22 : Bool, ∃ b23 : Bool, (∃ cs24 : List (V × V), (mapOf h21 (some i2) = some cs24) ∧ mapGet (V.one (Cell.str x.group)) (V.one (Cell.bool false)) cs24 = some (V.one (Cell.bool b22), b23)) ∧
            (ifT b22 (Q [V.one (Cell.bool false)]) (fun h25 => (mapK [] (some i2) (V.one (Cell.str x.group)) (V.one (Cell.bool true)) (fun h' => ∃ m', m' < xs.length - i ∧ ∃ (j : Nat) (es : List (V × V)), j ≤ xs.length ∧ IntKind.i64.wrap ((i : Int) + 1) = j ∧ xs.length - j = m' ∧ togP xs.length [] xs = togP xs.length (xs.take j) (xs.drop j) ∧ h' = h.set i2 (.map es) ∧ SetOf es ((xs.take j).map (·.group)))) h25)) h21)
          (fun h26 => (mapK [] (some i2) (V.one (Cell.str x.group)) (V.one (Cell.bool true)) (fun h' => ∃ m', m' < xs.length - i ∧ ∃ (j : Nat) (es : List (V × V)), j ≤ xs.length ∧ IntKind.i64.wrap ((i : Int) + 1) = j ∧ xs.length - j = m' ∧ togP xs.length [] xs = togP xs.length (xs.take j) (xs.drop j) ∧ h' = h.set i2 (.map es) ∧ SetOf es ((xs.take j).map (·.group)))) h26) (h.set i2 (.map es)) := fun hna => by
      refine ifT_intro (fun hg => ?_) fun hg => ?_
      · have hga := grp_any (pre := xs.take i) (nd hg)
        refine ⟨_, _, ⟨es, mapOf_some (set_eq _ _ _), hset.get x.group⟩, ifT_intro (fun hb => fin false ?_) fun hb => go fun h => ?_⟩
        · rw [htog, if_pos (.inr (by rw [hga]; exact hb))]
        · rcases h with h | h
          · exact hna h
          · rw [hga, hb] at h; cases h
      · refine go fun h => ?_
        rcases h with h | h
        · exact hna h
        · rw [grp_none (Decidable.of_not_not (nd' hg))] at h; cases h
    refine ifT_intro (fun ha => ifT_dec (fun h1 => fin false (by rw [htog, if_pos (.inl ⟨ha, by omega⟩)])) fun h1 => mid fun h => by omega) fun ha => mid fun h => by rw [ha] at h; cases h.1
  · have : i = xs.length := by omega
    subst this
    rw [List.drop_length] at htog
    exact fin true (by rw [htog]; rfl)
theorem notB_of {a x : Offr} : notB a x = true ↔ x.alone = true ∨ a.alone = true ∨ (x.group ≠ ⟨#[]⟩ ∧ x.group = a.group) := by
  unfold notB grpB
  simp only [Bool.or_eq_true, Bool.and_eq_true, decide_eq_true_eq]
  constructor
  · rintro ((h | h) | ⟨h1, h2⟩)
    · exact .inl h
    · exact .inr (.inl h)
    · exact .inr (.inr ⟨h1, h2.symm⟩)
  · rintro (h | h | ⟨h1, h2⟩)
    · exact .inl (.inl h)
    · exact .inl (.inr h)
    · exact .inr ⟨h1, h2.symm⟩
theorem spec31 (hI : Closed' prog Pm I) {s t : Sl} {os : List Offr} {xs : List Itm} {ship at_ : Int} (ho : Offs h s os) (hx : Itms h t xs) (hQ : ∀ h', Ext h h' → Q [int (errA os xs ship at_)] h') : I 31 [.one (.slice 12 s), .agg [.slice 4 t, .int .i64 ship], int at_] Q h := by
  refine hI.go _ _ (den31 I s t ship at_ Q) ?_
  have bad : ∀ e (g' : Heap), Ext h g' → errA os xs ship at_ = e → Q [int e] g' := fun e g' hg he => by rw [← he]; exact hQ _ hg
  refine spec56 hI ho fun h1 x1 => ⟨_, rfl, ifT_intro (fun h2 => bad _ _ x1 (if_pos (nd h2))) fun h2 => spec57 hI (x1.itms hx) fun h3 x3 => ⟨_, rfl, ifT_intro (fun h4 => bad _ _ (x1.trans x3) ?_) fun h4 => spec44 hI ⟨_, rfl, ifT_intro (fun h5 => bad _ _ (x1.trans x3) ?_) fun h5 => bad _ _ (x1.trans x3) ?_⟩⟩⟩
  · unfold errA; rw [if_neg (nd' h2), if_pos (nd h4)]
  · unfold errA; rw [if_neg (nd' h2), if_neg (nd' h4), if_pos (nd h5)]
  · unfold errA; rw [if_neg (nd' h2), if_neg (nd' h4), if_neg (nd' h5)]
theorem tagl {x : Offr} (h : errO [x] = 0) : x.tags.length < 1000 := by
  have h1 : scanO [] [x] = 0 := by unfold errO at h; rwa [if_neg (by simp)] at h
  simp only [scanO] at h1
  split at h1
  · cases h1
  split at h1
  · cases h1
  split at h1
  · cases h1
  split at h1
  · cases h1
  split at h1
  · cases h1
  split at h1
  · cases h1
  split at h1
  · rename_i h6; exact absurd h1 h6
  rename_i h6
  have h7 : errTg x.tags = 0 := Decidable.of_not_not h6
  unfold errTg at h7
  split at h7
  · cases h7
  · omega
theorem scanI_tags : ∀ (l pre : List Itm), scanI pre l = 0 → ∀ x ∈ l, x.tags.length ≤ 10
  | [], _, _, x, hx => by cases hx
  | y :: l, pre, h, x, hx => by
    simp only [scanI] at h
    split at h
    · cases h
    split at h
    · cases h
    split at h
    · cases h
    split at h
    · rename_i h6; exact absurd h h6
    rename_i h6
    rcases List.mem_cons.1 hx with rfl | hx
    · have h7 : errTg x.tags = 0 := Decidable.of_not_not h6
      unfold errTg at h7
      split at h7
      · cases h7
      · omega
    · exact scanI_tags l _ h x hx
theorem errK_tags {xs : List Itm} {ship : Int} (h : errK xs ship = 0) : ∀ x ∈ xs, x.tags.length < 1000 := by
  unfold errK at h
  split at h
  · cases h
  split at h
  · rename_i h6; exact absurd h h6
  rename_i h6
  exact fun x hx => by have := scanI_tags xs [] (Decidable.of_not_not h6) x hx; omega
theorem box_offs {i : Nat} {o : Offr} {h h' : Heap} (hn : h i = none) (he : h' = h.set i (.cells false (offC o))) (ht : At h 1 o.tg (strs o.tags)) : Offs h' ⟨some (i, 0), 1⟩ [o] := by
  refine ⟨⟨rfl, .inr ?_⟩, fun x hx => ?_⟩
  · show h'.read i 0 12 = _
    rw [read_block (ro := false) (cs := offC o) (by rw [he, set_eq]) (show 0 + 12 ≤ (offC o).length from Nat.le_refl 12)]
    simp [rows]
    rfl
  · have : x = o := by simpa using hx
    subst this
    exact (he ▸ Ext.new hn : Ext h h').at_ ht
end
end Go.Proofs.YtdjancoknephnaaGreatVc
-- from OfSpec3
namespace Go.Proofs.YtdjancoknephnaaGreatVc
open Go.Proofs.Tryz (prog)
/-- Tags lie in memory that is one's own, or there are none. -/
def tgIn (T : List Ow) (s : Sl) (tags : List ByteArray) : Prop := (s = ⟨none, 0⟩ ∧ tags = []) ∨ (1, s, strs tags) ∈ T
theorem tgIn.mono {T U : List Ow} {s : Sl} {tags : List ByteArray} (h : tgIn T s tags) (hs : ∀ p ∈ T, p ∈ U) : tgIn U s tags := h.imp id fun h => hs _ h
theorem tgIn.at_ {h0 h : Heap} {T M : List Ow} {s : Sl} {tags : List ByteArray} (o : Owns h0 h M) (ht : tgIn T s tags) (hs : ∀ p ∈ T, p ∈ M) : At h 1 s (strs tags) := by
  rcases ht with ⟨rfl, rfl⟩ | ht
  · exact ⟨rfl, .inl rfl⟩
  · exact o.at_ (hs _ ht)
def slC (ps : List (Sl × List ByteArray)) : List Cell := ps.map fun p => .slice 1 p.1
section
variable {I : Calls} {Q : Post} {h hb : Heap} {i : Nat} {l : Sl} {zs : List Int} {t0 : Nat}
/-- A literal of ints, and one of them is drawn. -/
theorem pick_lit (hI : Closed' prog Pm I) (S0 : Strm hb i l zs t0) {t : Nat} {L : List Ow} (o : Owns (hb.del i) h (owS i l t :: L)) (ht : t < 900000000) (xs : List Int) (h1 : xs ≠ []) (h2 : xs.length < 1000) {F : Int → T}
    (hF : ∀ v ∈ xs, ∀ h', Owns (hb.del i) h' (owS i l (t + 1) :: L) → F v h') :
    newK (.cells false (ints xs)) (fun i6 => fun h7 => I 18 [.one (.ptr (some (i, 0))), .one (.slice 1 ⟨some (i6, 0), xs.length⟩)] (fun cs h9 => ∃ n : Int, cs = [int n] ∧ F n h9) h7) h := by
  refine newK_intro fun i6 h7 hn he => ?_
  have hne := o.lit_ne hn
  have o2 := o.mono (he ▸ Ext.new hn : Ext _ h7)
  exact spec18 hI (xs := xs) (o2.toStrm S0 (t' := t) (by simp) (by omega)) (lit_at hne he rfl) h1 h2 fun v hv => ⟨v, rfl, hF v hv _ o2.next⟩
theorem one_lit (hI : Closed' prog Pm I) (S0 : Strm hb i l zs t0) {t : Nat} {L : List Ow} (o : Owns (hb.del i) h (owS i l t :: L)) (ht : t < 900000000) (xs : List ByteArray) (h1 : xs ≠ []) (h2 : xs.length < 1000) {F : ByteArray → T}
    (hF : ∀ v ∈ xs, ∀ h', Owns (hb.del i) h' (owS i l (t + 1) :: L) → F v h') :
    newK (.cells false (strs xs)) (fun i6 => fun h7 => I 20 [.one (.ptr (some (i, 0))), .one (.slice 1 ⟨some (i6, 0), xs.length⟩)] (fun cs h9 => ∃ n : ByteArray, cs = [str n] ∧ F n h9) h7) h := by
  refine newK_intro fun i6 h7 hn he => ?_
  have hne := o.lit_ne hn
  have o2 := o.mono (he ▸ Ext.new hn : Ext _ h7)
  exact spec20 hI (xs := xs) (o2.toStrm S0 (t' := t) (by simp) (by omega)) (lit_atC hne he (by rw [strs, List.length_map])) h1 h2 fun v hv => ⟨v, rfl, hF v hv _ o2.next⟩
/-- One of some rows of tags is drawn. -/
theorem pick_tags (hI : Closed' prog Pm I) (S0 : Strm hb i l zs t0) {t : Nat} {T L : List Ow} {i4 n : Nat} {ps : List (Sl × List ByteArray)} (o : Owns (hb.del i) h (owS i l t :: (1, ⟨some (i4, 0), n⟩, slC ps) :: (T ++ L))) (ht : t < 900000000)
    (hn : n = ps.length) (hn0 : 0 < n) (hn1 : n < 1000) (hp : ∀ p ∈ ps, tgIn T p.1 p.2) {F : Sl → YtdjancoknephnaaGreatVc.T} (hF : ∀ sl tags h', tgIn T sl tags → Owns (hb.del i) h' (owS i l (t + 1) :: (T ++ L)) → F sl h') :
    I 19 [.one (.ptr (some (i, 0))), int (n : Int)] (fun cs h9 => ∃ v : Int, cs = [int v] ∧ ((0 ≤ v) ∧ v < (n : Int)) ∧ ∃ sl : Sl, h9.read i4 (0 + v.toNat * 1) 1 = some [.slice 1 sl] ∧ F sl h9) h := by
  refine spec19 hI (o.toStrm S0 (t' := t) (by simp) (by omega)) (by omega) (by omega) fun v h0 h1 => ⟨v, rfl, ⟨h0, h1⟩, ?_⟩
  obtain ⟨v, rfl⟩ := Int.eq_ofNat_of_zero_le h0
  have hx := List.getElem?_eq_getElem (show v < ps.length by omega)
  generalize ps[v] = p at hx
  have o2 := o.next (t' := t + 1)
  refine ⟨p.1, ?_, hF p.1 p.2 _ (hp p (List.mem_of_getElem? hx)) (o2.swp.tail)⟩
  rw [Int.toNat_natCast, Nat.zero_add, Nat.mul_one]
  exact read_cell (o2.block (sz := 1) (i := i4) (n := n) (cs := slC ps) (by simp)).1 (by unfold slC; rw [List.getElem?_map, hx]; rfl)
/-- An offer. -/
theorem spec21 (hI : Closed' prog Pm I) (S0 : Strm hb i l zs t0) {t : Nat} {L : List Ow} (o : Owns (hb.del i) h (owS i l t :: L)) (ht : t < 800000000) {key : ByteArray}
    (hQ : ∀ (x : Offr) (T : List Ow) t' h', Owns (hb.del i) h' (owS i l t' :: (T ++ L)) → tgIn T x.tg x.tags → t' ≤ t + 20 → x.key = key → Q [.agg (offC x)] h') : I 21 [.one (.ptr (some (i, 0))), str key] Q h := by
  refine hI.go _ _ (den21 I (some (i, 0)) key Q) ?_
  refine spec16 hI (o.toStrm S0 (t' := t) (by simp) (by omega)) (by decide) (by decide) (by decide) fun kd _ _ => ⟨kd, rfl, ?_⟩
  refine pick_lit hI S0 (o.next (t' := t + 1)) (by omega) [0, 0, 1, 2] (by simp) (by simp) fun ord _ h2 o2 => ?_
  refine pick_lit hI S0 o2 (by omega) [0, 0, 0, 60] (by simp) (by simp) fun fr _ h3 o3 => ?_
  refine pick_lit hI S0 o3 (by omega) [50, 100, 4321440, 4321440] (by simp) (by simp) fun to _ h4 o4 => ?_
  refine joinK_intro (fun p h' => ∃ t', t' ≤ t + 6 ∧ p.1 = key ∧ p.2.2.2.2.1 = ⟨none, 0⟩ ∧ Owns (hb.del i) h' (owS i l t' :: L)) ?_ ?_
  case refine_2 =>
    intro j hj
    refine ifT_dec (fun _ => ?_) fun _ => ?_
    · exact pick_lit hI S0 o4 (by omega) [1, 10, 33, 50, 100] (by simp) (by simp) fun v _ h5 o5 => hj _ _ ⟨_, by omega, rfl, rfl, o5⟩
    refine joinK_intro (fun p h' => ∃ t', t' ≤ t + 6 ∧ p.1 = key ∧ p.2.2.2.2.1 = ⟨none, 0⟩ ∧ Owns (hb.del i) h' (owS i l t' :: L)) ?_ fun j2 hj2 => ifT_dec (fun _ => ?_) fun _ => ?_
    · rintro ⟨a1, a2, a3, a4, a5, a6, a7, a8, a9, a10, a11, a12, u⟩ h5 hh
      exact hj _ _ hh
    · refine spec16 hI (o4.toStrm S0 (t' := t + 1 + 1 + 1 + 1) (by simp) (by omega)) (by decide) (by decide) (by decide) fun a _ _ => ⟨a, rfl, ?_⟩
      have o5 := o4.next (t' := t + 1 + 1 + 1 + 1 + 1)
      refine spec16 hI (o5.toStrm S0 (t' := t + 1 + 1 + 1 + 1 + 1) (by simp) (by omega)) (by decide) (by decide) (by decide) fun b _ _ => ⟨b, rfl, hj2 _ _ ⟨_, by omega, rfl, rfl, o5.next (t' := t + 1 + 1 + 1 + 1 + 1 + 1)⟩⟩
    · exact pick_lit hI S0 o4 (by omega) [1, 100, 500, 5000, 1000000000000] (by simp) (by simp) fun v _ h5 o5 => hj2 _ _ ⟨_, by omega, rfl, rfl, o5⟩
  rintro ⟨a1, a2, a3, a4, a5, a6, a7, a8, a9, a10, a11, a12, u⟩ h5 ⟨t5, ht5, hk, htg, o5⟩
  obtain rfl : a1 = key := hk
  obtain rfl : a5 = ⟨none, 0⟩ := htg
  dsimp only [uncur]
  refine joinK_intro (fun (b : Bool) h' => ∃ t', t' ≤ t5 + 1 ∧ Owns (hb.del i) h' (owS i l t' :: L)) ?_ fun j hj => ifT_intro (fun _ => spec17 hI (o5.toStrm S0 (t' := t5) (by simp) (by omega)) (by decide) (by decide) fun b => ⟨b, rfl, hj _ _ ⟨_, Nat.le_refl _, o5.next⟩⟩) fun _ => hj _ _ ⟨t5, by omega, o5⟩
  rintro b h6 ⟨t6, ht6, o6⟩
  refine joinK_intro (fun p h' => ∃ t' T tags, t' ≤ t6 + 1 ∧ p.1 = a1 ∧ tgIn T p.2.2.2.2.1 tags ∧ Owns (hb.del i) h' (owS i l t' :: (T ++ L))) ?_ ?_
  case refine_2 =>
    intro j hj
    refine ifT_intro (fun _ => ?_) fun _ => hj _ _ ⟨t6, [], [], by omega, rfl, .inl ⟨rfl, rfl⟩, o6⟩
    refine newK_intro fun i1 g1 hn1 he1 => newK_intro fun i2 g2 hn2 he2 => newK_intro fun i3 g3 hn3 he3 => newK_intro fun i4 g4 hn4 he4 => ?_
    subst he1 he2 he3 he4
    have q1 := (o6.new (sz := 1) (n := 1) (cs := strs [⟨#[104, 97, 116]⟩]) hn1 rfl).swp
    have q2 := (q1.new (sz := 1) (n := 2) (cs := strs [⟨#[99, 97, 112]⟩, ⟨#[104, 97, 116]⟩]) hn2 rfl).swp
    have q3 := (q2.new (sz := 1) (n := 1) (cs := strs [⟨#[115, 104, 111, 101]⟩]) hn3 rfl).swp
    have q4 := (q3.new (sz := 1) (n := 3) (cs := slC [(⟨some (i1, 0), 1⟩, [⟨#[104, 97, 116]⟩]), (⟨some (i2, 0), 2⟩, [⟨#[99, 97, 112]⟩, ⟨#[104, 97, 116]⟩]), (⟨some (i3, 0), 1⟩, [⟨#[115, 104, 111, 101]⟩])]) hn4 rfl).swp
    exact pick_tags hI S0 (T := [(1, ⟨some (i3, 0), 1⟩, strs [⟨#[115, 104, 111, 101]⟩]), (1, ⟨some (i2, 0), 2⟩, strs [⟨#[99, 97, 112]⟩, ⟨#[104, 97, 116]⟩]), (1, ⟨some (i1, 0), 1⟩, strs [⟨#[104, 97, 116]⟩])]) (L := L) q4 (by omega) rfl (by decide) (by decide) (by simp [tgIn]) fun sl tags h7 htg o7 => hj _ _ ⟨_, _, tags, Nat.le_refl _, rfl, htg, o7⟩
  rintro ⟨b1, b2, b3, b4, b5, b6, b7, b8, b9, b10, b11, b12, u⟩ h7 ⟨t7, T, tags, ht7, hk, htg, o7⟩
  obtain rfl : b1 = a1 := hk
  simp only at htg
  dsimp only [uncur]
  refine pick_lit hI S0 o7 (by omega) [0, 0, 0, 500, 3000] (by simp) (by simp) fun least _ h8 o8 => ?_
  refine pick_lit hI S0 o8 (by omega) [0, 0, 0, 100, 333] (by simp) (by simp) fun most _ h9 o9 => ?_
  refine spec17 hI (o9.toStrm S0 (t' := t7 + 1 + 1) (by simp) (by omega)) (by decide) (by decide) fun fl => ⟨fl, rfl, ?_⟩
  have o10 := o9.next (t' := t7 + 1 + 1 + 1)
  refine joinK_intro (fun p h' => ∃ t', t' ≤ t7 + 4 ∧ p.1 = b1 ∧ p.2.2.2.2.1 = b5 ∧ Owns (hb.del i) h' (owS i l t' :: (T ++ L))) ?_ fun j hj => ifT_intro (fun _ => one_lit hI S0 o10 (by omega) [⟨#[103, 49]⟩, ⟨#[103, 50]⟩] (by simp) (by simp) fun v _ h11 o11 => hj _ _ ⟨_, by omega, rfl, rfl, o11⟩) fun _ => hj _ _ ⟨_, by omega, rfl, rfl, o10⟩
  rintro ⟨c1, c2, c3, c4, c5, c6, c7, c8, c9, c10, c11, c12, u⟩ h11 ⟨t11, ht11, hk, htg2, o11⟩
  obtain rfl : c1 = b1 := hk
  obtain rfl : c5 = b5 := htg2
  dsimp only [uncur]
  refine spec17 hI (o11.toStrm S0 (t' := t11) (by simp) (by omega)) (by decide) (by decide) fun al => ⟨al, rfl, ?_⟩
  exact hQ ⟨c1, c2, c3, c4, c5, c6, c7, c8, al, c10, c11, c12, tags⟩ T _ _ (o11.next (t' := t11 + 1)) htg (by omega) rfl
/-- A cell of a row of structs is written. -/
theorem store_row {α : Type} {f : α → List Cell} {k : Nat} (hf : ∀ a, (f a).length = k) {h0 h : Heap} {L : List Ow} {bs n e j : Nat} {xs : List α} {x x' : α} {c : Cell} {K : T} (o : Owns h0 h ((k, ⟨some (bs, 0), n⟩, rows f xs) :: L)) (hx : xs[e]? = some x) (hj : j < k)
    (hc : (f x).set j c = f x') (hK : ∀ h', Owns h0 h' ((k, ⟨some (bs, 0), n⟩, rows f (xs.set e x')) :: L) → K h') : storeK [] bs (0 + ((e : Nat) : Int).toNat * k + j) [c] K h := by
  have he : e < xs.length := (List.getElem?_eq_some_iff.1 hx).1
  have hle : e * k + k ≤ xs.length * k := by
    have := Nat.mul_le_mul_right k (show e + 1 ≤ xs.length by omega)
    rw [Nat.add_mul] at this; omega
  rw [Int.toNat_natCast, Nat.zero_add]
  refine storeK_one (o.block List.mem_cons_self).1 (by rw [rows_length hf]; omega) ?_
  rw [rows_set hf hx hj hc]
  refine hK _ (o.change ?_)
  have := (o.all _ List.mem_cons_self).1
  simp only at this
  rw [this, rows_length hf, rows_length hf]; simp
/-- Offers that are drawn. -/
theorem spec5 (hI : Closed' prog Pm I) (S0 : Strm hb i l zs t0) {t : Nat} {L : List Ow} {n1 : Int} (o : Owns (hb.del i) h (owS i l t :: L)) (ht : t < 100000) (hn0 : 0 ≤ n1) (hn1 : n1 ≤ 13)
    (hQ : ∀ s' xs T t' h', Owns (hb.del i) h' (owS i l t' :: (12, s', rows offC xs) :: (T ++ L)) → (∀ x ∈ xs, tgIn T x.tg x.tags) → (xs.length : Int) ≤ n1 → t' ≤ t + 500 → Q [.one (.slice 12 s')] h') : I 5 [.one (.ptr (some (i, 0))), int n1] Q h := by
  refine hI.go _ _ (den5 I (some (i, 0)) n1 Q) ?_
  have ew0 : IntKind.i64.wrap (n1 + 1) = n1 + 1 := by rw [w64] <;> omega
  unfold vc5
  rw [ew0]
  refine spec19 hI (o.toStrm S0 (t' := t) (by simp) (by omega)) (by omega) (by omega) fun n hn2 hn3 => ⟨n, rfl, ?_⟩
  have o1 := o.next (t' := t + 1)
  refine loopK_intro (fun (a : Sl × Int) h' m => ∃ (j t' : Nat) (T : List Ow) (xs : List Offr), (j : Int) ≤ n ∧ a.2 = j ∧ 14 - j = m ∧ t' ≤ t + 1 + 21 * j ∧ xs.length = j ∧ (∀ x ∈ xs, tgIn T x.tg x.tags) ∧ Owns (hb.del i) h' (owS i l t' :: (12, a.1, rows offC xs) :: (T ++ L))) 14
    ⟨0, t + 1, [], [], by omega, rfl, rfl, by omega, rfl, by simp, (o1.none_ 12).swp⟩ ?_
  rintro ⟨s, y⟩ h' m ⟨j, t', T, xs, hj, rfl, rfl, ht', hxl, htg, o⟩
  dsimp only [uncur] at o ⊢
  have hal : s.len = xs.length := (o.at_ (s := s) (by simp)).rowsLen offC_length (by decide)
  refine ifT_dec (fun hlt => ?_) (fun hge => ?_)
  · have hes := encode_size (IntKind.i32.wrap (IntKind.i64.wrap (97 + (j : Int))))
    refine ⟨by omega, spec21 hI S0 o (by omega) fun x T2 t2 h2 o2 hx ht2 _ => ⟨_, _, _, _, _, _, _, _, _, _, _, _, rfl, ?_⟩⟩
    have o3 : Owns (hb.del i) h2 (owS i l t2 :: (12, s, rows offC xs) :: ((T2 ++ T) ++ L)) := by
      rw [List.append_assoc]
      exact o2.perm (List.Perm.cons _ List.perm_middle)
    refine appendTo_owns (m := 0) o3.swp (by rfl) (by omega) (by simp) fun bn h8 o8 => ⟨14 - (j + 1), by omega, j + 1, t2, T2 ++ T, xs ++ [x], by omega, by rw [w64] <;> omega, rfl, by omega, by simp [hxl], fun y hy => ?_, ?_⟩
    · rcases List.mem_append.1 hy with hy | hy
      · exact (htg y hy).mono fun p hp => List.mem_append_right _ hp
      · have : y = x := by simpa using hy
        subst this
        exact hx.mono fun p hp => List.mem_append_left _ hp
    · rw [rows_append]
      have := o8.swp
      simpa [rows, offC] using this
  · have fin : ∀ (s' : Sl) (ys : List Offr) (T' : List Ow) (t9 : Nat) (h9 : Heap), ys.length = xs.length → t9 ≤ t' + 10 → (∀ x ∈ ys, tgIn T' x.tg x.tags) → Owns (hb.del i) h9 (owS i l t9 :: (12, s', rows offC ys) :: (T' ++ L)) → Q [.one (.slice 12 s')] h9 := fun s' ys T' t9 h9 hy ht9 hg o9 => hQ s' ys T' t9 h9 o9 hg (by omega) (by omega)
    refine joinK_intro (fun (b : Bool) h3 => Owns (hb.del i) h3 (owS i l (t' + 1) :: (12, s, rows offC xs) :: (T ++ L)) ∧ (b = true → 0 < xs.length)) ?_ ?_
    · rintro b h3 ⟨o3, hbp⟩
      refine ifT_intro (fun hbt => ?_) fun _ => fin _ _ _ _ _ rfl (by omega) htg o3
      have hpos := hbp hbt
      refine spec19 hI (o3.toStrm S0 (t' := t' + 1) (by simp) (by omega)) (by omega) (by omega) fun e he0 he1 => ⟨e, rfl, ⟨he0, he1⟩, ?_⟩
      obtain ⟨e, rfl⟩ := Int.eq_ofNat_of_zero_le he0
      have o4 := o3.next (t' := t' + 1 + 1)
      have hrl := rows_length offC_length xs
      obtain ⟨bs, hbs, hcs⟩ := o4.has (s := s) (cs := rows offC xs) (sz := 12) (by simp) (fun h => by rw [h] at hrl; simp at hrl; omega)
      rw [hbs] at o4 ⊢
      refine derefK_intro rfl ?_
      refine spec19 hI (o4.toStrm S0 (t' := t' + 1 + 1) (by simp) (by omega)) (by decide) (by decide) fun c hc0 hc1 => ⟨c, rfl, ?_⟩
      have o5 := o4.next (t' := t' + 1 + 1 + 1)
      have hx := List.getElem?_eq_getElem (show e < xs.length by omega)
      generalize xs[e] = x at hx
      have hxt := htg x (List.mem_of_getElem? hx)
      -- a field of the offer e is turned
      have put : ∀ (j2 : Nat) (c2 : Cell) (x' : Offr) (T' : List Ow) (h9 : Heap) (t9 : Nat), j2 < 12 → (offC x).set j2 c2 = offC x' → tgIn T' x'.tg x'.tags → (∀ x ∈ xs, tgIn T' x.tg x.tags) → t9 ≤ t' + 6 → Owns (hb.del i) h9 (owS i l t9 :: (12, ⟨some (bs, 0), s.len⟩, rows offC xs) :: (T' ++ L)) →
          storeK [] bs (0 + ((e : Nat) : Int).toNat * 12 + j2) [c2] (Q [.one (.slice 12 ⟨some (bs, 0), s.len⟩)]) h9 := fun j2 c2 x' T' h9 t9 hj2 hset hx' hg ht9 o9 =>
        store_row offC_length o9.swp hx hj2 hset fun h10 o10 => fin _ (xs.set e x') T' t9 _ (by simp) (by omega) (fun y hy => by
          rcases List.mem_or_eq_of_mem_set hy with hy | rfl
          · exact hg y hy
          · exact hx') o10.swp
      have two : ∀ (j2 j3 : Nat) (c2 c3 : Cell) (x' x'' : Offr) (h9 : Heap) (t9 : Nat), j2 < 12 → j3 < 12 → (offC x).set j2 c2 = offC x' → (offC x').set j3 c3 = offC x'' → x''.tg = x.tg → x''.tags = x.tags → t9 ≤ t' + 6 → Owns (hb.del i) h9 (owS i l t9 :: (12, ⟨some (bs, 0), s.len⟩, rows offC xs) :: (T ++ L)) →
          storeK [] bs (0 + ((e : Nat) : Int).toNat * 12 + j2) [c2] (storeK [] bs (0 + ((e : Nat) : Int).toNat * 12 + j3) [c3] (Q [.one (.slice 12 ⟨some (bs, 0), s.len⟩)])) h9 := fun j2 j3 c2 c3 x' x'' h9 t9 hj2 hj3 hset hset2 h1 h2 ht9 o9 =>
        store_row offC_length o9.swp hx hj2 hset fun h10 o10 => store_row offC_length o10 (x := x') (by rw [List.getElem?_set_self (by omega)]) hj3 hset2 fun h11 o11 => fin _ ((xs.set e x').set e x'') T t9 _ (by simp) (by omega) (fun y hy => by
          rw [List.set_set] at hy
          rcases List.mem_or_eq_of_mem_set hy with hy | rfl
          · exact htg y hy
          · rw [h1, h2]; exact hxt) o11.swp
      refine ifT_dec (fun _ => ?_) fun _ => ifT_dec (fun _ => ?_) fun _ => ifT_dec (fun _ => ?_) fun _ => ifT_dec (fun _ => ?_) fun _ => ifT_dec (fun _ => ?_) fun _ => ifT_dec (fun _ => ?_) fun _ => ifT_dec (fun _ => ?_) fun _ => ifT_dec (fun _ => ?_) fun _ => ?_
      · exact one_lit hI S0 o5 (by omega) [⟨#[]⟩, ⟨#[111, 97]⟩, ⟨#[79]⟩] (by simp) (by simp) fun v _ h6 o6 => put 0 (.str v) { x with key := v } T _ _ (by decide) rfl hxt htg (by omega) o6
      · refine spec16 hI (o5.toStrm S0 (t' := t' + 1 + 1 + 1) (by simp) (by omega)) (by decide) (by decide) (by decide) fun v _ _ => ⟨v, rfl, put 1 (.int .i64 v) { x with kind := v } T _ _ (by decide) rfl hxt htg ?_ (o5.next (t' := t' + 1 + 1 + 1 + 1))⟩
        omega
      · exact pick_lit hI S0 o5 (by omega) [0, 101, 21, 1000000000001, -1] (by simp) (by simp) fun v _ h6 o6 => put 2 (.int .i64 v) { x with a := v } T _ _ (by decide) rfl hxt htg (by omega) o6
      · exact pick_lit hI S0 o5 (by omega) [0, 1, 21, -1] (by simp) (by simp) fun v _ h6 o6 => put 3 (.int .i64 v) { x with b := v } T _ _ (by decide) rfl hxt htg (by omega) o6
      · exact pick_lit hI S0 o5 (by omega) [-1, 0, 1000000000001] (by simp) (by simp) fun v _ h6 o6 => pick_lit hI S0 o6 (by omega) [-1, 0] (by simp) (by simp) fun w _ h7 o7 => two 5 6 (.int .i64 v) (.int .i64 w) { x with least := v } { x with least := v, most := w } _ _ (by decide) (by decide) rfl rfl rfl rfl (by omega) o7
      · exact pick_lit hI S0 o5 (by omega) [-1, 4321440, 5] (by simp) (by simp) fun v _ h6 o6 => pick_lit hI S0 o6 (by omega) [5, 6, 4321441] (by simp) (by simp) fun w _ h7 o7 => two 10 11 (.int .i64 v) (.int .i64 w) { x with from_ := v } { x with from_ := v, to_ := w } _ _ (by decide) (by decide) rfl rfl rfl rfl (by omega) o7
      · exact one_lit hI S0 o5 (by omega) [⟨#[71]⟩, ⟨#[103, 49]⟩] (by simp) (by simp) fun v _ h6 o6 => put 7 (.str v) { x with group := v } T _ _ (by decide) rfl hxt htg (by omega) o6
      · refine newK_intro fun i1 g1 hn1 he1 => newK_intro fun i2 g2 hn2 he2 => newK_intro fun i3 g3 hn3 he3 => newK_intro fun i4 g4 hn4 he4 => ?_
        subst he1 he2 he3 he4
        have q1 := (o5.new (sz := 1) (n := 1) (cs := strs [⟨#[72, 97, 116]⟩]) hn1 rfl).swp
        have q2 := (q1.new (sz := 1) (n := 2) (cs := strs [⟨#[104, 97, 116]⟩, ⟨#[99, 97, 112]⟩]) hn2 rfl).swp
        have q3 := (q2.new (sz := 1) (n := 11) (cs := strs [⟨#[97]⟩, ⟨#[98]⟩, ⟨#[99]⟩, ⟨#[100]⟩, ⟨#[101]⟩, ⟨#[102]⟩, ⟨#[103]⟩, ⟨#[104]⟩, ⟨#[105]⟩, ⟨#[106]⟩, ⟨#[107]⟩]) hn3 rfl).swp
        have q4 := (q3.new (sz := 1) (n := 3) (cs := slC [(⟨some (i1, 0), 1⟩, [⟨#[72, 97, 116]⟩]), (⟨some (i2, 0), 2⟩, [⟨#[104, 97, 116]⟩, ⟨#[99, 97, 112]⟩]), (⟨some (i3, 0), 11⟩, [⟨#[97]⟩, ⟨#[98]⟩, ⟨#[99]⟩, ⟨#[100]⟩, ⟨#[101]⟩, ⟨#[102]⟩, ⟨#[103]⟩, ⟨#[104]⟩, ⟨#[105]⟩, ⟨#[106]⟩, ⟨#[107]⟩])]) hn4 rfl).swp
        refine pick_tags hI S0 (T := [(1, ⟨some (i3, 0), 11⟩, strs [⟨#[97]⟩, ⟨#[98]⟩, ⟨#[99]⟩, ⟨#[100]⟩, ⟨#[101]⟩, ⟨#[102]⟩, ⟨#[103]⟩, ⟨#[104]⟩, ⟨#[105]⟩, ⟨#[106]⟩, ⟨#[107]⟩]), (1, ⟨some (i2, 0), 2⟩, strs [⟨#[104, 97, 116]⟩, ⟨#[99, 97, 112]⟩]), (1, ⟨some (i1, 0), 1⟩, strs [⟨#[72, 97, 116]⟩])]) (L := (12, ⟨some (bs, 0), s.len⟩, rows offC xs) :: (T ++ L)) q4 (by omega) rfl (by decide) (by decide) (by simp [tgIn]) fun sl tags h7 htg7 o7 => ?_
        refine put 4 (.slice 1 sl) { x with tg := sl, tags := tags } (_ ++ T) _ (t' + 1 + 1 + 1 + 1) (by decide) rfl (htg7.mono fun p hp => List.mem_append_left _ hp) (fun y hy => (htg y hy).mono fun p hp => List.mem_append_right _ hp) (by omega) ?_
        rw [List.append_assoc]
        exact o7.perm (List.Perm.cons _ List.perm_middle)
      · exact pick_lit hI S0 o5 (by omega) [-1, 1001] (by simp) (by simp) fun v _ h6 o6 => put 9 (.int .i64 v) { x with order := v } T _ _ (by decide) rfl hxt htg (by omega) o6
    · intro jk hjk
      refine spec17 hI (o.toStrm S0 (t' := t') (by simp) (by omega)) (by decide) (by decide) fun b => ⟨b, rfl, ?_⟩
      have o3 := o.next (t' := t' + 1)
      refine ifT_intro (fun _ => hjk _ _ ⟨o3, fun h => ?_⟩) fun _ => hjk _ _ ⟨o3, fun h => by cases h⟩
      have := of_decide_eq_true h
      omega
/-- A basket that is drawn. -/
theorem spec6 (hI : Closed' prog Pm I) (S0 : Strm hb i l zs t0) {t : Nat} {L : List Ow} (o : Owns (hb.del i) h (owS i l t :: L)) (ht : t < 100000)
    (hQ : ∀ s' ship xs T t' h', Owns (hb.del i) h' (owS i l t' :: (4, s', rows itmC xs) :: (T ++ L)) → (∀ x ∈ xs, tgIn T x.tg x.tags) → xs.length ≤ 4 → t' ≤ t + 100 → Q [.agg [.slice 4 s', .int .i64 ship]] h') : I 6 [.one (.ptr (some (i, 0)))] Q h := by
  refine hI.go _ _ (den6 I (some (i, 0)) Q) ?_
  refine pick_lit hI S0 o (by omega) [0, 0, 495, 1000, 1000000000000] (by simp) (by simp) fun ship0 _ h1 o0 => ?_
  refine spec19 hI (o0.toStrm S0 (t' := t + 1) (by simp) (by omega)) (by decide) (by decide) fun n hn2 hn3 => ⟨n, rfl, ?_⟩
  have o1 := o0.next (t' := t + 1 + 1)
  refine loopK_intro (fun (a : (Sl × Int × PUnit) × Int) h' m => ∃ (j t' : Nat) (T : List Ow) (xs : List Itm), (j : Int) ≤ n ∧ a.2 = j ∧ 5 - j = m ∧ t' ≤ t + 2 + 6 * j ∧ xs.length = j ∧ (∀ x ∈ xs, tgIn T x.tg x.tags) ∧ Owns (hb.del i) h' (owS i l t' :: (4, a.1.1, rows itmC xs) :: (T ++ L))) 5
    ⟨0, t + 1 + 1, [], [], by omega, rfl, rfl, by omega, rfl, by simp, (o1.none_ 4).swp⟩ ?_
  rintro ⟨⟨s, ship, u⟩, y⟩ h' m ⟨j, t', T, xs, hj, rfl, rfl, ht', hxl, htg, o⟩
  dsimp only [uncur] at o ⊢
  have hal : s.len = xs.length := (o.at_ (s := s) (by simp)).rowsLen itmC_length (by decide)
  refine ifT_dec (fun hlt => ?_) (fun hge => ?_)
  · have hes := encode_size (IntKind.i32.wrap (IntKind.i64.wrap (97 + (j : Int))))
    refine ⟨by omega, pick_lit hI S0 o (by omega) [0, 1, 99, 300, 1000, 2001, 10000000] (by simp) (by simp) fun cents _ h2 o2 => pick_lit hI S0 o2 (by omega) [1, 1, 2, 3, 7, 100] (by simp) (by simp) fun many _ h3 o3 => ?_⟩
    refine newK_intro fun i1 g1 hn1 he1 => newK_intro fun i2 g2 hn2 he2 => newK_intro fun i3 g3 hn3 he3 => newK_intro fun i4 g4 hn4 he4 => newK_intro fun i5 g5 hn5 he5 => ?_
    subst he1 he2 he3 he4 he5
    have q1 := (o3.new (sz := 1) (n := 1) (cs := strs [⟨#[104, 97, 116]⟩]) hn1 rfl).swp
    have q2 := (q1.new (sz := 1) (n := 1) (cs := strs [⟨#[99, 97, 112]⟩]) hn2 rfl).swp
    have q3 := (q2.new (sz := 1) (n := 2) (cs := strs [⟨#[99, 97, 112]⟩, ⟨#[104, 97, 116]⟩]) hn3 rfl).swp
    have q4 := (q3.new (sz := 1) (n := 1) (cs := strs [⟨#[115, 104, 111, 101]⟩]) hn4 rfl).swp
    have q5 := (q4.new (sz := 1) (n := 5) (cs := slC [(⟨none, 0⟩, []), (⟨some (i1, 0), 1⟩, [⟨#[104, 97, 116]⟩]), (⟨some (i2, 0), 1⟩, [⟨#[99, 97, 112]⟩]), (⟨some (i3, 0), 2⟩, [⟨#[99, 97, 112]⟩, ⟨#[104, 97, 116]⟩]), (⟨some (i4, 0), 1⟩, [⟨#[115, 104, 111, 101]⟩])]) hn5 rfl).swp
    refine pick_tags hI S0 (T := [(1, ⟨some (i4, 0), 1⟩, strs [⟨#[115, 104, 111, 101]⟩]), (1, ⟨some (i3, 0), 2⟩, strs [⟨#[99, 97, 112]⟩, ⟨#[104, 97, 116]⟩]), (1, ⟨some (i2, 0), 1⟩, strs [⟨#[99, 97, 112]⟩]), (1, ⟨some (i1, 0), 1⟩, strs [⟨#[104, 97, 116]⟩])]) (L := (4, s, rows itmC xs) :: (T ++ L)) q5 (by omega) rfl (by decide) (by decide) (by simp [tgIn]) fun sl tags h7 htg7 o7 => ?_
    obtain ⟨T2, hT2⟩ : ∃ T2 : List Ow, T2 = [(1, ⟨some (i4, 0), 1⟩, strs [⟨#[115, 104, 111, 101]⟩]), (1, ⟨some (i3, 0), 2⟩, strs [⟨#[99, 97, 112]⟩, ⟨#[104, 97, 116]⟩]), (1, ⟨some (i2, 0), 1⟩, strs [⟨#[99, 97, 112]⟩]), (1, ⟨some (i1, 0), 1⟩, strs [⟨#[104, 97, 116]⟩])] := ⟨_, rfl⟩
    rw [← hT2] at htg7 o7
    have o8 : Owns (hb.del i) h7 (owS i l (t' + 1 + 1 + 1) :: (4, s, rows itmC xs) :: ((T2 ++ T) ++ L)) := by
      rw [List.append_assoc]
      exact o7.perm (List.Perm.cons _ List.perm_middle)
    refine appendTo_owns (m := 0) o8.swp (by rfl) (by omega) (by simp) fun bn h9 o9 => ⟨5 - (j + 1), by omega, j + 1, t' + 1 + 1 + 1, T2 ++ T, xs ++ [⟨(⟨#[105]⟩ : ByteArray) ++ Utf8.encode (IntKind.i32.wrap (IntKind.i64.wrap (97 + (j : Int)))), cents, many, sl, tags⟩], by omega, by rw [w64] <;> omega, rfl, by omega, by simp [hxl], fun y hy => ?_, ?_⟩
    · rcases List.mem_append.1 hy with hy | hy
      · exact (htg y hy).mono fun p hp => List.mem_append_right _ hp
      · have := List.mem_singleton.1 hy
        subst this
        exact htg7.mono fun p hp => List.mem_append_left _ hp
    · rw [rows_append]
      have := o9.swp
      simpa [rows, itmC] using this
  · have fin : ∀ (s' : Sl) (ship : Int) (ys : List Itm) (T' : List Ow) (t9 : Nat) (h9 : Heap), ys.length = xs.length → t9 ≤ t' + 10 → (∀ x ∈ ys, tgIn T' x.tg x.tags) → Owns (hb.del i) h9 (owS i l t9 :: (4, s', rows itmC ys) :: (T' ++ L)) → Q [.agg [.slice 4 s', .int .i64 ship]] h9 := fun s' ship ys T' t9 h9 hy ht9 hg o9 => hQ s' ship ys T' t9 h9 o9 hg (by omega) (by omega)
    refine spec17 hI (o.toStrm S0 (t' := t') (by simp) (by omega)) (by decide) (by decide) fun b => ⟨b, rfl, ?_⟩
    have o2 := o.next (t' := t' + 1)
    refine joinK_intro (fun p h' => ∃ t', t' ≤ t + 2 + 6 * j + 2 ∧ t' ≤ t + 40 ∧ p.1 = s ∧ Owns (hb.del i) h' (owS i l t' :: (4, s, rows itmC xs) :: (T ++ L))) ?_ fun jk hjk => ifT_intro (fun _ => pick_lit hI S0 o2 (by omega) [-1, 1000000000001, 0] (by simp) (by simp) fun v _ h3 o3 => hjk _ _ ⟨_, by omega, by omega, rfl, o3⟩) fun _ => hjk _ _ ⟨_, by omega, by omega, rfl, o2⟩
    clear o o2
    rintro ⟨s', ship, u⟩ h2 ⟨t', ht1, ht2, hs, o⟩
    obtain rfl : s' = s := hs
    dsimp only [uncur]
    have fin : ∀ (s' : Sl) (ship : Int) (ys : List Itm) (T' : List Ow) (t9 : Nat) (h9 : Heap), ys.length = xs.length → t9 ≤ t' + 10 → (∀ x ∈ ys, tgIn T' x.tg x.tags) → Owns (hb.del i) h9 (owS i l t9 :: (4, s', rows itmC ys) :: (T' ++ L)) → Q [.agg [.slice 4 s', .int .i64 ship]] h9 := fun s' ship ys T' t9 h9 hy ht9 hg o9 => hQ s' ship ys T' t9 h9 o9 hg (by omega) (by omega)
    refine joinK_intro (fun (b : Bool) h3 => Owns (hb.del i) h3 (owS i l (t' + 1) :: (4, s', rows itmC xs) :: (T ++ L)) ∧ (b = true → 0 < xs.length)) ?_ ?_
    · rintro b h3 ⟨o3, hbp⟩
      refine ifT_intro (fun hbt => ?_) fun _ => fin _ _ _ _ _ _ rfl (by omega) htg o3
      have hpos := hbp hbt
      refine spec19 hI (o3.toStrm S0 (t' := t' + 1) (by simp) (by omega)) (by omega) (by omega) fun e he0 he1 => ⟨e, rfl, ⟨he0, he1⟩, ?_⟩
      obtain ⟨e, rfl⟩ := Int.eq_ofNat_of_zero_le he0
      have o4 := o3.next (t' := t' + 1 + 1)
      have hrl := rows_length itmC_length xs
      obtain ⟨bs, hbs, hcs⟩ := o4.has (s := s') (cs := rows itmC xs) (sz := 4) (by simp) (fun h => by rw [h] at hrl; simp at hrl; omega)
      rw [hbs] at o4 ⊢
      refine derefK_intro rfl ?_
      refine spec19 hI (o4.toStrm S0 (t' := t' + 1 + 1) (by simp) (by omega)) (by decide) (by decide) fun c hc0 hc1 => ⟨c, rfl, ?_⟩
      have o5 := o4.next (t' := t' + 1 + 1 + 1)
      have hx := List.getElem?_eq_getElem (show e < xs.length by omega)
      generalize xs[e] = x at hx
      have hxt := htg x (List.mem_of_getElem? hx)
      have put : ∀ (j2 : Nat) (c2 : Cell) (x' : Itm) (T' : List Ow) (h9 : Heap) (t9 : Nat), j2 < 4 → (itmC x).set j2 c2 = itmC x' → tgIn T' x'.tg x'.tags → (∀ x ∈ xs, tgIn T' x.tg x.tags) → t9 ≤ t' + 6 → Owns (hb.del i) h9 (owS i l t9 :: (4, ⟨some (bs, 0), s'.len⟩, rows itmC xs) :: (T' ++ L)) →
          storeK [] bs (0 + ((e : Nat) : Int).toNat * 4 + j2) [c2] (Q [.agg [.slice 4 ⟨some (bs, 0), s'.len⟩, .int .i64 ship]]) h9 := fun j2 c2 x' T' h9 t9 hj2 hset hx' hg ht9 o9 =>
        store_row itmC_length o9.swp hx hj2 hset fun h10 o10 => fin _ _ (xs.set e x') T' t9 _ (by simp) (by omega) (fun y hy => by
          rcases List.mem_or_eq_of_mem_set hy with hy | rfl
          · exact hg y hy
          · exact hx') o10.swp
      refine ifT_dec (fun _ => ?_) fun _ => ifT_dec (fun _ => ?_) fun _ => ifT_dec (fun _ => ?_) fun _ => ?_
      · exact one_lit hI S0 o5 (by omega) [⟨#[]⟩, ⟨#[105, 97]⟩, ⟨#[73]⟩] (by simp) (by simp) fun v _ h6 o6 => put 0 (.str v) { x with key := v } T _ _ (by decide) rfl hxt htg (by omega) o6
      · exact pick_lit hI S0 o5 (by omega) [-1, 10000001] (by simp) (by simp) fun v _ h6 o6 => put 1 (.int .i64 v) { x with cents := v } T _ _ (by decide) rfl hxt htg (by omega) o6
      · exact pick_lit hI S0 o5 (by omega) [0, 101] (by simp) (by simp) fun v _ h6 o6 => put 2 (.int .i64 v) { x with many := v } T _ _ (by decide) rfl hxt htg (by omega) o6
      · refine newK_intro fun i1 g1 hn1 he1 => newK_intro fun i2 g2 hn2 he2 => newK_intro fun i3 g3 hn3 he3 => newK_intro fun i4 g4 hn4 he4 => ?_
        subst he1 he2 he3 he4
        have q1 := (o5.new (sz := 1) (n := 2) (cs := strs [⟨#[98]⟩, ⟨#[97]⟩]) hn1 rfl).swp
        have q2 := (q1.new (sz := 1) (n := 1) (cs := strs [⟨#[]⟩]) hn2 rfl).swp
        have q3 := (q2.new (sz := 1) (n := 2) (cs := strs [⟨#[120]⟩, ⟨#[120]⟩]) hn3 rfl).swp
        have q4 := (q3.new (sz := 1) (n := 3) (cs := slC [(⟨some (i1, 0), 2⟩, [⟨#[98]⟩, ⟨#[97]⟩]), (⟨some (i2, 0), 1⟩, [⟨#[]⟩]), (⟨some (i3, 0), 2⟩, [⟨#[120]⟩, ⟨#[120]⟩])]) hn4 rfl).swp
        refine pick_tags hI S0 (T := [(1, ⟨some (i3, 0), 2⟩, strs [⟨#[120]⟩, ⟨#[120]⟩]), (1, ⟨some (i2, 0), 1⟩, strs [⟨#[]⟩]), (1, ⟨some (i1, 0), 2⟩, strs [⟨#[98]⟩, ⟨#[97]⟩])]) (L := (4, ⟨some (bs, 0), s'.len⟩, rows itmC xs) :: (T ++ L)) q4 (by omega) rfl (by decide) (by decide) (by simp [tgIn]) fun sl tags h7 htg7 o7 => ?_
        refine put 3 (.slice 1 sl) { x with tg := sl, tags := tags } (_ ++ T) _ (t' + 1 + 1 + 1 + 1) (by decide) rfl (htg7.mono fun p hp => List.mem_append_left _ hp) (fun y hy => (htg y hy).mono fun p hp => List.mem_append_right _ hp) (by omega) ?_
        rw [List.append_assoc]
        exact o7.perm (List.Perm.cons _ List.perm_middle)
    · intro jk hjk
      refine spec17 hI (o.toStrm S0 (t' := t') (by simp) (by omega)) (by decide) (by decide) fun b => ⟨b, rfl, ?_⟩
      have o3 := o.next (t' := t' + 1)
      refine ifT_intro (fun _ => hjk _ _ ⟨o3, fun h => ?_⟩) fun _ => hjk _ _ ⟨o3, fun h => by cases h⟩
      have := of_decide_eq_true h
      omega
end
end Go.Proofs.YtdjancoknephnaaGreatVc
