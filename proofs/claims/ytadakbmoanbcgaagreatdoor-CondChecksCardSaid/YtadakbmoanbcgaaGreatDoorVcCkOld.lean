/- Contracts, turned by a program to the numbers of this seat. -/
import Derived.Test.YtadakbmoanbcgaaGreatDoorVcCkVc
import Derived.Test.YtadakbmoanbcgaaGreatDoorVcSeMath
import Derived.Test.YtadakbmoanbcgaaGreatDoorVcBits
import Derived.Test.YtadakbmoanbcgaaGreatDoorVcSortList
import Derived.Test.YtadakbmoanbcgaaGreatDoorVcNewB
import Derived.Test.YtadakbmoanbcgaaGreatDoorVcRowG
import Derived.Test.YtadakbmoanbcgaaGreatDoorVcCondT
set_option linter.unusedSimpArgs false
set_option linter.unusedVariables false
-- from CfOld
namespace Go.Proofs.YtadakbmoanbcgaaGreatDoorVc
open Go.Proofs.Tryz (prog)

abbrev int (n : Int) : V := .one (.int .i64 n)
abbrev u64 (n : Int) : V := .one (.int .u64 n)
abbrev str (s : ByteArray) : V := .one (.str s)
abbrev boo (b : Bool) : V := .one (.bool b)
def ints (zs : List Int) : List Cell := zs.map (.int .i64)
section
variable {Pm : Prim} {I : Calls} {Q : Post} {h : Heap}
/-! ### the stream -/
theorem spec30 (hI : Closed' prog Pm I) {x n : Int} (h1 : 1 ≤ n) (h2 : n < 4611686018427387904) (hQ : ∀ v, 0 ≤ v → v < n → Q [int v] h) : I 30 [int x, int n] Q h := by
  refine hI.go _ _ (den30 I x n Q) ?_
  refine ifT_dec (fun h3 => by omega) (fun h3 => ⟨by omega, ifT_dec (fun h4 => ?_) (fun h4 => ?_)⟩)
  · have h5 := Int.lt_tmod_of_pos x (show 0 < n by omega)
    have h6 : IntKind.i64.wrap (x.tmod n + n) = x.tmod n + n := w64 (by omega) (by omega)
    rw [h6]
    exact hQ _ (by omega) (by omega)
  · exact hQ _ (by omega) (Int.tmod_lt_of_pos x (by omega))
/-- A stream at place i: its numbers, and how many have been asked for. -/
structure Strm (h : Heap) (i : Nat) (l : Sl) (zs : List Int) (t : Nat) : Prop where
  cell : h i = some (.cells false [.slice 1 l, .int .i64 t])
  lies : At h 1 l (ints zs)
  apart : zs = [] ∨ ∀ b o, l.a = some (b, o) → b ≠ i
  small : t < 1000000000
abbrev strm (l : Sl) (t : Nat) : Obj := .cells false [.slice 1 l, .int .i64 t]
theorem Strm.at_ {h h' : Heap} {i : Nat} {l : Sl} {zs : List Int} {t : Nat} (S : Strm h i l zs t) (hf : ∀ j o, j ≠ i → h j = some o → h' j = some o) : At h' 1 l (ints zs) := by
  refine ⟨S.lies.1, ?_⟩
  rcases S.lies.2 with h1 | h1
  · exact .inl h1
  · rcases S.apart with h2 | h2
    · left; rw [h2]; rfl
    · right
      unfold Heap.sl at h1 ⊢
      cases ha : l.a with
      | none => rw [ha] at h1; exact h1
      | some p =>
        obtain ⟨b, o⟩ := p
        rw [ha] at h1
        have hb := h2 b o ha
        unfold Heap.read at h1 ⊢
        simp only at h1 ⊢
        cases hh : h b with
        | none => rw [hh] at h1; cases h1
        | some ob => rw [hf b ob hb hh]; rw [hh] at h1; exact h1
theorem Strm.frame {h h' : Heap} {i : Nat} {l : Sl} {zs : List Int} {t t' : Nat} (S : Strm h i l zs t) (hc : h' i = some (strm l t')) (hf : ∀ j o, j ≠ i → h j = some o → h' j = some o) (ht : t' < 1000000000) : Strm h' i l zs t' :=
  ⟨hc, S.at_ hf, S.apart, ht⟩
theorem Strm.next {h : Heap} {i : Nat} {l : Sl} {zs : List Int} {t : Nat} (S : Strm h i l zs t) (ht : t + 1 < 1000000000) : Strm (h.set i (strm l (t + 1))) i l zs (t + 1) :=
  S.frame (set_eq _ _ _) (fun j o hj hh => by rw [set_ne _ _ hj]; exact hh) ht
theorem Strm.ext {h h' : Heap} {i : Nat} {l : Sl} {zs : List Int} {t : Nat} (S : Strm h i l zs t) (he : Ext h h') : Strm h' i l zs t :=
  S.frame (he _ _ S.cell) (fun j o _ hh => he _ _ hh) S.small
theorem spec13 (hI : Closed' prog Pm I) {i : Nat} {l : Sl} {zs : List Int} {t : Nat} {n : Int} (S : Strm h i l zs t) (h1 : 1 ≤ n) (h2 : n < 4611686018427387904)
    (hQ : ∀ v, 0 ≤ v → v < n → Q [int v] (h.set i (strm l (t + 1)))) : I 13 [.one (.ptr (some (i, 0))), int n] Q h := by
  have ht := S.small
  have hw : IntKind.i64.wrap ((t : Int) + 1) = ((t + 1 : Nat) : Int) := by rw [w64] <;> omega
  have hw2 : IntKind.i64.wrap (((t + 1 : Nat) : Int) - 1) = t := by rw [w64] <;> omega
  have hc' : (h.set i (strm l (t + 1))) i = some (strm l (t + 1)) := set_eq _ _ _
  have S' : At (h.set i (strm l (t + 1))) 1 l (ints zs) := S.at_ fun j o hj hh => by rw [set_ne _ _ hj]; exact hh
  have r0 : ∀ {o : Nat}, o = 0 → (h.set i (strm l (t + 1))).read i o 1 = some [.slice 1 l] := fun e => by subst e; exact read_cell hc' rfl
  have r1 : ∀ {o : Nat}, o = 1 → (h.set i (strm l (t + 1))).read i o 1 = some [.int .i64 ((t + 1 : Nat) : Int)] := fun e => by subst e; exact read_cell hc' rfl
  refine hI.go _ _ (den13 I (some (i, 0)) n Q) ?_
  refine derefK_intro rfl ⟨t, read_cell S.cell rfl, derefK_intro rfl (storeK_one S.cell (by simp) ?_)⟩
  rw [hw]
  show derefK _ _ (h.set i (strm l (t + 1)))
  refine derefK_intro rfl ⟨l, r0 rfl, ifT_dec (fun h3 => ?_) (fun h3 => ?_)⟩
  · refine derefK_intro rfl ⟨_, r1 rfl, spec30 hI h1 h2 fun v h4 h5 => ⟨v, rfl, hQ v h4 h5⟩⟩
  · have hp : 0 < (l.len : Int) := by omega
    have hm := Int.tmod_lt_of_pos (t : Int) hp
    have hm0 : 0 ≤ (t : Int).tmod l.len := Int.tmod_nonneg _ (by omega)
    refine derefK_intro rfl ⟨_, r1 rfl, derefK_intro rfl ⟨l, r0 rfl, h3, derefK_intro rfl ⟨_, r1 rfl, derefK_intro rfl ⟨l, r0 rfl, h3, derefK_intro rfl ⟨l, r0 rfl, ?_⟩⟩⟩⟩⟩
    rw [hw2]
    refine ⟨⟨hm0, hm⟩, S'.one hm0 hm fun b o c hc hr => ?_⟩
    simp only [ints, List.getElem?_map] at hc
    cases hz : zs[((t : Int).tmod l.len).toNat]? with
    | none => rw [hz] at hc; cases hc
    | some z =>
      rw [hz] at hc
      cases hc
      exact ⟨z, hr, spec30 hI (by decide) (by decide) fun w _ _ => ⟨w, rfl, spec30 hI h1 h2 fun v h4 h5 => ⟨v, rfl, hQ v h4 h5⟩⟩⟩
/-- One of some numbers. -/
theorem spec11 (hI : Closed' prog Pm I) {i : Nat} {l : Sl} {zs : List Int} {t : Nat} {s : Sl} {xs : List Int} (S : Strm h i l zs t) (hs : At (h.set i (strm l (t + 1))) 1 s (ints xs)) (h1 : xs ≠ []) (h2 : xs.length < 1000)
    (hQ : ∀ v ∈ xs, Q [int v] (h.set i (strm l (t + 1)))) : I 11 [.one (.ptr (some (i, 0))), .one (.slice 1 s)] Q h := by
  have hl : s.len = xs.length := by simpa [ints] using hs.1
  have hpos := List.length_pos_iff.2 h1
  refine hI.go _ _ (den11 I (some (i, 0)) s Q) ?_
  refine spec13 hI S (by omega) (by omega) fun v h3 h4 => ⟨v, rfl, ⟨h3, h4⟩, hs.one h3 h4 fun b o c hc hr => ?_⟩
  simp only [ints, List.getElem?_map] at hc
  cases hz : xs[v.toNat]? with
  | none => rw [hz] at hc; cases hc
  | some z =>
    rw [hz] at hc
    cases hc
    exact ⟨z, hr, hQ z (List.mem_of_getElem? hz)⟩
/-! ### codes -/
/-! ### looking a string up -/
def strs (l : List ByteArray) : List Cell := l.map .str
end
end Go.Proofs.YtadakbmoanbcgaaGreatDoorVc
-- from CcSpec2
namespace Go.Proofs.YtadakbmoanbcgaaGreatDoorVc
open Go.Proofs.Tryz (prog)
section
variable {Pm : Prim} {I : Calls} {Q : Post} {h : Heap}
theorem shr32 (a : Nat) : shr .u64 (a : Int) 32 = ((a / 4294967296 : Nat) : Int) := shr_nat a 32 .u64 rfl (by decide)
theorem mask32 (a : Nat) (ha : a < 18446744073709551616) : IntKind.u64.wrap ((BitVec.ofInt 64 (a : Int) &&& BitVec.ofInt 64 4294967295).toNat : Int) = ((a % 4294967296 : Nat) : Int) := and_mask a ha
theorem wN (a : Nat) (ha : a < 18446744073709551616) : IntKind.u64.wrap (a : Int) = (a : Int) := wu64 (by omega) (by omega)
theorem wM (a : Nat) : IntKind.u64.wrap (a : Int) = ((a % 18446744073709551616 : Nat) : Int) := by rw [IntKind.wrap_u64]; omega
theorem mN (a b : Nat) : (a : Int) * (b : Int) = ((a * b : Nat) : Int) := (Int.natCast_mul a b).symm
theorem aN (a b : Nat) : (a : Int) + (b : Int) = ((a + b : Nat) : Int) := (Int.natCast_add a b).symm
theorem div_start {U Y : Nat} (hU : U < 18446744073709551616) : IntKind.u64.wrap ((U : Int).tdiv (Y : Int)) = ((U / Y : Nat) : Int) ∧ IntKind.u64.wrap ((U : Int) - IntKind.u64.wrap (((U / Y : Nat) : Int) * (Y : Int))) = ((U % Y : Nat) : Int) := by
  have h1 : U / Y ≤ U := Nat.div_le_self _ _
  have h2 := Nat.div_add_mod U Y
  rw [Nat.mul_comm] at h2
  constructor
  · rw [← Int.ofNat_tdiv, wN _ (by omega)]
  · rw [mN]
    generalize U / Y * Y = z at *
    rw [wN _ (by omega), wu64 (by omega) (by omega)]
    omega
end
end Go.Proofs.YtadakbmoanbcgaaGreatDoorVc
-- from CcSpec4
namespace Go.Proofs.YtadakbmoanbcgaaGreatDoorVc
open Go.Proofs.Tryz (prog)
section
variable {Pm : Prim} {I : Calls} {Q : Post} {h : Heap}
theorem full_ok {ds gs : List Nat} {n x : Nat} (hds : ∀ d ∈ ds, d < 31) (hg : ∀ d ∈ gs, d < 31) (hx : x < 31) : ∀ d ∈ ds ++ gs ++ [x], d < 31 := fun d hd => by
  rcases List.mem_append.1 hd with hd | hd
  · rcases List.mem_append.1 hd with hd | hd
    · exact hds d hd
    · exact hg d hd
  · have : d = x := by simpa using hd
    omega
theorem Strm.make {h : Heap} {i : Nat} {l : Sl} {zs : List Int} (hs : At h 1 l (ints zs)) (hi : h i = none) : Strm (h.set i (strm l 0)) i l zs 0 := by
  refine ⟨set_eq _ _ _, (Ext.new hi).at_ hs, ?_, by decide⟩
  rcases hs.2 with h1 | h1
  · left; simpa [ints] using h1
  · right
    rintro b o ha rfl
    unfold Heap.sl at h1
    rw [ha] at h1
    simp only [Heap.read, hi] at h1
    cases h1
end
end Go.Proofs.YtadakbmoanbcgaaGreatDoorVc
-- from CnSpec
namespace Go.Proofs.YtadakbmoanbcgaaGreatDoorVc
open Go.Proofs.Tryz (prog)
section
variable {Pm : Prim} {I : Calls} {Q : Post} {h : Heap}
theorem spec5 (hI : Closed' prog Pm I) {i : Nat} {l : Sl} {zs : List Int} {t : Nat} {n : Int} (S : Strm h i l zs t) (h1 : 1 ≤ n) (h2 : n < 4611686018427387904)
    (hQ : ∀ b, Q [boo b] (h.set i (strm l (t + 1)))) : I 5 [.one (.ptr (some (i, 0))), int n] Q h := by
  refine hI.go _ _ (den5 I (some (i, 0)) n Q) ?_
  exact spec13 hI S h1 h2 fun v _ _ => ⟨v, rfl, hQ _⟩
theorem extract_le (s : ByteArray) (a b : Nat) : (s.extract a b).size ≤ s.size := by
  rw [ByteArray.size_extract]; omega
theorem nonempty_size {s : ByteArray} (h : s ≠ ⟨#[]⟩) : 0 < s.size := by
  rcases Nat.eq_zero_or_pos s.size with h1 | h1
  · exfalso
    apply h
    obtain ⟨⟨l⟩⟩ := s
    cases l with
    | nil => rfl
    | cons x l => simp [ByteArray.size] at h1
  · exact h1
end
end Go.Proofs.YtadakbmoanbcgaaGreatDoorVc
-- from CsSort
namespace Go.Proofs.YtadakbmoanbcgaaGreatDoorVc
open Go.Proofs.Tryz (prog)
section
variable {Pm : Prim} {I : Calls} {Q : Post} {h : Heap}
theorem ints_get {xs : List Int} {i : Nat} {x : Int} (h : xs[i]? = some x) : (ints xs)[i]? = some (.int .i64 x) := by
  unfold ints; rw [List.getElem?_map, h]; rfl
theorem ints_set (xs : List Int) (i : Nat) (x : Int) : (ints xs).set i (.int .i64 x) = ints (xs.set i x) := by
  unfold ints; rw [List.map_set]
theorem ints_length (xs : List Int) : (ints xs).length = xs.length := by simp [ints]
theorem set_self {h : Heap} {i : Nat} {o : Obj} (hi : h i = some o) : h.set i o = h := by
  funext j
  unfold Heap.set
  by_cases hj : j = i
  · subst hj; simp [hi]
  · simp [hj]
end
end Go.Proofs.YtadakbmoanbcgaaGreatDoorVc
-- from CsSpec1
namespace Go.Proofs.YtadakbmoanbcgaaGreatDoorVc
open Go.Proofs.Tryz (prog)
def nats (l : List Nat) : List Cell := l.map fun n : Nat => .int .i64 (n : Int)
theorem nats_ints (l : List Nat) : nats l = ints (l.map fun n : Nat => (n : Int)) := by simp [nats, ints, List.map_map, Function.comp_def]
theorem nats_length (l : List Nat) : (nats l).length = l.length := by simp [nats]
theorem nats_get {xs : List Nat} {i n : Nat} (h : xs[i]? = some n) : (nats xs)[i]? = some (.int .i64 (n : Int)) := by unfold nats; rw [List.getElem?_map, h]; rfl
theorem nats_set (xs : List Nat) (i n : Nat) : (nats xs).set i (.int .i64 (n : Int)) = nats (xs.set i n) := by unfold nats; rw [List.map_set]
section
variable {Pm : Prim} {I : Calls} {Q : Post} {h : Heap}
/-- A cell is read of a slice. -/
theorem At.cell {s : Sl} {xs : List Cell} {i : Nat} {c : Cell} {f : Nat → Nat → T} (hs : At h 1 s xs) (hx : xs[i]? = some c) (hk : ∀ b o, h.read b (o + (i : Int).toNat * 1) 1 = some [c] → f b o h) : derefK s.a f h := by
  have hlt : i < xs.length := (List.getElem?_eq_some_iff.1 hx).1
  have hl := hs.1
  refine hs.one (i := (i : Int)) (by omega) (by omega) fun b o c' hc hr => ?_
  rw [Int.toNat_natCast] at hc
  rw [hx] at hc
  cases hc
  exact hk b o hr
theorem At.len1 {s : Sl} {xs : List Cell} (hs : At h 1 s xs) : s.len = xs.length := by simpa using hs.1
/-! ### the stream's block, among one's own -/
abbrev owS (i : Nat) (l : Sl) (t : Nat) : Ow := (1, ⟨some (i, 0), 2⟩, [.slice 1 l, .int .i64 t])
theorem Strm.owns {i : Nat} {l : Sl} {zs : List Int} {t : Nat} (S : Strm h i l zs t) : Owns (h.del i) h [owS i l t] := by
  refine ⟨fun j o hj => ?_, fun p hp => ?_, by simp⟩
  · by_cases e : j = i
    · subst e; simp [Heap.del] at hj
    · rw [del_ne _ e] at hj; exact hj
  · have : p = owS i l t := by simpa using hp
    subst this
    exact ⟨rfl, .inr ⟨i, rfl, by simp [Heap.del], S.cell⟩⟩
theorem Owns.toStrm {h' : Heap} {L : List Ow} {i : Nat} {l : Sl} {zs : List Int} {t t' : Nat} (S : Strm h i l zs t) (o : Owns (h.del i) h' L) (hm : owS i l t' ∈ L) (ht : t' < 1000000000) : Strm h' i l zs t' :=
  S.frame (o.block hm).1 (fun j x hj hx => o.ext _ _ (by rw [del_ne _ hj]; exact hx)) ht
theorem Owns.strmCell {h' : Heap} {L : List Ow} {i : Nat} {l : Sl} {t : Nat} (o : Owns h h' L) (hm : owS i l t ∈ L) : h' i = some (strm l t) := (o.block hm).1
theorem Owns.next {h' : Heap} {L : List Ow} {i : Nat} {l : Sl} {t t' : Nat} (o : Owns h h' (owS i l t :: L)) : Owns h (h'.set i (strm l t')) (owS i l t' :: L) := o.change rfl
theorem Owns.slen {h' : Heap} {L : List Ow} {s : Sl} {cs : List Cell} (o : Owns h h' L) (hm : (1, s, cs) ∈ L) : s.len = cs.length := by
  have := (o.all _ hm).1; simpa using this
theorem Owns.sl {h' : Heap} {L : List Ow} {s : Sl} {cs : List Cell} (o : Owns h h' L) (hm : (1, s, cs) ∈ L) : h'.sl 1 s = some cs := by
  obtain ⟨h1, h2 | ⟨k, h2, _, h3⟩⟩ := o.all _ hm
  · simp only at h2; unfold Heap.sl; rw [h2.1, h2.2]
  · simp only at h1 h2 h3
    unfold Heap.sl
    rw [h2]
    show h'.read k 0 (s.len * 1) = _
    rw [read_block h3 (by omega), h1, List.drop_zero, List.take_length]
theorem Owns.has {h' : Heap} {L : List Ow} {s : Sl} {cs : List Cell} {sz : Nat} (o : Owns h h' L) (hm : (sz, s, cs) ∈ L) (hne : cs ≠ []) : ∃ i, s = ⟨some (i, 0), s.len⟩ ∧ h' i = some (.cells false cs) := by
  obtain ⟨h1, h2 | ⟨k, h2, _, h3⟩⟩ := o.all _ hm
  · exact absurd h2.2 hne
  · obtain ⟨a, n⟩ := s
    simp only at h2
    subst h2
    exact ⟨k, rfl, h3⟩
end
end Go.Proofs.YtadakbmoanbcgaaGreatDoorVc
-- from SpSpec1
namespace Go.Proofs.YtadakbmoanbcgaaGreatDoorVc
open Go.Proofs.Tryz (prog)
section
variable {Pm : Prim} {I : Calls} {Q : Post} {h : Heap}
abbrev frac (a b : Int) : V := .agg [.int .i64 a, .int .i64 b]
theorem sum_step {xs : List Nat} {i : Nat} (h : i < xs.length) : (xs.take (i + 1)).sum = (xs.take i).sum + xs[i] := by
  rw [List.take_add_one, List.getElem?_eq_getElem h]
  show (xs.take i ++ [xs[i]]).sum = _
  rw [List.sum_append]; simp
/-! ### weights -/
structure RightW (xs : List Int) (ws : List Nat) : Prop where
  xs : xs = ws.map fun n : Nat => (n : Int)
  ws1 : ∀ w ∈ ws, w ≤ 1000000
  pos : 0 < ws.sum
  len : ws.length ≤ 12
end
end Go.Proofs.YtadakbmoanbcgaaGreatDoorVc
-- from QfSpec3
namespace Go.Proofs.YtadakbmoanbcgaaGreatDoorVc
open Go.Proofs.Tryz (prog)
section
variable {Pm : Prim} {I : Calls} {Q : Post} {h : Heap}
/-- A literal lies where it was put, whatever becomes of the stream. -/
theorem lit_at {h h0 : Heap} {i j n : Nat} {o : Obj} {xs : List Int} (hne : j ≠ i) (he : h = h0.set j (.cells false (ints xs))) (hn : n = xs.length) : At (h.set i o) 1 ⟨some (j, 0), n⟩ (ints xs) := by
  refine ⟨by rw [ints_length]; simp [hn], .inr ?_⟩
  show (h.set i o).read j 0 (n * 1) = _
  unfold Heap.read
  rw [set_ne _ _ hne, he, set_eq]
  subst hn
  simp [ints, List.take_of_length_le]
end
end Go.Proofs.YtadakbmoanbcgaaGreatDoorVc
-- from SeKey
namespace Go.Proofs.YtadakbmoanbcgaaGreatDoorVc
open Go.Proofs.Tryz (prog)
section
variable {Pm : Prim} {I : Calls} {Q : Post} {h : Heap}
theorem spec73 (hI : Closed' prog Pm I) {n a b : Int} (hQ : Q [boo (decide (a ≤ n) && decide (n ≤ b))] h) : I 73 [int n, int a, int b] Q h := by
  refine hI.go _ _ (den73 I n a b Q) ?_
  refine ifT_dec (fun h1 => ?_) (fun h1 => ?_)
  · simpa [h1] using hQ
  · simpa [h1] using hQ
abbrev u8 (b : UInt8) : V := .one (.int .u8 (b.toNat : Int))
theorem spec103 (hI : Closed' prog Pm I) {b : UInt8} (hQ : Q [boo (smallB b)] h) : I 103 [u8 b] Q h := by
  refine hI.go _ _ (den103 I _ Q) ?_
  unfold smallB at hQ
  refine ifT_dec (fun h1 => ?_) (fun h1 => ?_)
  · have e : decide (97 ≤ b.toNat) = true := by simp; omega
    rw [e, Bool.true_and] at hQ
    have e2 : decide ((b.toNat : Int) ≤ 122) = decide (b.toNat ≤ 122) := by rw [decide_eq_decide]; omega
    rw [e2]; exact hQ
  · have e : decide (97 ≤ b.toNat) = false := by simp; omega
    rw [e, Bool.false_and] at hQ
    exact hQ
theorem spec106 (hI : Closed' prog Pm I) {b : UInt8} (hQ : Q [boo (digitB b)] h) : I 106 [u8 b] Q h := by
  refine hI.go _ _ (den106 I _ Q) ?_
  unfold digitB at hQ
  refine ifT_dec (fun h1 => ?_) (fun h1 => ?_)
  · have e : decide (48 ≤ b.toNat) = true := by simp; omega
    rw [e, Bool.true_and] at hQ
    have e2 : decide ((b.toNat : Int) ≤ 57) = decide (b.toNat ≤ 57) := by rw [decide_eq_decide]; omega
    rw [e2]; exact hQ
  · have e : decide (48 ≤ b.toNat) = false := by simp; omega
    rw [e, Bool.false_and] at hQ
    exact hQ
theorem spec105 (hI : Closed' prog Pm I) {b : UInt8} (hQ : Q [boo (keyB b)] h) : I 105 [u8 b] Q h := by
  refine hI.go _ _ (den105 I _ Q) ?_
  unfold keyB at hQ
  refine spec103 hI ⟨_, rfl, ifT_intro (fun h1 => ?_) fun h1 => spec106 hI ⟨_, rfl, ifT_intro (fun h2 => ?_) fun h2 => ifT_dec (fun h3 => ?_) fun h3 => ?_⟩⟩
  · rw [h1] at hQ; simpa using hQ
  · rw [h1, h2] at hQ; simpa using hQ
  · have e : decide (b.toNat = 45) = true := by simp; omega
    rw [h1, h2, e] at hQ; simpa using hQ
  · have e : decide (b.toNat = 45) = false := by simp; omega
    rw [h1, h2, e] at hQ
    have e2 : decide ((b.toNat : Int) = 95) = decide (b.toNat = 95) := by rw [decide_eq_decide]; omega
    rw [e2]; simpa using hQ
theorem all_take_step {l : List UInt8} {p : UInt8 → Bool} {i : Nat} {b : UInt8} (hb : l[i]? = some b) : (l.take (i + 1)).all p = ((l.take i).all p && p b) := by
  rw [List.take_add_one, hb]
  show (l.take i ++ [b]).all p = _
  rw [List.all_append]; simp
theorem spec104 (hI : Closed' prog Pm I) {s : ByteArray} (hl : s.size < 1000) (hQ : Q [boo ((bl s).all keyB)] h) : I 104 [str s, .one (.func (some (105, [])))] Q h := by
  refine hI.go _ _ (den104 I s _ Q) ?_
  refine loopK_intro (fun (a : Int) h' m => h' = h ∧ ∃ i : Nat, i ≤ s.size ∧ a = i ∧ m = s.size - i ∧ ((bl s).take i).all keyB = true) s.size ⟨rfl, 0, by omega, rfl, rfl, rfl⟩ ?_
  rintro a h' m ⟨rfl, i, hi, rfl, rfl, hall⟩
  refine ifT_dec (fun hlt => ⟨⟨by omega, hlt⟩, ?_⟩) (fun hge => ?_)
  · have hlt' : i < (bl s).length := by rw [← bl_size]; omega
    have hb := List.getElem?_eq_getElem hlt'
    generalize (bl s)[i] = b at hb
    rw [byteAt_bl hb]
    refine spec105 hI ⟨_, rfl, ifT_intro (fun h1 => ?_) fun h1 => ?_⟩
    · have e : (bl s).all keyB = false := by
        rw [List.all_eq_false]
        exact ⟨b, List.mem_of_getElem? hb, by simpa using h1⟩
      rw [e] at hQ; exact hQ
    · refine ⟨s.size - (i + 1), by omega, rfl, i + 1, by omega, by rw [w64] <;> omega, rfl, ?_⟩
      rw [all_take_step hb, hall]
      simpa using h1
  · have : i = s.size := by omega
    subst this
    rw [bl_size, List.take_length] at hall
    rw [hall] at hQ
    exact hQ
theorem spec69 (hI : Closed' prog Pm I) {s : ByteArray} (hQ : Q [boo (isKey s)] h) : I 69 [str s] Q h := by
  refine hI.go _ _ (den69 I s Q) ?_
  unfold isKey at hQ
  have hsz := bl_size s
  refine spec73 hI ⟨_, rfl, ifT_intro (fun hb => ?_) fun hb => ?_⟩
  · have hb' : 1 ≤ s.size ∧ s.size ≤ 40 := by simp at hb; omega
    cases hl : bl s with
    | nil =>
      rw [hl] at hsz
      have : s.size = 0 := hsz
      omega
    | cons b l =>
      have h0 : (bl s)[0]? = some b := by rw [hl]; rfl
      have e0 := byteAt_bl h0
      rw [hl] at hQ
      have e1 : decide (l.length + 1 ≤ 40) = true := by rw [hl] at hsz; simp at hsz ⊢; omega
      refine ⟨⟨by decide, by omega⟩, ?_⟩
      have e0' : byteAt s 0 = (b.toNat : Int) := e0
      rw [e0']
      simp only [isKeyL, e1, Bool.true_and] at hQ
      refine spec103 hI ⟨_, rfl, ifT_intro (fun h1 => ?_) fun h1 => ?_⟩
      · rw [h1, Bool.true_and, ← hl] at hQ
        exact spec104 hI (by omega) ⟨_, rfl, hQ⟩
      · rw [h1, Bool.false_and] at hQ
        exact hQ
  · have hb' : ¬ (1 ≤ s.size ∧ s.size ≤ 40) := fun h => by
      have : (decide ((1 : Int) ≤ (s.size : Int)) && decide ((s.size : Int) ≤ 40)) = true := by simp; omega
      rw [this] at hb; cases hb
    have e : isKeyL (bl s) = false := by
      cases hl : bl s with
      | nil => rfl
      | cons b l =>
        have : decide (l.length + 1 ≤ 40) = false := by rw [hl] at hsz; simp at hsz ⊢; omega
        simp only [isKeyL, this, Bool.false_and]
    rw [e] at hQ
    exact hQ
/-! ### strings.Trim -/
theorem storeK_whole {i : Nat} {cs ns : List Cell} {k : T} (hi : h i = some (.cells false cs)) (hl : ns.length = cs.length) (hk : k (h.set i (.cells false ns))) : storeK [] i 0 ns k h := by
  have e : updCells cs 0 ns = ns := by
    rw [updCells_eq cs 0 ns (by omega)]
    unfold splice
    simp [hl]
  refine ⟨cs, hi, by omega, ?_⟩
  show k (h.set i (.cells false (updCells cs 0 ns)))
  rw [e]
  exact hk
def smallsS : ByteArray := ⟨#[97, 98, 99, 100, 101, 102, 103, 104, 105, 106, 107, 108, 109, 110, 111, 112, 113, 114, 115, 116, 117, 118, 119, 120, 121, 122]⟩
def keysS : ByteArray := ⟨#[97, 98, 99, 100, 101, 102, 103, 104, 105, 106, 107, 108, 109, 110, 111, 112, 113, 114, 115, 116, 117, 118, 119, 120, 121, 122, 48, 49, 50, 51, 52, 53, 54, 55, 56, 57, 45, 95]⟩
theorem smalls_in : ∀ n : Nat, n < 256 → inC (bl smallsS) n = smallB n.toUInt8 := by decide +kernel
theorem keys_in : ∀ n : Nat, n < 256 → inC (bl keysS) n = keyB n.toUInt8 := by decide +kernel
end
end Go.Proofs.YtadakbmoanbcgaaGreatDoorVc
-- from SeSpec2
namespace Go.Proofs.YtadakbmoanbcgaaGreatDoorVc
open Go.Proofs.Tryz (prog)
section
variable {Pm : Prim} {I : Calls} {Q : Post} {h : Heap}
theorem seenS (xs : List Sent) (i : Nat) (s : ByteArray) : (((xs.take i).map (·.id)).any fun y => decide (y = s)) = ((xs.take i).any fun y => decide (y.id = s)) := by
  rw [List.any_map]; rfl
theorem seenG (xs : List Gain) (i : Nat) (s : ByteArray) : (((xs.take i).map (·.id)).any fun y => decide (y = s)) = ((xs.take i).any fun y => decide (y.id = s)) := by
  rw [List.any_map]; rfl
theorem nb {b : Bool} (h : (!b) = true) : b = false := by simpa using h
theorem nb' {b : Bool} (h : (!b) = false) : b = true := by simpa using h
theorem nd {p : Prop} [Decidable p] (h : (!decide p) = true) : ¬ p := by simpa using h
theorem nd' {p : Prop} [Decidable p] (h : (!decide p) = false) : ¬ ¬ p := by simpa using h
/-! ### the answer's -/
theorem any_take_step {α : Type} {l : List α} {p : α → Bool} {i : Nat} {b : α} (hb : l[i]? = some b) : (l.take (i + 1)).any p = ((l.take i).any p || p b) := by
  rw [List.take_add_one, hb]
  show (l.take i ++ [b]).any p = _
  rw [List.any_append]; simp
end
end Go.Proofs.YtadakbmoanbcgaaGreatDoorVc
-- from SeSpec3
namespace Go.Proofs.YtadakbmoanbcgaaGreatDoorVc
open Go.Proofs.Tryz (prog)
theorem take_snoc {α : Type} {l : List α} {k : Nat} {x : α} (h : l[k]? = some x) : l.take (k + 1) = l.take k ++ [x] := by rw [List.take_add_one, h]; rfl
section
variable {Pm : Prim} {I : Calls} {Q : Post} {h : Heap}
theorem bef {g : Gain} {w : Int} {x : Sent} (b1 : Bool) : before g w x = b1 → before g w x = b1 := id
/-- What is wrong with what is asked for. -/
def errP (xs : List Sent) (g : Gain) (w : Int) : Int := if errS xs ≠ 0 then errS xs else if errG [g] ≠ 0 then errG [g] else if ¬ (1 ≤ w ∧ w ≤ 4321440) then 1 else 0
theorem one_at {g : Gain} {i : Nat} (hn : h i = none) : At (h.set i (.cells false (gainC g))) 4 ⟨some (i, 0), 1⟩ (rows gainC [g]) := by
  refine ⟨rfl, .inr ?_⟩
  show (h.set i _).read i 0 _ = _
  rw [read_block (set_eq _ _ _) (by simp [gainC])]
  rfl
end
end Go.Proofs.YtadakbmoanbcgaaGreatDoorVc
-- from SeSpec4
namespace Go.Proofs.YtadakbmoanbcgaaGreatDoorVc
open Go.Proofs.Tryz (prog)
theorem encode_size (n : Int) : (Utf8.encode n).size ≤ 4 := by
  unfold Utf8.encode
  simp only
  repeat' split
  all_goals first | exact (show (1 : Nat) ≤ 4 by decide) | exact (show (2 : Nat) ≤ 4 by decide) | exact (show (3 : Nat) ≤ 4 by decide) | exact (show (4 : Nat) ≤ 4 by decide)
section
variable {Pm : Prim} {I : Calls} {Q : Post} {h : Heap}
theorem Owns.ne {h0 h : Heap} {p q : Ow} {l : List Ow} {i j : Nat} (o : Owns h0 h (p :: l)) (hq : q ∈ l) (hi : p.2.1.a = some (i, 0)) (hj : q.2.1.a = some (j, 0)) : i ≠ j := fun e => by
  subst e; exact (List.pairwise_cons.1 o.apart).1 q hq i hi hj
theorem lit_atC {h h0 : Heap} {i j n : Nat} {o : Obj} {cs : List Cell} (hne : j ≠ i) (he : h = h0.set j (.cells false cs)) (hn : n = cs.length) : At (h.set i o) 1 ⟨some (j, 0), n⟩ cs := by
  refine ⟨by simp [hn], .inr ?_⟩
  show (h.set i o).read j 0 (n * 1) = _
  unfold Heap.read
  rw [set_ne _ _ hne, he, set_eq]
  subst hn
  simp
theorem spec15 (hI : Closed' prog Pm I) {i : Nat} {l : Sl} {zs : List Int} {t : Nat} {s : Sl} {xs : List ByteArray} (S : Strm h i l zs t) (hs : At (h.set i (strm l (t + 1))) 1 s (strs xs)) (h1 : xs ≠ []) (h2 : xs.length < 1000)
    (hQ : ∀ v ∈ xs, Q [str v] (h.set i (strm l (t + 1)))) : I 15 [.one (.ptr (some (i, 0))), .one (.slice 1 s)] Q h := by
  have hl : s.len = xs.length := by simpa [strs] using hs.1
  have hpos := List.length_pos_iff.2 h1
  refine hI.go _ _ (den15 I (some (i, 0)) s Q) ?_
  refine spec13 hI S (by omega) (by omega) fun v h3 h4 => ⟨v, rfl, ⟨h3, h4⟩, hs.one h3 h4 fun b o c hc hr => ?_⟩
  simp only [strs, List.getElem?_map] at hc
  cases hz : xs[v.toNat]? with
  | none => rw [hz] at hc; cases hc
  | some z =>
    rw [hz] at hc
    cases hc
    exact ⟨z, hr, hQ z (List.mem_of_getElem? hz)⟩
section
variable {hb : Heap} {i : Nat} {l : Sl} {zs : List Int} {t0 : Nat}
/-- A new literal is not the stream's block. -/
theorem Owns.lit_ne {h : Heap} {t j : Nat} {L : List Ow} (o : Owns (hb.del i) h (owS i l t :: L)) (hn : h j = none) : j ≠ i := fun e => by
  subst e; rw [o.strmCell (l := l) (t := t) (by simp)] at hn; cases hn
end
end
end Go.Proofs.YtadakbmoanbcgaaGreatDoorVc
-- from AcOld2
namespace Go.Proofs.YtadakbmoanbcgaaGreatDoorVc
open Go.Proofs.Tryz (prog)
 
end Go.Proofs.YtadakbmoanbcgaaGreatDoorVc
-- from GaOld2
namespace Go.Proofs.YtadakbmoanbcgaaGreatDoorVc
open Go.Proofs.Tryz (prog)
section
variable {Pm : Prim} {I : Calls} {Q : Post} {h : Heap}
/-! ### the stream -/
/-! ### codes -/
theorem pow31_le {n : Nat} (h : n ≤ 11) : 31 ^ n ≤ 25408476896404831 := by
  have : 31 ^ n ≤ 31 ^ 11 := Nat.pow_le_pow_right (by decide) h
  exact this
/-! ### looking a string up -/
end
end Go.Proofs.YtadakbmoanbcgaaGreatDoorVc
-- from CsBits
namespace Go.Proofs.YtadakbmoanbcgaaGreatDoorVc
open Go.Proofs.Tryz (prog)
section
variable {Pm : Prim} {I : Calls} {Q : Post} {h : Heap}
theorem len_idx {x k i L : Nat} (hi : x / 2 ^ k = i) (h1 : i < 2 ^ L) (h2 : 2 ^ L ≤ 2 * i) : x < 2 ^ (k + L) ∧ 2 ^ (k + L) ≤ 2 * x := by
  subst hi
  have p := Nat.two_pow_pos k
  constructor
  · rw [Nat.pow_add, Nat.mul_comm]
    exact (Nat.div_lt_iff_lt_mul p).1 h1
  · rw [Nat.pow_add]
    have h3 : 2 ^ k * 2 ^ L ≤ 2 ^ k * (2 * (x / 2 ^ k)) := Nat.mul_le_mul_left _ h2
    have h4 := Nat.mul_div_le x (2 ^ k)
    rw [Nat.mul_left_comm] at h3
    omega
theorem shrN (a k : Nat) (hk : k ≤ 64) : shr .u64 (a : Int) (k : Int) = ((a / 2 ^ k : Nat) : Int) := shr_nat a k .u64 rfl hk
theorem w8 {a : Nat} (h : a < 256) : IntKind.u8.wrap (a : Int) = (a : Int) := by rw [IntKind.wrap_u8]; omega
end
end Go.Proofs.YtadakbmoanbcgaaGreatDoorVc
-- from CsSort
namespace Go.Proofs.YtadakbmoanbcgaaGreatDoorVc
open Go.Proofs.Tryz (prog)
section
variable {Pm : Prim} {I : Calls} {Q : Post} {h : Heap}
/-- What a comparison tells, whatever the row that is sorted holds. -/
def Tells (I : Calls) (h : Heap) (blk : Nat) (g : FuncId) (caps : List (Nat × Nat)) (xs : List Int) (lt : Int → Int → Bool) : Prop :=
  ∀ a b, a ∈ xs → b ∈ xs → ∀ (h' : Heap) (Q' : Post), (∀ j, j ≠ blk → h' j = h j) → (∀ c : Int, (c < 0 ↔ lt a b = true) → Q' [int c] h') → I g (int a :: int b :: caps.map fun a => .one (.ptr (some a))) Q' h'
end
end Go.Proofs.YtadakbmoanbcgaaGreatDoorVc
-- from CsSpec1
namespace Go.Proofs.YtadakbmoanbcgaaGreatDoorVc
open Go.Proofs.Tryz (prog)
def unats (l : List Nat) : List Cell := l.map fun n : Nat => .int .u64 (n : Int)
theorem unats_length (l : List Nat) : (unats l).length = l.length := by simp [unats]
theorem unats_get {xs : List Nat} {i n : Nat} (h : xs[i]? = some n) : (unats xs)[i]? = some (.int .u64 (n : Int)) := by unfold unats; rw [List.getElem?_map, h]; rfl
theorem unats_set (xs : List Nat) (i n : Nat) : (unats xs).set i (.int .u64 (n : Int)) = unats (xs.set i n) := by unfold unats; rw [List.map_set]
end Go.Proofs.YtadakbmoanbcgaaGreatDoorVc
-- from FoMath
namespace Go.Proofs.YtadakbmoanbcgaaGreatDoorVc
open Go.Proofs.Tryz (prog)
/-! ### the order of strings, and of lists of them -/
theorem bytes_lt : ∀ x y : List UInt8, Op.bytesLess x y = decide (x < y)
  | [], [] => by simp [Op.bytesLess]
  | _ :: _, [] => by simp [Op.bytesLess]
  | [], _ :: _ => by simp [Op.bytesLess]
  | a :: x, b :: y => by
    rw [Op.bytesLess, bytes_lt x y]
    simp only [List.cons_lt_cons_iff]
    by_cases h1 : a < b <;> by_cases h2 : a = b <;> by_cases h3 : x < y <;> simp [h1, h2, h3]
theorem toList_inj {a b : ByteArray} (h : a.toList = b.toList) : a = b := by
  rw [ByteArray.toList_eq, ByteArray.toList_eq] at h
  exact bl_inj h
def cmpS (a b : ByteArray) : Int := if a.toList < b.toList then -1 else if a = b then 0 else 1
theorem cmpS_zero {a b : ByteArray} : cmpS a b = 0 ↔ a = b := by
  unfold cmpS
  split
  · rename_i h
    constructor
    · intro e; omega
    · rintro rfl; exact absurd h (List.lt_irrefl _)
  · split
    · rename_i h; simp [h]
    · rename_i h; simp [h]
theorem cmpS_neg {a b : ByteArray} : cmpS a b < 0 ↔ a.toList < b.toList := by
  unfold cmpS
  split
  · rename_i h; simp [h]
  · rename_i h
    split <;> simp [h]
/-! ### the checks -/
/-! ### what is kept -/
/-! ### adding up -/
end Go.Proofs.YtadakbmoanbcgaaGreatDoorVc
-- from FoSpec1
namespace Go.Proofs.YtadakbmoanbcgaaGreatDoorVc
open Go.Proofs.Tryz (prog)
section
variable {Pm : Prim} {I : Calls} {Q : Post} {h : Heap}
abbrev sls (k : Nat) (s : Sl) : V := .one (.slice k s)
theorem strs_len {s : Sl} {xs : List ByteArray} (hs : At h 1 s (strs xs)) : s.len = xs.length := by have := hs.1; simpa [strs] using this
theorem At.strRow {s : Sl} {xs : List ByteArray} {i : Nat} {x : ByteArray} {f : Nat → Nat → T} (hs : At h 1 s (strs xs)) (hx : xs[i]? = some x)
    (hk : ∀ b o, h.read b (o + (i : Int).toNat * 1) 1 = some [.str x] → f b o h) : derefK s.a f h :=
  hs.cell (c := .str x) (by unfold strs; rw [List.getElem?_map, hx]; rfl) hk
theorem spec145 (hI : Closed' prog Pm I) {n : ByteArray} (hQ : Q [boo false] h) : I 145 [str n] Q h := by
  refine hI.go _ _ (den145 I n Q) ?_
  unfold vc145; simpa using hQ
theorem spec125 (hI : Closed' prog Pm I) {a b : ByteArray} (hQ : Q [int (cmpS a b)] h) : I 125 [str a, str b] Q h := by
  refine hI.go _ _ (den125 I a b Q) ?_
  refine spec145 hI ⟨false, rfl, spec145 hI ⟨false, rfl, ?_⟩⟩
  show ifT _ _ _ _
  rw [bytes_lt]
  unfold cmpS at hQ
  refine ifT_dec (fun h1 => ?_) fun h1 => ifT_intro (fun h2 => ?_) fun h2 => ?_
  · rw [if_pos h1] at hQ; exact hQ
  · rw [if_neg h1, if_neg (fun e => by simp [e] at h2)] at hQ; exact hQ
  · have : a = b := by
      simp only [Bool.not_eq_false', Bool.or_eq_true, decide_eq_true_eq] at h2
      exact h2.resolve_left h1
    rw [if_neg h1, if_pos this] at hQ; exact hQ
end
end Go.Proofs.YtadakbmoanbcgaaGreatDoorVc
-- from FoSpec2
namespace Go.Proofs.YtadakbmoanbcgaaGreatDoorVc
open Go.Proofs.Tryz (prog)
theorem Owns.swp {h0 h : Heap} {a b : Ow} {L : List Ow} (o : Owns h0 h (a :: b :: L)) : Owns h0 h (b :: a :: L) := o.perm (List.Perm.swap _ _ _)
section
variable {Pm : Prim} {I : Calls} {Q : Post} {h : Heap}
theorem Owns.stay {h0 h h' : Heap} {L : List Ow} {k n blk : Nat} {cs : List Cell} {p : Ow} (o : Owns h0 h ((k, ⟨some (blk, 0), n⟩, cs) :: L)) (hp : p ∈ L) (hs : ∀ j x, j ≠ blk → h j = some x → h' j = some x) : At h' p.1 p.2.1 p.2.2 := by
  refine (o.at_ (sz := p.1) (s := p.2.1) (cs := p.2.2) (List.mem_cons_of_mem _ hp)).stay fun j b x ha hx => hs j x (fun e => ?_) hx
  rcases (o.all p (List.mem_cons_of_mem _ hp)).2 with ⟨h1, _⟩ | ⟨k', h1, _, _⟩
  · rw [h1] at ha; cases ha
  · rw [h1] at ha; cases ha
    exact o.ne hp (i := blk) (j := j) rfl h1 e.symm
end
end Go.Proofs.YtadakbmoanbcgaaGreatDoorVc
-- from FoSpec6
namespace Go.Proofs.YtadakbmoanbcgaaGreatDoorVc
open Go.Proofs.Tryz (prog)
section
variable {Pm : Prim} {I : Calls} {Q : Post} {h : Heap} {hb : Heap} {i : Nat} {l : Sl} {zs : List Int} {t0 : Nat}
/-- A literal of ints, and one of them is drawn. -/
theorem pick_lit (hI : Closed' prog Pm I) (S0 : Strm hb i l zs t0) {t : Nat} {L : List Ow} (o : Owns (hb.del i) h (owS i l t :: L)) (ht : t < 900000000) (xs : List Int) (h1 : xs ≠ []) (h2 : xs.length < 1000) {F : Int → T}
    (hF : ∀ v ∈ xs, ∀ h', Owns (hb.del i) h' (owS i l (t + 1) :: L) → F v h') :
    newK (.cells false (ints xs)) (fun i6 => fun h7 => I 11 [.one (.ptr (some (i, 0))), .one (.slice 1 ⟨some (i6, 0), xs.length⟩)] (fun cs h9 => ∃ n : Int, cs = [int n] ∧ F n h9) h7) h := by
  refine newK_intro fun i6 h7 hn he => ?_
  have hne := o.lit_ne hn
  have o2 := o.mono (he ▸ Ext.new hn : Ext _ h7)
  exact spec11 hI (xs := xs) (o2.toStrm S0 (t' := t) (by simp) (by omega)) (lit_at hne he rfl) h1 h2 fun v hv => ⟨v, rfl, hF v hv _ o2.next⟩
/-- A literal of strings gets its place. -/
theorem new_strs {L : List Ow} {h0 : Heap} (o : Owns h0 h L) (xs : List ByteArray) {F : Nat → T} (hF : ∀ j h', Owns h0 h' ((1, ⟨some (j, 0), xs.length⟩, strs xs) :: L) → F j h') : newK (.cells false (strs xs)) F h := by
  refine newK_intro fun j h' hn he => hF j h' ?_
  have := o.new (sz := 1) (n := xs.length) (cs := strs xs) hn (by simp [strs])
  rw [← he] at this; exact this
theorem Owns.back {h0 h : Heap} {a b c : Ow} {L : List Ow} (o : Owns h0 h (a :: b :: c :: L)) : Owns h0 h (b :: c :: a :: L) := o.swp.perm ((List.Perm.swap _ _ _).cons b)
theorem appendTo_ownsN {h0 h : Heap} {l : List Ow} {sz bytes : Nat} {b n : Nat} {xs : List Cell} {m : Nat} {new : List Cell} {k : Sl → T} (o : Owns h0 h ((sz, ⟨some (b, 0), n⟩, xs) :: l)) (hm : m * sz = new.length) (hb : (n + m) * bytes ≤ 140737488355328)
    (hk : ∀ j h', Owns h0 h' ((sz, ⟨some (j, 0), n + m⟩, xs ++ new) :: l) → k ⟨some (j, 0), n + m⟩ h') : appendTo [] sz bytes ⟨some (b, 0), n⟩ m new k h := by
  cases m with
  | succ m => exact appendTo_owns o hm hb (by simp) hk
  | zero =>
    have hn : new = [] := List.length_eq_zero_iff.1 (by omega)
    subst hn
    show appendAnyK [] sz bytes ⟨some (b, 0), n⟩ 0 [] k h
    unfold appendAnyK
    rw [if_neg (by simp)]
    exact appendK_owns o hm hb (by simp) hk
end
end Go.Proofs.YtadakbmoanbcgaaGreatDoorVc
-- from FoSpec7
namespace Go.Proofs.YtadakbmoanbcgaaGreatDoorVc
open Go.Proofs.Tryz (prog)
section
variable {Pm : Prim} {I : Calls} {Q : Post} {h : Heap} {hb : Heap} {i : Nat} {l : Sl} {zs : List Int} {t0 : Nat}
/-- One flip, or none. -/
theorem flip_k (hI : Closed' prog Pm I) (S0 : Strm hb i l zs t0) {t : Nat} {L : List Ow} (o : Owns (hb.del i) h (owS i l t :: L)) (ht : t < 900000000) {n : Int} (h1 : 1 ≤ n) (h2 : n < 4611686018427387904) {F : Bool → T}
    (hF : ∀ b h', Owns (hb.del i) h' (owS i l (t + 1) :: L) → F b h') : I 5 [.one (.ptr (some (i, 0))), int n] (fun cs h' => ∃ b : Bool, cs = [boo b] ∧ F b h') h :=
  spec5 hI (o.toStrm S0 (t' := t) (by simp) (by omega)) h1 h2 fun b => ⟨b, rfl, hF b _ o.next⟩
end
end Go.Proofs.YtadakbmoanbcgaaGreatDoorVc

