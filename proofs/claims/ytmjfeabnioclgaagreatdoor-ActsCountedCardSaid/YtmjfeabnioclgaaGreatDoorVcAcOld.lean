/- Contracts, turned by a program to the numbers of this seat. -/
import Derived.Test.YtmjfeabnioclgaaGreatDoorVcAcVc
import Derived.Test.YtmjfeabnioclgaaGreatDoorVcStPrim
import Derived.Test.YtmjfeabnioclgaaGreatDoorVcSeMath
import Derived.Test.YtmjfeabnioclgaaGreatDoorVcBits
import Derived.Test.YtmjfeabnioclgaaGreatDoorVcSortList
set_option linter.unusedSimpArgs false
set_option linter.unusedVariables false
-- from StOld
namespace Go.Proofs.YtmjfeabnioclgaaGreatDoorVc
open Go.Proofs.Tryz (prog)
abbrev Pm : Prim := OrPrim (OrPrim (KeysPrim 28 47) (SortedPrim 27 47)) (CmpPrim 76)
abbrev int (n : Int) : V := .one (.int .i64 n)
abbrev u64 (n : Int) : V := .one (.int .u64 n)
abbrev str (s : ByteArray) : V := .one (.str s)
abbrev boo (b : Bool) : V := .one (.bool b)
def ints (zs : List Int) : List Cell := zs.map (.int .i64)
section
variable {I : Calls} {Q : Post} {h : Heap}
/-! ### the stream -/
theorem spec43 (hI : Closed' prog Pm I) {x n : Int} (h1 : 1 ≤ n) (h2 : n < 4611686018427387904) (hQ : ∀ v, 0 ≤ v → v < n → Q [int v] h) : I 43 [int x, int n] Q h := by
  refine hI.go _ _ (den43 I x n Q) ?_
  refine ifT_dec (fun h3 => by omega) (fun h3 => ⟨by omega, ifT_dec (fun h4 => ?_) (fun h4 => ?_)⟩)
  · have h5 := Int.lt_tmod_of_pos x (show 0 < n by omega)
    have h6 : IntKind.i64.wrap (x.tmod n + n) = x.tmod n + n := w64 (by omega) (by omega)
    rw [h6]
    exact hQ _ (by omega) (by omega)
  · exact hQ _ (by omega) (Int.tmod_lt_of_pos x (by omega))
/-- A stream at place i: its numbers, and how many have been asked for. -/
structure Strm (h : Heap) (i : Nat) (l : Sl) (zs : List Int) (t : Nat) : Prop where
  cell : h i = some (.cells false [.slice 1 l, .int .i64 t])
  lies : At h 1 l (ints zs)
  apart : zs = [] ∨ ∀ b o, l.a = some (b, o) → b ≠ i
  small : t < 1000000000
abbrev strm (l : Sl) (t : Nat) : Obj := .cells false [.slice 1 l, .int .i64 t]
theorem Strm.at_ {h h' : Heap} {i : Nat} {l : Sl} {zs : List Int} {t : Nat} (S : Strm h i l zs t) (hf : ∀ j o, j ≠ i → h j = some o → h' j = some o) : At h' 1 l (ints zs) := by
  refine ⟨S.lies.1, ?_⟩
  rcases S.lies.2 with h1 | h1
  · exact .inl h1
  · rcases S.apart with h2 | h2
    · left; rw [h2]; rfl
    · right
      unfold Heap.sl at h1 ⊢
      cases ha : l.a with
      | none => rw [ha] at h1; exact h1
      | some p =>
        obtain ⟨b, o⟩ := p
        rw [ha] at h1
        have hb := h2 b o ha
        unfold Heap.read at h1 ⊢
        simp only at h1 ⊢
        cases hh : h b with
        | none => rw [hh] at h1; cases h1
        | some ob => rw [hf b ob hb hh]; rw [hh] at h1; exact h1
theorem Strm.frame {h h' : Heap} {i : Nat} {l : Sl} {zs : List Int} {t t' : Nat} (S : Strm h i l zs t) (hc : h' i = some (strm l t')) (hf : ∀ j o, j ≠ i → h j = some o → h' j = some o) (ht : t' < 1000000000) : Strm h' i l zs t' :=
  ⟨hc, S.at_ hf, S.apart, ht⟩
theorem Strm.next {h : Heap} {i : Nat} {l : Sl} {zs : List Int} {t : Nat} (S : Strm h i l zs t) (ht : t + 1 < 1000000000) : Strm (h.set i (strm l (t + 1))) i l zs (t + 1) :=
  S.frame (set_eq _ _ _) (fun j o hj hh => by rw [set_ne _ _ hj]; exact hh) ht
theorem Strm.ext {h h' : Heap} {i : Nat} {l : Sl} {zs : List Int} {t : Nat} (S : Strm h i l zs t) (he : Ext h h') : Strm h' i l zs t :=
  S.frame (he _ _ S.cell) (fun j o _ hh => he _ _ hh) S.small
theorem spec18 (hI : Closed' prog Pm I) {i : Nat} {l : Sl} {zs : List Int} {t : Nat} {n : Int} (S : Strm h i l zs t) (h1 : 1 ≤ n) (h2 : n < 4611686018427387904)
    (hQ : ∀ v, 0 ≤ v → v < n → Q [int v] (h.set i (strm l (t + 1)))) : I 18 [.one (.ptr (some (i, 0))), int n] Q h := by
  have ht := S.small
  have hw : IntKind.i64.wrap ((t : Int) + 1) = ((t + 1 : Nat) : Int) := by rw [w64] <;> omega
  have hw2 : IntKind.i64.wrap (((t + 1 : Nat) : Int) - 1) = t := by rw [w64] <;> omega
  have hc' : (h.set i (strm l (t + 1))) i = some (strm l (t + 1)) := set_eq _ _ _
  have S' : At (h.set i (strm l (t + 1))) 1 l (ints zs) := S.at_ fun j o hj hh => by rw [set_ne _ _ hj]; exact hh
  have r0 : ∀ {o : Nat}, o = 0 → (h.set i (strm l (t + 1))).read i o 1 = some [.slice 1 l] := fun e => by subst e; exact read_cell hc' rfl
  have r1 : ∀ {o : Nat}, o = 1 → (h.set i (strm l (t + 1))).read i o 1 = some [.int .i64 ((t + 1 : Nat) : Int)] := fun e => by subst e; exact read_cell hc' rfl
  refine hI.go _ _ (den18 I (some (i, 0)) n Q) ?_
  refine derefK_intro rfl ⟨t, read_cell S.cell rfl, derefK_intro rfl (storeK_one S.cell (by simp) ?_)⟩
  rw [hw]
  show derefK _ _ (h.set i (strm l (t + 1)))
  refine derefK_intro rfl ⟨l, r0 rfl, ifT_dec (fun h3 => ?_) (fun h3 => ?_)⟩
  · refine derefK_intro rfl ⟨_, r1 rfl, spec43 hI h1 h2 fun v h4 h5 => ⟨v, rfl, hQ v h4 h5⟩⟩
  · have hp : 0 < (l.len : Int) := by omega
    have hm := Int.tmod_lt_of_pos (t : Int) hp
    have hm0 : 0 ≤ (t : Int).tmod l.len := Int.tmod_nonneg _ (by omega)
    refine derefK_intro rfl ⟨_, r1 rfl, derefK_intro rfl ⟨l, r0 rfl, h3, derefK_intro rfl ⟨_, r1 rfl, derefK_intro rfl ⟨l, r0 rfl, h3, derefK_intro rfl ⟨l, r0 rfl, ?_⟩⟩⟩⟩⟩
    rw [hw2]
    refine ⟨⟨hm0, hm⟩, S'.one hm0 hm fun b o c hc hr => ?_⟩
    simp only [ints, List.getElem?_map] at hc
    cases hz : zs[((t : Int).tmod l.len).toNat]? with
    | none => rw [hz] at hc; cases hc
    | some z =>
      rw [hz] at hc
      cases hc
      exact ⟨z, hr, spec43 hI (by decide) (by decide) fun w _ _ => ⟨w, rfl, spec43 hI h1 h2 fun v h4 h5 => ⟨v, rfl, hQ v h4 h5⟩⟩⟩
/-- One of some numbers. -/
theorem spec6 (hI : Closed' prog Pm I) {i : Nat} {l : Sl} {zs : List Int} {t : Nat} {s : Sl} {xs : List Int} (S : Strm h i l zs t) (hs : At (h.set i (strm l (t + 1))) 1 s (ints xs)) (h1 : xs ≠ []) (h2 : xs.length < 1000)
    (hQ : ∀ v ∈ xs, Q [int v] (h.set i (strm l (t + 1)))) : I 6 [.one (.ptr (some (i, 0))), .one (.slice 1 s)] Q h := by
  have hl : s.len = xs.length := by simpa [ints] using hs.1
  have hpos := List.length_pos_iff.2 h1
  refine hI.go _ _ (den6 I (some (i, 0)) s Q) ?_
  refine spec18 hI S (by omega) (by omega) fun v h3 h4 => ⟨v, rfl, ⟨h3, h4⟩, hs.one h3 h4 fun b o c hc hr => ?_⟩
  simp only [ints, List.getElem?_map] at hc
  cases hz : xs[v.toNat]? with
  | none => rw [hz] at hc; cases hc
  | some z =>
    rw [hz] at hc
    cases hc
    exact ⟨z, hr, hQ z (List.mem_of_getElem? hz)⟩
/-! ### codes -/
/-! ### looking a string up -/
def strs (l : List ByteArray) : List Cell := l.map .str
end
end Go.Proofs.YtmjfeabnioclgaaGreatDoorVc
-- from CcSpec2
namespace Go.Proofs.YtmjfeabnioclgaaGreatDoorVc
open Go.Proofs.Tryz (prog)
section
variable {I : Calls} {Q : Post} {h : Heap}
theorem shr32 (a : Nat) : shr .u64 (a : Int) 32 = ((a / 4294967296 : Nat) : Int) := shr_nat a 32 .u64 rfl (by decide)
theorem mask32 (a : Nat) (ha : a < 18446744073709551616) : IntKind.u64.wrap ((BitVec.ofInt 64 (a : Int) &&& BitVec.ofInt 64 4294967295).toNat : Int) = ((a % 4294967296 : Nat) : Int) := and_mask a ha
theorem wN (a : Nat) (ha : a < 18446744073709551616) : IntKind.u64.wrap (a : Int) = (a : Int) := wu64 (by omega) (by omega)
theorem wM (a : Nat) : IntKind.u64.wrap (a : Int) = ((a % 18446744073709551616 : Nat) : Int) := by rw [IntKind.wrap_u64]; omega
theorem mN (a b : Nat) : (a : Int) * (b : Int) = ((a * b : Nat) : Int) := (Int.natCast_mul a b).symm
theorem aN (a b : Nat) : (a : Int) + (b : Int) = ((a + b : Nat) : Int) := (Int.natCast_add a b).symm
theorem div_start {U Y : Nat} (hU : U < 18446744073709551616) : IntKind.u64.wrap ((U : Int).tdiv (Y : Int)) = ((U / Y : Nat) : Int) ∧ IntKind.u64.wrap ((U : Int) - IntKind.u64.wrap (((U / Y : Nat) : Int) * (Y : Int))) = ((U % Y : Nat) : Int) := by
  have h1 : U / Y ≤ U := Nat.div_le_self _ _
  have h2 := Nat.div_add_mod U Y
  rw [Nat.mul_comm] at h2
  constructor
  · rw [← Int.ofNat_tdiv, wN _ (by omega)]
  · rw [mN]
    generalize U / Y * Y = z at *
    rw [wN _ (by omega), wu64 (by omega) (by omega)]
    omega
end
end Go.Proofs.YtmjfeabnioclgaaGreatDoorVc
-- from CcSpec4
namespace Go.Proofs.YtmjfeabnioclgaaGreatDoorVc
open Go.Proofs.Tryz (prog)
section
variable {I : Calls} {Q : Post} {h : Heap}
theorem full_ok {ds gs : List Nat} {n x : Nat} (hds : ∀ d ∈ ds, d < 31) (hg : ∀ d ∈ gs, d < 31) (hx : x < 31) : ∀ d ∈ ds ++ gs ++ [x], d < 31 := fun d hd => by
  rcases List.mem_append.1 hd with hd | hd
  · rcases List.mem_append.1 hd with hd | hd
    · exact hds d hd
    · exact hg d hd
  · have : d = x := by simpa using hd
    omega
theorem Strm.make {h : Heap} {i : Nat} {l : Sl} {zs : List Int} (hs : At h 1 l (ints zs)) (hi : h i = none) : Strm (h.set i (strm l 0)) i l zs 0 := by
  refine ⟨set_eq _ _ _, (Ext.new hi).at_ hs, ?_, by decide⟩
  rcases hs.2 with h1 | h1
  · left; simpa [ints] using h1
  · right
    rintro b o ha rfl
    unfold Heap.sl at h1
    rw [ha] at h1
    simp only [Heap.read, hi] at h1
    cases h1
end
end Go.Proofs.YtmjfeabnioclgaaGreatDoorVc
-- from CnSpec
namespace Go.Proofs.YtmjfeabnioclgaaGreatDoorVc
open Go.Proofs.Tryz (prog)
section
variable {I : Calls} {Q : Post} {h : Heap}
theorem spec20 (hI : Closed' prog Pm I) {i : Nat} {l : Sl} {zs : List Int} {t : Nat} {n : Int} (S : Strm h i l zs t) (h1 : 1 ≤ n) (h2 : n < 4611686018427387904)
    (hQ : ∀ b, Q [boo b] (h.set i (strm l (t + 1)))) : I 20 [.one (.ptr (some (i, 0))), int n] Q h := by
  refine hI.go _ _ (den20 I (some (i, 0)) n Q) ?_
  exact spec18 hI S h1 h2 fun v _ _ => ⟨v, rfl, hQ _⟩
theorem extract_le (s : ByteArray) (a b : Nat) : (s.extract a b).size ≤ s.size := by
  rw [ByteArray.size_extract]; omega
theorem nonempty_size {s : ByteArray} (h : s ≠ ⟨#[]⟩) : 0 < s.size := by
  rcases Nat.eq_zero_or_pos s.size with h1 | h1
  · exfalso
    apply h
    obtain ⟨⟨l⟩⟩ := s
    cases l with
    | nil => rfl
    | cons x l => simp [ByteArray.size] at h1
  · exact h1
end
end Go.Proofs.YtmjfeabnioclgaaGreatDoorVc
-- from CsSort
namespace Go.Proofs.YtmjfeabnioclgaaGreatDoorVc
open Go.Proofs.Tryz (prog)
section
variable {I : Calls} {Q : Post} {h : Heap}
theorem ints_get {xs : List Int} {i : Nat} {x : Int} (h : xs[i]? = some x) : (ints xs)[i]? = some (.int .i64 x) := by
  unfold ints; rw [List.getElem?_map, h]; rfl
theorem ints_set (xs : List Int) (i : Nat) (x : Int) : (ints xs).set i (.int .i64 x) = ints (xs.set i x) := by
  unfold ints; rw [List.map_set]
theorem ints_length (xs : List Int) : (ints xs).length = xs.length := by simp [ints]
theorem set_self {h : Heap} {i : Nat} {o : Obj} (hi : h i = some o) : h.set i o = h := by
  funext j
  unfold Heap.set
  by_cases hj : j = i
  · subst hj; simp [hi]
  · simp [hj]
end
end Go.Proofs.YtmjfeabnioclgaaGreatDoorVc
-- from CsSpec1
namespace Go.Proofs.YtmjfeabnioclgaaGreatDoorVc
open Go.Proofs.Tryz (prog)
def nats (l : List Nat) : List Cell := l.map fun n : Nat => .int .i64 (n : Int)
theorem nats_ints (l : List Nat) : nats l = ints (l.map fun n : Nat => (n : Int)) := by simp [nats, ints, List.map_map, Function.comp_def]
theorem nats_length (l : List Nat) : (nats l).length = l.length := by simp [nats]
theorem nats_get {xs : List Nat} {i n : Nat} (h : xs[i]? = some n) : (nats xs)[i]? = some (.int .i64 (n : Int)) := by unfold nats; rw [List.getElem?_map, h]; rfl
theorem nats_set (xs : List Nat) (i n : Nat) : (nats xs).set i (.int .i64 (n : Int)) = nats (xs.set i n) := by unfold nats; rw [List.map_set]
section
variable {I : Calls} {Q : Post} {h : Heap}
/-- A cell is read of a slice. -/
theorem At.cell {s : Sl} {xs : List Cell} {i : Nat} {c : Cell} {f : Nat → Nat → T} (hs : At h 1 s xs) (hx : xs[i]? = some c) (hk : ∀ b o, h.read b (o + (i : Int).toNat * 1) 1 = some [c] → f b o h) : derefK s.a f h := by
  have hlt : i < xs.length := (List.getElem?_eq_some_iff.1 hx).1
  have hl := hs.1
  refine hs.one (i := (i : Int)) (by omega) (by omega) fun b o c' hc hr => ?_
  rw [Int.toNat_natCast] at hc
  rw [hx] at hc
  cases hc
  exact hk b o hr
theorem At.len1 {s : Sl} {xs : List Cell} (hs : At h 1 s xs) : s.len = xs.length := by simpa using hs.1
/-! ### the stream's block, among one's own -/
abbrev owS (i : Nat) (l : Sl) (t : Nat) : Ow := (1, ⟨some (i, 0), 2⟩, [.slice 1 l, .int .i64 t])
theorem Strm.owns {i : Nat} {l : Sl} {zs : List Int} {t : Nat} (S : Strm h i l zs t) : Owns (h.del i) h [owS i l t] := by
  refine ⟨fun j o hj => ?_, fun p hp => ?_, by simp⟩
  · by_cases e : j = i
    · subst e; simp [Heap.del] at hj
    · rw [del_ne _ e] at hj; exact hj
  · have : p = owS i l t := by simpa using hp
    subst this
    exact ⟨rfl, .inr ⟨i, rfl, by simp [Heap.del], S.cell⟩⟩
theorem Owns.toStrm {h' : Heap} {L : List Ow} {i : Nat} {l : Sl} {zs : List Int} {t t' : Nat} (S : Strm h i l zs t) (o : Owns (h.del i) h' L) (hm : owS i l t' ∈ L) (ht : t' < 1000000000) : Strm h' i l zs t' :=
  S.frame (o.block hm).1 (fun j x hj hx => o.ext _ _ (by rw [del_ne _ hj]; exact hx)) ht
theorem Owns.strmCell {h' : Heap} {L : List Ow} {i : Nat} {l : Sl} {t : Nat} (o : Owns h h' L) (hm : owS i l t ∈ L) : h' i = some (strm l t) := (o.block hm).1
theorem Owns.next {h' : Heap} {L : List Ow} {i : Nat} {l : Sl} {t t' : Nat} (o : Owns h h' (owS i l t :: L)) : Owns h (h'.set i (strm l t')) (owS i l t' :: L) := o.change rfl
theorem Owns.slen {h' : Heap} {L : List Ow} {s : Sl} {cs : List Cell} (o : Owns h h' L) (hm : (1, s, cs) ∈ L) : s.len = cs.length := by
  have := (o.all _ hm).1; simpa using this
theorem Owns.sl {h' : Heap} {L : List Ow} {s : Sl} {cs : List Cell} (o : Owns h h' L) (hm : (1, s, cs) ∈ L) : h'.sl 1 s = some cs := by
  obtain ⟨h1, h2 | ⟨k, h2, _, h3⟩⟩ := o.all _ hm
  · simp only at h2; unfold Heap.sl; rw [h2.1, h2.2]
  · simp only at h1 h2 h3
    unfold Heap.sl
    rw [h2]
    show h'.read k 0 (s.len * 1) = _
    rw [read_block h3 (by omega), h1, List.drop_zero, List.take_length]
theorem Owns.has {h' : Heap} {L : List Ow} {s : Sl} {cs : List Cell} {sz : Nat} (o : Owns h h' L) (hm : (sz, s, cs) ∈ L) (hne : cs ≠ []) : ∃ i, s = ⟨some (i, 0), s.len⟩ ∧ h' i = some (.cells false cs) := by
  obtain ⟨h1, h2 | ⟨k, h2, _, h3⟩⟩ := o.all _ hm
  · exact absurd h2.2 hne
  · obtain ⟨a, n⟩ := s
    simp only at h2
    subst h2
    exact ⟨k, rfl, h3⟩
end
end Go.Proofs.YtmjfeabnioclgaaGreatDoorVc
-- from SpSpec1
namespace Go.Proofs.YtmjfeabnioclgaaGreatDoorVc
open Go.Proofs.Tryz (prog)
section
variable {I : Calls} {Q : Post} {h : Heap}
theorem spec25 (hI : Closed' prog Pm I) {n a b : Int} (hQ : Q [boo (decide (a ≤ n) && decide (n ≤ b))] h) : I 25 [int n, int a, int b] Q h := by
  refine hI.go _ _ (den25 I n a b Q) ?_
  refine ifT_dec (fun h1 => ?_) (fun h1 => ?_)
  · simpa [h1] using hQ
  · simpa [h1] using hQ
theorem spec77 (hI : Closed' prog Pm I) {a b : Nat} (hQ : Q [u64 (Nat.gcd a b : Nat)] h) : I 77 [u64 a, u64 b] Q h := by
  refine hI.go _ _ (den77 I a b Q) ?_
  refine loopK_intro (fun (p : Int × Int) h' m => h' = h ∧ ∃ x y : Nat, p = ((x : Int), (y : Int)) ∧ y = m ∧ Nat.gcd x y = Nat.gcd a b) b ⟨rfl, a, b, rfl, rfl, rfl⟩ ?_
  rintro p h' m ⟨rfl, x, y, rfl, rfl, hg⟩
  dsimp only [uncur]
  refine ifT_intro (fun h1 => ?_) fun h1 => ?_
  · have h2 : ¬ (y : Int) = 0 := by simpa using h1
    refine ⟨h2, x % y, Nat.mod_lt _ (by omega), rfl, y, x % y, by rw [Int.ofNat_tmod], rfl, ?_⟩
    rw [← hg, Nat.gcd_comm x y, Nat.gcd_rec y x, Nat.gcd_comm]
  · have h2 : y = 0 := by have : (y : Int) = 0 := by simpa using h1
                          omega
    subst h2
    rw [Nat.gcd_zero_right] at hg
    subst hg
    exact hQ
theorem spec78 (hI : Closed' prog Pm I) {n : Nat} (h1 : n < 4611686018427387904) (hQ : Q [u64 n] h) : I 78 [int n] Q h := by
  refine hI.go _ _ (den78 I n Q) ?_
  refine ifT_dec (fun h2 => by omega) fun _ => ?_
  rw [wN n (by omega)]
  exact hQ
abbrev frac (a b : Int) : V := .agg [.int .i64 a, .int .i64 b]
theorem spec57 (hI : Closed' prog Pm I) {a b : Nat} (h1 : a < 4611686018427387904) (h2 : b < 4611686018427387904) (h3 : 0 < b) (hQ : Q [frac (a / Nat.gcd a b : Nat) (b / Nat.gcd a b : Nat)] h) : I 57 [int a, int b] Q h := by
  refine hI.go _ _ (den57 I a b Q) ?_
  refine joinK_intro (fun (p : Int × Int) h' => h' = h ∧ p = ((a : Int), (b : Int))) ?_ fun j hj => ifT_dec (fun h => by omega) fun _ => hj _ _ ⟨rfl, rfl⟩
  rintro p h' ⟨rfl, rfl⟩
  dsimp only [uncur]
  have hg1 : 0 < Nat.gcd a b := Nat.gcd_pos_of_pos_right _ h3
  have hg2 : Nat.gcd a b ≤ b := Nat.gcd_le_right _ h3
  refine spec78 hI h1 ⟨_, rfl, spec78 hI h2 ⟨_, rfl, spec77 hI ⟨_, rfl, ?_⟩⟩⟩
  generalize Nat.gcd a b = g at *
  have e1 : IntKind.i64.wrap (g : Int) = g := w64 (by omega) (by omega)
  have la : a / g ≤ a := Nat.div_le_self _ _
  have lb : b / g ≤ b := Nat.div_le_self _ _
  have e2 : IntKind.i64.wrap ((a : Int).tdiv g) = (a / g : Nat) := by rw [← Int.ofNat_tdiv]; generalize a / g = z at *; exact w64 (by omega) (by omega)
  have e3 : IntKind.i64.wrap ((b : Int).tdiv g) = (b / g : Nat) := by rw [← Int.ofNat_tdiv]; generalize b / g = z at *; exact w64 (by omega) (by omega)
  rw [e1, e2, e3]
  exact ⟨by omega, by omega, hQ⟩
theorem sum_step {xs : List Nat} {i : Nat} (h : i < xs.length) : (xs.take (i + 1)).sum = (xs.take i).sum + xs[i] := by
  rw [List.take_add_one, List.getElem?_eq_getElem h]
  show (xs.take i ++ [xs[i]]).sum = _
  rw [List.sum_append]; simp
/-! ### weights -/
structure RightW (xs : List Int) (ws : List Nat) : Prop where
  xs : xs = ws.map fun n : Nat => (n : Int)
  ws1 : ∀ w ∈ ws, w ≤ 1000000
  pos : 0 < ws.sum
  len : ws.length ≤ 12
end
end Go.Proofs.YtmjfeabnioclgaaGreatDoorVc
-- from QfSpec3
namespace Go.Proofs.YtmjfeabnioclgaaGreatDoorVc
open Go.Proofs.Tryz (prog)
section
variable {I : Calls} {Q : Post} {h : Heap}
theorem spec17 (hI : Closed' prog Pm I) (hQ : Q [boo true] h) : I 17 [] Q h := by
  refine hI.go _ _ (den17 I Q) ?_
  refine hI.go _ _ (den42 I 2 4 _) ?_
  refine joinK_intro (fun (b : Bool) h' => h' = h ∧ b = false) ?_ ?_
  · rintro _ h' ⟨rfl, rfl⟩
    refine ifT_intro (fun h => by cases h) fun _ => ifT_dec (fun h => absurd h (by decide)) fun _ => ?_
    refine spec57 hI (a := 2) (b := 4) (by decide) (by decide) (by decide) ⟨_, _, rfl, _, _, _, rfl, ?_⟩
    refine ifT_dec (fun _ => ?_) fun h => absurd rfl h
    have e : (decide (((2 / Nat.gcd 2 4 : Nat) : Int) = 1) && decide (((4 / Nat.gcd 2 4 : Nat) : Int) = 2)) = true := by decide
    rw [e]
    exact hQ
  · intro j hj
    refine spec25 hI ⟨_, rfl, ifT_intro (fun h => by simp at h) fun _ => spec25 hI ⟨_, rfl, hj _ _ ⟨rfl, by decide⟩⟩⟩
/-- A literal lies where it was put, whatever becomes of the stream. -/
theorem lit_at {h h0 : Heap} {i j n : Nat} {o : Obj} {xs : List Int} (hne : j ≠ i) (he : h = h0.set j (.cells false (ints xs))) (hn : n = xs.length) : At (h.set i o) 1 ⟨some (j, 0), n⟩ (ints xs) := by
  refine ⟨by rw [ints_length]; simp [hn], .inr ?_⟩
  show (h.set i o).read j 0 (n * 1) = _
  unfold Heap.read
  rw [set_ne _ _ hne, he, set_eq]
  subst hn
  simp [ints, List.take_of_length_le]
end
end Go.Proofs.YtmjfeabnioclgaaGreatDoorVc
-- from SeKey
namespace Go.Proofs.YtmjfeabnioclgaaGreatDoorVc
open Go.Proofs.Tryz (prog)
section
variable {I : Calls} {Q : Post} {h : Heap}
theorem spec58 (hI : Closed' prog Pm I) {n a b : Int} (hQ : Q [boo (decide (a ≤ n) && decide (n ≤ b))] h) : I 58 [int n, int a, int b] Q h := by
  refine hI.go _ _ (den58 I n a b Q) ?_
  refine ifT_dec (fun h1 => ?_) (fun h1 => ?_)
  · simpa [h1] using hQ
  · simpa [h1] using hQ
abbrev u8 (b : UInt8) : V := .one (.int .u8 (b.toNat : Int))
theorem spec59 (hI : Closed' prog Pm I) {b : UInt8} (hQ : Q [boo (smallB b)] h) : I 59 [u8 b] Q h := by
  refine hI.go _ _ (den59 I _ Q) ?_
  unfold smallB at hQ
  refine ifT_dec (fun h1 => ?_) (fun h1 => ?_)
  · have e : decide (97 ≤ b.toNat) = true := by simp; omega
    rw [e, Bool.true_and] at hQ
    have e2 : decide ((b.toNat : Int) ≤ 122) = decide (b.toNat ≤ 122) := by rw [decide_eq_decide]; omega
    rw [e2]; exact hQ
  · have e : decide (97 ≤ b.toNat) = false := by simp; omega
    rw [e, Bool.false_and] at hQ
    exact hQ
theorem spec62 (hI : Closed' prog Pm I) {b : UInt8} (hQ : Q [boo (digitB b)] h) : I 62 [u8 b] Q h := by
  refine hI.go _ _ (den62 I _ Q) ?_
  unfold digitB at hQ
  refine ifT_dec (fun h1 => ?_) (fun h1 => ?_)
  · have e : decide (48 ≤ b.toNat) = true := by simp; omega
    rw [e, Bool.true_and] at hQ
    have e2 : decide ((b.toNat : Int) ≤ 57) = decide (b.toNat ≤ 57) := by rw [decide_eq_decide]; omega
    rw [e2]; exact hQ
  · have e : decide (48 ≤ b.toNat) = false := by simp; omega
    rw [e, Bool.false_and] at hQ
    exact hQ
theorem spec61 (hI : Closed' prog Pm I) {b : UInt8} (hQ : Q [boo (keyB b)] h) : I 61 [u8 b] Q h := by
  refine hI.go _ _ (den61 I _ Q) ?_
  unfold keyB at hQ
  refine spec59 hI ⟨_, rfl, ifT_intro (fun h1 => ?_) fun h1 => spec62 hI ⟨_, rfl, ifT_intro (fun h2 => ?_) fun h2 => ifT_dec (fun h3 => ?_) fun h3 => ?_⟩⟩
  · rw [h1] at hQ; simpa using hQ
  · rw [h1, h2] at hQ; simpa using hQ
  · have e : decide (b.toNat = 45) = true := by simp; omega
    rw [h1, h2, e] at hQ; simpa using hQ
  · have e : decide (b.toNat = 45) = false := by simp; omega
    rw [h1, h2, e] at hQ
    have e2 : decide ((b.toNat : Int) = 95) = decide (b.toNat = 95) := by rw [decide_eq_decide]; omega
    rw [e2]; simpa using hQ
theorem all_take_step {l : List UInt8} {p : UInt8 → Bool} {i : Nat} {b : UInt8} (hb : l[i]? = some b) : (l.take (i + 1)).all p = ((l.take i).all p && p b) := by
  rw [List.take_add_one, hb]
  show (l.take i ++ [b]).all p = _
  rw [List.all_append]; simp
theorem spec60 (hI : Closed' prog Pm I) {s : ByteArray} (hl : s.size < 1000) (hQ : Q [boo ((bl s).all keyB)] h) : I 60 [str s, .one (.func (some (61, [])))] Q h := by
  refine hI.go _ _ (den60 I s _ Q) ?_
  refine loopK_intro (fun (a : Int) h' m => h' = h ∧ ∃ i : Nat, i ≤ s.size ∧ a = i ∧ m = s.size - i ∧ ((bl s).take i).all keyB = true) s.size ⟨rfl, 0, by omega, rfl, rfl, rfl⟩ ?_
  rintro a h' m ⟨rfl, i, hi, rfl, rfl, hall⟩
  refine ifT_dec (fun hlt => ⟨⟨by omega, hlt⟩, ?_⟩) (fun hge => ?_)
  · have hlt' : i < (bl s).length := by rw [← bl_size]; omega
    have hb := List.getElem?_eq_getElem hlt'
    generalize (bl s)[i] = b at hb
    rw [byteAt_bl hb]
    refine spec61 hI ⟨_, rfl, ifT_intro (fun h1 => ?_) fun h1 => ?_⟩
    · have e : (bl s).all keyB = false := by
        rw [List.all_eq_false]
        exact ⟨b, List.mem_of_getElem? hb, by simpa using h1⟩
      rw [e] at hQ; exact hQ
    · refine ⟨s.size - (i + 1), by omega, rfl, i + 1, by omega, by rw [w64] <;> omega, rfl, ?_⟩
      rw [all_take_step hb, hall]
      simpa using h1
  · have : i = s.size := by omega
    subst this
    rw [bl_size, List.take_length] at hall
    rw [hall] at hQ
    exact hQ
theorem spec44 (hI : Closed' prog Pm I) {s : ByteArray} (hQ : Q [boo (isKey s)] h) : I 44 [str s] Q h := by
  refine hI.go _ _ (den44 I s Q) ?_
  unfold isKey at hQ
  have hsz := bl_size s
  refine spec58 hI ⟨_, rfl, ifT_intro (fun hb => ?_) fun hb => ?_⟩
  · have hb' : 1 ≤ s.size ∧ s.size ≤ 40 := by simp at hb; omega
    cases hl : bl s with
    | nil =>
      rw [hl] at hsz
      have : s.size = 0 := hsz
      omega
    | cons b l =>
      have h0 : (bl s)[0]? = some b := by rw [hl]; rfl
      have e0 := byteAt_bl h0
      rw [hl] at hQ
      have e1 : decide (l.length + 1 ≤ 40) = true := by rw [hl] at hsz; simp at hsz ⊢; omega
      refine ⟨⟨by decide, by omega⟩, ?_⟩
      have e0' : byteAt s 0 = (b.toNat : Int) := e0
      rw [e0']
      simp only [isKeyL, e1, Bool.true_and] at hQ
      refine spec59 hI ⟨_, rfl, ifT_intro (fun h1 => ?_) fun h1 => ?_⟩
      · rw [h1, Bool.true_and, ← hl] at hQ
        exact spec60 hI (by omega) ⟨_, rfl, hQ⟩
      · rw [h1, Bool.false_and] at hQ
        exact hQ
  · have hb' : ¬ (1 ≤ s.size ∧ s.size ≤ 40) := fun h => by
      have : (decide ((1 : Int) ≤ (s.size : Int)) && decide ((s.size : Int) ≤ 40)) = true := by simp; omega
      rw [this] at hb; cases hb
    have e : isKeyL (bl s) = false := by
      cases hl : bl s with
      | nil => rfl
      | cons b l =>
        have : decide (l.length + 1 ≤ 40) = false := by rw [hl] at hsz; simp at hsz ⊢; omega
        simp only [isKeyL, this, Bool.false_and]
    rw [e] at hQ
    exact hQ
/-! ### strings.Trim -/
theorem storeK_whole {i : Nat} {cs ns : List Cell} {k : T} (hi : h i = some (.cells false cs)) (hl : ns.length = cs.length) (hk : k (h.set i (.cells false ns))) : storeK [] i 0 ns k h := by
  have e : updCells cs 0 ns = ns := by
    rw [updCells_eq cs 0 ns (by omega)]
    unfold splice
    simp [hl]
  refine ⟨cs, hi, by omega, ?_⟩
  show k (h.set i (.cells false (updCells cs 0 ns)))
  rw [e]
  exact hk
def smallsS : ByteArray := ⟨#[97, 98, 99, 100, 101, 102, 103, 104, 105, 106, 107, 108, 109, 110, 111, 112, 113, 114, 115, 116, 117, 118, 119, 120, 121, 122]⟩
def keysS : ByteArray := ⟨#[97, 98, 99, 100, 101, 102, 103, 104, 105, 106, 107, 108, 109, 110, 111, 112, 113, 114, 115, 116, 117, 118, 119, 120, 121, 122, 48, 49, 50, 51, 52, 53, 54, 55, 56, 57, 45, 95]⟩
theorem smalls_in : ∀ n : Nat, n < 256 → inC (bl smallsS) n = smallB n.toUInt8 := by decide +kernel
theorem keys_in : ∀ n : Nat, n < 256 → inC (bl keysS) n = keyB n.toUInt8 := by decide +kernel
end
end Go.Proofs.YtmjfeabnioclgaaGreatDoorVc
-- from SeSpec2
namespace Go.Proofs.YtmjfeabnioclgaaGreatDoorVc
open Go.Proofs.Tryz (prog)
section
variable {I : Calls} {Q : Post} {h : Heap}
theorem spec24 (hI : Closed' prog Pm I) {n : Int} (hQ : Q [boo (decide (moment n))] h) : I 24 [int n] Q h := by
  refine hI.go _ _ (den24 I n Q) ?_
  refine spec25 hI ⟨_, rfl, ?_⟩
  have e : (decide ((0 : Int) ≤ n) && decide (n ≤ 4321439)) = decide (moment n) := by simp [moment]
  rw [← e] at hQ
  exact hQ
theorem seenS (xs : List Sent) (i : Nat) (s : ByteArray) : (((xs.take i).map (·.id)).any fun y => decide (y = s)) = ((xs.take i).any fun y => decide (y.id = s)) := by
  rw [List.any_map]; rfl
theorem seenG (xs : List Gain) (i : Nat) (s : ByteArray) : (((xs.take i).map (·.id)).any fun y => decide (y = s)) = ((xs.take i).any fun y => decide (y.id = s)) := by
  rw [List.any_map]; rfl
theorem nb {b : Bool} (h : (!b) = true) : b = false := by simpa using h
theorem nb' {b : Bool} (h : (!b) = false) : b = true := by simpa using h
theorem nd {p : Prop} [Decidable p] (h : (!decide p) = true) : ¬ p := by simpa using h
theorem nd' {p : Prop} [Decidable p] (h : (!decide p) = false) : ¬ ¬ p := by simpa using h
theorem spec22 (hI : Closed' prog Pm I) {s : Sl} {xs : List Sent} (hs : At h 4 s (rows sentC xs)) (hlen : xs.length < 1000) (hQ : ∀ h', Ext h h' → Q [int (errS xs)] h') : I 22 [.one (.slice 4 s)] Q h := by
  have hl : s.len = xs.length := hs.rowsLen sentC_length (by decide)
  refine hI.go _ _ (den22 I s Q) ?_
  unfold vc22
  rw [hl]
  refine ifT_dec (fun h => by omega) fun _ => newK_intro fun i2 h2 hn2 he2 => ?_
  refine loopK_intro (fun (a : Int) h' m => ∃ i : Nat, i ≤ xs.length ∧ a = i ∧ xs.length - i = m ∧ h' = h.set i2 (.map (seen ((xs.take i).map (·.id)))) ∧ errS xs = scanS (xs.take i) (xs.drop i)) xs.length
    ⟨0, by omega, rfl, rfl, by rw [he2]; rfl, rfl⟩ ?_
  rintro a h' m ⟨i, hi, rfl, rfl, rfl, hsc⟩
  have x' : Ext h (h.set i2 (.map (seen ((xs.take i).map (·.id))))) := Ext.new hn2
  have hm := mapOf_some (set_eq h i2 (.map (seen ((xs.take i).map (·.id)))))
  have hs' := x'.at_ hs
  refine ifT_dec (fun hlt => ⟨⟨by omega, by omega⟩, ?_⟩) (fun hge => ?_)
  · have hx := List.getElem?_eq_getElem (show i < xs.length by omega)
    generalize xs[i] = x at hx
    rw [scanS_step hx] at hsc
    have bad : ∀ e, errS xs = e → Q [int e] (h.set i2 (.map (seen ((xs.take i).map (·.id))))) := fun e he => by rw [← he]; exact hQ _ x'
    refine hs'.row sentC_length (by decide) hx fun bb o hr => ⟨x.id, x.person, x.letter, x.at_, hr, ?_⟩
    refine spec44 hI ⟨_, rfl, ifT_intro (fun h1 => bad 5 (by rw [hsc, if_pos (nb h1)])) fun h1 => ?_⟩
    rw [if_neg (by rw [nb' h1]; simp)] at hsc
    refine ⟨_, _, ⟨_, hm, seen_get x.id _⟩, ?_⟩
    rw [seenS]
    refine ifT_intro (fun h2 => bad 6 (by rw [hsc, if_pos h2])) fun h2 => ?_
    rw [if_neg (by rw [h2]; simp)] at hsc
    refine joinK_intro (fun (b : Bool) h'' => h'' = h.set i2 (.map (seen ((xs.take i).map (·.id)))) ∧ (b = true ↔ (isKey x.person && isKey x.letter) = false)) ?_ fun j hj => spec44 hI ⟨_, rfl, ifT_intro (fun h3 => hj _ _ ⟨rfl, by simp [nb h3]⟩) fun h3 =>
      spec44 hI ⟨_, rfl, hj _ _ ⟨rfl, by simp [nb' h3]⟩⟩⟩
    rintro b h'' ⟨rfl, hb⟩
    refine ifT_intro (fun h3 => bad 5 (by rw [hsc, if_pos (hb.1 h3)])) fun h3 => ?_
    rw [if_neg (fun h => by rw [hb.2 h] at h3; cases h3)] at hsc
    refine spec24 hI ⟨_, rfl, ifT_intro (fun h4 => bad 1 (by rw [hsc, if_pos (nd h4)])) fun h4 => ?_⟩
    rw [if_neg (nd' h4)] at hsc
    have ew : IntKind.i64.wrap ((i : Int) + 1) = ((i + 1 : Nat) : Int) := by rw [w64] <;> omega
    rw [ew]
    have go : errS xs = scanS (xs.take (i + 1)) (xs.drop (i + 1)) → mapK [] (some i2) (.one (.str x.id)) (.one (.bool true)) (fun h'' => ∃ m', m' < xs.length - i ∧ ∃ j : Nat, j ≤ xs.length ∧ ((i + 1 : Nat) : Int) = j ∧ xs.length - j = m' ∧ h'' = h.set i2 (.map (seen ((xs.take j).map (·.id)))) ∧ errS xs = scanS (xs.take j) (xs.drop j)) (h.set i2 (.map (seen ((xs.take i).map (·.id))))) := fun hsc => by
      refine mapK_intro (set_eq _ _ _) (seen_set x.id _ (by rw [seenS]; exact h2)) ⟨xs.length - (i + 1), by omega, i + 1, by omega, rfl, rfl, ?_, hsc⟩
      rw [set_set]
      congr 2
      rw [List.take_add_one, hx]
      simp [seen]
    refine ifT_dec (fun hpos => ?_) fun hz => ?_
    · have wj : IntKind.i64.wrap ((i : Int) - 1) = ((i - 1 : Nat) : Int) := by rw [w64] <;> omega
      rw [wj]
      have hp := List.getElem?_eq_getElem (show i - 1 < xs.length by omega)
      generalize xs[i - 1] = p at hp
      rw [take_last hp (by omega), Option.any_some] at hsc
      refine ⟨⟨by omega, by omega⟩, hs'.rowCell (j := 3) sentC_length (by decide) hp rfl fun bb o hr => ⟨p.at_, hr, ifT_dec (fun h5 => bad 7 (by rw [hsc, if_pos (by simpa using h5)])) fun h5 => ?_⟩⟩
      rw [if_neg (by simpa using h5)] at hsc
      exact go hsc
    · have hi0 : i = 0 := by omega
      subst hi0
      exact go (by rw [hsc]; simp)
  · have : i = xs.length := by omega
    subst this
    rw [List.drop_length] at hsc
    have e : errS xs = 0 := by rw [hsc]; rfl
    rw [← e]
    exact hQ _ x'
/-! ### the answer's -/
theorem any_take_step {α : Type} {l : List α} {p : α → Bool} {i : Nat} {b : α} (hb : l[i]? = some b) : (l.take (i + 1)).any p = ((l.take i).any p || p b) := by
  rw [List.take_add_one, hb]
  show (l.take i ++ [b]).any p = _
  rw [List.any_append]; simp
end
end Go.Proofs.YtmjfeabnioclgaaGreatDoorVc
-- from SeSpec3
namespace Go.Proofs.YtmjfeabnioclgaaGreatDoorVc
open Go.Proofs.Tryz (prog)
theorem take_snoc {α : Type} {l : List α} {k : Nat} {x : α} (h : l[k]? = some x) : l.take (k + 1) = l.take k ++ [x] := by rw [List.take_add_one, h]; rfl
section
variable {I : Calls} {Q : Post} {h : Heap}
theorem bef {g : Gain} {w : Int} {x : Sent} (b1 : Bool) : before g w x = b1 → before g w x = b1 := id
/-- What is wrong with what is asked for. -/
def errP (xs : List Sent) (g : Gain) (w : Int) : Int := if errS xs ≠ 0 then errS xs else if errG [g] ≠ 0 then errG [g] else if ¬ (1 ≤ w ∧ w ≤ 4321440) then 1 else 0
theorem one_at {g : Gain} {i : Nat} (hn : h i = none) : At (h.set i (.cells false (gainC g))) 4 ⟨some (i, 0), 1⟩ (rows gainC [g]) := by
  refine ⟨rfl, .inr ?_⟩
  show (h.set i _).read i 0 _ = _
  rw [read_block (set_eq _ _ _) (by simp [gainC])]
  rfl
end
end Go.Proofs.YtmjfeabnioclgaaGreatDoorVc
-- from SeSpec4
namespace Go.Proofs.YtmjfeabnioclgaaGreatDoorVc
open Go.Proofs.Tryz (prog)
theorem encode_size (n : Int) : (Utf8.encode n).size ≤ 4 := by
  unfold Utf8.encode
  simp only
  repeat' split
  all_goals first | exact (show (1 : Nat) ≤ 4 by decide) | exact (show (2 : Nat) ≤ 4 by decide) | exact (show (3 : Nat) ≤ 4 by decide) | exact (show (4 : Nat) ≤ 4 by decide)
section
variable {I : Calls} {Q : Post} {h : Heap}
theorem Owns.ne {h0 h : Heap} {p q : Ow} {l : List Ow} {i j : Nat} (o : Owns h0 h (p :: l)) (hq : q ∈ l) (hi : p.2.1.a = some (i, 0)) (hj : q.2.1.a = some (j, 0)) : i ≠ j := fun e => by
  subst e; exact (List.pairwise_cons.1 o.apart).1 q hq i hi hj
theorem lit_atC {h h0 : Heap} {i j n : Nat} {o : Obj} {cs : List Cell} (hne : j ≠ i) (he : h = h0.set j (.cells false cs)) (hn : n = cs.length) : At (h.set i o) 1 ⟨some (j, 0), n⟩ cs := by
  refine ⟨by simp [hn], .inr ?_⟩
  show (h.set i o).read j 0 (n * 1) = _
  unfold Heap.read
  rw [set_ne _ _ hne, he, set_eq]
  subst hn
  simp
theorem spec21 (hI : Closed' prog Pm I) {i : Nat} {l : Sl} {zs : List Int} {t : Nat} {s : Sl} {xs : List ByteArray} (S : Strm h i l zs t) (hs : At (h.set i (strm l (t + 1))) 1 s (strs xs)) (h1 : xs ≠ []) (h2 : xs.length < 1000)
    (hQ : ∀ v ∈ xs, Q [str v] (h.set i (strm l (t + 1)))) : I 21 [.one (.ptr (some (i, 0))), .one (.slice 1 s)] Q h := by
  have hl : s.len = xs.length := by simpa [strs] using hs.1
  have hpos := List.length_pos_iff.2 h1
  refine hI.go _ _ (den21 I (some (i, 0)) s Q) ?_
  refine spec18 hI S (by omega) (by omega) fun v h3 h4 => ⟨v, rfl, ⟨h3, h4⟩, hs.one h3 h4 fun b o c hc hr => ?_⟩
  simp only [strs, List.getElem?_map] at hc
  cases hz : xs[v.toNat]? with
  | none => rw [hz] at hc; cases hc
  | some z =>
    rw [hz] at hc
    cases hc
    exact ⟨z, hr, hQ z (List.mem_of_getElem? hz)⟩
section
variable {hb : Heap} {i : Nat} {l : Sl} {zs : List Int} {t0 : Nat}
/-- A new literal is not the stream's block. -/
theorem Owns.lit_ne {h : Heap} {t j : Nat} {L : List Ow} (o : Owns (hb.del i) h (owS i l t :: L)) (hn : h j = none) : j ≠ i := fun e => by
  subst e; rw [o.strmCell (l := l) (t := t) (by simp)] at hn; cases hn
theorem spec19 (hI : Closed' prog Pm I) (S0 : Strm hb i l zs t0) {t : Nat} {L : List Ow} (o : Owns (hb.del i) h (owS i l t :: L)) (ht : t < 100000) {s : Sl} {xs : List ByteArray} (hs : ∀ ob, At (h.set i ob) 1 s (strs xs)) (h1 : xs ≠ []) (h2 : xs.length < 1000)
    (hQ : ∀ v t' h', t' ≤ t + 2 → Owns (hb.del i) h' (owS i l t' :: L) → Q [str v] h') : I 19 [.one (.ptr (some (i, 0))), .one (.slice 1 s)] Q h := by
  refine hI.go _ _ (den19 I (some (i, 0)) s Q) ?_
  have S := o.toStrm S0 (t' := t) (by simp) (by omega)
  refine spec20 hI S (by decide) (by decide) fun b => ⟨b, rfl, ?_⟩
  have o1 := o.next (t' := t + 1)
  refine ifT_intro (fun _ => ?_) fun _ => ?_
  · refine newK_intro fun i7 h3 hn3 he3 => ?_
    have hne := o1.lit_ne hn3
    have o2 := o1.mono (he3 ▸ Ext.new hn3 : Ext _ h3)
    have S2 := o2.toStrm S0 (t' := t + 1) (by simp) (by omega)
    refine spec21 hI (xs := [⟨#[]⟩, ⟨#[75, 101, 121]⟩, ⟨#[49, 97]⟩]) S2 (lit_atC hne he3 rfl) (by simp) (by simp) fun v _ => ⟨v, rfl, hQ v _ _ (by omega) (o2.next (t' := t + 1 + 1))⟩
  · have S1 := o1.toStrm S0 (t' := t + 1) (by simp) (by omega)
    refine spec21 hI S1 (by rw [set_set]; exact hs _) h1 h2 fun v _ => ⟨v, rfl, hQ v _ _ (by omega) (o1.next (t' := t + 1 + 1))⟩
theorem spec4 (hI : Closed' prog Pm I) (S0 : Strm hb i l zs t0) {t : Nat} {L : List Ow} {mo : Int} (hmo : 0 ≤ mo ∧ mo ≤ 20) (o : Owns (hb.del i) h (owS i l t :: L)) (ht : t < 1000)
    (hQ : ∀ s' h' xs t', Owns (hb.del i) h' (owS i l t' :: (4, s', rows sentC xs) :: L) → t' ≤ t + 1000 → xs.length ≤ 30 → (xs.length : Int) ≤ mo → Q [.one (.slice 4 s')] h') : I 4 [.one (.ptr (some (i, 0))), int mo] Q h := by
  refine hI.go _ _ (den4 I (some (i, 0)) mo Q) ?_
  have S := o.toStrm S0 (t' := t) (by simp) (by omega)
  have ew : IntKind.i64.wrap (mo + 1) = mo + 1 := by rw [w64] <;> omega
  unfold vc4
  rw [ew]
  refine spec18 hI S (by omega) (by omega) fun n hn0 hn1 => ⟨n, rfl, ?_⟩
  refine loopK_intro (fun (a : Sl × Int × Int) h' m => ∃ j t' : Nat, (j : Int) ≤ n ∧ a.2.2 = j ∧ 30 - j = m ∧ t' ≤ t + 1 + 5 * j ∧ ∃ xs : List Sent, xs.length = j ∧ Owns (hb.del i) h' (owS i l t' :: (4, a.1, rows sentC xs) :: L)) 30
    ⟨0, t + 1, by omega, rfl, rfl, by omega, [], rfl, ((o.next (t' := t + 1)).none_ 4).perm (List.Perm.swap _ _ _)⟩ ?_
  rintro ⟨s, age, y⟩ h' m ⟨j, t', hj, rfl, rfl, ht', xs, hxl, o⟩
  dsimp only [uncur]
  have hal : s.len = xs.length := (o.at_ (s := s) (by simp)).rowsLen sentC_length (by decide)
  refine ifT_dec (fun hlt => ?_) (fun hge => ?_)
  · refine newK_intro fun i2 h2 hn2 he2 => ?_
    have hne2 := o.lit_ne hn2
    have o2 := o.mono (he2 ▸ Ext.new hn2 : Ext _ h2)
    refine spec6 hI (xs := [0, 1, 10, 100]) (o2.toStrm S0 (t' := t') (by simp) (by omega)) (lit_at hne2 he2 rfl) (by simp) (by simp) fun v _ => ⟨v, rfl, ?_⟩
    have o3 := o2.next (t' := t' + 1)
    have hes := encode_size (IntKind.i32.wrap (IntKind.i64.wrap (97 + (j : Int))))
    refine ⟨by omega, newK_intro fun i4 h4 hn4 he4 => ?_⟩
    have hne4 := o3.lit_ne hn4
    have o4 := o3.mono (he4 ▸ Ext.new hn4 : Ext _ h4)
    refine spec19 hI S0 o4 (by omega) (xs := [⟨#[97, 110, 110]⟩, ⟨#[98, 111]⟩]) (fun ob => lit_atC hne4 he4 rfl) (by simp) (by simp) fun p t5 h5 ht5 o5 => ⟨p, rfl, newK_intro fun i6 h6 hn6 he6 => ?_⟩
    have hne6 := o5.lit_ne hn6
    have o6 := o5.mono (he6 ▸ Ext.new hn6 : Ext _ h6)
    refine spec19 hI S0 o6 (by omega) (xs := [⟨#[104, 101, 108, 108, 111]⟩, ⟨#[110, 101, 119, 115]⟩, ⟨#[111, 102, 102, 101, 114]⟩]) (fun ob => lit_atC hne6 he6 rfl) (by simp) (by simp) fun q t7 h7 ht7 o7 => ⟨q, rfl, ?_⟩
    refine appendTo_owns (m := 0) (o7.perm (List.Perm.swap _ _ _)) (by rfl) (by omega) (by simp) fun b h8 o8 => ⟨30 - (j + 1), by omega, j + 1, t7, by omega, ?_, rfl, by omega, xs ++ [⟨(⟨#[115]⟩ : ByteArray) ++ Utf8.encode (IntKind.i32.wrap (IntKind.i64.wrap (97 + (j : Int)))), p, q, IntKind.i64.wrap (age + v)⟩], by simp [hxl], ?_⟩
    · show IntKind.i64.wrap ((j : Int) + 1) = _
      rw [w64] <;> omega
    · have := o8.perm (List.Perm.swap _ _ _)
      rw [rows_append]
      simpa [rows, sentC] using this
  · have S2 := o.toStrm S0 (t' := t') (by simp) (by omega)
    refine joinK_intro (fun (b : Bool) h3 => Owns (hb.del i) h3 (owS i l (t' + 1) :: (4, s, rows sentC xs) :: L) ∧ (b = true → 0 < xs.length)) ?_ ?_
    · rintro b h3 ⟨o3, hbp⟩
      refine ifT_intro (fun hbt => ?_) fun _ => hQ _ _ _ _ o3 (by omega) (by omega) (by omega)
      have hpos := hbp hbt
      have S3 := o3.toStrm S0 (t' := t' + 1) (by simp) (by omega)
      refine spec18 hI S3 (by omega) (by omega) fun e he0 he1 => ⟨e, rfl, ⟨he0, he1⟩, ?_⟩
      obtain ⟨e, rfl⟩ := Int.eq_ofNat_of_zero_le he0
      have o4 := o3.next (t' := t' + 1 + 1)
      obtain ⟨bs, hbs, _⟩ := o4.has (s := s) (cs := rows sentC xs) (sz := 4) (by simp) (fun h => by have := congrArg List.length h; rw [rows_length sentC_length] at this; simp at this; omega)
      rw [hbs] at o4 ⊢
      refine derefK_intro rfl ?_
      refine spec18 hI (o4.toStrm S0 (t' := t' + 1 + 1) (by simp) (by omega)) (by decide) (by decide) fun c hc0 hc1 => ⟨c, rfl, ?_⟩
      have o5 := o4.next (t' := t' + 1 + 1 + 1)
      have hx := List.getElem?_eq_getElem (show e < xs.length by omega)
      generalize xs[e] = x at hx
      -- one cell of one letter is turned
      have fin : ∀ (j2 : Nat) (c2 : Cell) (x' : Sent) (h9 : Heap) (t9 : Nat), j2 < 4 → (sentC x).set j2 c2 = sentC x' → t9 ≤ t' + 4 → Owns (hb.del i) h9 (owS i l t9 :: (4, ⟨some (bs, 0), s.len⟩, rows sentC xs) :: L) → storeK [] bs (0 + ((e : Nat) : Int).toNat * 4 + j2) [c2] (Q [.one (.slice 4 ⟨some (bs, 0), s.len⟩)]) h9 := by
        intro j2 c2 x' h9 t9 hj2 hset ht9 o9
        have o10 := o9.perm (List.Perm.swap _ _ _)
        have hcell := (o10.block List.mem_cons_self).1
        have hrl := rows_length sentC_length xs
        rw [Int.toNat_natCast, Nat.zero_add]
        refine storeK_one hcell (by rw [hrl]; omega) ?_
        rw [rows_set sentC_length hx hj2 hset]
        have o11 := (o10.change (n' := s.len) (sz' := 4) (cs' := rows sentC (xs.set e x')) (by rw [rows_length sentC_length]; simp; omega)).perm (List.Perm.swap _ _ _)
        exact hQ _ _ _ _ o11 (by omega) (by simp; omega) (by simp; omega)
      refine ifT_dec (fun h1 => ?_) fun h1 => ifT_dec (fun h2 => ?_) fun h2 => ?_
      · refine newK_intro fun i6 h6 hn6 he6 => ?_
        have hne6 := o5.lit_ne hn6
        have o6 := o5.mono (he6 ▸ Ext.new hn6 : Ext _ h6)
        refine spec21 hI (xs := [⟨#[]⟩, ⟨#[115, 97]⟩, ⟨#[83]⟩]) (o6.toStrm S0 (t' := t' + 1 + 1 + 1) (by simp) (by omega)) (lit_atC hne6 he6 rfl) (by simp) (by simp) fun v _ => ⟨v, rfl, ?_⟩
        exact fin 0 (.str v) { x with id := v } _ (t' + 1 + 1 + 1 + 1) (by decide) rfl (by omega) o6.next
      · refine newK_intro fun i6 h6 hn6 he6 => ?_
        have hne6 := o5.lit_ne hn6
        have o6 := o5.mono (he6 ▸ Ext.new hn6 : Ext _ h6)
        refine spec6 hI (xs := [-1, 4321440, 0]) (o6.toStrm S0 (t' := t' + 1 + 1 + 1) (by simp) (by omega)) (lit_at hne6 he6 rfl) (by simp) (by simp) fun v _ => ⟨v, rfl, ?_⟩
        exact fin 3 (.int .i64 v) { x with at_ := v } _ (t' + 1 + 1 + 1 + 1) (by decide) rfl (by omega) o6.next
      · refine newK_intro fun i6 h6 hn6 he6 => ?_
        have hne6 := o5.lit_ne hn6
        have o6 := o5.mono (he6 ▸ Ext.new hn6 : Ext _ h6)
        refine spec21 hI (xs := [⟨#[]⟩, ⟨#[88]⟩]) (o6.toStrm S0 (t' := t' + 1 + 1 + 1) (by simp) (by omega)) (lit_atC hne6 he6 rfl) (by simp) (by simp) fun v _ => ⟨v, rfl, ?_⟩
        exact fin 2 (.str v) { x with letter := v } _ (t' + 1 + 1 + 1 + 1) (by decide) rfl (by omega) o6.next
    · intro jk hjk
      refine spec20 hI S2 (by decide) (by decide) fun b => ⟨b, rfl, ?_⟩
      have o3 := o.next (t' := t' + 1)
      refine ifT_intro (fun _ => hjk _ _ ⟨o3, fun h => ?_⟩) fun _ => hjk _ _ ⟨o3, fun h => by cases h⟩
      have := of_decide_eq_true h
      omega
end
end
end Go.Proofs.YtmjfeabnioclgaaGreatDoorVc
