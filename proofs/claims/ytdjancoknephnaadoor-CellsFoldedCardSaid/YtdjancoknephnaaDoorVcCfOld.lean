/- Contracts, turned by a program to the numbers of this seat. -/
import Derived.Test.YtdjancoknephnaaDoorVcCfVc
import Derived.Test.YtdjancoknephnaaDoorVcInsRun
import Derived.Test.YtdjancoknephnaaDoorVcSeMath
import Derived.Test.YtdjancoknephnaaDoorVcBits
import Derived.Test.YtdjancoknephnaaDoorVcSortList
set_option linter.unusedSimpArgs false
set_option linter.unusedVariables false
-- from AcOld
namespace Go.Proofs.YtdjancoknephnaaDoorVc
open Go.Proofs.Tryd (prog)
abbrev Pm : Prim := InsPrim 49 3 40 ok3
abbrev int (n : Int) : V := .one (.int .i64 n)
abbrev u64 (n : Int) : V := .one (.int .u64 n)
abbrev str (s : ByteArray) : V := .one (.str s)
abbrev boo (b : Bool) : V := .one (.bool b)
def ints (zs : List Int) : List Cell := zs.map (.int .i64)
section
variable {I : Calls} {Q : Post} {h : Heap}
/-! ### the stream -/
theorem spec53 (hI : Closed' prog Pm I) {x n : Int} (h1 : 1 ≤ n) (h2 : n < 4611686018427387904) (hQ : ∀ v, 0 ≤ v → v < n → Q [int v] h) : I 53 [int x, int n] Q h := by
  refine hI.go _ _ (den53 I x n Q) ?_
  refine ifT_dec (fun h3 => by omega) (fun h3 => ⟨by omega, ifT_dec (fun h4 => ?_) (fun h4 => ?_)⟩)
  · have h5 := Int.lt_tmod_of_pos x (show 0 < n by omega)
    have h6 : IntKind.i64.wrap (x.tmod n + n) = x.tmod n + n := w64 (by omega) (by omega)
    rw [h6]
    exact hQ _ (by omega) (by omega)
  · exact hQ _ (by omega) (Int.tmod_lt_of_pos x (by omega))
/-- A stream at place i: its numbers, and how many have been asked for. -/
structure Strm (h : Heap) (i : Nat) (l : Sl) (zs : List Int) (t : Nat) : Prop where
  cell : h i = some (.cells false [.slice 1 l, .int .i64 t])
  lies : At h 1 l (ints zs)
  apart : zs = [] ∨ ∀ b o, l.a = some (b, o) → b ≠ i
  small : t < 1000000000
abbrev strm (l : Sl) (t : Nat) : Obj := .cells false [.slice 1 l, .int .i64 t]
theorem Strm.at_ {h h' : Heap} {i : Nat} {l : Sl} {zs : List Int} {t : Nat} (S : Strm h i l zs t) (hf : ∀ j o, j ≠ i → h j = some o → h' j = some o) : At h' 1 l (ints zs) := by
  refine ⟨S.lies.1, ?_⟩
  rcases S.lies.2 with h1 | h1
  · exact .inl h1
  · rcases S.apart with h2 | h2
    · left; rw [h2]; rfl
    · right
      unfold Heap.sl at h1 ⊢
      cases ha : l.a with
      | none => rw [ha] at h1; exact h1
      | some p =>
        obtain ⟨b, o⟩ := p
        rw [ha] at h1
        have hb := h2 b o ha
        unfold Heap.read at h1 ⊢
        simp only at h1 ⊢
        cases hh : h b with
        | none => rw [hh] at h1; cases h1
        | some ob => rw [hf b ob hb hh]; rw [hh] at h1; exact h1
theorem Strm.frame {h h' : Heap} {i : Nat} {l : Sl} {zs : List Int} {t t' : Nat} (S : Strm h i l zs t) (hc : h' i = some (strm l t')) (hf : ∀ j o, j ≠ i → h j = some o → h' j = some o) (ht : t' < 1000000000) : Strm h' i l zs t' :=
  ⟨hc, S.at_ hf, S.apart, ht⟩
theorem Strm.next {h : Heap} {i : Nat} {l : Sl} {zs : List Int} {t : Nat} (S : Strm h i l zs t) (ht : t + 1 < 1000000000) : Strm (h.set i (strm l (t + 1))) i l zs (t + 1) :=
  S.frame (set_eq _ _ _) (fun j o hj hh => by rw [set_ne _ _ hj]; exact hh) ht
theorem Strm.ext {h h' : Heap} {i : Nat} {l : Sl} {zs : List Int} {t : Nat} (S : Strm h i l zs t) (he : Ext h h') : Strm h' i l zs t :=
  S.frame (he _ _ S.cell) (fun j o _ hh => he _ _ hh) S.small
theorem spec21 (hI : Closed' prog Pm I) {i : Nat} {l : Sl} {zs : List Int} {t : Nat} {n : Int} (S : Strm h i l zs t) (h1 : 1 ≤ n) (h2 : n < 4611686018427387904)
    (hQ : ∀ v, 0 ≤ v → v < n → Q [int v] (h.set i (strm l (t + 1)))) : I 21 [.one (.ptr (some (i, 0))), int n] Q h := by
  have ht := S.small
  have hw : IntKind.i64.wrap ((t : Int) + 1) = ((t + 1 : Nat) : Int) := by rw [w64] <;> omega
  have hw2 : IntKind.i64.wrap (((t + 1 : Nat) : Int) - 1) = t := by rw [w64] <;> omega
  have hc' : (h.set i (strm l (t + 1))) i = some (strm l (t + 1)) := set_eq _ _ _
  have S' : At (h.set i (strm l (t + 1))) 1 l (ints zs) := S.at_ fun j o hj hh => by rw [set_ne _ _ hj]; exact hh
  have r0 : ∀ {o : Nat}, o = 0 → (h.set i (strm l (t + 1))).read i o 1 = some [.slice 1 l] := fun e => by subst e; exact read_cell hc' rfl
  have r1 : ∀ {o : Nat}, o = 1 → (h.set i (strm l (t + 1))).read i o 1 = some [.int .i64 ((t + 1 : Nat) : Int)] := fun e => by subst e; exact read_cell hc' rfl
  refine hI.go _ _ (den21 I (some (i, 0)) n Q) ?_
  refine derefK_intro rfl ⟨t, read_cell S.cell rfl, derefK_intro rfl (storeK_one S.cell (by simp) ?_)⟩
  rw [hw]
  show derefK _ _ (h.set i (strm l (t + 1)))
  refine derefK_intro rfl ⟨l, r0 rfl, ifT_dec (fun h3 => ?_) (fun h3 => ?_)⟩
  · refine derefK_intro rfl ⟨_, r1 rfl, spec53 hI h1 h2 fun v h4 h5 => ⟨v, rfl, hQ v h4 h5⟩⟩
  · have hp : 0 < (l.len : Int) := by omega
    have hm := Int.tmod_lt_of_pos (t : Int) hp
    have hm0 : 0 ≤ (t : Int).tmod l.len := Int.tmod_nonneg _ (by omega)
    refine derefK_intro rfl ⟨_, r1 rfl, derefK_intro rfl ⟨l, r0 rfl, h3, derefK_intro rfl ⟨_, r1 rfl, derefK_intro rfl ⟨l, r0 rfl, h3, derefK_intro rfl ⟨l, r0 rfl, ?_⟩⟩⟩⟩⟩
    rw [hw2]
    refine ⟨⟨hm0, hm⟩, S'.one hm0 hm fun b o c hc hr => ?_⟩
    simp only [ints, List.getElem?_map] at hc
    cases hz : zs[((t : Int).tmod l.len).toNat]? with
    | none => rw [hz] at hc; cases hc
    | some z =>
      rw [hz] at hc
      cases hc
      exact ⟨z, hr, spec53 hI (by decide) (by decide) fun w _ _ => ⟨w, rfl, spec53 hI h1 h2 fun v h4 h5 => ⟨v, rfl, hQ v h4 h5⟩⟩⟩
/-- One of some numbers. -/
theorem spec33 (hI : Closed' prog Pm I) {i : Nat} {l : Sl} {zs : List Int} {t : Nat} {s : Sl} {xs : List Int} (S : Strm h i l zs t) (hs : At (h.set i (strm l (t + 1))) 1 s (ints xs)) (h1 : xs ≠ []) (h2 : xs.length < 1000)
    (hQ : ∀ v ∈ xs, Q [int v] (h.set i (strm l (t + 1)))) : I 33 [.one (.ptr (some (i, 0))), .one (.slice 1 s)] Q h := by
  have hl : s.len = xs.length := by simpa [ints] using hs.1
  have hpos := List.length_pos_iff.2 h1
  refine hI.go _ _ (den33 I (some (i, 0)) s Q) ?_
  refine spec21 hI S (by omega) (by omega) fun v h3 h4 => ⟨v, rfl, ⟨h3, h4⟩, hs.one h3 h4 fun b o c hc hr => ?_⟩
  simp only [ints, List.getElem?_map] at hc
  cases hz : xs[v.toNat]? with
  | none => rw [hz] at hc; cases hc
  | some z =>
    rw [hz] at hc
    cases hc
    exact ⟨z, hr, hQ z (List.mem_of_getElem? hz)⟩
/-! ### codes -/
/-! ### looking a string up -/
def strs (l : List ByteArray) : List Cell := l.map .str
end
end Go.Proofs.YtdjancoknephnaaDoorVc
-- from CcSpec2
namespace Go.Proofs.YtdjancoknephnaaDoorVc
open Go.Proofs.Tryd (prog)
section
variable {I : Calls} {Q : Post} {h : Heap}
theorem shr32 (a : Nat) : shr .u64 (a : Int) 32 = ((a / 4294967296 : Nat) : Int) := shr_nat a 32 .u64 rfl (by decide)
theorem mask32 (a : Nat) (ha : a < 18446744073709551616) : IntKind.u64.wrap ((BitVec.ofInt 64 (a : Int) &&& BitVec.ofInt 64 4294967295).toNat : Int) = ((a % 4294967296 : Nat) : Int) := and_mask a ha
theorem wN (a : Nat) (ha : a < 18446744073709551616) : IntKind.u64.wrap (a : Int) = (a : Int) := wu64 (by omega) (by omega)
theorem wM (a : Nat) : IntKind.u64.wrap (a : Int) = ((a % 18446744073709551616 : Nat) : Int) := by rw [IntKind.wrap_u64]; omega
theorem mN (a b : Nat) : (a : Int) * (b : Int) = ((a * b : Nat) : Int) := (Int.natCast_mul a b).symm
theorem aN (a b : Nat) : (a : Int) + (b : Int) = ((a + b : Nat) : Int) := (Int.natCast_add a b).symm
theorem div_start {U Y : Nat} (hU : U < 18446744073709551616) : IntKind.u64.wrap ((U : Int).tdiv (Y : Int)) = ((U / Y : Nat) : Int) ∧ IntKind.u64.wrap ((U : Int) - IntKind.u64.wrap (((U / Y : Nat) : Int) * (Y : Int))) = ((U % Y : Nat) : Int) := by
  have h1 : U / Y ≤ U := Nat.div_le_self _ _
  have h2 := Nat.div_add_mod U Y
  rw [Nat.mul_comm] at h2
  constructor
  · rw [← Int.ofNat_tdiv, wN _ (by omega)]
  · rw [mN]
    generalize U / Y * Y = z at *
    rw [wN _ (by omega), wu64 (by omega) (by omega)]
    omega
end
end Go.Proofs.YtdjancoknephnaaDoorVc
-- from CcSpec4
namespace Go.Proofs.YtdjancoknephnaaDoorVc
open Go.Proofs.Tryd (prog)
section
variable {I : Calls} {Q : Post} {h : Heap}
theorem full_ok {ds gs : List Nat} {n x : Nat} (hds : ∀ d ∈ ds, d < 31) (hg : ∀ d ∈ gs, d < 31) (hx : x < 31) : ∀ d ∈ ds ++ gs ++ [x], d < 31 := fun d hd => by
  rcases List.mem_append.1 hd with hd | hd
  · rcases List.mem_append.1 hd with hd | hd
    · exact hds d hd
    · exact hg d hd
  · have : d = x := by simpa using hd
    omega
theorem Strm.make {h : Heap} {i : Nat} {l : Sl} {zs : List Int} (hs : At h 1 l (ints zs)) (hi : h i = none) : Strm (h.set i (strm l 0)) i l zs 0 := by
  refine ⟨set_eq _ _ _, (Ext.new hi).at_ hs, ?_, by decide⟩
  rcases hs.2 with h1 | h1
  · left; simpa [ints] using h1
  · right
    rintro b o ha rfl
    unfold Heap.sl at h1
    rw [ha] at h1
    simp only [Heap.read, hi] at h1
    cases h1
end
end Go.Proofs.YtdjancoknephnaaDoorVc
-- from CnSpec
namespace Go.Proofs.YtdjancoknephnaaDoorVc
open Go.Proofs.Tryd (prog)
section
variable {I : Calls} {Q : Post} {h : Heap}
theorem spec17 (hI : Closed' prog Pm I) {i : Nat} {l : Sl} {zs : List Int} {t : Nat} {n : Int} (S : Strm h i l zs t) (h1 : 1 ≤ n) (h2 : n < 4611686018427387904)
    (hQ : ∀ b, Q [boo b] (h.set i (strm l (t + 1)))) : I 17 [.one (.ptr (some (i, 0))), int n] Q h := by
  refine hI.go _ _ (den17 I (some (i, 0)) n Q) ?_
  exact spec21 hI S h1 h2 fun v _ _ => ⟨v, rfl, hQ _⟩
theorem extract_le (s : ByteArray) (a b : Nat) : (s.extract a b).size ≤ s.size := by
  rw [ByteArray.size_extract]; omega
theorem nonempty_size {s : ByteArray} (h : s ≠ ⟨#[]⟩) : 0 < s.size := by
  rcases Nat.eq_zero_or_pos s.size with h1 | h1
  · exfalso
    apply h
    obtain ⟨⟨l⟩⟩ := s
    cases l with
    | nil => rfl
    | cons x l => simp [ByteArray.size] at h1
  · exact h1
end
end Go.Proofs.YtdjancoknephnaaDoorVc
-- from CsSort
namespace Go.Proofs.YtdjancoknephnaaDoorVc
open Go.Proofs.Tryd (prog)
section
variable {I : Calls} {Q : Post} {h : Heap}
theorem ints_get {xs : List Int} {i : Nat} {x : Int} (h : xs[i]? = some x) : (ints xs)[i]? = some (.int .i64 x) := by
  unfold ints; rw [List.getElem?_map, h]; rfl
theorem ints_set (xs : List Int) (i : Nat) (x : Int) : (ints xs).set i (.int .i64 x) = ints (xs.set i x) := by
  unfold ints; rw [List.map_set]
theorem ints_length (xs : List Int) : (ints xs).length = xs.length := by simp [ints]
theorem set_self {h : Heap} {i : Nat} {o : Obj} (hi : h i = some o) : h.set i o = h := by
  funext j
  unfold Heap.set
  by_cases hj : j = i
  · subst hj; simp [hi]
  · simp [hj]
end
end Go.Proofs.YtdjancoknephnaaDoorVc
-- from CsSpec1
namespace Go.Proofs.YtdjancoknephnaaDoorVc
open Go.Proofs.Tryd (prog)
def nats (l : List Nat) : List Cell := l.map fun n : Nat => .int .i64 (n : Int)
theorem nats_ints (l : List Nat) : nats l = ints (l.map fun n : Nat => (n : Int)) := by simp [nats, ints, List.map_map, Function.comp_def]
theorem nats_length (l : List Nat) : (nats l).length = l.length := by simp [nats]
theorem nats_get {xs : List Nat} {i n : Nat} (h : xs[i]? = some n) : (nats xs)[i]? = some (.int .i64 (n : Int)) := by unfold nats; rw [List.getElem?_map, h]; rfl
theorem nats_set (xs : List Nat) (i n : Nat) : (nats xs).set i (.int .i64 (n : Int)) = nats (xs.set i n) := by unfold nats; rw [List.map_set]
section
variable {I : Calls} {Q : Post} {h : Heap}
/-- A cell is read of a slice. -/
theorem At.cell {s : Sl} {xs : List Cell} {i : Nat} {c : Cell} {f : Nat → Nat → T} (hs : At h 1 s xs) (hx : xs[i]? = some c) (hk : ∀ b o, h.read b (o + (i : Int).toNat * 1) 1 = some [c] → f b o h) : derefK s.a f h := by
  have hlt : i < xs.length := (List.getElem?_eq_some_iff.1 hx).1
  have hl := hs.1
  refine hs.one (i := (i : Int)) (by omega) (by omega) fun b o c' hc hr => ?_
  rw [Int.toNat_natCast] at hc
  rw [hx] at hc
  cases hc
  exact hk b o hr
theorem At.len1 {s : Sl} {xs : List Cell} (hs : At h 1 s xs) : s.len = xs.length := by simpa using hs.1
/-! ### the stream's block, among one's own -/
abbrev owS (i : Nat) (l : Sl) (t : Nat) : Ow := (1, ⟨some (i, 0), 2⟩, [.slice 1 l, .int .i64 t])
theorem Strm.owns {i : Nat} {l : Sl} {zs : List Int} {t : Nat} (S : Strm h i l zs t) : Owns (h.del i) h [owS i l t] := by
  refine ⟨fun j o hj => ?_, fun p hp => ?_, by simp⟩
  · by_cases e : j = i
    · subst e; simp [Heap.del] at hj
    · rw [del_ne _ e] at hj; exact hj
  · have : p = owS i l t := by simpa using hp
    subst this
    exact ⟨rfl, .inr ⟨i, rfl, by simp [Heap.del], S.cell⟩⟩
theorem Owns.toStrm {h' : Heap} {L : List Ow} {i : Nat} {l : Sl} {zs : List Int} {t t' : Nat} (S : Strm h i l zs t) (o : Owns (h.del i) h' L) (hm : owS i l t' ∈ L) (ht : t' < 1000000000) : Strm h' i l zs t' :=
  S.frame (o.block hm).1 (fun j x hj hx => o.ext _ _ (by rw [del_ne _ hj]; exact hx)) ht
theorem Owns.strmCell {h' : Heap} {L : List Ow} {i : Nat} {l : Sl} {t : Nat} (o : Owns h h' L) (hm : owS i l t ∈ L) : h' i = some (strm l t) := (o.block hm).1
theorem Owns.next {h' : Heap} {L : List Ow} {i : Nat} {l : Sl} {t t' : Nat} (o : Owns h h' (owS i l t :: L)) : Owns h (h'.set i (strm l t')) (owS i l t' :: L) := o.change rfl
theorem Owns.slen {h' : Heap} {L : List Ow} {s : Sl} {cs : List Cell} (o : Owns h h' L) (hm : (1, s, cs) ∈ L) : s.len = cs.length := by
  have := (o.all _ hm).1; simpa using this
theorem Owns.sl {h' : Heap} {L : List Ow} {s : Sl} {cs : List Cell} (o : Owns h h' L) (hm : (1, s, cs) ∈ L) : h'.sl 1 s = some cs := by
  obtain ⟨h1, h2 | ⟨k, h2, _, h3⟩⟩ := o.all _ hm
  · simp only at h2; unfold Heap.sl; rw [h2.1, h2.2]
  · simp only at h1 h2 h3
    unfold Heap.sl
    rw [h2]
    show h'.read k 0 (s.len * 1) = _
    rw [read_block h3 (by omega), h1, List.drop_zero, List.take_length]
theorem Owns.has {h' : Heap} {L : List Ow} {s : Sl} {cs : List Cell} {sz : Nat} (o : Owns h h' L) (hm : (sz, s, cs) ∈ L) (hne : cs ≠ []) : ∃ i, s = ⟨some (i, 0), s.len⟩ ∧ h' i = some (.cells false cs) := by
  obtain ⟨h1, h2 | ⟨k, h2, _, h3⟩⟩ := o.all _ hm
  · exact absurd h2.2 hne
  · obtain ⟨a, n⟩ := s
    simp only at h2
    subst h2
    exact ⟨k, rfl, h3⟩
end
end Go.Proofs.YtdjancoknephnaaDoorVc
-- from SpSpec1
namespace Go.Proofs.YtdjancoknephnaaDoorVc
open Go.Proofs.Tryd (prog)
section
variable {I : Calls} {Q : Post} {h : Heap}
theorem spec25 (hI : Closed' prog Pm I) {n a b : Int} (hQ : Q [boo (decide (a ≤ n) && decide (n ≤ b))] h) : I 25 [int n, int a, int b] Q h := by
  refine hI.go _ _ (den25 I n a b Q) ?_
  refine ifT_dec (fun h1 => ?_) (fun h1 => ?_)
  · simpa [h1] using hQ
  · simpa [h1] using hQ
theorem spec54 (hI : Closed' prog Pm I) {a b : Nat} (hQ : Q [u64 (Nat.gcd a b : Nat)] h) : I 54 [u64 a, u64 b] Q h := by
  refine hI.go _ _ (den54 I a b Q) ?_
  refine loopK_intro (fun (p : Int × Int) h' m => h' = h ∧ ∃ x y : Nat, p = ((x : Int), (y : Int)) ∧ y = m ∧ Nat.gcd x y = Nat.gcd a b) b ⟨rfl, a, b, rfl, rfl, rfl⟩ ?_
  rintro p h' m ⟨rfl, x, y, rfl, rfl, hg⟩
  dsimp only [uncur]
  refine ifT_intro (fun h1 => ?_) fun h1 => ?_
  · have h2 : ¬ (y : Int) = 0 := by simpa using h1
    refine ⟨h2, x % y, Nat.mod_lt _ (by omega), rfl, y, x % y, by rw [Int.ofNat_tmod], rfl, ?_⟩
    rw [← hg, Nat.gcd_comm x y, Nat.gcd_rec y x, Nat.gcd_comm]
  · have h2 : y = 0 := by have : (y : Int) = 0 := by simpa using h1
                          omega
    subst h2
    rw [Nat.gcd_zero_right] at hg
    subst hg
    exact hQ
theorem spec24 (hI : Closed' prog Pm I) {n : Nat} (h1 : n < 4611686018427387904) (hQ : Q [u64 n] h) : I 24 [int n] Q h := by
  refine hI.go _ _ (den24 I n Q) ?_
  refine ifT_dec (fun h2 => by omega) fun _ => ?_
  rw [wN n (by omega)]
  exact hQ
abbrev frac (a b : Int) : V := .agg [.int .i64 a, .int .i64 b]
theorem spec67 (hI : Closed' prog Pm I) {a b : Nat} (h1 : a < 4611686018427387904) (h2 : b < 4611686018427387904) (h3 : 0 < b) (hQ : Q [frac (a / Nat.gcd a b : Nat) (b / Nat.gcd a b : Nat)] h) : I 67 [int a, int b] Q h := by
  refine hI.go _ _ (den67 I a b Q) ?_
  refine joinK_intro (fun (p : Int × Int) h' => h' = h ∧ p = ((a : Int), (b : Int))) ?_ fun j hj => ifT_dec (fun h => by omega) fun _ => hj _ _ ⟨rfl, rfl⟩
  rintro p h' ⟨rfl, rfl⟩
  dsimp only [uncur]
  have hg1 : 0 < Nat.gcd a b := Nat.gcd_pos_of_pos_right _ h3
  have hg2 : Nat.gcd a b ≤ b := Nat.gcd_le_right _ h3
  refine spec24 hI h1 ⟨_, rfl, spec24 hI h2 ⟨_, rfl, spec54 hI ⟨_, rfl, ?_⟩⟩⟩
  generalize Nat.gcd a b = g at *
  have e1 : IntKind.i64.wrap (g : Int) = g := w64 (by omega) (by omega)
  have la : a / g ≤ a := Nat.div_le_self _ _
  have lb : b / g ≤ b := Nat.div_le_self _ _
  have e2 : IntKind.i64.wrap ((a : Int).tdiv g) = (a / g : Nat) := by rw [← Int.ofNat_tdiv]; generalize a / g = z at *; exact w64 (by omega) (by omega)
  have e3 : IntKind.i64.wrap ((b : Int).tdiv g) = (b / g : Nat) := by rw [← Int.ofNat_tdiv]; generalize b / g = z at *; exact w64 (by omega) (by omega)
  rw [e1, e2, e3]
  exact ⟨by omega, by omega, hQ⟩
theorem sum_step {xs : List Nat} {i : Nat} (h : i < xs.length) : (xs.take (i + 1)).sum = (xs.take i).sum + xs[i] := by
  rw [List.take_add_one, List.getElem?_eq_getElem h]
  show (xs.take i ++ [xs[i]]).sum = _
  rw [List.sum_append]; simp
/-! ### weights -/
structure RightW (xs : List Int) (ws : List Nat) : Prop where
  xs : xs = ws.map fun n : Nat => (n : Int)
  ws1 : ∀ w ∈ ws, w ≤ 1000000
  pos : 0 < ws.sum
  len : ws.length ≤ 12
end
end Go.Proofs.YtdjancoknephnaaDoorVc
-- from QfSpec3
namespace Go.Proofs.YtdjancoknephnaaDoorVc
open Go.Proofs.Tryd (prog)
section
variable {I : Calls} {Q : Post} {h : Heap}
theorem spec9 (hI : Closed' prog Pm I) (hQ : Q [boo true] h) : I 9 [] Q h := by
  refine hI.go _ _ (den9 I Q) ?_
  refine hI.go _ _ (den32 I 2 4 _) ?_
  refine joinK_intro (fun (b : Bool) h' => h' = h ∧ b = false) ?_ ?_
  · rintro _ h' ⟨rfl, rfl⟩
    refine ifT_intro (fun h => by cases h) fun _ => ifT_dec (fun h => absurd h (by decide)) fun _ => ?_
    refine spec67 hI (a := 2) (b := 4) (by decide) (by decide) (by decide) ⟨_, _, rfl, _, _, _, rfl, ?_⟩
    refine ifT_dec (fun _ => ?_) fun h => absurd rfl h
    have e : (decide (((2 / Nat.gcd 2 4 : Nat) : Int) = 1) && decide (((4 / Nat.gcd 2 4 : Nat) : Int) = 2)) = true := by decide
    rw [e]
    exact hQ
  · intro j hj
    refine spec25 hI ⟨_, rfl, ifT_intro (fun h => by simp at h) fun _ => spec25 hI ⟨_, rfl, hj _ _ ⟨rfl, by decide⟩⟩⟩
/-- A literal lies where it was put, whatever becomes of the stream. -/
theorem lit_at {h h0 : Heap} {i j n : Nat} {o : Obj} {xs : List Int} (hne : j ≠ i) (he : h = h0.set j (.cells false (ints xs))) (hn : n = xs.length) : At (h.set i o) 1 ⟨some (j, 0), n⟩ (ints xs) := by
  refine ⟨by rw [ints_length]; simp [hn], .inr ?_⟩
  show (h.set i o).read j 0 (n * 1) = _
  unfold Heap.read
  rw [set_ne _ _ hne, he, set_eq]
  subst hn
  simp [ints, List.take_of_length_le]
end
end Go.Proofs.YtdjancoknephnaaDoorVc
-- from SeKey
namespace Go.Proofs.YtdjancoknephnaaDoorVc
open Go.Proofs.Tryd (prog)
section
variable {I : Calls} {Q : Post} {h : Heap}
theorem spec69 (hI : Closed' prog Pm I) {n a b : Int} (hQ : Q [boo (decide (a ≤ n) && decide (n ≤ b))] h) : I 69 [int n, int a, int b] Q h := by
  refine hI.go _ _ (den69 I n a b Q) ?_
  refine ifT_dec (fun h1 => ?_) (fun h1 => ?_)
  · simpa [h1] using hQ
  · simpa [h1] using hQ
abbrev u8 (b : UInt8) : V := .one (.int .u8 (b.toNat : Int))
theorem spec70 (hI : Closed' prog Pm I) {b : UInt8} (hQ : Q [boo (smallB b)] h) : I 70 [u8 b] Q h := by
  refine hI.go _ _ (den70 I _ Q) ?_
  unfold smallB at hQ
  refine ifT_dec (fun h1 => ?_) (fun h1 => ?_)
  · have e : decide (97 ≤ b.toNat) = true := by simp; omega
    rw [e, Bool.true_and] at hQ
    have e2 : decide ((b.toNat : Int) ≤ 122) = decide (b.toNat ≤ 122) := by rw [decide_eq_decide]; omega
    rw [e2]; exact hQ
  · have e : decide (97 ≤ b.toNat) = false := by simp; omega
    rw [e, Bool.false_and] at hQ
    exact hQ
theorem spec73 (hI : Closed' prog Pm I) {b : UInt8} (hQ : Q [boo (digitB b)] h) : I 73 [u8 b] Q h := by
  refine hI.go _ _ (den73 I _ Q) ?_
  unfold digitB at hQ
  refine ifT_dec (fun h1 => ?_) (fun h1 => ?_)
  · have e : decide (48 ≤ b.toNat) = true := by simp; omega
    rw [e, Bool.true_and] at hQ
    have e2 : decide ((b.toNat : Int) ≤ 57) = decide (b.toNat ≤ 57) := by rw [decide_eq_decide]; omega
    rw [e2]; exact hQ
  · have e : decide (48 ≤ b.toNat) = false := by simp; omega
    rw [e, Bool.false_and] at hQ
    exact hQ
theorem spec72 (hI : Closed' prog Pm I) {b : UInt8} (hQ : Q [boo (keyB b)] h) : I 72 [u8 b] Q h := by
  refine hI.go _ _ (den72 I _ Q) ?_
  unfold keyB at hQ
  refine spec70 hI ⟨_, rfl, ifT_intro (fun h1 => ?_) fun h1 => spec73 hI ⟨_, rfl, ifT_intro (fun h2 => ?_) fun h2 => ifT_dec (fun h3 => ?_) fun h3 => ?_⟩⟩
  · rw [h1] at hQ; simpa using hQ
  · rw [h1, h2] at hQ; simpa using hQ
  · have e : decide (b.toNat = 45) = true := by simp; omega
    rw [h1, h2, e] at hQ; simpa using hQ
  · have e : decide (b.toNat = 45) = false := by simp; omega
    rw [h1, h2, e] at hQ
    have e2 : decide ((b.toNat : Int) = 95) = decide (b.toNat = 95) := by rw [decide_eq_decide]; omega
    rw [e2]; simpa using hQ
theorem all_take_step {l : List UInt8} {p : UInt8 → Bool} {i : Nat} {b : UInt8} (hb : l[i]? = some b) : (l.take (i + 1)).all p = ((l.take i).all p && p b) := by
  rw [List.take_add_one, hb]
  show (l.take i ++ [b]).all p = _
  rw [List.all_append]; simp
theorem spec71 (hI : Closed' prog Pm I) {s : ByteArray} (hl : s.size < 1000) (hQ : Q [boo ((bl s).all keyB)] h) : I 71 [str s, .one (.func (some (72, [])))] Q h := by
  refine hI.go _ _ (den71 I s _ Q) ?_
  refine loopK_intro (fun (a : Int) h' m => h' = h ∧ ∃ i : Nat, i ≤ s.size ∧ a = i ∧ m = s.size - i ∧ ((bl s).take i).all keyB = true) s.size ⟨rfl, 0, by omega, rfl, rfl, rfl⟩ ?_
  rintro a h' m ⟨rfl, i, hi, rfl, rfl, hall⟩
  refine ifT_dec (fun hlt => ⟨⟨by omega, hlt⟩, ?_⟩) (fun hge => ?_)
  · have hlt' : i < (bl s).length := by rw [← bl_size]; omega
    have hb := List.getElem?_eq_getElem hlt'
    generalize (bl s)[i] = b at hb
    rw [byteAt_bl hb]
    refine spec72 hI ⟨_, rfl, ifT_intro (fun h1 => ?_) fun h1 => ?_⟩
    · have e : (bl s).all keyB = false := by
        rw [List.all_eq_false]
        exact ⟨b, List.mem_of_getElem? hb, by simpa using h1⟩
      rw [e] at hQ; exact hQ
    · refine ⟨s.size - (i + 1), by omega, rfl, i + 1, by omega, by rw [w64] <;> omega, rfl, ?_⟩
      rw [all_take_step hb, hall]
      simpa using h1
  · have : i = s.size := by omega
    subst this
    rw [bl_size, List.take_length] at hall
    rw [hall] at hQ
    exact hQ
theorem spec37 (hI : Closed' prog Pm I) {s : ByteArray} (hQ : Q [boo (isKey s)] h) : I 37 [str s] Q h := by
  refine hI.go _ _ (den37 I s Q) ?_
  unfold isKey at hQ
  have hsz := bl_size s
  refine spec69 hI ⟨_, rfl, ifT_intro (fun hb => ?_) fun hb => ?_⟩
  · have hb' : 1 ≤ s.size ∧ s.size ≤ 40 := by simp at hb; omega
    cases hl : bl s with
    | nil =>
      rw [hl] at hsz
      have : s.size = 0 := hsz
      omega
    | cons b l =>
      have h0 : (bl s)[0]? = some b := by rw [hl]; rfl
      have e0 := byteAt_bl h0
      rw [hl] at hQ
      have e1 : decide (l.length + 1 ≤ 40) = true := by rw [hl] at hsz; simp at hsz ⊢; omega
      refine ⟨⟨by decide, by omega⟩, ?_⟩
      have e0' : byteAt s 0 = (b.toNat : Int) := e0
      rw [e0']
      simp only [isKeyL, e1, Bool.true_and] at hQ
      refine spec70 hI ⟨_, rfl, ifT_intro (fun h1 => ?_) fun h1 => ?_⟩
      · rw [h1, Bool.true_and, ← hl] at hQ
        exact spec71 hI (by omega) ⟨_, rfl, hQ⟩
      · rw [h1, Bool.false_and] at hQ
        exact hQ
  · have hb' : ¬ (1 ≤ s.size ∧ s.size ≤ 40) := fun h => by
      have : (decide ((1 : Int) ≤ (s.size : Int)) && decide ((s.size : Int) ≤ 40)) = true := by simp; omega
      rw [this] at hb; cases hb
    have e : isKeyL (bl s) = false := by
      cases hl : bl s with
      | nil => rfl
      | cons b l =>
        have : decide (l.length + 1 ≤ 40) = false := by rw [hl] at hsz; simp at hsz ⊢; omega
        simp only [isKeyL, this, Bool.false_and]
    rw [e] at hQ
    exact hQ
/-! ### strings.Trim -/
theorem storeK_whole {i : Nat} {cs ns : List Cell} {k : T} (hi : h i = some (.cells false cs)) (hl : ns.length = cs.length) (hk : k (h.set i (.cells false ns))) : storeK [] i 0 ns k h := by
  have e : updCells cs 0 ns = ns := by
    rw [updCells_eq cs 0 ns (by omega)]
    unfold splice
    simp [hl]
  refine ⟨cs, hi, by omega, ?_⟩
  show k (h.set i (.cells false (updCells cs 0 ns)))
  rw [e]
  exact hk
def smallsS : ByteArray := ⟨#[97, 98, 99, 100, 101, 102, 103, 104, 105, 106, 107, 108, 109, 110, 111, 112, 113, 114, 115, 116, 117, 118, 119, 120, 121, 122]⟩
def keysS : ByteArray := ⟨#[97, 98, 99, 100, 101, 102, 103, 104, 105, 106, 107, 108, 109, 110, 111, 112, 113, 114, 115, 116, 117, 118, 119, 120, 121, 122, 48, 49, 50, 51, 52, 53, 54, 55, 56, 57, 45, 95]⟩
theorem smalls_in : ∀ n : Nat, n < 256 → inC (bl smallsS) n = smallB n.toUInt8 := by decide +kernel
theorem keys_in : ∀ n : Nat, n < 256 → inC (bl keysS) n = keyB n.toUInt8 := by decide +kernel
end
end Go.Proofs.YtdjancoknephnaaDoorVc
-- from SeSpec2
namespace Go.Proofs.YtdjancoknephnaaDoorVc
open Go.Proofs.Tryd (prog)
section
variable {I : Calls} {Q : Post} {h : Heap}
theorem seenS (xs : List Sent) (i : Nat) (s : ByteArray) : (((xs.take i).map (·.id)).any fun y => decide (y = s)) = ((xs.take i).any fun y => decide (y.id = s)) := by
  rw [List.any_map]; rfl
theorem seenG (xs : List Gain) (i : Nat) (s : ByteArray) : (((xs.take i).map (·.id)).any fun y => decide (y = s)) = ((xs.take i).any fun y => decide (y.id = s)) := by
  rw [List.any_map]; rfl
theorem nb {b : Bool} (h : (!b) = true) : b = false := by simpa using h
theorem nb' {b : Bool} (h : (!b) = false) : b = true := by simpa using h
theorem nd {p : Prop} [Decidable p] (h : (!decide p) = true) : ¬ p := by simpa using h
theorem nd' {p : Prop} [Decidable p] (h : (!decide p) = false) : ¬ ¬ p := by simpa using h
/-! ### the answer's -/
theorem any_take_step {α : Type} {l : List α} {p : α → Bool} {i : Nat} {b : α} (hb : l[i]? = some b) : (l.take (i + 1)).any p = ((l.take i).any p || p b) := by
  rw [List.take_add_one, hb]
  show (l.take i ++ [b]).any p = _
  rw [List.any_append]; simp
end
end Go.Proofs.YtdjancoknephnaaDoorVc
-- from SeSpec3
namespace Go.Proofs.YtdjancoknephnaaDoorVc
open Go.Proofs.Tryd (prog)
theorem take_snoc {α : Type} {l : List α} {k : Nat} {x : α} (h : l[k]? = some x) : l.take (k + 1) = l.take k ++ [x] := by rw [List.take_add_one, h]; rfl
section
variable {I : Calls} {Q : Post} {h : Heap}
theorem bef {g : Gain} {w : Int} {x : Sent} (b1 : Bool) : before g w x = b1 → before g w x = b1 := id
/-- What is wrong with what is asked for. -/
def errP (xs : List Sent) (g : Gain) (w : Int) : Int := if errS xs ≠ 0 then errS xs else if errG [g] ≠ 0 then errG [g] else if ¬ (1 ≤ w ∧ w ≤ 4321440) then 1 else 0
theorem one_at {g : Gain} {i : Nat} (hn : h i = none) : At (h.set i (.cells false (gainC g))) 4 ⟨some (i, 0), 1⟩ (rows gainC [g]) := by
  refine ⟨rfl, .inr ?_⟩
  show (h.set i _).read i 0 _ = _
  rw [read_block (set_eq _ _ _) (by simp [gainC])]
  rfl
end
end Go.Proofs.YtdjancoknephnaaDoorVc
-- from SeSpec4
namespace Go.Proofs.YtdjancoknephnaaDoorVc
open Go.Proofs.Tryd (prog)
theorem encode_size (n : Int) : (Utf8.encode n).size ≤ 4 := by
  unfold Utf8.encode
  simp only
  repeat' split
  all_goals first | exact (show (1 : Nat) ≤ 4 by decide) | exact (show (2 : Nat) ≤ 4 by decide) | exact (show (3 : Nat) ≤ 4 by decide) | exact (show (4 : Nat) ≤ 4 by decide)
section
variable {I : Calls} {Q : Post} {h : Heap}
theorem Owns.ne {h0 h : Heap} {p q : Ow} {l : List Ow} {i j : Nat} (o : Owns h0 h (p :: l)) (hq : q ∈ l) (hi : p.2.1.a = some (i, 0)) (hj : q.2.1.a = some (j, 0)) : i ≠ j := fun e => by
  subst e; exact (List.pairwise_cons.1 o.apart).1 q hq i hi hj
theorem lit_atC {h h0 : Heap} {i j n : Nat} {o : Obj} {cs : List Cell} (hne : j ≠ i) (he : h = h0.set j (.cells false cs)) (hn : n = cs.length) : At (h.set i o) 1 ⟨some (j, 0), n⟩ cs := by
  refine ⟨by simp [hn], .inr ?_⟩
  show (h.set i o).read j 0 (n * 1) = _
  unfold Heap.read
  rw [set_ne _ _ hne, he, set_eq]
  subst hn
  simp
theorem spec34 (hI : Closed' prog Pm I) {i : Nat} {l : Sl} {zs : List Int} {t : Nat} {s : Sl} {xs : List ByteArray} (S : Strm h i l zs t) (hs : At (h.set i (strm l (t + 1))) 1 s (strs xs)) (h1 : xs ≠ []) (h2 : xs.length < 1000)
    (hQ : ∀ v ∈ xs, Q [str v] (h.set i (strm l (t + 1)))) : I 34 [.one (.ptr (some (i, 0))), .one (.slice 1 s)] Q h := by
  have hl : s.len = xs.length := by simpa [strs] using hs.1
  have hpos := List.length_pos_iff.2 h1
  refine hI.go _ _ (den34 I (some (i, 0)) s Q) ?_
  refine spec21 hI S (by omega) (by omega) fun v h3 h4 => ⟨v, rfl, ⟨h3, h4⟩, hs.one h3 h4 fun b o c hc hr => ?_⟩
  simp only [strs, List.getElem?_map] at hc
  cases hz : xs[v.toNat]? with
  | none => rw [hz] at hc; cases hc
  | some z =>
    rw [hz] at hc
    cases hc
    exact ⟨z, hr, hQ z (List.mem_of_getElem? hz)⟩
section
variable {hb : Heap} {i : Nat} {l : Sl} {zs : List Int} {t0 : Nat}
/-- A new literal is not the stream's block. -/
theorem Owns.lit_ne {h : Heap} {t j : Nat} {L : List Ow} (o : Owns (hb.del i) h (owS i l t :: L)) (hn : h j = none) : j ≠ i := fun e => by
  subst e; rw [o.strmCell (l := l) (t := t) (by simp)] at hn; cases hn
end
end
end Go.Proofs.YtdjancoknephnaaDoorVc
-- from AcOld2
namespace Go.Proofs.YtdjancoknephnaaDoorVc
open Go.Proofs.Tryd (prog)
 
section
variable {I : Calls} {Q : Post} {h : Heap}
/-! ### the stream -/
/-! ### codes -/
/-! ### looking a string up -/
end
end Go.Proofs.YtdjancoknephnaaDoorVc
-- from CcSpec2
namespace Go.Proofs.YtdjancoknephnaaDoorVc
open Go.Proofs.Tryd (prog)
section
variable {I : Calls} {Q : Post} {h : Heap}
end
end Go.Proofs.YtdjancoknephnaaDoorVc
-- from CcSpec4
namespace Go.Proofs.YtdjancoknephnaaDoorVc
open Go.Proofs.Tryd (prog)
section
variable {I : Calls} {Q : Post} {h : Heap}
end
end Go.Proofs.YtdjancoknephnaaDoorVc
-- from CnSpec
namespace Go.Proofs.YtdjancoknephnaaDoorVc
open Go.Proofs.Tryd (prog)
section
variable {I : Calls} {Q : Post} {h : Heap}
end
end Go.Proofs.YtdjancoknephnaaDoorVc
-- from CsSort
namespace Go.Proofs.YtdjancoknephnaaDoorVc
open Go.Proofs.Tryd (prog)
section
variable {I : Calls} {Q : Post} {h : Heap}
end
end Go.Proofs.YtdjancoknephnaaDoorVc
-- from CsSpec1
namespace Go.Proofs.YtdjancoknephnaaDoorVc
open Go.Proofs.Tryd (prog)
section
variable {I : Calls} {Q : Post} {h : Heap}
/-! ### the stream's block, among one's own -/
end
end Go.Proofs.YtdjancoknephnaaDoorVc
-- from SpSpec1
namespace Go.Proofs.YtdjancoknephnaaDoorVc
open Go.Proofs.Tryd (prog)
section
variable {I : Calls} {Q : Post} {h : Heap}
/-! ### weights -/
end
end Go.Proofs.YtdjancoknephnaaDoorVc
-- from QfSpec3
namespace Go.Proofs.YtdjancoknephnaaDoorVc
open Go.Proofs.Tryd (prog)
section
variable {I : Calls} {Q : Post} {h : Heap}
end
end Go.Proofs.YtdjancoknephnaaDoorVc
-- from SeKey
namespace Go.Proofs.YtdjancoknephnaaDoorVc
open Go.Proofs.Tryd (prog)
section
variable {I : Calls} {Q : Post} {h : Heap}
theorem spec93 (hI : Closed' prog Pm I) {n a b : Int} (hQ : Q [boo (decide (a ≤ n) && decide (n ≤ b))] h) : I 93 [int n, int a, int b] Q h := by
  refine hI.go _ _ (den93 I n a b Q) ?_
  refine ifT_dec (fun h1 => ?_) (fun h1 => ?_)
  · simpa [h1] using hQ
  · simpa [h1] using hQ
/-! ### strings.Trim -/
theorem spec111 (hI : Closed' prog Pm I) {c : ByteArray} (hc : ∀ b ∈ bl c, b.toNat < 128) (hl : c.size < 1000) (hQ : ∀ h', Ext h h' → Q [.agg (setC (inC (bl c))), boo true] h') : I 111 [str c] Q h := by
  refine hI.go _ _ (den111 I c Q) ?_
  refine newK_intro fun i2 h2 hn2 he2 => ?_
  refine loopK_intro (fun (a : Int) h' m => ∃ i : Nat, i ≤ c.size ∧ a = i ∧ m = c.size - i ∧ h' = h.set i2 (.cells false (setC (inC ((bl c).take i))))) c.size ⟨0, by omega, rfl, rfl, by rw [he2]; rw [← setC_none]; rfl⟩ ?_
  rintro a h' m ⟨i, hi, rfl, rfl, rfl⟩
  refine ifT_dec (fun hlt => ⟨⟨by omega, hlt⟩, ?_⟩) (fun hge => ?_)
  · have hlt' : i < (bl c).length := by rw [← bl_size]; omega
    have hb := List.getElem?_eq_getElem hlt'
    have hbm := hc _ (List.getElem_mem hlt')
    generalize (bl c)[i] = b at hb hbm
    rw [byteAt_bl hb]
    refine ifT_dec (fun h1 => by omega) fun h1 => ⟨⟨by omega, by omega⟩, ?_⟩
    rw [Int.toNat_natCast, Nat.mul_one, Nat.zero_add]
    refine storeK_one (set_eq _ _ _) (by rw [setC_length]; omega) ⟨c.size - (i + 1), by omega, i + 1, by omega, by rw [w64] <;> omega, rfl, ?_⟩
    rw [set_set]
    congr 2
    refine setC_set _ _ (by omega) fun n => ?_
    unfold inC
    rw [List.take_add_one, hb]
    show (((bl c).take i) ++ [b]).any _ = _
    rw [List.any_append]
    simp only [List.any_cons, List.any_nil, Bool.or_false]
    rw [Bool.or_comm]
    congr 1
    rw [decide_eq_decide]
    omega
  · have : i = c.size := by omega
    subst this
    rw [bl_size, List.take_length]
    have hr : ∀ h0 : Heap, h0 i2 = some (.cells false (setC (inC (bl c)))) → h0.read i2 0 256 = some (setC (inC (bl c))) := fun h0 hh => by
      rw [read_block hh (by rw [setC_length]; omega), List.drop_zero, List.take_of_length_le (by rw [setC_length]; omega)]
    refine exCells_in (setC_fits (inC (bl c))) ⟨hr _ (set_eq _ _ _), storeK_whole (set_eq _ _ _) rfl ?_⟩
    refine exCells_in (setC_fits (inC (bl c))) ⟨hr _ (set_eq _ _ _), ?_⟩
    rw [set_set]
    exact hQ _ (Ext.new hn2)
theorem spec117 (hI : Closed' prog Pm I) {i : Nat} {S : Nat → Bool} {b : UInt8} (hi : h i = some (.cells false (setC S))) (hQ : Q [boo (S b.toNat)] h) : I 117 [.one (.ptr (some (i, 0))), u8 b] Q h := by
  refine hI.go _ _ (den117 I _ _ Q) ?_
  have hb := b.toNat_lt
  refine derefK_intro rfl ⟨⟨by omega, by omega⟩, S b.toNat, ?_, hQ⟩
  rw [Int.toNat_natCast, Nat.mul_one, Nat.zero_add]
  exact read_cell hi (setC_get _ (by omega))
/-- From the right: what is left ends in a sign that is not of the set. -/
theorem spec113 (hI : Closed' prog Pm I) {i : Nat} {S : Nat → Bool} {s : ByteArray} (hi : h i = some (.cells false (setC S))) (hl : s.size < 1000)
    (hQ : ∀ m, m ≤ s.size → (∀ j b, m ≤ j → (bl s)[j]? = some b → S b.toNat = true) → (∀ b, 0 < m → (bl s)[m - 1]? = some b → S b.toNat = false) → ∀ t, bl t = (bl s).take m → Q [str t] h) : I 113 [str s, .one (.ptr (some (i, 0)))] Q h := by
  refine hI.go _ _ (den113 I s _ Q) ?_
  refine loopK_intro (fun (a : ByteArray) h' m => h' = h ∧ m ≤ s.size ∧ bl a = (bl s).take m ∧ ∀ j b, m ≤ j → (bl s)[j]? = some b → S b.toNat = true) s.size ⟨rfl, by omega, by rw [bl_size, List.take_length], fun j b hj hb => by
    rw [List.getElem?_eq_none (by rw [← bl_size]; omega)] at hb; cases hb⟩ ?_
  rintro a h' m ⟨rfl, hm, ha, hall⟩
  have hsz : a.size = m := by rw [bl_size, ha, List.length_take, ← bl_size]; omega
  refine ifT_dec (fun hlt => ⟨⟨?_, ?_⟩, ?_⟩) (fun hge => ?_)
  · rw [w64] <;> omega
  · rw [w64] <;> omega
  · have hm1 : m - 1 < (bl s).length := by rw [← bl_size]; omega
    have hb := List.getElem?_eq_getElem hm1
    generalize (bl s)[m - 1] = b at hb
    have hb' : (bl a)[m - 1]? = some b := by rw [ha, List.getElem?_take_of_lt (by omega)]; exact hb
    have ew : IntKind.i64.wrap ((a.size : Int) - 1) = ((m - 1 : Nat) : Int) := by rw [w64] <;> omega
    rw [ew, byteAt_bl hb']
    refine spec117 hI hi ⟨_, rfl, ifT_intro (fun h1 => ?_) fun h1 => ⟨⟨by decide, by omega, by omega⟩, m - 1, by omega, rfl, by omega, ?_, fun j b' hj hb2 => ?_⟩⟩
    · exact hQ m hm hall (fun b2 _ hb2 => by rw [hb] at hb2; cases hb2; simpa using h1) a ha
    · rw [bl_extract, ha, Int.toNat_natCast, List.drop_zero, List.take_take]
      congr 1
      omega
    · rcases Nat.lt_or_ge j m with h2 | h2
      · have : j = m - 1 := by omega
        subst this
        rw [hb] at hb2
        cases hb2
        simpa using h1
      · exact hall j b' h2 hb2
  · have : m = 0 := by omega
    subst this
    exact hQ 0 hm hall (fun _ h => by omega) a ha
/-- From the left: nothing is left just where all signs are of the set. -/
theorem spec112 (hI : Closed' prog Pm I) {i : Nat} {S : Nat → Bool} {s : ByteArray} (hi : h i = some (.cells false (setC S))) (hl : s.size < 1000)
    (hQ : ∀ t, (bl t = [] ↔ ∀ b ∈ bl s, S b.toNat = true) → Q [str t] h) : I 112 [str s, .one (.ptr (some (i, 0)))] Q h := by
  refine hI.go _ _ (den112 I s _ Q) ?_
  refine loopK_intro (fun (a : ByteArray) h' m => h' = h ∧ a.size = m ∧ m < 1000 ∧ ((∀ b ∈ bl a, S b.toNat = true) ↔ ∀ b ∈ bl s, S b.toNat = true)) s.size ⟨rfl, rfl, hl, Iff.rfl⟩ ?_
  rintro a h' m ⟨rfl, hm, hm2, hall⟩
  refine ifT_dec (fun hlt => ⟨⟨by decide, by omega⟩, ?_⟩) (fun hge => ?_)
  · cases ha : bl a with
    | nil => rw [bl_size, ha] at hlt; simp at hlt
    | cons b l =>
      have hb : (bl a)[0]? = some b := by rw [ha]; rfl
      have e0 : byteAt a 0 = (b.toNat : Int) := byteAt_bl hb
      rw [e0]
      rw [ha] at hall
      refine spec117 hI hi ⟨_, rfl, ifT_intro (fun h1 => ?_) fun h1 => ⟨⟨by decide, by omega, by omega⟩, m - 1, by omega, rfl, ?_, by omega, ?_⟩⟩
      · have h1' : S b.toNat = false := by simpa using h1
        refine hQ a ⟨fun h => by (rw [ha] at h; cases h), fun h => ?_⟩
        have := hall.2 h b (by simp)
        rw [h1'] at this; cases this
      · rw [bl_size, bl_extract, ha]
        have : (b :: l).length = m := by rw [← ha, ← bl_size]; exact hm
        simp at this ⊢
        omega
      · rw [← hall, bl_extract, ha, Int.toNat_natCast]
        have hl' : (b :: l).length = a.size := by rw [← ha, ← bl_size]
        have e : ((b :: l).drop 1).take (a.size - 1) = l := by
          simp only [List.drop_succ_cons, List.drop_zero]
          exact List.take_of_length_le (by simp at hl'; omega)
        rw [e]
        have h1' : S b.toNat = true := by simpa using h1
        constructor
        · intro h2 b' hb'
          rcases List.mem_cons.1 hb' with rfl | hb'
          · exact h1'
          · exact h2 b' hb'
        · intro h2 b' hb'
          exact h2 b' (by simp [hb'])
  · have h0 : bl a = [] := List.length_eq_zero_iff.1 (by rw [← bl_size]; omega)
    rw [h0] at hall
    exact hQ a ⟨fun _ => hall.1 (by simp), fun _ => h0⟩
theorem spec94 (hI : Closed' prog Pm I) {s c : ByteArray} (hc : ∀ b ∈ bl c, b.toNat < 128) (hcl : c.size < 1000) (hc2 : 2 ≤ c.size) (hs : s.size < 1000) (hs0 : 0 < s.size)
    (hQ : ∀ h', Ext h h' → Q [boo ((bl s).all fun b => inC (bl c) b.toNat)] h') : I 94 [str s, str c] Q h := by
  refine hI.go _ _ (den94 I s c Q) ?_
  refine hI.go _ _ (den104 I s c _) ?_
  have hsn : s ≠ ⟨#[]⟩ := fun e => by rw [e] at hs0; exact absurd hs0 (by decide)
  have hcn : c ≠ ⟨#[]⟩ := fun e => by rw [e] at hc2; exact absurd hc2 (by decide)
  refine joinK_intro (fun (b : Bool) h' => h' = h ∧ b = false) ?_ fun j hj => ifT_dec (fun h => absurd h hsn) fun _ => hj _ _ ⟨rfl, by simpa using hcn⟩
  rintro _ h' ⟨rfl, rfl⟩
  refine ifT_intro (fun h => by cases h) fun _ => ?_
  refine joinK_intro (fun (b : Bool) h'' => h'' = h' ∧ b = false) ?_ fun j hj => ifT_dec (fun h => by omega) fun _ => hj _ _ ⟨rfl, rfl⟩
  rintro _ h'' ⟨rfl, rfl⟩
  refine ifT_intro (fun h => by cases h) fun _ => ?_
  refine spec111 hI hc hcl fun h3 x3 => exCells_in (setC_fits (inC (bl c))) ⟨true, rfl, newK_intro fun i4 h4 hn4 he4 => ?_⟩
  have x4 : Ext h3 h4 := he4 ▸ Ext.new hn4
  refine storeK_whole (cs := List.replicate 256 (.bool false)) (by rw [he4, set_eq]) (by rw [setC_length, List.length_replicate]) ?_
  rw [he4, set_set]
  have x5 : Ext h'' (h3.set i4 (.cells false (setC (inC (bl c))))) := x3.trans (Ext.new hn4)
  have hi := set_eq h3 i4 (.cells false (setC (inC (bl c))))
  refine ifT_intro (fun _ => ?_) fun h => by cases h
  refine spec113 hI hi hs fun m hm hm1 hm2 t ht => ⟨_, rfl, ?_⟩
  refine spec112 hI hi (by rw [bl_size, ht, List.length_take, ← bl_size]; omega) fun r hr => ⟨_, rfl, _, rfl, ?_⟩
  have e : decide (r = (⟨#[]⟩ : ByteArray)) = (bl s).all fun b => inC (bl c) b.toNat := by
    rw [Bool.eq_iff_iff, decide_eq_true_iff, List.all_eq_true, bl_nil, hr]
    constructor
    · intro h1 b hb
      obtain ⟨j, hj, rfl⟩ := List.getElem_of_mem hb
      rcases Nat.lt_or_ge j m with h2 | h2
      · refine h1 _ ?_
        rw [ht]
        exact List.mem_of_getElem? (by rw [List.getElem?_take_of_lt h2]; exact List.getElem?_eq_getElem hj)
      · exact hm1 j _ h2 (List.getElem?_eq_getElem hj)
    · intro h1 b hb
      rw [ht] at hb
      exact h1 b (List.mem_of_mem_take hb)
  show Q [boo (decide (r = (⟨#[]⟩ : ByteArray)))] _
  rw [e]
  exact hQ _ x5
theorem spec41 (hI : Closed' prog Pm I) {s : ByteArray} (hQ : ∀ h', Ext h h' → Q [boo (isKey s)] h') : I 41 [str s] Q h := by
  refine hI.go _ _ (den41 I s Q) ?_
  refine hI.go _ _ (den75 I s _) ?_
  unfold isKey at hQ
  have hsz := bl_size s
  refine spec93 hI ⟨_, rfl, ifT_intro (fun hb => ?_) fun hb => ?_⟩
  · have hb' : 1 ≤ s.size ∧ s.size ≤ 40 := by simp at hb; omega
    cases hl : bl s with
    | nil =>
      rw [hl] at hsz
      have : s.size = 0 := hsz
      omega
    | cons b l =>
      rw [hl] at hQ
      have e1 : decide (l.length + 1 ≤ 40) = true := by rw [hl] at hsz; simp at hsz ⊢; omega
      simp only [isKeyL, e1, Bool.true_and] at hQ
      have eb : b.toNat.toUInt8 = b := by simp
      have hx : bl (s.extract 0 1) = [b] := by rw [bl_extract, hl]; rfl
      refine ⟨⟨by decide, by decide, by omega⟩, ?_⟩
      refine spec94 hI (c := smallsS) (by decide) (by decide) (by decide) (by rw [bl_size, hx]; simp) (by rw [bl_size, hx]; simp) fun h1 x1 => ⟨_, rfl, ?_⟩
      have e2 : ((bl (s.extract 0 1)).all fun b => inC (bl smallsS) b.toNat) = smallB b := by
        rw [hx]
        simp only [List.all_cons, List.all_nil, Bool.and_true]
        rw [smalls_in _ b.toNat_lt, eb]
      rw [e2]
      refine ifT_intro (fun h2 => ?_) fun h2 => ?_
      · refine spec94 hI (c := keysS) (by decide) (by decide) (by decide) (by omega) (by omega) fun h3 x3 => ⟨_, rfl, _, rfl, ?_⟩
        have e3 : ((bl s).all fun b => inC (bl keysS) b.toNat) = (b :: l).all keyB := by
          rw [← hl]
          congr 1
          funext x
          rw [keys_in _ x.toNat_lt]
          simp
        show Q [boo ((bl s).all fun b => inC (bl keysS) b.toNat)] _
        rw [e3]
        rw [h2] at hQ
        simpa using hQ _ (x1.trans x3)
      · rw [h2] at hQ
        exact ⟨_, rfl, by simpa using hQ _ x1⟩
  · have hb' : ¬ (1 ≤ s.size ∧ s.size ≤ 40) := fun h => by
      have : (decide ((1 : Int) ≤ (s.size : Int)) && decide ((s.size : Int) ≤ 40)) = true := by simp; omega
      rw [this] at hb; cases hb
    have e : isKeyL (bl s) = false := by
      cases hl : bl s with
      | nil => rfl
      | cons b l =>
        have : decide (l.length + 1 ≤ 40) = false := by rw [hl] at hsz; simp at hsz ⊢; omega
        simp only [isKeyL, this, Bool.false_and]
    rw [e] at hQ
    exact ⟨_, rfl, hQ _ (Ext.refl _)⟩
end
end Go.Proofs.YtdjancoknephnaaDoorVc
-- from SeSpec2
namespace Go.Proofs.YtdjancoknephnaaDoorVc
open Go.Proofs.Tryd (prog)
section
variable {I : Calls} {Q : Post} {h : Heap}
/-! ### the answer's -/
end
end Go.Proofs.YtdjancoknephnaaDoorVc
-- from SeSpec3
namespace Go.Proofs.YtdjancoknephnaaDoorVc
open Go.Proofs.Tryd (prog)
section
variable {I : Calls} {Q : Post} {h : Heap}
end
end Go.Proofs.YtdjancoknephnaaDoorVc
-- from SeSpec4
namespace Go.Proofs.YtdjancoknephnaaDoorVc
open Go.Proofs.Tryd (prog)
section
variable {I : Calls} {Q : Post} {h : Heap}
section
variable {hb : Heap} {i : Nat} {l : Sl} {zs : List Int} {t0 : Nat}
end
end
end Go.Proofs.YtdjancoknephnaaDoorVc
-- from GaOld2
namespace Go.Proofs.YtdjancoknephnaaDoorVc
open Go.Proofs.Tryd (prog)
section
variable {I : Calls} {Q : Post} {h : Heap}
/-! ### the stream -/
/-! ### codes -/
theorem pow31_le {n : Nat} (h : n ≤ 11) : 31 ^ n ≤ 25408476896404831 := by
  have : 31 ^ n ≤ 31 ^ 11 := Nat.pow_le_pow_right (by decide) h
  exact this
/-! ### looking a string up -/
end
end Go.Proofs.YtdjancoknephnaaDoorVc
-- from CcSpec2
namespace Go.Proofs.YtdjancoknephnaaDoorVc
open Go.Proofs.Tryd (prog)
section
variable {I : Calls} {Q : Post} {h : Heap}
end
end Go.Proofs.YtdjancoknephnaaDoorVc
-- from CcSpec4
namespace Go.Proofs.YtdjancoknephnaaDoorVc
open Go.Proofs.Tryd (prog)
section
variable {I : Calls} {Q : Post} {h : Heap}
end
end Go.Proofs.YtdjancoknephnaaDoorVc
-- from CnSpec
namespace Go.Proofs.YtdjancoknephnaaDoorVc
open Go.Proofs.Tryd (prog)
section
variable {I : Calls} {Q : Post} {h : Heap}
end
end Go.Proofs.YtdjancoknephnaaDoorVc
-- from CsBits
namespace Go.Proofs.YtdjancoknephnaaDoorVc
open Go.Proofs.Tryd (prog)
section
variable {I : Calls} {Q : Post} {h : Heap}
theorem len_idx {x k i L : Nat} (hi : x / 2 ^ k = i) (h1 : i < 2 ^ L) (h2 : 2 ^ L ≤ 2 * i) : x < 2 ^ (k + L) ∧ 2 ^ (k + L) ≤ 2 * x := by
  subst hi
  have p := Nat.two_pow_pos k
  constructor
  · rw [Nat.pow_add, Nat.mul_comm]
    exact (Nat.div_lt_iff_lt_mul p).1 h1
  · rw [Nat.pow_add]
    have h3 : 2 ^ k * 2 ^ L ≤ 2 ^ k * (2 * (x / 2 ^ k)) := Nat.mul_le_mul_left _ h2
    have h4 := Nat.mul_div_le x (2 ^ k)
    rw [Nat.mul_left_comm] at h3
    omega
theorem shrN (a k : Nat) (hk : k ≤ 64) : shr .u64 (a : Int) (k : Int) = ((a / 2 ^ k : Nat) : Int) := shr_nat a k .u64 rfl hk
theorem w8 {a : Nat} (h : a < 256) : IntKind.u8.wrap (a : Int) = (a : Int) := by rw [IntKind.wrap_u8]; omega
end
end Go.Proofs.YtdjancoknephnaaDoorVc
-- from CsSort
namespace Go.Proofs.YtdjancoknephnaaDoorVc
open Go.Proofs.Tryd (prog)
section
variable {I : Calls} {Q : Post} {h : Heap}
/-- What a comparison tells, whatever the row that is sorted holds. -/
def Tells (I : Calls) (h : Heap) (blk : Nat) (g : FuncId) (caps : List (Nat × Nat)) (xs : List Int) (lt : Int → Int → Bool) : Prop :=
  ∀ a b, a ∈ xs → b ∈ xs → ∀ (h' : Heap) (Q' : Post), (∀ j, j ≠ blk → h' j = h j) → (∀ c : Int, (c < 0 ↔ lt a b = true) → Q' [int c] h') → I g (int a :: int b :: caps.map fun a => .one (.ptr (some a))) Q' h'
end
end Go.Proofs.YtdjancoknephnaaDoorVc
-- from CsSpec1
namespace Go.Proofs.YtdjancoknephnaaDoorVc
open Go.Proofs.Tryd (prog)
def unats (l : List Nat) : List Cell := l.map fun n : Nat => .int .u64 (n : Int)
theorem unats_length (l : List Nat) : (unats l).length = l.length := by simp [unats]
theorem unats_get {xs : List Nat} {i n : Nat} (h : xs[i]? = some n) : (unats xs)[i]? = some (.int .u64 (n : Int)) := by unfold unats; rw [List.getElem?_map, h]; rfl
theorem unats_set (xs : List Nat) (i n : Nat) : (unats xs).set i (.int .u64 (n : Int)) = unats (xs.set i n) := by unfold unats; rw [List.map_set]
section
variable {I : Calls} {Q : Post} {h : Heap}
/-! ### the stream's block, among one's own -/
end
end Go.Proofs.YtdjancoknephnaaDoorVc
