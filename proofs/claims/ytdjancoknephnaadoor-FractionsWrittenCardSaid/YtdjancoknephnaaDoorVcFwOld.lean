/- Contracts, turned by a program to the numbers of this seat. -/
import Derived.Test.YtdjancoknephnaaDoorVcFwSpec1
import Derived.Lib.Mul64
import Derived.Test.YtdjancoknephnaaDoorVcKnuth
import Derived.Test.YtdjancoknephnaaDoorVcSortList
import Derived.Test.YtdjancoknephnaaDoorVcLaMath
set_option linter.unusedSimpArgs false
set_option linter.unusedVariables false
-- from BpOld
namespace Go.Proofs.YtdjancoknephnaaDoorVc
open Go.Proofs.Tryd (prog)
/-- A text, so many times. -/
def repS (s : ByteArray) : Nat → ByteArray
  | 0 => ByteArray.empty
  | k + 1 => s ++ repS s k
/-- strings.Repeat. -/
def RepPrim (n : FuncId) : Prim := fun f args Q h => f = n ∧ ∃ (s : ByteArray) (k : Nat), k ≤ 100 ∧ args = [.one (.str s), .one (.int .i64 (k : Int))] ∧ s.size ≤ 100 ∧ ∀ h', Ext h h' → Q [.one (.str (repS s k))] h'
abbrev Pm : Prim := RepPrim 29
abbrev int (n : Int) : V := .one (.int .i64 n)
abbrev u64 (n : Int) : V := .one (.int .u64 n)
abbrev str (s : ByteArray) : V := .one (.str s)
abbrev boo (b : Bool) : V := .one (.bool b)
def ints (zs : List Int) : List Cell := zs.map (.int .i64)
section
variable {I : Calls} {Q : Post} {h : Heap}
/-! ### the stream -/
theorem spec53 (hI : Closed' prog Pm I) {x n : Int} (h1 : 1 ≤ n) (h2 : n < 4611686018427387904) (hQ : ∀ v, 0 ≤ v → v < n → Q [int v] h) : I 53 [int x, int n] Q h := by
  refine hI.go _ _ (den53 I x n Q) ?_
  refine ifT_dec (fun h3 => by omega) (fun h3 => ⟨by omega, ifT_dec (fun h4 => ?_) (fun h4 => ?_)⟩)
  · have h5 := Int.lt_tmod_of_pos x (show 0 < n by omega)
    have h6 : IntKind.i64.wrap (x.tmod n + n) = x.tmod n + n := w64 (by omega) (by omega)
    rw [h6]
    exact hQ _ (by omega) (by omega)
  · exact hQ _ (by omega) (Int.tmod_lt_of_pos x (by omega))
/-- A stream at place i: its numbers, and how many have been asked for. -/
structure Strm (h : Heap) (i : Nat) (l : Sl) (zs : List Int) (t : Nat) : Prop where
  cell : h i = some (.cells false [.slice 1 l, .int .i64 t])
  lies : At h 1 l (ints zs)
  apart : zs = [] ∨ ∀ b o, l.a = some (b, o) → b ≠ i
  small : t < 1000000000
abbrev strm (l : Sl) (t : Nat) : Obj := .cells false [.slice 1 l, .int .i64 t]
theorem Strm.at_ {h h' : Heap} {i : Nat} {l : Sl} {zs : List Int} {t : Nat} (S : Strm h i l zs t) (hf : ∀ j o, j ≠ i → h j = some o → h' j = some o) : At h' 1 l (ints zs) := by
  refine ⟨S.lies.1, ?_⟩
  rcases S.lies.2 with h1 | h1
  · exact .inl h1
  · rcases S.apart with h2 | h2
    · left; rw [h2]; rfl
    · right
      unfold Heap.sl at h1 ⊢
      cases ha : l.a with
      | none => rw [ha] at h1; exact h1
      | some p =>
        obtain ⟨b, o⟩ := p
        rw [ha] at h1
        have hb := h2 b o ha
        unfold Heap.read at h1 ⊢
        simp only at h1 ⊢
        cases hh : h b with
        | none => rw [hh] at h1; cases h1
        | some ob => rw [hf b ob hb hh]; rw [hh] at h1; exact h1
theorem Strm.frame {h h' : Heap} {i : Nat} {l : Sl} {zs : List Int} {t t' : Nat} (S : Strm h i l zs t) (hc : h' i = some (strm l t')) (hf : ∀ j o, j ≠ i → h j = some o → h' j = some o) (ht : t' < 1000000000) : Strm h' i l zs t' :=
  ⟨hc, S.at_ hf, S.apart, ht⟩
theorem Strm.next {h : Heap} {i : Nat} {l : Sl} {zs : List Int} {t : Nat} (S : Strm h i l zs t) (ht : t + 1 < 1000000000) : Strm (h.set i (strm l (t + 1))) i l zs (t + 1) :=
  S.frame (set_eq _ _ _) (fun j o hj hh => by rw [set_ne _ _ hj]; exact hh) ht
theorem Strm.ext {h h' : Heap} {i : Nat} {l : Sl} {zs : List Int} {t : Nat} (S : Strm h i l zs t) (he : Ext h h') : Strm h' i l zs t :=
  S.frame (he _ _ S.cell) (fun j o _ hh => he _ _ hh) S.small
theorem spec21 (hI : Closed' prog Pm I) {i : Nat} {l : Sl} {zs : List Int} {t : Nat} {n : Int} (S : Strm h i l zs t) (h1 : 1 ≤ n) (h2 : n < 4611686018427387904)
    (hQ : ∀ v, 0 ≤ v → v < n → Q [int v] (h.set i (strm l (t + 1)))) : I 21 [.one (.ptr (some (i, 0))), int n] Q h := by
  have ht := S.small
  have hw : IntKind.i64.wrap ((t : Int) + 1) = ((t + 1 : Nat) : Int) := by rw [w64] <;> omega
  have hw2 : IntKind.i64.wrap (((t + 1 : Nat) : Int) - 1) = t := by rw [w64] <;> omega
  have hc' : (h.set i (strm l (t + 1))) i = some (strm l (t + 1)) := set_eq _ _ _
  have S' : At (h.set i (strm l (t + 1))) 1 l (ints zs) := S.at_ fun j o hj hh => by rw [set_ne _ _ hj]; exact hh
  have r0 : ∀ {o : Nat}, o = 0 → (h.set i (strm l (t + 1))).read i o 1 = some [.slice 1 l] := fun e => by subst e; exact read_cell hc' rfl
  have r1 : ∀ {o : Nat}, o = 1 → (h.set i (strm l (t + 1))).read i o 1 = some [.int .i64 ((t + 1 : Nat) : Int)] := fun e => by subst e; exact read_cell hc' rfl
  refine hI.go _ _ (den21 I (some (i, 0)) n Q) ?_
  refine derefK_intro rfl ⟨t, read_cell S.cell rfl, derefK_intro rfl (storeK_one S.cell (by simp) ?_)⟩
  rw [hw]
  show derefK _ _ (h.set i (strm l (t + 1)))
  refine derefK_intro rfl ⟨l, r0 rfl, ifT_dec (fun h3 => ?_) (fun h3 => ?_)⟩
  · refine derefK_intro rfl ⟨_, r1 rfl, spec53 hI h1 h2 fun v h4 h5 => ⟨v, rfl, hQ v h4 h5⟩⟩
  · have hp : 0 < (l.len : Int) := by omega
    have hm := Int.tmod_lt_of_pos (t : Int) hp
    have hm0 : 0 ≤ (t : Int).tmod l.len := Int.tmod_nonneg _ (by omega)
    refine derefK_intro rfl ⟨_, r1 rfl, derefK_intro rfl ⟨l, r0 rfl, h3, derefK_intro rfl ⟨_, r1 rfl, derefK_intro rfl ⟨l, r0 rfl, h3, derefK_intro rfl ⟨l, r0 rfl, ?_⟩⟩⟩⟩⟩
    rw [hw2]
    refine ⟨⟨hm0, hm⟩, S'.one hm0 hm fun b o c hc hr => ?_⟩
    simp only [ints, List.getElem?_map] at hc
    cases hz : zs[((t : Int).tmod l.len).toNat]? with
    | none => rw [hz] at hc; cases hc
    | some z =>
      rw [hz] at hc
      cases hc
      exact ⟨z, hr, spec53 hI (by decide) (by decide) fun w _ _ => ⟨w, rfl, spec53 hI h1 h2 fun v h4 h5 => ⟨v, rfl, hQ v h4 h5⟩⟩⟩
/-- One of some numbers. -/
theorem spec33 (hI : Closed' prog Pm I) {i : Nat} {l : Sl} {zs : List Int} {t : Nat} {s : Sl} {xs : List Int} (S : Strm h i l zs t) (hs : At (h.set i (strm l (t + 1))) 1 s (ints xs)) (h1 : xs ≠ []) (h2 : xs.length < 1000)
    (hQ : ∀ v ∈ xs, Q [int v] (h.set i (strm l (t + 1)))) : I 33 [.one (.ptr (some (i, 0))), .one (.slice 1 s)] Q h := by
  have hl : s.len = xs.length := by simpa [ints] using hs.1
  have hpos := List.length_pos_iff.2 h1
  refine hI.go _ _ (den33 I (some (i, 0)) s Q) ?_
  refine spec21 hI S (by omega) (by omega) fun v h3 h4 => ⟨v, rfl, ⟨h3, h4⟩, hs.one h3 h4 fun b o c hc hr => ?_⟩
  simp only [ints, List.getElem?_map] at hc
  cases hz : xs[v.toNat]? with
  | none => rw [hz] at hc; cases hc
  | some z =>
    rw [hz] at hc
    cases hc
    exact ⟨z, hr, hQ z (List.mem_of_getElem? hz)⟩
/-! ### codes -/
/-! ### looking a string up -/
def strs (l : List ByteArray) : List Cell := l.map .str
end
end Go.Proofs.YtdjancoknephnaaDoorVc
-- from CcSpec2
namespace Go.Proofs.YtdjancoknephnaaDoorVc
open Go.Proofs.Tryd (prog)
section
variable {I : Calls} {Q : Post} {h : Heap}
theorem shr32 (a : Nat) : shr .u64 (a : Int) 32 = ((a / 4294967296 : Nat) : Int) := shr_nat a 32 .u64 rfl (by decide)
theorem mask32 (a : Nat) (ha : a < 18446744073709551616) : IntKind.u64.wrap ((BitVec.ofInt 64 (a : Int) &&& BitVec.ofInt 64 4294967295).toNat : Int) = ((a % 4294967296 : Nat) : Int) := and_mask a ha
theorem wN (a : Nat) (ha : a < 18446744073709551616) : IntKind.u64.wrap (a : Int) = (a : Int) := wu64 (by omega) (by omega)
theorem wM (a : Nat) : IntKind.u64.wrap (a : Int) = ((a % 18446744073709551616 : Nat) : Int) := by rw [IntKind.wrap_u64]; omega
theorem mN (a b : Nat) : (a : Int) * (b : Int) = ((a * b : Nat) : Int) := (Int.natCast_mul a b).symm
theorem aN (a b : Nat) : (a : Int) + (b : Int) = ((a + b : Nat) : Int) := (Int.natCast_add a b).symm
theorem div_start {U Y : Nat} (hU : U < 18446744073709551616) : IntKind.u64.wrap ((U : Int).tdiv (Y : Int)) = ((U / Y : Nat) : Int) ∧ IntKind.u64.wrap ((U : Int) - IntKind.u64.wrap (((U / Y : Nat) : Int) * (Y : Int))) = ((U % Y : Nat) : Int) := by
  have h1 : U / Y ≤ U := Nat.div_le_self _ _
  have h2 := Nat.div_add_mod U Y
  rw [Nat.mul_comm] at h2
  constructor
  · rw [← Int.ofNat_tdiv, wN _ (by omega)]
  · rw [mN]
    generalize U / Y * Y = z at *
    rw [wN _ (by omega), wu64 (by omega) (by omega)]
    omega
end
end Go.Proofs.YtdjancoknephnaaDoorVc
-- from CcSpec4
namespace Go.Proofs.YtdjancoknephnaaDoorVc
open Go.Proofs.Tryd (prog)
section
variable {I : Calls} {Q : Post} {h : Heap}
theorem full_ok {ds gs : List Nat} {n x : Nat} (hds : ∀ d ∈ ds, d < 31) (hg : ∀ d ∈ gs, d < 31) (hx : x < 31) : ∀ d ∈ ds ++ gs ++ [x], d < 31 := fun d hd => by
  rcases List.mem_append.1 hd with hd | hd
  · rcases List.mem_append.1 hd with hd | hd
    · exact hds d hd
    · exact hg d hd
  · have : d = x := by simpa using hd
    omega
theorem Strm.make {h : Heap} {i : Nat} {l : Sl} {zs : List Int} (hs : At h 1 l (ints zs)) (hi : h i = none) : Strm (h.set i (strm l 0)) i l zs 0 := by
  refine ⟨set_eq _ _ _, (Ext.new hi).at_ hs, ?_, by decide⟩
  rcases hs.2 with h1 | h1
  · left; simpa [ints] using h1
  · right
    rintro b o ha rfl
    unfold Heap.sl at h1
    rw [ha] at h1
    simp only [Heap.read, hi] at h1
    cases h1
end
end Go.Proofs.YtdjancoknephnaaDoorVc
-- from CnSpec
namespace Go.Proofs.YtdjancoknephnaaDoorVc
open Go.Proofs.Tryd (prog)
section
variable {I : Calls} {Q : Post} {h : Heap}
theorem spec17 (hI : Closed' prog Pm I) {i : Nat} {l : Sl} {zs : List Int} {t : Nat} {n : Int} (S : Strm h i l zs t) (h1 : 1 ≤ n) (h2 : n < 4611686018427387904)
    (hQ : ∀ b, Q [boo b] (h.set i (strm l (t + 1)))) : I 17 [.one (.ptr (some (i, 0))), int n] Q h := by
  refine hI.go _ _ (den17 I (some (i, 0)) n Q) ?_
  exact spec21 hI S h1 h2 fun v _ _ => ⟨v, rfl, hQ _⟩
theorem extract_le (s : ByteArray) (a b : Nat) : (s.extract a b).size ≤ s.size := by
  rw [ByteArray.size_extract]; omega
theorem nonempty_size {s : ByteArray} (h : s ≠ ⟨#[]⟩) : 0 < s.size := by
  rcases Nat.eq_zero_or_pos s.size with h1 | h1
  · exfalso
    apply h
    obtain ⟨⟨l⟩⟩ := s
    cases l with
    | nil => rfl
    | cons x l => simp [ByteArray.size] at h1
  · exact h1
end
end Go.Proofs.YtdjancoknephnaaDoorVc
-- from PuSpec
namespace Go.Proofs.YtdjancoknephnaaDoorVc
open Go.Proofs.Tryd (prog)
theorem strs_length (l : List ByteArray) : (strs l).length = l.length := by simp [strs]
theorem strs_get {xs : List ByteArray} {i : Nat} {x : ByteArray} (h : xs[i]? = some x) : (strs xs)[i]? = some (.str x) := by unfold strs; rw [List.getElem?_map, h]; rfl
/-! ### open and committed -/
section
variable {I : Calls} {Q : Post} {h : Heap}
theorem spec6 (hI : Closed' prog Pm I) {i : Nat} {l : Sl} {zs : List Int} {t : Nat} {a b : Int} (S : Strm h i l zs t) (h1 : a ≤ b) (h2 : -1000000000 < a) (h3 : b < 1000000000)
    (hQ : ∀ v, a ≤ v → v ≤ b → Q [int v] (h.set i (strm l (t + 1)))) : I 6 [.one (.ptr (some (i, 0))), int a, int b] Q h := by
  refine hI.go _ _ (den6 I _ a b Q) ?_
  refine ifT_dec (fun h => by omega) fun _ => ?_
  have ew : IntKind.i64.wrap (IntKind.i64.wrap (b - a) + 1) = b - a + 1 := by rw [w64 (n := b - a) (by omega) (by omega), w64 (by omega) (by omega)]
  rw [ew]
  refine spec21 hI S (by omega) (by omega) fun v h4 h5 => ⟨v, rfl, ?_⟩
  rw [w64 (by omega) (by omega)]
  exact hQ _ (by omega) (by omega)
section
variable {hb : Heap} {i : Nat} {l : Sl} {zs : List Int} {t0 : Nat}
end
theorem pick_at : ∀ v ∈ ([0, 0, 5, 60, 1440] : List Int), 0 ≤ v ∧ v ≤ 1440 := by decide
theorem pick_cents : ∀ v ∈ ([1, 50, 100, 400] : List Int), 1 ≤ v ∧ v ≤ 400 := by decide
theorem pick_long : ∀ v ∈ ([1, 5, 60, 2000] : List Int), 1 ≤ v ∧ v ≤ 2000 := by decide
end
end Go.Proofs.YtdjancoknephnaaDoorVc
-- from CcSpec2
namespace Go.Proofs.YtdjancoknephnaaDoorVc
open Go.Proofs.Tryd (prog)
section
variable {I : Calls} {Q : Post} {h : Heap}
theorem spec26 (hI : Closed' prog Pm I) {x y : Nat} (hx : x < 18446744073709551616) (hy : y < 18446744073709551616)
    (hQ : Q [u64 ((x * y / 18446744073709551616 : Nat) : Int), u64 ((x * y % 18446744073709551616 : Nat) : Int)] h) : I 26 [u64 x, u64 y] Q h := by
  refine hI.go _ _ (den26 I x y Q) ?_
  obtain ⟨bd, bt, bw, hhi⟩ := Lib.mul64_hi x y hx hy
  have ba := Lib.half_mul_le (a := x / 4294967296) (b := y / 4294967296) (by omega) (by omega)
  have bb := Lib.half_mul_le (a := x / 4294967296) (b := y % 4294967296) (by omega) (by omega)
  have bc := Lib.half_mul_le (a := x % 4294967296) (b := y / 4294967296) (by omega) (by omega)
  have ba' : x / 4294967296 * (y / 4294967296) < 18446744073709551616 := by omega
  have bb' : x / 4294967296 * (y % 4294967296) < 18446744073709551616 := by omega
  have bc' : x % 4294967296 * (y / 4294967296) < 18446744073709551616 := by omega
  have bh1 : x / 4294967296 * (y / 4294967296) + (x / 4294967296 * (y % 4294967296) + x % 4294967296 * (y % 4294967296) / 4294967296) / 4294967296 < 18446744073709551616 := by omega
  have bh : x / 4294967296 * (y / 4294967296) + (x / 4294967296 * (y % 4294967296) + x % 4294967296 * (y % 4294967296) / 4294967296) / 4294967296 + ((x / 4294967296 * (y % 4294967296) + x % 4294967296 * (y % 4294967296) / 4294967296) % 4294967296 + x % 4294967296 * (y / 4294967296)) / 4294967296 < 18446744073709551616 := by omega
  unfold vc26
  simp only [mask32 x hx, mask32 y hy, shr32, mN, aN, wN _ bd, wN _ bb', wN _ bt, mask32 _ bt, wN _ bc', wN _ bw, wN _ ba', wN _ bh1, wN _ bh, wM (x * y)]
  rw [hhi]
  exact hQ
/-- The remainder, where the leading zeros of the divisor are known. -/
theorem spec27 (hI : Closed' prog Pm I) {hi lo y s : Nat} (h1 : hi < y) (hlo : lo < 18446744073709551616) (hs : s < 64) (hs1 : 9223372036854775808 ≤ y * 2 ^ s) (hs2 : y * 2 ^ s < 18446744073709551616)
    (hlz : ∀ Q' h', Q' [int s] h' → I 57 [u64 y] Q' h') (hQ : Q [u64 (((hi * 18446744073709551616 + lo) / y : Nat) : Int), u64 (((hi * 18446744073709551616 + lo) % y : Nat) : Int)] h) : I 27 [u64 hi, u64 lo, u64 y] Q h := by
  refine hI.go _ _ (den27 I hi lo y Q) ?_
  have hy64 : y < 18446744073709551616 := by
    have : y * 1 ≤ y * 2 ^ s := Nat.mul_le_mul_left _ (Nat.one_le_two_pow)
    omega
  refine joinK_intro (fun _ h' => h' = h) ?_ (fun j hj => ifT_dec (fun h2 => by omega) fun _ => hj _ _ rfl)
  rintro _ h' rfl
  refine joinK_intro (fun _ h'' => h'' = h') ?_ (fun j hj => ifT_dec (fun h2 => by omega) fun _ => hj _ _ rfl)
  rintro _ h rfl
  refine ifT_dec (fun h2 => ?_) (fun h2 => ?_)
  · have e : (lo : Int).tmod (y : Int) = (((hi * 18446744073709551616 + lo) % y : Nat) : Int) := by
      have : hi = 0 := by omega
      subst this
      rw [← Int.ofNat_tmod]
      simp
    have e2 : IntKind.u64.wrap ((lo : Int).tdiv (y : Int)) = (((hi * 18446744073709551616 + lo) / y : Nat) : Int) := by
      have : hi = 0 := by omega
      subst this
      have hle : lo / y ≤ lo := Nat.div_le_self _ _
      rw [← Int.ofNat_tdiv, wN _ (by omega)]
      simp
    refine ⟨by omega, by omega, ?_⟩
    rw [e, e2]
    exact hQ
  · refine hlz _ _ ⟨_, rfl, ?_⟩
    have p0 := Nat.two_pow_pos s
    have e_s : IntKind.u64.wrap (s : Int) = (s : Int) := wN _ (by omega)
    have e_64 : IntKind.u64.wrap (64 - (s : Int)) = ((64 - s : Nat) : Int) := by rw [wu64 (by omega) (by omega)]; omega
    have hhi : hi * 2 ^ s + 2 ^ s ≤ y * 2 ^ s := by
      have : (hi + 1) * 2 ^ s ≤ y * 2 ^ s := Nat.mul_le_mul_right _ h1
      rw [Nat.add_mul] at this
      omega
    have e_y : shl .u64 (y : Int) (s : Int) = ((y * 2 ^ s : Nat) : Int) := by rw [shl_nat _ _ (by omega), Nat.mod_eq_of_lt hs2]
    have e_hi : shl .u64 (hi : Int) (s : Int) = ((hi * 2 ^ s : Nat) : Int) := by rw [shl_nat _ _ (by omega), Nat.mod_eq_of_lt (by omega)]
    have e_lo : shl .u64 (lo : Int) (s : Int) = ((lo * 2 ^ s % 18446744073709551616 : Nat) : Int) := shl_nat _ _ (by omega)
    have e_sr : shr .u64 (lo : Int) ((64 - s : Nat) : Int) = ((lo / 2 ^ (64 - s) : Nat) : Int) := shr_nat _ _ _ rfl (by omega)
    have hlow : lo / 2 ^ (64 - s) < 2 ^ s := by
      rw [Nat.div_lt_iff_lt_mul (Nat.two_pow_pos _), ← Nat.pow_add, show s + (64 - s) = 64 by omega]
      exact hlo
    have e_U : IntKind.u64.wrap ((BitVec.ofInt 64 ((hi * 2 ^ s : Nat) : Int) ||| BitVec.ofInt 64 ((lo / 2 ^ (64 - s) : Nat) : Int)).toNat : Int) = ((hi * 2 ^ s + lo / 2 ^ (64 - s) : Nat) : Int) :=
      or_parts hi (lo / 2 ^ (64 - s)) s hlow (by omega) (by omega) (by omega)
    have hfin := YtdjancoknephnaaDoorKnuth.parts hi lo s (by omega)
    have hsh := YtdjancoknephnaaDoorKnuth.shifted (hi * 18446744073709551616 + lo) y (2 ^ s) p0
    simp only [e_s, e_64, e_y, e_hi, e_lo, e_sr, e_U, shr32, mask32 _ hs2, mask32 _ (Nat.mod_lt _ (show 0 < 18446744073709551616 by decide))]
    have hUY : hi * 2 ^ s + lo / 2 ^ (64 - s) < y * 2 ^ s := by omega
    generalize hU' : hi * 2 ^ s + lo / 2 ^ (64 - s) = U at *
    generalize hL' : lo * 2 ^ s % 18446744073709551616 = L at *
    have hL : L < 18446744073709551616 := by rw [← hL']; exact Nat.mod_lt _ (by decide)
    have hpow : ∀ x : Nat, shr .u64 (x : Int) (s : Int) = ((x / 2 ^ s : Nat) : Int) := fun x => shr_nat _ _ _ rfl (by omega)
    have hsd : ∀ x, x = (hi * 18446744073709551616 + lo) * 2 ^ s % (y * 2 ^ s) → x / 2 ^ s = (hi * 18446744073709551616 + lo) % y := fun x hx => by rw [hx, hsh]
    have hqd : ∀ x, x = (hi * 18446744073709551616 + lo) * 2 ^ s / (y * 2 ^ s) → x = (hi * 18446744073709551616 + lo) / y := fun x hx => by rw [hx, Nat.mul_div_mul_right _ _ p0]
    rw [← hfin] at hsd hqd
    clear hsh hfin e_U e_sr e_lo e_hi e_y hlow hU' hL' hhi
    generalize y * 2 ^ s = Y at *
    obtain ⟨R, hR⟩ : ∃ R, (hi * 18446744073709551616 + lo) % y = R := ⟨_, rfl⟩
    obtain ⟨QN, hQN⟩ : ∃ QN, (hi * 18446744073709551616 + lo) / y = QN := ⟨_, rfl⟩
    simp only [hR] at hsd hQ
    simp only [hQN] at hqd hQ
    obtain ⟨Y1, hY1⟩ : ∃ Y1, Y / 4294967296 = Y1 := ⟨_, rfl⟩
    obtain ⟨Y0, hY0⟩ : ∃ Y0, Y % 4294967296 = Y0 := ⟨_, rfl⟩
    obtain ⟨L1, hL1⟩ : ∃ L1, L / 4294967296 = L1 := ⟨_, rfl⟩
    obtain ⟨L0, hL0⟩ : ∃ L0, L % 4294967296 = L0 := ⟨_, rfl⟩
    have hYe : Y = Y1 * 4294967296 + Y0 := by omega
    have b1 : Y1 < 4294967296 := by omega
    have b2 : 2147483648 ≤ Y1 := by omega
    have b3 : Y0 < 4294967296 := by omega
    have b4 : L1 < 4294967296 := by omega
    have b5 : L0 < 4294967296 := by omega
    rw [hY1, hY0, hL1, hL0]
    rw [hL1, hL0] at hsd hqd
    -- the words of a round
    have wr : ∀ r : Nat, r < 4294967296 → IntKind.u64.wrap ((r : Int) + (Y1 : Int)) = ((r + Y1 : Nat) : Int) := fun r hr => by rw [aN, wN _ (by omega)]
    have wq : ∀ q : Nat, 1 ≤ q → q ≤ 4294967297 → IntKind.u64.wrap ((q : Int) - 1) = ((q - 1 : Nat) : Int) := fun q h3 h4 => by rw [wu64 (by omega) (by omega)]; omega
    have wm : ∀ q : Nat, q < 4294967296 → IntKind.u64.wrap ((q : Int) * (Y0 : Int)) = ((q * Y0 : Nat) : Int) := fun q hq => by
      have : q * Y0 ≤ 4294967295 * 4294967295 := Nat.mul_le_mul (by omega) (by omega)
      rw [mN, wN _ (by omega)]
    have wl : ∀ (r u : Nat), r < 4294967296 → u < 4294967296 → IntKind.u64.wrap (IntKind.u64.wrap (4294967296 * (r : Int)) + (u : Int)) = ((4294967296 * r + u : Nat) : Int) := fun r u hr hu => by
      rw [wu64 (n := 4294967296 * (r : Int)) (by omega) (by omega), wu64 (by omega) (by omega)]; omega
    have hne : ((Y1 : Nat) : Int) ≠ 0 := by omega
    refine ⟨by omega, by omega, by omega, by omega, hne, ?_⟩
    have e_rest : ∀ (U u : Nat), IntKind.u64.wrap (IntKind.u64.wrap (IntKind.u64.wrap ((U : Int) * 4294967296) + (u : Int)) - IntKind.u64.wrap (((((U * 4294967296 + u) / Y : Nat)) : Int) * (Y : Int))) = (((U * 4294967296 + u) % Y : Nat) : Int) := fun U u => by
      rw [IntKind.wrap_u64, IntKind.wrap_u64, IntKind.wrap_u64, IntKind.wrap_u64]
      exact YtdjancoknephnaaDoorKnuth.rest U u Y (by omega) (by omega)
    refine joinK_intro (fun (q : Int) h' => h' = h ∧ q = (((U * 4294967296 + L1) / Y : Nat) : Int)) ?_ ?_
    · rintro q h' ⟨rfl, rfl⟩
      refine ⟨hne, ?_⟩
      rw [e_rest]
      have hV : (U * 4294967296 + L1) % Y < Y := Nat.mod_lt _ (by omega)
      have hW : ((U * 4294967296 + L1) % Y * 4294967296 + L0) % Y = (U * (4294967296 * 4294967296) + L1 * 4294967296 + L0) % Y := YtdjancoknephnaaDoorKnuth.two _ _ _ _ _
      have hd := hsd _ hW
      obtain ⟨V, hVe⟩ : ∃ V, (U * 4294967296 + L1) % Y = V := ⟨_, rfl⟩
      rw [hVe] at hV hW hd ⊢
      obtain ⟨e1, e2⟩ := div_start (U := V) (Y := Y1) (by omega)
      rw [e1, e2]
      have fin : ∀ q : Nat, q = (V * 4294967296 + L0) / Y → Q [u64 (IntKind.u64.wrap (IntKind.u64.wrap ((((U * 4294967296 + L1) / Y : Nat) : Int) * 4294967296) + (q : Int))), u64 (shr .u64 (IntKind.u64.wrap (IntKind.u64.wrap (IntKind.u64.wrap ((V : Int) * 4294967296) + (L0 : Int)) - IntKind.u64.wrap ((q : Int) * (Y : Int)))) (s : Int))] h' := fun q hq => by
        have hq1 : (U * 4294967296 + L1) / Y < 4294967296 := by
          rw [Nat.div_lt_iff_lt_mul (by omega), Nat.mul_comm]
          omega
        have hq2 : q < 4294967296 := by
          rw [hq, Nat.div_lt_iff_lt_mul (by omega), Nat.mul_comm]
          omega
        have hqq := hqd _ (by rw [YtdjancoknephnaaDoorKnuth.twoq 4294967296 U L1 L0 Y (by omega), hVe, ← hq])
        have hr := e_rest V L0
        rw [← hq] at hr
        rw [hr, hpow, hd]
        obtain ⟨x1, hx1⟩ : ∃ x1, (U * 4294967296 + L1) / Y = x1 := ⟨_, rfl⟩
        rw [hx1] at hq1 hqq ⊢
        have ew : IntKind.u64.wrap (IntKind.u64.wrap ((x1 : Int) * 4294967296) + (q : Int)) = (QN : Int) := by
          rw [← hqq, wu64 (n := (x1 : Int) * 4294967296) (by omega) (by omega), wu64 (by omega) (by omega)]
          omega
        rw [ew]
        exact hQ
      obtain ⟨QQ, hQQ⟩ : ∃ QQ, (V * 4294967296 + L0) / Y = QQ := ⟨_, rfl⟩
      simp only [hQQ] at fin
      rw [hYe] at hQQ hV
      refine loopK_intro (fun (a : Int × Int) h'' m => h'' = h' ∧ ∃ q r : Nat, a = ((r : Int), (q : Int)) ∧ q * Y1 + r = V ∧ r < 4294967296 ∧ QQ ≤ q ∧ q ≤ 4294967296 + 1 ∧ q = m) (V / Y1)
        ⟨rfl, V / Y1, V % Y1, rfl, by rw [Nat.mul_comm]; exact Nat.div_add_mod V Y1, by have := Nat.mod_lt V (show 0 < Y1 by omega); omega, ?_, YtdjancoknephnaaDoorKnuth.first hV (by omega) b3, rfl⟩ ?_
      · rw [← hQQ]
        have : (V * 4294967296 + L0) / (Y1 * 4294967296 + Y0) ≤ V / Y1 := by
          rw [Nat.le_div_iff_mul_le (by omega), Nat.le_iff_lt_or_eq]
          have h3 := Nat.div_mul_le_self (V * 4294967296 + L0) (Y1 * 4294967296 + Y0)
          generalize (V * 4294967296 + L0) / (Y1 * 4294967296 + Y0) = z at h3 ⊢
          rw [Nat.mul_add, ← Nat.mul_assoc] at h3
          generalize z * Y1 = w at h3 ⊢
          generalize z * Y0 = w0 at h3
          omega
        exact this
      · rintro a h'' m ⟨rfl, q, r, rfl, i1, i2, i3, i4, rfl⟩
        dsimp only [uncur]
        have step : (4294967296 ≤ q ∨ 4294967296 * r + L0 < q * Y0) → ∀ {x y : T}, (1 ≤ q → q - 1 = QQ → x h'') → (1 ≤ q → (q - 1) * Y1 + (r + Y1) = V → QQ ≤ q - 1 → q - 1 ≤ 4294967296 → r + Y1 < 4294967296 → y h'') →
            ifT (decide (IntKind.u64.wrap ((r : Int) + (Y1 : Int)) ≥ 4294967296)) x y h'' := fun hc x y hx hy => by
          obtain ⟨s1, s2, s3, s4, s5⟩ := YtdjancoknephnaaDoorKnuth.round hQQ.symm (by omega) hV b5 b3 i1 i4 hc
          rw [wr _ i2]
          exact ifT_dec (fun h3 => hx s1 (s5 (by omega))) fun h3 => hy s1 s2 s3 s4 (by omega)
        have sub1 := wq q
        refine ifT_dec (fun h3 => step (.inl (by omega)) (fun s1 s5 => ?xa) (fun s1 s2 s3 s4 s6 => ?ya)) (fun h3 => ?za)
        case xa =>
          rw [sub1 s1 (by omega)]
          exact ⟨by omega, fin _ s5⟩
        case ya =>
          rw [sub1 s1 (by omega), wr _ i2]
          exact ⟨q - 1, by omega, rfl, q - 1, r + Y1, rfl, s2, s6, s3, by omega, rfl⟩
        rw [wm q (by omega), wl r L0 i2 b5]
        refine ifT_dec (fun h4 => step (.inr (by omega)) (fun s1 s5 => ?xb) (fun s1 s2 s3 s4 s6 => ?yb)) (fun h4 => ⟨by omega, ?zb⟩)
        case zb => exact fin q (YtdjancoknephnaaDoorKnuth.stop hQQ.symm (by omega) i1 i3 (by omega))
        case xb =>
          rw [sub1 s1 (by omega)]
          exact ⟨by omega, fin _ s5⟩
        case yb =>
          rw [sub1 s1 (by omega), wr _ i2]
          exact ⟨q - 1, by omega, rfl, q - 1, r + Y1, rfl, s2, s6, s3, by omega, rfl⟩
    · intro j hj
      obtain ⟨e1, e2⟩ := div_start (U := U) (Y := Y1) (by omega)
      rw [e1, e2]
      obtain ⟨QQ, hQQ⟩ : ∃ QQ, (U * 4294967296 + L1) / Y = QQ := ⟨_, rfl⟩
      simp only [hQQ] at hj
      rw [hYe] at hQQ hUY
      refine loopK_intro (fun (a : Int × Int) h'' m => h'' = h ∧ ∃ q r : Nat, a = ((q : Int), (r : Int)) ∧ q * Y1 + r = U ∧ r < 4294967296 ∧ QQ ≤ q ∧ q ≤ 4294967296 + 1 ∧ q = m) (U / Y1)
        ⟨rfl, U / Y1, U % Y1, rfl, by rw [Nat.mul_comm]; exact Nat.div_add_mod U Y1, by have := Nat.mod_lt U (show 0 < Y1 by omega); omega, ?_, YtdjancoknephnaaDoorKnuth.first hUY (by omega) b3, rfl⟩ ?_
      · rw [← hQQ, Nat.le_div_iff_mul_le (by omega)]
        have h3 := Nat.div_mul_le_self (U * 4294967296 + L1) (Y1 * 4294967296 + Y0)
        generalize (U * 4294967296 + L1) / (Y1 * 4294967296 + Y0) = z at h3 ⊢
        rw [Nat.mul_add, ← Nat.mul_assoc] at h3
        generalize z * Y1 = w at h3 ⊢
        generalize z * Y0 = w0 at h3
        omega
      · rintro a h'' m ⟨rfl, q, r, rfl, i1, i2, i3, i4, rfl⟩
        dsimp only [uncur]
        have step : (4294967296 ≤ q ∨ 4294967296 * r + L1 < q * Y0) → ∀ {x y : T}, (1 ≤ q → q - 1 = QQ → x h'') → (1 ≤ q → (q - 1) * Y1 + (r + Y1) = U → QQ ≤ q - 1 → q - 1 ≤ 4294967296 → r + Y1 < 4294967296 → y h'') →
            ifT (decide (IntKind.u64.wrap ((r : Int) + (Y1 : Int)) ≥ 4294967296)) x y h'' := fun hc x y hx hy => by
          obtain ⟨s1, s2, s3, s4, s5⟩ := YtdjancoknephnaaDoorKnuth.round hQQ.symm (by omega) hUY b4 b3 i1 i4 hc
          rw [wr _ i2]
          exact ifT_dec (fun h3 => hx s1 (s5 (by omega))) fun h3 => hy s1 s2 s3 s4 (by omega)
        have sub1 := wq q
        refine ifT_dec (fun h3 => step (.inl (by omega)) (fun s1 s5 => ?xc) (fun s1 s2 s3 s4 s6 => ?yc)) (fun h3 => ?zc)
        case xc =>
          rw [sub1 s1 (by omega)]
          exact hj _ _ ⟨rfl, by rw [s5]⟩
        case yc =>
          rw [sub1 s1 (by omega), wr _ i2]
          exact ⟨q - 1, by omega, rfl, q - 1, r + Y1, rfl, s2, s6, s3, by omega, rfl⟩
        rw [wm q (by omega), wl r L1 i2 b4]
        refine ifT_dec (fun h4 => step (.inr (by omega)) (fun s1 s5 => ?xd) (fun s1 s2 s3 s4 s6 => ?yd)) (fun h4 => ?zd)
        case zd => exact hj _ _ ⟨rfl, by rw [YtdjancoknephnaaDoorKnuth.stop hQQ.symm (by omega) i1 i3 (by omega)]⟩
        case xd =>
          rw [sub1 s1 (by omega)]
          exact hj _ _ ⟨rfl, by rw [s5]⟩
        case yd =>
          rw [sub1 s1 (by omega), wr _ i2]
          exact ⟨q - 1, by omega, rfl, q - 1, r + Y1, rfl, s2, s6, s3, by omega, rfl⟩
end
end Go.Proofs.YtdjancoknephnaaDoorVc
-- from CsBits
namespace Go.Proofs.YtdjancoknephnaaDoorVc
open Go.Proofs.Tryd (prog)
section
variable {I : Calls} {Q : Post} {h : Heap}
theorem len8_ok : ∀ i : Nat, i < 256 → 0 ≤ byteAt len8S (i : Int) ∧ (byteAt len8S (i : Int)).toNat ≤ 8 ∧ i < 2 ^ (byteAt len8S (i : Int)).toNat ∧ (0 < i → 2 ^ (byteAt len8S (i : Int)).toNat ≤ 2 * i) := by decide +kernel
theorem len_idx {x k i L : Nat} (hi : x / 2 ^ k = i) (h1 : i < 2 ^ L) (h2 : 2 ^ L ≤ 2 * i) : x < 2 ^ (k + L) ∧ 2 ^ (k + L) ≤ 2 * x := by
  subst hi
  have p := Nat.two_pow_pos k
  constructor
  · rw [Nat.pow_add, Nat.mul_comm]
    exact (Nat.div_lt_iff_lt_mul p).1 h1
  · rw [Nat.pow_add]
    have h3 : 2 ^ k * 2 ^ L ≤ 2 ^ k * (2 * (x / 2 ^ k)) := Nat.mul_le_mul_left _ h2
    have h4 := Nat.mul_div_le x (2 ^ k)
    rw [Nat.mul_left_comm] at h3
    omega
theorem shrN (a k : Nat) (hk : k ≤ 64) : shr .u64 (a : Int) (k : Int) = ((a / 2 ^ k : Nat) : Int) := shr_nat a k .u64 rfl hk
theorem w8 {a : Nat} (h : a < 256) : IntKind.u8.wrap (a : Int) = (a : Int) := by rw [IntKind.wrap_u8]; omega
theorem spec81g (hI : Closed' prog Pm I) {x : Nat} (h0 : 0 < x) (h1 : x < 18446744073709551616) (hQ : ∀ len : Nat, len ≤ 64 → x < 2 ^ len → 2 ^ len ≤ 2 * x → Q [int len] h) : I 81 [u64 x] Q h := by
  refine hI.go _ _ (den81 I x Q) ?_
  have fin : ∀ (k i : Nat), x / 2 ^ k = i → 0 < i → i < 256 → k ≤ 56 → ∀ c : Int, c = (k : Int) → Q [int (IntKind.i64.wrap (c + IntKind.i64.wrap (byteAt len8S (i : Int))))] h := fun k i hi hp hlt hk c hc => by
    obtain ⟨a1, a2, a3, a4⟩ := len8_ok i hlt
    obtain ⟨L, hL⟩ := Int.eq_ofNat_of_zero_le a1
    rw [hL] at a2 a3 a4 ⊢
    rw [Int.toNat_natCast] at a2 a3 a4
    obtain ⟨b1, b2⟩ := len_idx hi a3 (a4 hp)
    have := hQ (k + L) (by omega) b1 b2
    rw [hc, w64 (n := (L : Int)) (by omega) (by omega), w64 (by omega) (by omega)]
    exact this
  have s16 : ∀ a : Nat, shr .u64 (a : Int) 16 = ((a / 65536 : Nat) : Int) := fun a => shrN a 16 (by decide)
  have s8 : ∀ a : Nat, shr .u64 (a : Int) 8 = ((a / 256 : Nat) : Int) := fun a => shrN a 8 (by decide)
  refine joinK_intro (fun (p : Int × Int) h' => h' = h ∧ ∃ y k : Nat, p = ((y : Int), (k : Int)) ∧ x / 2 ^ k = y ∧ 0 < y ∧ y < 4294967296 ∧ k ≤ 32) ?_ ?_
  · rintro _ h' ⟨rfl, y, k, rfl, hy, hp, hlt, hk⟩
    dsimp only [uncur]
    have dv : ∀ j, x / 2 ^ (k + j) = y / 2 ^ j := fun j => by rw [Nat.pow_add, ← Nat.div_div_eq_div_mul, hy]
    have d8 := dv 8
    have d16 := dv 16
    have d24 := dv 24
    simp only [s16, s8]
    refine ifT_dec (fun h2 => ifT_dec (fun h3 => ?_) fun h3 => ?_) fun h2 => ifT_dec (fun h3 => ?_) fun h3 => ?_
    · rw [w8 (a := y / 65536 / 256) (by omega)]
      refine ⟨⟨by omega, by show ((y / 65536 / 256 : Nat) : Int) < ((256 : Nat) : Int); omega⟩, fin (k + 24) _ (by rw [d24, Nat.div_div_eq_div_mul]) (by omega) (by omega) (by omega) _ ?_⟩
      rw [w64 (n := (k : Int) + 16) (by omega) (by omega), w64 (by omega) (by omega)]; omega
    · rw [w8 (a := y / 65536) (by omega)]
      refine ⟨⟨by omega, by show ((y / 65536 : Nat) : Int) < ((256 : Nat) : Int); omega⟩, fin (k + 16) _ d16 (by omega) (by omega) (by omega) _ ?_⟩
      rw [w64 (by omega) (by omega)]; omega
    · rw [w8 (a := y / 256) (by omega)]
      refine ⟨⟨by omega, by show ((y / 256 : Nat) : Int) < ((256 : Nat) : Int); omega⟩, fin (k + 8) _ d8 (by omega) (by omega) (by omega) _ ?_⟩
      rw [w64 (by omega) (by omega)]; omega
    · rw [w8 (a := y) (by omega)]
      exact ⟨⟨by omega, by show (y : Int) < ((256 : Nat) : Int); omega⟩, fin k _ hy hp (by omega) (by omega) _ rfl⟩
  · intro j hj
    refine ifT_dec (fun h2 => ?_) fun h2 => ?_
    · rw [shr32]
      exact hj _ _ ⟨rfl, x / 4294967296, 32, rfl, rfl, by omega, by omega, by decide⟩
    · exact hj _ _ ⟨rfl, x, 0, rfl, by simp, h0, by omega, by decide⟩
/-- A divisor of 64 bits, whatever it is. -/
theorem spec27g (hI : Closed' prog Pm I) {hi lo y : Nat} (h1 : hi < y) (hy : y < 18446744073709551616) (hlo : lo < 18446744073709551616)
    (hQ : Q [u64 (((hi * 18446744073709551616 + lo) / y : Nat) : Int), u64 (((hi * 18446744073709551616 + lo) % y : Nat) : Int)] h) : I 27 [u64 hi, u64 lo, u64 y] Q h := by
  have hlen : ∃ len : Nat, len ≤ 64 ∧ y < 2 ^ len ∧ 2 ^ len ≤ 2 * y ∧ ∀ Q' h', Q' [int (64 - len : Nat)] h' → I 57 [u64 y] Q' h' := by
    refine ⟨y.log2 + 1, ?_, Nat.lt_log2_self, ?_, fun Q' h' hq => ?_⟩
    · have := (Nat.log2_lt (k := 64) (by omega)).2 hy
      omega
    · have := Nat.log2_self_le (n := y) (by omega)
      rw [Nat.pow_succ]; omega
    · refine hI.go _ _ (den57 I y Q') ?_
      refine spec81g hI (by omega) hy fun len h2 h3 h4 => ⟨_, rfl, ?_⟩
      have e : len = y.log2 + 1 := by
        have a1 : y.log2 < len := (Nat.log2_lt (by omega)).2 h3
        have a2 : len - 1 ≤ y.log2 := by
          rw [Nat.le_log2 (by omega)]
          have : 2 ^ len = 2 ^ (len - 1) * 2 := by rw [← Nat.pow_succ]; congr 1; omega
          omega
        omega
      rw [e] at h2 ⊢
      have : IntKind.i64.wrap (64 - ((y.log2 + 1 : Nat) : Int)) = ((64 - (y.log2 + 1) : Nat) : Int) := by rw [w64 (by omega) (by omega)]; omega
      rw [this]
      exact hq
  obtain ⟨len, l1, l2, l3, l4⟩ := hlen
  have hl0 : len ≠ 0 := by rintro rfl; omega
  have p1 : y * 2 ^ (64 - len) < 2 ^ len * 2 ^ (64 - len) := Nat.mul_lt_mul_of_pos_right l2 (Nat.two_pow_pos _)
  have p2 : 2 ^ len * 2 ^ (64 - len) ≤ 2 * y * 2 ^ (64 - len) := Nat.mul_le_mul_right _ l3
  rw [← Nat.pow_add, show len + (64 - len) = 64 by omega] at p1 p2
  rw [Nat.mul_assoc] at p2
  exact spec27 hI h1 hlo (s := 64 - len) (by omega) (by omega) p1 l4 hQ
end
end Go.Proofs.YtdjancoknephnaaDoorVc
