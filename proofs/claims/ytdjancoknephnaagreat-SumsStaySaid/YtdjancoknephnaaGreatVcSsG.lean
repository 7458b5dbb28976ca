/- The stream's numbers, exactly; what is drawn of them (offers). Offers that are drawn, exactly. Offers and baskets that are drawn, exactly. Baskets that are drawn, exactly. Cells that are drawn, exactly. Budgets that are drawn, exactly. -/
import Derived.Test.YtdjancoknephnaaGreatVcSsFo
set_option linter.unusedSimpArgs false
set_option linter.unusedVariables false
-- SsGen
namespace Go.Proofs.YtdjancoknephnaaGreatVc
open Go.Proofs.Tryz (prog)
/-- What the stream gives at a place, before it is made less than n. -/
def nvx (zs : List Int) (t : Nat) : Int := if (zs.length : Int) = 0 then IntKind.i64.wrap (((t + 1 : Nat) : Int) * 7919) else
  IntKind.i64.wrap ((zs[((t : Int).tmod zs.length).toNat]?.getD 0) % 1073741824 + IntKind.i64.wrap (IntKind.i64.wrap ((t : Int).tdiv zs.length) * IntKind.i64.wrap (7919 + (t : Int).tmod zs.length)))
def nv (zs : List Int) (t : Nat) (n : Int) : Int := nvx zs t % n
def rg (zs : List Int) (t : Nat) (a b : Int) : Int := a + nv zs t (b - a + 1)
def pk (zs : List Int) (t : Nat) (xs : List Int) : Int := xs[(nv zs t xs.length).toNat]?.getD 0
def on (zs : List Int) (t : Nat) (xs : List ByteArray) : ByteArray := xs[(nv zs t xs.length).toNat]?.getD ⟨#[]⟩
def tgn (zs : List Int) (t : Nat) (xs : List (List ByteArray)) : List ByteArray := xs[(nv zs t xs.length).toNat]?.getD []
theorem nv_lo {zs : List Int} {t : Nat} {n : Int} (h : 1 ≤ n) : 0 ≤ nv zs t n := Int.emod_nonneg _ (by omega)
theorem nv_hi {zs : List Int} {t : Nat} {n : Int} (h : 1 ≤ n) : nv zs t n < n := Int.emod_lt_of_pos _ (by omega)
theorem getD_mem {α : Type} {d : α} {xs : List α} {k : Nat} (h : k < xs.length) : xs[k]?.getD d ∈ xs := by
  rw [List.getElem?_eq_getElem h]; exact List.getElem_mem h
theorem pk_mem {zs : List Int} {t : Nat} {xs : List Int} (h : xs ≠ []) : pk zs t xs ∈ xs := by
  have hp := List.length_pos_iff.2 h
  have h1 : 0 ≤ nv zs t xs.length := nv_lo (by omega)
  have h2 : nv zs t xs.length < xs.length := nv_hi (by omega)
  exact getD_mem (by omega)
section
variable {I : Calls} {Q : Post} {h : Heap}
theorem spec49e (hI : Closed' prog Pm I) {x n : Int} (h1 : 1 ≤ n) (h2 : n < 4611686018427387904) (hQ : Q [int (x % n)] h) : I 49 [int x, int n] Q h := by
  refine hI.go _ _ (den49 I x n Q) ?_
  refine ifT_dec (fun h3 => by omega) (fun h3 => ⟨by omega, ifT_dec (fun h4 => ?_) (fun h4 => ?_)⟩)
  · have h5 := Int.lt_tmod_of_pos x (show 0 < n by omega)
    have h6 : IntKind.i64.wrap (x.tmod n + n) = x.tmod n + n := w64 (by omega) (by omega)
    have h7 : x.tmod n + n = x % n := by
      have e : (x.tmod n + n) % n = x.tmod n + n := Int.emod_eq_of_lt (by omega) (by omega)
      rw [← e, Int.add_emod_right]
      have := Int.mul_tdiv_add_tmod x n
      rw [show x.tmod n = x - n * x.tdiv n by omega, Int.sub_mul_emod_self_left]
    rw [h6, h7]
    exact hQ
  · have h5 := Int.tmod_lt_of_pos x (show 0 < n by omega)
    have h7 : x.tmod n = x % n := by
      have e : (x.tmod n) % n = x.tmod n := Int.emod_eq_of_lt (by omega) (by omega)
      rw [← e]
      have := Int.mul_tdiv_add_tmod x n
      rw [show x.tmod n = x - n * x.tdiv n by omega, Int.sub_mul_emod_self_left]
    rw [h7]; exact hQ
theorem spec19e (hI : Closed' prog Pm I) {i : Nat} {l : Sl} {zs : List Int} {t : Nat} {n : Int} (S : Strm h i l zs t) (h1 : 1 ≤ n) (h2 : n < 4611686018427387904)
    (hQ : Q [int (nv zs t n)] (h.set i (strm l (t + 1)))) : I 19 [.one (.ptr (some (i, 0))), int n] Q h := by
  have ht := S.small
  have hw : IntKind.i64.wrap ((t : Int) + 1) = ((t + 1 : Nat) : Int) := by rw [w64] <;> omega
  have hw2 : IntKind.i64.wrap (((t + 1 : Nat) : Int) - 1) = t := by rw [w64] <;> omega
  have hc' : (h.set i (strm l (t + 1))) i = some (strm l (t + 1)) := set_eq _ _ _
  have S' : At (h.set i (strm l (t + 1))) 1 l (ints zs) := S.at_ fun j o hj hh => by rw [set_ne _ _ hj]; exact hh
  have hll : l.len = zs.length := by rw [S'.len1, ints_length]
  have r0 : ∀ {o : Nat}, o = 0 → (h.set i (strm l (t + 1))).read i o 1 = some [.slice 1 l] := fun e => by subst e; exact read_cell hc' rfl
  have r1 : ∀ {o : Nat}, o = 1 → (h.set i (strm l (t + 1))).read i o 1 = some [.int .i64 ((t + 1 : Nat) : Int)] := fun e => by subst e; exact read_cell hc' rfl
  unfold nv nvx at hQ
  rw [← hll] at hQ
  refine hI.go _ _ (den19 I (some (i, 0)) n Q) ?_
  refine derefK_intro rfl ⟨t, read_cell S.cell rfl, derefK_intro rfl (storeK_one S.cell (by simp) ?_)⟩
  rw [hw]
  show derefK _ _ (h.set i (strm l (t + 1)))
  refine derefK_intro rfl ⟨l, r0 rfl, ifT_dec (fun h3 => ?_) (fun h3 => ?_)⟩
  · rw [if_pos h3] at hQ
    refine derefK_intro rfl ⟨_, r1 rfl, spec49e hI h1 h2 ⟨_, rfl, hQ⟩⟩
  · rw [if_neg h3] at hQ
    have hp : 0 < (l.len : Int) := by omega
    have hm := Int.tmod_lt_of_pos (t : Int) hp
    have hm0 : 0 ≤ (t : Int).tmod l.len := Int.tmod_nonneg _ (by omega)
    refine derefK_intro rfl ⟨_, r1 rfl, derefK_intro rfl ⟨l, r0 rfl, h3, derefK_intro rfl ⟨_, r1 rfl, derefK_intro rfl ⟨l, r0 rfl, h3, derefK_intro rfl ⟨l, r0 rfl, ?_⟩⟩⟩⟩⟩
    rw [hw2]
    refine ⟨⟨hm0, hm⟩, S'.one hm0 hm fun b o c hc hr => ?_⟩
    simp only [ints, List.getElem?_map] at hc
    cases hz : zs[((t : Int).tmod l.len).toNat]? with
    | none => rw [hz] at hc; cases hc
    | some z =>
      rw [hz] at hc hQ
      cases hc
      exact ⟨z, hr, spec49e hI (by decide) (by decide) ⟨_, rfl, spec49e hI h1 h2 ⟨_, rfl, hQ⟩⟩⟩
end
section
variable {I : Calls} {Q : Post} {h hb : Heap} {i : Nat} {l : Sl} {zs : List Int} {t0 : Nat}
theorem nx_e (hI : Closed' prog Pm I) (S0 : Strm hb i l zs t0) {t : Nat} {L : List Ow} (o : Owns (hb.del i) h (owS i l t :: L)) (ht : t < 900000000) {n : Int} (h1 : 1 ≤ n) (h2 : n < 4611686018427387904) {F : Int → T}
    (hF : ∀ h', 0 ≤ nv zs t n → nv zs t n < n → Owns (hb.del i) h' (owS i l (t + 1) :: L) → F (nv zs t n) h') : I 19 [.one (.ptr (some (i, 0))), int n] (fun cs h' => ∃ v : Int, cs = [int v] ∧ F v h') h :=
  spec19e hI (o.toStrm S0 (t' := t) (by simp) (by omega)) h1 h2 ⟨_, rfl, hF _ (nv_lo h1) (nv_hi h1) o.next⟩
theorem flip_e (hI : Closed' prog Pm I) (S0 : Strm hb i l zs t0) {t : Nat} {L : List Ow} (o : Owns (hb.del i) h (owS i l t :: L)) (ht : t < 900000000) {n : Int} (h1 : 1 ≤ n) (h2 : n < 4611686018427387904) {F : Bool → T}
    (hF : ∀ h', Owns (hb.del i) h' (owS i l (t + 1) :: L) → F (decide (nv zs t n = 0)) h') : I 17 [.one (.ptr (some (i, 0))), int n] (fun cs h' => ∃ b : Bool, cs = [boo b] ∧ F b h') h := by
  refine hI.go _ _ (den17 I (some (i, 0)) n _) ?_
  exact nx_e hI S0 o ht h1 h2 fun h' _ _ o' => ⟨_, rfl, hF h' o'⟩
theorem rng_e (hI : Closed' prog Pm I) (S0 : Strm hb i l zs t0) {t : Nat} {L : List Ow} (o : Owns (hb.del i) h (owS i l t :: L)) (ht : t < 900000000) {a b : Int} (h1 : a ≤ b) (h2 : -1000000000 < a) (h3 : b < 1000000000) {F : Int → T}
    (hF : ∀ h', a ≤ rg zs t a b → rg zs t a b ≤ b → Owns (hb.del i) h' (owS i l (t + 1) :: L) → F (rg zs t a b) h') : I 16 [.one (.ptr (some (i, 0))), int a, int b] (fun cs h' => ∃ v : Int, cs = [int v] ∧ F v h') h := by
  refine hI.go _ _ (den16 I (some (i, 0)) a b _) ?_
  refine ifT_dec (fun h => by omega) fun _ => ?_
  have e : IntKind.i64.wrap (IntKind.i64.wrap (b - a) + 1) = b - a + 1 := by rw [w64 (n := b - a) (by omega) (by omega), w64 (by omega) (by omega)]
  show I 19 [_, int (IntKind.i64.wrap (IntKind.i64.wrap (b - a) + 1))] _ h
  rw [e]
  refine nx_e hI S0 o ht (by omega) (by omega) fun h' g1 g2 o' => ?_
  have e2 : IntKind.i64.wrap (a + nv zs t (b - a + 1)) = a + nv zs t (b - a + 1) := w64 (by omega) (by omega)
  rw [e2]
  exact ⟨_, rfl, hF h' (by unfold rg; omega) (by unfold rg; omega) o'⟩
theorem pick_e (hI : Closed' prog Pm I) (S0 : Strm hb i l zs t0) {t : Nat} {L : List Ow} (o : Owns (hb.del i) h (owS i l t :: L)) (ht : t < 900000000) (xs : List Int) (h1 : xs ≠ []) (h2 : xs.length < 1000) {F : Int → T}
    (hF : ∀ h', Owns (hb.del i) h' (owS i l (t + 1) :: L) → F (pk zs t xs) h') :
    newK (.cells false (ints xs)) (fun i6 => fun h7 => I 18 [.one (.ptr (some (i, 0))), .one (.slice 1 ⟨some (i6, 0), xs.length⟩)] (fun cs h9 => ∃ n : Int, cs = [int n] ∧ F n h9) h7) h := by
  refine newK_intro fun i6 h7 hn he => ?_
  have hne := o.lit_ne hn
  have o2 := o.mono (he ▸ Ext.new hn : Ext _ h7)
  have hpos := List.length_pos_iff.2 h1
  refine hI.go _ _ (den18 I (some (i, 0)) _ _) ?_
  show I 19 [_, int (xs.length : Int)] _ h7
  refine spec19e hI (o2.toStrm S0 (t' := t) (by simp) (by omega)) (by omega) (by omega) ?_
  have hv1 : 0 ≤ nv zs t xs.length := nv_lo (by omega)
  have hv2 : nv zs t xs.length < xs.length := nv_hi (by omega)
  have hat := lit_at (o := strm l (t + 1)) hne he (rfl : xs.length = xs.length)
  have hF' := hF _ o2.next
  unfold pk at hF'
  show ∃ n5 : Int, [int (nv zs t xs.length)] = [int n5] ∧ _
  refine ⟨_, rfl, ⟨hv1, hv2⟩, hat.one hv1 hv2 fun b o c hc hr => ?_⟩
  simp only [ints, List.getElem?_map] at hc
  cases hz : xs[(nv zs t xs.length).toNat]? with
  | none => rw [hz] at hc; cases hc
  | some z =>
    rw [hz] at hc hF'
    cases hc
    exact ⟨z, hr, _, rfl, hF'⟩
theorem one_e (hI : Closed' prog Pm I) (S0 : Strm hb i l zs t0) {t : Nat} {L : List Ow} (o : Owns (hb.del i) h (owS i l t :: L)) (ht : t < 900000000) (xs : List ByteArray) (h1 : xs ≠ []) (h2 : xs.length < 1000) {F : ByteArray → T}
    (hF : ∀ h', Owns (hb.del i) h' (owS i l (t + 1) :: L) → F (on zs t xs) h') :
    newK (.cells false (strs xs)) (fun i6 => fun h7 => I 20 [.one (.ptr (some (i, 0))), .one (.slice 1 ⟨some (i6, 0), xs.length⟩)] (fun cs h9 => ∃ n : ByteArray, cs = [str n] ∧ F n h9) h7) h := by
  refine newK_intro fun i6 h7 hn he => ?_
  have hne := o.lit_ne hn
  have o2 := o.mono (he ▸ Ext.new hn : Ext _ h7)
  have hpos := List.length_pos_iff.2 h1
  refine hI.go _ _ (den20 I (some (i, 0)) _ _) ?_
  show I 19 [_, int (xs.length : Int)] _ h7
  refine spec19e hI (o2.toStrm S0 (t' := t) (by simp) (by omega)) (by omega) (by omega) ?_
  have hv1 : 0 ≤ nv zs t xs.length := nv_lo (by omega)
  have hv2 : nv zs t xs.length < xs.length := nv_hi (by omega)
  have hat := lit_atC (o := strm l (t + 1)) hne he (show xs.length = (strs xs).length by rw [strs, List.length_map])
  have hF' := hF _ o2.next
  unfold on at hF'
  show ∃ n5 : Int, [int (nv zs t xs.length)] = [int n5] ∧ _
  refine ⟨_, rfl, ⟨hv1, hv2⟩, ?_⟩
  have hx := List.getElem?_eq_getElem (show (nv zs t xs.length).toNat < xs.length by omega)
  generalize xs[(nv zs t xs.length).toNat] = z at hx
  rw [hx] at hF'
  have hat' : At (h7.set i (strm l (t + 1))) 1 ⟨some (i6, 0), xs.length⟩ (strs xs) := hat
  refine hat'.cell (c := .str z) (i := (nv zs t xs.length).toNat) (by rw [strs, List.getElem?_map, hx]; rfl) fun b o hr => ⟨z, ?_, _, rfl, hF'⟩
  rw [Int.toNat_natCast] at hr; exact hr
/-- One of some rows of tags is drawn. -/
theorem tags_e (hI : Closed' prog Pm I) (S0 : Strm hb i l zs t0) {t : Nat} {T L : List Ow} {i4 n : Nat} {ps : List (Sl × List ByteArray)} (o : Owns (hb.del i) h (owS i l t :: (1, ⟨some (i4, 0), n⟩, slC ps) :: (T ++ L))) (ht : t < 900000000)
    (hn : n = ps.length) (hn0 : 0 < n) (hn1 : n < 1000) (hp : ∀ p ∈ ps, tgIn T p.1 p.2) {F : Sl → YtdjancoknephnaaGreatVc.T} (hF : ∀ sl h', tgIn T sl (tgn zs t (ps.map (·.2))) → Owns (hb.del i) h' (owS i l (t + 1) :: (T ++ L)) → F sl h') :
    I 19 [.one (.ptr (some (i, 0))), int (n : Int)] (fun cs h9 => ∃ v : Int, cs = [int v] ∧ ((0 ≤ v) ∧ v < (n : Int)) ∧ ∃ sl : Sl, h9.read i4 (0 + v.toNat * 1) 1 = some [.slice 1 sl] ∧ F sl h9) h := by
  refine spec19e hI (o.toStrm S0 (t' := t) (by simp) (by omega)) (by omega) (by omega) ?_
  have hv1 : 0 ≤ nv zs t (n : Int) := nv_lo (by omega)
  have hv2 : nv zs t (n : Int) < n := nv_hi (by omega)
  refine ⟨_, rfl, ⟨hv1, hv2⟩, ?_⟩
  have hx := List.getElem?_eq_getElem (show (nv zs t (n : Int)).toNat < ps.length by omega)
  generalize ps[(nv zs t (n : Int)).toNat] = p at hx
  have o2 := o.next (t' := t + 1)
  have etg : tgn zs t (ps.map (·.2)) = p.2 := by
    unfold tgn
    rw [List.length_map, ← hn, List.getElem?_map, hx]; rfl
  refine ⟨p.1, ?_, hF p.1 _ (etg ▸ hp p (List.mem_of_getElem? hx)) (o2.swp.tail)⟩
  rw [Nat.zero_add, Nat.mul_one]
  exact read_cell (o2.block (sz := 1) (i := i4) (n := n) (cs := slC ps) (by simp)).1 (by unfold slC; rw [List.getElem?_map, hx]; rfl)
end
end Go.Proofs.YtdjancoknephnaaGreatVc
-- SsGen1
namespace Go.Proofs.YtdjancoknephnaaGreatVc
open Go.Proofs.Tryz (prog)
def Offr.pur (x : Offr) : Offr := { x with tg := ⟨none, 0⟩ }
def tags3 : List (List ByteArray) := [[⟨#[104, 97, 116]⟩], [⟨#[99, 97, 112]⟩, ⟨#[104, 97, 116]⟩], [⟨#[115, 104, 111, 101]⟩]]
def off4 (zs : List Int) (x : Offr) (t : Nat) : Offr × Nat := ({ x with alone := decide (nv zs t 8 = 0) }, t + 1)
def off3b (zs : List Int) (b : Bool) (x : Offr) (t : Nat) : Offr × Nat := if b = true then off4 zs { x with group := on zs t [⟨#[103, 49]⟩, ⟨#[103, 50]⟩] } (t + 1) else off4 zs x t
def off3 (zs : List Int) (x : Offr) (t : Nat) : Offr × Nat := off3b zs (decide (nv zs (t + 1 + 1) 4 = 0)) { x with least := pk zs t [0, 0, 0, 500, 3000], most := pk zs (t + 1) [0, 0, 0, 100, 333] } (t + 1 + 1 + 1)
def off2b (zs : List Int) (b : Bool) (x : Offr) (t : Nat) : Offr × Nat := if b = true then off3 zs { x with tags := tgn zs t tags3 } (t + 1) else off3 zs x t
def off2 (zs : List Int) (x : Offr) (t : Nat) : Offr × Nat := if x.kind = 4 then off2b zs false x t else off2b zs (decide (nv zs t 2 = 0)) x (t + 1)
def off0 (zs : List Int) (key : ByteArray) (t : Nat) (a b : Int) : Offr := ⟨key, rg zs t 1 4, a, b, ⟨none, 0⟩, 0, 0, ByteArray.empty, false, pk zs (t + 1) [0, 0, 1, 2], pk zs (t + 1 + 1) [0, 0, 0, 60],
  max (pk zs (t + 1 + 1 + 1) [50, 100, 4321440, 4321440]) (IntKind.i64.wrap (pk zs (t + 1 + 1) [0, 0, 0, 60] + 1)), []⟩
/-- An offer that is drawn at a place, and the place after it. -/
def off1 (zs : List Int) (key : ByteArray) (t : Nat) : Offr × Nat :=
  if rg zs t 1 4 = 1 then off2 zs (off0 zs key t (pk zs (t + 1 + 1 + 1 + 1) [1, 10, 33, 50, 100]) 0) (t + 1 + 1 + 1 + 1 + 1)
  else if rg zs t 1 4 = 3 then off2 zs (off0 zs key t (rg zs (t + 1 + 1 + 1 + 1) 1 3) (rg zs (t + 1 + 1 + 1 + 1 + 1) 1 2)) (t + 1 + 1 + 1 + 1 + 1 + 1)
  else off2 zs (off0 zs key t (pk zs (t + 1 + 1 + 1 + 1) [1, 100, 500, 5000, 1000000000000]) 0) (t + 1 + 1 + 1 + 1 + 1)
abbrev TupO := ByteArray × Int × Int × Int × Sl × Int × Int × ByteArray × Bool × Int × Int × Int × PUnit
def mkO (p : TupO) (tags : List ByteArray) : Offr := ⟨p.1, p.2.1, p.2.2.1, p.2.2.2.1, ⟨none, 0⟩, p.2.2.2.2.2.1, p.2.2.2.2.2.2.1, p.2.2.2.2.2.2.2.1, p.2.2.2.2.2.2.2.2.1, p.2.2.2.2.2.2.2.2.2.1, p.2.2.2.2.2.2.2.2.2.2.1, p.2.2.2.2.2.2.2.2.2.2.2.1, tags⟩
section
variable {I : Calls} {Q : Post} {h hb : Heap} {i : Nat} {l : Sl} {zs : List Int} {t0 : Nat}
theorem spec21e (hI : Closed' prog Pm I) (S0 : Strm hb i l zs t0) {t : Nat} {L : List Ow} (o : Owns (hb.del i) h (owS i l t :: L)) (ht : t < 800000000) {key : ByteArray}
    (hQ : ∀ (x : Offr) (T : List Ow) t' h', Owns (hb.del i) h' (owS i l t' :: (T ++ L)) → tgIn T x.tg x.tags → t' ≤ t + 20 → off1 zs key t = (x.pur, t') → Q [.agg (offC x)] h') : I 21 [.one (.ptr (some (i, 0))), str key] Q h := by
  refine hI.go _ _ (den21 I (some (i, 0)) key Q) ?_
  refine rng_e hI S0 o (by omega) (by decide) (by decide) (by decide) fun h1 _ _ o1 => ?_
  refine pick_e hI S0 o1 (by omega) [0, 0, 1, 2] (by simp) (by simp) fun h2 o2 => ?_
  refine pick_e hI S0 o2 (by omega) [0, 0, 0, 60] (by simp) (by simp) fun h3 o3 => ?_
  refine pick_e hI S0 o3 (by omega) [50, 100, 4321440, 4321440] (by simp) (by simp) fun h4 o4 => ?_
  refine joinK_intro (fun (p : TupO) h' => ∃ t', t' ≤ t + 6 ∧ p.2.2.2.2.1 = ⟨none, 0⟩ ∧ off1 zs key t = off2 zs (mkO p []) t' ∧ Owns (hb.del i) h' (owS i l t' :: L)) ?_ ?_
  case refine_2 =>
    intro j hj
    refine ifT_dec (fun e1 => ?_) fun e1 => ?_
    · exact pick_e hI S0 o4 (by omega) [1, 10, 33, 50, 100] (by simp) (by simp) fun h5 o5 => hj _ _ ⟨_, by omega, rfl, by unfold off1; rw [if_pos e1]; rfl, o5⟩
    refine joinK_intro (fun (p : TupO) h' => ∃ t', t' ≤ t + 6 ∧ p.2.2.2.2.1 = ⟨none, 0⟩ ∧ off1 zs key t = off2 zs (mkO p []) t' ∧ Owns (hb.del i) h' (owS i l t' :: L)) ?_ fun j2 hj2 => ifT_dec (fun e3 => ?_) fun e3 => ?_
    · rintro ⟨a1, a2, a3, a4, a5, a6, a7, a8, a9, a10, a11, a12, u⟩ h5 hh
      exact hj _ _ hh
    · refine rng_e hI S0 o4 (by omega) (by decide) (by decide) (by decide) fun h5 _ _ o5 => rng_e hI S0 o5 (by omega) (by decide) (by decide) (by decide) fun h6 _ _ o6 => hj2 _ _ ⟨_, by omega, rfl, by unfold off1; rw [if_neg e1, if_pos e3]; rfl, o6⟩
    · exact pick_e hI S0 o4 (by omega) [1, 100, 500, 5000, 1000000000000] (by simp) (by simp) fun h5 o5 => hj2 _ _ ⟨_, by omega, rfl, by unfold off1; rw [if_neg e1, if_neg e3]; rfl, o5⟩
  rintro ⟨a1, a2, a3, a4, a5, a6, a7, a8, a9, a10, a11, a12, u⟩ h5 ⟨t5, ht5, htg, heq, o5⟩
  obtain rfl : a5 = ⟨none, 0⟩ := htg
  dsimp only [uncur]
  generalize hA : mkO (a1, a2, a3, a4, ⟨none, 0⟩, a6, a7, a8, a9, a10, a11, a12, u) [] = A at heq
  have hA2 : A.kind = a2 := by rw [← hA]; rfl
  refine joinK_intro (fun (b : Bool) h' => ∃ t', t' ≤ t5 + 1 ∧ off2 zs A t5 = off2b zs b A t' ∧ Owns (hb.del i) h' (owS i l t' :: L)) ?_ fun j hj => ifT_intro (fun e => ?_) fun e => ?_
  case refine_2 => exact flip_e hI S0 o5 (by omega) (by decide) (by decide) fun h6 o6 => hj _ _ ⟨_, Nat.le_refl _, by unfold off2; rw [hA2, if_neg (nd e)], o6⟩
  case refine_3 => exact hj _ _ ⟨t5, by omega, by unfold off2; rw [hA2, if_pos (Decidable.of_not_not (nd' e))], o5⟩
  rintro b h6 ⟨t6, ht6, heq6, o6⟩
  rw [heq6] at heq
  refine joinK_intro (fun (p : TupO) h' => ∃ t' T tags, t' ≤ t6 + 1 ∧ tgIn T p.2.2.2.2.1 tags ∧ off2b zs b A t6 = off3 zs (mkO p tags) t' ∧ Owns (hb.del i) h' (owS i l t' :: (T ++ L))) ?_ ?_
  case refine_2 =>
    intro j hj
    refine ifT_intro (fun e => ?_) fun e => hj _ _ ⟨t6, [], [], by omega, .inl ⟨rfl, rfl⟩, by unfold off2b; rw [if_neg (by rw [e]; decide), ← hA], o6⟩
    refine newK_intro fun i1 g1 hn1 he1 => newK_intro fun i2 g2 hn2 he2 => newK_intro fun i3 g3 hn3 he3 => newK_intro fun i4 g4 hn4 he4 => ?_
    subst he1 he2 he3 he4
    have q1 := (o6.new (sz := 1) (n := 1) (cs := strs [⟨#[104, 97, 116]⟩]) hn1 rfl).swp
    have q2 := (q1.new (sz := 1) (n := 2) (cs := strs [⟨#[99, 97, 112]⟩, ⟨#[104, 97, 116]⟩]) hn2 rfl).swp
    have q3 := (q2.new (sz := 1) (n := 1) (cs := strs [⟨#[115, 104, 111, 101]⟩]) hn3 rfl).swp
    have q4 := (q3.new (sz := 1) (n := 3) (cs := slC [(⟨some (i1, 0), 1⟩, [⟨#[104, 97, 116]⟩]), (⟨some (i2, 0), 2⟩, [⟨#[99, 97, 112]⟩, ⟨#[104, 97, 116]⟩]), (⟨some (i3, 0), 1⟩, [⟨#[115, 104, 111, 101]⟩])]) hn4 rfl).swp
    exact tags_e hI S0 (T := [(1, ⟨some (i3, 0), 1⟩, strs [⟨#[115, 104, 111, 101]⟩]), (1, ⟨some (i2, 0), 2⟩, strs [⟨#[99, 97, 112]⟩, ⟨#[104, 97, 116]⟩]), (1, ⟨some (i1, 0), 1⟩, strs [⟨#[104, 97, 116]⟩])]) (L := L) q4 (by omega) rfl (by decide) (by decide) (by simp [tgIn]) fun sl h7 htg o7 =>
      hj _ _ ⟨_, _, _, Nat.le_refl _, htg, by unfold off2b; rw [if_pos e, ← hA]; rfl, o7⟩
  rintro ⟨b1, b2, b3, b4, b5, b6, b7, b8, b9, b10, b11, b12, u⟩ h7 ⟨t7, T, tags, ht7, htg, heq7, o7⟩
  rw [heq7] at heq
  simp only at htg
  dsimp only [uncur]
  refine pick_e hI S0 o7 (by omega) [0, 0, 0, 500, 3000] (by simp) (by simp) fun h8 o8 => ?_
  refine pick_e hI S0 o8 (by omega) [0, 0, 0, 100, 333] (by simp) (by simp) fun h9 o9 => ?_
  refine flip_e hI S0 o9 (by omega) (by decide) (by decide) fun h10 o10 => ?_
  refine joinK_intro (fun (p : TupO) h' => ∃ t', t' ≤ t7 + 4 ∧ p.2.2.2.2.1 = b5 ∧ off1 zs key t = off4 zs (mkO p tags) t' ∧ Owns (hb.del i) h' (owS i l t' :: (T ++ L))) ?_ fun j hj => ifT_intro (fun e => one_e hI S0 o10 (by omega) [⟨#[103, 49]⟩, ⟨#[103, 50]⟩] (by simp) (by simp) fun h11 o11 => hj _ _ ⟨_, by omega, rfl, ?_, o11⟩) fun e => hj _ _ ⟨_, by omega, rfl, ?_, o10⟩
  case refine_2 => rw [heq]; unfold off3 off3b; rw [if_pos e]; rfl
  case refine_3 => rw [heq]; unfold off3 off3b; rw [if_neg (by rw [e]; decide)]; rfl
  rintro ⟨c1, c2, c3, c4, c5, c6, c7, c8, c9, c10, c11, c12, u⟩ h11 ⟨t11, ht11, htg2, heq11, o11⟩
  obtain rfl : c5 = b5 := htg2
  dsimp only [uncur]
  refine flip_e hI S0 o11 (by omega) (by decide) (by decide) fun h12 o12 => ?_
  exact hQ ⟨c1, c2, c3, c4, c5, c6, c7, c8, decide (nv zs t11 8 = 0), c10, c11, c12, tags⟩ T _ _ o12 htg (by omega) (by rw [heq11]; rfl)
end
end Go.Proofs.YtdjancoknephnaaGreatVc
-- SsGen2
namespace Go.Proofs.YtdjancoknephnaaGreatVc
open Go.Proofs.Tryz (prog)
def dO : Offr := ⟨⟨#[]⟩, 0, 0, 0, ⟨none, 0⟩, 0, 0, ⟨#[]⟩, false, 0, 0, 0, []⟩
def keyO (j : Nat) : ByteArray := (⟨#[111]⟩ : ByteArray) ++ Utf8.encode (IntKind.i32.wrap (IntKind.i64.wrap (97 + (j : Int))))
def offsL (zs : List Int) (t : Nat) : Nat → List Offr × Nat
  | 0 => ([], t)
  | j + 1 => ((offsL zs t j).1 ++ [(off1 zs (keyO j) (offsL zs t j).2).1], (off1 zs (keyO j) (offsL zs t j).2).2)
def tagsO : List (List ByteArray) := [[⟨#[72, 97, 116]⟩], [⟨#[104, 97, 116]⟩, ⟨#[99, 97, 112]⟩], [⟨#[97]⟩, ⟨#[98]⟩, ⟨#[99]⟩, ⟨#[100]⟩, ⟨#[101]⟩, ⟨#[102]⟩, ⟨#[103]⟩, ⟨#[104]⟩, ⟨#[105]⟩, ⟨#[106]⟩, ⟨#[107]⟩]]
/-- One offer, turned. -/
def spO (zs : List Int) (x : Offr) (c : Int) (t : Nat) : Offr × Nat :=
  if c = 0 then ({ x with key := on zs t [⟨#[]⟩, ⟨#[111, 97]⟩, ⟨#[79]⟩] }, t + 1)
  else if c = 1 then ({ x with kind := rg zs t 0 5 }, t + 1)
  else if c = 2 then ({ x with a := pk zs t [0, 101, 21, 1000000000001, -1] }, t + 1)
  else if c = 3 then ({ x with b := pk zs t [0, 1, 21, -1] }, t + 1)
  else if c = 4 then ({ x with least := pk zs t [-1, 0, 1000000000001], most := pk zs (t + 1) [-1, 0] }, t + 1 + 1)
  else if c = 5 then ({ x with from_ := pk zs t [-1, 4321440, 5], to_ := pk zs (t + 1) [5, 6, 4321441] }, t + 1 + 1)
  else if c = 6 then ({ x with group := on zs t [⟨#[71]⟩, ⟨#[103, 49]⟩] }, t + 1)
  else if c = 7 then ({ x with tags := tgn zs t tagsO }, t + 1)
  else ({ x with order := pk zs t [-1, 1001] }, t + 1)
def spOs (zs : List Int) (xs : List Offr) (e : Nat) (t : Nat) : List Offr × Nat :=
  (xs.set e (spO zs (xs[e]?.getD dO) (nv zs t 9) (t + 1)).1, (spO zs (xs[e]?.getD dO) (nv zs t 9) (t + 1)).2)
def offsE (zs : List Int) (xs : List Offr) (t : Nat) : List Offr × Nat :=
  if (if nv zs t 10 = 0 then decide ((xs.length : Int) > 0) else false) = true then spOs zs xs (nv zs (t + 1) xs.length).toNat (t + 1 + 1) else (xs, t + 1)
/-- Offers that are drawn at a place, and the place after them. -/
def offsG (zs : List Int) (t : Nat) (n1 : Int) : List Offr × Nat := offsE zs (offsL zs (t + 1) (nv zs t (n1 + 1)).toNat).1 (offsL zs (t + 1) (nv zs t (n1 + 1)).toNat).2
theorem pur_len (xs : List Offr) : (xs.map Offr.pur).length = xs.length := by simp
theorem pur_get {xs : List Offr} {e : Nat} {x : Offr} (h : xs[e]? = some x) : (xs.map Offr.pur)[e]?.getD dO = x.pur := by rw [List.getElem?_map, h]; rfl
section
variable {I : Calls} {Q : Post} {h hb : Heap} {i : Nat} {l : Sl} {zs : List Int} {t0 : Nat}
theorem spec5e (hI : Closed' prog Pm I) (S0 : Strm hb i l zs t0) {t : Nat} {L : List Ow} {n1 : Int} (o : Owns (hb.del i) h (owS i l t :: L)) (ht : t < 100000) (hn0 : 0 ≤ n1) (hn1 : n1 ≤ 13)
    (hQ : ∀ s' xs T t' h', Owns (hb.del i) h' (owS i l t' :: (12, s', rows offC xs) :: (T ++ L)) → (∀ x ∈ xs, tgIn T x.tg x.tags) → (xs.length : Int) ≤ n1 → t' ≤ t + 500 → offsG zs t n1 = (xs.map Offr.pur, t') → Q [.one (.slice 12 s')] h') : I 5 [.one (.ptr (some (i, 0))), int n1] Q h := by
  refine hI.go _ _ (den5 I (some (i, 0)) n1 Q) ?_
  have ew0 : IntKind.i64.wrap (n1 + 1) = n1 + 1 := by rw [w64] <;> omega
  unfold vc5
  rw [ew0]
  refine nx_e hI S0 o (by omega) (by omega) (by omega) fun h1 hn2 hn3 o1 => ?_
  generalize hn : nv zs t (n1 + 1) = n at hn2 hn3
  refine loopK_intro (fun (a : Sl × Int) h' m => ∃ (j t' : Nat) (T : List Ow) (xs : List Offr), (j : Int) ≤ n ∧ a.2 = j ∧ 14 - j = m ∧ t' ≤ t + 1 + 21 * j ∧ xs.length = j ∧ (∀ x ∈ xs, tgIn T x.tg x.tags) ∧ offsL zs (t + 1) j = (xs.map Offr.pur, t') ∧ Owns (hb.del i) h' (owS i l t' :: (12, a.1, rows offC xs) :: (T ++ L))) 14
    ⟨0, t + 1, [], [], by omega, rfl, rfl, by omega, rfl, by simp, rfl, (o1.none_ 12).swp⟩ ?_
  rintro ⟨s, y⟩ h' m ⟨j, t', T, xs, hj, rfl, rfl, ht', hxl, htg, hG, o⟩
  dsimp only [uncur] at o ⊢
  have hal : s.len = xs.length := (o.at_ (s := s) (by simp)).rowsLen offC_length (by decide)
  refine ifT_dec (fun hlt => ?_) (fun hge => ?_)
  · have hes := encode_size (IntKind.i32.wrap (IntKind.i64.wrap (97 + (j : Int))))
    refine ⟨by omega, spec21e hI S0 o (by omega) fun x T2 t2 h2 o2 hx ht2 hof => ⟨_, _, _, _, _, _, _, _, _, _, _, _, rfl, ?_⟩⟩
    have hof' : off1 zs (keyO j) t' = (x.pur, t2) := hof
    have o3 : Owns (hb.del i) h2 (owS i l t2 :: (12, s, rows offC xs) :: ((T2 ++ T) ++ L)) := by
      rw [List.append_assoc]
      exact o2.perm (List.Perm.cons _ List.perm_middle)
    refine appendTo_owns (m := 0) o3.swp (by rfl) (by omega) (by simp) fun bn h8 o8 => ⟨14 - (j + 1), by omega, j + 1, t2, T2 ++ T, xs ++ [x], by omega, by rw [w64] <;> omega, rfl, by omega, by simp [hxl], fun y hy => ?_, ?_, ?_⟩
    · rcases List.mem_append.1 hy with hy | hy
      · exact (htg y hy).mono fun p hp => List.mem_append_right _ hp
      · have : y = x := by simpa using hy
        subst this
        exact hx.mono fun p hp => List.mem_append_left _ hp
    · show ((offsL zs (t + 1) j).1 ++ [(off1 zs (keyO j) (offsL zs (t + 1) j).2).1], (off1 zs (keyO j) (offsL zs (t + 1) j).2).2) = _
      rw [hG]
      simp only [hof', List.map_append, List.map_cons, List.map_nil]
    · rw [rows_append]
      have := o8.swp
      simpa [rows, offC] using this
  · have hjn : (nv zs t (n1 + 1)).toNat = j := by omega
    have hE : offsG zs t n1 = offsE zs (xs.map Offr.pur) t' := by unfold offsG; rw [hjn, hG]
    have fin : ∀ (s' : Sl) (ys : List Offr) (T' : List Ow) (t9 : Nat) (h9 : Heap), ys.length = xs.length → t9 ≤ t' + 10 → (∀ x ∈ ys, tgIn T' x.tg x.tags) → offsE zs (xs.map Offr.pur) t' = (ys.map Offr.pur, t9) → Owns (hb.del i) h9 (owS i l t9 :: (12, s', rows offC ys) :: (T' ++ L)) → Q [.one (.slice 12 s')] h9 := fun s' ys T' t9 h9 hy ht9 hg hq o9 => hQ s' ys T' t9 h9 o9 hg (by omega) (by omega) (hE.trans hq)
    refine joinK_intro (fun (b : Bool) h3 => Owns (hb.del i) h3 (owS i l (t' + 1) :: (12, s, rows offC xs) :: (T ++ L)) ∧ b = (if nv zs t' 10 = 0 then decide ((xs.length : Int) > 0) else false)) ?_ ?_
    · rintro b h3 ⟨o3, hbp⟩
      refine ifT_intro (fun hbt => ?_) fun hbt => fin _ _ _ _ _ rfl (by omega) htg (by unfold offsE; rw [pur_len, ← hbp, if_neg (by rw [hbt]; decide)]) o3
      have hpos : 0 < xs.length := by
        rw [hbt] at hbp
        by_cases hz : nv zs t' 10 = 0
        · rw [if_pos hz] at hbp
          have := of_decide_eq_true hbp.symm
          omega
        · rw [if_neg hz] at hbp; cases hbp
      refine nx_e hI S0 o3 (by omega) (by omega) (by omega) fun h4 he0 he1 o4 => ⟨⟨he0, he1⟩, ?_⟩
      have hE2 : offsE zs (xs.map Offr.pur) t' = spOs zs (xs.map Offr.pur) (nv zs (t' + 1) s.len).toNat (t' + 1 + 1) := by
        unfold offsE; rw [pur_len, ← hbp, if_pos hbt, hal]
      rw [hE2] at fin
      generalize nv zs (t' + 1) (s.len : Int) = e at he0 he1 fin ⊢
      obtain ⟨e, rfl⟩ := Int.eq_ofNat_of_zero_le he0
      rw [Int.toNat_natCast] at fin
      have hrl := rows_length offC_length xs
      obtain ⟨bs, hbs, hcs⟩ := o4.has (s := s) (cs := rows offC xs) (sz := 12) (by simp) (fun h => by rw [h] at hrl; simp at hrl; omega)
      rw [hbs] at o4 ⊢
      refine derefK_intro rfl ?_
      refine nx_e hI S0 o4 (by omega) (by decide) (by decide) fun h5 hc0 hc1 o5 => ?_
      have hx := List.getElem?_eq_getElem (show e < xs.length by omega)
      generalize xs[e] = x at hx
      have hxt := htg x (List.mem_of_getElem? hx)
      unfold spOs at fin
      rw [pur_get hx] at fin
      generalize nv zs (t' + 1 + 1) 9 = c at hc0 hc1 fin ⊢
      have fin2 : ∀ (s' : Sl) (x' : Offr) (T' : List Ow) (t9 : Nat) (h9 : Heap), t9 ≤ t' + 10 → (∀ x ∈ xs.set e x', tgIn T' x.tg x.tags) → spO zs x.pur c (t' + 1 + 1 + 1) = (x'.pur, t9) → Owns (hb.del i) h9 (owS i l t9 :: (12, s', rows offC (xs.set e x')) :: (T' ++ L)) → Q [.one (.slice 12 s')] h9 := fun s' x' T' t9 h9 ht9 hg hq o9 => fin s' (xs.set e x') T' t9 h9 (by simp) ht9 hg (by rw [hq, List.map_set]) o9
      -- a field of the offer e is turned
      have put : ∀ (j2 : Nat) (c2 : Cell) (x' : Offr) (T' : List Ow) (h9 : Heap) (t9 : Nat), j2 < 12 → (offC x).set j2 c2 = offC x' → tgIn T' x'.tg x'.tags → (∀ x ∈ xs, tgIn T' x.tg x.tags) → t9 ≤ t' + 6 → spO zs x.pur c (t' + 1 + 1 + 1) = (x'.pur, t9) → Owns (hb.del i) h9 (owS i l t9 :: (12, ⟨some (bs, 0), s.len⟩, rows offC xs) :: (T' ++ L)) →
          storeK [] bs (0 + ((e : Nat) : Int).toNat * 12 + j2) [c2] (Q [.one (.slice 12 ⟨some (bs, 0), s.len⟩)]) h9 := fun j2 c2 x' T' h9 t9 hj2 hset hx' hg ht9 hq o9 =>
        store_row offC_length o9.swp hx hj2 hset fun h10 o10 => fin2 _ x' T' t9 _ (by omega) (fun y hy => by
          rcases List.mem_or_eq_of_mem_set hy with hy | rfl
          · exact hg y hy
          · exact hx') hq o10.swp
      have two : ∀ (j2 j3 : Nat) (c2 c3 : Cell) (x' x'' : Offr) (h9 : Heap) (t9 : Nat), j2 < 12 → j3 < 12 → (offC x).set j2 c2 = offC x' → (offC x').set j3 c3 = offC x'' → x''.tg = x.tg → x''.tags = x.tags → t9 ≤ t' + 6 → spO zs x.pur c (t' + 1 + 1 + 1) = (x''.pur, t9) → Owns (hb.del i) h9 (owS i l t9 :: (12, ⟨some (bs, 0), s.len⟩, rows offC xs) :: (T ++ L)) →
          storeK [] bs (0 + ((e : Nat) : Int).toNat * 12 + j2) [c2] (storeK [] bs (0 + ((e : Nat) : Int).toNat * 12 + j3) [c3] (Q [.one (.slice 12 ⟨some (bs, 0), s.len⟩)])) h9 := fun j2 j3 c2 c3 x' x'' h9 t9 hj2 hj3 hset hset2 h1 h2 ht9 hq o9 =>
        store_row offC_length o9.swp hx hj2 hset fun h10 o10 => store_row offC_length o10 (x := x') (by rw [List.getElem?_set_self (by omega)]) hj3 hset2 fun h11 o11 => fin2 _ x'' T t9 _ (by omega) (fun y hy => by
          rcases List.mem_or_eq_of_mem_set hy with hy | rfl
          · exact htg y hy
          · rw [h1, h2]; exact hxt) hq (by rw [List.set_set] at o11; exact o11.swp)
      refine ifT_dec (fun c0 => ?_) fun c0 => ifT_dec (fun c1 => ?_) fun c1 => ifT_dec (fun c2 => ?_) fun c2 => ifT_dec (fun c3 => ?_) fun c3 => ifT_dec (fun c4 => ?_) fun c4 => ifT_dec (fun c5 => ?_) fun c5 => ifT_dec (fun c6 => ?_) fun c6 => ifT_dec (fun c7 => ?_) fun c7 => ?_
      · exact one_e hI S0 o5 (by omega) [⟨#[]⟩, ⟨#[111, 97]⟩, ⟨#[79]⟩] (by simp) (by simp) fun h6 o6 => put 0 (.str _) { x with key := on zs (t' + 1 + 1 + 1) [⟨#[]⟩, ⟨#[111, 97]⟩, ⟨#[79]⟩] } T _ _ (by decide) rfl hxt htg (by omega) (by unfold spO; rw [if_pos c0]; rfl) o6
      · exact rng_e hI S0 o5 (by omega) (by decide) (by decide) (by decide) fun h6 _ _ o6 => put 1 (.int .i64 _) { x with kind := rg zs (t' + 1 + 1 + 1) 0 5 } T _ _ (by decide) rfl hxt htg (by omega) (by unfold spO; rw [if_neg c0, if_pos c1]; rfl) o6
      · exact pick_e hI S0 o5 (by omega) [0, 101, 21, 1000000000001, -1] (by simp) (by simp) fun h6 o6 => put 2 (.int .i64 _) { x with a := pk zs (t' + 1 + 1 + 1) [0, 101, 21, 1000000000001, -1] } T _ _ (by decide) rfl hxt htg (by omega) (by unfold spO; rw [if_neg c0, if_neg c1, if_pos c2]; rfl) o6
      · exact pick_e hI S0 o5 (by omega) [0, 1, 21, -1] (by simp) (by simp) fun h6 o6 => put 3 (.int .i64 _) { x with b := pk zs (t' + 1 + 1 + 1) [0, 1, 21, -1] } T _ _ (by decide) rfl hxt htg (by omega) (by unfold spO; rw [if_neg c0, if_neg c1, if_neg c2, if_pos c3]; rfl) o6
      · exact pick_e hI S0 o5 (by omega) [-1, 0, 1000000000001] (by simp) (by simp) fun h6 o6 => pick_e hI S0 o6 (by omega) [-1, 0] (by simp) (by simp) fun h7 o7 => two 5 6 (.int .i64 _) (.int .i64 _) { x with least := pk zs (t' + 1 + 1 + 1) [-1, 0, 1000000000001] } { x with least := pk zs (t' + 1 + 1 + 1) [-1, 0, 1000000000001], most := pk zs (t' + 1 + 1 + 1 + 1) [-1, 0] } _ _ (by decide) (by decide) rfl rfl rfl rfl (by omega) (by unfold spO; rw [if_neg c0, if_neg c1, if_neg c2, if_neg c3, if_pos c4]; rfl) o7
      · exact pick_e hI S0 o5 (by omega) [-1, 4321440, 5] (by simp) (by simp) fun h6 o6 => pick_e hI S0 o6 (by omega) [5, 6, 4321441] (by simp) (by simp) fun h7 o7 => two 10 11 (.int .i64 _) (.int .i64 _) { x with from_ := pk zs (t' + 1 + 1 + 1) [-1, 4321440, 5] } { x with from_ := pk zs (t' + 1 + 1 + 1) [-1, 4321440, 5], to_ := pk zs (t' + 1 + 1 + 1 + 1) [5, 6, 4321441] } _ _ (by decide) (by decide) rfl rfl rfl rfl (by omega) (by unfold spO; rw [if_neg c0, if_neg c1, if_neg c2, if_neg c3, if_neg c4, if_pos c5]; rfl) o7
      · exact one_e hI S0 o5 (by omega) [⟨#[71]⟩, ⟨#[103, 49]⟩] (by simp) (by simp) fun h6 o6 => put 7 (.str _) { x with group := on zs (t' + 1 + 1 + 1) [⟨#[71]⟩, ⟨#[103, 49]⟩] } T _ _ (by decide) rfl hxt htg (by omega) (by unfold spO; rw [if_neg c0, if_neg c1, if_neg c2, if_neg c3, if_neg c4, if_neg c5, if_pos c6]; rfl) o6
      · refine newK_intro fun i1 g1 hn1 he1 => newK_intro fun i2 g2 hn2 he2 => newK_intro fun i3 g3 hn3 he3 => newK_intro fun i4 g4 hn4 he4 => ?_
        subst he1 he2 he3 he4
        have q1 := (o5.new (sz := 1) (n := 1) (cs := strs [⟨#[72, 97, 116]⟩]) hn1 rfl).swp
        have q2 := (q1.new (sz := 1) (n := 2) (cs := strs [⟨#[104, 97, 116]⟩, ⟨#[99, 97, 112]⟩]) hn2 rfl).swp
        have q3 := (q2.new (sz := 1) (n := 11) (cs := strs [⟨#[97]⟩, ⟨#[98]⟩, ⟨#[99]⟩, ⟨#[100]⟩, ⟨#[101]⟩, ⟨#[102]⟩, ⟨#[103]⟩, ⟨#[104]⟩, ⟨#[105]⟩, ⟨#[106]⟩, ⟨#[107]⟩]) hn3 rfl).swp
        have q4 := (q3.new (sz := 1) (n := 3) (cs := slC [(⟨some (i1, 0), 1⟩, [⟨#[72, 97, 116]⟩]), (⟨some (i2, 0), 2⟩, [⟨#[104, 97, 116]⟩, ⟨#[99, 97, 112]⟩]), (⟨some (i3, 0), 11⟩, [⟨#[97]⟩, ⟨#[98]⟩, ⟨#[99]⟩, ⟨#[100]⟩, ⟨#[101]⟩, ⟨#[102]⟩, ⟨#[103]⟩, ⟨#[104]⟩, ⟨#[105]⟩, ⟨#[106]⟩, ⟨#[107]⟩])]) hn4 rfl).swp
        refine tags_e hI S0 (T := [(1, ⟨some (i3, 0), 11⟩, strs [⟨#[97]⟩, ⟨#[98]⟩, ⟨#[99]⟩, ⟨#[100]⟩, ⟨#[101]⟩, ⟨#[102]⟩, ⟨#[103]⟩, ⟨#[104]⟩, ⟨#[105]⟩, ⟨#[106]⟩, ⟨#[107]⟩]), (1, ⟨some (i2, 0), 2⟩, strs [⟨#[104, 97, 116]⟩, ⟨#[99, 97, 112]⟩]), (1, ⟨some (i1, 0), 1⟩, strs [⟨#[72, 97, 116]⟩])]) (L := (12, ⟨some (bs, 0), s.len⟩, rows offC xs) :: (T ++ L)) q4 (by omega) rfl (by decide) (by decide) (by simp [tgIn]) fun sl h7 htg7 o7 => ?_
        refine put 4 (.slice 1 sl) { x with tg := sl, tags := tgn zs (t' + 1 + 1 + 1) tagsO } (_ ++ T) _ (t' + 1 + 1 + 1 + 1) (by decide) rfl (htg7.mono fun p hp => List.mem_append_left _ hp) (fun y hy => (htg y hy).mono fun p hp => List.mem_append_right _ hp) (by omega) (by unfold spO; rw [if_neg c0, if_neg c1, if_neg c2, if_neg c3, if_neg c4, if_neg c5, if_neg c6, if_pos c7]; rfl) ?_
        rw [List.append_assoc]
        exact o7.perm (List.Perm.cons _ List.perm_middle)
      · exact pick_e hI S0 o5 (by omega) [-1, 1001] (by simp) (by simp) fun h6 o6 => put 9 (.int .i64 _) { x with order := pk zs (t' + 1 + 1 + 1) [-1, 1001] } T _ _ (by decide) rfl hxt htg (by omega) (by unfold spO; rw [if_neg c0, if_neg c1, if_neg c2, if_neg c3, if_neg c4, if_neg c5, if_neg c6, if_neg c7]; rfl) o6
    · intro jk hjk
      refine flip_e hI S0 o (by omega) (by decide) (by decide) fun h3 o3 => ?_
      refine ifT_dec (fun hz => hjk _ _ ⟨o3, ?_⟩) fun hz => hjk _ _ ⟨o3, by rw [if_neg hz]⟩
      rw [if_pos hz, hal]
end
end Go.Proofs.YtdjancoknephnaaGreatVc
-- SsGen3
namespace Go.Proofs.YtdjancoknephnaaGreatVc
open Go.Proofs.Tryz (prog)
def Itm.pur (x : Itm) : Itm := { x with tg := ⟨none, 0⟩ }
def dI : Itm := ⟨⟨#[]⟩, 0, 0, ⟨none, 0⟩, []⟩
def keyI (j : Nat) : ByteArray := (⟨#[105]⟩ : ByteArray) ++ Utf8.encode (IntKind.i32.wrap (IntKind.i64.wrap (97 + (j : Int))))
def tagsI : List (List ByteArray) := [[], [⟨#[104, 97, 116]⟩], [⟨#[99, 97, 112]⟩], [⟨#[99, 97, 112]⟩, ⟨#[104, 97, 116]⟩], [⟨#[115, 104, 111, 101]⟩]]
def tagsJ : List (List ByteArray) := [[⟨#[98]⟩, ⟨#[97]⟩], [⟨#[]⟩], [⟨#[120]⟩, ⟨#[120]⟩]]
def itmsL (zs : List Int) (t : Nat) : Nat → List Itm × Nat
  | 0 => ([], t)
  | j + 1 => ((itmsL zs t j).1 ++ [⟨keyI j, pk zs (itmsL zs t j).2 [0, 1, 99, 300, 1000, 2001, 10000000], pk zs ((itmsL zs t j).2 + 1) [1, 1, 2, 3, 7, 100], ⟨none, 0⟩, tgn zs ((itmsL zs t j).2 + 1 + 1) tagsI⟩], (itmsL zs t j).2 + 1 + 1 + 1)
def spI (zs : List Int) (x : Itm) (c : Int) (t : Nat) : Itm × Nat :=
  if c = 0 then ({ x with key := on zs t [⟨#[]⟩, ⟨#[105, 97]⟩, ⟨#[73]⟩] }, t + 1)
  else if c = 1 then ({ x with cents := pk zs t [-1, 10000001] }, t + 1)
  else if c = 2 then ({ x with many := pk zs t [0, 101] }, t + 1)
  else ({ x with tags := tgn zs t tagsJ }, t + 1)
def basE (zs : List Int) (xs : List Itm) (t : Nat) : List Itm × Nat :=
  if (if nv zs t 12 = 0 then decide ((xs.length : Int) > 0) else false) = true then
    (xs.set (nv zs (t + 1) xs.length).toNat (spI zs (xs[(nv zs (t + 1) xs.length).toNat]?.getD dI) (nv zs (t + 1 + 1) 4) (t + 1 + 1 + 1)).1, (spI zs (xs[(nv zs (t + 1) xs.length).toNat]?.getD dI) (nv zs (t + 1 + 1) 4) (t + 1 + 1 + 1)).2) else (xs, t + 1)
def basS (zs : List Int) (ship : Int) (xs : List Itm) (t : Nat) : Int × List Itm × Nat :=
  if nv zs t 12 = 0 then (pk zs (t + 1) [-1, 1000000000001, 0], basE zs xs (t + 1 + 1)) else (ship, basE zs xs (t + 1))
/-- A basket that is drawn at a place: its shipping, its items, and the place after it. -/
def basG (zs : List Int) (t : Nat) : Int × List Itm × Nat := basS zs (pk zs t [0, 0, 495, 1000, 1000000000000]) (itmsL zs (t + 1 + 1) (nv zs (t + 1) 5).toNat).1 (itmsL zs (t + 1 + 1) (nv zs (t + 1) 5).toNat).2
theorem ipur_len (xs : List Itm) : (xs.map Itm.pur).length = xs.length := by simp
theorem ipur_get {xs : List Itm} {e : Nat} {x : Itm} (h : xs[e]? = some x) : (xs.map Itm.pur)[e]?.getD dI = x.pur := by rw [List.getElem?_map, h]; rfl
section
variable {I : Calls} {Q : Post} {h hb : Heap} {i : Nat} {l : Sl} {zs : List Int} {t0 : Nat}
theorem spec6e (hI : Closed' prog Pm I) (S0 : Strm hb i l zs t0) {t : Nat} {L : List Ow} (o : Owns (hb.del i) h (owS i l t :: L)) (ht : t < 100000)
    (hQ : ∀ s' ship xs T t' h', Owns (hb.del i) h' (owS i l t' :: (4, s', rows itmC xs) :: (T ++ L)) → (∀ x ∈ xs, tgIn T x.tg x.tags) → xs.length ≤ 4 → t' ≤ t + 100 → basG zs t = (ship, xs.map Itm.pur, t') → Q [.agg [.slice 4 s', .int .i64 ship]] h') : I 6 [.one (.ptr (some (i, 0)))] Q h := by
  refine hI.go _ _ (den6 I (some (i, 0)) Q) ?_
  refine pick_e hI S0 o (by omega) [0, 0, 495, 1000, 1000000000000] (by simp) (by simp) fun h1 o0 => ?_
  refine nx_e hI S0 o0 (by omega) (by decide) (by decide) fun h2 hn2 hn3 o1 => ?_
  have hB : basG zs t = basS zs (pk zs t [0, 0, 495, 1000, 1000000000000]) (itmsL zs (t + 1 + 1) (nv zs (t + 1) 5).toNat).1 (itmsL zs (t + 1 + 1) (nv zs (t + 1) 5).toNat).2 := rfl
  rw [hB] at hQ
  clear hB
  generalize pk zs t [0, 0, 495, 1000, 1000000000000] = ship0 at hQ ⊢
  generalize nv zs (t + 1) 5 = n at hn2 hn3 hQ
  refine loopK_intro (fun (a : (Sl × Int × PUnit) × Int) h' m => ∃ (j t' : Nat) (T : List Ow) (xs : List Itm), (j : Int) ≤ n ∧ a.2 = j ∧ 5 - j = m ∧ t' ≤ t + 2 + 6 * j ∧ xs.length = j ∧ a.1.2.1 = ship0 ∧ (∀ x ∈ xs, tgIn T x.tg x.tags) ∧ itmsL zs (t + 1 + 1) j = (xs.map Itm.pur, t') ∧ Owns (hb.del i) h' (owS i l t' :: (4, a.1.1, rows itmC xs) :: (T ++ L))) 5
    ⟨0, t + 1 + 1, [], [], by omega, rfl, rfl, by omega, rfl, rfl, by simp, rfl, (o1.none_ 4).swp⟩ ?_
  rintro ⟨⟨s, ship, u⟩, y⟩ h' m ⟨j, t', T, xs, hj, rfl, rfl, ht', hxl, hsh, htg, hG, o⟩
  obtain rfl : ship = ship0 := hsh
  dsimp only [uncur] at o ⊢
  have hal : s.len = xs.length := (o.at_ (s := s) (by simp)).rowsLen itmC_length (by decide)
  refine ifT_dec (fun hlt => ?_) (fun hge => ?_)
  · have hes := encode_size (IntKind.i32.wrap (IntKind.i64.wrap (97 + (j : Int))))
    refine ⟨by omega, pick_e hI S0 o (by omega) [0, 1, 99, 300, 1000, 2001, 10000000] (by simp) (by simp) fun h2 o2 => pick_e hI S0 o2 (by omega) [1, 1, 2, 3, 7, 100] (by simp) (by simp) fun h3 o3 => ?_⟩
    refine newK_intro fun i1 g1 hn1 he1 => newK_intro fun i2 g2 hn2 he2 => newK_intro fun i3 g3 hn3 he3 => newK_intro fun i4 g4 hn4 he4 => newK_intro fun i5 g5 hn5 he5 => ?_
    subst he1 he2 he3 he4 he5
    have q1 := (o3.new (sz := 1) (n := 1) (cs := strs [⟨#[104, 97, 116]⟩]) hn1 rfl).swp
    have q2 := (q1.new (sz := 1) (n := 1) (cs := strs [⟨#[99, 97, 112]⟩]) hn2 rfl).swp
    have q3 := (q2.new (sz := 1) (n := 2) (cs := strs [⟨#[99, 97, 112]⟩, ⟨#[104, 97, 116]⟩]) hn3 rfl).swp
    have q4 := (q3.new (sz := 1) (n := 1) (cs := strs [⟨#[115, 104, 111, 101]⟩]) hn4 rfl).swp
    have q5 := (q4.new (sz := 1) (n := 5) (cs := slC [(⟨none, 0⟩, []), (⟨some (i1, 0), 1⟩, [⟨#[104, 97, 116]⟩]), (⟨some (i2, 0), 1⟩, [⟨#[99, 97, 112]⟩]), (⟨some (i3, 0), 2⟩, [⟨#[99, 97, 112]⟩, ⟨#[104, 97, 116]⟩]), (⟨some (i4, 0), 1⟩, [⟨#[115, 104, 111, 101]⟩])]) hn5 rfl).swp
    refine tags_e hI S0 (T := [(1, ⟨some (i4, 0), 1⟩, strs [⟨#[115, 104, 111, 101]⟩]), (1, ⟨some (i3, 0), 2⟩, strs [⟨#[99, 97, 112]⟩, ⟨#[104, 97, 116]⟩]), (1, ⟨some (i2, 0), 1⟩, strs [⟨#[99, 97, 112]⟩]), (1, ⟨some (i1, 0), 1⟩, strs [⟨#[104, 97, 116]⟩])]) (L := (4, s, rows itmC xs) :: (T ++ L)) q5 (by omega) rfl (by decide) (by decide) (by simp [tgIn]) fun sl h7 htg7 o7 => ?_
    obtain ⟨T2, hT2⟩ : ∃ T2 : List Ow, T2 = [(1, ⟨some (i4, 0), 1⟩, strs [⟨#[115, 104, 111, 101]⟩]), (1, ⟨some (i3, 0), 2⟩, strs [⟨#[99, 97, 112]⟩, ⟨#[104, 97, 116]⟩]), (1, ⟨some (i2, 0), 1⟩, strs [⟨#[99, 97, 112]⟩]), (1, ⟨some (i1, 0), 1⟩, strs [⟨#[104, 97, 116]⟩])] := ⟨_, rfl⟩
    rw [← hT2] at htg7 o7
    have o8 : Owns (hb.del i) h7 (owS i l (t' + 1 + 1 + 1) :: (4, s, rows itmC xs) :: ((T2 ++ T) ++ L)) := by
      rw [List.append_assoc]
      exact o7.perm (List.Perm.cons _ List.perm_middle)
    refine appendTo_owns (m := 0) o8.swp (by rfl) (by omega) (by simp) fun bn h9 o9 => ⟨5 - (j + 1), by omega, j + 1, t' + 1 + 1 + 1, T2 ++ T, xs ++ [⟨keyI j, pk zs t' [0, 1, 99, 300, 1000, 2001, 10000000], pk zs (t' + 1) [1, 1, 2, 3, 7, 100], sl, tgn zs (t' + 1 + 1) tagsI⟩], by omega, by rw [w64] <;> omega, rfl, by omega, by simp [hxl], rfl, fun y hy => ?_, ?_, ?_⟩
    · rcases List.mem_append.1 hy with hy | hy
      · exact (htg y hy).mono fun p hp => List.mem_append_right _ hp
      · have := List.mem_singleton.1 hy
        subst this
        exact htg7.mono fun p hp => List.mem_append_left _ hp
    · show ((itmsL zs (t + 1 + 1) j).1 ++ [_], (itmsL zs (t + 1 + 1) j).2 + 1 + 1 + 1) = _
      rw [hG]
      simp only [List.map_append, List.map_cons, List.map_nil]
      rfl
    · rw [rows_append]
      have := o9.swp
      simpa [rows, itmC, keyI] using this
  · have hjn : n.toNat = j := by omega
    rw [hjn, hG] at hQ
    refine flip_e hI S0 o (by omega) (by decide) (by decide) fun h2 o2 => ?_
    refine joinK_intro (fun (p : Sl × Int × PUnit) h' => ∃ t9, t9 ≤ t + 2 + 6 * j + 2 ∧ t9 ≤ t + 40 ∧ p.1 = s ∧ basS zs ship (xs.map Itm.pur) t' = (p.2.1, basE zs (xs.map Itm.pur) t9) ∧ Owns (hb.del i) h' (owS i l t9 :: (4, s, rows itmC xs) :: (T ++ L))) ?_ fun jk hjk => ifT_dec (fun e => pick_e hI S0 o2 (by omega) [-1, 1000000000001, 0] (by simp) (by simp) fun h3 o3 => hjk _ _ ⟨_, by omega, by omega, rfl, by unfold basS; rw [if_pos e], o3⟩) fun e => hjk _ _ ⟨_, by omega, by omega, rfl, by unfold basS; rw [if_neg e], o2⟩
    clear o o2
    rintro ⟨s', ship2, u⟩ h2 ⟨t9, ht1, ht2, hs, hS, o⟩
    obtain rfl : s' = s := hs
    rw [hS] at hQ
    clear hS ht' hG
    dsimp only [uncur]
    have fin : ∀ (s' : Sl) (ys : List Itm) (T' : List Ow) (t10 : Nat) (h9 : Heap), ys.length = xs.length → t10 ≤ t9 + 10 → (∀ x ∈ ys, tgIn T' x.tg x.tags) → basE zs (xs.map Itm.pur) t9 = (ys.map Itm.pur, t10) → Owns (hb.del i) h9 (owS i l t10 :: (4, s', rows itmC ys) :: (T' ++ L)) → Q [.agg [.slice 4 s', .int .i64 ship2]] h9 := fun s' ys T' t10 h9 hy ht10 hg hq o9 => hQ s' ship2 ys T' t10 h9 o9 hg (by omega) (by omega) (by rw [hq])
    refine joinK_intro (fun (b : Bool) h3 => Owns (hb.del i) h3 (owS i l (t9 + 1) :: (4, s', rows itmC xs) :: (T ++ L)) ∧ b = (if nv zs t9 12 = 0 then decide ((xs.length : Int) > 0) else false)) ?_ ?_
    · rintro b h3 ⟨o3, hbp⟩
      refine ifT_intro (fun hbt => ?_) fun hbt => fin _ _ _ _ _ rfl (by omega) htg (by unfold basE; rw [ipur_len, ← hbp, if_neg (by rw [hbt]; decide)]) o3
      have hpos : 0 < xs.length := by
        rw [hbt] at hbp
        by_cases hz : nv zs t9 12 = 0
        · rw [if_pos hz] at hbp
          have := of_decide_eq_true hbp.symm
          omega
        · rw [if_neg hz] at hbp; cases hbp
      have hE2 : basE zs (xs.map Itm.pur) t9 = ((xs.map Itm.pur).set (nv zs (t9 + 1) s'.len).toNat (spI zs ((xs.map Itm.pur)[(nv zs (t9 + 1) s'.len).toNat]?.getD dI) (nv zs (t9 + 1 + 1) 4) (t9 + 1 + 1 + 1)).1, (spI zs ((xs.map Itm.pur)[(nv zs (t9 + 1) s'.len).toNat]?.getD dI) (nv zs (t9 + 1 + 1) 4) (t9 + 1 + 1 + 1)).2) := by
        unfold basE; rw [ipur_len, ← hbp, if_pos hbt, hal]
      rw [hE2] at fin
      refine nx_e hI S0 o3 (by omega) (by omega) (by omega) fun h4 he0 he1 o4 => ⟨⟨he0, he1⟩, ?_⟩
      generalize nv zs (t9 + 1) (s'.len : Int) = e at he0 he1 fin ⊢
      obtain ⟨e, rfl⟩ := Int.eq_ofNat_of_zero_le he0
      rw [Int.toNat_natCast] at fin
      have hrl := rows_length itmC_length xs
      obtain ⟨bs, hbs, hcs⟩ := o4.has (s := s') (cs := rows itmC xs) (sz := 4) (by simp) (fun h => by rw [h] at hrl; simp at hrl; omega)
      rw [hbs] at o4 ⊢
      refine derefK_intro rfl ?_
      refine nx_e hI S0 o4 (by omega) (by decide) (by decide) fun h5 hc0 hc1 o5 => ?_
      have hx := List.getElem?_eq_getElem (show e < xs.length by omega)
      generalize xs[e] = x at hx
      have hxt := htg x (List.mem_of_getElem? hx)
      rw [ipur_get hx] at fin
      generalize nv zs (t9 + 1 + 1) 4 = c at hc0 hc1 fin ⊢
      have put : ∀ (j2 : Nat) (c2 : Cell) (x' : Itm) (T' : List Ow) (h9 : Heap) (t10 : Nat), j2 < 4 → (itmC x).set j2 c2 = itmC x' → tgIn T' x'.tg x'.tags → (∀ x ∈ xs, tgIn T' x.tg x.tags) → t10 ≤ t9 + 6 → spI zs x.pur c (t9 + 1 + 1 + 1) = (x'.pur, t10) → Owns (hb.del i) h9 (owS i l t10 :: (4, ⟨some (bs, 0), s'.len⟩, rows itmC xs) :: (T' ++ L)) →
          storeK [] bs (0 + ((e : Nat) : Int).toNat * 4 + j2) [c2] (Q [.agg [.slice 4 ⟨some (bs, 0), s'.len⟩, .int .i64 ship2]]) h9 := fun j2 c2 x' T' h9 t10 hj2 hset hx' hg ht9 hq o9 =>
        store_row itmC_length o9.swp hx hj2 hset fun h10 o10 => fin _ (xs.set e x') T' t10 _ (by simp) (by omega) (fun y hy => by
          rcases List.mem_or_eq_of_mem_set hy with hy | rfl
          · exact hg y hy
          · exact hx') (by rw [hq, List.map_set]) o10.swp
      refine ifT_dec (fun c0 => ?_) fun c0 => ifT_dec (fun c1 => ?_) fun c1 => ifT_dec (fun c2 => ?_) fun c2 => ?_
      · exact one_e hI S0 o5 (by omega) [⟨#[]⟩, ⟨#[105, 97]⟩, ⟨#[73]⟩] (by simp) (by simp) fun h6 o6 => put 0 (.str _) { x with key := on zs (t9 + 1 + 1 + 1) [⟨#[]⟩, ⟨#[105, 97]⟩, ⟨#[73]⟩] } T _ _ (by decide) rfl hxt htg (by omega) (by unfold spI; rw [if_pos c0]; rfl) o6
      · exact pick_e hI S0 o5 (by omega) [-1, 10000001] (by simp) (by simp) fun h6 o6 => put 1 (.int .i64 _) { x with cents := pk zs (t9 + 1 + 1 + 1) [-1, 10000001] } T _ _ (by decide) rfl hxt htg (by omega) (by unfold spI; rw [if_neg c0, if_pos c1]; rfl) o6
      · exact pick_e hI S0 o5 (by omega) [0, 101] (by simp) (by simp) fun h6 o6 => put 2 (.int .i64 _) { x with many := pk zs (t9 + 1 + 1 + 1) [0, 101] } T _ _ (by decide) rfl hxt htg (by omega) (by unfold spI; rw [if_neg c0, if_neg c1, if_pos c2]; rfl) o6
      · refine newK_intro fun i1 g1 hn1 he1 => newK_intro fun i2 g2 hn2 he2 => newK_intro fun i3 g3 hn3 he3 => newK_intro fun i4 g4 hn4 he4 => ?_
        subst he1 he2 he3 he4
        have q1 := (o5.new (sz := 1) (n := 2) (cs := strs [⟨#[98]⟩, ⟨#[97]⟩]) hn1 rfl).swp
        have q2 := (q1.new (sz := 1) (n := 1) (cs := strs [⟨#[]⟩]) hn2 rfl).swp
        have q3 := (q2.new (sz := 1) (n := 2) (cs := strs [⟨#[120]⟩, ⟨#[120]⟩]) hn3 rfl).swp
        have q4 := (q3.new (sz := 1) (n := 3) (cs := slC [(⟨some (i1, 0), 2⟩, [⟨#[98]⟩, ⟨#[97]⟩]), (⟨some (i2, 0), 1⟩, [⟨#[]⟩]), (⟨some (i3, 0), 2⟩, [⟨#[120]⟩, ⟨#[120]⟩])]) hn4 rfl).swp
        refine tags_e hI S0 (T := [(1, ⟨some (i3, 0), 2⟩, strs [⟨#[120]⟩, ⟨#[120]⟩]), (1, ⟨some (i2, 0), 1⟩, strs [⟨#[]⟩]), (1, ⟨some (i1, 0), 2⟩, strs [⟨#[98]⟩, ⟨#[97]⟩])]) (L := (4, ⟨some (bs, 0), s'.len⟩, rows itmC xs) :: (T ++ L)) q4 (by omega) rfl (by decide) (by decide) (by simp [tgIn]) fun sl h7 htg7 o7 => ?_
        refine put 3 (.slice 1 sl) { x with tg := sl, tags := tgn zs (t9 + 1 + 1 + 1) tagsJ } (_ ++ T) _ (t9 + 1 + 1 + 1 + 1) (by decide) rfl (htg7.mono fun p hp => List.mem_append_left _ hp) (fun y hy => (htg y hy).mono fun p hp => List.mem_append_right _ hp) (by omega) (by unfold spI; rw [if_neg c0, if_neg c1, if_neg c2]; rfl) ?_
        rw [List.append_assoc]
        exact o7.perm (List.Perm.cons _ List.perm_middle)
    · intro jk hjk
      refine flip_e hI S0 o (by omega) (by decide) (by decide) fun h3 o3 => ?_
      refine ifT_dec (fun hz => hjk _ _ ⟨o3, ?_⟩) fun hz => hjk _ _ ⟨o3, by rw [if_neg hz]⟩
      rw [if_pos hz, hal]
end
end Go.Proofs.YtdjancoknephnaaGreatVc
-- SsGen4
namespace Go.Proofs.YtdjancoknephnaaGreatVc
open Go.Proofs.Tryz (prog)
abbrev CelP := List ByteArray × Int × Int
def gs1 (j : Nat) : ByteArray := [(⟨#[97]⟩ : ByteArray), ⟨#[98]⟩][j]?.getD ⟨#[]⟩
def gs2 (j : Nat) : ByteArray := [(⟨#[120]⟩ : ByteArray), ⟨#[121]⟩][j]?.getD ⟨#[]⟩
def gs3 (j : Nat) : ByteArray := [(⟨#[109]⟩ : ByteArray), ⟨#[110]⟩][j]?.getD ⟨#[]⟩
def skipC (d : Int) (a b c : ByteArray) : Prop := (d < 3 ∧ c = ⟨#[110]⟩) ∨ (d < 2 ∧ b = ⟨#[121]⟩) ∨ (d < 1 ∧ a = ⟨#[98]⟩)
instance (d : Int) (a b c : ByteArray) : Decidable (skipC d a b c) := by unfold skipC; infer_instance
def cel2 (zs : List Int) (d : Int) (ks : List ByteArray) (sk : Bool) (l : List CelP) (t : Nat) : List CelP × Nat :=
  if sk = true then (l, t) else (l ++ [(ks.take d.toNat, pk zs t [0, 1, 5, 999999, 1000000], pk zs (t + 1) [0, 7, -7, 1000000000000, -1000000000000])], t + 1 + 1)
def cel1 (zs : List Int) (d : Int) (a b c : ByteArray) (p : List CelP × Nat) : List CelP × Nat :=
  if skipC d a b c then cel2 zs d [a, b, c] true p.1 p.2 else cel2 zs d [a, b, c] (decide (nv zs p.2 3 = 0)) p.1 (p.2 + 1)
def cL3 (zs : List Int) (d : Int) (a b : ByteArray) (p : List CelP × Nat) : Nat → List CelP × Nat
  | 0 => p
  | j + 1 => cel1 zs d a b (gs3 j) (cL3 zs d a b p j)
def cL2 (zs : List Int) (d : Int) (a : ByteArray) (p : List CelP × Nat) : Nat → List CelP × Nat
  | 0 => p
  | j + 1 => cL3 zs d a (gs2 j) (cL2 zs d a p j) 2
def cL1 (zs : List Int) (d : Int) (p : List CelP × Nat) : Nat → List CelP × Nat
  | 0 => p
  | j + 1 => cL2 zs d (gs1 j) (cL1 zs d p j) 2
def spC (zs : List Int) (x : CelP) (c : Int) (t : Nat) : CelP × Nat :=
  if c = 0 then ((on zs t [⟨#[97]⟩, ⟨#[]⟩, ⟨#[122]⟩] :: x.1, x.2.1, x.2.2), t + 1)
  else if c = 1 then ((x.1, pk zs t [-1, 1000001], x.2.2), t + 1)
  else ((x.1, x.2.1, pk zs t [1000000000001, -1000000000001]), t + 1)
def celsE (zs : List Int) (xs : List CelP) (t : Nat) : List CelP × Nat :=
  if (if nv zs t 12 = 0 then decide ((xs.length : Int) > 0) else false) = true then
    (xs.set (nv zs (t + 1) xs.length).toNat (spC zs (xs[(nv zs (t + 1) xs.length).toNat]?.getD ([], 0, 0)) (nv zs (t + 1 + 1) 3) (t + 1 + 1 + 1)).1, (spC zs (xs[(nv zs (t + 1) xs.length).toNat]?.getD ([], 0, 0)) (nv zs (t + 1 + 1) 3) (t + 1 + 1 + 1)).2) else (xs, t + 1)
/-- Cells that are drawn at a place, and the place after them. -/
def celsG (zs : List Int) (t : Nat) : List CelP × Nat := celsE zs (cL1 zs (rg zs t 0 3) ([], t + 1) 2).1 (cL1 zs (rg zs t 0 3) ([], t + 1) 2).2
theorem pc_len (xs : List Cel) : (xs.map pc).length = xs.length := by simp
theorem pc_get {xs : List Cel} {e : Nat} {x : Cel} (h : xs[e]? = some x) : (xs.map pc)[e]?.getD ([], 0, 0) = pc x := by rw [List.getElem?_map, h]; rfl
section
variable {I : Calls} {Q : Post} {h hb : Heap} {i : Nat} {l : Sl} {zs : List Int} {t0 : Nat}
theorem spec20e (hI : Closed' prog Pm I) {t : Nat} {s : Sl} {xs : List ByteArray} (S : Strm h i l zs t) (hs : At (h.set i (strm l (t + 1))) 1 s (strs xs)) (h1 : xs ≠ []) (h2 : xs.length < 1000)
    (hQ : Q [str (on zs t xs)] (h.set i (strm l (t + 1)))) : I 20 [.one (.ptr (some (i, 0))), .one (.slice 1 s)] Q h := by
  have hl : s.len = xs.length := by simpa [strs] using hs.1
  have hpos := List.length_pos_iff.2 h1
  refine hI.go _ _ (den20 I (some (i, 0)) s Q) ?_
  have hv1 : 0 ≤ nv zs t xs.length := nv_lo (by omega)
  have hv2 : nv zs t xs.length < xs.length := nv_hi (by omega)
  unfold on at hQ
  rw [← hl] at hv1 hv2 hQ
  refine spec19e hI S (by omega) (by omega) ⟨_, rfl, ⟨hv1, hv2⟩, hs.one hv1 hv2 fun b o c hc hr => ?_⟩
  simp only [strs, List.getElem?_map] at hc
  cases hz : xs[(nv zs t s.len).toNat]? with
  | none => rw [hz] at hc; cases hc
  | some z =>
    rw [hz] at hc hQ
    cases hc
    exact ⟨z, hr, hQ⟩
set_option maxHeartbeats 400000 in
theorem spec4e (hI : Closed' prog Pm I) (S0 : Strm hb i l zs t0) {t : Nat} {L0 : List Ow} (o : Owns (hb.del i) h (owS i l t :: L0)) (ht : t < 100000)
    (hQ : ∀ s' h' xs t' L, Owns (hb.del i) h' (owS i l t' :: (3, s', rows celC xs) :: L) → KL 4 L xs → (∀ p ∈ L0, p ∈ L) → t' ≤ t + 1000 → xs.length ≤ 8 → celsG zs t = (xs.map pc, t') → Q [sls 3 s'] h') : I 4 [.one (.ptr (some (i, 0)))] Q h := by
  refine hI.go _ _ (den4 I (some (i, 0)) Q) ?_
  refine rng_e hI S0 o (by omega) (by decide) (by decide) (by decide) fun h1 hd0 hd3 o1 => ?_
  have hB : celsG zs t = celsE zs (cL1 zs (rg zs t 0 3) ([], t + 1) 2).1 (cL1 zs (rg zs t 0 3) ([], t + 1) 2).2 := rfl
  rw [hB] at hQ
  clear hB
  generalize rg zs t 0 3 = d at hd0 hd3 hQ ⊢
  obtain ⟨d, rfl⟩ := Int.eq_ofNat_of_zero_le hd0
  refine new_strs o1 [⟨#[97]⟩, ⟨#[98]⟩] fun i5 g5 o5 => ?_
  have o5' := (o5.swp.none_ 3).swp
  clear o o5
  refine loopK_intro (fun (a : Sl × Int) h' m => ∃ (j t' : Nat) (xs : List Cel) (L : List Ow), j ≤ 2 ∧ a.2 = j ∧ 2 - j = m ∧ t' ≤ t + 1 + 100 * j ∧ xs.length ≤ 4 * j ∧ Owns (hb.del i) h' (owS i l t' :: (3, a.1, rows celC xs) :: L) ∧
      KL 3 L xs ∧ (∀ p ∈ L0, p ∈ L) ∧ (1, ⟨some (i5, 0), 2⟩, strs [⟨#[97]⟩, ⟨#[98]⟩]) ∈ L ∧ cL1 zs d ([], t + 1) j = (xs.map pc, t')) 2
    ⟨0, t + 1, [], _, by omega, rfl, rfl, by omega, by simp, o5', (fun _ h => by cases h), (fun p hp => by simp [hp]), by simp, rfl⟩ ?_
  clear o5'
  rintro ⟨s1, n1⟩ h1 m ⟨j1, t1, x1, L1, hj1, rfl, rfl, ht1, hl1, o1, k1, sub1, lit1, G1⟩
  dsimp only [uncur] at o1 ⊢
  refine ifT_dec (fun hlt => ⟨⟨by omega, hlt⟩, ?_⟩) fun hge => ?_
  · obtain ⟨sa, hx⟩ : ∃ x, [(⟨#[97]⟩ : ByteArray), ⟨#[98]⟩][j1]? = some x := ⟨_, List.getElem?_eq_getElem (show j1 < [(⟨#[97]⟩ : ByteArray), ⟨#[98]⟩].length by simp; omega)⟩
    have ga : gs1 j1 = sa := by unfold gs1; rw [hx]; rfl
    refine ⟨sa, read_cell (o1.block (by simp; exact .inr (.inr lit1))).1 ?_, ?_⟩
    · rw [Int.toNat_natCast, Nat.zero_add, Nat.mul_one]; unfold strs; rw [List.getElem?_map, hx]; rfl
    refine new_strs o1 [⟨#[120]⟩, ⟨#[121]⟩] fun i11 g11 o11 => ?_
    have o11' := o11.back
    clear o11
    refine loopK_intro (fun (a : Sl × Int) h' m => ∃ (j t' : Nat) (xs : List Cel) (L : List Ow), j ≤ 2 ∧ a.2 = j ∧ 2 - j = m ∧ t' ≤ t1 + 40 * j ∧ xs.length ≤ 4 * j1 + 2 * j ∧ Owns (hb.del i) h' (owS i l t' :: (3, a.1, rows celC xs) :: L) ∧
        KL 3 L xs ∧ (∀ p ∈ L0, p ∈ L) ∧ (1, ⟨some (i5, 0), 2⟩, strs [⟨#[97]⟩, ⟨#[98]⟩]) ∈ L ∧ (1, ⟨some (i11, 0), 2⟩, strs [⟨#[120]⟩, ⟨#[121]⟩]) ∈ L ∧ cL2 zs d sa (x1.map pc, t1) j = (xs.map pc, t')) 2
      ⟨0, t1, x1, _, by omega, rfl, rfl, by omega, by omega, o11', k1.mono (Nat.le_refl _) (fun p hp => by simp [hp]), (fun p hp => by simp [sub1 p hp]), by simp [lit1], by simp, rfl⟩ ?_
    clear o11' o1
    rintro ⟨s2, n2⟩ h2 m ⟨j2, t2, x2, L2, hj2, rfl, rfl, ht2, hl2, o2, k2, sub2, lit2, lit3, G2⟩
    dsimp only [uncur] at o2 ⊢
    refine ifT_dec (fun hlt2 => ⟨⟨by omega, hlt2⟩, ?_⟩) fun hge2 => ⟨2 - (j1 + 1), by omega, j1 + 1, t2, x2, L2, by omega, by show IntKind.i64.wrap _ = _; rw [w64] <;> omega, rfl, by omega, by omega, o2, k2, sub2, lit2, ?_⟩
    case refine_2 =>
      have : j2 = 2 := by omega
      subst this
      show cL2 zs d (gs1 j1) (cL1 zs d ([], t + 1) j1) 2 = _
      rw [G1, ga, G2]
    obtain ⟨sb, hx2⟩ : ∃ x, [(⟨#[120]⟩ : ByteArray), ⟨#[121]⟩][j2]? = some x := ⟨_, List.getElem?_eq_getElem (show j2 < [(⟨#[120]⟩ : ByteArray), ⟨#[121]⟩].length by simp; omega)⟩
    have gb : gs2 j2 = sb := by unfold gs2; rw [hx2]; rfl
    refine ⟨sb, read_cell (o2.block (by simp; exact .inr (.inr lit3))).1 ?_, ?_⟩
    · rw [Int.toNat_natCast, Nat.zero_add, Nat.mul_one]; unfold strs; rw [List.getElem?_map, hx2]; rfl
    refine new_strs o2 [⟨#[109]⟩, ⟨#[110]⟩] fun i17 g17 o17 => ?_
    have o17' := o17.back
    clear o17
    refine loopK_intro (fun (a : Sl × Int) h' m => ∃ (j t' : Nat) (xs : List Cel) (L : List Ow), j ≤ 2 ∧ a.2 = j ∧ 2 - j = m ∧ t' ≤ t2 + 10 * j ∧ xs.length ≤ 4 * j1 + 2 * j2 + j ∧ Owns (hb.del i) h' (owS i l t' :: (3, a.1, rows celC xs) :: L) ∧
        KL 3 L xs ∧ (∀ p ∈ L0, p ∈ L) ∧ (1, ⟨some (i5, 0), 2⟩, strs [⟨#[97]⟩, ⟨#[98]⟩]) ∈ L ∧ (1, ⟨some (i11, 0), 2⟩, strs [⟨#[120]⟩, ⟨#[121]⟩]) ∈ L ∧ (1, ⟨some (i17, 0), 2⟩, strs [⟨#[109]⟩, ⟨#[110]⟩]) ∈ L ∧ cL3 zs d sa sb (x2.map pc, t2) j = (xs.map pc, t')) 2
      ⟨0, t2, x2, _, by omega, rfl, rfl, by omega, by omega, o17', k2.mono (Nat.le_refl _) (fun p hp => by simp [hp]), (fun p hp => by simp [sub2 p hp]), by simp [lit2], by simp [lit3], by simp, rfl⟩ ?_
    clear o17' o2
    rintro ⟨s3, n3⟩ h3 m ⟨j3, t3, x3, L3, hj3, rfl, rfl, ht3, hl3, o3, k3, sub3, lit4, lit5, lit6, G3⟩
    dsimp only [uncur] at o3 ⊢
    refine ifT_dec (fun hlt3 => ⟨⟨by omega, hlt3⟩, ?_⟩) fun hge3 => ⟨2 - (j2 + 1), by omega, j2 + 1, t3, x3, L3, by omega, by show IntKind.i64.wrap _ = _; rw [w64] <;> omega, rfl, by omega, by omega, o3, k3, sub3, lit4, lit5, ?_⟩
    case refine_2 =>
      have : j3 = 2 := by omega
      subst this
      show cL3 zs d sa (gs2 j2) (cL2 zs d sa (x1.map pc, t1) j2) 2 = _
      rw [G2, gb, G3]
    obtain ⟨sc, hx3⟩ : ∃ x, [(⟨#[109]⟩ : ByteArray), ⟨#[110]⟩][j3]? = some x := ⟨_, List.getElem?_eq_getElem (show j3 < [(⟨#[109]⟩ : ByteArray), ⟨#[110]⟩].length by simp; omega)⟩
    have gc : gs3 j3 = sc := by unfold gs3; rw [hx3]; rfl
    have G4 : cL3 zs d sa sb (x2.map pc, t2) (j3 + 1) = cel1 zs d sa sb sc (x3.map pc, t3) := by
      show cel1 zs d sa sb (gs3 j3) (cL3 zs d sa sb (x2.map pc, t2) j3) = _
      rw [G3, gc]
    refine ⟨sc, read_cell (o3.block (by simp; exact .inr (.inr lit6))).1 ?_, ?_⟩
    · rw [Int.toNat_natCast, Nat.zero_add, Nat.mul_one]; unfold strs; rw [List.getElem?_map, hx3]; rfl
    have ew3 : IntKind.i64.wrap ((j3 : Int) + 1) = ((j3 + 1 : Nat) : Int) := by rw [w64] <;> omega
    refine joinK_intro (fun (b : Bool) g => ∃ t', t' ≤ t3 + 1 ∧ cel1 zs d sa sb sc (x3.map pc, t3) = cel2 zs d [sa, sb, sc] b (x3.map pc) t' ∧ Owns (hb.del i) g (owS i l t' :: (3, s3, rows celC x3) :: L3)) ?_ fun jk hjk => ?_
    case refine_2 =>
      have tr : skipC d sa sb sc → jk true h3 := fun e => hjk true h3 ⟨t3, by omega, by unfold cel1; rw [if_pos e], o3⟩
      have fl : ¬ skipC d sa sb sc → I 17 [.one (.ptr (some (i, 0))), int 3] (fun cs h' => ∃ b : Bool, cs = [boo b] ∧ jk b h') h3 := fun e => flip_e hI S0 o3 (by omega) (by decide) (by decide) fun h' o' => hjk _ h' ⟨_, by omega, by unfold cel1; rw [if_neg e], o'⟩
      clear hjk G1 G2 G3 G4 o3 k1 k2 k3 sub1 sub2 sub3 hQ
      repeat' first
        | exact tr (by first | exact .inl ⟨‹_›, ‹_›⟩ | exact .inr (.inl ⟨‹_›, ‹_›⟩) | exact .inr (.inr ⟨‹_›, ‹_›⟩))
        | exact fl (by rintro (⟨_, _⟩ | ⟨_, _⟩ | ⟨_, _⟩) <;> contradiction)
        | refine ifT_dec (fun _ => ?_) fun _ => ?_
    rintro b g ⟨t4, ht4, hG4, o4⟩
    rw [hG4] at G4
    refine ifT_intro (fun hb1 => ⟨2 - (j3 + 1), by omega, j3 + 1, t4, x3, L3, by omega, ew3, rfl, by omega, by omega, o4, k3, sub3, lit4, lit5, lit6, by rw [G4]; unfold cel2; rw [if_pos hb1]⟩) fun hb1 => ⟨⟨by omega, by omega⟩, ?_⟩
    refine pick_e hI S0 o4 (by omega) [0, 1, 5, 999999, 1000000] (by simp) (by simp) fun g5 o5 => ?_
    refine pick_e hI S0 o5 (by omega) [0, 7, -7, 1000000000000, -1000000000000] (by simp) (by simp) fun g6 o6 => ?_
    refine new_strs o6 [sa, sb, sc] fun i35 g7 o7 => ?_
    have hs3 : s3.len = x3.length := (o6.at_ (sz := 3) (s := s3) (cs := rows celC x3) (by simp)).rowsLen celC_length (by decide)
    have G5 : cL3 zs d sa sb (x2.map pc, t2) (j3 + 1) = (x3.map pc ++ [([sa, sb, sc].take d, pk zs t4 [0, 1, 5, 999999, 1000000], pk zs (t4 + 1) [0, 7, -7, 1000000000000, -1000000000000])], t4 + 1 + 1) := by
      rw [G4]; unfold cel2; rw [if_neg (by rw [hb1]; decide)]; rfl
    generalize pk zs t4 [0, 1, 5, 999999, 1000000] = v at G5 ⊢
    generalize pk zs (t4 + 1) [0, 7, -7, 1000000000000, -1000000000000] = u at G5 ⊢
    refine appendTo_owns (m := 0) o7.back.swp rfl (by omega) (by simp) fun bn g8 o8 => ?_
    have ex : rows celC x3 ++ [Cell.slice 1 ⟨some (i35, 0), ((d : Nat) : Int).toNat⟩, .int .i64 v, .int .i64 u] = rows celC (x3 ++ [⟨⟨some (i35, 0), d⟩, [sa, sb, sc].take d, v, u⟩]) := by rw [rows_snoc]; rfl
    rw [ex] at o8
    refine ⟨2 - (j3 + 1), by omega, j3 + 1, t4 + 1 + 1, _, _, by omega, ew3, rfl, by omega, by simp; omega, o8.swp, ?_, (fun p hp => by simp [sub3 p hp]), by simp [lit4], by simp [lit5], by simp [lit6], by rw [G5, List.map_append]; rfl⟩
    intro c hc
    rcases List.mem_append.1 hc with hc | hc
    · exact k3.mono (Nat.le_refl _) (fun p hp => by simp [hp]) c hc
    · have := List.mem_singleton.1 hc; subst this
      exact ⟨i35, [sa, sb, sc], d, by simp, rfl, by simp; omega, rfl, by simp⟩
  · have hl8 : x1.length ≤ 8 := by omega
    have hj2 : j1 = 2 := by omega
    subst hj2
    rw [G1] at hQ
    have hs1 : s1.len = x1.length := (o1.at_ (sz := 3) (s := s1) (cs := rows celC x1) (by simp)).rowsLen celC_length (by decide)
    refine joinK_intro (fun (b : Bool) g => Owns (hb.del i) g (owS i l (t1 + 1) :: (3, s1, rows celC x1) :: L1) ∧ b = (if nv zs t1 12 = 0 then decide ((x1.length : Int) > 0) else false)) ?_ fun jk hjk => ?_
    case refine_2 =>
      refine flip_e hI S0 o1 (by omega) (by decide) (by decide) fun h' o' => ?_
      refine ifT_dec (fun hz => hjk _ _ ⟨o', ?_⟩) fun hz => hjk _ _ ⟨o', by rw [if_neg hz]⟩
      rw [if_pos hz, hs1]
    rintro b g ⟨o2, hbp⟩
    refine ifT_intro (fun hbt => ?_) fun hbt => hQ s1 g x1 _ L1 o2 (k1.mono (by omega) fun _ h => h) sub1 (by omega) hl8 (by unfold celsE; rw [pc_len, ← hbp, if_neg (by rw [hbt]; decide)])
    have hpos : 0 < x1.length := by
      rw [hbt] at hbp
      by_cases hz : nv zs t1 12 = 0
      · rw [if_pos hz] at hbp
        have := of_decide_eq_true hbp.symm
        omega
      · rw [if_neg hz] at hbp; cases hbp
    have hE2 : celsE zs (x1.map pc) t1 = ((x1.map pc).set (nv zs (t1 + 1) s1.len).toNat (spC zs ((x1.map pc)[(nv zs (t1 + 1) s1.len).toNat]?.getD ([], 0, 0)) (nv zs (t1 + 1 + 1) 3) (t1 + 1 + 1 + 1)).1, (spC zs ((x1.map pc)[(nv zs (t1 + 1) s1.len).toNat]?.getD ([], 0, 0)) (nv zs (t1 + 1 + 1) 3) (t1 + 1 + 1 + 1)).2) := by
      unfold celsE; rw [pc_len, ← hbp, if_pos hbt, hs1]
    rw [hE2] at hQ
    refine nx_e hI S0 o2 (by omega) (by omega) (by omega) fun g3 he0 he1 o3 => ⟨⟨he0, he1⟩, ?_⟩
    generalize nv zs (t1 + 1) (s1.len : Int) = e at he0 he1 hQ ⊢
    obtain ⟨e, rfl⟩ := Int.eq_ofNat_of_zero_le he0
    rw [Int.toNat_natCast] at hQ
    have hx := List.getElem?_eq_getElem (show e < x1.length by omega)
    generalize x1[e] = c at hx
    have hcm := List.mem_of_getElem? hx
    rw [pc_get hx] at hQ
    have hll : (rows celC x1).length = x1.length * 3 := rows_length celC_length x1
    have hne : rows celC x1 ≠ [] := fun h => by rw [h] at hll; simp at hll; omega
    obtain ⟨bi, hsb, _⟩ := o3.has (sz := 3) (s := s1) (cs := rows celC x1) (by simp) hne
    have hsa : s1.a = some (bi, 0) := by rw [hsb]
    refine derefK_intro hsa ?_
    refine nx_e hI S0 o3 (by omega) (by decide) (by decide) fun g4 _ _ o4 => ?_
    generalize nv zs (t1 + 1 + 1) 3 = k at hQ ⊢
    have put : ∀ (j : Nat) (x : Cell) (c2 : Cel) (g2 : Heap) (t' : Nat) (L : List Ow), j < 3 → (celC c).set j x = celC c2 → t' ≤ t1 + 10 → Owns (hb.del i) g2 (owS i l t' :: (3, s1, rows celC x1) :: L) → KL 4 L (x1.set e c2) → (∀ p ∈ L0, p ∈ L) → spC zs (pc c) k (t1 + 1 + 1 + 1) = (pc c2, t') →
        storeK [] bi (0 + ((e : Nat) : Int).toNat * 3 + j) [x] (Q [sls 3 s1]) g2 := fun j x c2 g2 t' L hj hs ht' o' hk hsub hq => by
      have hble := (o'.block (sz := 3) (i := bi) (n := s1.len) (cs := rows celC x1) (by rw [← hsb]; simp)).1
      refine storeK_one hble (by rw [hll, Int.toNat_natCast]; omega) ?_
      rw [Int.toNat_natCast, Nat.zero_add, rows_set celC_length hx hj hs]
      have o6 : Owns (hb.del i) g2 ((3, ⟨some (bi, 0), s1.len⟩, rows celC x1) :: owS i l t' :: L) := by rw [← hsb]; exact o'.swp
      have o7 := o6.change (n' := s1.len) (sz' := 3) (cs' := rows celC (x1.set e c2)) (by rw [rows_length celC_length, List.length_set]; omega)
      rw [← hsb] at o7
      exact hQ s1 _ (x1.set e c2) t' L o7.swp hk hsub (by omega) (by simp; omega) (by rw [hq, List.map_set])
    have ksame : ∀ c2 : Cel, c2.kl = c.kl → c2.keys = c.keys → KL 4 L1 (x1.set e c2) := fun c2 h1 h2 p hp => by
      rcases List.mem_or_eq_of_mem_set hp with hp | rfl
      · exact k1.mono (by omega) (fun _ h => h) p hp
      · obtain ⟨b, ks, n, a1, a2, a3, a4, a5⟩ := k1 c hcm
        exact ⟨b, ks, n, a1, h1.trans a2, a3, h2.trans a4, by omega⟩
    refine ifT_dec (fun c0 => ?_) fun c0 => ifT_dec (fun c1 => ?_) fun c1 => ?_
    · have hbl := (o4.block (sz := 3) (i := bi) (n := s1.len) (cs := rows celC x1) (by rw [← hsb]; simp)).1
      refine ⟨c.kl, ?_, ?_⟩
      · rw [Int.toNat_natCast, Nat.zero_add]
        exact read_cell hbl (rows_cell celC_length hx rfl)
      refine new_strs o4 [⟨#[97]⟩, ⟨#[]⟩, ⟨#[122]⟩] fun i85 g5 o5 => ?_
      have o5' := o5.back
      have hne85 : i85 ≠ i := fun e => o5.ne (q := owS i l (t1 + 1 + 1 + 1)) (by simp) (i := i85) (j := i) rfl rfl e
      refine spec20e hI (xs := [⟨#[97]⟩, ⟨#[]⟩, ⟨#[122]⟩]) (o5'.toStrm S0 (t' := t1 + 1 + 1 + 1) (by simp) (by omega)) ?_ (by simp) (by simp) ⟨?_, _, rfl, ?_⟩
      · have o6 := o5'.next (t' := t1 + 1 + 1 + 1 + 1)
        exact o6.at_ (sz := 1) (s := ⟨some (i85, 0), 3⟩) (cs := strs [⟨#[97]⟩, ⟨#[]⟩, ⟨#[122]⟩]) (by simp)
      · refine set_ne _ _ fun e => ?_
        have h9 := hsb
        rw [e] at h9
        have o9 := o5'
        rw [h9] at o9
        exact o9.ne (q := (3, ⟨some (i, 0), s1.len⟩, rows celC x1)) (by simp) (i := i) (j := i) rfl rfl rfl
      have o6 := o5'.next (t' := t1 + 1 + 1 + 1 + 1)
      have hq0 : spC zs (pc c) k (t1 + 1 + 1 + 1) = ((on zs (t1 + 1 + 1 + 1) [⟨#[97]⟩, ⟨#[]⟩, ⟨#[122]⟩] :: c.keys, c.many, c.cents), t1 + 1 + 1 + 1 + 1) := by unfold spC; rw [if_pos c0]
      generalize on zs (t1 + 1 + 1 + 1) [⟨#[97]⟩, ⟨#[]⟩, ⟨#[122]⟩] = v at hq0 ⊢
      refine new_strs o6 [v] fun i90 g8 o8 => ?_
      obtain ⟨hkat, hk3⟩ := (k1.mono (B' := 3) (Nat.le_refl _) (L' := (1, ⟨some (i90, 0), [v].length⟩, strs [v]) :: owS i l (t1 + 1 + 1 + 1 + 1) :: (3, s1, rows celC x1) :: (L1 ++ [(1, ⟨some (i85, 0), [(⟨#[97]⟩ : ByteArray), ⟨#[]⟩, ⟨#[122]⟩].length⟩, strs [⟨#[97]⟩, ⟨#[]⟩, ⟨#[122]⟩])])) (fun p hp => by simp [hp])).key (o8.perm (by
        refine List.Perm.cons _ (List.Perm.cons _ (List.Perm.cons _ ?_))
        exact (List.perm_append_singleton _ _).symm)) hcm
      refine ⟨strs c.keys, ?_, ?_⟩
      · rcases hkat.2 with h0 | h0
        · have hl0 : c.kl.len = 0 := by rw [strs_len hkat, show c.keys = [] by simpa [strs] using h0]; rfl
          obtain ⟨b, ks, n, a1, a2, a3, a4, a5⟩ := k1 c hcm
          have hbk := (o8.block (sz := 1) (i := b) (n := ks.length) (cs := strs ks) (by simp [a1])).1
          rw [a2] at hl0 ⊢
          simp only at hl0
          subst hl0
          rw [h0]
          show g8.read b 0 (0 * 1) = some []
          rw [read_block hbk (by simp)]
          simp
        · exact h0
      · have hlk := strs_len hkat
        refine appendTo_ownsN o8 (by rw [hlk]; simp [strs]) (by rw [hlk]; omega) fun jn g9 o9 => ?_
        have es : strs [v] ++ strs c.keys = strs (v :: c.keys) := by simp [strs]
        rw [es] at o9
        have o10 := o9.back
        have e3 : 1 + c.kl.len = (v :: c.keys).length := by rw [hlk]; simp; omega
        rw [e3] at o10 ⊢
        refine put 0 _ ⟨⟨some (jn, 0), (v :: c.keys).length⟩, v :: c.keys, c.many, c.cents⟩ g9 _ _ (by omega) rfl (by omega) o10 (fun p hp => ?_) (fun p hp => by simp [sub1 p hp]) hq0
        rcases List.mem_or_eq_of_mem_set hp with hp | rfl
        · exact k1.mono (by omega) (fun q hq => by simp [hq]) p hp
        · exact ⟨jn, v :: c.keys, (v :: c.keys).length, by simp, rfl, Nat.le_refl _, by rw [List.take_length], by simp; omega⟩
    · exact pick_e hI S0 o4 (by omega) [-1, 1000001] (by simp) (by simp) fun g5 o5 => put 1 _ ⟨c.kl, c.keys, pk zs (t1 + 1 + 1 + 1) [-1, 1000001], c.cents⟩ g5 _ _ (by omega) rfl (by omega) o5 (ksame _ rfl rfl) sub1 (by unfold spC; rw [if_neg c0, if_pos c1])
    · exact pick_e hI S0 o4 (by omega) [1000000000001, -1000000000001] (by simp) (by simp) fun g5 o5 => put 2 _ ⟨c.kl, c.keys, c.many, pk zs (t1 + 1 + 1 + 1) [1000000000001, -1000000000001]⟩ g5 _ _ (by omega) rfl (by omega) o5 (ksame _ rfl rfl) sub1 (by unfold spC; rw [if_neg c0, if_neg c1])
end
end Go.Proofs.YtdjancoknephnaaGreatVc
-- SsGen5
namespace Go.Proofs.YtdjancoknephnaaGreatVc
open Go.Proofs.Tryz (prog)
abbrev budKeys : List ByteArray := [⟨#[109, 97, 121]⟩, ⟨#[106, 117, 110, 101]⟩, ⟨#[97, 108, 108]⟩]
def dB : Bud := ⟨⟨#[]⟩, 0, 0, 0, false⟩
def bud1 (zs : List Int) (k : ByteArray) (p : List Bud × Nat) : List Bud × Nat :=
  if nv zs p.2 4 = 0 then (p.1, p.2 + 1) else (p.1 ++ [⟨k, pk zs (p.2 + 1 + 1) [0, 100, 1000, 1001, 1000000000000], pk zs (p.2 + 1) [0, 0, 1, 5], IntKind.i64.wrap (pk zs (p.2 + 1) [0, 0, 1, 5] + pk zs (p.2 + 1 + 1 + 1) [0, 2, 9, 2000]), decide (nv zs (p.2 + 1 + 1 + 1 + 1) 2 = 0)⟩], p.2 + 1 + 1 + 1 + 1 + 1)
def budL (zs : List Int) (t : Nat) : Nat → List Bud × Nat
  | 0 => ([], t)
  | j + 1 => bud1 zs (budKeys[j]?.getD ⟨#[]⟩) (budL zs t j)
def spB (zs : List Int) (x : Bud) (c : Int) (t : Nat) : Bud × Nat :=
  if c = 0 then ({ x with key := on zs t [⟨#[]⟩, ⟨#[109, 97, 121]⟩, ⟨#[77, 97, 121]⟩] }, t + 1)
  else if c = 1 then ({ x with cents := pk zs t [-1, 1000000000001] }, t + 1)
  else if c = 2 then ({ x with first := pk zs t [-1, IntKind.i64.wrap (x.last + 1)] }, t + 1)
  else ({ x with last := pk zs t [3000, 3001] }, t + 1)
def budE (zs : List Int) (xs : List Bud) (t : Nat) : List Bud × Nat :=
  if (if nv zs t 10 = 0 then decide ((xs.length : Int) > 0) else false) = true then
    (xs.set (nv zs (t + 1) xs.length).toNat (spB zs (xs[(nv zs (t + 1) xs.length).toNat]?.getD dB) (nv zs (t + 1 + 1) 4) (t + 1 + 1 + 1)).1, (spB zs (xs[(nv zs (t + 1) xs.length).toNat]?.getD dB) (nv zs (t + 1 + 1) 4) (t + 1 + 1 + 1)).2) else (xs, t + 1)
/-- Budgets that are drawn at a place, and the place after them. -/
def budG (zs : List Int) (t : Nat) : List Bud × Nat := budE zs (budL zs t 3).1 (budL zs t 3).2
section
variable {I : Calls} {Q : Post} {h hb : Heap} {i : Nat} {l : Sl} {zs : List Int} {t0 : Nat}
theorem spec7e (hI : Closed' prog Pm I) (S0 : Strm hb i l zs t0) {t : Nat} {L : List Ow} (o : Owns (hb.del i) h (owS i l t :: L)) (ht : t < 100000)
    (hQ : ∀ s' xs t' h', Owns (hb.del i) h' (owS i l t' :: (5, s', rows budC xs) :: L) → t' ≤ t + 100 → xs.length ≤ 3 → budG zs t = (xs, t') → Q [.one (.slice 5 s')] h') : I 7 [.one (.ptr (some (i, 0)))] Q h := by
  refine hI.go _ _ (den7 I (some (i, 0)) Q) ?_
  refine newK_intro fun i2 h2 hn2 he2 => ?_
  subst he2
  have o2 := (o.new (sz := 1) (n := 3) (cs := strs budKeys) hn2 rfl).swp
  refine loopK_intro (fun (a : Sl × Int) h' m => ∃ j t' : Nat, j ≤ 3 ∧ a.2 = j ∧ 3 - j = m ∧ t' ≤ t + 5 * j ∧ ∃ xs : List Bud, xs.length ≤ j ∧ budL zs t j = (xs, t') ∧ Owns (hb.del i) h' (owS i l t' :: (5, a.1, rows budC xs) :: (1, ⟨some (i2, 0), 3⟩, strs budKeys) :: L)) 3
    ⟨0, t, by omega, rfl, rfl, by omega, [], by simp, rfl, (o2.none_ 5).swp⟩ ?_
  rintro ⟨s, y⟩ h' m ⟨j, t', hj, rfl, rfl, ht', xs, hxl, hG, o⟩
  dsimp only [uncur] at o ⊢
  have hal : s.len = xs.length := (o.at_ (s := s) (by simp)).rowsLen budC_length (by decide)
  refine ifT_dec (fun hlt => ⟨⟨by omega, by omega⟩, ?_⟩) (fun hge => ?_)
  · have hlt : j < 3 := by have : (j : Int) < 3 := hlt
                           omega
    obtain ⟨k, hk⟩ : ∃ k, budKeys[j]? = some k := ⟨_, List.getElem?_eq_getElem hlt⟩
    have hG2 : budL zs t (j + 1) = bud1 zs k (xs, t') := by
      show bud1 zs (budKeys[j]?.getD ⟨#[]⟩) (budL zs t j) = _
      rw [hG, hk]; rfl
    refine ⟨k, ?_, ?_⟩
    · rw [Int.toNat_natCast, Nat.mul_one, Nat.zero_add]
      exact read_cell (o.block (sz := 1) (i := i2) (n := 3) (by simp)).1 (strs_get hk)
    have ew : IntKind.i64.wrap ((j : Int) + 1) = ((j + 1 : Nat) : Int) := by rw [w64] <;> omega
    rw [ew]
    refine flip_e hI S0 o (by omega) (by decide) (by decide) fun h3 o3 => ?_
    refine ifT_dec (fun e => ⟨3 - (j + 1), by omega, j + 1, t' + 1, by omega, rfl, rfl, by omega, xs, by omega, by rw [hG2]; unfold bud1; rw [if_pos e], o3⟩) fun e => ?_
    refine pick_e hI S0 o3 (by omega) [0, 0, 1, 5] (by simp) (by simp) fun h5 o5 => ?_
    refine pick_e hI S0 o5 (by omega) [0, 100, 1000, 1001, 1000000000000] (by simp) (by simp) fun h7 o7 => ?_
    refine pick_e hI S0 o7 (by omega) [0, 2, 9, 2000] (by simp) (by simp) fun h9 o9 => ?_
    refine flip_e hI S0 o9 (by omega) (by decide) (by decide) fun h10 o10 => ?_
    refine appendTo_owns (m := 0) o10.swp (by rfl) (by omega) (by simp) fun bn h11 o11 => ⟨3 - (j + 1), by omega, j + 1, t' + 1 + 1 + 1 + 1 + 1, by omega, rfl, rfl, by omega, _, ?_, by rw [hG2]; unfold bud1; rw [if_neg e], ?_⟩
    · simp; omega
    have := o11.swp
    rw [rows_append]
    simpa [rows, budC] using this
  · have hj3 : j = 3 := by omega
    have hB : budG zs t = budE zs xs t' := by unfold budG; rw [← hj3, hG]
    rw [hB] at hQ
    -- one cell of one budget is turned, or none
    have fin0 : ∀ (s' : Sl) (ys : List Bud) (t9 : Nat) (h9 : Heap), ys.length ≤ 3 → t9 ≤ t + 100 → budE zs xs t' = (ys, t9) → Owns (hb.del i) h9 (owS i l t9 :: (5, s', rows budC ys) :: (1, ⟨some (i2, 0), 3⟩, strs budKeys) :: L) → Q [.one (.slice 5 s')] h9 := fun s' ys t9 h9 hy h9' hq o9 => hQ s' ys t9 h9 (o9.rot'.tail) h9' hy hq
    refine joinK_intro (fun (b : Bool) h3 => Owns (hb.del i) h3 (owS i l (t' + 1) :: (5, s, rows budC xs) :: (1, ⟨some (i2, 0), 3⟩, strs budKeys) :: L) ∧ b = (if nv zs t' 10 = 0 then decide ((xs.length : Int) > 0) else false)) ?_ ?_
    · rintro b h3 ⟨o3, hbp⟩
      refine ifT_intro (fun hbt => ?_) fun hbt => fin0 _ _ _ _ (by omega) (by omega) (by unfold budE; rw [← hbp, if_neg (by rw [hbt]; decide)]) o3
      have hpos : 0 < xs.length := by
        rw [hbt] at hbp
        by_cases hz : nv zs t' 10 = 0
        · rw [if_pos hz] at hbp
          have := of_decide_eq_true hbp.symm
          omega
        · rw [if_neg hz] at hbp; cases hbp
      have hE2 : budE zs xs t' = (xs.set (nv zs (t' + 1) s.len).toNat (spB zs (xs[(nv zs (t' + 1) s.len).toNat]?.getD dB) (nv zs (t' + 1 + 1) 4) (t' + 1 + 1 + 1)).1, (spB zs (xs[(nv zs (t' + 1) s.len).toNat]?.getD dB) (nv zs (t' + 1 + 1) 4) (t' + 1 + 1 + 1)).2) := by
        unfold budE; rw [← hbp, if_pos hbt, hal]
      rw [hE2] at fin0
      refine nx_e hI S0 o3 (by omega) (by omega) (by omega) fun h4 he0 he1 o4 => ⟨⟨he0, he1⟩, ?_⟩
      generalize nv zs (t' + 1) (s.len : Int) = e at he0 he1 fin0 ⊢
      obtain ⟨e, rfl⟩ := Int.eq_ofNat_of_zero_le he0
      rw [Int.toNat_natCast] at fin0
      have hrl := rows_length budC_length xs
      obtain ⟨bs, hbs, hcs⟩ := o4.has (s := s) (cs := rows budC xs) (sz := 5) (by simp) (fun h => by rw [h] at hrl; simp at hrl; omega)
      rw [hbs] at o4 ⊢
      refine derefK_intro rfl ?_
      refine nx_e hI S0 o4 (by omega) (by decide) (by decide) fun h5 hc0 hc1 o5 => ?_
      have hx := List.getElem?_eq_getElem (show e < xs.length by omega)
      generalize xs[e] = x at hx
      rw [hx] at fin0
      simp only [Option.getD_some] at fin0
      generalize nv zs (t' + 1 + 1) 4 = c at hc0 hc1 fin0 ⊢
      have fin : ∀ (j2 : Nat) (c2 : Cell) (x' : Bud) (h9 : Heap) (t9 : Nat), j2 < 5 → (budC x).set j2 c2 = budC x' → t9 ≤ t' + 5 → spB zs x c (t' + 1 + 1 + 1) = (x', t9) → Owns (hb.del i) h9 (owS i l t9 :: (5, ⟨some (bs, 0), s.len⟩, rows budC xs) :: (1, ⟨some (i2, 0), 3⟩, strs budKeys) :: L) → storeK [] bs (0 + ((e : Nat) : Int).toNat * 5 + j2) [c2] (Q [.one (.slice 5 ⟨some (bs, 0), s.len⟩)]) h9 := by
        intro j2 c2 x' h9 t9 hj2 hset ht9 hq o9
        have o10 := o9.swp
        rw [Int.toNat_natCast, Nat.zero_add]
        refine storeK_one (o10.block List.mem_cons_self).1 (by rw [hrl]; omega) ?_
        rw [rows_set budC_length hx hj2 hset]
        have o11 := (o10.change (n' := s.len) (sz' := 5) (cs' := rows budC (xs.set e x')) (by rw [rows_length budC_length]; simp; omega)).swp
        exact fin0 _ _ _ _ (by simp; omega) (by omega) (by rw [hq]) o11
      refine ifT_dec (fun c0 => ?_) fun c0 => ifT_dec (fun c1 => ?_) fun c1 => ifT_dec (fun c2 => ?_) fun c2 => ?_
      · exact one_e hI S0 o5 (by omega) [⟨#[]⟩, ⟨#[109, 97, 121]⟩, ⟨#[77, 97, 121]⟩] (by simp) (by simp) fun h6 o6 => fin 0 (.str _) { x with key := on zs (t' + 1 + 1 + 1) [⟨#[]⟩, ⟨#[109, 97, 121]⟩, ⟨#[77, 97, 121]⟩] } _ _ (by decide) rfl (by omega) (by unfold spB; rw [if_pos c0]) o6
      · exact pick_e hI S0 o5 (by omega) [-1, 1000000000001] (by simp) (by simp) fun h6 o6 => fin 1 (.int .i64 _) { x with cents := pk zs (t' + 1 + 1 + 1) [-1, 1000000000001] } _ _ (by decide) rfl (by omega) (by unfold spB; rw [if_neg c0, if_pos c1]) o6
      · refine ⟨x.last, ?_, ?_⟩
        · rw [Int.toNat_natCast, Nat.zero_add]
          exact read_cell (o5.block (sz := 5) (i := bs) (n := s.len) (by simp)).1 (rows_cell budC_length hx rfl)
        exact pick_e hI S0 o5 (by omega) [-1, IntKind.i64.wrap (x.last + 1)] (by simp) (by simp) fun h6 o6 => fin 2 (.int .i64 _) { x with first := pk zs (t' + 1 + 1 + 1) [-1, IntKind.i64.wrap (x.last + 1)] } _ _ (by decide) rfl (by omega) (by unfold spB; rw [if_neg c0, if_neg c1, if_pos c2]) o6
      · exact pick_e hI S0 o5 (by omega) [3000, 3001] (by simp) (by simp) fun h6 o6 => fin 3 (.int .i64 _) { x with last := pk zs (t' + 1 + 1 + 1) [3000, 3001] } _ _ (by decide) rfl (by omega) (by unfold spB; rw [if_neg c0, if_neg c1, if_neg c2]) o6
    · intro jk hjk
      refine flip_e hI S0 o (by omega) (by decide) (by decide) fun h3 o3 => ?_
      refine ifT_dec (fun hz => hjk _ _ ⟨o3, ?_⟩) fun hz => hjk _ _ ⟨o3, by rw [if_neg hz]⟩
      rw [if_pos hz, hal]
end
end Go.Proofs.YtdjancoknephnaaGreatVc
