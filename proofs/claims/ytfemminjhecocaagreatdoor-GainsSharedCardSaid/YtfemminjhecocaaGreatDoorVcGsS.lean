/- Contracts: letters that are drawn, out of few; credits are sorted and compared. Contract: the parts of a gain are counted, as the document does. Contract: what the document has counted is told, letter by letter, and sorted. Contract: AttributeOf. Contract: AttributeOf, the whole. GainsShared: the law's contract. -/
import Derived.Test.YtfemminjhecocaaGreatDoorVcGsM
import Derived.Test.YtfemminjhecocaaGreatDoorVcSortGen
set_option linter.unusedSimpArgs false
set_option linter.unusedVariables false
-- GsSpec1
namespace Go.Proofs.YtfemminjhecocaaGreatDoorVc
open Go.Proofs.YtfemminjhecocaaGreatDoorLasts
open Go.Proofs.Tryz (prog)
theorem cmp_bytes : ∀ a b : List UInt8, (Lib.compareBytes a b < 0 ↔ a < b) ∧ (Lib.compareBytes a b = 0 → a = b)
  | [], [] => by simp [Lib.compareBytes]
  | [], _ :: _ => by simp [Lib.compareBytes]
  | _ :: _, [] => by simp [Lib.compareBytes]
  | x :: a, y :: b => by
    obtain ⟨h1, h2⟩ := cmp_bytes a b
    unfold Lib.compareBytes
    simp only [List.cons_lt_cons_iff]
    by_cases e1 : x < y
    · rw [if_pos e1]; simp [e1]
    · rw [if_neg e1]
      by_cases e2 : y < x
      · rw [if_pos e2]
        have : ¬ x = y := fun e => by subst e; exact e1 e2
        simp [e1, this]
      · rw [if_neg e2]
        have : x = y := UInt8.le_antisymm (UInt8.not_lt.1 e2) (UInt8.not_lt.1 e1)
        subst this
        rw [h1]
        refine ⟨?_, fun h => by rw [h2 h]⟩
        simp [UInt8.lt_irrefl]
/-- The letters that a stream draws. -/
def LS : List ByteArray := [⟨#[104, 101, 108, 108, 111]⟩, ⟨#[110, 101, 119, 115]⟩, ⟨#[111, 102, 102, 101, 114]⟩, ⟨#[]⟩, ⟨#[75, 101, 121]⟩, ⟨#[49, 97]⟩, ⟨#[88]⟩]
theorem inLS' {v : ByteArray} (h : v ∈ [(⟨#[104, 101, 108, 108, 111]⟩ : ByteArray), ⟨#[110, 101, 119, 115]⟩, ⟨#[111, 102, 102, 101, 114]⟩] ∨ v ∈ [(⟨#[]⟩ : ByteArray), ⟨#[75, 101, 121]⟩, ⟨#[49, 97]⟩]) : v ∈ LS := by
  unfold LS
  simp only [List.mem_cons, List.not_mem_nil, or_false] at h ⊢
  rcases h with (h | h | h) | (h | h | h) <;> simp [h]
theorem inLS {v : ByteArray} (h : v ∈ [(⟨#[]⟩ : ByteArray), ⟨#[88]⟩]) : v ∈ LS := by
  unfold LS
  simp only [List.mem_cons, List.not_mem_nil, or_false] at h ⊢
  rcases h with h | h <;> simp [h]
abbrev crK : VK := .agg [.str, .int .i64, .int .i64]
theorem den197g (I : Calls) (l0 : Sl) (n1 n2 : Int) (p3 : Option (Nat × List (Nat × Nat))) (Q : Post) : vc197 I l0 n1 n2 p3 Q = insF crK I l0 n1 n2 p3 Q := by kernel_rfl
theorem cr_fits (x : Cr) : crK.fits (.agg (crC x)) := by simp [VK.fits, fitsAll, crC, Kd.fits]
section
variable {I : Calls} {Q : Post} {h : Heap}
section
variable {hb : Heap} {i : Nat} {l : Sl} {zs : List Int} {t0 : Nat}
theorem spec69L (hI : Closed' prog Pm I) (S0 : Strm hb i l zs t0) {t : Nat} {L : List Ow} (o : Owns (hb.del i) h (owS i l t :: L)) (ht : t < 100000) {s : Sl} {xs : List ByteArray} (hs : ∀ ob, At (h.set i ob) 1 s (strs xs)) (h1 : xs ≠ []) (h2 : xs.length < 1000)
    (hQ : ∀ v t' h', (v ∈ xs ∨ v ∈ [(⟨#[]⟩ : ByteArray), ⟨#[75, 101, 121]⟩, ⟨#[49, 97]⟩]) → t' ≤ t + 2 → Owns (hb.del i) h' (owS i l t' :: L) → Q [str v] h') : I 69 [.one (.ptr (some (i, 0))), .one (.slice 1 s)] Q h := by
  refine hI.go _ _ (den69 I (some (i, 0)) s Q) ?_
  have S := o.toStrm S0 (t' := t) (by simp) (by omega)
  refine spec11 hI S (by decide) (by decide) fun b => ⟨b, rfl, ?_⟩
  have o1 := o.next (t' := t + 1)
  refine ifT_intro (fun _ => ?_) fun _ => ?_
  · refine newK_intro fun i7 h3 hn3 he3 => ?_
    have hne := o1.lit_ne hn3
    have o2 := o1.mono (he3 ▸ Ext.new hn3 : Ext _ h3)
    have S2 := o2.toStrm S0 (t' := t + 1) (by simp) (by omega)
    refine spec45 hI (xs := [⟨#[]⟩, ⟨#[75, 101, 121]⟩, ⟨#[49, 97]⟩]) S2 (lit_atC hne he3 rfl) (by simp) (by simp) fun v hv => ⟨v, rfl, hQ v _ _ (.inr hv) (by omega) (o2.next (t' := t + 1 + 1))⟩
  · have S1 := o1.toStrm S0 (t' := t + 1) (by simp) (by omega)
    refine spec45 hI S1 (by rw [set_set]; exact hs _) h1 h2 fun v hv => ⟨v, rfl, hQ v _ _ (.inl hv) (by omega) (o1.next (t' := t + 1 + 1))⟩
theorem spec24L (hI : Closed' prog Pm I) (S0 : Strm hb i l zs t0) {t : Nat} {L : List Ow} (o : Owns (hb.del i) h (owS i l t :: L)) (ht : t < 1000)
    (hQ : ∀ s' h' xs t', Owns (hb.del i) h' (owS i l t' :: (4, s', rows sentC xs) :: L) → t' ≤ t + 1000 → xs.length ≤ 30 → (∀ x ∈ xs, x.letter ∈ LS) → Q [.one (.slice 4 s')] h') : I 24 [.one (.ptr (some (i, 0))), int 20] Q h := by
  refine hI.go _ _ (den24 I (some (i, 0)) 20 Q) ?_
  have S := o.toStrm S0 (t' := t) (by simp) (by omega)
  have ew : IntKind.i64.wrap ((20 : Int) + 1) = 21 := by decide
  unfold vc24
  rw [ew]
  refine spec43 hI S (by decide) (by decide) fun n hn0 hn1 => ⟨n, rfl, ?_⟩
  refine loopK_intro (fun (a : Sl × Int × Int) h' m => ∃ j t' : Nat, (j : Int) ≤ n ∧ a.2.2 = j ∧ 30 - j = m ∧ t' ≤ t + 1 + 5 * j ∧ ∃ xs : List Sent, xs.length = j ∧ (∀ x ∈ xs, x.letter ∈ LS) ∧ Owns (hb.del i) h' (owS i l t' :: (4, a.1, rows sentC xs) :: L)) 30
    ⟨0, t + 1, by omega, rfl, rfl, by omega, [], rfl, (fun x hx => by cases hx), ((o.next (t' := t + 1)).none_ 4).perm (List.Perm.swap _ _ _)⟩ ?_
  rintro ⟨s, age, y⟩ h' m ⟨j, t', hj, rfl, rfl, ht', xs, hxl, hLS, o⟩
  dsimp only [uncur]
  have hal : s.len = xs.length := (o.at_ (s := s) (by simp)).rowsLen sentC_length (by decide)
  refine ifT_dec (fun hlt => ?_) (fun hge => ?_)
  · refine newK_intro fun i2 h2 hn2 he2 => ?_
    have hne2 := o.lit_ne hn2
    have o2 := o.mono (he2 ▸ Ext.new hn2 : Ext _ h2)
    refine spec20 hI (xs := [0, 1, 10, 100]) (o2.toStrm S0 (t' := t') (by simp) (by omega)) (lit_at hne2 he2 rfl) (by simp) (by simp) fun v _ => ⟨v, rfl, ?_⟩
    have o3 := o2.next (t' := t' + 1)
    have hes := encode_size (IntKind.i32.wrap (IntKind.i64.wrap (97 + (j : Int))))
    refine ⟨by omega, newK_intro fun i4 h4 hn4 he4 => ?_⟩
    have hne4 := o3.lit_ne hn4
    have o4 := o3.mono (he4 ▸ Ext.new hn4 : Ext _ h4)
    refine spec69 hI S0 o4 (by omega) (xs := [⟨#[97, 110, 110]⟩, ⟨#[98, 111]⟩]) (fun ob => lit_atC hne4 he4 rfl) (by simp) (by simp) fun p t5 h5 ht5 o5 => ⟨p, rfl, newK_intro fun i6 h6 hn6 he6 => ?_⟩
    have hne6 := o5.lit_ne hn6
    have o6 := o5.mono (he6 ▸ Ext.new hn6 : Ext _ h6)
    refine spec69L hI S0 o6 (by omega) (xs := [⟨#[104, 101, 108, 108, 111]⟩, ⟨#[110, 101, 119, 115]⟩, ⟨#[111, 102, 102, 101, 114]⟩]) (fun ob => lit_atC hne6 he6 rfl) (by simp) (by simp) fun q t7 h7 hq ht7 o7 => ⟨q, rfl, ?_⟩
    refine appendTo_owns (m := 0) (o7.perm (List.Perm.swap _ _ _)) (by rfl) (by omega) (by simp) fun b h8 o8 => ⟨30 - (j + 1), by omega, j + 1, t7, by omega, ?_, rfl, by omega, xs ++ [⟨(⟨#[115]⟩ : ByteArray) ++ Utf8.encode (IntKind.i32.wrap (IntKind.i64.wrap (97 + (j : Int)))), p, q, IntKind.i64.wrap (age + v)⟩], by simp [hxl], ?_, ?_⟩
    · show IntKind.i64.wrap ((j : Int) + 1) = _
      rw [w64] <;> omega
    · intro y hy
      rcases List.mem_append.1 hy with hy | hy
      · exact hLS y hy
      · have := List.mem_singleton.1 hy; subst this; exact inLS' hq
    · have := o8.perm (List.Perm.swap _ _ _)
      rw [rows_append]
      simpa [rows, sentC] using this
  · have S2 := o.toStrm S0 (t' := t') (by simp) (by omega)
    refine joinK_intro (fun (b : Bool) h3 => Owns (hb.del i) h3 (owS i l (t' + 1) :: (4, s, rows sentC xs) :: L) ∧ (b = true → 0 < xs.length)) ?_ ?_
    · rintro b h3 ⟨o3, hbp⟩
      refine ifT_intro (fun hbt => ?_) fun _ => hQ _ _ _ _ o3 (by omega) (by omega) hLS
      have hpos := hbp hbt
      have S3 := o3.toStrm S0 (t' := t' + 1) (by simp) (by omega)
      refine spec43 hI S3 (by omega) (by omega) fun e he0 he1 => ⟨e, rfl, ⟨he0, he1⟩, ?_⟩
      obtain ⟨e, rfl⟩ := Int.eq_ofNat_of_zero_le he0
      have o4 := o3.next (t' := t' + 1 + 1)
      obtain ⟨bs, hbs, _⟩ := o4.has (s := s) (cs := rows sentC xs) (sz := 4) (by simp) (fun h => by have := congrArg List.length h; rw [rows_length sentC_length] at this; simp at this; omega)
      rw [hbs] at o4 ⊢
      refine derefK_intro rfl ?_
      refine spec43 hI (o4.toStrm S0 (t' := t' + 1 + 1) (by simp) (by omega)) (by decide) (by decide) fun c hc0 hc1 => ⟨c, rfl, ?_⟩
      have o5 := o4.next (t' := t' + 1 + 1 + 1)
      have hx := List.getElem?_eq_getElem (show e < xs.length by omega)
      generalize xs[e] = x at hx
      -- one cell of one letter is turned
      have fin : ∀ (j2 : Nat) (c2 : Cell) (x' : Sent) (h9 : Heap) (t9 : Nat), j2 < 4 → x'.letter ∈ LS → (sentC x).set j2 c2 = sentC x' → t9 ≤ t' + 4 → Owns (hb.del i) h9 (owS i l t9 :: (4, ⟨some (bs, 0), s.len⟩, rows sentC xs) :: L) → storeK [] bs (0 + ((e : Nat) : Int).toNat * 4 + j2) [c2] (Q [.one (.slice 4 ⟨some (bs, 0), s.len⟩)]) h9 := by
        intro j2 c2 x' h9 t9 hj2 hxl' hset ht9 o9
        have o10 := o9.perm (List.Perm.swap _ _ _)
        have hcell := (o10.block List.mem_cons_self).1
        have hrl := rows_length sentC_length xs
        rw [Int.toNat_natCast, Nat.zero_add]
        refine storeK_one hcell (by rw [hrl]; omega) ?_
        rw [rows_set sentC_length hx hj2 hset]
        have o11 := (o10.change (n' := s.len) (sz' := 4) (cs' := rows sentC (xs.set e x')) (by rw [rows_length sentC_length]; simp; omega)).perm (List.Perm.swap _ _ _)
        refine hQ _ _ _ _ o11 (by omega) (by simp; omega) fun y hy => ?_
        rcases List.mem_or_eq_of_mem_set hy with hy | rfl
        · exact hLS y hy
        · exact hxl'
      refine ifT_dec (fun h1 => ?_) fun h1 => ifT_dec (fun h2 => ?_) fun h2 => ?_
      · refine newK_intro fun i6 h6 hn6 he6 => ?_
        have hne6 := o5.lit_ne hn6
        have o6 := o5.mono (he6 ▸ Ext.new hn6 : Ext _ h6)
        refine spec45 hI (xs := [⟨#[]⟩, ⟨#[115, 97]⟩, ⟨#[83]⟩]) (o6.toStrm S0 (t' := t' + 1 + 1 + 1) (by simp) (by omega)) (lit_atC hne6 he6 rfl) (by simp) (by simp) fun v _ => ⟨v, rfl, ?_⟩
        exact fin 0 (.str v) { x with id := v } _ (t' + 1 + 1 + 1 + 1) (by decide) (hLS x (List.mem_of_getElem? hx)) rfl (by omega) o6.next
      · refine newK_intro fun i6 h6 hn6 he6 => ?_
        have hne6 := o5.lit_ne hn6
        have o6 := o5.mono (he6 ▸ Ext.new hn6 : Ext _ h6)
        refine spec20 hI (xs := [-1, 4321440, 0]) (o6.toStrm S0 (t' := t' + 1 + 1 + 1) (by simp) (by omega)) (lit_at hne6 he6 rfl) (by simp) (by simp) fun v _ => ⟨v, rfl, ?_⟩
        exact fin 3 (.int .i64 v) { x with at_ := v } _ (t' + 1 + 1 + 1 + 1) (by decide) (hLS x (List.mem_of_getElem? hx)) rfl (by omega) o6.next
      · refine newK_intro fun i6 h6 hn6 he6 => ?_
        have hne6 := o5.lit_ne hn6
        have o6 := o5.mono (he6 ▸ Ext.new hn6 : Ext _ h6)
        refine spec45 hI (xs := [⟨#[]⟩, ⟨#[88]⟩]) (o6.toStrm S0 (t' := t' + 1 + 1 + 1) (by simp) (by omega)) (lit_atC hne6 he6 rfl) (by simp) (by simp) fun v hv => ⟨v, rfl, ?_⟩
        exact fin 2 (.str v) { x with letter := v } _ (t' + 1 + 1 + 1 + 1) (by decide) (inLS hv) rfl (by omega) o6.next
    · intro jk hjk
      refine spec11 hI S2 (by decide) (by decide) fun b => ⟨b, rfl, ?_⟩
      have o3 := o.next (t' := t' + 1)
      refine ifT_intro (fun _ => hjk _ _ ⟨o3, fun h => ?_⟩) fun _ => hjk _ _ ⟨o3, fun h => by cases h⟩
      have := of_decide_eq_true h
      omega
end
theorem spec54 (hI : Closed' prog Pm I) {s : Sl} {a b : Int} (hs : At h 1 s (ints [a, b])) (hQ : Q [int (if a = 0 then b else a)] h) : I 54 [.one (.slice 1 s)] Q h := by
  have hl : s.len = 2 := by rw [hs.len1, ints_length]; rfl
  refine hI.go _ _ (den54 I s Q) ?_
  unfold vc54
  rw [hl]
  refine loopK_intro (fun (x : Int) h' m => h' = h ∧ ∃ i : Nat, i ≤ 2 ∧ x = i ∧ m = 2 - i ∧ (0 < i → a = 0) ∧ (1 < i → b = 0)) 2 ⟨rfl, 0, by omega, rfl, rfl, by simp, by simp⟩ ?_
  rintro x h' m ⟨rfl, i, hi, rfl, rfl, h1, h2⟩
  refine ifT_dec (fun hlt => ⟨⟨by omega, hlt⟩, ?_⟩) fun hge => ?_
  · have hi2 : i = 0 ∨ i = 1 := by omega
    rcases hi2 with rfl | rfl
    · refine hs.cell (i := 0) (ints_get (x := a) rfl) fun bb o hr => ⟨a, hr, ifT_intro (fun h3 => ?_) fun h3 => ?_⟩
      · rw [if_neg (nd h3)] at hQ; exact hQ
      · exact ⟨1, by omega, rfl, 1, by omega, rfl, rfl, fun _ => Decidable.of_not_not (nd' h3), by simp⟩
    · have ha := h1 (by omega)
      rw [if_pos ha] at hQ
      refine hs.cell (i := 1) (ints_get (x := b) rfl) fun bb o hr => ⟨b, hr, ifT_intro (fun h3 => hQ) fun h3 => ?_⟩
      exact ⟨0, by omega, rfl, 2, by omega, rfl, rfl, fun _ => ha, fun _ => Decidable.of_not_not (nd' h3)⟩
  · have : i = 2 := by omega
    subst this
    have ha := h1 (by omega)
    have hb := h2 (by omega)
    rw [if_pos ha, hb] at hQ
    exact hQ
theorem spec63 (hI : Closed' prog Pm I) {a b : ByteArray} (hQ : ∀ c, (c < 0 ↔ a.toList < b.toList) → (c = 0 → ¬ a.toList < b.toList ∧ ¬ b.toList < a.toList) → Q [int c] h) : I 63 [str a, str b] Q h := by
  refine hI.go _ _ (den63 I a b Q) ?_
  refine hI.go _ _ (den120 I a b _) ?_
  refine hI.prim _ _ _ _ (.inr ⟨rfl, a, b, rfl, _, rfl, _, rfl, ?_⟩)
  obtain ⟨h1, h2⟩ := cmp_bytes a.data.toList b.data.toList
  refine hQ _ ?_ fun h3 => ?_
  · rw [ByteArray.toList_eq, ByteArray.toList_eq]; exact h1
  · rw [ByteArray.toList_eq, ByteArray.toList_eq, h2 h3]
    exact ⟨List.lt_irrefl _, List.lt_irrefl _⟩
theorem spec40 (hI : Closed' prog Pm I) (hQ : Q [boo true] h) : I 40 [] Q h := by
  refine hI.go _ _ (den40 I Q) ?_
  refine hI.go _ _ (den77 I 2 4 _) ?_
  refine joinK_intro (fun (b : Bool) h' => h' = h ∧ b = false) ?_ ?_
  · rintro _ h' ⟨rfl, rfl⟩
    refine ifT_intro (fun h => by cases h) fun _ => ifT_dec (fun h => absurd h (by decide)) fun _ => ?_
    refine spec132 hI (a := 2) (b := 4) (by decide) (by decide) (by decide) ⟨_, _, rfl, _, _, _, rfl, ?_⟩
    refine ifT_dec (fun _ => ?_) fun h => absurd rfl h
    have e : (decide (((2 / Nat.gcd 2 4 : Nat) : Int) = 1) && decide (((4 / Nat.gcd 2 4 : Nat) : Int) = 2)) = true := by decide
    rw [e]
    exact hQ
  · intro j hj
    refine spec85 hI ⟨_, rfl, ifT_intro (fun h => by simp at h) fun _ => spec85 hI ⟨_, rfl, hj _ _ ⟨rfl, by decide⟩⟩⟩
theorem insF_none {vk : VK} {s : Sl} {n1 n2 : Int} {p : Option (FuncId × List (Nat × Nat))} (h1 : 0 ≤ n1) (h2 : n2 ≤ n1 + 1) (h3 : n1 < 1000000000) (hQ : Q [] h) : insF vk I s n1 n2 p Q h := by
  unfold insF
  refine loopK_intro (fun (n : Int) h' m => h' = h ∧ n = n1 + 1) 0 ⟨rfl, w64 (by omega) (by omega)⟩ ?_
  rintro n h' m ⟨rfl, rfl⟩
  exact ifT_dec (fun h4 => by omega) fun _ => hQ
theorem spec167s (hI : Closed' prog Pm I) {x : Nat} (h1 : x < 256) (hQ : ∀ n, Q [int n] h) : I 167 [u64 x] Q h := by
  refine hI.go _ _ (den167 I x Q) ?_
  refine joinK_intro (fun (p : Int × Int) h' => h' = h ∧ p = ((x : Int), 0)) ?_ fun j hj => ifT_dec (fun h2 => by omega) fun _ => hj _ _ ⟨rfl, rfl⟩
  rintro _ h' ⟨rfl, rfl⟩
  dsimp only [uncur]
  refine ifT_dec (fun h2 => by omega) fun _ => ifT_dec (fun h2 => by omega) fun _ => ?_
  rw [w8 h1]
  exact ⟨⟨by omega, by show (x : Int) < ((256 : Nat) : Int); omega⟩, hQ _⟩
theorem spec118 (hI : Closed' prog Pm I) {x : Nat} (h1 : x < 256) (hQ : ∀ n, Q [int n] h) : I 118 [u64 x] Q h := by
  refine hI.go _ _ (den118 I x Q) ?_
  exact spec167s hI h1 fun n => ⟨n, rfl, hQ n⟩
theorem spec197 (hI : Closed' prog Pm I) {s : Sl} {n1 n2 : Int} {p : Option (FuncId × List (Nat × Nat))} (hQ : insF crK I s n1 n2 p Q h) : I 197 [.one (.slice 3 s), int n1, int n2, .one (.func p)] Q h := by
  refine hI.go _ _ (den197 I s n1 n2 p Q) ?_
  rw [den197g]; exact hQ
theorem spec144 (hI : Closed' prog Pm I) {s : Sl} {n : Nat} {n3 : Int} {p : Option (FuncId × List (Nat × Nat))} (hn : n ≤ 12) (hQ : insF crK I s 0 n p (fun cs h => cs = [] ∧ Q [] h) h) : I 144 [.one (.slice 3 s), int 0, int n, int n3, .one (.func p)] Q h := by
  refine hI.go _ _ (den144 I s 0 n n3 p Q) ?_
  refine loopK_intro (fun (a : Int × Int × Int × Bool × Bool) h' m => h' = h ∧ a = (0, (n : Int), n3, true, true)) 0 ⟨rfl, rfl⟩ ?_
  rintro _ h' m ⟨rfl, rfl⟩
  dsimp only [uncur]
  have e : IntKind.i64.wrap ((n : Int) - 0) = (n : Int) := by rw [w64] <;> omega
  rw [e]
  exact ifT_dec (fun _ => spec197 hI hQ) fun h1 => by omega
theorem spec101 (hI : Closed' prog Pm I) {s : Sl} {p : Option (FuncId × List (Nat × Nat))} (hn : s.len ≤ 12) (hQ : insF crK I s 0 s.len p (fun cs h => cs = [] ∧ cs = [] ∧ Q [] h) h) : I 101 [.one (.slice 3 s), .one (.func p)] Q h := by
  refine hI.go _ _ (den101 I s p Q) ?_
  unfold vc101
  rw [wN _ (by omega)]
  refine spec118 hI (by omega) fun n => ⟨n, rfl, spec144 hI hn ?_⟩
  have e : (fun (cs : List V) (h : Heap) => cs = [] ∧ cs = [] ∧ Q [] h) = fun (cs : List V) (h : Heap) => cs = [] ∧ ([] : List V) = [] ∧ Q [] h := by
    funext cs h; simp
  rw [e] at hQ
  exact hQ
end
end Go.Proofs.YtfemminjhecocaaGreatDoorVc
-- GsSpec2
namespace Go.Proofs.YtfemminjhecocaaGreatDoorVc
open Go.Proofs.YtfemminjhecocaaGreatDoorLasts
open Go.Proofs.Tryz (prog)
theorem any_mem (l : List ByteArray) (s : ByteArray) : (l.any fun y => decide (y = s)) = decide (s ∈ l) := by
  rw [Bool.eq_iff_iff, List.any_eq_true]
  simp
section
variable {I : Calls} {Q : Post} {h : Heap}
theorem deal_part (hI : Closed' prog Pm I) {m mc : Nat} {s1 sp lw ld : Sl} {xs : List Sent} {path ws ds : List Nat} {dm acc : List Cr} {G C : Nat}
    (hs : At h 4 s1 (rows sentC xs)) (hp : At h 1 sp (nats path)) (hw : At h 1 lw (nats ws)) (hd : At h 1 ld (nats ds)) (hpx : ∀ i ∈ path, ∃ x, xs[i]? = some x) (hxl : xs.length ≤ 30)
    (hwl : ws.length = path.length) (hdl : ds.length = path.length) (hpl : path.length ≤ 12) (hds : ds.sum ≤ 1000000000000)
    (hm : h m = some (.map (crM dm))) (hmc : h mc = some (.map [])) (hne : m ≠ mc) (same : SameC (dm, []) (acc, [])) (hz : ∀ t ∈ trs xs path ds ws, t.2.2 = 0 → t.2.1 = 0)
    (hsm : ∀ r ∈ acc, r.gains ≤ G ∧ r.cents ≤ C) (hG : G ≤ 1000) (hC : C ≤ 1000000000000000) {K : T}
    (hK : ∀ h', Ext ((h.del m).del mc) h' → h' m = some (.map (crM (foldD (dm, []) (trs xs path ds ws)).1)) → K h') :
    loopK (A := Int) 0
                                (fun x61 => fun n62 => ifT (decide (n62 < (↑ld.len : Int)))
                                  (fun h63 =>
                                  ((0 ≤ n62) ∧
                                  n62 < (↑ld.len : Int)) ∧
                                  (derefK ld.a (fun i64 => fun i65 => fun h66 =>
                                  ∃ n67 : Int, (h66.read i64 (i65 + n62.toNat * 1) 1 = some [Cell.int IntKind.i64 n67]) ∧
                                  ((0 ≤ n62) ∧
                                  n62 < (↑sp.len : Int)) ∧
                                  (derefK sp.a (fun i68 => fun i69 => fun h70 =>
                                  ∃ n71 : Int, (h70.read i68 (i69 + n62.toNat * 1) 1 = some [Cell.int IntKind.i64 n71]) ∧
                                  ((0 ≤ n71) ∧
                                  n71 < (↑s1.len : Int)) ∧
                                  (derefK s1.a (fun i72 => fun i73 => fun h74 =>
                                  ∃ s75 : ByteArray, (h74.read i72 (i73 + n71.toNat * 4 + 2) 1 = some [Cell.str s75]) ∧
                                  ∃ s76 : ByteArray, ∃ n77 : Int, ∃ n78 : Int, ∃ b79 : Bool, (∃ cs80 : List (V × V), (mapOf h74 (some m) = some cs80) ∧
                                  mapGet (V.one (Cell.str s75)) (V.agg [Cell.str ByteArray.empty, Cell.int IntKind.i64 0, Cell.int IntKind.i64 0]) cs80 = some (V.agg [Cell.str s76, Cell.int IntKind.i64 n77, Cell.int IntKind.i64 n78], b79)) ∧
                                  (joinK (A := Bool)
                                    (fun b81 => ifT b81
                                      (fun h82 =>
                                      (mapK [] (some mc) (V.one (Cell.str s75)) (V.one (Cell.bool true)) (fun h83 =>
                                      (mapK [] (some m) (V.one (Cell.str s75)) (V.agg [Cell.str s75, Cell.int IntKind.i64 (IntKind.i64.wrap (n77 + 1)), Cell.int IntKind.i64 (IntKind.i64.wrap (n78 + n67))]) (x61 (IntKind.i64.wrap (n62 + 1)))) h83)) h82)
                                      (fun h84 =>
                                      (mapK [] (some m) (V.one (Cell.str s75)) (V.agg [Cell.str s75, Cell.int IntKind.i64 n77, Cell.int IntKind.i64 (IntKind.i64.wrap (n78 + n67))]) (x61 (IntKind.i64.wrap (n62 + 1)))) h84))
                                    (fun x85 => fun h86 => 
                                    ((0 ≤ n62) ∧
                                    n62 < (↑lw.len : Int)) ∧
                                    (derefK lw.a (fun i87 => fun i88 => fun h89 =>
                                    ∃ n90 : Int, (h89.read i87 (i88 + n62.toNat * 1) 1 = some [Cell.int IntKind.i64 n90]) ∧
                                    (ifT (decide (n90 > 0))
                                      (fun h91 =>
                                      ∃ b92 : Bool, ∃ b93 : Bool, (∃ cs94 : List (V × V), (mapOf h91 (some mc) = some cs94) ∧
                                      mapGet (V.one (Cell.str s75)) (V.one (Cell.bool false)) cs94 = some (V.one (Cell.bool b92), b93)) ∧
                                      x85 (!b92) h91)
                                      (x85 false)) h89)) h86)) h74)) h70)) h66)) h63)
                                  K) h := by
  have as0 : At ((h.del m).del mc) 4 s1 (rows sentC xs) := (hs.off hm).off (by rw [del_ne _ (fun e => hne e.symm)]; exact hmc)
  have ap0 : At ((h.del m).del mc) 1 sp (nats path) := (hp.off hm).off (by rw [del_ne _ (fun e => hne e.symm)]; exact hmc)
  have aw0 : At ((h.del m).del mc) 1 lw (nats ws) := (hw.off hm).off (by rw [del_ne _ (fun e => hne e.symm)]; exact hmc)
  have ad0 : At ((h.del m).del mc) 1 ld (nats ds) := (hd.off hm).off (by rw [del_ne _ (fun e => hne e.symm)]; exact hmc)
  have hls : s1.len = xs.length := hs.rowsLen sentC_length (by decide)
  have hlp : sp.len = path.length := by rw [hp.len1, nats_length]
  have hlw : lw.len = path.length := by rw [hw.len1, nats_length, hwl]
  have hld : ld.len = path.length := by rw [hd.len1, nats_length, hdl]
  have htl := trs_length (xs := xs) hdl hwl
  have htc := trs_cents (xs := xs) hdl hwl
  obtain ⟨ts, hts⟩ : ∃ ts, trs xs path ds ws = ts := ⟨_, rfl⟩
  have hget : ∀ {k i d w : Nat}, path[k]? = some i → ds[k]? = some d → ws[k]? = some w → ts[k]? = some (letOf xs i, d, w) := fun h1 h2 h3 => by rw [← hts]; exact trs_get h1 h2 h3
  rw [hts] at hK hz htl htc
  have ext0 : Ext ((h.del m).del mc) h := fun j o hj => by
    have h1 : j ≠ mc := fun e => by subst e; simp [Heap.del] at hj
    rw [del_ne _ h1] at hj
    have h2 : j ≠ m := fun e => by subst e; simp [Heap.del] at hj
    rw [del_ne _ h2] at hj; exact hj
  obtain ⟨b0, hb0⟩ : ∃ b0, (h.del m).del mc = b0 := ⟨_, rfl⟩
  have up : ∀ {g : Heap} {j : Nat} {o : Obj}, (j = m ∨ j = mc) → Ext b0 g → Ext b0 (g.set j o) := fun {g j o} hj e k x hx => by
    have : k ≠ j := fun e' => by
      rw [← hb0] at hx
      rcases hj with rfl | rfl
      · rw [e', del_ne _ hne] at hx; simp [Heap.del] at hx
      · rw [e'] at hx; simp [Heap.del] at hx
    rw [set_ne _ _ this]; exact e k x hx
  rw [hb0] at as0 ap0 aw0 ad0 ext0 hK
  refine loopK_intro (fun (a : Int) h' mm => ∃ k : Nat, k ≤ path.length ∧ a = (k : Int) ∧ mm = path.length - k ∧ Ext b0 h' ∧ h' m = some (.map (crM (foldD (dm, []) (ts.take k)).1)) ∧ h' mc = some (.map (seen (foldD (dm, []) (ts.take k)).2))) path.length
    ⟨0, by omega, rfl, rfl, ext0, hm, hmc⟩ ?_
  rintro _ g mm ⟨k, hk, rfl, rfl, ex, gm, gc⟩
  refine ifT_dec (fun hlt => ⟨⟨by omega, hlt⟩, ?_⟩) fun hge => ?_
  · have h1 := List.getElem?_eq_getElem (show k < path.length by omega)
    generalize path[k] = i at h1
    have h2 := List.getElem?_eq_getElem (show k < ds.length by omega)
    generalize ds[k] = d at h2
    have h3 := List.getElem?_eq_getElem (show k < ws.length by omega)
    generalize ws[k] = w at h3
    obtain ⟨x, hx⟩ := hpx i (List.mem_of_getElem? h1)
    have hil : i < xs.length := (List.getElem?_eq_some_iff.1 hx).1
    have hlet : letOf xs i = x.letter := by unfold letOf; rw [hx]
    have ht := hget h1 h2 h3
    rw [hlet] at ht
    have htk : ts.take (k + 1) = ts.take k ++ [(x.letter, d, w)] := by rw [List.take_add_one, ht]; rfl
    obtain ⟨p, hp'⟩ : ∃ p, foldD (dm, []) (ts.take k) = p := ⟨_, rfl⟩
    have hnext : foldD (dm, []) (ts.take (k + 1)) = stepD p (x.letter, d, w) := by rw [htk, foldD_snoc, hp']
    rw [hp'] at gm gc
    -- the numbers are not great
    have hsame : SameC p (foldC (acc, []) (ts.take k)) := by rw [← hp']; exact fold_same same fun t ht' => hz t (List.mem_of_mem_take ht')
    have hfs := foldC_small (ts.take k) (acc, []) G C hsm
    have hsmall := lookC_small hfs x.letter
    rw [← hsame.1] at hsmall
    have hsumk : ((ts.take k).map (·.2.1)).sum ≤ 1000000000000 := by
      have e1 : (ts.map (·.2.1)).sum = ((ts.take k).map (·.2.1)).sum + ((ts.drop k).map (·.2.1)).sum := by rw [← List.sum_append, ← List.map_append, List.take_append_drop]
      rw [htc] at e1; omega
    have hlk : (ts.take k).length ≤ 12 := by rw [List.length_take]; omega
    have hdle : d ≤ 1000000000000 := Nat.le_trans (mem_le_sum (List.mem_of_getElem? h2)) hds
    refine (ex.at_ ad0).cell (nats_get h2) fun b oo hr => ⟨_, hr, ⟨by omega, by omega⟩, ?_⟩
    refine (ex.at_ ap0).cell (nats_get h1) fun b oo hr => ⟨_, hr, ⟨by omega, by omega⟩, ?_⟩
    refine (ex.at_ as0).rowCell (f := sentC) sentC_length (by decide) hx (j := 2) (c := .str x.letter) rfl fun bb oo hr => ⟨x.letter, hr, ?_⟩
    obtain ⟨s76, b79, hmg⟩ := crM_get x.letter p.1
    refine ⟨s76, _, _, b79, ⟨_, mapOf_some gm, hmg⟩, ?_⟩
    have ew : IntKind.i64.wrap ((k : Int) + 1) = ((k + 1 : Nat) : Int) := by rw [w64] <;> omega
    have ec : IntKind.i64.wrap (((lookC p.1 x.letter).cents : Int) + (d : Int)) = (((lookC p.1 x.letter).cents + d : Nat) : Int) := by rw [w64] <;> omega
    have eg : IntKind.i64.wrap (((lookC p.1 x.letter).gains : Int) + 1) = (((lookC p.1 x.letter).gains + 1 : Nat) : Int) := by rw [w64] <;> omega
    refine joinK_intro (fun (b : Bool) g' => g' = g ∧ b = newC p (x.letter, d, w)) ?_ fun jk hjk => ⟨⟨by omega, by omega⟩, (ex.at_ aw0).cell (nats_get h3) fun b oo hr => ⟨_, hr, ifT_dec (fun hw0 => ?_) fun hw0 => hjk _ _ ⟨rfl, ?_⟩⟩⟩
    case refine_2 =>
      refine ⟨_, _, ⟨_, mapOf_some gc, seen_get x.letter _⟩, hjk _ _ ⟨rfl, ?_⟩⟩
      unfold newC
      rw [any_mem]
      have : decide (0 < w) = true := by simp; omega
      simp [this]
    case refine_3 =>
      unfold newC
      have : decide (0 < w) = false := by simp; omega
      simp [this]
    rintro b g' ⟨rfl, rfl⟩
    rw [ew, ec]
    refine ifT_intro (fun hb => ?_) fun hb => ?_
    · have hnot : (p.2.any fun y => decide (y = x.letter)) = false := by
        rw [any_mem]
        unfold newC at hb
        simp only [Bool.and_eq_true, Bool.not_eq_true'] at hb
        exact hb.2
      have e1 : stepD p (x.letter, d, w) = (addC p.1 x.letter d 1, p.2 ++ [x.letter]) := by unfold stepD; simp [hb]
      refine mapK_intro gc (seen_set x.letter _ hnot) ?_
      rw [eg]
      refine mapK_intro (es := crM p.1) (by rw [set_ne _ _ hne]; exact gm) (crM_set x.letter d 1 p.1) ?_
      refine ⟨path.length - (k + 1), by omega, k + 1, by omega, rfl, rfl, up (.inl rfl) (up (.inr rfl) ex), ?_, ?_⟩
      · rw [set_eq, hnext, e1]
      · rw [set_ne _ _ (fun e => hne e.symm), set_eq, hnext, e1]
    · have e1 : stepD p (x.letter, d, w) = (addC p.1 x.letter d 0, p.2) := by unfold stepD; simp [hb]
      refine mapK_intro gm (crM_set x.letter d 0 p.1) ?_
      refine ⟨path.length - (k + 1), by omega, k + 1, by omega, rfl, rfl, up (.inl rfl) ex, ?_, ?_⟩
      · rw [set_eq, hnext, e1]
      · rw [set_ne _ _ (fun e => hne e.symm), hnext, e1]; exact gc
  · have : k = path.length := by omega
    subst this
    rw [List.take_of_length_le (by omega)] at gm
    exact hK g ex gm
end
end Go.Proofs.YtfemminjhecocaaGreatDoorVc
-- GsSpec3
namespace Go.Proofs.YtfemminjhecocaaGreatDoorVc
open Go.Proofs.YtfemminjhecocaaGreatDoorLasts
open Go.Proofs.Tryz (prog)

/-! ### a range over a map whose entries are known -/
theorem stamped_of {α : Type} (φ : α → V × V) : ∀ (dm : List α) (fs : List ((V × V) × Nat)), fs.map (·.1) = dm.map φ → ∃ fc : List (α × Nat), fs = fc.map (fun q => (φ q.1, q.2)) ∧ fc.map (·.1) = dm
  | [], [], _ => ⟨[], rfl, rfl⟩
  | a :: dm, f :: fs, h => by
    simp only [List.map_cons, List.cons.injEq] at h
    obtain ⟨fc, h1, h2⟩ := stamped_of φ dm fs h.2
    refine ⟨(a, f.2) :: fc, ?_, by simp [h2]⟩
    rw [List.map_cons, ← h1, ← h.1]
  | [], _ :: _, h => by simp at h
  | _ :: _, [], h => by simp at h
def leftC {α : Type} (fc : List (α × Nat)) (seen : List Nat) : List (α × Nat) := fc.filter fun q => !seen.contains q.2
theorem leftC_nil {α : Type} (fc : List (α × Nat)) : leftC fc [] = fc := by unfold leftC; simp
theorem leftF_map {α : Type} (φ : α → V × V) (fc : List (α × Nat)) (seen : List Nat) : leftF (fc.map fun q => (φ q.1, q.2)) seen = (leftC fc seen).map fun q => (φ q.1, q.2) := by
  unfold leftF leftC
  rw [List.filter_map]
  rfl
theorem perm_out {α : Type} : ∀ {l : List (α × Nat)} {q : α × Nat}, (l.map (·.2)).Nodup → q ∈ l → l.Perm (q :: l.filter fun r => !decide (r.2 = q.2))
  | a :: l, q, hn, hq => by
    simp only [List.map_cons, List.nodup_cons] at hn
    rcases List.mem_cons.1 hq with rfl | hq
    · rw [List.filter_cons]
      simp only [decide_true, Bool.not_true, Bool.false_eq_true, if_false]
      have : l.filter (fun r => !decide (r.2 = q.2)) = l := List.filter_eq_self.2 fun r hr => by
        simp only [Bool.not_eq_true', decide_eq_false_iff_not]
        exact fun e => hn.1 (e ▸ List.mem_map_of_mem hr)
      rw [this]
    · have hne : ¬ a.2 = q.2 := fun e => hn.1 (e ▸ List.mem_map_of_mem hq)
      rw [List.filter_cons]
      simp only [hne, decide_false, Bool.not_false, if_true]
      exact ((perm_out hn.2 hq).cons a).trans (List.Perm.swap _ _ _)
theorem left_step {α : Type} {fc : List (α × Nat)} {seen : List Nat} {q : α × Nat} (hn : (fc.map (·.2)).Nodup) (hq : q ∈ leftC fc seen) : (leftC fc seen).Perm (q :: leftC fc (seen ++ [q.2])) := by
  have e : leftC fc (seen ++ [q.2]) = (leftC fc seen).filter fun r => !decide (r.2 = q.2) := by
    unfold leftC
    rw [List.filter_filter]
    refine List.filter_congr fun r _ => ?_
    simp [List.contains_eq_mem]
    rw [Bool.eq_iff_iff]
    simp [and_comm]
  rw [e]
  refine perm_out ?_ hq
  unfold leftC
  exact List.Nodup.sublist (List.Sublist.map _ List.filter_sublist) hn
theorem Own.turn {F g : Heap} {k : Nat} {s : Sl} {cs : List Cell} {j : Nat} {o x : Obj} (w : Own F g k s cs) (hj : F j = some o) : Own (F.set j x) (g.set j x) k s cs := by
  refine ⟨fun i y hi => ?_, w.len, w.lies.imp id fun ⟨i, h1, h2, h3⟩ => ⟨i, h1, ?_, ?_⟩⟩
  · by_cases e : i = j
    · subst e; rw [set_eq] at hi ⊢; exact hi
    · rw [set_ne _ _ e] at hi ⊢; exact w.ext _ _ hi
  · have : i ≠ j := fun e => by subst e; rw [h2] at hj; cases hj
    rw [set_ne _ _ this]; exact h2
  · have : i ≠ j := fun e => by subst e; rw [h2] at hj; cases hj
    rw [set_ne _ _ this]; exact h3
theorem Own.owns {F g : Heap} {k : Nat} {s : Sl} {cs : List Cell} (w : Own F g k s cs) : Owns F g [(k, s, cs)] :=
  ⟨w.ext, fun p hp => by have := List.mem_singleton.1 hp; subst this; exact ⟨w.len, w.lies⟩, List.pairwise_singleton _ _⟩
def posC (r : Cr) : Bool := decide (0 < r.gains)
theorem crs_snoc (a : List Cr) (x : Cr) : rows crC (a ++ [x]) = rows crC a ++ crC x := by simp [rows]

section
variable {I : Calls} {Q : Post} {h : Heap}
theorem range_part (hI : Closed' prog Pm I) {m : Nat} {dm : List Cr} (hm : h m = some (.map (crM dm))) (hdl : dm.length ≤ 1000) {K : Sl → T}
    (hK : ∀ s' h' (D : List Cr), D.Perm dm → Ext (h.del m) h' → Owns ((h.del m).set m (.map (crM dm))) h' [(3, s', rows crC (D.filter posC))] → K s' h') :
    rangeK m (fun i96 => loopK (A := Sl) ({ a := none, len := 0 })
                    (fun x97 => fun l98 => fun h99 => 
                    (nextK i96
                      (K l98)
                      (fun x103 => fun x104 => fun h105 => 
                      ∃ s106 : ByteArray, ∃ s107 : ByteArray, ∃ n108 : Int, ∃ n109 : Int, (x103 = V.one (Cell.str s106)) ∧
                      (x104 = V.agg [Cell.str s107, Cell.int IntKind.i64 n108, Cell.int IntKind.i64 n109]) ∧
                      (entryK i96 (fun x110 => fun x111 => fun h112 => 
                      ∃ s113 : ByteArray, ∃ s114 : ByteArray, ∃ n115 : Int, ∃ n116 : Int, (x110 = V.one (Cell.str s113)) ∧
                      (x111 = V.agg [Cell.str s114, Cell.int IntKind.i64 n115, Cell.int IntKind.i64 n116]) ∧
                      (ifT (decide (n115 > 0))
                        (fun h117 =>
                        (appendTo [] 3 32 l98 1 [Cell.str s114, Cell.int IntKind.i64 n115, Cell.int IntKind.i64 n116] (fun l118 => fun h119 => 
                        x97 l118 h119)) h117)
                        (x97 l98)) h112)) h105)) h99)) h := by
  refine ⟨crM dm, hm, fun fs ck hfs hnd j hj => ?_⟩
  obtain ⟨fc, rfl, hfc⟩ := stamped_of (fun r : Cr => (V.one (Cell.str r.letter), crV r)) dm fs hfs
  have hnd' : (fc.map (·.2)).Nodup := by rw [List.map_map] at hnd; exact hnd
  have hjm : j ≠ m := fun e => by subst e; rw [hm] at hj; cases hj
  obtain ⟨fs, hfsd⟩ : ∃ fs, fc.map (fun q : Cr × Nat => ((V.one (Cell.str q.1.letter), crV q.1), q.2)) = fs := ⟨_, rfl⟩
  have hleft : ∀ seen, leftF fs seen = (leftC fc seen).map fun q => ((V.one (Cell.str q.1.letter), crV q.1), q.2) := fun seen => by rw [← hfsd]; exact leftF_map (fun r : Cr => (V.one (Cell.str r.letter), crV r)) fc seen
  have hback : fs.map (·.1) = crM dm := by rw [← hfsd]; exact hfs
  rw [hfsd]
  have x0 : Ext (h.del m) ((h.set m (.mapF fs ck)).set j (.iter m [] ck)) := fun i o hi => by
    have h1 : i ≠ m := fun e => by subst e; simp [Heap.del] at hi
    rw [del_ne _ h1] at hi
    have h2 : i ≠ j := fun e => by subst e; rw [hj] at hi; cases hi
    rw [set_ne _ _ h2, set_ne _ _ h1]; exact hi
  have hbm : (h.del m) m = none := by simp [Heap.del]
  have hbj : (h.del m) j = none := by rw [del_ne _ hjm]; exact hj
  refine loopK_intro (fun (s : Sl) g n => ∃ (F : Heap) (D : List Cr) (seen : List Nat), Ext (h.del m) F ∧ F m = some (.mapF fs ck) ∧ F j = some (.iter m seen ck) ∧ Own F g 3 s (rows crC (D.filter posC)) ∧ (D ++ (leftC fc seen).map (·.1)).Perm dm ∧ n = (leftC fc seen).length) fc.length
    ⟨_, [], [], x0, by rw [set_ne _ _ (fun e => hjm e.symm), set_eq], set_eq _ _ _, Own.nil _ _, by rw [leftC_nil]; simp [hfc], by rw [leftC_nil]⟩ ?_
  rintro s g n ⟨F, D, seen, xF, Fm, Fj, w, hp, rfl⟩
  refine ⟨m, fs, ck, seen, w.ext _ _ Fj, w.ext _ _ Fm, fun hnil => ?_, fun e he => ?_⟩
  · have hl0 : leftC fc seen = [] := by rw [hleft] at hnil; simpa using hnil
    rw [hl0] at hp
    simp only [List.map_nil, List.append_nil] at hp
    rw [hback]
    have w2 := w.turn (x := .map (crM dm)) Fm
    refine hK s _ D hp (fun i o hi => ?_) ⟨?_, fun p hp' => ?_, List.pairwise_singleton _ _⟩
    · have h1 : i ≠ m := fun e => by subst e; rw [hbm] at hi; cases hi
      rw [set_ne _ _ h1]; exact w.ext _ _ (xF _ _ hi)
    · intro i o hi
      by_cases h1 : i = m
      · subst h1; rw [set_eq] at hi ⊢; exact hi
      · rw [set_ne _ _ h1] at hi ⊢; exact w.ext _ _ (xF _ _ hi)
    · obtain ⟨a1, a2⟩ := w2.owns.all p hp'
      refine ⟨a1, a2.imp id fun ⟨i, b1, b2, b3⟩ => ⟨i, b1, ?_, b3⟩⟩
      have h1 : i ≠ m := fun e => by subst e; rw [set_eq] at b2; cases b2
      rw [set_ne _ _ h1] at b2 ⊢
      cases hh : (h.del m) i with
      | none => rfl
      | some o => have := xF _ _ hh; rw [b2] at this; cases this
  · rw [hleft] at he
    obtain ⟨q, hq, rfl⟩ := List.mem_map.1 he
    have hst := left_step hnd' hq
    have hlen : (leftC fc seen).length = (leftC fc (seen ++ [q.2])).length + 1 := by rw [hst.length_eq]; rfl
    have hp2 : (D ++ [q.1] ++ (leftC fc (seen ++ [q.2])).map (·.1)).Perm dm := by
      refine List.Perm.trans ?_ hp
      rw [List.append_assoc]
      exact (List.Perm.append_left D (hst.map (·.1))).symm
    have hqf : q ∈ fc := (List.mem_filter.1 hq).1
    have w2 := w.turn (x := .iter m (seen ++ [q.2]) ck) Fj
    have F2m : (F.set j (.iter m (seen ++ [q.2]) ck)) m = some (.mapF fs ck) := by rw [set_ne _ _ (fun e => hjm e.symm)]; exact Fm
    have F2j : (F.set j (.iter m (seen ++ [q.2]) ck)) j = some (.iter m (seen ++ [q.2]) ck) := set_eq _ _ _
    have xF2 : Ext (h.del m) (F.set j (.iter m (seen ++ [q.2]) ck)) := xF.set hbj
    have hDl : D.length ≤ 1000 := by have := hp.length_eq; rw [List.length_append] at this; omega
    have hsl : s.len = (D.filter posC).length := (w.at_).rowsLen crC_length (by decide)
    have hfl : (D.filter posC).length ≤ D.length := List.length_filter_le _ _
    refine ⟨q.1.letter, q.1.letter, q.1.gains, q.1.cents, rfl, rfl, m, fs, ck, seen, ((V.one (Cell.str q.1.letter), crV q.1), q.2), w2.ext _ _ F2j, w2.ext _ _ F2m, by rw [← hfsd]; exact List.mem_map_of_mem (f := fun q : Cr × Nat => ((V.one (Cell.str q.1.letter), crV q.1), q.2)) hqf, q.1.letter, q.1.letter, q.1.gains, q.1.cents, rfl, rfl, ?_⟩
    refine ifT_dec (fun hg => ?_) fun hg => ?_
    · refine appendTo_own (m := 0) w2 rfl (by omega) fun s' g' w3 hs' => ⟨(leftC fc (seen ++ [q.2])).length, by omega, _, D ++ [q.1], seen ++ [q.2], xF2, F2m, F2j, ?_, hp2, rfl⟩
      have e : (D ++ [q.1]).filter posC = D.filter posC ++ [q.1] := by
        rw [List.filter_append]
        have : posC q.1 = true := by unfold posC; simp; omega
        simp [this]
      rw [e, crs_snoc]; exact w3
    · refine ⟨(leftC fc (seen ++ [q.2])).length, by omega, _, D ++ [q.1], seen ++ [q.2], xF2, F2m, F2j, ?_, hp2, rfl⟩
      have e : (D ++ [q.1]).filter posC = D.filter posC := by
        rw [List.filter_append]
        have : posC q.1 = false := by unfold posC; simp; omega
        simp [this]
      rw [e]; exact w2
end
end Go.Proofs.YtfemminjhecocaaGreatDoorVc
-- GsSpec4
namespace Go.Proofs.YtfemminjhecocaaGreatDoorVc
open Go.Proofs.YtfemminjhecocaaGreatDoorLasts
open Go.Proofs.Tryz (prog)
def ltL (a b : Cr) : Bool := decide (a.letter.toList < b.letter.toList)
def leL (a b : Cr) : Prop := ltL b a = false
theorem leL_iff {a b : Cr} : leL a b ↔ ¬ b.letter.toList < a.letter.toList := by unfold leL ltL; rw [decide_eq_false_iff_not]
theorem leL_trans {a b c : Cr} (h1 : leL a b) (h2 : leL b c) : leL a c := by
  rw [leL_iff] at *
  rw [List.not_lt] at *
  exact List.le_trans h1 h2
theorem ltL_asymm {a b : Cr} (h : ltL b a = true) : leL b a := by
  unfold ltL at h
  rw [decide_eq_true_eq] at h
  rw [leL_iff]
  exact List.lt_asymm h
section
variable {I : Calls} {Q : Post} {h : Heap}
theorem spec102 (hI : Closed' prog Pm I) {x y : Cr} (hQ : ∀ c, (c < 0 ↔ ltL x y = true) → Q [int c] h) : I 102 [.agg (crC x), .agg (crC y)] Q h := by
  refine hI.go _ _ (den102 I x.letter x.gains x.cents y.letter y.gains y.cents Q) ?_
  exact spec63 hI fun c h1 _ => ⟨c, rfl, hQ c (by unfold ltL; rw [decide_eq_true_eq]; exact h1)⟩
theorem sort101 (hI : Closed' prog Pm I) {h0 : Heap} {s : Sl} {xs : List Cr} {L : List Ow} (o : Owns h0 h ((3, s, rows crC xs) :: L)) (hl12 : xs.length ≤ 12)
    (hQ : ∀ ys h', ys.Perm xs → ys.Pairwise leL → Owns h0 h' ((3, s, rows crC ys) :: L) → Q [] h') : I 101 [.one (.slice 3 s), .one (.func (some (102, [])))] Q h := by
  have hl : s.len = xs.length := (o.at_ List.mem_cons_self).rowsLen crC_length (by decide)
  refine spec101 hI (by omega) ?_
  obtain ⟨ho1, ho2 | ⟨blk, ho2, ho3, ho4⟩⟩ := o.all _ List.mem_cons_self
  · have hx : xs = [] := by
      have := congrArg List.length ho2.2
      simp only [rows_length crC_length, List.length_nil] at this
      exact List.length_eq_zero_iff.1 (by omega)
    subst hx
    have h0l : s.len = 0 := hl
    rw [h0l]
    exact insF_none (by decide) (by decide) (by decide) ⟨rfl, rfl, hQ [] h (List.Perm.refl _) List.Pairwise.nil o⟩
  · have e2 : s = ⟨some (blk, 0), s.len⟩ := by cases s; simp only at ho2; rw [ho2]
    refine ins_spec cr_fits (v := fun x => V.agg (crC x)) (P := []) (S := []) (xs := xs) (blk := blk) (mem := fun _ => True) (lt := ltL) leL ho2 (by rw [hl]; simp) (by rw [List.append_nil]; exact ho4) rfl (by rw [hl]; simp) (by omega) (fun _ _ => trivial) ?_ ?_ (fun a b c _ _ _ => leL_trans) fun ys h' hp hs hps => ⟨rfl, rfl, hQ ys h' hp hs ?_⟩
    · intro a b _ _ h' Q' _ hq
      exact spec102 hI fun c hc => hq c h' (Ext.refl _) hc
    · exact List.pairwise_of_forall fun a b => ⟨fun h1 => ltL_asymm h1, fun h1 => h1⟩
    · rw [List.append_nil, List.nil_append] at hps
      have o3 : Owns h0 h ((crK.kds.length, ⟨some (blk, 0), s.len⟩, rws (fun x : Cr => V.agg (crC x)) xs) :: L) := by
        have : Owns h0 h ((3, ⟨some (blk, 0), s.len⟩, rows crC xs) :: L) := by rw [← e2]; exact o
        exact this
      have := o3.psg cr_fits hps hp.length_eq
      rw [e2]; exact this
end
end Go.Proofs.YtfemminjhecocaaGreatDoorVc
-- GsSpec5
namespace Go.Proofs.YtfemminjhecocaaGreatDoorVc
open Go.Proofs.YtfemminjhecocaaGreatDoorLasts
open Go.Proofs.Tryz (prog)
def errAt (xs : List Sent) (gs : List Gain) (how span : Int) : Int := if errT xs gs ≠ 0 then errT xs gs else errA how span []
theorem nodup_len : ∀ (l L : List ByteArray), l.Nodup → (∀ x ∈ l, x ∈ L) → l.length ≤ L.length
  | [], L, _, _ => Nat.zero_le _
  | x :: l, L, hn, hs => by
    obtain ⟨h1, h2⟩ := List.nodup_cons.1 hn
    have hx := hs x (by simp)
    have h3 := nodup_len l (L.filter fun y => !decide (y = x)) h2 fun y hy => List.mem_filter.2 ⟨hs y (by simp [hy]), by
      have : ¬ y = x := fun e => h1 (by rw [← e]; exact hy)
      simp [this]⟩
    have h4 : (L.filter fun y => !decide (y = x)).length < L.length := List.length_filter_lt_length_iff_exists.2 ⟨x, hx, by simp⟩
    rw [List.length_cons]; omega
theorem foldD_LS : ∀ {ts : List Tr} {p : List Cr × List ByteArray}, (∀ r ∈ p.1, r.letter ∈ LS) → (∀ t ∈ ts, t.1 ∈ LS) → ∀ r ∈ (foldD p ts).1, r.letter ∈ LS
  | [], _, h, _ => h
  | t :: ts, p, h, ht => foldD_LS (ts := ts) (p := stepD p t) (fun r hr => by
      rcases addC_mem hr with h1 | ⟨r0, _, _, rfl⟩ | ⟨_, rfl⟩
      · exact h r h1
      · exact ht t (by simp)
      · exact ht t (by simp)) fun t' ht' => ht t' (by simp [ht'])
theorem trs_mem {xs : List Sent} {path ds ws : List Nat} {t : Tr} (hd : ds.length = path.length) (hw : ws.length = path.length) (ht : t ∈ trs xs path ds ws) : ∃ k i : Nat, path[k]? = some i ∧ ds[k]? = some t.2.1 ∧ ws[k]? = some t.2.2 ∧ t.1 = letOf xs i := by
  obtain ⟨k, hk, rfl⟩ := List.mem_iff_getElem.1 ht
  rw [trs_length hd hw] at hk
  have e1 := List.getElem?_eq_getElem hk
  have e2 := List.getElem?_eq_getElem (show k < ds.length by omega)
  have e3 := List.getElem?_eq_getElem (show k < ws.length by omega)
  have e4 := trs_get (xs := xs) e1 e2 e3
  obtain ⟨_, e5⟩ := List.getElem?_eq_some_iff.1 e4
  rw [e5]
  exact ⟨k, _, e1, e2, e3, rfl⟩
section
variable {I : Calls} {Q : Post} {h : Heap}
theorem spec41 (hI : Closed' prog Pm I) {s1 s2 : Sl} {xs : List Sent} {gs : List Gain} {how span : Int} (hs : At h 4 s1 (rows sentC xs)) (hg : At h 4 s2 (rows gainC gs)) (hxl : xs.length ≤ 30) (hgl : gs.length ≤ 30) (hLS : ∀ x ∈ xs, x.letter ∈ LS)
    (hbad : ∀ h', Ext h h' → errAt xs gs how span ≠ 0 → Q [.one (.slice 3 ⟨none, 0⟩), int 0, int (errAt xs gs how span)] h')
    (hQ : ∀ s' ys h', errAt xs gs how span = 0 → Ext h h' → ys.Perm (attrs xs how span gs).1 → ys.Pairwise leL → At h' 3 s' (rows crC ys) → Q [.one (.slice 3 s'), int ((attrs xs how span gs).2 : Nat), int 0] h') :
    I 41 [.one (.slice 4 s1), .one (.slice 4 s2), int how, int span] Q h := by
  have hl1 : s1.len = xs.length := hs.rowsLen sentC_length (by decide)
  have hl2 : s2.len = gs.length := hg.rowsLen gainC_length (by decide)
  refine hI.go _ _ (den41 I s1 s2 how span Q) ?_
  refine spec29 hI hs (by omega) fun h1 e1 => ⟨_, rfl, spec30 hI (e1.at_ hg) (by omega) fun h2 e2 => ⟨_, rfl, newK_intro fun i11 h3 hn3 he3 => ?_⟩⟩
  have e12 := e1.trans e2
  have e3 : Ext h2 h3 := he3 ▸ Ext.new hn3
  have e123 := e12.trans e3
  have eT : (if errS xs = 0 then errG gs else errS xs) = errT xs gs := by
    unfold errT
    by_cases h0 : errS xs = 0
    · rw [if_pos h0, if_neg (by rw [h0]; decide)]
    · rw [if_neg h0, if_pos h0]
  refine spec54 hI (a := errS xs) (b := errG gs) ⟨rfl, .inr ?_⟩ ⟨_, rfl, ?_⟩
  · show h3.read i11 0 (2 * 1) = _
    rw [he3, read_block (set_eq _ _ _) (by simp)]
    rfl
  rw [eT]
  refine ifT_intro (fun hb => ?_) fun hb => ?_
  · have e : errAt xs gs how span = errT xs gs := by unfold errAt; rw [if_pos (nd hb)]
    have := hbad h3 e123 (by rw [e]; exact nd hb)
    rw [e] at this; exact this
  have hE : errT xs gs = 0 := Decidable.of_not_not (nd' hb)
  have eA : errAt xs gs how span = errA how span [] := by unfold errAt; rw [if_neg (by rw [hE]; decide)]
  refine specWeights8 hI (xs := []) (show At h3 1 ⟨none, 0⟩ (ints []) from ⟨rfl, .inl rfl⟩) (fun h4 e4 hne => ⟨_, _, rfl, ifT_intro (fun _ => ?_) fun h9 => absurd hne (nd' h9)⟩) fun hA0 l19 h4 e4 _ => ⟨_, _, rfl, ifT_intro (fun h9 => absurd rfl (nd h9)) fun _ => ?_⟩
  · have := hbad h4 (e123.trans e4) (by rw [eA]; exact hne)
    rw [eA] at this; exact this
  have hE0 : errAt xs gs how span = 0 := by rw [eA, hA0]
  have hhs : (1 ≤ how ∧ how ≤ 6) ∧ (1 ≤ span ∧ span ≤ 4321440) := by
    unfold errA at hA0
    by_cases c1 : 1 ≤ how ∧ how ≤ 6
    · rw [if_neg (fun h => h c1)] at hA0
      by_cases c2 : 1 ≤ span ∧ span ≤ 4321440
      · exact ⟨c1, c2⟩
      · rw [if_pos c2] at hA0; cases hA0
    · rw [if_pos c1] at hA0; cases hA0
  obtain ⟨hhow, hsp⟩ := hhs
  have hS : errS xs = 0 := by
    unfold errT at hE
    by_cases h0 : errS xs = 0
    · exact h0
    · rw [if_pos h0] at hE; exact absurd hE h0
  have hG : errG gs = 0 := by
    unfold errT at hE
    rw [if_neg (by rw [hS]; decide)] at hE; exact hE
  have hgok := scanG_ok2 gs [] hG
  have hmom := scanS_ok xs [] hS
  have x4 : Ext h h4 := e123.trans e4
  have hs4 := x4.at_ hs
  have hg4 := x4.at_ hg
  refine newK_intro fun m h5 hn5 he5 => ?_
  have x5 : Ext h4 h5 := he5 ▸ Ext.new hn5
  refine loopK_intro (fun (a : Int × Int) h' mm => ∃ (k : Nat) (dm : List Cr), k ≤ gs.length ∧ a = ((((attrs xs how span (gs.take k)).2 : Nat) : Int), (k : Int)) ∧ mm = gs.length - k ∧ Ext h4 h' ∧ h' m = some (.map (crM dm)) ∧ SameC (dm, []) ((attrs xs how span (gs.take k)).1, []) ∧ (dm.map (·.letter)).Nodup ∧ ∀ r ∈ dm, r.letter ∈ LS) gs.length
    ⟨0, [], by omega, rfl, rfl, x5, by rw [he5, set_eq]; rfl, ⟨fun _ => rfl, rfl⟩, by simp, by simp⟩ ?_
  rintro _ g0 mm ⟨k, dm, hk, rfl, rfl, ex, gm, same, hnd, hdLS⟩
  dsimp only [uncur]
  obtain ⟨⟨hin, hnone⟩, hndA⟩ := attrs_in xs how span k (gs.take k) (by rw [List.length_take]; omega)
  have hsm := attrs_small xs how span k (gs.take k) (by rw [List.length_take]; omega) fun g hg => (hgok g (List.mem_of_mem_take hg)).2.2
  have hts : ((gs.take k).map fun g => g.cents.toNat).sum ≤ 1000000000000 * ((gs.take k).map fun g => g.cents.toNat).length := sum_le fun x hx => by
    obtain ⟨g, hg, rfl⟩ := List.mem_map.1 hx
    have := (hgok g (List.mem_of_mem_take hg)).2.2; omega
  rw [List.length_map, List.length_take, Nat.min_eq_left hk] at hts
  have hdm7 : dm.length ≤ 7 := by
    have := nodup_len _ LS hnd fun l hl => by obtain ⟨r, hr, rfl⟩ := List.mem_map.1 hl; exact hdLS r hr
    rw [List.length_map] at this; exact this
  refine ifT_dec (fun hlt => ⟨⟨by omega, hlt⟩, ?_⟩) fun hge => ?_
  · have hx := List.getElem?_eq_getElem (show k < gs.length by omega)
    generalize gs[k] = g at hx
    have ht : gs.take (k + 1) = gs.take k ++ [g] := by rw [List.take_add_one, hx]; rfl
    obtain ⟨hgm, hgc⟩ := hgok g (List.mem_of_getElem? hx)
    have ew : IntKind.i64.wrap ((k : Int) + 1) = ((k + 1 : Nat) : Int) := by rw [w64] <;> omega
    refine (ex.at_ hg4).row gainC_length (by decide) hx fun bb oo hr => ⟨g.id, g.person, g.at_, g.cents, hr, ?_⟩
    refine spec99 hI (g := g) (ex.at_ hs4) (by omega) hmom hgm fun sp g1 y1 a1 => ⟨sp, rfl, ?_⟩
    have hspl : sp.len = (pathL xs g span).length := by rw [a1.len1, nats_length]
    rw [ew]
    refine ifT_dec (fun hpos => ?_) fun hpos => ?_
    · have he : pathL xs g span = [] := List.length_eq_zero_iff.1 (by omega)
      have hat : attrs xs how span (gs.take (k + 1)) = ((attrs xs how span (gs.take k)).1, (attrs xs how span (gs.take k)).2 + g.cents.toNat) := by
        rw [ht, attrs_snoc]; unfold attrF; rw [if_pos he]
      refine ⟨gs.length - (k + 1), by omega, k + 1, dm, by omega, ?_, rfl, ex.trans y1, y1 _ _ gm, by rw [hat]; exact same, hnd, hdLS⟩
      rw [hat, w64 (by omega) (by omega)]
      have : (((attrs xs how span (gs.take k)).2 : Nat) : Int) + g.cents = (((attrs xs how span (gs.take k)).2 + g.cents.toNat : Nat) : Int) := by omega
      rw [this]
    · have hne : pathL xs g span ≠ [] := fun e => by rw [e] at hspl; simp at hspl; omega
      have hat : attrs xs how span (gs.take (k + 1)) = (creditF xs how span g (attrs xs how span (gs.take k)).1, (attrs xs how span (gs.take k)).2) := by
        rw [ht, attrs_snoc]; unfold attrF; rw [if_neg hne]
      have hcr : creditF xs how span g (attrs xs how span (gs.take k)).1 = (foldC ((attrs xs how span (gs.take k)).1, []) (trs xs (pathL xs g span) (shared g.cents.toNat (wNats how span (ages xs g (pathL xs g span)))) (wNats how span (ages xs g (pathL xs g span))))).1 := rfl
      have hp12 := pathL_length xs g span
      have hpx : ∀ i ∈ pathL xs g span, ∃ x, xs[i]? = some x ∧ before g span x = true := fun i hi => pathL_mem hi
      have hages := ages_ok (how := how) (span := span) (g := g) hS hhow hsp
      have hsh := (ex.trans y1).at_ hs4
      obtain ⟨acc, hacc⟩ : ∃ acc, (attrs xs how span (gs.take k)).1 = acc := ⟨_, rfl⟩
      rw [hacc] at same hsm hcr
      rw [hacc, hcr] at hat
      clear hcr
      obtain ⟨path, hpath⟩ : ∃ path, pathL xs g span = path := ⟨_, rfl⟩
      rw [hpath] at a1 hne hp12 hpx hages hat hspl
      have hposp := List.length_pos_iff.2 hne
      have hal : (ages xs g path).length = path.length := by simp [ages]
      have hag : ∀ (k i : Nat) x, path[k]? = some i → xs[i]? = some x → (ages xs g path)[k]? = some (g.at_ - x.at_) := fun k i x h1 h2 => by
        unfold ages; rw [List.getElem?_map, h1]; simp [h2]
      refine loopK_intro (fun (a : Sl × Int) h' mm => ∃ j : Nat, j ≤ path.length ∧ a.2 = (j : Int) ∧ mm = path.length - j ∧ Own g1 h' 1 a.1 (ints ((ages xs g path).take j))) path.length ⟨0, by omega, rfl, rfl, Own.nil _ _⟩ ?_
      rintro ⟨la, y⟩ g2 mm ⟨j, hj, rfl, rfl, o1⟩
      dsimp only [uncur] at o1 ⊢
      have hla : la.len = j := by
        have := o1.at_.len1
        rw [ints_length, List.length_take, hal] at this; omega
      refine ifT_dec (fun hlt2 => ⟨⟨by omega, hlt2⟩, ?_⟩) fun hge2 => ?_
      · have hx2 := List.getElem?_eq_getElem (show j < path.length by omega)
        generalize path[j] = i at hx2
        obtain ⟨x, hxi, hbx⟩ := hpx i (List.mem_of_getElem? hx2)
        have hil : i < xs.length := (List.getElem?_eq_some_iff.1 hxi).1
        have hxm := hmom x (List.mem_of_getElem? hxi)
        refine (o1.ext.at_ a1).cell (nats_get hx2) fun b of hr => ⟨_, hr, ⟨by omega, by omega⟩, ?_⟩
        refine (o1.ext.at_ hsh).rowCell (f := sentC) sentC_length (by decide) hxi (j := 3) (c := .int .i64 x.at_) rfl fun bb oo hr => ⟨x.at_, hr, ?_⟩
        have ew2 : IntKind.i64.wrap (g.at_ - x.at_) = g.at_ - x.at_ := by rw [w64] <;> omega
        rw [ew2]
        refine appendTo_own (m := 0) o1 rfl (by omega) fun s' g3 o3 hs3 => ⟨path.length - (j + 1), by omega, j + 1, by omega, by show IntKind.i64.wrap _ = _; rw [w64] <;> omega, rfl, ?_⟩
        have e : ints ((ages xs g path).take (j + 1)) = ints ((ages xs g path).take j) ++ [.int .i64 (g.at_ - x.at_)] := by
          rw [List.take_add_one, hag j i x hx2 hxi]; simp [ints]
        rw [e]; exact o3
      have hkn : j = path.length := by omega
      subst hkn
      rw [List.take_of_length_le (by omega)] at o1
      refine specWeights8 hI o1.at_ (fun h9 _ hne9 => absurd hages hne9) fun _ lw g3 y3 a3 => ⟨_, _, rfl, newK_intro fun mc g4 hn4 he4 => ?_⟩
      rw [wNats_ints (by omega)] at a3
      have hwl := wNats_length how span (ages xs g path)
      have hwp := wNats_pos (how := how) (span := span) (xs := ages xs g path) (by omega) (by omega)
      have hwb := wNats_le (how := how) (span := span) (xs := ages xs g path) (by omega)
      obtain ⟨ws, hws⟩ : ∃ ws, wNats how span (ages xs g path) = ws := ⟨_, rfl⟩
      rw [hws] at a3 hwl hwp hwb hat
      rw [hal] at hwl
      obtain ⟨c, hc⟩ := Int.eq_ofNat_of_zero_le hgc.1
      rw [hc] at hat ⊢
      rw [Int.toNat_natCast] at hat
      have y4 : Ext g3 g4 := he4 ▸ Ext.new hn4
      refine spec100L hI (c := c) (ws := ws) (y4.at_ a3) (by omega) (fun w hw => Nat.le_trans (hwb w hw) (by decide)) hwp (by omega) fun ld g5 y5 a5 => ⟨ld, rfl, ?_⟩
      have hdl := shared_length c ws
      have hds := shared_sum (c := c) hwp
      rw [hwl] at hdl
      have z04 : Ext g0 g3 := (y1.trans o1.ext).trans y3
      have z05 : Ext g0 g5 := (z04.trans y4).trans y5
      have gm5 := z05 _ _ gm
      have gc5 : g5 mc = some (.map []) := y5 _ _ (by rw [he4, set_eq])
      have hmne : m ≠ mc := fun e => by subst e; rw [z04 _ _ gm] at hn4; cases hn4
      have h4mc : h4 mc = none := (ex.trans z04).none hn4
      have hzero : ∀ t ∈ trs xs path (shared c ws) ws, t.2.2 = 0 → t.2.1 = 0 := fun t ht hz => by
        obtain ⟨q, i, _, q2, q3, _⟩ := trs_mem hdl hwl ht
        rw [hz] at q3
        rw [shared_zero hwp q3] at q2
        exact (Option.some.inj q2).symm
      refine deal_part hI (G := k) (C := k * 1000000000000) ((ex.trans z05).at_ hs4) ((((o1.ext.trans y3).trans y4).trans y5).at_ a1) ((y4.trans y5).at_ a3) a5 (fun i hi => (hpx i hi).imp fun _ h => h.1) hxl hwl hdl hp12 (by omega) gm5 gc5 hmne same hzero hsm (by omega) (by omega) fun g6 y6 gm6 => ?_
      refine ⟨gs.length - (k + 1), by omega, k + 1, _, by omega, by rw [hat], rfl, fun j o hj => ?_, gm6, ?_, foldD_nodup _ _ hnd, foldD_LS hdLS fun t ht => ?_⟩
      · have j1 : j ≠ m := fun e => by subst e; rw [hn5] at hj; cases hj
        have j2 : j ≠ mc := fun e => by subst e; rw [h4mc] at hj; cases hj
        refine y6 _ _ ?_
        rw [del_ne _ j2, del_ne _ j1]
        exact (ex.trans z05) _ _ hj
      · rw [hat]
        exact ⟨(fold_same same hzero).1, rfl⟩
      · obtain ⟨q, i, q1, _, _, q4⟩ := trs_mem hdl hwl ht
        obtain ⟨x, hxi, _⟩ := hpx i (List.mem_of_getElem? q1)
        rw [q4]
        unfold letOf
        rw [hxi]
        exact hLS x (List.mem_of_getElem? hxi)
  · have hkn : k = gs.length := by omega
    subst hkn
    rw [List.take_length] at same hin hndA ⊢
    refine range_part hI gm (by omega) fun s' g7 D hD x7 o7 => ?_
    have hperm : (D.filter posC).Perm (attrs xs how span gs).1 := (hD.filter _).trans (told_letters hnd hndA same.1 hin.low)
    have hlen : (D.filter posC).length ≤ 12 := by
      have := List.length_filter_le posC D
      have := hD.length_eq
      omega
    have xh : Ext h (g0.del m) := fun j o hj => by
      have j1 : j ≠ m := fun e => by subst e; have := x4 _ _ hj; rw [hn5] at this; cases this
      rw [del_ne _ j1]; exact (x4.trans ex) _ _ hj
    refine sort101 hI o7 hlen fun ys g8 hys hso o8 => ⟨rfl, hQ s' ys g8 hE0 (fun j o hj => ?_) (hys.trans hperm) hso (o8.at_ List.mem_cons_self)⟩
    have j1 : j ≠ m := fun e => by subst e; have := x4 _ _ hj; rw [hn5] at this; cases this
    exact o8.ext _ _ (by rw [set_ne _ _ j1]; exact xh _ _ hj)
end
end Go.Proofs.YtfemminjhecocaaGreatDoorVc
-- GsLaw
namespace Go.Proofs.YtfemminjhecocaaGreatDoorVc
open Go.Proofs.YtfemminjhecocaaGreatDoorLasts
open Go.Proofs.Tryz (prog)
theorem errA_nil (how span : Int) : errA how span [] = if ¬ (1 ≤ how ∧ how ≤ 6) then 4 else if ¬ (1 ≤ span ∧ span ≤ 4321440) then 1 else 0 := by
  unfold errA
  by_cases c1 : 1 ≤ how ∧ how ≤ 6 <;> by_cases c2 : 1 ≤ span ∧ span ≤ 4321440 <;> simp [c1, c2, scan]
/-- Rows that are told in the letters' order are the same rows. -/
theorem same_rows {acc ys : List Cr} {zs : List ByteArray} (hn : (acc.map (·.letter)).Nodup) (hy : ys.Perm acc) (hys : ys.Pairwise leL) (hz : zs.Perm (acc.map (·.letter))) (hzs : zs.Pairwise (fun a b => bl a ≤ bl b)) : zs.map (lookC acc) = ys := by
  have hp := look_perm hn hz
  refine List.Perm.eq_of_pairwise (le := leL) (fun a b ha hb h1 h2 => ?_) ?_ hys (hp.trans hy.symm)
  · have ha' : a ∈ acc := hp.mem_iff.1 ha
    have hb' : b ∈ acc := hy.mem_iff.1 hb
    rw [leL_iff] at h1 h2
    have e : a.letter = b.letter := by
      have := List.le_antisymm (List.not_lt.1 h1) (List.not_lt.1 h2)
      rw [ByteArray.toList_eq, ByteArray.toList_eq] at this
      exact bl_inj this
    obtain ⟨p, hp1, rfl⟩ := List.mem_iff_getElem.1 ha'
    obtain ⟨q, hq1, rfl⟩ := List.mem_iff_getElem.1 hb'
    have h3 := lookC_of hn (List.getElem?_eq_getElem hp1)
    have h4 := lookC_of hn (List.getElem?_eq_getElem hq1)
    rw [← h3, ← h4, e]
  · rw [List.pairwise_map]
    refine hzs.imp fun {a b} h => ?_
    rw [leL_iff, lookC_letter, lookC_letter, ByteArray.toList_eq, ByteArray.toList_eq]
    exact List.not_lt.2 h
section
variable {I : Calls} {Q : Post} {h : Heap}
theorem spec72g (hI : Closed' prog Pm I) {how span : Int} (hQ : Q [int (errA how span [])] h) : I 72 [int how, int span] Q h := by
  refine hI.go _ _ (den72 I how span Q) ?_
  rw [errA_nil] at hQ
  refine spec85 hI ⟨_, rfl, ifT_intro (fun h9 => ?_) fun h9 => spec85 hI ⟨_, rfl, ifT_intro (fun h8 => ?_) fun h8 => ?_⟩⟩
  · have : ¬ (1 ≤ how ∧ how ≤ 6) := fun c => by simp [c.1, c.2] at h9
    rw [if_pos this] at hQ; exact hQ
  · have c1 : 1 ≤ how ∧ how ≤ 6 := by simpa using h9
    have : ¬ (1 ≤ span ∧ span ≤ 4321440) := fun c => by simp [c.1, c.2] at h8
    rw [if_neg (fun h => h c1), if_pos this] at hQ; exact hQ
  · have c1 : 1 ≤ how ∧ how ≤ 6 := by simpa using h9
    have c2 : 1 ≤ span ∧ span ≤ 4321440 := by simpa using h8
    rw [if_neg (fun h => h c1), if_neg (fun h => h c2)] at hQ; exact hQ
/-- The program's Attribute, whatever it is asked. -/
theorem spec27g (hI : Closed' prog Pm I) {s1 s2 : Sl} {xs : List Sent} {gs : List Gain} {how span : Int} (hs : At h 4 s1 (rows sentC xs)) (hg : At h 4 s2 (rows gainC gs)) (hxl : xs.length ≤ 30) (hgl : gs.length ≤ 30)
    (hbad : ∀ h', Ext h h' → errAt xs gs how span ≠ 0 → Q [.one (.slice 3 ⟨none, 0⟩), int 0, int (errAt xs gs how span)] h')
    (hQ : ∀ (s' : Sl) (zs : List ByteArray) h', errAt xs gs how span = 0 → Ext h h' → zs.Perm ((attrs xs how span gs).1.map (·.letter)) → zs.Pairwise (fun a b => bl a ≤ bl b) → At h' 3 s' (rows crC (zs.map (lookC (attrs xs how span gs).1))) → Q [.one (.slice 3 s'), int ((attrs xs how span gs).2 : Nat), int 0] h') :
    I 27 [.one (.slice 4 s1), .one (.slice 4 s2), int how, int span] Q h := by
  by_cases hA : errA how span [] = 0
  · have hr : (1 ≤ how ∧ how ≤ 6) ∧ (1 ≤ span ∧ span ≤ 4321440) := by
      rw [errA_nil] at hA
      by_cases c1 : 1 ≤ how ∧ how ≤ 6
      · rw [if_neg (fun h => h c1)] at hA
        by_cases c2 : 1 ≤ span ∧ span ≤ 4321440
        · exact ⟨c1, c2⟩
        · rw [if_pos c2] at hA; cases hA
      · rw [if_pos c1] at hA; cases hA
    have e : errAt xs gs how span = errT xs gs := by
      unfold errAt
      by_cases c : errT xs gs = 0
      · rw [if_neg (by rw [c]; decide), hA, c]
      · rw [if_pos c]
    rw [e] at hbad hQ
    exact spec27 hI hs hg hxl hgl hr.1 hr.2 hbad hQ
  · refine hI.go _ _ (den27 I s1 s2 how span Q) ?_
    refine spec70 hI hs (by omega) fun h1 e1 => ⟨_, rfl, ifT_intro (fun hb => ?_) fun hb => ?_⟩
    · have e : errAt xs gs how span = errS xs := by unfold errAt errT; rw [if_pos (nd hb), if_pos (nd hb)]
      have := hbad h1 e1 (by rw [e]; exact nd hb)
      rw [e] at this; exact this
    have hS : errS xs = 0 := Decidable.of_not_not (nd' hb)
    have eT : errT xs gs = errG gs := by unfold errT; rw [if_neg (by rw [hS]; simp)]
    refine spec71 hI (e1.at_ hg) (by omega) fun h2 e2 => ⟨_, rfl, ifT_intro (fun hb => ?_) fun hb => ?_⟩
    · have e : errAt xs gs how span = errG gs := by unfold errAt; rw [eT, if_pos (nd hb)]
      have := hbad h2 (e1.trans e2) (by rw [e]; exact nd hb)
      rw [e] at this; exact this
    have hG : errG gs = 0 := Decidable.of_not_not (nd' hb)
    have e : errAt xs gs how span = errA how span [] := by unfold errAt; rw [if_neg (by rw [eT, hG]; decide)]
    refine spec72g hI ⟨_, rfl, ifT_intro (fun _ => ?_) fun hb => absurd (Decidable.of_not_not (nd' hb)) hA⟩
    have := hbad h2 (e1.trans e2) (by rw [e]; exact hA)
    rw [e] at this; exact this
theorem spec42t (hI : Closed' prog Pm I) {s t : Sl} {xs : List Cr} (ha : At h 3 s (rows crC xs)) (hb : At h 3 t (rows crC xs)) (hl : xs.length < 1000000) (hQ : Q [boo true] h) : I 42 [.one (.slice 3 s), .one (.slice 3 t)] Q h := by
  refine hI.go _ _ (den42 I s t Q) ?_
  have l1 := ha.rowsLen crC_length (by decide)
  have l2 := hb.rowsLen crC_length (by decide)
  refine ifT_intro (fun h1 => absurd (show (s.len : Int) = t.len by omega) (nd h1)) fun _ => ?_
  refine loopK_intro (fun (n : Int) h' m => h' = h ∧ ∃ i : Nat, i ≤ xs.length ∧ n = i ∧ xs.length - i = m) xs.length ⟨rfl, 0, by omega, rfl, rfl⟩ ?_
  rintro n h' m ⟨rfl, i, hi, rfl, rfl⟩
  refine ifT_dec (fun hlt => ⟨⟨by omega, hlt⟩, ?_⟩) fun hge => hQ
  have hx := List.getElem?_eq_getElem (show i < xs.length by omega)
  generalize xs[i] = x at hx
  refine ha.row crC_length (by decide) hx fun bb o hr => ⟨x.letter, x.gains, x.cents, hr, ⟨by omega, by omega⟩, hb.row crC_length (by decide) hx fun bb o hr => ⟨x.letter, x.gains, x.cents, hr, ?_⟩⟩
  refine ifT_intro (fun h1 => by simp at h1) fun _ => ⟨xs.length - (i + 1), by omega, rfl, i + 1, by omega, by rw [w64] <;> omega, rfl⟩
theorem spec7 (hI : Closed' prog Pm I) {s : Sl} {zs : List Int} (hs : At h 1 s (ints zs)) : I 7 [.one (.slice 1 s)] tru h := by
  refine hI.go _ _ (den7 I s tru) ?_
  refine newK_intro fun i2 h1 hn1 he1 => ?_
  have S0 : Strm h1 i2 s zs 0 := he1 ▸ Strm.make hs hn1
  refine spec24L hI S0 S0.owns (by decide) fun l6 h6 xs t6 o6 ht6 hxl hLS => ⟨l6, rfl, ?_⟩
  refine spec25 hI S0 o6 (by omega) fun l9 h9 gs t9 o9 ht9 hgl => ⟨l9, rfl, ?_⟩
  refine specRange hI (o9.toStrm S0 (t' := t9) (by simp) (by omega)) (by decide) (by decide) (by decide) fun how _ _ => ⟨how, rfl, ?_⟩
  have o10 := o9.next (t' := t9 + 1)
  refine newK_intro fun i13 h14 hn14 he14 => ?_
  have hne := o10.lit_ne hn14
  have o14 := o10.mono (he14 ▸ Ext.new hn14 : Ext _ h14)
  refine spec20 hI (xs := [1, 50, 300, 1000]) (o14.toStrm S0 (t' := t9 + 1) (by simp) (by omega)) (lit_at hne he14 rfl) (by simp) (by simp) fun span hsp => ⟨span, rfl, ?_⟩
  have o15 := o14.next (t' := t9 + 1 + 1)
  refine spec11 hI (o15.toStrm S0 (t' := t9 + 1 + 1) (by simp) (by omega)) (by decide) (by decide) fun b => ⟨b, rfl, ?_⟩
  have o16 := o15.next (t' := t9 + 1 + 1 + 1)
  refine joinK_intro (fun (p : Int × Int) g => ∃ t', Owns (h1.del i2) g (owS i2 s t' :: (4, l9, rows gainC gs) :: (4, l6, rows sentC xs) :: [])) ?_ fun jk hjk => ifT_intro (fun _ => ?_) fun _ => hjk _ _ ⟨_, o16⟩
  case refine_2 =>
    refine specRange hI (o16.toStrm S0 (t' := t9 + 1 + 1 + 1) (by simp) (by omega)) (by decide) (by decide) (by decide) fun how2 _ _ => ⟨how2, rfl, ?_⟩
    have o17 := o16.next (t' := t9 + 1 + 1 + 1 + 1)
    refine newK_intro fun i46 h47 hn47 he47 => ?_
    have hne47 := o17.lit_ne hn47
    have o18 := o17.mono (he47 ▸ Ext.new hn47 : Ext _ h47)
    exact spec20 hI (xs := [0, 5, 4321441]) (o18.toStrm S0 (t' := t9 + 1 + 1 + 1 + 1) (by simp) (by omega)) (lit_at hne47 he47 rfl) (by simp) (by simp) fun span2 _ => ⟨span2, rfl, hjk _ _ ⟨_, o18.next⟩⟩
  rintro ⟨how3, span3⟩ g ⟨t', o⟩
  dsimp only [uncur]
  have hat1 := o.at_ (sz := 4) (s := l6) (cs := rows sentC xs) (by simp)
  have hat2 := o.at_ (sz := 4) (s := l9) (cs := rows gainC gs) (by simp)
  refine spec27g hI hat1 hat2 hxl hgl (fun g1 e1 hb => ⟨_, _, _, rfl, ?_⟩) fun s1 zs1 g1 hE e1 hp1 hz1 a1 => ⟨_, _, _, rfl, ?_⟩
  · refine spec41 hI (e1.at_ hat1) (e1.at_ hat2) hxl hgl hLS (fun g2 e2 _ => ⟨_, _, _, rfl, spec40 hI ⟨true, rfl, ?_⟩⟩) fun _ _ _ h0 _ _ _ _ => absurd h0 hb
    refine ifT_intro (fun _ => ifT_dec (fun _ => ifT_dec (fun _ => ?_) fun h => absurd rfl h) fun h => absurd rfl h) fun h => by cases h
    exact spec42t hI (xs := []) (show At g2 3 ⟨none, 0⟩ (rows crC []) from ⟨rfl, .inl rfl⟩) (show At g2 3 ⟨none, 0⟩ (rows crC []) from ⟨rfl, .inl rfl⟩) (by simp) ⟨true, rfl, rfl⟩
  · refine spec41 hI (e1.at_ hat1) (e1.at_ hat2) hxl hgl hLS (fun g2 _ h0 => absurd hE h0) fun s2 ys g2 _ e2 hp2 hs2 a2 => ⟨_, _, _, rfl, spec40 hI ⟨true, rfl, ?_⟩⟩
    refine ifT_intro (fun _ => ifT_dec (fun _ => ifT_dec (fun _ => ?_) fun h => absurd rfl h) fun h => absurd rfl h) fun h => by cases h
    have hn := (attrs_in xs how3 span3 _ gs rfl).2
    have e := same_rows hn hp2 hs2 hp1 hz1
    rw [e] at a1
    have hal := attrs_length xs how3 span3 _ gs rfl
    exact spec42t hI (e2.at_ a1) a2 (by rw [hp2.length_eq]; omega) ⟨true, rfl, rfl⟩
end
theorem pm_soundG : Sound prog Pm := pm_sound
end Go.Proofs.YtfemminjhecocaaGreatDoorVc
