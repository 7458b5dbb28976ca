/- Contracts of what CentsShared reaches, part 1: the stream's shares. -/
import Derived.Test.YtihnjdhjkpmggaaVcCsSort
import Derived.Test.YtihnjdhjkpmggaaVcCnSpec
import Derived.Test.YtihnjdhjkpmggaaVcOwns
import Derived.Test.YtihnjdhjkpmggaaVcCsMath
set_option linter.unusedSimpArgs false
set_option linter.unusedVariables false
namespace Go.Proofs.YtihnjdhjkpmggaaVc
open Go.Proofs.Try (prog)

def nats (l : List Nat) : List Cell := l.map fun n : Nat => .int .i64 (n : Int)
def unats (l : List Nat) : List Cell := l.map fun n : Nat => .int .u64 (n : Int)
theorem nats_ints (l : List Nat) : nats l = ints (l.map fun n : Nat => (n : Int)) := by simp [nats, ints, List.map_map, Function.comp_def]
theorem nats_length (l : List Nat) : (nats l).length = l.length := by simp [nats]
theorem unats_length (l : List Nat) : (unats l).length = l.length := by simp [unats]
theorem nats_get {xs : List Nat} {i n : Nat} (h : xs[i]? = some n) : (nats xs)[i]? = some (.int .i64 (n : Int)) := by unfold nats; rw [List.getElem?_map, h]; rfl
theorem unats_get {xs : List Nat} {i n : Nat} (h : xs[i]? = some n) : (unats xs)[i]? = some (.int .u64 (n : Int)) := by unfold unats; rw [List.getElem?_map, h]; rfl
theorem nats_set (xs : List Nat) (i n : Nat) : (nats xs).set i (.int .i64 (n : Int)) = nats (xs.set i n) := by unfold nats; rw [List.map_set]
theorem unats_set (xs : List Nat) (i n : Nat) : (unats xs).set i (.int .u64 (n : Int)) = unats (xs.set i n) := by unfold unats; rw [List.map_set]

section
variable {I : Calls} {Q : Post} {h : Heap}

/-- A cell is read of a slice. -/
theorem At.cell {s : Sl} {xs : List Cell} {i : Nat} {c : Cell} {f : Nat → Nat → T} (hs : At h 1 s xs) (hx : xs[i]? = some c) (hk : ∀ b o, h.read b (o + (i : Int).toNat * 1) 1 = some [c] → f b o h) : derefK s.a f h := by
  have hlt : i < xs.length := (List.getElem?_eq_some_iff.1 hx).1
  have hl := hs.1
  refine hs.one (i := (i : Int)) (by omega) (by omega) fun b o c' hc hr => ?_
  rw [Int.toNat_natCast] at hc
  rw [hx] at hc
  cases hc
  exact hk b o hr
theorem At.len1 {s : Sl} {xs : List Cell} (hs : At h 1 s xs) : s.len = xs.length := by simpa using hs.1

theorem spec102 (hI : Closed' prog Pm I) {s : Sl} {xs : List Nat} (hs : At h 1 s (nats xs)) (hlen : xs.length < 1000000) (hsum : xs.sum < 4611686018427387904) (hQ : Q [int (xs.sum : Nat)] h) : I 102 [.one (.slice 1 s)] Q h := by
  have hl : s.len = xs.length := by rw [hs.len1, nats_length]
  refine hI.go _ _ (den102 I s Q) ?_
  refine loopK_intro (fun (a : Int × Int) h' m => h' = h ∧ ∃ i : Nat, i ≤ xs.length ∧ a = ((((xs.take i).sum : Nat) : Int), (i : Int)) ∧ xs.length - i = m) xs.length ⟨rfl, 0, by omega, rfl, rfl⟩ ?_
  rintro a h' m ⟨rfl, i, hi, rfl, rfl⟩
  dsimp only [uncur]
  refine ifT_dec (fun hlt => ⟨⟨by omega, hlt⟩, ?_⟩) (fun hge => ?_)
  · have hil : i < xs.length := by omega
    have hx := List.getElem?_eq_getElem hil
    refine hs.cell (nats_get hx) fun b o hr => ⟨_, hr, xs.length - (i + 1), by omega, rfl, i + 1, by omega, ?_, rfl⟩
    have h1 : (xs.take (i + 1)).sum = (xs.take i).sum + xs[i] := by
      rw [List.take_add_one, hx]
      show (xs.take i ++ [xs[i]]).sum = _
      rw [List.sum_append]; simp
    have h2 : (xs.take (i + 1)).sum ≤ xs.sum := by
      conv => rhs; rw [← List.take_append_drop (i + 1) xs, List.sum_append]
      omega
    rw [h1] at h2 ⊢
    generalize (xs.take i).sum = y at *
    generalize xs[i] = x at *
    rw [w64 (by omega) (by omega), w64 (by omega) (by omega)]
    rfl
  · have : i = xs.length := by omega
    subst this
    rw [List.take_length]
    exact hQ

theorem spec50 (hI : Closed' prog Pm I) (hQ : Q [boo true] h) : I 50 [] Q h := by
  refine hI.go _ _ (den50 I Q) ?_
  have e : (ByteArray.mk #[49, 50, 51]) = code [1, 2, 3] := by decide
  show I 24 [str (ByteArray.mk #[49, 50, 51])] _ h
  rw [e]
  refine spec24 hI (by decide) (by decide) (by decide) fun x h1 h2 => ⟨_, _, rfl, ?_⟩
  have hx : x = 12 := YtihnjdhjkpmggaaCodes.seal_unique x h1 (by rw [YtihnjdhjkpmggaaCodes.wsum_snoc] at h2; simpa [YtihnjdhjkpmggaaCodes.wsum] using h2)
  subst hx
  refine ifT_intro (fun _ => ?_) (fun h => by simp at h)
  have e2 : decide (code ([1, 2, 3] ++ [12]) = ByteArray.mk #[49, 50, 51, 67]) = true := by decide
  rw [e2]
  exact hQ

theorem spec51 (hI : Closed' prog Pm I) {s t : Sl} {zs : List Int} (hs : At h 1 s (ints zs)) (ht : At h 1 t (ints zs)) (hlen : zs.length < 1000000) (hQ : Q [boo true] h) : I 51 [.one (.slice 1 s), .one (.slice 1 t)] Q h := by
  have h1 : s.len = zs.length := by rw [hs.len1, ints_length]
  have h2 : t.len = zs.length := by rw [ht.len1, ints_length]
  refine hI.go _ _ (den51 I s t Q) ?_
  refine ifT_intro (fun h => by rw [h1, h2] at h; simp at h) fun _ => ?_
  refine loopK_intro (fun (a : Int) h' m => h' = h ∧ ∃ i : Nat, i ≤ zs.length ∧ a = i ∧ zs.length - i = m) zs.length ⟨rfl, 0, by omega, rfl, rfl⟩ ?_
  rintro a h' m ⟨rfl, i, hi, rfl, rfl⟩
  refine ifT_dec (fun hlt => ⟨⟨by omega, hlt⟩, ?_⟩) (fun hge => hQ)
  have hx := List.getElem?_eq_getElem (show i < zs.length by omega)
  refine hs.cell (ints_get hx) fun b o hr => ⟨_, hr, ⟨by omega, by omega⟩, ht.cell (ints_get hx) fun b o hr => ⟨_, hr, ifT_intro (fun h => by simp at h) fun _ => ⟨zs.length - (i + 1), by omega, rfl, i + 1, by omega, ?_, rfl⟩⟩⟩
  rw [w64] <;> omega

theorem spec79 (hI : Closed' prog Pm I) {s : Sl} {xs : List Cell} (hs : At h 1 s xs) (hsl : h.sl 1 s = some xs) (hlen : xs.length < 1000000) (hQ : ∀ s' h', Ext h h' → At h' 1 s' xs → Q [.one (.slice 1 s')] h') : I 79 [.one (.slice 1 s)] Q h := by
  refine hI.go _ _ (den79 I s Q) ?_
  have hl := hs.len1
  refine ifT_intro (fun hn => ?_) fun _ => ⟨xs, hsl, by omega, newK_intro fun i h' hi he => hQ _ _ (he ▸ Ext.new hi) ?_⟩
  · have ha : s.a = none := by cases h : s.a with
      | none => rfl
      | some p => rw [h] at hn; cases hn
    have hx : xs = [] := by
      unfold Heap.sl at hsl
      rw [ha] at hsl
      cases hsl; rfl
    subst hx
    exact hQ _ _ (Ext.refl _) ⟨by simp, .inl rfl⟩
  · subst he
    refine ⟨by simp [hl], .inr ?_⟩
    show (h.set i _).read i 0 (s.len * 1) = _
    rw [read_block (set_eq _ _ _) (by omega), List.drop_zero, List.take_of_length_le (by omega)]

/-! ### the stream's block, among one's own -/
abbrev owS (i : Nat) (l : Sl) (t : Nat) : Ow := (1, ⟨some (i, 0), 2⟩, [.slice 1 l, .int .i64 t])
theorem Strm.owns {i : Nat} {l : Sl} {zs : List Int} {t : Nat} (S : Strm h i l zs t) : Owns (h.del i) h [owS i l t] := by
  refine ⟨fun j o hj => ?_, fun p hp => ?_, by simp⟩
  · by_cases e : j = i
    · subst e; simp [Heap.del] at hj
    · rw [del_ne _ e] at hj; exact hj
  · have : p = owS i l t := by simpa using hp
    subst this
    exact ⟨rfl, .inr ⟨i, rfl, by simp [Heap.del], S.cell⟩⟩
theorem Owns.toStrm {h' : Heap} {L : List Ow} {i : Nat} {l : Sl} {zs : List Int} {t t' : Nat} (S : Strm h i l zs t) (o : Owns (h.del i) h' L) (hm : owS i l t' ∈ L) (ht : t' < 1000000000) : Strm h' i l zs t' :=
  S.frame (o.block hm).1 (fun j x hj hx => o.ext _ _ (by rw [del_ne _ hj]; exact hx)) ht
theorem Owns.strmCell {h' : Heap} {L : List Ow} {i : Nat} {l : Sl} {t : Nat} (o : Owns h h' L) (hm : owS i l t ∈ L) : h' i = some (strm l t) := (o.block hm).1
theorem Owns.next {h' : Heap} {L : List Ow} {i : Nat} {l : Sl} {t t' : Nat} (o : Owns h h' (owS i l t :: L)) : Owns h (h'.set i (strm l t')) (owS i l t' :: L) := o.change rfl

theorem Owns.slen {h' : Heap} {L : List Ow} {s : Sl} {cs : List Cell} (o : Owns h h' L) (hm : (1, s, cs) ∈ L) : s.len = cs.length := by
  have := (o.all _ hm).1; simpa using this
theorem Owns.sl {h' : Heap} {L : List Ow} {s : Sl} {cs : List Cell} (o : Owns h h' L) (hm : (1, s, cs) ∈ L) : h'.sl 1 s = some cs := by
  obtain ⟨h1, h2 | ⟨k, h2, _, h3⟩⟩ := o.all _ hm
  · simp only at h2; unfold Heap.sl; rw [h2.1, h2.2]
  · simp only at h1 h2 h3
    unfold Heap.sl
    rw [h2]
    show h'.read k 0 (s.len * 1) = _
    rw [read_block h3 (by omega), h1, List.drop_zero, List.take_length]
theorem Owns.has {h' : Heap} {L : List Ow} {s : Sl} {cs : List Cell} {sz : Nat} (o : Owns h h' L) (hm : (sz, s, cs) ∈ L) (hne : cs ≠ []) : ∃ i, s = ⟨some (i, 0), s.len⟩ ∧ h' i = some (.cells false cs) := by
  obtain ⟨h1, h2 | ⟨k, h2, _, h3⟩⟩ := o.all _ hm
  · exact absurd h2.2 hne
  · obtain ⟨a, n⟩ := s
    simp only at h2
    subst h2
    exact ⟨k, rfl, h3⟩

/-- What is drawn for shares. -/
theorem spec47 (hI : Closed' prog Pm I) {i : Nat} {l : Sl} {zs : List Int} {t : Nat} (S : Strm h i l zs t) (ht : t < 1000)
    (hQ : ∀ s' h' xs, At h' 1 s' (ints xs) → xs.length ≤ 100 → (xs.length ≤ 9 ∨ 50 < xs.length ∨ ∀ x ∈ xs, x = 0) → Q [.one (.slice 1 s')] h') : I 47 [.one (.ptr (some (i, 0)))] Q h := by
  refine hI.go _ _ (den47 I _ Q) ?_
  refine spec12 hI S (by decide) (by decide) fun n hn0 hn1 => ⟨n, rfl, ?_⟩
  refine loopK_intro (fun (a : Sl × Int) h' m => ∃ j : Nat, (j : Int) ≤ n ∧ a.2 = j ∧ 8 - j = m ∧ ∃ xs, xs.length = j ∧ Owns (h.del i) h' [(1, a.1, ints xs), owS i l (t + 1 + j)]) 8
    ⟨0, by omega, rfl, rfl, [], rfl, (S.owns.next (t' := t + 1)).none_ 1⟩ ?_
  rintro ⟨s, y⟩ h' m ⟨j, hj, rfl, rfl, xs, hxl, o⟩
  dsimp only [uncur]
  refine ifT_dec (fun hlt => ?_) (fun hge => ?_)
  · refine newK_intro fun i9 h2 hn2 he2 => ?_
    have o2 : Owns (h.del i) h2 _ := o.mono (he2 ▸ Ext.new hn2)
    have S2 := o2.toStrm S (t' := t + 1 + j) (by simp) (by omega)
    have hne : i9 ≠ i := fun e => by subst e; rw [o.strmCell (l := l) (t := t + 1 + j) (by simp)] at hn2; cases hn2
    have hlit : At (h2.set i (strm l (t + 1 + j + 1))) 1 ⟨some (i9, 0), 8⟩ (ints [0, 1, 1, 2, 3, 900, 1801, 1000000000000]) := by
      refine ⟨rfl, .inr ?_⟩
      show (h2.set i _).read i9 0 8 = _
      unfold Heap.read
      rw [set_ne _ _ hne, he2, set_eq]
      rfl
    refine spec30 hI S2 hlit (by decide) (by decide) fun v hv => ⟨v, rfl, ?_⟩
    have o3 := ((o2.perm (List.Perm.swap _ _ _)).next (t' := t + 1 + j + 1)).perm (List.Perm.swap _ _ _)
    refine appendTo_owns (m := 0) o3 (by rfl) ?_ (by simp) fun b h4 o4 => ⟨8 - (j + 1), by omega, j + 1, by omega, ?_, rfl, xs ++ [v], by simp [hxl], by rw [show t + 1 + (j + 1) = t + 1 + j + 1 from rfl]; simpa [ints] using o4⟩
    · have := o.slen (s := s) List.mem_cons_self
      rw [ints_length] at this
      omega
    · show IntKind.i64.wrap ((j : Int) + 1) = _
      rw [w64] <;> omega
  · have S2 := o.toStrm S (t' := t + 1 + j) (by simp) (by omega)
    refine spec67 hI S2 (by decide) (by decide) fun b => ⟨b, rfl, ?_⟩
    have o3 := ((o.perm (List.Perm.swap _ _ _)).next (t' := t + 1 + j + 1)).perm (List.Perm.swap _ _ _)
    refine joinK_intro (fun (s : Sl) h3 => ∃ xs t', xs.length ≤ 9 ∧ t' < 100000 ∧ Owns (h.del i) h3 [(1, s, ints xs), owS i l t']) ?_ ?_
    · rintro s h3 ⟨xs, t', hx, ht', o⟩
      have S3 := o.toStrm S (t' := t') (by simp) (by omega)
      refine spec67 hI S3 (by decide) (by decide) fun b => ⟨b, rfl, ?_⟩
      have o4 := ((o.perm (List.Perm.swap _ _ _)).next (t' := t' + 1)).perm (List.Perm.swap _ _ _)
      refine ifT_intro (fun _ => ⟨by decide, by decide, by decide, ?_⟩) fun _ => ?_
      · have hz : slCells (.one (.int .i64)) 50 = ints (List.replicate 50 0) := rfl
        refine appendTo_owns (m := 49) o4 (by rfl) ?_ (by simp) fun b h5 o5 => ?_
        · have := o.slen (s := s) List.mem_cons_self
          rw [ints_length] at this
          omega
        · have hm : (1, (⟨some (b, 0), s.len + (49 + 1)⟩ : Sl), ints (xs ++ List.replicate 50 0)) ∈ [(1, (⟨some (b, 0), s.len + (49 + 1)⟩ : Sl), ints xs ++ slCells (.one (.int .i64)) 50), owS i l (t' + 1)] := by
            rw [hz]; simp [ints]
          refine spec79 hI (o5.at_ hm) (o5.sl hm) (by rw [ints_length]; simp; omega) fun s' h6 _ hat => ⟨_, rfl, hQ _ _ _ hat (by simp; omega) ?_⟩
          cases xs with
          | nil => exact .inr (.inr (by simp))
          | cons x xs => exact .inr (.inl (by simp))
      · refine spec79 hI (o4.at_ List.mem_cons_self) (o4.sl List.mem_cons_self) (by rw [ints_length]; omega) fun s' h6 _ hat => ⟨_, rfl, hQ _ _ _ hat (by omega) (.inl hx)⟩
    · intro jk hjk
      refine ifT_intro (fun _ => ?_) fun _ => hjk _ _ ⟨xs, _, by omega, by omega, o3⟩
      refine newK_intro fun i9 h4 hn4 he4 => ?_
      have o4 := o3.mono (he4 ▸ Ext.new hn4 : Ext _ h4)
      have S4 := o4.toStrm S (t' := t + 1 + j + 1) (by simp) (by omega)
      have hne : i9 ≠ i := fun e => by subst e; rw [o3.strmCell (l := l) (t := t + 1 + j + 1) (by simp)] at hn4; cases hn4
      have hlit : At (h4.set i (strm l (t + 1 + j + 1 + 1))) 1 ⟨some (i9, 0), 2⟩ (ints [-1, 1000000000001]) := by
        refine ⟨rfl, .inr ?_⟩
        show (h4.set i _).read i9 0 2 = _
        unfold Heap.read
        rw [set_ne _ _ hne, he4, set_eq]
        rfl
      refine spec30 hI S4 hlit (by decide) (by decide) fun v hv => ⟨v, rfl, ?_⟩
      have o5 := ((o4.perm (List.Perm.swap _ _ _)).next (t' := t + 1 + j + 1 + 1)).perm (List.Perm.swap _ _ _)
      refine appendTo_owns (m := 0) o5 (by rfl) ?_ (by simp) fun b h6 o6 => hjk _ _ ⟨xs ++ [v], t + 1 + j + 1 + 1, by simp; omega, by omega, by simpa [ints] using o6⟩
      have := o.slen (s := s) List.mem_cons_self
      rw [ints_length] at this
      omega

end
end Go.Proofs.YtihnjdhjkpmggaaVc
