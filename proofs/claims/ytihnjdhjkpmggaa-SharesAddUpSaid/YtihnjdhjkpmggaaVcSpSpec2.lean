/- Contracts of what SharesAddUp reaches, part 2: dividing. -/
import Derived.Test.YtihnjdhjkpmggaaVcSpSpec1
set_option linter.unusedSimpArgs false
set_option linter.unusedVariables false
namespace Go.Proofs.YtihnjdhjkpmggaaVc
open Go.Proofs.YtihnjdhjkpmggaaShares
open Go.Proofs.Try (prog)

section
variable {I : Calls} {Q : Post} {h : Heap}

theorem spec111 (hI : Closed' prog Pm I) {n : Int} (hQ : Q [boo false] h) : I 111 [int n] Q h := by
  refine hI.go _ _ (den111 I n Q) ?_
  have e : (!decide (n = n)) = false := by simp
  unfold vc111
  rw [e]
  exact hQ
theorem spec71 (hI : Closed' prog Pm I) {a b : Int} (hQ : ∀ c, (c < 0 ↔ a < b) → (c = 0 ↔ a = b) → Q [int c] h) : I 71 [int a, int b] Q h := by
  refine hI.go _ _ (den71 I a b Q) ?_
  refine spec111 hI ⟨_, rfl, spec111 hI ⟨_, rfl, ifT_intro (fun h => by cases h) fun _ => ifT_intro (fun h => by cases h) fun _ => ?_⟩⟩
  refine ifT_dec (fun h1 => hQ _ (by omega) (by omega)) fun h1 => ifT_dec (fun h2 => hQ _ (by omega) (by omega)) fun h2 => hQ _ (by omega) (by omega)

theorem spec116 (hI : Closed' prog Pm I) {s : Sl} {x y : Int} (hs : At h 1 s (ints [x, y])) (hQ : Q [int (if x = 0 then y else x)] h) : I 116 [.one (.slice 1 s)] Q h := by
  have hl : s.len = 2 := by rw [hs.len1]; rfl
  refine hI.go _ _ (den116 I s Q) ?_
  refine loopK_intro (fun (a : Int) h' m => h' = h ∧ ((a = 0 ∧ m = 2) ∨ (a = 1 ∧ m = 1 ∧ x = 0) ∨ (a = 2 ∧ m = 0 ∧ x = 0 ∧ y = 0))) 2 ⟨rfl, .inl ⟨rfl, rfl⟩⟩ ?_
  rintro a h' m ⟨rfl, ⟨rfl, rfl⟩ | ⟨rfl, rfl, hx⟩ | ⟨rfl, rfl, hx, hy⟩⟩
  · refine ifT_dec (fun hlt => ⟨⟨by omega, hlt⟩, ?_⟩) fun hge => by omega
    refine hs.cell (i := 0) (c := .int .i64 x) rfl fun b o hr => ⟨_, hr, ifT_intro (fun h1 => ?_) fun h1 => ⟨1, by omega, rfl, .inr (.inl ⟨by decide, rfl, by simpa using h1⟩)⟩⟩
    have h2 : x ≠ 0 := by simpa using h1
    rw [if_neg h2] at hQ
    exact hQ
  · refine ifT_dec (fun hlt => ⟨⟨by omega, hlt⟩, ?_⟩) fun hge => by omega
    rw [if_pos hx] at hQ
    refine hs.cell (i := 1) (c := .int .i64 y) rfl fun b o hr => ⟨_, hr, ifT_intro (fun h1 => hQ) fun h1 => ⟨0, by omega, rfl, .inr (.inr ⟨by decide, rfl, hx, by simpa using h1⟩)⟩⟩
  · refine ifT_dec (fun hlt => by omega) fun hge => ?_
    rw [if_pos hx, hy] at hQ
    exact hQ

/-- The comparison: greater rests first, of equal ones the last. -/
theorem spec133 (hI : Closed' prog Pm I) {i3 i5 i11 : Nat} {s : Sl} {ws : List Nat} {c all a b x y : Nat} (h3 : h i3 = some (.cells false [.int .i64 c])) (h5 : h i5 = some (.cells false [.slice 1 s])) (h11 : h i11 = some (.cells false [.int .i64 all]))
    (hs : At h 1 s (nats ws)) (hc : c ≤ 1000000000000) (hw : ∀ w ∈ ws, w ≤ 1000000) (hall : 0 < all) (ha : ws[a]? = some x) (hb : ws[b]? = some y)
    (hQ : ∀ r h', Ext h h' → (r < 0 ↔ (c * y % all < c * x % all ∨ (c * y % all = c * x % all ∧ b < a))) → Q [int r] h') :
    I 133 [int a, int b, .one (.ptr (some (i3, 0))), .one (.ptr (some (i5, 0))), .one (.ptr (some (i11, 0)))] Q h := by
  have hl : s.len = ws.length := by rw [hs.len1, nats_length]
  have ha1 := (List.getElem?_eq_some_iff.1 ha).1
  have hb1 := (List.getElem?_eq_some_iff.1 hb).1
  have hx := hw x (List.mem_of_getElem? ha)
  have hy := hw y (List.mem_of_getElem? hb)
  have m1 : c * x ≤ 1000000000000 * 1000000 := Nat.mul_le_mul hc hx
  have m2 : c * y ≤ 1000000000000 * 1000000 := Nat.mul_le_mul hc hy
  have e1 : (IntKind.i64.wrap ((c : Int) * x)).tmod all = (c * x % all : Nat) := by rw [mN, w64 (by omega) (by omega), ← Int.ofNat_tmod]
  have e2 : (IntKind.i64.wrap ((c : Int) * y)).tmod all = (c * y % all : Nat) := by rw [mN, w64 (by omega) (by omega), ← Int.ofNat_tmod]
  refine hI.go _ _ (den133 I a b i3 0 i5 0 i11 0 Q) ?_
  refine ⟨_, read_cell h3 rfl, _, read_cell h5 rfl, ⟨by omega, by omega⟩, hs.cell (nats_get hb) fun _ _ hr => ⟨_, hr, _, read_cell h11 rfl, by omega, _, read_cell h3 rfl, _, read_cell h5 rfl, ⟨by omega, by omega⟩, hs.cell (nats_get ha) fun _ _ hr => ⟨_, hr, _, read_cell h11 rfl, by omega, ?_⟩⟩⟩
  rw [e1, e2]
  refine spec71 hI fun r1 hr1 hr1' => ⟨_, rfl, spec71 hI fun r2 hr2 hr2' => ⟨_, rfl, newK_intro fun i29 h2 hn he => ?_⟩⟩
  have hlit : At h2 1 ⟨some (i29, 0), 2⟩ (ints [r1, r2]) := block_at (by rw [he, set_eq]; rfl) rfl
  refine spec116 hI hlit ⟨_, rfl, hQ _ _ (he ▸ Ext.new hn) ?_⟩
  generalize c * y % all = u at *
  generalize c * x % all = v at *
  split <;> omega

theorem sum_set : ∀ (l : List Nat) (i x v : Nat), l[i]? = some x → (l.set i v).sum + x = l.sum + v
  | [], i, _, _, h => by simp at h
  | y :: l, 0, x, v, h => by
    simp only [List.getElem?_cons_zero, Option.some.injEq] at h
    subst h
    simp only [List.set_cons_zero, List.sum_cons]; omega
  | y :: l, i + 1, x, v, h => by
    have := sum_set l i x v (by simpa using h)
    simp only [List.set_cons_succ, List.sum_cons]; omega

theorem spec107 (hI : Closed' prog Pm I) {s : Sl} {c : Nat} {ws : List Nat} (hs : At h 1 s (nats ws)) (hc : c ≤ 1000000000000) (hw : ∀ w ∈ ws, w ≤ 1000000) (hpos : 0 < ws.sum) (hlen : ws.length ≤ 12)
    (hQ : ∀ s' h' xs, Ext h h' → At h' 1 s' (nats xs) → xs.length = ws.length → xs.sum = c → Q [.one (.slice 1 s')] h') : I 107 [int c, .one (.slice 1 s)] Q h := by
  have hl : s.len = ws.length := by rw [hs.len1, nats_length]
  have hsum := sum_le hw
  obtain ⟨hleft1, hleft2⟩ := left_ok (c := c) hpos
  have hn0 : 0 < ws.length := by omega
  have hQS : ∀ a, (qs c a ws).length = ws.length := fun a => by simp [qs]
  refine hI.go _ _ (den107 I c s Q) ?_
  refine newK_intro fun i3 h1 hn1 he1 => newK_intro fun i5 h2 hn2 he2 => ?_
  have o1 : Owns h h1 [(1, ⟨some (i3, 0), 1⟩, [.int .i64 (c : Int)])] := he1 ▸ (Owns.nil h).new hn1 rfl
  have o2 : Owns h h2 [(1, ⟨some (i5, 0), 1⟩, [.slice 1 s]), (1, ⟨some (i3, 0), 1⟩, [.int .i64 (c : Int)])] := he2 ▸ o1.new hn2 rfl
  refine ⟨s, read_cell (o2.block (sz := 1) (n := 1) (cs := [.slice 1 s]) (by simp)).1 rfl, spec61 hI (o2.ext.at_ hs) (by omega) (by omega) ⟨_, rfl, newK_intro fun i11 h3 hn3 he3 => ?_⟩⟩
  obtain ⟨all, hall⟩ : ∃ all, ws.sum = all := ⟨_, rfl⟩
  rw [hall] at hleft1 hleft2 hpos hsum ⊢
  have o3 : Owns h h3 [(1, ⟨some (i11, 0), 1⟩, [.int .i64 0]), (1, ⟨some (i5, 0), 1⟩, [.slice 1 s]), (1, ⟨some (i3, 0), 1⟩, [.int .i64 (c : Int)])] := he3 ▸ o2.new hn3 rfl
  refine storeK_one (o3.block List.mem_cons_self).1 (by simp) ?_
  have o4 := o3.change (n' := 1) (sz' := 1) (cs' := [.int .i64 (all : Int)]) rfl
  refine ⟨_, read_cell (o4.block (sz := 1) (n := 1) (i := i3) (cs := [.int .i64 (c : Int)]) (by simp)).1 rfl, s, read_cell (o4.block (sz := 1) (n := 1) (i := i5) (cs := [.slice 1 s]) (by simp)).1 rfl, ?_⟩
  have hqle : ∀ k, ((qs c all ws).take k).sum ≤ c := fun k => Nat.le_trans (take_sum_le _ _) hleft1
  refine loopK_intro (fun (a : Int × Sl × Sl × Int) h'' m => ∃ k : Nat, k ≤ ws.length ∧ ws.length - k = m ∧ a.2.2.2 = (k : Int) ∧ a.1 = ((c - ((qs c all ws).take k).sum : Nat) : Int) ∧
      Owns h h'' [(1, a.2.1, nats ((qs c all ws).take k)), (1, a.2.2.1, nats (List.range k)), (1, ⟨some (i11, 0), 1⟩, [.int .i64 (all : Int)]), (1, ⟨some (i5, 0), 1⟩, [.slice 1 s]), (1, ⟨some (i3, 0), 1⟩, [.int .i64 (c : Int)])]) ws.length
    ⟨0, by omega, rfl, rfl, by simp, (o4.none_ 1).none_ 1⟩ ?_
  rintro ⟨left, out, order, y⟩ h5 m ⟨k, hk, rfl, rfl, hleft, o⟩
  simp only at hleft
  subst hleft
  dsimp only [uncur]
  have c3 := (o.block (sz := 1) (n := 1) (i := i3) (cs := [.int .i64 (c : Int)]) (by simp)).1
  have c5 := (o.block (sz := 1) (n := 1) (i := i5) (cs := [.slice 1 s]) (by simp)).1
  have c11 := (o.block (sz := 1) (n := 1) (i := i11) (cs := [.int .i64 (all : Int)]) (by simp)).1
  refine ifT_dec (fun hlt => ⟨⟨by omega, hlt⟩, ?_⟩) (fun hge => ?_)
  · have hkl : k < ws.length := by omega
    have hx := List.getElem?_eq_getElem hkl
    have hwk := hw ws[k] (List.getElem_mem hkl)
    generalize ws[k] = w at *
    refine (o.ext.at_ hs).cell (nats_get hx) fun b o' hr => ⟨_, hr, _, read_cell c3 rfl, _, read_cell c11 rfl, by omega, ?_⟩
    have hqk : ((qs c all ws).take (k + 1)) = (qs c all ws).take k ++ [c * w / all] := take_succ_map _ hx
    have hq1 := hqle (k + 1)
    rw [hqk, List.sum_append] at hq1
    have hq2 : [c * w / all].sum = c * w / all := by simp
    rw [hq2] at hq1
    have m1 : c * w ≤ 1000000000000 * 1000000 := Nat.mul_le_mul hc hwk
    have ew : IntKind.i64.wrap ((IntKind.i64.wrap ((c : Int) * w)).tdiv all) = ((c * w / all : Nat) : Int) := by
      rw [mN, w64 (n := ((c * w : Nat) : Int)) (by omega) (by omega), ← Int.ofNat_tdiv]
      generalize c * w / all = q at *
      exact w64 (by omega) (by omega)
    rw [ew]
    have l1 := o.slen (s := out) (cs := nats ((qs c all ws).take k)) (by simp)
    have l2 := o.slen (s := order) (cs := nats (List.range k)) (by simp)
    rw [nats_length, List.length_take, hQS] at l1
    rw [nats_length, List.length_range] at l2
    have e_out : nats ((qs c all ws).take (k + 1)) = nats ((qs c all ws).take k) ++ [.int .i64 ((c * w / all : Nat) : Int)] := by rw [hqk]; simp [nats]
    have e_ord : nats (List.range (k + 1)) = nats (List.range k) ++ [.int .i64 (k : Int)] := by rw [List.range_succ]; simp [nats]
    refine appendTo_owns (m := 0) o (by rfl) (by omega) (by simp) fun b1 h6 o6 => ?_
    refine appendTo_owns (m := 0) (o6.perm (List.Perm.swap _ _ _)) (by rfl) (by omega) (by simp) fun b2 h7 o7 => ?_
    have o8 := o7.perm (List.Perm.swap _ _ _)
    rw [← e_out, ← e_ord] at o8
    have hg : (nats ((qs c all ws).take (k + 1)))[k]? = some (.int .i64 ((c * w / all : Nat) : Int)) := by
      refine nats_get ?_
      rw [hqk, List.getElem?_append_right (by rw [List.length_take]; omega), List.length_take, hQS, Nat.min_eq_left (by omega), Nat.sub_self]
      rfl
    refine ⟨⟨by omega, by show (k : Int) < ((out.len + (0 + 1) : Nat) : Int); omega⟩, (o8.at_ List.mem_cons_self).cell hg fun b o' hr' => ⟨_, hr', ws.length - (k + 1), by omega, k + 1, by omega, rfl, ?_, ?_, o8⟩⟩
    · show IntKind.i64.wrap ((k : Int) + 1) = _
      rw [w64] <;> omega
    · show IntKind.i64.wrap (_ - _) = _
      rw [hqk, List.sum_append, hq2]
      generalize c * w / all = q at *
      rw [w64 (by omega) (by omega)]
      omega
  · have hkn : k = ws.length := by omega
    subst hkn
    have t1 : (qs c all ws).take ws.length = qs c all ws := List.take_of_length_le (by rw [hQS]; exact Nat.le_refl _)
    rw [t1] at o ⊢
    have l1 := o.slen (s := out) (cs := nats (qs c all ws)) (by simp)
    have l2 := o.slen (s := order) (cs := nats (List.range ws.length)) (by simp)
    rw [nats_length, hQS] at l1
    rw [nats_length, List.length_range] at l2
    obtain ⟨bo, hbo, co⟩ := o.has (s := out) (cs := nats (qs c all ws)) (sz := 1) (by simp) (nats_ne (by rw [hQS]; exact hn0))
    obtain ⟨bd, hbd, cd⟩ := o.has (s := order) (cs := nats (List.range ws.length)) (sz := 1) (by simp) (nats_ne (by rw [List.length_range]; exact hn0))
    rw [l1] at hbo
    rw [l2] at hbd
    subst hbo hbd
    have ne0 : bo ≠ bd := o.ne (q := (1, ⟨some (bd, 0), ws.length⟩, nats (List.range ws.length))) (by simp) rfl rfl
    have ne1 : bd ≠ i11 := o.tail.ne (q := (1, ⟨some (i11, 0), 1⟩, [.int .i64 (all : Int)])) (by simp) rfl rfl
    have ne2 : bd ≠ i5 := o.tail.ne (q := (1, ⟨some (i5, 0), 1⟩, [.slice 1 s])) (by simp) rfl rfl
    have ne3 : bd ≠ i3 := o.tail.ne (q := (1, ⟨some (i3, 0), 1⟩, [.int .i64 (c : Int)])) (by simp) rfl rfl
    have hbn : h bd = none := by
      obtain ⟨_, h2 | ⟨k, h2, h3, _⟩⟩ := o.all (1, ⟨some (bd, 0), ws.length⟩, nats (List.range ws.length)) (by simp)
      · simp at h2
      · cases h2; exact h3
    have hbn' : h bo = none := by
      obtain ⟨_, h2 | ⟨k, h2, h3, _⟩⟩ := o.all (1, ⟨some (bo, 0), ws.length⟩, nats (qs c all ws)) (by simp)
      · simp at h2
      · cases h2; exact h3
    have hlR : ((List.range ws.length).map fun n : Nat => (n : Int)).length = ws.length := by simp
    have hext : ∀ ys h', PSt h5 bd ys h' → Ext h h' := fun ys h' p j x hj => p.2 j x (fun e => by subst e; rw [hbn] at hj; cases hj) (o.ext _ _ hj)
    have key := fun Q0 => spec132 (I := I) (Q := Q0) (h := h5) (blk := bd) (g := 133) (caps := [(i3, 0), (i5, 0), (i11, 0)]) (xs := (List.range ws.length).map fun n : Nat => (n : Int))
      (lt := fun x y => decide (c * at_ ws y.toNat % all < c * at_ ws x.toNat % all ∨ (c * at_ ws y.toNat % all = c * at_ ws x.toNat % all ∧ y.toNat < x.toNat))) hI (fun _ _ => True) (by rw [← nats_ints]; exact cd) (by rw [hlR]; exact hn0) (by rw [hlR]; exact hlen)
    simp only [hlR] at key
    refine key _ ?_ ?_ (fun _ _ _ _ _ _ _ _ => trivial) fun ys h6 hp _ hst => ⟨rfl, ⟨by decide, by omega, by omega⟩, ?_⟩
    · rintro a b ha hb h' Q' ⟨ys, p⟩ hQ'
      obtain ⟨a', ha', rfl⟩ := List.mem_map.1 ha
      obtain ⟨b', hb', rfl⟩ := List.mem_map.1 hb
      have ha2 := List.mem_range.1 ha'
      have hb2 := List.mem_range.1 hb'
      have ga : ws[a']? = some ws[a'] := List.getElem?_eq_getElem ha2
      have gb : ws[b']? = some ws[b'] := List.getElem?_eq_getElem hb2
      refine spec133 hI (p.2 _ _ (Ne.symm ne3) c3) (p.2 _ _ (Ne.symm ne2) c5) (p.2 _ _ (Ne.symm ne1) c11) ((hext _ _ p).at_ hs) hc hw hpos ga gb fun r h'' he hr => hQ' r h'' he ?_
      simp only [Int.toNat_natCast, decide_eq_true_eq, at_some ga, at_some gb]
      exact hr
    · rw [List.pairwise_map]
      exact List.pairwise_lt_range.imp fun _ => ⟨fun _ => trivial, fun _ => trivial⟩
    · rw [Int.toNat_natCast]
      have hyl : ys.length = ws.length := by rw [hp.length_eq, hlR]
      have o6 : Owns h h6 [(1, ⟨some (bo, 0), ws.length⟩, nats (qs c all ws)), (1, ⟨some (bd, 0), ws.length⟩, ints ys)] := by
        refine ⟨hext _ _ hst, fun q hq => ?_, ?_⟩
        · have hq' : q = (1, ⟨some (bo, 0), ws.length⟩, nats (qs c all ws)) ∨ q = (1, ⟨some (bd, 0), ws.length⟩, ints ys) := by simpa using hq
          rcases hq' with rfl | rfl
          · exact ⟨by rw [nats_length, hQS]; simp, .inr ⟨bo, rfl, hbn', hst.2 _ _ ne0 co⟩⟩
          · exact ⟨by rw [ints_length, hyl]; simp, .inr ⟨bd, rfl, hbn, hst.1⟩⟩
        · simp only [List.pairwise_cons]
          refine ⟨fun q hq i hi hi2 => ?_, by simp⟩
          have : q = (1, ⟨some (bd, 0), ws.length⟩, ints ys) := by simpa using hq
          subst this
          cases hi
          cases hi2
          exact ne0 rfl
      generalize hq : qs c all ws = q at *
      have hlq : q.length = ws.length := by rw [← hq]; exact hQS all
      refine loopK_intro (fun (a : Int) h4 m => ∃ k : Nat, k ≤ c - q.sum ∧ a = (k : Int) ∧ c - q.sum - k = m ∧ ∃ xs : List Nat, xs.length = ws.length ∧ xs.sum = q.sum + k ∧ Owns h h4 [(1, ⟨some (bo, 0), ws.length⟩, nats xs), (1, ⟨some (bd, 0), ws.length⟩, ints ys)]) (c - q.sum)
        ⟨0, by omega, rfl, rfl, q, hlq, rfl, o6⟩ ?_
      rintro a h4 m ⟨k, hk, rfl, rfl, xs, hxl, hxs, o7⟩
      refine ifT_dec (fun hlt => ⟨⟨by omega, hlt⟩, ?_⟩) (fun hge => ?_)
      · have hkl : k < c - q.sum := by have : (k : Int) < ((c - q.sum - 0 : Nat) : Int) := hlt; omega
        have hsub := (o7.at_ (sz := 1) (s := ⟨some (bd, 0), ws.length⟩) (cs := ints ys) (by simp)).sub 0 (c - q.sum) (by omega) (show c - q.sum ≤ ws.length by omega)
        have hy : ys[k]? = some ys[k] := List.getElem?_eq_getElem (by omega)
        obtain ⟨e, he, hee⟩ := List.mem_map.1 (hp.mem_iff.1 (List.getElem_mem (show k < ys.length by omega)))
        have hel := List.mem_range.1 he
        rw [← hee] at hy
        have hg : (((ints ys).drop (0 * 1)).take ((c - q.sum - 0) * 1))[k]? = some (.int .i64 (e : Int)) := by
          rw [List.getElem?_take, if_pos (by omega), Nat.zero_mul, List.drop_zero]
          exact ints_get hy
        have hxe : xs[e]? = some xs[e] := List.getElem?_eq_getElem (by omega)
        have hxm := mem_le_sum (List.getElem_mem (show e < xs.length by omega))
        generalize xs[e] = x at hxe hxm
        have hset := sum_set xs e x (x + 1) hxe
        have ew : IntKind.i64.wrap ((x : Int) + 1) = ((x + 1 : Nat) : Int) := by rw [w64] <;> omega
        have eo : 0 + (e : Int).toNat * 1 = e := by simp
        refine hsub.cell hg fun b o' hr' => ⟨_, hr', ⟨by omega, by simp; omega⟩, (o7.at_ List.mem_cons_self).cell (nats_get hxe) fun b o' hr' => ⟨_, hr', ⟨by omega, by simp; omega⟩, derefK_intro rfl ?_⟩⟩
        rw [ew, eo]
        refine storeK_one (o7.block List.mem_cons_self).1 (by rw [nats_length]; omega) ⟨c - q.sum - (k + 1), by omega, k + 1, by omega, ?_, rfl, xs.set e (x + 1), by simp [hxl], by omega, ?_⟩
        · rw [w64] <;> omega
        · rw [nats_set]
          exact o7.change (by rw [nats_length]; simp [hxl])
      · have hk2 : k = c - q.sum := by
          have : ¬ (k : Int) < ((c - q.sum - 0 : Nat) : Int) := hge
          omega
        exact hQ _ _ xs o7.ext (o7.at_ List.mem_cons_self) hxl (by omega)

end
end Go.Proofs.YtihnjdhjkpmggaaVc
