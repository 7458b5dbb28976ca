/- Contracts of what CentsShared reaches, part 2: share. -/
import Derived.Test.YtihnjdhjkpmggaaVcCsSpec1
set_option linter.unusedSimpArgs false
set_option linter.unusedVariables false
namespace Go.Proofs.YtihnjdhjkpmggaaVc
open Go.Proofs.YtihnjdhjkpmggaaShares
open Go.Proofs.Try (prog)

section
variable {I : Calls} {Q : Post} {h : Heap}

theorem spec136 (hI : Closed' prog Pm I) {n : Int} (hQ : Q [boo false] h) : I 136 [u64 n] Q h := by
  refine hI.go _ _ (den136 I n Q) ?_
  have e : (!decide (n = n)) = false := by simp
  unfold vc136
  rw [e]
  exact hQ
theorem spec117 (hI : Closed' prog Pm I) {a b : Int} (hQ : ∀ c, (c < 0 ↔ a < b) → Q [int c] h) : I 117 [u64 a, u64 b] Q h := by
  refine hI.go _ _ (den117 I a b Q) ?_
  refine spec136 hI ⟨_, rfl, spec136 hI ⟨_, rfl, ifT_intro (fun h => by cases h) fun _ => ifT_intro (fun h => by cases h) fun _ => ?_⟩⟩
  refine ifT_dec (fun h1 => hQ _ (by omega)) fun h1 => ifT_dec (fun h2 => hQ _ (by omega)) fun h2 => hQ _ (by omega)

/-- The comparison by what is left over. -/
theorem spec128 (hI : Closed' prog Pm I) {i : Nat} {s : Sl} {rs : List Nat} {a b x y : Nat} (hc : h i = some (.cells false [.slice 1 s])) (hs : At h 1 s (unats rs)) (ha : rs[a]? = some x) (hb : rs[b]? = some y)
    (hQ : ∀ c, (c < 0 ↔ y < x) → Q [int c] h) : I 128 [int a, int b, .one (.ptr (some (i, 0)))] Q h := by
  have hl : s.len = rs.length := by rw [hs.len1, unats_length]
  have ha1 := (List.getElem?_eq_some_iff.1 ha).1
  have hb1 := (List.getElem?_eq_some_iff.1 hb).1
  refine hI.go _ _ (den128 I a b i 0 Q) ?_
  refine ⟨s, read_cell hc rfl, ⟨by omega, by omega⟩, hs.cell (unats_get hb) fun _ _ hr => ⟨_, hr, s, read_cell hc rfl, ⟨by omega, by omega⟩, hs.cell (unats_get ha) fun _ _ hr => ⟨_, hr, ?_⟩⟩⟩
  exact spec117 hI fun c hc => ⟨c, rfl, hQ c (by omega)⟩

theorem take_succ_map {α β : Type} (f : α → β) {l : List α} {k : Nat} {x : α} (h : l[k]? = some x) : (l.map f).take (k + 1) = (l.map f).take k ++ [f x] := by
  rw [List.take_add_one, List.getElem?_map, h]; rfl

/-- The arguments of a division of 128 bits. -/
theorem mul_lt {c w all : Nat} (hc : c ≤ 1000000000000) (hw : w ≤ all) (ha : 0 < all) : c * w / 18446744073709551616 < all := by
  rw [Nat.div_lt_iff_lt_mul (by decide)]
  have h1 : c * w ≤ 1000000000000 * all := Nat.mul_le_mul hc hw
  omega
theorem mem_le_sum : ∀ {l : List Nat} {x : Nat}, x ∈ l → x ≤ l.sum
  | y :: l, x, h => by
    rw [List.sum_cons]
    rcases List.mem_cons.1 h with rfl | h
    · omega
    · have := mem_le_sum h; omega
theorem sum_le : ∀ {l : List Nat} {b : Nat}, (∀ x ∈ l, x ≤ b) → l.sum ≤ b * l.length
  | [], _, _ => by simp
  | y :: l, b, h => by
    have h1 := sum_le (l := l) fun x hx => h x (by simp [hx])
    have h2 := h y (by simp)
    rw [List.sum_cons, List.length_cons, Nat.mul_add]
    omega
theorem take_sum_le (l : List Nat) (k : Nat) : (l.take k).sum ≤ l.sum := by
  conv => rhs; rw [← List.take_append_drop k l, List.sum_append]
  omega

/-- Both words of the product, divided: quotient and rest. -/
theorem divide_word (hI : Closed' prog Pm I) {c w all : Nat} {k : Int → Int → T} (hc : c ≤ 1000000000000) (hw : w ≤ all) (ha : 0 < all) (ha2 : all < 18446744073709551616)
    (hk : k ((c * w / all : Nat) : Int) ((c * w % all : Nat) : Int) h) :
    I 118 [u64 ((c * w / 18446744073709551616 : Nat) : Int), u64 ((c * w % 18446744073709551616 : Nat) : Int), u64 (all : Int)] (fun cs h' => ∃ a : Int, ∃ b : Int, cs = [u64 a, u64 b] ∧ k a b h') h := by
  refine spec118g hI (mul_lt hc hw ha) ha2 (Nat.mod_lt _ (by decide)) ⟨_, _, rfl, ?_⟩
  have e : c * w / 18446744073709551616 * 18446744073709551616 + c * w % 18446744073709551616 = c * w := by
    rw [Nat.mul_comm]; exact Nat.div_add_mod _ _
  rw [e]
  exact hk

theorem block_at {h : Heap} {i n : Nat} {cs : List Cell} (hi : h i = some (.cells false cs)) (hn : n = cs.length) : At h 1 ⟨some (i, 0), n⟩ cs := by
  refine ⟨by simp [hn], .inr ?_⟩
  show h.read i 0 (n * 1) = _
  rw [read_block hi (by omega), List.drop_zero, List.take_of_length_le (by omega)]
theorem Owns.ne {h0 h : Heap} {p q : Ow} {l : List Ow} {i j : Nat} (o : Owns h0 h (p :: l)) (hq : q ∈ l) (hi : p.2.1.a = some (i, 0)) (hj : q.2.1.a = some (j, 0)) : i ≠ j := fun e => by
  subst e; exact (List.pairwise_cons.1 o.apart).1 q hq i hi hj
theorem nats_ne {l : List Nat} (h : 0 < l.length) : nats l ≠ [] := fun e => by have := congrArg List.length e; rw [nats_length] at this; have h2 : l.length = 0 := this; omega
theorem unats_ne {l : List Nat} (h : 0 < l.length) : unats l ≠ [] := fun e => by have := congrArg List.length e; rw [unats_length] at this; have h2 : l.length = 0 := this; omega
theorem at_some {l : List Nat} {i x : Nat} (h : l[i]? = some x) : at_ l i = x := by unfold at_; rw [List.getD_eq_getElem?_getD, h]; rfl

theorem spec101 (hI : Closed' prog Pm I) {s : Sl} {c : Nat} {ws : List Nat} (hs : At h 1 s (nats ws)) (hc : c ≤ 1000000000000) (hw : ∀ w ∈ ws, w ≤ 1000000000000) (hpos : 0 < ws.sum) (hlen : ws.length < 20)
    (hQ : ∀ s' h', Ext h h' → At h' 1 s' (nats (shared c ws)) → Q [.one (.slice 1 s')] h') : I 101 [int c, .one (.slice 1 s)] Q h := by
  have hl : s.len = ws.length := by rw [hs.len1, nats_length]
  have hsum := sum_le hw
  have hsum' : ws.sum ≤ 20000000000000 := by omega
  obtain ⟨hleft1, hleft2⟩ := left_ok (c := c) hpos
  have hn0 : 0 < ws.length := by omega
  refine hI.go _ _ (den101 I c s Q) ?_
  refine loopK_intro (fun (a : Int × Int) h' m => h' = h ∧ ∃ i : Nat, i ≤ ws.length ∧ a = ((((ws.take i).sum : Nat) : Int), (i : Int)) ∧ ws.length - i = m) ws.length ⟨rfl, 0, by omega, rfl, rfl⟩ ?_
  rintro a h' m ⟨rfl, i, hi, rfl, rfl⟩
  dsimp only [uncur]
  refine ifT_dec (fun hlt => ⟨⟨by omega, hlt⟩, ?_⟩) (fun hge => ?_)
  · have hil : i < ws.length := by omega
    have hx := List.getElem?_eq_getElem hil
    refine hs.cell (nats_get hx) fun b o hr => ⟨_, hr, ws.length - (i + 1), by omega, rfl, i + 1, by omega, ?_, rfl⟩
    have h1 : (ws.take (i + 1)).sum = (ws.take i).sum + ws[i] := by
      rw [List.take_add_one, hx]
      show (ws.take i ++ [ws[i]]).sum = _
      rw [List.sum_append]; simp
    have h2 := take_sum_le ws (i + 1)
    rw [h1] at h2 ⊢
    generalize (ws.take i).sum = y at *
    generalize ws[i] = x at *
    rw [w64 (by omega) (by omega), w64 (by omega) (by omega)]
    rfl
  have : i = ws.length := by omega
  subst this
  rw [List.take_length]
  have hQS : ∀ a, (qs c a ws).length = ws.length := fun a => by simp [qs]
  have hRS : ∀ a, (rs c a ws).length = ws.length := fun a => by simp [rs]
  obtain ⟨all, hall⟩ : ∃ all, ws.sum = all := ⟨_, rfl⟩
  refine newK_intro fun i11 h1 hn1 he1 => ?_
  have o0 : Owns h' h1 [(1, ⟨some (i11, 0), 1⟩, [.slice 1 ⟨none, 0⟩])] := he1 ▸ (Owns.nil h').new hn1 rfl
  refine loopK_intro (fun (a : Int × Sl × Sl × Int) h'' m => ∃ k : Nat, k ≤ ws.length ∧ ws.length - k = m ∧ a.2.2.2 = (k : Int) ∧ a.1 = ((c - ((qs c all ws).take k).sum : Nat) : Int) ∧ ∃ r : Sl,
      Owns h' h'' [(1, a.2.1, nats ((qs c all ws).take k)), (1, a.2.2.1, nats (List.range k)), (1, r, unats ((rs c all ws).take k)), (1, ⟨some (i11, 0), 1⟩, [.slice 1 r])]) ws.length
    ⟨0, by omega, rfl, rfl, by simp, ⟨none, 0⟩, ((o0.none_ 1).none_ 1).none_ 1⟩ ?_
  rintro ⟨left, out, order, y⟩ h2 m ⟨k, hk, rfl, rfl, hleft, r, o⟩
  simp only at hleft
  subst hleft
  dsimp only [uncur]
  rw [hall] at hleft1 hleft2 hpos hsum' ⊢
  have hqle : ∀ k, ((qs c all ws).take k).sum ≤ c := fun k => Nat.le_trans (take_sum_le _ _) (hall ▸ hleft1)
  refine ifT_dec (fun hlt => ⟨⟨by omega, hlt⟩, ?_⟩) (fun hge => ?_)
  · have hkl : k < ws.length := by omega
    have hx := List.getElem?_eq_getElem hkl
    have hwk : ws[k] ≤ all := by rw [← hall]; exact mem_le_sum (List.getElem_mem hkl)
    generalize ws[k] = w at *
    refine (o.ext.at_ hs).cell (nats_get hx) fun b o' hr => ⟨_, hr, ?_⟩
    rw [wN c (by omega), wN w (by omega), wN all (by omega)]
    refine spec115 hI (by omega) (by omega) ⟨_, _, rfl, divide_word hI hc hwk hpos (by omega) ?_⟩
    have hqk : ((qs c all ws).take (k + 1)) = (qs c all ws).take k ++ [c * w / all] := take_succ_map _ hx
    have hrk : ((rs c all ws).take (k + 1)) = (rs c all ws).take k ++ [c * w % all] := take_succ_map _ hx
    have hq1 := hqle (k + 1)
    rw [hqk, List.sum_append] at hq1
    have hq2 : [c * w / all].sum = c * w / all := by simp
    rw [hq2] at hq1
    have hvar := (o.block (sz := 1) (i := i11) (n := 1) (cs := [.slice 1 r]) (by simp)).1
    refine ⟨r, read_cell hvar rfl, ?_⟩
    have l1 := o.slen (s := out) (cs := nats ((qs c all ws).take k)) (by simp)
    have l2 := o.slen (s := order) (cs := nats (List.range k)) (by simp)
    have l3 := o.slen (s := r) (cs := unats ((rs c all ws).take k)) (by simp)
    rw [nats_length, List.length_take, hQS] at l1
    rw [nats_length, List.length_range] at l2
    rw [unats_length, List.length_take, hRS] at l3
    have ew : IntKind.i64.wrap ((c * w / all : Nat) : Int) = ((c * w / all : Nat) : Int) := by
      generalize c * w / all = q at *
      exact w64 (by omega) (by omega)
    rw [ew]
    refine appendTo_owns (m := 0) o (by rfl) (by omega) ?hw1 fun b1 h3 o3 => ?_
    case hw1 =>
      intro j hj
      have : j = i11 := by simpa using hj
      subst this
      exact .inr ⟨_, List.mem_of_getElem? (i := 2) rfl, rfl⟩
    refine appendTo_owns (m := 0) (o3.perm (List.Perm.swap _ _ _)) (by rfl) (by omega) ?hw2 fun b2 h4 o4 => ?_
    case hw2 =>
      intro j hj
      have : j = i11 := by simpa using hj
      subst this
      exact .inr ⟨_, List.mem_of_getElem? (i := 2) rfl, rfl⟩
    -- order, out, r, var
    have p1 : ∀ a b c d : Ow, [a, b, c, d].Perm [c, a, b, d] := fun a b c d => (List.Perm.cons a (List.Perm.swap c b [d])).trans (List.Perm.swap c a _)
    refine appendTo_owns (m := 0) (o4.perm (p1 _ _ _ _)) (by rfl) (by omega) (by simp) fun b3 h5 o5 => ?_
    -- r, order, out, var
    have p2 : ∀ a b c d : Ow, [a, b, c, d].Perm [d, a, b, c] := fun a b c d => List.perm_append_singleton d [a, b, c]
    have o6 := o5.perm (p2 _ _ _ _)
    refine storeK_one (o6.block List.mem_cons_self).1 (by simp) ?_
    have p3 : ∀ a b c d : Ow, [a, b, c, d].Perm [d, c, b, a] := fun a b c d => (List.reverse_perm [d, c, b, a])
    have o7 := (o6.change (n' := 1) (sz' := 1) (cs' := [Cell.slice 1 ⟨some (b3, 0), r.len + (0 + 1)⟩]) rfl).perm (p3 _ _ _ _)
    -- out, order, r, var
    have p4 : ∀ a b c d : Ow, [a, b, c, d].Perm [a, b, c, d] := fun a b c d => List.Perm.refl _
    have e_out : nats ((qs c all ws).take (k + 1)) = nats ((qs c all ws).take k) ++ [.int .i64 ((c * w / all : Nat) : Int)] := by rw [hqk]; simp [nats]
    have e_ord : nats (List.range (k + 1)) = nats (List.range k) ++ [.int .i64 (k : Int)] := by rw [List.range_succ]; simp [nats]
    have e_r : unats ((rs c all ws).take (k + 1)) = unats ((rs c all ws).take k) ++ [.int .u64 ((c * w % all : Nat) : Int)] := by rw [hrk]; simp [unats]
    refine ⟨ws.length - (k + 1), by omega, k + 1, by omega, rfl, ?_, ?_, ⟨some (b3, 0), r.len + (0 + 1)⟩, ?_⟩
    · show IntKind.i64.wrap ((k : Int) + 1) = _
      rw [w64] <;> omega
    · show IntKind.i64.wrap (_ - _) = _
      rw [hqk, List.sum_append, hq2]
      generalize c * w / all = q at *
      rw [w64 (by omega) (by omega)]
      omega
    · rw [e_out, e_ord, e_r]
      exact o7
  · have hkn : k = ws.length := by omega
    subst hkn
    have t1 : (qs c all ws).take ws.length = qs c all ws := List.take_of_length_le (by rw [hQS]; exact Nat.le_refl _)
    have t2 : (rs c all ws).take ws.length = rs c all ws := List.take_of_length_le (by rw [hRS]; exact Nat.le_refl _)
    rw [t1, t2] at o
    rw [t1]
    have l1 := o.slen (s := out) (cs := nats (qs c all ws)) (by simp)
    have l2 := o.slen (s := order) (cs := nats (List.range ws.length)) (by simp)
    have l3 := o.slen (s := r) (cs := unats (rs c all ws)) (by simp)
    rw [nats_length, hQS] at l1
    rw [nats_length, List.length_range] at l2
    rw [unats_length, hRS] at l3
    obtain ⟨bo, hbo, co⟩ := o.has (s := out) (cs := nats (qs c all ws)) (sz := 1) (by simp) (nats_ne (by rw [hQS]; exact hn0))
    obtain ⟨bd, hbd, cd⟩ := o.has (s := order) (cs := nats (List.range ws.length)) (sz := 1) (by simp) (nats_ne (by rw [List.length_range]; exact hn0))
    obtain ⟨br, hbr, cr⟩ := o.has (s := r) (cs := unats (rs c all ws)) (sz := 1) (by simp) (unats_ne (by rw [hRS]; exact hn0))
    rw [l1] at hbo
    rw [l2] at hbd
    rw [l3] at hbr
    subst hbo hbd hbr
    have cv := (o.block (sz := 1) (i := i11) (n := 1) (cs := [.slice 1 ⟨some (br, 0), ws.length⟩]) (by simp)).1
    have ne1 : bd ≠ br := o.tail.ne (q := (1, ⟨some (br, 0), ws.length⟩, unats (rs c all ws))) (by simp) rfl rfl
    have ne2 : bd ≠ i11 := o.tail.ne (q := (1, ⟨some (i11, 0), 1⟩, [.slice 1 ⟨some (br, 0), ws.length⟩])) (by simp) rfl rfl
    have hlR : ((List.range ws.length).map fun n : Nat => (n : Int)).length = ws.length := by simp
    generalize hq : qs c all ws = q at *
    generalize hr : rs c all ws = rr at *
    have hlr : rr.length = ws.length := by rw [← hr]; exact hRS all
    have hlq : q.length = ws.length := by rw [← hq]; exact hQS all
    have key := fun Q0 => spec127 (I := I) (Q := Q0) (h := h2) (blk := bd) (g := 128) (caps := [(i11, 0)]) (xs := (List.range ws.length).map fun n : Nat => (n : Int)) (lt := fun x y => decide (at_ rr y.toNat < at_ rr x.toNat)) hI
      (fun x y => beats rr x.toNat y.toNat = true) (by rw [← nats_ints]; exact cd) (by rw [hlR]; exact hlen)
    simp only [hlR] at key
    refine key _ ?_ ?_ (fun a b c _ _ _ h1 h2 => beats_trans h1 h2) fun ys hp hpw => ⟨rfl, ⟨by decide, by omega, by omega⟩, ?_⟩
    · intro a b ha hb h' Q' hsame hQ'
      obtain ⟨a', ha', rfl⟩ := List.mem_map.1 ha
      obtain ⟨b', hb', rfl⟩ := List.mem_map.1 hb
      have ha2 := List.mem_range.1 ha'
      have hb2 := List.mem_range.1 hb'
      have ga : rr[a']? = some rr[a'] := List.getElem?_eq_getElem (by omega)
      have gb : rr[b']? = some rr[b'] := List.getElem?_eq_getElem (by omega)
      refine spec128 hI (s := ⟨some (br, 0), ws.length⟩) (by rw [hsame _ (Ne.symm ne2)]; exact cv) (block_at (by rw [hsame _ (Ne.symm ne1)]; exact cr) (by rw [unats_length, hlr])) ga gb fun c hc => hQ' c ?_
      simp only [Int.toNat_natCast, decide_eq_true_eq, at_some ga, at_some gb]
      exact hc
    · rw [List.pairwise_map]
      refine List.pairwise_lt_range.imp fun {a b} hab => ?_
      simp only [Int.toNat_natCast, decide_eq_true_eq, decide_eq_false_iff_not, beats_iff]
      constructor <;> intro h <;> omega
    · obtain ⟨ys', rfl, hp'⟩ : ∃ ys' : List Nat, ys = ys'.map (fun n : Nat => (n : Int)) ∧ ys'.Perm (List.range ws.length) := by
        refine ⟨ys.map Int.toNat, ?_, ?_⟩
        · rw [List.map_map]
          conv => lhs; rw [← List.map_id ys]
          refine List.map_congr_left fun y hy => ?_
          obtain ⟨n, _, rfl⟩ := List.mem_map.1 (hp.mem_iff.1 hy)
          simp
        · have := hp.map Int.toNat
          rw [List.map_map] at this
          have e : (Int.toNat ∘ fun n : Nat => (n : Int)) = id := by funext n; simp
          rw [e, List.map_id] at this
          exact this
      rw [List.pairwise_map] at hpw
      simp only [Int.toNat_natCast] at hpw
      rw [← hlr] at hp'
      rw [Int.toNat_natCast]
      have hyl : ys'.length = ws.length := by rw [hp'.length_eq, List.length_range, hlr]
      have o2 := (o.perm (List.Perm.swap _ _ _)).change (n' := ws.length) (sz' := 1) (cs' := ints (ys'.map fun n : Nat => (n : Int))) (by rw [ints_length]; simp [hyl])
      have o3 := o2.perm (List.Perm.swap _ _ _)
      have o4 : Owns h' (h2.set bd (.cells false (ints (ys'.map fun n : Nat => (n : Int))))) [(1, ⟨some (bo, 0), ws.length⟩, nats q), (1, ⟨some (bd, 0), ws.length⟩, ints (ys'.map fun n : Nat => (n : Int)))] :=
        ⟨o3.ext, fun p hp => o3.all p (by simp at hp ⊢; rcases hp with h | h <;> simp [h]), by
          have := o3.apart
          simp only [List.pairwise_cons] at this ⊢
          exact ⟨fun a ha => this.1 a (by simp at ha ⊢; exact .inl ha), by simp⟩⟩
      have hleft : c - q.sum ≤ ws.length := by omega
      have hqs : ∀ e x, q[e]? = some x → x ≤ c := fun e x hx => by
        have := mem_le_sum (List.mem_of_getElem? hx)
        omega
      refine loopK_intro (fun (a : Int) h4 m => ∃ k : Nat, k ≤ c - q.sum ∧ a = (k : Int) ∧ c - q.sum - k = m ∧ Owns h' h4 [(1, ⟨some (bo, 0), ws.length⟩, nats (dealtK q rr k)), (1, ⟨some (bd, 0), ws.length⟩, ints (ys'.map fun n : Nat => (n : Int)))]) (c - q.sum)
        ⟨0, by omega, rfl, rfl, by rw [dealtK_zero]; exact o4⟩ ?_
      rintro a h4 m ⟨k, hk, rfl, rfl, o5⟩
      refine ifT_dec (fun hlt => ⟨⟨by omega, hlt⟩, ?_⟩) (fun hge => ?_)
      · have hkl : k < c - q.sum := by have : (k : Int) < ((c - q.sum - 0 : Nat) : Int) := hlt; omega
        have hsub := (o5.at_ (sz := 1) (s := ⟨some (bd, 0), ws.length⟩) (cs := ints (ys'.map fun n : Nat => (n : Int))) (by simp)).sub 0 (c - q.sum) (by omega) hleft
        have hy : ys'[k]? = some ys'[k] := List.getElem?_eq_getElem (by omega)
        generalize ys'[k] = e at hy
        have hel : e < ws.length := by
          have := List.mem_range.1 (hp'.mem_iff.1 (List.mem_of_getElem? hy)); omega
        have hrank := sorted_rank hp' hpw hy
        have hg : (((ints (ys'.map fun n : Nat => (n : Int))).drop (0 * 1)).take ((c - q.sum - 0) * 1))[k]? = some (.int .i64 (e : Int)) := by
          rw [List.getElem?_take, if_pos (by omega), Nat.zero_mul, List.drop_zero]
          exact ints_get (by rw [List.getElem?_map, hy]; rfl)
        refine hsub.cell hg fun b o' hr' => ⟨_, hr', ⟨by omega, by simp; omega⟩, ?_⟩
        have hqe : q[e]? = some (at_ q e) := by
          rw [List.getElem?_eq_getElem (by omega)]
          rw [at_some (List.getElem?_eq_getElem (show e < q.length by omega))]
        have hde : (dealtK q rr k)[e]? = some (at_ q e) := by rw [dealtK_get (by omega), hrank]; simp
        have hqec := hqs e _ hqe
        refine (o5.at_ List.mem_cons_self).cell (nats_get hde) fun b o' hr' => ⟨_, hr', ⟨by omega, by simp; omega⟩, derefK_intro rfl ?_⟩
        have ew : IntKind.i64.wrap ((at_ q e : Int) + 1) = ((at_ q e + 1 : Nat) : Int) := by rw [w64] <;> omega
        have eo : 0 + (e : Int).toNat * 1 = e := by simp
        rw [ew, eo]
        refine storeK_one (o5.block List.mem_cons_self).1 (by rw [nats_length, dealtK_length]; omega) ⟨c - q.sum - (k + 1), by omega, k + 1, by omega, ?_, rfl, ?_⟩
        · rw [w64] <;> omega
        · rw [nats_set, dealtK_step (by omega) (by omega) hrank]
          exact o5.change (by rw [nats_length, dealtK_length]; omega)
      · have hk2 : k = c - q.sum := by
          have : ¬ (k : Int) < ((c - q.sum - 0 : Nat) : Int) := hge
          omega
        subst hk2
        refine hQ _ _ o5.ext ?_
        have := o5.at_ (sz := 1) (s := ⟨some (bo, 0), ws.length⟩) (cs := nats (dealtK q rr (c - q.sum))) (by simp)
        unfold shared
        rw [hall, hq, hr]
        exact this

end
end Go.Proofs.YtihnjdhjkpmggaaVc
