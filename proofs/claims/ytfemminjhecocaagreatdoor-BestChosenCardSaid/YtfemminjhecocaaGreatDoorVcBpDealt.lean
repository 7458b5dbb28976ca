/- Contracts, turned by a program to the numbers of this seat. -/
import Derived.Test.YtfemminjhecocaaGreatDoorVcBpSpecA
set_option linter.unusedSimpArgs false
set_option linter.unusedVariables false
-- from CsSpec1
namespace Go.Proofs.YtfemminjhecocaaGreatDoorVc
open Go.Proofs.Tryz (prog)
section
variable {I : Calls} {Q : Post} {h : Heap}
theorem spec65 (hI : Closed' prog Pm I) {s : Sl} {xs : List Nat} (hs : At h 1 s (nats xs)) (hlen : xs.length < 1000000) (hsum : xs.sum < 4611686018427387904) (hQ : Q [int (xs.sum : Nat)] h) : I 65 [.one (.slice 1 s)] Q h := by
  have hl : s.len = xs.length := by rw [hs.len1, nats_length]
  refine hI.go _ _ (den65 I s Q) ?_
  refine loopK_intro (fun (a : Int × Int) h' m => h' = h ∧ ∃ i : Nat, i ≤ xs.length ∧ a = ((((xs.take i).sum : Nat) : Int), (i : Int)) ∧ xs.length - i = m) xs.length ⟨rfl, 0, by omega, rfl, rfl⟩ ?_
  rintro a h' m ⟨rfl, i, hi, rfl, rfl⟩
  dsimp only [uncur]
  refine ifT_dec (fun hlt => ⟨⟨by omega, hlt⟩, ?_⟩) (fun hge => ?_)
  · have hil : i < xs.length := by omega
    have hx := List.getElem?_eq_getElem hil
    refine hs.cell (nats_get hx) fun b o hr => ⟨_, hr, xs.length - (i + 1), by omega, rfl, i + 1, by omega, ?_, rfl⟩
    have h1 : (xs.take (i + 1)).sum = (xs.take i).sum + xs[i] := by
      rw [List.take_add_one, hx]
      show (xs.take i ++ [xs[i]]).sum = _
      rw [List.sum_append]; simp
    have h2 : (xs.take (i + 1)).sum ≤ xs.sum := by
      conv => rhs; rw [← List.take_append_drop (i + 1) xs, List.sum_append]
      omega
    rw [h1] at h2 ⊢
    generalize (xs.take i).sum = y at *
    generalize xs[i] = x at *
    rw [w64 (by omega) (by omega), w64 (by omega) (by omega)]
    rfl
  · have : i = xs.length := by omega
    subst this
    rw [List.take_length]
    exact hQ
theorem spec18 (hI : Closed' prog Pm I) (hQ : Q [boo true] h) : I 18 [] Q h := by
  refine hI.go _ _ (den18 I Q) ?_
  have e : (ByteArray.mk #[49, 50, 51]) = code [1, 2, 3] := by decide
  show I 66 [str (ByteArray.mk #[49, 50, 51])] _ h
  rw [e]
  refine spec66 hI (by decide) (by decide) (by decide) fun x h1 h2 => ⟨_, _, rfl, ?_⟩
  have hx : x = 12 := YtfemminjhecocaaGreatDoorCodes.seal_unique x h1 (by rw [YtfemminjhecocaaGreatDoorCodes.wsum_snoc] at h2; simpa [YtfemminjhecocaaGreatDoorCodes.wsum] using h2)
  subst hx
  refine ifT_intro (fun _ => ?_) (fun h => by simp at h)
  have e2 : decide (code ([1, 2, 3] ++ [12]) = ByteArray.mk #[49, 50, 51, 67]) = true := by decide
  rw [e2]
  exact hQ
theorem spec23 (hI : Closed' prog Pm I) {s t : Sl} {zs : List Int} (hs : At h 1 s (ints zs)) (ht : At h 1 t (ints zs)) (hlen : zs.length < 1000000) (hQ : Q [boo true] h) : I 23 [.one (.slice 1 s), .one (.slice 1 t)] Q h := by
  have h1 : s.len = zs.length := by rw [hs.len1, ints_length]
  have h2 : t.len = zs.length := by rw [ht.len1, ints_length]
  refine hI.go _ _ (den23 I s t Q) ?_
  refine ifT_intro (fun h => by rw [h1, h2] at h; simp at h) fun _ => ?_
  refine loopK_intro (fun (a : Int) h' m => h' = h ∧ ∃ i : Nat, i ≤ zs.length ∧ a = i ∧ zs.length - i = m) zs.length ⟨rfl, 0, by omega, rfl, rfl⟩ ?_
  rintro a h' m ⟨rfl, i, hi, rfl, rfl⟩
  refine ifT_dec (fun hlt => ⟨⟨by omega, hlt⟩, ?_⟩) (fun hge => hQ)
  have hx := List.getElem?_eq_getElem (show i < zs.length by omega)
  refine hs.cell (ints_get hx) fun b o hr => ⟨_, hr, ⟨by omega, by omega⟩, ht.cell (ints_get hx) fun b o hr => ⟨_, hr, ifT_intro (fun h => by simp at h) fun _ => ⟨zs.length - (i + 1), by omega, rfl, i + 1, by omega, ?_, rfl⟩⟩⟩
  rw [w64] <;> omega
/-! ### the stream's block, among one's own -/
end
end Go.Proofs.YtfemminjhecocaaGreatDoorVc
-- from CsSpec3
namespace Go.Proofs.YtfemminjhecocaaGreatDoorVc
open Go.Proofs.YtfemminjhecocaaGreatDoorShares
open Go.Proofs.Tryz (prog)
def bools (l : List Bool) : List Cell := l.map .bool
theorem bools_length (l : List Bool) : (bools l).length = l.length := by simp [bools]
theorem bools_get {xs : List Bool} {i : Nat} {b : Bool} (h : xs[i]? = some b) : (bools xs)[i]? = some (.bool b) := by unfold bools; rw [List.getElem?_map, h]; rfl
theorem bools_set (xs : List Bool) (i : Nat) (b : Bool) : (bools xs).set i (.bool b) = bools (xs.set i b) := by unfold bools; rw [List.map_set]
def givenK (rs : List Nat) (k : Nat) : List Bool := (List.range rs.length).map fun i => decide (rank rs i < k)
theorem givenK_length (rs : List Nat) (k : Nat) : (givenK rs k).length = rs.length := by simp [givenK]
theorem givenK_get {rs : List Nat} {k i : Nat} (hi : i < rs.length) : (givenK rs k)[i]? = some (decide (rank rs i < k)) := by
  unfold givenK; rw [List.getElem?_map, List.getElem?_range hi]; rfl
theorem givenK_zero (rs : List Nat) : givenK rs 0 = List.replicate rs.length false := by
  apply List.ext_getElem?
  intro i
  rcases Nat.lt_or_ge i rs.length with hi | hi
  · rw [givenK_get hi, List.getElem?_replicate, if_pos hi]; simp
  · rw [List.getElem?_eq_none (by rw [givenK_length]; exact hi), List.getElem?_eq_none (by simpa using hi)]
theorem givenK_step {rs : List Nat} {k i : Nat} (hi : i < rs.length) (hr : rank rs i = k) : (givenK rs k).set i true = givenK rs (k + 1) := by
  apply List.ext_getElem?
  intro j
  rw [List.getElem?_set]
  rcases Nat.lt_or_ge j rs.length with hj | hj
  · split
    · rename_i h
      subst h
      rw [if_pos (by rw [givenK_length]; exact hi), givenK_get hi]
      simp [hr]
    · rename_i h
      rw [givenK_get hj, givenK_get hj]
      have : rank rs j ≠ k := fun e => h (rank_inj (rs := rs) hi hj (by rw [hr, e]))
      congr 1
      rw [decide_eq_decide]
      omega
  · rw [if_neg (by omega), List.getElem?_eq_none (by rw [givenK_length]; exact hj), List.getElem?_eq_none (by rw [givenK_length]; exact hj)]
theorem set_fill (A : List Nat) (m v : Nat) : (A ++ List.replicate (m + 1) 0).set A.length v = (A ++ [v]) ++ List.replicate m 0 := by
  rw [List.replicate_succ, set_mid']; simp
section
variable {I : Calls} {Q : Post} {h : Heap}
theorem spec100 (hI : Closed' prog Pm I) {s : Sl} {c : Nat} {ws : List Nat} (hs : At h 1 s (nats ws)) (hc : c ≤ 1000000000000) (hw : ∀ w ∈ ws, w ≤ 1000000000000) (hpos : 0 < ws.sum) (hlen : ws.length < 1000)
    (hQ : ∀ s' h', Ext h h' → At h' 1 s' (nats (shared c ws)) → New h s' → Q [.one (.slice 1 s')] h') : I 100 [int c, .one (.slice 1 s), boo false] Q h := by
  have hl : s.len = ws.length := by rw [hs.len1, nats_length]
  have hsum := sum_le hw
  have hsum' : ws.sum ≤ 1000000000000000 := by omega
  obtain ⟨hleft1, hleft2⟩ := left_ok (c := c) hpos
  have hn0 : 0 < ws.length := by omega
  refine hI.go _ _ (den100 I c s false Q) ?_
  refine spec65 hI hs (by omega) (by omega) ⟨_, rfl, rfl, by omega, by omega, by rw [hl]; show (ws.length : Int) * ((8 : Nat) : Int) ≤ _; omega, ?_⟩
  simp only [hl, Int.toNat_natCast]
  have hQS : (qs c ws.sum ws).length = ws.length := by simp [qs]
  have hRS : (rs c ws.sum ws).length = ws.length := by simp [rs]
  have hz : ∀ k, slCells (.one (.int .i64)) k = nats (List.replicate k 0) := fun k => by
    unfold slCells nats
    rw [List.map_replicate]
    exact List.flatten_replicate_singleton
  have hz2 : ∀ k, slCells (.one (.int .u64)) k = unats (List.replicate k 0) := fun k => by
    unfold slCells unats
    rw [List.map_replicate]
    exact List.flatten_replicate_singleton
  have hz3 : ∀ k, slCells (.one .bool) k = bools (List.replicate k false) := fun k => by
    unfold slCells bools
    rw [List.map_replicate]
    exact List.flatten_replicate_singleton
  simp only [hz, hz2, hz3]
  generalize hall : ws.sum = all at *
  generalize hq : qs c all ws = q at *
  generalize hr : rs c all ws = r at *
  refine newK_intro fun i7 h1 hn1 he1 => ⟨trivial, by omega, by omega, by show (ws.length : Int) * ((8 : Nat) : Int) ≤ _; omega, newK_intro fun i9 h2 hn2 he2 => ?_⟩
  have o1 : Owns h h1 [(1, ⟨some (i7, 0), ws.length⟩, nats (List.replicate ws.length 0))] := he1 ▸ (Owns.nil h).new hn1 (by rw [nats_length]; simp)
  have o2 : Owns h h2 [(1, ⟨some (i9, 0), ws.length⟩, unats (List.replicate ws.length 0)), (1, ⟨some (i7, 0), ws.length⟩, nats (List.replicate ws.length 0))] := he2 ▸ o1.new hn2 (by rw [unats_length]; simp)
  refine loopK_intro (fun (a : Int) h' m => ∃ i : Nat, i ≤ ws.length ∧ a = (i : Int) ∧ ws.length - i = m ∧
      Owns h h' [(1, ⟨some (i9, 0), ws.length⟩, unats (r.take i ++ List.replicate (ws.length - i) 0)), (1, ⟨some (i7, 0), ws.length⟩, nats (q.take i ++ List.replicate (ws.length - i) 0))]) ws.length
    ⟨0, by omega, rfl, rfl, by simpa using o2⟩ ?_
  rintro a h' m ⟨i, hi, rfl, rfl, o⟩
  refine ifT_dec (fun hlt => ⟨⟨by omega, hlt⟩, ?_⟩) (fun hge => ?_)
  · have hil : i < ws.length := by omega
    have hx := List.getElem?_eq_getElem hil
    have hwk : ws[i] ≤ all := by rw [← hall]; exact mem_le_sum (List.getElem_mem hil)
    generalize ws[i] = w at *
    refine (o.ext.at_ hs).cell (nats_get hx) fun b o' hr' => ⟨_, hr', ?_⟩
    rw [wN c (by omega), wN w (by omega), wN all (by omega)]
    refine spec142 hI (by omega) (by omega) ⟨_, _, rfl, divide_word hI hc hwk hpos (by omega) ?_⟩
    have hqi : q.take (i + 1) = q.take i ++ [c * w / all] := by rw [← hq]; exact take_succ_map _ hx
    have hri : r.take (i + 1) = r.take i ++ [c * w % all] := by rw [← hr]; exact take_succ_map _ hx
    have hq1 : c * w / all ≤ c := by
      have h1 := mem_le_sum (l := q) (x := c * w / all) (by
        have : c * w / all ∈ q.take (i + 1) := by rw [hqi]; simp
        exact List.mem_of_mem_take this)
      omega
    have ew : IntKind.i64.wrap ((c * w / all : Nat) : Int) = ((c * w / all : Nat) : Int) := by
      generalize c * w / all = z at *
      exact w64 (by omega) (by omega)
    have eo : 0 + (i : Int).toNat * 1 = i := by simp
    have lq : (q.take i).length = i := by rw [List.length_take]; omega
    have lr : (r.take i).length = i := by rw [List.length_take]; omega
    have er : ws.length - i = (ws.length - (i + 1)) + 1 := by omega
    rw [ew, eo]
    have o3 := o.perm (List.Perm.swap _ _ _)
    refine ⟨⟨by omega, by omega⟩, storeK_one (o3.block List.mem_cons_self).1 (by rw [nats_length]; simp; omega) ⟨⟨by omega, by omega⟩, ?_⟩⟩
    have s1 : (nats (q.take i ++ List.replicate (ws.length - i) 0)).set i (.int .i64 ((c * w / all : Nat) : Int)) = nats (q.take (i + 1) ++ List.replicate (ws.length - (i + 1)) 0) := by
      rw [nats_set, hqi, er]
      have := set_fill (q.take i) (ws.length - (i + 1)) (c * w / all)
      rw [lq] at this
      rw [this]
    have s2 : (unats (r.take i ++ List.replicate (ws.length - i) 0)).set i (.int .u64 ((c * w % all : Nat) : Int)) = unats (r.take (i + 1) ++ List.replicate (ws.length - (i + 1)) 0) := by
      rw [unats_set, hri, er]
      have := set_fill (r.take i) (ws.length - (i + 1)) (c * w % all)
      rw [lr] at this
      rw [this]
    rw [s1]
    have o4 := (o3.change (n' := ws.length) (sz' := 1) (cs' := nats (q.take (i + 1) ++ List.replicate (ws.length - (i + 1)) 0)) (by rw [nats_length]; simp; omega)).perm (List.Perm.swap _ _ _)
    refine storeK_one (o4.block List.mem_cons_self).1 (by rw [unats_length]; simp; omega) ⟨ws.length - (i + 1), by omega, i + 1, by omega, by rw [w64] <;> omega, rfl, ?_⟩
    rw [s2]
    exact o4.change (by rw [unats_length]; simp; omega)
  · have : i = ws.length := by omega
    subst this
    have t1 : q.take ws.length = q := List.take_of_length_le (by omega)
    have t2 : r.take ws.length = r := List.take_of_length_le (by omega)
    rw [t1, t2] at o
    simp only [Nat.sub_self, List.replicate_zero, List.append_nil] at o
    refine ⟨trivial, by omega, by omega, by show (ws.length : Int) * ((1 : Nat) : Int) ≤ _; omega, newK_intro fun i27 h3 hn3 he3 => ?_⟩
    have o3 : Owns h h3 [(1, ⟨some (i27, 0), ws.length⟩, bools (List.replicate ws.length false)), (1, ⟨some (i9, 0), ws.length⟩, unats r), (1, ⟨some (i7, 0), ws.length⟩, nats q)] := he3 ▸ o.new hn3 (by rw [bools_length]; simp)
    refine spec65 hI (o3.at_ (sz := 1) (s := ⟨some (i7, 0), ws.length⟩) (cs := nats q) (by simp)) (by omega) (by omega) ⟨_, rfl, ?_⟩
    have ew : IntKind.i64.wrap ((c : Int) - (q.sum : Nat)) = ((c - q.sum : Nat) : Int) := by rw [w64] <;> omega
    rw [ew]
    have ne1 : i27 ≠ i9 := o3.ne (q := (1, ⟨some (i9, 0), ws.length⟩, unats r)) (by simp) rfl rfl
    have p1 : ∀ a b c : Ow, [a, b, c].Perm [c, b, a] := fun a b c => List.reverse_perm [c, b, a]
    refine loopK_intro (fun (a : Int) h' m => ∃ k : Nat, k ≤ c - q.sum ∧ a = ((c - q.sum - k : Nat) : Int) ∧ c - q.sum - k = m ∧
        Owns h h' [(1, ⟨some (i27, 0), ws.length⟩, bools (givenK r k)), (1, ⟨some (i9, 0), ws.length⟩, unats r), (1, ⟨some (i7, 0), ws.length⟩, nats (dealtK q r k))]) (c - q.sum)
      ⟨0, by omega, rfl, rfl, by rw [dealtK_zero, givenK_zero, hRS]; exact o3⟩ ?_
    rintro a h4 m ⟨k, hk, rfl, rfl, o4⟩
    refine ifT_dec (fun hlt => ?_) (fun hge => ?_)
    · have hkn : k < r.length := by omega
      have hgB := (o4.block (sz := 1) (i := i27) (n := ws.length) (cs := bools (givenK r k)) (by simp)).1
      have hgR := (o4.block (sz := 1) (i := i9) (n := ws.length) (cs := unats r) (by simp)).1
      refine loopK_intro (fun (a : Int × Int) h5 m => h5 = h4 ∧ ∃ i : Nat, i ≤ ws.length ∧ a.2 = (i : Int) ∧ ws.length - i = m ∧
          ((a.1 = -1 ∧ ∀ j, j < i → rank r j < k) ∨ ∃ b : Nat, a.1 = (b : Int) ∧ b < i ∧ k ≤ rank r b ∧ ∀ j, j < i → k ≤ rank r j → beats r j b = false)) ws.length
        ⟨rfl, 0, by omega, rfl, rfl, .inl ⟨rfl, fun j hj => by omega⟩⟩ ?_
      rintro ⟨best, y⟩ h5 m ⟨rfl, i, hi, rfl, rfl, hinv⟩
      simp only at hinv
      dsimp only [uncur]
      have wi : IntKind.i64.wrap ((i : Int) + 1) = ((i + 1 : Nat) : Int) := by rw [w64] <;> omega
      have eo : 0 + (i : Int).toNat * 1 = i := by simp
      refine ifT_dec (fun hlt2 => ?_) (fun hge2 => ?_)
      · have hil : i < r.length := by omega
        have gi : r[i]? = some (at_ r i) := by rw [List.getElem?_eq_getElem hil, at_some (List.getElem?_eq_getElem hil)]
        rw [eo, wi]
        refine ⟨⟨by omega, by omega⟩, _, read_cell hgR (unats_get gi), ⟨by omega, by omega⟩, _, read_cell hgB (bools_get (givenK_get hil)), ifT_intro (fun hng => ?_) (fun hg => ?_)⟩
        · have hri : k ≤ rank r i := by simp at hng; omega
          rcases hinv with ⟨rfl, hall'⟩ | ⟨b, rfl, hb, hbr, hbest⟩
          · refine ifT_dec (fun _ => ⟨ws.length - (i + 1), by omega, rfl, i + 1, by omega, rfl, rfl, .inr ⟨i, rfl, by omega, hri, fun j hj hjk => ?_⟩⟩) fun h => absurd (show (-1 : Int) < 0 by decide) h
            rcases Nat.lt_or_ge j i with h1 | h1
            · have := hall' j h1; omega
            · have : j = i := by omega
              subst this; exact beats_irrefl _ _
          · have hbl : b < r.length := by omega
            have gb : r[b]? = some (at_ r b) := by rw [List.getElem?_eq_getElem hbl, at_some (List.getElem?_eq_getElem hbl)]
            have eb : 0 + (b : Int).toNat * 1 = b := by simp
            refine ifT_dec (fun h => by omega) fun _ => ⟨⟨by omega, by omega⟩, _, by rw [eb]; exact read_cell hgR (unats_get gb), ?_⟩
            refine ifT_dec (fun hgt => ?_) fun hle => ifT_intro (fun h => by cases h) fun _ => ?_
            · refine ⟨ws.length - (i + 1), by omega, rfl, i + 1, by omega, rfl, rfl, .inr ⟨i, rfl, by omega, hri, fun j hj hjk => ?_⟩⟩
              rcases Nat.lt_or_ge j i with h1 | h1
              · have h2 := hbest j h1 hjk
                cases h3 : beats r j i with
                | false => rfl
                | true =>
                  have h4 : beats r j b = true := by rw [beats_iff] at h3 ⊢; omega
                  rw [h4] at h2; cases h2
              · have : j = i := by omega
                subst this; exact beats_irrefl _ _
            · refine ⟨ws.length - (i + 1), by omega, rfl, i + 1, by omega, rfl, rfl, .inr ⟨b, rfl, by omega, hbr, fun j hj hjk => ?_⟩⟩
              rcases Nat.lt_or_ge j i with h1 | h1
              · exact hbest j h1 hjk
              · have : j = i := by omega
                subst this
                cases h3 : beats r j b with
                | false => rfl
                | true => rw [beats_iff] at h3; omega
        · have hri : rank r i < k := by simpa using hg
          refine ⟨ws.length - (i + 1), by omega, rfl, i + 1, by omega, rfl, rfl, ?_⟩
          rcases hinv with ⟨rfl, hall'⟩ | ⟨b, rfl, hb, hbr, hbest⟩
          · refine .inl ⟨rfl, fun j hj => ?_⟩
            rcases Nat.lt_or_ge j i with h1 | h1
            · exact hall' j h1
            · have : j = i := by omega
              subst this; exact hri
          · refine .inr ⟨b, rfl, by omega, hbr, fun j hj hjk => ?_⟩
            rcases Nat.lt_or_ge j i with h1 | h1
            · exact hbest j h1 hjk
            · have : j = i := by omega
              subst this; omega
      · have : i = ws.length := by omega
        subst this
        obtain ⟨b, rfl, hb, hbr, hbest⟩ : ∃ b : Nat, best = (b : Int) ∧ b < ws.length ∧ k ≤ rank r b ∧ ∀ j, j < ws.length → k ≤ rank r j → beats r j b = false := by
          rcases hinv with ⟨_, hall'⟩ | hx
          · exfalso
            obtain ⟨e, he, hre⟩ := rank_surj (rs := r) hkn
            have := hall' e (by omega)
            omega
          · exact hx
        clear hinv wi eo
        have hrank : rank r b = k := best_rank hkn (by omega) hbr fun j hj hjk => hbest j (by omega) hjk
        have hqb : q[b]? = some (at_ q b) := by rw [List.getElem?_eq_getElem (by omega), at_some (List.getElem?_eq_getElem (show b < q.length by omega))]
        have hdb : (dealtK q r k)[b]? = some (at_ q b) := by rw [dealtK_get (by omega), hrank]; simp
        have hqc : at_ q b ≤ c := by
          have := mem_le_sum (List.mem_of_getElem? hqb)
          omega
        have eb : 0 + (b : Int).toNat * 1 = b := by simp
        have ew1 : IntKind.i64.wrap ((at_ q b : Int) + 1) = ((at_ q b + 1 : Nat) : Int) := by rw [w64] <;> omega
        have ew2 : IntKind.i64.wrap (((c - q.sum - k : Nat) : Int) - 1) = ((c - q.sum - (k + 1) : Nat) : Int) := by rw [w64] <;> omega
        have o5 := o4.perm (p1 _ _ _)
        rw [eb, ew2]
        refine ⟨⟨by omega, by omega⟩, _, read_cell (o5.block List.mem_cons_self).1 (nats_get hdb), ⟨by omega, by omega⟩, storeK_one (o5.block List.mem_cons_self).1 (by rw [nats_length, dealtK_length]; omega) ⟨⟨by omega, by omega⟩, ?_⟩⟩
        rw [ew1, nats_set, dealtK_step (by omega) (by omega) hrank]
        have o6 := (o5.change (n' := ws.length) (sz' := 1) (cs' := nats (dealtK q r (k + 1))) (by rw [nats_length, dealtK_length]; omega)).perm (p1 _ _ _)
        refine storeK_one (o6.block List.mem_cons_self).1 (by rw [bools_length, givenK_length]; omega) ⟨c - q.sum - (k + 1), by omega, k + 1, by omega, rfl, rfl, ?_⟩
        rw [bools_set, givenK_step (by omega) hrank]
        exact o6.change (by rw [bools_length, givenK_length]; omega)
    · have hk2 : k = c - q.sum := by omega
      subst hk2
      refine hQ _ _ o4.ext ?_ (o4.new_ (sz := 1) (cs := nats (dealtK q r (c - q.sum))) (by simp))
      have := o4.at_ (sz := 1) (s := ⟨some (i7, 0), ws.length⟩) (cs := nats (dealtK q r (c - q.sum))) (by simp)
      unfold shared
      rw [hall, hq, hr]
      exact this
end
end Go.Proofs.YtfemminjhecocaaGreatDoorVc
