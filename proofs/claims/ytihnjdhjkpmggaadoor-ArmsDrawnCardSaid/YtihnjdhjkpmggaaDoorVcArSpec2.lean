/- Contracts of what ArmsDrawn reaches: the keys of each arm, both sides. -/
import Derived.Test.YtihnjdhjkpmggaaDoorVcArSpec1
set_option linter.unusedSimpArgs false
set_option linter.unusedVariables false
namespace Go.Proofs.YtihnjdhjkpmggaaDoorVc
open Go.Proofs.Tryd (prog)

/-- Slices of keys, each with its own block. -/
abbrev owP (ps : List (Sl × List ByteArray)) : List Ow := ps.map fun p => (1, p.1, strs p.2)
abbrev slP (ps : List (Sl × List ByteArray)) : List Cell := ps.map fun p => .slice 1 p.1
theorem strs_length (l : List ByteArray) : (strs l).length = l.length := by simp [strs]
theorem strs_get {xs : List ByteArray} {i : Nat} {x : ByteArray} (h : xs[i]? = some x) : (strs xs)[i]? = some (.str x) := by unfold strs; rw [List.getElem?_map, h]; rfl
theorem slCells_one (k : Kd) (n : Nat) : slCells (.one k) n = List.replicate n k.zero := by
  unfold slCells
  simp
theorem Owns.nones {h0 h : Heap} {L : List Ow} (o : Owns h0 h L) : ∀ n : Nat, Owns h0 h (owP (List.replicate n (⟨none, 0⟩, [])) ++ L)
  | 0 => o
  | n + 1 => by
    rw [List.replicate_succ]
    exact (Owns.nones o n).none_ 1

section
variable {I : Calls} {Q : Post} {h : Heap}

theorem armPut {base : Heap} {b n a : Nat} {ps : List (Sl × List ByteArray)} {l : Sl} {g : List ByteArray} {k : ByteArray} {K : T}
    (o : Owns base h ((1, ⟨some (b, 0), n⟩, slP ps) :: owP ps)) (hp : ps[a]? = some (l, g)) (hn : ps.length = n) (hg : g.length < 1000000)
    (hK : ∀ l' h', Owns base h' ((1, ⟨some (b, 0), n⟩, slP (ps.set a (l', g ++ [k]))) :: owP (ps.set a (l', g ++ [k]))) → K h') :
    ((0 ≤ (a : Int)) ∧ (a : Int) < ((n : Nat) : Int)) ∧ ∃ l39 : Sl, (h.read b (0 + (a : Int).toNat * 1) 1 = some [Cell.slice 1 l39]) ∧
      (appendTo [] 1 16 l39 1 [Cell.str k] (fun l40 h41 => ((0 ≤ (a : Int)) ∧ (a : Int) < ((n : Nat) : Int)) ∧ (storeK [] b (0 + (a : Int).toNat * 1) [Cell.slice 1 l40] K) h41) h) := by
  have ha : a < ps.length := (List.getElem?_eq_some_iff.1 hp).1
  have hsplit : ps = ps.take a ++ (l, g) :: ps.drop (a + 1) := by
    obtain ⟨h1, h2⟩ := List.getElem?_eq_some_iff.1 hp
    rw [← h2, ← List.drop_eq_getElem_cons h1, List.take_append_drop]
  have hset : ∀ x, ps.set a x = ps.take a ++ x :: ps.drop (a + 1) := fun x => by rw [List.set_eq_take_append_cons_drop, if_pos ha]
  refine ⟨⟨by omega, by omega⟩, l, ?_, ?_⟩
  · rw [Int.toNat_natCast, Nat.mul_one, Nat.zero_add]
    refine read_cell (o.block List.mem_cons_self).1 ?_
    rw [List.getElem?_map, hp]; rfl
  have hll : l.len = g.length := by
    have := o.slen (s := l) (cs := strs g) (by
      refine List.mem_cons_of_mem _ ?_
      exact List.mem_map.2 ⟨(l, g), List.mem_of_getElem? hp, rfl⟩)
    rwa [strs_length] at this
  have o1 : Owns base h ((1, l, strs g) :: (1, ⟨some (b, 0), n⟩, slP ps) :: (owP (ps.take a) ++ owP (ps.drop (a + 1)))) := by
    refine o.perm ?_
    refine List.Perm.trans (List.Perm.cons _ ?_) (List.Perm.swap _ _ _)
    conv => lhs; rw [hsplit]
    rw [owP, List.map_append, List.map_cons]
    exact List.perm_middle
  refine appendTo_owns (m := 0) o1 (by rfl) (by omega) (by simp) fun j h2 o2 => ⟨⟨by omega, by omega⟩, ?_⟩
  rw [Int.toNat_natCast, Nat.mul_one, Nat.zero_add]
  have o3 := o2.perm (List.Perm.swap _ _ _)
  refine storeK_one (o3.block List.mem_cons_self).1 (by simp; omega) ?_
  have ec : (slP ps).set a (.slice 1 ⟨some (j, 0), l.len + (0 + 1)⟩) = slP (ps.set a (⟨some (j, 0), l.len + (0 + 1)⟩, g ++ [k])) := by
    rw [slP, slP, List.map_set]
  rw [ec]
  have o4 := o3.change (n' := n) (sz' := 1) (cs' := slP (ps.set a (⟨some (j, 0), l.len + (0 + 1)⟩, g ++ [k]))) (by simp [hn])
  refine hK ⟨some (j, 0), l.len + (0 + 1)⟩ _ (o4.perm ?_)
  refine List.Perm.cons _ ?_
  rw [hset, owP, owP, owP, List.map_append, List.map_cons]
  have es : strs g ++ [Cell.str k] = strs (g ++ [k]) := by simp [strs]
  rw [← es]
  exact List.perm_middle.symm

/-- What is wrong with what is asked for. -/
def errA (name : ByteArray) (ws : List Int) (hold : Int) (ks : List ByteArray) : Int := if errSp name ws hold ≠ 0 then errSp name ws hold else scanK [] ks

/-- Slices of keys, somewhere. -/
structure Lie (h : Heap) (s : Sl) (gs : List (List ByteArray)) : Prop where
  ex : ∃ ps : List (Sl × List ByteArray), ps.map (·.2) = gs ∧ At h 1 s (slP ps) ∧ ∀ p ∈ ps, At h 1 p.1 (strs p.2)

theorem grp_small {f : ByteArray → Nat} {n : Nat} {ks g : List ByteArray} {a : Nat} (hg : (grp f n ks)[a]? = some g) : g.length ≤ ks.length := by
  have ha : a < n := by
    have := (List.getElem?_eq_some_iff.1 hg).1
    rwa [grp_length] at this
  rw [grp_get _ ha] at hg
  cases hg
  exact List.length_filter_le _ _

/-- A place for each arm. -/
theorem armNew {base : Heap} {b n : Nat} (hn : base b = none) : Owns base (base.set b (.cells false (slCells (VK.one (Kd.slice 1)) n))) ((1, ⟨some (b, 0), n⟩, slP (List.replicate n (⟨none, 0⟩, []))) :: owP (List.replicate n (⟨none, 0⟩, []))) := by
  have o := ((Owns.nil base).nones n).new (i := b) (sz := 1) (n := n) (cs := slP (List.replicate n (⟨none, 0⟩, []))) hn (by simp)
  rw [List.append_nil] at o
  have e : slCells (VK.one (Kd.slice 1)) n = slP (List.replicate n (⟨none, 0⟩, [])) := by
    rw [slCells_one, slP, List.map_replicate]; rfl
  rw [e]
  exact o

theorem armLie {base : Heap} {b n : Nat} {ps : List (Sl × List ByteArray)} {gs : List (List ByteArray)} (o : Owns base h ((1, ⟨some (b, 0), n⟩, slP ps) :: owP ps)) (hg : ps.map (·.2) = gs) : Lie h ⟨some (b, 0), n⟩ gs :=
  ⟨ps, hg, o.at_ List.mem_cons_self, fun p hp => o.at_ (List.mem_cons_of_mem _ (List.mem_map.2 ⟨p, hp, rfl⟩))⟩

theorem spec26 (hI : Closed' prog Pm I) {name : ByteArray} {s t : Sl} {ws : List Int} {hold : Int} {ks : List ByteArray} (hs : At h 1 s (ints ws)) (hlen : ws.length < 1000) (ht : At h 1 t (strs ks)) (hkl : ks.length < 1000)
    (hQe : ∀ h', Ext h h' → errA name ws hold ks ≠ 0 → Q [.one (.slice 1 ⟨none, 0⟩), int (errA name ws hold ks)] h')
    (hQ : errA name ws hold ks = 0 → ∀ s' h', Ext h h' → Lie h' s' (grp (armIx name ws hold) (ws.length + 1) ks) → Q [.one (.slice 1 s'), int 0] h') : I 26 [splitV name s hold, .one (.slice 1 t)] Q h := by
  have hl : s.len = ws.length := by rw [hs.len1, ints_length]
  have hlt : t.len = ks.length := by rw [ht.len1, strs_length]
  have en : IntKind.i64.wrap (((ws.length : Nat) : Int) + 1) = ((ws.length + 1 : Nat) : Int) := by rw [w64] <;> omega
  refine hI.go _ _ (den26 I name s hold t Q) ?_
  unfold vc26
  rw [hl, hlt, en, Int.toNat_natCast]
  refine spec22 hI hs (by omega) ⟨_, rfl, ifT_intro (fun h1 => ?_) fun h1 => ifT_dec (fun h => by omega) fun _ => ?_⟩
  · have h1 := nd h1
    have e : errA name ws hold ks = errSp name ws hold := by unfold errA; rw [if_pos h1]
    have := hQe h (Ext.refl _) (by rw [e]; exact h1)
    rwa [e] at this
  have h0 : errSp name ws hold = 0 := Decidable.of_not_not (nd' h1)
  have e0 : errA name ws hold ks = scanK [] ks := by unfold errA; rw [if_neg (by simpa using h0)]
  obtain ⟨hk1, hk2, hk3⟩ := errSp_zero h0
  have hnsz := isKey_size hk1
  refine newK_intro fun i9 h2 hn2 he2 => ?_
  refine loopK_intro (fun (a : Int) h' m => ∃ i : Nat, i ≤ ks.length ∧ a = i ∧ ks.length - i = m ∧ h' = h.set i9 (.map (seen (ks.take i))) ∧ scanK [] ks = scanK (ks.take i) (ks.drop i)) ks.length
    ⟨0, by omega, rfl, rfl, by rw [he2]; rfl, rfl⟩ ?_
  rintro a h' m ⟨i, hi, rfl, rfl, rfl, hsc⟩
  have x' : Ext h (h.set i9 (.map (seen (ks.take i)))) := Ext.new hn2
  have hm := mapOf_some (set_eq h i9 (.map (seen (ks.take i))))
  refine ifT_dec (fun hlt => ⟨⟨by omega, by omega⟩, ?_⟩) fun hge => ?_
  · obtain ⟨x, hx⟩ : ∃ x, ks[i]? = some x := ⟨_, List.getElem?_eq_getElem (show i < ks.length by omega)⟩
    rw [scanK_step hx] at hsc
    have bad : ∀ e, e ≠ 0 → scanK [] ks = e → Q [.one (.slice 1 ⟨none, 0⟩), int e] (h.set i9 (.map (seen (ks.take i)))) := fun e he h3 => by
      have := hQe _ x' (by rw [e0, h3]; exact he)
      rwa [e0, h3] at this
    refine (x'.at_ ht).cell (strs_get hx) fun bb o hr => ⟨x, hr, ?_⟩
    refine spec43 hI ⟨_, rfl, ifT_intro (fun h1 => bad 5 (by decide) (by rw [hsc, if_pos (nb h1)])) fun h1 => ?_⟩
    rw [if_neg (by rw [nb' h1]; simp)] at hsc
    refine ⟨_, _, ⟨_, hm, seen_get x _⟩, ifT_intro (fun h2 => bad 6 (by decide) (by rw [hsc, if_pos h2])) fun h2 => ?_⟩
    rw [if_neg (by rw [h2]; simp)] at hsc
    refine mapK_intro (set_eq _ _ _) (seen_set x _ h2) ⟨ks.length - (i + 1), by omega, i + 1, by omega, by rw [w64] <;> omega, rfl, ?_, hsc⟩
    rw [set_set, take_snoc hx]
  · have : i = ks.length := by omega
    subst this
    rw [List.drop_length] at hsc
    have e : errA name ws hold ks = 0 := by rw [e0, hsc]; rfl
    have hkeys := scanK_keys ks [] (by rw [hsc]; rfl)
    refine ⟨rfl, by omega, by omega, by omega, newK_intro fun i26 h3 hn3 he3 => ?_⟩
    have o0 := armNew (n := ws.length + 1) hn3
    rw [← he3] at o0
    obtain ⟨base, hbase⟩ : ∃ base, base = h.set i9 (.map (seen (ks.take ks.length))) := ⟨_, rfl⟩
    rw [← hbase] at o0 x'
    refine loopK_intro (fun (a : Int) h' m => ∃ i : Nat, i ≤ ks.length ∧ a = i ∧ ks.length - i = m ∧ ∃ ps : List (Sl × List ByteArray), ps.map (·.2) = grp (armIx name ws hold) (ws.length + 1) (ks.take i) ∧ Owns base h' ((1, ⟨some (i26, 0), ws.length + 1⟩, slP ps) :: owP ps)) ks.length
      ⟨0, by omega, rfl, rfl, List.replicate (ws.length + 1) (⟨none, 0⟩, []), by rw [List.map_replicate, List.take_zero, grp_nil], o0⟩ ?_
    rintro a h' m ⟨i, hi, rfl, rfl, ps, hps, o⟩
    have x4 := x'.trans o.ext
    refine ifT_dec (fun hlt => ⟨⟨by omega, by omega⟩, ?_⟩) fun hge => ?_
    · obtain ⟨x, hx⟩ : ∃ x, ks[i]? = some x := ⟨_, List.getElem?_eq_getElem (show i < ks.length by omega)⟩
      have hxk := isKey_size (hkeys x (List.mem_of_getElem? hx))
      refine (x4.at_ ht).cell (strs_get hx) fun bb o' hr => ⟨x, hr, ?_⟩
      refine spec61 hI (x4.at_ hs) (by omega) (by omega) (by omega) hk3 fun h5 x5 => ⟨_, rfl, ?_⟩
      refine joinK_intro (fun (n : Int) h'' => h'' = h5 ∧ n = ((armIx name ws hold x : Nat) : Int)) ?_ fun j hj => ifT_dec (fun h6 => hj _ _ ⟨rfl, by unfold armIx; rw [if_pos h6]⟩) fun h6 => hj _ _ ⟨rfl, by unfold armIx; rw [if_neg h6]; omega⟩
      rintro n h'' ⟨rfl, rfl⟩
      have o5 := o.mono x5
      have ha := armIx_le name ws hold x
      have hpl : ps.length = ws.length + 1 := by have := congrArg List.length hps; simpa [grp] using this
      obtain ⟨⟨l, g⟩, hp⟩ : ∃ p, ps[armIx name ws hold x]? = some p := ⟨_, List.getElem?_eq_getElem (by omega)⟩
      have hgg : (grp (armIx name ws hold) (ws.length + 1) (ks.take i))[armIx name ws hold x]? = some g := by rw [← hps, List.getElem?_map, hp]; rfl
      have hgl := grp_small hgg
      rw [List.length_take] at hgl
      refine armPut o5 hp hpl (by omega) fun l' h7 o7 => ⟨ks.length - (i + 1), by omega, i + 1, by omega, by rw [w64] <;> omega, rfl, _, ?_, o7⟩
      rw [List.map_set, hps, take_snoc hx, grp_step ha hgg]
    · have : i = ks.length := by omega
      subst this
      rw [List.take_length] at hps
      exact hQ e _ _ x4 (armLie o hps)

/-- Is a string among others? -/
theorem spec63 (hI : Closed' prog Pm I) {s : Sl} {xs : List ByteArray} {x : ByteArray} (hs : At h 1 s (strs xs)) (hlen : xs.length < 1000000) (hQ : Q [boo (xs.any fun y => decide (y = x))] h) : I 63 [.one (.slice 1 s), str x] Q h := by
  have hl : s.len = xs.length := by rw [hs.len1, strs_length]
  refine hI.go _ _ (den63 I s x Q) ?_
  refine hI.go _ _ (den89 I s x _) ?_
  refine loopK_intro (fun (a : Int) h' m => h' = h ∧ ∃ j : Nat, j ≤ xs.length ∧ a = j ∧ xs.length - j = m ∧ ((xs.take j).any fun y => decide (y = x)) = false) xs.length ⟨rfl, 0, by omega, rfl, rfl, rfl⟩ ?_
  rintro a h' m ⟨rfl, j, hj, rfl, rfl, hno⟩
  refine ifT_dec (fun hlt => ⟨⟨by omega, hlt⟩, ?_⟩) (fun hge => ?_)
  · obtain ⟨y, hy⟩ : ∃ y, xs[j]? = some y := ⟨_, List.getElem?_eq_getElem (show j < xs.length by omega)⟩
    refine hs.cell (strs_get hy) fun bb o hr => ⟨y, hr, ifT_dec (fun h1 => ⟨_, rfl, ?_⟩) fun h1 => ?_⟩
    · have e : (xs.any fun y => decide (y = x)) = true := List.any_eq_true.2 ⟨y, List.mem_of_getElem? hy, by simp [h1]⟩
      rw [e] at hQ
      have e2 : decide ((j : Int) ≥ 0) = true := by simp
      rw [e2]; exact hQ
    · refine ⟨xs.length - (j + 1), by omega, rfl, j + 1, by omega, by rw [w64] <;> omega, rfl, ?_⟩
      have h1' : ¬ y = x := fun e => h1 e.symm
      rw [any_take_step hy, hno]; simp [h1']
  · have : j = xs.length := by omega
    subst this
    rw [List.take_length] at hno
    rw [hno] at hQ
    exact ⟨_, rfl, hQ⟩

theorem spec27 (hI : Closed' prog Pm I) {name : ByteArray} {s t : Sl} {ws : List Int} {hold : Int} {ks : List ByteArray} (hs : At h 1 s (ints ws)) (hlen : ws.length < 1000) (ht : At h 1 t (strs ks)) (hkl : ks.length < 1000)
    (hQe : ∀ h', Ext h h' → errA name ws hold ks ≠ 0 → Q [.one (.slice 1 ⟨none, 0⟩), int (errA name ws hold ks)] h')
    (hQ : errA name ws hold ks = 0 → ∀ s' h', Ext h h' → Lie h' s' (grp (armIx name ws hold) (ws.length + 1) ks) → Q [.one (.slice 1 s'), int 0] h') : I 27 [splitV name s hold, .one (.slice 1 t)] Q h := by
  have hl : s.len = ws.length := by rw [hs.len1, ints_length]
  have hlt : t.len = ks.length := by rw [ht.len1, strs_length]
  have en : IntKind.i64.wrap (((ws.length : Nat) : Int) + 1) = ((ws.length + 1 : Nat) : Int) := by rw [w64] <;> omega
  refine hI.go _ _ (den27 I name s hold t Q) ?_
  unfold vc27
  rw [hl, hlt, en, Int.toNat_natCast]
  refine spec21 hI hs (by omega) fun h2 x2 => ⟨_, rfl, ifT_intro (fun h1 => ?_) fun h1 => ifT_dec (fun h => by omega) fun _ => ?_⟩
  · have h1 := nd h1
    have e : errA name ws hold ks = errSp name ws hold := by unfold errA; rw [if_pos h1]
    have := hQe h2 x2 (by rw [e]; exact h1)
    rwa [e] at this
  have h0 : errSp name ws hold = 0 := Decidable.of_not_not (nd' h1)
  have e0 : errA name ws hold ks = scanK [] ks := by unfold errA; rw [if_neg (by simpa using h0)]
  obtain ⟨hk1, hk2, hk3⟩ := errSp_zero h0
  have hnsz := isKey_size hk1
  refine ⟨rfl, by omega, by omega, by omega, newK_intro fun i26 h3 hn3 he3 => ?_⟩
  have o0 := armNew (n := ws.length + 1) hn3
  rw [← he3] at o0
  refine loopK_intro (fun (a : Int) h' m => ∃ i : Nat, i ≤ ks.length ∧ a = i ∧ ks.length - i = m ∧ scanK [] ks = scanK (ks.take i) (ks.drop i) ∧ ∃ ps : List (Sl × List ByteArray), ps.map (·.2) = grp (armIx name ws hold) (ws.length + 1) (ks.take i) ∧ Owns h2 h' ((1, ⟨some (i26, 0), ws.length + 1⟩, slP ps) :: owP ps)) ks.length
    ⟨0, by omega, rfl, rfl, rfl, List.replicate (ws.length + 1) (⟨none, 0⟩, []), by rw [List.map_replicate, List.take_zero, grp_nil], o0⟩ ?_
  rintro a h' m ⟨i, hi, rfl, rfl, hsc, ps, hps, o⟩
  have x4 := x2.trans o.ext
  refine ifT_dec (fun hlt => ⟨⟨by omega, by omega⟩, ?_⟩) fun hge => ?_
  · obtain ⟨x, hx⟩ : ∃ x, ks[i]? = some x := ⟨_, List.getElem?_eq_getElem (show i < ks.length by omega)⟩
    rw [scanK_step hx] at hsc
    have bad : ∀ e h'', e ≠ 0 → Ext h h'' → scanK [] ks = e → Q [.one (.slice 1 ⟨none, 0⟩), int e] h'' := fun e h'' he hx h3 => by
      have := hQe _ hx (by rw [e0, h3]; exact he)
      rwa [e0, h3] at this
    refine (x4.at_ ht).cell (strs_get hx) fun bb o' hr => ⟨x, hr, ?_⟩
    refine spec45 hI fun h5 x5 => ⟨_, rfl, ifT_intro (fun h1 => bad 5 _ (by decide) (x4.trans x5) (by rw [hsc, if_pos (nb h1)])) fun h1 => ?_⟩
    rw [if_neg (by rw [nb' h1]; simp)] at hsc
    have hxk := isKey_size (nb' h1)
    have hsub : At h5 1 (t.sub 1 0 i) (strs (ks.take i)) := by
      have := At.sub ((x4.trans x5).at_ ht) 0 i (by omega) (by omega)
      rw [Nat.zero_mul, List.drop_zero, Nat.sub_zero, Nat.mul_one] at this
      have e : (strs ks).take i = strs (ks.take i) := by unfold strs; rw [List.map_take]
      rwa [e] at this
    refine ⟨⟨by decide, by omega, by omega⟩, ?_⟩
    rw [Int.toNat_natCast]
    refine spec63 hI hsub (by rw [List.length_take]; omega) ⟨_, rfl, ifT_intro (fun h2 => bad 6 _ (by decide) (x4.trans x5) (by rw [hsc, if_pos h2])) fun h2 => ?_⟩
    rw [if_neg (by rw [h2]; simp)] at hsc
    refine spec25 hI ((x4.trans x5).at_ hs) (by omega) (by omega) (by omega) hk3 ⟨_, rfl, ?_⟩
    refine joinK_intro (fun (n : Int) h'' => h'' = h5 ∧ n = ((armIx name ws hold x : Nat) : Int)) ?_ fun j hj => ifT_dec (fun h6 => hj _ _ ⟨rfl, by unfold armIx; rw [if_pos h6]⟩) fun h6 => hj _ _ ⟨rfl, by unfold armIx; rw [if_neg h6]; omega⟩
    rintro n h'' ⟨rfl, rfl⟩
    have o5 := o.mono x5
    have ha := armIx_le name ws hold x
    have hpl : ps.length = ws.length + 1 := by have := congrArg List.length hps; simpa [grp] using this
    obtain ⟨⟨l, g⟩, hp⟩ : ∃ p, ps[armIx name ws hold x]? = some p := ⟨_, List.getElem?_eq_getElem (by omega)⟩
    have hgg : (grp (armIx name ws hold) (ws.length + 1) (ks.take i))[armIx name ws hold x]? = some g := by rw [← hps, List.getElem?_map, hp]; rfl
    have hgl := grp_small hgg
    rw [List.length_take] at hgl
    refine armPut o5 hp hpl (by omega) fun l' h7 o7 => ⟨ks.length - (i + 1), by omega, i + 1, by omega, by rw [w64] <;> omega, rfl, hsc, _, ?_, o7⟩
    rw [List.map_set, hps, take_snoc hx, grp_step ha hgg]
  · have : i = ks.length := by omega
    subst this
    rw [List.take_length] at hps
    rw [List.drop_length] at hsc
    have e : errA name ws hold ks = 0 := by rw [e0, hsc]; rfl
    exact hQ e _ _ x4 (armLie o hps)

/-! ### the same keys -/
theorem spec29 (hI : Closed' prog Pm I) {s t : Sl} {zs : List ByteArray} (hs : At h 1 s (strs zs)) (ht : At h 1 t (strs zs)) (hlen : zs.length < 1000000) (hQ : Q [boo true] h) : I 29 [.one (.slice 1 s), .one (.slice 1 t)] Q h := by
  have h1 : s.len = zs.length := by rw [hs.len1, strs_length]
  have h2 : t.len = zs.length := by rw [ht.len1, strs_length]
  refine hI.go _ _ (den29 I s t Q) ?_
  refine ifT_intro (fun h => by rw [h1, h2] at h; simp at h) fun _ => ?_
  refine loopK_intro (fun (a : Int) h' m => h' = h ∧ ∃ i : Nat, i ≤ zs.length ∧ a = i ∧ zs.length - i = m) zs.length ⟨rfl, 0, by omega, rfl, rfl⟩ ?_
  rintro a h' m ⟨rfl, i, hi, rfl, rfl⟩
  refine ifT_dec (fun hlt => ⟨⟨by omega, hlt⟩, ?_⟩) (fun hge => hQ)
  have hx := List.getElem?_eq_getElem (show i < zs.length by omega)
  refine hs.cell (strs_get hx) fun b o hr => ⟨_, hr, ⟨by omega, by omega⟩, ht.cell (strs_get hx) fun b o hr => ⟨_, hr, ifT_intro (fun h => by simp at h) fun _ => ⟨zs.length - (i + 1), by omega, rfl, i + 1, by omega, ?_, rfl⟩⟩⟩
  rw [w64] <;> omega
theorem spec28 (hI : Closed' prog Pm I) {s t : Sl} {gs : List (List ByteArray)} (hs : Lie h s gs) (ht : Lie h t gs) (hlen : gs.length < 1000000) (hg : ∀ g ∈ gs, g.length < 1000000) (hQ : Q [boo true] h) : I 28 [.one (.slice 1 s), .one (.slice 1 t), .one (.func (some (29, [])))] Q h := by
  obtain ⟨ps, hps, ap, hps2⟩ := hs
  obtain ⟨qs, hqs, aq, hqs2⟩ := ht
  have h1 : s.len = gs.length := by rw [ap.len1, ← hps]; simp
  have h2 : t.len = gs.length := by rw [aq.len1, ← hqs]; simp
  refine hI.go _ _ (den28 I s t _ Q) ?_
  refine ifT_intro (fun h => by rw [h1, h2] at h; simp at h) fun _ => ?_
  refine loopK_intro (fun (a : Int) h' m => h' = h ∧ ∃ i : Nat, i ≤ gs.length ∧ a = i ∧ gs.length - i = m) gs.length ⟨rfl, 0, by omega, rfl, rfl⟩ ?_
  rintro a h' m ⟨rfl, i, hi, rfl, rfl⟩
  refine ifT_dec (fun hlt => ⟨⟨by omega, hlt⟩, ?_⟩) (fun hge => hQ)
  have hpl : ps.length = gs.length := by rw [← hps]; simp
  have hql : qs.length = gs.length := by rw [← hqs]; simp
  obtain ⟨g, hgi⟩ : ∃ g, gs[i]? = some g := ⟨_, List.getElem?_eq_getElem (show i < gs.length by omega)⟩
  obtain ⟨⟨l, g1⟩, hp⟩ : ∃ p, ps[i]? = some p := ⟨_, List.getElem?_eq_getElem (show i < ps.length by omega)⟩
  obtain ⟨⟨l2, g2⟩, hq⟩ : ∃ p, qs[i]? = some p := ⟨_, List.getElem?_eq_getElem (show i < qs.length by omega)⟩
  have e1 : g1 = g := by rw [← hps, List.getElem?_map, hp] at hgi; simpa using hgi
  have e2 : g2 = g := by rw [← hqs, List.getElem?_map, hq] at hgi; simpa using hgi
  subst e1; subst e2
  refine ap.cell (c := .slice 1 l) (by rw [List.getElem?_map, hp]; rfl) fun b o hr => ⟨l, hr, ⟨by omega, by omega⟩, aq.cell (c := .slice 1 l2) (by rw [List.getElem?_map, hq]; rfl) fun b o hr => ⟨l2, hr, ?_⟩⟩
  refine spec29 hI (hps2 _ (List.mem_of_getElem? hp)) (hqs2 _ (List.mem_of_getElem? hq)) (hg _ (List.mem_of_getElem? hgi)) ⟨_, rfl, ifT_intro (fun h => by cases h) fun _ => ⟨gs.length - (i + 1), by omega, rfl, i + 1, by omega, ?_, rfl⟩⟩
  rw [w64] <;> omega

theorem Lie.ext {h' : Heap} {s : Sl} {gs : List (List ByteArray)} (l : Lie h s gs) (x : Ext h h') : Lie h' s gs := by
  obtain ⟨ps, h1, h2, h3⟩ := l.ex
  exact ⟨ps, h1, x.at_ h2, fun p hp => x.at_ (h3 p hp)⟩
theorem Lie.nil : Lie h ⟨none, 0⟩ [] := ⟨[], rfl, ⟨rfl, .inl rfl⟩, by simp⟩

end
end Go.Proofs.YtihnjdhjkpmggaaDoorVc
