/- Contracts of what PursesHold reaches: a purse. -/
import Derived.Test.YtihnjdhjkpmggaaDoorVcPuSpec1
set_option linter.unusedSimpArgs false
set_option linter.unusedVariables false
namespace Go.Proofs.YtihnjdhjkpmggaaDoorVc
open Go.Proofs.Tryd (prog)

theorem Owns.slg {h0 h' : Heap} {L : List Ow} {sz : Nat} {s : Sl} {cs : List Cell} (o : Owns h0 h' L) (hm : (sz, s, cs) ∈ L) : h'.sl sz s = some cs := by
  obtain ⟨h1, h2 | ⟨k, h2, _, h3⟩⟩ := o.all _ hm
  · simp only at h2; unfold Heap.sl; rw [h2.1, h2.2]
  · simp only at h1 h2 h3
    unfold Heap.sl
    rw [h2]
    show h'.read k 0 (s.len * sz) = _
    rw [read_block h3 (by omega), h1, List.drop_zero, List.take_length]
theorem Owns.rot {h0 h : Heap} {a b c : Ow} {L : List Ow} (o : Owns h0 h (a :: b :: c :: L)) : Owns h0 h (b :: c :: a :: L) := o.perm ((List.Perm.swap b a _).trans ((List.Perm.swap c a L).cons b))
theorem Owns.rot' {h0 h : Heap} {a b c : Ow} {L : List Ow} (o : Owns h0 h (b :: c :: a :: L)) : Owns h0 h (a :: b :: c :: L) := o.perm (((List.Perm.swap a c L).cons b).trans (List.Perm.swap a b _))
theorem Owns.swp {h0 h : Heap} {a b : Ow} {L : List Ow} (o : Owns h0 h (a :: b :: L)) : Owns h0 h (b :: a :: L) := o.perm (List.Perm.swap _ _ _)
theorem mapSet_get {α : Type} {f : α → α} {xs : List α} {i : Nat} {x : α} (hx : xs[i]? = some x) : ((xs.take i).map f ++ xs.drop i)[i]? = some x := by
  obtain ⟨hi, rfl⟩ := List.getElem?_eq_some_iff.1 hx
  have hl : ((xs.take i).map f).length = i := by simp; omega
  rw [List.getElem?_append_right (by omega), hl, Nat.sub_self, List.drop_eq_getElem_cons hi]; rfl
theorem mapSet_step {α : Type} {f : α → α} {xs : List α} {i : Nat} {x : α} (hx : xs[i]? = some x) : ((xs.take i).map f ++ xs.drop i).set i (f x) = (xs.take (i + 1)).map f ++ xs.drop (i + 1) := by
  have h2 : xs.take (i + 1) = xs.take i ++ [x] := by rw [List.take_add_one, hx]; rfl
  obtain ⟨hi, rfl⟩ := List.getElem?_eq_some_iff.1 hx
  have hl : ((xs.take i).map f).length = i := by simp; omega
  rw [List.set_append, if_neg (by omega), hl, Nat.sub_self, List.drop_eq_getElem_cons hi, List.set_cons_zero, h2]
  simp only [List.map_append, List.map_cons, List.map_nil, List.append_assoc, List.cons_append, List.nil_append]

section
variable {I : Calls} {Q : Post} {h h0 : Heap}

theorem spec65 (hI : Closed' prog Pm I) {s : Sl} {xs : List Bud} {L : List Ow} (o : Owns h0 h L) (hm : (5, s, rows budC xs) ∈ L) (hlen : xs.length < 10000) (hQ : ∀ s' h', Owns h0 h' ((5, s', rows budC xs) :: L) → Q [.one (.slice 5 s')] h') : I 65 [.one (.slice 5 s)] Q h := by
  refine hI.go _ _ (den65 I s Q) ?_
  have hsl := o.slg hm
  have hl := (o.at_ hm).rowsLen budC_length (by decide)
  refine ifT_intro (fun h1 => ?_) fun h1 => ⟨_, hsl, by omega, newK_intro fun i3 h4 hn4 he4 => ?_⟩
  · have ha : s.a = none := by simpa using h1
    have e : rows budC xs = [] := by
      unfold Heap.sl at hsl
      rw [ha] at hsl
      simpa using hsl.symm
    have := o.none_ 5
    rw [← e] at this
    exact hQ _ _ this
  · subst he4
    exact hQ _ _ (o.new hn4 (by rw [rows_length budC_length, hl]))
theorem spec77 (hI : Closed' prog Pm I) {s : Sl} {xs : List Hld} {L : List Ow} (o : Owns h0 h L) (hm : (6, s, rows hldC xs) ∈ L) (hlen : xs.length < 10000) (hQ : ∀ s' h', Owns h0 h' ((6, s', rows hldC xs) :: L) → Q [.one (.slice 6 s')] h') : I 77 [.one (.slice 6 s)] Q h := by
  refine hI.go _ _ (den77 I s Q) ?_
  have hsl := o.slg hm
  have hl := (o.at_ hm).rowsLen hldC_length (by decide)
  refine ifT_intro (fun h1 => ?_) fun h1 => ⟨_, hsl, by omega, newK_intro fun i3 h4 hn4 he4 => ?_⟩
  · have ha : s.a = none := by simpa using h1
    have e : rows hldC xs = [] := by
      unfold Heap.sl at hsl
      rw [ha] at hsl
      simpa using hsl.symm
    have := o.none_ 6
    rw [← e] at this
    exact hQ _ _ this
  · subst he4
    exact hQ _ _ (o.new hn4 (by rw [rows_length hldC_length, hl]))

/-- A purse's own block. -/
abbrev owP (p : Nat) (sb sh : Sl) (now : Int) : Ow := (3, ⟨some (p, 0), 1⟩, [.slice 5 sb, .slice 6 sh, .int .i64 now])
theorem spec31 (hI : Closed' prog Pm I) {s : Sl} {xs : List Bud} {L : List Ow} (o : Owns h0 h L) (hm : (5, s, rows budC xs) ∈ L) (hlen : xs.length ≤ 50)
    (hQe : errB xs ≠ 0 → ∀ h', Owns h0 h' L → Q [.one (.ptr none), int (errB xs)] h')
    (hQ : errB xs = 0 → ∀ p sb h', Owns h0 h' (owP p sb ⟨none, 0⟩ 0 :: (6, ⟨none, 0⟩, rows hldC []) :: (5, sb, rows budC xs) :: L) → Q [.one (.ptr (some (p, 0))), int 0] h') : I 31 [.one (.slice 5 s)] Q h := by
  refine hI.go _ _ (den31 I s Q) ?_
  refine spec64 hI (o.at_ hm) hlen fun h1 x1 => ⟨_, rfl, ifT_intro (fun h2 => hQe (nd h2) _ (o.mono x1)) fun h2 => ?_⟩
  refine spec65 hI (o.mono x1) hm (by omega) fun sb h3 o3 => ⟨sb, rfl, newK_intro fun i9 h9 hn9 he9 => ?_⟩
  subst he9
  exact hQ (Decidable.of_not_not (nd' h2)) i9 sb _ ((o3.new hn9 rfl).none_ 6).swp

/-- The holds, as they are now. -/
theorem spec38 (hI : Closed' prog Pm I) {p : Nat} {sb sh : Sl} {now : Int} {hs : List Hld} {L : List Ow} (o : Owns h0 h L) (hp : owP p sb sh now ∈ L) (hh : (6, sh, rows hldC hs) ∈ L) (hlen : hs.length ≤ 2000)
    (hQ : ∀ s' h', Owns h0 h' ((6, s', rows hldC (hs.map fun x => { x with state := stateAt x now })) :: L) → Q [.one (.slice 6 s')] h') : I 38 [.one (.ptr (some (p, 0)))] Q h := by
  refine hI.go _ _ (den38 I _ Q) ?_
  refine derefK_intro rfl ⟨sh, read_cell (o.block hp).1 rfl, spec77 hI o hh (by omega) fun l7 h6 o6 => ⟨l7, rfl, ?_⟩⟩
  have hl7 : l7.len = hs.length := (o6.at_ List.mem_cons_self).rowsLen hldC_length (by decide)
  refine loopK_intro (fun (a : Int) h' m => ∃ i : Nat, i ≤ hs.length ∧ a = i ∧ hs.length - i = m ∧ Owns h0 h' ((6, l7, rows hldC ((hs.take i).map (fun x : Hld => { x with state := stateAt x now }) ++ hs.drop i)) :: L)) hs.length
    ⟨0, by omega, rfl, rfl, by simpa using o6⟩ ?_
  rintro a h' m ⟨i, hi, rfl, rfl, o⟩
  refine ifT_dec (fun hlt => ⟨⟨by omega, hlt⟩, ?_⟩) (fun hge => ?_)
  · have hx := List.getElem?_eq_getElem (show i < hs.length by omega)
    generalize hs[i] = x at hx
    have hy := mapSet_get (f := fun x : Hld => { x with state := stateAt x now }) hx
    have hst := mapSet_step (f := fun x : Hld => { x with state := stateAt x now }) hx
    have hyl : ((hs.take i).map (fun x : Hld => { x with state := stateAt x now }) ++ hs.drop i).length = hs.length := by simp; omega
    generalize (hs.take i).map (fun x : Hld => { x with state := stateAt x now }) ++ hs.drop i = ys at *
    have hrl := rows_length hldC_length ys
    obtain ⟨bl, hbl, _⟩ := o.has (s := l7) (cs := rows hldC ys) (sz := 6) (by simp) (fun e => by rw [e] at hrl; simp at hrl; omega)
    have hla : l7.a = some (bl, 0) := by rw [hbl]
    refine (o.at_ List.mem_cons_self).row hldC_length (by decide) hy fun bb oo hr => ⟨x.no, x.key, x.cents, x.at_, x.until_, x.state, hr, derefK_intro rfl ⟨now, read_cell (o.block (List.mem_cons_of_mem _ hp)).1 rfl, spec78 hI ⟨_, rfl, ⟨by omega, by omega⟩, derefK_intro hla ?_⟩⟩⟩
    rw [hbl] at o
    rw [Int.toNat_natCast, Nat.zero_add]
    refine storeK_one (o.block List.mem_cons_self).1 (by rw [hrl]; omega) ?_
    rw [rows_set (b := { x with state := stateAt x now }) hldC_length hy (by decide) rfl, hst]
    have o2 := o.change (n' := l7.len) (sz' := 6) (cs' := rows hldC ((hs.take (i + 1)).map (fun x : Hld => { x with state := stateAt x now }) ++ hs.drop (i + 1))) (by rw [rows_length hldC_length]; simp; omega)
    rw [← hbl] at o2
    exact ⟨hs.length - (i + 1), by omega, i + 1, by omega, by rw [w64] <;> omega, rfl, o2⟩
  · have : i = hs.length := by omega
    subst this
    refine hQ _ _ ?_
    simpa using o

theorem spec37 (hI : Closed' prog Pm I) {p : Nat} {sb sh : Sl} {now : Int} {bs : List Bud} {hs : List Hld} {L : List Ow} {key : ByteArray} {cents t u : Int} (o : Owns h0 h (owP p sb sh now :: (6, sh, rows hldC hs) :: L)) (hb : (5, sb, rows budC bs) ∈ L) (hlen : bs.length < 1000)
    (hob : ∀ b ∈ bs, okB b) (hk : ∀ x ∈ hs, okH x) (hlen2 : hs.length ≤ 2000)
    (hQe : errR bs hs now key cents t u ≠ 0 → ∀ h', Owns h0 h' (owP p sb sh now :: (6, sh, rows hldC hs) :: L) → Q [int 0, int (errR bs hs now key cents t u)] h')
    (hQ : errR bs hs now key cents t u = 0 → ∀ sh' h', Owns h0 h' (owP p sb sh' t :: (6, sh', rows hldC (hs ++ [⟨(hs.length : Int) + 1, key, cents, t, u, 1⟩])) :: L) → Q [int ((hs.length : Int) + 1), int 0] h') :
    I 37 [.one (.ptr (some (p, 0))), str key, int cents, int t, int u] Q h := by
  refine hI.go _ _ (den37 I _ key cents t u Q) ?_
  have hl : sh.len = hs.length := (o.at_ (s := sh) (by simp)).rowsLen hldC_length (by decide)
  have hm5 : (5, sb, rows budC bs) ∈ owP p sb sh now :: (6, sh, rows hldC hs) :: L := by simp [hb]
  refine spec72 hI (o.block List.mem_cons_self).1 (o.at_ hm5) hlen (fun h' x' hf => ⟨_, _, _, _, _, _, rfl, ifT_intro (fun _ => ?_) fun h => by cases h⟩) fun b h' x' hf => ⟨_, _, _, _, _, _, rfl, ifT_intro (fun h => by cases h) fun _ => ?_⟩
  · have e : errR bs hs now key cents t u = 8 := by unfold errR; rw [hf]
    have := hQe (by rw [e]; decide) h' (o.mono x')
    rwa [e] at this
  have o' := o.mono x'
  have hc := (o'.block List.mem_cons_self).1
  have eR : errR bs hs now key cents t u = if ¬ (1 ≤ cents ∧ cents ≤ 1000000000000) ∨ ¬ momentP t ∨ ¬ (t + 1 ≤ u ∧ u ≤ 4321440) then 1 else if t < now then 7 else if hs.length ≥ 2000 ∨ taken key t hs + cents > paced b t then 12 else 0 := by unfold errR; rw [hf]
  have bad : ∀ e : Int, errR bs hs now key cents t u = e → e ≠ 0 → Q [int 0, int e] h' := fun e he hne => by
    have := hQe (by rw [he]; exact hne) h' o'
    rwa [he] at this
  refine joinK_intro (fun (x : Bool) h'' => h'' = h' ∧ (x = true ↔ (¬ (1 ≤ cents ∧ cents ≤ 1000000000000) ∨ ¬ momentP t ∨ ¬ (t + 1 ≤ u ∧ u ≤ 4321440)))) ?_ fun j hj => spec73 hI ⟨_, rfl, ifT_intro (fun h1 => hj _ _ ⟨rfl, by simp at h1 ⊢; omega⟩) fun h1 => spec74 hI ⟨_, rfl, ifT_intro (fun h2 => hj _ _ ⟨rfl, by simp at h2 ⊢; omega⟩) fun h2 => spec73 hI ⟨_, rfl, hj _ _ ⟨rfl, ?_⟩⟩⟩⟩
  case refine_2 =>
    have h3 : momentP t := Decidable.of_not_not (nd' h2)
    have h4 : 1 ≤ cents ∧ cents ≤ 1000000000000 := by simp at h1; omega
    rw [w64 (by omega) (by omega)]
    simp
    omega
  rintro x h'' ⟨rfl, hx⟩
  refine ifT_intro (fun h1 => bad 1 (by rw [eR, if_pos (hx.1 h1)]) (by decide)) fun h1 => ?_
  have hnx : ¬ (¬ (1 ≤ cents ∧ cents ≤ 1000000000000) ∨ ¬ momentP t ∨ ¬ (t + 1 ≤ u ∧ u ≤ 4321440)) := fun h => by rw [hx.2 h] at h1; cases h1
  rw [if_neg hnx] at eR
  have hcents : 1 ≤ cents ∧ cents ≤ 1000000000000 := by omega
  have hmt : momentP t := by omega
  refine derefK_intro rfl ⟨now, read_cell hc rfl, ifT_dec (fun h2 => bad 7 (by rw [eR, if_pos h2]) (by decide)) fun h2 => ?_⟩
  rw [if_neg h2] at eR
  have hbb := hob b (findB_mem hf).1
  refine joinK_intro (fun (x : Bool) h1 => h1 = h'' ∧ (x = true ↔ (hs.length ≥ 2000 ∨ taken key t hs + cents > paced b t))) ?_ fun j hj => derefK_intro rfl ⟨sh, read_cell hc rfl, ifT_dec (fun h3 => hj _ _ ⟨rfl, by simp; omega⟩) fun h3 => spec75 hI hc (o'.at_ (by simp)) hk hlen2 ⟨_, rfl, spec76 hI hbb hmt ⟨_, rfl, hj _ _ ⟨rfl, ?_⟩⟩⟩⟩
  case refine_2 =>
    have h4 := taken_bound (key := key) (t := t) hk
    rw [w64 (by omega) (by omega)]
    simp
    omega
  rintro x h1 ⟨rfl, hx⟩
  refine ifT_intro (fun h3 => bad 12 (by rw [eR, if_pos (hx.1 h3)]) (by decide)) fun h3 => ?_
  have hnx2 : ¬ (hs.length ≥ 2000 ∨ taken key t hs + cents > paced b t) := fun h => by rw [hx.2 h] at h3; cases h3
  rw [if_neg hnx2] at eR
  refine derefK_intro rfl (storeK_one hc (by simp) ?_)
  have o2 := o'.change (n' := 1) (sz' := 3) (cs' := [.slice 5 sb, .slice 6 sh, .int .i64 t]) rfl
  show derefK _ _ (h1.set p (.cells false [.slice 5 sb, .slice 6 sh, .int .i64 t]))
  have hc2 := (o2.block List.mem_cons_self).1
  refine derefK_intro rfl ⟨sh, read_cell hc2 rfl, derefK_intro rfl ⟨sh, read_cell hc2 rfl, ?_⟩⟩
  refine appendTo_owns (m := 0) o2.swp (by rfl) (by omega) (by simp) fun bn h8 o8 => ?_
  have o9 := o8.swp
  refine derefK_intro rfl (storeK_one (o9.block List.mem_cons_self).1 (by simp) ?_)
  have ew : IntKind.i64.wrap ((sh.len : Int) + 1) = (hs.length : Int) + 1 := by rw [hl, w64] <;> omega
  have o10 := o9.change (n' := 1) (sz' := 3) (cs' := [.slice 5 sb, .slice 6 ⟨some (bn, 0), sh.len + (0 + 1)⟩, .int .i64 t]) rfl
  rw [ew] at o10 ⊢
  refine hQ eR ⟨some (bn, 0), sh.len + (0 + 1)⟩ _ ?_
  rw [rows_append]
  simpa [rows, hldC] using o10

theorem spec69 (hI : Closed' prog Pm I) {p : Nat} {sb sh : Sl} {now : Int} {hs : List Hld} {L : List Ow} {no t to : Int} {g : FuncId} {may : Int → Bool} (o : Owns h0 h (owP p sb sh now :: (6, sh, rows hldC hs) :: L)) (hlen2 : hs.length ≤ 2000)
    (hg : ∀ n Q' h', Q' [boo (may n)] h' → I g [int n] Q' h')
    (hQe : errT hs now no t may ≠ 0 → Q [int (errT hs now no t may)] h)
    (hQ : errT hs now no t may = 0 → now ≤ t → momentP t → ∀ x, hs[(no - 1).toNat]? = some x → may (stateAt x t) = true → ∀ h', Owns h0 h' (owP p sb sh t :: (6, sh, rows hldC (hs.set (no - 1).toNat { x with state := to })) :: L) → Q [int 0] h') :
    I 69 [.one (.ptr (some (p, 0))), int no, int t, int to, .one (.func (some (g, [])))] Q h := by
  refine hI.go _ _ (den69 I _ no t to _ Q) ?_
  have hl : sh.len = hs.length := (o.at_ (s := sh) (by simp)).rowsLen hldC_length (by decide)
  have hc := (o.block List.mem_cons_self).1
  have bad : ∀ e : Int, errT hs now no t may = e → e ≠ 0 → Q [int e] h := fun e he hne => by
    have := hQe (by rw [he]; exact hne)
    rwa [he] at this
  refine derefK_intro rfl ⟨sh, read_cell hc rfl, spec73 hI ⟨_, rfl, ifT_intro (fun h1 => bad 8 ?_ (by decide)) fun h1 => ?_⟩⟩
  · unfold errT
    have h1 : ¬ (1 ≤ no ∧ no ≤ sh.len) := by simp at h1; omega
    split
    · rfl
    · rename_i x hx
      have := (List.getElem?_eq_some_iff.1 hx).1
      rw [if_pos (by omega)]
  have h1 : 1 ≤ no ∧ no ≤ sh.len := by simp at h1; omega
  have hx := List.getElem?_eq_getElem (show (no - 1).toNat < hs.length by omega)
  generalize hs[(no - 1).toNat] = x at hx
  have eT : errT hs now no t may = if ¬ momentP t then 1 else if t < now then 7 else if may (stateAt x t) = false then 11 else 0 := by unfold errT; rw [hx]; exact if_neg (by omega)
  have ew : IntKind.i64.wrap (no - 1) = (((no - 1).toNat : Nat) : Int) := by rw [w64 (by omega) (by omega)]; omega
  refine spec74 hI ⟨_, rfl, ifT_intro (fun h2 => bad 1 (by rw [eT, if_pos (nd h2)]) (by decide)) fun h2 => ?_⟩
  rw [if_neg (nd' h2)] at eT
  refine derefK_intro rfl ⟨now, read_cell hc rfl, ifT_dec (fun h3 => bad 7 (by rw [eT, if_pos h3]) (by decide)) fun h3 => ?_⟩
  rw [if_neg h3] at eT
  rw [ew]
  have hlt : (no - 1).toNat < hs.length := by omega
  refine derefK_intro rfl ⟨sh, read_cell hc rfl, ⟨by omega, by omega⟩, (o.at_ (s := sh) (by simp)).row hldC_length (by decide) hx fun bb oo hr => ⟨x.no, x.key, x.cents, x.at_, x.until_, x.state, hr, spec78 hI ⟨_, rfl, ?_⟩⟩⟩
  refine hg _ _ _ ⟨_, rfl, ifT_intro (fun h4 => bad 11 (by rw [eT, if_pos (nb h4)]) (by decide)) fun h4 => ?_⟩
  rw [if_neg (by rw [nb' h4]; simp)] at eT
  refine derefK_intro rfl (storeK_one hc (by simp) ?_)
  have o2 := o.change (n' := 1) (sz' := 3) (cs' := [.slice 5 sb, .slice 6 sh, .int .i64 t]) rfl
  show derefK _ _ (h.set p (.cells false [.slice 5 sb, .slice 6 sh, .int .i64 t]))
  have hc2 := (o2.block List.mem_cons_self).1
  have hrl := rows_length hldC_length hs
  have o3 := o2.swp
  obtain ⟨bl, hbl, _⟩ := o3.has (s := sh) (cs := rows hldC hs) (sz := 6) (by simp) (fun e => by rw [e] at hrl; simp at hrl; omega)
  have hla : sh.a = some (bl, 0) := by rw [hbl]
  refine derefK_intro rfl ⟨sh, read_cell hc2 rfl, ⟨by omega, by omega⟩, derefK_intro hla ?_⟩
  generalize hn : (no - 1).toNat = k at *
  rw [Int.toNat_natCast, Nat.zero_add]
  have o4 : Owns h0 (h.set p (.cells false [.slice 5 sb, .slice 6 sh, .int .i64 t])) ((6, ⟨some (bl, 0), sh.len⟩, rows hldC hs) :: owP p sb sh t :: L) := by rw [← hbl]; exact o3
  refine storeK_one (o4.block List.mem_cons_self).1 (by rw [hrl]; omega) ?_
  rw [rows_set (b := { x with state := to }) hldC_length hx (by decide) rfl]
  have o5 := o4.change (n' := sh.len) (sz' := 6) (cs' := rows hldC (hs.set k { x with state := to })) (by rw [rows_length hldC_length]; simp; omega)
  rw [← hbl] at o5
  exact hQ eT (by omega) (Decidable.of_not_not (nd' h2)) x hx (nb' h4) _ o5.swp

theorem spec70 (hI : Closed' prog Pm I) {n : Int} (hQ : Q [boo (decide (n = 1))] h) : I 70 [int n] Q h := hI.go _ _ (den70 I n Q) hQ
theorem spec71 (hI : Closed' prog Pm I) {n : Int} (hQ : Q [boo (decide (n = 1 ∨ n = 2))] h) : I 71 [int n] Q h := by
  refine hI.go _ _ (den71 I n Q) ?_
  refine ifT_dec (fun h1 => ?_) fun h1 => ?_
  · simpa [h1] using hQ
  · simpa [h1] using hQ
end
end Go.Proofs.YtihnjdhjkpmggaaDoorVc
