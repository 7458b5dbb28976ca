/- Reasons: copies of tests; what suffices for what a node is. The order of conditions; reasons, each once; what a condition is. The one address that is drawn; reasons and what a condition is, as they are asked. Reasons, as one asks; that they suffice. The deferred closure of the parser does nothing where nothing has gone wrong. The parser, at the one text that each law of conditions reads; the end of each law. ReasonsSuffice: the law's function answers true. -/
import Derived.Test.YteldpijfienopaaGreatDoorVcRsM
import Derived.WalkKit
import Derived.Defers
import Derived.Recover
set_option linter.unusedSimpArgs false
set_option linter.unusedVariables false
-- RsMean6
namespace Go.Proofs.YteldpijfienopaaGreatDoorVc
open Go.Proofs.Tryz (prog)
theorem appendTo_any {h0 h : Heap} {l : List Ow} {sz bytes : Nat} {s : Sl} {xs : List Cell} {m : Nat} {new : List Cell} {k : Sl → T} (o : Owns h0 h ((sz, s, xs) :: l)) (hm : m * sz = new.length) (hb : (s.len + m) * bytes ≤ 140737488355328)
    (hk : ∀ s' h', Owns h0 h' ((sz, s', xs ++ new) :: l) → k s' h') : appendTo [] sz bytes s m new k h := by
  cases m with
  | succ m => exact appendTo_owns o hm hb (by simp) fun j h' o' => hk _ _ o'
  | zero =>
    have hn : new = [] := List.length_eq_zero_iff.1 (by omega)
    subst hn
    show appendAnyK [] sz bytes s 0 [] k h
    unfold appendAnyK
    by_cases e : s.a = none ∧ 0 = 0
    · rw [if_pos e]
      refine hk _ _ ?_
      have hx : xs = [] := by
        rcases (o.all _ List.mem_cons_self).2 with ⟨_, b⟩ | ⟨i, b, _⟩
        · exact b
        · simp only at b; rw [e.1] at b; cases b
      subst hx
      exact o.tail.none_ sz
    · rw [if_neg e]
      exact appendK_owns o hm hb (by simp) fun j h' o' => hk _ _ o'
/-- What a call has made, beside what one owns. -/
theorem nw_rebase {h HB h' h2 : Heap} {L : List Ow} (xH : Ext h HB) (o : Owns HB h' L) (x : Ext h' h2) : ∃ HB2, Owns HB2 h2 L ∧ Ext HB HB2 ∧ Ext (Nw h' h2) (Nw h HB2) := by
  obtain ⟨HB2, o2, x2, hb⟩ := (o.mono x).rebase
  refine ⟨HB2, o2, x2, fun j y hy => ?_⟩
  obtain ⟨hj, hy⟩ := Nw_get hy
  rw [Nw_in ((xH.trans o.ext).none hj)]
  refine hb j y hy fun p hp hpa => ?_
  rcases (o.all p hp).2 with ⟨b2, _⟩ | ⟨q, b2, _, b4⟩
  · rw [b2] at hpa; cases hpa
  · rw [b2] at hpa; cases hpa; rw [hj] at b4; cases b4
theorem CondsAt.appends {h : Heap} : ∀ {al : List CT} {rs : List (List Cell)} {bl : List CT} {qs : List (List Cell)}, CondsAt h al rs → CondsAt h bl qs → CondsAt h (al ++ bl) (rs ++ qs)
  | [], [], _, _, _, H => H
  | b :: al, q :: rs, bl, qs, H, H2 => by
    unfold CondsAt at H
    show CondsAt h (b :: (al ++ bl)) (q :: (rs ++ qs))
    unfold CondsAt
    exact ⟨H.1, CondsAt.appends H.2 H2⟩
  | [], _ :: _, _, _, H, _ => by unfold CondsAt at H; exact H.elim
  | _ :: _, [], _, _, H, _ => by unfold CondsAt at H; exact H.elim
theorem CondsAt.one {h : Heap} {c : CT} {r : List Cell} (H : CondAt h c r) : CondsAt h [c] [r] := by unfold CondsAt; exact ⟨H, CondsAt.nil h⟩
/-- A slice is cloned. -/
theorem cloneS {h : Heap} {sz bytes : Nat} {s : Sl} {cs : List Cell} (a : AtS h sz s cs) (hb : s.len * bytes ≤ 140737488355328) {F : Sl → T} (hF : ∀ s' h', Ext h h' → AtS (Nw h h') sz s' cs → F s' h') :
    ifT s.a.isNone (F ⟨none, 0⟩) (fun h1 => ∃ cs2 : List Cell, h1.sl sz s = some cs2 ∧ s.len * bytes ≤ 140737488355328 ∧ newK (.cells false cs2) (fun i3 => fun h4 => F ⟨some (i3, 0), s.len⟩ h4) h1) h := by
  refine ifT_intro (fun e => ?_) fun e => ⟨cs, a.sl, hb, newK_intro fun i h1 hn he => ?_⟩
  · have hsl := a.sl
    unfold Heap.sl at hsl
    cases ha : s.a with
    | some p => rw [ha] at e; cases e
    | none =>
      rw [ha] at hsl
      cases hsl
      exact hF _ h (Ext.refl h) (AtS.nil _ _)
  · have o := (Owns.nil h).new (i := i) (sz := sz) (n := s.len) (cs := cs) hn a.len
    rw [← he] at o
    exact hF _ h1 o.ext (Nw.ownS0 o List.mem_cons_self)
mutual
theorem whyC_len (lf : CT → Bool) : ∀ c : CT, (whyC lf c).length ≤ c.size
  | .mk k n f s vs ws wi nu al => by
    have h1 : (CT.mk k n f s vs ws wi nu al).size = 1 + sizes al := by simp only [CT.size]
    rw [h1, whyC]
    split
    · simp
    split
    · have := whyHd_len lf al; omega
    split
    · have := whyRow_len lf (evC lf (.mk k n f s vs ws wi nu al)) (decide (k = 3)) al []
      simp at this; omega
    split <;> simp
theorem whyHd_len (lf : CT → Bool) : ∀ al : List CT, (whyHd lf al).length ≤ sizes al
  | [] => by simp [whyHd]
  | a :: al => by
    have := whyC_len lf a
    simp only [whyHd, sizes]; omega
theorem whyRow_len (lf : CT → Bool) (is an : Bool) : ∀ (al acc : List CT), (whyRow lf is an al acc).length ≤ acc.length + sizes al
  | [], acc => by simp [whyRow]
  | a :: al, acc => by
    have h1 := whyC_len lf a
    have h2 := whyRow_len lf is an al (acc ++ whyC lf a)
    simp only [whyRow, sizes]
    split
    · omega
    · simp at h2; omega
end
theorem whyRow_at {lf : CT → Bool} {is an : Bool} {al : List CT} {i : Nat} {a : CT} {acc : List CT} (hx : al[i]? = some a) : whyRow lf is an (al.drop i) acc = if (!decide (is = an) && decide (evC lf a = is)) = true then whyC lf a else whyRow lf is an (al.drop (i + 1)) (acc ++ whyC lf a) := by
  obtain ⟨hi, rfl⟩ := List.getElem?_eq_some_iff.1 hx
  rw [List.drop_eq_getElem_cons hi, whyRow]
section
variable {Pm : Prim} {I : Calls} {TT : Heap → Prop}
theorem spec89 (hI : Closed' prog Pm I) {Q : Post} {h : Heap} {s : Sl} {cs : List Cell} (a : AtS h 3 s cs) (hb : s.len < 1000000) (hQ : ∀ s' h', Ext h h' → AtS (Nw h h') 3 s' cs → Q [.one (.slice 3 s')] h') : I 89 [.one (.slice 3 s)] Q h :=
  hI.go _ _ (den89 I s Q) (cloneS (bytes := 32) (F := fun s => Q [.one (.slice 3 s)]) a (by omega) hQ)
theorem spec90 (hI : Closed' prog Pm I) {Q : Post} {h : Heap} {s : Sl} {cs : List Cell} (a : AtS h 5 s cs) (hb : s.len < 1000000) (hQ : ∀ s' h', Ext h h' → AtS (Nw h h') 5 s' cs → Q [.one (.slice 5 s')] h') : I 90 [.one (.slice 5 s)] Q h :=
  hI.go _ _ (den90 I s Q) (cloneS (bytes := 64) (F := fun s => Q [.one (.slice 5 s)]) a (by omega) hQ)
theorem spec87 (hI : Closed' prog Pm I) {Q : Post} {h : Heap} {s : Sl} {cs : List Cell} (a : AtS h 9 s cs) (hb : s.len < 1000000) (hQ : ∀ s' h', Ext h h' → AtS (Nw h h') 9 s' cs → Q [.one (.slice 9 s')] h') : I 87 [.one (.slice 9 s)] Q h :=
  hI.go _ _ (den87 I s Q) (cloneS (bytes := 144) (F := fun s => Q [.one (.slice 9 s)]) a (by omega) hQ)
/-- A test is copied. -/
theorem spec66 (hI : Closed' prog Pm I) {Q : Post} {h : Heap} {c : CT} {r : List Cell} (hc : CondAt h c r) (ha : c.args = []) (hv : c.vals.length < 1000000) (hw : c.whs.length < 1000000) (hQ : ∀ r' h', Ext h h' → CondAt (Nw h h') c r' → Q [.agg r'] h') : I 66 [.agg r] Q h := by
  obtain ⟨sv, sw, sa, rfl, h1, h2, rs, h3, h4⟩ := hc.partsS
  have hrs : rs = [] := by
    have := h4.len.1
    rw [ha] at this
    exact List.length_eq_zero_iff.1 this.symm
  subst hrs
  have lv := h1.at_.rowsLen valC_length (by decide)
  have lw := h2.at_.rowsLen whrC_length (by decide)
  have la : sa.len = 0 := by have := h3.len; simp at this; omega
  refine hI.go _ _ (den66 I c.kind c.name c.field c.sign sv sw c.within c.num sa Q) ?_
  refine spec89 hI h1 (by omega) fun sv' g1 x1 a1 => ⟨_, rfl, ?_⟩
  refine spec90 hI (h2.ext x1) (by omega) fun sw' g2 x2 a2 => ⟨_, rfl, ?_⟩
  refine spec87 hI (h3.ext (x1.trans x2)) (by omega) fun sa' g3 x3 a3 => ⟨_, rfl, ?_⟩
  have la' : sa'.len = 0 := by have := a3.len; simp at this; omega
  refine loopK_intro (fun (n : Int) h' m => g3 = h' ∧ n = 0) 0 ⟨rfl, rfl⟩ ?_
  rintro _ h' m ⟨rfl, rfl⟩
  refine ifT_dec (fun e => by omega) fun _ => ?_
  refine hQ (condC c sv' sw' sa') g3 ((x1.trans x2).trans x3) (CondAt.make (rs := []) (a1.ext (Nw.grow (x2.trans x3))) ((a2.ext (Nw.grow x3)).ext (Nw.later x1)) (a3.ext (Nw.later (x1.trans x2))) (by rw [ha]; exact CondsAt.nil _))
/-- Reasons. -/
theorem spec34 (hI : Closed' prog Pm I) {fs : List Fld} {l : List Evt} (hl : GoodL l) {n : Int} (hn0 : 0 ≤ n) (hn1 : n ≤ 4321439) : ∀ (N : Nat) {c : CT}, c.size ≤ N → ∀ {Q : Post} {h : Heap} {b : Nat}, NodeAt h fs l c b → Fine c → c.size < 1000000 →
    (∀ s rs h', Ext h h' → AtS (Nw h h') 9 s rs.flatten → CondsAt (Nw h h') (whyC (leafB fs l n) c) rs → Q [.one (.slice 9 s)] h') → I 34 [.one (.ptr (some (b, 0))), int n] Q h := by
  intro N
  induction N with
  | zero => intro c hc; have := c.one_le; omega
  | succ N ih =>
    intro c hc Q h b hn hf hsz hQ
    refine hI.go _ _ (den34 I (some (b, 0)) n Q) ?_
    obtain ⟨f1, f2, f3, f4⟩ := hf.parts
    have kinds := errN_kind f1
    have hargs : c.args.length < 1000000 := by
      have := args_le c.args
      have := c.size_eq
      omega
    refine spec38 hI hl hn0 hn1 c.size (Nat.le_refl _) hn hf hsz fun h1 x1 => ⟨_, rfl, ?_⟩
    have hQ2 : ∀ s rs h', Ext h1 h' → AtS (Nw h1 h') 9 s rs.flatten → CondsAt (Nw h1 h') (whyC (leafB fs l n) c) rs → Q [.one (.slice 9 s)] h' := fun s rs h' x a b => hQ s rs h' (x1.trans x) (a.ext (Nw.later x1)) (CondsAt.ext (Nw.later x1) b)
    clear hQ
    have hn' := hn.ext x1
    obtain ⟨sv, sw, sa, sk, fx, st, ss, fi, ps, hcell, hca, hks, hV, hns⟩ := hn'.parts
    have hpl := hns.len
    have hskl : sk.len = ps.length := by rw [hks.len1, ptrs_length]
    rw [whyC_eq] at hQ2
    generalize hlf : leafB fs l n = lf at hQ2 ih
    have kid : ∀ (k : Nat) b a, ps[k]? = some b → c.args[k]? = some a → ∀ (h2 : Heap) (Q : Post), Ext h1 h2 → (∀ s rs h', Ext h2 h' → AtS (Nw h2 h') 9 s rs.flatten → CondsAt (Nw h2 h') (whyC lf a) rs → Q [.one (.slice 9 s)] h') → I 34 [.one (.ptr (some (b, 0))), int n] Q h2 := fun k b a hb ha h2 Q x2 hQ => by
      obtain ⟨b', hb', hnode⟩ := hns.get ha
      rw [hb] at hb'; cases hb'
      have hm := List.mem_of_getElem? ha
      have := CT.size_args hm
      exact ih (by omega) (hnode.ext x2) (f4.mem hm) (by omega) hQ
    refine derefK_intro rfl ⟨c.kind, read_cell hcell rfl, ?_⟩
    refine joinK_intro (fun (z : Bool) g => h1 = g ∧ z = decide (c.kind = 1 ∨ c.kind = 2)) ?_ fun jk hjk => ifT_dec (fun e => hjk _ _ ⟨rfl, by simp [e]⟩) fun e => hjk _ _ ⟨rfl, by simp [e]⟩
    rintro z _ ⟨rfl, rfl⟩
    refine ifT_dec (fun e => ?_) fun e => ?_
    · rw [if_pos e] at hQ2
      exact hQ2 _ [] h1 (Ext.refl _) (AtS.nil _ _) (CondsAt.nil _)
    rw [if_neg e] at hQ2
    refine ifT_dec (fun e5 => ?_) fun e5 => ?_
    · rw [if_pos e5] at hQ2
      have ha1 : c.args.length = 1 := by
        rcases kinds with k | k | ⟨_, k⟩ | ⟨k, _⟩
        · exact absurd k e
        · omega
        · exact k
        · omega
      obtain ⟨a0, ha0⟩ : ∃ a, c.args[0]? = some a := ⟨_, List.getElem?_eq_getElem (by omega)⟩
      obtain ⟨b0, hb0, hnode⟩ := hns.get ha0
      refine derefK_intro rfl ⟨sk, read_cell hcell rfl, ⟨by omega, by omega⟩, hks.cell (i := 0) (ptrs_get hb0) fun bb oo hr => ⟨_, by simpa using hr, kid 0 b0 a0 hb0 ha0 h1 _ (Ext.refl _) fun s rs h3 x3 as3 cs3 => ⟨_, rfl, ?_⟩⟩⟩
      refine hQ2 s rs h3 x3 as3 ?_
      rw [show whyHd lf c.args = whyC lf a0 by
        cases hc : c.args with
        | nil => rw [hc] at ha0; cases ha0
        | cons y ys => rw [hc] at ha0; simp at ha0; subst ha0; simp [whyHd]]
      exact cs3
    rw [if_neg e5] at hQ2
    refine joinK_intro (fun (z : Bool) g => h1 = g ∧ z = decide (c.kind = 3 ∨ c.kind = 4)) ?_ fun jk hjk => ifT_dec (fun e => hjk _ _ ⟨rfl, by simp [e]⟩) fun e => hjk _ _ ⟨rfl, by simp [e]⟩
    rintro z _ ⟨rfl, rfl⟩
    refine ifT_dec (fun e34 => ?_) fun e34 => ?_
    · rw [if_pos e34] at hQ2
      have hisz : sizes c.args < 1000000 := by have := c.size_eq; omega
      refine derefK_intro rfl ⟨sk, read_cell hcell rfl, ?_⟩
      refine loopK_intro (fun (p : Sl × Int) h' m => ∃ (k : Nat) (s : Sl) (acc : List CT) (rs : List (List Cell)) (B : Heap), k ≤ c.args.length ∧ p = (s, (k : Int)) ∧ c.args.length - k = m ∧ Ext h1 B ∧ Owns B h' ((9, s, rs.flatten) :: []) ∧ CondsAt (Nw h1 B) acc rs ∧
        whyRow lf (evC lf c) (decide (c.kind = 3)) c.args [] = whyRow lf (evC lf c) (decide (c.kind = 3)) (c.args.drop k) acc ∧ acc.length ≤ sizes (c.args.take k)) c.args.length
        ⟨0, _, [], [], h1, by omega, rfl, rfl, Ext.refl _, (Owns.nil h1).none_ 9, CondsAt.nil _, rfl, by simp⟩ ?_
      intro p h2 m hp
      obtain ⟨k, s, acc, rs, B, hk, hp, hm, xB, o, hcs, hrow, hacc⟩ := hp
      subst hp
      subst hm
      dsimp only [uncur]
      have x2 : Ext h1 h2 := xB.trans o.ext
      refine ifT_dec (fun hlt => ⟨⟨by omega, hlt⟩, ?_⟩) fun hge => ?_
      · obtain ⟨a, ha⟩ : ∃ a, c.args[k]? = some a := ⟨_, List.getElem?_eq_getElem (by omega)⟩
        obtain ⟨b2, hb2, hnode⟩ := hns.get ha
        have hm := List.mem_of_getElem? ha
        have hsa := CT.size_args hm
        rw [whyRow_at ha] at hrow
        refine (x2.at_ hks).cell (ptrs_get hb2) fun bb oo hr => ⟨_, hr, ?_⟩
        refine joinK_intro (fun (z : Bool) g => Ext h2 g ∧ z = (!decide (evC lf c = decide (c.kind = 3)) && decide (evC lf a = evC lf c))) ?_ fun jk hjk => ?_
        case refine_2 =>
          refine derefK_intro rfl ⟨c.kind, read_cell (x2 _ _ hcell) rfl, ?_⟩
          subst hlf
          refine ifT_intro (fun e => ?_) fun e => hjk _ _ ⟨Ext.refl _, by rw [e]; rfl⟩
          refine spec38 hI hl hn0 hn1 a.size (Nat.le_refl _) (hnode.ext x2) (f4.mem hm) (by omega) fun g xg => ⟨_, rfl, hjk _ _ ⟨xg, by rw [e]; rfl⟩⟩
        rintro z h3 ⟨x3, rfl⟩
        refine ifT_intro (fun e => ?_) fun e => ?_
        · rw [if_pos e] at hrow
          rw [hrow] at hQ2
          refine kid k b2 a hb2 ha h3 _ (x2.trans x3) fun s' rs' h4 x4 a4 c4 => ⟨_, rfl, ?_⟩
          exact hQ2 s' rs' h4 ((x2.trans x3).trans x4) (a4.ext (Nw.later (x2.trans x3))) (CondsAt.ext (Nw.later (x2.trans x3)) c4)
        · rw [if_neg (by simpa using e)] at hrow
          refine kid k b2 a hb2 ha h3 _ (x2.trans x3) fun s' rs' h4 x4 a4 c4 => ⟨_, rfl, rs'.flatten, (a4.ext (Nw.ext _ _)).sl, ?_⟩
          obtain ⟨B2, o2, xBB, xN⟩ := nw_rebase xB (o.mono x3) x4
          have l1 := hcs.len
          have l2 := c4.len
          have e1 := (o.at_ (sz := 9) (s := s) (cs := rs.flatten) (by simp)).1
          have e2 := a4.len
          rw [flat9 l1.2] at e1
          rw [flat9 l2.2] at e2
          have w1 := whyC_len lf a
          have st := sizes_take ha
          have sl := sizes_take_le c.args (k + 1)
          refine appendTo_any o2 a4.len (by omega) fun s5 h5 o5 => ?_
          refine ⟨c.args.length - (k + 1), by omega, k + 1, s5, acc ++ whyC lf a, rs ++ rs', B2, by omega, by rw [show IntKind.i64.wrap ((k : Int) + 1) = ((k + 1 : Nat) : Int) by rw [w64] <;> omega], rfl, xB.trans xBB, ?_, ?_, hrow, ?_⟩
          · rw [List.flatten_append]; exact o5
          · exact CondsAt.appends (CondsAt.ext (Nw.grow xBB) hcs) (CondsAt.ext xN c4)
          · simp only [List.length_append]; omega
      · have hk2 : k = c.args.length := by omega
        subst hk2
        rw [List.drop_length, whyRow] at hrow
        rw [hrow] at hQ2
        exact hQ2 s rs h2 x2 (Nw.ownS0 (o.onto xB) List.mem_cons_self) (CondsAt.ext (Nw.grow o.ext) hcs)
    rw [if_neg e34] at hQ2
    have hleaf : 6 ≤ c.kind ∧ c.kind ≤ 14 ∧ c.args = [] := by
      rcases kinds with k | k | ⟨k, _⟩ | k
      · exact absurd k e
      · exact absurd k e34
      · exact absurd k e5
      · exact k
    have hev : evC lf c = lf c := by
      rw [evC_eq, if_neg (by omega), if_neg (by omega), if_neg (by omega), if_neg (by omega), if_neg (by omega)]
    rw [← hev] at hQ2
    have rd9 : h1.read b (0 + 0) 9 = some (condC c sv sw sa) := by
      rw [read_block hcell (show 0 + 0 + 9 ≤ 14 by decide)]; rfl
    refine ifT_intro (fun e => ?_) fun e => ?_
    · rw [if_pos e] at hQ2
      refine derefK_intro rfl ⟨_, _, _, _, _, _, _, _, _, rd9, ?_⟩
      refine spec66 hI hca hleaf.2.2 f2 f3 fun r' h2 x2 c2 => ?_
      obtain ⟨sv2, sw2, sa2, rfl, _⟩ := c2.parts
      refine ⟨_, _, _, _, _, _, _, _, _, rfl, newK_intro fun i3 h3 hn3 he3 => ?_⟩
      have o3 := (Owns.nil h2).new (i := i3) (sz := 9) (n := 1) (cs := condC c sv2 sw2 sa2) hn3 rfl
      rw [← show h3 = h2.set i3 (.cells false (condC c sv2 sw2 sa2)) from he3] at o3
      exact hQ2 _ [condC c sv2 sw2 sa2] h3 (x2.trans o3.ext) (by simpa using (Nw.ownS0 o3 List.mem_cons_self).ext (Nw.later x2)) (CondsAt.one (CondAt.ext (Nw.grow o3.ext) c2))
    · rw [if_neg (by rw [e]; decide)] at hQ2
      refine derefK_intro rfl ⟨_, _, _, _, _, _, _, _, _, rd9, ?_⟩
      refine spec66 hI hca hleaf.2.2 f2 f3 fun r' h2 x2 c2 => ?_
      obtain ⟨sv2, sw2, sa2, rfl, _⟩ := c2.parts
      refine ⟨_, _, _, _, _, _, _, _, _, rfl, newK_intro fun i3 h3 hn3 he3 => newK_intro fun i4 h4 hn4 he4 => ?_⟩
      have o3 := (Owns.nil h2).new (i := i3) (sz := 9) (n := 1) (cs := condC c sv2 sw2 sa2) hn3 rfl
      rw [← show h3 = h2.set i3 (.cells false (condC c sv2 sw2 sa2)) from he3] at o3
      have o4 := (Owns.nil h3).new (i := i4) (sz := 9) (n := 1) (cs := condC (notC c) ⟨none, 0⟩ ⟨none, 0⟩ ⟨some (i3, 0), 1⟩) hn4 rfl
      rw [← show h4 = h3.set i4 (.cells false (condC (notC c) ⟨none, 0⟩ ⟨none, 0⟩ ⟨some (i3, 0), 1⟩)) from he4] at o4
      refine hQ2 _ [condC (notC c) ⟨none, 0⟩ ⟨none, 0⟩ ⟨some (i3, 0), 1⟩] h4 ((x2.trans o3.ext).trans o4.ext) (by simpa using (Nw.ownS0 o4 List.mem_cons_self).ext (Nw.later (x2.trans o3.ext))) (CondsAt.one ?_)
      refine CondAt.make (c := notC c) (rs := [condC c sv2 sw2 sa2]) (AtS.nil _ _) (AtS.nil _ _) ?_ ?_
      · simpa using ((Nw.ownS0 o3 List.mem_cons_self).ext (Nw.later x2)).ext (Nw.grow o4.ext)
      · exact CondsAt.one (CondAt.ext (Nw.grow (o3.ext.trans o4.ext)) c2)
end
end Go.Proofs.YteldpijfienopaaGreatDoorVc
-- RsMean7
namespace Go.Proofs.YteldpijfienopaaGreatDoorVc
open Go.Proofs.Tryz (prog)
theorem cmpL_at {α : Type} {f : α → α → Int} {xs ys : List α} {i : Nat} {a b : α} (ha : xs[i]? = some a) (hb : ys[i]? = some b) : cmpL f (xs.drop i) (ys.drop i) = if f a b ≠ 0 then f a b else cmpL f (xs.drop (i + 1)) (ys.drop (i + 1)) := by
  obtain ⟨hi, rfl⟩ := List.getElem?_eq_some_iff.1 ha
  obtain ⟨hj, rfl⟩ := List.getElem?_eq_some_iff.1 hb
  rw [List.drop_eq_getElem_cons hi, List.drop_eq_getElem_cons hj]; rfl
theorem cmpL_long {α : Type} {f : α → α → Int} {xs ys : List α} {i : Nat} {a : α} (ha : xs[i]? = some a) (hb : ys.length ≤ i) : cmpL f (xs.drop i) (ys.drop i) = 1 := by
  obtain ⟨hi, rfl⟩ := List.getElem?_eq_some_iff.1 ha
  rw [List.drop_eq_getElem_cons hi, List.drop_eq_nil_of_le hb]; rfl
theorem cmpL_end {α : Type} {f : α → α → Int} {xs ys : List α} : cmpL f (xs.drop xs.length) (ys.drop xs.length) = if xs.length < ys.length then -1 else 0 := by
  rw [List.drop_length]
  by_cases h : xs.length < ys.length
  · rw [if_pos h, List.drop_eq_getElem_cons h]; rfl
  · rw [if_neg h, List.drop_eq_nil_of_le (by omega)]; rfl
theorem cmpCs_L : ∀ (xs ys : List CT), cmpCs xs ys = cmpL cmpC xs ys
  | [], [] => by simp [cmpCs, cmpL]
  | [], _ :: _ => by simp [cmpCs, cmpL]
  | _ :: _, [] => by simp [cmpCs, cmpL]
  | a :: xs, b :: ys => by simp only [cmpCs, cmpL, cmpCs_L xs ys]
section
variable {Pm : Prim} {I : Calls} {Q : Post} {h : Heap} {TT : Heap → Prop}
theorem spec73 (hI : Closed' prog Pm I) {a b : Val} (hQ : ∀ h', Ext h h' → Q [int (cmpV a b)] h') : I 73 [.agg (valC a), .agg (valC b)] Q h := by
  refine hI.go _ _ (den73 I a.kind a.text a.num b.kind b.text b.num Q) ?_
  exact spec69 hI ⟨_, rfl, spec69 hI ⟨_, rfl, spec70 hI ⟨_, rfl, or_lit hI [cmpI a.kind b.kind, cmpI a.num b.num, cmpS a.text b.text] (by simp) fun h1 x1 => hQ h1 x1⟩⟩⟩
theorem spec75 (hI : Closed' prog Pm I) {a b : Whr} (hQ : ∀ h', Ext h h' → Q [int (cmpWh a b)] h') : I 75 [.agg (whrC a), .agg (whrC b)] Q h := by
  refine hI.go _ _ (den75 I a.field a.sign a.val.kind a.val.text a.val.num b.field b.sign b.val.kind b.val.text b.val.num Q) ?_
  refine spec70 hI ⟨_, rfl, spec71 hI fun h1 x1 => ⟨_, rfl, spec71 hI fun h2 x2 => ⟨_, rfl, spec69 hI ⟨_, rfl, spec73 hI (a := a.val) (b := b.val) fun h3 x3 => ⟨_, rfl, ?_⟩⟩⟩⟩⟩
  exact or_lit hI [cmpS a.field b.field, cmpI (signNo a.sign) (signNo b.sign), cmpV a.val b.val] (by simp) fun h4 x4 => hQ h4 (((x1.trans x2).trans x3).trans x4)
theorem spec72 (hI : Closed' prog Pm I) {s t : Sl} {xs ys : List Val} (hs : At h 3 s (rows valC xs)) (ht : At h 3 t (rows valC ys)) (hl : xs.length < 1000000) (hl2 : ys.length < 1000000) (hQ : ∀ h', Ext h h' → Q [int (cmpL cmpV xs ys)] h') : I 72 [.one (.slice 3 s), .one (.slice 3 t), .one (.func (some (73, [])))] Q h := by
  refine hI.go _ _ (den72 I s t (some (73, [])) Q) ?_
  have ls := hs.rowsLen valC_length (by decide)
  have lt := ht.rowsLen valC_length (by decide)
  refine loopK_intro (fun (n : Int) h' m => Ext h h' ∧ ∃ i : Nat, i ≤ xs.length ∧ n = i ∧ xs.length - i = m ∧ cmpL cmpV xs ys = cmpL cmpV (xs.drop i) (ys.drop i)) xs.length ⟨Ext.refl h, 0, by omega, rfl, rfl, rfl⟩ ?_
  rintro n h' m ⟨x1, i, hi, rfl, rfl, he⟩
  refine ifT_dec (fun hlt => ⟨⟨by omega, hlt⟩, ?_⟩) fun hge => ?_
  · obtain ⟨a, ha⟩ : ∃ a, xs[i]? = some a := ⟨_, List.getElem?_eq_getElem (by omega)⟩
    refine (x1.at_ hs).row valC_length (by decide) ha fun bb oo hr => ⟨a.kind, a.text, a.num, hr, ifT_dec (fun e => ?_) fun e => ⟨⟨by omega, by omega⟩, ?_⟩⟩
    · rw [cmpL_long ha (by omega)] at he
      have := hQ h' x1
      rw [he] at this; exact this
    · obtain ⟨b, hb⟩ : ∃ b, ys[i]? = some b := ⟨_, List.getElem?_eq_getElem (by omega)⟩
      rw [cmpL_at ha hb] at he
      refine (x1.at_ ht).row valC_length (by decide) hb fun bb2 oo2 hr2 => ⟨b.kind, b.text, b.num, hr2, ?_⟩
      refine spec73 hI (a := a) (b := b) fun h2 x2 => ⟨_, rfl, ifT_intro (fun e1 => ?_) fun e1 => ?_⟩
      · rw [if_pos (nd e1)] at he
        have := hQ h2 (x1.trans x2)
        rw [he] at this; exact this
      · rw [if_neg (nd' e1)] at he
        exact ⟨xs.length - (i + 1), by omega, x1.trans x2, i + 1, by omega, by rw [w64] <;> omega, rfl, he⟩
  · have : i = xs.length := by omega
    subst this
    rw [cmpL_end] at he
    have hq := hQ h' x1
    rw [he] at hq
    refine ifT_dec (fun e => ?_) fun e => ?_
    · rw [if_pos (by omega)] at hq; exact hq
    · rw [if_neg (by omega)] at hq; exact hq
theorem spec74 (hI : Closed' prog Pm I) {s t : Sl} {xs ys : List Whr} (hs : At h 5 s (rows whrC xs)) (ht : At h 5 t (rows whrC ys)) (hl : xs.length < 1000000) (hl2 : ys.length < 1000000) (hQ : ∀ h', Ext h h' → Q [int (cmpL cmpWh xs ys)] h') : I 74 [.one (.slice 5 s), .one (.slice 5 t), .one (.func (some (75, [])))] Q h := by
  refine hI.go _ _ (den74 I s t (some (75, [])) Q) ?_
  have ls := hs.rowsLen whrC_length (by decide)
  have lt := ht.rowsLen whrC_length (by decide)
  refine loopK_intro (fun (n : Int) h' m => Ext h h' ∧ ∃ i : Nat, i ≤ xs.length ∧ n = i ∧ xs.length - i = m ∧ cmpL cmpWh xs ys = cmpL cmpWh (xs.drop i) (ys.drop i)) xs.length ⟨Ext.refl h, 0, by omega, rfl, rfl, rfl⟩ ?_
  rintro n h' m ⟨x1, i, hi, rfl, rfl, he⟩
  refine ifT_dec (fun hlt => ⟨⟨by omega, hlt⟩, ?_⟩) fun hge => ?_
  · obtain ⟨a, ha⟩ : ∃ a, xs[i]? = some a := ⟨_, List.getElem?_eq_getElem (by omega)⟩
    refine (x1.at_ hs).row whrC_length (by decide) ha fun bb oo hr => ⟨a.field, a.sign, a.val.kind, a.val.text, a.val.num, hr, ifT_dec (fun e => ?_) fun e => ⟨⟨by omega, by omega⟩, ?_⟩⟩
    · rw [cmpL_long ha (by omega)] at he
      have := hQ h' x1
      rw [he] at this; exact this
    · obtain ⟨b, hb⟩ : ∃ b, ys[i]? = some b := ⟨_, List.getElem?_eq_getElem (by omega)⟩
      rw [cmpL_at ha hb] at he
      refine (x1.at_ ht).row whrC_length (by decide) hb fun bb2 oo2 hr2 => ⟨b.field, b.sign, b.val.kind, b.val.text, b.val.num, hr2, ?_⟩
      refine spec75 hI (a := a) (b := b) fun h2 x2 => ⟨_, rfl, ifT_intro (fun e1 => ?_) fun e1 => ?_⟩
      · rw [if_pos (nd e1)] at he
        have := hQ h2 (x1.trans x2)
        rw [he] at this; exact this
      · rw [if_neg (nd' e1)] at he
        exact ⟨xs.length - (i + 1), by omega, x1.trans x2, i + 1, by omega, by rw [w64] <;> omega, rfl, he⟩
  · have : i = xs.length := by omega
    subst this
    rw [cmpL_end] at he
    have hq := hQ h' x1
    rw [he] at hq
    refine ifT_dec (fun e => ?_) fun e => ?_
    · rw [if_pos (by omega)] at hq; exact hq
    · rw [if_neg (by omega)] at hq; exact hq
/-- The order of two conditions. -/
theorem spec37 (hI : Closed' prog Pm I) {h0 : Heap} : ∀ (N : Nat) {c d : CT}, c.size ≤ N → ∀ {Q : Post} {h : Heap} {r q : List Cell}, Ext h0 h → CondAt h0 c r → CondAt h0 d q → c.narrow → d.narrow → c.size < 1000000 → d.size < 1000000 →
    (∀ h', Ext h h' → Q [int (cmpC c d)] h') → I 37 [.agg r, .agg q] Q h := by
  intro N
  induction N with
  | zero => intro c d hc; have := c.one_le; omega
  | succ N ih =>
    intro c d hN Q h r q x0 hc hd nc nd_ sc sd hQ
    obtain ⟨sv, sw, sa, rfl, h1, h2, rs, h3, h4⟩ := hc.parts
    obtain ⟨tv, tw, ta, rfl, k1, k2, qs, k3, k4⟩ := hd.parts
    obtain ⟨n1, n2, n3⟩ := c.narrow_eq.1 nc
    obtain ⟨m1, m2, m3⟩ := d.narrow_eq.1 nd_
    have ac : c.args.length < 1000000 := by
      have := args_le c.args
      have := c.size_eq
      omega
    have ad : d.args.length < 1000000 := by
      have := args_le d.args
      have := d.size_eq
      omega
    refine hI.go _ _ (den37 I c.kind c.name c.field c.sign sv sw c.within c.num sa d.kind d.name d.field d.sign tv tw d.within d.num ta Q) ?_
    rw [cmpC_eq, cmpCs_L] at hQ
    refine spec69 hI ⟨_, rfl, spec70 hI ⟨_, rfl, spec70 hI ⟨_, rfl, spec71 hI fun g1 x1 => ⟨_, rfl, spec71 hI fun g2 x2 => ⟨_, rfl, spec69 hI ⟨_, rfl, ?_⟩⟩⟩⟩⟩⟩
    have y2 := (x0.trans x1).trans x2
    refine spec72 hI (y2.at_ h1) (y2.at_ k1) n1 m1 fun g3 x3 => ⟨_, rfl, ?_⟩
    have y3 := y2.trans x3
    refine spec74 hI (y3.at_ h2) (y3.at_ k2) n2 m2 fun g4 x4 => ⟨_, rfl, spec69 hI ⟨_, rfl, spec69 hI ⟨_, rfl, ?_⟩⟩⟩
    have y4 := y3.trans x4
    have row : ∀ (F : Int → T), (∀ g, Ext g4 g → F (cmpL cmpC c.args d.args) g) → I 76 [.one (.slice 9 sa), .one (.slice 9 ta), .one (.func (some (37, [])))] (fun cs49 h50 => ∃ n51 : Int, cs49 = [int n51] ∧ F n51 h50) g4 := fun F hF => by
      refine hI.go _ _ (den76 I sa ta (some (37, [])) _) ?_
      have l1 := h4.len
      have l2 := k4.len
      have ls : sa.len = c.args.length := by have := h3.1; rw [flat9 l1.2] at this; omega
      have lt : ta.len = d.args.length := by have := k3.1; rw [flat9 l2.2] at this; omega
      refine loopK_intro (fun (n : Int) h' m => Ext g4 h' ∧ ∃ i : Nat, i ≤ c.args.length ∧ n = i ∧ c.args.length - i = m ∧ cmpL cmpC c.args d.args = cmpL cmpC (c.args.drop i) (d.args.drop i)) c.args.length ⟨Ext.refl _, 0, by omega, rfl, rfl, rfl⟩ ?_
      rintro n h' m ⟨z1, i, hi, rfl, rfl, he⟩
      have y5 := y4.trans z1
      refine ifT_dec (fun hlt => ⟨⟨by omega, hlt⟩, ?_⟩) fun hge => ?_
      · obtain ⟨a, ha⟩ : ∃ a, c.args[i]? = some a := ⟨_, List.getElem?_eq_getElem (by omega)⟩
        have ma := List.mem_of_getElem? ha
        have sa' := CT.size_args ma
        refine CondsAt.rowIn y5 h4 h3 ha fun bb oo r2 hca hr => ?_
        obtain ⟨_, _, _, rfl, _⟩ := hca.parts
        refine ⟨_, _, _, _, _, _, _, _, _, hr, ifT_dec (fun e => ?_) fun e => ⟨⟨by omega, by omega⟩, ?_⟩⟩
        · rw [cmpL_long ha (by omega)] at he
          have := hF h' z1
          rw [he] at this; exact ⟨_, rfl, this⟩
        · obtain ⟨b, hb⟩ : ∃ b, d.args[i]? = some b := ⟨_, List.getElem?_eq_getElem (by omega)⟩
          have mb := List.mem_of_getElem? hb
          have sb' := CT.size_args mb
          rw [cmpL_at ha hb] at he
          refine CondsAt.rowIn y5 k4 k3 hb fun bb2 oo2 r3 hcb hr2 => ?_
          obtain ⟨_, _, _, rfl, _⟩ := hcb.parts
          refine ⟨_, _, _, _, _, _, _, _, _, hr2, ?_⟩
          refine ih (c := a) (d := b) (by omega) y5 hca hcb (CT.narrow_arg nc ma) (CT.narrow_arg nd_ mb) (by omega) (by omega) fun h2 x2 => ⟨_, rfl, ifT_intro (fun e1 => ?_) fun e1 => ?_⟩
          · rw [if_pos (nd e1)] at he
            have := hF h2 (z1.trans x2)
            rw [he] at this; exact ⟨_, rfl, this⟩
          · rw [if_neg (nd' e1)] at he
            exact ⟨c.args.length - (i + 1), by omega, z1.trans x2, i + 1, by omega, by rw [w64] <;> omega, rfl, he⟩
      · have : i = c.args.length := by omega
        subst this
        rw [cmpL_end] at he
        have hq := hF h' z1
        rw [he] at hq
        refine ifT_dec (fun e => ?_) fun e => ?_
        · rw [if_pos (by omega)] at hq; exact ⟨_, rfl, hq⟩
        · rw [if_neg (by omega)] at hq; exact ⟨_, rfl, hq⟩
    refine row _ fun g5 x5 => ?_
    exact or_lit hI [cmpI c.kind d.kind, cmpS c.name d.name, cmpS c.field d.field, cmpI (signNo c.sign) (signNo d.sign), cmpL cmpV c.vals d.vals, cmpL cmpWh c.whs d.whs, cmpI c.within d.within, cmpI c.num d.num, cmpL cmpC c.args d.args] (by simp)
      fun g6 x6 => hQ g6 (((((x1.trans x2).trans x3).trans x4).trans x5).trans x6)
/-- Is it there already? -/
theorem spec35 (hI : Closed' prog Pm I) {B : Heap} {s : Sl} {acc : List CT} {rs : List (List Cell)} {x : CT} {rx : List Cell} {i : Nat} (xB : Ext B h) (hs : At h 9 s rs.flatten) (hcs : CondsAt B acc rs) (hx : CondAt B x rx) (hi : h i = some (.cells false rx))
    (ha : ∀ a ∈ acc, a.narrow ∧ a.size < 1000000) (hxn : x.narrow ∧ x.size < 1000000) (hl : acc.length < 1000000) (hQ : ∀ h', Ext h h' → Q [boo (acc.any fun y => decide (cmpC x y = 0))] h') : I 35 [.one (.slice 9 s), .one (.func (some (36, [(i, 0)])))] Q h := by
  refine hI.go _ _ (den35 I s (some (36, [(i, 0)])) Q) ?_
  refine hI.go _ _ (den67 I s (some (36, [(i, 0)])) _) ?_
  have l1 := hcs.len
  have ls : s.len = acc.length := by have := hs.1; rw [flat9 l1.2] at this; omega
  obtain ⟨sv, sw, sa, rfl, _⟩ := hx.parts
  refine loopK_intro (fun (n : Int) h' m => Ext h h' ∧ ∃ k : Nat, k ≤ acc.length ∧ n = k ∧ acc.length - k = m ∧ ((acc.take k).any fun y => decide (cmpC x y = 0)) = false) acc.length ⟨Ext.refl h, 0, by omega, rfl, rfl, by simp⟩ ?_
  rintro n h' m ⟨x1, k, hk, rfl, rfl, he⟩
  refine ifT_dec (fun hlt => ⟨⟨by omega, hlt⟩, ?_⟩) fun hge => ?_
  · obtain ⟨a, hy⟩ : ∃ a, acc[k]? = some a := ⟨_, List.getElem?_eq_getElem (by omega)⟩
    have hm := List.mem_of_getElem? hy
    refine CondsAt.row2 (k := k) hcs (x1.at_ hs) hy fun bb oo r hca _ hr => ?_
    obtain ⟨sv2, sw2, sa2, rfl, _⟩ := hca.parts
    refine ⟨_, _, _, _, _, _, _, _, _, hr, ?_⟩
    refine hI.go _ _ (den36 I a.kind a.name a.field a.sign sv2 sw2 a.within a.num sa2 i 0 _) ?_
    have hrd : h'.read i 0 9 = some (condC x sv sw sa) := by rw [read_block (x1 _ _ hi) (show 0 + 9 ≤ 9 by decide)]; rfl
    refine ⟨_, _, _, _, _, _, _, _, _, hrd, ?_⟩
    refine spec37 hI x.size (Nat.le_refl _) (xB.trans x1) hx hca hxn.1 (ha a hm).1 hxn.2 (ha a hm).2 fun h2 x2 => ⟨_, rfl, _, rfl, ifT_intro (fun e => ⟨_, rfl, ?_⟩) fun e => ?_⟩
    · have := hQ h2 (x1.trans x2)
      rw [show (acc.any fun y => decide (cmpC x y = 0)) = true from List.any_eq_true.2 ⟨a, hm, e⟩] at this
      rw [decide_eq_true (by omega)]; exact this
    · refine ⟨acc.length - (k + 1), by omega, x1.trans x2, k + 1, by omega, by rw [w64] <;> omega, rfl, ?_⟩
      rw [any_take_step hy, he, e]; rfl
  · have : k = acc.length := by omega
    subst this
    rw [List.take_length] at he
    have := hQ h' x1
    rw [he] at this
    exact ⟨_, rfl, this⟩
end
end Go.Proofs.YteldpijfienopaaGreatDoorVc
-- RsMean8
namespace Go.Proofs.YteldpijfienopaaGreatDoorVc
open Go.Proofs.Tryz (prog)
def mailB (b : UInt8) : Bool := smallB b || digitB b || decide (b.toNat = 46) || decide (b.toNat = 45) || decide (b.toNat = 95)
def labB (b : UInt8) : Bool := smallB b || digitB b || decide (b.toNat = 45)
section
variable {Pm : Prim} {I : Calls} {Q : Post} {h : Heap} {TT : Heap → Prop}
theorem nat_dec (a b : Nat) : decide ((a : Int) = (b : Int)) = decide (a = b) := by rw [decide_eq_decide]; omega
theorem spec268 (hI : Closed' prog Pm I) {b : UInt8} (hQ : Q [boo (labB b)] h) : I 268 [u8 b] Q h := by
  refine hI.go _ _ (den268 I _ Q) ?_
  unfold labB at hQ
  refine spec175 hI ⟨_, rfl, ifT_intro (fun h1 => ?_) fun h1 => spec178 hI ⟨_, rfl, ifT_intro (fun h2 => ?_) fun h2 => ?_⟩⟩
  · rw [h1] at hQ; exact hQ
  · rw [h1, h2] at hQ; exact hQ
  · rw [h1, h2, Bool.false_or, Bool.false_or, ← nat_dec b.toNat 45] at hQ; exact hQ
theorem spec250 (hI : Closed' prog Pm I) {b : UInt8} (hQ : Q [boo (mailB b)] h) : I 250 [u8 b] Q h := by
  refine hI.go _ _ (den250 I _ Q) ?_
  unfold mailB at hQ
  refine spec175 hI ⟨_, rfl, ifT_intro (fun h1 => ?_) fun h1 => spec178 hI ⟨_, rfl, ifT_intro (fun h2 => ?_) fun h2 => ifT_dec (fun h3 => ?_) fun h3 => ifT_dec (fun h4 => ?_) fun h4 => ?_⟩⟩
  · rw [h1] at hQ; exact hQ
  · rw [h1, h2] at hQ; exact hQ
  · rw [h1, h2, show b.toNat = 46 by omega] at hQ; exact hQ
  · rw [h1, h2, show b.toNat = 45 by omega] at hQ; exact hQ
  · rw [h1, h2, show decide (b.toNat = 46) = false from decide_eq_false (by omega), show decide (b.toNat = 45) = false from decide_eq_false (by omega), Bool.false_or, Bool.false_or, Bool.false_or, ← nat_dec b.toNat 95] at hQ; exact hQ
def labelB (s : ByteArray) : Bool := decide (1 ≤ s.size) && decide (s.size ≤ 30) && !decide (byteAt s 0 = 45) && !decide (byteAt s ((s.size : Int) - 1) = 45) && (bl s).all labB
theorem spec251 (hI : Closed' prog Pm I) {s : ByteArray} (hs : labelB s = true) (hQ : Q [boo true] h) : I 251 [str s] Q h := by
  unfold labelB at hs
  simp only [Bool.and_eq_true] at hs
  obtain ⟨⟨⟨⟨h1, h2⟩, h3⟩, h4⟩, h5⟩ := hs
  have h1 := of_decide_eq_true h1
  have h2 := of_decide_eq_true h2
  refine hI.go _ _ (den251 I s Q) ?_
  refine spec174 hI ⟨_, rfl, ifT_intro (fun _ => ⟨⟨by omega, by omega⟩, ifT_intro (fun _ => ?_) fun e => by rw [h3] at e; cases e⟩) fun e => ?_⟩
  · have ew : IntKind.i64.wrap ((s.size : Int) - 1) = (s.size : Int) - 1 := by rw [w64] <;> omega
    rw [ew]
    refine ⟨⟨by omega, by omega⟩, ifT_intro (fun _ => ?_) fun e => by rw [h4] at e; cases e⟩
    exact spec176g hI (p := labB) (fun b Q hQ => spec268 hI hQ) (by omega) ⟨_, rfl, by rw [h5]; exact hQ⟩
  · exfalso
    simp at e
    omega
theorem ann_cut : Lib.cut annS.data.toList (⟨#[64]⟩ : ByteArray).data.toList = ([97, 110, 110], [98, 46, 100, 101], true) := by decide +kernel
theorem ann_split : Lib.splitB ⟨#[46]⟩ 0 (Lib.countB ⟨#[98, 46, 100, 101]⟩ ⟨#[46]⟩) ⟨#[98, 46, 100, 101]⟩ = [⟨#[98]⟩, ⟨#[100, 101]⟩] := by decide +kernel
/-- The one address that is drawn is right. -/
theorem spec218 (hI : Closed' prog Pm I) (hL : LibI I TT) (Q : Post) (h : Heap) (hT : TT h) (hQ : ∀ h', Ext h h' → Q [boo true] h') : I 218 [str annS] Q h := by
  refine hI.go _ _ (den218 I annS Q) ?_
  refine hL.cut hT (by decide) ?_
  rw [ann_cut]
  refine ⟨_, _, _, rfl, joinK_intro (fun (b : Bool) g => h = g ∧ b = false) ?_ fun jk hjk => ?_⟩
  case refine_2 =>
    refine ifT_intro (fun e => by cases e) fun _ => ifT_dec (fun e => absurd e (by decide)) fun _ => spec174 hI ⟨_, rfl, ifT_intro (fun e => absurd e (by decide)) fun _ => ⟨by decide, ifT_intro (fun e => absurd e (by decide +kernel)) fun _ => ⟨by decide, ifT_intro (fun e => absurd e (by decide +kernel)) fun _ => ?_⟩⟩⟩
    refine hL.has hT (by decide) ⟨_, rfl, hjk _ _ ⟨rfl, by decide +kernel⟩⟩
  rintro b _ ⟨rfl, rfl⟩
  refine ifT_intro (fun e => by cases e) fun _ => ?_
  refine spec176g hI (p := mailB) (fun b Q hQ => spec250 hI hQ) (by decide) ⟨_, rfl, ifT_intro (fun e => absurd e (by decide +kernel)) fun _ => ?_⟩
  refine hL.split hT (by decide) (by decide) fun sl h1 x1 hsl => ⟨_, rfl, ?_⟩
  rw [ann_split] at hsl
  have ls := strs_len hsl
  refine loopK_intro (fun (n : Int) h' m => h1 = h' ∧ ∃ i : Nat, i ≤ 2 ∧ n = i ∧ 2 - i = m) 2 ⟨rfl, 0, by omega, rfl, rfl⟩ ?_
  rintro n h' m ⟨rfl, i, hi, rfl, rfl⟩
  have next : i < 2 → ∃ m', m' < 2 - i ∧ h1 = h1 ∧ ∃ k : Nat, k ≤ 2 ∧ IntKind.i64.wrap ((i : Int) + 1) = k ∧ 2 - k = m' := fun hi => ⟨2 - (i + 1), by omega, rfl, i + 1, by omega, by rw [w64] <;> omega, rfl⟩
  refine ifT_dec (fun hlt => ⟨⟨by omega, hlt⟩, ?_⟩) fun hge => ?_
  · have hi2 : i = 0 ∨ i = 1 := by simp at ls; omega
    rcases hi2 with rfl | rfl
    · refine hsl.strRow (i := 0) (x := ⟨#[98]⟩) rfl fun bb oo hr => ⟨_, hr, spec251 hI (by decide +kernel) ⟨_, rfl, ifT_intro (fun e => by cases e) fun _ => next (by omega)⟩⟩
    · refine hsl.strRow (i := 1) (x := ⟨#[100, 101]⟩) rfl fun bb oo hr => ⟨_, hr, spec251 hI (by decide +kernel) ⟨_, rfl, ifT_intro (fun e => by cases e) fun _ => next (by omega)⟩⟩
  · have e : decide ((sl.len : Int) ≥ 2) = true := decide_eq_true (by rw [ls]; decide)
    rw [e]
    exact hQ h1 x1
theorem errV_size {v : Val} (h : errV v = 0) : v.text.size ≤ 1000000 := by
  unfold errV at h
  by_cases e : v.kind = 1
  · rw [if_pos e] at h
    by_cases e2 : v.num ≠ 0
    · rw [if_pos e2] at h; cases h
    · rw [if_neg e2] at h
      unfold errT at h
      by_cases e3 : 200 < v.text.size
      · rw [if_pos e3] at h; cases h
      · omega
  · rw [if_neg e] at h
    cases eb : boundsV v.kind with
    | none => rw [eb] at h; cases h
    | some p =>
      rw [eb] at h
      obtain ⟨a, b⟩ := p
      simp only at h
      by_cases e2 : v.text ≠ tE
      · rw [if_pos e2] at h; cases h
      · rw [Decidable.of_not_not e2]; decide
theorem RecOk.row {s : Sl} {fs : List Fld} (r : RecOk h s fs) : RowF h s fs := by
  obtain ⟨f1, f2, f3⟩ := r.ok
  exact ⟨r.at_, by omega, r.up, fun f hf => errV_size (f2 f hf).2⟩
theorem cents_item : (⟨#[99, 101, 110, 116, 115]⟩ : ByteArray).toList < (⟨#[105, 116, 101, 109]⟩ : ByteArray).toList := by decide +kernel
theorem EvOk.row {s : Sl} {evs : List (Evt × Sl)} (r : EvOk h s evs) : RowE h s evs := by
  refine ⟨r.at_, fun p hp => ?_, by have := r.len; omega, r.order, r.time⟩
  have g := r.good p hp
  obtain ⟨f1, f2, f3⟩ := fields_ok g
  refine ⟨r.flds p hp, by omega, ?_, fun f hf => errV_size (f2 f hf).2⟩
  obtain ⟨c, it, he, hc, hi⟩ := g.flds
  unfold upF
  rw [he]
  rcases hc with rfl | ⟨n, hn, rfl⟩ <;> rcases hi with rfl | ⟨s, hs, rfl⟩
  · simp
  · simp
  · simp
  · simp; decide
/-- A condition of which one can ask. -/
structure AskC (c : CT) : Prop where
  err : errCond c = 0
  nar : c.narrow
  size : c.size < 1000000
theorem AskC.tr {c : CT} (a : AskC c) : trE errN c = 0 := by
  have := a.err
  unfold errCond at this
  by_cases e : 300 < c.size ∨ 20 < c.deep
  · rw [if_pos e] at this; cases this
  · rw [if_neg e] at this; exact this
theorem AskC.fine {c : CT} (a : AskC c) : Fine c := fine_of a.tr a.nar
/-- What a condition is, as one asks. -/
theorem spec11 (hI : Closed' prog Pm I) (hL : LibI I TT) (hT : TT h) {c : CT} {r : List Cell} {sr se : Sl} {fs : List Fld} {evs : List (Evt × Sl)} {n : Int} (hc : CondAt h c r) (ha : AskC c) (hr : RecOk h sr fs) (hv : EvOk h se evs) (hn : 0 ≤ n ∧ n ≤ 4321439)
    (hQ : ∀ h', Ext h h' → Q [boo (evC (leafB fs (evs.map (·.1)) n) c), int 0] h') : I 11 [.agg r, .one (.slice 4 sr), .one (.slice 6 se), int n] Q h := by
  obtain ⟨sv, sw, sa, rfl, _⟩ := hc.parts
  refine hI.go _ _ (den11 I c.kind c.name c.field c.sign sv sw c.within c.num sa sr se n Q) ?_
  refine spec32 hI hL (spec218 hI hL) hT (r := condC c sv sw sa) hc ha.size ha.nar ha.err hr hv hn fun h1 x1 => ⟨_, rfl, ifT_intro (fun e => absurd rfl (nd e)) fun _ => ?_⟩
  refine spec33 hI hL c.size (Nat.le_refl _) (B := h) (r := condC c sv sw sa) (hL.ext x1 hT) x1 hc ha.fine ha.size hr.row hv.row fun b h2 x2 _ hnode => ⟨_, rfl, ?_⟩
  have hnode := hnode.ext (Up.real x1 x2)
  exact spec38 hI hv.row.good hn.1 hn.2 c.size (Nat.le_refl _) hnode ha.fine ha.size fun h3 x3 => ⟨_, rfl, hQ h3 ((x1.trans x2).trans x3)⟩
end
end Go.Proofs.YteldpijfienopaaGreatDoorVc
-- RsMean9
namespace Go.Proofs.YteldpijfienopaaGreatDoorVc
open Go.Proofs.Tryz (prog)
theorem whyRow_eq1 {lf : CT → Bool} {is an : Bool} (h : is = an) : ∀ (al acc : List CT), whyRow lf is an al acc = acc ++ al.flatMap (whyC lf)
  | [], acc => by simp [whyRow]
  | a :: al, acc => by
    rw [whyRow, if_neg (by simp [h]), whyRow_eq1 h al]
    simp
theorem whyRow_eq2 {lf : CT → Bool} {is an : Bool} (h : ¬ is = an) : ∀ (al acc : List CT), (∃ a ∈ al, evC lf a = is) → ∃ a ∈ al, evC lf a = is ∧ whyRow lf is an al acc = whyC lf a
  | [], acc, h2 => by obtain ⟨a, ha, _⟩ := h2; cases ha
  | a :: al, acc, h2 => by
    by_cases e : evC lf a = is
    · exact ⟨a, by simp, e, by rw [whyRow, if_pos (by simp [h, e])]⟩
    · obtain ⟨b, hb, h3, h4⟩ := whyRow_eq2 h al (acc ++ whyC lf a) (by
        obtain ⟨b, hb, hb2⟩ := h2
        rcases List.mem_cons.1 hb with rfl | hb
        · exact absurd hb2 e
        · exact ⟨b, hb, hb2⟩)
      exact ⟨b, by simp [hb], h3, by rw [whyRow, if_neg (by simp [e]), h4]⟩
theorem errN_not {c : CT} : errN (notC c) = 0 := errN_node (k := 5) (al := [c]) (.inr ⟨rfl, rfl⟩)
theorem leaf_ask {c : CT} (he : errN c = 0) (ha : c.args = []) (h1 : c.vals.length < 1000000) (h2 : c.whs.length < 1000000) : AskC c ∧ AskC (notC c) := by
  have t1 : trE errN c = 0 := by rw [trE_eq, if_neg (by rw [he]; decide), ha]; simp [trsE]
  have s1 : c.size = 1 := by rw [c.size_eq, ha]; simp [sizes]
  have d1 : c.deep = 1 := by rw [c.deep_eq, ha]; simp [deeps]
  have n1 : c.narrow := narrow_leaf ha h1 h2
  have s2 : (notC c).size = 2 := by rw [CT.size_eq]; simp [notC, CT.args, sizes, s1]
  have d2 : (notC c).deep = 2 := by rw [CT.deep_eq]; simp [notC, CT.args, deeps, d1]
  have t2 : trE errN (notC c) = 0 := by rw [trE_eq, if_neg (by rw [errN_not]; decide)]; simp [notC, CT.args, trsE, t1]
  have n2 : (notC c).narrow := by rw [CT.narrow_eq]; exact ⟨by simp [notC, CT.vals], by simp [notC, CT.whs], by simp [notC, CT.args, narrows, n1]⟩
  refine ⟨⟨?_, n1, by omega⟩, ⟨?_, n2, by omega⟩⟩
  · unfold errCond; rw [if_neg (by omega)]; exact t1
  · unfold errCond; rw [if_neg (by omega)]; exact t2
theorem Fine.leaf {c : CT} (h : Fine c) (h1 : ¬ (c.kind = 1 ∨ c.kind = 2)) (h5 : ¬ c.kind = 5) (h3 : ¬ (c.kind = 3 ∨ c.kind = 4)) : c.args = [] ∧ ∀ lf, evC lf c = lf c := by
  rcases errN_kind h.parts.1 with k | k | ⟨k, _⟩ | k
  · exact absurd k h1
  · exact absurd k h3
  · exact absurd k h5
  · refine ⟨k.2.2, fun lf => ?_⟩
    rw [evC_eq, if_neg (by omega), if_neg (by omega), if_neg (by omega), if_neg (by omega), if_neg (by omega)]
theorem one_arg {c : CT} (h : errN c = 0) (h5 : c.kind = 5) : ∃ a, c.args = [a] := by
  rcases errN_kind h with k | k | ⟨_, k⟩ | k
  · omega
  · omega
  · exact List.length_eq_one_iff.1 k
  · omega
/-- All reasons are right, they are true, and where they are true the condition is what it was. -/
theorem why_law (lf : CT → Bool) : ∀ (N : Nat) (c : CT), c.size ≤ N → Fine c → (∀ x ∈ whyC lf c, AskC x ∧ evC lf x = true) ∧ ∀ lf' : CT → Bool, (∀ x ∈ whyC lf c, evC lf' x = true) → evC lf' c = evC lf c := by
  intro N
  induction N with
  | zero => intro c hc; have := c.one_le; omega
  | succ N ih =>
    intro c hc hf
    obtain ⟨f1, f2, f3, f4⟩ := hf.parts
    have kid : ∀ a ∈ c.args, (∀ x ∈ whyC lf a, AskC x ∧ evC lf x = true) ∧ ∀ lf' : CT → Bool, (∀ x ∈ whyC lf a, evC lf' x = true) → evC lf' a = evC lf a := fun a ha => by
      have := CT.size_args ha
      exact ih a (by omega) (f4.mem ha)
    rw [whyC_eq]
    by_cases e : c.kind = 1 ∨ c.kind = 2
    · rw [if_pos e]
      refine ⟨fun x hx => (by cases hx), fun lf' _ => ?_⟩
      rw [evC_eq, evC_eq]
      rcases e with e | e
      · rw [if_pos e, if_pos e]
      · rw [if_neg (by omega), if_pos e, if_neg (by omega), if_pos e]
    rw [if_neg e]
    by_cases e5 : c.kind = 5
    · rw [if_pos e5]
      obtain ⟨a, ha⟩ := one_arg f1 e5
      obtain ⟨k1, k2⟩ := kid a (by rw [ha]; simp)
      rw [ha, whyHd]
      refine ⟨k1, fun lf' h => ?_⟩
      rw [evC_eq, evC_eq lf, ha]
      rw [if_neg (by omega), if_neg (by omega), if_neg (by omega), if_neg (by omega), if_pos e5, if_neg (by omega), if_neg (by omega), if_neg (by omega), if_neg (by omega), if_pos e5, evHd, evHd, k2 lf' h]
    rw [if_neg e5]
    by_cases e34 : c.kind = 3 ∨ c.kind = 4
    · rw [if_pos e34]
      by_cases his : evC lf c = decide (c.kind = 3)
      · rw [whyRow_eq1 his, List.nil_append]
        refine ⟨fun x hx => ?_, fun lf' h => ?_⟩
        · obtain ⟨a, ha, hx⟩ := List.mem_flatMap.1 hx
          exact (kid a ha).1 x hx
        · have same : ∀ a ∈ c.args, evC lf' a = evC lf a := fun a ha => (kid a ha).2 lf' fun x hx => h x (List.mem_flatMap.2 ⟨a, ha, hx⟩)
          have h1 : ∀ al : List CT, (∀ a ∈ al, evC lf' a = evC lf a) → al.all (evC lf') = al.all (evC lf) ∧ al.any (evC lf') = al.any (evC lf) := fun al => by
            induction al with
            | nil => intro _; exact ⟨rfl, rfl⟩
            | cons a al ih =>
              intro h
              obtain ⟨i1, i2⟩ := ih fun b hb => h b (by simp [hb])
              simp only [List.all_cons, List.any_cons, h a (by simp), i1, i2, and_self]
          obtain ⟨a1, a2⟩ := h1 _ same
          rw [evC_eq, evC_eq lf, evAll_all, evAll_all, evAny_any, evAny_any, a1, a2]
          rcases e34 with e3 | e4
          · rw [if_neg (by omega), if_neg (by omega), if_pos e3, if_neg (by omega), if_neg (by omega), if_pos e3]
          · rw [if_neg (by omega), if_neg (by omega), if_neg (by omega), if_pos e4, if_neg (by omega), if_neg (by omega), if_neg (by omega), if_pos e4]
      · have hex : ∃ a ∈ c.args, evC lf a = evC lf c := by
          rcases e34 with e3 | e4
          · have hv : evC lf c = c.args.all (evC lf) := by rw [evC_eq, if_neg (by omega), if_neg (by omega), if_pos e3, evAll_all]
            rw [decide_eq_true e3] at his
            have hfalse : evC lf c = false := by simpa using his
            rw [hv] at hfalse
            obtain ⟨a, ha, hb⟩ := List.all_eq_false.1 hfalse
            exact ⟨a, ha, by rw [hv, hfalse]; simpa using hb⟩
          · have hv : evC lf c = c.args.any (evC lf) := by rw [evC_eq, if_neg (by omega), if_neg (by omega), if_neg (by omega), if_pos e4, evAny_any]
            rw [decide_eq_false (by omega)] at his
            have htrue : evC lf c = true := by simpa using his
            rw [hv] at htrue
            obtain ⟨a, ha, hb⟩ := List.any_eq_true.1 htrue
            exact ⟨a, ha, by rw [hv, htrue]; exact hb⟩
        obtain ⟨a, ha, h1, h2⟩ := whyRow_eq2 his c.args [] hex
        rw [h2]
        obtain ⟨k1, k2⟩ := kid a ha
        refine ⟨k1, fun lf' h => ?_⟩
        have h3 := k2 lf' h
        rw [h1] at h3
        rcases e34 with e3 | e4
        · rw [decide_eq_true e3] at his
          have hfalse : evC lf c = false := by simpa using his
          rw [hfalse] at h3 ⊢
          rw [evC_eq, if_neg (by omega), if_neg (by omega), if_pos e3, evAll_all]
          exact List.all_eq_false.2 ⟨a, ha, by simp [h3]⟩
        · rw [decide_eq_false (by omega)] at his
          have htrue : evC lf c = true := by simpa using his
          rw [htrue] at h3 ⊢
          rw [evC_eq, if_neg (by omega), if_neg (by omega), if_neg (by omega), if_pos e4, evAny_any]
          exact List.any_eq_true.2 ⟨a, ha, h3⟩
    rw [if_neg e34]
    obtain ⟨l1, l2⟩ := hf.leaf e e5 e34
    obtain ⟨k1, k2⟩ := leaf_ask f1 l1 f2 f3
    have hnot : ∀ lf, evC lf (notC c) = !lf c := fun lf => by
      rw [evC_eq]
      show (if (5 : Int) = 1 then true else if (5 : Int) = 2 then false else if (5 : Int) = 3 then _ else if (5 : Int) = 4 then _ else if (5 : Int) = 5 then !evHd lf [c] else _) = _
      rw [if_neg (by decide), if_neg (by decide), if_neg (by decide), if_neg (by decide), if_pos rfl, evHd, l2]
    by_cases el : lf c = true
    · rw [if_pos el]
      refine ⟨fun x hx => ?_, fun lf' h => ?_⟩
      · rw [List.mem_singleton.1 hx]; exact ⟨k1, by rw [l2]; exact el⟩
      · rw [h c (by simp), l2, el]
    · rw [if_neg el]
      have el2 : lf c = false := by simpa using el
      refine ⟨fun x hx => ?_, fun lf' h => ?_⟩
      · rw [List.mem_singleton.1 hx]; exact ⟨k2, by rw [hnot, el2]; rfl⟩
      · have := h (notC c) (by simp)
        rw [hnot] at this
        rw [l2, l2, el2]
        simpa using this
/-- Each once: the same are there. -/
theorem dedC_mem : ∀ {xs acc : List CT}, (∀ x ∈ xs, trE errN x = 0) → (∀ x ∈ acc, trE errN x = 0) → ∀ x, x ∈ dedC xs acc ↔ x ∈ xs ∨ x ∈ acc
  | [], acc, _, _, x => by simp [dedC]
  | y :: xs, acc, h1, h2, x => by
    unfold dedC
    by_cases e : (acc.any fun z => decide (cmpC y z = 0)) = true
    · rw [if_pos e, dedC_mem (fun z hz => h1 z (by simp [hz])) h2]
      obtain ⟨z, hz, he⟩ := List.any_eq_true.1 e
      have : y = z := cmpC_zero (h1 y (by simp)) (h2 z hz) (of_decide_eq_true he)
      subst this
      simp only [List.mem_cons]
      constructor
      · rintro (h | h)
        · exact .inl (.inr h)
        · exact .inr h
      · rintro ((rfl | h) | h)
        · exact .inr hz
        · exact .inl h
        · exact .inr h
    · rw [if_neg e, dedC_mem (fun z hz => h1 z (by simp [hz])) (fun z hz => by
        rcases List.mem_append.1 hz with hz | hz
        · exact h2 z hz
        · rw [List.mem_singleton.1 hz]; exact h1 y (by simp))]
      simp only [List.mem_cons, List.mem_append, List.not_mem_nil, or_false]
      constructor
      · rintro (h | h | h)
        · exact .inl (.inr h)
        · exact .inr h
        · exact .inl (.inl h)
      · rintro ((h | h) | h)
        · exact .inr (.inr h)
        · exact .inl h
        · exact .inr (.inl h)
theorem dedC_at {xs : List CT} {k : Nat} {x : CT} {acc : List CT} (hx : xs[k]? = some x) : dedC (xs.drop k) acc = if (acc.any fun y => decide (cmpC x y = 0)) = true then dedC (xs.drop (k + 1)) acc else dedC (xs.drop (k + 1)) (acc ++ [x]) := by
  obtain ⟨hi, rfl⟩ := List.getElem?_eq_some_iff.1 hx
  rw [List.drop_eq_getElem_cons hi, dedC]
section
variable {Pm : Prim} {I : Calls} {Q : Post} {h : Heap} {TT : Heap → Prop}
/-- The reasons that one gets. -/
def reasons (fs : List Fld) (l : List Evt) (n : Int) (c : CT) : List CT := dedC (whyC (leafB fs l n) c) []
theorem spec10 (hI : Closed' prog Pm I) (hL : LibI I TT) (hT : TT h) {c : CT} {r : List Cell} {sr se : Sl} {fs : List Fld} {evs : List (Evt × Sl)} {n : Int} (hc : CondAt h c r) (ha : AskC c) (hr : RecOk h sr fs) (hv : EvOk h se evs) (hn : 0 ≤ n ∧ n ≤ 4321439)
    (hQ : ∀ s rs h', Ext h h' → AtS (Nw h h') 9 s rs.flatten → CondsAt (Nw h h') (reasons fs (evs.map (·.1)) n c) rs → Q [.one (.slice 9 s), int 0] h') : I 10 [.agg r, .one (.slice 4 sr), .one (.slice 6 se), int n] Q h := by
  obtain ⟨sv, sw, sa, rfl, _⟩ := hc.parts
  refine hI.go _ _ (den10 I c.kind c.name c.field c.sign sv sw c.within c.num sa sr se n Q) ?_
  refine spec32 hI hL (spec218 hI hL) hT (r := condC c sv sw sa) hc ha.size ha.nar ha.err hr hv hn fun h1 x1 => ⟨_, rfl, ifT_intro (fun e => absurd rfl (nd e)) fun _ => ?_⟩
  refine spec33 hI hL c.size (Nat.le_refl _) (B := h) (r := condC c sv sw sa) (hL.ext x1 hT) x1 hc ha.fine ha.size hr.row hv.row fun b h2 x2 _ hnode => ⟨_, rfl, ?_⟩
  have hnode := hnode.ext (Up.real x1 x2)
  refine spec34 hI hv.row.good hn.1 hn.2 c.size (Nat.le_refl _) hnode ha.fine ha.size fun s0 rs0 h3 x3 a3 c3 => ⟨_, rfl, ?_⟩
  have x13 := (x1.trans x2).trans x3
  have a3 := a3.ext (Nw.later (h' := h3) (x1.trans x2))
  have c3 := CondsAt.ext (Nw.later (h' := h3) (x1.trans x2)) c3
  have hx3 : Ext (Nw h h3) h3 := Nw.ext _ _
  obtain ⟨w1, _⟩ := why_law (leafB fs (evs.map (·.1)) n) c.size c (Nat.le_refl _) ha.fine
  unfold reasons at hQ
  have hwl := whyC_len (leafB fs (evs.map (·.1)) n) c
  generalize whyC (leafB fs (evs.map (·.1)) n) c = xs at hQ c3 w1 hwl
  have hsz := ha.size
  have l0 := c3.len
  have ls : s0.len = xs.length := by have := a3.len; rw [flat9 l0.2] at this; omega
  refine loopK_intro (fun (p : Sl × Int) h' m => ∃ (k : Nat) (s : Sl) (acc : List CT) (rs : List (List Cell)), k ≤ xs.length ∧ p = (s, (k : Int)) ∧ xs.length - k = m ∧ Owns h3 h' ((9, s, rs.flatten) :: []) ∧ CondsAt (Nw h h3) acc rs ∧
    dedC xs [] = dedC (xs.drop k) acc ∧ acc.length ≤ k ∧ ∀ a ∈ acc, AskC a) xs.length
    ⟨0, _, [], [], by omega, rfl, rfl, (Owns.nil h3).none_ 9, CondsAt.nil _, rfl, by simp, by simp⟩ ?_
  intro p h4 m hp
  obtain ⟨k, s, acc, rs, hk, hp, hm, o, hcs, hded, hacc, hask⟩ := hp
  subst hp
  subst hm
  dsimp only [uncur]
  refine ifT_dec (fun hlt => ⟨⟨by omega, hlt⟩, ?_⟩) fun hge => ?_
  · obtain ⟨x, hx⟩ : ∃ x, xs[k]? = some x := ⟨_, List.getElem?_eq_getElem (by omega)⟩
    have hax := (w1 x (List.mem_of_getElem? hx)).1
    rw [dedC_at hx] at hded
    have y4 := hx3.trans o.ext
    refine CondsAt.rowIn y4 c3 a3.at_ hx fun bb oo r hcx hr => ?_
    obtain ⟨sv2, sw2, sa2, rfl, _⟩ := hcx.parts
    refine ⟨_, _, _, _, _, _, _, _, _, hr, newK_intro fun i1 h5 hn5 he5 => ?_⟩
    have hc5 : h5 i1 = some (.cells false [Cell.int IntKind.i64 0, Cell.str ByteArray.empty, Cell.str ByteArray.empty, Cell.str ByteArray.empty, Cell.slice 3 { a := none, len := 0 }, Cell.slice 5 { a := none, len := 0 }, Cell.int IntKind.i64 0, Cell.int IntKind.i64 0, Cell.slice 9 { a := none, len := 0 }]) := by rw [he5]; exact Heap.set_same ..
    refine storeK_whole (ns := condC x sv2 sw2 sa2) hc5 rfl ?_
    have x5 : Ext h4 (h5.set i1 (.cells false (condC x sv2 sw2 sa2))) := by rw [he5, set_set]; exact Ext.new hn5
    have hrd : (h5.set i1 (.cells false (condC x sv2 sw2 sa2))) i1 = some (.cells false (condC x sv2 sw2 sa2)) := Heap.set_same ..
    generalize h5.set i1 (.cells false (condC x sv2 sw2 sa2)) = h6 at x5 hrd
    have o6 := o.mono x5
    refine spec35 hI (B := Nw h h3) (y4.trans x5) (o6.at_ (sz := 9) (s := s) (cs := rs.flatten) (by simp)) hcs hcx hrd (fun a ha => ⟨(hask a ha).nar, (hask a ha).size⟩) ⟨hax.nar, hax.size⟩ (by omega) fun h7 x7 => ⟨_, rfl, ?_⟩
    have o7 := o6.mono x7
    refine ifT_intro (fun e => ?_) fun e => ?_
    · rw [if_neg (by simpa using e)] at hded
      have rd9 : h7.read i1 0 9 = some (condC x sv2 sw2 sa2) := by rw [read_block (x7 _ _ hrd) (show 0 + 9 ≤ 9 by decide)]; rfl
      have l1 := hcs.len
      have lsl : s.len = acc.length := by have := (o.at_ (sz := 9) (s := s) (cs := rs.flatten) (by simp)).1; rw [flat9 l1.2] at this; omega
      refine ⟨_, _, _, _, _, _, _, _, _, rd9, appendTo_owns (m := 0) o7 (by rfl) (by omega) (by simp) fun j h8 o8 => ?_⟩
      refine ⟨xs.length - (k + 1), by omega, k + 1, ⟨some (j, 0), s.len + (0 + 1)⟩, acc ++ [x], rs ++ [condC x sv2 sw2 sa2], by omega, by rw [show IntKind.i64.wrap ((k : Int) + 1) = ((k + 1 : Nat) : Int) by rw [w64] <;> omega], rfl, ?_, CondsAt.append hcs hcx, hded, by simp; omega, fun a ha => ?_⟩
      · rw [flat_snoc]; exact o8
      · rcases List.mem_append.1 ha with ha | ha
        · exact hask a ha
        · rw [List.mem_singleton.1 ha]; exact hax
    · rw [if_pos (by simpa using e)] at hded
      exact ⟨xs.length - (k + 1), by omega, k + 1, s, acc, rs, by omega, by rw [show IntKind.i64.wrap ((k : Int) + 1) = ((k + 1 : Nat) : Int) by rw [w64] <;> omega], rfl, o7, hcs, hded, by omega, hask⟩
  · have hk2 : k = xs.length := by omega
    subst hk2
    rw [List.drop_length, dedC] at hded
    rw [hded] at hQ
    exact hQ s rs h4 (x13.trans o.ext) (Nw.ownS0 (o.onto x13) List.mem_cons_self) (CondsAt.ext (Nw.grow o.ext) hcs)
end
end Go.Proofs.YteldpijfienopaaGreatDoorVc
-- RsQuiet
namespace Go.Proofs.YteldpijfienopaaGreatDoorVc
open Go.Proofs Go.RowKit
open Go.Proofs.Tryz (prog)
theorem quiet112 : Quiet prog 112 3 := by
  refine ⟨⟨_, Tryz.func112, by kernel_rfl, by kernel_rfl⟩, fun args w hsz => ?_⟩
  obtain ⟨p, q, r, rfl⟩ : ∃ p q r, args = #[p, q, r] := by
    obtain ⟨l⟩ := args
    match l, hsz with
    | [p, q, r], _ => exact ⟨p, q, r, rfl⟩
  refine callsD_of_wpS Tryz.func112 rfl fun c₀ cs hu => ?_
  apply wpS_seq
  apply wpS_region
  simp [wpOpsS, go_sem, recoverD, hu, Tryz.ntmps112, Exit.thenS]
  have hnil : ∀ w : World, (binOp BinOp.neq 20 .nilIface .nilIface).run prog w = .ok (.bool false) w := fun _ => by kernel_rfl
  apply wpS_seq
  apply wpS_region
  simp [wpOpsS, go_sem, Exit.thenS, hnil]
  refine wpS_cond (t := false) (by simp [Act.eval]) ?_
  simp only [if_false, Bool.false_eq_true]
  refine wpS_of_wp (wp_skip ?_)
  cases c₀
  simp_all [bodyPostS, results, Tryz.results112, Exit.thenS]
end Go.Proofs.YteldpijfienopaaGreatDoorVc
-- RsSeg
namespace Go.Proofs.YteldpijfienopaaGreatDoorVc
open Go.Proofs.Tryz (prog)
def spaceB (b : UInt8) : Bool := decide (b.toNat = 32) || decide (b.toNat = 10)
def pWordB (b : UInt8) : Bool := smallB b || digitB b || decide (b.toNat = 45) || decide (b.toNat = 95)
/-- What a parser holds. -/
def pst (t : ByteArray) (n k a : Int) (s : ByteArray) : List Cell := [.str t, .int .i64 n, .int .i64 k, .int .i64 a, .str s]
section
variable {Pm : Prim} {I : Calls} {Q : Post} {h h0 : Heap} {TT : Heap → Prop} {L : List Ow}
theorem spec159 (hI : Closed' prog Pm I) {b : UInt8} (hQ : Q [boo (spaceB b)] h) : I 159 [u8 b] Q h := by
  refine hI.go _ _ (den159 I _ Q) ?_
  unfold spaceB at hQ
  refine ifT_dec (fun e => ?_) fun e => ?_
  · rw [show decide (b.toNat = 32) = true from decide_eq_true (by omega)] at hQ; exact hQ
  · rw [show decide (b.toNat = 32) = false from decide_eq_false (by omega), Bool.false_or, ← nat_dec b.toNat 10] at hQ; exact hQ
theorem spec160 (hI : Closed' prog Pm I) {b : UInt8} (hQ : Q [boo (smallB b)] h) : I 160 [u8 b] Q h := by
  refine hI.go _ _ (den160 I _ Q) ?_
  refine ifT_dec (fun e => ?_) fun e => ?_
  · have : decide ((b.toNat : Int) ≤ 122) = smallB b := by
      unfold smallB
      rw [show decide (97 ≤ b.toNat) = true from decide_eq_true (by omega), Bool.true_and, decide_eq_decide]; omega
    rw [this]; exact hQ
  · have : smallB b = false := by
      unfold smallB
      rw [show decide (97 ≤ b.toNat) = false from decide_eq_false (by omega), Bool.false_and]
    rw [this] at hQ; exact hQ
theorem spec162 (hI : Closed' prog Pm I) {b : UInt8} (hQ : Q [boo (digitB b)] h) : I 162 [u8 b] Q h := by
  refine hI.go _ _ (den162 I _ Q) ?_
  refine ifT_dec (fun e => ?_) fun e => ?_
  · have : decide ((b.toNat : Int) ≤ 57) = digitB b := by
      unfold digitB
      rw [show decide (48 ≤ b.toNat) = true from decide_eq_true (by omega), Bool.true_and, decide_eq_decide]; omega
    rw [this]; exact hQ
  · have : digitB b = false := by
      unfold digitB
      rw [show decide (48 ≤ b.toNat) = false from decide_eq_false (by omega), Bool.false_and]
    rw [this] at hQ; exact hQ
theorem spec161 (hI : Closed' prog Pm I) {b : UInt8} (hQ : Q [boo (pWordB b)] h) : I 161 [u8 b] Q h := by
  refine hI.go _ _ (den161 I _ Q) ?_
  unfold pWordB at hQ
  refine spec160 hI ⟨_, rfl, ifT_intro (fun h1 => ?_) fun h1 => spec162 hI ⟨_, rfl, ifT_intro (fun h2 => ?_) fun h2 => ifT_dec (fun h4 => ?_) fun h4 => ?_⟩⟩
  · rw [h1] at hQ; exact hQ
  · rw [h1, h2] at hQ; exact hQ
  · rw [h1, h2, show b.toNat = 45 by omega] at hQ; exact hQ
  · rw [h1, h2, show decide (b.toNat = 45) = false from decide_eq_false (by omega), Bool.false_or, Bool.false_or, Bool.false_or, ← nat_dec b.toNat 95] at hQ; exact hQ
/-- The end of a row of bytes of a kind. -/
theorem spec158 (hI : Closed' prog Pm I) {g : FuncId} {p : UInt8 → Bool} {b : Nat} {t : ByteArray} {r : List Cell} {n j : Nat} (hg : ∀ (b : UInt8) (Q : Post), Q [boo (p b)] h → I g [u8 b] Q h) (hc : h b = some (.cells false (.str t :: r))) (hn : n ≤ j) (hj : j ≤ t.size) (hs : t.size < 1000000)
    (hall : ∀ k, n ≤ k → k < j → ∃ c, (bl t)[k]? = some c ∧ p c = true) (hend : j = t.size ∨ ∃ c, (bl t)[j]? = some c ∧ p c = false) (hQ : Q [int (j : Int)] h) : I 158 [.one (.ptr (some (b, 0))), int (n : Int), .one (.func (some (g, [])))] Q h := by
  refine hI.go _ _ (den158 I (some (b, 0)) (n : Int) (some (g, [])) Q) ?_
  refine loopK_intro (fun (a : Int) h' m => h = h' ∧ ∃ k : Nat, n ≤ k ∧ k ≤ j ∧ a = k ∧ j - k = m) (j - n) ⟨rfl, n, by omega, hn, rfl, rfl⟩ ?_
  rintro a h' m ⟨rfl, k, hk, hkj, rfl, rfl⟩
  have rd : h.read b (0 + 0) 1 = some [.str t] := read_cell hc rfl
  refine derefK_intro rfl ⟨t, rd, ifT_dec (fun e => derefK_intro rfl ⟨t, rd, ⟨by omega, e⟩, ?_⟩) fun e => ?_⟩
  · by_cases ek : k = j
    · subst ek
      rcases hend with hend | ⟨c, h1, h2⟩
      · omega
      · rw [byteAt_bl h1]
        refine hg c _ ⟨_, rfl, ?_⟩
        rw [h2]
        exact ifT_intro (fun e => by cases e) fun _ => hQ
    · obtain ⟨c, h1, h2⟩ := hall k hk (by omega)
      rw [byteAt_bl h1]
      refine hg c _ ⟨_, rfl, ?_⟩
      rw [h2]
      exact ifT_intro (fun _ => ⟨j - (k + 1), by omega, rfl, k + 1, by omega, by omega, by rw [w64] <;> omega, rfl⟩) fun e => by cases e
  · have : k = j := by omega
    subst this; exact hQ
/-- A word is the next token. -/
theorem scan_word (hI : Closed' prog Pm I) {b : Nat} {t s : ByteArray} {n i j : Nat} {k a : Int} {c : UInt8} (o : Owns h0 h ((5, ⟨some (b, 0), 1⟩, pst t n k a s) :: L)) (hs : t.size < 1000000) (hni : n ≤ i) (hij : i < j) (hj : j ≤ t.size) (hsp : ∀ q, n ≤ q → q < i → ∃ c, (bl t)[q]? = some c ∧ spaceB c = true)
    (hc : (bl t)[i]? = some c) (h1 : spaceB c = false) (h2 : smallB c = true) (hw : ∀ q, i ≤ q → q < j → ∃ c, (bl t)[q]? = some c ∧ pWordB c = true) (he : j = t.size ∨ ∃ c, (bl t)[j]? = some c ∧ pWordB c = false)
    (hQ : ∀ h', Owns h0 h' ((5, ⟨some (b, 0), 1⟩, pst t j 1 i (t.extract i j)) :: L) → Q [] h') : I 113 [.one (.ptr (some (b, 0)))] Q h := by
  refine hI.go _ _ (den113 I (some (b, 0)) Q) ?_
  have hcell := (o.block (sz := 5) (i := b) (n := 1) List.mem_cons_self).1
  refine derefK_intro rfl ⟨(n : Int), read_cell hcell rfl, ?_⟩
  refine spec158 hI (p := spaceB) (fun b Q hQ => spec159 hI hQ) hcell hni (by omega) hs hsp (.inr ⟨c, hc, h1⟩) ⟨_, rfl, derefK_intro rfl ?_⟩
  refine storeK_one hcell (by simp [pst]) ?_
  have o2 := o.change (n' := 1) (sz' := 5) (cs' := pst t i k a s) rfl
  have hcell := (o2.block (sz := 5) (i := b) (n := 1) List.mem_cons_self).1
  generalize hh : h.set b (.cells false (pst t i k a s)) = g at o2 hcell
  have hh2 : h.set b (.cells false ((pst t n k a s).set (0 + 1) (.int .i64 (i : Int)))) = g := hh
  rw [hh2]
  have rd0 : g.read b (0 + 0) 1 = some [.str t] := read_cell hcell rfl
  refine derefK_intro rfl ⟨(i : Int), read_cell hcell rfl, derefK_intro rfl ⟨t, rd0, ifT_dec (fun e => by omega) fun _ => derefK_intro rfl ⟨t, rd0, ⟨by omega, by omega⟩, ?_⟩⟩⟩
  rw [byteAt_bl hc]
  refine spec160 hI ⟨_, rfl, joinK_intro (fun (p : Int × Int) g' => g = g' ∧ p = (1, (j : Int))) ?_ fun jk hjk => ?_⟩
  case refine_2 =>
    rw [h2]
    refine ifT_intro (fun _ => ?_) fun e => by cases e
    exact spec158 hI (p := pWordB) (fun b Q hQ => spec161 hI hQ) hcell (Nat.le_of_lt hij) hj hs hw he ⟨_, rfl, hjk _ _ ⟨rfl, rfl⟩⟩
  intro p g' hp
  obtain ⟨rfl, hp⟩ := hp
  subst hp
  dsimp only [uncur]
  refine derefK_intro rfl (storeK_one hcell (by simp [pst]) ?_)
  have o3 := o2.change (n' := 1) (sz' := 5) (cs' := pst t j k a s) rfl
  have hcell := (o3.block (sz := 5) (i := b) (n := 1) List.mem_cons_self).1
  generalize hh : g.set b (.cells false (pst t j k a s)) = g3 at o3 hcell
  have hh2 : g.set b (.cells false ((pst t i k a s).set (0 + 1) (.int .i64 (j : Int)))) = g3 := hh
  rw [hh2]
  refine derefK_intro rfl ⟨t, read_cell hcell rfl, ⟨by omega, by omega, by omega⟩, derefK_intro rfl ⟨_, hcell, by simp [pst], ?_⟩⟩
  have o4 := o3.change (n' := 1) (sz' := 5) (cs' := pst t j 1 i (t.extract i j)) rfl
  exact hQ _ o4
/-- The text is at its end. -/
theorem scan_end (hI : Closed' prog Pm I) {b : Nat} {t s : ByteArray} {k a : Int} (o : Owns h0 h ((5, ⟨some (b, 0), 1⟩, pst t t.size k a s) :: L)) (hs : t.size < 1000000)
    (hQ : ∀ h', Owns h0 h' ((5, ⟨some (b, 0), 1⟩, pst t t.size 0 t.size tE) :: L) → Q [] h') : I 113 [.one (.ptr (some (b, 0)))] Q h := by
  refine hI.go _ _ (den113 I (some (b, 0)) Q) ?_
  have hcell := (o.block (sz := 5) (i := b) (n := 1) List.mem_cons_self).1
  refine derefK_intro rfl ⟨(t.size : Int), read_cell hcell rfl, ?_⟩
  refine spec158 hI (p := spaceB) (fun b Q hQ => spec159 hI hQ) hcell (Nat.le_refl _) (Nat.le_refl _) hs (fun q h1 h2 => by omega) (.inl rfl) ⟨_, rfl, derefK_intro rfl ?_⟩
  refine storeK_one hcell (by simp [pst]) ?_
  have o2 := o.change (n' := 1) (sz' := 5) (cs' := pst t t.size k a s) rfl
  have hcell := (o2.block (sz := 5) (i := b) (n := 1) List.mem_cons_self).1
  generalize hh : h.set b (.cells false (pst t t.size k a s)) = g at o2 hcell
  have hh2 : h.set b (.cells false ((pst t t.size k a s).set (0 + 1) (.int .i64 (t.size : Int)))) = g := hh
  rw [hh2]
  refine derefK_intro rfl ⟨(t.size : Int), read_cell hcell rfl, derefK_intro rfl ⟨t, read_cell hcell rfl, ifT_dec (fun _ => derefK_intro rfl ⟨_, hcell, by simp [pst], ?_⟩) fun e => absurd rfl e⟩⟩
  have o4 := o2.change (n' := 1) (sz' := 5) (cs' := pst t t.size 0 t.size tE) rfl
  exact hQ _ o4
theorem spec247 (hI : Closed' prog Pm I) {b : Nat} {t s w : ByteArray} {n k a : Int} (o : Owns h0 h ((5, ⟨some (b, 0), 1⟩, pst t n k a s) :: L)) (hQ : Q [boo (decide (k = 1 ∨ k = 5) && decide (s = w))] h) : I 247 [.one (.ptr (some (b, 0))), str w] Q h := by
  refine hI.go _ _ (den247 I (some (b, 0)) w Q) ?_
  have hcell := (o.block (sz := 5) (i := b) (n := 1) List.mem_cons_self).1
  have rk : h.read b (0 + 2 + 0) 1 = some [.int .i64 k] := read_cell hcell rfl
  have rs : h.read b (0 + 2 + 2) 1 = some [.str s] := read_cell hcell rfl
  refine derefK_intro rfl ⟨k, rk, ifT_dec (fun e => derefK_intro rfl ⟨s, rs, ?_⟩) fun e => derefK_intro rfl ⟨k, rk, ifT_dec (fun e5 => derefK_intro rfl ⟨s, rs, ?_⟩) fun e5 => ?_⟩⟩
  · rw [decide_eq_true (.inl e), Bool.true_and] at hQ; exact hQ
  · rw [decide_eq_true (.inr e5), Bool.true_and] at hQ; exact hQ
  · rw [decide_eq_false (by rintro (a | a) <;> contradiction), Bool.false_and] at hQ; exact hQ
/-- A word that is not the next token. -/
theorem take_no (hI : Closed' prog Pm I) {b : Nat} {t s w : ByteArray} {n k a : Int} (o : Owns h0 h ((5, ⟨some (b, 0), 1⟩, pst t n k a s) :: L)) (hno : (decide (k = 1 ∨ k = 5) && decide (s = w)) = false) (hQ : Q [boo false] h) : I 213 [.one (.ptr (some (b, 0))), str w] Q h := by
  refine hI.go _ _ (den213 I (some (b, 0)) w Q) ?_
  refine spec247 hI o ⟨_, rfl, ?_⟩
  rw [hno]
  exact ifT_intro (fun _ => hQ) fun e => by cases e
theorem take_yes (hI : Closed' prog Pm I) {b : Nat} {t s w : ByteArray} {n k a : Int} (o : Owns h0 h ((5, ⟨some (b, 0), 1⟩, pst t n k a s) :: L)) (hy : (decide (k = 1 ∨ k = 5) && decide (s = w)) = true) (hQ : I 113 [.one (.ptr (some (b, 0)))] (fun cs h' => cs = [] ∧ Q [boo true] h') h) : I 213 [.one (.ptr (some (b, 0))), str w] Q h := by
  refine hI.go _ _ (den213 I (some (b, 0)) w Q) ?_
  refine spec247 hI o ⟨_, rfl, ?_⟩
  rw [hy]
  exact ifT_intro (fun e => by cases e) fun _ => hQ
def segT : ByteArray := ⟨#[104, 97, 115, 32, 97]⟩
def segA : ByteArray := ⟨#[97]⟩
def segH : ByteArray := ⟨#[104, 97, 115]⟩
def segC : CT := .mk 6 segA tE tE [] [] 0 0 []
theorem seg_bl : bl segT = [104, 97, 115, 32, 97] := by decide +kernel
/-- .. behind its first word. -/
theorem seg_primary (hI : Closed' prog Pm I) {b : Nat} (o : Owns h0 h ((5, ⟨some (b, 0), 1⟩, pst segT 3 1 0 segH) :: L)) (hQ : ∀ h', Owns h0 h' ((5, ⟨some (b, 0), 1⟩, pst segT 5 0 5 tE) :: L) → Q [.agg (condC segC ⟨none, 0⟩ ⟨none, 0⟩ ⟨none, 0⟩)] h') : I 248 [.one (.ptr (some (b, 0)))] Q h := by
  refine hI.go _ _ (den248 I (some (b, 0)) Q) ?_
  have no_ : ∀ {w : ByteArray} {F : Bool → T}, decide (segH = w) = false → F false h → I 213 [.one (.ptr (some (b, 0))), str w] (fun cs g => ∃ b : Bool, cs = [boo b] ∧ F b g) h := fun hw hF => take_no hI o (by rw [hw]; rfl) ⟨_, rfl, hF⟩
  refine no_ (by decide +kernel) (ifT_intro (fun e => by cases e) fun _ => ?_)
  refine no_ (by decide +kernel) (ifT_intro (fun e => by cases e) fun _ => ?_)
  refine no_ (by decide +kernel) (ifT_intro (fun e => by cases e) fun _ => ?_)
  refine take_yes hI o (by decide +kernel) ?_
  refine scan_word (n := 3) (i := 4) (j := 5) (c := 97) hI o (by decide) (by decide) (by decide) (by decide) (fun q h1 h2 => ?_) (by rw [seg_bl]; rfl) (by decide) (by decide) (fun q h1 h2 => ?_) (.inl rfl) fun g og => ⟨rfl, _, rfl, ?_⟩
  · obtain rfl : q = 3 := by omega
    exact ⟨32, by rw [seg_bl]; rfl, by decide⟩
  · obtain rfl : q = 4 := by omega
    exact ⟨97, by rw [seg_bl]; rfl, by decide⟩
  refine ifT_intro (fun _ => ?_) fun e => by cases e
  have ex : segT.extract 4 5 = segA := by decide +kernel
  rw [ex] at og
  refine hI.go _ _ (den265 I (some (b, 0)) _) ?_
  have hcell := (og.block (sz := 5) (i := b) (n := 1) List.mem_cons_self).1
  refine derefK_intro rfl ⟨segA, read_cell hcell rfl, joinK_intro (fun (z : Bool) g' => g = g' ∧ z = false) ?_ fun jk hjk => derefK_intro rfl ⟨1, read_cell hcell rfl, ifT_intro (fun e => absurd e (by decide)) fun _ => spec172 hI ⟨_, rfl, ?_⟩⟩⟩
  · rintro z _ ⟨rfl, rfl⟩
    refine ifT_intro (fun e => by cases e) fun _ => ?_
    refine scan_end hI (t := segT) og (by decide) fun g2 og2 => ⟨rfl, _, rfl, ?_⟩
    exact hQ g2 og2
  · rw [show nameB segA = true by decide +kernel]
    exact hjk _ _ ⟨rfl, rfl⟩
/-- One part, and no word behind it. -/
theorem seg_row (hI : Closed' prog Pm I) {b : Nat} {kd : Int} {w : ByteArray} {g : FuncId} (hg : ∀ (Q : Post) (h : Heap), Owns h0 h ((5, ⟨some (b, 0), 1⟩, pst segT 3 1 0 segH) :: L) → (∀ h', Owns h0 h' ((5, ⟨some (b, 0), 1⟩, pst segT 5 0 5 tE) :: L) → Q [.agg (condC segC ⟨none, 0⟩ ⟨none, 0⟩ ⟨none, 0⟩)] h') → I g [.one (.ptr (some (b, 0)))] Q h)
    (o : Owns h0 h ((5, ⟨some (b, 0), 1⟩, pst segT 3 1 0 segH) :: L)) (hQ : ∀ h', Owns h0 h' ((5, ⟨some (b, 0), 1⟩, pst segT 5 0 5 tE) :: L) → Q [.agg (condC segC ⟨none, 0⟩ ⟨none, 0⟩ ⟨none, 0⟩)] h') :
    I 166 [.one (.ptr (some (b, 0))), int kd, str w, .one (.func (some (g, [(b, 0)])))] Q h := by
  refine hI.go _ _ (den166 I (some (b, 0)) kd w (some (g, [(b, 0)])) Q) ?_
  refine hg _ h o fun h1 o1 => ⟨_, _, _, _, _, _, _, _, _, rfl, newK_intro fun i h2 hn he => ?_⟩
  have o2 := o1.mono (he ▸ Ext.new hn : Ext h1 h2)
  refine loopK_intro (fun (s : Sl) h' m => h2 = h' ∧ s = ⟨some (i, 0), 1⟩) 0 ⟨rfl, rfl⟩ ?_
  rintro _ h' m ⟨rfl, rfl⟩
  refine take_no hI o2 (by rfl) ⟨_, rfl, ifT_intro (fun e => by cases e) fun _ => ifT_dec (fun _ => ⟨⟨by decide, by show (0 : Int) < ((1 : Nat) : Int); decide⟩, derefK_intro rfl ?_⟩) fun e => absurd rfl e⟩
  have hc : h2 i = some (.cells false (condC segC ⟨none, 0⟩ ⟨none, 0⟩ ⟨none, 0⟩)) := by rw [he]; exact Heap.set_same ..
  refine ⟨_, _, _, _, _, _, _, _, _, ?_, hQ h2 o2⟩
  rw [read_block hc (show 0 + 0 + 9 ≤ 9 by decide)]; rfl
theorem seg_not (hI : Closed' prog Pm I) {b : Nat} (Q : Post) (h : Heap) (o : Owns h0 h ((5, ⟨some (b, 0), 1⟩, pst segT 3 1 0 segH) :: L)) (hQ : ∀ h', Owns h0 h' ((5, ⟨some (b, 0), 1⟩, pst segT 5 0 5 tE) :: L) → Q [.agg (condC segC ⟨none, 0⟩ ⟨none, 0⟩ ⟨none, 0⟩)] h') : I 214 [.one (.ptr (some (b, 0)))] Q h := by
  refine hI.go _ _ (den214 I (some (b, 0)) Q) ?_
  refine take_no hI o (by decide +kernel) ⟨_, rfl, ifT_intro (fun e => by cases e) fun _ => ?_⟩
  exact seg_primary hI o fun h' o' => ⟨_, _, _, _, _, _, _, _, _, rfl, hQ h' o'⟩
theorem seg_and (hI : Closed' prog Pm I) {b : Nat} (Q : Post) (h : Heap) (o : Owns h0 h ((5, ⟨some (b, 0), 1⟩, pst segT 3 1 0 segH) :: L)) (hQ : ∀ h', Owns h0 h' ((5, ⟨some (b, 0), 1⟩, pst segT 5 0 5 tE) :: L) → Q [.agg (condC segC ⟨none, 0⟩ ⟨none, 0⟩ ⟨none, 0⟩)] h') : I 167 [.one (.ptr (some (b, 0)))] Q h := by
  refine hI.go _ _ (den167 I (some (b, 0)) Q) ?_
  refine derefK_intro rfl (seg_row hI (fun Q h o hQ => ?_) o fun h' o' => ⟨_, _, _, _, _, _, _, _, _, rfl, hQ h' o'⟩)
  exact hI.goB (f := 214) (r := .one (.ptr (some (b, 0)))) (args := []) rfl (seg_not hI Q h o hQ)
theorem seg_or (hI : Closed' prog Pm I) {b : Nat} (Q : Post) (h : Heap) (o : Owns h0 h ((5, ⟨some (b, 0), 1⟩, pst segT 3 1 0 segH) :: L)) (hQ : ∀ h', Owns h0 h' ((5, ⟨some (b, 0), 1⟩, pst segT 5 0 5 tE) :: L) → Q [.agg (condC segC ⟨none, 0⟩ ⟨none, 0⟩ ⟨none, 0⟩)] h') : I 114 [.one (.ptr (some (b, 0)))] Q h := by
  refine hI.go _ _ (den114 I (some (b, 0)) Q) ?_
  refine derefK_intro rfl (seg_row hI (fun Q h o hQ => ?_) o fun h' o' => ⟨_, _, _, _, _, _, _, _, _, rfl, hQ h' o'⟩)
  exact hI.goB (f := 167) (r := .one (.ptr (some (b, 0)))) (args := []) rfl (seg_and hI Q h o hQ)
theorem segC_at (h : Heap) : CondAt h segC (condC segC ⟨none, 0⟩ ⟨none, 0⟩ ⟨none, 0⟩) := CondAt.make (rs := []) (AtS.nil _ _) (AtS.nil _ _) (AtS.nil _ _) (CondsAt.nil _)
theorem segC_ask : AskC segC := by
  have he : errN segC = 0 := by decide +kernel
  exact (leaf_ask he rfl (by decide) (by decide)).1
/-- The text is read. -/
theorem spec81 (hI : Closed' prog Pm I) (hL : LibI I TT) (hT : TT h) (hQ : ∀ h', Ext h h' → Q [.agg (condC segC ⟨none, 0⟩ ⟨none, 0⟩ ⟨none, 0⟩), int 0, int 0] h') : I 81 [str segT] Q h := by
  refine hI.goD _ _ (den81 I segT Q) ?_
  refine newK_intro fun i2 h2 hn2 he2 => newK_intro fun i4 h4 hn4 he4 => newK_intro fun i6 h6 hn6 he6 => ifT_dec (fun e => absurd e (by decide)) fun _ => ⟨quiet112, fun ds => newK_intro fun ip hp hnp hep => ?_⟩
  have o2 : Owns h h2 ((9, ⟨some (i2, 0), 1⟩, condC (.mk 0 tE tE tE [] [] 0 0 []) ⟨none, 0⟩ ⟨none, 0⟩ ⟨none, 0⟩) :: []) := by rw [he2]; exact (Owns.nil h).new hn2 rfl
  have o4 : Owns h h4 ((1, ⟨some (i4, 0), 1⟩, [.int .i64 0]) :: (9, ⟨some (i2, 0), 1⟩, condC (.mk 0 tE tE tE [] [] 0 0 []) ⟨none, 0⟩ ⟨none, 0⟩ ⟨none, 0⟩) :: []) := by rw [he4]; exact o2.new hn4 rfl
  have o6 : Owns h h6 ((1, ⟨some (i6, 0), 1⟩, [.int .i64 0]) :: (1, ⟨some (i4, 0), 1⟩, [.int .i64 0]) :: (9, ⟨some (i2, 0), 1⟩, condC (.mk 0 tE tE tE [] [] 0 0 []) ⟨none, 0⟩ ⟨none, 0⟩ ⟨none, 0⟩) :: []) := by rw [he6]; exact o4.new hn6 rfl
  have op : Owns h hp ((5, ⟨some (ip, 0), 1⟩, pst segT (0 : Nat) 0 0 tE) :: (1, ⟨some (i6, 0), 1⟩, [.int .i64 0]) :: (1, ⟨some (i4, 0), 1⟩, [.int .i64 0]) :: (9, ⟨some (i2, 0), 1⟩, condC (.mk 0 tE tE tE [] [] 0 0 []) ⟨none, 0⟩ ⟨none, 0⟩ ⟨none, 0⟩) :: []) := by rw [hep]; exact o6.new hnp rfl
  refine scan_word (n := 0) (i := 0) (j := 3) (c := 104) hI op (by decide) (by decide) (by decide) (by decide) (fun q h1 h2 => by omega) (by rw [seg_bl]; rfl) (by decide) (by decide) (fun q h1 h2 => ?_) (.inr ⟨32, by rw [seg_bl]; rfl, by decide⟩) fun g og => ⟨rfl, ?_⟩
  · have hq : q = 0 ∨ q = 1 ∨ q = 2 := by omega
    rcases hq with rfl | rfl | rfl
    · exact ⟨104, by rw [seg_bl]; rfl, by decide⟩
    · exact ⟨97, by rw [seg_bl]; rfl, by decide⟩
    · exact ⟨115, by rw [seg_bl]; rfl, by decide⟩
  have ex : segT.extract 0 3 = segH := by decide +kernel
  rw [ex] at og
  refine seg_or hI _ g og fun g2 og2 => ⟨_, _, _, _, _, _, _, _, _, rfl, ?_⟩
  -- i2 first
  have p2 : Owns h g2 ((9, ⟨some (i2, 0), 1⟩, condC (.mk 0 tE tE tE [] [] 0 0 []) ⟨none, 0⟩ ⟨none, 0⟩ ⟨none, 0⟩) :: (5, ⟨some (ip, 0), 1⟩, pst segT 5 0 5 tE) :: (1, ⟨some (i6, 0), 1⟩, [.int .i64 0]) :: (1, ⟨some (i4, 0), 1⟩, [.int .i64 0]) :: []) :=
    og2.perm ((List.perm_append_comm (l₁ := [_, _, _]) (l₂ := [_])))
  have c2 := (p2.block (sz := 9) (i := i2) (n := 1) List.mem_cons_self).1
  refine storeK_whole (ns := condC segC ⟨none, 0⟩ ⟨none, 0⟩ ⟨none, 0⟩) c2 rfl ?_
  have p3 := p2.change (n' := 1) (sz' := 9) (cs' := condC segC ⟨none, 0⟩ ⟨none, 0⟩ ⟨none, 0⟩) rfl
  generalize g2.set i2 (.cells false (condC segC ⟨none, 0⟩ ⟨none, 0⟩ ⟨none, 0⟩)) = g3 at p3
  have cp := (p3.block (sz := 5) (i := ip) (n := 1) (cs := pst segT 5 0 5 tE) (by simp)).1
  refine ⟨0, read_cell cp rfl, joinK_intro (fun (_ : PUnit) g' => g3 = g') ?_ fun jk hjk => ifT_intro (fun e => absurd e (by decide)) fun _ => hjk _ _ rfl⟩
  rintro _ _ rfl
  have rd9 : ∀ g : Heap, g i2 = some (.cells false (condC segC ⟨none, 0⟩ ⟨none, 0⟩ ⟨none, 0⟩)) → g.read i2 0 9 = some (condC segC ⟨none, 0⟩ ⟨none, 0⟩ ⟨none, 0⟩) := fun g hc => by rw [read_block hc (show 0 + 9 ≤ 9 by decide)]; rfl
  refine ⟨_, _, _, _, _, _, _, _, _, rd9 g3 (p3.block (sz := 9) (i := i2) (n := 1) List.mem_cons_self).1, ?_⟩
  refine spec82 hI hL (hL.ext p3.ext hT) (segC_at g3) segC_ask.size segC_ask.nar fun g4 x4 => ⟨_, rfl, ?_⟩
  rw [segC_ask.err]
  refine ifT_intro (fun e => absurd e (by decide)) fun _ => ?_
  have p4 := p3.mono x4
  have d2 := (p4.block (sz := 9) (i := i2) (n := 1) List.mem_cons_self).1
  refine ⟨_, _, _, _, _, _, _, _, _, rd9 g4 d2, storeK_whole (ns := condC segC ⟨none, 0⟩ ⟨none, 0⟩ ⟨none, 0⟩) d2 rfl ?_⟩
  have p5 := p4.change (n' := 1) (sz' := 9) (cs' := condC segC ⟨none, 0⟩ ⟨none, 0⟩ ⟨none, 0⟩) rfl
  generalize g4.set i2 (.cells false (condC segC ⟨none, 0⟩ ⟨none, 0⟩ ⟨none, 0⟩)) = g5 at p5
  have q5 := p5.perm (List.perm_append_comm (l₁ := [_, _, _]) (l₂ := [_]))
  refine storeK_one (q5.block (sz := 1) (i := i4) (n := 1) List.mem_cons_self).1 (by decide) ?_
  have q6 := q5.change (n' := 1) (sz' := 1) (cs' := [.int .i64 0]) rfl
  generalize hh6 : g5.set i4 (.cells false [.int .i64 0]) = g6 at q6
  have hh6' : g5.set i4 (.cells false ([Cell.int .i64 0].set 0 (.int .i64 0))) = g6 := hh6
  rw [hh6']
  have q7 := q6.perm (List.perm_append_comm (l₁ := [_, _, _]) (l₂ := [_]))
  refine storeK_one (q7.block (sz := 1) (i := i6) (n := 1) List.mem_cons_self).1 (by decide) ?_
  have q8 := q7.change (n' := 1) (sz' := 1) (cs' := [.int .i64 0]) rfl
  generalize hh8 : g6.set i6 (.cells false [.int .i64 0]) = g8 at q8
  have hh8' : g6.set i6 (.cells false ([Cell.int .i64 0].set 0 (.int .i64 0))) = g8 := hh8
  rw [hh8']
  refine ⟨_, _, _, _, _, _, _, _, _, rd9 g8 (q8.block (sz := 9) (i := i2) (n := 1) (cs := condC segC ⟨none, 0⟩ ⟨none, 0⟩ ⟨none, 0⟩) (by simp)).1, 0, read_cell (q8.block (sz := 1) (i := i4) (n := 1) (cs := [.int .i64 0]) (by simp)).1 rfl, 0, read_cell (q8.block (sz := 1) (i := i6) (n := 1) (cs := [.int .i64 0]) (by simp)).1 rfl, hQ g8 q8.ext⟩
/-- The end of each law of conditions: the package reads and looks at a condition. -/
theorem spec12 (hI : Closed' prog Pm I) (hL : LibI I TT) (hT : TT h) (hQ : ∀ h', Ext h h' → Q [boo true] h') : I 12 [] Q h := by
  refine hI.go _ _ (den12 I Q) ?_
  refine newK_intro fun i1 h1 hn1 he1 => ?_
  have x1 : Ext h h1 := he1 ▸ Ext.new hn1
  refine hI.go _ _ (den39 I segT ⟨some (i1, 0), 1⟩ ⟨none, 0⟩ 0 _) ?_
  refine spec81 hI hL (hL.ext x1 hT) fun h2 x2 => ⟨_, _, _, _, _, _, _, _, _, _, _, rfl, ifT_intro (fun e => absurd e (by decide)) fun _ => ?_⟩
  have x12 := x1.trans x2
  have hr : RecOk h2 ⟨some (i1, 0), 1⟩ [⟨segA, ⟨3, tE, 1⟩⟩] := by
    refine ⟨⟨rfl, .inr ?_⟩, ⟨by decide, fun f hf => ?_, by simp⟩, by simp⟩
    · show h2.read i1 0 (1 * 4) = _
      have hc : h2 i1 = some (.cells false (rows fldC [⟨segA, ⟨3, tE, 1⟩⟩])) := x2 _ _ (by rw [he1]; exact Heap.set_same ..)
      rw [read_block hc (show 0 + 1 * 4 ≤ 4 by decide)]; rfl
    · rw [List.mem_singleton.1 hf]
      exact ⟨by decide +kernel, by decide +kernel⟩
  have hv : EvOk h2 ⟨none, 0⟩ [] := ⟨⟨rfl, .inl rfl⟩, by simp, by simp, by simp, by simp, by simp, by simp⟩
  refine spec11 hI hL (hL.ext x12 hT) (segC_at h2) segC_ask hr hv (by decide) fun h3 x3 => ⟨_, _, rfl, _, _, rfl, ifT_intro (fun _ => ?_) fun e => absurd e (by decide)⟩
  have : evC (leafB [⟨segA, ⟨3, tE, 1⟩⟩] (([] : List (Evt × Sl)).map (·.1)) 0) segC = true := by decide +kernel
  rw [this]
  exact hQ h3 (x12.trans x3)
end
end Go.Proofs.YteldpijfienopaaGreatDoorVc
-- RsLaw
namespace Go.Proofs.YteldpijfienopaaGreatDoorVc
open Go.Proofs.Tryz (prog)
section
variable {Pm : Prim} {I : Calls} {Q : Post} {h h' h2 : Heap} {TT : Heap → Prop} {i : Nat} {l : Sl} {zs : List Int} {t : Nat}
/-- What is new lies beside the stream. -/
theorem nw_del (S : Strm h i l zs t) (x : Ext (h.del i) (h'.del i)) : Ext (Nw h h') (h'.del i) := fun j y hy => by
  obtain ⟨a, b⟩ := Nw_get hy
  rw [Heap.del_ne _ (fun e => by rw [e, S.cell] at a; cases a)]; exact b
theorem set_del0 {o : Obj} (hn : h i = none) : (h.set i o).del i = h := by
  funext j
  by_cases e : j = i
  · subst e; rw [Heap.del_same, hn]
  · rw [Heap.del_ne _ e, Heap.set_ne _ _ e]
set_option maxRecDepth 100000 in
theorem step400 {a b k T : Nat} (h1 : a ≤ b + 400) (h2 : b ≤ T + 400 * k) : a ≤ T + 400 * (k + 1) := by omega
/-- What is drawn for a question: a record, events, a moment. -/
theorem draw_g (hI : Closed' prog Pm I) (S : Strm h i l zs t) (ht : t < 500000000) {n1 n2 : Int} (hn0 : 0 ≤ n1) (hn1 : n1 ≤ 20) (hm0 : 1 ≤ n2) (hm1 : n2 ≤ 4000000) {F : Sl → Sl → Int → T}
    (hF : ∀ sr fs se evs n h' t', Strm h' i l zs t' → t' ≤ t + 400 → Ext (h.del i) (h'.del i) → RecOk (h'.del i) sr fs → EvOk (h'.del i) se evs → 0 ≤ n → n < n2 → F sr se n h') :
    I 7 [.one (.ptr (some (i, 0)))] (fun cs15 h16 => ∃ l17 : Sl, cs15 = [.one (.slice 4 l17)] ∧ I 8 [.one (.ptr (some (i, 0))), int n1] (fun cs18 h19 => ∃ l20 : Sl, cs18 = [.one (.slice 6 l20)] ∧ I 9 [.one (.ptr (some (i, 0))), int n2] (fun cs21 h22 => ∃ n23 : Int, cs21 = [int n23] ∧ F l17 l20 n23 h22) h19) h16) h := by
  refine record_g hI S (by omega) fun sr fs h1 g1 ar nr vr => ⟨_, rfl, ?_⟩
  obtain ⟨t1, S1, x1, b1⟩ := g1
  refine history_g hI S1 (by omega) hn0 hn1 fun se evs h3 _ g3 ae fe le ide ge pe te _ => ⟨_, rfl, ?_⟩
  obtain ⟨t3, S3, x3, b3⟩ := g3
  refine next_g hI S3 (by omega) hm0 (by omega) fun n h4 hn0 hn2 g4 => ?_
  obtain ⟨t4, S4, x4, b4⟩ := g4
  refine hF sr fs se evs n h4 t4 S4 (by omega) ((x1.trans x3).trans x4) ?_ ?_ hn0 hn2
  · exact (RecOk.drawn ((nw_del S x1).at_ ar) nr vr).ext (x3.trans x4)
  · exact (⟨(nw_del S1 x3).at_ ae, fun p hp => (nw_del S1 x3).at_ (fe p hp), by omega, ide, ge, pe, fun p hp => by have := te p hp; omega⟩ : EvOk (h3.del i) se evs).ext x4
theorem spec3 (hI : Closed' prog Pm I) (hL : LibI I TT) (hT : TT h) {s : Sl} {zs : List Int} (hs : At h 1 s (ints zs)) : I 3 [.one (.slice 1 s)] tru h := by
  refine hI.go _ _ (den3 I s tru) ?_
  refine newK_intro fun i h1 hn1 he1 => ?_
  have S1 : Strm h1 i s zs 0 := he1 ▸ Strm.make hs hn1
  have d1 : h1.del i = h := by rw [he1]; exact set_del0 hn1
  refine cond_g hI 3 (by decide) S1 (by decide) fun c r h2 g2 hc2 gc => ?_
  obtain ⟨sv, sw, sa, rfl, _⟩ := hc2.parts
  refine ⟨_, _, _, _, _, _, _, _, _, rfl, ?_⟩
  obtain ⟨t2, S2, x2, b2⟩ := g2
  have hc2 := CondAt.ext (nw_del S1 x2) hc2
  have ask : AskC c := by
    have h1 := gc.size
    have h2 := gc.deep
    simp [Zg, Dg] at h1 h2
    refine ⟨?_, gc.nar, by omega⟩
    unfold errCond; rw [if_neg (by omega)]; exact gc.err
  have kg : Kg 3 = 2930 := by decide
  refine draw_g hI S2 (by omega) (by decide) (by decide) (by decide) (by decide) fun sr fs0 se evs0 n0 h5 t5 S5 ht5 x5 hr5 hv5 hn0 hn0' => ?_
  have e5 : Ext h (h5.del i) := by rw [← d1]; exact x2.trans x5
  have d5 := ext_del h5 i
  refine spec10 hI hL (hL.ext (e5.trans d5) hT) (CondAt.ext (x5.trans d5) hc2) ask (hr5.ext d5) (hv5.ext d5) ⟨hn0, by omega⟩ fun sy rs h6 x6 as6 cs6 => ⟨_, _, rfl, ?_⟩
  have y6 : Ext h5 h6 := x6
  refine spec11 hI hL (hL.ext ((e5.trans d5).trans x6) hT) (CondAt.ext ((x5.trans d5).trans x6) hc2) ask (hr5.ext (d5.trans x6)) (hv5.ext (d5.trans x6)) ⟨hn0, by omega⟩ fun h7 x7 => ⟨_, _, rfl, ?_⟩
  have S7 : Strm h7 i s zs t5 := S5.ext (x6.trans x7)
  have x57 : Ext (h5.del i) (h7.del i) := (x6.trans x7).del
  have hc7 : CondAt (h7.del i) c (condC c sv sw sa) := CondAt.ext (x5.trans x57) hc2
  have as7 : AtS (h7.del i) 9 sy rs.flatten := (as6.ext (nw_del S5 x6.del)).ext x7.del
  have cs7 : CondsAt (h7.del i) (reasons fs0 (evs0.map (·.1)) n0 c) rs := CondsAt.ext ((nw_del S5 x6.del).trans x7.del) cs6
  have e7 : Ext h (h7.del i) := e5.trans x57
  have hr7 := hr5.ext x57
  have hv7 := hv5.ext x57
  clear as6 cs6
  -- the reasons
  obtain ⟨w1, w2⟩ := why_law (leafB fs0 (evs0.map (·.1)) n0) c.size c (Nat.le_refl _) ask.fine
  have hmem : ∀ x, x ∈ reasons fs0 (evs0.map (·.1)) n0 c ↔ x ∈ whyC (leafB fs0 (evs0.map (·.1)) n0) c := fun x => by
    unfold reasons
    rw [dedC_mem (fun x hx => (w1 x hx).1.tr) (fun x hx => by cases hx)]; simp
  have hask : ∀ x ∈ reasons fs0 (evs0.map (·.1)) n0 c, AskC x := fun x hx => (w1 x ((hmem x).1 hx)).1
  have htrue : (reasons fs0 (evs0.map (·.1)) n0 c).all (evC (leafB fs0 (evs0.map (·.1)) n0)) = true := List.all_eq_true.2 fun x hx => (w1 x ((hmem x).1 hx)).2
  have hsuff : ∀ lf', (reasons fs0 (evs0.map (·.1)) n0 c).all (evC lf') = true → evC lf' c = evC (leafB fs0 (evs0.map (·.1)) n0) c := fun lf' h => w2 lf' fun x hx => List.all_eq_true.1 h x ((hmem x).2 hx)
  have hlen : (reasons fs0 (evs0.map (·.1)) n0 c).length < 1000000 := by
    have l1 : ∀ (xs acc : List CT), (dedC xs acc).length ≤ acc.length + xs.length := fun xs => by
      induction xs with
      | nil => intro acc; simp [dedC]
      | cons x xs ih =>
        intro acc
        unfold dedC
        split
        · have := ih acc; simp only [List.length_cons]; omega
        · have := ih (acc ++ [x]); simp only [List.length_cons, List.length_append, List.length_nil] at this ⊢; omega
    have := l1 (whyC (leafB fs0 (evs0.map (·.1)) n0) c) []
    have := whyC_len (leafB fs0 (evs0.map (·.1)) n0) c
    have := ask.size
    unfold reasons
    simp only [List.length_nil] at *
    omega
  generalize hxs : reasons fs0 (evs0.map (·.1)) n0 c = xs at as7 cs7 hask htrue hsuff hlen
  generalize hz : evC (leafB fs0 (evs0.map (·.1)) n0) c = z at hsuff
  have lrs := cs7.len
  have lsy : sy.len = xs.length := by have := as7.len; rw [flat9 lrs.2] at this; omega
  refine joinK_intro (fun (b : Bool) g => h7 = g ∧ b = false) ?_ fun jk hjk => ifT_intro (fun e => absurd e (by decide)) fun _ => hjk _ _ ⟨rfl, rfl⟩
  rintro b _ ⟨rfl, rfl⟩
  refine ifT_intro (fun e => by cases e) fun _ => ?_
  refine loopK_intro (fun (p : Sl × Sl × Int × Int) g m => ∃ (k t' : Nat) (fs : List Fld) (evs : List (Evt × Sl)) (a b : Sl) (n : Int), k ≤ 6 ∧ p = (a, b, n, (k : Int)) ∧ 6 - k = m ∧ Strm g i s zs t' ∧ t' ≤ t5 + 400 * k ∧ Ext (h7.del i) (g.del i) ∧ RecOk (g.del i) a fs ∧ EvOk (g.del i) b evs ∧ 0 ≤ n ∧ n ≤ 4321439 ∧
    (k = 0 → leafB fs (evs.map (·.1)) n = leafB fs0 (evs0.map (·.1)) n0)) 6
    ⟨0, t5, fs0, evs0, sr, se, n0, by omega, rfl, rfl, S7, by omega, Ext.refl _, hr7, hv7, hn0, by omega, fun _ => rfl⟩ ?_
  intro p g m hp
  obtain ⟨k, t', fs, evs, a, b, n, hk, hp, hm, S, ht', xg, hr, hv, hn1, hn2, hk0⟩ := hp
  subst hp
  subst hm
  dsimp only [uncur]
  have dg := ext_del g i
  have eg : Ext h g := (e7.trans xg).trans dg
  refine ifT_dec (fun hlt => ?_) fun hge => ?_
  · refine loopK_intro (fun (p : Bool × Int) g' m => ∃ j : Nat, j ≤ xs.length ∧ p = ((xs.take j).all (evC (leafB fs (evs.map (·.1)) n)), (j : Int)) ∧ xs.length - j = m ∧ Ext g g') xs.length ⟨0, by omega, rfl, rfl, Ext.refl _⟩ ?_
    intro p g2 m hp
    obtain ⟨j, hj, hp, hm, x2'⟩ := hp
    subst hp
    subst hm
    dsimp only [uncur]
    refine ifT_dec (fun hlt2 => ⟨⟨by omega, hlt2⟩, ?_⟩) fun hge2 => ?_
    · obtain ⟨x, hx⟩ : ∃ x, xs[j]? = some x := ⟨_, List.getElem?_eq_getElem (by omega)⟩
      have y2 := (xg.trans dg).trans x2'
      refine CondsAt.rowIn y2 cs7 as7.at_ hx fun bb oo r hcx hrd => ?_
      obtain ⟨sv2, sw2, sa2, rfl, _⟩ := hcx.parts
      refine ⟨_, _, _, _, _, _, _, _, _, hrd, ?_⟩
      refine spec11 hI hL (hL.ext (eg.trans x2') hT) (CondAt.ext y2 hcx) (hask x (List.mem_of_getElem? hx)) (hr.ext (dg.trans x2')) (hv.ext (dg.trans x2')) ⟨hn1, hn2⟩ fun g3 x3 => ⟨_, _, rfl, ?_⟩
      have next : ∀ z : Bool, z = (xs.take (j + 1)).all (evC (leafB fs (evs.map (·.1)) n)) → ∃ m', m' < xs.length - j ∧ ∃ j' : Nat, j' ≤ xs.length ∧ (z, IntKind.i64.wrap ((j : Int) + 1)) = ((xs.take j').all (evC (leafB fs (evs.map (·.1)) n)), (j' : Int)) ∧ xs.length - j' = m' ∧ Ext g g3 := fun z hz =>
        ⟨xs.length - (j + 1), by omega, j + 1, by omega, by rw [hz, show IntKind.i64.wrap ((j : Int) + 1) = ((j + 1 : Nat) : Int) by rw [w64] <;> omega], rfl, x2'.trans x3⟩
      have step : (xs.take (j + 1)).all (evC (leafB fs (evs.map (·.1)) n)) = ((xs.take j).all (evC (leafB fs (evs.map (·.1)) n)) && evC (leafB fs (evs.map (·.1)) n) x) := by
        rw [take_snoc hx, List.all_append]; simp
      refine ifT_intro (fun e => absurd e (by decide)) fun _ => ifT_intro (fun e => ?_) fun e => ?_
      · exact next _ (by rw [step, e, Bool.true_and])
      · exact next _ (by rw [step, e, Bool.false_and])
    · have hj2 : j = xs.length := by omega
      subst hj2
      rw [List.take_length]
      have y2 := (xg.trans dg).trans x2'
      refine spec11 hI hL (hL.ext (eg.trans x2') hT) (CondAt.ext y2 hc7) ask (hr.ext (dg.trans x2')) (hv.ext (dg.trans x2')) ⟨hn1, hn2⟩ fun g3 x3 => ⟨_, _, rfl, ?_⟩
      have hsf := hsuff (leafB fs (evs.map (·.1)) n)
      refine joinK_intro (fun (b : Bool) g' => g3 = g' ∧ b = false) ?_ fun jk hjk => ifT_intro (fun e => absurd e (by decide)) fun _ => ?_
      case refine_2 =>
        refine ifT_intro (fun e => ifT_intro (fun e2 => ?_) fun _ => ifT_dec (fun _ => hjk _ _ ⟨rfl, by rw [e]; rfl⟩) fun _ => hjk _ _ ⟨rfl, rfl⟩) fun e => ifT_dec (fun e3 => ?_) fun _ => hjk _ _ ⟨rfl, rfl⟩
        · exact absurd (hsf e) (nd e2)
        · exfalso
          rw [hk0 (by omega), htrue] at e; cases e
      rintro b _ ⟨rfl, rfl⟩
      refine ifT_intro (fun e => by cases e) fun _ => ?_
      have S3 : Strm g3 i s zs t' := S.ext (x2'.trans x3)
      refine draw_g hI S3 (by omega) (by decide) (by decide) (by decide) (by decide) fun sr2 fs2 se2 evs2 n2 g4 t4 S4 ht4 x4 hr4 hv4 hn3 hn4 => ?_
      have ht5' : t4 ≤ t5 + 400 * (k + 1) := step400 ht4 ht'
      exact ⟨6 - (k + 1), by omega, k + 1, t4, fs2, evs2, sr2, se2, n2, by omega, by rw [show IntKind.i64.wrap ((k : Int) + 1) = ((k + 1 : Nat) : Int) by rw [w64] <;> omega], rfl, S4, ht5', (xg.trans (x2'.trans x3).del).trans x4, hr4, hv4, hn3, by omega, fun e => by omega⟩
  · exact spec12 hI hL (hL.ext eg hT) fun g2 _ => ⟨_, rfl, rfl⟩
end
end Go.Proofs.YteldpijfienopaaGreatDoorVc
