/- The stream among what grows: what a maker of values leaves as it was. What is drawn: signs, values, comparisons (any that is right). What is drawn: comparisons; a condition without others in it (any that is right). What is drawn: a condition without others in it (any that is right). What is drawn: a condition (any that is right). What is drawn: a condition (any that is right). What is drawn: a record (any that is right). What is drawn: the events of somebody (any that are right). -/
import Derived.Test.YtadakbmoanbcgaaGreatDoorVcCkOld
import Derived.Test.YtadakbmoanbcgaaGreatDoorVcCoPure
set_option linter.unusedSimpArgs false
set_option linter.unusedVariables false
-- CkGen1
namespace Go.Proofs.YtadakbmoanbcgaaGreatDoorVc
open Go.Proofs.Tryz (prog)
section
variable {h h' h'' hb : Heap} {i : Nat} {l : Sl} {zs : List Int} {t k : Nat}
/-- From h on, where the stream stands at t: the stream goes on by at most k, and nothing else that was is changed. -/
def Gn (i : Nat) (l : Sl) (zs : List Int) (h : Heap) (t k : Nat) (h' : Heap) : Prop := ∃ t', Strm h' i l zs t' ∧ Ext (h.del i) (h'.del i) ∧ t' ≤ t + k
theorem Gn.refl (S : Strm h i l zs t) : Gn i l zs h t 0 h := ⟨t, S, Ext.refl _, by omega⟩
theorem Gn.weak (g : Gn i l zs h t k h') {k' : Nat} (hk : k ≤ k') : Gn i l zs h t k' h' := let ⟨t', a, b, c⟩ := g; ⟨t', a, b, by omega⟩
theorem Gn.trans {t1 k1 : Nat} (e : Ext (h.del i) (h'.del i)) (ht : t1 ≤ t + k) (g : Gn i l zs h' t1 k1 h'') : Gn i l zs h t (k + k1) h'' :=
  let ⟨t', a, b, c⟩ := g; ⟨t', a, e.trans b, by omega⟩
theorem del_set (h : Heap) (i : Nat) (o : Obj) : (h.set i o).del i = h.del i := by
  funext j
  by_cases e : j = i
  · subst e; rw [Heap.del_same, Heap.del_same]
  · rw [Heap.del_ne _ e, Heap.del_ne _ e, Heap.set_ne _ _ e]
theorem Gn.next (S : Strm h i l zs t) (ht : t < 900000000) : Gn i l zs h t 1 (h.set i (strm l (t + 1))) := ⟨t + 1, S.next (by omega), by rw [del_set]; exact Ext.refl _, by omega⟩
theorem Ext.del {i : Nat} (e : Ext h h') : Ext (h.del i) (h'.del i) := fun j o hj => by
  by_cases e1 : j = i
  · subst e1; rw [Heap.del_same] at hj; cases hj
  · rw [Heap.del_ne _ e1] at hj ⊢; exact e _ _ hj
theorem Gn.ext (S : Strm h i l zs t) (e : Ext h h') : Gn i l zs h t 0 h' := ⟨t, S.ext e, e.del, by omega⟩
theorem ext_del (h : Heap) (i : Nat) : Ext (h.del i) h := fun j o hj => by
  by_cases e1 : j = i
  · subst e1; rw [Heap.del_same] at hj; cases hj
  · rw [Heap.del_ne _ e1] at hj; exact hj
/-- What one owns beside the stream stays. -/
theorem Owns.gn {h0 : Heap} {L : List Ow} (o : Owns h0 h (owS i l t :: L)) (h0i : h0 i = none) (g : Gn i l zs h t k h') : ∃ t', t' ≤ t + k ∧ Owns h0 h' (owS i l t' :: L) := by
  obtain ⟨t', S, e, ht⟩ := g
  obtain ⟨a1, a2⟩ := List.pairwise_cons.1 o.apart
  have stay : ∀ j x, j ≠ i → h j = some x → h' j = some x := fun j x hj hx => by
    have := e j x (by rw [Heap.del_ne _ hj]; exact hx)
    rw [Heap.del_ne _ hj] at this; exact this
  refine ⟨t', ht, fun j x hj => ?_, fun p hp => ?_, List.pairwise_cons.2 ⟨fun q hq b hb => a1 q hq b hb, a2⟩⟩
  · have hne : j ≠ i := fun e => by rw [e, h0i] at hj; cases hj
    exact stay j x hne (o.ext _ _ hj)
  · rcases List.mem_cons.1 hp with rfl | hp
    · exact ⟨rfl, .inr ⟨i, rfl, h0i, S.cell⟩⟩
    · obtain ⟨b1, b2 | ⟨q, b2, b3, b4⟩⟩ := o.all p (List.mem_cons_of_mem _ hp)
      · exact ⟨b1, .inl b2⟩
      · have hne : q ≠ i := fun e => a1 p hp i rfl (e ▸ b2)
        exact ⟨b1, .inr ⟨q, b2, b3, stay _ _ hne b4⟩⟩
/-- What one owns lies beside the stream. -/
theorem Owns.atDel {h0 : Heap} {L : List Ow} (o : Owns h0 h (owS i l t :: L)) {sz : Nat} {s : Sl} {cs : List Cell} (hm : (sz, s, cs) ∈ L) : At (h.del i) sz s cs := by
  obtain ⟨a1, a2⟩ := List.pairwise_cons.1 o.apart
  refine (o.at_ (List.mem_cons_of_mem _ hm)).stay fun j b x ha hx => ?_
  rw [Heap.del_ne]
  · exact hx
  · intro e
    subst e
    rcases (o.all _ (List.mem_cons_of_mem _ hm)).2 with ⟨b2, _⟩ | ⟨q, b2, _, _⟩
    · simp only at b2; rw [b2] at ha; cases ha
    · simp only at b2
      rw [b2] at ha
      cases ha
      exact a1 _ hm _ rfl b2
theorem Owns.toGn {t' : Nat} {L : List Ow} (S : Strm h i l zs t) (o : Owns (h.del i) h' (owS i l t' :: L)) (ht : t' ≤ t + k) (hs : t + k < 1000000000) : Gn i l zs h t k h' :=
  ⟨t', o.toStrm S (by simp) (by omega), fun j x hj => by
    have hne : j ≠ i := fun e => by rw [e, Heap.del_same] at hj; cases hj
    rw [Heap.del_ne _ hne]; exact o.ext _ _ hj, ht⟩
end
section
variable {Pm : Prim} {I : Calls} {Q : Post} {h : Heap} {i : Nat} {l : Sl} {zs : List Int} {t : Nat}
theorem next_g (hI : Closed' prog Pm I) (S : Strm h i l zs t) (ht : t < 900000000) {n : Int} (h1 : 1 ≤ n) (h2 : n < 4611686018427387904) {F : Int → T} (hF : ∀ v h', 0 ≤ v → v < n → Gn i l zs h t 1 h' → F v h') :
    I 13 [.one (.ptr (some (i, 0))), int n] (fun cs h' => ∃ v : Int, cs = [int v] ∧ F v h') h :=
  spec13 hI S h1 h2 fun v a b => ⟨v, rfl, hF v _ a b (Gn.next S ht)⟩
theorem flip_g (hI : Closed' prog Pm I) (S : Strm h i l zs t) (ht : t < 900000000) {n : Int} (h1 : 1 ≤ n) (h2 : n < 4611686018427387904) {F : Bool → T} (hF : ∀ b h', Gn i l zs h t 1 h' → F b h') :
    I 5 [.one (.ptr (some (i, 0))), int n] (fun cs h' => ∃ b : Bool, cs = [boo b] ∧ F b h') h :=
  spec5 hI S h1 h2 fun b => ⟨b, rfl, hF b _ (Gn.next S ht)⟩
theorem Strm.ne_new {h h1 : Heap} {j : Nat} {o : Obj} (S : Strm h i l zs t) (hn : h j = none) : j ≠ i := fun e => by rw [e, S.cell] at hn; cases hn
theorem lit_old {h h1 : Heap} {j : Nat} {cs : List Cell} (S : Strm h i l zs t) (hn : h j = none) (he : h1 = h.set j (.cells false cs)) {x : Obj} : At (h1.set i x) 1 ⟨some (j, 0), cs.length⟩ cs := by
  have hne := S.ne_new (h1 := h1) (o := x) hn
  refine ⟨by simp, .inr ?_⟩
  show (h1.set i x).read j 0 (cs.length * 1) = _
  rw [read_block (cs := cs) (ro := false) (by rw [Heap.set_ne _ _ hne, he, Heap.set_same]) (by simp)]
  simp
theorem pick_g (hI : Closed' prog Pm I) (S : Strm h i l zs t) (ht : t < 900000000) (xs : List Int) (h1 : xs ≠ []) (h2 : xs.length < 1000) {F : Int → T} (hF : ∀ v ∈ xs, ∀ h', Gn i l zs h t 1 h' → F v h') :
    newK (.cells false (ints xs)) (fun i6 h7 => I 11 [.one (.ptr (some (i, 0))), .one (.slice 1 ⟨some (i6, 0), xs.length⟩)] (fun cs h9 => ∃ n : Int, cs = [int n] ∧ F n h9) h7) h := by
  refine newK_intro fun j h7 hn he => ?_
  have x7 : Ext h h7 := he ▸ Ext.new hn
  have hl : (ints xs).length = xs.length := by simp [ints]
  refine spec11 hI (S.ext x7) (by rw [← hl]; exact lit_old S hn he) h1 h2 fun v hv => ⟨v, rfl, hF v hv _ ?_⟩
  exact ((Gn.next (S.ext x7) ht).trans (k := 0) x7.del (by omega)).weak (by omega)
theorem one_g (hI : Closed' prog Pm I) (S : Strm h i l zs t) (ht : t < 900000000) (xs : List ByteArray) (h1 : xs ≠ []) (h2 : xs.length < 1000) {F : ByteArray → T} (hF : ∀ v ∈ xs, ∀ h', Gn i l zs h t 1 h' → F v h') :
    newK (.cells false (strs xs)) (fun i6 h7 => I 15 [.one (.ptr (some (i, 0))), .one (.slice 1 ⟨some (i6, 0), xs.length⟩)] (fun cs h9 => ∃ n : ByteArray, cs = [str n] ∧ F n h9) h7) h := by
  refine newK_intro fun j h7 hn he => ?_
  have x7 : Ext h h7 := he ▸ Ext.new hn
  have hl : (strs xs).length = xs.length := by simp [strs]
  refine spec15 hI (S.ext x7) (by rw [← hl]; exact lit_old S hn he) h1 h2 fun v hv => ⟨v, rfl, hF v hv _ ?_⟩
  exact ((Gn.next (S.ext x7) ht).trans (k := 0) x7.del (by omega)).weak (by omega)
end
end Go.Proofs.YtadakbmoanbcgaaGreatDoorVc
-- CkGen2
namespace Go.Proofs.YtadakbmoanbcgaaGreatDoorVc
open Go.Proofs.Tryz (prog)
def condF : List ByteArray := [⟨#[97, 103, 101]⟩, ⟨#[99, 105, 116, 121]⟩, ⟨#[110, 101, 119, 115]⟩, ⟨#[115, 105, 110, 99, 101, 45, 100, 97, 121]⟩]
def condE : List ByteArray := [⟨#[98, 117, 121]⟩, ⟨#[111, 112, 101, 110]⟩, ⟨#[118, 105, 115, 105, 116]⟩]
/-- What is new since h. -/
def Nw (h h' : Heap) : Heap := fun j => match h j with
  | none => h' j
  | some _ => none
theorem Nw_in {h h' : Heap} {j : Nat} (hn : h j = none) : Nw h h' j = h' j := by unfold Nw; rw [hn]
theorem Nw_out {h h' : Heap} {j : Nat} {x : Obj} (hn : h j = some x) : Nw h h' j = none := by unfold Nw; rw [hn]
theorem Nw_get {h h' : Heap} {j : Nat} {x : Obj} (hx : Nw h h' j = some x) : h j = none ∧ h' j = some x := by
  cases hh : h j with
  | none => rw [Nw_in hh] at hx; exact ⟨rfl, hx⟩
  | some y => rw [Nw_out hh] at hx; cases hx
theorem Nw.ext (h h' : Heap) : Ext (Nw h h') h' := fun j x hx => (Nw_get hx).2
theorem Nw.mono {h h1 h' : Heap} (hd : ∀ j, h1 j = none → h j = none) : Ext (Nw h1 h') (Nw h h') := fun j x hx => by
  obtain ⟨a, b⟩ := Nw_get hx
  rw [Nw_in (hd j a)]; exact b
section
variable {h h' h1 h2 : Heap} {i : Nat} {l : Sl} {zs : List Int} {t k : Nat}
theorem dom_del {t' : Nat} (S' : Strm h' i l zs t') (x : Ext (h.del i) (h'.del i)) : ∀ j, h' j = none → h j = none := fun j hj => by
  by_cases e : j = i
  · subst e; rw [S'.cell] at hj; cases hj
  · cases hh : h j with
    | none => rfl
    | some y =>
      have := x j y (by rw [Heap.del_ne _ e]; exact hh)
      rw [Heap.del_ne _ e, hj] at this; cases this
theorem Nw.step (S : Strm h i l zs t) (x : Ext (h1.del i) (h2.del i)) : Ext (Nw h h1) (Nw h h2) := fun j y hy => by
  obtain ⟨a, b⟩ := Nw_get hy
  have hne : j ≠ i := fun e => by rw [e, S.cell] at a; cases a
  have := x j y (by rw [Heap.del_ne _ hne]; exact b)
  rw [Heap.del_ne _ hne] at this
  rw [Nw_in a]; exact this
theorem Nw.atOwnS {L : List Ow} (o : Owns (h.del i) h' (owS i l t :: L)) {sz : Nat} {s : Sl} {cs : List Cell} (hm : (sz, s, cs) ∈ L) : AtS (Nw h h') sz s cs := by
  obtain ⟨a1, a2⟩ := List.pairwise_cons.1 o.apart
  refine (o.all _ (List.mem_cons_of_mem _ hm)).sl.stay fun j b x ha hx => ?_
  rcases (o.all _ (List.mem_cons_of_mem _ hm)).2 with ⟨b2, _⟩ | ⟨q, b2, b3, _⟩
  · simp only at b2; rw [b2] at ha; cases ha
  · simp only at b2
    rw [b2] at ha; cases ha
    have hne : j ≠ i := fun e => a1 _ hm i rfl (by rw [← e]; exact b2)
    rw [Heap.del_ne _ hne] at b3
    rw [Nw_in b3]; exact hx
theorem Nw.atOwn {L : List Ow} (o : Owns (h.del i) h' (owS i l t :: L)) {sz : Nat} {s : Sl} {cs : List Cell} (hm : (sz, s, cs) ∈ L) : At (Nw h h') sz s cs := (Nw.atOwnS o hm).at_
end
section
variable {Pm : Prim} {I : Calls} {Q : Post} {h : Heap} {i : Nat} {l : Sl} {zs : List Int} {t : Nat}
theorem rng_g (hI : Closed' prog Pm I) (S : Strm h i l zs t) (ht : t < 900000000) {a b : Int} (h1 : a ≤ b) (h2 : -1000000000 < a) (h3 : b < 1000000000) {F : Int → T} (hF : ∀ v h', a ≤ v → v ≤ b → Gn i l zs h t 1 h' → F v h') :
    I 12 [.one (.ptr (some (i, 0))), int a, int b] (fun cs h' => ∃ v : Int, cs = [int v] ∧ F v h') h := by
  refine hI.go _ _ (den12 I (some (i, 0)) a b _) ?_
  refine ifT_dec (fun h => by omega) fun _ => ?_
  have e : IntKind.i64.wrap (IntKind.i64.wrap (b - a) + 1) = b - a + 1 := by rw [w64 (n := b - a) (by omega) (by omega), w64 (by omega) (by omega)]
  show I 13 [_, int (IntKind.i64.wrap (IntKind.i64.wrap (b - a) + 1))] _ h
  rw [e]
  refine next_g hI S ht (by omega) (by omega) fun v h' g1 g2 g => ?_
  rw [w64 (by omega) (by omega)]
  exact ⟨_, rfl, hF _ h' (by omega) (by omega) g⟩
/-- The names of fields. -/
theorem spec25 (hI : Closed' prog Pm I) (hQ : ∀ s h', Ext h h' → s.len = 4 → New h s → At h' 1 s (strs condF) → (∀ j x x', h j = some x' → At (h'.set j x) 1 s (strs condF)) → Q [.one (.slice 1 s)] h') : I 25 [] Q h := by
  refine hI.go _ _ (den25 I Q) ?_
  refine newK_intro fun i1 h2 hn he => hQ ⟨some (i1, 0), 4⟩ h2 (he ▸ Ext.new hn) rfl (New.blk hn) ?_ ?_
  · refine ⟨rfl, .inr ?_⟩
    show h2.read i1 0 (4 * 1) = _
    rw [he, read_block (Heap.set_same ..) (by decide)]; rfl
  · intro j x x' hj
    have hne : i1 ≠ j := fun e => by rw [e, hj] at hn; cases hn
    refine ⟨rfl, .inr ?_⟩
    show (h2.set j x).read i1 0 (4 * 1) = _
    rw [read_block (ro := false) (cs := strs condF) (by rw [Heap.set_ne _ _ hne, he, Heap.set_same]; rfl) (by decide)]; rfl
theorem spec26 (hI : Closed' prog Pm I) (hQ : ∀ s h', Ext h h' → s.len = 3 → New h s → At h' 1 s (strs condE) → (∀ j x x', h j = some x' → At (h'.set j x) 1 s (strs condE)) → Q [.one (.slice 1 s)] h') : I 26 [] Q h := by
  refine hI.go _ _ (den26 I Q) ?_
  refine newK_intro fun i1 h2 hn he => hQ ⟨some (i1, 0), 3⟩ h2 (he ▸ Ext.new hn) rfl (New.blk hn) ?_ ?_
  · refine ⟨rfl, .inr ?_⟩
    show h2.read i1 0 (3 * 1) = _
    rw [he, read_block (Heap.set_same ..) (by decide)]; rfl
  · intro j x x' hj
    have hne : i1 ≠ j := fun e => by rw [e, hj] at hn; cases hn
    refine ⟨rfl, .inr ?_⟩
    show (h2.set j x).read i1 0 (3 * 1) = _
    rw [read_block (ro := false) (cs := strs condE) (by rw [Heap.set_ne _ _ hne, he, Heap.set_same]; rfl) (by decide)]; rfl
/-- One of the names of fields, of events. -/
theorem fieldName_g (hI : Closed' prog Pm I) (S : Strm h i l zs t) (ht : t < 900000000) {F : ByteArray → T} (hF : ∀ v ∈ condF, ∀ h', Gn i l zs h t 1 h' → F v h') :
    I 25 [] (fun cs h1 => ∃ s : Sl, cs = [.one (.slice 1 s)] ∧ I 15 [.one (.ptr (some (i, 0))), .one (.slice 1 s)] (fun cs h9 => ∃ n : ByteArray, cs = [str n] ∧ F n h9) h1) h :=
  spec25 hI fun s h1 x _ _ _ hat => ⟨s, rfl, spec15 hI (S.ext x) (hat i _ _ S.cell) (by simp [condF]) (by simp [condF]) fun v hv => ⟨v, rfl, hF v hv _ (((Gn.next (S.ext x) ht).trans (k := 0) x.del (by omega)).weak (by omega))⟩⟩
theorem eventName_g (hI : Closed' prog Pm I) (S : Strm h i l zs t) (ht : t < 900000000) {F : ByteArray → T} (hF : ∀ v ∈ condE, ∀ h', Gn i l zs h t 1 h' → F v h') :
    I 26 [] (fun cs h1 => ∃ s : Sl, cs = [.one (.slice 1 s)] ∧ I 15 [.one (.ptr (some (i, 0))), .one (.slice 1 s)] (fun cs h9 => ∃ n : ByteArray, cs = [str n] ∧ F n h9) h1) h :=
  spec26 hI fun s h1 x _ _ _ hat => ⟨s, rfl, spec15 hI (S.ext x) (hat i _ _ S.cell) (by simp [condE]) (by simp [condE]) fun v hv => ⟨v, rfl, hF v hv _ (((Gn.next (S.ext x) ht).trans (k := 0) x.del (by omega)).weak (by omega))⟩⟩
theorem sign_g (hI : Closed' prog Pm I) (S : Strm h i l zs t) (ht : t < 900000000) {F : ByteArray → T} (hF : ∀ v ∈ sgs, ∀ h', Gn i l zs h t 1 h' → F v h') :
    I 29 [.one (.ptr (some (i, 0)))] (fun cs h' => ∃ v : ByteArray, cs = [str v] ∧ F v h') h := by
  refine hI.go _ _ (den29 I (some (i, 0)) _) ?_
  exact one_g hI S ht sgs (by simp [sgs]) (by simp [sgs]) fun v hv h' g => ⟨v, rfl, hF v hv h' g⟩
theorem text_ok : ∀ s ∈ ([⟨#[]⟩, ⟨#[120]⟩, ⟨#[97, 32, 34, 98, 34, 92]⟩, ⟨#[85, 108, 109]⟩, ⟨#[66, 111, 110, 110]⟩, ⟨#[85, 108]⟩, ⟨#[195, 169]⟩, ⟨#[104, 97, 116]⟩, ⟨#[99, 97, 112]⟩, ⟨#[85]⟩, ⟨#[108]⟩] : List ByteArray), errV ⟨1, s, 0⟩ = 0 := by decide +kernel
theorem num_ok {n : Int} (h1 : -1000000000000 ≤ n) (h2 : n ≤ 1000000000000) : errV ⟨2, ⟨#[]⟩, n⟩ = 0 := by
  unfold errV boundsV
  simp only [show ¬ ((2 : Int) = 1) by decide, if_false, if_true]
  rw [if_neg (by simp), if_pos ⟨h1, h2⟩]
theorem flag_ok {n : Int} (h1 : 0 ≤ n) (h2 : n ≤ 1) : errV ⟨3, ⟨#[]⟩, n⟩ = 0 := by
  unfold errV boundsV
  simp only [show ¬ ((3 : Int) = 1) by decide, show ¬ ((3 : Int) = 2) by decide, if_false, if_true]
  rw [if_neg (by simp), if_pos ⟨h1, h2⟩]
theorem moment_ok {n : Int} (h1 : 0 ≤ n) (h2 : n ≤ 4321439) : errV ⟨4, ⟨#[]⟩, n⟩ = 0 := by
  unfold errV boundsV
  simp only [show ¬ ((4 : Int) = 1) by decide, show ¬ ((4 : Int) = 2) by decide, show ¬ ((4 : Int) = 3) by decide, if_false, if_true]
  rw [if_neg (by simp), if_pos ⟨h1, h2⟩]
/-- A value of a field. -/
theorem value_g (hI : Closed' prog Pm I) (S : Strm h i l zs t) (ht : t < 800000000) {name : ByteArray} {F : Int → ByteArray → Int → T} (hF : ∀ v h', errV v = 0 → Gn i l zs h t 2 h' → F v.kind v.text v.num h') :
    I 27 [.one (.ptr (some (i, 0))), str name] (fun cs h' => ∃ (k : Int) (s : ByteArray) (n : Int), cs = [.agg [.int .i64 k, .str s, .int .i64 n]] ∧ F k s n h') h := by
  refine hI.go _ _ (den27 I (some (i, 0)) name _) ?_
  refine flip_g hI S (by omega) (by decide) (by decide) fun b h1 g1 => ?_
  obtain ⟨t1, S1, x1, ht1⟩ := g1
  have fin : ∀ {v : Val} {h' : Heap}, errV v = 0 → Gn i l zs h1 t1 1 h' → F v.kind v.text v.num h' := fun e g => hF _ _ e ((Gn.trans x1 ht1 g).weak (by omega))
  refine ifT_intro (fun _ => ?_) fun _ => ifT_dec (fun _ => ?_) fun _ => ifT_dec (fun _ => ?_) fun _ => ifT_dec (fun _ => ?_) fun _ => ?_
  · exact one_g hI S1 (by omega) [⟨#[]⟩, ⟨#[120]⟩, ⟨#[97, 32, 34, 98, 34, 92]⟩] (by simp) (by simp) fun v hv h' g => ⟨_, _, _, rfl, fin (v := ⟨1, v, 0⟩) (text_ok v (by simp at hv ⊢; rcases hv with rfl | rfl | rfl <;> simp)) g⟩
  · exact pick_g hI S1 (by omega) [-3, 0, 3, 17, 18, 1000000000000] (by simp) (by simp) fun v hv h' g => ⟨_, _, _, rfl, fin (v := ⟨2, ⟨#[]⟩, v⟩) (num_ok (by simp at hv; omega) (by simp at hv; omega)) g⟩
  · exact next_g hI S1 (by omega) (by decide) (by decide) fun v h' h1 h2 g => ⟨_, _, _, rfl, fin (v := ⟨3, ⟨#[]⟩, v⟩) (flag_ok h1 (by omega)) g⟩
  · exact pick_g hI S1 (by omega) [0, 70, 1440, 4321439] (by simp) (by simp) fun v hv h' g => ⟨_, _, _, rfl, fin (v := ⟨4, ⟨#[]⟩, v⟩) (moment_ok (by simp at hv; omega) (by simp at hv; omega)) g⟩
  · exact one_g hI S1 (by omega) [⟨#[85, 108, 109]⟩, ⟨#[66, 111, 110, 110]⟩, ⟨#[85, 108]⟩, ⟨#[195, 169]⟩] (by simp) (by simp) fun v hv h' g => ⟨_, _, _, rfl, fin (v := ⟨1, v, 0⟩) (text_ok v (by simp at hv ⊢; rcases hv with rfl | rfl | rfl | rfl <;> simp)) g⟩
end
end Go.Proofs.YtadakbmoanbcgaaGreatDoorVc
-- CkGen3
namespace Go.Proofs.YtadakbmoanbcgaaGreatDoorVc
open Go.Proofs.Tryz (prog)
theorem errWs_snoc {l : List Whr} {w : Whr} (h1 : errWs l = 0) (h2 : errW w = 0) : errWs (l ++ [w]) = 0 := by
  induction l with
  | nil => simp [errWs, h2]
  | cons a l ih =>
    simp only [List.cons_append, errWs] at h1 ⊢
    by_cases ha : errW a ≠ 0
    · rw [if_pos ha] at h1; exact absurd h1 ha
    · rw [if_neg ha] at h1 ⊢; exact ih h1
theorem errVs_snoc {k : Int} {l : List Val} {v : Val} (h1 : errVs k l = 0) (h2 : errV v = 0) (hk : ¬ ((k = 9 ∨ k = 10) ∧ v.kind ≠ 1)) : errVs k (l ++ [v]) = 0 := by
  induction l with
  | nil => simp only [List.nil_append, errVs]; rw [if_neg (by simpa using h2), if_neg hk]
  | cons a l ih =>
    simp only [List.cons_append, errVs] at h1 ⊢
    by_cases ha : errV a ≠ 0
    · rw [if_pos ha] at h1; exact absurd h1 ha
    · rw [if_neg ha] at h1 ⊢
      by_cases hb : (k = 9 ∨ k = 10) ∧ a.kind ≠ 1
      · rw [if_pos hb] at h1; cases h1
      · rw [if_neg hb] at h1 ⊢; exact ih h1
theorem nameF : ∀ v ∈ condF, nameB v = true := by decide +kernel
theorem nameE : ∀ v ∈ condE, nameB v = true := by decide +kernel
theorem nameC : ∀ v ∈ ([⟨#[99, 101, 110, 116, 115]⟩, ⟨#[105, 116, 101, 109]⟩] : List ByteArray), nameB v = true := by decide +kernel
theorem signs : ∀ v ∈ sgs, ¬ signNo v < 0 := by decide +kernel
theorem errN_ok {c : CT} {u : Use} (hu : useOf c.kind = some u) (hf : formedB c u = true) (hn : (u.n && !nameB c.name || u.f && !nameB c.field) = false) (hs : (u.s && decide (signNo c.sign < 0)) = false) (hv : errVs c.kind c.vals = 0) (hw : errWs c.whs = 0)
    (hi : 0 ≤ c.within ∧ c.within ≤ 4321440) (hm : (boundsN c.kind).1 ≤ c.num ∧ c.num ≤ (boundsN c.kind).2) : errN c = 0 := by
  unfold errN
  rw [hu]
  simp only [hf, hn, hs, hv, hw]
  rw [if_neg (by decide), if_neg (by decide), if_neg (by decide), if_neg (by decide), if_neg (by decide), if_neg (by simpa using hi), if_neg (by simpa using hm)]
section
variable {Pm : Prim} {I : Calls} {Q : Post} {h : Heap} {i : Nat} {l : Sl} {zs : List Int} {t : Nat}
theorem wheres_g (hI : Closed' prog Pm I) (S : Strm h i l zs t) (ht : t < 800000000) {F : Sl → T} (hF : ∀ s ws h', Gn i l zs h t 20 h' → AtS (Nw h h') 5 s (rows whrC ws) → ws.length ≤ 2 → errWs ws = 0 → F s h') :
    I 28 [.one (.ptr (some (i, 0)))] (fun cs h' => ∃ s : Sl, cs = [.one (.slice 5 s)] ∧ F s h') h := by
  refine hI.go _ _ (den28 I (some (i, 0)) _) ?_
  refine pick_g hI S (by omega) [0, 0, 0, 1, 2] (by simp) (by simp) fun n hn h1 g1 => ?_
  have hn0 : 0 ≤ n ∧ n ≤ 2 := by simp at hn; omega
  have hi0 : (h.del i) i = none := Heap.del_same ..
  obtain ⟨t1, ht1, o1⟩ := S.owns.gn hi0 g1
  refine loopK_intro (fun (a : Sl × Int) h' m => ∃ (j t' : Nat) (ws : List Whr), (j : Int) ≤ n ∧ a.2 = j ∧ 2 - j = m ∧ t' ≤ t + 1 + 5 * j ∧ ws.length = j ∧ errWs ws = 0 ∧ Owns (h.del i) h' (owS i l t' :: (5, a.1, rows whrC ws) :: [])) 2
    ⟨0, t1, [], by omega, rfl, rfl, by omega, rfl, rfl, (o1.none_ 5).swp⟩ ?_
  rintro ⟨s, y⟩ h' m ⟨j, t', ws, hj, rfl, rfl, ht', hwl, hwe, o⟩
  dsimp only [uncur] at o ⊢
  have hal : s.len = ws.length := (o.at_ (s := s) (by simp)).rowsLen whrC_length (by decide)
  refine ifT_dec (fun hlt => ?_) fun hge => ⟨s, rfl, hF s ws h' (Owns.toGn S o (by omega) (by omega)) ?_ (by omega) hwe⟩
  · have app : ∀ (w : Whr) (h2 : Heap) (t2 : Nat), errW w = 0 → t2 ≤ t' + 5 → Owns (h.del i) h2 (owS i l t2 :: (5, s, rows whrC ws) :: []) → appendTo [] 5 64 s 1 (whrC w) (fun l29 h30 => ∃ m', m' < 2 - j ∧ ∃ (j' t' : Nat) (ws : List Whr), (j' : Int) ≤ n ∧ IntKind.i64.wrap ((j : Int) + 1) = j' ∧ 2 - j' = m' ∧ t' ≤ t + 1 + 5 * j' ∧ ws.length = j' ∧ errWs ws = 0 ∧ Owns (h.del i) h30 (owS i l t' :: (5, l29, rows whrC ws) :: [])) h2 := fun w h2 t2 hw ht2 o2 => by
      refine appendTo_owns (m := 0) o2.swp (by rfl) (by omega) (by simp) fun bn h9 o9 => ⟨2 - (j + 1), by omega, j + 1, t2, ws ++ [w], by omega, by rw [w64] <;> omega, rfl, by omega, by simp [hwl], errWs_snoc hwe hw, ?_⟩
      rw [rows_append]
      have := o9.swp
      simpa [rows, whrC] using this
    have Sx := o.toStrm S (t' := t') (by simp) (by omega)
    refine flip_g hI Sx (by omega) (by decide) (by decide) fun b h2 g2 => ?_
    obtain ⟨t2, ht2, o2⟩ := o.gn hi0 g2
    refine ifT_intro (fun _ => ?_) fun _ => ?_
    · refine sign_g hI (o2.toStrm S (t' := t2) (by simp) (by omega)) (by omega) fun sg hsg h3 g3 => ?_
      obtain ⟨t3, ht3, o3⟩ := o2.gn hi0 g3
      refine pick_g hI (o3.toStrm S (t' := t3) (by simp) (by omega)) (by omega) [0, 5, 100] (by simp) (by simp) fun v hv h4 g4 => ?_
      obtain ⟨t4, ht4, o4⟩ := o3.gn hi0 g4
      refine app ⟨⟨#[99, 101, 110, 116, 115]⟩, sg, ⟨2, ByteArray.empty, v⟩⟩ h4 t4 ?_ (by omega) o4
      unfold errW
      rw [if_neg (by rw [nameC _ (by simp)]; decide), if_neg (signs _ hsg)]
      exact num_ok (by simp at hv; omega) (by simp at hv; omega)
    · refine sign_g hI (o2.toStrm S (t' := t2) (by simp) (by omega)) (by omega) fun sg hsg h3 g3 => ?_
      obtain ⟨t3, ht3, o3⟩ := o2.gn hi0 g3
      refine app ⟨⟨#[105, 116, 101, 109]⟩, sg, ⟨1, ⟨#[104, 97, 116]⟩, 0⟩⟩ h3 t3 ?_ (by omega) o3
      unfold errW
      rw [if_neg (by rw [nameC _ (by simp)]; decide), if_neg (signs _ hsg)]
      exact text_ok _ (by simp)
  · exact Nw.atOwnS o (sz := 5) (s := s) (by simp)
end
end Go.Proofs.YtadakbmoanbcgaaGreatDoorVc
-- CkGen4
namespace Go.Proofs.YtadakbmoanbcgaaGreatDoorVc
open Go.Proofs.Tryz (prog)
theorem lit_new {h h0 h1 : Heap} {j k n : Nat} {cs : List Cell} (hn : h j = none) (hd : ∀ j, h j = none → h0 j = none) (he : h1 = h.set j (.cells false cs)) (hl : n * k = cs.length) : AtS (Nw h0 h1) k ⟨some (j, 0), n⟩ cs := by
  refine ⟨hl, ?_⟩
  show (Nw h0 h1).read j 0 (n * k) = _
  rw [read_block (cs := cs) (ro := false) (by rw [Nw_in (hd j hn), he, Heap.set_same]) (by omega)]
  simp [hl]
theorem narrow_leaf {c : CT} (ha : c.args = []) (h1 : c.vals.length < 1000000) (h2 : c.whs.length < 1000000) : c.narrow := by
  rw [c.narrow_eq, ha]; exact ⟨h1, h2, by unfold narrows; trivial⟩
section
variable {Pm : Prim} {I : Calls} {Q : Post} {h : Heap} {i : Nat} {l : Sl} {zs : List Int} {t : Nat}
/-- A condition without others in it. -/
theorem test_g (hI : Closed' prog Pm I) (S : Strm h i l zs t) (ht : t < 700000000) (hQ : ∀ c r h', Gn i l zs h t 60 h' → CondAt (Nw h h') c r → c.args = [] → errN c = 0 → c.narrow → Q [.agg r] h') : I 10 [.one (.ptr (some (i, 0)))] Q h := by
  refine hI.go _ _ (den10 I (some (i, 0)) Q) ?_
  refine fieldName_g hI S (by omega) fun fn hfn h1 g1 => ?_
  obtain ⟨t1, S1, x1, b1⟩ := g1
  refine eventName_g hI S1 (by omega) fun en hen h2 g2 => ?_
  obtain ⟨t2, S2, x2, b2⟩ := Gn.trans x1 b1 g2
  refine pick_g hI S2 (by omega) [0, 0, 1, 30, 60, 1440, 2880] (by simp) (by simp) fun wi hwi h3 g3 => ?_
  obtain ⟨t3, S3, x3, b3⟩ := Gn.trans x2 b2 g3
  refine next_g hI S3 (by omega) (by decide) (by decide) fun k h4 hk0 hk1 g4 => ?_
  obtain ⟨t4, S4, x4, b4⟩ := Gn.trans x3 b3 g4
  have hwi2 : 0 ≤ wi ∧ wi ≤ 4321440 := by simp at hwi; omega
  have d4 := dom_del S4 x4
  -- at the end
  have fin : ∀ (kd : Int) (nm fd sg : ByteArray) (vs : List Val) (ws : List Whr) (wt nu : Int) (sv sw : Sl) (h' : Heap) (u : Use), Gn i l zs h4 t4 50 h' → AtS (Nw h4 h') 3 sv (rows valC vs) → AtS (Nw h4 h') 5 sw (rows whrC ws) → vs.length ≤ 3 → ws.length ≤ 2 → useOf kd = some u →
      formedB (.mk kd nm fd sg vs ws wt nu []) u = true → (u.n && !nameB nm || u.f && !nameB fd) = false → (u.s && decide (signNo sg < 0)) = false → errVs kd vs = 0 → errWs ws = 0 → (0 ≤ wt ∧ wt ≤ 4321440) → ((boundsN kd).1 ≤ nu ∧ nu ≤ (boundsN kd).2) →
      Q [.agg [.int .i64 kd, .str nm, .str fd, .str sg, .slice 3 sv, .slice 5 sw, .int .i64 wt, .int .i64 nu, .slice 9 ⟨none, 0⟩]] h' := fun kd nm fd sg vs ws wt nu sv sw h' u g av aw hv hw hu hf hn hs hev hew hwt hnu =>
    hQ (.mk kd nm fd sg vs ws wt nu []) _ h' ((Gn.trans x4 b4 g).weak (by omega)) (CondAt.make (c := .mk kd nm fd sg vs ws wt nu []) (sa := ⟨none, 0⟩) (rs := []) (av.ext (Nw.mono d4)) (aw.ext (Nw.mono d4)) (AtS.nil _ _) (CondsAt.nil _)) rfl (errN_ok hu hf hn hs hev hew hwt hnu) (narrow_leaf rfl (show vs.length < _ by omega) (show ws.length < _ by omega))
  have nov : ∀ (h' : Heap), AtS (Nw h4 h') 3 ⟨none, 0⟩ (rows valC []) := fun h' => AtS.nil _ _
  have now_ : ∀ (h' : Heap), AtS (Nw h4 h') 5 ⟨none, 0⟩ (rows whrC []) := fun h' => AtS.nil _ _
  have nf := nameF fn hfn
  have ne := nameE en hen
  refine ifT_dec (fun _ => ?_) fun k0 => ifT_dec (fun _ => ?_) fun k1 => ifT_dec (fun _ => ?_) fun k2 => ifT_dec (fun _ => ?_) fun k3 => ?_
  · refine pick_g hI S4 (by omega) [1, 2] (by simp) (by simp) fun v hv h5 g5 => ?_
    have hv : v = 1 ∨ v = 2 := by simpa using hv
    rcases hv with rfl | rfl
    · exact fin 1 _ _ _ [] [] 0 0 _ _ h5 ⟨false, false, false, false, false, false, 0, 0, 0, 0⟩ (g5.weak (by omega)) (nov _) (now_ _) (by simp) (by simp) rfl (by decide) rfl rfl rfl rfl (by decide) (by decide)
    · exact fin 2 _ _ _ [] [] 0 0 _ _ h5 ⟨false, false, false, false, false, false, 0, 0, 0, 0⟩ (g5.weak (by omega)) (nov _) (now_ _) (by simp) (by simp) rfl (by decide) rfl rfl rfl rfl (by decide) (by decide)
  · exact fin 6 _ _ _ [] [] 0 0 _ _ h4 ⟨true, false, false, false, false, false, 0, 0, 0, 0⟩ ((Gn.refl S4).weak (by omega)) (nov _) (now_ _) (by simp) (by simp) rfl (by simp [formedB, spare, CT.name, CT.field, CT.sign, CT.vals, CT.whs, CT.args, CT.within, CT.num]; exact ⟨rfl, rfl⟩) (by simp [nf]) rfl rfl rfl (by decide) (by decide)
  · refine rng_g hI S4 (by omega) (by decide) (by decide) (by decide) fun n h5 hn0 hn1 g5 => ?_
    have hi0 : (h4.del i) i = none := Heap.del_same ..
    obtain ⟨t5, ht5, o5⟩ := S4.owns.gn hi0 g5
    refine loopK_intro (fun (a : (Int × ByteArray × ByteArray × ByteArray × Sl × Sl × Int × Int × Sl × PUnit) × Int) h' m => ∃ (j t' : Nat) (vs : List Val) (s : Sl), (j : Int) ≤ n ∧ a = ((8, fn, ByteArray.empty, ByteArray.empty, s, ⟨none, 0⟩, 0, 0, ⟨none, 0⟩, ()), (j : Int)) ∧ 3 - j = m ∧ t' ≤ t4 + 1 + 5 * j ∧ vs.length = j ∧ errVs 8 vs = 0 ∧ Owns (h4.del i) h' (owS i l t' :: (3, s, rows valC vs) :: [])) 3
      ⟨0, t5, [], ⟨none, 0⟩, by omega, rfl, rfl, by omega, rfl, rfl, (o5.none_ 3).swp⟩ ?_
    rintro _ h' m ⟨j, t', vs, s, hj, rfl, rfl, ht', hvl, hve, o⟩
    dsimp only [uncur]
    have hal : s.len = vs.length := (o.at_ (s := s) (by simp)).rowsLen valC_length (by decide)
    refine ifT_dec (fun hlt => ?_) fun hge => ?_
    · refine value_g hI (o.toStrm S4 (t' := t') (by simp) (by omega)) (by omega) fun v h6 hv g6 => ?_
      obtain ⟨t6, ht6, o6⟩ := o.gn hi0 g6
      refine appendTo_owns (m := 0) o6.swp (by rfl) (by omega) (by simp) fun bn h9 o9 => ⟨3 - (j + 1), by omega, j + 1, t6, vs ++ [v], _, by omega, by rw [show IntKind.i64.wrap ((j : Int) + 1) = ((j + 1 : Nat) : Int) by rw [w64] <;> omega], rfl, by omega, by simp [hvl], errVs_snoc hve hv (by omega), ?_⟩
      rw [rows_append]
      have := o9.swp
      simpa [rows, valC] using this
    · have hvl2 : 1 ≤ vs.length ∧ vs.length ≤ 3 := by omega
      refine fin 8 _ _ _ vs [] 0 0 _ _ h' ⟨true, false, false, false, false, false, 1, 50, 0, 0⟩ (Owns.toGn (k := 50) S4 o (by omega) (by omega)) (Nw.atOwnS o (sz := 3) (s := s) (by simp)) (now_ _) (by omega) (by simp) rfl ?_ (by simp [nf]) rfl hve rfl (by decide) (by decide)
      simp [formedB, spare, CT.name, CT.field, CT.sign, CT.vals, CT.whs, CT.args, CT.within, CT.num]
      exact ⟨⟨rfl, rfl⟩, decide_eq_true (by omega), decide_eq_true (by omega)⟩
  · have one3 : ∀ (kd v : ByteArray) (sg : ByteArray), True := fun _ _ _ => trivial
    refine pick_g hI S4 (by omega) [9, 10] (by simp) (by simp) fun kd hkd h5 g5 => ?_
    obtain ⟨t5, S5, x5, b5⟩ := g5
    refine one_g hI S5 (by omega) [⟨#[85]⟩, ⟨#[108]⟩, ⟨#[]⟩, ⟨#[85, 108, 109]⟩] (by simp) (by simp) fun v hv h6 g6 => ?_
    obtain ⟨t6, S6, x6, b6⟩ := Gn.trans x5 b5 g6
    have hve : errV ⟨1, v, 0⟩ = 0 := text_ok v (by simp at hv ⊢; rcases hv with rfl | rfl | rfl | rfl <;> simp)
    refine newK_intro fun i7 h7 hn7 he7 => ?_
    have x67 : Ext h6 h7 := he7 ▸ Ext.new hn7
    have g7 : Gn i l zs h4 t4 50 h7 := ⟨t6, S6.ext x67, x6.trans x67.del, by omega⟩
    have hkd : kd = 9 ∨ kd = 10 := by simpa using hkd
    rcases hkd with rfl | rfl
    · refine fin 9 _ _ _ [⟨1, v, 0⟩] [] 0 0 _ _ h7 ⟨true, false, false, false, false, false, 1, 1, 0, 0⟩ g7 (lit_new hn7 (dom_del S6 x6) he7 rfl) (now_ _) (by simp) (by simp) rfl ?_ (by simp [nf]) rfl (by simp [errVs, hve]) rfl (by decide) (by decide)
      simp [formedB, spare, CT.name, CT.field, CT.sign, CT.vals, CT.whs, CT.args, CT.within, CT.num]; exact ⟨rfl, rfl⟩
    · refine fin 10 _ _ _ [⟨1, v, 0⟩] [] 0 0 _ _ h7 ⟨true, false, false, false, false, false, 1, 1, 0, 0⟩ g7 (lit_new hn7 (dom_del S6 x6) he7 rfl) (now_ _) (by simp) (by simp) rfl ?_ (by simp [nf]) rfl (by simp [errVs, hve]) rfl (by decide) (by decide)
      simp [formedB, spare, CT.name, CT.field, CT.sign, CT.vals, CT.whs, CT.args, CT.within, CT.num]; exact ⟨rfl, rfl⟩
  refine joinK_intro (fun _ h' => h' = h4) ?_ fun j hj => ifT_intro (fun _ => hj _ _ rfl) fun _ => hj _ _ rfl
  rintro b h5 rfl
  refine ifT_intro (fun _ => ?_) fun _ => ifT_dec (fun _ => ?_) fun _ => ifT_dec (fun _ => ?_) fun _ => ifT_dec (fun _ => ?_) fun _ => ?_
  · refine wheres_g hI S4 (by omega) fun sw ws h6 g6 aw hwl hwe => ?_
    obtain ⟨t6, S6, x6, b6⟩ := g6
    refine sign_g hI S6 (by omega) fun sg hsg h7 g7 => ?_
    obtain ⟨t7, S7, x7, b7⟩ := g7
    refine pick_g hI S7 (by omega) [0, 1, 2, 3, -1] (by simp) (by simp) fun nu hnu h8 g8 => ?_
    obtain ⟨t8, S8, x8, b8⟩ := Gn.trans x7 b7 g8
    refine fin 11 _ _ _ [] ws wi nu _ _ h8 ⟨true, false, true, true, true, true, 0, 0, 0, 0⟩ ⟨t8, S8, x6.trans x8, by omega⟩ (nov _) (aw.ext (Nw.step S4 x8)) (by simp) hwl rfl ?_ (by simp [ne]) (by simp [signs sg hsg]) rfl hwe hwi2 ?_
    · simp [formedB, spare, CT.name, CT.field, CT.sign, CT.vals, CT.whs, CT.args, CT.within, CT.num]; exact ⟨rfl, .inr (decide_eq_true (by omega))⟩
    · simp at hnu; simp [boundsN]; omega
  · refine one_g hI S4 (by omega) [⟨#[99, 101, 110, 116, 115]⟩, ⟨#[99, 101, 110, 116, 115]⟩, ⟨#[105, 116, 101, 109]⟩] (by simp) (by simp) fun fd hfd h5 g5 => ?_
    obtain ⟨t5, S5, x5, b5⟩ := g5
    refine wheres_g hI S5 (by omega) fun sw ws h6 g6 aw hwl hwe => ?_
    obtain ⟨t6, S6, x6, b6⟩ := Gn.trans x5 b5 g6
    refine sign_g hI S6 (by omega) fun sg hsg h7 g7 => ?_
    obtain ⟨t7, S7, x7, b7⟩ := g7
    refine pick_g hI S7 (by omega) [0, 5, 100, 105, -5] (by simp) (by simp) fun nu hnu h8 g8 => ?_
    obtain ⟨t8, S8, x8, b8⟩ := Gn.trans x7 b7 g8
    have nfd : nameB fd = true := nameC fd (by simp at hfd ⊢; exact hfd)
    refine fin 12 _ _ _ [] ws wi nu _ _ h8 ⟨true, true, true, true, true, true, 0, 0, 0, 0⟩ ⟨t8, S8, x6.trans x8, by omega⟩ (nov _) ((aw.ext (Nw.mono (dom_del S5 x5))).ext (Nw.step S4 x8)) (by simp) hwl rfl ?_ (by simp [ne, nfd]) (by simp [signs sg hsg]) rfl hwe hwi2 ?_
    · simp [formedB, spare, CT.name, CT.field, CT.sign, CT.vals, CT.whs, CT.args, CT.within, CT.num]; exact .inr (decide_eq_true (by omega))
    · simp at hnu; simp [boundsN]; omega
  · refine wheres_g hI S4 (by omega) fun sw ws h6 g6 aw hwl hwe => ?_
    obtain ⟨t6, S6, x6, b6⟩ := g6
    refine sign_g hI S6 (by omega) fun sg hsg h7 g7 => ?_
    obtain ⟨t7, S7, x7, b7⟩ := g7
    refine pick_g hI S7 (by omega) [0, 1, 30, 60, 1440] (by simp) (by simp) fun nu hnu h8 g8 => ?_
    obtain ⟨t8, S8, x8, b8⟩ := Gn.trans x7 b7 g8
    refine fin 13 _ _ _ [] ws 0 nu _ _ h8 ⟨true, false, true, true, false, true, 0, 0, 0, 0⟩ ⟨t8, S8, x6.trans x8, by omega⟩ (nov _) (aw.ext (Nw.step S4 x8)) (by simp) hwl rfl ?_ (by simp [ne]) (by simp [signs sg hsg]) rfl hwe (by decide) ?_
    · simp [formedB, spare, CT.name, CT.field, CT.sign, CT.vals, CT.whs, CT.args, CT.within, CT.num]; exact ⟨rfl, .inr (decide_eq_true (by omega))⟩
    · simp at hnu; simp [boundsN]; omega
  · refine eventName_g hI S4 (by omega) fun fd hfd h6 g6 => ?_
    have nfd := nameE fd hfd
    refine fin 14 _ _ _ [] [] wi 0 _ _ h6 ⟨true, true, false, false, true, false, 0, 0, 0, 0⟩ (g6.weak (by omega)) (nov _) (now_ _) (by simp) (by simp) rfl ?_ (by simp [ne, nfd]) rfl rfl rfl hwi2 (by decide)
    simp [formedB, spare, CT.name, CT.field, CT.sign, CT.vals, CT.whs, CT.args, CT.within, CT.num]; rfl
  · refine sign_g hI S4 (by omega) fun sg hsg h6 g6 => ?_
    obtain ⟨t6, S6, x6, b6⟩ := g6
    refine value_g hI S6 (by omega) fun v h7 hv g7 => ?_
    obtain ⟨t7, S7, x7, b7⟩ := Gn.trans x6 b6 g7
    refine newK_intro fun i8 h8 hn8 he8 => ?_
    have x78 : Ext h7 h8 := he8 ▸ Ext.new hn8
    refine fin 7 _ _ _ [v] [] 0 0 _ _ h8 ⟨true, false, true, false, false, false, 1, 1, 0, 0⟩ ⟨t7, S7.ext x78, x7.trans x78.del, by omega⟩ (lit_new (cs := valC v) hn8 (dom_del S7 x7) he8 rfl) (now_ _) (by simp) (by simp) rfl ?_ (by simp [nf]) (by simp [signs sg hsg]) (by simp [errVs, hv]) rfl (by decide) (by decide)
    simp [formedB, spare, CT.name, CT.field, CT.sign, CT.vals, CT.whs, CT.args, CT.within, CT.num]; rfl
end
end Go.Proofs.YtadakbmoanbcgaaGreatDoorVc
-- CkGen5
namespace Go.Proofs.YtadakbmoanbcgaaGreatDoorVc
open Go.Proofs.Tryz (prog)
theorem Owns.onto {h0 h h' : Heap} {L : List Ow} (o : Owns h h' L) (e : Ext h0 h) : Owns h0 h' L := by
  refine ⟨e.trans o.ext, fun p hp => ?_, o.apart⟩
  obtain ⟨a, b | ⟨i, b, c, d⟩⟩ := o.all p hp
  · exact ⟨a, .inl b⟩
  · refine ⟨a, .inr ⟨i, b, ?_, d⟩⟩
    cases hh : h0 i with
    | none => rfl
    | some x => rw [e _ _ hh] at c; cases c
/-- Another base: all that is there but what one owns. -/
theorem Owns.rebase {h0 h : Heap} {L : List Ow} (o : Owns h0 h L) : ∃ B, Owns B h L ∧ Ext h0 B ∧ ∀ j x, h j = some x → (∀ p ∈ L, p.2.1.a ≠ some (j, 0)) → B j = some x := by
  have hm : ∀ j, j ∈ (L.filterMap fun p => p.2.1.a.map (·.1)) → ∃ p ∈ L, p.2.1.a = some (j, 0) ∧ h0 j = none := fun j hj => by
    obtain ⟨p, hp, he⟩ := List.mem_filterMap.1 hj
    obtain ⟨a, ⟨b, _⟩ | ⟨i, b, c, d⟩⟩ := o.all p hp
    · rw [b] at he; cases he
    · rw [b] at he; simp at he; subst he; exact ⟨p, hp, b, c⟩
  refine ⟨h.less (L.filterMap fun p => p.2.1.a.map (·.1)), ⟨less_ext _ _, fun p hp => ⟨(o.all p hp).1, (o.all p hp).2.imp id fun ⟨i, a, b, c⟩ => ⟨i, a, less_in (List.mem_filterMap.2 ⟨p, hp, by rw [a]; rfl⟩), c⟩⟩, o.apart⟩, o.ext.less fun j hj => (hm j hj).choose_spec.2.2, fun j x hx hn => ?_⟩
  rw [less_out fun hj => by
    obtain ⟨p, hp, ha, _⟩ := hm j hj
    exact hn p hp ha]
  exact hx
def Kg : Nat → Nat
  | 0 => 70
  | d + 1 => 80 + 3 * Kg d
def Zg : Nat → Nat
  | 0 => 1
  | d + 1 => 2 + 5 * Zg d
def Dg : Nat → Nat
  | 0 => 1
  | d + 1 => 2 + Dg d
/-- What is told of a condition that is drawn. -/
structure GoodC (d : Nat) (c : CT) : Prop where
  err : trE errN c = 0
  size : c.size ≤ Zg d
  deep : c.deep ≤ Dg d
  nar : c.narrow
theorem good_leaf {c : CT} (d : Nat) (ha : c.args = []) (he : errN c = 0) (hn : c.narrow) : GoodC d c := by
  have h1 : 1 ≤ Zg d := by cases d <;> simp [Zg] <;> omega
  have h2 : 1 ≤ Dg d := by cases d <;> simp [Dg] <;> omega
  refine ⟨?_, ?_, ?_, hn⟩
  · rw [trE_eq, if_neg (by rw [he]; decide), ha]; simp [trsE]
  · rw [c.size_eq, ha]; simp [sizes]; omega
  · rw [c.deep_eq, ha]; simp [deeps]; omega
theorem goods {e : CT → Int} : ∀ {al : List CT}, (∀ a ∈ al, trE e a = 0) → trsE e al = 0
  | [], _ => by simp [trsE]
  | a :: al, h => by
    rw [trsE, if_neg (by rw [h a (by simp)]; decide)]
    exact goods fun b hb => h b (by simp [hb])
theorem narrows_of : ∀ {al : List CT}, (∀ a ∈ al, a.narrow) → narrows al
  | [], _ => by unfold narrows; trivial
  | a :: al, h => by unfold narrows; exact ⟨h a (by simp), narrows_of fun b hb => h b (by simp [hb])⟩
theorem sizes_le {Z : Nat} : ∀ {al : List CT}, (∀ a ∈ al, a.size ≤ Z) → sizes al ≤ al.length * Z
  | [], _ => by simp [sizes]
  | a :: al, h => by
    have h1 := h a (by simp)
    have h2 := sizes_le (Z := Z) (al := al) fun b hb => h b (by simp [hb])
    simp only [sizes, List.length_cons, Nat.add_mul]; omega
theorem deeps_le {D : Nat} : ∀ {al : List CT}, (∀ a ∈ al, a.deep ≤ D) → deeps al ≤ D
  | [], _ => by simp [deeps]
  | a :: al, h => by
    have h1 := h a (by simp)
    have h2 := deeps_le (D := D) (al := al) fun b hb => h b (by simp [hb])
    simp only [deeps]; omega
/-- A condition of others. -/
def mkC (k : Int) (al : List CT) : CT := .mk k ByteArray.empty ByteArray.empty ByteArray.empty [] [] 0 0 al
theorem errN_node {k : Int} {al : List CT} (h : (k = 3 ∨ k = 4) ∧ 2 ≤ al.length ∧ al.length ≤ 5 ∨ k = 5 ∧ al.length = 1) : errN (mkC k al) = 0 := by
  rcases h with ⟨rfl | rfl, h1, h2⟩ | ⟨rfl, h1⟩
  · refine errN_ok (u := ⟨false, false, false, false, false, false, 0, 0, 2, 1073741824⟩) rfl ?_ rfl rfl rfl rfl (show (0 : Int) ≤ 0 ∧ (0 : Int) ≤ 4321440 by decide) (show (boundsN 3).1 ≤ 0 ∧ 0 ≤ (boundsN 3).2 by decide)
    simp [mkC, formedB, spare, CT.name, CT.field, CT.sign, CT.vals, CT.whs, CT.args, CT.within, CT.num]
    refine ⟨⟨⟨rfl, rfl⟩, rfl⟩, decide_eq_true (by omega), decide_eq_true (by omega)⟩
  · refine errN_ok (u := ⟨false, false, false, false, false, false, 0, 0, 2, 1073741824⟩) rfl ?_ rfl rfl rfl rfl (show (0 : Int) ≤ 0 ∧ (0 : Int) ≤ 4321440 by decide) (show (boundsN 4).1 ≤ 0 ∧ 0 ≤ (boundsN 4).2 by decide)
    simp [mkC, formedB, spare, CT.name, CT.field, CT.sign, CT.vals, CT.whs, CT.args, CT.within, CT.num]
    refine ⟨⟨⟨rfl, rfl⟩, rfl⟩, decide_eq_true (by omega), decide_eq_true (by omega)⟩
  · refine errN_ok (u := ⟨false, false, false, false, false, false, 0, 0, 1, 1⟩) rfl ?_ rfl rfl rfl rfl (show (0 : Int) ≤ 0 ∧ (0 : Int) ≤ 4321440 by decide) (show (boundsN 5).1 ≤ 0 ∧ 0 ≤ (boundsN 5).2 by decide)
    simp [mkC, formedB, spare, CT.name, CT.field, CT.sign, CT.vals, CT.whs, CT.args, CT.within, CT.num, h1]
    exact ⟨⟨rfl, rfl⟩, rfl⟩
end Go.Proofs.YtadakbmoanbcgaaGreatDoorVc
-- CkGen6
namespace Go.Proofs.YtadakbmoanbcgaaGreatDoorVc
open Go.Proofs.Tryz (prog)
theorem Nw.ext2 {h B h' : Heap} (e : Ext B h') : Ext (Nw h B) (Nw h h') := fun j x hx => by
  obtain ⟨a, b⟩ := Nw_get hx
  rw [Nw_in a]; exact e _ _ b
theorem flat_snoc (rs : List (List Cell)) (r : List Cell) : (rs ++ [r]).flatten = rs.flatten ++ r := by simp
section
variable {Pm : Prim} {I : Calls} {i : Nat} {l : Sl} {zs : List Int}
/-- A row of conditions that grows. -/
structure Grow (hL : Heap) (i : Nat) (l : Sl) (d : Nat) (h' : Heap) (t' : Nat) (s : Sl) (al : List CT) (rs : List (List Cell)) (B : Heap) : Prop where
  own : Owns B h' (owS i l t' :: (9, s, rs.flatten) :: [])
  base : Ext (hL.del i) B
  conds : CondsAt (Nw hL B) al rs
  good : ∀ a ∈ al, GoodC d a
theorem Grow.call {hL h' h2 B : Heap} {d t' k : Nat} {s : Sl} {al : List CT} {rs : List (List Cell)} (G : Grow hL i l d h' t' s al rs B) (SL : ∃ o, hL i = some o) (g : Gn i l zs h' t' k h2) :
    ∃ t2 B2, t2 ≤ t' + k ∧ Grow hL i l d h2 t2 s al rs B2 ∧ Ext (Nw h' h2) (Nw hL B2) := by
  have hBi : B i = none := by
    obtain ⟨_, ⟨a, _⟩ | ⟨q, a, b, _⟩⟩ := G.own.all _ List.mem_cons_self
    · cases a
    · simp only at a; cases a; exact b
  obtain ⟨t2, ht2, o2⟩ := G.own.gn hBi g
  obtain ⟨B2, oB, eB, hB⟩ := o2.rebase
  refine ⟨t2, B2, ht2, ⟨oB, G.base.trans eB, CondsAt.ext (Nw.ext2 eB) G.conds, G.good⟩, fun j x hx => ?_⟩
  obtain ⟨a, b⟩ := Nw_get hx
  have hdom : hL j = none := by
    cases hh : hL j with
    | none => rfl
    | some y =>
      by_cases e : j = i
      · subst e
        have := (G.own.block (sz := 1) (i := j) (n := 2) (cs := [.slice 1 l, .int .i64 t']) List.mem_cons_self).1
        rw [this] at a; cases a
      · have := G.own.ext _ _ (G.base j y (by rw [Heap.del_ne _ e]; exact hh))
        rw [this] at a; cases a
  rw [Nw_in hdom]
  refine hB j x b fun p hp ha => ?_
  rcases List.mem_cons.1 hp with rfl | hp
  · simp only at ha
    cases ha
    have := (G.own.block (sz := 1) (i := i) (n := 2) (cs := [.slice 1 l, .int .i64 t']) List.mem_cons_self).1
    rw [this] at a; cases a
  · obtain ⟨_, ⟨q, _⟩ | ⟨q, w, _, c⟩⟩ := G.own.all p (by
      have := List.mem_singleton.1 hp
      subst this; simp)
    all_goals have hp := List.mem_singleton.1 hp; subst hp
    · simp only at q ha; rw [q] at ha; cases ha
    · simp only at w ha c; rw [w] at ha; cases ha; rw [c] at a; cases a
theorem Grow.snoc {hL h' h3 B : Heap} {d t' : Nat} {s s3 : Sl} {al : List CT} {rs : List (List Cell)} {a : CT} {r : List Cell} (G : Grow hL i l d h' t' s al rs B) (o : Owns B h3 (owS i l t' :: (9, s3, rs.flatten ++ r) :: [])) (ha : CondAt (Nw hL B) a r) (hg : GoodC d a) :
    Grow hL i l d h3 t' s3 (al ++ [a]) (rs ++ [r]) B := by
  refine ⟨?_, G.base, CondsAt.append G.conds ha, fun b hb => ?_⟩
  · rw [List.flatten_append]; simpa using o
  · rcases List.mem_append.1 hb with hb | hb
    · exact G.good b hb
    · rw [List.mem_singleton.1 hb]; exact hg
theorem Grow.len {hL h' B : Heap} {d t' : Nat} {s : Sl} {al : List CT} {rs : List (List Cell)} (G : Grow hL i l d h' t' s al rs B) : s.len = al.length ∧ rs.flatten.length = al.length * 9 := by
  obtain ⟨h1, h2⟩ := G.conds.len
  have h3 := flat9 h2
  have := (G.own.at_ (sz := 9) (s := s) (cs := rs.flatten) (by simp)).1
  omega
theorem CondsAt.row2 {X h : Heap} {al : List CT} {rs : List (List Cell)} {s : Sl} {k : Nat} {a : CT} {f : Nat → Nat → T} (H : CondsAt X al rs) (hs : At h 9 s rs.flatten) (ha : al[k]? = some a)
    (hk : ∀ b o r, CondAt X a r → rs[k]? = some r → h.read b (o + k * 9) 9 = some r → f b o h) : derefK s.a f h := by
  obtain ⟨r, hr, hc⟩ := H.get ha
  obtain ⟨hl, h9⟩ := H.len
  have hi := (List.getElem?_eq_some_iff.1 hr).1
  have hfl := flat9 h9
  obtain ⟨b, o, hsa, hrd⟩ := hs.lies (by rw [hfl]; omega)
  refine derefK_intro hsa (hk b o r hc hr ?_)
  rw [hfl] at hrd
  rw [read_part hrd (by omega), flat9_get h9 hr]
theorem cond_g (hI : Closed' prog Pm I) : ∀ (dp : Nat), dp ≤ 3 → ∀ {h : Heap} {t : Nat} {Q : Post}, Strm h i l zs t → t + 10 * Kg dp < 600000000 → (∀ c r h', Gn i l zs h t (Kg dp) h' → CondAt (Nw h h') c r → GoodC dp c → Q [.agg r] h') → I 4 [.one (.ptr (some (i, 0))), int (dp : Int)] Q h := by
  intro dp
  induction dp with
  | zero =>
    intro _ h t Q S ht hQ
    refine hI.go _ _ (den4 I (some (i, 0)) _ Q) ?_
    refine joinK_intro (fun b h' => b = true ∧ h' = h) ?_ fun j hj => ifT_dec (fun _ => hj _ _ ⟨rfl, rfl⟩) fun e => absurd (show ((0 : Nat) : Int) < 1 by decide) e
    rintro b _ ⟨rfl, rfl⟩
    refine ifT_intro (fun _ => ?_) fun e => by cases e
    refine test_g hI S (by omega) fun c r h' g hc ha he hn => ?_
    obtain ⟨sv, sw, sa, rfl, _⟩ := hc.parts
    exact ⟨_, _, _, _, _, _, _, _, _, rfl, hQ c _ h' (g.weak (by simp [Kg])) hc (good_leaf 0 ha he hn)⟩
  | succ dp ih =>
    intro hdp h t Q S ht hQ
    have ih := fun {h t Q} => ih (by omega) (h := h) (t := t) (Q := Q)
    have hK : Kg dp ≤ 1000 := by
      have : dp = 0 ∨ dp = 1 ∨ dp = 2 := by omega
      rcases this with rfl | rfl | rfl <;> decide
    have hKd : Kg (dp + 1) = 80 + 3 * Kg dp := rfl
    refine hI.go _ _ (den4 I (some (i, 0)) _ Q) ?_
    refine joinK_intro (fun _ h' => Gn i l zs h t 1 h') ?_ fun j hj => ifT_dec (fun e => by omega) fun _ => flip_g hI S (by omega) (by decide) (by decide) fun b h1 g1 => hj _ _ g1
    rintro b h1 ⟨t1, S1, x1, b1⟩
    refine ifT_intro (fun _ => ?_) fun _ => ?_
    · refine test_g hI S1 (by omega) fun c r h' g hc ha he hn => ?_
      obtain ⟨sv, sw, sa, rfl, _⟩ := hc.parts
      exact ⟨_, _, _, _, _, _, _, _, _, rfl, hQ c _ h' ((Gn.trans x1 b1 g).weak (by omega)) (CondAt.ext (Nw.mono (dom_del S1 x1)) hc) (good_leaf _ ha he hn)⟩
    refine pick_g hI S1 (by omega) [3, 4, 5] (by simp) (by simp) fun kd hkd h2 g2 => ?_
    obtain ⟨t2, S2, x2, b2⟩ := Gn.trans x1 b1 g2
    have hkd : kd = 3 ∨ kd = 4 ∨ kd = 5 := by simpa using hkd
    refine joinK_intro (fun n h' => Gn i l zs h t 3 h' ∧ (kd = 5 ∧ n = 1 ∨ kd ≠ 5 ∧ 2 ≤ n ∧ n ≤ 3)) ?_ fun j hj => ifT_intro (fun e => rng_g hI S2 (by omega) (by decide) (by decide) (by decide) fun n h3 hn1 hn2 g3 => hj _ _ ⟨(Gn.trans x2 b2 g3).weak (by omega), .inr ⟨nd e, hn1, hn2⟩⟩) fun e => hj _ _ ⟨⟨t2, S2, x2, by omega⟩, .inl ⟨Decidable.of_not_not (nd' e), rfl⟩⟩
    rintro n hL ⟨⟨tL, SL, xL, bL⟩, hn⟩
    have hn13 : 1 ≤ n ∧ n ≤ 3 := by omega
    have G0 : Grow hL i l dp hL tL ⟨none, 0⟩ [] [] (hL.del i) := ⟨(SL.owns.none_ 9).swp, Ext.refl _, CondsAt.nil _, fun a h => by cases h⟩
    refine loopK_intro (fun (a : (Int × ByteArray × ByteArray × ByteArray × Sl × Sl × Int × Int × Sl × PUnit) × Int) h' m => ∃ (j t' : Nat) (s : Sl) (al : List CT) (rs : List (List Cell)) (B : Heap), (j : Int) ≤ n ∧ a = ((kd, ByteArray.empty, ByteArray.empty, ByteArray.empty, ⟨none, 0⟩, ⟨none, 0⟩, 0, 0, s, ()), (j : Int)) ∧ 3 - j = m ∧ t' ≤ tL + j * Kg dp ∧ al.length = j ∧ Grow hL i l dp h' t' s al rs B) 3
      ⟨0, tL, ⟨none, 0⟩, [], [], _, by omega, rfl, rfl, by omega, rfl, G0⟩ ?_
    rintro _ h' m ⟨j, t', s, al, rs, B, hj, rfl, rfl, ht', hal, G⟩
    dsimp only [uncur]
    have hj3 : j * Kg dp ≤ 3 * Kg dp := Nat.mul_le_mul_right _ (by omega)
    have ew : IntKind.i64.wrap (((dp + 1 : Nat) : Int) - 1) = (dp : Int) := by rw [w64] <;> omega
    refine ifT_dec (fun hlt => ?_) fun hge => ?_
    · show I 4 [_, int (IntKind.i64.wrap (((dp + 1 : Nat) : Int) - 1))] _ h'
      rw [ew]
      refine ih (G.own.onto G.base |>.toStrm SL (t' := t') (by simp) (by omega)) (by omega) fun c r h3 g hc hg => ?_
      obtain ⟨sv, sw, sa, rfl, _⟩ := hc.parts
      obtain ⟨t3, B3, ht3, G3, e3⟩ := G.call ⟨_, SL.cell⟩ g
      obtain ⟨l1, l2⟩ := G3.len
      refine ⟨_, _, _, _, _, _, _, _, _, rfl, appendTo_owns (m := 0) G3.own.swp (by rfl) (by omega) (by simp) fun bn h9 o9 => ⟨3 - (j + 1), by omega, j + 1, t3, _, al ++ [c], rs ++ [condC c sv sw sa], B3, by omega, by rw [show IntKind.i64.wrap ((j : Int) + 1) = ((j + 1 : Nat) : Int) by rw [w64] <;> omega], rfl, by rw [Nat.add_mul]; omega, by simp [hal], G3.snoc o9.swp (CondAt.ext e3 hc) hg⟩⟩
    have hjn : (j : Int) = n := by omega
    have SG : ∀ {h9 : Heap} {t9 : Nat} {s9 : Sl} {al9 : List CT} {rs9 : List (List Cell)} {B9 : Heap}, Grow hL i l dp h9 t9 s9 al9 rs9 B9 → t9 ≤ tL + 3 * Kg dp + 5 → Strm h9 i l zs t9 := fun G h => (G.own.onto G.base).toStrm SL (by simp) (by omega)
    have fin : ∀ {h9 : Heap} {t9 : Nat} {s9 : Sl} {al9 : List CT} {rs9 : List (List Cell)} {B9 : Heap}, Owns B9 h9 (owS i l t9 :: (9, s9, rs9.flatten) :: []) → Ext (hL.del i) B9 → CondsAt (Nw hL B9) al9 rs9 → t9 ≤ tL + 3 * Kg dp + 5 → ((kd = 3 ∨ kd = 4) ∧ 2 ≤ al9.length ∧ al9.length ≤ 5 ∨ kd = 5 ∧ al9.length = 1) →
        sizes al9 ≤ 1 + 5 * Zg dp → deeps al9 ≤ 1 + Dg dp → trsE errN al9 = 0 → narrows al9 → Q [.agg [.int .i64 kd, .str ByteArray.empty, .str ByteArray.empty, .str ByteArray.empty, .slice 3 ⟨none, 0⟩, .slice 5 ⟨none, 0⟩, .int .i64 0, .int .i64 0, .slice 9 s9]] h9 := fun {h9 t9 s9 al9 rs9 B9} o e c h1 h2 h3 h4 h5 h6 => by
      have oh : Owns (h.del i) h9 (owS i l t9 :: (9, s9, rs9.flatten) :: []) := o.onto (xL.trans e)
      refine hQ (mkC kd al9) _ h9 (Owns.toGn (k := Kg (dp + 1)) S oh (by omega) (by omega)) (CondAt.make (c := mkC kd al9) (sv := ⟨none, 0⟩) (sw := ⟨none, 0⟩) (sa := s9) (rs := rs9) (AtS.nil _ _) (AtS.nil _ _) (Nw.atOwnS oh (by simp)) (CondsAt.ext ((Nw.ext2 o.ext).trans (Nw.mono (dom_del SL xL))) c)) ⟨?_, ?_, ?_, ?_⟩
      · rw [trE_eq, if_neg (by rw [errN_node h2]; decide)]; exact h5
      · rw [CT.size_eq]; show 1 + sizes al9 ≤ 2 + 5 * Zg dp; omega
      · rw [CT.deep_eq]; show 1 + deeps al9 ≤ 2 + Dg dp; omega
      · rw [CT.narrow_eq]; exact ⟨by simp [mkC, CT.vals], by simp [mkC, CT.whs], h6⟩
    have finG : ∀ {h9 : Heap} {t9 : Nat} {s9 : Sl} {al9 : List CT} {rs9 : List (List Cell)} {B9 : Heap}, Grow hL i l dp h9 t9 s9 al9 rs9 B9 → t9 ≤ tL + 3 * Kg dp + 5 → ((kd = 3 ∨ kd = 4) ∧ 2 ≤ al9.length ∧ al9.length ≤ 4 ∨ kd = 5 ∧ al9.length = 1) →
        Q [.agg [.int .i64 kd, .str ByteArray.empty, .str ByteArray.empty, .str ByteArray.empty, .slice 3 ⟨none, 0⟩, .slice 5 ⟨none, 0⟩, .int .i64 0, .int .i64 0, .slice 9 s9]] h9 := fun {h9 t9 s9 al9 rs9 B9} G h1 h2 => by
      have z := sizes_le (Z := Zg dp) fun a ha => (G.good a ha).size
      have d := deeps_le (D := Dg dp) fun a ha => (G.good a ha).deep
      have zz : al9.length * Zg dp ≤ 4 * Zg dp := Nat.mul_le_mul_right _ (by omega)
      exact fin G.own G.base G.conds h1 (by omega) (by omega) (by omega) (goods fun a ha => (G.good a ha).err) (narrows_of fun a ha => (G.good a ha).nar)
    obtain ⟨a0, ha0⟩ : ∃ a, al[0]? = some a := ⟨_, List.getElem?_eq_getElem (show 0 < al.length by omega)⟩
    have hal1 : (kd = 3 ∨ kd = 4) ∧ 2 ≤ al.length ∧ al.length ≤ 3 ∨ kd = 5 ∧ al.length = 1 := by omega
    refine joinK_intro (fun b h9 => ∃ t9 B9, t9 ≤ tL + 3 * Kg dp + 1 ∧ Grow hL i l dp h9 t9 s al rs B9 ∧ (b = true → 2 ≤ al.length)) ?_ fun jk hjk => ifT_dec (fun e => ?_) fun _ => hjk _ _ ⟨t', B, by omega, G, fun h => by cases h⟩
    case refine_2 =>
      refine flip_g hI (SG G (by omega)) (by omega) (by decide) (by decide) fun b h9 g9 => ?_
      obtain ⟨t9, B9, ht9, G9, _⟩ := G.call ⟨_, SL.cell⟩ g9
      exact hjk _ _ ⟨t9, B9, by omega, G9, fun _ => by omega⟩
    clear G
    rintro b9 h9 ⟨t9, B9, ht9, G, hb9⟩
    refine joinK_intro (fun (p : Int × ByteArray × ByteArray × ByteArray × Sl × Sl × Int × Int × Sl × PUnit) h8 => ∃ s8 al8 rs8, p = (kd, ByteArray.empty, ByteArray.empty, ByteArray.empty, ⟨none, 0⟩, ⟨none, 0⟩, 0, 0, s8, ()) ∧ Grow hL i l dp h8 t9 s8 al8 rs8 B9 ∧ al8[0]? = some a0 ∧ ((kd = 3 ∨ kd = 4) ∧ 2 ≤ al8.length ∧ al8.length ≤ 4 ∨ kd = 5 ∧ al8.length = 1)) ?_ fun jk hjk => ifT_intro (fun e => ?_) fun _ => hjk _ _ ⟨s, al, rs, rfl, G, ha0, by omega⟩
    case refine_2 =>
      obtain ⟨l1, l2⟩ := G.len
      refine ⟨⟨by omega, by omega⟩, CondsAt.row2 (k := 0) G.conds (G.own.at_ (sz := 9) (s := s) (by simp)) ha0 fun bb oo r hc hr hrd => ?_⟩
      obtain ⟨sv, sw, sa, rfl, _⟩ := hc.parts
      refine ⟨_, _, _, _, _, _, _, _, _, hrd, appendTo_owns (m := 0) G.own.swp (by rfl) (by omega) (by simp) fun bn h8 o8 => hjk _ _ ⟨_, al ++ [a0], rs ++ [condC a0 sv sw sa], rfl, G.snoc o8.swp hc (G.good a0 (List.mem_of_getElem? ha0)), ?_, ?_⟩⟩
      · rw [List.getElem?_append_left (by omega)]; exact ha0
      · have := hb9 e
        simp only [List.length_append, List.length_cons, List.length_nil]
        omega
    clear G
    rintro _ h8 ⟨s8, al8, rs8, rfl, G, ha8, hl8⟩
    dsimp only [uncur]
    refine joinK_intro (fun b h7 => ∃ t7 B7, t7 ≤ tL + 3 * Kg dp + 2 ∧ Grow hL i l dp h7 t7 s8 al8 rs8 B7 ∧ (b = true → kd ≠ 5)) ?_ fun jk hjk => ifT_dec (fun e => ?_) fun _ => hjk _ _ ⟨t9, B9, by omega, G, fun h => by cases h⟩
    case refine_2 =>
      refine flip_g hI (SG G (by omega)) (by omega) (by decide) (by decide) fun b h7 g7 => ?_
      obtain ⟨t7, B7, ht7, G7, _⟩ := G.call ⟨_, SL.cell⟩ g7
      exact hjk _ _ ⟨t7, B7, by omega, G7, fun _ => by omega⟩
    clear G
    rintro b7 h7 ⟨t7, B7, ht7, G, hb7⟩
    refine ifT_intro (fun e => ?_) fun _ => finG G (by omega) hl8
    have hk5 := hb7 e
    obtain ⟨l1, l2⟩ := G.len
    refine ⟨⟨by omega, by omega⟩, CondsAt.row2 (k := 0) G.conds (G.own.at_ (sz := 9) (s := s8) (by simp)) ha8 fun bb oo r hc hr hrd => ?_⟩
    obtain ⟨sv, sw, sa, rfl, _⟩ := hc.parts
    refine ⟨_, _, _, _, _, _, _, _, _, hrd, newK_intro fun i6 h6 hn6 he6 => ?_⟩
    obtain ⟨t6, B6, ht6, G6, e6⟩ := G.call ⟨_, SL.cell⟩ (Gn.ext (SG G (by omega)) (he6 ▸ Ext.new hn6 : Ext h7 h6))
    have hat := (lit_new (k := 9) (n := 1) (cs := condC a0 sv sw sa) hn6 (fun _ h => h) he6 rfl).ext e6
    obtain ⟨r6, hr6, hc6⟩ := G6.conds.get ha8
    have hrr : r6 = condC a0 sv sw sa := by rw [hr] at hr6; cases hr6; rfl
    subst hrr
    have hN : CondAt (Nw hL B6) (mkC 5 [a0]) (condC (mkC 5 [a0]) ⟨none, 0⟩ ⟨none, 0⟩ ⟨some (i6, 0), 1⟩) := CondAt.make (c := mkC 5 [a0]) (rs := [condC a0 sv sw sa]) (AtS.nil _ _) (AtS.nil _ _) (by simpa using hat) (by unfold CondsAt; exact ⟨hc6, CondsAt.nil _⟩)
    have g0 := G6.good a0 (List.mem_of_getElem? ha8)
    obtain ⟨l1, l2⟩ := G6.len
    refine appendTo_owns (m := 0) G6.own.swp (by rfl) (by omega) (by simp) fun bn h5 o5 => ?_
    have z := sizes_le (Z := Zg dp) fun a ha => (G6.good a ha).size
    have d := deeps_le (D := Dg dp) fun a ha => (G6.good a ha).deep
    have zz : al8.length * Zg dp ≤ 4 * Zg dp := Nat.mul_le_mul_right _ (by omega)
    have zn : (mkC 5 [a0]).size = 1 + (a0.size + 0) := by rw [CT.size_eq]; rfl
    have dn : (mkC 5 [a0]).deep = 1 + max a0.deep 0 := by rw [CT.deep_eq]; rfl
    have en : trE errN (mkC 5 [a0]) = 0 := by
      rw [trE_eq, if_neg (by rw [errN_node (.inr ⟨rfl, rfl⟩)]; decide)]
      exact goods fun a ha => by rw [List.mem_singleton.1 ha]; exact g0.err
    have nn : (mkC 5 [a0]).narrow := by rw [CT.narrow_eq]; exact ⟨by simp [mkC, CT.vals], by simp [mkC, CT.whs], narrows_of fun a ha => by rw [List.mem_singleton.1 ha]; exact g0.nar⟩
    have g1 := g0.size
    have g2 := g0.deep
    refine fin (al9 := al8 ++ [mkC 5 [a0]]) (rs9 := rs8 ++ [condC (mkC 5 [a0]) ⟨none, 0⟩ ⟨none, 0⟩ ⟨some (i6, 0), 1⟩]) (by rw [flat_snoc]; exact o5.swp) G6.base (CondsAt.append G6.conds hN) (by omega) ?_ ?_ ?_ ?_ ?_
    · simp only [List.length_append, List.length_cons, List.length_nil]; omega
    · rw [sizes_append, zn]; omega
    · rw [deeps_append, dn]; omega
    · exact goods fun a ha => by
        rcases List.mem_append.1 ha with ha | ha
        · exact (G6.good a ha).err
        · rw [List.mem_singleton.1 ha]; exact en
    · exact narrows_of fun a ha => by
        rcases List.mem_append.1 ha with ha | ha
        · exact (G6.good a ha).nar
        · rw [List.mem_singleton.1 ha]; exact nn
end
end Go.Proofs.YtadakbmoanbcgaaGreatDoorVc
-- CkGen7
namespace Go.Proofs.YtadakbmoanbcgaaGreatDoorVc
open Go.Proofs.Tryz (prog)
section
variable {Pm : Prim} {I : Calls} {Q : Post} {h : Heap} {i : Nat} {l : Sl} {zs : List Int} {t : Nat}
end
end Go.Proofs.YtadakbmoanbcgaaGreatDoorVc
-- CkGen8
namespace Go.Proofs.YtadakbmoanbcgaaGreatDoorVc
open Go.Proofs.Tryz (prog)
def evP (p : Evt × Sl) : List Cell := evtC p.1 p.2
theorem evP_length (p : Evt × Sl) : (evP p).length = 6 := rfl
def evtId (n : Nat) : ByteArray := (⟨#[101]⟩ : ByteArray) ++ Utf8.encode (IntKind.i32.wrap (IntKind.i64.wrap (97 + (IntKind.i64.wrap ((n : Int).tdiv 26)).tmod 26))) ++ Utf8.encode (IntKind.i32.wrap (IntKind.i64.wrap (97 + (n : Int).tmod 26)))
/-- Fields lie in memory that is one's own, or there are none. -/
def flIn (T : List Ow) (s : Sl) (fs : List Fld) : Prop := (s = ⟨none, 0⟩ ∧ fs = []) ∨ (4, s, rows fldC fs) ∈ T
theorem flIn.mono {T U : List Ow} {s : Sl} {fs : List Fld} (h : flIn T s fs) (hs : ∀ p ∈ T, p ∈ U) : flIn U s fs := h.imp id fun h => hs _ h
/-- What is told of an event that is drawn. -/
structure GoodE (e : Evt) : Prop where
  name : e.name ∈ condE
  whoK : e.whoK = 1
  whoT : e.whoT = ⟨#[97, 110, 110, 64, 98, 46, 100, 101]⟩
  flds : ∃ c it : List Fld, e.fields = c ++ it ∧ (c = [] ∨ ∃ n, n ∈ ([0, 5, 100, -5] : List Int) ∧ c = [⟨⟨#[99, 101, 110, 116, 115]⟩, ⟨2, ByteArray.empty, n⟩⟩]) ∧ (it = [] ∨ ∃ s, s ∈ ([⟨#[104, 97, 116]⟩, ⟨#[99, 97, 112]⟩] : List ByteArray) ∧ it = [⟨⟨#[105, 116, 101, 109]⟩, ⟨1, s, 0⟩⟩])
section
variable {Pm : Prim} {I : Calls} {Q : Post} {h : Heap} {i : Nat} {l : Sl} {zs : List Int} {t : Nat}
end
end Go.Proofs.YtadakbmoanbcgaaGreatDoorVc
