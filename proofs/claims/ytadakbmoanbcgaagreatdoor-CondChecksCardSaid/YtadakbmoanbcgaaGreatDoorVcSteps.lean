/- Vc, part 12: steps that change memory. -/
import Derived.Test.YtadakbmoanbcgaaGreatDoorVcState
set_option linter.unusedSimpArgs false
set_option linter.unusedVariables false
namespace Go.Proofs.YtadakbmoanbcgaaGreatDoorVc

theorem over_one (d : Nat) (x : TV) (σ : Nat → TV) (t : Nat) : Env.over [(d, x)] σ t = if t = d then x else σ t := by
  simp only [Env.over]
  by_cases h : t = d
  · subst h; rw [if_pos rfl]; simp
  · rw [if_neg h]
    have : d.beq t = false := beq_ne fun e => h e.symm
    rw [this]

def Rho.put (ρ : Rho) (i : Nat) (l : Loc) : Rho := fun j => if j = i then some l else ρ j
theorem Rho.put_same (ρ : Rho) (i : Nat) (l : Loc) : ρ.put i l i = some l := if_pos rfl
theorem Rho.put_ne (ρ : Rho) {i j : Nat} (l : Loc) (h : j ≠ i) : ρ.put i l j = ρ j := if_neg h
theorem Rho.le_put {ρ : Rho} {i : Nat} (l : Loc) (h : ρ i = none) : ρ.le (ρ.put i l) := fun j m hj => by
  by_cases e : j = i
  · rw [e, h] at hj; cases hj
  · rw [Rho.put_ne ρ l e]; exact hj
theorem Heap.set_same (h : Heap) (i : Nat) (o : Obj) : h.set i o i = some o := if_pos rfl
theorem Heap.set_ne (h : Heap) {i j : Nat} (o : Obj) (e : j ≠ i) : h.set i o j = h j := if_neg e
theorem Heap.del_same (h : Heap) (i : Nat) : h.del i i = none := if_pos rfl
theorem Heap.del_ne (h : Heap) {i j : Nat} (e : j ≠ i) : h.del i j = h j := if_neg e

theorem EsR.mono {ρ ρ' : Rho} (hle : ρ.le ρ') : ∀ {es : List (V × V)} {ms : List MapEntry}, EsR ρ es ms → EsR ρ' es ms
  | [], [], _ => trivial
  | _ :: _, _ :: _, ⟨⟨h1, h2⟩, h3⟩ => ⟨⟨VR.mono hle h1, VR.mono hle h2⟩, EsR.mono hle h3⟩
  | [], _ :: _, h => h.elim
  | _ :: _, [], h => h.elim

theorem ObjR.mono {ρ ρ' : Rho} (hle : ρ.le ρ') {l : Loc} {o : Obj} {ob : Go.Obj} (hr : ObjR ρ l o ob) : ObjR ρ' l o ob := by
  cases o with
  | cells ro cs => obtain ⟨c, el, fz, h1, h2, h3, h4, h5⟩ := hr; exact ⟨c, el, fz, h1, h2, h3, CRs.mono hle h4, h5⟩
  | map es => obtain ⟨ms, clock, h1, h2, h3⟩ := hr; exact ⟨ms, clock, h1, EsR.mono hle h2, h3⟩
  | pin c => obtain ⟨h1, v, e, fz, h2, h3⟩ := hr; exact ⟨h1, v, e, fz, h2, CR.mono hle h3⟩
  | mapF fs ck => obtain ⟨ms, h1, h2, h3⟩ := hr; exact ⟨ms, h1, EsR.mono hle h2, h3⟩
  | iter m seen ck => obtain ⟨h1, lm, h2, h3⟩ := hr; exact ⟨h1, lm, hle _ _ h2, h3⟩
  | mapE es y n => obtain ⟨ms, clock, h1, h2, h3, e, h4, h5, h6⟩ := hr; exact ⟨ms, clock, h1, EsR.mono hle h2, h3, e, h4, VR.mono hle h5, h6⟩
  | globs f => exact hr.elim

section
variable {ρ0 : Rho} {h0 : Heap} {w0 : World} {C : Ctx} {ρ : Rho} {h : Heap} {w : World} {σ : Nat → TV} {a : Act}

theorem HR.pick (hr : HR ρ h w) : ∃ i, h i = none ∧ ρ i = none := let ⟨N, hN⟩ := hr.fresh; ⟨N, hN N (Nat.le_refl _)⟩

/-- A place of the frame's own becomes a block of the abstract heap. -/
theorem HR.map (hr : HR ρ h w) {i b : Nat} {cs : List Cell} {n0 : Nat} (hi : h i = none) (hρ : ρ i = none) (hp : Priv ρ w n0 b cs) :
    HR (ρ.put i ⟨b, 0, cs.length⟩) (h.set i (.cells false cs)) w := by
  have hle := Rho.le_put (ρ := ρ) (i := i) ⟨b, 0, cs.length⟩ hρ
  obtain ⟨_, hun, c, el, hc, hcs⟩ := hp
  have hlen := hcs.length
  simp at hlen
  refine ⟨fun j o l hj hl => ?_, fun j k l l' hj hk hh hh' hb => ?_, fun j l hl => ?_, ?_, (hr.glob.mono hle).set fun f e => by cases e⟩
  · by_cases e : j = i
    · subst e
      rw [Heap.set_same] at hj
      rw [Rho.put_same] at hl
      cases hj; cases hl
      refine ⟨_, hc, c, el, (0, 0), rfl, hlen.symm, by simp; omega, ?_, fun _ j' _ => by simp⟩
      have := CRs.mono hle hcs
      show CRs _ cs ((c.toList.drop 0).take cs.length)
      rw [List.drop_zero, List.take_of_length_le (by simp; omega)]
      exact this
    · rw [Heap.set_ne _ _ e] at hj
      rw [Rho.put_ne _ _ e] at hl
      obtain ⟨ob, h1, h2⟩ := hr.live j o l hj hl
      exact ⟨ob, h1, h2.mono hle⟩
  · by_cases e : j = i
    · by_cases e' : k = i
      · rw [e, e']
      · subst e
        rw [Rho.put_same] at hj
        rw [Rho.put_ne _ _ e'] at hk
        cases hj
        exact absurd hb.symm (hun k l' hk)
    · by_cases e' : k = i
      · subst e'
        rw [Rho.put_same] at hk
        rw [Rho.put_ne _ _ e] at hj
        cases hk
        exact absurd hb (hun j l hj)
      · rw [Rho.put_ne _ _ e] at hj
        rw [Rho.put_ne _ _ e'] at hk
        rw [Heap.set_ne _ _ e] at hh
        rw [Heap.set_ne _ _ e'] at hh'
        exact hr.inj j k l l' hj hk hh hh' hb
  · by_cases e : j = i
    · subst e; rw [Rho.put_same] at hl; cases hl; exact (Array.getElem?_eq_some_iff.1 hc).1
    · rw [Rho.put_ne _ _ e] at hl; exact hr.dom j l hl
  · obtain ⟨N, hN⟩ := hr.fresh
    refine ⟨max N (i + 1), fun j hj => ?_⟩
    have e : j ≠ i := by omega
    rw [Heap.set_ne _ _ e, Rho.put_ne _ _ e]
    exact hN j (by omega)

theorem Inv.mat {u i sz n : Nat} {cs : List Cell} (iv : Inv ρ0 h0 w0 C ρ h w σ a) (hu : σ u = .lit sz n cs) (hi : h i = none) (hρ : ρ i = none) :
    ∃ ρ', Inv ρ0 h0 w0 C ρ' (h.set i (.cells false cs)) w (Env.over [(u, .v (.one (.slice sz ⟨some (i, 0), n⟩)))] σ) a ∧ ρ.le ρ' ∧ ∀ j, h j ≠ none → ρ' j = ρ j := by
  have htu := iv.tr u
  rw [hu] at htu
  obtain ⟨b, c0, hb, ⟨hnc, hn, _⟩, hp⟩ := htu
  have hle := Rho.le_put (ρ := ρ) (i := i) ⟨b, 0, cs.length⟩ hρ
  have hpb : privB (σ u) (a.tmps.getD u undef) = some b := by rw [hu, hb]; rfl
  have hother : ∀ t b', t ≠ u → privB (σ t) (a.tmps.getD t undef) = some b' → b' ≠ b := fun t b' hne h1 e => iv.dis t u b' hne h1 (e ▸ hpb)
  refine ⟨ρ.put i ⟨b, 0, cs.length⟩, ⟨?_, iv.hr.map hi hρ hp, fun t => ?_, fun t t' b' hne h1 h2 => ?_, fun t t' off ht => ?_, iv.size, iv.defers⟩, hle, fun j hj => ?_⟩
  · have hb0 := hp.1
    refine ⟨iv.fr.os, iv.fr.tape, iv.fr.output, iv.fr.size, fun j l hj => hle j l (iv.fr.sub j l hj), fun j l hj => ?_, iv.fr.keep, fun k hk hw => ?_⟩
    · by_cases e : j = i
      · subst e; rw [Rho.put_same] at hj; cases hj; exact .inr (.inl hb0)
      · rw [Rho.put_ne _ _ e] at hj; exact iv.fr.new j l hj
    · obtain ⟨j, l, o, hl, hlb, ho, hop⟩ := hw
      by_cases e : j = i
      · subst e; rw [Rho.put_same] at hl; cases hl; simp only at hlb; omega
      · rw [Rho.put_ne _ _ e] at hl
        rw [Heap.set_ne _ _ e] at ho
        exact iv.fr.wr k hk ⟨j, l, o, hl, hlb, ho, hop⟩
  · rw [over_one]
    by_cases e : t = u
    · subst e
      rw [if_pos rfl, hb]
      exact ⟨_, c0, rfl, hnc, .inl ⟨_, Rho.put_same _ _ _, rfl, by simp [hn]⟩⟩
    · rw [if_neg e]
      have ht := iv.tr t
      have hpr : ∀ b' ds, b' ≠ b → Priv ρ w w0.heap.size b' ds → Priv (ρ.put i ⟨b, 0, cs.length⟩) w w0.heap.size b' ds := fun b' ds hbb ⟨p1, p2, c, el, p3, p4⟩ => by
        refine ⟨p1, fun j l hj he => ?_, c, el, p3, CRs.mono hle p4⟩
        by_cases e2 : j = i
        · subst e2; rw [Rho.put_same] at hj; cases hj; exact hbb he.symm
        · rw [Rho.put_ne _ _ e2] at hj; exact p2 j l hj he
      have hot := hother t
      cases hσ : σ t with
      | undef => trivial
      | v x => rw [hσ] at ht; exact VR.mono hle ht
      | tup l => rw [hσ] at ht; obtain ⟨vs, h1, h2⟩ := ht; exact ⟨vs, h1, VRs.mono hle h2⟩
      | var ds => rw [hσ] at ht hot; obtain ⟨b', h1, h2⟩ := ht; exact ⟨b', h1, hpr b' ds (hot b' e (by rw [h1]; rfl)) h2⟩
      | ref t' off => rw [hσ] at ht; exact ht
      | lit sz' n' ds => rw [hσ] at ht hot; obtain ⟨b', c', h1, h2, h3⟩ := ht; exact ⟨b', c', h1, h2, hpr b' ds (hot b' e (by rw [h1]; rfl)) h3⟩
  · rw [over_one] at h1 h2
    by_cases e : t = u
    · rw [if_pos e] at h1; cases h1
    · by_cases e' : t' = u
      · rw [if_pos e'] at h2; cases h2
      · rw [if_neg e] at h1
        rw [if_neg e'] at h2
        exact iv.dis t t' b' hne h1 h2
  · rw [over_one] at ht
    by_cases e : t = u
    · rw [if_pos e] at ht; cases ht
    · rw [if_neg e] at ht; exact iv.refs t t' off ht
  · have e : j ≠ i := fun e => hj (e ▸ hi)
    exact Rho.put_ne _ _ e

/-- A new block, known to the abstract heap from the first. -/
theorem HR.new (hr : HR ρ h w) {i : Nat} {o : Obj} {ob : Go.Obj} {n : Nat} (hi : h i = none) (hρ : ρ i = none) (ho : ∀ ρ', ρ.le ρ' → ObjR ρ' ⟨w.heap.size, 0, n⟩ o ob) :
    HR (ρ.put i ⟨w.heap.size, 0, n⟩) (h.set i o) { w with heap := w.heap.push ob } ∧ Fr ρ h w (ρ.put i ⟨w.heap.size, 0, n⟩) (h.set i o) { w with heap := w.heap.push ob } := by
  have hle := Rho.le_put (ρ := ρ) (i := i) ⟨w.heap.size, 0, n⟩ hρ
  have hr' := hr.push ob
  refine ⟨⟨fun j o' l hj hl => ?_, fun j k l l' hj hk hh hh' hb => ?_, fun j l hl => ?_, ?_, (hr.glob.mono hle).set fun f => (ho _ hle).no_globs f⟩, ⟨rfl, rfl, rfl, by simp, hle, fun j l hl => ?_, fun k hk _ => by simp [Array.getElem?_push, Nat.ne_of_lt hk], fun k hk hw => ?_⟩⟩
  · by_cases e : j = i
    · subst e
      rw [Heap.set_same] at hj
      rw [Rho.put_same] at hl
      cases hj; cases hl
      exact ⟨ob, by simp, ho _ hle⟩
    · rw [Heap.set_ne _ _ e] at hj
      rw [Rho.put_ne _ _ e] at hl
      obtain ⟨ob', h1, h2⟩ := hr'.live j o' l hj hl
      exact ⟨ob', h1, h2.mono hle⟩
  · by_cases e : j = i
    · by_cases e' : k = i
      · rw [e, e']
      · subst e
        rw [Rho.put_same] at hj
        rw [Rho.put_ne _ _ e'] at hk
        cases hj
        have := hr.dom k l' hk
        simp only at hb; omega
    · by_cases e' : k = i
      · subst e'
        rw [Rho.put_same] at hk
        rw [Rho.put_ne _ _ e] at hj
        cases hk
        have := hr.dom j l hj
        simp only at hb; omega
      · rw [Rho.put_ne _ _ e] at hj
        rw [Rho.put_ne _ _ e'] at hk
        rw [Heap.set_ne _ _ e] at hh
        rw [Heap.set_ne _ _ e'] at hh'
        exact hr.inj j k l l' hj hk hh hh' hb
  · by_cases e : j = i
    · subst e; rw [Rho.put_same] at hl; cases hl; simp
    · rw [Rho.put_ne _ _ e] at hl; exact hr'.dom j l hl
  · obtain ⟨N, hN⟩ := hr.fresh
    refine ⟨max N (i + 1), fun j hj => ?_⟩
    have e : j ≠ i := by omega
    rw [Heap.set_ne _ _ e, Rho.put_ne _ _ e]
    exact hN j (by omega)
  · by_cases e : j = i
    · subst e; rw [Rho.put_same] at hl; cases hl; exact .inr (.inl (Nat.le_refl _))
    · rw [Rho.put_ne _ _ e] at hl; exact .inl hl
  · obtain ⟨j, l, o', hl, hlb, ho', hop⟩ := hw
    by_cases e : j = i
    · subst e; rw [Rho.put_same] at hl; cases hl; simp only at hlb; omega
    · rw [Rho.put_ne _ _ e] at hl
      rw [Heap.set_ne _ _ e] at ho'
      exact ⟨j, l, o', hl, hlb, ho', hop⟩


/-- Only block b has turned: its cells, not their number. -/
structure OneBlock (w w' : World) (b : Nat) (cur cur' : Array Value) (el : TypeId) (fz : Nat × Nat) : Prop where
  os : w'.os = w.os
  tape : w'.tape = w.tape
  output : w'.output = w.output
  size : w'.heap.size = w.heap.size
  here : w'.heap[b]? = some (.cells cur' el fz)
  there : ∀ k, k ≠ b → w'.heap[k]? = w.heap[k]?
  same : cur'.size = cur.size

theorem run_storeCells_one {P : Program} {b o : Nat} {el : TypeId} {fz : Nat × Nat} : ∀ (vs : List Value) (i : Nat) (w : World) (cur : Array Value), w.heap[b]? = some (.cells cur el fz) →
    o + i + vs.length ≤ cur.size → (∀ j, j < cur.size → (decide (fz.1 ≤ j) && decide (j < fz.2)) = false) → (∀ v ∈ vs, v.oneCell' = true) →
    ∃ w' cur', (storeCells ⟨b, o, none⟩ vs i).run P w = .ok () w' ∧ OneBlock w w' b cur cur' el fz ∧ cur'.toList = cur.toList.take (o + i) ++ vs ++ cur.toList.drop (o + i + vs.length)
  | [], i, w, cur, hb, hle, hfz, h1 => ⟨w, cur, rfl, ⟨rfl, rfl, rfl, rfl, hb, fun _ _ => rfl, rfl⟩, by simp⟩
  | v :: vs, i, w, cur, hb, hle, hfz, h1 => by
    simp only [List.length_cons] at hle
    have hlt : o + i < cur.size := by omega
    have hc : w.cell? ⟨b, o + i, none⟩ = some cur[o + i] := by rw [cell_at hb]; simp [hlt]
    have hf : w.frozen? ⟨b, o + i, none⟩ = false := by simp only [World.frozen?, hb]; exact hfz _ hlt
    have hst : (store ((⟨b, o, none⟩ : Addr).add i) v).run P w = .ok () (w.setCell ⟨b, o + i, none⟩ v) := by
      rw [addrAdd, run_store P w _ v _ (h1 v (by simp)), hc]
      simp [hf]
    have hb' : (w.setCell ⟨b, o + i, none⟩ v).heap[b]? = some (.cells (cur.setIfInBounds (o + i) v) el fz) := by
      simp [World.setCell, Array.getElem?_modify, hb]
    obtain ⟨w', cur', hr, ho, ht⟩ := run_storeCells_one (P := P) (b := b) (o := o) (el := el) (fz := fz) vs (i + 1) (w.setCell ⟨b, o + i, none⟩ v) _ hb' (by simp; omega) (by simpa using hfz) (fun u hu => h1 u (by simp [hu]))
    refine ⟨w', cur', ?_, ⟨ho.os, ho.tape, ho.output, by rw [ho.size]; simp [World.setCell], ho.here, fun k hk => ?_, by rw [ho.same]; simp⟩, ?_⟩
    · simp only [storeCells, Sem.run_bind, hst, Result.andThen_ok, hr]
    · rw [ho.there k hk]
      simp [World.setCell, Array.getElem?_modify, Ne.symm hk]
    · rw [ht]
      simp only [Array.toList_setIfInBounds, List.length_cons]
      have hlt' : o + i < cur.toList.length := by simpa using hlt
      have e1 : (cur.toList.set (o + i) v).take (o + (i + 1)) = cur.toList.take (o + i) ++ [v] := by
        rw [show o + (i + 1) = o + i + 1 by omega, List.take_succ_eq_append_getElem (by simpa using hlt'), List.take_set_of_le (Nat.le_refl _)]
        simp
      have e2 : (cur.toList.set (o + i) v).drop (o + (i + 1) + vs.length) = cur.toList.drop (o + i + (vs.length + 1)) := by
        rw [List.drop_set_of_lt (by omega), show o + (i + 1) + vs.length = o + i + (vs.length + 1) by omega]
      rw [e1, e2]
      simp

theorem updCells_eq (cs : List Cell) (o : Nat) (ns : List Cell) (h : o + ns.length ≤ cs.length) : updCells cs o ns = splice cs o ns := by
  unfold updCells
  split
  · rename_i c
    simp only [List.length_singleton] at h
    unfold splice
    apply List.ext_getElem?
    intro j
    simp only [List.length_singleton, List.append_assoc, List.singleton_append]
    rw [List.getElem?_set]
    by_cases e : o = j
    · subst e
      rw [if_pos rfl, if_pos (by omega)]
      rw [List.getElem?_append_right (by simp; omega)]
      simp [Nat.min_eq_left (show o ≤ cs.length by omega)]
    · rw [if_neg e]
      by_cases hj : j < o
      · rw [List.getElem?_append_left (by simp; omega), List.getElem?_take_of_lt hj]
      · rw [List.getElem?_append_right (by simp; omega)]
        have hm : (List.take o cs).length = o := by simp; omega
        rw [hm]
        obtain ⟨m, rfl⟩ : ∃ m, j = o + 1 + m := ⟨j - o - 1, by omega⟩
        have : o + 1 + m - o = m + 1 := by omega
        rw [this]
        simp
  · rfl

/-- A store into a block of the abstract heap. -/
theorem HR.store (hr : HR ρ h w) {w' : World} {i o : Nat} {cs ns : List Cell} {us : List Value} {l : Loc} (hi : h i = some (.cells false cs)) (hl : ρ i = some l) (hle : o + ns.length ≤ cs.length)
    (hn : CRs ρ ns us) {cur cur' : Array Value} {el : TypeId} {fz : Nat × Nat} (hb : w.heap[l.block]? = some (.cells cur el fz))
    (hob : OneBlock w w' l.block cur cur' el fz) (ht : cur'.toList = cur.toList.take (l.base + o) ++ us ++ cur.toList.drop (l.base + o + us.length)) :
    HR ρ (h.set i (.cells false (updCells cs o ns))) w' ∧ Fr ρ h w ρ (h.set i (.cells false (updCells cs o ns))) w' := by
  rw [updCells_eq cs o ns hle]
  have hnl := hn.length
  refine ⟨⟨fun j o' l' hj hl' => ?_, fun j k l1 l2 hj hk hh hh' hbb => ?_, fun j l' hl' => by rw [hob.size]; exact hr.dom j l' hl', ?_, hr.glob.set fun f e => by cases e⟩, ⟨hob.os, hob.tape, hob.output, Nat.le_of_eq hob.size.symm, fun _ _ h => h, fun _ _ h => .inl h, fun k hk hnw => ?_, fun k hk hw => ?_⟩⟩
  · by_cases e : j = i
    · subst e
      rw [Heap.set_same] at hj
      rw [hl] at hl'
      cases hj; cases hl'
      obtain ⟨ob, h1, c, el', fz', rfl, h2, h3, h4, h5⟩ := hr.live j _ l hi hl
      rw [hb] at h1
      cases h1
      refine ⟨_, hob.here, cur', el, fz, rfl, by rw [hob.same]; exact h2, ?_, ?_, fun _ k hk => h5 rfl k (by rw [← hob.same]; exact hk)⟩
      · rw [splice_length hle, hob.same]; exact h3
      · rw [splice_length hle]
        have hs := h4.splice hn o
        have hcl : cs.length ≤ cur.toList.length - l.base := by simp; omega
        have : (cur'.toList.drop l.base).take cs.length = (List.take cs.length (List.drop l.base cur.toList)).take o ++ us ++ (List.take cs.length (List.drop l.base cur.toList)).drop (o + us.length) := by
          apply List.ext_getElem?
          intro j'
          have hsz : cur.toList.length = cur.size := by simp
          rw [ht]
          simp only [List.getElem?_take, List.getElem?_drop, List.getElem?_append, List.length_append, List.length_take, List.length_drop, hsz]
          repeat' split
          all_goals first
            | rfl
            | (exfalso; omega)
            | (congr 1; omega)
            | (rw [List.getElem?_eq_none (by simp; omega)])
        rw [this]
        exact hs
    · rw [Heap.set_ne _ _ e] at hj
      obtain ⟨ob, h1, h2⟩ := hr.live j o' l' hj hl'
      have hne : l'.block ≠ l.block := fun eb => e (hr.inj j i l' l hl' hl (by rw [hj]; simp) (by rw [hi]; simp) eb)
      exact ⟨ob, by rw [hob.there _ hne]; exact h1, h2⟩
  · have hlive : ∀ k, (h.set i (.cells false (splice cs o ns))) k ≠ none → h k ≠ none := fun k hk => by
      by_cases e : k = i
      · rw [e, hi]; simp
      · rw [Heap.set_ne _ _ e] at hk; exact hk
    exact hr.inj j k l1 l2 hj hk (hlive j hh) (hlive k hh') hbb
  · obtain ⟨N, hN⟩ := hr.fresh
    refine ⟨N, fun j hj => ?_⟩
    have e : j ≠ i := fun e => by have := (hN j hj).1; rw [e, hi] at this; cases this
    rw [Heap.set_ne _ _ e]
    exact hN j hj
  · refine hob.there k fun e => hnw ⟨i, l, _, hl, e.symm, hi, rfl⟩
  · obtain ⟨j, l', o', hl', hlb, ho', hop⟩ := hw
    by_cases e : j = i
    · subst e; exact ⟨j, l', _, hl', hlb, hi, rfl⟩
    · rw [Heap.set_ne _ _ e] at ho'; exact ⟨j, l', o', hl', hlb, ho', hop⟩

end
end Go.Proofs.YtadakbmoanbcgaaGreatDoorVc
