/- Vc: what the machine does at a map, told of what the abstract heap says that it holds. -/
import Derived.Test.YtfemminjhecocaaGreatDoorVcPureA
import Derived.MapKept
set_option linter.unusedSimpArgs false
set_option linter.unusedVariables false
namespace Go.Proofs.YtfemminjhecocaaGreatDoorVc

theorem out_look {m : Option Nat} {k : VK} {g : List (V × V) → Option (V × Bool)} {f : V → Bool → TV} {z : TV} {h : Heap} {ids : List Nat} (hh : (Res.look m k g f).out h z ids) :
    ∃ x b es, k.fits x ∧ mapOf h m = some es ∧ g es = some (x, b) ∧ z = f x b := by
  obtain ⟨x, hx, b, ⟨es, h1, h2⟩, h3, _, _⟩ := exV_out hh
  exact ⟨x, b, es, hx, h1, h2, h3.symm⟩

section
variable {P : Program} {ρ : Rho} {w : World}

theorem keyed_isKey {kt : TypeId} {y : V} {v : Value} {d : TypeDesc} (hd : P.underlying kt = some d) (hk : keyed P kt y = true) (hv : VR ρ y v) : MapKept.IsKey d v := by
  unfold keyed at hk
  rw [hd] at hk
  split at hk
  · rename_i h1; cases h1; obtain rfl : v = .string _ := hv; trivial
  · rename_i h1; cases h1; cases eqKind_eq hk; obtain rfl : v = .int _ _ := hv; rfl
  · rename_i h1; cases h1; obtain rfl : v = .bool _ := hv; trivial
  · cases hk

theorem keyEq_now {d : TypeDesc} {x y : V} {v u : Value} {b : Bool} (hx : VR ρ x v) (hy : VR ρ y u) (hk : MapKept.IsKey d v) (h : keyEq x y = some b) : Instr.sameNow d v u = some b ∧ (b = true → v = u) := by
  unfold keyEq at h
  split at h
  · obtain rfl : v = .string _ := hx
    obtain rfl : u = .string _ := hy
    cases h
    cases d <;> first | exact hk.elim | (simp [Instr.sameNow, beq_bytes])
  · split at h
    · rename_i he
      cases eqKind_eq he
      obtain rfl : v = .int _ _ := hx
      obtain rfl : u = .int _ _ := hy
      cases h
      cases d <;> first | exact hk.elim | simp [Instr.sameNow, Bool.beq_eq_decide_eq]
    · cases h
  · obtain rfl : v = .bool _ := hx
    obtain rfl : u = .bool _ := hy
    cases h
    cases d <;> first | exact hk.elim | simp [Instr.sameNow, Bool.beq_eq_decide_eq]
  · cases h

theorem mapGet_now {d : TypeDesc} {k z x : V} {v : Value} {b : Bool} (hk : VR ρ k v) (hd : MapKept.IsKey d v) : ∀ {es : List (V × V)} {ms : List MapEntry} {i : Nat}, EsR ρ es ms → mapGet k z es = some (x, b) →
    (Instr.findNow d v ms i = some none ∧ x = z ∧ b = false) ∨ ∃ j u, Instr.findNow d v ms i = some (some (j, u)) ∧ VR ρ x u ∧ b = true
  | [], [], i, _, h => by simp only [mapGet, Option.some.injEq, Prod.mk.injEq] at h; exact .inl ⟨rfl, h.1.symm, h.2.symm⟩
  | (k', x') :: es, m :: ms, i, ⟨⟨h1, h2⟩, h3⟩, h => by
    simp only [mapGet] at h
    split at h
    · rename_i he
      obtain ⟨h4, _⟩ := keyEq_now hk h1 hd he
      cases h
      exact .inr ⟨i, m.val, by simp [Instr.findNow, h4], h2, rfl⟩
    · rename_i he
      obtain ⟨h4, _⟩ := keyEq_now hk h1 hd he
      rcases mapGet_now hk hd (i := i + 1) h3 h with h5 | ⟨j, u, h5, h6⟩
      · exact .inl ⟨by simp [Instr.findNow, h4, h5.1], h5.2⟩
      · exact .inr ⟨j, u, by simp [Instr.findNow, h4, h5], h6⟩
    · cases h
  | [], _ :: _, _, h, _ => h.elim
  | _ :: _, [], _, h, _ => h.elim

theorem keyEq_ne {x y : V} {v u : Value} (hx : VR ρ x v) (hy : VR ρ y u) (h : keyEq x y = some false) : v ≠ u := by
  unfold keyEq at h
  split at h
  · obtain rfl : v = .string _ := hx
    obtain rfl : u = .string _ := hy
    intro e; cases e; simp at h
  · split at h
    · obtain rfl : v = .int _ _ := hx
      obtain rfl : u = .int _ _ := hy
      intro e; cases e; simp at h
    · cases h
  · obtain rfl : v = .bool _ := hx
    obtain rfl : u = .bool _ := hy
    intro e; cases e; simp at h
  · cases h

theorem mapSet_now {d : TypeDesc} {k x : V} {v u : Value} {c : Nat} (hk : VR ρ k v) (hx : VR ρ x u) (hd : MapKept.IsKey d v) : ∀ {es es' : List (V × V)} {ms : List MapEntry} {i : Nat}, EsR ρ es ms → mapSet k x es = some es' →
    (Instr.findNow d v ms i = some none ∧ EsR ρ es' (ms ++ [{ key := v, val := u, born := c }]) ∧ ∀ m ∈ ms, m.key ≠ v) ∨
    ∃ j e, Instr.findNow d v ms i = some (some (i + j, e.val)) ∧ ms[j]? = some e ∧ e.key = v ∧ EsR ρ es' (ms.modify j fun e => { e with key := v, val := u })
  | [], _, [], i, _, h => by cases h; exact .inl ⟨rfl, ⟨⟨hk, hx⟩, trivial⟩, by simp⟩
  | (k', x') :: es, es', m :: ms, i, ⟨⟨h1, h2⟩, h3⟩, h => by
    simp only [mapSet] at h
    split at h
    · rename_i he
      obtain ⟨h4, h5⟩ := keyEq_now hk h1 hd he
      cases h
      exact .inr ⟨0, m, by simp [Instr.findNow, h4], rfl, (h5 rfl).symm, ⟨hk, hx⟩, h3⟩
    · rename_i he
      obtain ⟨h4, _⟩ := keyEq_now hk h1 hd he
      cases hs : mapSet k x es with
      | none => rw [hs] at h; cases h
      | some es1 =>
        rw [hs] at h
        cases h
        rcases mapSet_now hk hx hd (i := i + 1) h3 hs with ⟨h5, h6, h7⟩ | ⟨j, e, h5, h6, h7, h8⟩
        · exact .inl ⟨by simp [Instr.findNow, h4, h5], ⟨⟨h1, h2⟩, h6⟩, List.forall_mem_cons.2 ⟨fun e => keyEq_ne hk h1 he e.symm, h7⟩⟩
        · exact .inr ⟨j + 1, e, by simp [Instr.findNow, h4, h5]; omega, by simpa using h6, h7, ⟨h1, h2⟩, h8⟩
    · cases h
  | [], _, _ :: _, _, h, _ => h.elim
  | _ :: _, _, [], _, h, _ => h.elim

theorem zero_VR {t : TypeId} {z : V} {i : TypeInfo} {v : Value} (hz : zeroV P t = some z) (ho : zeroOk P t = true) (hi : P.info? t = some i) (hv : i.zero = some v) : VR ρ z v := by
  obtain ⟨k, i', v', hk, hlk, hzc, hi', hv', hcs⟩ := zeroV_R hz
  rw [hi] at hi'; cases hi'
  rw [hv] at hv'; cases hv'
  unfold zeroOk at ho
  rw [hk, hi] at ho
  simp only [Option.bind_some, hv] at ho
  cases k with
  | one kd =>
    cases z with
    | agg cs => exact hlk.elim
    | one c =>
      simp only [V.cells, VK.kds, List.map_cons, List.map_nil, List.cons.injEq, and_true] at hzc
      subst hzc
      exact isZero_R ho
  | agg ks =>
    cases z with
    | one c => exact hlk.elim
    | agg cs =>
      cases v with
      | agg vs => exact ⟨vs, rfl, by simpa [V.cells, Value.cells] using hcs ρ⟩
      | _ => cases ho

/-- A look into a map. -/
theorem run_lookup {t kt el : TypeId} {h : Heap} {m : Option Nat} {mv kv : Value} {y z x : V} {b ok : Bool} {es : List (V × V)} (hr : HR ρ h w) (hu : P.underlying t = some (.map kt el)) (hm : CR ρ (.map m) mv) (hk : VR ρ y kv)
    (hy : keyed P kt y = true) (hz : zeroV P el = some z) (hzo : zeroOk P el = true) (hes : mapOf h m = some es) (hg : mapGet y z es = some (x, b)) :
    ∃ v, (Instr.lookup t mv kv ok).run P w = .ok (if ok then .tuple #[v, .bool b] else v) w ∧ VR ρ x v := by
  obtain ⟨d, hd⟩ : ∃ d, P.underlying kt = some d := by
    unfold keyed at hy
    cases h1 : P.underlying kt with
    | none => rw [h1] at hy; cases hy
    | some d => exact ⟨d, rfl⟩
  have hik := keyed_isKey hd hy hk
  obtain ⟨_, i, zv, _, _, _, hi, hzv, _⟩ := zeroV_R hz
  have hz0 := run_zeroValue (P := P) (w := w) hi hzv
  have hzr : VR ρ z zv := zero_VR hz hzo hi hzv
  have key : ∀ ms : Array MapEntry, EsR ρ es ms.toList → ∃ v, VR ρ x v ∧ (((Instr.findKey kt kv ms.toList).run P w = .ok none w ∧ v = zv ∧ b = false) ∨ ∃ j, (Instr.findKey kt kv ms.toList).run P w = .ok (some (j, v)) w ∧ b = true) := by
    intro ms hms
    rcases mapGet_now hk hik (i := 0) hms hg with ⟨h1, rfl, rfl⟩ | ⟨j, u, h1, h2, rfl⟩
    · exact ⟨zv, hzr, .inl ⟨MapKept.run_findKey hd h1, rfl, rfl⟩⟩
    · exact ⟨u, h2, .inr ⟨j, MapKept.run_findKey hd h1, rfl⟩⟩
  cases m with
  | none =>
    obtain rfl : mv = .map none := hm
    cases hes
    obtain ⟨v, h2, h1⟩ := key #[] trivial
    refine ⟨v, ?_, h2⟩
    unfold Instr.lookup
    rcases h1 with ⟨h1, rfl, rfl⟩ | ⟨j, h1, rfl⟩
    · simp only [Sem.run_bind, run_underlying hu, Result.andThen_ok, Sem.run_pure, MapKept.run_checkKey hd hik, h1, hz0]
    · simp only [Sem.run_bind, run_underlying hu, Result.andThen_ok, Sem.run_pure, MapKept.run_checkKey hd hik, h1]
  | some j =>
    obtain ⟨l, hl, rfl⟩ : ∃ l, ρ j = some l ∧ mv = .map (some l.block) := hm
    simp only [mapOf] at hes
    split at hes
    · rename_i es' hj
      cases hes
      obtain ⟨ob, hob, ms, clock, rfl, hms, _⟩ := hr.live j _ l hj hl
      obtain ⟨v, h2, h1⟩ := key ms hms
      refine ⟨v, ?_, h2⟩
      unfold Instr.lookup
      rcases h1 with ⟨h1, rfl, rfl⟩ | ⟨j, h1, rfl⟩
      · simp only [Sem.run_bind, run_underlying hu, MapKept.run_getObj_map hob, Result.andThen_ok, Sem.run_pure, MapKept.run_checkKey hd hik, h1, hz0]
      · simp only [Sem.run_bind, run_underlying hu, MapKept.run_getObj_map hob, Result.andThen_ok, Sem.run_pure, MapKept.run_checkKey hd hik, h1]
    · cases hes

/-- An entry of a map is laid. -/
theorem run_mapUpdate {t kt el : TypeId} {r : Nat} {ms : Array MapEntry} {clock : Nat} {kv xv : Value} {y x : V} {es es' : List (V × V)} (hu : P.underlying t = some (.map kt el)) (hb : w.heap[r]? = some (.map ms clock)) (hms : EsR ρ es ms.toList) (hst : MapKept.Stamped ms clock)
    (hk : VR ρ y kv) (hx : VR ρ x xv) (hy : keyed P kt y = true) (hs : mapSet y x es = some es') :
    ∃ ms' clock', (Instr.mapUpdate t (.map (some r)) kv xv).run P w = .ok () { w with heap := w.heap.setIfInBounds r (.map ms' clock') } ∧ EsR ρ es' ms'.toList ∧ MapKept.Stamped ms' clock' := by
  obtain ⟨d, hd⟩ : ∃ d, P.underlying kt = some d := by
    unfold keyed at hy
    cases h1 : P.underlying kt with
    | none => rw [h1] at hy; cases hy
    | some d => exact ⟨d, rfl⟩
  have hik := keyed_isKey hd hy hk
  rcases mapSet_now (c := clock) hk hx hik (i := 0) hms hs with ⟨h1, h2, hfr⟩ | ⟨j, e, h1, h2, h3, h4⟩
  · refine ⟨ms.push { key := kv, val := xv, born := clock }, clock + 1, ?_, by simpa using h2, MapKept.stamped_push hst hfr⟩
    unfold Instr.mapUpdate
    simp only [Sem.run_bind, run_underlying hu, MapKept.run_getObj_map hb, MapKept.run_checkKey hd hik, MapKept.run_findKey hd h1, MapKept.run_setObj_map _ hb, Result.andThen_ok]
  · simp only [Nat.zero_add] at h1
    refine ⟨ms.modify j fun e => { e with key := kv, val := xv }, clock, ?_, by rw [Array.toList_modify]; exact h4, MapKept.stamped_modify hst _ _ (fun _ _ => rfl) (fun e' _ he' => ?_)⟩
    rotate_left
    · have hj : ms[j]? = some e := by simpa using h2
      rw [hj] at he'; cases he'; exact h3.symm
    have hj : ms[j]? = some e := by simpa using h2
    unfold Instr.mapUpdate
    simp only [Sem.run_bind, run_underlying hu, MapKept.run_getObj_map hb, MapKept.run_checkKey hd hik, MapKept.run_findKey hd h1, Result.andThen_ok, hj, Option.map_some, Option.getD_some, h3, MapKept.run_keyThatStays hik, MapKept.run_setObj_map _ hb]

end
end Go.Proofs.YtfemminjhecocaaGreatDoorVc
