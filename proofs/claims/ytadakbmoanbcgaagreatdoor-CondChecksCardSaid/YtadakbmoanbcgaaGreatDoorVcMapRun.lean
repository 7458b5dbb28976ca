/- Vc: what the machine does at a map, told of what the abstract heap says that it holds. -/
import Derived.Test.YtadakbmoanbcgaaGreatDoorVcEqA
import Derived.MapKept
set_option linter.unusedSimpArgs false
set_option linter.unusedVariables false
namespace Go.Proofs.YtadakbmoanbcgaaGreatDoorVc

theorem out_look {m : Option Nat} {k : VK} {g : List (V × V) → Option (V × Bool)} {f : V → Bool → TV} {z : TV} {h : Heap} {ids : List Nat} (hh : (Res.look m k g f).out h z ids) :
    ∃ x b es, k.fits x ∧ mapOf h m = some es ∧ g es = some (x, b) ∧ z = f x b := by
  obtain ⟨x, hx, b, ⟨es, h1, h2⟩, h3, _, _⟩ := exV_out hh
  exact ⟨x, b, es, hx, h1, h2, h3.symm⟩

section
variable {P : Program} {ρ : Rho} {w : World}

theorem keyed_isKey {kt : TypeId} {c : Cell} {v : Value} {d : TypeDesc} (hd : P.underlying kt = some d) (hk : keyed P kt (.one c) = true) (hv : VR ρ (.one c) v) : MapKept.IsKey d v := by
  generalize hy : V.one c = y at hk hv
  unfold keyed at hk
  rw [hd] at hk
  split at hk
  · rename_i h1; cases h1; obtain rfl : v = .string _ := hv; trivial
  · rename_i h1; cases h1; cases eqKind_eq hk; obtain rfl : v = .int _ _ := hv; rfl
  · rename_i h1; cases h1; obtain rfl : v = .bool _ := hv; trivial
  · cases hy
  · cases hk

theorem cellKey_val {c d : Cell} {u v : Value} {b : Bool} (hc : CR ρ c u) (hd : CR ρ d v) (h : cellKey c d = some b) : b = true ↔ u = v := by
  unfold cellKey at h
  split at h
  · cases hc; cases hd; cases h; simp
  · split at h
    · rename_i he
      cases eqKind_eq he
      cases hc; cases hd; cases h; simp
    · cases h
  · cases hc; cases hd; cases h; simp
  · cases h
theorem cellsKey_val : ∀ {cs ds : List Cell} {us vs : List Value} {b : Bool}, CRs ρ cs us → CRs ρ ds vs → cellsKey cs ds = some b → (b = true ↔ us = vs)
  | [], [], [], [], b, _, _, h => by cases h; simp
  | c :: cs, d :: ds, u :: us, v :: vs, b, ⟨h1, h2⟩, ⟨h3, h4⟩, h => by
    simp only [cellsKey] at h
    cases h5 : cellKey c d with
    | none => rw [h5] at h; cases h
    | some b1 =>
      cases h6 : cellsKey cs ds with
      | none => rw [h5, h6] at h; cases h
      | some b2 =>
        rw [h5, h6] at h
        cases h
        rw [Bool.and_eq_true, List.cons.injEq, cellKey_val h1 h3 h5, cellsKey_val h2 h4 h6]
  | [], _ :: _, _, _, _, _, _, h => by simp [cellsKey] at h
  | _ :: _, [], _, _, _, _, _, h => by simp [cellsKey] at h
  | [], [], _ :: _, _, _, h, _, _ => h.elim
  | [], [], [], _ :: _, _, _, h, _ => h.elim
  | _ :: _, _ :: _, [], _, _, h, _, _ => h.elim
  | _ :: _, _ :: _, _ :: _, [], _, _, h, _ => h.elim

theorem keyEq_now {d : TypeDesc} {x y : V} {v u : Value} {b : Bool} (hx : VR ρ x v) (hy : VR ρ y u) (hk : MapKept.IsKey d v) (h : keyEq x y = some b) : Instr.sameNow d v u = some b ∧ (b = true → v = u) := by
  unfold keyEq at h
  split at h
  · obtain rfl : v = .string _ := hx
    obtain rfl : u = .string _ := hy
    cases h
    cases d <;> first | exact hk.elim | (simp [Instr.sameNow, beq_bytes])
  · split at h
    · rename_i he
      cases eqKind_eq he
      obtain rfl : v = .int _ _ := hx
      obtain rfl : u = .int _ _ := hy
      cases h
      cases d <;> first | exact hk.elim | simp [Instr.sameNow, Bool.beq_eq_decide_eq]
    · cases h
  · obtain rfl : v = .bool _ := hx
    obtain rfl : u = .bool _ := hy
    cases h
    cases d <;> first | exact hk.elim | simp [Instr.sameNow, Bool.beq_eq_decide_eq]
  · obtain ⟨us, rfl, _⟩ := hx
    cases d <;> exact hk.elim
  · cases h

theorem mapGet_now {d : TypeDesc} {k z x : V} {v : Value} {b : Bool} (hk : VR ρ k v) (hd : MapKept.IsKey d v) : ∀ {es : List (V × V)} {ms : List MapEntry} {i : Nat}, EsR ρ es ms → mapGet k z es = some (x, b) →
    (Instr.findNow d v ms i = some none ∧ x = z ∧ b = false) ∨ ∃ j u, Instr.findNow d v ms i = some (some (j, u)) ∧ VR ρ x u ∧ b = true
  | [], [], i, _, h => by simp only [mapGet, Option.some.injEq, Prod.mk.injEq] at h; exact .inl ⟨rfl, h.1.symm, h.2.symm⟩
  | (k', x') :: es, m :: ms, i, ⟨⟨h1, h2⟩, h3⟩, h => by
    simp only [mapGet] at h
    split at h
    · rename_i he
      obtain ⟨h4, _⟩ := keyEq_now hk h1 hd he
      cases h
      exact .inr ⟨i, m.val, by simp [Instr.findNow, h4], h2, rfl⟩
    · rename_i he
      obtain ⟨h4, _⟩ := keyEq_now hk h1 hd he
      rcases mapGet_now hk hd (i := i + 1) h3 h with h5 | ⟨j, u, h5, h6⟩
      · exact .inl ⟨by simp [Instr.findNow, h4, h5.1], h5.2⟩
      · exact .inr ⟨j, u, by simp [Instr.findNow, h4, h5], h6⟩
    · cases h
  | [], _ :: _, _, h, _ => h.elim
  | _ :: _, [], _, h, _ => h.elim

theorem keyEq_ne {x y : V} {v u : Value} (hx : VR ρ x v) (hy : VR ρ y u) (h : keyEq x y = some false) : v ≠ u := by
  unfold keyEq at h
  split at h
  · obtain rfl : v = .string _ := hx
    obtain rfl : u = .string _ := hy
    intro e; cases e; simp at h
  · split at h
    · obtain rfl : v = .int _ _ := hx
      obtain rfl : u = .int _ _ := hy
      intro e; cases e; simp at h
    · cases h
  · obtain rfl : v = .bool _ := hx
    obtain rfl : u = .bool _ := hy
    intro e; cases e; simp at h
  · obtain ⟨us, rfl, hus⟩ := hx
    obtain ⟨vs, rfl, hvs⟩ := hy
    intro e; cases e
    have := (cellsKey_val hus hvs h).2 rfl
    cases this
  · cases h

theorem mapSet_now {d : TypeDesc} {k x : V} {v u : Value} {c : Nat} (hk : VR ρ k v) (hx : VR ρ x u) (hd : MapKept.IsKey d v) : ∀ {es es' : List (V × V)} {ms : List MapEntry} {i : Nat}, EsR ρ es ms → mapSet k x es = some es' →
    (Instr.findNow d v ms i = some none ∧ EsR ρ es' (ms ++ [{ key := v, val := u, born := c }]) ∧ ∀ m ∈ ms, m.key ≠ v) ∨
    ∃ j e, Instr.findNow d v ms i = some (some (i + j, e.val)) ∧ ms[j]? = some e ∧ e.key = v ∧ EsR ρ es' (ms.modify j fun e => { e with key := v, val := u })
  | [], _, [], i, _, h => by cases h; exact .inl ⟨rfl, ⟨⟨hk, hx⟩, trivial⟩, by simp⟩
  | (k', x') :: es, es', m :: ms, i, ⟨⟨h1, h2⟩, h3⟩, h => by
    simp only [mapSet] at h
    split at h
    · rename_i he
      obtain ⟨h4, h5⟩ := keyEq_now hk h1 hd he
      cases h
      exact .inr ⟨0, m, by simp [Instr.findNow, h4], rfl, (h5 rfl).symm, ⟨hk, hx⟩, h3⟩
    · rename_i he
      obtain ⟨h4, _⟩ := keyEq_now hk h1 hd he
      cases hs : mapSet k x es with
      | none => rw [hs] at h; cases h
      | some es1 =>
        rw [hs] at h
        cases h
        rcases mapSet_now hk hx hd (i := i + 1) h3 hs with ⟨h5, h6, h7⟩ | ⟨j, e, h5, h6, h7, h8⟩
        · exact .inl ⟨by simp [Instr.findNow, h4, h5], ⟨⟨h1, h2⟩, h6⟩, List.forall_mem_cons.2 ⟨fun e => keyEq_ne hk h1 he e.symm, h7⟩⟩
        · exact .inr ⟨j + 1, e, by simp [Instr.findNow, h4, h5]; omega, by simpa using h6, h7, ⟨h1, h2⟩, h8⟩
    · cases h
  | [], _, _ :: _, _, h, _ => h.elim
  | _ :: _, _, [], _, h, _ => h.elim


/-! ### keys that are structs -/
theorem cellKey_eq {k : Kd} {c d : Cell} {b : Bool} (hf : fitKd k c = true) (h : cellKey c d = some b) : cellEq k c d = some b := by
  unfold fitKd at hf
  split at hf <;> first | (cases hf; done) | skip
  all_goals (cases d <;> first | (simp [cellKey] at h; done) | exact h)
theorem cellsKey_eq : ∀ {ks : List Kd} {cs ds : List Cell} {b : Bool}, fitKds ks cs = true → cellsKey cs ds = some b → cellsEq ks cs ds = some b
  | [], [], [], b, _, h => h
  | k :: ks, c :: cs, d :: ds, b, hf, h => by
    simp only [fitKds, Bool.and_eq_true] at hf
    simp only [cellsKey] at h
    cases h1 : cellKey c d with
    | none => rw [h1] at h; cases h
    | some b1 =>
      cases h2 : cellsKey cs ds with
      | none => rw [h1, h2] at h; cases h
      | some b2 =>
        rw [h1, h2] at h
        cases h
        exact cellsEq_mk (cellKey_eq hf.1 h1) (cellsKey_eq hf.2 h2)
  | [], [], _ :: _, _, _, h => by simp [cellsKey] at h
  | [], _ :: _, _, _, hf, _ => by simp [fitKds] at hf
  | _ :: _, [], _, _, hf, _ => by simp [fitKds] at hf
  | _ :: _, _ :: _, [], _, _, h => by simp [cellsKey] at h
theorem fitKds_length : ∀ {ks : List Kd} {cs : List Cell}, fitKds ks cs = true → cs.length = ks.length
  | [], [], _ => rfl
  | k :: ks, c :: cs, h => by simp only [fitKds, Bool.and_eq_true] at h; simp [fitKds_length h.2]
  | [], _ :: _, h => by simp [fitKds] at h
  | _ :: _, [], h => by simp [fitKds] at h
theorem check_sound (w : World) (em : Bool) : ∀ (d : Nat) (t : TypeId) (ks : List Kd), plainK P d t = some ks → ∀ n, d ≤ n → ∀ x cs, PartR P ρ t x cs → cs.length = ks.length → (Instr.checkKey em n t x).run P w = .ok () w
  | 0, t, ks, hk, _, _, _, _, _, _ => by cases hk
  | d + 1, t, ks, hk, 0, hD, _, _, _, _ => by omega
  | d + 1, t, ks, hk, n + 1, hD, x, cs, hx, hl => by
    unfold plainK at hk
    split at hk
    · rename_i fs hu
      split at hk
      · rename_i ls hst hfs
        split at hk
        · rename_i hszz
          cases hk
          rcases hx with ⟨_, us, _, rfl, hus⟩ | ⟨hn, _⟩
          · unfold Instr.checkKey
            simp only [Sem.run_bind, run_underlying hu, Result.andThen_ok]
            rw [← Array.forIn_toList]
            have ih := fun t ks hk => check_sound w em d t ks hk n (by omega)
            have hle : 0 + ks.length ≤ cs.length := by omega
            clear hu hl hst
            clear hszz
            generalize fs.toList = l at hfs
            generalize 0 = off at hfs hle
            revert off ks
            induction l with
            | nil => intro ks off hfs hle; simp
            | cons f l ihl =>
              intro ks off hfs hle
              unfold plainFs at hfs
              split at hfs
              · rename_i ks1 hname hoff hk1
                split at hfs
                · rename_i l2 hl2
                  cases hfs
                  have hoff' := Nat.eq_of_beq_eq_true hoff
                  simp only [List.length_append] at hle
                  obtain ⟨x, hx, hxr⟩ := part_run w hk1 hus (off := off) (by simp; omega)
                  have hxy := ih _ _ hk1 x _ hxr (by simp; omega)
                  have hne : f.name ≠ "_" := by simpa using hname
                  have hrest := ihl l2 (off + ks1.length) hl2 (by omega)
                  simp only [List.forIn_cons, hne, ne_eq, not_false_eq_true, if_true, hoff', Sem.run_bind, hx, hxy, Result.andThen_ok, Sem.run_pure] at hrest ⊢
                  simpa using hrest
                · cases hfs
              · cases hfs
          · exact absurd hu (hn fs)
        · cases hk
      · cases hk
    · rename_i hu; simp [Instr.checkKey, run_underlying hu]
    · rename_i hu; simp [Instr.checkKey, run_underlying hu]
    · rename_i hu; simp [Instr.checkKey, run_underlying hu]
    · cases hk

theorem plainK_pos {d : Nat} {t : TypeId} {ks : List Kd} (h : plainK P d t = some ks) : 0 < d := by
  cases d with
  | zero => cases h
  | succ d => omega

/-- What is known of a key that is a struct. -/
theorem keyed_agg {kt : TypeId} {cs : List Cell} {v : Value} (hk : keyed P kt (.agg cs) = true) (hv : VR ρ (.agg cs) v) :
    ∃ fs ks us, P.underlying kt = some (.struct fs) ∧ plainK P 8 kt = some ks ∧ fitKds ks cs = true ∧ v = .agg us ∧ CRs ρ cs us.toList := by
  obtain ⟨us, rfl, hus⟩ := hv
  generalize hy : V.agg cs = y at hk
  unfold keyed at hk
  split at hk
  · cases hy
  · cases hy
  · cases hy
  · rename_i fs cs' h1
    cases hy
    split at hk
    · rename_i ks h2; exact ⟨fs, ks, us, h1, h2, hk, rfl, hus⟩
    · cases hk
  · cases hk

theorem asking_run {w : World} {kt : TypeId} {fs : Array Field} {ks : List Kd} {cs ds : List Cell} {us : Array Value} {u : Value} {b : Bool} (hu : P.underlying kt = some (.struct fs)) (hp : plainK P 8 kt = some ks) (hf : fitKds ks cs = true) (hc : CRs ρ cs us.toList)
    (hd : VR ρ (.agg ds) u) (hb : cellsKey cs ds = some b) : (Op.equal kt (.agg us) u).run P w = .ok b w ∧ (b = true ↔ Value.agg us = u) := by
  obtain ⟨vs, rfl, hvs⟩ := hd
  refine ⟨equal_sound w 8 kt ks hp Op.maxDepth (by decide) (.agg us) (.agg vs) cs ds b (.inl ⟨fs, us, hu, rfl, hc⟩) (.inl ⟨fs, vs, hu, rfl, hvs⟩) (cellsKey_eq hf hb), ?_⟩
  rw [cellsKey_val hc hvs hb]
  exact ⟨fun e => by rw [Array.toList_inj.1 e], fun e => by cases e; rfl⟩

theorem keyEq_agg {cs : List Cell} {y : V} {b : Bool} (h : keyEq (.agg cs) y = some b) : ∃ ds, y = .agg ds ∧ cellsKey cs ds = some b := by
  cases y with
  | one c => cases c <;> simp [keyEq] at h
  | agg ds => exact ⟨ds, rfl, h⟩

theorem findKey_agg {w : World} {kt : TypeId} {fs : Array Field} (hu : P.underlying kt = some (.struct fs)) (x : Value) (ms : List MapEntry) : (Instr.findKey kt x ms).run P w = (Instr.findAsking kt x ms).run P w := by
  cases ms with
  | nil => simp [Instr.findKey, run_underlying hu, Instr.findNow, Instr.findAsking]
  | cons m ms => simp [Instr.findKey, run_underlying hu, Instr.findNow, Instr.sameNow]

theorem mapGet_ask {kt : TypeId} {fs : Array Field} {ks : List Kd} {cs : List Cell} {us : Array Value} {z x : V} {b : Bool} (hu : P.underlying kt = some (.struct fs)) (hp : plainK P 8 kt = some ks) (hf : fitKds ks cs = true) (hc : CRs ρ cs us.toList) :
    ∀ {es : List (V × V)} {ms : List MapEntry} {i : Nat}, EsR ρ es ms → mapGet (.agg cs) z es = some (x, b) →
    ((Instr.findAsking kt (.agg us) ms i).run P w = .ok none w ∧ x = z ∧ b = false) ∨ ∃ j u, (Instr.findAsking kt (.agg us) ms i).run P w = .ok (some (j, u)) w ∧ VR ρ x u ∧ b = true
  | [], [], i, _, h => by simp only [mapGet, Option.some.injEq, Prod.mk.injEq] at h; exact .inl ⟨by simp [Instr.findAsking], h.1.symm, h.2.symm⟩
  | (k', x') :: es, m :: ms, i, ⟨⟨h1, h2⟩, h3⟩, h => by
    simp only [mapGet] at h
    split at h
    · rename_i he
      obtain ⟨ds, rfl, hds⟩ := keyEq_agg he
      obtain ⟨h4, _⟩ := asking_run (w := w) hu hp hf hc h1 hds
      cases h
      exact .inr ⟨i, m.val, by simp [Instr.findAsking, h4], h2, rfl⟩
    · rename_i he
      obtain ⟨ds, rfl, hds⟩ := keyEq_agg he
      obtain ⟨h4, _⟩ := asking_run (w := w) hu hp hf hc h1 hds
      rcases mapGet_ask hu hp hf hc (i := i + 1) h3 h with h5 | ⟨j, u, h5, h6⟩
      · exact .inl ⟨by simp [Instr.findAsking, h4, h5.1], h5.2⟩
      · exact .inr ⟨j, u, by simp [Instr.findAsking, h4, h5], h6⟩
    · cases h
  | [], _ :: _, _, h, _ => h.elim
  | _ :: _, [], _, h, _ => h.elim

theorem mapSet_ask {kt : TypeId} {fs : Array Field} {ks : List Kd} {cs : List Cell} {us : Array Value} {x : V} {u : Value} {c : Nat} (hu : P.underlying kt = some (.struct fs)) (hp : plainK P 8 kt = some ks) (hf : fitKds ks cs = true) (hc : CRs ρ cs us.toList) (hx : VR ρ x u) :
    ∀ {es es' : List (V × V)} {ms : List MapEntry} {i : Nat}, EsR ρ es ms → mapSet (.agg cs) x es = some es' →
    ((Instr.findAsking kt (.agg us) ms i).run P w = .ok none w ∧ EsR ρ es' (ms ++ [{ key := .agg us, val := u, born := c }]) ∧ ∀ m ∈ ms, m.key ≠ .agg us) ∨
    ∃ j e, (Instr.findAsking kt (.agg us) ms i).run P w = .ok (some (i + j, e.val)) w ∧ ms[j]? = some e ∧ e.key = .agg us ∧ EsR ρ es' (ms.modify j fun e => { e with key := .agg us, val := u })
  | [], _, [], i, _, h => by cases h; exact .inl ⟨by simp [Instr.findAsking], ⟨⟨⟨us, rfl, hc⟩, hx⟩, trivial⟩, by simp⟩
  | (k', x') :: es, es', m :: ms, i, ⟨⟨h1, h2⟩, h3⟩, h => by
    simp only [mapSet] at h
    split at h
    · rename_i he
      obtain ⟨ds, rfl, hds⟩ := keyEq_agg he
      obtain ⟨h4, h5⟩ := asking_run (w := w) hu hp hf hc h1 hds
      cases h
      exact .inr ⟨0, m, by simp [Instr.findAsking, h4], rfl, (h5.1 rfl).symm, ⟨⟨us, rfl, hc⟩, hx⟩, h3⟩
    · rename_i he
      obtain ⟨ds, rfl, hds⟩ := keyEq_agg he
      obtain ⟨h4, hne⟩ := asking_run (w := w) hu hp hf hc h1 hds
      cases hs : mapSet (.agg cs) x es with
      | none => rw [hs] at h; cases h
      | some es1 =>
        rw [hs] at h
        cases h
        rcases mapSet_ask hu hp hf hc hx (i := i + 1) h3 hs with ⟨h5, h6, h7⟩ | ⟨j, e, h5, h6, h7, h8⟩
        · exact .inl ⟨by simp [Instr.findAsking, h4, h5], ⟨⟨h1, h2⟩, h6⟩, List.forall_mem_cons.2 ⟨(fun e => by have := hne.2 e.symm; cases this), h7⟩⟩
        · exact .inr ⟨j + 1, e, by simp [Instr.findAsking, h4, h5]; omega, by simpa using h6, h7, ⟨h1, h2⟩, h8⟩
    · cases h
  | [], _, _ :: _, _, h, _ => h.elim
  | _ :: _, _, [], _, h, _ => h.elim

/-! ### keys of both sorts -/
theorem keyed_desc {kt : TypeId} {y : V} (hy : keyed P kt y = true) : ∃ d, P.underlying kt = some d := by
  unfold keyed at hy
  cases h1 : P.underlying kt with
  | none => rw [h1] at hy; cases hy
  | some d => exact ⟨d, rfl⟩
theorem check_keyed {kt : TypeId} {y : V} {v : Value} (hy : keyed P kt y = true) (hv : VR ρ y v) (em : Bool) : (Instr.checkKey em 10000 kt v).run P w = .ok () w := by
  cases y with
  | one c =>
    obtain ⟨d, hd⟩ := keyed_desc hy
    exact MapKept.run_checkKey hd (keyed_isKey hd hy hv) em 9999
  | agg cs =>
    obtain ⟨fs, ks, us, h1, h2, h3, rfl, h4⟩ := keyed_agg hy hv
    exact check_sound w em 8 kt ks h2 10000 (by decide) (.agg us) cs (.inl ⟨fs, us, h1, rfl, h4⟩) (fitKds_length h3)
theorem find_get {kt : TypeId} {y z x : V} {v : Value} {b : Bool} (hy : keyed P kt y = true) (hv : VR ρ y v) {es : List (V × V)} {ms : List MapEntry} (he : EsR ρ es ms) (hg : mapGet y z es = some (x, b)) :
    ((Instr.findKey kt v ms).run P w = .ok none w ∧ x = z ∧ b = false) ∨ ∃ j u, (Instr.findKey kt v ms).run P w = .ok (some (j, u)) w ∧ VR ρ x u ∧ b = true := by
  cases y with
  | one c =>
    obtain ⟨d, hd⟩ := keyed_desc hy
    have hik := keyed_isKey hd hy hv
    rcases mapGet_now hv hik (i := 0) he hg with ⟨h1, h2⟩ | ⟨j, u, h1, h2⟩
    · exact .inl ⟨MapKept.run_findKey hd h1, h2⟩
    · exact .inr ⟨j, u, MapKept.run_findKey hd h1, h2⟩
  | agg cs =>
    obtain ⟨fs, ks, us, h1, h2, h3, rfl, h4⟩ := keyed_agg hy hv
    rw [findKey_agg h1]
    exact mapGet_ask h1 h2 h3 h4 he hg
theorem find_set {kt : TypeId} {y x : V} {v u : Value} {c : Nat} (hy : keyed P kt y = true) (hv : VR ρ y v) (hx : VR ρ x u) {es es' : List (V × V)} {ms : List MapEntry} (he : EsR ρ es ms) (hs : mapSet y x es = some es') :
    ((Instr.findKey kt v ms).run P w = .ok none w ∧ EsR ρ es' (ms ++ [{ key := v, val := u, born := c }]) ∧ ∀ m ∈ ms, m.key ≠ v) ∨
    ∃ j e, (Instr.findKey kt v ms).run P w = .ok (some (j, e.val)) w ∧ ms[j]? = some e ∧ e.key = v ∧ EsR ρ es' (ms.modify j fun e => { e with key := v, val := u }) := by
  cases y with
  | one cc =>
    obtain ⟨d, hd⟩ := keyed_desc hy
    have hik := keyed_isKey hd hy hv
    rcases mapSet_now (c := c) hv hx hik (i := 0) he hs with ⟨h1, h2⟩ | ⟨j, e, h1, h2⟩
    · exact .inl ⟨MapKept.run_findKey hd h1, h2⟩
    · exact .inr ⟨j, e, MapKept.run_findKey hd (by simpa using h1), h2⟩
  | agg cs =>
    obtain ⟨fs, ks, us, h1, h2, h3, rfl, h4⟩ := keyed_agg hy hv
    rw [findKey_agg h1]
    rcases mapSet_ask (w := w) (c := c) h1 h2 h3 h4 hx (i := 0) he hs with h5 | ⟨j, e, h5, h6⟩
    · exact .inl h5
    · exact .inr ⟨j, e, by simpa using h5, h6⟩

theorem sameBits_plain {n : Nat} : ∀ {ks : List Kd} {cs : List Cell} {us : List Value}, fitKds ks cs = true → CRs ρ cs us → ((us.zip us).all fun (x, y) => Instr.sameBits n x y) = true
  | [], [], [], _, _ => rfl
  | k :: ks, c :: cs, u :: us, hf, ⟨h1, h2⟩ => by
    simp only [fitKds, Bool.and_eq_true] at hf
    simp only [List.zip_cons_cons, List.all_cons, Bool.and_eq_true]
    refine ⟨?_, sameBits_plain (ks := ks) hf.2 h2⟩
    have hk := hf.1
    unfold fitKd at hk
    split at hk
    · cases h1; cases n <;> simp [Instr.sameBits]
    · cases h1; cases n <;> simp [Instr.sameBits]
    · cases h1; cases n <;> simp [Instr.sameBits, MapKept.bytes_beq]
    · cases hk
  | [], [], _ :: _, _, h => h.elim
  | [], _ :: _, _, h, _ => by simp [fitKds] at h
  | _ :: _, [], _, h, _ => by simp [fitKds] at h
  | _ :: _, _ :: _, [], _, h => h.elim
theorem stays_keyed {kt : TypeId} {y : V} {v : Value} (hy : keyed P kt y = true) (hv : VR ρ y v) : (Instr.keyThatStays v v).run P w = .ok v w := by
  cases y with
  | one c =>
    obtain ⟨d, hd⟩ := keyed_desc hy
    exact MapKept.run_keyThatStays (keyed_isKey hd hy hv)
  | agg cs =>
    obtain ⟨fs, ks, us, h1, h2, h3, rfl, h4⟩ := keyed_agg hy hv
    have hb : Instr.sameBits 10000 (.agg us) (.agg us) = true := by
      simp only [Instr.sameBits, beq_self_eq_true, Bool.true_and]
      exact sameBits_plain h3 h4
    simp [Instr.keyThatStays, hb]

theorem zero_VR {t : TypeId} {z : V} {i : TypeInfo} {v : Value} (hz : zeroV P t = some z) (ho : zeroOk P t = true) (hi : P.info? t = some i) (hv : i.zero = some v) : VR ρ z v := by
  obtain ⟨k, i', v', hk, hlk, hzc, hi', hv', hcs⟩ := zeroV_R hz
  rw [hi] at hi'; cases hi'
  rw [hv] at hv'; cases hv'
  unfold zeroOk at ho
  rw [hk, hi] at ho
  simp only [Option.bind_some, hv] at ho
  cases k with
  | one kd =>
    cases z with
    | agg cs => exact hlk.elim
    | one c =>
      simp only [V.cells, VK.kds, List.map_cons, List.map_nil, List.cons.injEq, and_true] at hzc
      subst hzc
      exact isZero_R ho
  | agg ks =>
    cases z with
    | one c => exact hlk.elim
    | agg cs =>
      cases v with
      | agg vs => exact ⟨vs, rfl, by simpa [V.cells, Value.cells] using hcs ρ⟩
      | _ => cases ho

theorem EsR.len {fs : List (V × V)} {ms : List MapEntry} (he : EsR ρ fs ms) : fs.length = ms.length := by
  induction fs generalizing ms with
  | nil => cases ms with
    | nil => rfl
    | cons _ _ => exact he.elim
  | cons f fs ih => cases ms with
    | nil => exact he.elim
    | cons m ms => simp [ih he.2]

/-- A look into a map. -/
theorem run_lookup {t kt el : TypeId} {h : Heap} {m : Option Nat} {mv kv : Value} {y z x : V} {b ok : Bool} {es : List (V × V)} (hr : HR ρ h w) (hu : P.underlying t = some (.map kt el)) (hm : CR ρ (.map m) mv) (hk : VR ρ y kv)
    (hy : keyed P kt y = true) (hz : zeroV P el = some z) (hzo : zeroOk P el = true) (hes : mapOf h m = some es) (hg : mapGet y z es = some (x, b)) :
    ∃ v, (Instr.lookup t mv kv ok).run P w = .ok (if ok then .tuple #[v, .bool b] else v) w ∧ VR ρ x v := by
  have hck : ∀ em, (Instr.checkKey em 10000 kt kv).run P w = .ok () w := check_keyed hy hk
  obtain ⟨_, i, zv, _, _, _, hi, hzv, _⟩ := zeroV_R hz
  have hz0 := run_zeroValue (P := P) (w := w) hi hzv
  have hzr : VR ρ z zv := zero_VR hz hzo hi hzv
  have key : ∀ ms : Array MapEntry, EsR ρ es ms.toList → ∃ v, VR ρ x v ∧ (((Instr.findKey kt kv ms.toList).run P w = .ok none w ∧ v = zv ∧ b = false) ∨ ∃ j, (Instr.findKey kt kv ms.toList).run P w = .ok (some (j, v)) w ∧ b = true) := by
    intro ms hms
    rcases find_get (w := w) hy hk hms hg with ⟨h1, rfl, rfl⟩ | ⟨j, u, h1, h2, rfl⟩
    · exact ⟨zv, hzr, .inl ⟨h1, rfl, rfl⟩⟩
    · exact ⟨u, h2, .inr ⟨j, h1, rfl⟩⟩
  cases m with
  | none =>
    obtain rfl : mv = .map none := hm
    cases hes
    obtain ⟨v, h2, h1⟩ := key #[] trivial
    refine ⟨v, ?_, h2⟩
    unfold Instr.lookup
    rcases h1 with ⟨h1, rfl, rfl⟩ | ⟨j, h1, rfl⟩
    · simp only [Sem.run_bind, run_underlying hu, Result.andThen_ok, Sem.run_pure, hck, h1, hz0]
    · simp only [Sem.run_bind, run_underlying hu, Result.andThen_ok, Sem.run_pure, hck, h1]
  | some j =>
    obtain ⟨l, hl, rfl⟩ : ∃ l, ρ j = some l ∧ mv = .map (some l.block) := hm
    simp only [mapOf] at hes
    split at hes
    · rename_i es' hj
      cases hes
      obtain ⟨ob, hob, ms, clock, rfl, hms, _⟩ := hr.live j _ l hj hl
      obtain ⟨v, h2, h1⟩ := key ms hms
      refine ⟨v, ?_, h2⟩
      unfold Instr.lookup
      rcases h1 with ⟨h1, rfl, rfl⟩ | ⟨j, h1, rfl⟩
      · simp only [Sem.run_bind, run_underlying hu, MapKept.run_getObj_map hob, Result.andThen_ok, Sem.run_pure, hck, h1, hz0]
      · simp only [Sem.run_bind, run_underlying hu, MapKept.run_getObj_map hob, Result.andThen_ok, Sem.run_pure, hck, h1]
    · cases hes

/-- An entry of a map is laid. -/
theorem run_mapUpdate {t kt el : TypeId} {r : Nat} {ms : Array MapEntry} {clock : Nat} {kv xv : Value} {y x : V} {es es' : List (V × V)} (hu : P.underlying t = some (.map kt el)) (hb : w.heap[r]? = some (.map ms clock)) (hms : EsR ρ es ms.toList) (hst : MapKept.Stamped ms clock)
    (hk : VR ρ y kv) (hx : VR ρ x xv) (hy : keyed P kt y = true) (hs : mapSet y x es = some es') :
    ∃ ms' clock', (Instr.mapUpdate t (.map (some r)) kv xv).run P w = .ok () { w with heap := w.heap.setIfInBounds r (.map ms' clock') } ∧ EsR ρ es' ms'.toList ∧ MapKept.Stamped ms' clock' := by
  have hck : ∀ em, (Instr.checkKey em 10000 kt kv).run P w = .ok () w := check_keyed hy hk
  rcases find_set (w := w) (c := clock) hy hk hx hms hs with ⟨h1, h2, hfr⟩ | ⟨j, e, h1, h2, h3, h4⟩
  · refine ⟨ms.push { key := kv, val := xv, born := clock }, clock + 1, ?_, by simpa using h2, MapKept.stamped_push hst hfr⟩
    unfold Instr.mapUpdate
    simp only [Sem.run_bind, run_underlying hu, MapKept.run_getObj_map hb, hck, h1, MapKept.run_setObj_map _ hb, Result.andThen_ok]
  · refine ⟨ms.modify j fun e => { e with key := kv, val := xv }, clock, ?_, by rw [Array.toList_modify]; exact h4, MapKept.stamped_modify hst _ _ (fun _ _ => rfl) (fun e' _ he' => ?_)⟩
    rotate_left
    · have hj : ms[j]? = some e := by simpa using h2
      rw [hj] at he'; cases he'; exact h3.symm
    have hj : ms[j]? = some e := by simpa using h2
    unfold Instr.mapUpdate
    simp only [Sem.run_bind, run_underlying hu, MapKept.run_getObj_map hb, hck, h1, Result.andThen_ok, hj, Option.map_some, Option.getD_some, h3, stays_keyed hy hk, MapKept.run_setObj_map _ hb]

/-- An entry of a map is laid by halves: it is there, with what it held or nothing. -/
theorem run_mapEntry {t kt el : TypeId} {r : Nat} {ms : Array MapEntry} {clock : Nat} {kv : Value} {y z x0 : V} {b : Bool} {es es' : List (V × V)} (hu : P.underlying t = some (.map kt el)) (hb : w.heap[r]? = some (.map ms clock)) (hms : EsR ρ es ms.toList) (hst : MapKept.Stamped ms clock)
    (hk : VR ρ y kv) (hy : keyed P kt y = true) (hz : zeroV P el = some z) (hzo : zeroOk P el = true) (hg : mapGet y z es = some (x0, b)) (hs : mapSet y x0 es = some es') :
    ∃ ms' clock' u, ∃ n : Nat, (Instr.mapEntry t (.map (some r)) kv).run P w = .ok (.tuple #[u, .int .i64 n]) { w with heap := w.heap.setIfInBounds r (.map ms' clock') } ∧ VR ρ x0 u ∧ EsR ρ es' ms'.toList ∧ MapKept.Stamped ms' clock' ∧ ∃ e ∈ ms'.toList, VR ρ y e.key ∧ e.born = n := by
  have hck : ∀ em, (Instr.checkKey em 10000 kt kv).run P w = .ok () w := check_keyed hy hk
  obtain ⟨_, i, zv, _, _, _, hi, hzv, _⟩ := zeroV_R hz
  have hz0 := run_zeroValue (P := P) (w := w) hi hzv
  have hzr : VR ρ z zv := zero_VR hz hzo hi hzv
  rcases find_get (w := w) hy hk hms hg with ⟨g1, rfl, rfl⟩ | ⟨j, u, g1, g2, rfl⟩
  · rcases find_set (w := w) (c := clock) hy hk hzr hms hs with ⟨h1, h2, hfr⟩ | ⟨j, e, h1, _⟩
    · refine ⟨ms.push { key := kv, val := zv, born := clock }, clock + 1, zv, clock, ?_, hzr, by simpa using h2, MapKept.stamped_push hst hfr, { key := kv, val := zv, born := clock }, by simp, hk, rfl⟩
      unfold Instr.mapEntry
      simp only [Sem.run_bind, run_underlying hu, MapKept.run_getObj_map hb, hck, h1, MapKept.run_setObj_map _ hb, Result.andThen_ok, hz0, Sem.run_pure]
      rfl
    · rw [g1] at h1; cases h1
  · rcases find_set (w := w) (c := clock) hy hk g2 hms hs with ⟨h1, _⟩ | ⟨j', e, h1, h2, h3, h4⟩
    · rw [g1] at h1; cases h1
    · have hju : j = j' ∧ u = e.val := by rw [g1] at h1; cases h1; exact ⟨rfl, rfl⟩
      obtain ⟨rfl, rfl⟩ := hju
      have hj : ms[j]? = some e := by simpa using h2
      have hlt := (Array.getElem?_eq_some_iff.1 hj).1
      have hmod : (ms.modify j fun e => { e with key := kv }).toList = ms.toList.modify j fun e' => { e' with key := kv, val := e.val } := by
        rw [Array.toList_modify]
        apply List.ext_getElem?
        intro q
        rw [List.getElem?_modify, List.getElem?_modify]
        by_cases hq : j = q
        · subst hq
          rw [h2]
          simp
        · simp [hq]
      refine ⟨ms.modify j fun e => { e with key := kv }, clock, e.val, e.born, ?_, g2, by rw [hmod]; exact h4, MapKept.stamped_modify hst _ _ (fun _ _ => rfl) (fun e' _ he' => ?_), { e with key := kv }, ?_, hk, rfl⟩
      · unfold Instr.mapEntry
        simp only [Sem.run_bind, run_underlying hu, MapKept.run_getObj_map hb, hck, h1, Result.andThen_ok, hj, Option.map_some, Option.getD_some, h3, stays_keyed hy hk, MapKept.run_setObj_map _ hb, Sem.run_pure]
        rfl
      · rw [hj] at he'; cases he'; exact h3.symm
      · rw [hmod]
        refine List.mem_iff_getElem?.2 ⟨j, ?_⟩
        rw [List.getElem?_modify, h2]
        simp
/-- .. and gets its value, by its stamp. -/
theorem run_entryStore {t kt : TypeId} {r n : Nat} {ms : Array MapEntry} {clock : Nat} {xv : Value} {y x : V} {es es' : List (V × V)} (hb : w.heap[r]? = some (.map ms clock)) (hms : EsR ρ es ms.toList) (hst : MapKept.Stamped ms clock)
    (hn : ∃ e ∈ ms.toList, VR ρ y e.key ∧ e.born = n) (hx : VR ρ x xv) (hy : keyed P kt y = true) (hs : mapSet y x es = some es') (k : IntKind) :
    ∃ ms' clock', (Instr.entryStore t (.map (some r)) (.int k n) xv).run P w = .ok () { w with heap := w.heap.setIfInBounds r (.map ms' clock') } ∧ EsR ρ es' ms'.toList ∧ MapKept.Stamped ms' clock' := by
  obtain ⟨e, he, hk, hen⟩ := hn
  have hnd : (ms.toList.map (·.born)).Nodup := hst.2.1
  have hkd : (ms.toList.map (·.key)).Nodup := hst.2.2
  rcases find_set (w := w) (c := clock) hy hk hx hms hs with ⟨_, _, hfr⟩ | ⟨j, e', h1, h2, h3, h4⟩
  · exact absurd rfl (hfr e he)
  · obtain ⟨q, hq⟩ := List.mem_iff_getElem?.1 he
    have hqj : q = j := by
      have a1 : (ms.toList.map (·.key))[q]? = some e.key := by rw [List.getElem?_map, hq]; rfl
      have a2 : (ms.toList.map (·.key))[j]? = some e.key := by rw [List.getElem?_map, h2, Option.map_some, h3]
      obtain ⟨b1, c1⟩ := List.getElem?_eq_some_iff.1 a1
      obtain ⟨b2, c2⟩ := List.getElem?_eq_some_iff.1 a2
      exact (List.getElem_inj hkd).1 (c1.trans c2.symm)
    subst hqj
    have hee : e = e' := by rw [hq] at h2; cases h2; rfl
    subst hee
    have hj : ms[q]? = some e := by simpa using hq
    have hfi : ms.findIdx? (fun m => (m.born : Int) == (n : Int)) = some q := by
      rw [Array.findIdx?_eq_some_iff_getElem]
      obtain ⟨b1, c1⟩ := List.getElem?_eq_some_iff.1 hq
      obtain ⟨b5, c5⟩ := Array.getElem?_eq_some_iff.1 hj
      refine ⟨b5, by simp [c5, hen], fun p hp => ?_⟩
      simp only [beq_iff_eq]
      intro hc
      have a1 : (ms.toList.map (·.born))[p]? = some n := by
        have hpl : p < ms.toList.length := by simp; omega
        rw [List.getElem?_map, List.getElem?_eq_getElem hpl]
        simp only [Option.map_some, Array.getElem_toList, Option.some.injEq]
        omega
      have a2 : (ms.toList.map (·.born))[q]? = some n := by rw [List.getElem?_map, hq]; simp [hen]
      obtain ⟨b3, c3⟩ := List.getElem?_eq_some_iff.1 a1
      obtain ⟨b4, c4⟩ := List.getElem?_eq_some_iff.1 a2
      have := (List.getElem_inj hnd).1 (c3.trans c4.symm)
      omega
    have hmod : (ms.modify q fun m => { m with val := xv }).toList = ms.toList.modify q fun m => { m with key := e.key, val := xv } := by
      rw [Array.toList_modify]
      apply List.ext_getElem?
      intro p
      rw [List.getElem?_modify, List.getElem?_modify]
      by_cases hp : q = p
      · subst hp
        rw [hq]
        simp
      · simp [hp]
    refine ⟨ms.modify q fun m => { m with val := xv }, clock, ?_, by rw [hmod]; exact h4, MapKept.stamped_modify hst _ _ (fun _ _ => rfl) (fun _ _ _ => rfl)⟩
    unfold Instr.entryStore
    have hai : (asInt (.int k n) : Sem Int).run P w = .ok (n : Int) w := rfl
    simp only [Sem.run_bind, MapKept.run_getObj_map hb, Result.andThen_ok, hai, Sem.run_pure, hfi, MapKept.run_setObj_map _ hb]

end
end Go.Proofs.YtadakbmoanbcgaaGreatDoorVc
