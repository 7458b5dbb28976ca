/- Contracts: what one offer takes from the lines. Contracts: the pieces that are free. -/
import Derived.Test.YtfemminjhecocaaGreatVcPrSpecA
set_option linter.unusedSimpArgs false
set_option linter.unusedVariables false
-- PrSpec3
namespace Go.Proofs.YtfemminjhecocaaGreatVc
open Go.Proofs.Tryz (prog)
open Go.Proofs.YtfemminjhecocaaGreatShares
abbrev prC (l1 : Sl) (ship0 : Int) (sl : Sl) (ship : Int) : List Cell := [.slice 4 l1, .int .i64 ship0, .slice 1 sl, .int .i64 ship]
/-- A pricer: a basket; what is left of its lines. -/
structure Pr (h : Heap) (ip : Nat) (l1 : Sl) (xs : List Itm) (ship0 : Int) (sl : Sl) (left : List Nat) (ship : Int) : Prop where
  cell : h ip = some (.cells false (prC l1 ship0 sl ship))
  its : Itms h l1 xs
  at_ : At h 1 sl (nats left)
  len : left.length = xs.length
/-- What is known of a basket's items. -/
structure OkL (xs : List Itm) : Prop where
  ok : ∀ x ∈ xs, okI x
  few : xs.length ≤ 4
  tg : ∀ x ∈ xs, x.tags.length < 1000
section
variable {I : Calls} {Q : Post} {h : Heap} {ip : Nat} {l1 sl : Sl} {xs : List Itm} {ship0 ship : Int} {left : List Nat}
theorem Pr.ext {h' : Heap} (p : Pr h ip l1 xs ship0 sl left ship) (x : Ext h h') : Pr h' ip l1 xs ship0 sl left ship := ⟨x _ _ p.cell, x.itms p.its, x.at_ p.at_, p.len⟩
theorem Pr.sllen (p : Pr h ip l1 xs ship0 sl left ship) : sl.len = xs.length := by rw [p.at_.len1, nats_length, p.len]
theorem spec72 (hI : Closed' prog Pm I) {s : Sl} {ws : List Nat} {g : Nat} (hs : At h 1 s (nats ws)) (hg : g ≤ 1000000000000) (hw : ∀ w ∈ ws, w ≤ 1000000000000) (hlen : ws.length < 20)
    (hQ : ∀ s' h', Ext h h' → At h' 1 s' (nats (mostF ws g)) → (s' = s ∨ New h s') → Q [.one (.slice 1 s')] h') : I 72 [.one (.slice 1 s), int g] Q h := by
  have hl : s.len = ws.length := by rw [hs.len1, nats_length]
  have hsum := sum_le hw
  have hsum' : ws.sum ≤ 20000000000000 := by omega
  refine hI.go _ _ (den72 I s g Q) ?_
  refine loopK_intro (fun (a : Int × Int) h' m => h' = h ∧ ∃ i : Nat, i ≤ ws.length ∧ a = ((((ws.take i).sum : Nat) : Int), (i : Int)) ∧ ws.length - i = m) ws.length ⟨rfl, 0, by omega, rfl, rfl⟩ ?_
  rintro a h' m ⟨rfl, i, hi, rfl, rfl⟩
  dsimp only [uncur]
  refine ifT_dec (fun hlt => ⟨⟨by omega, hlt⟩, ?_⟩) (fun hge => ?_)
  · have hil : i < ws.length := by omega
    refine hs.cell (nats_get (List.getElem?_eq_getElem hil)) fun b o hr => ⟨_, hr, ws.length - (i + 1), by omega, rfl, i + 1, by omega, ?_, rfl⟩
    have h1 := sum_step hil
    have h2 := take_sum_le ws (i + 1)
    rw [h1] at h2 ⊢
    generalize (ws.take i).sum = y at *
    generalize ws[i] = x at *
    rw [w64 (by omega) (by omega), w64 (by omega) (by omega)]
    rfl
  have : i = ws.length := by omega
  subst this
  rw [List.take_length]
  refine ifT_dec (fun h1 => ?_) fun h1 => ifT_dec (fun h2 => ?_) fun h2 => ?_
  · exact hQ s h' (Ext.refl _) (by unfold mostF; rw [if_pos (.inl (by omega))]; exact hs) (.inl rfl)
  · exact hQ s h' (Ext.refl _) (by unfold mostF; rw [if_pos (.inr (by omega))]; exact hs) (.inl rfl)
  · exact spec73 hI hs hg hw (by omega) hlen fun s' h2 e a nw => ⟨s', rfl, hQ s' h2 e (by unfold mostF; rw [if_neg (by omega)]; exact a) (.inr nw)⟩

theorem zipM_step {ms : List Bool} {l : List Nat} {f : Nat → Nat} {i : Nat} {m : Bool} {n : Nat} (hm : ms[i]? = some m) (hl : l[i]? = some n) (k : Nat) (hk : k + (i + 1) = l.length) (hlen : ms.length = l.length) :
    ((zipM ms l f).take i ++ List.replicate (k + 1) 0).set i (cond m (f n) 0) = (zipM ms l f).take (i + 1) ++ List.replicate k 0 := by
  have hz : (zipM ms l f).length = l.length := zipM_length hlen f
  have h1 : (zipM ms l f)[i]? = some (cond m (f n) 0) := by
    unfold zipM
    rw [List.getElem?_zipWith, hm, hl]
  have h2 : ((zipM ms l f).take i).length = i := by rw [List.length_take]; omega
  rw [List.set_append, if_neg (by omega), h2, Nat.sub_self, List.replicate_succ, List.set_cons_zero, List.take_add_one, h1]
  simp
theorem zipM_none {ms : List Bool} {l : List Nat} {f : Nat → Nat} {i : Nat} {n : Nat} (hm : ms[i]? = some false) (hl : l[i]? = some n) (k : Nat) (hk : k + (i + 1) = l.length) (hlen : ms.length = l.length) :
    (zipM ms l f).take i ++ List.replicate (k + 1) 0 = (zipM ms l f).take (i + 1) ++ List.replicate k 0 := by
  have hz : (zipM ms l f).length = l.length := zipM_length hlen f
  have h1 : (zipM ms l f)[i]? = some 0 := by
    unfold zipM
    rw [List.getElem?_zipWith, hm, hl]; rfl
  rw [List.replicate_succ, List.take_add_one, h1]
  simp
theorem zeros_nats (n : Nat) : slCells (VK.one (Kd.int IntKind.i64)) n = nats (List.replicate n 0) := by
  unfold slCells nats
  induction n with
  | zero => rfl
  | succ n ih => rw [List.replicate_succ, List.replicate_succ, List.flatten_cons, ih]; rfl
theorem ms_get {o : Offr} {k : Nat} {x : Itm} (hx : xs[k]? = some x) : (xs.map (matchB o))[k]? = some (matchB o x) := by rw [List.getElem?_map, hx]; rfl

/-- What the walk over the lines keeps, for a percentage and for an amount. -/
theorem spec56 (hI : Closed' prog Pm I) {o : Offr} (hp : Pr h ip l1 xs ship0 sl left ship) (hx : OkL xs) (ho : OkO o) (hk : o.kind = 1) (hot : At h 1 o.tg (strs o.tags)) (hotl : o.tags.length < 1000) (hle : ∀ n ∈ left, n ≤ 1000000000)
    (hQ : ∀ s' h', Ext h h' → At h' 1 s' (nats (percF (xs.map (matchB o)) left o.a.toNat o.most.toNat)) → New h s' → Q [.one (.slice 1 s')] h') : I 56 [.one (.ptr (some (ip, 0))), .agg (offC o)] Q h := by
  have hsl := hp.sllen
  have hfew := hx.few
  have hil := hp.its.len
  obtain ⟨ham, _, _, hm0, hm1, _, _⟩ := ho.n
  have ha : 1 ≤ o.a ∧ o.a ≤ 100 := by
    rcases ham with h1 | h1 | h1 <;> omega
  refine hI.go _ _ (den56 I (some (ip, 0)) o.key o.kind o.a o.b o.tg o.least o.most o.group o.alone o.order o.from_ o.to_ Q) ?_
  refine ⟨sl, read_cell hp.cell rfl, rfl, by omega, by omega, by show (sl.len : Int) * ((8 : Nat) : Int) ≤ _; omega, newK_intro fun i2 h1 hn he => ?_⟩
  rw [Int.toNat_natCast, zeros_nats] at he
  have o1 : Owns h h1 [(1, ⟨some (i2, 0), sl.len⟩, nats (List.replicate sl.len 0))] := he ▸ (Owns.nil h).new hn (by simp [nats_length])
  have hp1 := hp.ext o1.ext
  refine ⟨sl, read_cell hp1.cell rfl, ?_⟩
  obtain ⟨f, hf⟩ : ∃ f : Nat → Nat, f = fun n => n * o.a.toNat / 100 := ⟨_, rfl⟩
  obtain ⟨ms, hms⟩ : ∃ ms, xs.map (matchB o) = ms := ⟨_, rfl⟩
  have hml : ms.length = left.length := by rw [← hms, List.length_map, hp.len]
  refine loopK_intro (fun (a : Int) h' m => ∃ k : Nat, k ≤ xs.length ∧ a = (k : Int) ∧ m = xs.length - k ∧ Owns h h' [(1, ⟨some (i2, 0), sl.len⟩, nats ((zipM ms left f).take k ++ List.replicate m 0))]) xs.length
    ⟨0, by omega, rfl, rfl, by rw [List.take_zero, List.nil_append, ← hsl]; exact o1⟩ ?_
  rintro a h2 m ⟨k, hk1, rfl, rfl, o2⟩
  have hp2 := hp.ext o2.ext
  refine ifT_dec (fun hlt => ⟨⟨by omega, hlt⟩, ?_⟩) fun hge => ?_
  · have hkl : k < xs.length := by omega
    have hxk := List.getElem?_eq_getElem hkl
    generalize xs[k] = x at hxk
    have hkl2 : k < left.length := by rw [hp.len]; exact hkl
    obtain ⟨n, hnk, hnb⟩ : ∃ n, left[k]? = some n ∧ n ≤ 1000000000 := ⟨left[k], List.getElem?_eq_getElem hkl2, hle _ (List.getElem_mem hkl2)⟩
    have hxm := List.mem_of_getElem? hxk
    refine hp2.at_.cell (nats_get hnk) fun b of hr => ⟨_, hr, ⟨l1, read_cell hp2.cell rfl, ⟨by omega, by omega⟩, ?_⟩⟩
    refine hp2.its.at_.row itmC_length (by decide) hxk fun b2 of2 hr2 => ⟨x.key, x.cents, x.many, x.tg, hr2, ?_⟩
    refine spec36 hI (o := o) (x := x) (o2.ext.at_ hot) (hp2.its.tg x hxm) hotl (hx.tg x hxm) fun h3 e3 => ⟨matchB o x, rfl, ?_⟩
    have o3 := o2.mono e3
    have hmk : ms[k]? = some (matchB o x) := by rw [← hms]; exact ms_get hxk
    have em : xs.length - k = (xs.length - (k + 1)) + 1 := by omega
    have ek : IntKind.i64.wrap ((k : Int) + 1) = ((k + 1 : Nat) : Int) := by rw [w64] <;> omega
    rw [em] at o3
    rw [ek]
    have hz : (zipM ms left f).length = left.length := zipM_length hml f
    refine ifT_intro (fun hb => ⟨⟨by omega, by show (k : Int) < ((sl.len : Int).toNat : Int); omega⟩, ?_⟩) fun hb => ?_
    · rw [hb] at hmk
      refine storeK_one (o3.block List.mem_cons_self).1 (by rw [nats_length, List.length_append, List.length_take, List.length_replicate, Int.toNat_natCast, hz, hp.len]; omega) ⟨xs.length - (k + 1), by omega, k + 1, by omega, rfl, rfl, ?_⟩
      have ev : IntKind.i64.wrap ((IntKind.i64.wrap ((n : Int) * o.a)).tdiv 100) = ((f n : Nat) : Int) := by
        obtain ⟨A, hA⟩ := Int.eq_ofNat_of_zero_le (show 0 ≤ o.a by omega)
        rw [hf, hA]
        dsimp only
        rw [Int.toNat_natCast]
        have hA2 : A ≤ 100 := by omega
        have hmul : n * A ≤ 1000000000 * 100 := Nat.mul_le_mul hnb hA2
        rw [mN, w64 (n := ((n * A : Nat) : Int)) (by omega) (by omega)]
        have : ((n * A : Nat) : Int).tdiv 100 = ((n * A / 100 : Nat) : Int) := by rw [Int.ofNat_tdiv]; rfl
        rw [this, w64 (by omega) (by omega)]
      rw [ev, Nat.zero_add, Int.toNat_natCast, Nat.mul_one, nats_set, show f n = cond true (f n) 0 from rfl, zipM_step hmk hnk _ (by rw [hp.len]; omega) hml]
      refine o3.change ?_
      rw [nats_length, List.length_append, List.length_take, List.length_replicate, hz, hp.len]; omega
    · rw [hb] at hmk
      rw [zipM_none hmk hnk _ (by rw [hp.len]; omega) hml] at o3
      exact ⟨xs.length - (k + 1), by omega, k + 1, by omega, rfl, rfl, o3⟩
  · have hkn : k = xs.length := by omega
    subst hkn
    rw [Nat.sub_self, List.replicate_zero, List.append_nil, List.take_of_length_le (by rw [zipM_length hml f, hp.len]; exact Nat.le_refl _)] at o2
    rw [Int.toNat_natCast]
    obtain ⟨g, hg⟩ := Int.eq_ofNat_of_zero_le hm0
    have hz : (zipM ms left f).length = left.length := zipM_length hml f
    rw [hg]
    refine spec72 hI (o2.at_ List.mem_cons_self) (by omega) (fun w hw => ?_) (by rw [hz, hp.len]; omega) fun s' h3 e3 a3 nw => ⟨s', rfl, hQ s' h3 (o2.ext.trans e3) ?_ (nw.elim (fun e => e ▸ New.blk hn) fun nw => nw.of_ext o2.ext)⟩
    · obtain ⟨j, hj, rfl⟩ := List.mem_iff_getElem.1 hw
      rw [hz] at hj
      have h5 := zipM_under hml (f := f) (fun n => by rw [hf]; dsimp only; have : n * o.a.toNat ≤ n * 100 := Nat.mul_le_mul_left n (by omega); omega)
      have h6 := h5.2 j (by rw [hz]; exact hj)
      rw [at_some (List.getElem?_eq_getElem (by rw [hz]; exact hj)), at_some (List.getElem?_eq_getElem hj)] at h6
      have h7 := hle _ (List.getElem_mem hj)
      omega
    · rw [hms]
      unfold percF
      rw [← hf, hg, Int.toNat_natCast]; exact a3
theorem take_sum_step {l : List Nat} {k n : Nat} (h : l[k]? = some n) : (l.take (k + 1)).sum = (l.take k).sum + n := by
  rw [List.take_add_one, h, List.sum_append]; simp
theorem min_nat {a b : Nat} : min (a : Int) (b : Int) = ((min a b : Nat) : Int) := by omega
theorem spec57 (hI : Closed' prog Pm I) {o : Offr} (hp : Pr h ip l1 xs ship0 sl left ship) (hx : OkL xs) (ho : OkO o) (hk : o.kind = 2) (hot : At h 1 o.tg (strs o.tags)) (hotl : o.tags.length < 1000) (hle : ∀ n ∈ left, n ≤ 1000000000)
    (hQ : ∀ s' h', Ext h h' → At h' 1 s' (nats (amtF (xs.map (matchB o)) left o.a.toNat o.most.toNat)) → New h s' → Q [.one (.slice 1 s')] h') : I 57 [.one (.ptr (some (ip, 0))), .agg (offC o)] Q h := by
  have hsl := hp.sllen
  have hfew := hx.few
  have hil := hp.its.len
  obtain ⟨ham, _, _, hm0, hm1, _, _⟩ := ho.n
  have ha : 1 ≤ o.a ∧ o.a ≤ 1000000000000 := by
    rcases ham with h1 | h1 | h1 <;> omega
  refine hI.go _ _ (den57 I (some (ip, 0)) o.key o.kind o.a o.b o.tg o.least o.most o.group o.alone o.order o.from_ o.to_ Q) ?_
  refine ⟨sl, read_cell hp.cell rfl, rfl, by omega, by omega, by show (sl.len : Int) * ((8 : Nat) : Int) ≤ _; omega, newK_intro fun i2 h1 hn he => ?_⟩
  rw [Int.toNat_natCast, zeros_nats] at he
  have o1 : Owns h h1 [(1, ⟨some (i2, 0), sl.len⟩, nats (List.replicate sl.len 0))] := he ▸ (Owns.nil h).new hn (by simp [nats_length])
  have hp1 := hp.ext o1.ext
  refine ⟨sl, read_cell hp1.cell rfl, ?_⟩
  obtain ⟨ms, hms⟩ : ∃ ms, xs.map (matchB o) = ms := ⟨_, rfl⟩
  have hml : ms.length = left.length := by rw [← hms, List.length_map, hp.len]
  have hz : (zipM ms left id).length = left.length := zipM_length hml id
  have hle2 : ∀ w ∈ zipM ms left id, w ≤ 1000000000 := fun w hw => by
    obtain ⟨j, hj, rfl⟩ := List.mem_iff_getElem.1 hw
    rw [hz] at hj
    have h6 := (zipM_under hml (f := id) (fun n => Nat.le_refl _)).2 j (by rw [hz]; exact hj)
    rw [at_some (List.getElem?_eq_getElem (by rw [hz]; exact hj)), at_some (List.getElem?_eq_getElem hj)] at h6
    have h7 := hle _ (List.getElem_mem hj)
    omega
  have hsum := sum_le hle2
  have hzl : (zipM ms left id).length ≤ 4 := by rw [hz, hp.len]; exact hfew
  refine loopK_intro (fun (a : Int × Int) h' m => ∃ k : Nat, k ≤ xs.length ∧ a = (((((zipM ms left id).take k).sum : Nat) : Int), (k : Int)) ∧ m = xs.length - k ∧ Owns h h' [(1, ⟨some (i2, 0), sl.len⟩, nats ((zipM ms left id).take k ++ List.replicate m 0))]) xs.length
    ⟨0, by omega, rfl, rfl, by rw [List.take_zero, List.nil_append, ← hsl]; exact o1⟩ ?_
  rintro a h2 m ⟨k, hk1, rfl, rfl, o2⟩
  dsimp only [uncur]
  have hp2 := hp.ext o2.ext
  refine ifT_dec (fun hlt => ⟨⟨by omega, hlt⟩, ?_⟩) fun hge => ?_
  · have hkl : k < xs.length := by omega
    have hxk := List.getElem?_eq_getElem hkl
    generalize xs[k] = x at hxk
    have hkl2 : k < left.length := by rw [hp.len]; exact hkl
    obtain ⟨n, hnk, hnb⟩ : ∃ n, left[k]? = some n ∧ n ≤ 1000000000 := ⟨left[k], List.getElem?_eq_getElem hkl2, hle _ (List.getElem_mem hkl2)⟩
    have hxm := List.mem_of_getElem? hxk
    refine hp2.at_.cell (nats_get hnk) fun b of hr => ⟨_, hr, ⟨l1, read_cell hp2.cell rfl, ⟨by omega, by omega⟩, ?_⟩⟩
    refine hp2.its.at_.row itmC_length (by decide) hxk fun b2 of2 hr2 => ⟨x.key, x.cents, x.many, x.tg, hr2, ?_⟩
    refine spec36 hI (o := o) (x := x) (o2.ext.at_ hot) (hp2.its.tg x hxm) hotl (hx.tg x hxm) fun h3 e3 => ⟨matchB o x, rfl, ?_⟩
    have o3 := o2.mono e3
    have hmk : ms[k]? = some (matchB o x) := by rw [← hms]; exact ms_get hxk
    have em : xs.length - k = (xs.length - (k + 1)) + 1 := by omega
    have ek : IntKind.i64.wrap ((k : Int) + 1) = ((k + 1 : Nat) : Int) := by rw [w64] <;> omega
    rw [em] at o3
    rw [ek]
    have hts := take_sum_le (zipM ms left id) k
    have hzk : (zipM ms left id)[k]? = some (cond (matchB o x) n 0) := by
      unfold zipM
      rw [List.getElem?_zipWith, hmk, hnk]; rfl
    have hst := take_sum_step hzk
    refine ifT_intro (fun hb => ⟨⟨by omega, by show (k : Int) < ((sl.len : Int).toNat : Int); omega⟩, ?_⟩) fun hb => ?_
    · rw [hb] at hmk hst
      refine storeK_one (o3.block List.mem_cons_self).1 (by rw [nats_length, List.length_append, List.length_take, List.length_replicate, Int.toNat_natCast, hz, hp.len]; omega) ⟨xs.length - (k + 1), by omega, k + 1, by omega, ?_, rfl, ?_⟩
      · rw [hst]
        show (_, _) = (_, _)
        congr 1
        show IntKind.i64.wrap _ = (((_ + n : Nat)) : Int)
        rw [w64 (by omega) (by omega)]; omega
      rw [Nat.zero_add, Int.toNat_natCast, Nat.mul_one, nats_set, show n = cond true (id n) 0 from rfl, zipM_step hmk hnk _ (by rw [hp.len]; omega) hml]
      refine o3.change ?_
      rw [nats_length, List.length_append, List.length_take, List.length_replicate, hz, hp.len]; omega
    · rw [hb] at hmk hst
      rw [zipM_none hmk hnk _ (by rw [hp.len]; omega) hml] at o3
      refine ⟨xs.length - (k + 1), by omega, k + 1, by omega, ?_, rfl, o3⟩
      rw [hst]; rfl
  · have hkn : k = xs.length := by omega
    subst hkn
    rw [Nat.sub_self, List.replicate_zero, List.append_nil, List.take_of_length_le (by rw [hz, hp.len]; exact Nat.le_refl _)] at o2
    rw [List.take_of_length_le (by rw [hz, hp.len]; exact Nat.le_refl _), Int.toNat_natCast]
    obtain ⟨g, hg⟩ := Int.eq_ofNat_of_zero_le hm0
    obtain ⟨A, hA⟩ := Int.eq_ofNat_of_zero_le (show 0 ≤ o.a by omega)
    rw [hms, hg, hA] at hQ
    rw [hg, hA]
    simp only [Int.toNat_natCast] at hQ
    unfold amtF at hQ
    obtain ⟨ws, hws⟩ : ∃ ws, zipM ms left id = ws := ⟨_, rfl⟩
    rw [hws] at hQ o2 hle2 hsum hzl ⊢
    have hat := o2.at_ List.mem_cons_self
    have fin : ∀ c : Nat, ws.sum ≠ 0 → c = capN g (min A ws.sum) → I 73 [int c, .one (.slice 1 ⟨some (i2, 0), sl.len⟩)] (fun cs h' => ∃ l : Sl, cs = [.one (.slice 1 l)] ∧ Q [.one (.slice 1 l)] h') h2 := fun c hne hc => by
      refine spec73 hI hat (by rw [hc]; unfold capN; split <;> omega) (fun w hw => by have := hle2 w hw; omega) (by omega) (by omega) fun s' h3 e3 a3 nw => ⟨s', rfl, hQ s' h3 (o2.ext.trans e3) ?_ (nw.of_ext o2.ext)⟩
      rw [if_neg hne, ← hc]; exact a3
    have zero : ws.sum = 0 → Q [.one (.slice 1 ⟨some (i2, 0), sl.len⟩)] h2 := fun h0 => hQ _ h2 o2.ext (by rw [if_pos h0]; exact hat) (New.blk hn)
    refine ifT_intro (fun h5 => ifT_dec (fun h6 => zero (by omega)) fun h6 => ?_) fun h5 => ifT_dec (fun h6 => zero (by omega)) fun h6 => ?_
    · have hg0 : (g : Int) ≠ 0 := nd h5
      have e : min (min (A : Int) ((ws.sum : Nat) : Int)) (g : Int) = ((min (min A ws.sum) g : Nat) : Int) := by omega
      show I 73 _ _ _
      rw [e]
      exact fin _ (by omega) (by unfold capN; rw [if_neg (by omega)])
    · have hg0 : (g : Int) = 0 := Decidable.of_not_not (nd' h5)
      have e : min (A : Int) ((ws.sum : Nat) : Int) = ((min A ws.sum : Nat) : Int) := by omega
      show I 73 _ _ _
      rw [e]
      exact fin _ (by omega) (by unfold capN; rw [if_pos (by omega)])
end
end Go.Proofs.YtfemminjhecocaaGreatVc
-- PrSpec4
namespace Go.Proofs.YtfemminjhecocaaGreatVc
open Go.Proofs.Tryz (prog)
open Go.Proofs.YtfemminjhecocaaGreatShares
theorem pcs_succ (ms : List Bool) (ks left : List Nat) (n : Nat) : pcs ms ks left (n + 1) = pcs ms ks left n ++ pcsAt ms ks left n := by
  unfold pcs; rw [List.range_succ, List.flatMap_append]; simp
theorem pcsAt_mem {ms : List Bool} {ks left : List Nat} {i : Nat} {x : Pc} (h : x ∈ pcsAt ms ks left i) : ∃ k n, ms[i]? = some true ∧ ks[i]? = some k ∧ left[i]? = some n ∧ x = (i, n / k) := by
  unfold pcsAt at h
  split at h
  · rename_i k n h1 h2 h3
    exact ⟨k, n, h1, h2, h3, List.eq_of_mem_replicate h⟩
  · cases h
theorem pcsAt_length {ms : List Bool} {ks left : List Nat} {i : Nat} (hk : ∀ k ∈ ks, k ≤ 100) : (pcsAt ms ks left i).length ≤ 100 := by
  unfold pcsAt
  split
  · rename_i k n h1 h2 h3
    rw [List.length_replicate]; exact hk k (List.mem_of_getElem? h2)
  · simp
theorem pcs_ok {ms : List Bool} {ks left : List Nat} (hk : ∀ k ∈ ks, k ≤ 100) (hl : ∀ n ∈ left, n ≤ 1000000000) : ∀ n, (∀ x ∈ pcs ms ks left n, x.1 < n ∧ x.2 ≤ 1000000000) ∧ (pcs ms ks left n).Pairwise (fun a b => a.1 ≤ b.1) ∧ (pcs ms ks left n).length ≤ 100 * n
  | 0 => by simp [pcs]
  | n + 1 => by
    obtain ⟨h1, h2, h3⟩ := pcs_ok hk hl n (ms := ms)
    have h4 := pcsAt_length (ms := ms) (left := left) (i := n) hk
    have h5 : ∀ x ∈ pcsAt ms ks left n, x.1 = n ∧ x.2 ≤ 1000000000 := fun x hx => by
      obtain ⟨k, m, _, _, hm, rfl⟩ := pcsAt_mem hx
      exact ⟨rfl, Nat.le_trans (Nat.div_le_self m k) (hl m (List.mem_of_getElem? hm))⟩
    rw [pcs_succ]
    refine ⟨fun x hx => ?_, List.pairwise_append.2 ⟨h2, ?_, fun x hx y hy => ?_⟩, by rw [List.length_append]; omega⟩
    · rcases List.mem_append.1 hx with hx | hx
      · have := h1 x hx; omega
      · have := h5 x hx; omega
    · rw [List.pairwise_iff_getElem]
      intro i j hi hj _
      have e1 := (h5 _ (List.getElem_mem hi)).1
      have e2 := (h5 _ (List.getElem_mem hj)).1
      omega
    · have e1 := (h1 x hx).1
      have e2 := (h5 y hy).1
      omega
theorem sorted_perm (l : List Pc) : (sorted l).Perm l := List.mergeSort_perm l pcLe
theorem giveAll_append (out : List Nat) (a b : List Pc) : giveAll out (a ++ b) = giveAll (giveAll out a) b := by simp [giveAll]
theorem at_get' {l : List Nat} {i : Nat} (h : i < l.length) : l[i]? = some (at_ l i) := at_get h
theorem give_bound {out : List Nat} {x : Pc} {B : Nat} (h : ∀ i, at_ out i ≤ B) (hx : x.1 < out.length) (i : Nat) : at_ (give out x) i ≤ B + x.2 := by
  by_cases hi : i < out.length
  · rw [give_at hi]
    have := h i
    split <;> omega
  · have : at_ (give out x) i = 0 := by
      unfold at_
      rw [List.getD_eq_getElem?_getD, List.getElem?_eq_none (by rw [give_length]; omega)]; rfl
    omega

section
variable {I : Calls} {Q : Post} {h : Heap} {ip : Nat} {l1 sl : Sl} {xs : List Itm} {ship0 ship : Int} {left : List Nat}
theorem spec58 (hI : Closed' prog Pm I) {o : Offr} (hp : Pr h ip l1 xs ship0 sl left ship) (hx : OkL xs) (ho : OkO o) (hk : o.kind = 3) (hot : At h 1 o.tg (strs o.tags)) (hotl : o.tags.length < 1000) (hle : ∀ n ∈ left, n ≤ 1000000000)
    (hQ : ∀ s' h', Ext h h' → At h' 1 s' (nats (freeF (xs.map (matchB o)) (xs.map fun x => x.many.toNat) left o.a.toNat o.b.toNat o.most.toNat)) → New h s' → Q [.one (.slice 1 s')] h') : I 58 [.one (.ptr (some (ip, 0))), .agg (offC o)] Q h := by
  have hsl := hp.sllen
  have hfew := hx.few
  have hil := hp.its.len
  obtain ⟨ham, _, _, hm0, hm1, _, _⟩ := ho.n
  have ha : 1 ≤ o.a ∧ o.a ≤ 20 ∧ 1 ≤ o.b ∧ o.b ≤ 20 := by
    rcases ham with h1 | h1 | h1 <;> omega
  obtain ⟨g, hg⟩ := Int.eq_ofNat_of_zero_le hm0
  obtain ⟨A, hA⟩ := Int.eq_ofNat_of_zero_le (show 0 ≤ o.a by omega)
  obtain ⟨B, hB⟩ := Int.eq_ofNat_of_zero_le (show 0 ≤ o.b by omega)
  obtain ⟨ms, hms⟩ : ∃ ms, xs.map (matchB o) = ms := ⟨_, rfl⟩
  obtain ⟨ks, hks⟩ : ∃ ks, xs.map (fun x => x.many.toNat) = ks := ⟨_, rfl⟩
  have hksb : ∀ k ∈ ks, k ≤ 100 := fun k hk => by
    rw [← hks] at hk
    obtain ⟨x, hx2, rfl⟩ := List.mem_map.1 hk
    have := hx.ok x hx2
    omega
  refine hI.go _ _ (den58 I (some (ip, 0)) o.key o.kind o.a o.b o.tg o.least o.most o.group o.alone o.order o.from_ o.to_ Q) ?_
  refine ⟨l1, read_cell hp.cell rfl, ?_⟩
  refine loopK_intro (fun (a : Sl × Int) h' m => ∃ k : Nat, k ≤ xs.length ∧ a.2 = (k : Int) ∧ m = xs.length - k ∧ Owns h h' [(2, a.1, rows pcC (pcs ms ks left k))]) xs.length
    ⟨0, by omega, rfl, rfl, (Owns.nil h).none_ 2⟩ ?_
  rintro ⟨lz, y⟩ h2 m ⟨k, hk1, rfl, rfl, o2⟩
  dsimp only [uncur] at o2 ⊢
  have hp2 := hp.ext o2.ext
  obtain ⟨hpk1, hpk2, hpk3⟩ := pcs_ok (ms := ms) hksb hle k
  have hlz : lz.len = (pcs ms ks left k).length := (o2.at_ List.mem_cons_self).rowsLen pcC_length (by decide)
  refine ifT_dec (fun hlt => ⟨⟨by omega, hlt⟩, ?_⟩) fun hge => ?_
  · have hkl : k < xs.length := by omega
    have hxk := List.getElem?_eq_getElem hkl
    generalize xs[k] = x at hxk
    have hkl2 : k < left.length := by rw [hp.len]; exact hkl
    obtain ⟨n, hnk, hnb⟩ : ∃ n, left[k]? = some n ∧ n ≤ 1000000000 := ⟨left[k], List.getElem?_eq_getElem hkl2, hle _ (List.getElem_mem hkl2)⟩
    have hxm := List.mem_of_getElem? hxk
    have hok := hx.ok x hxm
    have hmk : ms[k]? = some (matchB o x) := by rw [← hms]; exact ms_get hxk
    have hkk : ks[k]? = some x.many.toNat := by rw [← hks, List.getElem?_map, hxk]; rfl
    have ek : IntKind.i64.wrap ((k : Int) + 1) = ((k + 1 : Nat) : Int) := by rw [w64] <;> omega
    rw [ek]
    refine hp2.its.at_.row itmC_length (by decide) hxk fun b2 of2 hr2 => ⟨x.key, x.cents, x.many, x.tg, hr2, ?_⟩
    refine spec36 hI (o := o) (x := x) (o2.ext.at_ hot) (hp2.its.tg x hxm) hotl (hx.tg x hxm) fun h3 e3 => ⟨matchB o x, rfl, ?_⟩
    have o3 := o2.mono e3
    have hp3 := hp.ext o3.ext
    refine ifT_intro (fun hb => ?_) fun hb => ?_
    · rw [hb] at hmk
      refine ⟨sl, read_cell hp3.cell rfl, ⟨by omega, by omega⟩, ?_⟩
      refine hp3.at_.cell (nats_get hnk) fun b of hr => ⟨_, hr, by omega, newK_intro fun i4 h4 hn4 he4 => ?_⟩
      obtain ⟨M, hM⟩ : ∃ M : Nat, x.many = ((M + 1 : Nat) : Int) := ⟨x.many.toNat - 1, by omega⟩
      have hM2 : M < 100 := by omega
      have ev : IntKind.i64.wrap ((n : Int).tdiv x.many) = ((n / (M + 1) : Nat) : Int) := by
        rw [hM]
        have : (n : Int).tdiv ((M + 1 : Nat) : Int) = ((n / (M + 1) : Nat) : Int) := by rw [Int.ofNat_tdiv]
        rw [this]
        have hq := Nat.div_le_self n (M + 1)
        generalize n / (M + 1) = q at hq
        exact w64 (by omega) (by omega)
      rw [ev] at he4
      rw [hM]
      have x4 : Ext h3 h4 := he4 ▸ Ext.new hn4
      refine spec74 hI (x := (k, n / (M + 1))) (by rw [he4, set_eq]; rfl) (by omega) (by omega) fun i5 h5 e5 c5 => ⟨_, rfl, rows pcC (List.replicate (M + 1) (k, n / (M + 1))), ?_, ?_⟩
      · show h5.read i5 0 ((M + 1) * 2) = _
        have hl5 : (rows pcC (List.replicate (M + 1) (k, n / (M + 1)))).length = (M + 1) * 2 := by rw [rows_length pcC_length, List.length_replicate]
        rw [read_block c5 (by omega), ← hl5, List.drop_zero, List.take_length]
      · show appendTo [] 2 16 lz (M + 1) _ _ _
        refine appendTo_owns (o3.mono (x4.trans e5)) (by rw [rows_length pcC_length, List.length_replicate]) (by omega) (by simp) fun j h6 o6 => ⟨xs.length - (k + 1), by omega, k + 1, by omega, rfl, rfl, ?_⟩
        have e : pcs ms ks left (k + 1) = pcs ms ks left k ++ List.replicate (M + 1) (k, n / (M + 1)) := by
          rw [pcs_succ]
          congr 1
          unfold pcsAt
          have : x.many.toNat = M + 1 := by omega
          rw [this] at hkk
          rw [hmk, hkk, hnk]
        rw [e, rows_append]; exact o6
    · rw [hb] at hmk
      have e : pcs ms ks left (k + 1) = pcs ms ks left k := by
        rw [pcs_succ]
        unfold pcsAt
        rw [hmk]; simp
      exact ⟨xs.length - (k + 1), by omega, k + 1, by omega, rfl, rfl, by rw [e]; exact o3⟩
  · have hkn : k = xs.length := by omega
    subst hkn
    rw [hms, hks, hg, hA, hB] at hQ
    simp only [Int.toNat_natCast] at hQ
    rw [hg, hA, hB]
    refine spec75 hI o2 (by omega) hpk2 fun h3 o3 => ⟨rfl, ?_⟩
    have hp3 := hp.ext o3.ext
    unfold freeF at hQ
    rw [hp.len] at hQ
    obtain ⟨Z, hZ⟩ : ∃ Z, sorted (pcs ms ks left xs.length) = Z := ⟨_, rfl⟩
    rw [hZ] at o3 hQ
    have hZp : Z.Perm (pcs ms ks left xs.length) := hZ ▸ sorted_perm _
    have hZ1 : ∀ x ∈ Z, x.1 < xs.length ∧ x.2 ≤ 1000000000 := fun x hx => hpk1 x (hZp.mem_iff.1 hx)
    have hZ2 : Z.length ≤ 400 := by rw [hZp.length_eq]; omega
    refine ⟨sl, read_cell hp3.cell rfl, rfl, by omega, by omega, by show (sl.len : Int) * ((8 : Nat) : Int) ≤ _; omega, newK_intro fun i4 h4 hn4 he4 => ?_⟩
    rw [Int.toNat_natCast, zeros_nats, hsl] at he4
    have o4 : Owns h h4 [(1, ⟨some (i4, 0), xs.length⟩, nats (List.replicate xs.length 0)), (2, lz, rows pcC Z)] := he4 ▸ o3.new hn4 (by simp [nats_length])
    have eab : IntKind.i64.wrap ((A : Int) + (B : Int)) = ((A + B : Nat) : Int) := by rw [w64] <;> omega
    rw [eab, Int.toNat_natCast, hsl]
    simp only [Int.toNat_natCast]
    refine loopK_intro (fun (a : Sl) h' fuel => ∃ z out, (∀ h'', At h'' 2 lz (rows pcC Z) → At h'' 2 a (rows pcC z)) ∧ z.length ≤ fuel ∧ (∀ x ∈ z, x ∈ Z) ∧ z.length ≤ Z.length ∧ out.length = xs.length ∧ (∀ i, at_ out i ≤ (Z.length - z.length) * 1000000000) ∧ giveAll out (freeOf A B fuel z) = giveAll (List.replicate xs.length 0) (freeOf A B Z.length Z) ∧
        Owns h h' [(1, ⟨some (i4, 0), xs.length⟩, nats out), (2, lz, rows pcC Z)]) Z.length
      ⟨Z, List.replicate xs.length 0, fun _ h => h, Nat.le_refl _, fun _ h => h, Nat.le_refl _, by simp, fun i => by unfold at_; rw [List.getD_eq_getElem?_getD, List.getElem?_replicate]; split <;> simp, rfl, o4⟩ ?_
    rintro a h5 fuel ⟨z, out, hz1, hz2, hz3, hz4, hz5, hz6, hz7, o5⟩
    have hal : a.len = z.length := (hz1 h5 (o5.at_ (List.mem_cons_of_mem _ List.mem_cons_self))).rowsLen pcC_length (by decide)
    refine ifT_dec (fun hge => ⟨⟨by omega, by omega, by omega⟩, ?_⟩) fun hlt => ?_
    · have hab : A + B ≤ z.length := by omega
      obtain ⟨fu, rfl⟩ : ∃ fu, fuel = fu + 1 := ⟨fuel - 1, by omega⟩
      simp only [freeOf, if_pos hab] at hz7
      obtain ⟨w, hw⟩ : ∃ w, (z.take (A + B)).drop A = w := ⟨_, rfl⟩
      have hwl : w.length = B := by rw [← hw, List.length_drop, List.length_take]; omega
      have hwm : ∀ x ∈ w, x ∈ Z := fun x hx => hz3 x (by rw [← hw] at hx; exact List.mem_of_mem_take (List.mem_of_mem_drop hx))
      have hsub : ∀ h'', At h'' 2 lz (rows pcC Z) → At h'' 2 (a.sub 2 A (A + B)) (rows pcC w) := fun h'' hh => by
        have := (hz1 h'' hh).sub A (A + B) (by omega) (by omega)
        rw [rows_drop pcC_length, rows_take pcC_length] at this
        rw [← hw, List.drop_take]
        exact this
      have hwl2 : (a.sub 2 A (A + B)).len = B := by show A + B - A = B; omega
      rw [hw, giveAll_append] at hz7
      refine loopK_intro (fun (y : Int) h' m => ∃ t : Nat, t ≤ B ∧ y = (t : Int) ∧ m = B - t ∧ (giveAll out (w.take t)).length = xs.length ∧ (∀ i, at_ (giveAll out (w.take t)) i ≤ (Z.length - z.length + t) * 1000000000) ∧ Owns h h' [(1, ⟨some (i4, 0), xs.length⟩, nats (giveAll out (w.take t))), (2, lz, rows pcC Z)]) B
        ⟨0, by omega, rfl, rfl, by rw [List.take_zero]; exact hz5, by rw [List.take_zero]; exact hz6, by rw [List.take_zero]; exact o5⟩ ?_
      rintro y h6 m ⟨t, ht1, rfl, rfl, hol, hob, o6⟩
      refine ifT_dec (fun hlt => ⟨⟨by omega, hlt⟩, ?_⟩) fun hge2 => ?_
      · have htl : t < w.length := by omega
        have hpt := List.getElem?_eq_getElem htl
        generalize w[t] = x at hpt
        have hxZ := hZ1 x (hwm x (List.mem_of_getElem? hpt))
        refine (hsub h6 (o6.at_ (List.mem_cons_of_mem _ List.mem_cons_self))).row pcC_length (by decide) hpt fun bb of hr => ⟨x.1, x.2, hr, ⟨by omega, by omega⟩, ((at_ (giveAll out (w.take t)) x.1 : Nat) : Int), ?_, ⟨by omega, by omega⟩, ?_⟩
        · have hc := (o6.block List.mem_cons_self).1
          have := read_cell hc (nats_get (at_get (l := giveAll out (w.take t)) (i := x.1) (by rw [hol]; exact hxZ.1)))
          rw [Nat.zero_add, Int.toNat_natCast, Nat.mul_one]; exact this
        · have et : w.take (t + 1) = w.take t ++ [x] := by rw [List.take_add_one, hpt]; rfl
          have eg : giveAll out (w.take (t + 1)) = give (giveAll out (w.take t)) x := by rw [et, giveAll_append]; rfl
          have hb1 := hob x.1
          have hb2 := give_bound hob (by rw [hol]; exact hxZ.1) (x := x)
          refine storeK_one (o6.block List.mem_cons_self).1 (by rw [nats_length, hol, Int.toNat_natCast]; omega) ⟨B - (t + 1), by omega, t + 1, by omega, by rw [w64 (by omega) (by omega)]; rfl, rfl, by rw [eg, give_length, hol], fun i => by rw [eg]; have := hb2 i; omega, ?_⟩
          have ev : IntKind.i64.wrap (((at_ (giveAll out (w.take t)) x.1 : Nat) : Int) + ((x.2 : Nat) : Int)) = ((at_ (giveAll out (w.take t)) x.1 + x.2 : Nat) : Int) := by
            rw [w64 (by omega) (by omega)]; omega
          rw [ev, Nat.zero_add, Int.toNat_natCast, Nat.mul_one, nats_set]
          have e2 : (giveAll out (w.take t)).set x.1 (at_ (giveAll out (w.take t)) x.1 + x.2) = giveAll out (w.take (t + 1)) := by rw [eg]; rfl
          rw [e2]
          exact o6.change (by rw [nats_length, eg, give_length, hol]; omega)
      · have htB : t = B := by omega
        subst htB
        rw [List.take_of_length_le (by omega)] at hol hob o6
        refine ⟨⟨by omega, by omega, by omega⟩, fu, by omega, z.drop (A + t), giveAll out w, fun h'' hh => ?_, by rw [List.length_drop]; omega, fun x hx => hz3 x (List.mem_of_mem_drop hx), by rw [List.length_drop]; omega, hol, fun i => ?_, hz7, o6⟩
        · have := (hz1 h'' hh).sub (A + t) a.len (by omega) (Nat.le_refl _)
          rw [rows_drop pcC_length, rows_take pcC_length, List.take_of_length_le (by rw [List.length_drop]; omega)] at this
          exact this
        · have := hob i
          rw [List.length_drop]
          refine Nat.le_trans this (Nat.mul_le_mul_right _ (by omega))
    · have hfin : freeOf A B fuel z = [] := by
        cases fuel with
        | zero => rfl
        | succ f => simp only [freeOf]; rw [if_neg (by omega)]
      rw [hfin] at hz7
      have hz8 : out = giveAll (List.replicate xs.length 0) (freeOf A B Z.length Z) := hz7
      rw [← hz8] at hQ
      refine spec72 hI (o5.at_ List.mem_cons_self) (by omega) (fun v hv => ?_) (by omega) fun s' h6 e6 a6 nw => ⟨s', rfl, hQ s' h6 (o5.ext.trans e6) a6 (nw.elim (fun e => e ▸ o5.new_ List.mem_cons_self) fun nw => nw.of_ext o5.ext)⟩
      obtain ⟨j, hj, rfl⟩ := List.mem_iff_getElem.1 hv
      have := hz6 j
      rw [at_some (List.getElem?_eq_getElem hj)] at this
      have : (Z.length - z.length) * 1000000000 ≤ 400 * 1000000000 := Nat.mul_le_mul_right _ (by omega)
      omega
end
end Go.Proofs.YtfemminjhecocaaGreatVc
