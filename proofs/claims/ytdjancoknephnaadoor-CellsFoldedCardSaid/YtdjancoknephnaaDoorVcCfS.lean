/- What the reference of Fold comes to (no program in sight). Contracts of what CellsFolded reaches: the checks of the reference, the search, an element put in. Contracts of what CellsFolded reaches: Keep, Fold in the reference's words, the reference itself, Adds. CellsFolded: the law's own function. -/
import Derived.Test.YtdjancoknephnaaDoorVcCfFo
set_option linter.unusedSimpArgs false
set_option linter.unusedVariables false
-- CfMath
namespace Go.Proofs.YtdjancoknephnaaDoorVc
abbrev P3 := List ByteArray × Int × Int
/-- The reference's step: a row in the order of its keys, to which a part is added. -/
def insA : List P3 → P3 → List P3
  | [], p => [p]
  | q :: o, p => if cmpL p.1 q.1 < 0 then p :: q :: o else if p.1 = q.1 then (q.1, q.2.1 + p.2.1, q.2.2 + p.2.2) :: o else q :: insA o p
theorem kl_tri (a b : List ByteArray) : keyL a < keyL b ∨ a = b ∨ keyL b < keyL a := by
  by_cases h1 : cmpL a b < 0
  · exact .inl (cmpL_neg.1 h1)
  · by_cases h2 : cmpL b a < 0
    · exact .inr (.inr (cmpL_neg.1 h2))
    · right; left
      rw [cmpL_neg] at h1 h2
      exact keyL_inj (List.le_antisymm h2 h1)
theorem kl_irr (a : List ByteArray) : ¬ keyL a < keyL a := List.lt_irrefl _
theorem kl_trans {a b c : List ByteArray} (h1 : keyL a < keyL b) (h2 : keyL b < keyL c) : keyL a < keyL c := List.lt_trans h1 h2
theorem kl_asy {a b : List ByteArray} (h1 : keyL a < keyL b) : ¬ keyL b < keyL a := fun h2 => kl_irr a (kl_trans h1 h2)
theorem ins_lt {p q : P3} {o : List P3} (h : keyL p.1 < keyL q.1) : insA (q :: o) p = p :: q :: o := by rw [insA, if_pos (cmpL_neg.2 h)]
theorem ins_eq {p q : P3} {o : List P3} (h : p.1 = q.1) : insA (q :: o) p = (q.1, q.2.1 + p.2.1, q.2.2 + p.2.2) :: o := by
  rw [insA, if_neg (fun h2 => kl_irr p.1 (by have := cmpL_neg.1 h2; rw [← h] at this; exact this)), if_pos h]
theorem ins_gt {p q : P3} {o : List P3} (h : keyL q.1 < keyL p.1) : insA (q :: o) p = q :: insA o p := by
  rw [insA, if_neg (fun h2 => kl_asy h (cmpL_neg.1 h2)), if_neg (fun h2 => kl_irr p.1 (by rw [← h2] at h; exact h))]
theorem ins_lt' {p : P3} {k : List ByteArray} {a b : Int} {o : List P3} (h : keyL p.1 < keyL k) : insA ((k, a, b) :: o) p = p :: (k, a, b) :: o := ins_lt h
theorem ins_eq' {p : P3} {k : List ByteArray} {a b : Int} {o : List P3} (h : p.1 = k) : insA ((k, a, b) :: o) p = (k, a + p.2.1, b + p.2.2) :: o := ins_eq h
theorem ins_gt' {p : P3} {k : List ByteArray} {a b : Int} {o : List P3} (h : keyL k < keyL p.1) : insA ((k, a, b) :: o) p = (k, a, b) :: insA o p := ins_gt h
theorem insA_comm : ∀ (o : List P3) (p q : P3), insA (insA o p) q = insA (insA o q) p
  | [], p, q => by
    show insA [p] q = insA [q] p
    rcases kl_tri p.1 q.1 with h | h | h
    · rw [ins_gt h, ins_lt h]; rfl
    · rw [ins_eq h.symm, ins_eq h, h, Int.add_comm p.2.1, Int.add_comm p.2.2]
    · rw [ins_lt h, ins_gt h]; rfl
  | x :: o, p, q => by
    rcases kl_tri p.1 x.1 with hp | hp | hp <;> rcases kl_tri q.1 x.1 with hq | hq | hq
    · rw [ins_lt hp, ins_lt hq]
      rcases kl_tri p.1 q.1 with h | h | h
      · rw [ins_gt h, ins_lt h, ins_lt hq]
      · rw [ins_eq h.symm, ins_eq h, h, Int.add_comm p.2.1, Int.add_comm p.2.2]
      · rw [ins_lt h, ins_gt h, ins_lt hp]
    · have h : keyL p.1 < keyL q.1 := by rw [hq]; exact hp
      rw [ins_lt hp, ins_eq hq, ins_gt h, ins_eq hq, ins_lt' hp]
    · rw [ins_lt hp, ins_gt hq, ins_gt (kl_trans hp hq), ins_gt hq, ins_lt hp]
    · have h : keyL q.1 < keyL p.1 := by rw [hp]; exact hq
      rw [ins_eq hp, ins_lt hq, ins_lt' hq, ins_gt h, ins_eq hp]
    · rw [ins_eq hp, ins_eq hq, ins_eq' hq, ins_eq' hp]
      simp only [Int.add_assoc, Int.add_comm p.2.1, Int.add_comm p.2.2]
    · rw [ins_eq hp, ins_gt hq, ins_gt' hq, ins_eq hp]
    · rw [ins_gt hp, ins_lt hq, ins_lt hq, ins_gt (kl_trans hq hp), ins_gt hp]
    · rw [ins_gt hp, ins_eq hq, ins_eq hq, ins_gt' hp]
    · rw [ins_gt hp, ins_gt hq, ins_gt hq, ins_gt hp, insA_comm o p q]
theorem foldA_perm {a b : List P3} (h : a.Perm b) : ∀ o, a.foldl insA o = b.foldl insA o := by
  induction h with
  | nil => exact fun _ => rfl
  | cons x _ ih => exact fun o => ih _
  | swap x y l => exact fun o => by simp only [List.foldl_cons]; rw [insA_comm]
  | trans _ _ ih1 ih2 => exact fun o => (ih1 o).trans (ih2 o)
theorem ins_pass {p : P3} : ∀ {A B : List P3}, (∀ a ∈ A, keyL a.1 < keyL p.1) → insA (A ++ B) p = A ++ insA B p
  | [], B, _ => rfl
  | a :: A, B, h => by rw [List.cons_append, ins_gt (h a (by simp)), ins_pass fun x hx => h x (by simp [hx])]; rfl
theorem addC_insA {out : List Cel} {c : Cel} (h : UpC out) (hl : ∀ a ∈ out, leC a c) : (addC out c).map pc = insA (out.map pc) (pc c) := by
  rcases last_cases out with e | ⟨P, l, e⟩
  · subst e; rfl
  · subst e
    have hP : ∀ a ∈ P, keyL a.keys < keyL l.keys := fun a ha => (List.pairwise_append.1 h).2.2 a ha l (by simp)
    by_cases hk : l.keys = c.keys
    · rw [addC_eq hk, List.map_append, List.map_append, ins_pass (fun a ha => ?_)]
      · show _ = _ ++ insA (pc l :: []) (pc c)
        rw [ins_eq (show (pc c).1 = (pc l).1 from hk.symm)]
        rfl
      · obtain ⟨x, hx, rfl⟩ := List.mem_map.1 ha
        show keyL x.keys < keyL c.keys
        rw [← hk]; exact hP x hx
    · have hlt := lt_of_le_ne (hl l (by simp)) hk
      rw [addC_ne hk, List.map_append]
      have := ins_pass (p := pc c) (A := (P ++ [l]).map pc) (B := []) (fun a ha => by
        obtain ⟨x, hx, rfl⟩ := List.mem_map.1 ha
        show keyL x.keys < keyL c.keys
        rcases List.mem_append.1 hx with hx | hx
        · exact kl_trans (hP x hx) hlt
        · rw [List.mem_singleton.1 hx]; exact hlt)
      rw [List.append_nil] at this
      rw [this]; rfl
theorem merge_insA : ∀ {ys out : List Cel}, UpC out → ys.Pairwise leC → (∀ a ∈ out, ∀ y ∈ ys, leC a y) → (ys.foldl addC out).map pc = (ys.map pc).foldl insA (out.map pc)
  | [], out, _, _, _ => rfl
  | y :: ys, out, h1, h2, h3 => by
    obtain ⟨h4, h5⟩ := List.pairwise_cons.1 h2
    simp only [List.foldl_cons, List.map_cons]
    rw [← addC_insA h1 fun a ha => h3 a ha y (by simp)]
    refine merge_insA (addC_up h1 fun a ha => h3 a ha y (by simp)) h5 fun a ha z hz => ?_
    rcases addC_mem ha with ⟨hk, _⟩ | ⟨x, hx, hk, _⟩
    · exact leC_keys (h4 z hz) hk
    · exact leC_keys (h3 x hx z (by simp [hz])) hk
/-- What Fold gives is what the reference gathers. -/
theorem FoldOf.ref {xs : List Cel} {keep : List Int} {out : List Cel} (f : FoldOf xs keep out) : out.map pc = (xs.map fun c => (prK keep c, c.many, c.cents)).foldl insA [] := by
  obtain ⟨ps, ys, h1, h2, h3, rfl⟩ := f
  have := merge_insA (ys := ys) (out := []) List.Pairwise.nil h3 (fun _ h => by cases h)
  unfold mergeC
  rw [this, foldA_perm (h2.map pc), h1]
  rfl
/-- The reference's row stays in order. -/
theorem up_ins {A B : List Cel} {c : Cel} (h : UpC (A ++ B)) (h1 : ∀ a ∈ A, keyL a.keys < keyL c.keys) (h2 : ∀ b ∈ B, keyL c.keys < keyL b.keys) : UpC (A ++ c :: B) :=
  placed h h1 h2
theorem up_same {A B : List Cel} {q c : Cel} (h : UpC (A ++ q :: B)) (hk : c.keys = q.keys) : UpC (A ++ c :: B) := by
  have h1 := List.pairwise_append.1 h
  have h2 := List.pairwise_cons.1 h1.2.1
  refine List.pairwise_append.2 ⟨h1.1, List.pairwise_cons.2 ⟨fun x hx => by rw [hk]; exact h2.1 x hx, h2.2⟩, fun x hx y hy => ?_⟩
  rcases List.mem_cons.1 hy with rfl | hy
  · rw [hk]; exact h1.2.2 x hx q (by simp)
  · exact h1.2.2 x hx y (by simp [hy])
theorem ins_new {A B : List Cel} {c : Cel} (h1 : ∀ a ∈ A, keyL a.keys < keyL c.keys) (h2 : ∀ b ∈ B, keyL c.keys < keyL b.keys) : insA ((A ++ B).map pc) (pc c) = (A ++ c :: B).map pc := by
  rw [List.map_append, List.map_append, ins_pass fun a ha => by obtain ⟨x, hx, rfl⟩ := List.mem_map.1 ha; exact h1 x hx]
  cases B with
  | nil => rfl
  | cons b B => rw [List.map_cons, ins_lt (show keyL (pc c).1 < keyL (pc b).1 from h2 b (by simp))]; rfl
theorem ins_old {A B : List Cel} {q : Cel} {k : List ByteArray} {m c : Int} (h1 : ∀ a ∈ A, keyL a.keys < keyL k) (hk : q.keys = k) : insA ((A ++ q :: B).map pc) (k, m, c) = (A ++ ⟨q.kl, q.keys, q.many + m, q.cents + c⟩ :: B).map pc := by
  rw [List.map_append, ins_pass fun a ha => by obtain ⟨x, hx, rfl⟩ := List.mem_map.1 ha; exact h1 x hx]
  show _ ++ insA (pc q :: B.map pc) (k, m, c) = _
  rw [ins_eq (show k = (pc q).1 from hk.symm), List.map_append]
  rfl
/-- Where the search ends. -/
theorem up_split {out : List Cel} {k : List ByteArray} (h : UpC out) {i : Nat} (h1 : ∀ j c, j < i → out[j]? = some c → cmpL c.keys k < 0) (h2 : ∀ j c, i ≤ j → out[j]? = some c → ¬ cmpL c.keys k < 0) :
    (∀ a ∈ out.take i, keyL a.keys < keyL k) ∧ ∀ b ∈ out.drop i, b.keys = k ∨ keyL k < keyL b.keys := by
  refine ⟨fun a ha => ?_, fun b hb => ?_⟩
  · obtain ⟨j, hj⟩ := List.mem_iff_getElem?.1 ha
    rw [List.getElem?_take] at hj
    split at hj
    · rename_i hlt; exact cmpL_neg.1 (h1 j a hlt hj)
    · cases hj
  · obtain ⟨j, hj⟩ := List.mem_iff_getElem?.1 hb
    rw [List.getElem?_drop] at hj
    have := h2 _ b (by omega) hj
    rcases kl_tri b.keys k with h3 | h3 | h3
    · exact absurd (cmpL_neg.2 h3) this
    · exact .inl h3
    · exact .inr h3
end Go.Proofs.YtdjancoknephnaaDoorVc
-- CfSpec1
namespace Go.Proofs.YtdjancoknephnaaDoorVc
open Go.Proofs.Tryd (prog)
theorem cmpL_turn {a b : List ByteArray} : 0 ≤ cmpL a b ↔ cmpL b a ≤ 0 := by
  rcases kl_tri a b with h | h | h
  · have h1 := cmpL_neg.2 h
    have h2 : ¬ cmpL b a < 0 := fun e => kl_asy h (cmpL_neg.1 e)
    have h3 : ¬ cmpL b a = 0 := fun e => kl_irr a (by rw [cmpL_zero.1 e] at h; exact h)
    omega
  · subst h
    have := cmpL_zero.2 (rfl : a = a)
    omega
  · have h1 := cmpL_neg.2 h
    have h2 : ¬ cmpL a b < 0 := fun e => kl_asy h (cmpL_neg.1 e)
    omega
/-- The first that is not 0. -/
def orI : List Int → Int
  | [] => 0
  | x :: l => if x ≠ 0 then x else orI l
theorem orI_at : ∀ {l : List Int} {i : Nat} {x : Int}, (∀ y ∈ l.take i, y = 0) → l[i]? = some x → x ≠ 0 → orI l = x
  | [], i, x, _, h, _ => by simp at h
  | y :: l, 0, x, _, h, hx => by cases h; unfold orI; rw [if_pos hx]
  | y :: l, i + 1, x, h0, h, hx => by
    unfold orI
    rw [if_neg (by rw [h0 y (by simp)]; decide)]
    exact orI_at (i := i) (fun z hz => h0 z (by simp [hz])) (by simpa using h) hx
theorem orI_none : ∀ {l : List Int}, (∀ y ∈ l, y = 0) → orI l = 0
  | [], _ => rfl
  | y :: l, h => by unfold orI; rw [if_neg (by rw [h y (by simp)]; decide)]; exact orI_none fun z hz => h z (by simp [hz])
section
variable {I : Calls} {Q : Post} {h : Heap}
theorem spec40 (hI : Closed' prog Pm I) {s : ByteArray} (hQ : ∀ h', Ext h h' → Q [boo (!isKey s)] h') : I 40 [str s] Q h := by
  refine hI.go _ _ (den40 I s Q) ?_
  exact spec41 hI fun h' x => ⟨_, rfl, hQ h' x⟩
theorem spec35k (hI : Closed' prog Pm I) {s : Sl} {a : List ByteArray} (ha : At h 1 s (strs a)) (hl : a.length < 1000000) (hQ : ∀ h', Ext h h' → Q [boo (a.any fun c => !isKey c)] h') : I 35 [sls 1 s, .one (.func (some (40, [])))] Q h := by
  refine hI.go _ _ (den35 I s (some (40, [])) Q) ?_
  refine hI.go _ _ (den68 I s (some (40, [])) _) ?_
  have l1 := strs_len ha
  refine loopK_intro (fun (n : Int) h' m => Ext h h' ∧ ∃ i : Nat, i ≤ a.length ∧ n = i ∧ a.length - i = m ∧ ((a.take i).any fun c => !isKey c) = false) a.length ⟨Ext.refl h, 0, by omega, rfl, rfl, rfl⟩ ?_
  rintro n h' m ⟨x1, i, hi, rfl, rfl, he⟩
  refine ifT_dec (fun hlt => ⟨⟨by omega, hlt⟩, ?_⟩) fun hge => ?_
  · have hx := List.getElem?_eq_getElem (show i < a.length by omega)
    generalize a[i] = x at hx
    refine (x1.at_ ha).strRow hx fun bb o hr => ⟨x, hr, spec40 hI fun h3 x3 => ⟨_, rfl, ifT_intro (fun h2 => ⟨_, rfl, ?_⟩) fun h2 => ?_⟩⟩
    · have e : (a.any fun c => !isKey c) = true := List.any_eq_true.2 ⟨x, List.mem_of_getElem? hx, h2⟩
      have := hQ _ (x1.trans x3)
      rw [e] at this
      rw [decide_eq_true (show (i : Int) ≥ 0 by omega)]; exact this
    · refine ⟨a.length - (i + 1), by omega, x1.trans x3, i + 1, by omega, by rw [w64] <;> omega, rfl, ?_⟩
      rw [any_take_step hx, he, h2]; rfl
  · have : i = a.length := by omega
    subst this
    rw [List.take_length] at he
    have := hQ _ x1
    rw [he] at this
    exact ⟨_, rfl, this⟩
/-- The reference's check of cells. -/
theorem spec13 (hI : Closed' prog Pm I) {s : Sl} {xs : List Cel} (hx : Cels h s xs) (hl : xs.length < 1000000) (hk : ∀ x ∈ xs, x.keys.length < 1000000) (hQ : ∀ h', Ext h h' → Q [int (errC xs)] h') : I 13 [sls 3 s] Q h := by
  refine hI.go _ _ (den13 I s Q) ?_
  have l1 := hx.len
  unfold errC at hQ
  refine ifT_dec (fun h1 => ?_) fun h1 => ?_
  · have := hQ _ (Ext.refl h)
    rw [if_pos (by omega)] at this; exact this
  rw [if_neg (by omega)] at hQ
  refine loopK_intro (fun (n : Int) h' m => Ext h h' ∧ ∃ i : Nat, i ≤ xs.length ∧ n = i ∧ xs.length - i = m ∧ scanC (dimN xs) none xs = scanC (dimN xs) (pvC xs i) (xs.drop i)) xs.length ⟨Ext.refl h, 0, by omega, rfl, rfl, rfl⟩ ?_
  rintro n h' m ⟨x1, i, hi, rfl, rfl, he⟩
  replace hx := x1.cels hx
  replace hQ : ∀ g, Ext h' g → Q [int (scanC (dimN xs) none xs)] g := fun g x => hQ g (x1.trans x)
  refine ifT_dec (fun hlt => ⟨⟨by omega, hlt⟩, ?_⟩) fun hge => ?_
  · have hc := List.getElem?_eq_getElem (show i < xs.length by omega)
    generalize xs[i] = c at hc
    have hcm := List.mem_of_getElem? hc
    have hkl := strs_len (hx.keys c hcm)
    have hd : ∃ c0, xs[0]? = some c0 ∧ dimN xs = c0.keys.length := by
      cases xs with
      | nil => simp at hc
      | cons c0 l => exact ⟨c0, rfl, rfl⟩
    obtain ⟨c0, hc0, hd⟩ := hd
    have hkl0 := strs_len (hx.keys c0 (List.mem_of_getElem? hc0))
    rw [scanC_at hc] at he
    refine hx.at_.row celC_length (by decide) hc fun bb o hr => ⟨c.kl, c.many, c.cents, hr, ?_⟩
    have fin : ∀ e : Int, errC1 (dimN xs) (pvC xs i) c = e → e ≠ 0 → ∀ g, Ext h' g → Q [int e] g := fun e h1 h2 g x => by
      have := hQ g x
      rw [he, if_pos (by rw [h1]; exact h2), h1] at this; exact this
    refine joinK_intro (fun (b : Bool) h2 => h2 = h' ∧ b = decide (c.keys.length ≠ dimN xs ∨ 6 < c.keys.length)) ?_ fun jk hjk => ⟨⟨by omega, by omega⟩, hx.at_.rowCell celC_length (by decide) (i := 0) (j := 0) (c := .slice 1 c0.kl) hc0 rfl fun bb o hr => ⟨c0.kl, ?_, ifT_intro (fun h2 => hjk _ _ ⟨rfl, ?_⟩) fun h2 => hjk _ _ ⟨rfl, ?_⟩⟩⟩
    case refine_2 => simpa using hr
    case refine_3 =>
      have := nd h2
      exact (decide_eq_true (.inl (by omega))).symm
    case refine_4 =>
      have := Decidable.of_not_not (nd' h2)
      rw [decide_eq_decide]; omega
    rintro b g ⟨rfl, rfl⟩
    refine ifT_dec (fun h2 => fin 3 (by unfold errC1; rw [if_pos h2]) (by decide) _ (Ext.refl _)) fun h2 => ?_
    refine spec35k hI (hx.keys c hcm) (hk c hcm) fun g3 x3 => ⟨_, rfl, ifT_intro (fun h3 => fin 5 (by unfold errC1; rw [if_neg h2, if_pos h3]) (by decide) _ x3) fun h3 => ?_⟩
    replace hx := x3.cels hx
    refine joinK_intro (fun (b : Bool) h2 => h2 = g3 ∧ b = notUp (pvC xs i) c) ?_ fun jk hjk => ifT_dec (fun h4 => ?_) fun h4 => hjk _ _ ⟨rfl, ?_⟩
    case refine_2 =>
      have ew : IntKind.i64.wrap ((i : Int) - 1) = ((i - 1 : Nat) : Int) := by rw [w64] <;> omega
      rw [ew]
      have hc1 := List.getElem?_eq_getElem (show i - 1 < xs.length by omega)
      generalize xs[i - 1] = c1 at hc1
      refine ⟨⟨by omega, by omega⟩, hx.at_.rowCell celC_length (by decide) (j := 0) (c := .slice 1 c1.kl) hc1 rfl fun bb o hr => ⟨c1.kl, hr, spec38 hI (hx.keys c1 (List.mem_of_getElem? hc1)) (hx.keys c hcm) (hk c1 (List.mem_of_getElem? hc1)) ⟨_, rfl, hjk _ _ ⟨rfl, ?_⟩⟩⟩⟩
      unfold pvC
      rw [if_neg (by omega), hc1]
      show decide (cmpL c1.keys c.keys ≥ 0) = decide (cmpL c.keys c1.keys ≤ 0)
      rw [decide_eq_decide]; exact cmpL_turn
    case refine_3 =>
      have : i = 0 := by omega
      subst this; rfl
    rintro b g2 ⟨rfl, rfl⟩
    refine ifT_intro (fun h4 => fin 7 (by unfold errC1; rw [if_neg h2, if_neg (by rw [h3]; decide), if_pos h4]) (by decide) _ x3) fun h4 => ?_
    have bad : fullB c = false → Q [int 1] g2 := fun h5 => fin 1 (by unfold errC1; rw [if_neg h2, if_neg (by rw [h3]; decide), if_neg (by rw [h4]; decide), if_pos h5]) (by decide) _ x3
    have nf : ∀ {p : Prop}, (fullB c = true → ¬ p) → p → fullB c = false := fun h5 h6 => by
      cases h7 : fullB c
      · rfl
      · exact absurd h6 (h5 h7)
    refine ifT_dec (fun h5 => bad (nf (fun h6 h7 => by have := fullB_iff.1 h6; omega) h5)) fun h5 => ifT_dec (fun h6 => bad (nf (fun h6 h7 => by have := fullB_iff.1 h6; omega) h6)) fun h6 => ifT_dec (fun h7 => bad (nf (fun h6 h7 => by have := fullB_iff.1 h6; omega) h7)) fun h7 => ifT_dec (fun h8 => bad (nf (fun h6 h7 => by have := fullB_iff.1 h6; omega) h8)) fun h8 => ?_
    have hf : fullB c = true := fullB_iff.2 (by omega)
    have h0 : errC1 (dimN xs) (pvC xs i) c = 0 := by unfold errC1; rw [if_neg h2, if_neg (by rw [h3]; decide), if_neg (by rw [h4]; decide), if_neg (by rw [hf]; decide)]
    rw [if_neg (by rw [h0]; decide)] at he
    exact ⟨xs.length - (i + 1), by omega, x1.trans x3, i + 1, by omega, by rw [w64] <;> omega, rfl, he⟩
  · have : i = xs.length := by omega
    subst this
    have := hQ _ (Ext.refl _)
    rw [he, List.drop_length] at this
    exact this
/-- cmp.Or. -/
theorem spec19 (hI : Closed' prog Pm I) {s : Sl} {l : List Int} (hs : At h 1 s (ints l)) (hl : l.length < 1000000) (hQ : Q [int (orI l)] h) : I 19 [sls 1 s] Q h := by
  refine hI.go _ _ (den19 I s Q) ?_
  have ls : s.len = l.length := by have := hs.1; simpa [ints] using this
  refine loopK_intro (fun (n : Int) h' m => h' = h ∧ ∃ i : Nat, i ≤ l.length ∧ n = i ∧ l.length - i = m ∧ ∀ y ∈ l.take i, y = 0) l.length ⟨rfl, 0, by omega, rfl, rfl, by simp⟩ ?_
  rintro n h' m ⟨rfl, i, hi, rfl, rfl, he⟩
  refine ifT_dec (fun hlt => ⟨⟨by omega, hlt⟩, ?_⟩) fun hge => ?_
  · have hx := List.getElem?_eq_getElem (show i < l.length by omega)
    generalize l[i] = x at hx
    refine hs.cell (ints_get hx) fun b o hr => ⟨x, hr, ifT_intro (fun h2 => ?_) fun h2 => ?_⟩
    · rw [orI_at he hx (nd h2)] at hQ; exact hQ
    · refine ⟨l.length - (i + 1), by omega, rfl, i + 1, by omega, by rw [w64] <;> omega, rfl, fun y hy => ?_⟩
      rw [take_snoc hx] at hy
      rcases List.mem_append.1 hy with hy | hy
      · exact he y hy
      · rw [List.mem_singleton.1 hy]; exact Decidable.of_not_not (nd' h2)
  · have : i = l.length := by omega
    subst this
    rw [List.take_length] at he
    rw [orI_none he] at hQ; exact hQ
theorem spec52 (hI : Closed' prog Pm I) {x y : Cel} (hx : At h 1 x.kl (strs x.keys)) (hy : At h 1 y.kl (strs y.keys)) (hl : x.keys.length < 1000000) (hQ : Q [boo (decide (pc x = pc y))] h) : I 52 [.agg (celC x), .agg (celC y)] Q h := by
  refine hI.go _ _ (den52 I x.kl x.many x.cents y.kl y.many y.cents Q) ?_
  refine ifT_dec (fun h1 => ifT_dec (fun h2 => spec44 hI hx hy hl ⟨_, rfl, ?_⟩) fun h2 => ?_) fun h1 => ?_
  · have : decide (pc x = pc y) = decide (x.keys = y.keys) := by simp [pc, h1, h2]
    rw [this] at hQ; exact hQ
  · have : decide (pc x = pc y) = false := by simp [pc, h2]
    rw [this] at hQ; exact hQ
  · have : decide (pc x = pc y) = false := by simp [pc, h1]
    rw [this] at hQ; exact hQ
theorem spec50b (hI : Closed' prog Pm I) {s t : Sl} {a b : List Cel} (ha : Cels h s a) (hb : Cels h t b) (hl : a.length < 1000000) (hk : ∀ x ∈ a, x.keys.length < 1000000) (hQ : Q [boo (decide (a.map pc = b.map pc))] h) : I 50 [sls 3 s, sls 3 t, .one (.func (some (52, [])))] Q h := by
  refine hI.go _ _ (den50 I s t (some (52, [])) _) ?_
  have l1 := ha.len
  have l2 := hb.len
  have no : a.map pc ≠ b.map pc → Q [boo false] h := fun h1 => by rw [decide_eq_false h1] at hQ; exact hQ
  refine ifT_intro (fun h1 => no fun e => nd h1 ?_) fun h1 => ?_
  · have := congrArg List.length e; simp at this; rw [l1, l2, this]
  have hll : a.length = b.length := by have := Decidable.of_not_not (nd' h1); omega
  refine loopK_intro (fun (n : Int) h' m => h' = h ∧ ∃ i : Nat, i ≤ a.length ∧ n = i ∧ a.length - i = m ∧ (a.map pc).take i = (b.map pc).take i) a.length ⟨rfl, 0, by omega, rfl, rfl, rfl⟩ ?_
  rintro n h' m ⟨rfl, i, hi, rfl, rfl, he⟩
  refine ifT_dec (fun hlt => ⟨⟨by omega, hlt⟩, ?_⟩) fun hge => ?_
  · have hx := List.getElem?_eq_getElem (show i < a.length by omega)
    generalize a[i] = x at hx
    have hy := List.getElem?_eq_getElem (show i < b.length by omega)
    generalize b[i] = y at hy
    have hx' : (a.map pc)[i]? = some (pc x) := by rw [List.getElem?_map, hx]; rfl
    have hy' : (b.map pc)[i]? = some (pc y) := by rw [List.getElem?_map, hy]; rfl
    refine ha.at_.row celC_length (by decide) hx fun bb o hr => ⟨x.kl, x.many, x.cents, hr, ⟨by omega, by omega⟩, hb.at_.row celC_length (by decide) hy fun bb o hr => ⟨y.kl, y.many, y.cents, hr, ?_⟩⟩
    refine spec52 hI (x := x) (y := y) (ha.keys x (List.mem_of_getElem? hx)) (hb.keys y (List.mem_of_getElem? hy)) (hk x (List.mem_of_getElem? hx)) ⟨_, rfl, ifT_intro (fun h2 => ?_) fun h2 => ?_⟩
    · refine no fun e => nd h2 ?_
      rw [e, hy'] at hx'; exact (Option.some.inj hx').symm
    · have e : pc x = pc y := Decidable.of_not_not (nd' h2)
      refine ⟨a.length - (i + 1), by omega, rfl, i + 1, by omega, by rw [w64] <;> omega, rfl, ?_⟩
      rw [take_snoc hx', take_snoc hy', he, e]
  · have : i = a.length := by omega
    subst this
    rw [List.take_of_length_le (by simp), List.take_of_length_le (by simp; omega)] at he
    rw [decide_eq_true he] at hQ; exact hQ
theorem spec48 (hI : Closed' prog Pm I) {x : Cel} {t : Sl} {k : List ByteArray} (hx : At h 1 x.kl (strs x.keys)) (hk : At h 1 t (strs k)) (hl : x.keys.length < 1000000) (hQ : Q [int (cmpL x.keys k)] h) : I 48 [.agg (celC x), sls 1 t] Q h := by
  refine hI.go _ _ (den48 I x.kl x.many x.cents t Q) ?_
  exact spec38 hI hx hk hl ⟨_, rfl, hQ⟩
theorem mid_eq {i j : Nat} (hi : i + j < 4000000) : IntKind.i64.wrap (shr IntKind.u64 (IntKind.u64.wrap (IntKind.i64.wrap ((i : Int) + (j : Int)))) 1) = (((i + j) / 2 : Nat) : Int) := by
  have e1 : IntKind.i64.wrap ((i : Int) + (j : Int)) = ((i + j : Nat) : Int) := by rw [w64] <;> omega
  rw [e1, wN _ (by omega)]
  have e2 : shr IntKind.u64 ((i + j : Nat) : Int) 1 = (((i + j) / 2 ^ 1 : Nat) : Int) := shr_nat (i + j) 1 .u64 rfl (by decide)
  rw [e2, w64 (by omega) (by omega), Nat.pow_one]
/-- The search of a row in order. -/
theorem spec47 (hI : Closed' prog Pm I) {s t : Sl} {out : List Cel} {k : List ByteArray} (ho : Cels h s out) (hk : At h 1 t (strs k)) (hl : out.length < 1000000) (hkl : ∀ c ∈ out, c.keys.length < 1000000) (hup : UpC out)
    (hQ : ∀ i : Nat, i ≤ out.length → (∀ j c, j < i → out[j]? = some c → cmpL c.keys k < 0) → (∀ j c, i ≤ j → out[j]? = some c → ¬ cmpL c.keys k < 0) → Q [int i, boo (match out[i]? with | some c => decide (c.keys = k) | none => false)] h) :
    I 47 [sls 3 s, sls 1 t, .one (.func (some (48, [])))] Q h := by
  refine hI.go _ _ (den47 I s t (some (48, [])) Q) ?_
  have ls := ho.len
  refine loopK_intro (fun (p : Int × Int) h' m => h' = h ∧ ∃ i j : Nat, i ≤ j ∧ j ≤ out.length ∧ p = ((i : Int), (j : Int)) ∧ j - i = m ∧ (∀ a c, a < i → out[a]? = some c → cmpL c.keys k < 0) ∧ ∀ a c, j ≤ a → out[a]? = some c → ¬ cmpL c.keys k < 0) out.length
    ⟨rfl, 0, out.length, by omega, by omega, by rw [ls]; rfl, by omega, (fun a c h => by omega), fun a c h h2 => by
      have := (List.getElem?_eq_some_iff.1 h2).1; omega⟩ ?_
  rintro p h' m ⟨rfl, i, j, hij, hj, rfl, rfl, hA, hB⟩
  dsimp only [uncur]
  refine ifT_dec (fun hlt => ?_) fun hge => ?_
  · rw [mid_eq (by omega)]
    have hm : (i + j) / 2 < j ∧ i ≤ (i + j) / 2 := by omega
    generalize (i + j) / 2 = q at hm
    have hx := List.getElem?_eq_getElem (show q < out.length by omega)
    generalize out[q] = x at hx
    refine ⟨⟨by omega, by omega⟩, ho.at_.row celC_length (by decide) hx fun bb o hr => ⟨x.kl, x.many, x.cents, hr, ?_⟩⟩
    refine spec48 hI (x := x) (ho.keys x (List.mem_of_getElem? hx)) hk (hkl x (List.mem_of_getElem? hx)) ⟨_, rfl, ifT_dec (fun h2 => ?_) fun h2 => ?_⟩
    · refine ⟨j - (q + 1), by omega, rfl, q + 1, j, by omega, hj, ?_, rfl, fun a c ha hc => ?_, hB⟩
      · rw [w64 (by omega) (by omega)]; rfl
      · by_cases e : a = q
        · subst e; rw [hx] at hc; cases hc; exact h2
        · have hca : c ∈ out.take q := List.mem_iff_getElem?.2 ⟨a, by rw [List.getElem?_take, if_pos (by omega)]; exact hc⟩
          exact cmpL_neg.2 (kl_trans (pairwise_take hup hx c hca) (cmpL_neg.1 h2))
    · refine ⟨q - i, by omega, rfl, i, q, by omega, by omega, rfl, rfl, hA, fun a c ha hc h3 => h2 ?_⟩
      by_cases e : a = q
      · subst e; rw [hx] at hc; cases hc; exact h3
      · have hxa : x ∈ out.take a := List.mem_iff_getElem?.2 ⟨q, by rw [List.getElem?_take, if_pos (by omega)]; exact hx⟩
        exact cmpL_neg.2 (kl_trans (pairwise_take hup hc x hxa) (cmpL_neg.1 h3))
  · obtain rfl : i = j := by omega
    have fin := hQ i hj hA hB
    refine ifT_dec (fun h2 => ⟨⟨by omega, h2⟩, ?_⟩) fun h2 => ?_
    · have hx := List.getElem?_eq_getElem (show i < out.length by omega)
      generalize out[i] = x at hx
      refine ho.at_.row celC_length (by decide) hx fun bb o hr => ⟨x.kl, x.many, x.cents, hr, spec48 hI (x := x) (ho.keys x (List.mem_of_getElem? hx)) hk (hkl x (List.mem_of_getElem? hx)) ⟨_, rfl, ?_⟩⟩
      rw [hx] at fin
      have e : decide (cmpL x.keys k = 0) = decide (x.keys = k) := by rw [decide_eq_decide]; exact cmpL_zero
      rw [e]; exact fin
    · have hx : out[i]? = none := List.getElem?_eq_none (by omega)
      rw [hx] at fin
      exact fin
/-- An element is put in. -/
theorem ins_owns (hI : Closed' prog Pm I) {h0 : Heap} {L : List Ow} {s : Sl} {xs : List Cel} {b i : Nat} {c : Cel} (o : Owns h0 h ((3, ⟨some (b, 0), 1⟩, celC c) :: (3, s, rows celC xs) :: L)) (hi : i ≤ xs.length) (hl : xs.length < 1000000)
    (hQ : ∀ j h', Owns h0 h' ((3, ⟨some (j, 0), xs.length + 1⟩, rows celC (xs.take i ++ c :: xs.drop i)) :: (3, ⟨some (b, 0), 1⟩, celC c) :: L) → Q [sls 3 ⟨some (j, 0), xs.length + 1⟩] h') : I 49 [sls 3 s, int i, sls 3 ⟨some (b, 0), 1⟩] Q h := by
  have o2 := o.swp
  have ls : s.len = xs.length := (o2.at_ List.mem_cons_self).rowsLen celC_length (by decide)
  obtain ⟨old, h1, h2, h3, h4⟩ := appendK_owns (ws := []) (sz := 3) (bytes := 40) (m := 1) (new := celC c) (k := fun s' h' => Owns h0 h' ((3, s', rows celC xs ++ celC c) :: (3, ⟨some (b, 0), 1⟩, celC c) :: L)) o2 rfl (by omega) (by simp) (fun j h' o => o)
  obtain rfl : old = rows celC xs := by
    have hat := o2.at_ (sz := 3) (s := s) (cs := rows celC xs) List.mem_cons_self
    rcases (o2.all _ List.mem_cons_self).2 with ⟨ha, hx⟩ | ⟨k, ha, _, hb⟩
    · simp only at ha hx
      unfold Heap.sl at h1
      rw [ha] at h1; cases h1; exact hx.symm
    · simp only at ha hb
      have hlen := hat.1
      unfold Heap.sl at h1
      rw [ha] at h1
      have h5 : h.read k 0 (s.len * 3) = some (rows celC xs) := by
        rw [read_block hb (by rw [hlen]; omega), hlen, List.drop_zero, List.take_length]
      change h.read k 0 (s.len * 3) = some old at h1
      rw [h5] at h1; exact (Option.some.inj h1).symm
  obtain ⟨hbb, _⟩ := o.block (sz := 3) (i := b) (n := 1) (cs := celC c) List.mem_cons_self
  refine hI.prim _ _ _ _ ⟨rfl, s, ⟨some (b, 0), 1⟩, i, rows celC xs, celC c, ⟨xs.map fun c => (c.kl, c.many, c.cents), by unfold rows; rw [List.flatMap_map]; rfl⟩, ⟨[(c.kl, c.many, c.cents)], rfl⟩, rfl, h1, h2, ?_, Nat.one_ne_zero, by omega, fun a oo b' p ha hb' e => ?_, by show (s.len + 1) * 40 ≤ _; omega, fun j hj => ?_⟩
  · show h.read b 0 (1 * 3) = _
    rw [read_block hbb (by rw [celC_length]; decide)]; rfl
  · cases hb'
    subst e
    rcases (o2.all _ List.mem_cons_self).2 with ⟨ha2, _⟩ | ⟨k, ha2, _, _⟩
    · simp only at ha2; rw [ha2] at ha; cases ha
    · simp only at ha2
      rw [ha2] at ha
      cases ha
      exact (List.pairwise_cons.1 o2.apart).1 _ List.mem_cons_self _ ha2 rfl
  · have h5 := h4 j hj
    have h6 := Owns.change (n' := xs.length + 1) (sz' := 3) (cs' := rows celC (xs.take i ++ c :: xs.drop i)) h5 (by rw [rows_length celC_length]; simp; omega)
    rw [set_set] at h6
    have e : (rows celC xs).take (i * 3) ++ celC c ++ (rows celC xs).drop (i * 3) = rows celC (xs.take i ++ c :: xs.drop i) := by
      rw [rows_take celC_length, rows_drop celC_length, rows_append, rows_cons, List.append_assoc]
    rw [e]
    show Q [sls 3 ⟨some (j, 0), s.len + 1⟩] _
    rw [ls]
    exact hQ j _ h6
end
end Go.Proofs.YtdjancoknephnaaDoorVc
-- CfSpec2
namespace Go.Proofs.YtdjancoknephnaaDoorVc
open Go.Proofs.Tryd (prog)
def fullP (p : P3) : Bool := fullB ⟨⟨none, 0⟩, p.1, p.2.1, p.2.2⟩
theorem any_pc (l : List Cel) : (l.any fun c => !fullB c) = ((l.map pc).any fun p => !fullP p) := by rw [List.any_map]; rfl
/-- What the reference gathers, its error, and what it answers. -/
def refL (xs : List Cel) (keep : List Int) : List P3 := (xs.map fun c => (prK keep c, c.many, c.cents)).foldl insA []
def foldE (xs : List Cel) (keep : List Int) : Int := if errF xs keep ≠ 0 then errF xs keep else if ((refL xs keep).any fun p => !fullP p) = true then 12 else 0
def foldR (xs : List Cel) (keep : List Int) : List P3 := if foldE xs keep = 0 then refL xs keep else []
theorem foldE_err {xs : List Cel} {keep : List Int} (h : errF xs keep ≠ 0) : foldE xs keep = errF xs keep ∧ foldR xs keep = [] := by
  have e : foldE xs keep = errF xs keep := by unfold foldE; rw [if_pos h]
  exact ⟨e, by unfold foldR; rw [if_neg (by rw [e]; exact h)]⟩
theorem foldE_full {xs : List Cel} {keep : List Int} {out : List Cel} (h : errF xs keep = 0) (ho : out.map pc = refL xs keep) (hf : (out.any fun c => !fullB c) = true) : foldE xs keep = 12 ∧ foldR xs keep = [] := by
  rw [any_pc, ho] at hf
  have e : foldE xs keep = 12 := by unfold foldE; rw [if_neg (by rw [h]; decide), if_pos hf]
  exact ⟨e, by unfold foldR; rw [if_neg (by rw [e]; decide)]⟩
theorem foldE_ok {xs : List Cel} {keep : List Int} {out : List Cel} (h : errF xs keep = 0) (ho : out.map pc = refL xs keep) (hf : (out.any fun c => !fullB c) = false) : foldE xs keep = 0 ∧ foldR xs keep = out.map pc := by
  rw [any_pc, ho] at hf
  have e : foldE xs keep = 0 := by unfold foldE; rw [if_neg (by rw [h]; decide), if_neg (by rw [hf]; decide)]
  exact ⟨e, by unfold foldR; rw [if_pos e, ho]⟩
theorem Owns.from_ {h0 h h' : Heap} {L : List Ow} (o : Owns h h' L) (e : Ext h0 h) : Owns h0 h' L :=
  ⟨e.trans o.ext, fun p hp => ⟨(o.all p hp).1, (o.all p hp).2.imp id fun ⟨i, a, b, c⟩ => ⟨i, a, e.none b, c⟩⟩, o.apart⟩
theorem Owns.cat {h0 h h' : Heap} {L L' : List Ow} (a : Owns h0 h L) (b : Owns h h' L') : Owns h0 h' (L' ++ L) := by
  refine ⟨a.ext.trans b.ext, fun p hp => ?_, List.pairwise_append.2 ⟨b.apart, a.apart, fun p hp q hq i h1 h2 => ?_⟩⟩
  · rcases List.mem_append.1 hp with hp | hp
    · exact (b.from_ a.ext).all p hp
    · exact (a.mono b.ext).all p hp
  · rcases (b.all p hp).2 with ⟨h3, _⟩ | ⟨k, h3, h4, _⟩
    · rw [h1] at h3; cases h3
    · rw [h1] at h3; cases h3
      rcases (a.all q hq).2 with ⟨h5, _⟩ | ⟨k, h5, _, h6⟩
      · rw [h2] at h5; cases h5
      · rw [h2] at h5; cases h5; rw [h4] at h6; cases h6
theorem cels_none (h : Heap) : Cels h ⟨none, 0⟩ [] := ⟨⟨rfl, .inl rfl⟩, fun c hc => by cases hc⟩
theorem prK_len (keep : List Int) (c : Cel) : (prK keep c).length = keep.length := by unfold prK; rw [List.length_map]
section
variable {I : Calls} {Q : Post} {h hb : Heap} {i : Nat} {l : Sl} {zs : List Int} {t0 : Nat}
theorem ints_snoc (ks : List Int) (v : Int) : ints (ks ++ [v]) = ints ks ++ [.int .i64 v] := by simp [ints]
theorem ints_len (ks : List Int) : (ints ks).length = ks.length := by simp [ints]
theorem spec11 (hI : Closed' prog Pm I) (S0 : Strm hb i l zs t0) {t : Nat} {L0 : List Ow} (o : Owns (hb.del i) h (owS i l t :: L0)) (ht : t < 100000)
    (hQ : ∀ s' h' ks t', Owns (hb.del i) h' (owS i l t' :: (1, s', ints ks) :: L0) → t' ≤ t + 10 → ks.length ≤ 4 → Q [sls 1 s'] h') : I 11 [.one (.ptr (some (i, 0)))] Q h := by
  refine hI.go _ _ (den11 I (some (i, 0)) Q) ?_
  have o' := (o.none_ 1).swp
  refine loopK_intro (fun (a : Sl × Int) h' m => ∃ (j t' : Nat) (ks : List Int), j ≤ 3 ∧ a.2 = j ∧ 3 - j = m ∧ t' ≤ t + j ∧ ks.length ≤ j ∧ Owns (hb.del i) h' (owS i l t' :: (1, a.1, ints ks) :: L0)) 3 ⟨0, t, [], by omega, rfl, rfl, by omega, by simp, o'⟩ ?_
  rintro ⟨s1, n1⟩ h1 m ⟨j, t1, ks, hj, rfl, rfl, ht1, hkl, o1⟩
  dsimp only [uncur] at o1 ⊢
  have ls : s1.len = ks.length := by rw [o1.slen (s := s1) (cs := ints ks) (by simp), ints_len]
  refine ifT_dec (fun hlt => ?_) fun hge => ?_
  · refine flip_k hI S0 o1 (by omega) (by decide) (by decide) fun b h2 o2 => ifT_intro (fun _ => ?_) fun _ => ?_
    · refine appendTo_owns (m := 0) o2.swp rfl (by omega) (by simp) fun bn h3 o3 => ⟨3 - (j + 1), by omega, j + 1, t1 + 1, ks ++ [(j : Int)], by omega, by show IntKind.i64.wrap _ = _; rw [w64] <;> omega, rfl, by omega, by simp; omega, ?_⟩
      rw [ints_snoc]; exact o3.swp
    · exact ⟨3 - (j + 1), by omega, j + 1, t1 + 1, ks, by omega, by show IntKind.i64.wrap _ = _; rw [w64] <;> omega, rfl, by omega, by omega, o2⟩
  · refine flip_k hI S0 o1 (by omega) (by decide) (by decide) fun b h2 o2 => ifT_intro (fun _ => ?_) fun _ => hQ _ _ ks (t1 + 1) o2 (by omega) (by omega)
    refine pick_lit hI S0 o2 (by omega) [-1, 0, 3, 6] (by simp) (by simp) fun v hv h3 o3 => ?_
    refine appendTo_owns (m := 0) o3.swp rfl (by omega) (by simp) fun bn h4 o4 => hQ _ _ (ks ++ [v]) (t1 + 1 + 1) ?_ (by omega) (by simp; omega)
    rw [ints_snoc]; exact o4.swp
end
section
variable {I : Calls} {Q : Post} {h : Heap}
/-- Fold, in the reference's words. -/
theorem spec14r (hI : Closed' prog Pm I) {s t : Sl} {xs : List Cel} {keep : List Int} (hx : Cels h s xs) (hkp : At h 1 t (ints keep)) (hl : xs.length < 1000000) (hk : ∀ x ∈ xs, x.keys.length < 1000000) (hkl : keep.length < 1000)
    (hQ : ∀ h' s' out, Ext h h' → Cels h' s' out → out.map pc = foldR xs keep → out.length < 1000000 → (∀ c ∈ out, c.keys.length < 1000000) → Q [sls 3 s', int (foldE xs keep)] h') : I 14 [sls 3 s, sls 1 t] Q h := by
  refine spec14 hI hx hkp hl hk hkl (fun he => ?_) (fun h' out x e0 f hf => ?_) fun h' s' out x e0 f hf c _ _ => ?_
  · obtain ⟨e1, e2⟩ := foldE_err he
    rw [← e1]
    exact hQ _ _ [] (Ext.refl _) (cels_none _) e2.symm (by simp) (by simp)
  · obtain ⟨e1, e2⟩ := foldE_full e0 f.ref hf
    have := hQ _ _ [] x (cels_none _) e2.symm (by simp) (by simp)
    rw [e1] at this; exact this
  · obtain ⟨e1, e2⟩ := foldE_ok e0 f.ref hf
    have := hQ _ _ out x c e2.symm (by have := f.facts.2.2.2.2.1; omega) (fun d hd => by
      obtain ⟨y, _, hy⟩ := f.facts.2.2.2.1 d hd
      rw [hy, prK_len]; omega)
    rw [e1] at this; exact this
/-- The reference of Fold. -/
theorem spec15 (hI : Closed' prog Pm I) {s t : Sl} {xs : List Cel} {keep : List Int} (hx : Cels h s xs) (hkp : At h 1 t (ints keep)) (hl : xs.length < 1000000) (hk : ∀ x ∈ xs, x.keys.length < 1000000) (hkl : keep.length < 1000)
    (hQ : ∀ h' s' out L, Owns h h' ((3, s', rows celC out) :: L) → (∀ c ∈ out, (1, c.kl, strs c.keys) ∈ L ∧ c.keys.length < 1000000) → out.map pc = foldR xs keep → out.length < 1000000 → Q [sls 3 s', int (foldE xs keep)] h') : I 15 [sls 3 s, sls 1 t] Q h := by
  refine hI.go _ _ (den15 I s t Q) ?_
  refine spec13 hI hx hl hk fun g1 x1 => ⟨_, rfl, ?_⟩
  replace hx := x1.cels hx
  replace hkp := x1.at_ hkp
  replace hQ : ∀ h' s' out L, Owns g1 h' ((3, s', rows celC out) :: L) → (∀ c ∈ out, (1, c.kl, strs c.keys) ∈ L ∧ c.keys.length < 1000000) → out.map pc = foldR xs keep → out.length < 1000000 → Q [sls 3 s', int (foldE xs keep)] h' := fun h' s' out L o => hQ h' s' out L (o.from_ x1)
  have he : errF xs keep ≠ 0 → Q [sls 3 ⟨none, 0⟩, int (errF xs keep)] g1 := fun he => by
    obtain ⟨e1, e2⟩ := foldE_err he
    rw [← e1]
    exact hQ _ _ [] [] ((Owns.nil _).none_ 3) (by simp) e2.symm (by simp)
  refine ifT_intro (fun h1 => ?_) fun h1 => ?_
  · have h2 := nd h1
    have e : errF xs keep = errC xs := by unfold errF; rw [if_pos h2]
    have := he (by rw [e]; exact h2)
    rw [e] at this; exact this
  have hC : errC xs = 0 := Decidable.of_not_not (nd' h1)
  have eF : errF xs keep = scanK (dimN xs) none keep := by unfold errF; rw [if_neg (by rw [hC]; decide)]
  have hlen : xs.length ≤ 2000 := by
    unfold errC at hC
    split at hC
    · cases hC
    · omega
  have hsc : ∀ c ∈ xs, c.keys.length = dimN xs ∧ dimN xs ≤ 6 ∧ (c.keys.any fun s => !isKey s) = false ∧ fullB c = true := by
    unfold errC at hC
    rw [if_neg (by omega)] at hC
    exact scanC_ok hC
  have hd6 : dimN xs ≤ 6 := by
    cases xs with
    | nil => exact Nat.le_refl _
    | cons c l => exact (hsc c (by simp)).2.1
  have ls := hx.len
  have lt : t.len = keep.length := by have := hkp.1; simpa [ints] using this
  refine joinK_intro (fun (n : Int) h' => h' = g1 ∧ n = dimN xs) ?_ fun jk hjk => ifT_dec (fun h2 => ?_) fun h2 => hjk _ _ ⟨rfl, ?_⟩
  case refine_2 =>
    cases xs with
    | nil => simp at ls; omega
    | cons c l =>
      refine ⟨⟨by omega, by omega⟩, hx.at_.rowCell celC_length (by decide) (i := 0) (j := 0) (c := .slice 1 c.kl) (by simp) rfl fun bb o hr => ⟨c.kl, by simpa using hr, hjk _ _ ⟨rfl, ?_⟩⟩⟩
      rw [strs_len (hx.keys c (by simp))]
      rfl
  case refine_3 =>
    have : xs = [] := List.length_eq_zero_iff.1 (by omega)
    subst this; rfl
  rintro n g ⟨rfl, rfl⟩
  refine loopK_intro (fun (n : Int) h' m => h' = g ∧ ∃ i : Nat, i ≤ keep.length ∧ n = i ∧ keep.length - i = m ∧ scanK (dimN xs) none keep = scanK (dimN xs) (pvK keep i) (keep.drop i)) keep.length ⟨rfl, 0, by omega, rfl, rfl, rfl⟩ ?_
  rintro n h' m ⟨rfl, i, hi, rfl, rfl, hs⟩
  refine ifT_dec (fun hlt => ⟨⟨by omega, hlt⟩, ?_⟩) fun hge => ?_
  · have hc := List.getElem?_eq_getElem (show i < keep.length by omega)
    generalize keep[i] = k at hc
    rw [scanK_at hc] at hs
    have fin : ∀ e : Int, errK1 (dimN xs) (pvK keep i) k = e → e ≠ 0 → Q [sls 3 ⟨none, 0⟩, int e] h' := fun e h3 h4 => by
      have e5 : errF xs keep = e := by rw [eF, hs, if_pos (by rw [h3]; exact h4), h3]
      have := he (by rw [e5]; exact h4)
      rw [e5] at this; exact this
    refine hkp.cell (ints_get hc) fun bb o hr => ⟨k, hr, ?_⟩
    refine joinK_intro (fun (b : Bool) g => g = h' ∧ b = decide (¬ (0 ≤ k ∧ k ≤ (dimN xs : Int) - 1))) ?_ fun jk hjk => ifT_dec (fun h3 => hjk _ _ ⟨rfl, (decide_eq_true (by omega)).symm⟩) fun h3 => hjk _ _ ⟨rfl, by rw [decide_eq_decide]; omega⟩
    rintro b g ⟨rfl, rfl⟩
    refine ifT_dec (fun h3 => fin 1 (by unfold errK1; rw [if_pos h3]) (by decide)) fun h3' => ?_
    have hnext : errK1 (dimN xs) (pvK keep i) k = 0 → (∃ m', m' < keep.length - i ∧ g = g ∧ ∃ i' : Nat, i' ≤ keep.length ∧ IntKind.i64.wrap ((i : Int) + 1) = (i' : Int) ∧ keep.length - i' = m' ∧ scanK (dimN xs) none keep = scanK (dimN xs) (pvK keep i') (keep.drop i')) := fun h0 => by
      rw [if_neg (by rw [h0]; decide)] at hs
      exact ⟨keep.length - (i + 1), by omega, rfl, i + 1, by omega, by rw [w64] <;> omega, rfl, hs⟩
    refine ifT_dec (fun h4 => ?_) fun h4 => hnext ?_
    · have ew2 : IntKind.i64.wrap ((i : Int) - 1) = ((i - 1 : Nat) : Int) := by rw [w64] <;> omega
      rw [ew2]
      have hc1 := List.getElem?_eq_getElem (show i - 1 < keep.length by omega)
      generalize keep[i - 1] = k1 at hc1
      have hpv : pvK keep i = some k1 := by unfold pvK; rw [if_neg (by omega), hc1]
      refine ⟨⟨by omega, by omega⟩, hkp.cell (ints_get hc1) fun bb o hr => ⟨k1, hr, ifT_dec (fun h5 => fin 7 ?_ (by decide)) fun h5 => hnext ?_⟩⟩
      · unfold errK1; rw [if_neg h3', hpv]; exact if_pos h5
      · unfold errK1; rw [if_neg h3', hpv]; exact if_neg h5
    · have : i = 0 := by omega
      subst this
      unfold errK1; rw [if_neg h3']; rfl
  · have : i = keep.length := by omega
    subst this
    rw [List.drop_length] at hs
    have e0 : errF xs keep = 0 := by rw [eF, hs]; rfl
    have hK : scanK (dimN xs) none keep = 0 := by rw [← eF, e0]
    have hin : ∀ c ∈ xs, ∀ k ∈ keep, 0 ≤ k ∧ k < (c.keys.length : Int) := fun c hc k hkm => by rw [(hsc c hc).1]; exact scanK_ok hK k hkm
    clear he eF hs hge hi
    refine loopK_intro (fun (a : Sl × Int) g m => ∃ (i : Nat) (out : List Cel) (L : List Ow), i ≤ xs.length ∧ a.2 = i ∧ xs.length - i = m ∧ Owns h' g ((3, a.1, rows celC out) :: L) ∧
        out.map pc = ((xs.take i).map fun c => (prK keep c, c.many, c.cents)).foldl insA [] ∧ UpC out ∧ out.length ≤ i ∧ (∀ c ∈ out, (1, c.kl, strs c.keys) ∈ L ∧ c.keys.length < 1000 ∧ Small i c ∧ 0 ≤ c.many)) xs.length
      ⟨0, [], [], by omega, rfl, rfl, (Owns.nil h').none_ 3, rfl, List.Pairwise.nil, by simp, fun _ h => by cases h⟩ ?_
    rintro ⟨s', n⟩ g m ⟨i, out, L, hi, rfl, rfl, o, hout, hup, hol, hok⟩
    dsimp only [uncur] at o ⊢
    have hrow : Cels g s' out := ⟨o.at_ List.mem_cons_self, fun c hc => o.at_ (sz := 1) (s := c.kl) (cs := strs c.keys) (by simp [(hok c hc).1])⟩
    have lsr := hrow.len
    refine ifT_dec (fun hlt => ⟨⟨by omega, hlt⟩, ?_⟩) fun hge => ?_
    · have hc := List.getElem?_eq_getElem (show i < xs.length by omega)
      generalize xs[i] = c at hc
      have hcm := List.mem_of_getElem? hc
      have lc := strs_len (hx.keys c hcm)
      have hcf := fullB_iff.1 (hsc c hcm).2.2.2
      have hnext : ((xs.take (i + 1)).map fun c => (prK keep c, c.many, c.cents)).foldl insA [] = insA (out.map pc) (prK keep c, c.many, c.cents) := by
        rw [take_snoc hc, List.map_append, List.foldl_append, ← hout]; rfl
      refine (o.ext.at_ hx.at_).row celC_length (by decide) hc fun bb oo hr => ⟨c.kl, c.many, c.cents, hr, ?_⟩
      refine loopK_intro (fun (a : Sl × Int) g2 m => ∃ j : Nat, j ≤ keep.length ∧ a.2 = j ∧ keep.length - j = m ∧ Owns h' g2 ((1, a.1, strs (prK (keep.take j) c)) :: (3, s', rows celC out) :: L)) keep.length
        ⟨0, by omega, rfl, rfl, by simpa [prK, strs] using o.none_ 1⟩ ?_
      rintro ⟨s3, n4⟩ g2 m ⟨j, hj, rfl, rfl, o2⟩
      dsimp only [uncur] at o2 ⊢
      have ls3 : s3.len = j := by
        have := strs_len (o2.at_ List.mem_cons_self)
        rw [this, prK_len]; simp; omega
      refine ifT_dec (fun hlt2 => ⟨⟨by omega, hlt2⟩, ?_⟩) fun hge2 => ?_
      · have hk := List.getElem?_eq_getElem (show j < keep.length by omega)
        generalize keep[j] = k at hk
        obtain ⟨hk0, hk1⟩ := hin c hcm k (List.mem_of_getElem? hk)
        refine (o2.ext.at_ hkp).cell (ints_get hk) fun b1 o1 hr1 => ⟨k, hr1, ⟨hk0, by omega⟩, ?_⟩
        obtain ⟨k, rfl⟩ := Int.eq_ofNat_of_zero_le hk0
        have hs := List.getElem?_eq_getElem (show k < c.keys.length by omega)
        generalize c.keys[k] = x at hs
        refine (o2.ext.at_ (hx.keys c hcm)).strRow hs fun b2 o22 hr2 => ⟨x, hr2, ?_⟩
        refine appendTo_owns (m := 0) o2 rfl (by omega) (by simp) fun bn g3 o3 => ⟨keep.length - (j + 1), by omega, j + 1, by omega, by show IntKind.i64.wrap _ = _; rw [w64] <;> omega, rfl, ?_⟩
        rw [prK_snoc hk (s := x) (by simpa using hs), strs_snoc]; exact o3
      · have hjk : j = keep.length := by omega
        subst hjk
        rw [List.take_length] at o2
        have hKl : (prK keep c).length < 1000 := by rw [prK_len]; omega
        generalize prK keep c = K at o2 hnext hKl
        have hk3 : At g2 1 s3 (strs K) := o2.at_ List.mem_cons_self
        have hrow2 : Cels g2 s' out := ⟨o2.at_ (by simp), fun c hc => o2.at_ (sz := 1) (s := c.kl) (cs := strs c.keys) (by simp [(hok c hc).1])⟩
        refine spec47 hI hrow2 hk3 (by omega) (fun c hc => by have := (hok c hc).2.1; omega) hup fun q hq hA hB => ⟨_, _, rfl, ?_⟩
        obtain ⟨hA', hB'⟩ := up_split hup hA hB
        refine joinK_intro (fun (s5 : Sl) g3 => ∃ (A B : List Cel) (x : Cel) (L2 : List Ow), A.length = q ∧ Owns h' g3 ((3, s5, rows celC (A ++ x :: B)) :: L2) ∧ (∀ p ∈ L, p ∈ L2) ∧ (1, x.kl, strs x.keys) ∈ L2 ∧ x.keys = K ∧ UpC (A ++ x :: B) ∧ A.length + B.length ≤ i ∧
            (∀ c ∈ A ++ B, (1, c.kl, strs c.keys) ∈ L ∧ c.keys.length < 1000 ∧ Small i c ∧ 0 ≤ c.many) ∧ Small i x ∧ 0 ≤ x.many ∧ (A ++ (⟨x.kl, x.keys, x.many + c.many, x.cents + c.cents⟩ : Cel) :: B).map pc = insA (out.map pc) (K, c.many, c.cents)) ?_ fun jk hjk => ?_
        case refine_2 =>
          have old : ∀ (x : Cel) (B : List Cel), out.drop q = x :: B → x.keys = K → jk s' g2 := fun x B hd hxk => by
            have hsplit : out = out.take q ++ x :: B := by rw [← hd, List.take_append_drop]
            have hxm : x ∈ out := by rw [hsplit]; simp
            refine hjk _ _ ⟨out.take q, B, x, (1, s3, strs K) :: L, by simp; omega, by rw [← hsplit]; exact o2.swp, fun p hp => by simp [hp], by simp [(hok x hxm).1], hxk, by rw [← hsplit]; exact hup, ?_, fun d hd2 => hok d ?_, (hok x hxm).2.2.1, (hok x hxm).2.2.2, ?_⟩
            · have := congrArg List.length hsplit
              simp only [List.length_append, List.length_cons] at this
              omega
            · rw [hsplit]
              rcases List.mem_append.1 hd2 with h | h
              · exact List.mem_append_left _ h
              · exact List.mem_append_right _ (List.mem_cons_of_mem _ h)
            · have := ins_old (q := x) (B := B) (m := c.many) (c := c.cents) hA' hxk
              rw [← hsplit] at this
              exact this.symm
          have new : (∀ b ∈ out.drop q, keyL K < keyL b.keys) → newK (.cells false [Cell.slice 1 s3, Cell.int IntKind.i64 0, Cell.int IntKind.i64 0]) (fun i69 => fun h70 =>
              I 49 [V.one (Cell.slice 3 s'), V.one (Cell.int IntKind.i64 (q : Int)), V.one (Cell.slice 3 { a := some (i69, 0), len := 1 })] (fun cs71 => fun h72 => ∃ l73 : Sl, (cs71 = [V.one (Cell.slice 3 l73)]) ∧ jk l73 h72) h70) g2 := fun hgt => by
            refine newK_intro fun b3 g3 hn he3 => ?_
            have o3 := o2.new (sz := 3) (n := 1) (cs := celC ⟨s3, K, 0, 0⟩) hn rfl
            rw [show (g2.set b3 (.cells false (celC ⟨s3, K, 0, 0⟩))) = g3 from he3.symm] at o3
            have o4 : Owns h' g3 ((3, ⟨some (b3, 0), 1⟩, celC ⟨s3, K, 0, 0⟩) :: (3, s', rows celC out) :: (1, s3, strs K) :: L) := o3.perm ((List.Perm.swap _ _ _).cons _)
            refine ins_owns hI o4 hq (by omega) fun b5 g5 o5 => ⟨_, rfl, hjk _ _ ⟨out.take q, out.drop q, ⟨s3, K, 0, 0⟩, _, by simp; omega, o5, fun p hp => by simp [hp], by simp, rfl, ?_, ?_, fun d hd2 => hok d ?_, ⟨by constructor <;> (simp only; omega), by constructor <;> (simp only; omega)⟩, Int.le_refl _, ?_⟩⟩
            · exact up_ins (by rw [List.take_append_drop]; exact hup) hA' hgt
            · have : out = out.take q ++ out.drop q := (List.take_append_drop _ _).symm
              have := congrArg List.length this
              simp only [List.length_append] at this
              omega
            · rw [← List.take_append_drop q out]; exact hd2
            · have := ins_new (A := out.take q) (B := out.drop q) (c := ⟨s3, K, c.many, c.cents⟩) hA' hgt
              rw [List.take_append_drop] at this
              rw [Int.zero_add, Int.zero_add]
              exact this.symm
          cases hd : out.drop q with
          | nil =>
            have hx : out[q]? = none := by
              have := congrArg List.length hd
              simp only [List.length_drop, List.length_nil] at this
              exact List.getElem?_eq_none (by omega)
            rw [hx]
            exact ifT_intro (fun _ => new (by rw [hd]; simp)) fun h => by cases h
          | cons x B =>
            have hx : out[q]? = some x := by
              have : (out.drop q)[0]? = some x := by rw [hd]; rfl
              simpa using this
            rw [hx]
            refine ifT_intro (fun h5 => new ?_) fun h5 => old x B hd (by simpa using h5)
            have hne : x.keys ≠ K := by simpa using h5
            have hxk : keyL K < keyL x.keys := by
              rcases hB' x (by rw [hd]; simp) with h6 | h6
              · exact absurd h6 hne
              · exact h6
            rw [hd]
            intro b hb
            rcases List.mem_cons.1 hb with rfl | hb
            · exact hxk
            · have hu2 : UpC (out.take q ++ x :: B) := by rw [← hd, List.take_append_drop]; exact hup
              exact kl_trans hxk ((List.pairwise_cons.1 (List.pairwise_append.1 hu2).2.1).1 b hb)
        rintro s5 g3 ⟨A, B, x, L2, rfl, o3, hsub, hxL, hxk, hup3, hAB, hAo, hxs, hx0, hpc⟩
        have lAB : (A ++ x :: B).length = A.length + B.length + 1 := by simp; omega
        have ls5 : s5.len = A.length + B.length + 1 := by rw [← lAB]; exact (o3.at_ List.mem_cons_self).rowsLen celC_length (by decide)
        have hne : rows celC (A ++ x :: B) ≠ [] := by
          intro e
          have := congrArg List.length e
          rw [rows_length celC_length, lAB] at this
          simp at this
        obtain ⟨bi, hs5, hbi⟩ := o3.has List.mem_cons_self hne
        have hsa : s5.a = some (bi, 0) := by rw [hs5]
        have hget : ∀ d : Cel, (A ++ d :: B)[A.length]? = some d := fun d => get_mid A B d
        have hcell : ∀ (d : Cel) {j : Nat} {y : Cell} {g : Heap}, g bi = some (.cells false (rows celC (A ++ d :: B))) → (celC d)[j]? = some y → g.read bi (0 + ((A.length : Nat) : Int).toNat * 3 + j) 1 = some [y] := fun d j y g hg hj => by
          rw [Int.toNat_natCast, Nat.zero_add]
          exact read_cell hg (rows_cell celC_length (hget d) hj)
        obtain ⟨sm1, sm2⟩ := hxs
        have n1 := bnd_add (b := c.many) sm1 (by omega)
        have n2 := bnd_add (b := c.cents) sm2 (by omega)
        have w1 : IntKind.i64.wrap (x.many + c.many) = x.many + c.many := by rw [w64] <;> omega
        have w2 : IntKind.i64.wrap (x.cents + c.cents) = x.cents + c.cents := by rw [w64] <;> omega
        have hll : ∀ d : Cel, (rows celC (A ++ d :: B)).length = (A.length + B.length + 1) * 3 := fun d => by rw [rows_length celC_length]; simp; omega
        refine ⟨⟨by omega, by omega⟩, derefK_intro hsa ⟨x.many, hcell x hbi rfl, ⟨by omega, by omega⟩, derefK_intro hsa ?_⟩⟩
        rw [w1]
        refine storeK_one hbi (by rw [hll, Int.toNat_natCast]; omega) ?_
        have st1 : (rows celC (A ++ x :: B)).set (0 + ((A.length : Nat) : Int).toNat * 3 + 1) (.int .i64 (x.many + c.many)) = rows celC (A ++ (⟨x.kl, x.keys, x.many + c.many, x.cents⟩ : Cel) :: B) := by
          rw [Int.toNat_natCast, Nat.zero_add, rows_set celC_length (hget x) (b := ⟨x.kl, x.keys, x.many + c.many, x.cents⟩) (by decide) rfl, set_mid']
        rw [st1]
        have hb2 := set_eq g3 bi (.cells false (rows celC (A ++ (⟨x.kl, x.keys, x.many + c.many, x.cents⟩ : Cel) :: B)))
        refine ⟨⟨by omega, by omega⟩, derefK_intro hsa ⟨x.cents, hcell _ hb2 rfl, ⟨by omega, by omega⟩, derefK_intro hsa ?_⟩⟩
        rw [w2]
        refine storeK_one hb2 (by rw [hll, Int.toNat_natCast]; omega) ?_
        have st2 : (rows celC (A ++ (⟨x.kl, x.keys, x.many + c.many, x.cents⟩ : Cel) :: B)).set (0 + ((A.length : Nat) : Int).toNat * 3 + 2) (.int .i64 (x.cents + c.cents)) = rows celC (A ++ (⟨x.kl, x.keys, x.many + c.many, x.cents + c.cents⟩ : Cel) :: B) := by
          rw [Int.toNat_natCast, Nat.zero_add, rows_set celC_length (hget _) (b := ⟨x.kl, x.keys, x.many + c.many, x.cents + c.cents⟩) (by decide) rfl, set_mid']
        rw [st2, set_set]
        refine ⟨xs.length - (i + 1), by omega, i + 1, A ++ (⟨x.kl, x.keys, x.many + c.many, x.cents + c.cents⟩ : Cel) :: B, L2, by omega, by show IntKind.i64.wrap _ = _; rw [w64] <;> omega, rfl, ?_, by rw [hnext]; exact hpc, up_same hup3 rfl, by simp; omega, fun d hd => ?_⟩
        · have o4 : Owns h' g3 ((3, ⟨some (bi, 0), s5.len⟩, rows celC (A ++ x :: B)) :: L2) := by rw [← hs5]; exact o3
          have o5 := o4.change (n' := s5.len) (sz' := 3) (cs' := rows celC (A ++ (⟨x.kl, x.keys, x.many + c.many, x.cents + c.cents⟩ : Cel) :: B)) (by rw [hll, ls5])
          rw [← hs5] at o5
          exact o5
        · have old : d ∈ A ++ B → (1, d.kl, strs d.keys) ∈ L2 ∧ d.keys.length < 1000 ∧ Small (i + 1) d ∧ 0 ≤ d.many := fun h => by
            obtain ⟨a1, a2, a3, a4⟩ := hAo d h
            exact ⟨hsub _ a1, a2, a3.up, a4⟩
          rcases List.mem_append.1 hd with hd | hd
          · exact old (List.mem_append_left _ hd)
          · rcases List.mem_cons.1 hd with rfl | hd
            · exact ⟨hxL, by rw [hxk]; exact hKl, ⟨n1, n2⟩, by show 0 ≤ x.many + c.many; omega⟩
            · exact old (List.mem_append_right _ hd)
    · have : i = xs.length := by omega
      subst this
      rw [List.take_length] at hout
      have hkeys : ∀ c ∈ out, c.keys.length < 1000000 := fun c hc => by have := (hok c hc).2.1; omega
      refine loopK_intro (fun (n : Int) g' m => g' = g ∧ ∃ j : Nat, j ≤ out.length ∧ n = j ∧ out.length - j = m ∧ ((out.take j).any fun c => !fullB c) = false) out.length ⟨rfl, 0, by omega, rfl, rfl, rfl⟩ ?_
      rintro n g' m ⟨rfl, j, hj, rfl, rfl, he⟩
      refine ifT_dec (fun hlt => ⟨⟨by omega, hlt⟩, ?_⟩) fun hge2 => ?_
      · have hx := List.getElem?_eq_getElem (show j < out.length by omega)
        generalize out[j] = x at hx
        have hxm := List.mem_of_getElem? hx
        refine hrow.at_.row celC_length (by decide) hx fun bb oo hr => ⟨x.kl, x.many, x.cents, hr, ?_⟩
        have bad : fullB x = false → Q [sls 3 ⟨none, 0⟩, int 12] g' := fun h5 => by
          obtain ⟨e1, e2⟩ := foldE_full e0 hout (List.any_eq_true.2 ⟨x, hxm, by rw [h5]; rfl⟩)
          have := hQ _ _ [] [] (((Owns.nil _).mono o.ext).none_ 3) (by simp) e2.symm (by simp)
          rw [e1] at this; exact this
        have nf : ∀ {p : Prop}, (fullB x = true → ¬ p) → p → fullB x = false := fun h5 h6 => by
          cases h7 : fullB x
          · rfl
          · exact absurd h6 (h5 h7)
        refine ifT_dec (fun h5 => bad (nf (fun h6 h7 => by have := fullB_iff.1 h6; omega) h5)) fun h5 => ifT_dec (fun h6 => bad (nf (fun h6 h7 => by have := fullB_iff.1 h6; omega) h6)) fun h6 => ifT_dec (fun h7 => bad (nf (fun h6 h7 => by have := fullB_iff.1 h6; omega) h7)) fun h7 => ?_
        have h8 := (hok x hxm).2.2.2
        have hf : fullB x = true := fullB_iff.2 (by omega)
        refine ⟨out.length - (j + 1), by omega, rfl, j + 1, by omega, by rw [w64] <;> omega, rfl, ?_⟩
        rw [any_take_step hx, he, hf]; rfl
      · have : j = out.length := by omega
        subst this
        rw [List.take_length] at he
        obtain ⟨e1, e2⟩ := foldE_ok e0 hout he
        have := hQ _ s' out L o (fun c hc => ⟨(hok c hc).1, hkeys c hc⟩) e2.symm (by omega)
        rw [e1] at this; exact this
/-- Adds. -/
theorem spec18 (hI : Closed' prog Pm I) {s p t : Sl} {xs ps : List Cel} {keep : List Int} (hx : Cels h s xs) (hp : Cels h p ps) (hkp : At h 1 t (ints keep)) (hl : xs.length < 1000000) (hk : ∀ x ∈ xs, x.keys.length < 1000000) (hkl : keep.length < 1000)
    (hpl : ps.length < 1000000) (hpk : ∀ x ∈ ps, x.keys.length < 1000000)
    (hQ : ∀ h' b, Ext h h' → (orI [foldE xs keep, errC ps] = 0 → b = decide (foldR xs keep = ps.map pc)) → Q [boo b, int (orI [foldE xs keep, errC ps])] h') : I 18 [sls 3 s, sls 3 p, sls 1 t] Q h := by
  refine hI.go _ _ (den18 I s p t Q) ?_
  refine spec14r hI hx hkp hl hk hkl fun h1 s1 out x1 hc hout hol hok => ⟨_, _, rfl, ifT_intro (fun h2 => ?_) fun h2 => ?_⟩
  · have h3 := nd h2
    have e : orI [foldE xs keep, errC ps] = foldE xs keep := if_pos h3
    have := hQ h1 false x1 (fun h4 => absurd (e ▸ h4) h3)
    rw [e] at this; exact this
  · have h3 : foldE xs keep = 0 := Decidable.of_not_not (nd' h2)
    have e : orI [foldE xs keep, errC ps] = errC ps := by
      unfold orI
      rw [if_neg (by rw [h3]; decide)]
      unfold orI
      by_cases h4 : errC ps = 0
      · rw [h4]; rfl
      · rw [if_pos h4]
    rw [e] at hQ
    refine spec12 hI (x1.cels hp) hpl hpk ⟨_, rfl, ifT_intro (fun h4 => ?_) fun h4 => ?_⟩
    · exact hQ h1 false x1 fun h5 => absurd h5 (nd h4)
    · have h5 : errC ps = 0 := Decidable.of_not_not (nd' h4)
      refine spec50b hI hc (x1.cels hp) hol hok ⟨_, rfl, ?_⟩
      have := hQ h1 _ x1 fun _ => rfl
      rw [h5, ← hout] at this; exact this
end
end Go.Proofs.YtdjancoknephnaaDoorVc
-- CfLaw
namespace Go.Proofs.YtdjancoknephnaaDoorVc
open Go.Proofs.Tryd (prog)
section
variable {I : Calls} {Q : Post} {h : Heap}
theorem spec4 (hI : Closed' prog Pm I) {s : Sl} {zs : List Int} (hs : At h 1 s (ints zs)) : I 4 [.one (.slice 1 s)] tru h := by
  refine hI.go _ _ (den4 I s tru) ?_
  refine newK_intro fun i2 h1 hn1 he1 => ?_
  have S0 : Strm h1 i2 s zs 0 := he1 ▸ Strm.make hs hn1
  refine spec10 hI S0 S0.owns (by decide) fun l6 h6 xs t6 L6 o6 k6 _ ht6 hxl => ⟨l6, rfl, ?_⟩
  refine spec11 hI S0 o6 (by omega) fun l9 h9 ks t9 o9 ht9 hkl => ⟨l9, rfl, ?_⟩
  have k9 := k6.mono (Nat.le_refl 4) (L' := owS i2 s t9 :: (1, l9, ints ks) :: (3, l6, rows celC xs) :: L6) (fun p hp => by simp [hp])
  have C9 : Cels h9 l6 xs := k9.cels o9 (by simp)
  have K9 : At h9 1 l9 (ints ks) := o9.at_ (by simp)
  have hk9 : ∀ x ∈ xs, x.keys.length < 1000000 := fun x hx => by have := (k9.key o9 hx).2; omega
  refine spec12 hI C9 (by omega) hk9 ⟨_, rfl, ?_⟩
  refine spec13 hI C9 (by omega) hk9 fun h14 x14 => ⟨_, rfl, ifT_intro (fun h => absurd rfl (nd h)) fun _ => ?_⟩
  refine spec14r hI (x14.cels C9) (x14.at_ K9) (by omega) hk9 (by omega) fun h18 l19 out1 x18 c18 e18 n18 k18 => ⟨_, _, rfl, ?_⟩
  have X18 := x14.trans x18
  refine spec15 hI (X18.cels C9) (X18.at_ K9) (by omega) hk9 (by omega) fun h22 l23 out2 L22 o22 k22 e22 n22 => ⟨_, _, rfl, ?_⟩
  obtain ⟨R, hR⟩ : ∃ R, R = ((3, l23, rows celC out2) :: L22) ++ ((1, l9, ints ks) :: (3, l6, rows celC xs) :: L6) := ⟨_, rfl⟩
  have O : Owns (h1.del i2) h22 (owS i2 s t9 :: R) := by
    rw [hR]; exact ((o9.mono X18).cat o22).perm List.perm_middle
  have cy : ∀ {g : Heap} {L : List Ow}, Owns (h1.del i2) g L → (∀ p ∈ R, p ∈ L) → Cels g l23 out2 := fun o hs => ⟨o.at_ (hs _ (by rw [hR]; simp)), fun c hc => o.at_ (sz := 1) (s := c.kl) (cs := strs c.keys) (hs _ (by rw [hR]; simp [(k22 c hc).1]))⟩
  have cx : ∀ {g : Heap} {L : List Ow}, Owns (h1.del i2) g L → (∀ p ∈ R, p ∈ L) → Cels g l6 xs := fun o hs => (k6.mono (Nat.le_refl 4) fun p hp => hs _ (by rw [hR]; simp [hp])).cels o (hs _ (by rw [hR]; simp))
  have ck : ∀ {g : Heap} {L : List Ow}, Owns (h1.del i2) g L → (∀ p ∈ R, p ∈ L) → At g 1 l9 (ints ks) := fun o hs => o.at_ (hs _ (by rw [hR]; simp))
  refine joinK_intro (fun (b : Bool) g => g = h22 ∧ b = false) ?_ fun jk hjk => ifT_intro (fun h => absurd rfl (nd h)) fun _ => ?_
  case refine_2 =>
    refine spec16 hI (o22.ext.cels c18) (cy O fun p hp => List.mem_cons_of_mem _ hp) n18 k18 ⟨_, rfl, hjk _ _ ⟨rfl, ?_⟩⟩
    rw [decide_eq_true (e18.trans e22.symm)]; rfl
  rintro b g ⟨rfl, rfl⟩
  refine ifT_intro (fun h => by cases h) fun _ => ?_
  refine flip_k hI S0 O (by omega) (by decide) (by decide) fun b h28 o28 => ?_
  refine joinK_intro (fun (l30 : Sl) g => ∃ (ps : List Cel) (L : List Ow), Owns (h1.del i2) g L ∧ (∀ p ∈ R, p ∈ L) ∧ Cels g l30 ps ∧ ps.length < 1000000 ∧ ∀ x ∈ ps, x.keys.length < 1000000) ?_ fun jk hjk => ifT_intro (fun _ => ?_) fun _ => ?_
  case refine_2 =>
    refine spec10 hI S0 o28 (by omega) fun l63 h62 ps t62 L62 o62 k62 hsub _ hpl => ⟨l63, rfl, hjk _ _ ⟨ps, _, o62, fun p hp => by simp [hsub p hp], ?_, by omega, fun x hx => ?_⟩⟩
    · exact (k62.mono (Nat.le_refl 4) (L' := owS i2 s t62 :: (3, l63, rows celC ps) :: L62) fun p hp => by simp [hp]).cels o62 (by simp)
    · have := ((k62.mono (Nat.le_refl 4) (L' := owS i2 s t62 :: (3, l63, rows celC ps) :: L62) fun p hp => by simp [hp]).key o62 hx).2
      omega
  case refine_3 =>
    exact hjk _ _ ⟨out2, _, o28, fun p hp => List.mem_cons_of_mem _ hp, cy o28 fun p hp => List.mem_cons_of_mem _ hp, n22, fun x hx => (k22 x hx).2⟩
  rintro l30 g3 ⟨ps, L, o30, hs30, cp, hpl, hpk⟩
  refine spec18 hI (cx o30 hs30) cp (ck o30 hs30) (by omega) hk9 (by omega) hpl hpk fun h33 b34 x33 hb => ⟨_, _, rfl, ?_⟩
  refine spec13 hI (x33.cels cp) hpl hpk fun h37 x37 => ⟨_, rfl, ?_⟩
  refine newK_intro fun i39 h40 hn40 he40 => ?_
  have X40 : Ext g3 h40 := (x33.trans x37).trans (he40 ▸ Ext.new hn40)
  have kat : At h40 1 ⟨some (i39, 0), 2⟩ (ints [foldE xs ks, errC ps]) := by
    refine ⟨rfl, .inr ?_⟩
    show h40.read i39 0 (2 * 1) = _
    rw [he40, read_block (set_eq _ _ _) (by simp)]
    rfl
  refine spec19 hI kat (by simp) ⟨_, rfl, ifT_intro (fun h5 => ?_) fun h5 => ?_⟩
  · refine joinK_intro (fun (b : Bool) g => b = true) ?_ fun jk hjk => spec9 hI ⟨_, rfl, ifT_intro (fun _ => hjk _ _ (decide_eq_true rfl)) fun h => by cases h⟩
    rintro b g rfl
    exact rfl
  · have h0 : orI [foldE xs ks, errC ps] = 0 := Decidable.of_not_not (nd' h5)
    refine spec9 hI ⟨_, rfl, ifT_intro (fun _ => ifT_dec (fun _ => ?_) fun h6 => absurd h0 h6) fun h => by cases h⟩
    refine spec16 hI (X40.cels (cy o30 hs30)) (X40.cels cp) n22 (fun x hx => (k22 x hx).2) ⟨_, rfl, ?_⟩
    show [boo _] = [boo true]
    rw [hb h0, e22, decide_eq_true rfl]
end
end Go.Proofs.YtdjancoknephnaaDoorVc
