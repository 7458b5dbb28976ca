/- FoldsAddUp: the law's contract. -/
import Derived.Test.YtfemminjhecocaaVcFoSpec7
import Derived.Test.YtfemminjhecocaaVcStKeys
set_option linter.unusedSimpArgs false
set_option linter.unusedVariables false
namespace Go.Proofs.YtfemminjhecocaaVc
open Go.Proofs.Try (prog)
/-- Folded over all dimensions there is one cell, or none. -/
theorem FoldOf.single {ys out : List Cel} (f : FoldOf ys [] out) : out.map pc = if ys = [] then [] else [([], manyS ys, centsS ys)] := by
  obtain ⟨h1, h2, h3, h4, h5, h6⟩ := f.facts
  have hk : ∀ c ∈ out, c.keys = [] := fun c hc => by
    obtain ⟨x, _, hx⟩ := h4 c hc
    rw [hx]; rfl
  by_cases hy : ys = []
  · rw [if_pos hy]
    subst hy
    have : out = [] := List.length_eq_zero_iff.1 (by simpa using h5)
    rw [this]; rfl
  · rw [if_neg hy]
    match out, h6 hy, h1, h2, h3, hk with
    | [c], _, h1, h2, _, hk =>
      rw [manyS_one] at h1
      rw [centsS_one] at h2
      simp [pc, hk c (by simp), h1, h2]
    | a :: b :: l, _, _, _, h3, hk =>
      exfalso
      have := (List.pairwise_cons.1 h3).1 b (by simp)
      rw [hk a (by simp), hk b (by simp)] at this
      exact List.lt_irrefl _ this
theorem errF_parts {xs : List Cel} {keep : List Int} (h : errF xs keep = 0) : errC xs = 0 ∧ scanK (dimN xs) none keep = 0 ∧ xs.length ≤ 2000 ∧ ∀ c ∈ xs, c.keys.length = dimN xs ∧ dimN xs ≤ 6 ∧ (c.keys.any fun s => !isKey s) = false ∧ fullB c = true := by
  unfold errF at h
  by_cases h0 : errC xs = 0
  · rw [if_neg (by rw [h0]; decide)] at h
    have h1 := h0
    unfold errC at h1
    by_cases h2 : 2000 < xs.length
    · rw [if_pos h2] at h1; cases h1
    · rw [if_neg h2] at h1
      exact ⟨h0, h, by omega, scanC_ok h1⟩
  · rw [if_pos h0] at h; exact absurd h h0
theorem fold_again {xs out1 : List Cel} (he : errF xs [0] = 0) (f1 : FoldOf xs [0] out1) (hf : (out1.any fun c => !fullB c) = false) : errF out1 [] = 0 := by
  obtain ⟨h1, h2, h3, h4⟩ := errF_parts he
  obtain ⟨a1, a2, a3, a4, a5, a6⟩ := f1.facts
  have hd := scanK_ok h2 0 (by simp)
  have key : ∀ c ∈ out1, c.keys.length = 1 ∧ (c.keys.any fun s => !isKey s) = false ∧ fullB c = true := fun c hc => by
    obtain ⟨x, hx, hk⟩ := a4 c hc
    obtain ⟨b1, b2, b3, b4⟩ := h4 x hx
    rw [hk]
    refine ⟨rfl, ?_, ?_⟩
    · have hl : 0 < x.keys.length := by omega
      have hg : x.keys[0]? = some x.keys[0] := List.getElem?_eq_getElem hl
      generalize x.keys[0] = s at hg
      have hs : isKey s = true := by
        have := List.any_eq_false.1 b3 s (List.mem_of_getElem? hg)
        simpa using this
      simp [prK, hg, hs]
    · have := List.any_eq_false.1 hf c hc
      simpa using this
  have hC : errC out1 = 0 := by
    unfold errC
    rw [if_neg (by omega)]
    have hd1 : dimN out1 = 1 ∨ out1 = [] := by
      cases out1 with
      | nil => exact .inr rfl
      | cons c l => exact .inl (key c (by simp)).1
    rcases hd1 with hd1 | hd1
    · rw [hd1]
      exact scanC_zero (fun c hc => ⟨(key c hc).1, by decide, (key c hc).2⟩) a3 (fun q hq => by cases hq)
    · rw [hd1]; rfl
  unfold errF
  rw [if_neg (by rw [hC]; decide)]
  rfl
theorem again_same {xs out1 out2 out3 : List Cel} (f1 : FoldOf xs [0] out1) (f2 : FoldOf xs [] out2) (f3 : FoldOf out1 [] out3) : out3.map pc = out2.map pc := by
  obtain ⟨a1, a2, a3, a4, a5, a6⟩ := f1.facts
  rw [f3.single, f2.single, a1, a2]
  by_cases hx : xs = []
  · have : out1 = [] := List.length_eq_zero_iff.1 (by rw [hx] at a5; simpa using a5)
    rw [if_pos this, if_pos hx]
  · rw [if_neg (a6 hx), if_neg hx]
theorem full_pc {a b : List Cel} (h : a.map pc = b.map pc) : (a.any fun c => !fullB c) = (b.any fun c => !fullB c) := by
  have e : ∀ l : List Cel, (l.any fun c => !fullB c) = ((l.map pc).any fun p => !fullB ⟨⟨none, 0⟩, p.1, p.2.1, p.2.2⟩) := fun l => by
    rw [List.any_map]; rfl
  rw [e a, e b, h]
theorem manyS_bnd : ∀ {xs : List Cel}, (∀ c ∈ xs, fullB c = true) → (0 ≤ manyS xs ∧ manyS xs ≤ 1000000 * xs.length) ∧ (-(1000000000000 * (xs.length : Int)) ≤ centsS xs ∧ centsS xs ≤ 1000000000000 * xs.length)
  | [], _ => by simp [manyS, centsS]
  | x :: xs, h => by
    have ih := manyS_bnd (xs := xs) fun c hc => h c (by simp [hc])
    have := fullB_iff.1 (h x (by simp))
    have e1 : manyS (x :: xs) = x.many + manyS xs := by simp [manyS]
    have e2 : centsS (x :: xs) = x.cents + centsS xs := by simp [centsS]
    rw [e1, e2, List.length_cons]
    omega
section
variable {I : Calls} {Q : Post} {h : Heap}
theorem fold_k (hI : Closed' prog Pm I) {s t : Sl} {xs : List Cel} {keep : List Int} (hx : Cels h s xs) (hkp : At h 1 t (ints keep)) (hl : xs.length < 1000000) (hk : ∀ x ∈ xs, x.keys.length < 1000000) (hkl : keep.length < 1000) {F : Sl → Int → T}
    (hF : ∀ h' s' e, Ext h h' → (e = 0 → ∃ out, errF xs keep = 0 ∧ FoldOf xs keep out ∧ (out.any fun c => !fullB c) = false ∧ Cels h' s' out) → F s' e h') :
    I 11 [sls 3 s, sls 1 t] (fun cs h' => ∃ l : Sl, ∃ n : Int, cs = [sls 3 l, int n] ∧ F l n h') h := by
  refine spec11 hI hx hkp hl hk hkl (fun he => ⟨_, _, rfl, hF _ _ _ (Ext.refl _) fun e => absurd e he⟩) (fun h' out x _ _ _ => ⟨_, _, rfl, hF _ _ _ x fun e => by cases e⟩) fun h' s' out x e0 f hf c _ _ => ⟨_, _, rfl, hF _ _ _ x fun _ => ⟨out, e0, f, hf, c⟩⟩
theorem spec4 (hI : Closed' prog Pm I) {s : Sl} {zs : List Int} (hs : At h 1 s (ints zs)) : I 4 [.one (.slice 1 s)] tru h := by
  refine hI.go _ _ (den4 I s tru) ?_
  refine newK_intro fun i2 h1 hn1 he1 => ?_
  have S0 : Strm h1 i2 s zs 0 := he1 ▸ Strm.make hs hn1
  refine spec10 hI S0 S0.owns (by decide) fun l6 h6 xs t6 L6 o6 k6 _ _ hxl => ⟨l6, rfl, ?_⟩
  have k6' := k6.mono (Nat.le_refl 4) (L' := owS i2 s t6 :: (3, l6, rows celC xs) :: L6) (fun p hp => by simp [hp])
  have C6 : Cels h6 l6 xs := k6'.cels o6 (by simp)
  have hk6 : ∀ x ∈ xs, x.keys.length < 1000000 := fun x hx => by have := (k6'.key o6 hx).2; omega
  refine newK_intro fun i7 h8 hn8 he8 => ?_
  have x8 : Ext h6 h8 := he8 ▸ Ext.new hn8
  have C8 := x8.cels C6
  have kat : At h8 1 ⟨some (i7, 0), 1⟩ (ints [0]) := by
    refine ⟨rfl, .inr ?_⟩
    show h8.read i7 0 (1 * 1) = _
    rw [he8, read_block (set_eq _ _ _) (by simp)]
    rfl
  refine fold_k hI C8 kat (by omega) hk6 (by simp) fun h10 l11 n12 x10 hone => ?_
  have C10 := x10.cels C8
  refine fold_k hI C10 (keep := []) (show At h10 1 ⟨none, 0⟩ (ints []) from ⟨rfl, .inl rfl⟩) (by omega) hk6 (by simp) fun h14 l15 n16 x14 hall => ?_
  have C14 := x14.cels C10
  refine joinK_intro (fun (b : Bool) g => g = h14 ∧ (b = false → n12 = 0 ∧ n16 = 0)) ?_ fun jk hjk => ifT_intro (fun h2 => hjk _ _ ⟨rfl, fun h => by cases h⟩) fun h2 => hjk _ _ ⟨rfl, fun h3 => ⟨Decidable.of_not_not (nd' h2), Decidable.of_not_not (nd' h3)⟩⟩
  rintro b g ⟨rfl, hb⟩
  refine ifT_intro (fun _ => spec9 hI ⟨_, rfl, rfl⟩) fun hbf => ?_
  obtain ⟨e1, e2⟩ := hb hbf
  obtain ⟨out1, z1, f1, u1, c1⟩ := hone e1
  obtain ⟨out2, z2, f2, u2, c2⟩ := hall e2
  obtain ⟨p1, p2, p3, p4⟩ := errF_parts z1
  have hl1 : out1.length ≤ xs.length := f1.facts.2.2.2.2.1
  have hk1 : ∀ c ∈ out1, c.keys.length < 1000000 := fun c hc => by
    obtain ⟨x, _, hx⟩ := f1.facts.2.2.2.1 c hc
    rw [hx]; unfold prK; rw [List.length_map]; decide
  have hk2 : ∀ c ∈ out2, c.keys.length < 1000000 := fun c hc => by
    obtain ⟨x, _, hx⟩ := f2.facts.2.2.2.1 c hc
    rw [hx]; unfold prK; rw [List.length_map]; decide
  have z3 := fold_again z1 f1 u1
  refine spec11 hI (x14.cels c1) (keep := []) (show At g 1 ⟨none, 0⟩ (ints []) from ⟨rfl, .inl rfl⟩) (by omega) hk1 (by simp) (fun he => absurd z3 he) (fun h' out x _ f hf => ?_) fun h24 l25 out3 x24 _ f3 u3 c3 _ _ => ⟨_, _, rfl, ?_⟩
  · have := full_pc (again_same f1 f2 f)
    rw [hf, u2] at this; cases this
  have hsame := again_same f1 f2 f3
  have C24 := x24.cels C14
  have c2' := x24.cels c2
  refine joinK_intro (fun (b : Bool) g => g = h24 ∧ b = false) ?_ fun jk hjk => ifT_intro (fun h2 => absurd rfl (nd h2)) fun _ => ?_
  case refine_2 =>
    refine spec12 hI c2' c3 (by have := f2.facts.2.2.2.2.1; omega) hk2 ⟨_, rfl, hjk _ _ ⟨rfl, ?_⟩⟩
    rw [decide_eq_true hsame.symm]; rfl
  rintro b2 g2 ⟨rfl, rfl⟩
  refine ifT_intro (fun h => by cases h) fun _ => ?_
  have hfull : ∀ c ∈ xs, fullB c = true := fun c hc => (p4 c hc).2.2.2
  have l24 := C24.len
  have l15len := c2'.len
  refine loopK_intro (fun (a : Int × Int × Int) h' m => h' = g2 ∧ ∃ i : Nat, i ≤ xs.length ∧ a = (manyS (xs.take i), centsS (xs.take i), (i : Int)) ∧ xs.length - i = m) xs.length ⟨rfl, 0, by omega, rfl, rfl⟩ ?_
  rintro _ h' m ⟨rfl, i, hi, rfl, rfl⟩
  dsimp only [uncur]
  refine ifT_dec (fun hlt => ⟨⟨by omega, hlt⟩, ?_⟩) fun hge => ?_
  · have hx := List.getElem?_eq_getElem (show i < xs.length by omega)
    generalize xs[i] = c at hx
    refine C24.at_.row celC_length (by decide) hx fun bb o hr => ⟨c.kl, c.many, c.cents, hr, xs.length - (i + 1), by omega, rfl, i + 1, by omega, ?_, rfl⟩
    have bd := manyS_bnd (xs := xs.take i) fun c hc => hfull c (List.mem_of_mem_take hc)
    have bc := fullB_iff.1 (hfull c (List.mem_of_getElem? hx))
    have hlt : (xs.take i).length = i := by rw [List.length_take]; omega
    rw [hlt] at bd
    rw [take_snoc hx, manyS_append, centsS_append, manyS_one, centsS_one]
    rw [w64 (by omega) (by omega), w64 (by omega) (by omega), w64 (by omega) (by omega)]
    rfl
  · have : i = xs.length := by omega
    subst this
    rw [List.take_length]
    have hpc := f2.single
    refine spec9 hI ⟨_, rfl, ifT_intro (fun _ => ?_) fun h => by cases h⟩
    by_cases hx : xs = []
    · have ho2 : out2 = [] := by rw [if_pos hx] at hpc; simpa using hpc
      refine ifT_dec (fun _ => ifT_dec (fun _ => rfl) fun h => absurd (show (l15.len : Int) = 0 by rw [l15len, ho2]; rfl) h) fun h => absurd (show (l6.len : Int) = 0 by rw [l24, hx]; rfl) h
    · rw [if_neg hx] at hpc
      obtain ⟨c, rfl⟩ : ∃ c, out2 = [c] := by
        have := congrArg List.length hpc
        rw [List.length_map] at this
        exact List.length_eq_one_iff.1 this
      have hc : pc c = ([], manyS xs, centsS xs) := by simpa using hpc
      obtain ⟨_, hc1, hc2⟩ := pc_inj hc
      have hne : ¬ (l6.len : Int) = 0 := fun h => hx (List.length_eq_zero_iff.1 (by omega))
      have hone : l15.len = 1 := l15len
      refine ifT_dec (fun h => absurd h hne) fun _ => ifT_dec (fun _ => ⟨⟨by decide, by omega⟩, ?_⟩) fun h => absurd (show (l15.len : Int) = 1 by omega) h
      refine c2'.at_.rowCell celC_length (by decide) (i := 0) (j := 1) (c := .int .i64 c.many) rfl rfl fun bb o hr => ⟨c.many, by simpa using hr, ifT_dec (fun _ => ⟨⟨by decide, by omega⟩, ?_⟩) fun h => absurd hc1 h⟩
      refine c2'.at_.rowCell celC_length (by decide) (i := 0) (j := 2) (c := .int .i64 c.cents) rfl rfl fun bb o hr => ⟨c.cents, by simpa using hr, ?_⟩
      rw [decide_eq_true hc2]; rfl
end
theorem pm_sound : Sound prog Pm := or_sound keysP_sound sortedP_sound
end Go.Proofs.YtfemminjhecocaaVc
