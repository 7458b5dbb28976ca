/- Contract: cells are sorted. -/
import Derived.Test.YtfemminjhecocaaVcFoSpec1
import Derived.Test.YtfemminjhecocaaVcNewB
set_option linter.unusedSimpArgs false
set_option linter.unusedVariables false
namespace Go.Proofs.YtfemminjhecocaaVc
open Go.Proofs.Try (prog)
abbrev celK : VK := .agg [.slice 1, .int .i64, .int .i64]
theorem den58g (I : Calls) (l0 : Sl) (n1 n2 : Int) (p3 : Option (Nat × List (Nat × Nat))) (Q : Post) : vc58 I l0 n1 n2 p3 Q = insF celK I l0 n1 n2 p3 Q := by kernel_rfl
theorem den44g (I : Calls) (l0 : Sl) (n1 : Int) (p3 : Option (Nat × List (Nat × Nat))) (Q : Post) : vc44 I l0 n1 p3 Q = stabF celK I 58 59 l0 n1 p3 Q := by kernel_rfl
theorem den59g (I : Calls) (l0 : Sl) (n1 n2 n3 : Int) (p3 : Option (Nat × List (Nat × Nat))) (Q : Post) : vc59 I l0 n1 n2 n3 p3 Q = symF celK I 72 59 l0 n1 n2 n3 p3 Q := by kernel_rfl
theorem den72g (I : Calls) (l0 : Sl) (n1 n2 n3 : Int) (p3 : Option (Nat × List (Nat × Nat))) (Q : Post) : vc72 I l0 n1 n2 n3 p3 Q = rotF celK I 78 l0 n1 n2 n3 p3 Q := by kernel_rfl
theorem den78g (I : Calls) (l0 : Sl) (n1 n2 n3 : Int) (p3 : Option (Nat × List (Nat × Nat))) (Q : Post) : vc78 I l0 n1 n2 n3 p3 Q = swapF celK l0 n1 n2 n3 Q := by kernel_rfl
theorem cel_fits (x : Cel) : celK.fits (.agg (celC x)) := by simp [VK.fits, fitsAll, celC, Kd.fits]
theorem Owns.swp {h0 h : Heap} {a b : Ow} {L : List Ow} (o : Owns h0 h (a :: b :: L)) : Owns h0 h (b :: a :: L) := o.perm (List.Perm.swap _ _ _)
section
variable {I : Calls} {Q : Post} {h : Heap}
theorem Owns.stay {h0 h h' : Heap} {L : List Ow} {k n blk : Nat} {cs : List Cell} {p : Ow} (o : Owns h0 h ((k, ⟨some (blk, 0), n⟩, cs) :: L)) (hp : p ∈ L) (hs : ∀ j x, j ≠ blk → h j = some x → h' j = some x) : At h' p.1 p.2.1 p.2.2 := by
  refine (o.at_ (sz := p.1) (s := p.2.1) (cs := p.2.2) (List.mem_cons_of_mem _ hp)).stay fun j b x ha hx => hs j x (fun e => ?_) hx
  rcases (o.all p (List.mem_cons_of_mem _ hp)).2 with ⟨h1, _⟩ | ⟨k', h1, _, _⟩
  · rw [h1] at ha; cases ha
  · rw [h1] at ha; cases ha
    exact o.ne hp (i := blk) (j := j) rfl h1 e.symm
theorem insF_none {vk : VK} {s : Sl} {n1 n2 : Int} {p : Option (FuncId × List (Nat × Nat))} (h1 : 0 ≤ n1) (h2 : n2 ≤ n1 + 1) (h3 : n1 < 1000000000) (hQ : Q [] h) : insF vk I s n1 n2 p Q h := by
  unfold insF
  refine loopK_intro (fun (n : Int) h' m => h' = h ∧ n = n1 + 1) 0 ⟨rfl, w64 (by omega) (by omega)⟩ ?_
  rintro n h' m ⟨rfl, rfl⟩
  exact ifT_dec (fun h4 => by omega) fun _ => hQ
/-- Cells are sorted by their keys. -/
theorem spec28 (hI : Closed' prog Pm I) {h0 : Heap} {s : Sl} {xs : List Cel} {L : List Ow} (o : Owns h0 h ((3, s, rows celC xs) :: L)) (hlen : xs.length < 100000) (hk : ∀ x ∈ xs, x.keys.length < 1000000 ∧ (1, x.kl, strs x.keys) ∈ L)
    (hQ : ∀ Z h', Z.Perm xs → Z.Pairwise leC → Owns h0 h' ((3, s, rows celC Z) :: L) → Q [] h') : I 28 [sls 3 s, .one (.func (some (29, [])))] Q h := by
  refine hI.go _ _ (den28 I s _ Q) ?_
  refine hI.go _ _ (den44 I s _ _ _) ?_
  rw [den44g]
  have hl : s.len = xs.length := (o.at_ List.mem_cons_self).rowsLen celC_length (by decide)
  have h58 : ∀ a b Q h, insF celK I s a b (some (29, [])) Q h → I 58 [sls 3 s, ii a, ii b, fp (some (29, []))] Q h := fun a b Q h hq => hI.go _ _ (den58 I s a b _ Q) (by rw [den58g]; exact hq)
  have h78 : ∀ a b n Q h, swapF celK s a b n Q h → I 78 [sls 3 s, ii a, ii b, ii n, fp (some (29, []))] Q h := fun a b n Q h hq => hI.go _ _ (den78 I s a b n _ Q) (by rw [den78g]; exact hq)
  have h72 : ∀ a m b Q h, rotF celK I 78 s a m b (some (29, [])) Q h → I 72 [sls 3 s, ii a, ii m, ii b, fp (some (29, []))] Q h := fun a m b Q h hq => hI.go _ _ (den72 I s a m b _ Q) (by rw [den72g]; exact hq)
  have h59 : ∀ a m b Q h, symF celK I 72 59 s a m b (some (29, [])) Q h → I 59 [sls 3 s, ii a, ii m, ii b, fp (some (29, []))] Q h := fun a m b Q h hq => hI.go _ _ (den59 I s a m b _ Q) (by rw [den59g]; exact hq)
  obtain ⟨ho1, ho2 | ⟨blk, ho2, ho3, ho4⟩⟩ := o.all _ List.mem_cons_self
  · have hx : xs = [] := by
      have := congrArg List.length ho2.2
      simp only [rows_length celC_length, List.length_nil] at this
      exact List.length_eq_zero_iff.1 (by omega)
    subst hx
    have h0l : s.len = 0 := hl
    have done : Q [] h := hQ [] h (List.Perm.refl _) List.Pairwise.nil o
    unfold stabF
    rw [h0l]
    refine loopK_intro (fun (a : Int × Int) h' m => h' = h ∧ a = (0, 20)) 0 ⟨rfl, rfl⟩ ?_
    rintro _ h' m ⟨rfl, rfl⟩
    dsimp only [uncur]
    refine ifT_dec (fun h1 => absurd h1 (by decide)) fun _ => h58 _ _ _ _ (insF_none (by decide) (by decide) (by decide) ⟨rfl, ?_⟩)
    refine loopK_intro (fun (a : Int) h2 m => h2 = h' ∧ a = 20) 0 ⟨rfl, rfl⟩ ?_
    rintro _ h2 m ⟨rfl, rfl⟩
    exact ifT_dec (fun h1 => absurd h1 (by decide)) fun _ => ⟨rfl, done⟩
  · have e2 : s = ⟨some (blk, 0), s.len⟩ := by cases s; simp only at ho2; rw [ho2]
    have o2 : Owns h0 h ((3, ⟨some (blk, 0), s.len⟩, rows celC xs) :: L) := by rw [← e2]; exact o
    refine stab_spec cel_fits (v := fun x => V.agg (celC x)) (blk := blk) (mem := fun x => x.keys.length < 1000000 ∧ (1, x.kl, strs x.keys) ∈ L) (lt := ltC) leC h58 h72 h78 h59 ho2 (by omega) hl ho4 (by rw [hl]) (fun a b c _ _ _ => leC_trans) (fun x hx => hk x hx) ?_ ?_ fun Z h' hp hs hps => ⟨rfl, hQ Z h' hp hs ?_⟩
    · intro a b ha hb h' Q' ⟨ys, hps⟩ hq
      refine spec29 hI (x := a) (y := b) (o2.stay ha.2 hps.2) (o2.stay hb.2 hps.2) ha.1 (hq _ _ (Ext.refl _) ?_)
      unfold ltC; rw [decide_eq_true_eq]
    · exact List.pairwise_of_forall fun a b => ⟨fun h1 => ltC_asymm h1, fun h1 => h1⟩
    · have o3 : Owns h0 h ((celK.kds.length, ⟨some (blk, 0), s.len⟩, rws (fun x : Cel => V.agg (celC x)) xs) :: L) := o2
      have := o3.psg cel_fits hps hp.length_eq
      rw [e2]; exact this
end
end Go.Proofs.YtfemminjhecocaaVc
