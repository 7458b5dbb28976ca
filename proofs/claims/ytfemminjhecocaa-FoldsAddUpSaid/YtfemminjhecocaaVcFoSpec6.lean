/- Contract: cells are drawn. -/
import Derived.Test.YtfemminjhecocaaVcFoSpec5
set_option linter.unusedSimpArgs false
set_option linter.unusedVariables false
namespace Go.Proofs.YtfemminjhecocaaVc
open Go.Proofs.Try (prog)
/-- Where the keys of drawn cells lie. -/
def KL (B : Nat) (L : List Ow) (xs : List Cel) : Prop := ∀ c ∈ xs, ∃ b ks n, (1, (⟨some (b, 0), ks.length⟩ : Sl), strs ks) ∈ L ∧ c.kl = ⟨some (b, 0), n⟩ ∧ n ≤ ks.length ∧ c.keys = ks.take n ∧ ks.length ≤ B
theorem KL.mono {B B' : Nat} {L L' : List Ow} {xs : List Cel} (k : KL B L xs) (hB : B ≤ B') (hL : ∀ p ∈ L, p ∈ L') : KL B' L' xs := fun c hc =>
  let ⟨b, ks, n, h1, h2, h3, h4, h5⟩ := k c hc
  ⟨b, ks, n, hL _ h1, h2, h3, h4, Nat.le_trans h5 hB⟩
theorem KL.key {B : Nat} {L : List Ow} {xs : List Cel} {h0 h : Heap} (k : KL B L xs) (o : Owns h0 h L) {c : Cel} (hc : c ∈ xs) : At h 1 c.kl (strs c.keys) ∧ c.keys.length ≤ B := by
  obtain ⟨b, ks, n, h1, h2, h3, h4, h5⟩ := k c hc
  have := (o.at_ h1).sub 0 n (by omega) h3
  rw [h2, h4]
  refine ⟨?_, by rw [List.length_take]; omega⟩
  simpa [Sl.sub, strs, List.map_take] using this
theorem KL.cels {B : Nat} {L : List Ow} {xs : List Cel} {h0 h : Heap} {s : Sl} (k : KL B L xs) (o : Owns h0 h L) (hm : (3, s, rows celC xs) ∈ L) : Cels h s xs := ⟨o.at_ hm, fun c hc => (k.key o hc).1⟩
section
variable {I : Calls} {Q : Post} {h : Heap} {hb : Heap} {i : Nat} {l : Sl} {zs : List Int} {t0 : Nat}
theorem spec17 (hI : Closed' prog Pm I) {t : Nat} (S : Strm h i l zs t) (hQ : ∀ v, 0 ≤ v → v ≤ 3 → Q [int v] (h.set i (strm l (t + 1)))) : I 17 [.one (.ptr (some (i, 0))), int 0, int 3] Q h := by
  refine hI.go _ _ (den17 I (some (i, 0)) 0 3 Q) ?_
  refine ifT_dec (fun h => absurd h (by decide)) fun _ => ?_
  have e : IntKind.i64.wrap (IntKind.i64.wrap ((3 : Int) - 0) + 1) = 4 := by decide
  show I 7 [_, int (IntKind.i64.wrap (IntKind.i64.wrap ((3 : Int) - 0) + 1))] _ h
  rw [e]
  refine spec7 hI S (by decide) (by decide) fun v h1 h2 => ⟨v, rfl, ?_⟩
  rw [w64 (by omega) (by omega)]
  exact hQ _ (by omega) (by omega)
/-- A literal of ints, and one of them is drawn. -/
theorem pick_lit (hI : Closed' prog Pm I) (S0 : Strm hb i l zs t0) {t : Nat} {L : List Ow} (o : Owns (hb.del i) h (owS i l t :: L)) (ht : t < 900000000) (xs : List Int) (h1 : xs ≠ []) (h2 : xs.length < 1000) {F : Int → T}
    (hF : ∀ v ∈ xs, ∀ h', Owns (hb.del i) h' (owS i l (t + 1) :: L) → F v h') :
    newK (.cells false (ints xs)) (fun i6 => fun h7 => I 13 [.one (.ptr (some (i, 0))), .one (.slice 1 ⟨some (i6, 0), xs.length⟩)] (fun cs h9 => ∃ n : Int, cs = [int n] ∧ F n h9) h7) h := by
  refine newK_intro fun i6 h7 hn he => ?_
  have hne := o.lit_ne hn
  have o2 := o.mono (he ▸ Ext.new hn : Ext _ h7)
  exact spec13 hI (xs := xs) (o2.toStrm S0 (t' := t) (by simp) (by omega)) (lit_at hne he rfl) h1 h2 fun v hv => ⟨v, rfl, hF v hv _ o2.next⟩
/-- A literal of strings gets its place. -/
theorem new_strs {L : List Ow} {h0 : Heap} (o : Owns h0 h L) (xs : List ByteArray) {F : Nat → T} (hF : ∀ j h', Owns h0 h' ((1, ⟨some (j, 0), xs.length⟩, strs xs) :: L) → F j h') : newK (.cells false (strs xs)) F h := by
  refine newK_intro fun j h' hn he => hF j h' ?_
  have := o.new (sz := 1) (n := xs.length) (cs := strs xs) hn (by simp [strs])
  rw [← he] at this; exact this
theorem Owns.back {h0 h : Heap} {a b c : Ow} {L : List Ow} (o : Owns h0 h (a :: b :: c :: L)) : Owns h0 h (b :: c :: a :: L) := o.swp.perm ((List.Perm.swap _ _ _).cons b)
theorem appendTo_ownsN {h0 h : Heap} {l : List Ow} {sz bytes : Nat} {b n : Nat} {xs : List Cell} {m : Nat} {new : List Cell} {k : Sl → T} (o : Owns h0 h ((sz, ⟨some (b, 0), n⟩, xs) :: l)) (hm : m * sz = new.length) (hb : (n + m) * bytes ≤ 140737488355328)
    (hk : ∀ j h', Owns h0 h' ((sz, ⟨some (j, 0), n + m⟩, xs ++ new) :: l) → k ⟨some (j, 0), n + m⟩ h') : appendTo [] sz bytes ⟨some (b, 0), n⟩ m new k h := by
  cases m with
  | succ m => exact appendTo_owns o hm hb (by simp) hk
  | zero =>
    have hn : new = [] := List.length_eq_zero_iff.1 (by omega)
    subst hn
    show appendAnyK [] sz bytes ⟨some (b, 0), n⟩ 0 [] k h
    unfold appendAnyK
    rw [if_neg (by simp)]
    exact appendK_owns o hm hb (by simp) hk
end
end Go.Proofs.YtfemminjhecocaaVc
