/- Three more functions of Go's library: Fields of one text, DecodeRuneInString, Repeat. -/
import Derived.Test.YtadakbmoanbcgaaGreatDoorVcCkPrim
import Derived.Test.YtadakbmoanbcgaaGreatDoorVcCkF
set_option linter.unusedVariables false
set_option linter.unusedSimpArgs false
namespace Go.Proofs.YtadakbmoanbcgaaGreatDoorVc
open Go.Proofs Go.RowKit Go.Shelf
theorem rep16X : Builder.Extra Tryz.prog rep16_ren where
  sizeBuilder := by kernel_rfl
  liesBuilder := by kernel_rfl
  t5 := rep16.t5
  a5 := rep16.a5
  z5 := rep16.z5
  v5 := rep16.v5
  infoByte := by kernel_rfl
  cellsByte := by kernel_rfl
  sizeByte := by kernel_rfl
  neB5 := by decide
theorem words_are : Lib.fields wordsT.data.toList = words.map fun s => s.data.toList := by decide +kernel
theorem words_ascii : ∀ b ∈ wordsT.data.toList, b.toNat < 128 := by decide +kernel
def XPrim : Prim := fun f args Q h =>
  (f = 112 ∧ ∃ s, args = [str s] ∧ s ≠ tE ∧ U8In 1 2 h ∧ Q [.one (.int .i32 ((Lib.decodeL (bl s)).1 : Nat)), int ((Lib.decodeL (bl s)).2 : Nat)] h) ∨
  (f = 111 ∧ args = [str wordsT] ∧ SpIn 3 h ∧ ∀ sl h', Ext h h' → At h' 1 sl (strs words) → Q [.one (.slice 1 sl)] h') ∨
  (f = 16 ∧ ∃ n : Int, args = [str ⟨#[110]⟩, int n] ∧ (n = 40 ∨ n = 41) ∧ ∀ s h', Ext h h' → Q [str s] h')
theorem xprim_sound : Sound Tryz.prog XPrim := by
  rintro f args Q h (⟨rfl, s, rfl, hs, hx, hq⟩ | ⟨rfl, rfl, hx, hq⟩ | ⟨rfl, n, rfl, hn, hq⟩) ρ w vs hr hvs
  · obtain ⟨vs⟩ := vs
    match vs, hvs with
    | [v0], ⟨h0, _⟩ =>
      obtain rfl : v0 = .string s := h0
      have hcall := Any.utf8_DecodeRuneInString (ρ := dec112_ren) dec112 s w (hx.tabs hr)
      have hne : s.size ≠ 0 := fun e => hs (bl_nil.2 (List.length_eq_zero_iff.1 (by rw [← bl_size]; exact e)))
      have hd : Lib.decodeGo s = Lib.decodeL (bl s) := by
        have := Lib.decodeL_drop s 0
        rw [List.drop_zero] at this
        unfold Lib.decodeGo
        rw [if_neg hne]
        exact this.symm
      rw [hd] at hcall
      refine .inl ⟨⟨_, Tryz.func112, by kernel_rfl, by kernel_rfl⟩, ?_⟩
      exact Calls.mono hcall fun e w' ⟨he, hb⟩ => ⟨_, he, ρ, h, [.one (.int .i32 ((Lib.decodeL (bl s)).1 : Nat)), int ((Lib.decodeL (bl s)).2 : Nat)], ⟨_, rfl, rfl, rfl, trivial⟩, hq, hr.kept hb, Fr.kept hb⟩
  · obtain ⟨vs⟩ := vs
    match vs, hvs with
    | [v0], ⟨h0, _⟩ =>
      obtain rfl : v0 = .string wordsT := h0
      have hcall := Any.strings_Fields_core (ρ := fields111_ren) fields111 (by kernel_rfl) wordsT w (by decide) (fun j b hb => words_ascii b (List.mem_of_getElem? hb)) (hx.tab hr)
      rw [words_are] at hcall
      refine .inl ⟨⟨_, Tryz.func111, by kernel_rfl, by kernel_rfl⟩, ?_⟩
      refine Calls.mono hcall fun e w' ⟨he, hw⟩ => ?_
      have hb : Below w.heap.size w w' := by rw [hw]; exact (Below.refl _ _).alloc (Nat.le_refl _) _
      obtain ⟨N, hN⟩ := hr.fresh
      obtain ⟨hi, hρ⟩ := hN N (Nat.le_refl _)
      have hm : ((words.map fun s => s.data.toList).map fun l => Value.string ⟨l.toArray⟩) = words.map Value.string := by
        rw [List.map_map]
        exact List.map_congr_left fun x _ => rfl
      rw [hm] at hw
      have hc : w'.heap[w.heap.size]? = some (.cells (words.map Value.string).toArray (fields111_ren.t 9) (0, 0)) := by rw [hw]; exact Array.getElem?_push_size
      obtain ⟨r1, r2⟩ := hr.named (cs := strs words) hb hi hρ (Nat.le_refl _) hc (by simp [strs]) fun ρ' _ => by
        refine CRs.of_get (by simp [strs]) fun j cl v e1 e2 => ?_
        unfold strs at e1
        rw [List.getElem?_map] at e1
        simp only [List.getElem?_take, List.getElem?_map] at e2
        split at e2
        · cases ex : words[j]? with
          | none => rw [ex] at e1; cases e1
          | some x =>
            rw [ex] at e1 e2
            cases e1; cases e2
            exact rfl
        · cases e2
      refine ⟨_, he, _, _, [.one (.slice 1 ⟨some (N, 0), 20⟩)], ?_, hq _ _ (Ext.new hi) ⟨rfl, .inr ?_⟩, r1, r2⟩
      · exact ⟨_, _, rfl, Nat.le_refl _, .inl ⟨_, Rho.put_same .., rfl, by simp⟩⟩
      · show (h.set N _).read N 0 (20 * 1) = _
        rw [read_block (Heap.set_same ..) (show 0 + 20 * 1 ≤ (strs words).length by decide)]
        rfl
  · obtain ⟨vs⟩ := vs
    match vs, hvs with
    | [v0, v1], ⟨h0, h1, _⟩ =>
      obtain rfl : v0 = .string ⟨#[110]⟩ := h0
      obtain rfl : v1 = .int .i64 n := h1
      obtain ⟨k, rfl, hk⟩ : ∃ k : Nat, n = k ∧ k ≤ 41 := by
        rcases hn with rfl | rfl
        · exact ⟨40, rfl, by decide⟩
        · exact ⟨41, rfl, by decide⟩
      have hcall := Any.strings_Repeat (ρ := rep16_ren) rep16 rep16X ⟨#[110]⟩ k w (by omega) (by show 1 * k ≤ _; omega)
      refine .inl ⟨⟨_, Tryz.func16, by kernel_rfl, by kernel_rfl⟩, ?_⟩
      exact Calls.mono hcall fun e w' ⟨he, hb⟩ => ⟨_, he, ρ, h, [str _], (show _ = _ from rfl), hq _ h (Ext.refl h), hr.kept hb, Fr.kept hb⟩
/-- One of two. -/
def OrPrim (p q : Prim) : Prim := fun f args Q h => p f args Q h ∨ q f args Q h
theorem or_sound {P : Program} {p q : Prim} (h1 : Sound P p) (h2 : Sound P q) : Sound P (OrPrim p q) := fun f args Q h hpq => hpq.elim (h1 f args Q h) (h2 f args Q h)
abbrev PmC : Prim := OrPrim Pm XPrim
theorem pmC_sound : Sound Tryz.prog PmC := or_sound pm_sound xprim_sound
def TTc (h : Heap) : Prop := (MaxIn 0 h ∧ U8In 1 2 h) ∧ SpIn 3 h
theorem closedC {I : Calls} (hI : Closed' Tryz.prog PmC I) : Closed' Tryz.prog Pm I := ⟨fun f a Q h hp => hI.prim f a Q h (.inl hp), hI.step, hI.stepD, hI.stepB⟩
theorem libIC {I : Calls} (hI : Closed' Tryz.prog PmC I) : LibI I TTc :=
  let L := libI (closedC hI)
  ⟨fun e x => ⟨L.ext e x.1, x.2.ext e⟩, fun hT hs hQ => L.valid hT.1 hs hQ, fun hT hs hQ => L.cut hT.1 hs hQ, fun hT hs h1 hQ => L.split hT.1 hs h1 hQ, fun hT hs hQ => L.has hT.1 hs hQ⟩
theorem libJC {I : Calls} (hI : Closed' Tryz.prog PmC I) : LibJ I TTc where
  dec hT hs hQ := hI.prim _ _ _ _ (.inr (.inl ⟨rfl, _, rfl, hs, hT.1.2, hQ⟩))
  fields hT hQ := hI.prim _ _ _ _ (.inr (.inr (.inl ⟨rfl, rfl, hT.2, hQ⟩)))
theorem repIC {I : Calls} (hI : Closed' Tryz.prog PmC I) : RepI I TTc := fun _ hn hQ => hI.prim _ _ _ _ (.inr (.inr (.inr ⟨rfl, _, rfl, hn, hQ⟩)))
end Go.Proofs.YtadakbmoanbcgaaGreatDoorVc
