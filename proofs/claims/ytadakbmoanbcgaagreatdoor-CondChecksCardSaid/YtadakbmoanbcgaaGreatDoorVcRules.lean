/- Vc, part 25: rules for formulas. -/
import Derived.Test.YtadakbmoanbcgaaGreatDoorVcTop
import Derived.KernelRfl
set_option linter.unusedSimpArgs false
set_option linter.unusedVariables false
namespace Go.Proofs.YtadakbmoanbcgaaGreatDoorVc

abbrev Calls := FuncId → List V → Post → T

/-- What holds of calls: the formulas' own. -/
structure Closed' (P : Program) (prim : Prim) (I : Calls) : Prop where
  prim : ∀ f args Q h, prim f args Q h → I f args Q h
  step : ∀ f args Q h, (∃ own A, denF P own A I f args Q h) → I f args Q h
  stepD : ∀ f args Q h, (∃ own A, denFD P own A I f args Q h) → I f args Q h
  stepB : ∀ f r args Q h, isBnd f = false → I f (r :: args) Q h → I (onB f) (args ++ [r]) Q h

theorem Does.intro {P : Program} {prim : Prim} {f : FuncId} {args : List V} {Q : Post} {h : Heap} (hI : ∀ I, Closed' P prim I → I f args Q h) : Does P prim f args Q h :=
  fun I hp hs hd hb => hI I ⟨hp, hs, hd, hb⟩

theorem Closed'.go {P : Program} {prim : Prim} {I : Calls} (hI : Closed' P prim I) (own : Nat) (A : Ann) {f : FuncId} {args : List V} {Q : Post} {h : Heap} {F : T} (hd : denF P own A I f args Q = F) (hF : F h) : I f args Q h :=
  hI.step f args Q h ⟨own, A, by rw [hd]; exact hF⟩

/-- A function that has its receiver by it. -/
theorem Closed'.goB {P : Program} {prim : Prim} {I : Calls} (hI : Closed' P prim I) {f : FuncId} {r : V} {args : List V} {Q : Post} {h : Heap} (hb : isBnd f = false) (hF : I f (r :: args) Q h) : I (onB f) (args ++ [r]) Q h :=
  hI.stepB f r args Q h hb hF
theorem Closed'.goD {P : Program} {prim : Prim} {I : Calls} (hI : Closed' P prim I) (own : Nat) (A : Ann) {f : FuncId} {args : List V} {Q : Post} {h : Heap} {F : T} (hd : denFD P own A I f args Q = F) (hF : F h) : I f args Q h :=
  hI.stepD f args Q h ⟨own, A, by rw [hd]; exact hF⟩

section
variable {h : Heap}

theorem ifT_intro {b : Bool} {x y : T} (h1 : b = true → x h) (h2 : b = false → y h) : ifT b x y h := by
  unfold ifT
  cases b with
  | true => exact h1 rfl
  | false => exact h2 rfl
theorem ifT_dec {p : Prop} [Decidable p] {x y : T} (h1 : p → x h) (h2 : ¬ p → y h) : ifT (decide p) x y h :=
  ifT_intro (fun e => h1 (of_decide_eq_true e)) fun e => h2 (of_decide_eq_false e)
theorem newK_intro {o : Obj} {k : Nat → T} (hk : ∀ i h', h i = none → h' = h.set i o → k i h') : newK o k h := fun i hi => hk i _ hi rfl
theorem loopK_intro {A : Type} {a : A} {f : (A → T) → A → T} (I : A → Heap → Nat → Prop) (m : Nat) (h0 : I a h m) (hr : ∀ a h m, I a h m → f (fun a' h' => ∃ m', m' < m ∧ I a' h' m') a h) : loopK a f h := ⟨I, ⟨m, h0⟩, hr⟩
theorem joinK_intro {A : Type} {r : A → T} {f : (A → T) → T} (J : A → T) (h2 : ∀ a h, J a h → r a h) (h1 : ∀ j : A → T, (∀ a h, J a h → j a h) → f j h) : joinK r f h :=
  fun j hj => h1 j fun a h hJ => hj a h (h2 a h hJ)
theorem derefK_intro {a : Option (Nat × Nat)} {f : Nat → Nat → T} {b o : Nat} (ha : a = some (b, o)) (hk : f b o h) : derefK a f h := by subst ha; exact hk

theorem read_length {b o n : Nat} {xs : List Cell} (hr : h.read b o n = some xs) : xs.length = n := by
  unfold Heap.read at hr
  split at hr
  · split at hr
    · cases hr; simp; omega
    · cases hr
  · cases hr
theorem read_part {b o n j m : Nat} {xs : List Cell} (hr : h.read b o n = some xs) (hj : j + m ≤ n) : h.read b (o + j) m = some ((xs.drop j).take m) := by
  unfold Heap.read at hr ⊢
  split at hr
  · rename_i ro cs hb
    split at hr
    · cases hr
      rw [if_pos (by omega)]
      rw [List.drop_take, List.drop_drop, List.take_take]
      congr 2
      omega
    · cases hr
  · cases hr

theorem At.lies {sz : Nat} {s : Sl} {xs : List Cell} (hs : At h sz s xs) (hne : 0 < xs.length) : ∃ b o, s.a = some (b, o) ∧ h.read b o xs.length = some xs := by
  obtain ⟨hl, rfl | hs⟩ := hs
  · simp at hne
  · unfold Heap.sl at hs
    cases ha : s.a with
    | none => rw [ha] at hs; cases hs; simp at hne
    | some p =>
      obtain ⟨b, o⟩ := p
      rw [ha] at hs
      simp only at hs
      rw [hl] at hs
      exact ⟨b, o, rfl, hs⟩

/-- A cell of a slice of single cells is read. -/
theorem At.one {s : Sl} {xs : List Cell} {i : Int} {f : Nat → Nat → T} (hs : At h 1 s xs) (hi : 0 ≤ i) (hlt : i < s.len)
    (hk : ∀ b o c, xs[i.toNat]? = some c → h.read b (o + i.toNat * 1) 1 = some [c] → f b o h) : derefK s.a f h := by
  have hl := hs.1
  obtain ⟨b, o, ha, hr⟩ := hs.lies (by omega)
  have hx : xs[i.toNat]? = some xs[i.toNat] := List.getElem?_eq_getElem (by omega)
  refine derefK_intro ha (hk b o _ hx ?_)
  rw [Nat.mul_one, read_part hr (by omega)]
  congr 1
  rw [List.take_one, List.head?_drop, hx]
  rfl

end

end Go.Proofs.YtadakbmoanbcgaaGreatDoorVc
