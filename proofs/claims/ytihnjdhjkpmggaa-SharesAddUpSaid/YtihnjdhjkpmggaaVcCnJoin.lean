/- strings.Join of this program is the library's: its contract of the kit's shelf stands over it. -/
import Derived.Test.YtihnjdhjkpmggaaVcWord
import Derived.Shelf.Strings.OnBuilder
import Derived.Below
import Derived.Test.YtihnjdhjkpmggaaProg
set_option linter.unusedVariables false
namespace Go.Proofs.YtihnjdhjkpmggaaVc
open Go.Proofs Go.Shelf Go.RowKit
def joinRen : Ren := ⟨fun n => match n with | 156 => 77 | 165 => 112 | 166 => 113 | 169 => 114 | 240 => 134 | 241 => 135 | 276 => 153 | 277 => 154 | n => n, fun n => match n with | 31 => 55 | 37 => 45 | 70 => 114 | 72 => 116 | 75 => 119 | 76 => 120 | 80 => 44 | 127 => 134 | 164 => 148 | n => n, fun n => n⟩
theorem joinLays : Lays.n156 Try.prog joinRen where
  mixed := by kernel_rfl
  f156 := by kernel_rfl
  f165 := by kernel_rfl
  f166 := by kernel_rfl
  f169 := by kernel_rfl
  f240 := by kernel_rfl
  f241 := by kernel_rfl
  f276 := by kernel_rfl
  f277 := by kernel_rfl
  t0 := Try.underlying0
  a0 := Try.isAgg0
  z0 := Try.sizeOf0
  v0 := Try.zeroValue0
  t3 := Try.underlying3
  a3 := Try.isAgg3
  z3 := Try.sizeOf3
  v3 := Try.zeroValue3
  t4 := Try.underlying4
  a4 := Try.isAgg4
  z4 := Try.sizeOf4
  v4 := Try.zeroValue4
  t9 := Try.underlying9
  a9 := Try.isAgg9
  z9 := Try.sizeOf9
  v9 := Try.zeroValue9
  t20 := Try.underlying20
  a20 := Try.isAgg20
  z20 := Try.sizeOf20
  v20 := Try.zeroValue20
  t31 := Try.underlying55
  a31 := Try.isAgg55
  z31 := Try.sizeOf55
  v31 := Try.zeroValue55
  t37 := Try.underlying45
  a37 := Try.isAgg45
  z37 := Try.sizeOf45
  v37 := Try.zeroValue45
  t70 := Try.underlying114
  a70 := Try.isAgg114
  z70 := Try.sizeOf114
  v70 := Try.zeroValue114
  t72 := Try.underlying116
  a72 := Try.isAgg116
  z72 := Try.sizeOf116
  v72 := Try.zeroValue116
  t75 := Try.underlying119
  a75 := Try.isAgg119
  z75 := Try.sizeOf119
  v75 := Try.zeroValue119
  t76 := Try.underlying120
  a76 := Try.isAgg120
  z76 := Try.sizeOf120
  v76 := Try.zeroValue120
  t127 := Try.underlying134
  a127 := Try.isAgg134
  z127 := Try.sizeOf134
  v127 := Try.zeroValue134
  t164 := Try.underlying148
  a164 := Try.isAgg148
  z164 := Try.sizeOf148
  v164 := Try.zeroValue148
theorem joinExtra : Builder.Extra Try.prog joinRen where
  sizeBuilder := by kernel_rfl
  liesBuilder := by kernel_rfl
  t5 := Try.underlying5
  a5 := Try.isAgg5
  z5 := Try.sizeOf5
  v5 := Try.zeroValue5
  infoByte := by kernel_rfl
  cellsByte := by kernel_rfl
  sizeByte := by kernel_rfl
  neB5 := by decide

theorem HR.below {ρ : Rho} {h : Heap} {w w' : World} (hr : HR ρ h w) (hb : Below w.heap.size w w') : HR ρ h w' where
  live i o l h1 h2 := by
    obtain ⟨ob, h3, h4⟩ := hr.live i o l h1 h2
    exact ⟨ob, by rw [hb.block _ (hr.dom i l h2)]; exact h3, h4⟩
  inj := hr.inj
  dom i l h1 := Nat.lt_of_lt_of_le (hr.dom i l h1) hb.size
  fresh := hr.fresh
theorem Fr.below {ρ : Rho} {h : Heap} {w w' : World} (hb : Below w.heap.size w w') : Fr ρ h w ρ h w' where
  os := hb.os
  tape := hb.tape
  output := hb.output
  size := hb.size
  sub := fun _ _ h => h
  new := fun _ _ h => .inl h
  keep := fun b h1 _ => hb.block b h1
  wr := fun _ _ h => h

def joined (xs : List ByteArray) (sep : ByteArray) : ByteArray := ⟨(Lib.join (xs.map (·.data.toList)) sep.data.toList).toArray⟩
/-- strings.Join of one string or more. -/
def JoinPrim (n : FuncId) : Prim := fun f args Q h => f = n ∧ ∃ s xs sep, args = [.one (.slice 1 s), .one (.str sep)] ∧ At h 1 s (xs.map .str) ∧ xs ≠ [] ∧ xs.length ≤ 140737488355328 ∧
  (Lib.join (xs.map (·.data.toList)) sep.data.toList).length ≤ 140737488355328 ∧ Q [.one (.str (joined xs sep))] h

theorem join_sound : Sound Try.prog (JoinPrim 77) := by
  rintro f args Q h ⟨rfl, s, xs, sep, rfl, hat, hne, hl, hj, hq⟩ ρ w vs hr hvs
  obtain ⟨vs⟩ := vs
  match vs, hvs with
  | [v0, v1], ⟨h0, h1, _⟩ =>
    obtain rfl : v1 = .string sep := h1
    obtain ⟨b, o, ha, hrd⟩ := hat.lies (by rw [List.length_map]; exact List.length_pos_iff.2 hne)
    obtain ⟨sa, n⟩ := s
    simp only at ha
    subst ha
    have hn : n = xs.length := by have := hat.1; simpa using this
    subst hn
    have h0' : CR ρ (.slice 1 ⟨some (b, o), xs.length⟩) v0 := h0
    obtain ⟨ad, c, rfl, hnc, hor⟩ := h0'
    have hpos := List.length_pos_iff.2 hne
    obtain ⟨l, hlo, rfl, hsp⟩ : ∃ l, ρ b = some l ∧ ad = ⟨l.block, l.base + o, none⟩ ∧ l.base + o + c * 1 ≤ l.size := by
      rcases hor with h2 | h2
      · exact h2
      · omega
    obtain ⟨cc, el, fz, hcb, hlen, hcs, _⟩ := hr.read hrd hlo
    have hcells : ∀ (j : Nat) x, xs[j]? = some x → w.cell? ⟨l.block, l.base + o + j, none⟩ = some (.string x) := fun j x hx => by
      rw [cell_at hcb]
      obtain ⟨u, hu, hcr⟩ := hcs.get (show (xs.map Cell.str)[j]? = some (.str x) by rw [List.getElem?_map, hx]; rfl)
      cases hcr
      rw [List.getElem?_take] at hu
      split at hu
      · rw [List.getElem?_drop] at hu; simpa using hu
      · cases hu
    have hcall := Any.strings_Join joinLays joinExtra l.block (l.base + o) c xs sep w hcells (hr.dom _ _ hlo) hl hnc hj
    refine .inl ⟨⟨_, Try.func77, by kernel_rfl, by kernel_rfl⟩, ?_⟩
    refine Calls.mono hcall fun e w' ⟨he, hb⟩ => ⟨_, he, ρ, h, _, ?_, hq, hr.below hb, Fr.below hb⟩
    exact rfl
end Go.Proofs.YtihnjdhjkpmggaaVc
