/- Two primitives: the keys of a map, as an iterator; an iterator of a map's keys, sorted. -/
import Derived.Test.YtmjfeabnioclgaaGreatDoorVcFrame
import Derived.Test.YtmjfeabnioclgaaGreatDoorVcStrB
import Derived.Test.YtmjfeabnioclgaaGreatDoorVcCmpW
set_option linter.unusedVariables false
namespace Go.Proofs.YtmjfeabnioclgaaGreatDoorVc
def keyVs (ks : List ByteArray) : List V := ks.map fun k => .one (.str k)
/-- maps.Keys of a map that is one: a function value that has caught one new place, which holds the map. -/
def KeysPrim (f0 g0 : FuncId) : Prim := fun f args Q h => f = f0 ∧ ∃ m : Nat, args = [.one (.map (some m))] ∧ h m ≠ none ∧ ∀ i, h i = none → Q [.one (.func (some (g0, [(i, 0)])))] (h.set i (.pin (.map (some m))))
/-- slices.Sorted of it: the map's keys, in order. -/
def SortedPrim (f0 g0 : FuncId) : Prim := fun f args Q h => f = f0 ∧ ∃ (i m : Nat) (es : List (V × V)) (ks : List ByteArray), args = [.one (.func (some (g0, [(i, 0)])))] ∧ h i = some (.pin (.map (some m))) ∧ h m = some (.map es) ∧ es.map (·.1) = keyVs ks ∧ ks.length ≤ 1000 ∧ (∀ k ∈ ks, k.size ≤ 1000) ∧
  ∀ (s' : Sl) (zs : List ByteArray) (h' : Heap), zs.Perm ks → zs.Pairwise (fun a b => bl a ≤ bl b) → Own h h' 1 s' (zs.map Cell.str) → Q [.one (.slice 1 s')] h'
end Go.Proofs.YtmjfeabnioclgaaGreatDoorVc
