/- Contracts, turned by a program to the numbers of this seat. -/
import Derived.Test.YtdjancoknephnaaGreatVcSsB
import Derived.Test.YtdjancoknephnaaGreatVcSsPk
import Derived.Test.YtdjancoknephnaaGreatVcSortGen2
import Derived.Test.YtdjancoknephnaaGreatVcNewB
import Derived.Test.YtdjancoknephnaaGreatVcRowG
import Derived.Test.YtdjancoknephnaaGreatVcSortList
set_option linter.unusedSimpArgs false
set_option linter.unusedVariables false
-- from CfOld
namespace Go.Proofs.YtdjancoknephnaaGreatVc
open Go.Proofs.Tryz (prog)
section
variable {I : Calls} {Q : Post} {h : Heap}
/-! ### the stream -/
/-! ### codes -/
/-! ### looking a string up -/
end
end Go.Proofs.YtdjancoknephnaaGreatVc
-- from CcSpec2
namespace Go.Proofs.YtdjancoknephnaaGreatVc
open Go.Proofs.Tryz (prog)
section
variable {I : Calls} {Q : Post} {h : Heap}
end
end Go.Proofs.YtdjancoknephnaaGreatVc
-- from CcSpec4
namespace Go.Proofs.YtdjancoknephnaaGreatVc
open Go.Proofs.Tryz (prog)
section
variable {I : Calls} {Q : Post} {h : Heap}
end
end Go.Proofs.YtdjancoknephnaaGreatVc
-- from CnSpec
namespace Go.Proofs.YtdjancoknephnaaGreatVc
open Go.Proofs.Tryz (prog)
section
variable {I : Calls} {Q : Post} {h : Heap}
end
end Go.Proofs.YtdjancoknephnaaGreatVc
-- from CsSort
namespace Go.Proofs.YtdjancoknephnaaGreatVc
open Go.Proofs.Tryz (prog)
section
variable {I : Calls} {Q : Post} {h : Heap}
end
end Go.Proofs.YtdjancoknephnaaGreatVc
-- from CsSpec1
namespace Go.Proofs.YtdjancoknephnaaGreatVc
open Go.Proofs.Tryz (prog)
section
variable {I : Calls} {Q : Post} {h : Heap}
/-! ### the stream's block, among one's own -/
end
end Go.Proofs.YtdjancoknephnaaGreatVc
-- from SpSpec1
namespace Go.Proofs.YtdjancoknephnaaGreatVc
open Go.Proofs.Tryz (prog)
section
variable {I : Calls} {Q : Post} {h : Heap}
theorem spec23 (hI : Closed' prog Pm I) {n a b : Int} (hQ : Q [boo (decide (a ≤ n) && decide (n ≤ b))] h) : I 23 [int n, int a, int b] Q h := by
  refine hI.go _ _ (den23 I n a b Q) ?_
  refine ifT_dec (fun h1 => ?_) (fun h1 => ?_)
  · simpa [h1] using hQ
  · simpa [h1] using hQ
theorem spec97 (hI : Closed' prog Pm I) {a b : Nat} (hQ : Q [u64 (Nat.gcd a b : Nat)] h) : I 97 [u64 a, u64 b] Q h := by
  refine hI.go _ _ (den97 I a b Q) ?_
  refine loopK_intro (fun (p : Int × Int) h' m => h' = h ∧ ∃ x y : Nat, p = ((x : Int), (y : Int)) ∧ y = m ∧ Nat.gcd x y = Nat.gcd a b) b ⟨rfl, a, b, rfl, rfl, rfl⟩ ?_
  rintro p h' m ⟨rfl, x, y, rfl, rfl, hg⟩
  dsimp only [uncur]
  refine ifT_intro (fun h1 => ?_) fun h1 => ?_
  · have h2 : ¬ (y : Int) = 0 := by simpa using h1
    refine ⟨h2, x % y, Nat.mod_lt _ (by omega), rfl, y, x % y, by rw [Int.ofNat_tmod], rfl, ?_⟩
    rw [← hg, Nat.gcd_comm x y, Nat.gcd_rec y x, Nat.gcd_comm]
  · have h2 : y = 0 := by have : (y : Int) = 0 := by simpa using h1
                          omega
    subst h2
    rw [Nat.gcd_zero_right] at hg
    subst hg
    exact hQ
theorem spec98 (hI : Closed' prog Pm I) {n : Nat} (h1 : n < 4611686018427387904) (hQ : Q [u64 n] h) : I 98 [int n] Q h := by
  refine hI.go _ _ (den98 I n Q) ?_
  refine ifT_dec (fun h2 => by omega) fun _ => ?_
  rw [wN n (by omega)]
  exact hQ
theorem spec70 (hI : Closed' prog Pm I) {a b : Nat} (h1 : a < 4611686018427387904) (h2 : b < 4611686018427387904) (h3 : 0 < b) (hQ : Q [frac (a / Nat.gcd a b : Nat) (b / Nat.gcd a b : Nat)] h) : I 70 [int a, int b] Q h := by
  refine hI.go _ _ (den70 I a b Q) ?_
  refine joinK_intro (fun (p : Int × Int) h' => h' = h ∧ p = ((a : Int), (b : Int))) ?_ fun j hj => ifT_dec (fun h => by omega) fun _ => hj _ _ ⟨rfl, rfl⟩
  rintro p h' ⟨rfl, rfl⟩
  dsimp only [uncur]
  have hg1 : 0 < Nat.gcd a b := Nat.gcd_pos_of_pos_right _ h3
  have hg2 : Nat.gcd a b ≤ b := Nat.gcd_le_right _ h3
  refine spec98 hI h1 ⟨_, rfl, spec98 hI h2 ⟨_, rfl, spec97 hI ⟨_, rfl, ?_⟩⟩⟩
  generalize Nat.gcd a b = g at *
  have e1 : IntKind.i64.wrap (g : Int) = g := w64 (by omega) (by omega)
  have la : a / g ≤ a := Nat.div_le_self _ _
  have lb : b / g ≤ b := Nat.div_le_self _ _
  have e2 : IntKind.i64.wrap ((a : Int).tdiv g) = (a / g : Nat) := by rw [← Int.ofNat_tdiv]; generalize a / g = z at *; exact w64 (by omega) (by omega)
  have e3 : IntKind.i64.wrap ((b : Int).tdiv g) = (b / g : Nat) := by rw [← Int.ofNat_tdiv]; generalize b / g = z at *; exact w64 (by omega) (by omega)
  rw [e1, e2, e3]
  exact ⟨by omega, by omega, hQ⟩
/-! ### weights -/
end
end Go.Proofs.YtdjancoknephnaaGreatVc
-- from QfSpec3
namespace Go.Proofs.YtdjancoknephnaaGreatVc
open Go.Proofs.Tryz (prog)
section
variable {I : Calls} {Q : Post} {h : Heap}
end
end Go.Proofs.YtdjancoknephnaaGreatVc
-- from SeKey
namespace Go.Proofs.YtdjancoknephnaaGreatVc
open Go.Proofs.Tryz (prog)
section
variable {I : Calls} {Q : Post} {h : Heap}
/-! ### strings.Trim -/
end
end Go.Proofs.YtdjancoknephnaaGreatVc
-- from SeSpec2
namespace Go.Proofs.YtdjancoknephnaaGreatVc
open Go.Proofs.Tryz (prog)
section
variable {I : Calls} {Q : Post} {h : Heap}
theorem seenS (xs : List Sent) (i : Nat) (s : ByteArray) : (((xs.take i).map (·.id)).any fun y => decide (y = s)) = ((xs.take i).any fun y => decide (y.id = s)) := by
  rw [List.any_map]; rfl
theorem seenG (xs : List Gain) (i : Nat) (s : ByteArray) : (((xs.take i).map (·.id)).any fun y => decide (y = s)) = ((xs.take i).any fun y => decide (y.id = s)) := by
  rw [List.any_map]; rfl
/-! ### the answer's -/
end
end Go.Proofs.YtdjancoknephnaaGreatVc
-- from SeSpec3
namespace Go.Proofs.YtdjancoknephnaaGreatVc
open Go.Proofs.Tryz (prog)
section
variable {I : Calls} {Q : Post} {h : Heap}
theorem bef {g : Gain} {w : Int} {x : Sent} (b1 : Bool) : before g w x = b1 → before g w x = b1 := id
theorem one_at {g : Gain} {i : Nat} (hn : h i = none) : At (h.set i (.cells false (gainC g))) 4 ⟨some (i, 0), 1⟩ (rows gainC [g]) := by
  refine ⟨rfl, .inr ?_⟩
  show (h.set i _).read i 0 _ = _
  rw [read_block (set_eq _ _ _) (by simp [gainC])]
  rfl
end
end Go.Proofs.YtdjancoknephnaaGreatVc
-- from SeSpec4
namespace Go.Proofs.YtdjancoknephnaaGreatVc
open Go.Proofs.Tryz (prog)
section
variable {I : Calls} {Q : Post} {h : Heap}
section
variable {hb : Heap} {i : Nat} {l : Sl} {zs : List Int} {t0 : Nat}
end
end
end Go.Proofs.YtdjancoknephnaaGreatVc
-- from AcOld2
namespace Go.Proofs.YtdjancoknephnaaGreatVc
open Go.Proofs.Tryz (prog)
 
section
variable {I : Calls} {Q : Post} {h : Heap}
/-! ### the stream -/
/-! ### codes -/
/-! ### looking a string up -/
end
end Go.Proofs.YtdjancoknephnaaGreatVc
-- from CcSpec2
namespace Go.Proofs.YtdjancoknephnaaGreatVc
open Go.Proofs.Tryz (prog)
section
variable {I : Calls} {Q : Post} {h : Heap}
end
end Go.Proofs.YtdjancoknephnaaGreatVc
-- from CcSpec4
namespace Go.Proofs.YtdjancoknephnaaGreatVc
open Go.Proofs.Tryz (prog)
section
variable {I : Calls} {Q : Post} {h : Heap}
end
end Go.Proofs.YtdjancoknephnaaGreatVc
-- from CnSpec
namespace Go.Proofs.YtdjancoknephnaaGreatVc
open Go.Proofs.Tryz (prog)
section
variable {I : Calls} {Q : Post} {h : Heap}
end
end Go.Proofs.YtdjancoknephnaaGreatVc
-- from CsSort
namespace Go.Proofs.YtdjancoknephnaaGreatVc
open Go.Proofs.Tryz (prog)
section
variable {I : Calls} {Q : Post} {h : Heap}
end
end Go.Proofs.YtdjancoknephnaaGreatVc
-- from CsSpec1
namespace Go.Proofs.YtdjancoknephnaaGreatVc
open Go.Proofs.Tryz (prog)
section
variable {I : Calls} {Q : Post} {h : Heap}
/-! ### the stream's block, among one's own -/
end
end Go.Proofs.YtdjancoknephnaaGreatVc
-- from SpSpec1
namespace Go.Proofs.YtdjancoknephnaaGreatVc
open Go.Proofs.Tryz (prog)
section
variable {I : Calls} {Q : Post} {h : Heap}
/-! ### weights -/
end
end Go.Proofs.YtdjancoknephnaaGreatVc
-- from QfSpec3
namespace Go.Proofs.YtdjancoknephnaaGreatVc
open Go.Proofs.Tryz (prog)
section
variable {I : Calls} {Q : Post} {h : Heap}
end
end Go.Proofs.YtdjancoknephnaaGreatVc
-- from SeKey
namespace Go.Proofs.YtdjancoknephnaaGreatVc
open Go.Proofs.Tryz (prog)
section
variable {I : Calls} {Q : Post} {h : Heap}
/-! ### strings.Trim -/
end
end Go.Proofs.YtdjancoknephnaaGreatVc
-- from SeSpec2
namespace Go.Proofs.YtdjancoknephnaaGreatVc
open Go.Proofs.Tryz (prog)
section
variable {I : Calls} {Q : Post} {h : Heap}
/-! ### the answer's -/
end
end Go.Proofs.YtdjancoknephnaaGreatVc
-- from SeSpec3
namespace Go.Proofs.YtdjancoknephnaaGreatVc
open Go.Proofs.Tryz (prog)
section
variable {I : Calls} {Q : Post} {h : Heap}
end
end Go.Proofs.YtdjancoknephnaaGreatVc
-- from SeSpec4
namespace Go.Proofs.YtdjancoknephnaaGreatVc
open Go.Proofs.Tryz (prog)
section
variable {I : Calls} {Q : Post} {h : Heap}
section
variable {hb : Heap} {i : Nat} {l : Sl} {zs : List Int} {t0 : Nat}
end
end
end Go.Proofs.YtdjancoknephnaaGreatVc
-- from GaOld2
namespace Go.Proofs.YtdjancoknephnaaGreatVc
open Go.Proofs.Tryz (prog)
section
variable {I : Calls} {Q : Post} {h : Heap}
/-! ### the stream -/
/-! ### codes -/
/-! ### looking a string up -/
end
end Go.Proofs.YtdjancoknephnaaGreatVc
-- from CcSpec2
namespace Go.Proofs.YtdjancoknephnaaGreatVc
open Go.Proofs.Tryz (prog)
section
variable {I : Calls} {Q : Post} {h : Heap}
end
end Go.Proofs.YtdjancoknephnaaGreatVc
-- from CcSpec4
namespace Go.Proofs.YtdjancoknephnaaGreatVc
open Go.Proofs.Tryz (prog)
section
variable {I : Calls} {Q : Post} {h : Heap}
end
end Go.Proofs.YtdjancoknephnaaGreatVc
-- from CnSpec
namespace Go.Proofs.YtdjancoknephnaaGreatVc
open Go.Proofs.Tryz (prog)
section
variable {I : Calls} {Q : Post} {h : Heap}
end
end Go.Proofs.YtdjancoknephnaaGreatVc
-- from CsBits
namespace Go.Proofs.YtdjancoknephnaaGreatVc
open Go.Proofs.Tryz (prog)
section
variable {I : Calls} {Q : Post} {h : Heap}
end
end Go.Proofs.YtdjancoknephnaaGreatVc
-- from CsSort
namespace Go.Proofs.YtdjancoknephnaaGreatVc
open Go.Proofs.Tryz (prog)
section
variable {I : Calls} {Q : Post} {h : Heap}
end
end Go.Proofs.YtdjancoknephnaaGreatVc
-- from CsSpec1
namespace Go.Proofs.YtdjancoknephnaaGreatVc
open Go.Proofs.Tryz (prog)
section
variable {I : Calls} {Q : Post} {h : Heap}
/-! ### the stream's block, among one's own -/
end
end Go.Proofs.YtdjancoknephnaaGreatVc
-- from CfFo
namespace Go.Proofs.YtdjancoknephnaaGreatVc
open Go.Proofs.Tryz (prog)
section
variable {I : Calls} {Q : Post} {h : Heap}
/-! ### the stream -/
/-! ### codes -/
/-! ### looking a string up -/
end
end Go.Proofs.YtdjancoknephnaaGreatVc
-- from CcSpec2
namespace Go.Proofs.YtdjancoknephnaaGreatVc
open Go.Proofs.Tryz (prog)
section
variable {I : Calls} {Q : Post} {h : Heap}
end
end Go.Proofs.YtdjancoknephnaaGreatVc
-- from CcSpec4
namespace Go.Proofs.YtdjancoknephnaaGreatVc
open Go.Proofs.Tryz (prog)
section
variable {I : Calls} {Q : Post} {h : Heap}
end
end Go.Proofs.YtdjancoknephnaaGreatVc
-- from CnSpec
namespace Go.Proofs.YtdjancoknephnaaGreatVc
open Go.Proofs.Tryz (prog)
section
variable {I : Calls} {Q : Post} {h : Heap}
end
end Go.Proofs.YtdjancoknephnaaGreatVc
-- from CsSort
namespace Go.Proofs.YtdjancoknephnaaGreatVc
open Go.Proofs.Tryz (prog)
section
variable {I : Calls} {Q : Post} {h : Heap}
end
end Go.Proofs.YtdjancoknephnaaGreatVc
-- from CsSpec1
namespace Go.Proofs.YtdjancoknephnaaGreatVc
open Go.Proofs.Tryz (prog)
section
variable {I : Calls} {Q : Post} {h : Heap}
/-! ### the stream's block, among one's own -/
end
end Go.Proofs.YtdjancoknephnaaGreatVc
-- from SpSpec1
namespace Go.Proofs.YtdjancoknephnaaGreatVc
open Go.Proofs.Tryz (prog)
section
variable {I : Calls} {Q : Post} {h : Heap}
/-! ### weights -/
end
end Go.Proofs.YtdjancoknephnaaGreatVc
-- from QfSpec3
namespace Go.Proofs.YtdjancoknephnaaGreatVc
open Go.Proofs.Tryz (prog)
section
variable {I : Calls} {Q : Post} {h : Heap}
end
end Go.Proofs.YtdjancoknephnaaGreatVc
-- from SeKey
namespace Go.Proofs.YtdjancoknephnaaGreatVc
open Go.Proofs.Tryz (prog)
section
variable {I : Calls} {Q : Post} {h : Heap}
/-! ### strings.Trim -/
end
end Go.Proofs.YtdjancoknephnaaGreatVc
-- from SeSpec2
namespace Go.Proofs.YtdjancoknephnaaGreatVc
open Go.Proofs.Tryz (prog)
section
variable {I : Calls} {Q : Post} {h : Heap}
/-! ### the answer's -/
end
end Go.Proofs.YtdjancoknephnaaGreatVc
-- from SeSpec3
namespace Go.Proofs.YtdjancoknephnaaGreatVc
open Go.Proofs.Tryz (prog)
section
variable {I : Calls} {Q : Post} {h : Heap}
end
end Go.Proofs.YtdjancoknephnaaGreatVc
-- from SeSpec4
namespace Go.Proofs.YtdjancoknephnaaGreatVc
open Go.Proofs.Tryz (prog)
section
variable {I : Calls} {Q : Post} {h : Heap}
section
variable {hb : Heap} {i : Nat} {l : Sl} {zs : List Int} {t0 : Nat}
end
end
end Go.Proofs.YtdjancoknephnaaGreatVc
-- from FoMath
namespace Go.Proofs.YtdjancoknephnaaGreatVc
open Go.Proofs.Tryz (prog)
structure Cel where
  kl : Sl
  keys : List ByteArray
  many : Int
  cents : Int
def celC (x : Cel) : List Cell := [.slice 1 x.kl, .int .i64 x.many, .int .i64 x.cents]
theorem celC_length (x : Cel) : (celC x).length = 3 := rfl
structure Cels (h : Heap) (s : Sl) (xs : List Cel) : Prop where
  at_ : At h 3 s (rows celC xs)
  keys : ∀ x ∈ xs, At h 1 x.kl (strs x.keys)
theorem Cels.len {h : Heap} {s : Sl} {xs : List Cel} (o : Cels h s xs) : s.len = xs.length := o.at_.rowsLen celC_length (by decide)
theorem Ext.cels {h h' : Heap} (x : Ext h h') {s : Sl} {xs : List Cel} (o : Cels h s xs) : Cels h' s xs := ⟨x.at_ o.at_, fun y hy => x.at_ (o.keys y hy)⟩
/-! ### the order of strings, and of lists of them -/
theorem toList_inj {a b : ByteArray} (h : a.toList = b.toList) : a = b := by
  rw [ByteArray.toList_eq, ByteArray.toList_eq] at h
  exact bl_inj h
abbrev KeyL := List (List UInt8)
def keyL (l : List ByteArray) : KeyL := l.map ByteArray.toList
theorem keyL_inj : ∀ {a b : List ByteArray}, keyL a = keyL b → a = b
  | [], [], _ => rfl
  | x :: a, y :: b, h => by
    simp only [keyL, List.map_cons, List.cons.injEq] at h
    rw [toList_inj h.1, keyL_inj (show keyL a = keyL b from h.2)]
  | [], _ :: _, h => by simp [keyL] at h
  | _ :: _, [], h => by simp [keyL] at h
def cmpS (a b : ByteArray) : Int := if a.toList < b.toList then -1 else if a = b then 0 else 1
def cmpL : List ByteArray → List ByteArray → Int
  | [], [] => 0
  | [], _ :: _ => -1
  | _ :: _, [] => 1
  | a :: x, b :: y => if cmpS a b = 0 then cmpL x y else cmpS a b
theorem cmpS_zero {a b : ByteArray} : cmpS a b = 0 ↔ a = b := by
  unfold cmpS
  split
  · rename_i h
    constructor
    · intro e; omega
    · rintro rfl; exact absurd h (List.lt_irrefl _)
  · split
    · rename_i h; simp [h]
    · rename_i h; simp [h]
theorem cmpS_neg {a b : ByteArray} : cmpS a b < 0 ↔ a.toList < b.toList := by
  unfold cmpS
  split
  · rename_i h; simp [h]
  · rename_i h
    split <;> simp [h]
theorem cmpL_zero : ∀ {a b : List ByteArray}, cmpL a b = 0 ↔ a = b
  | [], [] => by simp [cmpL]
  | [], _ :: _ => by simp [cmpL]
  | _ :: _, [] => by simp [cmpL]
  | a :: x, b :: y => by
    unfold cmpL
    split
    · rename_i h; rw [cmpS_zero] at h; subst h; rw [cmpL_zero]; simp
    · rename_i h; rw [cmpS_zero] at h; constructor
      · intro e; exact absurd (cmpS_zero.1 e) h
      · intro e; cases e; exact absurd rfl h
theorem cmpL_neg : ∀ {a b : List ByteArray}, cmpL a b < 0 ↔ keyL a < keyL b
  | [], [] => by simp [cmpL, keyL]
  | [], _ :: _ => by simp [cmpL, keyL]
  | _ :: _, [] => by simp [cmpL, keyL]
  | a :: x, b :: y => by
    unfold cmpL
    have ih := cmpL_neg (a := x) (b := y)
    simp only [keyL, List.map_cons, List.cons_lt_cons_iff] at ih ⊢
    split
    · rename_i h; rw [cmpS_zero] at h; subst h; rw [ih]; simp [List.lt_irrefl]
    · rename_i h
      rw [cmpS_neg]
      rw [cmpS_zero] at h
      constructor
      · intro e; exact .inl e
      · rintro (e | ⟨e, _⟩)
        · exact e
        · exact absurd (toList_inj e) h
/-- How cells are sorted. -/
def ltC (a b : Cel) : Bool := decide (cmpL a.keys b.keys < 0)
def leC (a b : Cel) : Prop := ltC b a = false
theorem leC_iff {a b : Cel} : leC a b ↔ ¬ keyL b.keys < keyL a.keys := by unfold leC ltC; rw [decide_eq_false_iff_not, cmpL_neg]
theorem leC_trans {a b c : Cel} (h1 : leC a b) (h2 : leC b c) : leC a c := by
  rw [leC_iff] at *
  rw [List.not_lt] at *
  exact List.le_trans h1 h2
theorem ltC_asymm {a b : Cel} (h : ltC b a = true) : leC b a := by
  unfold ltC at h
  rw [decide_eq_true_eq, cmpL_neg] at h
  rw [leC_iff]
  exact List.lt_asymm h
/-! ### the checks -/
def fullB (c : Cel) : Bool := (decide (0 ≤ c.many) && decide (c.many ≤ 1000000)) && (decide (-1000000000000 ≤ c.cents) && decide (c.cents ≤ 1000000000000))
theorem fullB_iff {c : Cel} : fullB c = true ↔ (0 ≤ c.many ∧ c.many ≤ 1000000) ∧ (-1000000000000 ≤ c.cents ∧ c.cents ≤ 1000000000000) := by simp [fullB]
def notUp (p : Option (List ByteArray)) (c : Cel) : Bool := match p with
  | some q => decide (cmpL c.keys q ≤ 0)
  | none => false
def errC1 (n : Nat) (p : Option (List ByteArray)) (c : Cel) : Int :=
  if c.keys.length ≠ n ∨ 6 < c.keys.length then 3 else if (c.keys.any fun s => !isKey s) = true then 5 else if notUp p c = true then 7 else if fullB c = false then 1 else 0
def scanC (n : Nat) : Option (List ByteArray) → List Cel → Int
  | _, [] => 0
  | p, c :: l => if errC1 n p c ≠ 0 then errC1 n p c else scanC n (some c.keys) l
def pvC (xs : List Cel) (i : Nat) : Option (List ByteArray) := if i = 0 then none else xs[i - 1]?.map (·.keys)
def dimN : List Cel → Nat
  | [] => 6
  | c :: _ => c.keys.length
def errC (xs : List Cel) : Int := if 2000 < xs.length then 2 else scanC (dimN xs) none xs
theorem scanC_at {n : Nat} {xs : List Cel} {i : Nat} {c : Cel} (hx : xs[i]? = some c) :
    scanC n (pvC xs i) (xs.drop i) = if errC1 n (pvC xs i) c ≠ 0 then errC1 n (pvC xs i) c else scanC n (pvC xs (i + 1)) (xs.drop (i + 1)) := by
  obtain ⟨hi, rfl⟩ := List.getElem?_eq_some_iff.1 hx
  rw [List.drop_eq_getElem_cons hi]
  show (if _ then _ else _) = _
  have : pvC xs (i + 1) = some xs[i].keys := by simp [pvC, hx]
  rw [this]
theorem scanC_ok {n : Nat} : ∀ {xs : List Cel} {p : Option (List ByteArray)}, scanC n p xs = 0 → ∀ c ∈ xs, c.keys.length = n ∧ n ≤ 6 ∧ (c.keys.any fun s => !isKey s) = false ∧ fullB c = true
  | [], _, _, c, hc => by cases hc
  | x :: xs, p, h, c, hc => by
    unfold scanC at h
    by_cases h0 : errC1 n p x = 0
    · rw [if_neg (by simp [h0])] at h
      rcases List.mem_cons.1 hc with rfl | hc
      · unfold errC1 at h0
        split at h0
        · cases h0
        · rename_i h1
          split at h0
          · cases h0
          · rename_i h2
            split at h0
            · cases h0
            · split at h0
              · cases h0
              · rename_i h3
                exact ⟨by omega, by omega, by simpa using h2, by simpa using h3⟩
      · exact scanC_ok h c hc
    · rw [if_pos h0] at h; exact absurd h h0
theorem scanC_zero {n : Nat} : ∀ {xs : List Cel} {p : Option (List ByteArray)}, (∀ c ∈ xs, c.keys.length = n ∧ n ≤ 6 ∧ (c.keys.any fun s => !isKey s) = false ∧ fullB c = true) →
    xs.Pairwise (fun a b => keyL a.keys < keyL b.keys) → (∀ q, p = some q → ∀ c ∈ xs, keyL q < keyL c.keys) → scanC n p xs = 0
  | [], _, _, _, _ => rfl
  | x :: xs, p, h1, h2, h3 => by
    obtain ⟨h4, h5⟩ := List.pairwise_cons.1 h2
    obtain ⟨a1, a2, a3, a4⟩ := h1 x (by simp)
    have hu : notUp p x = false := by
      cases p with
      | none => rfl
      | some q =>
        have h6 := h3 q rfl x (by simp)
        unfold notUp
        simp only [decide_eq_false_iff_not]
        intro h7
        have h8 : ¬ cmpL x.keys q < 0 := fun h => List.lt_asymm h6 (cmpL_neg.1 h)
        have h9 : cmpL x.keys q = 0 := by omega
        rw [cmpL_zero.1 h9] at h6
        exact List.lt_irrefl _ h6
    have h0 : errC1 n p x = 0 := by
      unfold errC1
      rw [if_neg (by omega), if_neg (by simp [a3]), if_neg (by simp [hu]), if_neg (by simp [a4])]
    unfold scanC
    rw [if_neg (by simp [h0])]
    exact scanC_zero (fun c hc => h1 c (by simp [hc])) h5 fun q hq c hc => by cases hq; exact h4 c hc
/-! ### what is kept -/
def errK1 (d : Nat) (p : Option Int) (k : Int) : Int := if ¬ (0 ≤ k ∧ k ≤ (d : Int) - 1) then 1 else match p with
  | some q => if k ≤ q then 7 else 0
  | none => 0
def scanK (d : Nat) : Option Int → List Int → Int
  | _, [] => 0
  | p, k :: l => if errK1 d p k ≠ 0 then errK1 d p k else scanK d (some k) l
def pvK (ks : List Int) (i : Nat) : Option Int := if i = 0 then none else ks[i - 1]?
theorem scanK_at {d : Nat} {ks : List Int} {i : Nat} {k : Int} (hx : ks[i]? = some k) :
    scanK d (pvK ks i) (ks.drop i) = if errK1 d (pvK ks i) k ≠ 0 then errK1 d (pvK ks i) k else scanK d (pvK ks (i + 1)) (ks.drop (i + 1)) := by
  obtain ⟨hi, rfl⟩ := List.getElem?_eq_some_iff.1 hx
  rw [List.drop_eq_getElem_cons hi]
  show (if _ then _ else _) = _
  have : pvK ks (i + 1) = some ks[i] := by simp [pvK, hx]
  rw [this]
theorem scanK_ok {d : Nat} : ∀ {ks : List Int} {p : Option Int}, scanK d p ks = 0 → ∀ k ∈ ks, 0 ≤ k ∧ k < (d : Int)
  | [], _, _, k, hk => by cases hk
  | x :: ks, p, h, k, hk => by
    unfold scanK at h
    by_cases h0 : errK1 d p x = 0
    · rw [if_neg (by simp [h0])] at h
      rcases List.mem_cons.1 hk with rfl | hk
      · unfold errK1 at h0
        split at h0
        · cases h0
        · rename_i h1; omega
      · exact scanK_ok h k hk
    · rw [if_pos h0] at h; exact absurd h h0
def errF (xs : List Cel) (keep : List Int) : Int := if errC xs ≠ 0 then errC xs else scanK (dimN xs) none keep
def prK (keep : List Int) (c : Cel) : List ByteArray := keep.map fun k => c.keys.getD k.toNat ⟨#[]⟩
/-! ### adding up -/
def addC (out : List Cel) (c : Cel) : List Cel := match out.getLast? with
  | some l => if l.keys = c.keys then out.dropLast ++ [⟨l.kl, l.keys, l.many + c.many, l.cents + c.cents⟩] else out ++ [c]
  | none => [c]
def mergeC (ys : List Cel) : List Cel := ys.foldl addC []
abbrev pc (c : Cel) : List ByteArray × Int × Int := (c.keys, c.many, c.cents)
def FoldOf (xs : List Cel) (keep : List Int) (out : List Cel) : Prop := ∃ ps ys : List Cel, ps.map pc = xs.map (fun c => (prK keep c, c.many, c.cents)) ∧ ys.Perm ps ∧ ys.Pairwise leC ∧ out = mergeC ys
theorem last_cases (out : List Cel) : out = [] ∨ ∃ P l, out = P ++ [l] := by
  rcases List.eq_nil_or_concat out with h | ⟨P, l, h⟩
  · exact .inl h
  · exact .inr ⟨P, l, by simpa using h⟩
theorem addC_nil (c : Cel) : addC [] c = [c] := rfl
theorem addC_eq {P : List Cel} {l c : Cel} (h : l.keys = c.keys) : addC (P ++ [l]) c = P ++ [⟨l.kl, l.keys, l.many + c.many, l.cents + c.cents⟩] := by
  simp [addC, h]
theorem addC_ne {P : List Cel} {l c : Cel} (h : l.keys ≠ c.keys) : addC (P ++ [l]) c = P ++ [l] ++ [c] := by
  simp [addC, h]
theorem sum_perm : ∀ {a b : List Int}, a.Perm b → a.sum = b.sum := fun h => by
  induction h with
  | nil => rfl
  | cons x _ ih => simp [ih]
  | swap x y l => simp only [List.sum_cons]; omega
  | trans _ _ h1 h2 => exact h1.trans h2
def manyS (l : List Cel) : Int := (l.map (·.many)).sum
def centsS (l : List Cel) : Int := (l.map (·.cents)).sum
theorem manyS_append (a b : List Cel) : manyS (a ++ b) = manyS a + manyS b := by simp [manyS, List.sum_append]
theorem centsS_append (a b : List Cel) : centsS (a ++ b) = centsS a + centsS b := by simp [centsS, List.sum_append]
theorem manyS_one (a : Cel) : manyS [a] = a.many := by simp [manyS]
theorem centsS_one (a : Cel) : centsS [a] = a.cents := by simp [centsS]
theorem addC_sums (out : List Cel) (c : Cel) : manyS (addC out c) = manyS out + c.many ∧ centsS (addC out c) = centsS out + c.cents := by
  rcases last_cases out with rfl | ⟨P, l, rfl⟩
  · rw [addC_nil]; simp [manyS, centsS]
  · by_cases h : l.keys = c.keys
    · rw [addC_eq h]; simp only [manyS_append, centsS_append, manyS_one, centsS_one]; omega
    · rw [addC_ne h]; simp only [manyS_append, centsS_append, manyS_one, centsS_one]; exact ⟨trivial, trivial⟩
theorem foldC_sums : ∀ (ys out : List Cel), manyS (ys.foldl addC out) = manyS out + manyS ys ∧ centsS (ys.foldl addC out) = centsS out + centsS ys
  | [], out => by simp [manyS, centsS]
  | y :: ys, out => by
    have h1 := addC_sums out y
    have h2 := foldC_sums ys (addC out y)
    have h3 : manyS (y :: ys) = y.many + manyS ys := by simp [manyS]
    have h4 : centsS (y :: ys) = y.cents + centsS ys := by simp [centsS]
    rw [List.foldl_cons]
    omega
theorem addC_mem {out : List Cel} {c d : Cel} (hd : d ∈ addC out c) : d.keys = c.keys ∧ d.kl = c.kl ∨ ∃ x ∈ out, d.keys = x.keys ∧ d.kl = x.kl := by
  rcases last_cases out with rfl | ⟨P, l, rfl⟩
  · rw [addC_nil] at hd; have := List.mem_singleton.1 hd; subst this; exact .inl ⟨rfl, rfl⟩
  · by_cases h : l.keys = c.keys
    · rw [addC_eq h] at hd
      rcases List.mem_append.1 hd with hd | hd
      · exact .inr ⟨d, by simp [hd], rfl, rfl⟩
      · have := List.mem_singleton.1 hd; subst this; exact .inr ⟨l, by simp, rfl, rfl⟩
    · rw [addC_ne h] at hd
      rcases List.mem_append.1 hd with hd | hd
      · exact .inr ⟨d, hd, rfl, rfl⟩
      · have := List.mem_singleton.1 hd; subst this; exact .inl ⟨rfl, rfl⟩
theorem foldC_mem : ∀ {ys out : List Cel} {d : Cel}, d ∈ ys.foldl addC out → (∃ y ∈ ys, d.keys = y.keys ∧ d.kl = y.kl) ∨ ∃ x ∈ out, d.keys = x.keys ∧ d.kl = x.kl
  | [], out, d, hd => .inr ⟨d, hd, rfl, rfl⟩
  | y :: ys, out, d, hd => by
    rw [List.foldl_cons] at hd
    rcases foldC_mem hd with ⟨z, hz, h1⟩ | ⟨x, hx, h1⟩
    · exact .inl ⟨z, by simp [hz], h1⟩
    · rcases addC_mem hx with ⟨h2, h3⟩ | ⟨w, hw, h2, h3⟩
      · exact .inl ⟨y, by simp, h1.1.trans h2, h1.2.trans h3⟩
      · exact .inr ⟨w, hw, h1.1.trans h2, h1.2.trans h3⟩
theorem addC_len (out : List Cel) (c : Cel) : (addC out c).length ≤ out.length + 1 ∧ 0 < (addC out c).length := by
  rcases last_cases out with rfl | ⟨P, l, rfl⟩
  · simp [addC_nil]
  · by_cases h : l.keys = c.keys
    · rw [addC_eq h]; simp
    · rw [addC_ne h]; simp
theorem foldC_len : ∀ (ys out : List Cel), (ys.foldl addC out).length ≤ out.length + ys.length ∧ (0 < out.length + ys.length → 0 < (ys.foldl addC out).length)
  | [], out => by simp
  | y :: ys, out => by
    have h1 := addC_len out y
    have h2 := foldC_len ys (addC out y)
    rw [List.foldl_cons, List.length_cons]
    exact ⟨by omega, fun _ => h2.2 (by omega)⟩
abbrev UpC (l : List Cel) : Prop := l.Pairwise fun a b => keyL a.keys < keyL b.keys
theorem lt_of_le_ne {a c : Cel} (h1 : leC a c) (h2 : a.keys ≠ c.keys) : keyL a.keys < keyL c.keys := by
  rw [leC_iff] at h1
  rcases Decidable.em (keyL a.keys < keyL c.keys) with h3 | h3
  · exact h3
  · exact absurd (keyL_inj (List.le_antisymm (List.not_lt.1 h1) (List.not_lt.1 h3))) h2
theorem addC_up {out : List Cel} {c : Cel} (h : UpC out) (hl : ∀ a ∈ out, leC a c) : UpC (addC out c) := by
  rcases last_cases out with rfl | ⟨P, l, rfl⟩
  · rw [addC_nil]; exact List.pairwise_singleton _ _
  · obtain ⟨h1, _, h3⟩ := List.pairwise_append.1 h
    by_cases hk : l.keys = c.keys
    · rw [addC_eq hk]
      refine List.pairwise_append.2 ⟨h1, List.pairwise_singleton _ _, fun a ha b hb => ?_⟩
      have := List.mem_singleton.1 hb; subst this
      exact h3 a ha l (by simp)
    · rw [addC_ne hk]
      have hlc : keyL l.keys < keyL c.keys := lt_of_le_ne (hl l (by simp)) hk
      refine List.pairwise_append.2 ⟨h, List.pairwise_singleton _ _, fun a ha b hb => ?_⟩
      have := List.mem_singleton.1 hb; subst this
      rcases List.mem_append.1 ha with ha | ha
      · exact List.lt_trans (h3 a ha l (by simp)) hlc
      · have := List.mem_singleton.1 ha; subst this; exact hlc
theorem leC_keys {a b c : Cel} (h : leC a c) (hk : b.keys = a.keys) : leC b c := by rw [leC_iff] at *; rw [hk]; exact h
theorem foldC_up : ∀ {ys out : List Cel}, UpC out → ys.Pairwise leC → (∀ a ∈ out, ∀ y ∈ ys, leC a y) → UpC (ys.foldl addC out)
  | [], out, h, _, _ => h
  | y :: ys, out, h, hp, ha => by
    obtain ⟨h1, h2⟩ := List.pairwise_cons.1 hp
    rw [List.foldl_cons]
    refine foldC_up (addC_up h fun a ha' => ha a ha' y (by simp)) h2 fun d hd z hz => ?_
    rcases addC_mem hd with ⟨h3, _⟩ | ⟨x, hx, h3, _⟩
    · exact leC_keys (h1 z hz) h3
    · exact leC_keys (ha x hx z (by simp [hz])) h3
theorem FoldOf.facts {xs : List Cel} {keep : List Int} {out : List Cel} (f : FoldOf xs keep out) :
    manyS out = manyS xs ∧ centsS out = centsS xs ∧ UpC out ∧ (∀ c ∈ out, ∃ x ∈ xs, c.keys = prK keep x) ∧ out.length ≤ xs.length ∧ (xs ≠ [] → out ≠ []) := by
  obtain ⟨ps, ys, hps, hperm, hpw, rfl⟩ := f
  have hl : ps.length = xs.length := by have := congrArg List.length hps; simpa using this
  have hyl : ys.length = xs.length := hperm.length_eq.trans hl
  have hm : manyS ys = manyS xs := by
    have h1 : manyS ys = manyS ps := by unfold manyS; exact sum_perm (hperm.map _)
    have h2 := congrArg (List.map fun p : List ByteArray × Int × Int => p.2.1) hps
    simp only [List.map_map, Function.comp_def] at h2
    rw [h1]; unfold manyS; rw [show (ps.map fun x => x.many) = _ from h2]
  have hc : centsS ys = centsS xs := by
    have h1 : centsS ys = centsS ps := by unfold centsS; exact sum_perm (hperm.map _)
    have h2 := congrArg (List.map fun p : List ByteArray × Int × Int => p.2.2) hps
    simp only [List.map_map, Function.comp_def] at h2
    rw [h1]; unfold centsS; rw [show (ps.map fun x => x.cents) = _ from h2]
  have hs := foldC_sums ys []
  have hn := foldC_len ys []
  refine ⟨?_, ?_, foldC_up List.Pairwise.nil hpw (fun _ h => by cases h), fun c hc' => ?_, ?_, fun hne e => ?_⟩
  · have := hs.1; simp only [manyS, List.map_nil, List.sum_nil, Int.zero_add] at this ⊢; exact this.trans hm
  · have := hs.2; simp only [centsS, List.map_nil, List.sum_nil, Int.zero_add] at this ⊢; exact this.trans hc
  · rcases foldC_mem hc' with ⟨y, hy, hk, _⟩ | ⟨x, hx, _⟩
    · have hyp : y ∈ ps := hperm.mem_iff.1 hy
      have h1 : pc y ∈ ps.map pc := List.mem_map_of_mem hyp
      rw [hps, List.mem_map] at h1
      obtain ⟨x, hx, h2⟩ := h1
      exact ⟨x, hx, by rw [hk]; exact (congrArg Prod.fst h2).symm⟩
    · cases hx
  · have := hn.1; simp only [List.length_nil] at this; unfold mergeC; omega
  · have : 0 < xs.length := List.length_pos_iff.2 hne
    have := hn.2 (by simp only [List.length_nil]; omega)
    unfold mergeC at e
    rw [e] at this
    cases this
end Go.Proofs.YtdjancoknephnaaGreatVc
-- from FoSpec1
namespace Go.Proofs.YtdjancoknephnaaGreatVc
open Go.Proofs.Tryz (prog)
section
variable {I : Calls} {Q : Post} {h : Heap}
abbrev sls (k : Nat) (s : Sl) : V := .one (.slice k s)
theorem strs_len {s : Sl} {xs : List ByteArray} (hs : At h 1 s (strs xs)) : s.len = xs.length := by have := hs.1; simpa [strs] using this
theorem spec54f (hI : Closed' prog Pm I) {a b : ByteArray} (hQ : Q [int (cmpS a b)] h) : I 54 [str a, str b] Q h := by
  refine hI.go _ _ (den54 I a b Q) ?_
  refine spec79 hI ⟨false, rfl, spec79 hI ⟨false, rfl, ?_⟩⟩
  show ifT _ _ _ _
  rw [bytes_lt]
  unfold cmpS at hQ
  refine ifT_dec (fun h1 => ?_) fun h1 => ifT_intro (fun h2 => ?_) fun h2 => ?_
  · rw [if_pos h1] at hQ; exact hQ
  · rw [if_neg h1, if_neg (fun e => by simp [e] at h2)] at hQ; exact hQ
  · have : a = b := by
      simp only [Bool.not_eq_false', Bool.or_eq_true, decide_eq_true_eq] at h2
      exact h2.resolve_left h1
    rw [if_neg h1, if_pos this] at hQ; exact hQ
theorem cmpL_at {a b : List ByteArray} {i : Nat} {x y : ByteArray} (hx : a[i]? = some x) (hy : b[i]? = some y) : cmpL (a.drop i) (b.drop i) = if cmpS x y = 0 then cmpL (a.drop (i + 1)) (b.drop (i + 1)) else cmpS x y := by
  obtain ⟨h1, rfl⟩ := List.getElem?_eq_some_iff.1 hx
  obtain ⟨h2, rfl⟩ := List.getElem?_eq_some_iff.1 hy
  rw [List.drop_eq_getElem_cons h1, List.drop_eq_getElem_cons h2]
  rfl
theorem spec26 (hI : Closed' prog Pm I) {s t : Sl} {a b : List ByteArray} (ha : At h 1 s (strs a)) (hb : At h 1 t (strs b)) (hl : a.length < 1000000) (hQ : Q [int (cmpL a b)] h) : I 26 [sls 1 s, sls 1 t] Q h := by
  refine hI.go _ _ (den26 I s t Q) ?_
  have l1 := strs_len ha
  have l2 := strs_len hb
  refine loopK_intro (fun (n : Int) h' m => h' = h ∧ ∃ i : Nat, i ≤ a.length ∧ i ≤ b.length ∧ n = i ∧ a.length - i = m ∧ cmpL a b = cmpL (a.drop i) (b.drop i)) a.length ⟨rfl, 0, by omega, by omega, rfl, rfl, rfl⟩ ?_
  rintro n h' m ⟨rfl, i, hi, hi2, rfl, rfl, he⟩
  refine ifT_dec (fun hlt => ⟨⟨by omega, hlt⟩, ?_⟩) fun hge => ?_
  · have hx := List.getElem?_eq_getElem (show i < a.length by omega)
    generalize a[i] = x at hx
    refine ha.strRow hx fun bb o hr => ⟨x, hr, ifT_dec (fun h1 => ?_) fun h1 => ⟨⟨by omega, by omega⟩, ?_⟩⟩
    · have : i = b.length := by omega
      rw [he, this, List.drop_length] at hQ
      have e : a.drop b.length ≠ [] := fun e => by have := congrArg List.length e; simp at this; omega
      revert hQ e
      cases a.drop b.length with
      | nil => intro _ e; exact absurd rfl e
      | cons z l => intro hQ _; exact hQ
    · have hy := List.getElem?_eq_getElem (show i < b.length by omega)
      generalize b[i] = y at hy
      refine hb.strRow hy fun bb o hr => ⟨y, hr, spec54f hI ⟨_, rfl, ifT_intro (fun h2 => ?_) fun h2 => ?_⟩⟩
      · rw [he, cmpL_at hx hy, if_neg (nd h2)] at hQ; exact hQ
      · rw [cmpL_at hx hy, if_pos (Decidable.of_not_not (nd' h2))] at he
        exact ⟨a.length - (i + 1), by omega, rfl, i + 1, by omega, by omega, by rw [w64] <;> omega, rfl, he⟩
  · have : i = a.length := by omega
    subst this
    rw [he, List.drop_length] at hQ
    refine ifT_dec (fun h1 => ?_) fun h1 => ?_
    · have e : b.drop a.length ≠ [] := fun e => by have := congrArg List.length e; simp at this; omega
      revert hQ e
      cases b.drop a.length with
      | nil => intro _ e; exact absurd rfl e
      | cons z l => intro hQ _; exact hQ
    · have : b.drop a.length = [] := List.drop_eq_nil_of_le (by omega)
      rw [this] at hQ; exact hQ
theorem spec25 (hI : Closed' prog Pm I) {x y : Cel} (hx : At h 1 x.kl (strs x.keys)) (hy : At h 1 y.kl (strs y.keys)) (hl : x.keys.length < 1000000) (hQ : Q [int (cmpL x.keys y.keys)] h) : I 25 [.agg (celC x), .agg (celC y)] Q h := by
  refine hI.go _ _ (den25 I x.kl x.many x.cents y.kl y.many y.cents Q) ?_
  exact spec26 hI hx hy hl ⟨_, rfl, hQ⟩
theorem spec27 (hI : Closed' prog Pm I) {s t : Sl} {a b : List ByteArray} (ha : At h 1 s (strs a)) (hb : At h 1 t (strs b)) (hl : a.length < 1000000) (hQ : Q [boo (decide (a = b))] h) : I 27 [sls 1 s, sls 1 t] Q h := by
  refine hI.go _ _ (den27 I s t Q) ?_
  have l1 := strs_len ha
  have l2 := strs_len hb
  have no : a ≠ b → Q [boo false] h := fun h1 => by rw [decide_eq_false h1] at hQ; exact hQ
  refine ifT_intro (fun h1 => no fun e => nd h1 (by rw [l1, l2, e])) fun h1 => ?_
  have hll : a.length = b.length := by have := Decidable.of_not_not (nd' h1); omega
  refine loopK_intro (fun (n : Int) h' m => h' = h ∧ ∃ i : Nat, i ≤ a.length ∧ n = i ∧ a.length - i = m ∧ a.take i = b.take i) a.length ⟨rfl, 0, by omega, rfl, rfl, rfl⟩ ?_
  rintro n h' m ⟨rfl, i, hi, rfl, rfl, he⟩
  refine ifT_dec (fun hlt => ⟨⟨by omega, hlt⟩, ?_⟩) fun hge => ?_
  · have hx := List.getElem?_eq_getElem (show i < a.length by omega)
    generalize a[i] = x at hx
    have hy := List.getElem?_eq_getElem (show i < b.length by omega)
    generalize b[i] = y at hy
    refine ha.strRow hx fun bb o hr => ⟨x, hr, ⟨by omega, by omega⟩, hb.strRow hy fun bb o hr => ⟨y, hr, ifT_intro (fun h2 => no fun e => nd h2 ?_) fun h2 => ?_⟩⟩
    · rw [e, hy] at hx; exact (Option.some.inj hx).symm
    · have e : x = y := Decidable.of_not_not (nd' h2)
      refine ⟨a.length - (i + 1), by omega, rfl, i + 1, by omega, by rw [w64] <;> omega, rfl, ?_⟩
      rw [take_snoc hx, take_snoc hy, he, e]
  · have : i = a.length := by omega
    subst this
    rw [List.take_length, hll, List.take_length] at he
    rw [decide_eq_true he] at hQ; exact hQ
theorem spec40 (hI : Closed' prog Pm I) {x y : Cel} (hx : At h 1 x.kl (strs x.keys)) (hy : At h 1 y.kl (strs y.keys)) (hl : x.keys.length < 1000000) (hQ : Q [boo (decide (pc x = pc y))] h) : I 40 [.agg (celC x), .agg (celC y)] Q h := by
  refine hI.go _ _ (den40 I x.kl x.many x.cents y.kl y.many y.cents Q) ?_
  refine spec27 hI hx hy hl ⟨_, rfl, ifT_dec (fun h1 => ifT_dec (fun h2 => ?_) fun h2 => ?_) fun h1 => ?_⟩
  · have : decide (pc x = pc y) = decide (x.cents = y.cents) := by simp [pc, h1, h2]
    rw [this] at hQ; exact hQ
  · have : decide (pc x = pc y) = false := by simp [pc, h1, h2]
    rw [this] at hQ; exact hQ
  · have : decide (pc x = pc y) = false := by simp [pc, h1]
    rw [this] at hQ; exact hQ
theorem spec11 (hI : Closed' prog Pm I) {s t : Sl} {a b : List Cel} (ha : Cels h s a) (hb : Cels h t b) (hl : a.length < 1000000) (hk : ∀ x ∈ a, x.keys.length < 1000000) (hQ : Q [boo (decide (a.map pc = b.map pc))] h) : I 11 [sls 3 s, sls 3 t] Q h := by
  refine hI.go _ _ (den11 I s t Q) ?_
  refine hI.go _ _ (den39 I s t (some (40, [])) _) ?_
  have l1 := ha.len
  have l2 := hb.len
  have no : a.map pc ≠ b.map pc → Q [boo false] h := fun h1 => by rw [decide_eq_false h1] at hQ; exact hQ
  refine ifT_intro (fun h1 => ⟨_, rfl, no fun e => nd h1 ?_⟩) fun h1 => ?_
  · have := congrArg List.length e; simp at this; rw [l1, l2, this]
  have hll : a.length = b.length := by have := Decidable.of_not_not (nd' h1); omega
  refine loopK_intro (fun (n : Int) h' m => h' = h ∧ ∃ i : Nat, i ≤ a.length ∧ n = i ∧ a.length - i = m ∧ (a.map pc).take i = (b.map pc).take i) a.length ⟨rfl, 0, by omega, rfl, rfl, rfl⟩ ?_
  rintro n h' m ⟨rfl, i, hi, rfl, rfl, he⟩
  refine ifT_dec (fun hlt => ⟨⟨by omega, hlt⟩, ?_⟩) fun hge => ?_
  · have hx := List.getElem?_eq_getElem (show i < a.length by omega)
    generalize a[i] = x at hx
    have hy := List.getElem?_eq_getElem (show i < b.length by omega)
    generalize b[i] = y at hy
    have hx' : (a.map pc)[i]? = some (pc x) := by rw [List.getElem?_map, hx]; rfl
    have hy' : (b.map pc)[i]? = some (pc y) := by rw [List.getElem?_map, hy]; rfl
    refine ha.at_.row celC_length (by decide) hx fun bb o hr => ⟨x.kl, x.many, x.cents, hr, ⟨by omega, by omega⟩, hb.at_.row celC_length (by decide) hy fun bb o hr => ⟨y.kl, y.many, y.cents, hr, ?_⟩⟩
    refine spec40 hI (x := x) (y := y) (ha.keys x (List.mem_of_getElem? hx)) (hb.keys y (List.mem_of_getElem? hy)) (hk x (List.mem_of_getElem? hx)) ⟨_, rfl, ifT_intro (fun h2 => ?_) fun h2 => ?_⟩
    · refine ⟨_, rfl, no fun e => nd h2 ?_⟩
      rw [e, hy'] at hx'; exact (Option.some.inj hx').symm
    · have e : pc x = pc y := Decidable.of_not_not (nd' h2)
      refine ⟨a.length - (i + 1), by omega, rfl, i + 1, by omega, by rw [w64] <;> omega, rfl, ?_⟩
      rw [take_snoc hx', take_snoc hy', he, e]
  · have : i = a.length := by omega
    subst this
    rw [List.take_of_length_le (by simp), List.take_of_length_le (by simp; omega)] at he
    rw [decide_eq_true he] at hQ; exact ⟨_, rfl, hQ⟩
theorem spec30 (hI : Closed' prog Pm I) {x : Cel} (hQ : Q [boo (fullB x)] h) : I 30 [.agg (celC x)] Q h := by
  refine hI.go _ _ (den30 I x.kl x.many x.cents Q) ?_
  unfold fullB at hQ
  refine spec23 hI ⟨_, rfl, ifT_intro (fun h1 => spec23 hI ⟨_, rfl, ?_⟩) fun h1 => ?_⟩
  · rw [h1, Bool.true_and] at hQ; exact hQ
  · rw [h1, Bool.false_and] at hQ; exact hQ
theorem spec29 (hI : Closed' prog Pm I) {x : Cel} (hQ : Q [boo (!fullB x)] h) : I 29 [.agg (celC x)] Q h := by
  refine hI.go _ _ (den29 I x.kl x.many x.cents Q) ?_
  exact spec30 hI ⟨_, rfl, hQ⟩
theorem spec28 (hI : Closed' prog Pm I) {s : Sl} {a : List Cel} (ha : At h 3 s (rows celC a)) (hl : a.length < 1000000) (hQ : Q [boo (a.any fun c => !fullB c)] h) : I 28 [sls 3 s, .one (.func (some (29, [])))] Q h := by
  refine hI.go _ _ (den28 I s (some (29, [])) Q) ?_
  refine hI.go _ _ (den55 I s (some (29, [])) _) ?_
  have l1 := ha.rowsLen celC_length (by decide)
  refine loopK_intro (fun (n : Int) h' m => h' = h ∧ ∃ i : Nat, i ≤ a.length ∧ n = i ∧ a.length - i = m ∧ ((a.take i).any fun c => !fullB c) = false) a.length ⟨rfl, 0, by omega, rfl, rfl, rfl⟩ ?_
  rintro n h' m ⟨rfl, i, hi, rfl, rfl, he⟩
  refine ifT_dec (fun hlt => ⟨⟨by omega, hlt⟩, ?_⟩) fun hge => ?_
  · have hx := List.getElem?_eq_getElem (show i < a.length by omega)
    generalize a[i] = x at hx
    refine ha.row celC_length (by decide) hx fun bb o hr => ⟨x.kl, x.many, x.cents, hr, spec29 hI (x := x) ⟨_, rfl, ifT_intro (fun h2 => ⟨_, rfl, ?_⟩) fun h2 => ?_⟩⟩
    · have e : (a.any fun c => !fullB c) = true := List.any_eq_true.2 ⟨x, List.mem_of_getElem? hx, h2⟩
      rw [e] at hQ
      rw [decide_eq_true (show (i : Int) ≥ 0 by omega)]; exact hQ
    · refine ⟨a.length - (i + 1), by omega, rfl, i + 1, by omega, by rw [w64] <;> omega, rfl, ?_⟩
      rw [any_take_step hx, he, h2]; rfl
  · have : i = a.length := by omega
    subst this
    rw [List.take_length] at he
    rw [he] at hQ
    exact ⟨_, rfl, hQ⟩
theorem spec51 (hI : Closed' prog Pm I) {s : ByteArray} (hQ : Q [boo (!isKey s)] h) : I 51 [str s] Q h := by
  refine hI.go _ _ (den51 I s Q) ?_
  exact spec52 hI ⟨_, rfl, hQ⟩
theorem spec50f (hI : Closed' prog Pm I) {s : Sl} {a : List ByteArray} (ha : At h 1 s (strs a)) (hl : a.length < 1000000) (hQ : Q [boo (a.any fun c => !isKey c)] h) : I 50 [sls 1 s, .one (.func (some (51, [])))] Q h := by
  refine hI.go _ _ (den50 I s (some (51, [])) Q) ?_
  refine hI.go _ _ (den71 I s (some (51, [])) _) ?_
  have l1 := strs_len ha
  refine loopK_intro (fun (n : Int) h' m => h' = h ∧ ∃ i : Nat, i ≤ a.length ∧ n = i ∧ a.length - i = m ∧ ((a.take i).any fun c => !isKey c) = false) a.length ⟨rfl, 0, by omega, rfl, rfl, rfl⟩ ?_
  rintro n h' m ⟨rfl, i, hi, rfl, rfl, he⟩
  refine ifT_dec (fun hlt => ⟨⟨by omega, hlt⟩, ?_⟩) fun hge => ?_
  · have hx := List.getElem?_eq_getElem (show i < a.length by omega)
    generalize a[i] = x at hx
    refine ha.strRow hx fun bb o hr => ⟨x, hr, spec51 hI ⟨_, rfl, ifT_intro (fun h2 => ⟨_, rfl, ?_⟩) fun h2 => ?_⟩⟩
    · have e : (a.any fun c => !isKey c) = true := List.any_eq_true.2 ⟨x, List.mem_of_getElem? hx, h2⟩
      rw [e] at hQ
      rw [decide_eq_true (show (i : Int) ≥ 0 by omega)]; exact hQ
    · refine ⟨a.length - (i + 1), by omega, rfl, i + 1, by omega, by rw [w64] <;> omega, rfl, ?_⟩
      rw [any_take_step hx, he, h2]; rfl
  · have : i = a.length := by omega
    subst this
    rw [List.take_length] at he
    rw [he] at hQ
    exact ⟨_, rfl, hQ⟩
theorem spec15 (hI : Closed' prog Pm I) (hQ : Q [boo true] h) : I 15 [] Q h := by
  refine hI.go _ _ (den15 I Q) ?_
  refine hI.go _ _ (den48 I 2 4 _) ?_
  refine joinK_intro (fun (b : Bool) h' => h' = h ∧ b = false) ?_ ?_
  · rintro _ h' ⟨rfl, rfl⟩
    refine ifT_intro (fun h => by cases h) fun _ => ifT_dec (fun h => absurd h (by decide)) fun _ => ?_
    refine spec70 hI (a := 2) (b := 4) (by decide) (by decide) (by decide) ⟨_, _, rfl, _, _, _, rfl, ?_⟩
    refine ifT_dec (fun _ => ?_) fun h => absurd rfl h
    have e : (decide (((2 / Nat.gcd 2 4 : Nat) : Int) = 1) && decide (((4 / Nat.gcd 2 4 : Nat) : Int) = 2)) = true := by decide
    rw [e]
    exact hQ
  · intro j hj
    refine spec23 hI ⟨_, rfl, ifT_intro (fun h => by simp at h) fun _ => spec23 hI ⟨_, rfl, hj _ _ ⟨rfl, by decide⟩⟩⟩
/-- CheckCells. -/
theorem spec22 (hI : Closed' prog Pm I) {s : Sl} {xs : List Cel} (hx : Cels h s xs) (hl : xs.length < 1000000) (hk : ∀ x ∈ xs, x.keys.length < 1000000) (hQ : Q [int (errC xs)] h) : I 22 [sls 3 s] Q h := by
  refine hI.go _ _ (den22 I s Q) ?_
  have l1 := hx.len
  unfold errC at hQ
  refine ifT_dec (fun h1 => ?_) fun h1 => ?_
  · rw [if_pos (by omega)] at hQ; exact hQ
  rw [if_neg (by omega)] at hQ
  refine loopK_intro (fun (n : Int) h' m => h' = h ∧ ∃ i : Nat, i ≤ xs.length ∧ n = i ∧ xs.length - i = m ∧ scanC (dimN xs) none xs = scanC (dimN xs) (pvC xs i) (xs.drop i)) xs.length ⟨rfl, 0, by omega, rfl, rfl, rfl⟩ ?_
  rintro n h' m ⟨rfl, i, hi, rfl, rfl, he⟩
  refine ifT_dec (fun hlt => ⟨⟨by omega, hlt⟩, ?_⟩) fun hge => ?_
  · have hc := List.getElem?_eq_getElem (show i < xs.length by omega)
    generalize xs[i] = c at hc
    have hcm := List.mem_of_getElem? hc
    have hkl := strs_len (hx.keys c hcm)
    have hd : ∃ c0, xs[0]? = some c0 ∧ dimN xs = c0.keys.length := by
      cases xs with
      | nil => simp at hc
      | cons c0 l => exact ⟨c0, rfl, rfl⟩
    obtain ⟨c0, hc0, hd⟩ := hd
    have hkl0 := strs_len (hx.keys c0 (List.mem_of_getElem? hc0))
    rw [scanC_at hc] at he
    refine hx.at_.row celC_length (by decide) hc fun bb o hr => ⟨c.kl, c.many, c.cents, hr, ?_⟩
    have fin : ∀ e : Int, errC1 (dimN xs) (pvC xs i) c = e → e ≠ 0 → Q [int e] h' := fun e h1 h2 => by
      rw [he, if_pos (by rw [h1]; exact h2), h1] at hQ; exact hQ
    refine joinK_intro (fun (b : Bool) h2 => h2 = h' ∧ b = decide (c.keys.length ≠ dimN xs ∨ 6 < c.keys.length)) ?_ fun jk hjk => ⟨⟨by omega, by omega⟩, hx.at_.rowCell celC_length (by decide) (i := 0) (j := 0) (c := .slice 1 c0.kl) hc0 rfl fun bb o hr => ⟨c0.kl, ?_, ifT_intro (fun h2 => hjk _ _ ⟨rfl, ?_⟩) fun h2 => hjk _ _ ⟨rfl, ?_⟩⟩⟩
    case refine_2 => simpa using hr
    case refine_3 =>
      have := nd h2
      exact (decide_eq_true (.inl (by omega))).symm
    case refine_4 =>
      have := Decidable.of_not_not (nd' h2)
      rw [decide_eq_decide]; omega
    rintro b g ⟨rfl, rfl⟩
    refine ifT_dec (fun h2 => fin 3 (by unfold errC1; rw [if_pos h2]) (by decide)) fun h2 => ?_
    refine spec50f hI (hx.keys c hcm) (hk c hcm) ⟨_, rfl, ifT_intro (fun h3 => fin 5 (by unfold errC1; rw [if_neg h2, if_pos h3]) (by decide)) fun h3 => ?_⟩
    refine joinK_intro (fun (b : Bool) h2 => h2 = g ∧ b = notUp (pvC xs i) c) ?_ fun jk hjk => ifT_dec (fun h4 => ?_) fun h4 => hjk _ _ ⟨rfl, ?_⟩
    case refine_2 =>
      have ew : IntKind.i64.wrap ((i : Int) - 1) = ((i - 1 : Nat) : Int) := by rw [w64] <;> omega
      rw [ew]
      have hc1 := List.getElem?_eq_getElem (show i - 1 < xs.length by omega)
      generalize xs[i - 1] = c1 at hc1
      refine ⟨⟨by omega, by omega⟩, hx.at_.rowCell celC_length (by decide) (j := 0) (c := .slice 1 c1.kl) hc1 rfl fun bb o hr => ⟨c1.kl, hr, spec26 hI (hx.keys c hcm) (hx.keys c1 (List.mem_of_getElem? hc1)) (hk c hcm) ⟨_, rfl, hjk _ _ ⟨rfl, ?_⟩⟩⟩⟩
      unfold pvC
      rw [if_neg (by omega), hc1]
      rfl
    case refine_3 =>
      have : i = 0 := by omega
      subst this; rfl
    rintro b g2 ⟨rfl, rfl⟩
    refine ifT_intro (fun h4 => fin 7 (by unfold errC1; rw [if_neg h2, if_neg (by rw [h3]; decide), if_pos h4]) (by decide)) fun h4 => ?_
    refine spec30 hI (x := c) ⟨_, rfl, ifT_intro (fun h5 => fin 1 (by unfold errC1; rw [if_neg h2, if_neg (by rw [h3]; decide), if_neg (by rw [h4]; decide), if_pos (nb h5)]) (by decide)) fun h5 => ?_⟩
    have h0 : errC1 (dimN xs) (pvC xs i) c = 0 := by unfold errC1; rw [if_neg h2, if_neg (by rw [h3]; decide), if_neg (by rw [h4]; decide), if_neg (by rw [nb' h5]; decide)]
    rw [if_neg (by rw [h0]; decide)] at he
    exact ⟨xs.length - (i + 1), by omega, rfl, i + 1, by omega, by rw [w64] <;> omega, rfl, he⟩
  · have : i = xs.length := by omega
    subst this
    rw [he, List.drop_length] at hQ
    exact hQ
end
end Go.Proofs.YtdjancoknephnaaGreatVc
-- from FoSpec2
namespace Go.Proofs.YtdjancoknephnaaGreatVc
open Go.Proofs.Tryz (prog)
abbrev celK : VK := .agg [.slice 1, .int .i64, .int .i64]
theorem den77g (I : Calls) (l0 : Sl) (n1 n2 : Int) (p3 : Option (Nat × List (Nat × Nat))) (Q : Post) : vc77 I l0 n1 n2 p3 Q = insF celK I l0 n1 n2 p3 Q := by kernel_rfl
theorem den53g (I : Calls) (l0 : Sl) (n1 : Int) (p3 : Option (Nat × List (Nat × Nat))) (Q : Post) : vc53 I l0 n1 p3 Q = stabF celK I 77 78 l0 n1 p3 Q := by kernel_rfl
theorem den78g (I : Calls) (l0 : Sl) (n1 n2 n3 : Int) (p3 : Option (Nat × List (Nat × Nat))) (Q : Post) : vc78 I l0 n1 n2 n3 p3 Q = symF celK I 99 78 l0 n1 n2 n3 p3 Q := by kernel_rfl
theorem den99g (I : Calls) (l0 : Sl) (n1 n2 n3 : Int) (p3 : Option (Nat × List (Nat × Nat))) (Q : Post) : vc99 I l0 n1 n2 n3 p3 Q = rotF celK I 111 l0 n1 n2 n3 p3 Q := by kernel_rfl
theorem den111g (I : Calls) (l0 : Sl) (n1 n2 n3 : Int) (p3 : Option (Nat × List (Nat × Nat))) (Q : Post) : vc111 I l0 n1 n2 n3 p3 Q = swapF celK l0 n1 n2 n3 Q := by kernel_rfl
theorem cel_fits (x : Cel) : celK.fits (.agg (celC x)) := by simp [VK.fits, fitsAll, celC, Kd.fits]
section
variable {I : Calls} {Q : Post} {h : Heap}
theorem Owns.stay {h0 h h' : Heap} {L : List Ow} {k n blk : Nat} {cs : List Cell} {p : Ow} (o : Owns h0 h ((k, ⟨some (blk, 0), n⟩, cs) :: L)) (hp : p ∈ L) (hs : ∀ j x, j ≠ blk → h j = some x → h' j = some x) : At h' p.1 p.2.1 p.2.2 := by
  refine (o.at_ (sz := p.1) (s := p.2.1) (cs := p.2.2) (List.mem_cons_of_mem _ hp)).stay fun j b x ha hx => hs j x (fun e => ?_) hx
  rcases (o.all p (List.mem_cons_of_mem _ hp)).2 with ⟨h1, _⟩ | ⟨k', h1, _, _⟩
  · rw [h1] at ha; cases ha
  · rw [h1] at ha; cases ha
    exact o.ne hp (i := blk) (j := j) rfl h1 e.symm
/-- Cells are sorted by their keys. -/
theorem spec24 (hI : Closed' prog Pm I) {h0 : Heap} {s : Sl} {xs : List Cel} {L : List Ow} (o : Owns h0 h ((3, s, rows celC xs) :: L)) (hlen : xs.length < 100000) (hk : ∀ x ∈ xs, x.keys.length < 1000000 ∧ (1, x.kl, strs x.keys) ∈ L)
    (hQ : ∀ Z h', Z.Perm xs → Z.Pairwise leC → Owns h0 h' ((3, s, rows celC Z) :: L) → Q [] h') : I 24 [sls 3 s, .one (.func (some (25, [])))] Q h := by
  refine hI.go _ _ (den24 I s _ Q) ?_
  refine hI.go _ _ (den53 I s _ _ _) ?_
  rw [den53g]
  have hl : s.len = xs.length := (o.at_ List.mem_cons_self).rowsLen celC_length (by decide)
  have h58 : ∀ a b Q h, insF celK I s a b (some (25, [])) Q h → I 77 [sls 3 s, ii a, ii b, fp (some (25, []))] Q h := fun a b Q h hq => hI.go _ _ (den77 I s a b _ Q) (by rw [den77g]; exact hq)
  have h78 : ∀ a b n Q h, swapF celK s a b n Q h → I 111 [sls 3 s, ii a, ii b, ii n, fp (some (25, []))] Q h := fun a b n Q h hq => hI.go _ _ (den111 I s a b n _ Q) (by rw [den111g]; exact hq)
  have h72 : ∀ a m b Q h, rotF celK I 111 s a m b (some (25, [])) Q h → I 99 [sls 3 s, ii a, ii m, ii b, fp (some (25, []))] Q h := fun a m b Q h hq => hI.go _ _ (den99 I s a m b _ Q) (by rw [den99g]; exact hq)
  have h59 : ∀ a m b Q h, symF celK I 99 78 s a m b (some (25, [])) Q h → I 78 [sls 3 s, ii a, ii m, ii b, fp (some (25, []))] Q h := fun a m b Q h hq => hI.go _ _ (den78 I s a m b _ Q) (by rw [den78g]; exact hq)
  obtain ⟨ho1, ho2 | ⟨blk, ho2, ho3, ho4⟩⟩ := o.all _ List.mem_cons_self
  · have hx : xs = [] := by
      have := congrArg List.length ho2.2
      simp only [rows_length celC_length, List.length_nil] at this
      exact List.length_eq_zero_iff.1 (by omega)
    subst hx
    have h0l : s.len = 0 := hl
    have done : Q [] h := hQ [] h (List.Perm.refl _) List.Pairwise.nil o
    unfold stabF
    rw [h0l]
    refine loopK_intro (fun (a : Int × Int) h' m => h' = h ∧ a = (0, 20)) 0 ⟨rfl, rfl⟩ ?_
    rintro _ h' m ⟨rfl, rfl⟩
    dsimp only [uncur]
    refine ifT_dec (fun h1 => absurd h1 (by decide)) fun _ => h58 _ _ _ _ (insF_none (by decide) (by decide) (by decide) ⟨rfl, ?_⟩)
    refine loopK_intro (fun (a : Int) h2 m => h2 = h' ∧ a = 20) 0 ⟨rfl, rfl⟩ ?_
    rintro _ h2 m ⟨rfl, rfl⟩
    exact ifT_dec (fun h1 => absurd h1 (by decide)) fun _ => ⟨rfl, done⟩
  · have e2 : s = ⟨some (blk, 0), s.len⟩ := by cases s; simp only at ho2; rw [ho2]
    have o2 : Owns h0 h ((3, ⟨some (blk, 0), s.len⟩, rows celC xs) :: L) := by rw [← e2]; exact o
    refine stab_spec cel_fits (v := fun x => V.agg (celC x)) (blk := blk) (mem := fun x => x.keys.length < 1000000 ∧ (1, x.kl, strs x.keys) ∈ L) (lt := ltC) leC h58 h72 h78 h59 ho2 (by omega) hl ho4 (by rw [hl]) (fun a b c _ _ _ => leC_trans) (fun x hx => hk x hx) ?_ ?_ fun Z h' hp hs hps => ⟨rfl, hQ Z h' hp hs ?_⟩
    · intro a b ha hb h' Q' ⟨ys, hps⟩ hq
      refine spec25 hI (x := a) (y := b) (o2.stay ha.2 hps.2) (o2.stay hb.2 hps.2) ha.1 (hq _ _ (Ext.refl _) ?_)
      unfold ltC; rw [decide_eq_true_eq]
    · exact List.pairwise_of_forall fun a b => ⟨fun h1 => ltC_asymm h1, fun h1 => h1⟩
    · have o3 : Owns h0 h ((celK.kds.length, ⟨some (blk, 0), s.len⟩, rws (fun x : Cel => V.agg (celC x)) xs) :: L) := o2
      have := o3.psg cel_fits hps hp.length_eq
      rw [e2]; exact this
end
end Go.Proofs.YtdjancoknephnaaGreatVc
-- from FoSpec3
namespace Go.Proofs.YtdjancoknephnaaGreatVc
open Go.Proofs.Tryz (prog)
section
variable {I : Calls} {Q : Post} {h : Heap}
theorem strs_snoc (a : List ByteArray) (x : ByteArray) : strs (a ++ [x]) = strs a ++ [.str x] := by simp [strs]
theorem rows_snoc (a : List Cel) (x : Cel) : rows celC (a ++ [x]) = rows celC a ++ celC x := by simp [rows]
theorem prK_snoc {keep : List Int} {j : Nat} {k : Int} {c : Cel} {s : ByteArray} (hk : keep[j]? = some k) (hs : c.keys[k.toNat]? = some s) : prK (keep.take (j + 1)) c = prK (keep.take j) c ++ [s] := by
  unfold prK
  rw [take_snoc hk, List.map_append]
  simp [hs]
theorem set_last {P : List Cel} {l d : Cel} : (P ++ [l]).set P.length d = P ++ [d] := by simp
theorem bnd_add {B a b : Int} {i : Nat} (h1 : -(B * i) ≤ a ∧ a ≤ B * i) (h2 : -B ≤ b ∧ b ≤ B) : -(B * (i + 1 : Nat)) ≤ a + b ∧ a + b ≤ B * (i + 1 : Nat) := by
  have : B * ((i + 1 : Nat) : Int) = B * i + B := by rw [Int.natCast_add, Int.mul_add]; simp
  omega
theorem bnd_mono {B a : Int} {i : Nat} (hB : 0 ≤ B) (h1 : -(B * i) ≤ a ∧ a ≤ B * i) : -(B * (i + 1 : Nat)) ≤ a ∧ a ≤ B * (i + 1 : Nat) := by
  have := bnd_add (b := 0) h1 ⟨by omega, hB⟩
  simpa using this
/-- The cells with the keys that are kept. -/
theorem fold_part (hI : Closed' prog Pm I) {s t : Sl} {xs : List Cel} {keep : List Int} (hx : Cels h s xs) (hkp : At h 1 t (ints keep)) (hl : xs.length ≤ 2000) (hkl : keep.length < 1000) (hin : ∀ c ∈ xs, ∀ k ∈ keep, 0 ≤ k ∧ k < (c.keys.length : Int))
    {F : Sl → T} (hF : ∀ s' ps L h', Owns h h' ((3, s', rows celC ps) :: L) → ps.map pc = xs.map (fun c => (prK keep c, c.many, c.cents)) → (∀ p ∈ ps, (1, p.kl, strs p.keys) ∈ L) → F s' h') :
    loopK (A := Sl × Int) (({ a := none, len := 0 }, 0))
              (fun x22 => uncur fun l23 n24 => ifT (decide (n24 < (↑s.len : Int)))
                (fun h25 =>
                ((0 ≤ n24) ∧
                n24 < (↑s.len : Int)) ∧
                (derefK s.a (fun i26 => fun i27 => fun h28 =>
                ∃ l29 : Sl, ∃ n30 : Int, ∃ n31 : Int, (h28.read i26 (i27 + n24.toNat * 3) 3 = some [Cell.slice 1 l29, Cell.int IntKind.i64 n30, Cell.int IntKind.i64 n31]) ∧
                (loopK (A := (Sl × Int × Int × PUnit) × Int) ((({ a := none, len := 0 }, n30, n31, ()), 0))
                  (fun x32 => uncur (uncur fun l33 => uncur fun n34 => uncur fun n35 x36 => fun n37 => ifT (decide (n37 < (↑t.len : Int)))
                    (fun h38 =>
                    ((0 ≤ n37) ∧
                    n37 < (↑t.len : Int)) ∧
                    (derefK t.a (fun i39 => fun i40 => fun h41 =>
                    ∃ n42 : Int, (h41.read i39 (i40 + n37.toNat * 1) 1 = some [Cell.int IntKind.i64 n42]) ∧
                    ((0 ≤ n42) ∧
                    n42 < (↑l29.len : Int)) ∧
                    (derefK l29.a (fun i43 => fun i44 => fun h45 =>
                    ∃ s46 : ByteArray, (h45.read i43 (i44 + n42.toNat * 1) 1 = some [Cell.str s46]) ∧
                    (appendTo [] 1 16 l33 1 [Cell.str s46] (fun l47 => fun h48 => 
                    x32 (((l47, n34, n35, ()), IntKind.i64.wrap (n37 + 1))) h48)) h45)) h41)) h38)
                    (fun h49 =>
                    (appendTo [] 3 40 l23 1 [Cell.slice 1 l33, Cell.int IntKind.i64 n34, Cell.int IntKind.i64 n35] (fun l50 => fun h51 => 
                    x22 ((l50, IntKind.i64.wrap (n24 + 1))) h51)) h49)))) h28)) h25)
                (F l23)) h := by
  have ls := hx.len
  have lt : t.len = keep.length := by have := hkp.1; simpa [ints] using this
  refine loopK_intro (fun (a : Sl × Int) h' m => ∃ (i : Nat) (ps : List Cel) (L : List Ow), i ≤ xs.length ∧ a.2 = i ∧ xs.length - i = m ∧ ps.length = i ∧ Owns h h' ((3, a.1, rows celC ps) :: L) ∧
      ps.map pc = (xs.take i).map (fun c => (prK keep c, c.many, c.cents)) ∧ ∀ p ∈ ps, (1, p.kl, strs p.keys) ∈ L) xs.length
    ⟨0, [], [], by omega, rfl, rfl, rfl, (Owns.nil h).none_ 3, rfl, by simp⟩ ?_
  rintro ⟨s', n⟩ h' m ⟨i, ps, L, hi, rfl, rfl, hpl, o, hps, hkeys⟩
  dsimp only [uncur] at o ⊢
  refine ifT_dec (fun hlt => ⟨⟨by omega, hlt⟩, ?_⟩) fun hge => ?_
  · have hc := List.getElem?_eq_getElem (show i < xs.length by omega)
    generalize xs[i] = c at hc
    have hcm := List.mem_of_getElem? hc
    have lc := strs_len (hx.keys c hcm)
    refine (o.ext.at_ hx.at_).row celC_length (by decide) hc fun bb oo hr => ⟨c.kl, c.many, c.cents, hr, ?_⟩
    refine loopK_intro (fun (a : (Sl × Int × Int × PUnit) × Int) g m => ∃ (j : Nat), j ≤ keep.length ∧ a = ((a.1.1, c.many, c.cents, ()), (j : Int)) ∧ keep.length - j = m ∧ Owns h g ((1, a.1.1, strs (prK (keep.take j) c)) :: (3, s', rows celC ps) :: L)) keep.length
      ⟨0, by omega, rfl, rfl, by simpa [prK, strs] using o.none_ 1⟩ ?_
    rintro ⟨⟨s3, n2, n3, u⟩, n4⟩ g m ⟨j, hj, he, rfl, o2⟩
    obtain ⟨⟨rfl, rfl, -⟩, rfl⟩ : (n2 = c.many ∧ n3 = c.cents ∧ True) ∧ n4 = (j : Int) := by simp at he; exact ⟨⟨he.1.1, he.1.2, trivial⟩, he.2⟩
    dsimp only [uncur] at o2 ⊢
    have ls3 : s3.len = j := by
      have := strs_len (o2.at_ List.mem_cons_self)
      rw [this]; simp [prK]; omega
    refine ifT_dec (fun hlt2 => ⟨⟨by omega, hlt2⟩, ?_⟩) fun hge2 => ?_
    · have hk := List.getElem?_eq_getElem (show j < keep.length by omega)
      generalize keep[j] = k at hk
      obtain ⟨hk0, hk1⟩ := hin c hcm k (List.mem_of_getElem? hk)
      refine (o2.ext.at_ hkp).cell (ints_get hk) fun b1 o1 hr1 => ⟨k, hr1, ⟨hk0, by omega⟩, ?_⟩
      obtain ⟨k, rfl⟩ := Int.eq_ofNat_of_zero_le hk0
      have hs := List.getElem?_eq_getElem (show k < c.keys.length by omega)
      generalize c.keys[k] = x at hs
      refine (o2.ext.at_ (hx.keys c hcm)).strRow hs fun b2 o22 hr2 => ⟨x, hr2, ?_⟩
      refine appendTo_owns (m := 0) o2 rfl (by omega) (by simp) fun bn g2 o3 => ⟨keep.length - (j + 1), by omega, j + 1, by omega, ?_, rfl, ?_⟩
      · rw [show IntKind.i64.wrap ((j : Int) + 1) = ((j + 1 : Nat) : Int) by rw [w64] <;> omega]
      · rw [prK_snoc hk (s := x) (by simpa using hs), strs_snoc]; exact o3
    · have hjk : j = keep.length := by omega
      subst hjk
      rw [List.take_length] at o2
      refine appendTo_owns (m := 0) o2.swp rfl (by rw [(o2.at_ (sz := 3) (s := s') (cs := rows celC ps) (by simp)).rowsLen celC_length (by decide)]; omega) (by simp) fun bn g2 o3 => ⟨xs.length - (i + 1), by omega, i + 1, ps ++ [⟨s3, prK keep c, c.many, c.cents⟩], (1, s3, strs (prK keep c)) :: L, by omega, ?_, rfl, by simp [hpl], ?_, ?_, ?_⟩
      · show IntKind.i64.wrap _ = _; rw [w64] <;> omega
      · rw [rows_snoc]; exact o3
      · rw [take_snoc hc, List.map_append, List.map_append, hps]; rfl
      · intro p hp
        rcases List.mem_append.1 hp with hp | hp
        · exact List.mem_cons_of_mem _ (hkeys p hp)
        · have := List.mem_singleton.1 hp; subst this; exact List.mem_cons_self
  · have : i = xs.length := by omega
    subst this
    rw [List.take_length] at hps
    exact hF s' ps L h' o hps hkeys
end
end Go.Proofs.YtdjancoknephnaaGreatVc
-- from FoSpec4
namespace Go.Proofs.YtdjancoknephnaaGreatVc
open Go.Proofs.Tryz (prog)
section
variable {I : Calls} {Q : Post} {h : Heap}
abbrev Small (i : Nat) (c : Cel) : Prop := (-(1000000 * (i : Int)) ≤ c.many ∧ c.many ≤ 1000000 * i) ∧ (-(1000000000000 * (i : Int)) ≤ c.cents ∧ c.cents ≤ 1000000000000 * i)
theorem Small.up {i : Nat} {c : Cel} (s : Small i c) : Small (i + 1) c := ⟨bnd_mono (by decide) s.1, bnd_mono (by decide) s.2⟩
/-- A row is added up. -/
theorem sum_part (hI : Closed' prog Pm I) {h0 : Heap} {a : Sl} {Z : List Cel} {L : List Ow} (o0 : Owns h0 h ((3, a, rows celC Z) :: L)) (hl : Z.length ≤ 2000) (hkeys : ∀ p ∈ Z, (1, p.kl, strs p.keys) ∈ L) (hkl : ∀ p ∈ Z, p.keys.length < 1000000)
    (hb : ∀ p ∈ Z, Small 1 p) {F : Sl → T} (hF : ∀ s' h', Owns h0 h' ((3, s', rows celC (mergeC Z)) :: (3, a, rows celC Z) :: L) → F s' h') :
    loopK (A := Sl × Int) (({ a := none, len := 0 }, 0))
                    (fun x55 => uncur fun l56 n57 => ifT (decide (n57 < (↑a.len : Int)))
                      (fun h58 =>
                      ((0 ≤ n57) ∧
                      n57 < (↑a.len : Int)) ∧
                      (derefK a.a (fun i59 => fun i60 => fun h61 =>
                      ∃ l62 : Sl, ∃ n63 : Int, ∃ n64 : Int, (h61.read i59 (i60 + n57.toNat * 3) 3 = some [Cell.slice 1 l62, Cell.int IntKind.i64 n63, Cell.int IntKind.i64 n64]) ∧
                      (joinK (A := Bool)
                        (fun b65 => ifT b65
                          (fun h66 =>
                          ((0 ≤ IntKind.i64.wrap ((↑l56.len : Int) - 1)) ∧
                          IntKind.i64.wrap ((↑l56.len : Int) - 1) < (↑l56.len : Int)) ∧
                          (derefK l56.a (fun i67 => fun i68 => fun h69 =>
                          ∃ n70 : Int, (h69.read i67 (i68 + (IntKind.i64.wrap ((↑l56.len : Int) - 1)).toNat * 3 + 1) 1 = some [Cell.int IntKind.i64 n70]) ∧
                          ((0 ≤ IntKind.i64.wrap ((↑l56.len : Int) - 1)) ∧
                          IntKind.i64.wrap ((↑l56.len : Int) - 1) < (↑l56.len : Int)) ∧
                          (derefK l56.a (fun i71 => fun i72 => fun h73 =>
                          (storeK [] i71 (i72 + (IntKind.i64.wrap ((↑l56.len : Int) - 1)).toNat * 3 + 1) [Cell.int IntKind.i64 (IntKind.i64.wrap (n70 + n63))] (fun h74 =>
                          ((0 ≤ IntKind.i64.wrap ((↑l56.len : Int) - 1)) ∧
                          IntKind.i64.wrap ((↑l56.len : Int) - 1) < (↑l56.len : Int)) ∧
                          (derefK l56.a (fun i75 => fun i76 => fun h77 =>
                          ∃ n78 : Int, (h77.read i75 (i76 + (IntKind.i64.wrap ((↑l56.len : Int) - 1)).toNat * 3 + 2) 1 = some [Cell.int IntKind.i64 n78]) ∧
                          ((0 ≤ IntKind.i64.wrap ((↑l56.len : Int) - 1)) ∧
                          IntKind.i64.wrap ((↑l56.len : Int) - 1) < (↑l56.len : Int)) ∧
                          (derefK l56.a (fun i79 => fun i80 => fun h81 =>
                          (storeK [] i79 (i80 + (IntKind.i64.wrap ((↑l56.len : Int) - 1)).toNat * 3 + 2) [Cell.int IntKind.i64 (IntKind.i64.wrap (n78 + n64))] (x55 ((l56, IntKind.i64.wrap (n57 + 1))))) h81)) h77)) h74)) h73)) h69)) h66)
                          (fun h82 =>
                          (appendTo [] 3 40 l56 1 [Cell.slice 1 l62, Cell.int IntKind.i64 n63, Cell.int IntKind.i64 n64] (fun l83 => fun h84 => 
                          x55 ((l83, IntKind.i64.wrap (n57 + 1))) h84)) h82))
                        (fun x85 => ifT (decide (IntKind.i64.wrap ((↑l56.len : Int) - 1) ≥ 0))
                          (fun h86 =>
                          ((0 ≤ IntKind.i64.wrap ((↑l56.len : Int) - 1)) ∧
                          IntKind.i64.wrap ((↑l56.len : Int) - 1) < (↑l56.len : Int)) ∧
                          (derefK l56.a (fun i87 => fun i88 => fun h89 =>
                          ∃ l90 : Sl, (h89.read i87 (i88 + (IntKind.i64.wrap ((↑l56.len : Int) - 1)).toNat * 3 + 0) 1 = some [Cell.slice 1 l90]) ∧
                          I 27 [V.one (Cell.slice 1 l90), V.one (Cell.slice 1 l62)]
                            (fun cs91 => fun h92 => 
                            ∃ b93 : Bool, (cs91 = [V.one (Cell.bool b93)]) ∧
                            x85 b93 h92) h89)) h86)
                          (x85 false))) h61)) h58)
                      (F l56)) h := by
  have la : a.len = Z.length := (o0.at_ List.mem_cons_self).rowsLen celC_length (by decide)
  refine loopK_intro (fun (p : Sl × Int) h' m => ∃ (i : Nat) (out : List Cel), i ≤ Z.length ∧ p.2 = i ∧ Z.length - i = m ∧ out = (Z.take i).foldl addC [] ∧ Owns h0 h' ((3, p.1, rows celC out) :: (3, a, rows celC Z) :: L) ∧
      out.length ≤ i ∧ (∀ c ∈ out, Small i c) ∧ ∀ c ∈ out, (1, c.kl, strs c.keys) ∈ L ∧ c.keys.length < 1000000) Z.length
    ⟨0, [], by omega, rfl, rfl, rfl, o0.none_ 3, by simp, (fun _ h => by cases h), fun _ h => by cases h⟩ ?_
  rintro ⟨s', n⟩ h' m ⟨i, out, hi, rfl, rfl, ho, o, hol, hsm, hok⟩
  dsimp only [uncur] at o ⊢
  refine ifT_dec (fun hlt => ⟨⟨by omega, hlt⟩, ?_⟩) fun hge => ?_
  · have hc := List.getElem?_eq_getElem (show i < Z.length by omega)
    generalize Z[i] = c at hc
    have hcm := List.mem_of_getElem? hc
    have ls : s'.len = out.length := (o.at_ List.mem_cons_self).rowsLen celC_length (by decide)
    have hcL : (1, c.kl, strs c.keys) ∈ L := hkeys c hcm
    have hnext : (Z.take (i + 1)).foldl addC [] = addC out c := by rw [take_snoc hc, List.foldl_append, ← ho]; rfl
    have ew : IntKind.i64.wrap ((i : Int) + 1) = ((i + 1 : Nat) : Int) := by rw [w64] <;> omega
    refine (o.at_ (sz := 3) (s := a) (cs := rows celC Z) (by simp)).row celC_length (by decide) hc fun bb oo hr => ⟨c.kl, c.many, c.cents, hr, ?_⟩
    refine joinK_intro (fun (b : Bool) g => g = h' ∧ (b = true → ∃ P l, out = P ++ [l] ∧ l.keys = c.keys) ∧ (b = false → addC out c = out ++ [c])) ?_ fun jk hjk => ?_
    case refine_2 =>
      rcases last_cases out with e | ⟨P, l, e⟩
      · have h0 : s'.len = 0 := by rw [ls, e]; rfl
        rw [h0]
        refine ifT_dec (fun h1 => absurd h1 (by decide)) fun _ => hjk _ _ ⟨rfl, (fun h1 => by cases h1), fun _ => by rw [e]; rfl⟩
      · have hlen : s'.len = P.length + 1 := by rw [ls, e]; simp
        have ew2 : IntKind.i64.wrap ((s'.len : Int) - 1) = (P.length : Int) := by
          have : out.length = P.length + 1 := by rw [e]; simp
          rw [w64] <;> omega
        rw [ew2]
        have hx : out[P.length]? = some l := by rw [e]; simp
        refine ifT_dec (fun _ => ⟨⟨by omega, by omega⟩, ?_⟩) fun h1 => absurd h1 (by omega)
        refine (o.at_ List.mem_cons_self).rowCell celC_length (by decide) (j := 0) (c := .slice 1 l.kl) hx rfl fun bb oo hr => ⟨l.kl, hr, ?_⟩
        obtain ⟨hlL, hl6⟩ := hok l (by rw [e]; simp)
        refine spec27 hI (a := l.keys) (b := c.keys) (o.at_ (sz := 1) (s := l.kl) (cs := strs l.keys) (by simp [hlL])) (o.at_ (sz := 1) (s := c.kl) (cs := strs c.keys) (by simp [hcL])) hl6 ⟨_, rfl, hjk _ _ ⟨rfl, fun h1 => ⟨P, l, e, of_decide_eq_true h1⟩, fun h1 => by rw [e]; exact addC_ne (of_decide_eq_false h1)⟩⟩
    rintro b g ⟨rfl, hbt, hbf⟩
    refine ifT_intro (fun hb1 => ?_) fun hb1 => ?_
    · obtain ⟨P, l, e, hk⟩ := hbt hb1
      subst e
      have hlen : s'.len = P.length + 1 := by rw [ls]; simp
      have ew2 : IntKind.i64.wrap ((s'.len : Int) - 1) = (P.length : Int) := by
        simp only [List.length_append, List.length_singleton] at hol
        rw [w64] <;> omega
      rw [ew2]
      have hx : (P ++ [l])[P.length]? = some l := by simp
      have hne : rows celC (P ++ [l]) ≠ [] := by
        rw [rows_snoc]; simp [celC]
      obtain ⟨bi, hs', hbi⟩ := o.has List.mem_cons_self hne
      have hll : (rows celC (P ++ [l])).length = (P.length + 1) * 3 := by rw [rows_length celC_length]; simp
      have hcell : ∀ (d : Cel) {j : Nat} {x : Cell} {g : Heap}, g bi = some (.cells false (rows celC (P ++ [d]))) → (celC d)[j]? = some x → g.read bi (0 + ((P.length : Nat) : Int).toNat * 3 + j) 1 = some [x] := fun d j x g hg hj => by
        rw [Int.toNat_natCast, Nat.zero_add]
        exact read_cell hg (rows_cell celC_length (by simp) hj)
      have hsa : s'.a = some (bi, 0) := by rw [hs']
      obtain ⟨sm1, sm2⟩ := hsm l (by simp)
      obtain ⟨sc1, sc2⟩ := hb c hcm
      have n1 := bnd_add (b := c.many) sm1 (by omega)
      have n2 := bnd_add (b := c.cents) sm2 (by omega)
      have w1 : IntKind.i64.wrap (l.many + c.many) = l.many + c.many := by rw [w64] <;> omega
      have w2 : IntKind.i64.wrap (l.cents + c.cents) = l.cents + c.cents := by rw [w64] <;> omega
      refine ⟨⟨by omega, by omega⟩, derefK_intro hsa ⟨l.many, hcell l hbi rfl, ⟨by omega, by omega⟩, derefK_intro hsa ?_⟩⟩
      rw [w1]
      refine storeK_one hbi (by rw [hll, Int.toNat_natCast]; omega) ?_
      have st1 : (rows celC (P ++ [l])).set (0 + ((P.length : Nat) : Int).toNat * 3 + 1) (.int .i64 (l.many + c.many)) = rows celC (P ++ [⟨l.kl, l.keys, l.many + c.many, l.cents⟩]) := by
        rw [Int.toNat_natCast, Nat.zero_add, rows_set celC_length hx (b := ⟨l.kl, l.keys, l.many + c.many, l.cents⟩) (by decide) rfl, set_last]
      rw [st1]
      have hb2 := set_eq g bi (.cells false (rows celC (P ++ [(⟨l.kl, l.keys, l.many + c.many, l.cents⟩ : Cel)])))
      refine ⟨⟨by omega, by omega⟩, derefK_intro hsa ⟨l.cents, hcell _ hb2 rfl, ⟨by omega, by omega⟩, derefK_intro hsa ?_⟩⟩
      rw [w2]
      refine storeK_one hb2 (by rw [rows_length celC_length, Int.toNat_natCast]; simp; omega) ?_
      have st2 : (rows celC (P ++ [(⟨l.kl, l.keys, l.many + c.many, l.cents⟩ : Cel)])).set (0 + ((P.length : Nat) : Int).toNat * 3 + 2) (.int .i64 (l.cents + c.cents)) = rows celC (P ++ [⟨l.kl, l.keys, l.many + c.many, l.cents + c.cents⟩]) := by
        rw [Int.toNat_natCast, Nat.zero_add, rows_set celC_length (show (P ++ [(⟨l.kl, l.keys, l.many + c.many, l.cents⟩ : Cel)])[P.length]? = some (⟨l.kl, l.keys, l.many + c.many, l.cents⟩ : Cel) by simp) (b := ⟨l.kl, l.keys, l.many + c.many, l.cents + c.cents⟩) (by decide) rfl, set_last]
      rw [st2, set_set]
      have hadd := addC_eq (P := P) hk
      refine ⟨Z.length - (i + 1), by omega, i + 1, addC (P ++ [l]) c, by omega, ew, rfl, hnext.symm, ?_, ?_, ?_, ?_⟩
      · rw [hadd]
        have o2 : Owns h0 g ((3, ⟨some (bi, 0), s'.len⟩, rows celC (P ++ [l])) :: (3, a, rows celC Z) :: L) := by rw [← hs']; exact o
        have o3 := o2.change (n' := s'.len) (sz' := 3) (cs' := rows celC (P ++ [⟨l.kl, l.keys, l.many + c.many, l.cents + c.cents⟩])) (by rw [rows_length celC_length, hlen]; simp)
        rw [← hs'] at o3
        exact o3
      · rw [hadd]; simp only [List.length_append, List.length_singleton] at hol ⊢; omega
      · intro d hd
        rw [hadd] at hd
        rcases List.mem_append.1 hd with hd | hd
        · exact (hsm d (by simp [hd])).up
        · have := List.mem_singleton.1 hd; subst this; exact ⟨n1, n2⟩
      · intro d hd
        rw [hadd] at hd
        rcases List.mem_append.1 hd with hd | hd
        · exact hok d (by simp [hd])
        · have := List.mem_singleton.1 hd; subst this; exact hok l (by simp)
    · have hadd := hbf hb1
      refine appendTo_owns (m := 0) o rfl (by omega) (by simp) fun bn g2 o3 => ⟨Z.length - (i + 1), by omega, i + 1, addC out c, by omega, ew, rfl, hnext.symm, ?_, ?_, ?_, ?_⟩
      · rw [hadd, rows_snoc]; exact o3
      · rw [hadd]; simp; omega
      · intro d hd
        rw [hadd] at hd
        rcases List.mem_append.1 hd with hd | hd
        · exact (hsm d hd).up
        · have := List.mem_singleton.1 hd; subst this
          obtain ⟨sc1, sc2⟩ := hb d hcm
          exact ⟨by omega, by omega⟩
      · intro d hd
        rw [hadd] at hd
        rcases List.mem_append.1 hd with hd | hd
        · exact hok d hd
        · have := List.mem_singleton.1 hd; subst this; exact ⟨hcL, hkl d hcm⟩
  · have : i = Z.length := by omega
    subst this
    rw [List.take_length] at ho
    refine hF s' h' ?_
    unfold mergeC
    rw [← ho]; exact o
end
end Go.Proofs.YtdjancoknephnaaGreatVc
-- from FoSpec5
namespace Go.Proofs.YtdjancoknephnaaGreatVc
open Go.Proofs.Tryz (prog)
section
variable {I : Calls} {Q : Post} {h : Heap}
theorem pc_inj {p : Cel} {k : List ByteArray} {m c : Int} (h : pc p = (k, m, c)) : p.keys = k ∧ p.many = m ∧ p.cents = c := by
  unfold pc at h
  simp only [Prod.mk.injEq] at h
  exact ⟨h.1, h.2.1, h.2.2⟩
theorem spec8 (hI : Closed' prog Pm I) {s t : Sl} {xs : List Cel} {keep : List Int} (hx : Cels h s xs) (hkp : At h 1 t (ints keep)) (hl : xs.length < 1000000) (hk : ∀ x ∈ xs, x.keys.length < 1000000) (hkl : keep.length < 1000)
    (he : errF xs keep ≠ 0 → Q [sls 3 ⟨none, 0⟩, int (errF xs keep)] h)
    (hf : ∀ h' out, Ext h h' → errF xs keep = 0 → FoldOf xs keep out → (out.any fun c => !fullB c) = true → Q [sls 3 ⟨none, 0⟩, int 12] h')
    (hok : ∀ h' s' out, Ext h h' → errF xs keep = 0 → FoldOf xs keep out → (out.any fun c => !fullB c) = false → Cels h' s' out → (∃ L, Owns h h' ((3, s', rows celC out) :: L) ∧ ∀ c ∈ out, (1, c.kl, strs c.keys) ∈ L) → Q [sls 3 s', int 0] h') :
    I 8 [sls 3 s, sls 1 t] Q h := by
  refine hI.go _ _ (den8 I s t Q) ?_
  refine spec22 hI hx hl hk ⟨_, rfl, ?_⟩
  refine ifT_intro (fun h1 => ?_) fun h1 => ?_
  · have h2 := nd h1
    have e : errF xs keep = errC xs := by unfold errF; rw [if_pos h2]
    have := he (by rw [e]; exact h2)
    rw [e] at this; exact this
  have hC : errC xs = 0 := Decidable.of_not_not (nd' h1)
  have eF : errF xs keep = scanK (dimN xs) none keep := by unfold errF; rw [if_neg (by rw [hC]; decide)]
  have hlen : xs.length ≤ 2000 := by
    unfold errC at hC
    split at hC
    · cases hC
    · omega
  have hsc : ∀ c ∈ xs, c.keys.length = dimN xs ∧ dimN xs ≤ 6 ∧ (c.keys.any fun s => !isKey s) = false ∧ fullB c = true := by
    unfold errC at hC
    rw [if_neg (by omega)] at hC
    exact scanC_ok hC
  have hd6 : dimN xs ≤ 6 := by
    cases xs with
    | nil => exact Nat.le_refl _
    | cons c l => exact (hsc c (by simp)).2.1
  have ls := hx.len
  have lt : t.len = keep.length := by have := hkp.1; simpa [ints] using this
  refine joinK_intro (fun (n : Int) h' => h' = h ∧ n = dimN xs) ?_ fun jk hjk => ifT_dec (fun h2 => ?_) fun h2 => hjk _ _ ⟨rfl, ?_⟩
  case refine_2 =>
    cases xs with
    | nil => simp at ls; omega
    | cons c l =>
      refine ⟨⟨by omega, by omega⟩, hx.at_.rowCell celC_length (by decide) (i := 0) (j := 0) (c := .slice 1 c.kl) (by simp) rfl fun bb o hr => ⟨c.kl, by simpa using hr, hjk _ _ ⟨rfl, ?_⟩⟩⟩
      rw [strs_len (hx.keys c (by simp))]
      rfl
  case refine_3 =>
    have : xs = [] := List.length_eq_zero_iff.1 (by omega)
    subst this; rfl
  rintro n g ⟨rfl, rfl⟩
  refine loopK_intro (fun (n : Int) h' m => h' = g ∧ ∃ i : Nat, i ≤ keep.length ∧ n = i ∧ keep.length - i = m ∧ scanK (dimN xs) none keep = scanK (dimN xs) (pvK keep i) (keep.drop i)) keep.length ⟨rfl, 0, by omega, rfl, rfl, rfl⟩ ?_
  rintro n h' m ⟨rfl, i, hi, rfl, rfl, hs⟩
  refine ifT_dec (fun hlt => ⟨⟨by omega, hlt⟩, ?_⟩) fun hge => ?_
  · have hc := List.getElem?_eq_getElem (show i < keep.length by omega)
    generalize keep[i] = k at hc
    rw [scanK_at hc] at hs
    have fin : ∀ e : Int, errK1 (dimN xs) (pvK keep i) k = e → e ≠ 0 → Q [sls 3 ⟨none, 0⟩, int e] h' := fun e h3 h4 => by
      have e5 : errF xs keep = e := by rw [eF, hs, if_pos (by rw [h3]; exact h4), h3]
      have := he (by rw [e5]; exact h4)
      rw [e5] at this; exact this
    refine hkp.cell (ints_get hc) fun bb o hr => ⟨k, hr, ?_⟩
    have ew : IntKind.i64.wrap (((dimN xs : Nat) : Int) - 1) = (dimN xs : Int) - 1 := by rw [w64] <;> omega
    rw [ew]
    have e2 : (decide (0 ≤ k) && decide (k ≤ (dimN xs : Int) - 1)) = decide (0 ≤ k ∧ k ≤ (dimN xs : Int) - 1) := by simp
    refine spec23 hI ⟨_, rfl, ?_⟩
    rw [e2]
    refine ifT_intro (fun h3 => fin 1 (by unfold errK1; rw [if_pos (nd h3)]) (by decide)) fun h3 => ?_
    have h3' := nd' h3
    have hnext : errK1 (dimN xs) (pvK keep i) k = 0 → (∃ m', m' < keep.length - i ∧ h' = h' ∧ ∃ i' : Nat, i' ≤ keep.length ∧ IntKind.i64.wrap ((i : Int) + 1) = (i' : Int) ∧ keep.length - i' = m' ∧ scanK (dimN xs) none keep = scanK (dimN xs) (pvK keep i') (keep.drop i')) := fun h0 => by
      rw [if_neg (by rw [h0]; decide)] at hs
      exact ⟨keep.length - (i + 1), by omega, rfl, i + 1, by omega, by rw [w64] <;> omega, rfl, hs⟩
    refine ifT_dec (fun h4 => ?_) fun h4 => hnext ?_
    · have ew2 : IntKind.i64.wrap ((i : Int) - 1) = ((i - 1 : Nat) : Int) := by rw [w64] <;> omega
      rw [ew2]
      have hc1 := List.getElem?_eq_getElem (show i - 1 < keep.length by omega)
      generalize keep[i - 1] = k1 at hc1
      have hpv : pvK keep i = some k1 := by unfold pvK; rw [if_neg (by omega), hc1]
      refine ⟨⟨by omega, by omega⟩, hkp.cell (ints_get hc1) fun bb o hr => ⟨k1, hr, ifT_dec (fun h5 => fin 7 ?_ (by decide)) fun h5 => hnext ?_⟩⟩
      · unfold errK1; rw [if_neg h3', hpv]; exact if_pos h5
      · unfold errK1; rw [if_neg h3', hpv]; exact if_neg h5
    · have : i = 0 := by omega
      subst this
      unfold errK1; rw [if_neg h3']; rfl
  · have : i = keep.length := by omega
    subst this
    rw [List.drop_length] at hs
    have e0 : errF xs keep = 0 := by rw [eF, hs]; rfl
    have hK : scanK (dimN xs) none keep = 0 := by rw [← eF, e0]
    refine fold_part hI hx hkp hlen hkl (fun c hc k hkm => by rw [(hsc c hc).1]; exact scanK_ok hK k hkm) fun a ps L g o hps hkeys => ?_
    have hpl : ps.length = xs.length := by have := congrArg List.length hps; simpa using this
    have hpp : ∀ p ∈ ps, ∃ x ∈ xs, p.keys = prK keep x ∧ p.many = x.many ∧ p.cents = x.cents := fun p hp => by
      have h1 : pc p ∈ ps.map pc := List.mem_map_of_mem hp
      rw [hps, List.mem_map] at h1
      obtain ⟨x, hxm, h2⟩ := h1
      exact ⟨x, hxm, pc_inj h2.symm⟩
    have hkp6 : ∀ p ∈ ps, p.keys.length < 1000000 := fun p hp => by
      obtain ⟨x, _, h1, _⟩ := hpp p hp
      rw [h1]; unfold prK; rw [List.length_map]; omega
    refine spec24 hI o (by omega) (fun p hp => ⟨hkp6 p hp, hkeys p hp⟩) fun Z g2 hperm hpw o2 => ⟨rfl, ?_⟩
    have hZ : ∀ p ∈ Z, p ∈ ps := fun p hp => hperm.mem_iff.1 hp
    refine sum_part hI o2 (by rw [hperm.length_eq, hpl]; exact hlen) (fun p hp => hkeys p (hZ p hp)) (fun p hp => hkp6 p (hZ p hp)) (fun p hp => ?_) fun s' g3 o3 => ?_
    · obtain ⟨x, hxm, _, h2, h3⟩ := hpp p (hZ p hp)
      have := fullB_iff.1 (hsc x hxm).2.2.2
      refine ⟨⟨by omega, by omega⟩, by omega, by omega⟩
    · have hfo : FoldOf xs keep (mergeC Z) := ⟨ps, Z, hps, hperm, hpw, rfl⟩
      have hml : (mergeC Z).length ≤ xs.length := hfo.facts.2.2.2.2.1
      have hcm : ∀ c ∈ mergeC Z, (1, c.kl, strs c.keys) ∈ L := fun c hc => by
        rcases foldC_mem hc with ⟨y, hy, h1, h2⟩ | ⟨x, hx, _⟩
        · rw [h1, h2]; exact hkeys y (hZ y hy)
        · cases hx
      refine spec28 hI (o3.at_ List.mem_cons_self) (by omega) ⟨_, rfl, ifT_intro (fun h5 => hf g3 _ o3.ext e0 hfo h5) fun h5 => hok g3 s' _ o3.ext e0 hfo h5 ⟨o3.at_ List.mem_cons_self, fun c hc => o3.at_ (sz := 1) (s := c.kl) (cs := strs c.keys) (by simp [hcm c hc])⟩ ⟨_, o3, fun c hc => by simp [hcm c hc]⟩⟩
end
end Go.Proofs.YtdjancoknephnaaGreatVc
-- from FoSpec6
namespace Go.Proofs.YtdjancoknephnaaGreatVc
open Go.Proofs.Tryz (prog)
/-- Where the keys of drawn cells lie. -/
def KL (B : Nat) (L : List Ow) (xs : List Cel) : Prop := ∀ c ∈ xs, ∃ b ks n, (1, (⟨some (b, 0), ks.length⟩ : Sl), strs ks) ∈ L ∧ c.kl = ⟨some (b, 0), n⟩ ∧ n ≤ ks.length ∧ c.keys = ks.take n ∧ ks.length ≤ B
theorem KL.mono {B B' : Nat} {L L' : List Ow} {xs : List Cel} (k : KL B L xs) (hB : B ≤ B') (hL : ∀ p ∈ L, p ∈ L') : KL B' L' xs := fun c hc =>
  let ⟨b, ks, n, h1, h2, h3, h4, h5⟩ := k c hc
  ⟨b, ks, n, hL _ h1, h2, h3, h4, Nat.le_trans h5 hB⟩
theorem KL.key {B : Nat} {L : List Ow} {xs : List Cel} {h0 h : Heap} (k : KL B L xs) (o : Owns h0 h L) {c : Cel} (hc : c ∈ xs) : At h 1 c.kl (strs c.keys) ∧ c.keys.length ≤ B := by
  obtain ⟨b, ks, n, h1, h2, h3, h4, h5⟩ := k c hc
  have := (o.at_ h1).sub 0 n (by omega) h3
  rw [h2, h4]
  refine ⟨?_, by rw [List.length_take]; omega⟩
  simpa [Sl.sub, strs, List.map_take] using this
theorem KL.cels {B : Nat} {L : List Ow} {xs : List Cel} {h0 h : Heap} {s : Sl} (k : KL B L xs) (o : Owns h0 h L) (hm : (3, s, rows celC xs) ∈ L) : Cels h s xs := ⟨o.at_ hm, fun c hc => (k.key o hc).1⟩
section
variable {I : Calls} {Q : Post} {h : Heap} {hb : Heap} {i : Nat} {l : Sl} {zs : List Int} {t0 : Nat}
/-- A literal of strings gets its place. -/
theorem new_strs {L : List Ow} {h0 : Heap} (o : Owns h0 h L) (xs : List ByteArray) {F : Nat → T} (hF : ∀ j h', Owns h0 h' ((1, ⟨some (j, 0), xs.length⟩, strs xs) :: L) → F j h') : newK (.cells false (strs xs)) F h := by
  refine newK_intro fun j h' hn he => hF j h' ?_
  have := o.new (sz := 1) (n := xs.length) (cs := strs xs) hn (by simp [strs])
  rw [← he] at this; exact this
theorem Owns.back {h0 h : Heap} {a b c : Ow} {L : List Ow} (o : Owns h0 h (a :: b :: c :: L)) : Owns h0 h (b :: c :: a :: L) := o.swp.perm ((List.Perm.swap _ _ _).cons b)
theorem appendTo_ownsN {h0 h : Heap} {l : List Ow} {sz bytes : Nat} {b n : Nat} {xs : List Cell} {m : Nat} {new : List Cell} {k : Sl → T} (o : Owns h0 h ((sz, ⟨some (b, 0), n⟩, xs) :: l)) (hm : m * sz = new.length) (hb : (n + m) * bytes ≤ 140737488355328)
    (hk : ∀ j h', Owns h0 h' ((sz, ⟨some (j, 0), n + m⟩, xs ++ new) :: l) → k ⟨some (j, 0), n + m⟩ h') : appendTo [] sz bytes ⟨some (b, 0), n⟩ m new k h := by
  cases m with
  | succ m => exact appendTo_owns o hm hb (by simp) hk
  | zero =>
    have hn : new = [] := List.length_eq_zero_iff.1 (by omega)
    subst hn
    show appendAnyK [] sz bytes ⟨some (b, 0), n⟩ 0 [] k h
    unfold appendAnyK
    rw [if_neg (by simp)]
    exact appendK_owns o hm hb (by simp) hk
end
end Go.Proofs.YtdjancoknephnaaGreatVc
-- from FoSpec7
namespace Go.Proofs.YtdjancoknephnaaGreatVc
open Go.Proofs.Tryz (prog)
section
variable {I : Calls} {Q : Post} {h : Heap} {hb : Heap} {i : Nat} {l : Sl} {zs : List Int} {t0 : Nat}
theorem sS : strs [⟨#[97]⟩, ⟨#[98]⟩] = [.str ⟨#[97]⟩, .str ⟨#[98]⟩] := rfl
/-- One flip, or none. -/
theorem flip_k (hI : Closed' prog Pm I) (S0 : Strm hb i l zs t0) {t : Nat} {L : List Ow} (o : Owns (hb.del i) h (owS i l t :: L)) (ht : t < 900000000) {n : Int} (h1 : 1 ≤ n) (h2 : n < 4611686018427387904) {F : Bool → T}
    (hF : ∀ b h', Owns (hb.del i) h' (owS i l (t + 1) :: L) → F b h') : I 17 [.one (.ptr (some (i, 0))), int n] (fun cs h' => ∃ b : Bool, cs = [boo b] ∧ F b h') h :=
  spec17 hI (o.toStrm S0 (t' := t) (by simp) (by omega)) h1 h2 fun b => ⟨b, rfl, hF b _ o.next⟩
end
end Go.Proofs.YtdjancoknephnaaGreatVc
-- from FoLaw
namespace Go.Proofs.YtdjancoknephnaaGreatVc
open Go.Proofs.Tryz (prog)
/-- Folded over all dimensions there is one cell, or none. -/
theorem FoldOf.single {ys out : List Cel} (f : FoldOf ys [] out) : out.map pc = if ys = [] then [] else [([], manyS ys, centsS ys)] := by
  obtain ⟨h1, h2, h3, h4, h5, h6⟩ := f.facts
  have hk : ∀ c ∈ out, c.keys = [] := fun c hc => by
    obtain ⟨x, _, hx⟩ := h4 c hc
    rw [hx]; rfl
  by_cases hy : ys = []
  · rw [if_pos hy]
    subst hy
    have : out = [] := List.length_eq_zero_iff.1 (by simpa using h5)
    rw [this]; rfl
  · rw [if_neg hy]
    match out, h6 hy, h1, h2, h3, hk with
    | [c], _, h1, h2, _, hk =>
      rw [manyS_one] at h1
      rw [centsS_one] at h2
      simp [pc, hk c (by simp), h1, h2]
    | a :: b :: l, _, _, _, h3, hk =>
      exfalso
      have := (List.pairwise_cons.1 h3).1 b (by simp)
      rw [hk a (by simp), hk b (by simp)] at this
      exact List.lt_irrefl _ this
theorem errF_parts {xs : List Cel} {keep : List Int} (h : errF xs keep = 0) : errC xs = 0 ∧ scanK (dimN xs) none keep = 0 ∧ xs.length ≤ 2000 ∧ ∀ c ∈ xs, c.keys.length = dimN xs ∧ dimN xs ≤ 6 ∧ (c.keys.any fun s => !isKey s) = false ∧ fullB c = true := by
  unfold errF at h
  by_cases h0 : errC xs = 0
  · rw [if_neg (by rw [h0]; decide)] at h
    have h1 := h0
    unfold errC at h1
    by_cases h2 : 2000 < xs.length
    · rw [if_pos h2] at h1; cases h1
    · rw [if_neg h2] at h1
      exact ⟨h0, h, by omega, scanC_ok h1⟩
  · rw [if_pos h0] at h; exact absurd h h0
theorem fold_again {xs out1 : List Cel} (he : errF xs [0] = 0) (f1 : FoldOf xs [0] out1) (hf : (out1.any fun c => !fullB c) = false) : errF out1 [] = 0 := by
  obtain ⟨h1, h2, h3, h4⟩ := errF_parts he
  obtain ⟨a1, a2, a3, a4, a5, a6⟩ := f1.facts
  have hd := scanK_ok h2 0 (by simp)
  have key : ∀ c ∈ out1, c.keys.length = 1 ∧ (c.keys.any fun s => !isKey s) = false ∧ fullB c = true := fun c hc => by
    obtain ⟨x, hx, hk⟩ := a4 c hc
    obtain ⟨b1, b2, b3, b4⟩ := h4 x hx
    rw [hk]
    refine ⟨rfl, ?_, ?_⟩
    · have hl : 0 < x.keys.length := by omega
      have hg : x.keys[0]? = some x.keys[0] := List.getElem?_eq_getElem hl
      generalize x.keys[0] = s at hg
      have hs : isKey s = true := by
        have := List.any_eq_false.1 b3 s (List.mem_of_getElem? hg)
        simpa using this
      simp [prK, hg, hs]
    · have := List.any_eq_false.1 hf c hc
      simpa using this
  have hC : errC out1 = 0 := by
    unfold errC
    rw [if_neg (by omega)]
    have hd1 : dimN out1 = 1 ∨ out1 = [] := by
      cases out1 with
      | nil => exact .inr rfl
      | cons c l => exact .inl (key c (by simp)).1
    rcases hd1 with hd1 | hd1
    · rw [hd1]
      exact scanC_zero (fun c hc => ⟨(key c hc).1, by decide, (key c hc).2⟩) a3 (fun q hq => by cases hq)
    · rw [hd1]; rfl
  unfold errF
  rw [if_neg (by rw [hC]; decide)]
  rfl
theorem again_same {xs out1 out2 out3 : List Cel} (f1 : FoldOf xs [0] out1) (f2 : FoldOf xs [] out2) (f3 : FoldOf out1 [] out3) : out3.map pc = out2.map pc := by
  obtain ⟨a1, a2, a3, a4, a5, a6⟩ := f1.facts
  rw [f3.single, f2.single, a1, a2]
  by_cases hx : xs = []
  · have : out1 = [] := List.length_eq_zero_iff.1 (by rw [hx] at a5; simpa using a5)
    rw [if_pos this, if_pos hx]
  · rw [if_neg (a6 hx), if_neg hx]
theorem full_pc {a b : List Cel} (h : a.map pc = b.map pc) : (a.any fun c => !fullB c) = (b.any fun c => !fullB c) := by
  have e : ∀ l : List Cel, (l.any fun c => !fullB c) = ((l.map pc).any fun p => !fullB ⟨⟨none, 0⟩, p.1, p.2.1, p.2.2⟩) := fun l => by
    rw [List.any_map]; rfl
  rw [e a, e b, h]
theorem manyS_bnd : ∀ {xs : List Cel}, (∀ c ∈ xs, fullB c = true) → (0 ≤ manyS xs ∧ manyS xs ≤ 1000000 * xs.length) ∧ (-(1000000000000 * (xs.length : Int)) ≤ centsS xs ∧ centsS xs ≤ 1000000000000 * xs.length)
  | [], _ => by simp [manyS, centsS]
  | x :: xs, h => by
    have ih := manyS_bnd (xs := xs) fun c hc => h c (by simp [hc])
    have := fullB_iff.1 (h x (by simp))
    have e1 : manyS (x :: xs) = x.many + manyS xs := by simp [manyS]
    have e2 : centsS (x :: xs) = x.cents + centsS xs := by simp [centsS]
    rw [e1, e2, List.length_cons]
    omega
section
variable {I : Calls} {Q : Post} {h : Heap}
end
end Go.Proofs.YtdjancoknephnaaGreatVc
