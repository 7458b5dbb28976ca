/- Vc, part 1: an abstract heap, abstract values, kinds, and 'den': a typed weakest precondition of GoSem's code as a formula. -/
import Derived.Calls
import Derived.Orders
import Derived.Eval
namespace Go.Proofs.YtadakbmoanbcgaaGreatDoorVc

/-- A slice's header: where it lies (block, first cell), how many elements. -/
structure Sl where
  a : Option (Nat × Nat)
  len : Nat

/-- The value of one cell of memory. `any`: a value of which nothing is said. -/
inductive Cell where
  | bool (b : Bool)
  | int (k : IntKind) (n : Int)
  | str (s : ByteArray)
  | ptr (a : Option (Nat × Nat))
  | slice (sz : Nat) (s : Sl)
  | map (m : Option Nat)
  | func (f : Option (FuncId × List (Nat × Nat)))
  | any

/-- A Go value: one cell, or an aggregate of cells. -/
inductive V where
  | one (c : Cell)
  | agg (cs : List Cell)

@[reducible] def V.cells : V → List Cell
  | .one c => [c]
  | .agg cs => cs

/-- What a temporary holds: nothing that is known; a value; a tuple; a variable of the frame's own in memory (`var`), an address in one (`ref`), a slice literal that nobody else has seen (`lit`). -/
inductive TV where
  | undef
  | v (x : V)
  | tup (l : List V)
  | var (cs : List Cell)
  | ref (t : Nat) (off : Nat)
  | lit (sz : Nat) (n : Nat) (cs : List Cell)

/-- `pin`: a block of one cell that stays as it is (a place that a function value has caught). `mapF`: a map over which a range runs: its entries with their stamps, the map's clock. `iter`: the range's iterator: over which map, what it has handed out, the clock. `mapE`: a map of which an entry is being written: its key, the stamp that the machine has handed out for it. `globs`: no block; where the abstract heap keeps the blocks of the program's variables. -/
inductive Obj where
  | cells (ro : Bool) (cs : List Cell)
  | map (es : List (V × V))
  | pin (c : Cell)
  | mapF (fs : List ((V × V) × Nat)) (ck : Nat)
  | iter (m : Nat) (seen : List Nat) (ck : Nat)
  | mapE (es : List (V × V)) (y : V) (n : Nat)
  | globs (f : Nat → Option Nat)

abbrev Heap := Nat → Option Obj
abbrev T := Heap → Prop

def Heap.set (h : Heap) (i : Nat) (o : Obj) : Heap := fun j => if j = i then some o else h j
def Heap.del (h : Heap) (i : Nat) : Heap := fun j => if j = i then none else h j
/-- The cells from `o` on, `n` of them. -/
def Heap.read (h : Heap) (i o n : Nat) : Option (List Cell) :=
  match h i with
  | some (.cells _ cs) => if o + n ≤ cs.length then some ((cs.drop o).take n) else none
  | _ => none
def splice (cs : List Cell) (o : Nat) (new : List Cell) : List Cell := cs.take o ++ new ++ cs.drop (o + new.length)

/-! ### kinds -/
inductive Kd where
  | bool
  | int (k : IntKind)
  | str
  | ptr
  | slice (sz : Nat)
  | map
  | func
  | any

@[reducible] def Kd.Ty : Kd → Type
  | .bool => Bool
  | .int _ => Int
  | .str => ByteArray
  | .ptr => Option (Nat × Nat)
  | .slice _ => Sl
  | .map => Option Nat
  | .func => Option (FuncId × List (Nat × Nat))
  | .any => Unit

@[reducible] def Kd.mk : (k : Kd) → k.Ty → Cell
  | .bool, b => .bool b
  | .int k, n => .int k n
  | .str, s => .str s
  | .ptr, a => .ptr a
  | .slice sz, s => .slice sz s
  | .map, m => .map m
  | .func, f => .func f
  | .any, _ => .any

def eqKind : IntKind → IntKind → Bool
  | .i8, .i8 | .i16, .i16 | .i32, .i32 | .i64, .i64 | .u8, .u8 | .u16, .u16 | .u32, .u32 | .u64, .u64 => true
  | _, _ => false

def Kd.get : (k : Kd) → Cell → Option k.Ty
  | .bool, .bool b => some b
  | .int k, .int k' n => if eqKind k k' then some n else none
  | .str, .str s => some s
  | .ptr, .ptr a => some a
  | .slice sz, .slice sz' s => if sz.beq sz' then some s else none
  | .map, .map m => some m
  | .func, .func f => some f
  | .any, _ => some ()
  | _, _ => none

def Kd.zero : Kd → Cell
  | .bool => .bool false
  | .int k => .int k 0
  | .str => .str .empty
  | .ptr => .ptr none
  | .slice sz => .slice sz ⟨none, 0⟩
  | .map => .map none
  | .func => .func none
  | .any => .any

inductive VK where
  | one (k : Kd)
  | agg (ks : List Kd)

def VK.kds : VK → List Kd
  | .one k => [k]
  | .agg ks => ks

/-- ∃ over the cells of given kinds. -/
@[reducible] def exKd : Kd → (Cell → Prop) → Prop
  | .bool, P => ∃ b : Bool, P (.bool b)
  | .int k, P => ∃ n : Int, P (.int k n)
  | .str, P => ∃ s : ByteArray, P (.str s)
  | .ptr, P => ∃ a : Option (Nat × Nat), P (.ptr a)
  | .slice sz, P => ∃ s : Sl, P (.slice sz s)
  | .map, P => ∃ m : Option Nat, P (.map m)
  | .func, P => ∃ f : Option (FuncId × List (Nat × Nat)), P (.func f)
  | .any, P => P .any
@[reducible] def exCells : List Kd → (List Cell → Prop) → Prop
  | [], P => P []
  | k :: ks, P => exKd k fun c => exCells ks fun cs => P (c :: cs)
@[reducible] def exV : VK → (V → Prop) → Prop
  | .one k, P => exKd k fun c => P (.one c)
  | .agg ks, P => exCells ks fun cs => P (.agg cs)
@[reducible] def exVs : List VK → (List V → Prop) → Prop
  | [], P => P []
  | k :: ks, P => exV k fun x => exVs ks fun xs => P (x :: xs)

/-! ### what is handed over at a join or at a loop's head -/
inductive TK where
  | v (k : VK)
  | var (ks : List Kd)

@[reducible] def Pays : List Kd → Type
  | [] => Unit
  | k :: ks => k.Ty × Pays ks
@[reducible] def Pays.mk : (ks : List Kd) → Pays ks → List Cell
  | [], _ => []
  | k :: ks, p => k.mk p.1 :: Pays.mk ks p.2
def Pays.get : (ks : List Kd) → List Cell → Option (Pays ks)
  | [], [] => some ()
  | k :: ks, c :: cs => match k.get c, Pays.get ks cs with
    | some x, some y => some (x, y)
    | _, _ => none
  | _, _ => none
@[reducible] def TK.Ty : TK → Type
  | .v (.one k) => k.Ty
  | .v (.agg ks) => Pays ks
  | .var ks => Pays ks
@[reducible] def TK.mk : (k : TK) → k.Ty → TV
  | .v (.one k), x => .v (.one (k.mk x))
  | .v (.agg ks), x => .v (.agg (Pays.mk ks x))
  | .var ks, x => .var (Pays.mk ks x)
def TK.get : (k : TK) → TV → Option k.Ty
  | .v (.one k), .v (.one c) => k.get c
  | .v (.agg ks), .v (.agg cs) => Pays.get ks cs
  | .var ks, .var cs => Pays.get ks cs
  | _, _ => none
abbrev Js := List (Nat × TK)
@[reducible] def Js.Ty : Js → Type
  | [] => Unit
  | [k] => k.2.Ty
  | k :: l :: js => k.2.Ty × Js.Ty (l :: js)
/-! ### frames -/
abbrev Env := List (Nat × TV)
def Env.get : Env → Nat → TV
  | [], _ => .undef
  | (t, x) :: e, u => match t.beq u with
    | true => x
    | false => Env.get e u
def Env.noRef (t : Nat) : Env → Bool
  | [] => true
  | (_, .ref u _) :: e => match t.beq u with
    | true => false
    | false => Env.noRef t e
  | _ :: e => Env.noRef t e
/-- Only what is not in the mask stays. -/
def Env.clear (m : Nat) : Env → Env
  | [] => []
  | (t, x) :: e => match m.testBit t with
    | true => Env.clear m e
    | false => match x with
      | .ref u _ => match m.testBit u with
        | true => (t, .undef) :: Env.clear m e
        | false => (t, x) :: Env.clear m e
      | _ => (t, x) :: Env.clear m e
@[reducible] def Env.setAll : (js : Js) → Js.Ty js → Env → Env
  | [], _, e => e
  | [k], x, e => (k.1, k.2.mk x) :: e
  | k :: l :: js, x, e => (k.1, k.2.mk x.1) :: Env.setAll (l :: js) x.2 e
def Env.collect : (js : Js) → Env → Option (Js.Ty js)
  | [], _ => some ()
  | [k], e => k.2.get (e.get k.1)
  | k :: l :: js, e => match k.2.get (e.get k.1), Env.collect (l :: js) e with
    | some x, some y => some (x, y)
    | _, _ => none

def keysIn (m : Nat) : Js → Bool
  | [] => true
  | (t, _) :: l => m.testBit t && keysIn m l

def jump (js : Js) (e : Env) (j : Js.Ty js → T) : T := match Env.collect js e with
  | some x => j x
  | none => fun _ => False

/-- Two ways. -/
def ifT (b : Bool) (x y : T) : T := fun h => cond b (x h) (y h)

/-- Ways that meet: what follows is told once. -/
def joinK {A : Type} (r : A → T) (f : (A → T) → T) : T := fun h => ∀ j : A → T, (∀ a h, r a h → j a h) → f j h

/-- A loop: an invariant and a measure. -/
def loopK {A : Type} (a : A) (f : (A → T) → A → T) : T := fun h =>
  ∃ I : A → Heap → Nat → Prop, (∃ m, I a h m) ∧ ∀ a h m, I a h m → f (fun a' h' => ∃ m', m' < m ∧ I a' h' m') a h

/-! ### types -/
section
variable (P : Program)

def kdOf (t : TypeId) : Option Kd :=
  match P.underlying t with
  | some .bool => some .bool
  | some (.int k) => some (.int k)
  | some .string => some .str
  | some (.pointer _) => some .ptr
  | some (.slice e) => (P.info? e).map fun i => .slice i.size
  | some (.map _ _) => some .map
  | some (.func _ _ _) => some .func
  | some (.interface _) => some .any
  | _ => none

def flat : Nat → TypeId → Option (List Kd)
  | 0, _ => none
  | d + 1, t =>
    match P.underlying t with
    | some (.struct fs) => fs.toList.foldr (fun f r => match flat d f.type, r with
        | some a, some b => some (a ++ b)
        | _, _ => none) (some [])
    | some (.array n e) => (flat d e).map fun ks => (List.replicate n ks).flatten
    | _ => (kdOf P t).map ([·])

def sized (t : TypeId) (n : Nat) : Bool := match P.info? t with
  | some i => i.size.beq n
  | none => false

/-- The kinds of a type's cells. -/
def vk (t : TypeId) : Option VK :=
  match P.underlying t with
  | some (.struct _) | some (.array _ _) => match flat P 8 t with
    | some ks => if sized P t ks.length then some (.agg ks) else none
    | none => none
  | _ => match kdOf P t with
    | some k => if sized P t 1 then some (.one k) else none
    | none => none

def isZero : Kd → Value → Bool
  | .bool, .bool b => !b
  | .int k, .int k' n => eqKind k k' && n == 0
  | .str, .string s => s.data.toList.isEmpty
  | .ptr, .pointer none => true
  | .slice _, .slice none n c => n.beq 0 && c.beq 0
  | .map, .map none => true
  | .func, .nilFunc => true
  | .any, .agg _ => false
  | .any, .tuple _ => false
  | .any, _ => true
  | _, _ => false
def areZero : List Kd → List Value → Bool
  | [], [] => true
  | k :: ks, v :: vs => isZero k v && areZero ks vs
  | _, _ => false

/-- The zero value of a type. -/
def zeroV (t : TypeId) : Option V :=
  match vk P t, (P.info? t).bind (·.zero) with
  | some k, some z => if areZero k.kds z.cells.toList then some (match k with
      | .one k => .one k.zero
      | .agg ks => .agg (ks.map Kd.zero)) else none
  | _, _ => none

end

/-! ### values -/
/-- The number of a function that has its receiver by it: 4096 more than its own. -/
def isBnd (f : FuncId) : Bool := Nat.ble 4096 f
def offB (f : FuncId) : FuncId := f - 4096
def onB (f : FuncId) : FuncId := 4096 + f
theorem isBnd_on (f : FuncId) : isBnd (onB f) = true := Nat.ble_eq_true_of_le (Nat.le_add_right _ _)
theorem off_on (f : FuncId) : offB (onB f) = f := Nat.add_sub_cancel_left _ _
/-- A constant, as a value of a type. -/
def constC : Kd → Value → Option Cell
  | .bool, .bool b => some (.bool b)
  | .int k, .int k' n => if eqKind k k' then some (.int k n) else none
  | .str, .string s => some (.str s)
  | .ptr, .pointer none => some (.ptr none)
  | .slice sz, .slice none n c => if n.beq 0 && c.beq 0 then some (.slice sz ⟨none, 0⟩) else none
  | .map, .map none => some (.map none)
  | .func, .nilFunc => some (.func none)
  | .func, .func (.func f) a b => if a.size.beq 0 && b.size.beq 0 && !isBnd f then some (.func (some (f, []))) else none
  | .any, .agg _ => none
  | .any, .tuple _ => none
  | .any, _ => some .any
  | _, _ => none
def constCs : List Kd → List Value → Option (List Cell)
  | [], [] => some []
  | k :: ks, v :: vs => match constC k v, constCs ks vs with
    | some c, some cs => some (c :: cs)
    | _, _ => none
  | _, _ => none
/-- A constant where its type is not told: only what needs none. -/
def constBare : Value → TV
  | .bool b => .v (.one (.bool b))
  | .int k n => .v (.one (.int k n))
  | .string s => .v (.one (.str s))
  | .pointer none => .v (.one (.ptr none))
  | .map none => .v (.one (.map none))
  | .nilFunc => .v (.one (.func none))
  | _ => .undef
def constT (P : Program) (t : TypeId) (v : Value) : TV :=
  match vk P t, v with
  | some (.one k), v => match constC k v with
    | some c => .v (.one c)
    | none => .undef
  | some (.agg ks), .agg cs => match constCs ks cs.toList with
    | some cs => .v (.agg cs)
    | none => .undef
  | _, v => constBare v

/-! ### the formula -/
abbrev Post := List V → Heap → Prop

structure Ctx where
  P : Program
  fn : FuncId
  /-- those temporaries whose variables nobody else sees -/
  own : Nat
  ntmps : Nat
  calls : FuncId → List V → Post → T
  /-- the calls that the frame has put off -/
  dfs : List Deferred := []

def opd (C : Ctx) (e : Env) (t : TypeId) : Operand → TV
  | .tmp u => e.get u
  | .const v => constT C.P t v
  | .func f => match isBnd f with
    | false => .v (.one (.func (some (f, []))))
    | true => .undef
  | .global _ => .undef

def opdBare (e : Env) : Operand → TV
  | .tmp u => e.get u
  | .const v => constBare v
  | .func f => match isBnd f with
    | false => .v (.one (.func (some (f, []))))
    | true => .undef
  | .global _ => .undef

def no : T := fun _ => False

/-- A slice literal is made known: it gets a place in memory. -/
def newAt (o : Obj) (k : Nat → T) : T := fun h => ∀ i, h i = none → k i (h.set i o)

/-- What is handed over in a temporary of a type. -/
def tk (P : Program) (t : TypeId) : TK := match vk P t with
  | some k => .v k
  | none => .v (.one .any)
def tvar (P : Program) (t : TypeId) : TK := match vk P t with
  | some k => .var k.kds
  | none => .var []

@[reducible] def uncur {A B : Type} {C : Sort _} (f : A → B → C) (p : A × B) : C := f p.1 p.2

end Go.Proofs.YtadakbmoanbcgaaGreatDoorVc
