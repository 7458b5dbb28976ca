/- Vc, part 2: what an operation does, and 'den'. -/
import Derived.Test.YtadakbmoanbcgaaGreatDoorVcCore
namespace Go.Proofs.YtadakbmoanbcgaaGreatDoorVc

/-- The entry `q` says that the program's variable `g` is the block `i`. -/
def GlobIn (h : Heap) (q g i : Nat) : Prop := ∃ f, h q = some (.globs f) ∧ f g = some i
/-- The block has at least so many cells. -/
def roomAt (h : Heap) (i n : Nat) : Prop := ∃ ro cs, h i = some (.cells ro cs) ∧ n ≤ cs.length
def globK (g : Nat) (k : Nat → Nat → T) : T := fun h => ∃ q i, GlobIn h q g i ∧ k q i h

/-- What an operation that changes no memory comes to. -/
inductive Res where
  | val (x : TV)
  | bad
  | ask (p : Prop) (r : Res)
  | deref (a : Option (Nat × Nat)) (f : Nat → Nat → Res)
  | read (i o : Nat) (k : VK) (f : V → TV)
  | bytes (s : Sl) (f : ByteArray → TV)
  | look (m : Option Nat) (k : VK) (g : List (V × V) → Option (V × Bool)) (f : V → Bool → TV)
  | glob (g : Nat) (f : Nat → Res)
  | room (i n : Nat) (r : Res)

def byteCells (s : ByteArray) : List Cell := s.data.toList.map fun b => .int .u8 b.toNat
def Heap.sl (h : Heap) (sz : Nat) (s : Sl) : Option (List Cell) := match s.a with
  | none => some []
  | some (i, o) => h.read i o (s.len * sz)
def Sl.ids (s : Sl) : List Nat := match s.a with
  | none => []
  | some (i, _) => [i]

/-! ### maps: keys that are one cell -/
def mapIds : Option Nat → List Nat
  | none => []
  | some i => [i]
/-- What a map holds, in the order in which it came. -/
def mapOf (h : Heap) (m : Option Nat) : Option (List (V × V)) := match m with
  | none => some []
  | some i => match h i with
    | some (.map es) => some es
    | _ => none
/-- Are two cells equal, as parts of a key? -/
def cellKey : Cell → Cell → Option Bool
  | .bool a, .bool b => some (decide (a = b))
  | .int k a, .int k' b => if eqKind k k' then some (decide (a = b)) else none
  | .str a, .str b => some (decide (a = b))
  | _, _ => none
def andO : Option Bool → Option Bool → Option Bool
  | some a, some b => some (a && b)
  | _, _ => none
def cellsKey : List Cell → List Cell → Option Bool
  | [], [] => some true
  | c :: cs, d :: ds => andO (cellKey c d) (cellsKey cs ds)
  | _, _ => none
def keyEq : V → V → Option Bool
  | .one (.str a), .one (.str b) => some (decide (a = b))
  | .one (.int k a), .one (.int k' b) => if eqKind k k' then some (decide (a = b)) else none
  | .one (.bool a), .one (.bool b) => some (decide (a = b))
  | .agg cs, .agg ds => cellsKey cs ds
  | _, _ => none
def mapGet (k z : V) : List (V × V) → Option (V × Bool)
  | [] => some (z, false)
  | (k', x) :: es => match keyEq k k' with
    | some true => some (x, true)
    | some false => mapGet k z es
    | none => none
def mapSet (k x : V) : List (V × V) → Option (List (V × V))
  | [] => some [(k, x)]
  | (k', x') :: es => match keyEq k k' with
    | some true => some ((k, x) :: es)
    | some false => (mapSet k x es).map ((k', x') :: ·)
    | none => none

/-- An address that is one. -/
def derefK (a : Option (Nat × Nat)) (f : Nat → Nat → T) : T := match a with
  | some (i, o) => f i o
  | none => no
def Res.run : Res → (TV → List Nat → T) → T
  | .val x, k => k x []
  | .bad, _ => no
  | .ask p r, k => fun h => p ∧ r.run k h
  | .deref a f, k => derefK a fun i o => (f i o).run k
  | .read i o vk f, k => fun h => exV vk fun x => h.read i o vk.kds.length = some x.cells ∧ k (f x) [i] h
  | .bytes s f, k => fun h => ∃ b : ByteArray, h.sl 1 s = some (byteCells b) ∧ k (f b) s.ids h
  | .look m vk g f, k => fun h => exV vk fun x => ∃ b : Bool, (∃ es, mapOf h m = some es ∧ g es = some (x, b)) ∧ k (f x b) (mapIds m) h
  | .glob g f, k => globK g fun q i => (f i).run fun x js => k x (q :: js)
  | .room i n r, k => fun h => roomAt h i n ∧ r.run (fun x js => k x (i :: js)) h

def Res.int (k : IntKind) (n : Int) : Res := .val (.v (.one (.int k n)))
def Res.bool (b : Bool) : Res := .val (.v (.one (.bool b)))
def Res.one (c : Cell) : Res := .val (.v (.one c))
/-- What is asked, but where it is plain. -/
def Res.asks (plain : Bool) (p : Prop) (r : Res) : Res := match plain with
  | true => r
  | false => .ask p r

def isConst0 : Operand → Bool
  | .const (.int _ n) => n != 0
  | _ => false
def isConstNat : Operand → Bool
  | .const (.int _ n) => decide (0 ≤ n)
  | _ => false

def intBin (op : BinOp) (y : Operand) (k : IntKind) (a b : Int) : Res :=
  match op with
  | .add => .int k (k.wrap (a + b))
  | .sub => .int k (k.wrap (a - b))
  | .mul => .int k (k.wrap (a * b))
  | .quo => .asks (isConst0 y) (b ≠ 0) (.int k (k.wrap (a.tdiv b)))
  | .rem => .asks (isConst0 y) (b ≠ 0) (.int k (a.tmod b))
  | .and => .int k (k.wrap (BitVec.ofInt k.bits a &&& BitVec.ofInt k.bits b).toNat)
  | .or => .int k (k.wrap (BitVec.ofInt k.bits a ||| BitVec.ofInt k.bits b).toNat)
  | .xor => .int k (k.wrap (BitVec.ofInt k.bits a ^^^ BitVec.ofInt k.bits b).toNat)
  | .andNot => .int k (k.wrap (BitVec.ofInt k.bits a &&& ~~~BitVec.ofInt k.bits b).toNat)
  | .eql => .bool (decide (a = b))
  | .neq => .bool (!decide (a = b))
  | .lss => .bool (decide (a < b))
  | .leq => .bool (decide (a ≤ b))
  | .gtr => .bool (decide (a > b))
  | .geq => .bool (decide (a ≥ b))
  | _ => .bad

/-- x << y, x >> y of ints. -/
def shl (k : IntKind) (x y : Int) : Int := k.wrap (x * 2 ^ min y.toNat k.bits)
def shr (k : IntKind) (x y : Int) : Int := x.fdiv (2 ^ min y.toNat k.bits)

def strBin (op : BinOp) (a b : ByteArray) : Res :=
  match op with
  | .add => .ask ((a.size + b.size : Nat) ≤ 9223372036854775807) (.one (.str (a ++ b)))
  | .eql => .bool (decide (a = b))
  | .neq => .bool (!decide (a = b))
  | .lss => .bool (Op.bytesLess a.toList b.toList)
  | .leq => .bool (Op.bytesLess a.toList b.toList || decide (a = b))
  | .gtr => .bool (!(Op.bytesLess a.toList b.toList || decide (a = b)))
  | .geq => .bool (!Op.bytesLess a.toList b.toList)
  | _ => .bad

/-- Are two cells equal (where '==' of their type is plain)? -/
def cellEq : Kd → Cell → Cell → Option Bool
  | .bool, .bool a, .bool b => some (decide (a = b))
  | .int _, .int k a, .int k' b => if eqKind k k' then some (decide (a = b)) else none
  | .str, .str a, .str b => some (decide (a = b))
  | _, _, _ => none
def cellsEq : List Kd → List Cell → List Cell → Option Bool
  | [], [], [] => some true
  | [k], [c], [d] => cellEq k c d
  | k :: ks, c :: cs, d :: ds => andO (cellEq k c d) (cellsEq ks cs ds)
  | _, _, _ => none

def eqRes (neg : Bool) (b : Bool) : Res := .bool (match neg with
  | true => !b
  | false => b)

/-- '==' of a struct's type is the cells' own: no field of it is blank, none holds what the model stands in for. The kinds of the cells, one behind the other. -/
def plainFs (K : TypeId → Option (List Kd)) : List Field → Nat → Option (List Kd)
  | [], _ => some []
  | f :: fs, off => match f.name == "_", f.offset.beq off, K f.type with
    | false, true, some ks => match plainFs K fs (off + ks.length) with
      | some l => some (ks ++ l)
      | none => none
    | _, _, _ => none
def plainK (P : Program) : Nat → TypeId → Option (List Kd)
  | 0, _ => none
  | d + 1, t => match P.underlying t with
    | some (.struct fs) => match P.stoodInHeld t, plainFs (plainK P d) fs.toList 0 with
      | false, some ks => match sized P t ks.length with
        | true => some ks
        | false => none
      | _, _ => none
    | some .bool => some [.bool]
    | some (.int k) => some [.int k]
    | some .string => some [.str]
    | _ => none
def plainS (P : Program) (t : TypeId) : Option (List Kd) := match P.underlying t, P.eqGuardType P.depth t with
  | some (.struct _), false => plainK P 8 t
  | _, _ => none

def binRes (P : Program) (op : BinOp) (t : TypeId) (y' : Operand) (x y : TV) : Res :=
  match x, y with
  | .v (.one (.int k a)), .v (.one (.int k' b)) => match op with
    | .shl => .asks (isConstNat y') (0 ≤ b) (.int k (shl k a b))
    | .shr => .asks (isConstNat y') (0 ≤ b) (.int k (shr k a b))
    | op => if eqKind k k' then intBin op y' k a b else .bad
  | .v (.one (.str a)), .v (.one (.str b)) => strBin op a b
  | .v (.one (.bool a)), .v (.one (.bool b)) => match op, P.underlying t with
    | .eql, some .bool => .bool (decide (a = b))
    | .neq, some .bool => .bool (!decide (a = b))
    | _, _ => .bad
  | .v (.one (.ptr a)), .v (.one (.ptr none)) => match op, P.underlying t with
    | .eql, some (.pointer _) => .bool a.isNone
    | .neq, some (.pointer _) => .bool (!a.isNone)
    | _, _ => .bad
  | .v (.one (.slice _ s)), .v (.one (.slice _ ⟨none, _⟩)) => match op, P.underlying t with
    | .eql, some (.slice _) => .bool s.a.isNone
    | .neq, some (.slice _) => .bool (!s.a.isNone)
    | _, _ => .bad
  | .v (.one (.map m)), .v (.one (.map none)) => match op, P.underlying t with
    | .eql, some (.map _ _) => .bool m.isNone
    | .neq, some (.map _ _) => .bool (!m.isNone)
    | _, _ => .bad
  | .v (.one (.func f)), .v (.one (.func none)) => match op, P.underlying t with
    | .eql, some (.func _ _ _) => .bool f.isNone
    | .neq, some (.func _ _ _) => .bool (!f.isNone)
    | _, _ => .bad
  | .v (.agg cs), .v (.agg ds) => match plainS P t with
    | some ks => match cellsEq ks cs ds, op with
      | some b, .eql => .bool b
      | some b, .neq => .bool (!b)
      | _, _ => .bad
    | none => .bad
  | _, _ => .bad

def unRes (op : UnOp) (x : TV) : Res :=
  match op, x with
  | .neg, .v (.one (.int k n)) => .int k (k.wrap (0 - n))
  | .xor, .v (.one (.int k n)) => .int k (k.wrap (BitVec.ofInt k.bits (if k.signed then -1 else k.max) ^^^ BitVec.ofInt k.bits n).toNat)
  | .not, .v (.one (.bool b)) => .bool (!b)
  | _, _ => .bad

/-- The byte at a place of a string. -/
def byteAt (s : ByteArray) (i : Int) : Int := match s[i.toNat]? with
  | some b => b.toNat
  | none => 0

def ofCells (k : VK) (cs : List Cell) : Option V := match k, cs with
  | .one _, [c] => some (.one c)
  | .agg ks, cs => if ks.length.beq cs.length then some (.agg cs) else none
  | _, _ => none

def loadRes (P : Program) (e : Env) (t : TypeId) (addr : Operand) : Res :=
  let fromVar (cs : List Cell) (o : Nat) : Res := match vk P t with
    | some k => match ofCells k ((cs.drop o).take k.kds.length) with
      | some x => .val (.v x)
      | none => .bad
    | none => .bad
  match addr with
  | .tmp u => match e.get u with
    | .var cs => fromVar cs 0
    | .ref t' o => match e.get t' with
      | .var cs => fromVar cs o
      | _ => .bad
    | .v (.one (.ptr a)) => match vk P t with
      | some k => .deref a fun i o => .read i o k .v
      | none => .bad
    | _ => .bad
  | .global g => match vk P t with
    | some k => .glob g fun i => .read i 0 k .v
    | none => .bad
  | _ => .bad

def addrRes (e : Env) (x : Operand) (n : Nat) : Res :=
  match x with
  | .tmp u => match e.get u with
    | .var _ => .val (.ref u n)
    | .ref t o => .val (.ref t (o + n))
    | .v (.one (.ptr a)) => .deref a fun i o => .one (.ptr (some (i, o + n)))
    | _ => .bad
  | _ => .bad

def Sl.sub (s : Sl) (sz l h : Nat) : Sl := ⟨match s.a with
    | some (i, o) => some (i, o + l * sz)
    | none => none, h - l⟩
def sliceRes (sz : Nat) (s : Sl) (l h : Int) : Res :=
  .ask (0 ≤ l ∧ l ≤ h ∧ h ≤ s.len) (.one (.slice sz (s.sub sz l.toNat h.toNat)))

def optInt (e : Env) (d : Int) : Option Operand → Option Int
  | none => some d
  | some x => match opdBare e x with
    | .v (.one (.int _ n)) => some n
    | _ => none

def isBytes (P : Program) (t : TypeId) : Bool := match P.underlying t with
  | some (.slice e) => match P.underlying e with
    | some (.int .u8) => true
    | _ => false
  | _ => false
def isStr (P : Program) (t : TypeId) : Bool := match P.underlying t with
  | some .string => true
  | _ => false

def convRes (P : Program) (src dst : TypeId) (x : TV) : Res :=
  match x with
  | .v (.one (.int _ n)) => match P.underlying src, P.underlying dst with
    | some _, some (.int k) => .int k (k.wrap n)
    | some _, some .string => .one (.str (Utf8.encode n))
    | _, _ => .bad
  | .v (.one (.str s)) => match isStr P dst && isStr P src with
    | true => .one (.str s)
    | false => .bad
  | .v (.one (.slice sz s)) => match isStr P dst && isBytes P src && sz.beq 1 with
    | true => .bytes s fun b => .v (.one (.str b))
    | false => .bad
  | _ => .bad

def allOnes : List TV → Option (List Cell)
  | [] => some []
  | .v (.one c) :: l => (allOnes l).map (c :: ·)
  | _ => none

/-- The parts of an aggregate, laid over the zero value. -/
def fillCells (place : Nat → Option (Nat × Nat)) : List Cell → List (Nat × TV) → Option (List Cell)
  | cs, [] => some cs
  | cs, (i, .v x) :: rest => match place i with
    | some (o, n) => match n.beq x.cells.length && (o + n).ble cs.length with
      | true => fillCells place (splice cs o x.cells) rest
      | false => none
    | none => none
  | _, _ => none

def fieldPlaces (P : Program) (t : TypeId) (i : Nat) : Option (Nat × Nat) := match P.underlying t with
  | some (.struct fs) => match fs.toList[i]? with
    | some f => (P.info? f.type).map fun j => (f.offset, j.size)
    | none => none
  | some (.array _ el) => (P.info? el).map fun j => (i * j.size, j.size)
  | _ => none
def fieldType (P : Program) (t : TypeId) (i : Nat) : TypeId := match P.underlying t with
  | some (.struct fs) => match fs.toList[i]? with
    | some f => f.type
    | none => 0
  | some (.array _ el) => el
  | some (.slice el) => el
  | _ => 0

def maxCells : Cell → List TV → Option Cell
  | c, [] => some c
  | .int k a, .v (.one (.int k' b)) :: l => if eqKind k k' then maxCells (.int k (max a b)) l else none
  | _, _ => none
def minCells : Cell → List TV → Option Cell
  | c, [] => some c
  | .int k a, .v (.one (.int k' b)) :: l => if eqKind k k' then minCells (.int k (min a b)) l else none
  | _, _ => none

def goInt (n : Int) : TV := .v (.one (.int .i64 n))

/-- A cell of a kind that is plain. -/
def fitKd : Kd → Cell → Bool
  | .bool, .bool _ => true
  | .int k, .int k' _ => eqKind k k'
  | .str, .str _ => true
  | _, _ => false
def fitKds : List Kd → List Cell → Bool
  | [], [] => true
  | k :: ks, c :: cs => fitKd k c && fitKds ks cs
  | _, _ => false
def allFit (k : Kd) : List Cell → Bool
  | [] => true
  | c :: cs => fitKd k c && allFit k cs
/-- A part of an array whose elements are of one plain kind. -/
def nthB (cs : List Cell) (i : Int) : Bool := match cs[i.toNat]? with
  | some (.bool b) => b
  | _ => false
def nthI (cs : List Cell) (i : Int) : Int := match cs[i.toNat]? with
  | some (.int _ n) => n
  | _ => 0
def nthS (cs : List Cell) (i : Int) : ByteArray := match cs[i.toNat]? with
  | some (.str s) => s
  | _ => ByteArray.empty
def nthC (k : Kd) (cs : List Cell) (i : Int) : Cell := match k with
  | .bool => .bool (nthB cs i)
  | .int k => .int k (nthI cs i)
  | .str => .str (nthS cs i)
  | _ => .any
/-- A key of a map's type. -/
def keyed (P : Program) (t : TypeId) (k : V) : Bool := match P.underlying t, k with
  | some .string, .one (.str _) => true
  | some (.int k), .one (.int k' _) => eqKind k k'
  | some .bool, .one (.bool _) => true
  | some (.struct _), .agg cs => match plainK P 8 t with
    | some ks => fitKds ks cs
    | none => false
  | _, _ => false
/-- The zero value is of its kind. -/
def zeroOk (P : Program) (t : TypeId) : Bool := match vk P t, (P.info? t).bind (·.zero) with
  | some (.one k), some z => isZero k z
  | some (.agg _), some (.agg _) => true
  | _, _ => false
def lookF (ok : Bool) (x : V) (b : Bool) : TV := match ok with
  | true => .tup [x, .one (.bool b)]
  | false => .v x

/-- The type of the second operand. -/
def shiftT (op : BinOp) (t t' : TypeId) : TypeId := match op with
  | .shl => t'
  | .shr => t'
  | _ => t
/-- The operations that change no memory but their own temporary. -/
def pureRes (C : Ctx) (e : Env) (o : Oper) : Res :=
  match o.op with
  | .move x | .assign x => match opd C e o.type x with
    | .v y => .val (.v y)
    | .tup l => .val (.tup l)
    | _ => .bad
  | .pick c a b => match opdBare e c with
    | .v (.one (.bool c)) => match opdBare e a, opdBare e b with
      | .v (.one (.bool p)), .v (.one (.bool q)) => .bool (cond c p q)
      | x, y => match (cond c x y) with
        | .v z => .val (.v z)
        | _ => .bad
    | _ => .bad
  | .alloc t => match zeroV C.P t with
    | some z => .val (.var z.cells)
    | none => .bad
  | .box t x => match opd C e t x, vk C.P t with
    | .v y, some k => match y.cells.length.beq k.kds.length with
      | true => .val (.var y.cells)
      | false => .bad
    | _, _ => .bad
  | .build t ps => match zeroV C.P t with
    | some (.agg z) => match fillCells (fieldPlaces C.P t) z (ps.toList.map fun p => (p.1, opd C e (fieldType C.P t p.1) p.2)) with
      | some cs => .val (.v (.agg cs))
      | none => .bad
    | _ => .bad
  | .buildSlice t n ps => match C.P.underlying t with
    | some (.slice el) => match zeroV C.P el with
      | some z => if (n * z.cells.length).ble 16777216 = false then .bad else match fillCells (fun i => some (i * z.cells.length, z.cells.length)) ((List.replicate n z.cells).flatten) (ps.toList.map fun p => (p.1, opd C e el p.2)) with
        | some cs => .val (.lit z.cells.length n cs)
        | none => .bad
      | none => .bad
    | _ => .bad
  | .load t a => loadRes C.P e t a
  | .nilCheck x => match x with
    | .tmp u => match e.get u with
      | .var _ => .val (.ref u 0)
      | .ref t o => .val (.ref t o)
      | .v (.one (.ptr a)) => .deref a fun i o => .one (.ptr (some (i, o)))
      | .v (.one (.func f)) => .ask (f.isSome = true) (.one (.func f))
      | _ => .bad
    | _ => .bad
  | .binOp op t x y t' => binRes C.P op t y (opd C e t x) (opd C e (shiftT op t t') y)
  | .unOp op _ x => unRes op (opdBare e x)
  | .convert s d x => convRes C.P s d (opd C e s x)
  | .makeInterface t x => match opdBare e x, C.P.underlying t with
    | _, some (.interface _) => .bad
    | .v _, some _ => .one .any
    | _, _ => .bad
  | .slice t x lo hi mx => match mx, opd C e t x with
    | none, .v (.one (.str s)) => match optInt e 0 lo, optInt e s.size hi, isStr C.P t with
      | some l, some h, true => .ask (0 ≤ l ∧ l ≤ h ∧ h ≤ s.size) (.one (.str (s.extract l.toNat h.toNat)))
      | _, _, _ => .bad
    | none, .v (.one (.slice sz s)) => match optInt e 0 lo, optInt e s.len hi, C.P.underlying t with
      | some l, some h, some (.slice el) => match sized C.P el sz with
        | true => sliceRes sz s l h
        | false => .bad
      | _, _, _ => .bad
    | none, .v (.one (.ptr a)) => match C.P.underlying t with
      | some (.array n el) => match optInt e 0 lo, optInt e n hi, C.P.info? el with
        | some l, some h, some inf => .ask (0 ≤ l ∧ l ≤ h ∧ h ≤ (n : Int)) (.deref a fun i o => .room i (o + n * inf.size) (.one (.slice inf.size ⟨some (i, o + l.toNat * inf.size), h.toNat - l.toNat⟩)))
        | _, _, _ => .bad
      | _ => .bad
    | _, _ => .bad
  | .fieldAddr t x f => match C.P.underlying t, fieldPlaces C.P t f with
    | some (.struct _), some (off, _ + 1) => addrRes e x off
    | _, _ => .bad
  | .field t x f => match opd C e t x, C.P.underlying t, fieldPlaces C.P t f, vk C.P (fieldType C.P t f) with
    | .v (.agg cs), some (.struct _), some (off, n), some k => match n.beq k.kds.length, ofCells k ((cs.drop off).take n) with
      | true, some x => .val (.v x)
      | _, _ => .bad
    | _, _, _, _ => .bad
  | .indexAddr t x ix => match C.P.underlying t, opdBare e ix with
    | some (.slice el), .v (.one (.int _ i)) => match opd C e t x with
      | .v (.one (.slice sz s)) => match sized C.P el sz with
        | true => .ask (0 ≤ i ∧ i < s.len) (.deref s.a fun b o => .one (.ptr (some (b, o + i.toNat * sz))))
        | false => .bad
      | _ => .bad
    | some (.array n el), .v (.one (.int _ i)) => match C.P.info? el, x with
      | some inf, .tmp u => match e.get u, isConstNat ix with
        | .v (.one (.ptr a)), _ => .ask (0 ≤ i ∧ i < (n : Int)) (.deref a fun b o => .one (.ptr (some (b, o + i.toNat * inf.size))))
        | _, true => match decide (i < (n : Int)), inf.size with
          | true, sz + 1 => addrRes e x (i.toNat * (sz + 1))
          | _, _ => .bad
        | _, _ => .bad
      | some inf, .global g => .ask (0 ≤ i ∧ i < (n : Int)) (.glob g fun b => .one (.ptr (some (b, i.toNat * inf.size))))
      | _, _ => .bad
    | _, _ => .bad
  | .index t x ix => match C.P.underlying t, opd C e t x, opdBare e ix with
    | some .string, .v (.one (.str s)), .v (.one (.int _ i)) => .ask (0 ≤ i ∧ i < s.size) (.int .u8 (byteAt s i))
    | some (.array n el), .v (.agg cs), .v (.one (.int _ i)) => match vk C.P el with
      | some (.one k) => match n.beq cs.length && allFit k cs with
        | true => .ask (0 ≤ i ∧ i < (n : Int)) (.val (.v (.one (nthC k cs i))))
        | false => .bad
      | _ => .bad
    | _, _, _ => .bad
  | .lookup t x ix ok => match C.P.underlying t, opd C e t x with
    | some (.map kt el), .v (.one (.map m)) => match opd C e kt ix, vk C.P el, zeroV C.P el with
      | .v y, some k, some z => match keyed C.P kt y && zeroOk C.P el with
        | true => .look m k (mapGet y z) (lookF ok)
        | false => .bad
      | _, _, _ => .bad
    | _, _ => .bad
  | .extract x i => match opdBare e x with
    | .tup l => match l[i]? with
      | some y => .val (.v y)
      | none => .bad
    | _ => .bad
  | .makeFunc (.func f) first caps => match isBnd f with
    | true => .bad
    | false => match first.toList, allOnes (caps.toList.map (opdBare e)) with
      | [], some cs => derefs cs [] fun l => .one (.func (some (f, l)))
      | [x], some [] => match allOnes [opdBare e x] with
        | some cs => derefs cs [] fun l => .one (.func (some (onB f, l)))
        | none => .bad
      | _, _ => .bad
  | .call { callee := .builtin .len, args, argTypes } => match args.toList, argTypes.toList with
    | [x], [t] => match C.P.underlying t, opd C e t x with
      | some .string, .v (.one (.str s)) => .val (goInt s.size)
      | some (.slice _), .v (.one (.slice _ s)) => .val (goInt s.len)
      | some (.slice _), .lit _ n _ => .val (goInt n)
      | some (.map _ _), .v (.one (.map m)) => .look m (.one (.int .i64)) (fun es => some (.one (.int .i64 (es.length : Nat)), true)) (fun x _ => .v x)
      | some (.array n _), _ => .val (goInt n)
      | _, _ => .bad
    | _, _ => .bad
  | .call { callee := .builtin .max, args, argTypes := _ } => match args.toList.map (opdBare e) with
    | .v (.one c) :: l => match c, maxCells c l with
      | .int _ _, some c => .one c
      | _, _ => .bad
    | _ => .bad
  | .call { callee := .builtin .min, args, argTypes := _ } => match args.toList.map (opdBare e) with
    | .v (.one c) :: l => match c, minCells c l with
      | .int _ _, some c => .one c
      | _, _ => .bad
    | _ => .bad
  | _ => .bad
  where
  derefs : List Cell → List (Nat × Nat) → (List (Nat × Nat) → Res) → Res
    | [], acc, f => f acc
    | .ptr a :: l, acc, f => .deref a fun i o => derefs l (acc ++ [(i, o)]) f
    | _, _, _ => .bad

/-! ### operations that change memory -/
def watch : List Nat → Heap → Heap → Prop → Prop
  | [], _, _, p => p
  | i :: l, h, h', p => h' i = h i ∧ watch l h h' p

def updCells (cs : List Cell) (o : Nat) : List Cell → List Cell
  | [c] => cs.set o c
  | new => splice cs o new

def storeK (ws : List Nat) (i o : Nat) (new : List Cell) (k : T) : T := fun h =>
  ∃ cs, h i = some (.cells false cs) ∧ o + new.length ≤ cs.length ∧ watch ws h (h.set i (.cells false (updCells cs o new))) (k (h.set i (.cells false (updCells cs o new))))

/-- Cells are written at an address, if it is one. -/
def clearK (ws : List Nat) (a : Option (Nat × Nat)) (new : List Cell) (k : T) : T := match a with
  | none => k
  | some (i, o) => storeK ws i o new k

def Heap.drop (h : Heap) (s : Sl) : Heap := match s.a with
  | none => h
  | some (i, _) => h.del i
def Heap.mine (h : Heap) (s : Sl) : Prop := match s.a with
  | none => True
  | some (i, _) => ∃ cs, h i = some (.cells false cs)

/-- append: `m` elements, `new` their cells. -/
def appendK (ws : List Nat) (sz bytes : Nat) (s : Sl) (m : Nat) (new : List Cell) (k : Sl → T) : T := fun h =>
  ∃ old, h.sl sz s = some old ∧ h.mine s ∧ (s.len + m) * bytes ≤ 140737488355328 ∧
    ∀ j, h j = none → watch ws h ((h.drop s).set j (.cells false (old ++ new))) (k ⟨some (j, 0), s.len + m⟩ ((h.drop s).set j (.cells false (old ++ new))))

def appendAnyK (ws : List Nat) (sz bytes : Nat) (s : Sl) (m : Nat) (new : List Cell) (k : Sl → T) : T := fun h =>
  if s.a = none ∧ m = 0 then k ⟨none, 0⟩ h else appendK ws sz bytes s m new k h

def newK (o : Obj) (k : Nat → T) : T := fun h => ∀ i, h i = none → k i (h.set i o)

/-- m[k] = x. -/
def mapK (ws : List Nat) (m : Option Nat) (kx x : V) (k : T) : T := match m with
  | none => no
  | some i => fun h => ∃ es es', h i = some (.map es) ∧ mapSet kx x es = some es' ∧ watch ws h (h.set i (.map es')) (k (h.set i (.map es')))

/-- The first half of m[k] = x in a statement of several assignments: the entry is there, the machine has a stamp for it. -/
def entK (ws : List Nat) (m : Option Nat) (kx z : V) (k : V → Nat → T) : T := match m with
  | none => no
  | some i => fun h => ∃ es es' x0 b, h i = some (.map es) ∧ mapGet kx z es = some (x0, b) ∧ mapSet kx x0 es = some es' ∧ ∀ n : Nat, watch ws h (h.set i (.mapE es' kx n)) (k x0 n (h.set i (.mapE es' kx n)))
/-- .. the second half: by the stamp. -/
def entStK (ws : List Nat) (m : Option Nat) (q : V → Bool) (n : Int) (x : V) (k : T) : T := match m with
  | none => no
  | some i => fun h => ∃ es es' y n', h i = some (.mapE es y n') ∧ n = (n' : Int) ∧ q y = true ∧ mapSet y x es = some es' ∧ watch ws h (h.set i (.map es')) (k (h.set i (.map es')))

/-! ### a range over a map: while it runs the map stays as it is -/
/-- What the iterator has not handed out. -/
def leftF (fs : List ((V × V) × Nat)) (seen : List Nat) : List ((V × V) × Nat) := fs.filter fun e => !seen.contains e.2
def rangeK (i : Nat) (k : Nat → T) : T := fun h => ∃ es, h i = some (.map es) ∧ ∀ (fs : List ((V × V) × Nat)) (ck : Nat), fs.map (·.1) = es → (fs.map (·.2)).Nodup → ∀ j, h j = none →
  k j ((h.set i (.mapF fs ck)).set j (.iter i [] ck))
/-- A map that is one. -/
def rangeO (m : Option Nat) (k : Nat → T) : T := match m with
  | some i => rangeK i k
  | none => no
def nextK (j : Nat) (kEnd : T) (kOne : V → V → T) : T := fun h => ∃ i fs ck seen, h j = some (.iter i seen ck) ∧ h i = some (.mapF fs ck) ∧ (leftF fs seen = [] → kEnd (h.set i (.map (fs.map (·.1))))) ∧
  ∀ e, e ∈ leftF fs seen → kOne e.1.1 e.1.2 (h.set j (.iter i (seen ++ [e.2]) ck))
def entryK (j : Nat) (k : V → V → T) : T := fun h => ∃ i fs ck seen e, h j = some (.iter i (seen ++ [e.2]) ck) ∧ h i = some (.mapF fs ck) ∧ e ∈ fs ∧ k e.1.1 e.1.2 h
/-- The type of the map over which an iterator runs. -/
def rangeTy (d : Nat) : Code → Option TypeId
  | .region _ ops _ => ops.toList.findSome? fun o => match o.op, o.dst with
    | .range t _, some d' => match d'.beq d with
      | true => some t
      | false => none
    | _, _ => none
  | .seq a b => match rangeTy d a with
    | some t => some t
    | none => rangeTy d b
  | .cond _ a b => match rangeTy d a with
    | some t => some t
    | none => rangeTy d b
  | .block _ c => rangeTy d c
  | .loop c => rangeTy d c
  | _ => none
def iterVK (C : Ctx) (x : Operand) : Option (VK × VK) := match x with
  | .tmp d => match C.P.funcs[C.fn]? with
    | some fn => match fn.body with
      | some c => match rangeTy d c with
        | some t => match C.P.underlying t with
          | some (.map kt el) => match vk C.P kt, vk C.P el with
            | some a, some b => some (a, b)
            | _, _ => none
          | _ => none
        | none => none
      | none => none
    | none => none
  | _ => none

/-- The operand as a value; a slice literal gets its place now. -/
def asV (al : Nat) (e : Env) (x : Operand) (y : TV) (k : V → Env → T) : T :=
  match y with
  | .v z => k z e
  | .lit sz n cs => match x with
    | .tmp u => match al.testBit u with
      | true => newK (.cells false cs) fun i => k (.one (.slice sz ⟨some (i, 0), n⟩)) ((u, .v (.one (.slice sz ⟨some (i, 0), n⟩))) :: e)
      | false => no
    | _ => no
  | _ => no

def asVs (C : Ctx) (al : Nat) : List (Operand × TypeId) → Env → (List V → Env → T) → T
  | [], e, k => k [] e
  | (x, t) :: l, e, k => asV al e x (opd C e t x) fun y e => asVs C al l e fun ys e => k (y :: ys) e

def put (C : Ctx) (al : Nat) (e : Env) (dst : Option Nat) (x : TV) (k : Env → T) : T :=
  match dst with
  | none => k e
  | some d => match x with
    | .var _ => match d.blt C.ntmps && al.testBit d && C.own.testBit d && Env.noRef d e with
      | true => k ((d, x) :: e)
      | false => no
    | .ref t _ => match d.blt C.ntmps && al.testBit d && !C.own.testBit d && C.own.testBit t with
      | true => k ((d, x) :: e)
      | false => no
    | _ => match d.blt C.ntmps && al.testBit d && !C.own.testBit d with
      | true => k ((d, x) :: e)
      | false => no

def resKinds (P : Program) (t : TypeId) : Option (List VK) :=
  match P.underlying t with
  | some (.tuple ts) => ts.toList.mapM (vk P)
  | _ => (vk P t).map ([·])

def ofRes : List V → TV
  | [x] => .v x
  | l => .tup l

/-- A function value that is one: which function, the addresses that it has caught. -/
def funK (f : Option (FuncId × List (Nat × Nat))) (k : FuncId → List V → T) : T := match f with
  | some (g, caps) => k g (caps.map fun a => .one (.ptr (some a)))
  | none => no

def callK (C : Ctx) (ws : List Nat) (f : Option (FuncId × List (Nat × Nat))) (args : List V) (rk : List VK) (k : List V → T) : T :=
  funK f fun g cs h => C.calls g (args ++ cs) (fun rs h' => watch ws h h' (exVs rk fun xs => rs = xs ∧ k xs h')) h

def isFn : TV → Option (Option (FuncId × List (Nat × Nat)))
  | .v (.one (.func f)) => some f
  | _ => none

def slCells (k : VK) (n : Nat) : List Cell := (List.replicate n (match k with
  | .one k => [k.zero]
  | .agg ks => ks.map Kd.zero)).flatten

def getInt : TV → Option Int
  | .v (.one (.int _ n)) => some n
  | _ => none
def getSl : TV → Option (Nat × Sl)
  | .v (.one (.slice sz s)) => some (sz, s)
  | _ => none
def getMap : TV → Option (Option Nat)
  | .v (.one (.map m)) => some m
  | _ => none
def getV : TV → Option V
  | .v x => some x
  | _ => none
def getStr : TV → Option ByteArray
  | .v (.one (.str s)) => some s
  | _ => none
def getLit : TV → Option (Nat × Nat × List Cell)
  | .lit sz n cs => some (sz, n, cs)
  | _ => none
def getPtr : TV → Option (Option (Nat × Nat))
  | .v (.one (.ptr a)) => some a
  | _ => none
/-- A place in a variable of the frame's own. -/
def getVar (u : Nat) : TV → Option (Nat × Nat)
  | .var _ => some (u, 0)
  | .ref b off => some (b, off)
  | _ => none

def storeVarK (al : Nat) (e : Env) (b off : Nat) (new : List Cell) (k : Env → T) : T :=
  match e.get b with
  | .var cs => match (off + new.length).ble cs.length && al.testBit b with
    | true => k ((b, .var (updCells cs off new)) :: e)
    | false => no
  | _ => no

def storeTo (al : Nat) (ws : List Nat) (e : Env) (u : Nat) (new : List Cell) (k : Env → T) : T :=
  match getVar u (e.get u) with
  | some (b, off) => storeVarK al e b off new k
  | none => match getPtr (e.get u) with
    | some a => derefK a fun i off => storeK ws i off new (k e)
    | none => no

/-- What is appended: how many elements, their cells. -/
def newsK (sz : Nat) (isB : Bool) (x : TV) (k : Nat → List Cell → T) : T :=
  match getLit x with
  | some (sz', n, cs) => match sz.beq sz' && (n * sz).beq cs.length with
    | true => k n cs
    | false => no
  | none => match getSl x with
    | some (sz', s') => match sz.beq sz' with
      | true => fun h => ∃ new, h.sl sz s' = some new ∧ k s'.len new h
      | false => no
    | none => match getStr x, isB && sz.beq 1 with
      | some b, true => k b.size (byteCells b)
      | _, _ => no

def notInt (P : Program) (t : TypeId) : Bool := match P.underlying t with
  | some (.int _) => false
  | some _ => true
  | none => false

def isInt (P : Program) (t : TypeId) : Bool := match P.underlying t with
  | some (.int _) => true
  | _ => false

def appendTo (ws : List Nat) (sz bytes : Nat) (s : Sl) (n : Nat) (cs : List Cell) (k : Sl → T) : T :=
  match n with
  | m + 1 => appendK ws sz bytes s (m + 1) cs k
  | 0 => appendAnyK ws sz bytes s 0 cs k

def builtV : Res → Option V
  | .val (.v x) => some x
  | _ => none
def litOf : Res → Option (Nat × Nat × List Cell)
  | .val (.lit sz n cs) => some (sz, n, cs)
  | _ => none

def loudOp (C : Ctx) (al : Nat) (ws : List Nat) (e : Env) (o : Oper) (k : Env → T) (h : Heap) : Prop :=
  match o.op with
  | .move x | .assign x => asV al e x (opd C e o.type x) (fun y e => put C al e o.dst (.v y) k) h
  | .alloc t => match zeroV C.P t with
    | some z => newK (.cells false z.cells) (fun i => put C al e o.dst (.v (.one (.ptr (some (i, 0))))) k) h
    | none => False
  | .box t x => match vk C.P t with
    | some ks => asV al e x (opd C e t x) (fun y e => match y.cells.length.beq ks.kds.length with
      | true => newK (.cells false y.cells) fun i => put C al e o.dst (.v (.one (.ptr (some (i, 0))))) k
      | false => no) h
    | none => False
  | .store t a x => match o.dst, vk C.P t, a with
    | none, some ks, .tmp u => asV al e x (opd C e t x) (fun y e => match y.cells.length.beq ks.kds.length with
      | true => storeTo al ws e u y.cells k
      | false => no) h
    | _, _, _ => False
  | .convert s d x => match isBytes C.P d && isStr C.P s, getStr (opd C e s x) with
    | true, some b => newK (.cells false (byteCells b)) (fun i => put C al e o.dst (.v (.one (.slice 1 ⟨some (i, 0), b.size⟩))) k) h
    | _, _ => False
  | .buildSlice _ _ _ => match litOf (pureRes C e o), o.dst with
    | some (sz, n, cs), some d => put C al e (some d) (.lit sz n cs) (fun e' => asV al e' (.tmp d) (.lit sz n cs) fun _ e'' => k e'') h
    | _, _ => False
  | .build _ _ => match builtV (pureRes C e o) with
    | some x => put C al e o.dst (.v x) k h
    | none => False
  | .makeSlice t n c => match C.P.underlying t, getInt (opdBare e n), getInt (opdBare e c) with
    | some (.slice el), some n, some c => match vk C.P el, zeroV C.P el, C.P.info? el with
      | some ks, some _, some inf => Nat.blt 0 inf.bytes = true ∧ 0 ≤ n ∧ n ≤ c ∧ c * inf.bytes ≤ 140737488355328 ∧
          newK (.cells false (slCells ks n.toNat)) (fun i => put C al e o.dst (.v (.one (.slice inf.size ⟨some (i, 0), n.toNat⟩))) k) h
      | _, _, _ => False
    | _, _, _ => False
  | .makeMap t r => match C.P.underlying t, r with
    | some (.map _ _), none => newK (.map []) (fun i => put C al e o.dst (.v (.one (.map (some i)))) k) h
    | _, _ => False
  | .mapUpdate t m kx x | .insert t m kx x => match o.dst, C.P.underlying t with
    | none, some (.map kt el) => asV al e x (opd C e el x) (fun y e => match getMap (opd C e t m), getV (opd C e kt kx) with
      | some m, some ky => match keyed C.P kt ky with
        | true => mapK ws m ky y (k e)
        | false => no
      | _, _ => no) h
    | _, _ => False
  | .mapEntry t m kx => match C.P.underlying t with
    | some (.map kt el) => match getMap (opd C e t m), getV (opd C e kt kx), zeroV C.P el, vk C.P el with
      | some m, some ky, some z, some kv => match keyed C.P kt ky && zeroOk C.P el with
        | true => entK ws m ky z (fun x n h => exV kv fun a => x = a ∧ put C al e o.dst (.tup [a, .one (.int .i64 n)]) k h) h
        | false => False
      | _, _, _, _ => False
    | _ => False
  | .entryStore t m s x => match o.dst, C.P.underlying t with
    | none, some (.map kt el) => asV al e x (opd C e el x) (fun y e => match getMap (opd C e t m), getInt (opdBare e s) with
      | some m, some n => entStK ws m (keyed C.P kt) n y (k e)
      | _, _ => no) h
    | _, _ => False
  | .call { callee := .builtin .append, args, argTypes } => match args.toList, argTypes.toList with
    | [s, x], [t, t'] => match C.P.underlying t with
      | some (.slice el) => match C.P.info? el, zeroV C.P el, getSl (opd C e t s) with
        | some inf, some _, some (sz, s) => match sized C.P el sz && Nat.blt 0 inf.bytes && notInt C.P t' with
          | true => newsK sz (isBytes C.P t) (opd C e t' x) (fun n cs => appendTo ws sz inf.bytes s n cs fun r => put C al e o.dst (.v (.one (.slice sz r))) k) h
          | false => match sized C.P el sz && Nat.blt 0 inf.bytes && isInt C.P t', vk C.P el, getInt (opdBare e x) with
            | true, some ks, some n => 0 ≤ n ∧ n ≤ 140737488355328 ∧ n.toNat * inf.bytes ≤ 140737488355328 ∧
                appendTo ws sz inf.bytes s n.toNat (slCells ks n.toNat) (fun r => put C al e o.dst (.v (.one (.slice sz r))) k) h
            | _, _, _ => False
        | some inf, some _, none => match getLit (opd C e t s) with
          | some (sz, 0, []) => match sized C.P el sz && Nat.blt 0 inf.bytes && notInt C.P t' with
            | true => newsK sz (isBytes C.P t) (opd C e t' x) (fun n cs h => n * inf.bytes ≤ 140737488355328 ∧
                newK (.cells false cs) (fun i => put C al e o.dst (.v (.one (.slice sz ⟨some (i, 0), n⟩))) k) h) h
            | false => False
          | _ => False
        | _, _, _ => False
      | _ => False
    | _, _ => False
  | .call { callee := .builtin .copy, args, argTypes } => match args.toList, argTypes.toList with
    | [d, x], [t, t'] => match getSl (opd C e t d), getSl (opd C e t' x), C.P.underlying t with
      | some (sz, d), some (sz', s), some (.slice el) => match sz.beq sz' && sized C.P el sz with
        | true => ∃ new, h.sl sz s = some new ∧ match d.a with
            | none => put C al e o.dst (goInt 0) k h
            | some (i, off) => storeK ws i off (new.take (min s.len d.len * sz)) (put C al e o.dst (goInt (min s.len d.len : Nat)) k) h
        | false => False
      | _, _, _ => False
    | _, _ => False
  | .call { callee := .builtin .clear, args, argTypes } => match args.toList, argTypes.toList with
    | [s], [t] => match getSl (opd C e t s), C.P.underlying t with
      | some (sz, s), some (.slice el) => match sized C.P el sz, vk C.P el, zeroV C.P el with
        | true, some ks, some _ => clearK ws s.a (slCells ks s.len) (put C al e o.dst (.tup []) k) h
        | _, _, _ => False
      | _, _ => False
    | _, _ => False
  | .range t x => match ws, C.P.underlying t, getMap (opd C e t x) with
    | [], some (.map _ _), some m => rangeO m (fun j => put C al e o.dst (.v (.one (.ptr (some (j, 0))))) k) h
    | _, _, _ => False
  | .next x false => match ws, getPtr (opdBare e x), iterVK C x with
    | [], some (some (j, 0)), some (kk, kv) => nextK j (put C al e o.dst (.tup [.one (.bool false)]) k)
        (fun x y h => exV kk fun a => exV kv fun b => x = a ∧ y = b ∧ put C al e o.dst (.tup [.one (.bool true), a, b]) k h) h
    | _, _, _ => False
  | .entry x => match ws, getPtr (opdBare e x), iterVK C x with
    | [], some (some (j, 0)), some (kk, kv) => entryK j (fun x y h => exV kk fun a => exV kv fun b => x = a ∧ y = b ∧ put C al e o.dst (.tup [a, b]) k h) h
    | _, _, _ => False
  | .call { callee := .value f, args, argTypes } => match isFn (opdBare e f), resKinds C.P o.type with
    | some f, some rk => match args.toList.length.beq argTypes.toList.length with
      | true => asVs C al (args.toList.zip argTypes.toList) e (fun ys e => callK C ws f ys rk fun rs => put C al e o.dst (ofRes rs) k) h
      | false => False
    | _, _ => False
  | _ => False

/-- What is appended to, where it is a literal with something in it: that gets its place first. -/
def litFirst (C : Ctx) (e : Env) (o : Oper) : List (Operand × TypeId) := match o.op with
  | .call { callee := .builtin .append, args, argTypes } => match args.toList, argTypes.toList with
    | [s, _], [t, _] => match getLit (opd C e t s) with
      | some (_, _ + 1, _) => [(s, t)]
      | _ => []
    | _, _ => []
  | .build t ps => ps.toList.filterMap fun p => match getLit (opd C e (fieldType C.P t p.1) p.2) with
    | some _ => some (p.2, fieldType C.P t p.1)
    | none => none
  | _ => []
def loudOp2 (C : Ctx) (al : Nat) (ws : List Nat) (e : Env) (o : Oper) (k : Env → T) (h : Heap) : Prop :=
  match litFirst C e o with
  | [] => loudOp C al ws e o k h
  | l => asVs C al l e (fun _ e' h' => loudOp C al ws e' o k h') h

/-- Does the operation look at a slice literal in a way that can do without a place for it? -/
def usesLit (p : Oper) (d : Nat) : Bool := match p.op with
  | .indexAddr _ _ _ | .slice _ _ _ _ _ | .buildSlice _ _ _ => false
  | .call { callee := .builtin .len, .. } => false
  | op => op.operands.any fun x => match x with
    | .tmp u => u.beq d
    | _ => false

def isSlTmp (ops : List Oper) (u : Nat) : Bool := ops.any fun p => match p.op, p.dst with
  | .buildSlice _ _ _, some d => d.beq u
  | _, _ => false
def builtOf (ops : List Oper) (u : Nat) : Bool := ops.any fun q => match q.op with
  | .build _ ps => ps.toList.any fun p => match p.2 with
    | .tmp v => v.beq u
    | _ => false
  | _ => false
/-- The front part of a slice literal, of which a struct is built: which literal, which temporary. -/
def front (ops : List Oper) (o : Oper) : Option (Nat × Nat) := match o.op, o.dst with
  | .slice _ (.tmp d) none (some _) none, some u => match isSlTmp ops d && builtOf ops u with
    | true => some (d, u)
    | false => none
  | _, _ => none
def frontIs (ops : List Oper) (o : Oper) (d : Nat) : Bool := match front ops o with
  | some (d', _) => d'.beq d
  | none => false
def isLitTmp (ops : List Oper) (x : Operand) : Bool := match x with
  | .tmp u => isSlTmp ops u || ops.any fun p => match front ops p with
    | some (_, u') => u'.beq u
    | none => false
  | _ => false

/-- Which operations change memory, or ask for a place in it. -/
def loud (C : Ctx) (ops : List Oper) (o : Oper) : Bool :=
  match o.op with
  | .alloc _ | .box _ _ => match o.dst with
    | some d => !C.own.testBit d
    | none => true
  | .build _ ps => ps.toList.any fun p => isLitTmp ops p.2
  | .store _ _ _ | .makeSlice _ _ _ | .makeMap _ _ | .insert _ _ _ _ | .mapUpdate _ _ _ _ | .mapEntry _ _ _ | .entryStore _ _ _ _ | .range _ _ | .next _ _ | .entry _ => true
  | .convert s d _ => isBytes C.P d && isStr C.P s
  | .buildSlice _ _ _ => match o.dst with
    | some d => !ops.any fun p => usesLit p d || frontIs ops p d
    | none => false
  | .call { callee := .builtin b, .. } => match b with
    | .len | .max | .min => false
    | _ => true
  | .call _ => true
  | .move (.tmp u) | .assign (.tmp u) => ops.any fun p => match p.op, p.dst with
    | .buildSlice _ _ _, some d => d.beq u
    | _, _ => false
  | _ => false

end Go.Proofs.YtadakbmoanbcgaaGreatDoorVc
