/- Vc, part 3: regions, code, functions. -/
import Derived.Test.YtadakbmoanbcgaaGreatDoorVcDen
import Derived.Defers
namespace Go.Proofs.YtadakbmoanbcgaaGreatDoorVc

structure Ann where
  joins : List (Nat × (Nat × Js))
  loops : List (Nat × (Nat × Js))

def look {α : Type} (n : Nat) : List (Nat × α) → Option α
  | [] => none
  | (m, x) :: l => match n.beq m with
    | true => some x
    | false => look n l

/-! ### a region whose order is drawn: an order of ours, and what makes it serve for all -/
def edgeBinds (e : Edge) : Bool := match e.ground with
  | .textOnly _ | .gcOnly _ => false
  | _ => true
def befOf (acc : List Nat) (o : Oper) : Nat := o.after.toList.foldl (fun s e => match edgeBinds e with
  | true => s ||| (2 ^ e.on ||| acc.getD e.on 0)
  | false => s) 0
def befsGo : List Oper → List Nat → List Nat
  | [], acc => acc
  | o :: os, acc => befsGo os (acc ++ [befOf acc o])
/-- For each operation the set of those that come before it in every order. -/
def befs (ops : List Oper) : List Nat := befsGo ops []

def tmpBit : Operand → Nat
  | .tmp t => 2 ^ t
  | _ => 0
def optBit : Option Nat → Nat
  | some t => 2 ^ t
  | none => 0
def maskOf (l : List Operand) : Nat := l.foldl (fun s x => s ||| tmpBit x) 0
/-- The temporaries that an address is made of. -/
def chain (ops : List Oper) : Nat → Operand → Nat
  | 0, _ => 0
  | d + 1, .tmp u => 2 ^ u ||| ops.foldl (fun s o => match o.dst with
    | some t => match t.beq u with
      | true => match o.op with
        | .fieldAddr _ x _ | .indexAddr _ x _ | .nilCheck x => s ||| chain ops d x
        | _ => s
      | false => s
    | none => s) 0
  | _, _ => 0
def guardBit (ops : List Oper) (o : Oper) : Nat := match o.guard with
  | some (g, _) => optBit ((ops[g]?).bind (·.dst))
  | none => 0
def rdMask (C : Ctx) (ops : List Oper) (o : Oper) : Nat :=
  (maskOf o.op.operands.toList ||| guardBit ops o) ||| (match o.op with
    | .load _ a | .store _ a _ => chain ops 8 a &&& C.own
    | _ => 0)
def wrMask (C : Ctx) (ops : List Oper) (o : Oper) : Nat :=
  optBit o.dst ||| (match front ops o with
    | some (d, _) => 2 ^ d
    | none => 0) ||| (match o.op with
    | .store _ a _ => chain ops 8 a &&& C.own
    | _ => 0) ||| (match loud C ops o with
    | true => maskOf (o.op.operands.toList.filter (isLitTmp ops))
    | false => 0)

structure Draw where
  b : List Nat
  rd : List Nat
  wr : List Nat

def drawOf (C : Ctx) (ops : List Oper) : Draw := ⟨befs ops, ops.map (rdMask C ops), ops.map (wrMask C ops)⟩

/-- Operation i, behind `seen` (a set), of which `louds` are the loud ones. -/
def okStep (D : Draw) (seen : List Nat) (seenM : Nat) (louds : List Nat) (i : Nat) : Bool :=
  let bi := D.b.getD i 0
  (bi &&& seenM).beq bi && !seenM.testBit i && louds.all (fun l => bi.testBit l) &&
  seen.all fun j => bi.testBit j ||
    ((D.wr.getD i 0 &&& (D.wr.getD j 0 ||| D.rd.getD j 0)) ||| (D.wr.getD j 0 &&& D.rd.getD i 0)).beq 0

def okOrder (C : Ctx) (ops : List Oper) (D : Draw) : List Nat → List Nat → Nat → List Nat → Bool
  | [], _, seenM, _ => seenM.beq (2 ^ ops.length - 1)
  | i :: is, seen, seenM, louds => match ops[i]? with
    | none => false
    | some o => okStep D seen seenM louds i && okOrder C ops D is (i :: seen) (seenM ||| 2 ^ i) (match loud C ops o with
      | true => i :: louds
      | false => louds)

/-- The order that we take: what is not loud as early as may be. -/
def greedyGo (C : Ctx) (ops : List Oper) (b : List Nat) : Nat → Nat → List Nat → List Nat
  | 0, _, acc => acc.reverse
  | fuel + 1, seen, acc =>
    let rs := (List.range ops.length).filter fun i => !seen.testBit i && (b.getD i 0 &&& seen).beq (b.getD i 0)
    let qs := rs.filter fun i => match ops[i]? with
      | some o => !loud C ops o
      | none => false
    match qs, rs with
    | i :: _, _ => greedyGo C ops b fuel (seen ||| 2 ^ i) (i :: acc)
    | [], i :: _ => greedyGo C ops b fuel (seen ||| 2 ^ i) (i :: acc)
    | [], [] => acc.reverse
def greedy (C : Ctx) (ops : List Oper) : List Nat := greedyGo C ops (befs ops) ops.length 0 []

/-- The places of the frame's own that the region makes. -/
def allocs (C : Ctx) (ops : List Oper) : List (Nat × Nat) := (List.range ops.length).filterMap fun i => match ops[i]? with
  | some o => match o.dst with
    | some d => match C.own.testBit d with
      | true => some (i, d)
      | false => none
    | none => none
  | none => none

/-- In a region that draws: an operation looks at no variables but those that its text tells. -/
def refsOk (C : Ctx) (ops : List Oper) (e : Env) (o : Oper) : Bool :=
  o.op.operands.toList.all fun x => match x with
    | .tmp u => match e.get u with
      | .ref t _ => match o.op with
        | .load _ _ => (rdMask C ops o).testBit t
        | .store _ _ _ => (wrMask C ops o).testBit t
        | _ => true
      | .lit _ _ _ => !loud C ops o || (wrMask C ops o).testBit u
      | .var _ => match o.op with
        | .store _ _ _ => (wrMask C ops o).testBit u
        | _ => true
      | _ => true
    | _ => true

def idsGo (D : Draw) (i : Nat) : List (Nat × Nat) → List Nat
  | [] => []
  | (j, id) :: l => match (D.b.getD i 0).testBit j with
    | true => idsGo D i l
    | false => id :: idsGo D i l
def idsAgainst (D : Option Draw) (i : Nat) (l : List (Nat × Nat)) : List Nat := match D with
  | none => []
  | some D => idsGo D i l

/-- A new address in a place that the region makes stands behind its making. -/
def refNew (C : Ctx) (ops : List Oper) (D : Option Draw) (i : Nat) (x : TV) : Bool := match D with
  | none => true
  | some D => match x with
    | .ref t _ => (allocs C ops).all fun p => !(p.2.beq t) || (D.b.getD i 0).testBit p.1
    | _ => true

def condK (b want : Bool) (x y : T) : T := match want with
  | true => ifT b x y
  | false => ifT b y x

def checkK (D : Option Draw) (b : Bool) (k : T) : T := match D with
  | none => k
  | some _ => match b with
    | true => k
    | false => no

/-- The front part of a slice literal: how long it shall be, how long the literal is; what is bound. -/
def frontLit (C : Ctx) (al : Nat) (ops : List Oper) (e : Env) (o : Oper) : Option (Int × Nat × Env) := match o.op, front ops o with
  | .slice t _ _ (some x) _, some (d, u) => match e.get d, getInt (opdBare e x), C.P.underlying t with
    | .lit sz n cs, some m, some (.slice el) => match sized C.P el sz && Nat.blt 0 sz && u.blt C.ntmps && al.testBit u && al.testBit d && !C.own.testBit u && !(u.beq d) with
      | true => some (m, n, [(u, .lit sz m.toNat cs), (d, .undef)])
      | false => none
    | _, _, _ => none
  | _, _ => none

def oneOp (C : Ctx) (al : Nat) (ops : List Oper) (D : Option Draw) (i : Nat) (o : Oper) (e : Env) (rs : List (Nat × Nat)) (k : Env → List (Nat × Nat) → T) : T :=
  match loud C ops o with
  | true => loudOp2 C al (idsAgainst D i rs) e o fun e => k e rs
  | false => match frontLit C al ops e o with
    | some (m, n, d) => fun h => (0 ≤ m ∧ m ≤ n) ∧ k (d ++ e) rs h
    | none => (pureRes C e o).run fun x ids => checkK D (refNew C ops D i x) (put C al e o.dst x fun e => k e (rs ++ ids.map fun id => (i, id)))

def dOps (C : Ctx) (al : Nat) (ops : List Oper) (D : Option Draw) : List Nat → Env → List (Nat × Nat) → (Env → T) → T
  | [], e, _, k => k e
  | i :: is, e, rs, k => match ops[i]? with
    | none => no
    | some o => match o.guard with
      | none => checkK D (refsOk C ops e o) (oneOp C al ops D i o e rs fun e rs => dOps C al ops D is e rs k)
      | some (g, want) => match (ops[g]?).bind (·.dst) with
        | none => no
        | some tg => match e.get tg with
          | .v (.one (.bool b)) => condK b want
            (checkK D (refsOk C ops ((tg, .v (.one (.bool want))) :: e) o) (oneOp C al ops D i o ((tg, .v (.one (.bool want))) :: e) rs fun e rs => dOps C al ops D is e rs k))
            (put C al ((tg, .v (.one (.bool (!want)))) :: e) o.dst (.tup []) fun e => dOps C al ops D is e rs k)
          | .tup [] => put C al e o.dst (.tup []) fun e => dOps C al ops D is e rs k
          | _ => no

def dRegion (C : Ctx) (al : Nat) (ops : List Oper) (draw : Bool) (e : Env) (k : Env → T) : T :=
  match draw with
  | false => dOps C al ops none (List.range ops.length) e [] k
  | true => match okOrder C ops (drawOf C ops) (greedy C ops) [] 0 [] && (allocs C ops).all fun p => Env.noRef p.2 e with
    | true => dOps C al ops (some (drawOf C ops)) (greedy C ops) e [] k
    | false => no

abbrev Exits := List (Nat × (Env → T))
def lookX (n : Nat) : Exits → Env → T
  | [], _ => no
  | (m, k) :: l, e => match n.beq m with
    | true => k e
    | false => lookX n l e

def wrapJ (j : Option (Nat × Js)) (al : Nat) (e : Env) (k : Env → T) (f : Nat → (Env → T) → T) : T :=
  match j with
  | none => f al k
  | some (M, js) => match (M &&& al).beq M && keysIn M js with
    | true => joinK (fun a => k (Env.setAll js a (Env.clear M e))) fun j => f M fun e' => jump js e' j
    | false => no

def den (C : Ctx) (A : Ann) : Code → Nat → Nat → Env → Exits → (Env → T) → (Env → T) → T
  | .skip, _, _, e, _, _, k => k e
  | .region _ ops draw, p, al, e, _, _, k => wrapJ (look p A.joins) al e k fun al k => dRegion C al ops.toList draw e k
  | .seq a b, p, al, e, X, R, k => wrapJ (look p A.joins) al e k fun al k => den C A a (2 * p) al e X R fun e => den C A b (2 * p + 1) al e X R k
  | .cond c x y, p, al, e, X, R, k => wrapJ (look p A.joins) al e k fun al k => match opdBare e c with
    | .v (.one (.bool b)) => ifT b (den C A x (2 * p) al e X R k) (den C A y (2 * p + 1) al e X R k)
    | _ => no
  | .block id c, p, al, e, X, R, k => wrapJ (look p A.joins) al e k fun al k => den C A c (2 * p) al e ((id, k) :: X) R k
  | .loop c, p, al, e, X, R, _ => match look p A.loops with
    | none => no
    | some (M, js) => match (M &&& al).beq M && keysIn M js, Env.collect js e with
      | true, some a => loopK a fun rec a => den C A c (2 * p) M (Env.setAll js a (Env.clear M e)) X R fun e' => jump js e' rec
      | _, _ => no
  | .exit id, _, _, e, X, _, _ => lookX id X e
  | .ret, _, _, e, _, R, _ => R e
  | _, _, _, _, _, _, _ => no

def resK (C : Ctx) : List ResultVar → Env → (List V → T) → T
  | [], _, k => k []
  | .tmp t :: l, e, k => asV (2 ^ C.ntmps - 1) e (.tmp t) (e.get t) fun x e => resK C l e fun xs => k (x :: xs)
  | .cell a t :: l, e, k => (loadRes C.P e t (.tmp a)).run fun x _ => match x with
    | .v x => resK C l e fun xs => k (x :: xs)
    | _ => no

def env0 : List V → Nat → Env
  | [], _ => []
  | x :: xs, i => (i, .v x) :: env0 xs (i + 1)

/-- A function's formula. -/
def denF (P : Program) (own : Nat) (A : Ann) (calls : FuncId → List V → Post → T) (f : FuncId) (args : List V) (Q : Post) : T :=
  match P.funcs[f]? with
  | none => no
  | some fn => match fn.body, args.length.ble fn.ntmps && !(fn.name == "runtime.NumGoroutine") && !isBnd f with
    | some c, true =>
      let C : Ctx := ⟨P, f, own, fn.ntmps, calls, []⟩
      let R : Env → T := fun e => resK C fn.results.toList e Q
      den C A c 1 (2 ^ fn.ntmps - 1) (env0 args 0) [] R R
    | _, _ => no

/-! ### a call that is put off -/
/-- A function value without arguments. -/
def deferOf (o : Oper) : Option Operand := match o.guard, o.dst, o.op with
  | none, none, .defer { callee := .value f, args, argTypes := _ } => match args.toList with
    | [] => some f
    | _ => none
  | _, _, _ => none
/-- Operations of which the last puts a call off: those before it, what is called. -/
def lastOff (ops : List Oper) : Option (Operand × Nat) := match ops.reverse with
  | o :: l => match deferOf o with
    | some f => some (f, l.length)
    | none => none
  | [] => none
def endsOff : Code → Option (List Oper × Operand × Nat)
  | .region _ ops false => match lastOff ops.toList with
    | some (f, n) => some (ops.toList, f, n)
    | none => none
  | _ => none
/-- A function that does nothing where it is called as a deferred one of a frame that returns. -/
def Quiet (P : Program) (g : FuncId) (n : Nat) : Prop := (∃ fn, P.funcs[g]? = some fn ∧ (fn.name == "runtime.NumGoroutine") = false ∧ fn.body.isNone = false) ∧
  ∀ (args : Array Value) (w : World), args.size = n → CallsD P g args .returning w fun e u' w' => (∃ v, e = .returned v) ∧ u' = .returning ∧ w' = w
/-- Whatever has been put off. -/
def allD (k : List Deferred → T) : T := fun h => ∀ ds, k ds h
/-- A call of a function that does nothing then. -/
def quietK (P : Program) (g : FuncId) (n : Nat) (k : List Deferred → T) : T := fun h => Quiet P g n ∧ ∀ ds, k ds h
/-- A call is put off. -/
def putOff (P : Program) (f : TV) (k : List Deferred → T) : T := match isFn f with
  | some (some (g, caps)) => match isBnd g with
    | false => quietK P g caps.length k
    | true => no
  | _ => no
/-- Does a step put a call off? -/
def offIn : Code → Bool
  | .seq a b => offIn a || offIn b
  | .region _ ops _ => ops.toList.any fun o => match o.op with
    | .defer _ => true
    | _ => false
  | .cond _ a b => offIn a || offIn b
  | .block _ c => offIn c
  | .loop c => offIn c
  | .scope c => offIn c
  | _ => false
/-- Code of which one step puts a call off: a chain of steps. -/
def denD (C : Ctx) (A : Ann) : Code → Nat → Nat → Env → (Env → T) → (Env → T) → T
  | .seq a b, p, al, e, R, k => match look p A.joins with
    | some _ => no
    | none => match endsOff a with
      | some (ops, f, n) => dOps C al ops none (List.range n) e [] fun e' => putOff C.P (opdBare e' f) fun ds => den { C with dfs := ds } A b (2 * p + 1) al e' [] R k
      | none => match offIn a with
        | true => denD C A a (2 * p) al e R fun e' => allD fun ds => den { C with dfs := ds } A b (2 * p + 1) al e' [] R k
        | false => den C A a (2 * p) al e [] R fun e' => denD C A b (2 * p + 1) al e' R k
  | _, _, _, _, _, _ => no
/-- A function's formula, where it puts a call off. -/
def denFD (P : Program) (own : Nat) (A : Ann) (calls : FuncId → List V → Post → T) (f : FuncId) (args : List V) (Q : Post) : T :=
  match P.funcs[f]? with
  | none => no
  | some fn => match fn.body, args.length.ble fn.ntmps && !(fn.name == "runtime.NumGoroutine") && !isBnd f with
    | some c, true =>
      let C : Ctx := ⟨P, f, own, fn.ntmps, calls, []⟩
      let R : Env → T := fun e => resK C fn.results.toList e Q
      denD C A c 1 (2 ^ fn.ntmps - 1) (env0 args 0) R R
    | _, _ => no

/-- Functions whose contract comes from elsewhere. -/
abbrev Prim := FuncId → List V → Post → T

/-- A call: what follows of the functions' formulas. -/
def Does (P : Program) (prim : Prim) (f : FuncId) (args : List V) (Q : Post) : T := fun h =>
  ∀ I : FuncId → List V → Post → T, (∀ f args Q h, prim f args Q h → I f args Q h) →
    (∀ f args Q h, (∃ own A, denF P own A I f args Q h) → I f args Q h) → (∀ f args Q h, (∃ own A, denFD P own A I f args Q h) → I f args Q h) →
    (∀ f r args Q h, isBnd f = false → I f (r :: args) Q h → I (onB f) (args ++ [r]) Q h) → I f args Q h

end Go.Proofs.YtadakbmoanbcgaaGreatDoorVc
