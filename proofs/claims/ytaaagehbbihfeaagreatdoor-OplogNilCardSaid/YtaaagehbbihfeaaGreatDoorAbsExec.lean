/-
  THE ABSTRACT MACHINE: operations, regions (in the order of the text; of a drawn one it is asked that no order tells), code, calls, ranges over functions.
  Conditions: none; definitions only.
-/
import Derived.Test.YtaaagehbbihfeaaGreatDoorAbsOps
namespace Go.Abs

inductive ANext where
  | val (v : AV)
  | skip
  | enter (f : FuncId) (args : List AV)
  | round (l : Nat) (args : List AV)

structure Cfg where
  P : Program
  /-- The name of a package-level variable's block. -/
  glob : Nat → Option Nat
  /-- Calls whose outcome is known. -/
  known : FuncId → List AV → AHeap → Option (AV × AHeap)

def evA (C : Cfg) (s : Slots) : Operand → Option AV
  | .tmp t => s.get t
  | .const v => ofValue 8 v
  | .global g => (C.glob g).map fun i => .ptr i 0
  | .func f => some (.func (.func f) [] [])

def evAll (ev : Operand → Option AV) : List Operand → Option (List AV)
  | [] => some []
  | x :: xs => match ev x, evAll ev xs with
    | some a, some as => some (a :: as)
    | _, _ => none
def evOpt (ev : Operand → Option AV) : Option Operand → Option (Option AV)
  | none => some none
  | some x => (ev x).map some
def evParts (ev : Operand → Option AV) : List (Nat × Operand) → Option (List (Nat × AV))
  | [] => some []
  | (i, x) :: xs => match ev x, evParts ev xs with
    | some a, some as => some ((i, a) :: as)
    | _, _ => none

/-- Is it a function with a body (and not the one whose calls the machine answers by itself)? -/
def bodied (P : Program) (f : FuncId) : Bool :=
  match P.funcs[f]? with
  | some fn => !(fn.name == "runtime.NumGoroutine") && fn.body.isSome
  | none => false

/-- What a call of a function value comes to. -/
def targetA (C : Cfg) (f : AV) (args : List AV) (H : AHeap) : Option ANext :=
  match f with
  | .func (.func g) first captured => some (.enter g ((first ++ args) ++ captured))
  | .func (.method name) first captured => match first ++ args with
    | .iface t v :: rest => bif !captured.isEmpty then none else (methodA C.P t v name H).map fun (g, r) => .enter g (r :: rest)
    | _ => none
  | .func (.via t path g ptr) first captured => match first ++ args, C.P.underlying t with
    | r :: rest, some (.pointer _) => bif !captured.isEmpty || !path.isEmpty || !ptr then none else some (.enter g (r :: rest))
    | _, _ => none
  | .yield l => some (.round l args)
  | _ => none

def panicFree (_ : Unit) : Unit := ()

/-- Operations that only look: their value, the heap as it is. -/
def lookA (C : Cfg) (ev : Operand → Option AV) (o : Oper) (H : AHeap) : Option AV :=
  match o.op with
  | .move x | .assign x => ev x
  | .pick c a b => match ev c with
    | some (.bool true) => ev a
    | some (.bool false) => ev b
    | _ => none
  | .build t parts => (evParts ev parts.toList).bind (buildA C.P t)
  | .load t a => match ev a with
    | some (.ptr i o) => loadA C.P t i o H
    | _ => none
  | .nilCheck x => match ev x with
    | some .nilPtr | some .nilIface | some .nilFunc => none
    | some (.func (.method _) _ _) => none
    | some .opq => none
    | r => r
  | .binOp op t x y _ => match ev x, ev y with
    | some a, some b => binOpA C.P H op t x y a b
    | _, _ => none
  | .unOp op _ x => (ev x).bind (unOpA op)
  | .convert src dst x => (ev x).bind fun a => match convertA C.P src dst a H with
    | some (v, _) => (match C.P.underlying dst, a with | some (.slice _), _ => none | _, _ => some v)
    | none => none
  | .makeInterface t x => match C.P.underlying t with
    | some (.interface _) => none
    | some _ => (ev x).map (.iface t)
    | none => none
  | .makeFunc fn first captured => bif !Fn.plain fn then none else match evAll ev first.toList, evAll ev captured.toList with
    | some a, some b => some (.func fn a b)
    | _, _ => none
  | .slice t x lo hi mx => match ev x, evOpt ev lo, evOpt ev hi, evOpt ev mx with
    | some a, some l, some h, some m => sliceA C.P H t a l h m
    | _, _, _, _ => none
  | .fieldAddr s x f => (ev x).bind fun a => fieldAddrA C.P s a f
  | .field t x f => (ev x).bind fun a => fieldA C.P t a f
  | .indexAddr t x i => match ev x, ev i with
    | some a, some b => indexAddrA C.P t a b
    | _, _ => none
  | .index t x i => match ev x, ev i with
    | some a, some b => indexA C.P t a b
    | _, _ => none
  | .lookup t x i ok => match ev x, ev i with
    | some a, some b => lookupA C.P t a b ok H
    | _, _ => none
  | .entry x => (ev x).bind fun a => entryA a H
  | .typeAssert x xt t ok => (ev x).bind fun a => assertA C.P a xt t ok
  | .extract x i => match ev x with
    | some (.tuple vs) => vs[i]?
    | _ => none
  | .call c => match c.callee with
    | .builtin .len => match c.argTypes[0]?, evAll ev c.args.toList with
      | some t, some [a] => lenA C.P t a H
      | _, _ => none
    | .builtin .cap => match c.argTypes[0]?, evAll ev c.args.toList with
      | some t, some [a] => capA C.P t a
      | _, _ => none
    | .builtin .min => (evAll ev c.args.toList).bind minA
    | .builtin .max => (evAll ev c.args.toList).bind maxA
    | _ => none
  | _ => none

/-- Operations that change something. -/
def doA (C : Cfg) (ev : Operand → Option AV) (o : Oper) (H : AHeap) : Option (ANext × AHeap) :=
  match o.op with
  | .alloc e => match zeroOf C.P e, cellsIn C.P e with
    | some z, some n => some (.val (.ptr H.next 0), H.new (.cells z.cells e 0 n))
    | _, _ => none
  | .box e x => match ev x, cellsIn C.P e with
    | some v, some n => some (.val (.ptr H.next 0), H.new (.cells v.cells e 0 n))
    | _, _ => none
  | .buildSlice t n parts => match evParts ev parts.toList with
    | some ps => (buildSliceA C.P t n ps H).map fun (v, H') => (.val v, H')
    | none => none
  | .store t a x => match ev a, ev x with
    | some (.ptr i off), some v => (storeA C.P t i off v H).map fun H' => (.skip, H')
    | _, _ => none
  | .makeMap t r => match evOpt ev r, C.P.underlying t with
    | some none, _ => some (.val (.map H.next), H.new (.map [] 0))
    | some (some (.int _ _)), some (.map _ _) => some (.val (.map H.next), H.new (.map [] 0))
    | _, _ => none
  | .makeSlice t l c => match ev l, ev c with
    | some a, some b => (makeSliceA C.P t a b H).map fun (v, H') => (.val v, H')
    | _, _ => none
  | .convert src dst x => (ev x).bind fun a => (convertA C.P src dst a H).map fun (v, H') => (.val v, H')
  | .mapUpdate t m k x | .insert t m k x => match ev m, ev k, ev x with
    | some a, some b, some c => (mapSetA C.P t a b c H).map fun H' => (.skip, H')
    | _, _, _ => none
  | .mapEntry t m k => match ev m, ev k with
    | some a, some b => (mapEntryA C.P t a b H).map fun (v, H') => (.val v, H')
    | _, _ => none
  | .entryStore _ m s x => match ev m, ev s, ev x with
    | some a, some b, some c => (entryStoreA a b c H).map fun H' => (.skip, H')
    | _, _, _ => none
  | .range t x => (ev x).bind fun a => (rangeA C.P t a H).map fun (v, H') => (.val v, H')
  | .next it isStr => (ev it).bind fun a => (nextA a isStr H).map fun (v, H') => (.val v, H')
  | .call c => match c.callee, evAll ev c.args.toList with
    | .builtin .append, some [s, x] => (appendA C.P c.argTypes s x H).map fun (v, H') => (.val v, H')
    | .builtin .copy, some [s, x] => (copyA C.P c.argTypes s x H).map fun (v, H') => (.val v, H')
    | .builtin .delete, some [m, k] => match c.argTypes[0]? with
      | some t => (deleteA C.P t m k H).map fun H' => (.val (.tuple []), H')
      | none => none
    | .value f, some args => (ev f).bind fun fv => (targetA C fv args H).map fun n => (n, H)
    | .invoke r name, some args => match ev r with
      | some (.iface t v) => (methodA C.P t v name H).map fun (g, rv) => (.enter g (rv :: args), H)
      | _ => none
    | _, _ => none
  | _ => none

/-- Does it only look, whatever the values? -/
def looks (P : Program) (o : Oper) : Bool :=
  match o.op with
  | .move _ | .assign _ | .pick .. | .build .. | .load .. | .nilCheck _ | .binOp .. | .unOp .. | .makeInterface .. | .makeFunc .. | .slice .. | .fieldAddr .. | .field .. | .indexAddr .. | .index ..
  | .lookup .. | .entry _ | .typeAssert .. | .extract .. => true
  | .convert _ dst _ => match P.underlying dst with
    | some (.slice _) => false
    | _ => true
  | .call { callee := .builtin .len, .. } | .call { callee := .builtin .cap, .. } | .call { callee := .builtin .min, .. } | .call { callee := .builtin .max, .. } => true
  | _ => false

/-! ### Frames -/
structure AAct where
  slots : Slots
  n : Nat
  /-- The marks of ranges over functions, the last first. -/
  marks : List Nat

def AAct.put (a : AAct) (dst : Option Tmp) (v : AV) : Option AAct :=
  match dst with
  | none => some a
  | some d => bif Nat.blt d a.n then some { a with slots := a.slots.put d v } else none

inductive AExit where
  | normal
  | exit (id : Nat)
  | ret

/-- The guard of an operation: none: it cannot be told. -/
def wantedA (ops : Array Oper) (s : Slots) (o : Oper) : Option Bool :=
  match o.guard with
  | none => some true
  | some (j, want) => match (ops[j]?).bind (·.dst) with
    | none => some false
    | some d => match s.get d with
      | some (.bool b) => some (b == want)
      | some .opq => none
      | some _ => some false
      | none => none

/-- What the machine is at one depth: calls, rounds and loops go a depth down. -/
structure Eng where
  call : FuncId → List AV → AHeap → Option (AV × AHeap)
  round : Nat → List AV → AHeap → Option (AV × AHeap)
  loop : Option Nat → Code → AAct → AHeap → Option (AExit × AAct × AHeap)

/-- One operation that is wanted: what it yields. -/
def stepA (C : Cfg) (E : Eng) (o : Oper) (s : Slots) (H : AHeap) : Option (AV × AHeap) :=
  bif looks C.P o then
    match lookA C (evA C s) o H with
    | some v => some (v, H)
    | none => none
  else
    match doA C (evA C s) o H with
    | some (.val v, H') => some (v, H')
    | some (.skip, H') => some (.tuple [], H')
    | some (.enter f args, H') => E.call f args H'
    | some (.round l args, H') => E.round l args H'
    | none => none

def opA (C : Cfg) (E : Eng) (ops : Array Oper) (o : Oper) (a : AAct) (H : AHeap) : Option (AAct × AHeap) :=
  match wantedA ops a.slots o with
  | some true => match stepA C E o a.slots H with
    | some (v, H') => match a.put o.dst v with
      | some a' => some (a', H')
      | none => none
    | none => none
  | some false => match a.put o.dst (.tuple []) with
    | some a' => some (a', H)
    | none => none
  | none => none

def opsA (C : Cfg) (E : Eng) (ops : Array Oper) : List Oper → AAct → AHeap → Option (AAct × AHeap)
  | [], a, H => some (a, H)
  | o :: rest, a, H => match opA C E ops o a H with
    | some (a', H') => opsA C E ops rest a' H'
    | none => none

/-! ### A region that draws its order -/
def nth {α : Type} : List α → Nat → Option α
  | [], _ => none
  | x :: _, 0 => some x
  | _ :: xs, n + 1 => nth xs n

/-- Of each operation the ones that must be ahead of it, as bits. -/
def masks (ops : List Oper) : List Nat :=
  ops.foldl (fun acc o => acc ++ [o.after.toList.foldl (fun s e => bif Region.binds .any e then s ||| 2 ^ e.on ||| (nth acc e.on).getD 0 else s) 0]) []

/-- The numbers of the operations that change something. -/
def deeds (P : Program) : List Oper → Nat → List Nat
  | [], _ => []
  | o :: rest, i => bif looks P o then deeds P rest (i + 1) else i :: deeds P rest (i + 1)

def operTmps (ops : Array Oper) (o : Oper) : List Tmp :=
  (o.op.operands.toList.filterMap fun | .tmp t => some t | _ => none) ++
    (match o.guard with | some (j, _) => ((ops[j]?).bind (·.dst)).toList | none => [])

/-- Does it lay a new object, out of its operands alone? Such a deed may come up ahead of its turn: nobody sees it till its turn has come. -/
def floats (o : Oper) : Bool :=
  match o.op with
  | .alloc _ | .buildSlice .. | .makeSlice .. => true
  | _ => false

def bit (ms : List Nat) (i k : Nat) : Bool :=
  match nth ms i with
  | some m => m.testBit k
  | none => false

/-- May the region be run in the order of the text, provided that what only looks sees the same wherever it may come up? -/
def drawOk (ops : Array Oper) (l : List Oper) (ms ds : List Nat) : Bool :=
  -- edges go back
  (l.zipIdx.all fun p => p.1.after.toList.all fun e => !(Region.binds .any e) || Nat.blt e.on p.2) &&
  -- a deed waits for those ahead of it, or it may come up early
  (ds.all fun q => (match nth l q with | some o => floats o | none => false) || ds.all fun p => Nat.ble q p || bit ms q p) &&
  -- who waits for a deed that may come up early waits for all that are ahead of it
  (ds.all fun q => !(match nth l q with | some o => floats o | none => false) || l.zipIdx.all fun x => !(bit ms x.2 q) || ds.all fun p => Nat.ble q p || bit ms x.2 p) &&
  -- each slot is written once; who reads it waits for its writer, or its writer for him
  (l.zipIdx.all fun p => l.zipIdx.all fun q =>
    match q.1.dst with
    | none => true
    | some d => (Nat.beq p.2 q.2 || (match p.1.dst with | some d' => !(Nat.beq d d') | none => true)) && (!((operTmps ops p.1).any (Nat.beq d)) || bit ms p.2 q.2 || bit ms q.2 p.2))

/-- Which operation that only looks may come up at which deed's turn (or behind them all), other than in the order of the text. -/
def pairsOf (P : Program) (ops : Array Oper) : Option (List (Nat × Nat)) :=
  let l := ops.toList
  let ms := masks l
  let ds := deeds P l 0
  bif drawOk ops l ms ds then
    some (l.zipIdx.flatMap fun p => bif looks P p.1 then
      ((l.length :: ds).filter fun t => !(bit ms p.2 t) && ds.all (fun d => Nat.ble t d || !(bit ms d p.2)) && !(Nat.ble p.2 t && ds.all fun d => Nat.blt d p.2 || Nat.ble t d)).map fun t => (p.2, t)
      else [])
  else none

def opV (C : Cfg) (E : Eng) (ops : Array Oper) (o : Oper) (a : AAct) (H : AHeap) : Option (AAct × AHeap × AV) :=
  match wantedA ops a.slots o with
  | some true => match stepA C E o a.slots H with
    | some (v, H') => match a.put o.dst v with
      | some a' => some (a', H', v)
      | none => none
    | none => none
  | some false => match a.put o.dst (.tuple []) with
    | some a' => some (a', H, .tuple [])
    | none => none
  | none => none

/-- The states behind each operation, in the order of the text; what it yields. -/
def traceA (C : Cfg) (E : Eng) (ops : Array Oper) : List Oper → AAct → AHeap → Option (List (AAct × AHeap × AV))
  | [], _, _ => some []
  | o :: rest, a, H => match opV C E ops o a H with
    | some (a', H', v) => match traceA C E ops rest a' H' with
      | some tr => some ((a', H', v) :: tr)
      | none => none
    | none => none

def stateAt (a : AAct) (H : AHeap) (tr : List (AAct × AHeap × AV)) : Nat → AAct × AHeap
  | 0 => (a, H)
  | i + 1 => match nth tr i with
    | some (a', H', _) => (a', H')
    | none => (a, H)
def valAt (tr : List (AAct × AHeap × AV)) (i : Nat) : AV :=
  match nth tr i with
  | some (_, _, v) => v
  | none => .nilPtr

/-- Looked at again at another turn: it is the same. -/
def sameAt (C : Cfg) (ops : Array Oper) (l : List Oper) (a : AAct) (H : AHeap) (tr : List (AAct × AHeap × AV)) (p t : Nat) : Bool :=
  match nth l p with
  | none => true
  | some o =>
    let s := (stateAt a H tr p).1.slots
    match wantedA ops s o with
    | some true => match lookA C (evA C s) o (stateAt a H tr t).2 with
      | some u => eqAV 12 u (valAt tr p)
      | none => false
    | some false => true
    | none => false

/-! ### A deed that lays a new object may come up late, too: the region is looked at with that deed moved behind another one -/
def shiftIx (f g i : Nat) : Nat := bif Nat.beq i f then g else bif Nat.ble (f + 1) i && Nat.ble i g then i - 1 else i
def unshiftIx (f g i : Nat) : Nat := bif Nat.beq i g then f else bif Nat.ble f i && Nat.ble (i + 1) g then i + 1 else i
def shiftOp (f g : Nat) (o : Oper) : Oper := { o with after := o.after.map (fun e => { e with on := shiftIx f g e.on }), guard := o.guard.map fun p => (shiftIx f g p.1, p.2) }
def shiftOps (f g : Nat) (ops : Array Oper) : Array Oper := ((List.range ops.size).map fun i => shiftOp f g (ops.toList.getD (unshiftIx f g i) default)).toArray
def floatsNo (l : List Oper) (q : Nat) : Bool :=
  match nth l q with
  | some o => floats o
  | none => false
def lateOf (pf : Array Oper → Option (List (Nat × Nat))) (P : Program) (ops : Array Oper) : Option (Array Oper) :=
  (deeds P ops.toList 0).findSome? fun f => bif floatsNo ops.toList f then
    (deeds P ops.toList 0).findSome? fun g => bif Nat.blt f g then (match pf (shiftOps f g ops) with
      | some _ => some (shiftOps f g ops)
      | none => none) else none
  else none

def drawnA (C : Cfg) (E : Eng) (ops : Array Oper) (ps : List (Nat × Nat)) (a : AAct) (H : AHeap) : Option (AAct × AHeap) :=
  match traceA C E ops ops.toList a H with
  | some tr => bif ps.all (fun x => sameAt C ops ops.toList a H tr x.1 x.2) then some (stateAt a H tr ops.toList.length) else none
  | none => none
def regionA (C : Cfg) (E : Eng) (ops : Array Oper) (draw : Bool) (a : AAct) (H : AHeap) : Option (AAct × AHeap) :=
  bif !draw then opsA C E ops ops.toList a H
  else match pairsOf C.P ops with
    | some ps => drawnA C E ops ps a H
    | none => match lateOf (pairsOf C.P) C.P ops with
      | none => none
      | some ops' => match pairsOf C.P ops' with
        | some ps => drawnA C E ops' ps a H
        | none => none

/-! ### Code -/
/-- A range over a function begins: at an outermost loop a block for deferred calls is laid. -/
def layA (around : Option Nat) (H : AHeap) : Option (AHeap × Nat × List Nat) :=
  match around with
  | none => some (H.new (.deferred false), H.next, [H.next])
  | some l => match H.get l with
    | some ⟨.loop _ _ _ _ _ _ _ d, _⟩ => some (H, d, [])
    | _ => none

def codeA (C : Cfg) (E : Eng) (around : Option Nat) : Code → AAct → AHeap → Option (AExit × AAct × AHeap)
  | .skip, a, H => some (.normal, a, H)
  | .region _ ops draw, a, H => match regionA C E ops draw a H with
    | some (a', H') => some (.normal, a', H')
    | none => none
  | .seq x y, a, H => match codeA C E around x a H with
    | some (.normal, a', H') => codeA C E around y a' H'
    | r => r
  | .cond c x y, a, H => match evA C a.slots c with
    | some (.bool true) => codeA C E around x a H
    | some (.bool false) => codeA C E around y a H
    | _ => none
  | .block id x, a, H => match codeA C E around x a H with
    | some (.exit id', a', H') => bif Nat.beq id' id then some (.normal, a', H') else some (.exit id', a', H')
    | r => r
  | .loop x, a, H => match codeA C E around x a H with
    | some (.normal, a', H') => E.loop around x a' H'
    | r => r
  | .exit id, a, H => some (.exit id, a, H)
  | .ret, a, H => some (.ret, a, H)
  | .label _, a, H => some (.normal, a, H)
  | .rangeFunc f params assign body, a, H =>
    match evA C a.slots f with
    | some (.func (.func g) first captured) =>
      -- the record, and, at an outermost loop, the block for deferred calls
      match layA around H with
      | none => none
      | some (H1, d, mark) =>
        let l := H1.next
        match (bif bodied C.P g then E.call g ((first ++ [.yield l]) ++ captured) (H1.new (.loop .ready none a.slots a.n params assign body d)) else none) with
        | none => none
        | some (_, H3) =>
          match H3.get l with
          | some ⟨.loop st pend lt ln lp las lb ld, _⟩ =>
            match st with
            | .busy => none
            | _ => match pend with
              | none => some (.normal, { a with marks := mark ++ a.marks }, H3.set l (.loop .exhausted pend lt ln lp las lb ld))
              | some .ret => some (.ret, { a with marks := mark ++ a.marks }, H3.set l (.loop .exhausted pend lt ln lp las lb ld))
              | some (.exit id) => some (.exit id, { a with marks := mark ++ a.marks }, H3.set l (.loop .exhausted pend lt ln lp las lb ld))
              | some _ => none
          | _ => none
    | _ => none
  | _, _, _ => none

/-- The marks of a frame that leaves: each block is shut. -/
def leaveA : List Nat → AHeap → Option AHeap
  | [], H => some H
  | r :: ds, H => match H.get r with
    | some ⟨.deferred false, _⟩ => leaveA ds (H.set r (.deferred true))
    | _ => none

def resultsA (C : Cfg) (s : Slots) (H : AHeap) : List ResultVar → Option (List AV)
  | [] => some []
  | .tmp t :: rest => match s.get t, resultsA C s H rest with
    | some v, some vs => some (v :: vs)
    | _, _ => none
  | .cell t ty :: rest => match s.get t, resultsA C s H rest with
    | some (.ptr i o), some vs => (loadA C.P ty i o H).map fun v => v :: vs
    | _, _ => none

def oneOr : List AV → AV
  | [v] => v
  | vs => .tuple vs

def putAll (s : Slots) : Nat → List AV → Slots
  | _, [] => s
  | i, v :: vs => putAll (s.put i v) (i + 1) vs

def putParams (n : Nat) (s : Slots) : List Tmp → List AV → Option Slots
  | [], [] => some s
  | t :: ts, v :: vs => bif Nat.blt t n then putParams n (s.put t v) ts vs else none
  | _, _ => none

/-- A machine that goes no depth. -/
def eng0 : Eng := ⟨fun _ _ _ => none, fun _ _ _ => none, fun _ _ _ _ => none⟩

def callA (C : Cfg) (E : Eng) (f : FuncId) (args : List AV) (H : AHeap) : Option (AV × AHeap) :=
  match C.known f args H with
  | some r => some r
  | none =>
    bif !bodied C.P f then none else
    match C.P.funcs[f]? with
    | none => none
    | some fn => match fn.body with
      | none => none
      | some c =>
        match codeA C E none c ⟨putAll Slots.empty 0 args, bif Nat.ble fn.ntmps args.length then args.length else fn.ntmps, []⟩ H with
        | some (.normal, a, H') | some (.ret, a, H') =>
          match leaveA a.marks H' with
          | some H'' => match resultsA C a.slots H'' fn.results.toList with
            | some vs => some (oneOr vs, H'')
            | none => none
          | none => none
        | _ => none

def roundA (C : Cfg) (E : Eng) (l : Nat) (args : List AV) (H : AHeap) : Option (AV × AHeap) :=
  match H.get l with
  | some ⟨.loop _ _ tmps n params assign body _, _⟩ =>
    match putParams n tmps params.toList args with
    | none => none
    | some s => match codeA C E (some l) assign ⟨s, n, []⟩ H with
      | some (.normal, ⟨s1, n1, []⟩, H1) => match H1.get l with
        | some ⟨.loop .ready p1 t1 m1 ps1 as1 b1 d1, _⟩ =>
          match codeA C E (some l) body ⟨s1, n1, []⟩ (H1.set l (.loop .busy p1 t1 m1 ps1 as1 b1 d1)) with
          | some (x, _, H2) => match H2.get l with
            | some ⟨.loop _ _ t2 m2 ps2 as2 b2 d2, _⟩ => match x with
              | .normal => some (.bool true, H2.set l (.loop .ready none t2 m2 ps2 as2 b2 d2))
              | .ret => some (.bool false, H2.set l (.loop .done (some .ret) t2 m2 ps2 as2 b2 d2))
              | .exit id => some (.bool false, H2.set l (.loop .done (some (.exit id)) t2 m2 ps2 as2 b2 d2))
            | _ => none
          | none => none
        | _ => none
      | _ => none
  | _ => none

def engStep (C : Cfg) (E : Eng) : Eng :=
  ⟨callA C E, roundA C E, fun around x a H => codeA C E around (.loop x) a H⟩

def eng (C : Cfg) : Nat → Eng
  | 0 => eng0
  | n + 1 => engStep C (eng C n)
end Go.Abs
