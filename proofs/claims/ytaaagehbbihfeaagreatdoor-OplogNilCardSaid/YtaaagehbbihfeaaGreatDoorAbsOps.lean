/-
  THE ABSTRACT MACHINE's OPERATIONS: what each of the model's operations does to values over named blocks. A 'none' says: not taken in, or the operation may panic.
  Conditions: none; definitions only.
-/
import Derived.Test.YtaaagehbbihfeaaGreatDoorAbsHeap
namespace Go.Abs

/-! ### What a program's tables say of a type (closed facts: the kernel works each out once) -/
/-- Is it a struct or an array; how many cells has it? -/
def aggSize (P : Program) (t : TypeId) : Option (Bool × Nat) :=
  match P.underlying t, P.info? t with
  | some (.struct _), some i => some (true, i.size)
  | some (.array _ _), some i => some (true, i.size)
  | some _, some i => some (false, i.size)
  | _, _ => none
def cellsIn (P : Program) (t : TypeId) : Option Nat := (P.info? t).map (·.size)
def bytesIn (P : Program) (t : TypeId) : Option Nat := (P.info? t).map (·.bytes)

def ofBytes (b : ByteArray) : List Nat := b.data.toList.map UInt8.toNat

/-- A constant as a value over names: it names no block. -/
def ofValue : Nat → Value → Option AV
  | 0, _ => none
  | f + 1, v => match v with
    | .bool b => some (.bool b)
    | .int k n => some (.int k n)
    | .string s => some (.str (ofBytes s))
    | .pointer none => some .nilPtr
    | .slice none 0 0 => some .nilSlice
    | .map none => some .nilMap
    | .nilFunc => some .nilFunc
    | .nilIface => some .nilIface
    | .iface t v => (ofValue f v).map (.iface t)
    | .agg cs => (cs.toList.mapM (ofValue f)).map .agg
    | .tuple cs => (cs.toList.mapM (ofValue f)).map .tuple
    | _ => none

def zeroOf (P : Program) (t : TypeId) : Option AV := ((P.info? t).bind (·.zero)).bind (ofValue 8)

def AV.cells : AV → List AV
  | .agg cs => cs
  | v => [v]
/-- May it stand in one cell? -/
def AV.flat : AV → Bool
  | .agg _ | .tuple _ => false
  | _ => true

/-- Places and sizes of a struct's fields. -/
def placesOf (P : Program) (fs : Array Field) : Option (List (Nat × Nat)) := fs.toList.mapM fun f => (P.info? f.type).map fun i => (f.offset, i.size)

def fillA (place : Nat → Option (Nat × Nat)) (cells : List AV) : List (Nat × AV) → Option (List AV)
  | [] => some cells
  | (i, v) :: rest => match place i with
    | none => none
    | some (off, size) =>
      let vc := v.cells
      bif !(Nat.beq vc.length size) || !(Nat.ble (off + vc.length) cells.length) then none
      else fillA place (cells.take off ++ (vc ++ cells.drop (off + vc.length))) rest

/-- n times the cells of a zero value. -/
def zerosA (z : List AV) (n : Nat) : List AV := (List.range (n * z.length)).map fun i => z.getD (i % z.length) .nilPtr

def buildA (P : Program) (t : TypeId) (parts : List (Nat × AV)) : Option AV :=
  match zeroOf P t, P.underlying t with
  | some z, some (.struct fs) => match placesOf P fs with
    | some places => (fillA (fun i => places[i]?) z.cells parts).map .agg
    | none => none
  | some z, some (.array _ e) => match cellsIn P e with
    | some size => (fillA (fun i => some (i * size, size)) z.cells parts).map .agg
    | none => none
  | _, _ => none

def buildSliceA (P : Program) (t : TypeId) (len : Nat) (parts : List (Nat × AV)) (H : AHeap) : Option (AV × AHeap) :=
  match P.underlying t with
  | some (.slice e) => match zeroOf P e, cellsIn P e with
    | some z, some size =>
      bif !(Nat.beq z.cells.length size) || Nat.ble size 0 || !(Nat.ble (len * size) 16777216) then none else
      match fillA (fun i => some (i * size, size)) (zerosA z.cells len) parts with
      | some cs => some (.slice H.next 0 len len true, H.new (.cells cs e 0 size))
      | none => none
    | _, _ => none
  | _ => none

/-! ### Memory -/
structure Row where
  c : List AV
  elem : TypeId
  fz : Nat
  esz : Nat
def AHeap.row (H : AHeap) (i : Nat) : Option Row :=
  match H.get i with
  | some ⟨.cells c e fz z, _⟩ => some ⟨c, e, fz, z⟩
  | _ => none

/-- n cells of a row. -/
def cutA (c : List AV) (o n : Nat) : Option (List AV) := bif Nat.ble (o + n) c.length then some ((c.drop o).take n) else none

def loadA (P : Program) (t : TypeId) (i o : Nat) (H : AHeap) : Option AV :=
  match H.row i, aggSize P t with
  | some ⟨c, _, _, _⟩, some (true, n) => (cutA c o n).map .agg
  | some ⟨c, _, _, _⟩, some (false, _) => c[o]?
  | _, _ => none

/-- Cells laid over a row's. -/
def putA (c : List AV) (o : Nat) (vs : List AV) : Option (List AV) :=
  bif Nat.ble (o + vs.length) c.length && vs.all AV.flat then some (c.take o ++ (vs ++ c.drop (o + vs.length))) else none

def storeA (P : Program) (t : TypeId) (i o : Nat) (v : AV) (H : AHeap) : Option AHeap :=
  match H.row i, cellsIn P t with
  | some ⟨c, e, fz, z⟩, some n =>
    bif Nat.beq v.cells.length n && Nat.ble fz 1 then (putA c o v.cells).map fun c' => H.set i (.cells c' e fz z) else none
  | _, _ => none

/-! ### Arithmetic, quick for the kernel -/
def maxOf : IntKind → Nat
  | .i8 => 127 | .i16 => 32767 | .i32 => 2147483647 | .i64 => 9223372036854775807
  | .u8 => 255 | .u16 => 65535 | .u32 => 4294967295 | .u64 => 18446744073709551615
def modOf : IntKind → Nat
  | .i8 | .u8 => 256 | .i16 | .u16 => 65536 | .i32 | .u32 => 4294967296 | .i64 | .u64 => 18446744073709551616
def wrapA (k : IntKind) (n : Int) : Int :=
  match n with
  | .ofNat m => bif Nat.ble m (maxOf k) then .ofNat m else k.wrap (.ofNat m)
  | .negSucc m => bif k.signed && Nat.ble m (maxOf k) then .negSucc m else k.wrap (.negSucc m)
/-- A number's bits, as a number from nought on. -/
def bitsA (k : IntKind) (n : Int) : Nat :=
  match n with
  | .ofNat m => m % modOf k
  | .negSucc m => modOf k - 1 - m % modOf k
def ltA : Int → Int → Bool
  | .ofNat a, .ofNat b => Nat.blt a b
  | .ofNat _, .negSucc _ => false
  | .negSucc _, .ofNat _ => true
  | .negSucc a, .negSucc b => Nat.blt b a
def eqA : Int → Int → Bool
  | .ofNat a, .ofNat b => Nat.beq a b
  | .negSucc a, .negSucc b => Nat.beq a b
  | _, _ => false

def arithA (op : BinOp) (k : IntKind) (x y : Int) : Option AV :=
  match op with
  | .add => some (.int k (wrapA k (x + y)))
  | .sub => some (.int k (wrapA k (x - y)))
  | .mul => some (.int k (wrapA k (x * y)))
  | .quo => bif eqA y 0 then none else some (.int k (wrapA k (x.tdiv y)))
  | .rem => bif eqA y 0 then none else some (.int k (x.tmod y))
  | .and => some (.int k (wrapA k (.ofNat (Nat.land (bitsA k x) (bitsA k y)))))
  | .or => some (.int k (wrapA k (.ofNat (Nat.lor (bitsA k x) (bitsA k y)))))
  | .xor => some (.int k (wrapA k (.ofNat (Nat.xor (bitsA k x) (bitsA k y)))))
  | .andNot => some (.int k (wrapA k (.ofNat (Nat.land (bitsA k x) (modOf k - 1 - bitsA k y)))))
  | .eql => some (.bool (eqA x y))
  | .neq => some (.bool (!eqA x y))
  | .lss => some (.bool (ltA x y))
  | .leq => some (.bool (!ltA y x))
  | .gtr => some (.bool (ltA y x))
  | .geq => some (.bool (!ltA x y))
  | _ => none

def bitCount : IntKind → Nat
  | .i8 | .u8 => 8 | .i16 | .u16 => 16 | .i32 | .u32 => 32 | .i64 | .u64 => 64
def shiftA (op : BinOp) (k : IntKind) (x y : Int) : Option AV :=
  match y with
  | .negSucc _ => none
  | .ofNat s =>
    let n := bif Nat.ble s (bitCount k) then s else bitCount k
    match op, x with
    | .shl, x => some (.int k (wrapA k (x * .ofNat (Nat.pow 2 n))))
    | .shr, .ofNat m => some (.int k (.ofNat (m / Nat.pow 2 n)))
    | .shr, .negSucc m => some (.int k (.negSucc (m / Nat.pow 2 n)))
    | _, _ => none

def eqNats : List Nat → List Nat → Bool
  | [], [] => true
  | a :: x, b :: y => Nat.beq a b && eqNats x y
  | _, _ => false
def ltNats : List Nat → List Nat → Bool
  | _, [] => false
  | [], _ :: _ => true
  | a :: x, b :: y => Nat.blt a b || (Nat.beq a b && ltNats x y)
def strOpA (op : BinOp) (x y : List Nat) : Option AV :=
  match op with
  | .add => bif Nat.ble (x.length + y.length) 9223372036854775807 then some (.str (x ++ y)) else none
  | .eql => some (.bool (eqNats x y))
  | .neq => some (.bool (!eqNats x y))
  | .lss => some (.bool (ltNats x y))
  | .leq => some (.bool (ltNats x y || eqNats x y))
  | .gtr => some (.bool (!(ltNats x y || eqNats x y)))
  | .geq => some (.bool (!ltNats x y))
  | _ => none

/-- A part of a struct or an array: n cells from off on (or one). -/
def partA (P : Program) (t : TypeId) (cs : List AV) (off : Nat) : Option AV :=
  match aggSize P t with
  | some (true, n) => (cutA cs off n).map .agg
  | some (false, _) => cs[off]?
  | none => none

/-- Equality at a type. Pointers: of one block only, or nil; unlike live blocks that bear no frozen mark are unlike. -/
def equalA (P : Program) (H : AHeap) : Nat → TypeId → AV → AV → Option Bool
  | 0, _, _, _ => none
  | f + 1, t, x, y =>
    match P.underlying t, x, y with
    | some .bool, .bool a, .bool b => some (a == b)
    | some (.int _), .int k a, .int k' b => bif decide (k = k') then some (eqA a b) else none
    | some .string, .str a, .str b => some (eqNats a b)
    | some (.pointer _), .nilPtr, .nilPtr => some true
    | some (.pointer _), .nilPtr, .ptr _ _ => some false
    | some (.pointer _), .ptr _ _, .nilPtr => some false
    | some (.pointer e), .ptr i o, .ptr j p =>
      match cellsIn P e with
      | some (_ + 1) => bif Nat.beq i j then some (Nat.beq o p) else
        match H.row i, H.row j with
        | some ⟨_ :: _, _, 0, _⟩, some ⟨_ :: _, _, 0, _⟩ => some false
        | _, _ => none
      | _ => none
    | some (.interface _), .nilIface, .nilIface => some true
    | some (.interface _), .nilIface, .iface _ _ => some false
    | some (.interface _), .iface _ _, .nilIface => some false
    | some (.interface _), .iface tx vx, .iface ty vy =>
      bif Nat.beq tx ty then
        match P.info? tx with
        | some i => bif i.comparable then equalA P H f tx vx vy else none
        | none => none
      else some false
    | some (.struct fs), .agg xs, .agg ys =>
      bif P.stoodInHeld t then none else
      fs.toList.foldr (fun fd rest =>
        bif fd.name == "_" then rest else
        match partA P fd.type xs fd.offset, partA P fd.type ys fd.offset with
        | some a, some b => match equalA P H f fd.type a b with
          | some true => rest
          | some false => some false
          | none => none
        | _, _ => none) (some true)
    | some (.array n e), .agg xs, .agg ys =>
      match cellsIn P e with
      | some sz => (List.range n).foldr (fun i rest =>
          match partA P e xs (i * sz), partA P e ys (i * sz) with
          | some a, some b => match equalA P H f e a b with
            | some true => rest
            | some false => some false
            | none => none
          | _, _ => none) (some true)
      | none => none
    | some (.slice _), .nilSlice, .nilSlice => some true
    | some (.slice _), .nilSlice, .slice _ _ _ _ _ => some false
    | some (.slice _), .nilSlice, .emptySlice => some false
    | some (.slice _), .slice _ _ _ _ _, .nilSlice => some false
    | some (.slice _), .emptySlice, .nilSlice => some false
    | some (.map _ _), .nilMap, .nilMap => some true
    | some (.map _ _), .nilMap, .map _ => some false
    | some (.map _ _), .map _, .nilMap => some false
    | some (.func _ _ _), .nilFunc, .nilFunc => some true
    | some (.func _ _ _), .nilFunc, .func _ _ _ => some false
    | some (.func _ _ _), .func _ _ _, .nilFunc => some false
    | _, _, _ => none

def isConst : Operand → Bool
  | .const _ => true
  | _ => false

def binOpA (P : Program) (H : AHeap) (op : BinOp) (t : TypeId) (x y : Operand) (a b : AV) : Option AV :=
  match op, a, b with
  | .shl, .int k m, .int _ n => shiftA .shl k m n
  | .shr, .int k m, .int _ n => shiftA .shr k m n
  | op, .int k m, .int k' n => bif decide (k = k') then arithA op k m n else none
  | op, .str m, .str n => strOpA op m n
  | .eql, .nilIface, .nilIface => bif isConst x || isConst y then (equalA P H 12 t a b).map .bool else none
  | .neq, .nilIface, .nilIface => bif isConst x || isConst y then (equalA P H 12 t a b).map fun r => .bool (!r) else none
  | .eql, .agg _, .agg _ => bif P.eqGuardType P.depth t then none else (equalA P H 12 t a b).map .bool
  | .neq, .agg _, .agg _ => bif P.eqGuardType P.depth t then none else (equalA P H 12 t a b).map fun r => .bool (!r)
  | .eql, _, _ => (equalA P H 12 t a b).map .bool
  | .neq, _, _ => (equalA P H 12 t a b).map fun r => .bool (!r)
  | _, _, _ => none

def unOpA (op : UnOp) (x : AV) : Option AV :=
  match op, x with
  | .neg, .int k n => some (.int k (wrapA k (0 - n)))
  | .xor, .int k n => some (.int k (wrapA k (.ofNat (Nat.xor (bitsA k (if k.signed then -1 else .ofNat (maxOf k))) (bitsA k n)))))
  | .not, .bool b => some (.bool !b)
  | _, _ => none

/-! ### Slices -/
/-- A bound that a slice expression names: from nought to y. -/
def boundA (x : AV) (y : Nat) : Option Nat :=
  match x with
  | .int _ (.ofNat n) => bif Nat.ble n y then some n else none
  | _ => none
def boundOr (x : Option AV) (y dflt : Nat) : Option Nat :=
  match x with
  | some v => boundA v y
  | none => some dflt

/-- Has an element of the row so many cells? -/
def eszIs (H : AHeap) (i size : Nat) : Bool :=
  match H.row i with
  | some r => Nat.beq r.esz size
  | none => false

/-- s[lo:hi:max]. Of a capacity that is known from below alone: whatever lies at or below it. -/
def sliceA (P : Program) (H : AHeap) (t : TypeId) (x : AV) (lo hi mx : Option AV) : Option AV :=
  match P.underlying t, x with
  | some .string, .str s => match mx with
    | some _ => none
    | none => (boundOr hi s.length s.length).bind fun h => (boundOr lo h 0).map fun l => .str ((s.take h).drop l)
  | some (.slice e), .nilSlice => (cellsIn P e).bind fun _ => match mx with
    | some _ => none
    | none => (boundOr hi 0 0).bind fun h => (boundOr lo h 0).map fun _ => .nilSlice
  | some (.slice e), .emptySlice => (cellsIn P e).bind fun _ => match mx with
    | some _ => none
    | none => (boundOr hi 0 0).bind fun h => (boundOr lo h 0).map fun _ => .emptySlice
  | some (.slice e), .slice i o len cap exact => match cellsIn P e with
    | none => none
    | some size => match mx with
      | some v => (boundA v cap).bind fun m => (hi.bind fun hv => boundA hv m).bind fun h => (boundOr lo h 0).map fun l =>
          bif Nat.beq m l then .slice i o (h - l) (m - l) true else .slice i (o + l * size) (h - l) (m - l) true
      | none => bif !(exact || eszIs H i size) then none else
          (boundOr hi cap len).bind fun h => (boundOr lo h 0).map fun l =>
          bif Nat.beq cap l then (bif exact then .slice i o (h - l) 0 true else bif Nat.beq l 0 then .slice i o h cap false else .emptySlice)
          else .slice i (o + l * size) (h - l) (cap - l) exact
  | some (.array n e), .ptr i o => match cellsIn P e with
    | none => none
    | some size => match mx with
      | some _ => none
      | none => (boundOr hi n n).bind fun h => (boundOr lo h 0).map fun l =>
        bif Nat.beq n l then .slice i o (h - l) (n - l) true else .slice i (o + l * size) (h - l) (n - l) true
  | _, _ => none

def fieldAddrA (P : Program) (s : TypeId) (x : AV) (f : Nat) : Option AV :=
  match P.underlying s, x with
  | some (.struct fs), .ptr i o => match fs[f]? with
    | some fd => match cellsIn P fd.type with
      | some (_ + 1) => some (.ptr i (o + fd.offset))
      | _ => none
    | none => none
  | _, _ => none

def fieldA (P : Program) (t : TypeId) (x : AV) (f : Nat) : Option AV :=
  match P.underlying t, x with
  | some (.struct fs), .agg cs => match fs[f]? with
    | some fd => partA P fd.type cs fd.offset
    | none => none
  | _, _ => none

def indexAddrA (P : Program) (t : TypeId) (x ix : AV) : Option AV :=
  match P.underlying t, x, ix with
  | some (.array n e), .ptr i o, .int _ (.ofNat k) => match cellsIn P e with
    | some size => bif Nat.blt k n then some (.ptr i (o + k * size)) else none
    | none => none
  | some (.slice e), .slice i o len _ _, .int _ (.ofNat k) => match cellsIn P e with
    | some size => bif Nat.blt k len then some (.ptr i (o + k * size)) else none
    | none => none
  | _, _, _ => none

def indexA (P : Program) (t : TypeId) (x ix : AV) : Option AV :=
  match P.underlying t, x, ix with
  | some (.array n e), .agg cs, .int _ (.ofNat k) => match cellsIn P e with
    | some size => bif Nat.blt k n then partA P e cs (k * size) else none
    | none => none
  | some .string, .str s, .int _ (.ofNat k) => s[k]?.map fun b => .int .u8 (.ofNat b)
  | _, _, _ => none

/-- Are two values one? -/
def eqAV : Nat → AV → AV → Bool
  | 0, _, _ => false
  | f + 1, x, y =>
    let all : List AV → List AV → Bool := fun xs ys => Nat.beq xs.length ys.length && (xs.zip ys).all fun p => eqAV f p.1 p.2
    match x, y with
    | .bool a, .bool b => a == b
    | .int k a, .int k' b => decide (k = k') && decide (a = b)
    | .str a, .str b => eqNats a b
    | .nilPtr, .nilPtr | .nilSlice, .nilSlice | .emptySlice, .emptySlice | .nilMap, .nilMap | .nilFunc, .nilFunc | .nilIface, .nilIface => true
    | .ptr i o, .ptr j p => Nat.beq i j && Nat.beq o p
    | .slice i o l c e, .slice j p m d g => Nat.beq i j && Nat.beq o p && Nat.beq l m && Nat.beq c d && (e == g)
    | .map i, .map j => Nat.beq i j
    | .func g a b, .func h c d => decide (g = h) && all a c && all b d
    | .yield l, .yield m => Nat.beq l m
    | .iface t a, .iface u b => Nat.beq t u && eqAV f a b
    | .agg a, .agg b => all a b
    | .tuple a, .tuple b => all a b
    | _, _ => false

/-! ### Maps -/
/-- A key type without interfaces: its keys can always be looked up. -/
def plainKey (P : Program) : Nat → TypeId → AV → Bool
  | 0, _, _ => false
  | f + 1, t, v => match P.underlying t, v with
    | some (.int _), .int _ _ => true
    | some .string, .str _ => true
    | some .bool, .bool _ => true
    | some (.struct fs), .agg cs => fs.toList.all fun fd => !(fd.name == "_") && (match partA P fd.type cs fd.offset with | some x => plainKey P f fd.type x | none => false)
    | _, _ => false

def findA (P : Program) (H : AHeap) (kt : TypeId) (k : AV) : List AEnt → Nat → Option (Option (Nat × AV))
  | [], _ => some none
  | e :: es, i => match equalA P H 12 kt k e.key with
    | some true => some (some (i, e.val))
    | some false => findA P H kt k es (i + 1)
    | none => none

def AHeap.mapAt (H : AHeap) (i : Nat) : Option (List AEnt × Nat) :=
  match H.get i with
  | some ⟨.map es clock, _⟩ => some (es, clock)
  | _ => none

def lookupA (P : Program) (t : TypeId) (m k : AV) (ok : Bool) (H : AHeap) : Option AV :=
  match P.underlying t with
  | some (.map kt e) =>
    let out (v : AV) (b : Bool) : AV := bif ok then .tuple [v, .bool b] else v
    bif !plainKey P 8 kt k then none else
    match m with
    | .nilMap => (zeroOf P e).map fun z => out z false
    | .map i => match H.mapAt i with
      | some (es, _) => match findA P H kt k es 0 with
        | some (some (_, v)) => some (out v true)
        | some none => (zeroOf P e).map fun z => out z false
        | none => none
      | none => none
    | _ => none
  | _ => none

def mapSetA (P : Program) (t : TypeId) (m k v : AV) (H : AHeap) : Option AHeap :=
  match P.underlying t, m with
  | some (.map kt _), .map i =>
    bif !plainKey P 8 kt k then none else
    match H.mapAt i with
    | some (es, clock) => match findA P H kt k es 0 with
      | some (some (j, _)) => match es[j]? with
        | some old => bif eqAV 12 k old.key then some (H.set i (.map (es.set j { old with val := v }) clock)) else none
        | none => none
      | some none => some (H.set i (.map (es ++ [⟨k, v, clock⟩]) (clock + 1)))
      | none => none
    | none => none
  | _, _ => none

def mapEntryA (P : Program) (t : TypeId) (m k : AV) (H : AHeap) : Option (AV × AHeap) :=
  match P.underlying t, m with
  | some (.map kt e), .map i =>
    bif !plainKey P 8 kt k then none else
    match H.mapAt i with
    | some (es, clock) => match findA P H kt k es 0 with
      | some (some (j, v)) => match es[j]? with
        | some old => bif eqAV 12 k old.key then some (.tuple [v, .int .i64 (.ofNat old.born)], H.set i (.map es clock)) else none
        | none => none
      | some none => (zeroOf P e).map fun z => (.tuple [z, .int .i64 (.ofNat clock)], H.set i (.map (es ++ [⟨k, z, clock⟩]) (clock + 1)))
      | none => none
    | none => none
  | _, _ => none

def entryStoreA (m s v : AV) (H : AHeap) : Option AHeap :=
  match m, s with
  | .map i, .int _ (.ofNat born) => match H.mapAt i with
    | some (es, clock) => match es.findIdx? (fun e => Nat.beq e.born born) with
      | some j => match es[j]? with
        | some old => some (H.set i (.map (es.set j { old with val := v }) clock))
        | none => none
      | none => none
    | none => none
  | _, _ => none

def deleteA (P : Program) (t : TypeId) (m k : AV) (H : AHeap) : Option AHeap :=
  match P.underlying t with
  | some (.map kt _) =>
    bif !plainKey P 8 kt k then none else
    match m with
    | .nilMap => some H
    | .map i => match H.mapAt i with
      | some (es, clock) => match findA P H kt k es 0 with
        | some (some (j, _)) => some (H.set i (.map (es.eraseIdx j) clock))
        | some none => some H
        | none => none
      | none => none
    | _ => none
  | _ => none

/-! ### Ranging over strings and maps -/
def rangeA (P : Program) (t : TypeId) (x : AV) (H : AHeap) : Option (AV × AHeap) :=
  match P.underlying t, x with
  | some .string, .str s => some (.ptr H.next 0, H.new (.strIter s 0))
  | some (.map _ _), .nilMap => some (.ptr H.next 0, H.new (.mapIter none 0 [] 0))
  | some (.map _ _), .map m => match H.mapAt m with
    | some (_, clock) => some (.ptr H.next 0, H.new (.mapIter (some m) clock [] clock))
    | none => none
  | _, _ => none

/-- The next of a text: figures, letters and signs of one byte alone. The next of a map: where there is but one choice. -/
def nextA (it : AV) (isString : Bool) (H : AHeap) : Option (AV × AHeap) :=
  match it with
  | .ptr i 0 => match H.get i, isString with
    | some ⟨.strIter s pos, _⟩, true => match s[pos]? with
      | some c => bif Nat.blt c 128 then some (.tuple [.bool true, .int .i64 (.ofNat pos), .int .i32 (.ofNat c)], H.set i (.strIter s (pos + 1))) else none
      | none => some (.tuple [.bool false], H)
    | some ⟨.mapIter none _ _ _, _⟩, false => some (.tuple [.bool false], H)
    | some ⟨.mapIter (some m) since seen last, _⟩, false => match H.mapAt m with
      | some (es, clock) =>
        bif !seen.isEmpty && !es.isEmpty && es.all (fun e => Nat.ble last e.born) then none else
        match es.filter fun e => !seen.any (Nat.beq e.born) with
        | [] => some (.tuple [.bool false], H)
        | [e] => bif Nat.blt e.born since then some (.tuple [.bool true, e.key, e.val], H.set i (.mapIter (some m) since (seen ++ [e.born]) clock)) else none
        | _ => none
      | none => none
    | _, _ => none
  | _ => none

/-- The entry to which a map's iterator has come. -/
def entryA (it : AV) (H : AHeap) : Option AV :=
  match it with
  | .ptr i 0 => match H.get i with
    | some ⟨.mapIter (some m) _ seen stepped, _⟩ => match seen.getLast?, H.mapAt m with
      | some stamp, some (es, clock) => bif Nat.beq clock stepped then (es.find? fun e => Nat.beq e.born stamp).map fun e => .tuple [e.key, e.val] else none
      | _, _ => none
    | _ => none
  | _ => none

/-! ### Interfaces -/
/-- Has a type all the methods that are wanted? -/
def hasAll (want : Array (String × TypeId)) (got : Array Method) : Bool :=
  want.toList.all fun x => got.toList.any fun m => m.name == x.1 && m.sig == x.2
def assertA (P : Program) (x : AV) (_xt t : TypeId) (ok : Bool) : Option AV :=
  let holds (v : AV) : AV := bif ok then .tuple [v, .bool true] else v
  let fails : Option AV := bif ok then (zeroOf P t).map fun z => .tuple [z, .bool false] else none
  match P.underlying t, x with
  | some (.interface _), .nilIface => fails
  | some (.interface want), .iface d _ => match P.info? d with
    | some i => bif hasAll want i.methods then some (holds x) else fails
    | none => none
  | some _, .nilIface => fails
  | some _, .iface d v => bif Nat.beq d t then some (holds v) else fails
  | _, _ => none

/-- The function to which a method's call on a value comes, and the receiver: methods of the type's own, by value or by pointer. -/
def methodA (P : Program) (t : TypeId) (v : AV) (name : String) (H : AHeap) : Option (FuncId × AV) :=
  match P.info? t with
  | some i => match i.methods.find? (·.name == name) with
    | some m => bif !m.path.isEmpty then none else match m.func, P.underlying t with
      | some (f, true), some (.pointer _) => some (f, v)
      | some (f, false), some (.pointer e) => match v with
        | .ptr j o => (loadA P e j o H).map fun x => (f, x)
        | _ => none
      | some (f, false), some _ => some (f, v)
      | _, _ => none
    | none => none
  | none => none

/-! ### The builtins -/
def lenA (P : Program) (t : TypeId) (x : AV) (H : AHeap) : Option AV :=
  match P.underlying t, x with
  | some .string, .str s => some (.int .i64 (.ofNat s.length))
  | some (.array n _), _ => some (.int .i64 (.ofNat n))
  | some (.slice _), .nilSlice => some (.int .i64 0)
  | some (.slice _), .emptySlice => some (.int .i64 0)
  | some (.slice _), .slice _ _ n _ _ => some (.int .i64 (.ofNat n))
  | some (.map _ _), .nilMap => some (.int .i64 0)
  | some (.map _ _), .map i => (H.mapAt i).map fun m => .int .i64 (.ofNat m.1.length)
  | _, _ => none

/-- The first n elements of what is appended or copied, as cells. -/
def firstA (size n : Nat) (x : AV) (H : AHeap) : Option (List AV) :=
  match x with
  | .nilSlice => bif Nat.beq n 0 then some [] else none
  | .emptySlice => bif Nat.beq n 0 then some [] else none
  | .slice i o _ _ _ => match H.row i with
    | some ⟨c, _, _, _⟩ => cutA c o (n * size)
    | none => none
  | .str s => bif Nat.beq size 1 then some ((s.take n).map fun b => .int .u8 (.ofNat b)) else none
  | _ => none
def countA : AV → Option Nat
  | .nilSlice => some 0
  | .emptySlice => some 0
  | .slice _ _ n _ _ => some n
  | .str s => some s.length
  | _ => none

def countS : AV → Option Nat
  | .nilSlice => some 0
  | .emptySlice => some 0
  | .slice _ _ n _ _ => some n
  | _ => none

def mostLen : Nat := 1073741824

/-- The second argument's type is a slice's or a text's (a number's tells 'append(s, make(..)...)'). -/
def plainArg (P : Program) (ts : Array TypeId) : Bool :=
  match ts[1]? with
  | none => true
  | some xt => match P.underlying xt with
    | some (.slice _) => true
    | some .string => true
    | _ => false

/-- append. -/
def appendA (P : Program) (ts : Array TypeId) (s x : AV) (H : AHeap) : Option (AV × AHeap) :=
  match ts[0]? with
  | none => none
  | some st => match P.underlying st with
    | some (.slice e) => match cellsIn P e, bytesIn P e, zeroOf P e with
      | some size, some bytes, some z =>
        bif !plainArg P ts then none else
        bif !(Nat.beq z.cells.length size) || Nat.beq bytes 0 then none else
        match countA x, countA s with
        | some n, some len =>
          let need := len + n
          bif !(Nat.ble (need * bytes) mostLen) || !(Nat.ble bytes mostLen) then none else
          match firstA size n x H with
          | none => none
          | some new =>
            match s with
            | .nilSlice => bif Nat.beq n 0 then some (.nilSlice, H) else some (.slice H.next 0 n n false, H.new (.cells new e 0 size))
            | .emptySlice => bif Nat.beq n 0 then some (.emptySlice, H) else none
            | .slice i o _ cap exact =>
              match H.row i with
              | none => none
              | some ⟨c, ce, fz, z⟩ =>
                bif Nat.ble need cap then
                  -- surely in place
                  bif Nat.ble fz 1 then (putA c (o + len * size) new).map fun c' => (.slice i o need cap exact, H.set i (.cells c' ce fz z)) else none
                else bif exact then
                  -- surely anew
                  (cutA c o (len * size)).map fun old => (.slice H.next 0 need need false, H.new (.cells (old ++ new) e 0 size))
                else
                  -- in place or anew: nothing may be known behind the slice's end; the old name dies
                  bif Nat.beq (o + len * size) c.length && Nat.ble fz 1 && Nat.beq ce e && Nat.beq z size && new.all AV.flat then
                    (cutA c o (len * size)).map fun old => (.slice H.next 0 need need false, (H.set i .dead).new (.cells (old ++ new) e fz size))
                  else none
            | _ => none
        | _, _ => none
      | _, _, _ => none
    | _ => none

def copyA (P : Program) (ts : Array TypeId) (d x : AV) (H : AHeap) : Option (AV × AHeap) :=
  match ts[0]? with
  | none => none
  | some dt => match P.underlying dt with
    | some (.slice e) => match cellsIn P e, countS d, countA x with
      | some size, some dl, some xl =>
        let n := bif Nat.ble xl dl then xl else dl
        match firstA size n x H with
        | none => none
        | some new => bif Nat.beq new.length 0 then some (.int .i64 (.ofNat n), H) else
          match d with
          | .slice i o _ _ _ => match H.row i with
            | some ⟨c, ce, fz, z⟩ => bif Nat.ble fz 1 then (putA c o new).map fun c' => (.int .i64 (.ofNat n), H.set i (.cells c' ce fz z)) else none
            | none => none
          | _ => none
      | _, _, _ => none
    | _ => none

def minFrom (k : IntKind) (x : Int) : List AV → Option AV
  | [] => some (.int k x)
  | .int k' y :: rest => bif decide (k = k') then minFrom k (bif ltA y x then y else x) rest else none
  | _ => none
def maxFrom (k : IntKind) (x : Int) : List AV → Option AV
  | [] => some (.int k x)
  | .int k' y :: rest => bif decide (k = k') then maxFrom k (bif ltA x y then y else x) rest else none
  | _ => none
def minA : List AV → Option AV
  | .int k x :: rest => minFrom k x rest
  | _ => none
def maxA : List AV → Option AV
  | .int k x :: rest => maxFrom k x rest
  | _ => none

def capA (P : Program) (t : TypeId) (x : AV) : Option AV :=
  match P.underlying t, x with
  | some (.slice _), .nilSlice => some (.int .i64 0)
  | some (.slice _), .slice _ _ _ c true => some (.int .i64 (.ofNat c))
  | _, _ => none

def makeSliceA (P : Program) (t : TypeId) (l c : AV) (H : AHeap) : Option (AV × AHeap) :=
  match P.underlying t, l, c with
  | some (.slice e), .int _ (.ofNat l), .int _ (.ofNat c) => match zeroOf P e, cellsIn P e, bytesIn P e with
    | some z, some size, some bytes =>
      bif Nat.ble l c && Nat.ble (bytes * c) mostLen && Nat.ble c mostLen && Nat.beq z.cells.length size && Nat.blt 0 size then
        some (.slice H.next 0 l c true, H.new (.cells (zerosA z.cells c) e 0 size))
      else none
    | _, _, _ => none
  | _, _, _ => none

def natsOf : List AV → Option (List Nat)
  | [] => some []
  | .int .u8 (.ofNat n) :: rest => bif Nat.blt n 256 then (natsOf rest).map (n :: ·) else none
  | _ => none

def convertA (P : Program) (src dst : TypeId) (x : AV) (H : AHeap) : Option (AV × AHeap) :=
  match P.underlying src, P.underlying dst, x with
  | some _, some (.int k), .int _ n => some (.int k (wrapA k n), H)
  | some _, some .string, .str s => some (.str s, H)
  | some .string, some (.slice e), .str s => match P.underlying e with
    | some (.int .u8) => bif Nat.ble s.length mostLen then some (.slice H.next 0 s.length s.length false, H.new (.cells (s.map fun b => .int .u8 (.ofNat b)) e 1 1)) else none
    | _ => none
  | some (.slice e), some .string, x => match P.underlying e with
    | some (.int .u8) => match x with
      | .nilSlice => some (.str [], H)
      | .emptySlice => some (.str [], H)
      | .slice i o len _ _ => match H.row i with
        | some ⟨c, _, _, _⟩ => ((cutA c o len).bind natsOf).map fun s => (.str s, H)
        | none => none
      | _ => none
    | _ => none
  | _, _, _ => none
end Go.Abs
