/-
  A quick evaluator for the kernel: each head is worked out once (a closure in a structure), equal to the machine's own.
  Conditions: none.
-/
import Derived.Test.YtaaagehbbihfeaaGreatDoorAbsExec
namespace Go.Abs

/-- A closure, that the kernel works out once. -/
structure F (α : Type) where
  run : α
/-- A closure out of another's inside. -/
noncomputable def F.on {α β : Type} (x : F α) (k : α → F β) : F β := F.rec (motive := fun _ => F β) k x
theorem F.on_run {α β : Type} (x : F α) (k : α → F β) : x.on k = k x.run := by cases x; rfl
noncomputable section
def selF {α : Type} : Nat → F (N16 α → α)
  | 0 => ⟨fun s => s.a0⟩
  | 1 => ⟨fun s => s.a1⟩
  | 2 => ⟨fun s => s.a2⟩
  | 3 => ⟨fun s => s.a3⟩
  | 4 => ⟨fun s => s.a4⟩
  | 5 => ⟨fun s => s.a5⟩
  | 6 => ⟨fun s => s.a6⟩
  | 7 => ⟨fun s => s.a7⟩
  | 8 => ⟨fun s => s.a8⟩
  | 9 => ⟨fun s => s.a9⟩
  | 10 => ⟨fun s => s.a10⟩
  | 11 => ⟨fun s => s.a11⟩
  | 12 => ⟨fun s => s.a12⟩
  | 13 => ⟨fun s => s.a13⟩
  | 14 => ⟨fun s => s.a14⟩
  | _ => ⟨fun s => s.a15⟩
theorem selF_eq {α : Type} (i : Nat) (s : N16 α) : (selF i).run s = N16.sel i s := by
  match i with
  | 0 => rfl
  | 1 => rfl
  | 2 => rfl
  | 3 => rfl
  | 4 => rfl
  | 5 => rfl
  | 6 => rfl
  | 7 => rfl
  | 8 => rfl
  | 9 => rfl
  | 10 => rfl
  | 11 => rfl
  | 12 => rfl
  | 13 => rfl
  | 14 => rfl
  | _ + 15 => rfl

def updF {α : Type} : Nat → F (N16 α → α → N16 α)
  | 0 => ⟨fun s v => N16.rec (motive := fun _ => N16 α) (fun _ x1 x2 x3 x4 x5 x6 x7 x8 x9 x10 x11 x12 x13 x14 x15 => ⟨v, x1, x2, x3, x4, x5, x6, x7, x8, x9, x10, x11, x12, x13, x14, x15⟩) s⟩
  | 1 => ⟨fun s v => N16.rec (motive := fun _ => N16 α) (fun x0 _ x2 x3 x4 x5 x6 x7 x8 x9 x10 x11 x12 x13 x14 x15 => ⟨x0, v, x2, x3, x4, x5, x6, x7, x8, x9, x10, x11, x12, x13, x14, x15⟩) s⟩
  | 2 => ⟨fun s v => N16.rec (motive := fun _ => N16 α) (fun x0 x1 _ x3 x4 x5 x6 x7 x8 x9 x10 x11 x12 x13 x14 x15 => ⟨x0, x1, v, x3, x4, x5, x6, x7, x8, x9, x10, x11, x12, x13, x14, x15⟩) s⟩
  | 3 => ⟨fun s v => N16.rec (motive := fun _ => N16 α) (fun x0 x1 x2 _ x4 x5 x6 x7 x8 x9 x10 x11 x12 x13 x14 x15 => ⟨x0, x1, x2, v, x4, x5, x6, x7, x8, x9, x10, x11, x12, x13, x14, x15⟩) s⟩
  | 4 => ⟨fun s v => N16.rec (motive := fun _ => N16 α) (fun x0 x1 x2 x3 _ x5 x6 x7 x8 x9 x10 x11 x12 x13 x14 x15 => ⟨x0, x1, x2, x3, v, x5, x6, x7, x8, x9, x10, x11, x12, x13, x14, x15⟩) s⟩
  | 5 => ⟨fun s v => N16.rec (motive := fun _ => N16 α) (fun x0 x1 x2 x3 x4 _ x6 x7 x8 x9 x10 x11 x12 x13 x14 x15 => ⟨x0, x1, x2, x3, x4, v, x6, x7, x8, x9, x10, x11, x12, x13, x14, x15⟩) s⟩
  | 6 => ⟨fun s v => N16.rec (motive := fun _ => N16 α) (fun x0 x1 x2 x3 x4 x5 _ x7 x8 x9 x10 x11 x12 x13 x14 x15 => ⟨x0, x1, x2, x3, x4, x5, v, x7, x8, x9, x10, x11, x12, x13, x14, x15⟩) s⟩
  | 7 => ⟨fun s v => N16.rec (motive := fun _ => N16 α) (fun x0 x1 x2 x3 x4 x5 x6 _ x8 x9 x10 x11 x12 x13 x14 x15 => ⟨x0, x1, x2, x3, x4, x5, x6, v, x8, x9, x10, x11, x12, x13, x14, x15⟩) s⟩
  | 8 => ⟨fun s v => N16.rec (motive := fun _ => N16 α) (fun x0 x1 x2 x3 x4 x5 x6 x7 _ x9 x10 x11 x12 x13 x14 x15 => ⟨x0, x1, x2, x3, x4, x5, x6, x7, v, x9, x10, x11, x12, x13, x14, x15⟩) s⟩
  | 9 => ⟨fun s v => N16.rec (motive := fun _ => N16 α) (fun x0 x1 x2 x3 x4 x5 x6 x7 x8 _ x10 x11 x12 x13 x14 x15 => ⟨x0, x1, x2, x3, x4, x5, x6, x7, x8, v, x10, x11, x12, x13, x14, x15⟩) s⟩
  | 10 => ⟨fun s v => N16.rec (motive := fun _ => N16 α) (fun x0 x1 x2 x3 x4 x5 x6 x7 x8 x9 _ x11 x12 x13 x14 x15 => ⟨x0, x1, x2, x3, x4, x5, x6, x7, x8, x9, v, x11, x12, x13, x14, x15⟩) s⟩
  | 11 => ⟨fun s v => N16.rec (motive := fun _ => N16 α) (fun x0 x1 x2 x3 x4 x5 x6 x7 x8 x9 x10 _ x12 x13 x14 x15 => ⟨x0, x1, x2, x3, x4, x5, x6, x7, x8, x9, x10, v, x12, x13, x14, x15⟩) s⟩
  | 12 => ⟨fun s v => N16.rec (motive := fun _ => N16 α) (fun x0 x1 x2 x3 x4 x5 x6 x7 x8 x9 x10 x11 _ x13 x14 x15 => ⟨x0, x1, x2, x3, x4, x5, x6, x7, x8, x9, x10, x11, v, x13, x14, x15⟩) s⟩
  | 13 => ⟨fun s v => N16.rec (motive := fun _ => N16 α) (fun x0 x1 x2 x3 x4 x5 x6 x7 x8 x9 x10 x11 x12 _ x14 x15 => ⟨x0, x1, x2, x3, x4, x5, x6, x7, x8, x9, x10, x11, x12, v, x14, x15⟩) s⟩
  | 14 => ⟨fun s v => N16.rec (motive := fun _ => N16 α) (fun x0 x1 x2 x3 x4 x5 x6 x7 x8 x9 x10 x11 x12 x13 _ x15 => ⟨x0, x1, x2, x3, x4, x5, x6, x7, x8, x9, x10, x11, x12, x13, v, x15⟩) s⟩
  | _ => ⟨fun s v => N16.rec (motive := fun _ => N16 α) (fun x0 x1 x2 x3 x4 x5 x6 x7 x8 x9 x10 x11 x12 x13 x14 _ => ⟨x0, x1, x2, x3, x4, x5, x6, x7, x8, x9, x10, x11, x12, x13, x14, v⟩) s⟩
theorem updF_eq {α : Type} (i : Nat) (s : N16 α) (v : α) : (updF i).run s v = N16.upd i s v := by
  match i with
  | 0 => rfl
  | 1 => rfl
  | 2 => rfl
  | 3 => rfl
  | 4 => rfl
  | 5 => rfl
  | 6 => rfl
  | 7 => rfl
  | 8 => rfl
  | 9 => rfl
  | 10 => rfl
  | 11 => rfl
  | 12 => rfl
  | 13 => rfl
  | 14 => rfl
  | _ + 15 => rfl


/-! ### Lists and tries, quick -/
def nthQ {α : Type} (l : List α) (i : Nat) : Option α :=
  List.rec (motive := fun _ => Nat → Option α) (fun _ => none) (fun x _ ih i => Nat.rec (motive := fun _ => Option α) (some x) (fun j _ => ih j) i) l i
theorem nthQ_get {α : Type} : ∀ (l : List α) (i : Nat), nthQ l i = l[i]?
  | [], i => rfl
  | x :: l, 0 => rfl
  | x :: l, i + 1 => by
    show nthQ l i = _
    rw [nthQ_get l i]; rfl
theorem nthQ_nth {α : Type} : ∀ (l : List α) (i : Nat), nthQ l i = nth l i
  | [], i => by cases i <;> rfl
  | x :: l, 0 => rfl
  | x :: l, i + 1 => nthQ_nth l i
theorem arr_nthQ {α : Type} (a : Array α) (i : Nat) : a[i]? = nthQ a.toList i := by rw [nthQ_get]; simp
def lenQ {α : Type} (l : List α) : Nat := List.rec (motive := fun _ => Nat) 0 (fun _ _ n => Nat.succ n) l
theorem lenQ_eq {α : Type} : ∀ l : List α, lenQ l = l.length
  | [] => rfl
  | _ :: l => congrArg Nat.succ (lenQ_eq l)

/-- The first n. -/
def takeQ (l : List AV) (n : Nat) : Option (List AV) :=
  List.rec (motive := fun _ => Nat → Option (List AV)) (fun n => Nat.rec (motive := fun _ => Option (List AV)) (some []) (fun _ _ => none) n)
    (fun x _ ih n => Nat.rec (motive := fun _ => Option (List AV)) (some []) (fun m _ => Option.rec (motive := fun _ => Option (List AV)) none (fun r => some (x :: r)) (ih m)) n) l n
theorem takeQ_eq : ∀ (l : List AV) (n : Nat), takeQ l n = (bif Nat.ble n l.length then some (l.take n) else none)
  | [], 0 => rfl
  | [], n + 1 => rfl
  | x :: l, 0 => rfl
  | x :: l, n + 1 => by
    show Option.rec (motive := fun _ => Option (List AV)) none (fun r => some (x :: r)) (takeQ l n) = _
    rw [takeQ_eq l n]
    show _ = (bif Nat.ble (n + 1) (l.length + 1) then some ((x :: l).take (n + 1)) else none)
    have : Nat.ble (n + 1) (l.length + 1) = Nat.ble n l.length := rfl
    rw [this]
    cases Nat.ble n l.length <;> rfl
def cutQ (l : List AV) (o n : Nat) : Option (List AV) :=
  List.rec (motive := fun _ => Nat → Option (List AV)) (fun o => Nat.rec (motive := fun _ => Option (List AV)) (takeQ [] n) (fun _ _ => none) o)
    (fun x l ih o => Nat.rec (motive := fun _ => Option (List AV)) (takeQ (x :: l) n) (fun m _ => ih m) o) l o
theorem cutQ_eq : ∀ (l : List AV) (o n : Nat), cutQ l o n = cutA l o n
  | [], 0, n => by
    show takeQ [] n = _
    rw [takeQ_eq]; simp [cutA]
  | [], o + 1, n => by
    show none = _
    have : Nat.ble (o + 1 + n) 0 = false := by
      cases h : Nat.ble (o + 1 + n) 0 with
      | false => rfl
      | true => have := Nat.le_of_ble_eq_true h; omega
    simp [cutA, this]
  | x :: l, 0, n => by
    show takeQ (x :: l) n = _
    rw [takeQ_eq]; simp [cutA]
  | x :: l, o + 1, n => by
    show cutQ l o n = _
    rw [cutQ_eq l o n]
    unfold cutA
    have : Nat.ble (o + 1 + n) (x :: l).length = Nat.ble (o + n) l.length := by
      rw [show o + 1 + n = (o + n) + 1 by omega]; rfl
    rw [this]; rfl

/-- Cells laid over the head of a row. -/
def overQ (vs l : List AV) : Option (List AV) :=
  List.rec (motive := fun _ => List AV → Option (List AV)) (fun l => some l)
    (fun v _ ih l => List.rec (motive := fun _ => Option (List AV)) none (fun _ l' _ => Option.rec (motive := fun _ => Option (List AV)) none (fun r => some (v :: r)) (ih l')) l) vs l
theorem overQ_eq : ∀ (vs l : List AV), overQ vs l = (bif Nat.ble vs.length l.length then some (vs ++ l.drop vs.length) else none)
  | [], l => by
    show some l = _
    simp
    rfl
  | v :: vs, [] => rfl
  | v :: vs, x :: l => by
    show Option.rec (motive := fun _ => Option (List AV)) none (fun r => some (v :: r)) (overQ vs l) = _
    rw [overQ_eq vs l]
    have : Nat.ble (v :: vs).length (x :: l).length = Nat.ble vs.length l.length := rfl
    rw [this]
    cases Nat.ble vs.length l.length <;> rfl
def layQ (l : List AV) (o : Nat) (vs : List AV) : Option (List AV) :=
  List.rec (motive := fun _ => Nat → Option (List AV)) (fun o => Nat.rec (motive := fun _ => Option (List AV)) (overQ vs []) (fun _ _ => none) o)
    (fun x l ih o => Nat.rec (motive := fun _ => Option (List AV)) (overQ vs (x :: l)) (fun m _ => Option.rec (motive := fun _ => Option (List AV)) none (fun r => some (x :: r)) (ih m)) o) l o
theorem layQ_eq : ∀ (l : List AV) (o : Nat) (vs : List AV), layQ l o vs = (bif Nat.ble (o + vs.length) l.length then some (l.take o ++ (vs ++ l.drop (o + vs.length))) else none)
  | [], 0, vs => by
    show overQ vs [] = _
    rw [overQ_eq]; simp
  | [], o + 1, vs => by
    show none = _
    have : Nat.ble (o + 1 + vs.length) 0 = false := by
      cases h : Nat.ble (o + 1 + vs.length) 0 with
      | false => rfl
      | true => have := Nat.le_of_ble_eq_true h; omega
    simp [this]
  | x :: l, 0, vs => by
    show overQ vs (x :: l) = _
    rw [overQ_eq]; simp
  | x :: l, o + 1, vs => by
    show Option.rec (motive := fun _ => Option (List AV)) none (fun r => some (x :: r)) (layQ l o vs) = _
    rw [layQ_eq l o vs]
    have e : o + 1 + vs.length = (o + vs.length) + 1 := by omega
    have : Nat.ble (o + 1 + vs.length) (x :: l).length = Nat.ble (o + vs.length) l.length := by rw [e]; rfl
    rw [this, e]
    cases Nat.ble (o + vs.length) l.length <;> rfl
def flatQ (vs : List AV) : Bool := List.rec (motive := fun _ => Bool) true (fun v _ ih => Bool.rec (motive := fun _ => Bool) false ih v.flat) vs
theorem flatQ_eq : ∀ vs : List AV, flatQ vs = vs.all AV.flat
  | [] => rfl
  | v :: vs => by
    show Bool.rec (motive := fun _ => Bool) false (flatQ vs) v.flat = _
    rw [flatQ_eq vs]
    cases h : v.flat <;> simp [h]
def putQ (c : List AV) (o : Nat) (vs : List AV) : Option (List AV) := Bool.rec (motive := fun _ => Option (List AV)) none (layQ c o vs) (flatQ vs)
theorem putQ_eq (c : List AV) (o : Nat) (vs : List AV) : putQ c o vs = putA c o vs := by
  unfold putQ putA
  rw [flatQ_eq, layQ_eq]
  cases vs.all AV.flat <;> cases Nat.ble (o + vs.length) c.length <;> rfl

/-- A number, worked out. -/
def digQ {β : Type} (d : Nat) (k : Nat → β) : β := Nat.rec (motive := fun _ => β) (k 0) (fun j _ => k (Nat.succ j)) d
theorem digQ_eq {β : Type} (d : Nat) (k : Nat → β) : digQ d k = k d := by cases d <;> rfl
def getQ (t : Tr Ent) (k : Nat) : Option Ent :=
  Bool.rec (motive := fun _ => Option Ent) none
    (digQ (Nat.div k 4096) fun a => digQ (Nat.mod (Nat.div k 256) 16) fun b => digQ (Nat.mod (Nat.div k 16) 16) fun c => digQ (Nat.mod k 16) fun d =>
      (selF d).run ((selF c).run ((selF b).run ((selF a).run t)))) (Nat.ble (Nat.succ k) 65536)
theorem getQ_eq (t : Tr Ent) (k : Nat) : getQ t k = t.get k := by
  unfold getQ Tr.get
  simp only [digQ_eq, selF_eq, Nat.blt, Nat.succ_eq_add_one]
  cases Nat.ble (k + 1) 65536 <;> rfl
def insQ (t : Tr Ent) (k : Nat) (v : Ent) : Tr Ent :=
  Bool.rec (motive := fun _ => Tr Ent) t
    (digQ (Nat.div k 4096) fun a => digQ (Nat.mod (Nat.div k 256) 16) fun b => digQ (Nat.mod (Nat.div k 16) 16) fun c => digQ (Nat.mod k 16) fun d =>
      (updF a).run t ((updF b).run ((selF a).run t) ((updF c).run ((selF b).run ((selF a).run t)) ((updF d).run ((selF c).run ((selF b).run ((selF a).run t))) (some v))))) (Nat.ble (Nat.succ k) 65536)
theorem insQ_eq (v : Ent) (t : Tr Ent) (k : Nat) : insQ t k v = t.ins k v := by
  unfold insQ Tr.ins
  simp only [digQ_eq, selF_eq, updF_eq, Nat.blt, Nat.succ_eq_add_one]
  cases Nat.ble (k + 1) 65536 <;> rfl
def newQ (H : AHeap) (o : AObj) : AHeap := ⟨insQ H.objs H.next ⟨o, H.time⟩, Nat.succ H.next, Nat.succ H.time⟩
theorem newQ_eq (H : AHeap) (o : AObj) : newQ H o = H.new o := by unfold newQ AHeap.new; rw [insQ_eq]
def setQ (H : AHeap) (i : Nat) (o : AObj) : AHeap := ⟨insQ H.objs i ⟨o, H.time⟩, H.next, Nat.succ H.time⟩
theorem setQ_eq (H : AHeap) (i : Nat) (o : AObj) : setQ H i o = H.set i o := by unfold setQ AHeap.set; rw [insQ_eq]
def rowQ (H : AHeap) (i : Nat) : Option Row :=
  Option.rec (motive := fun _ => Option Row) none (fun e => Ent.rec (motive := fun _ => Option Row) (fun o _ =>
    AObj.rec (motive := fun _ => Option Row) (fun c e fz z => some ⟨c, e, fz, z⟩) (fun _ _ => none) (fun _ _ => none) (fun _ _ _ _ => none) (fun _ _ _ _ _ _ _ _ => none) (fun _ => none) none o) e) (getQ H.objs i)
theorem rowQ_eq (H : AHeap) (i : Nat) : rowQ H i = H.row i := by
  unfold rowQ AHeap.row AHeap.get
  rw [getQ_eq]
  cases H.objs.get i with
  | none => rfl
  | some e => obtain ⟨o, s⟩ := e; cases o <;> rfl

/-! ### Types, quick -/
def infoQ (P : Program) (t : TypeId) : Option TypeInfo := Option.rec (motive := fun _ => Option TypeInfo) (P.info? t) (fun i => some i) (nthQ P.types.toList t)
theorem infoQ_eq (P : Program) (t : TypeId) : P.info? t = infoQ P t := by
  unfold infoQ
  cases h : nthQ P.types.toList t with
  | none => rfl
  | some i =>
    have ha : P.types[t]? = some i := by rw [arr_nthQ]; exact h
    have hlt : t < P.types.size := by
      rcases Nat.lt_or_ge t P.types.size with h' | h'
      · exact h'
      · rw [Array.getElem?_eq_none h'] at ha; cases ha
    show Tables.info? _ t = some i
    unfold Tables.info?
    rw [if_pos hlt]
    exact ha
def underQ (P : Program) (t : TypeId) : Option TypeDesc :=
  match infoQ P t with
  | some { desc := .named _ u, .. } => (infoQ P u).map (·.desc)
  | some i => some i.desc
  | none => none
theorem underQ_eq (P : Program) (t : TypeId) : P.underlying t = underQ P t := by
  unfold Program.underlying underQ
  simp only [infoQ_eq]
  rfl
def cellsInQ (P : Program) (t : TypeId) : Option Nat := (infoQ P t).map (·.size)
theorem cellsInQ_eq (P : Program) (t : TypeId) : cellsIn P t = cellsInQ P t := by unfold cellsIn cellsInQ; rw [infoQ_eq]
def aggSizeQ (P : Program) (t : TypeId) : Option (Bool × Nat) :=
  match underQ P t, infoQ P t with
  | some (.struct _), some i => some (true, i.size)
  | some (.array _ _), some i => some (true, i.size)
  | some _, some i => some (false, i.size)
  | _, _ => none
theorem aggSizeQ_eq (P : Program) (t : TypeId) : aggSize P t = aggSizeQ P t := by
  unfold aggSize aggSizeQ
  rw [infoQ_eq, underQ_eq]
  rfl
def zeroQ (P : Program) (t : TypeId) : Option AV := ((infoQ P t).bind (·.zero)).bind (ofValue 8)
theorem zeroQ_eq (P : Program) (t : TypeId) : zeroOf P t = zeroQ P t := by unfold zeroOf zeroQ; rw [infoQ_eq]

def getF (t : Nat) : F (Slots → Option AV) := bif Nat.blt t 256 then (selF (t / 16)).on fun f => (selF (t % 16)).on fun g => ⟨fun s => g (f s)⟩ else ⟨fun _ => none⟩
def putF (t : Nat) : F (Slots → AV → Slots) := bif Nat.blt t 256 then (selF (t / 16)).on fun f => (updF (t % 16)).on fun g => (updF (t / 16)).on fun h => ⟨fun s v => h s (g (f s) (some v))⟩ else ⟨fun s _ => s⟩
theorem getF_eq (t : Nat) (s : Slots) : (getF t).run s = s.get t := by
  unfold getF Slots.get
  cases Nat.blt t 256 with
  | false => rfl
  | true => simp only [cond_true, F.on_run, selF_eq]
theorem putF_eq (t : Nat) (s : Slots) (v : AV) : (putF t).run s v = s.put t v := by
  unfold putF Slots.put
  cases Nat.blt t 256 with
  | false => rfl
  | true => simp only [cond_true, F.on_run, selF_eq, updF_eq]

/-! ### Operands -/
def constF (x : Option AV) : F (Slots → Option AV) := Option.rec (motive := fun _ => F (Slots → Option AV)) ⟨fun _ => none⟩ (fun v => ⟨fun _ => some v⟩) x
theorem constF_eq (x : Option AV) (s : Slots) : (constF x).run s = x := by cases x <;> rfl
def evF (C : Cfg) : Operand → F (Slots → Option AV)
  | .tmp t => getF t
  | .const v => constF (ofValue 8 v)
  | .global g => constF ((C.glob g).map fun i => .ptr i 0)
  | .func f => ⟨fun _ => some (.func (.func f) [] [])⟩
theorem evF_eq (C : Cfg) (x : Operand) (s : Slots) : (evF C x).run s = evA C s x := by
  cases x with
  | tmp t => exact getF_eq t s
  | const v => exact constF_eq _ s
  | global g => exact constF_eq _ s
  | func f => rfl

def evAllF (C : Cfg) : List Operand → F (Slots → Option (List AV))
  | [] => ⟨fun _ => some []⟩
  | x :: xs => (evF C x).on fun f => (evAllF C xs).on fun g => ⟨fun s => Option.rec (motive := fun _ => Option (List AV)) none (fun a => Option.rec (motive := fun _ => Option (List AV)) none (fun as => some (a :: as)) (g s)) (f s)⟩
theorem evAllF_eq (C : Cfg) (s : Slots) : ∀ xs, (evAllF C xs).run s = evAll (evA C s) xs
  | [] => rfl
  | x :: xs => by
    simp only [evAllF, evAll, F.on_run, evF_eq, evAllF_eq C s xs]
    cases evA C s x <;> cases evAll (evA C s) xs <;> rfl

def evOptF (C : Cfg) : Option Operand → F (Slots → Option (Option AV))
  | none => ⟨fun _ => some none⟩
  | some x => (evF C x).on fun f => ⟨fun s => (f s).map some⟩
theorem evOptF_eq (C : Cfg) (s : Slots) (x : Option Operand) : (evOptF C x).run s = evOpt (evA C s) x := by
  cases x with
  | none => rfl
  | some x => simp only [evOptF, evOpt, F.on_run, evF_eq]

/-! ### Numbers -/
def ixK : IntKind → Nat
  | .i8 => 0 | .i16 => 1 | .i32 => 2 | .i64 => 3 | .u8 => 4 | .u16 => 5 | .u32 => 6 | .u64 => 7
def eqK (k k' : IntKind) : Bool := Nat.beq (ixK k) (ixK k')
theorem eqK_eq (k k' : IntKind) : eqK k k' = decide (k = k') := by cases k <;> cases k' <;> rfl
def addQ (x y : Int) : Int := Int.rec (motive := fun _ => Int) (fun m => Int.rec (motive := fun _ => Int) (fun n => .ofNat (Nat.add m n)) (fun _ => Int.add x y) y) (fun _ => Int.add x y) x
theorem addQ_eq (x y : Int) : addQ x y = x + y := by cases x <;> cases y <;> rfl
def subQ (x y : Int) : Int := Int.rec (motive := fun _ => Int) (fun m => Int.rec (motive := fun _ => Int) (fun n => bif Nat.ble n m then .ofNat (Nat.sub m n) else Int.sub x y) (fun _ => Int.sub x y) y) (fun _ => Int.sub x y) x
theorem subQ_eq (x y : Int) : subQ x y = x - y := by
  cases x with
  | negSucc m => rfl
  | ofNat m => cases y with
    | negSucc n => rfl
    | ofNat n =>
      show (bif Nat.ble n m then Int.ofNat (Nat.sub m n) else Int.sub _ _) = _
      cases h : Nat.ble n m with
      | false => rfl
      | true =>
        have := Nat.le_of_ble_eq_true h
        show Int.ofNat (m - n) = Int.ofNat m - Int.ofNat n
        simp only [Int.ofNat_eq_natCast]; omega
def wrapQ (k : IntKind) (n : Int) : Int :=
  Int.rec (motive := fun _ => Int) (fun m => bif Nat.ble m (maxOf k) then .ofNat m else wrapA k (.ofNat m)) (fun m => wrapA k (.negSucc m)) n
theorem wrapQ_eq (k : IntKind) (n : Int) : wrapQ k n = wrapA k n := by
  cases n with
  | negSucc m => rfl
  | ofNat m =>
    show (bif Nat.ble m (maxOf k) then _ else _) = _
    cases h : Nat.ble m (maxOf k) with
    | false => rfl
    | true => simp [wrapA, h]
/-- A binary operator on numbers, quick. -/
def arithF : BinOp → F (IntKind → Int → Int → Option AV)
  | .add => ⟨fun k x y => some (.int k (wrapQ k (addQ x y)))⟩
  | .sub => ⟨fun k x y => some (.int k (wrapQ k (subQ x y)))⟩
  | .mul => ⟨fun k x y => some (.int k (wrapQ k (x * y)))⟩
  | .and => ⟨fun k x y => some (.int k (wrapQ k (.ofNat (Nat.land (bitsA k x) (bitsA k y)))))⟩
  | .or => ⟨fun k x y => some (.int k (wrapQ k (.ofNat (Nat.lor (bitsA k x) (bitsA k y)))))⟩
  | .xor => ⟨fun k x y => some (.int k (wrapQ k (.ofNat (Nat.xor (bitsA k x) (bitsA k y)))))⟩
  | .eql => ⟨fun _ x y => some (.bool (eqA x y))⟩
  | .neq => ⟨fun _ x y => some (.bool (!eqA x y))⟩
  | .lss => ⟨fun _ x y => some (.bool (ltA x y))⟩
  | .leq => ⟨fun _ x y => some (.bool (!ltA y x))⟩
  | .gtr => ⟨fun _ x y => some (.bool (ltA y x))⟩
  | .geq => ⟨fun _ x y => some (.bool (!ltA x y))⟩
  | op => ⟨fun k x y => arithA op k x y⟩
theorem arithF_eq (op : BinOp) (k : IntKind) (x y : Int) : (arithF op).run k x y = arithA op k x y := by
  cases op <;> simp only [arithF, arithA, addQ_eq, subQ_eq, wrapQ_eq]

def binF (C : Cfg) (op : BinOp) (t : TypeId) (x y : Operand) : F (AHeap → AV → AV → Option AV) :=
  match op with
  | .shl => ⟨fun H a b => match a, b with
    | .int k m, .int _ n => shiftA .shl k m n
    | _, _ => binOpA C.P H .shl t x y a b⟩
  | .shr => ⟨fun H a b => match a, b with
    | .int k m, .int _ n => shiftA .shr k m n
    | _, _ => binOpA C.P H .shr t x y a b⟩
  | op => (arithF op).on fun f => ⟨fun H a b => match a, b with
    | .int k m, .int k' n => bif eqK k k' then f k m n else none
    | _, _ => binOpA C.P H op t x y a b⟩
theorem binF_eq (C : Cfg) (op : BinOp) (t : TypeId) (x y : Operand) (H : AHeap) (a b : AV) : (binF C op t x y).run H a b = binOpA C.P H op t x y a b := by
  cases op <;> cases a <;> cases b <;> first | rfl | (simp only [binF, F.on_run, arithF_eq, eqK_eq]; rfl)

def unF (op : UnOp) : F (AV → Option AV) :=
  match op with
  | .not => ⟨fun x => match x with
    | .bool b => some (.bool !b)
    | _ => none⟩
  | op => ⟨fun x => unOpA op x⟩
theorem unF_eq (op : UnOp) (x : AV) : (unF op).run x = unOpA op x := by
  cases op <;> cases x <;> rfl

/-! ### Memory -/
def rowAtF (H : AHeap) (i o : Nat) : Option AV :=
  Option.rec (motive := fun _ => Option AV) none (fun r => Row.rec (motive := fun _ => Option AV) (fun c _ _ _ => nthQ c o) r) (rowQ H i)
theorem nth_get {α : Type} (l : List α) (i : Nat) : nth l i = l[i]? := by rw [← nthQ_nth, nthQ_get]
def loadF (P : Program) (t : TypeId) : F (Nat → Nat → AHeap → Option AV) :=
  match aggSizeQ P t with
  | some (true, n) => ⟨fun i o H => Option.rec (motive := fun _ => Option AV) none (fun r => Row.rec (motive := fun _ => Option AV) (fun c _ _ _ => Option.rec (motive := fun _ => Option AV) none (fun l => some (.agg l)) (cutQ c o n)) r) (rowQ H i)⟩
  | some (false, _) => ⟨fun i o H => rowAtF H i o⟩
  | none => ⟨fun _ _ _ => none⟩
theorem loadF_eq (P : Program) (t : TypeId) (i o : Nat) (H : AHeap) : (loadF P t).run i o H = loadA P t i o H := by
  unfold loadF loadA rowAtF
  rw [aggSizeQ_eq]
  simp only [rowQ_eq, cutQ_eq, nthQ_get]
  cases aggSizeQ P t with
  | none => cases H.row i <;> rfl
  | some p =>
    obtain ⟨b, n⟩ := p
    cases hr : H.row i with
    | none => cases b <;> simp [hr]
    | some r =>
      obtain ⟨c, e, fz, z⟩ := r
      cases b with
      | false => simp [hr]
      | true =>
        simp only [hr]
        cases cutA c o n <;> rfl

def storeF (P : Program) (t : TypeId) : F (Nat → Nat → AV → AHeap → Option AHeap) :=
  match cellsInQ P t with
  | none => ⟨fun _ _ _ _ => none⟩
  | some n => ⟨fun i o v H => Option.rec (motive := fun _ => Option AHeap) none (fun r => Row.rec (motive := fun _ => Option AHeap) (fun c e fz z =>
      Bool.rec (motive := fun _ => Option AHeap) none (Bool.rec (motive := fun _ => Option AHeap) none
        (Option.rec (motive := fun _ => Option AHeap) none (fun c' => some (setQ H i (.cells c' e fz z))) (putQ c o v.cells)) (Nat.ble fz 1)) (Nat.beq (lenQ v.cells) n)) r) (rowQ H i)⟩
theorem storeF_eq (P : Program) (t : TypeId) (i o : Nat) (v : AV) (H : AHeap) : (storeF P t).run i o v H = storeA P t i o v H := by
  unfold storeF storeA
  simp only [rowQ_eq, putQ_eq, lenQ_eq, setQ_eq, cellsInQ_eq]
  cases cellsInQ P t with
  | none => cases H.row i <;> rfl
  | some n =>
    simp only []
    cases H.row i with
    | none => rfl
    | some r =>
      obtain ⟨c, e, fz, z⟩ := r
      simp only []
      cases Nat.beq v.cells.length n <;> cases Nat.ble fz 1 <;> try rfl
      simp only [Bool.and_self, cond_true]
      cases putA c o v.cells <;> rfl

def fieldAddrF (P : Program) (s : TypeId) (f : Nat) : F (AV → Option AV) :=
  match underQ P s with
  | some (.struct fs) => match nthQ fs.toList f with
    | some fd => match cellsInQ P fd.type, fd.offset with
      | some (_ + 1), 0 => ⟨fun x => match x with
        | .ptr i o => some (.ptr i o)
        | _ => none⟩
      | some (_ + 1), off => ⟨fun x => match x with
        | .ptr i o => some (.ptr i (Nat.add o off))
        | _ => none⟩
      | _, _ => ⟨fun _ => none⟩
    | none => ⟨fun _ => none⟩
  | _ => ⟨fun _ => none⟩
theorem fieldAddrF_eq (P : Program) (s : TypeId) (f : Nat) (x : AV) : (fieldAddrF P s f).run x = fieldAddrA P s x f := by
  unfold fieldAddrF fieldAddrA
  simp only [← underQ_eq, ← cellsInQ_eq, ← arr_nthQ]
  cases P.underlying s with
  | none => cases x <;> rfl
  | some d =>
    cases d <;> try (cases x <;> rfl)
    rename_i fs
    simp only []
    cases h : fs[f]? with
    | none => cases x <;> simp [h]
    | some fd =>
      simp only []
      cases h2 : cellsIn P fd.type with
      | none => cases x <;> simp [h, h2]
      | some n =>
        cases n with
        | zero => cases x <;> simp [h, h2]
        | succ n =>
          split
          · rename_i h3 h4
            cases x <;> simp [h, h2, h4]
          · cases x <;> simp [h, h2]
          · rename_i h3 _
            exact absurd rfl (h3 n)

def indexAddrF (P : Program) (t : TypeId) : F (AV → AV → Option AV) :=
  match underQ P t with
  | some (.array n e) => match cellsInQ P e with
    | some size => ⟨fun x ix => match x, ix with
      | .ptr i o, .int _ (.ofNat k) => bif Nat.ble (Nat.succ k) n then some (.ptr i (Nat.add o (Nat.mul k size))) else none
      | _, _ => none⟩
    | none => ⟨fun _ _ => none⟩
  | some (.slice e) => match cellsInQ P e with
    | some size => ⟨fun x ix => match x, ix with
      | .slice i o len _ _, .int _ (.ofNat k) => bif Nat.ble (Nat.succ k) len then some (.ptr i (Nat.add o (Nat.mul k size))) else none
      | _, _ => none⟩
    | none => ⟨fun _ _ => none⟩
  | _ => ⟨fun _ _ => none⟩
theorem indexAddrF_eq (P : Program) (t : TypeId) (x ix : AV) : (indexAddrF P t).run x ix = indexAddrA P t x ix := by
  unfold indexAddrF indexAddrA
  simp only [← underQ_eq, ← cellsInQ_eq]
  cases P.underlying t with
  | none => rfl
  | some d =>
    cases d <;> try rfl
    all_goals
      rename_i e
      simp only []
      cases h2 : cellsIn P e with
      | none => cases x <;> cases ix <;> first | rfl | (rename_i n; cases n <;> first | rfl | simp [h2])
      | some size => cases x <;> cases ix <;> first | rfl | (rename_i n; cases n <;> first | rfl | (simp only [h2]; rfl))

def lenF (P : Program) (t : TypeId) : F (AV → AHeap → Option AV) :=
  match underQ P t with
  | some (.slice _) => ⟨fun x _ => match x with
    | .nilSlice => some (.int .i64 (.ofNat 0))
    | .emptySlice => some (.int .i64 (.ofNat 0))
    | .slice _ _ n _ _ => some (.int .i64 (.ofNat n))
    | _ => none⟩
  | some .string => ⟨fun x _ => match x with
    | .str s => some (.int .i64 (.ofNat (lenQ s)))
    | _ => none⟩
  | _ => ⟨fun x H => lenA P t x H⟩
theorem lenF_eq (P : Program) (t : TypeId) (x : AV) (H : AHeap) : (lenF P t).run x H = lenA P t x H := by
  unfold lenF
  simp only [← underQ_eq, lenQ_eq]
  split
  · rename_i e h
    cases x <;> simp [lenA, h] <;> rfl
  · rename_i h
    cases x <;> simp [lenA, h]
  · rfl

def indexF (P : Program) (t : TypeId) : F (AV → AV → Option AV) :=
  match underQ P t with
  | some .string => ⟨fun x ix => match x, ix with
    | .str s, .int _ (.ofNat k) => match nthQ s k with
      | some b => some (.int .u8 (.ofNat b))
      | none => none
    | _, _ => none⟩
  | _ => ⟨fun x ix => indexA P t x ix⟩
theorem indexF_eq (P : Program) (t : TypeId) (x ix : AV) : (indexF P t).run x ix = indexA P t x ix := by
  unfold indexF
  simp only [← underQ_eq]
  split
  · rename_i h
    cases x <;> cases ix <;> simp only [indexA, h]
    rename_i x k n
    cases n with
    | negSucc n => rfl
    | ofNat n =>
      simp only [nthQ_get]
      cases x[n]? <;> rfl
  · rfl

/-- A conversion that only looks. -/
def convF (P : Program) (src dst : TypeId) : F (AV → AHeap → Option AV) :=
  match underQ P src, underQ P dst with
  | some _, some (.int k) => ⟨fun a H => match a with
    | .int _ n => some (.int k (wrapQ k n))
    | _ => (match convertA P src dst a H with
      | some (v, _) => some v
      | none => none)⟩
  | _, some (.slice _) => ⟨fun _ _ => none⟩
  | _, _ => ⟨fun a H => match convertA P src dst a H with
      | some (v, _) => some v
      | none => none⟩
theorem convF_eq (P : Program) (src dst : TypeId) (a : AV) (H : AHeap) : (convF P src dst).run a H = (match convertA P src dst a H with
    | some (v, _) => (match P.underlying dst, a with | some (.slice _), _ => none | _, _ => some v)
    | none => none) := by
  unfold convF
  simp only [← underQ_eq]
  split
  · rename_i s k h1 h2
    simp only [h2]
    cases a <;> simp only [] <;> try rfl
    simp only [convertA, h1, h2, wrapQ_eq]
  · rename_i e h h2
    simp only [h2]
    cases convertA P src dst a H <;> rfl
  · rename_i h1 h2
    cases hc : convertA P src dst a H with
    | none => simp only [hc]
    | some v =>
      obtain ⟨v, H'⟩ := v
      simp only [hc]

def fieldF (P : Program) (t : TypeId) (f : Nat) : F (AV → Option AV) :=
  match underQ P t with
  | some (.struct fs) => match nthQ fs.toList f with
    | some fd => match aggSizeQ P fd.type with
      | some (true, n) => ⟨fun x => match x with
        | .agg cs => (cutQ cs fd.offset n).map .agg
        | _ => none⟩
      | some (false, _) => ⟨fun x => match x with
        | .agg cs => nthQ cs fd.offset
        | _ => none⟩
      | none => ⟨fun _ => none⟩
    | none => ⟨fun _ => none⟩
  | _ => ⟨fun _ => none⟩
theorem fieldF_eq (P : Program) (t : TypeId) (f : Nat) (x : AV) : (fieldF P t f).run x = fieldA P t x f := by
  unfold fieldF fieldA
  simp only [← underQ_eq, ← aggSizeQ_eq, ← arr_nthQ, cutQ_eq]
  cases P.underlying t with
  | none => cases x <;> rfl
  | some d =>
    cases d <;> try (cases x <;> rfl)
    rename_i fs
    simp only []
    cases h : fs[f]? with
    | none => cases x <;> simp [h]
    | some fd =>
      simp only []
      cases h2 : aggSize P fd.type with
      | none => cases x <;> simp [h, partA, h2]
      | some n =>
        obtain ⟨b, n⟩ := n
        cases b <;> cases x <;> simp [h, partA, h2, nthQ_get]


/-! ### append, literals -/
def bytesInQ (P : Program) (t : TypeId) : Option Nat := (infoQ P t).map (·.bytes)
theorem bytesInQ_eq (P : Program) (t : TypeId) : bytesIn P t = bytesInQ P t := by unfold bytesIn bytesInQ; rw [infoQ_eq]
def firstQ (size n : Nat) (x : AV) (H : AHeap) : Option (List AV) :=
  match x with
  | .nilSlice => bif Nat.beq n 0 then some [] else none
  | .emptySlice => bif Nat.beq n 0 then some [] else none
  | .slice i o _ _ _ => match rowQ H i with
    | some ⟨c, _, _, _⟩ => cutQ c o (Nat.mul n size)
    | none => none
  | .str s => bif Nat.beq size 1 then some ((s.take n).map fun b => .int .u8 (.ofNat b)) else none
  | _ => none
theorem firstQ_eq (size n : Nat) (x : AV) (H : AHeap) : firstQ size n x H = firstA size n x H := by
  unfold firstQ firstA
  simp only [rowQ_eq, cutQ_eq]
  rfl
def appendF (P : Program) (ts : Array TypeId) : F (AV → AV → AHeap → Option (AV × AHeap)) :=
  match nthQ ts.toList 0 with
  | none => ⟨fun _ _ _ => none⟩
  | some st => match underQ P st with
    | some (.slice e) => match cellsInQ P e, bytesInQ P e, zeroQ P e with
      | some size, some bytes, some z =>
        bif !plainArg P ts then ⟨fun _ _ _ => none⟩ else
        bif !(Nat.beq z.cells.length size) || Nat.beq bytes 0 then ⟨fun _ _ _ => none⟩ else
        ⟨fun s x H => match countA x, countA s with
        | some n, some len =>
          bif !(Nat.ble (Nat.mul (Nat.add len n) bytes) mostLen) || !(Nat.ble bytes mostLen) then none else
          match firstQ size n x H with
          | none => none
          | some new =>
            match s with
            | .nilSlice => bif Nat.beq n 0 then some (.nilSlice, H) else some (.slice H.next 0 n n false, newQ H (.cells new e 0 size))
            | .emptySlice => bif Nat.beq n 0 then some (.emptySlice, H) else none
            | .slice i o _ cap exact =>
              match rowQ H i with
              | none => none
              | some ⟨c, ce, fz, z⟩ =>
                bif Nat.ble (Nat.add len n) cap then
                  bif Nat.ble fz 1 then (putQ c (Nat.add o (Nat.mul len size)) new).map fun c' => (.slice i o (Nat.add len n) cap exact, setQ H i (.cells c' ce fz z)) else none
                else bif exact then
                  (cutQ c o (Nat.mul len size)).map fun old => (.slice H.next 0 (Nat.add len n) (Nat.add len n) false, newQ H (.cells (old ++ new) e 0 size))
                else
                  bif Nat.beq (Nat.add o (Nat.mul len size)) (lenQ c) && Nat.ble fz 1 && Nat.beq ce e && Nat.beq z size && flatQ new then
                    (cutQ c o (Nat.mul len size)).map fun old => (.slice H.next 0 (Nat.add len n) (Nat.add len n) false, newQ (setQ H i .dead) (.cells (old ++ new) e fz size))
                  else none
            | _ => none
        | _, _ => none⟩
      | _, _, _ => ⟨fun _ _ _ => none⟩
    | _ => ⟨fun _ _ _ => none⟩
theorem appendF_eq (P : Program) (ts : Array TypeId) (s x : AV) (H : AHeap) : (appendF P ts).run s x H = appendA P ts s x H := by
  unfold appendF appendA
  simp only [← arr_nthQ, ← underQ_eq, ← cellsInQ_eq, ← bytesInQ_eq, ← zeroQ_eq]
  cases ts[0]? with
  | none => rfl
  | some st =>
    simp only []
    cases P.underlying st with
    | none => rfl
    | some d =>
      cases d <;> try rfl
      rename_i e
      simp only []
      cases cellsIn P e <;> cases bytesIn P e <;> cases zeroOf P e <;> try rfl
      rename_i size bytes z
      simp only []
      cases plainArg P ts with
      | false => rfl
      | true =>
        cases (!(Nat.beq z.cells.length size) || Nat.beq bytes 0) with
        | true => rfl
        | false =>
          simp only [firstQ_eq, rowQ_eq, cutQ_eq, putQ_eq, newQ_eq, setQ_eq, lenQ_eq, flatQ_eq, Bool.not_true, cond_false]
          cases countA x with
          | none => rfl
          | some n =>
            cases s with
            | str l =>
              simp only [countA]
              cases (!(Nat.ble ((l.length + n) * bytes) mostLen) || !(Nat.ble bytes mostLen)) with
              | true => rfl
              | false => cases firstA size n x H <;> rfl
            | slice i o l cap exact =>
              simp only [countA]
              cases (!(Nat.ble ((l + n) * bytes) mostLen) || !(Nat.ble bytes mostLen)) with
              | true => rfl
              | false =>
                cases firstA size n x H with
                | none => rfl
                | some new =>
                  simp only [cond_false]
                  cases H.row i <;> rfl
            | _ => rfl

def fillQ (place : Nat → Option (Nat × Nat)) (cells : List AV) : List (Nat × AV) → Option (List AV)
  | [] => some cells
  | (i, v) :: rest => match place i with
    | none => none
    | some (off, size) => Bool.rec (motive := fun _ => Option (List AV)) none (match layQ cells off v.cells with
      | some cells' => fillQ place cells' rest
      | none => none) (Nat.beq (lenQ v.cells) size)
theorem fillQ_eq (place : Nat → Option (Nat × Nat)) : ∀ (l : List (Nat × AV)) (cells : List AV), fillQ place cells l = fillA place cells l
  | [], _ => rfl
  | (i, v) :: rest, cells => by
    simp only [fillQ, fillA, lenQ_eq, layQ_eq]
    cases place i with
    | none => rfl
    | some p =>
      obtain ⟨off, size⟩ := p
      simp only []
      cases Nat.beq v.cells.length size <;> cases Nat.ble (off + v.cells.length) cells.length <;> try rfl
      simp only [cond_true, fillQ_eq place rest]
      rfl
def evPartsF (C : Cfg) : List (Nat × Operand) → F (Slots → Option (List (Nat × AV)))
  | [] => ⟨fun _ => some []⟩
  | (i, x) :: xs => (evF C x).on fun f => (evPartsF C xs).on fun g => ⟨fun s => Option.rec (motive := fun _ => Option (List (Nat × AV))) none (fun a => Option.rec (motive := fun _ => Option (List (Nat × AV))) none (fun as => some ((i, a) :: as)) (g s)) (f s)⟩
theorem evPartsF_eq (C : Cfg) (s : Slots) : ∀ xs, (evPartsF C xs).run s = evParts (evA C s) xs
  | [] => rfl
  | (i, x) :: xs => by
    simp only [evPartsF, evParts, F.on_run, evF_eq, evPartsF_eq C s xs]
    cases evA C s x <;> cases evParts (evA C s) xs <;> rfl
def buildF (P : Program) (t : TypeId) : F (List (Nat × AV) → Option AV) :=
  match zeroQ P t, underQ P t with
  | some z, some (.struct fs) => match placesOf P fs with
    | some places => ⟨fun parts => Option.rec (motive := fun _ => Option AV) none (fun l => some (.agg l)) (fillQ (fun i => nthQ places i) z.cells parts)⟩
    | none => ⟨fun _ => none⟩
  | some z, some (.array _ e) => match cellsInQ P e with
    | some size => ⟨fun parts => Option.rec (motive := fun _ => Option AV) none (fun l => some (.agg l)) (fillQ (fun i => some (Nat.mul i size, size)) z.cells parts)⟩
    | none => ⟨fun _ => none⟩
  | _, _ => ⟨fun _ => none⟩
theorem buildF_eq (P : Program) (t : TypeId) (parts : List (Nat × AV)) : (buildF P t).run parts = buildA P t parts := by
  unfold buildF buildA
  simp only [← zeroQ_eq, ← underQ_eq, ← cellsInQ_eq, fillQ_eq, nthQ_get]
  cases zeroOf P t <;> cases P.underlying t <;> try rfl
  rename_i z d
  cases d <;> try rfl
  · rename_i n e
    simp only []
    cases cellsIn P e with
    | none => rfl
    | some size => simp only []; cases h : fillA (fun i => some (i * size, size)) z.cells parts <;> simp
  · rename_i fs
    simp only []
    cases placesOf P fs with
    | none => rfl
    | some places => simp only []; cases h : fillA (fun i => places[i]?) z.cells parts <;> simp
def buildSliceF (P : Program) (t : TypeId) (len : Nat) : F (List (Nat × AV) → AHeap → Option (AV × AHeap)) :=
  match underQ P t with
  | some (.slice e) => match zeroQ P e, cellsInQ P e with
    | some z, some size =>
      bif !(Nat.beq z.cells.length size) || Nat.ble size 0 || !(Nat.ble (len * size) 16777216) then ⟨fun _ _ => none⟩ else
      ⟨fun parts H => match fillQ (fun i => some (Nat.mul i size, size)) (zerosA z.cells len) parts with
      | some cs => some (.slice H.next 0 len len true, newQ H (.cells cs e 0 size))
      | none => none⟩
    | _, _ => ⟨fun _ _ => none⟩
  | _ => ⟨fun _ _ => none⟩
theorem buildSliceF_eq (P : Program) (t : TypeId) (len : Nat) (parts : List (Nat × AV)) (H : AHeap) : (buildSliceF P t len).run parts H = buildSliceA P t len parts H := by
  unfold buildSliceF buildSliceA
  simp only [← zeroQ_eq, ← underQ_eq, ← cellsInQ_eq, fillQ_eq, newQ_eq]
  cases P.underlying t with
  | none => rfl
  | some d =>
    cases d <;> try rfl
    rename_i e
    simp only []
    cases zeroOf P e <;> cases cellsIn P e <;> try rfl
    rename_i z size
    simp only []
    cases (!(Nat.beq z.cells.length size) || Nat.ble size 0 || !(Nat.ble (len * size) 16777216)) <;> rfl

/-! ### Looks -/
def lookF (C : Cfg) (o : Oper) : F (Slots → AHeap → Option AV) :=
  match o.op with
  | .move x => (evF C x).on fun f => ⟨fun s _ => f s⟩
  | .assign x => (evF C x).on fun f => ⟨fun s _ => f s⟩
  | .pick c a b => (evF C c).on fun f => (evF C a).on fun g => (evF C b).on fun h => ⟨fun s _ => match f s with
    | some (.bool true) => g s
    | some (.bool false) => h s
    | _ => none⟩
  | .build t parts => (evPartsF C parts.toList).on fun f => (buildF C.P t).on fun g => ⟨fun s _ => Option.rec (motive := fun _ => Option AV) none g (f s)⟩
  | .load t a => (evF C a).on fun f => (loadF C.P t).on fun l => ⟨fun s H => match f s with
    | some (.ptr i off) => l i off H
    | _ => none⟩
  | .nilCheck x => (evF C x).on fun f => ⟨fun s _ => match f s with
    | some .nilPtr | some .nilIface | some .nilFunc => none
    | some (.func (.method _) _ _) => none
    | some .opq => none
    | r => r⟩
  | .binOp op t x y _ => (evF C x).on fun f => (evF C y).on fun g => (binF C op t x y).on fun h => ⟨fun s H =>
      Option.rec (motive := fun _ => Option AV) none (fun a => Option.rec (motive := fun _ => Option AV) none (fun b => h H a b) (g s)) (f s)⟩
  | .unOp op _ x => (evF C x).on fun f => (unF op).on fun g => ⟨fun s _ => Option.rec (motive := fun _ => Option AV) none g (f s)⟩
  | .convert src dst x => (evF C x).on fun f => (convF C.P src dst).on fun g => ⟨fun s H => Option.rec (motive := fun _ => Option AV) none (fun a => g a H) (f s)⟩
  | .fieldAddr t x i => (evF C x).on fun f => (fieldAddrF C.P t i).on fun g => ⟨fun s _ => Option.rec (motive := fun _ => Option AV) none g (f s)⟩
  | .field t x i => (evF C x).on fun f => (fieldF C.P t i).on fun g => ⟨fun s _ => Option.rec (motive := fun _ => Option AV) none g (f s)⟩
  | .indexAddr t x i => (evF C x).on fun f => (evF C i).on fun g => (indexAddrF C.P t).on fun h => ⟨fun s _ =>
      Option.rec (motive := fun _ => Option AV) none (fun a => Option.rec (motive := fun _ => Option AV) none (fun b => h a b) (g s)) (f s)⟩
  | .index t x i => (evF C x).on fun f => (evF C i).on fun g => (indexF C.P t).on fun h => ⟨fun s _ =>
      Option.rec (motive := fun _ => Option AV) none (fun a => Option.rec (motive := fun _ => Option AV) none (fun b => h a b) (g s)) (f s)⟩
  | .extract x i => (evF C x).on fun f => ⟨fun s _ => match f s with
    | some (.tuple vs) => nthQ vs i
    | _ => none⟩
  | .call c => match c.callee, nthQ c.argTypes.toList 0, c.args.toList with
    | .builtin .len, some t, [x] => (evF C x).on fun f => (lenF C.P t).on fun g => ⟨fun s H => Option.rec (motive := fun _ => Option AV) none (fun a => g a H) (f s)⟩
    | _, _, _ => ⟨fun s H => lookA C (evA C s) o H⟩
  | _ => ⟨fun s H => lookA C (evA C s) o H⟩
theorem lookF_eq (C : Cfg) (o : Oper) (s : Slots) (H : AHeap) : (lookF C o).run s H = lookA C (evA C s) o H := by
  unfold lookF
  split <;> rename_i ho
  · simp only [lookA, ho, F.on_run, evF_eq]
  · simp only [lookA, ho, F.on_run, evF_eq]
  · simp only [lookA, ho, F.on_run, evF_eq]
    rfl
  · rename_i t parts
    simp only [lookA, ho, F.on_run, evPartsF_eq]
    cases evParts (evA C s) parts.toList with
    | none => rfl
    | some ps => exact buildF_eq _ _ _
  · simp only [lookA, ho, F.on_run, evF_eq, loadF_eq]
    rfl
  · simp only [lookA, ho, F.on_run, evF_eq]
    rfl
  · rename_i op t x y z
    simp only [lookA, ho, F.on_run, evF_eq, binF_eq]
    cases evA C s x <;> cases evA C s y <;> rfl
  · rename_i op t x
    simp only [lookA, ho, F.on_run, evF_eq]
    cases evA C s x with
    | none => rfl
    | some a => exact unF_eq _ _
  · rename_i src dst x
    simp only [lookA, ho, F.on_run, evF_eq]
    cases evA C s x with
    | none => rfl
    | some a => exact convF_eq _ _ _ _ _
  · rename_i t x i
    simp only [lookA, ho, F.on_run, evF_eq]
    cases evA C s x with
    | none => rfl
    | some a => exact fieldAddrF_eq _ _ _ _
  · rename_i t x i
    simp only [lookA, ho, F.on_run, evF_eq]
    cases evA C s x with
    | none => rfl
    | some a => exact fieldF_eq _ _ _ _
  · rename_i t x i
    simp only [lookA, ho, F.on_run, evF_eq]
    cases evA C s x with
    | none => rfl
    | some a => cases evA C s i with
      | none => rfl
      | some b => exact indexAddrF_eq _ _ _ _
  · rename_i t x i
    simp only [lookA, ho, F.on_run, evF_eq]
    cases evA C s x with
    | none => rfl
    | some a => cases evA C s i with
      | none => rfl
      | some b => exact indexF_eq _ _ _ _
  · rename_i x i
    simp only [lookA, ho, F.on_run, evF_eq, nthQ_get]
    rfl
  · rename_i c
    split
    · rename_i t x h1 h2 h3
      rw [← arr_nthQ] at h2
      simp only [lookA, ho, h1, h2, h3, evAll, F.on_run, evF_eq]
      cases evA C s x with
      | none => rfl
      | some a => exact lenF_eq _ _ _ _
    · rfl
  · rfl

/-! ### Steps -/
/-- A call's outcome out of its function and arguments. -/
def enterF (C : Cfg) (c : Call) : F (Eng → Slots → AHeap → Option (AV × AHeap)) :=
  match c.callee with
  | .value (.func g) => (evAllF C c.args.toList).on fun f => ⟨fun E s H => Option.rec (motive := fun _ => Option (AV × AHeap)) none (fun args => E.call g args H) (f s)⟩
  | .builtin .append => match c.args.toList with
    | [x, y] => (evF C x).on fun f => (evF C y).on fun g => (appendF C.P c.argTypes).on fun h => ⟨fun _ s H => Option.rec (motive := fun _ => Option (AV × AHeap)) none (fun a => Option.rec (motive := fun _ => Option (AV × AHeap)) none (fun b => h a b H) (g s)) (f s)⟩
    | _ => ⟨fun _ _ _ => none⟩
  | .value v => (evF C v).on fun g => (evAllF C c.args.toList).on fun f => ⟨fun E s H => Option.rec (motive := fun _ => Option (AV × AHeap)) none (fun args => Option.rec (motive := fun _ => Option (AV × AHeap)) none (fun fv =>
      match targetA C fv args H with
      | some (.val v) => some (v, H)
      | some .skip => some (.tuple [], H)
      | some (.enter g as) => E.call g as H
      | some (.round l as) => E.round l as H
      | none => none) (g s)) (f s)⟩
  | _ => ⟨fun E s H => match doA C (evA C s) ⟨none, .call c, 0, "", #[], none⟩ H with
    | some (.val v, H') => some (v, H')
    | some (.skip, H') => some (.tuple [], H')
    | some (.enter f args, H') => E.call f args H'
    | some (.round l args, H') => E.round l args H'
    | none => none⟩

def stepF (C : Cfg) (o : Oper) : F (Eng → Slots → AHeap → Option (AV × AHeap)) :=
  bif looks C.P o then (lookF C o).on fun f => ⟨fun _ s H => Option.rec (motive := fun _ => Option (AV × AHeap)) none (fun v => some (v, H)) (f s H)⟩
  else match o.op with
  | .store t a x => (evF C a).on fun f => (evF C x).on fun g => (storeF C.P t).on fun h => ⟨fun _ s H => match f s with
    | some (.ptr i off) => Option.rec (motive := fun _ => Option (AV × AHeap)) none (fun v => Option.rec (motive := fun _ => Option (AV × AHeap)) none (fun H' => some (.tuple [], H')) (h i off v H)) (g s)
    | _ => none⟩
  | .alloc e => match zeroQ C.P e, cellsInQ C.P e with
    | some z, some n => ⟨fun _ _ H => some (.ptr H.next 0, newQ H (.cells z.cells e 0 n))⟩
    | _, _ => ⟨fun _ _ _ => none⟩
  | .box e x => (evF C x).on fun f => match cellsInQ C.P e with
    | some n => ⟨fun _ s H => Option.rec (motive := fun _ => Option (AV × AHeap)) none (fun v => some (.ptr H.next 0, newQ H (.cells v.cells e 0 n))) (f s)⟩
    | none => ⟨fun _ _ _ => none⟩
  | .buildSlice t n parts => (evPartsF C parts.toList).on fun f => (buildSliceF C.P t n).on fun g => ⟨fun _ s H => Option.rec (motive := fun _ => Option (AV × AHeap)) none (fun ps => g ps H) (f s)⟩
  | .call c => enterF C c
  | _ => ⟨fun E s H => stepA C E o s H⟩
theorem evAll_len (ev : Operand → Option AV) : ∀ xs as, evAll ev xs = some as → as.length = xs.length
  | [], as, h => by simp only [evAll] at h; cases h; rfl
  | x :: xs, as, h => by
    simp only [evAll] at h
    split at h
    · rename_i a as' _ h2; cases h; simp [evAll_len ev xs as' h2]
    · cases h
theorem enterF_eq (C : Cfg) (E : Eng) (o : Oper) (c : Call) (ho : o.op = .call c) (s : Slots) (H : AHeap) : (enterF C c).run E s H = (match doA C (evA C s) o H with
    | some (.val v, H') => some (v, H')
    | some (.skip, H') => some (.tuple [], H')
    | some (.enter f args, H') => E.call f args H'
    | some (.round l args, H') => E.round l args H'
    | none => none) := by
  unfold enterF
  split
  · rename_i g hc
    simp only [doA, ho, hc, F.on_run, evAllF_eq]
    cases evAll (evA C s) c.args.toList with
    | none => rfl
    | some args => simp [evA, targetA]
  · rename_i hc
    simp only [doA, ho, hc]
    split
    · rename_i x y ha
      simp only [F.on_run, evF_eq, ha, evAll, appendF_eq]
      cases evA C s x <;> cases evA C s y <;> simp
      rename_i a b
      cases appendA C.P c.argTypes a b H <;> rfl
    · rename_i ha
      cases h : evAll (evA C s) c.args.toList with
      | none => rfl
      | some args =>
        rcases args with _ | ⟨a, _ | ⟨b, _ | ⟨d, args⟩⟩⟩ <;> try rfl
        exfalso
        have hl := evAll_len _ _ _ h
        rcases hx : c.args.toList with _ | ⟨x, _ | ⟨y, _ | ⟨z, zs⟩⟩⟩
        · rw [hx] at hl; simp at hl
        · rw [hx] at hl; simp at hl
        · exact ha _ _ hx
        · rw [hx] at hl; simp at hl
  · rename_i v _ hc
    simp only [doA, ho, hc, F.on_run, evF_eq, evAllF_eq]
    cases evAll (evA C s) c.args.toList with
    | none => rfl
    | some args =>
      cases hv : evA C s v with
      | none => simp [hv]
      | some fv =>
        simp only [hv, Option.bind_some]
        cases ht : targetA C fv args H with
        | none => simp
        | some n => cases n <;> simp
  · simp only [doA, ho]
theorem stepF_eq (C : Cfg) (E : Eng) (o : Oper) (s : Slots) (H : AHeap) : (stepF C o).run E s H = stepA C E o s H := by
  unfold stepF
  cases hl : looks C.P o with
  | true =>
    simp only [cond_true, stepA, hl, F.on_run, lookF_eq]
    cases lookA C (evA C s) o H <;> rfl
  | false =>
    simp only [cond_false]
    split
    · rename_i t a x ho
      simp only [stepA, hl, cond_false, doA, ho, F.on_run, evF_eq, storeF_eq]
      cases evA C s a with
      | none => rfl
      | some v => cases v <;> cases evA C s x <;> first | rfl | (simp only []; cases storeA C.P t _ _ _ H <;> rfl)
    · rename_i e ho
      simp only [stepA, hl, cond_false, doA, ho, ← zeroQ_eq, ← cellsInQ_eq, newQ_eq]
      cases zeroOf C.P e <;> cases cellsIn C.P e <;> rfl
    · rename_i e x ho
      simp only [stepA, hl, cond_false, doA, ho, F.on_run, evF_eq, ← cellsInQ_eq, newQ_eq]
      cases cellsIn C.P e <;> cases hx : evA C s x <;> simp [hx]
    · rename_i t n parts ho
      simp only [stepA, hl, cond_false, doA, ho, F.on_run, evPartsF_eq]
      cases evParts (evA C s) parts.toList with
      | none => rfl
      | some ps =>
        simp only [buildSliceF_eq]
        cases buildSliceA C.P t n ps H <;> rfl
    · rename_i c ho
      simp only [stepA, hl, cond_false]
      exact enterF_eq C E o c ho s H
    · rfl

def putActF : Option Tmp → F (AAct → AV → Option AAct)
  | none => ⟨fun a _ => some a⟩
  | some d => (putF d).on fun p => ⟨fun a v => AAct.rec (motive := fun _ => Option AAct) (fun s n m => Bool.rec (motive := fun _ => Option AAct) none (some ⟨p s v, n, m⟩) (Nat.ble (Nat.succ d) n)) a⟩
theorem putActF_eq (dst : Option Tmp) (a : AAct) (v : AV) : (putActF dst).run a v = a.put dst v := by
  cases dst with
  | none => rfl
  | some d =>
    obtain ⟨s, n, m⟩ := a
    simp only [putActF, AAct.put, F.on_run, putF_eq, Nat.blt, Nat.succ_eq_add_one]
    cases Nat.ble (d + 1) n <;> rfl

/-- Is the operation wanted? -/
def guardF (ops : Array Oper) (o : Oper) : F (Slots → Option Bool) :=
  match o.guard with
  | none => ⟨fun _ => some true⟩
  | some (j, want) => match (nthQ ops.toList j).bind (·.dst) with
    | none => ⟨fun _ => some false⟩
    | some d => (getF d).on fun f => ⟨fun s => match f s with
      | some (.bool b) => some (b == want)
      | some .opq => none
      | some _ => some false
      | none => none⟩
theorem guardF_eq (ops : Array Oper) (s : Slots) (o : Oper) : (guardF ops o).run s = wantedA ops s o := by
  unfold guardF wantedA
  simp only [← arr_nthQ]
  cases o.guard with
  | none => rfl
  | some p =>
    obtain ⟨j, want⟩ := p
    simp only []
    cases (ops[j]?).bind (·.dst) with
    | none => rfl
    | some d => simp only [F.on_run, getF_eq]; rfl

/-- An operation, and what goes on behind it. -/
def opK (C : Cfg) (ops : Array Oper) (o : Oper) (k : Eng → AAct → AHeap → Option (AAct × AHeap)) : F (Eng → AAct → AHeap → Option (AAct × AHeap)) :=
  match o.guard with
  | none => bif looks C.P o then
      (lookF C o).on fun f => (putActF o.dst).on fun p => ⟨fun E a H =>
        Option.rec (motive := fun _ => Option (AAct × AHeap)) none (fun v => Option.rec (motive := fun _ => Option (AAct × AHeap)) none (fun a' => k E a' H) (p a v)) (f a.slots H)⟩
    else
      (stepF C o).on fun f => (putActF o.dst).on fun p => ⟨fun E a H =>
        Option.rec (motive := fun _ => Option (AAct × AHeap)) none (fun x => Prod.rec (motive := fun _ => Option (AAct × AHeap)) (fun v H' => Option.rec (motive := fun _ => Option (AAct × AHeap)) none (fun a' => k E a' H') (p a v)) x) (f E a.slots H)⟩
  | some _ => (guardF ops o).on fun g => (stepF C o).on fun f => (putActF o.dst).on fun p => ⟨fun E a H =>
      Option.rec (motive := fun _ => Option (AAct × AHeap)) none (fun b => Bool.rec (motive := fun _ => Option (AAct × AHeap))
        (Option.rec (motive := fun _ => Option (AAct × AHeap)) none (fun a' => k E a' H) (p a (.tuple [])))
        (Option.rec (motive := fun _ => Option (AAct × AHeap)) none (fun x => Prod.rec (motive := fun _ => Option (AAct × AHeap)) (fun v H' => Option.rec (motive := fun _ => Option (AAct × AHeap)) none (fun a' => k E a' H') (p a v)) x) (f E a.slots H)) b) (g a.slots)⟩
theorem opK_eq (C : Cfg) (E : Eng) (ops : Array Oper) (o : Oper) (k : Eng → AAct → AHeap → Option (AAct × AHeap)) (a : AAct) (H : AHeap) : (opK C ops o k).run E a H = (match opA C E ops o a H with
    | some (a', H') => k E a' H'
    | none => none) := by
  unfold opK
  split
  · rename_i hg
    have hw : wantedA ops a.slots o = some true := by simp only [wantedA, hg]
    simp only [opA, hw]
    cases hl : looks C.P o with
    | true =>
      simp only [cond_true, F.on_run, lookF_eq, putActF_eq, stepA, hl]
      cases lookA C (evA C a.slots) o H with
      | none => rfl
      | some v =>
        simp only []
        cases a.put o.dst v <;> rfl
    | false =>
      simp only [cond_false, F.on_run, stepF_eq, putActF_eq]
      cases stepA C E o a.slots H with
      | none => rfl
      | some x =>
        obtain ⟨v, H'⟩ := x
        simp only []
        cases a.put o.dst v <;> rfl
  · simp only [opA, F.on_run, guardF_eq, stepF_eq, putActF_eq]
    cases wantedA ops a.slots o with
    | none => rfl
    | some b =>
      cases b with
      | false => simp only []; cases a.put o.dst (.tuple []) <;> rfl
      | true =>
        simp only []
        cases stepA C E o a.slots H with
        | none => rfl
        | some x =>
          obtain ⟨v, H'⟩ := x
          simp only []
          cases a.put o.dst v <;> rfl

def opsF (C : Cfg) (ops : Array Oper) : List Oper → F (Eng → AAct → AHeap → Option (AAct × AHeap))
  | [] => ⟨fun _ a H => some (a, H)⟩
  | o :: rest => (opsF C ops rest).on fun k => opK C ops o k
theorem opsF_eq (C : Cfg) (E : Eng) (ops : Array Oper) : ∀ (l : List Oper) (a : AAct) (H : AHeap), (opsF C ops l).run E a H = opsA C E ops l a H
  | [], _, _ => rfl
  | o :: rest, a, H => by
    simp only [opsF, opsA, F.on_run, opK_eq]
    cases opA C E ops o a H with
    | none => rfl
    | some x => exact opsF_eq C E ops rest x.1 x.2

/-- An operation with its value. -/
def opVF (C : Cfg) (ops : Array Oper) (o : Oper) : F (Eng → AAct → AHeap → Option (AAct × AHeap × AV)) :=
  (guardF ops o).on fun g => (stepF C o).on fun f => (putActF o.dst).on fun p => ⟨fun E a H => match g a.slots with
    | some true => (match f E a.slots H with
      | some (v, H') => match p a v with
        | some a' => some (a', H', v)
        | none => none
      | none => none)
    | some false => (match p a (.tuple []) with
      | some a' => some (a', H, .tuple [])
      | none => none)
    | none => none⟩
theorem opVF_eq (C : Cfg) (E : Eng) (ops : Array Oper) (o : Oper) (a : AAct) (H : AHeap) : (opVF C ops o).run E a H = opV C E ops o a H := by
  unfold opVF opV
  simp only [F.on_run, guardF_eq, stepF_eq, putActF_eq]
  rfl
def traceF (C : Cfg) (ops : Array Oper) : List Oper → F (Eng → AAct → AHeap → Option (List (AAct × AHeap × AV)))
  | [] => ⟨fun _ _ _ => some []⟩
  | o :: rest => (traceF C ops rest).on fun k => (opVF C ops o).on fun f => ⟨fun E a H => match f E a H with
    | some (a', H', v) => match k E a' H' with
      | some tr => some ((a', H', v) :: tr)
      | none => none
    | none => none⟩
theorem traceF_eq (C : Cfg) (E : Eng) (ops : Array Oper) : ∀ (l : List Oper) (a : AAct) (H : AHeap), (traceF C ops l).run E a H = traceA C E ops l a H
  | [], _, _ => rfl
  | o :: rest, a, H => by
    simp only [traceF, traceA, F.on_run, opVF_eq, traceF_eq C E ops rest]
    rfl


/-! ### The orders of a drawn region, quick -/
def tbQ (m k : Nat) : Bool := Bool.rec (motive := fun _ => Bool) true false (Nat.beq (Nat.land 1 (Nat.shiftRight m k)) 0)
theorem tbQ_eq (m k : Nat) : tbQ m k = m.testBit k := by
  unfold tbQ Nat.testBit
  show _ = (Nat.land 1 (Nat.shiftRight m k) != 0)
  cases h : Nat.beq (Nat.land 1 (Nat.shiftRight m k)) 0 with
  | true => have := Nat.eq_of_beq_eq_true h; rw [this]; rfl
  | false =>
    have := Nat.ne_of_beq_eq_false h
    exact (bne_iff_ne.2 this).symm
def allQ {α : Type} (f : α → Bool) (l : List α) : Bool := List.rec (motive := fun _ => Bool) true (fun x _ ih => Bool.rec (motive := fun _ => Bool) false ih (f x)) l
theorem allQ_eq {α : Type} (f : α → Bool) : ∀ l : List α, allQ f l = l.all f
  | [] => rfl
  | x :: l => by
    show Bool.rec (motive := fun _ => Bool) false (allQ f l) (f x) = _
    rw [allQ_eq f l]
    cases h : f x <;> simp [h]
def bitQ (ms : List Nat) (i k : Nat) : Bool := Option.rec (motive := fun _ => Bool) false (fun m => tbQ m k) (nthQ ms i)
theorem bitQ_eq (ms : List Nat) (i k : Nat) : bitQ ms i k = bit ms i k := by
  unfold bitQ bit
  rw [nthQ_nth]
  cases nth ms i with
  | none => rfl
  | some m => exact tbQ_eq m k
def masksQ (ops : List Oper) : List Nat :=
  ops.foldl (fun acc o => acc ++ [o.after.toList.foldl (fun s e => bif Region.binds .any e then Nat.lor (Nat.lor s (Nat.pow 2 e.on)) (Option.rec (motive := fun _ => Nat) 0 (fun m => m) (nthQ acc e.on)) else s) 0]) []
theorem masksQ_eq (ops : List Oper) : masksQ ops = masks ops := by
  unfold masksQ masks
  congr 1
  funext acc o
  congr 3
  funext s e
  rw [nthQ_nth]
  cases nth acc e.on <;> rfl
def readsQ (ts : List Tmp) : Nat := List.rec (motive := fun _ => Nat) 0 (fun t _ ih => Nat.lor ih (Nat.pow 2 t)) ts
theorem readsQ_eq (d : Nat) : ∀ ts : List Tmp, tbQ (readsQ ts) d = ts.any (Nat.beq d)
  | [] => by rw [tbQ_eq]; simp [readsQ]
  | t :: ts => by
    rw [tbQ_eq]
    have ih := readsQ_eq d ts
    rw [tbQ_eq] at ih
    show Nat.testBit (readsQ ts ||| 2 ^ t) d = _
    rw [Nat.testBit_or, ih, Nat.testBit_two_pow, List.any_cons, Bool.or_comm]
    congr 1
    cases h : Nat.beq d t with
    | true => have := Nat.eq_of_beq_eq_true h; simp [this]
    | false => have := Nat.ne_of_beq_eq_false h; simp; omega
/-- What is asked of an operation: its slot (and one; nought: none), the slots that it reads, for whom it waits, its number. -/
structure PQ where
  dst : Nat
  reads : Nat
  wait : Nat
  ix : Nat
def preQ (ops : Array Oper) (ms : List Nat) (p : Oper × Nat) : PQ :=
  ⟨Option.rec (motive := fun _ => Nat) 0 (fun d => Nat.succ d) p.1.dst, readsQ (operTmps ops p.1), Option.rec (motive := fun _ => Nat) 0 (fun m => m) (nthQ ms p.2), p.2⟩
theorem wait_bit (ms : List Nat) (i k : Nat) : tbQ (Option.rec (motive := fun _ => Nat) 0 (fun m => m) (nthQ ms i)) k = bit ms i k := by
  rw [← bitQ_eq]
  unfold bitQ
  cases nthQ ms i with
  | none => rw [tbQ_eq]; exact Nat.zero_testBit k
  | some m => rfl
def slotsOkQ (L : List PQ) : Bool :=
  allQ (fun q => PQ.rec (motive := fun _ => Bool) (fun qd _ qw qi => Nat.rec (motive := fun _ => Bool) true (fun d _ =>
    allQ (fun p => PQ.rec (motive := fun _ => Bool) (fun pd pr pw pi =>
      Bool.rec (motive := fun _ => Bool) false
        (Bool.rec (motive := fun _ => Bool) true (Bool.rec (motive := fun _ => Bool) (tbQ qw pi) true (tbQ pw qi)) (tbQ pr d))
        (Bool.rec (motive := fun _ => Bool) (Bool.rec (motive := fun _ => Bool) true false (Nat.beq (Nat.succ d) pd)) true (Nat.beq pi qi))) p) L) qd) q) L
theorem all_swap {α : Type} (l : List α) (f : α → α → Bool) : (l.all fun p => l.all fun q => f p q) = l.all fun q => l.all fun p => f p q := by
  rw [Bool.eq_iff_iff]
  simp only [List.all_eq_true]
  exact ⟨fun h q hq p hp => h p hp q hq, fun h p hp q hq => h q hq p hp⟩
theorem slotsOkQ_eq (ops : Array Oper) (ms : List Nat) (l : List (Oper × Nat)) : slotsOkQ (l.map (preQ ops ms)) = (l.all fun p => l.all fun q =>
    match q.1.dst with
    | none => true
    | some d => (Nat.beq p.2 q.2 || (match p.1.dst with | some d' => !(Nat.beq d d') | none => true)) && (!((operTmps ops p.1).any (Nat.beq d)) || bit ms p.2 q.2 || bit ms q.2 p.2)) := by
  rw [all_swap]
  unfold slotsOkQ
  rw [allQ_eq, List.all_map]
  congr 1
  funext q
  obtain ⟨qo, qi⟩ := q
  simp only [Function.comp, preQ]
  cases qo.dst with
  | none =>
    show true = l.all fun p => true
    simp
  | some d =>
    simp only []
    rw [allQ_eq, List.all_map]
    congr 1
    funext p
    obtain ⟨po, pi⟩ := p
    simp only [Function.comp, preQ, wait_bit, readsQ_eq]
    have hd : (match po.dst with | some d' => !(Nat.beq d d') | none => true) = !(Nat.beq (Nat.succ d) (Option.rec (motive := fun _ => Nat) 0 (fun d => Nat.succ d) po.dst)) := by
      cases po.dst <;> rfl
    rw [hd]
    cases Nat.beq pi qi <;> cases Nat.beq (Nat.succ d) (Option.rec (motive := fun _ => Nat) 0 (fun d => Nat.succ d) po.dst) <;> cases (operTmps ops po).any (Nat.beq d) <;> cases bit ms pi qi <;> cases bit ms qi pi <;> rfl
def floatsAt (l : List Oper) (q : Nat) : Bool := match nthQ l q with | some o => floats o | none => false
def drawOkQ (ops : Array Oper) (l : List Oper) (ms ds : List Nat) : Bool :=
  (allQ (fun p => allQ (fun e => !(Region.binds .any e) || Nat.ble (Nat.succ e.on) p.2) p.1.after.toList) l.zipIdx) &&
  (allQ (fun q => floatsAt l q || allQ (fun p => Nat.ble q p || bitQ ms q p) ds) ds) &&
  (allQ (fun q => !(floatsAt l q) || allQ (fun x => !(bitQ ms x.2 q) || allQ (fun p => Nat.ble q p || bitQ ms x.2 p) ds) l.zipIdx) ds) &&
  slotsOkQ (l.zipIdx.map (preQ ops ms))
theorem drawOkQ_eq (ops : Array Oper) (l : List Oper) (ms ds : List Nat) : drawOkQ ops l ms ds = drawOk ops l ms ds := by
  unfold drawOkQ drawOk
  rw [slotsOkQ_eq]
  simp only [allQ_eq, bitQ_eq, floatsAt, nthQ_nth]
  rfl
def pairsQ (P : Program) (ops : Array Oper) : Option (List (Nat × Nat)) :=
  let l := ops.toList
  let ms := masksQ l
  let ds := deeds P l 0
  bif drawOkQ ops l ms ds then
    some (l.zipIdx.flatMap fun p => bif looks P p.1 then
      ((l.length :: ds).filter fun t => !(bitQ ms p.2 t) && allQ (fun d => Nat.ble t d || !(bitQ ms d p.2)) ds && !(Nat.ble p.2 t && allQ (fun d => Nat.ble (Nat.succ d) p.2 || Nat.ble t d) ds)).map fun t => (p.2, t)
      else [])
  else none
theorem pairsQ_eq (P : Program) (ops : Array Oper) : pairsQ P ops = pairsOf P ops := by
  unfold pairsQ pairsOf
  simp only [masksQ_eq, drawOkQ_eq, bitQ_eq, allQ_eq]
  rfl

/-! ### Looked at again, quick -/
def eqQ (x y : AV) : Bool :=
  match x, y with
  | .int k a, .int k' b => eqK k k' && eqA a b
  | .ptr i o, .ptr j p => Nat.beq i j && Nat.beq o p
  | x, y => eqAV 12 x y
theorem eqA_dec (a b : Int) : eqA a b = decide (a = b) := by
  cases a <;> cases b <;> simp [eqA]
  all_goals
    rename_i m n
    cases h : Nat.beq m n with
    | true => have := Nat.eq_of_beq_eq_true h; simp [this]
    | false => have := Nat.ne_of_beq_eq_false h; simp; omega
theorem eqQ_eq (x y : AV) : eqQ x y = eqAV 12 x y := by
  cases x <;> cases y <;> first | rfl | (simp only [eqQ, eqAV, eqK_eq, eqA_dec])
def stQ (a : AAct) (H : AHeap) (tr : List (AAct × AHeap × AV)) (i : Nat) : AAct × AHeap :=
  Nat.rec (motive := fun _ => AAct × AHeap) (a, H) (fun j _ => Option.rec (motive := fun _ => AAct × AHeap) (a, H) (fun x => (x.1, x.2.1)) (nthQ tr j)) i
theorem stQ_eq (a : AAct) (H : AHeap) (tr : List (AAct × AHeap × AV)) (i : Nat) : stQ a H tr i = stateAt a H tr i := by
  cases i with
  | zero => rfl
  | succ i =>
    show Option.rec (motive := fun _ => AAct × AHeap) (a, H) (fun x => (x.1, x.2.1)) (nthQ tr i) = (match nth tr i with
      | some (a', H', _) => (a', H')
      | none => (a, H))
    rw [nthQ_nth]
    cases nth tr i <;> rfl
def valQ (tr : List (AAct × AHeap × AV)) (i : Nat) : AV := Option.rec (motive := fun _ => AV) .nilPtr (fun x => x.2.2) (nthQ tr i)
theorem valQ_eq (tr : List (AAct × AHeap × AV)) (i : Nat) : valQ tr i = valAt tr i := by
  unfold valQ valAt
  rw [nthQ_nth]
  cases nth tr i <;> rfl
/-- One operation, looked at again at another turn. -/
def againF (C : Cfg) (ops : Array Oper) (l : List Oper) (p t : Nat) : F (AAct → AHeap → List (AAct × AHeap × AV) → Bool) :=
  match nthQ l p with
  | none => ⟨fun _ _ _ => true⟩
  | some o => (guardF ops o).on fun g => (lookF C o).on fun f => ⟨fun a H tr => match g (stQ a H tr p).1.slots with
    | some true => (match f (stQ a H tr p).1.slots (stQ a H tr t).2 with
      | some u => eqQ u (valQ tr p)
      | none => false)
    | some false => true
    | none => false⟩
theorem againF_eq (C : Cfg) (ops : Array Oper) (l : List Oper) (a : AAct) (H : AHeap) (tr : List (AAct × AHeap × AV)) (p t : Nat) : (againF C ops l p t).run a H tr = sameAt C ops l a H tr p t := by
  unfold againF sameAt
  rw [nthQ_nth]
  cases nth l p with
  | none => rfl
  | some o =>
    simp only [F.on_run, guardF_eq, lookF_eq, stQ_eq, valQ_eq, eqQ_eq]
    rfl
def againsF (C : Cfg) (ops : Array Oper) (l : List Oper) : List (Nat × Nat) → F (AAct → AHeap → List (AAct × AHeap × AV) → Bool)
  | [] => ⟨fun _ _ _ => true⟩
  | x :: xs => (againsF C ops l xs).on fun g => (againF C ops l x.1 x.2).on fun f => ⟨fun a H tr => Bool.rec (motive := fun _ => Bool) false (g a H tr) (f a H tr)⟩
theorem againsF_eq (C : Cfg) (ops : Array Oper) (l : List Oper) (a : AAct) (H : AHeap) (tr : List (AAct × AHeap × AV)) : ∀ ps, (againsF C ops l ps).run a H tr = ps.all fun x => sameAt C ops l a H tr x.1 x.2
  | [] => rfl
  | x :: xs => by
    simp only [againsF, F.on_run, againF_eq, againsF_eq C ops l a H tr xs, List.all_cons]
    cases sameAt C ops l a H tr x.1 x.2 <;> simp

def drawnF (C : Cfg) (ops : Array Oper) : List (Nat × Nat) → F (Eng → AAct → AHeap → Option (AAct × AHeap))
  | [] => opsF C ops ops.toList
  | ps => (traceF C ops ops.toList).on fun f => (againsF C ops ops.toList ps).on fun g => ⟨fun E a H => match f E a H with
      | some tr => Bool.rec (motive := fun _ => Option (AAct × AHeap)) none (some (stQ a H tr ops.toList.length)) (g a H tr)
      | none => none⟩
def regionF (C : Cfg) (ops : Array Oper) (draw : Bool) : F (Eng → AAct → AHeap → Option (AAct × AHeap)) :=
  bif !draw then opsF C ops ops.toList
  else match pairsQ C.P ops with
    | some ps => drawnF C ops ps
    | none => match lateOf (pairsQ C.P) C.P ops with
      | none => ⟨fun _ _ _ => none⟩
      | some ops' => match pairsQ C.P ops' with
        | some ps => drawnF C ops' ps
        | none => ⟨fun _ _ _ => none⟩
theorem traceA_len (C : Cfg) (E : Eng) (ops : Array Oper) : ∀ (l : List Oper) (a : AAct) (H : AHeap) (tr : List (AAct × AHeap × AV)), traceA C E ops l a H = some tr → tr.length = l.length
  | [], _, _, tr, h => by simp only [traceA] at h; cases h; rfl
  | o :: rest, a, H, tr, h => by
    simp only [traceA] at h
    split at h
    · rename_i a' H' v _
      split at h
      · rename_i tr' h2; cases h; simp [traceA_len C E ops rest a' H' tr' h2]
      · cases h
    · cases h
theorem trace_ops (C : Cfg) (E : Eng) (ops : Array Oper) : ∀ (l : List Oper) (a : AAct) (H : AHeap), opsA C E ops l a H = (match traceA C E ops l a H with
    | some tr => some (stateAt a H tr l.length)
    | none => none)
  | [], a, H => rfl
  | o :: rest, a, H => by
    simp only [opsA, traceA]
    have hv : opA C E ops o a H = (opV C E ops o a H).map fun x => (x.1, x.2.1) := by
      unfold opA opV
      cases wantedA ops a.slots o with
      | none => rfl
      | some b =>
        cases b with
        | false => simp only []; cases a.put o.dst (.tuple []) <;> rfl
        | true =>
          simp only []
          cases stepA C E o a.slots H with
          | none => rfl
          | some x => obtain ⟨v, H'⟩ := x; simp only []; cases a.put o.dst v <;> rfl
    rw [hv]
    cases opV C E ops o a H with
    | none => rfl
    | some x =>
      obtain ⟨a', H', v⟩ := x
      simp only [Option.map_some]
      rw [trace_ops C E ops rest a' H']
      cases ht : traceA C E ops rest a' H' with
      | none => rfl
      | some tr =>
        have hl := traceA_len C E ops rest a' H' tr ht
        simp only [List.length_cons]
        cases rest with
        | nil => rfl
        | cons o' rest =>
          have hlt : rest.length < tr.length := by simp at hl; omega
          simp only [List.length_cons, stateAt, nth_get, List.getElem?_cons_succ]
          rw [List.getElem?_eq_getElem hlt]
theorem drawnF_eq (C : Cfg) (E : Eng) (ops : Array Oper) (ps : List (Nat × Nat)) (a : AAct) (H : AHeap) : (drawnF C ops ps).run E a H = drawnA C E ops ps a H := by
  unfold drawnF drawnA
  cases ps with
  | nil =>
    simp only [opsF_eq, trace_ops, List.all_nil, cond_true]
    rfl
  | cons p ps =>
    simp only [F.on_run, traceF_eq, againsF_eq, stQ_eq]
    cases traceA C E ops ops.toList a H with
    | none => rfl
    | some tr =>
      simp only []
      cases ((p :: ps).all fun x => sameAt C ops ops.toList a H tr x.1 x.2) <;> rfl
theorem regionF_eq (C : Cfg) (E : Eng) (ops : Array Oper) (draw : Bool) (a : AAct) (H : AHeap) : (regionF C ops draw).run E a H = regionA C E ops draw a H := by
  unfold regionF regionA
  have hp : pairsQ C.P = pairsOf C.P := funext fun ops => pairsQ_eq C.P ops
  rw [hp]
  cases draw with
  | false => exact opsF_eq C E ops _ a H
  | true =>
    simp only [Bool.not_true, cond_false]
    cases pairsOf C.P ops with
    | some ps => exact drawnF_eq C E ops ps a H
    | none =>
      simp only []
      cases lateOf (pairsOf C.P) C.P ops with
      | none => rfl
      | some ops' =>
        simp only []
        cases pairsOf C.P ops' with
        | none => rfl
        | some ps => exact drawnF_eq C E ops' ps a H

/-! ### Code -/
abbrev CodeR : Type := Eng → Option Nat → AAct → AHeap → Option (AExit × AAct × AHeap)
def regK (f : Eng → AAct → AHeap → Option (AAct × AHeap)) : F CodeR :=
  ⟨fun E _ a H => Option.rec (motive := fun _ => Option (AExit × AAct × AHeap)) none (fun q => some (.normal, q)) (f E a H)⟩
def seqK (f g : CodeR) : F CodeR := ⟨fun E ar a H =>
  Option.rec (motive := fun _ => Option (AExit × AAct × AHeap)) none (fun p => Prod.rec (motive := fun _ => Option (AExit × AAct × AHeap)) (fun e q =>
    AExit.rec (motive := fun _ => Option (AExit × AAct × AHeap)) (Prod.rec (motive := fun _ => Option (AExit × AAct × AHeap)) (fun a' H' => g E ar a' H') q) (fun id => some (.exit id, q)) (some (.ret, q)) e) p) (f E ar a H)⟩
def condK (v : Slots → Option AV) (f g : CodeR) : F CodeR := ⟨fun E ar a H => match v a.slots with
  | some (.bool b) => Bool.rec (motive := fun _ => Option (AExit × AAct × AHeap)) (g E ar a H) (f E ar a H) b
  | _ => none⟩
def blockK (id : Nat) (f : CodeR) : F CodeR := ⟨fun E ar a H =>
  Option.rec (motive := fun _ => Option (AExit × AAct × AHeap)) none (fun p => Prod.rec (motive := fun _ => Option (AExit × AAct × AHeap)) (fun e q =>
    AExit.rec (motive := fun _ => Option (AExit × AAct × AHeap)) (some (.normal, q)) (fun id' => bif Nat.beq id' id then some (.normal, q) else some (.exit id', q)) (some (.ret, q)) e) p) (f E ar a H)⟩
def loopK (c : Code) (f : CodeR) : F CodeR := ⟨fun E ar a H =>
  Option.rec (motive := fun _ => Option (AExit × AAct × AHeap)) none (fun p => Prod.rec (motive := fun _ => Option (AExit × AAct × AHeap)) (fun e q =>
    AExit.rec (motive := fun _ => Option (AExit × AAct × AHeap)) (Prod.rec (motive := fun _ => Option (AExit × AAct × AHeap)) (fun a' H' => E.loop ar c a' H') q) (fun id => some (.exit id, q)) (some (.ret, q)) e) p) (f E ar a H)⟩
def codeF (C : Cfg) (c : Code) : F CodeR :=
  Code.rec (motive := fun _ => F CodeR)
    ⟨fun _ _ a H => some (.normal, a, H)⟩
    (fun _ ops draw => (regionF C ops draw).on regK)
    (fun _ _ x y => x.on fun f => y.on fun g => seqK f g)
    (fun c _ _ x y => (evF C c).on fun v => x.on fun f => y.on fun g => condK v f g)
    (fun id _ x => x.on fun f => blockK id f)
    (fun c x => x.on fun f => loopK c f)
    (fun f params assign body _ _ => ⟨fun E ar a H => codeA C E ar (.rangeFunc f params assign body) a H⟩)
    (fun id => ⟨fun _ _ a H => some (.exit id, a, H)⟩)
    (fun _ _ => ⟨fun _ _ _ _ => none⟩)
    (fun _ => ⟨fun _ _ a H => some (.normal, a, H)⟩)
    (fun _ => ⟨fun _ _ _ _ => none⟩)
    ⟨fun _ _ a H => some (.ret, a, H)⟩
    (fun _ => ⟨fun _ _ _ _ => none⟩) c
theorem codeF_region (C : Cfg) (id : Nat) (ops : Array Oper) (draw : Bool) : codeF C (.region id ops draw) = (regionF C ops draw).on regK := rfl
theorem codeF_seq (C : Cfg) (x y : Code) : codeF C (.seq x y) = (codeF C x).on fun f => (codeF C y).on fun g => seqK f g := rfl
theorem codeF_cond (C : Cfg) (c : Operand) (x y : Code) : codeF C (.cond c x y) = (evF C c).on fun v => (codeF C x).on fun f => (codeF C y).on fun g => condK v f g := rfl
theorem codeF_block (C : Cfg) (id : Nat) (x : Code) : codeF C (.block id x) = (codeF C x).on fun f => blockK id f := rfl
theorem codeF_loop (C : Cfg) (x : Code) : codeF C (.loop x) = (codeF C x).on fun f => loopK x f := rfl
theorem codeF_eq (C : Cfg) (E : Eng) (ar : Option Nat) : ∀ (c : Code) (a : AAct) (H : AHeap), (codeF C c).run E ar a H = codeA C E ar c a H := by
  intro c
  induction c with
  | skip => intro a H; rfl
  | region id ops draw =>
    intro a H
    simp only [codeF_region, F.on_run, codeA, regK, regionF_eq]
    cases regionA C E ops draw a H <;> rfl
  | seq x y hx hy =>
    intro a H
    simp only [codeF_seq, F.on_run, codeA, seqK, hx]
    cases codeA C E ar x a H with
    | none => rfl
    | some p =>
      obtain ⟨e, a', H'⟩ := p
      cases e with
      | normal => exact hy a' H'
      | exit id => rfl
      | ret => rfl
  | cond c x y hx hy =>
    intro a H
    simp only [codeF_cond, F.on_run, codeA, condK, hx, hy, evF_eq]
    cases evA C a.slots c with
    | none => rfl
    | some v =>
      cases v <;> try rfl
      rename_i b
      cases b <;> rfl
  | block id x hx =>
    intro a H
    simp only [codeF_block, F.on_run, codeA, blockK, hx]
    cases codeA C E ar x a H with
    | none => rfl
    | some p =>
      obtain ⟨e, a', H'⟩ := p
      cases e <;> rfl
  | loop x hx =>
    intro a H
    simp only [codeF_loop, F.on_run, codeA, loopK, hx]
    cases codeA C E ar x a H with
    | none => rfl
    | some p =>
      obtain ⟨e, a', H'⟩ := p
      cases e <;> rfl
  | rangeFunc f params assign body _ _ => intro a H; rfl
  | exit id => intro a H; rfl
  | scope x _ => intro a H; rfl
  | label l => intro a H; rfl
  | goto l => intro a H; rfl
  | ret => intro a H; rfl
  | refuse s => intro a H; rfl

/-! ### Calls -/
def resF (C : Cfg) : List ResultVar → F (Slots → AHeap → Option (List AV))
  | [] => ⟨fun _ _ => some []⟩
  | .tmp t :: rest => (getF t).on fun f => (resF C rest).on fun g => ⟨fun s H => Option.rec (motive := fun _ => Option (List AV)) none (fun v => Option.rec (motive := fun _ => Option (List AV)) none (fun vs => some (v :: vs)) (g s H)) (f s)⟩
  | .cell t ty :: rest => (getF t).on fun f => (loadF C.P ty).on fun l => (resF C rest).on fun g => ⟨fun s H => match f s with
    | some (.ptr i o) => Option.rec (motive := fun _ => Option (List AV)) none (fun vs => Option.rec (motive := fun _ => Option (List AV)) none (fun v => some (v :: vs)) (l i o H)) (g s H)
    | _ => none⟩
theorem resF_eq (C : Cfg) (s : Slots) (H : AHeap) : ∀ l, (resF C l).run s H = resultsA C s H l
  | [] => rfl
  | .tmp t :: rest => by
    simp only [resF, resultsA, F.on_run, getF_eq, resF_eq C s H rest]
    cases s.get t <;> cases resultsA C s H rest <;> rfl
  | .cell t ty :: rest => by
    simp only [resF, resultsA, F.on_run, getF_eq, loadF_eq, resF_eq C s H rest]
    cases s.get t with
    | none => rfl
    | some v => cases v <;> try rfl
                cases resultsA C s H rest with
                | none => rfl
                | some vs => simp only []; cases loadA C.P ty _ _ H <;> rfl

def putAllF (s : Slots) (i : Nat) (as : List AV) : Slots :=
  List.rec (motive := fun _ => Nat → Slots → Slots) (fun _ s => s) (fun v _ ih i s => ih (Nat.succ i) ((putF i).run s v)) as i s
theorem putAllF_eq : ∀ (as : List AV) (s : Slots) (i : Nat), putAllF s i as = putAll s i as
  | [], _, _ => rfl
  | v :: vs, s, i => by
    show putAllF ((putF i).run s v) (i + 1) vs = putAll (s.put i v) (i + 1) vs
    rw [putF_eq, putAllF_eq vs]

def bodyF (C : Cfg) (f : FuncId) : F (Eng → List AV → AHeap → Option (AV × AHeap)) :=
  match nthQ C.P.funcs.toList f with
  | none => ⟨fun _ _ _ => none⟩
  | some fn => bif fn.name == "runtime.NumGoroutine" then ⟨fun _ _ _ => none⟩ else match fn.body with
    | none => ⟨fun _ _ _ => none⟩
    | some c => (codeF C c).on fun body => (resF C fn.results.toList).on fun res => ⟨fun E args H =>
      match body E none ⟨putAllF Slots.empty 0 args, bif Nat.ble fn.ntmps args.length then args.length else fn.ntmps, []⟩ H with
        | some (.normal, a, H') | some (.ret, a, H') =>
          match leaveA a.marks H' with
          | some H'' => match res a.slots H'' with
            | some vs => some (oneOr vs, H'')
            | none => none
          | none => none
        | _ => none⟩
def callF (C : Cfg) (f : FuncId) : F (Eng → List AV → AHeap → Option (AV × AHeap)) :=
  (bodyF C f).on fun g => ⟨fun E args H => match C.known f args H with
    | some r => some r
    | none => g E args H⟩
theorem callF_eq (C : Cfg) (E : Eng) (f : FuncId) (args : List AV) (H : AHeap) : (callF C f).run E args H = callA C E f args H := by
  unfold callF callA bodyF
  simp only [F.on_run]
  cases C.known f args H with
  | some r => rfl
  | none =>
    simp only []
    unfold bodied
    rw [← arr_nthQ]
    cases C.P.funcs[f]? with
    | none => rfl
    | some fn =>
      simp only []
      cases fn.name == "runtime.NumGoroutine" with
      | true => rfl
      | false =>
        cases fn.body with
        | none => rfl
        | some c =>
          simp only [Bool.not_false, Option.isSome_some, Bool.and_self, Bool.not_true, cond_false, codeF_eq, resF_eq, putAllF_eq]
          rfl

def roundF (C : Cfg) (E : Eng) (l : Nat) (args : List AV) (H : AHeap) : Option (AV × AHeap) :=
  match H.get l with
  | some ⟨.loop _ _ tmps n params assign body _, _⟩ =>
    match putParams n tmps params.toList args with
    | none => none
    | some s => match (codeF C assign).run E (some l) ⟨s, n, []⟩ H with
      | some (.normal, ⟨s1, n1, []⟩, H1) => match H1.get l with
        | some ⟨.loop .ready p1 t1 m1 ps1 as1 b1 d1, _⟩ =>
          match (codeF C body).run E (some l) ⟨s1, n1, []⟩ (H1.set l (.loop .busy p1 t1 m1 ps1 as1 b1 d1)) with
          | some (x, _, H2) => match H2.get l with
            | some ⟨.loop _ _ t2 m2 ps2 as2 b2 d2, _⟩ => match x with
              | .normal => some (.bool true, H2.set l (.loop .ready none t2 m2 ps2 as2 b2 d2))
              | .ret => some (.bool false, H2.set l (.loop .done (some .ret) t2 m2 ps2 as2 b2 d2))
              | .exit id => some (.bool false, H2.set l (.loop .done (some (.exit id)) t2 m2 ps2 as2 b2 d2))
            | _ => none
          | none => none
        | _ => none
      | _ => none
  | _ => none
theorem roundF_eq (C : Cfg) (E : Eng) (l : Nat) (args : List AV) (H : AHeap) : roundF C E l args H = roundA C E l args H := by
  unfold roundF roundA
  simp only [codeF_eq]
  rfl

def engStepF (C : Cfg) (E : Eng) : Eng :=
  ⟨fun f args H => (callF C f).run E args H, roundF C E, fun ar x a H => (codeF C (.loop x)).run E ar a H⟩
theorem engStepF_eq (C : Cfg) (E : Eng) : engStepF C E = engStep C E := by
  unfold engStepF engStep
  congr 1
  · funext f args H; exact callF_eq C E f args H
  · funext l args H; exact roundF_eq C E l args H
  · funext ar x a H; exact codeF_eq C E ar (.loop x) a H
def engF (C : Cfg) (n : Nat) : Eng := Nat.rec (motive := fun _ => Eng) eng0 (fun _ E => engStepF C E) n
theorem engF_eq (C : Cfg) : ∀ n, engF C n = eng C n
  | 0 => rfl
  | n + 1 => by
    show engStepF C (engF C n) = engStep C (eng C n)
    rw [engF_eq C n, engStepF_eq]

/-- A call, quick. -/
def runF (C : Cfg) (n : Nat) (f : FuncId) (args : List AV) (H : AHeap) : Option (AV × AHeap) := (callF C f).run (engF C n) args H
theorem runF_eq (C : Cfg) (n : Nat) (f : FuncId) (args : List AV) (H : AHeap) : runF C n f args H = callA C (eng C n) f args H := by
  unfold runF
  rw [callF_eq, engF_eq]
end
end Go.Abs
