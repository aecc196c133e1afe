/-
  THE ABSTRACT HEAP: values with names for blocks, capacities known from below, and what it means that a world holds such a heap.
  Conditions: none; this text states definitions and their plain laws.
-/
import GoSem.Dispatch
import Derived.Laws.Sem
namespace Go.Abs

/-! ### A row of sixteen -/
structure N16 (α : Type) where
  a0 : α
  a1 : α
  a2 : α
  a3 : α
  a4 : α
  a5 : α
  a6 : α
  a7 : α
  a8 : α
  a9 : α
  a10 : α
  a11 : α
  a12 : α
  a13 : α
  a14 : α
  a15 : α

namespace N16
variable {α : Type}
def sel : Nat → N16 α → α
  | 0, s => s.a0
  | 1, s => s.a1
  | 2, s => s.a2
  | 3, s => s.a3
  | 4, s => s.a4
  | 5, s => s.a5
  | 6, s => s.a6
  | 7, s => s.a7
  | 8, s => s.a8
  | 9, s => s.a9
  | 10, s => s.a10
  | 11, s => s.a11
  | 12, s => s.a12
  | 13, s => s.a13
  | 14, s => s.a14
  | _, s => s.a15
def upd : Nat → N16 α → α → N16 α
  | 0, s, v => { s with a0 := v }
  | 1, s, v => { s with a1 := v }
  | 2, s, v => { s with a2 := v }
  | 3, s, v => { s with a3 := v }
  | 4, s, v => { s with a4 := v }
  | 5, s, v => { s with a5 := v }
  | 6, s, v => { s with a6 := v }
  | 7, s, v => { s with a7 := v }
  | 8, s, v => { s with a8 := v }
  | 9, s, v => { s with a9 := v }
  | 10, s, v => { s with a10 := v }
  | 11, s, v => { s with a11 := v }
  | 12, s, v => { s with a12 := v }
  | 13, s, v => { s with a13 := v }
  | 14, s, v => { s with a14 := v }
  | _, s, v => { s with a15 := v }
def all (x : α) : N16 α := ⟨x, x, x, x, x, x, x, x, x, x, x, x, x, x, x, x⟩

theorem cases16 {i : Nat} (h : i < 16) : i = 0 ∨ i = 1 ∨ i = 2 ∨ i = 3 ∨ i = 4 ∨ i = 5 ∨ i = 6 ∨ i = 7 ∨ i = 8 ∨ i = 9 ∨ i = 10 ∨ i = 11 ∨ i = 12 ∨ i = 13 ∨ i = 14 ∨ i = 15 := by omega
theorem sel_upd {i j : Nat} (hi : i < 16) (hj : j < 16) (s : N16 α) (v : α) : sel j (upd i s v) = if i = j then v else sel j s := by
  rcases cases16 hi with rfl | rfl | rfl | rfl | rfl | rfl | rfl | rfl | rfl | rfl | rfl | rfl | rfl | rfl | rfl | rfl <;> rcases cases16 hj with rfl | rfl | rfl | rfl | rfl | rfl | rfl | rfl | rfl | rfl | rfl | rfl | rfl | rfl | rfl | rfl <;> rfl
theorem sel_all (i : Nat) (x : α) : sel i (all x) = x := by
  unfold sel all
  split <;> rfl
end N16

/-! ### Rows of rows of sixteen: what has a number below 65536 -/
abbrev Tr (α : Type) : Type := N16 (N16 (N16 (N16 (Option α))))
namespace Tr
variable {α : Type}
def leaf : Tr α := N16.all (N16.all (N16.all (N16.all none)))
def get (t : Tr α) (k : Nat) : Option α := bif Nat.blt k 65536 then N16.sel (k % 16) (N16.sel (k / 16 % 16) (N16.sel (k / 256 % 16) (N16.sel (k / 4096) t))) else none
def ins (t : Tr α) (k : Nat) (v : α) : Tr α := bif Nat.blt k 65536 then
    N16.upd (k / 4096) t (N16.upd (k / 256 % 16) (N16.sel (k / 4096) t) (N16.upd (k / 16 % 16) (N16.sel (k / 256 % 16) (N16.sel (k / 4096) t))
      (N16.upd (k % 16) (N16.sel (k / 16 % 16) (N16.sel (k / 256 % 16) (N16.sel (k / 4096) t))) (some v))))
  else t

theorem get_leaf (k : Nat) : get (leaf : Tr α) k = none := by
  unfold get leaf
  cases Nat.blt k 65536 with
  | false => rfl
  | true => simp only [cond_true, N16.sel_all]

theorem blt_true {k n : Nat} (h : Nat.blt k n = true) : k < n := Nat.le_of_ble_eq_true h
theorem blt_false {k n : Nat} (h : Nat.blt k n = false) : ¬ k < n := fun h' => by
  have := Nat.ble_eq_true_of_le (Nat.succ_le_of_lt h')
  unfold Nat.blt at h
  rw [this] at h; cases h

/-- What is got behind an insertion, both numbers being in range. -/
theorem get_ins (t : Tr α) (k i : Nat) (v : α) (hk : k < 65536) (hi : i < 65536) : get (ins t k v) i = if i = k then some v else get t i := by
  have bk : Nat.blt k 65536 = true := Nat.ble_eq_true_of_le (Nat.succ_le_of_lt hk)
  have bi : Nat.blt i 65536 = true := Nat.ble_eq_true_of_le (Nat.succ_le_of_lt hi)
  unfold get ins
  simp only [bk, bi, cond_true]
  have e4 : k / 4096 < 16 := by omega
  have f4 : i / 4096 < 16 := by omega
  have e3 : k / 256 % 16 < 16 := Nat.mod_lt _ (by decide)
  have f3 : i / 256 % 16 < 16 := Nat.mod_lt _ (by decide)
  have e2 : k / 16 % 16 < 16 := Nat.mod_lt _ (by decide)
  have f2 : i / 16 % 16 < 16 := Nat.mod_lt _ (by decide)
  have e1 : k % 16 < 16 := Nat.mod_lt _ (by decide)
  have f1 : i % 16 < 16 := Nat.mod_lt _ (by decide)
  by_cases h : i = k
  · subst h
    rw [if_pos rfl, N16.sel_upd e4 e4, if_pos rfl, N16.sel_upd e3 e3, if_pos rfl, N16.sel_upd e2 e2, if_pos rfl, N16.sel_upd e1 e1, if_pos rfl]
  · rw [if_neg h, N16.sel_upd e4 f4]
    by_cases h4 : k / 4096 = i / 4096
    · rw [if_pos h4, N16.sel_upd e3 f3]
      by_cases h3 : k / 256 % 16 = i / 256 % 16
      · rw [if_pos h3, N16.sel_upd e2 f2]
        by_cases h2 : k / 16 % 16 = i / 16 % 16
        · rw [if_pos h2, N16.sel_upd e1 f1]
          have h1 : ¬ k % 16 = i % 16 := by omega
          rw [if_neg h1, h4, h3, h2]
        · rw [if_neg h2, h4, h3]
      · rw [if_neg h3, h4]
    · rw [if_neg h4]

theorem get_some {t : Tr α} {i : Nat} {e : α} (h : get t i = some e) : i < 65536 := by
  unfold get at h
  cases hb : Nat.blt i 65536 with
  | true => exact blt_true hb
  | false => simp only [hb, cond_false] at h; cases h
theorem ins_out {t : Tr α} {k : Nat} {v : α} (h : ¬ k < 65536) : ins t k v = t := by
  unfold ins
  cases hb : Nat.blt k 65536 with
  | true => exact absurd (blt_true hb) h
  | false => rfl

/-- What stands in a trie behind an insertion stood there, or is what was put in. -/
theorem get_ins_inv (t : Tr α) (k i : Nat) (v e : α) (h : get (ins t k v) i = some e) : (i = k ∧ e = v) ∨ (i ≠ k ∧ get t i = some e) := by
  have hi := get_some h
  by_cases hk : k < 65536
  · rw [get_ins t k i v hk hi] at h
    by_cases hik : i = k
    · rw [if_pos hik] at h; exact .inl ⟨hik, (Option.some.inj h).symm⟩
    · rw [if_neg hik] at h; exact .inr ⟨hik, h⟩
  · rw [ins_out hk] at h
    exact .inr ⟨by omega, h⟩

/-- What stood at another key stands there still. -/
theorem get_ins_ne (t : Tr α) (k i : Nat) (v e : α) (hne : i ≠ k) (h : get t i = some e) : get (ins t k v) i = some e := by
  have hi := get_some h
  by_cases hk : k < 65536
  · rw [get_ins t k i v hk hi, if_neg hne]; exact h
  · rw [ins_out hk]; exact h

/-- Where something stood the new thing stands. -/
theorem get_ins_same (t : Tr α) (k : Nat) (v e : α) (h : get t k = some e) : get (ins t k v) k = some v := by
  have hk := get_some h
  rw [get_ins t k k v hk hk, if_pos rfl]
end Tr

/-! ### Values -/
/-- A value over named blocks: a pointer is a name and an offset; of a slice's capacity a lower bound is known (or, `true`, the capacity itself). -/
inductive AV where
  | bool (b : Bool)
  | int (k : IntKind) (n : Int)
  | str (s : List Nat)
  | nilPtr
  | ptr (i o : Nat)
  /-- An address of the program's own, never read. -/
  | fixed (b o : Nat)
  | nilSlice
  | slice (i o len cap : Nat) (exact : Bool)
  | emptySlice
  | nilMap
  | map (i : Nat)
  | func (fn : Fn) (first captured : List AV)
  | yield (l : Nat)
  | nilFunc
  | iface (t : TypeId) (v : AV)
  | nilIface
  | agg (cells : List AV)
  | tuple (vs : List AV)
  /-- A value of one cell of which nothing is known. -/
  | opq
  deriving Inhabited

/-- The bytes of a text. -/
def bytesOf (s : List Nat) : ByteArray := ⟨(s.map UInt8.ofNat).toArray⟩

/-- Where a name's block lies: its number, the offset at which what is known of it begins, how many cells there are from there on, how many of them an element has. -/
structure Spot where
  blk : Nat
  base : Nat
  room : Nat
  esz : Nat
abbrev Names := Nat → Option Spot

/-- A plain function: no yield. -/
def Fn.plain : Fn → Bool
  | .yield _ => false
  | _ => true

inductive VRel (φ : Names) : AV → Value → Prop
  | bool (b : Bool) : VRel φ (.bool b) (.bool b)
  | int (k : IntKind) (n : Int) : VRel φ (.int k n) (.int k n)
  | str (s : List Nat) (h : ∀ n ∈ s, n < 256) : VRel φ (.str s) (.string (bytesOf s))
  | nilPtr : VRel φ .nilPtr (.pointer none)
  | ptr {i o : Nat} {s : Spot} (h : φ i = some s) : VRel φ (.ptr i o) (.pointer (some ⟨s.blk, s.base + o, none⟩))
  | fixed (b o : Nat) : VRel φ (.fixed b o) (.pointer (some ⟨b, o, none⟩))
  | nilSlice : VRel φ .nilSlice (.slice none 0 0)
  | slice {i o len cap cc : Nat} {s : Spot} {exact : Bool} (h : φ i = some s) (hl : len ≤ cap) (hc : cap ≤ cc) (he : exact = true → cc = cap) (hr : exact = false → o + cc * s.esz ≤ s.room) :
      VRel φ (.slice i o len cap exact) (.slice (some ⟨s.blk, s.base + o, none⟩) len cc)
  | emptySlice (a : Addr) (cc : Nat) : VRel φ .emptySlice (.slice (some a) 0 cc)
  | nilMap : VRel φ .nilMap (.map none)
  | map {i : Nat} {s : Spot} (h : φ i = some s) : VRel φ (.map i) (.map (some s.blk))
  | func {fn : Fn} {first captured : List AV} {vf vc : Array Value} (hf : Fn.plain fn = true) (h1 : first.length = vf.size) (h2 : captured.length = vc.size)
      (h3 : ∀ (j : Nat) a v, first[j]? = some a → vf[j]? = some v → VRel φ a v) (h4 : ∀ (j : Nat) a v, captured[j]? = some a → vc[j]? = some v → VRel φ a v) :
      VRel φ (.func fn first captured) (.func fn vf vc)
  | yield {l : Nat} {s : Spot} (h : φ l = some s) : VRel φ (.yield l) (.func (.yield s.blk) #[] #[])
  | nilFunc : VRel φ .nilFunc .nilFunc
  | iface {t : TypeId} {a : AV} {v : Value} (h : VRel φ a v) : VRel φ (.iface t a) (.iface t v)
  | nilIface : VRel φ .nilIface .nilIface
  | agg {cs : List AV} {vs : Array Value} (h1 : cs.length = vs.size) (h3 : ∀ (j : Nat) a v, cs[j]? = some a → vs[j]? = some v → VRel φ a v) : VRel φ (.agg cs) (.agg vs)
  | tuple {cs : List AV} {vs : Array Value} (h1 : cs.length = vs.size) (h3 : ∀ (j : Nat) a v, cs[j]? = some a → vs[j]? = some v → VRel φ a v) : VRel φ (.tuple cs) (.tuple vs)

  | opq {v : Value} (h : v.oneCell' = true) : VRel φ .opq v

/-- A row of values. -/
def LRel (φ : Names) (as : List AV) (vs : List Value) : Prop := as.length = vs.length ∧ ∀ (j : Nat) a v, as[j]? = some a → vs[j]? = some v → VRel φ a v

def Names.le (φ φ' : Names) : Prop := ∀ i p, φ i = some p → φ' i = some p

theorem Names.le_refl (φ : Names) : Names.le φ φ := fun _ _ h => h
theorem Names.le_trans {φ φ' φ'' : Names} (h : Names.le φ φ') (h' : Names.le φ' φ'') : Names.le φ φ'' := fun i p hp => h' i p (h i p hp)

theorem VRel.mono {φ φ' : Names} (hle : Names.le φ φ') {a : AV} {v : Value} (h : VRel φ a v) : VRel φ' a v := by
  induction h with
  | bool b => exact .bool b
  | int k n => exact .int k n
  | str s h => exact .str s h
  | nilPtr => exact .nilPtr
  | ptr h => exact .ptr (hle _ _ h)
  | fixed b o => exact .fixed b o
  | nilSlice => exact .nilSlice
  | slice h hl hc he hr => exact .slice (hle _ _ h) hl hc he hr
  | emptySlice a cc => exact .emptySlice a cc
  | nilMap => exact .nilMap
  | map h => exact .map (hle _ _ h)
  | func hf h1 h2 _ _ i3 i4 => exact .func hf h1 h2 i3 i4
  | yield h => exact .yield (hle _ _ h)
  | nilFunc => exact .nilFunc
  | iface _ ih => exact .iface ih
  | nilIface => exact .nilIface
  | agg h1 _ ih => exact .agg h1 ih
  | tuple h1 _ ih => exact .tuple h1 ih
  | opq h => exact .opq h

theorem LRel.mono {φ φ' : Names} (hle : Names.le φ φ') {as : List AV} {vs : List Value} (h : LRel φ as vs) : LRel φ' as vs :=
  ⟨h.1, fun j a v ha hv => (h.2 j a v ha hv).mono hle⟩
theorem LRel.nil (φ : Names) : LRel φ [] [] := ⟨rfl, fun j a v h => by simp at h⟩
theorem LRel.cons {φ : Names} {a : AV} {v : Value} {as : List AV} {vs : List Value} (h : VRel φ a v) (hs : LRel φ as vs) : LRel φ (a :: as) (v :: vs) := by
  refine ⟨by simp [hs.1], fun j x y hx hy => ?_⟩
  cases j with
  | zero => simp at hx hy; subst hx; subst hy; exact h
  | succ j => simp at hx hy; exact hs.2 j x y hx hy
theorem LRel.cons_inv {φ : Names} {a : AV} {as : List AV} {vs : List Value} (h : LRel φ (a :: as) vs) : ∃ v vs', vs = v :: vs' ∧ VRel φ a v ∧ LRel φ as vs' := by
  cases vs with
  | nil => exact absurd h.1 (by simp)
  | cons v vs => exact ⟨v, vs, rfl, h.2 0 a v rfl rfl, by have := h.1; simpa using this, fun j x y hx hy => h.2 (j + 1) x y (by simpa using hx) (by simpa using hy)⟩
theorem LRel.nil_inv {φ : Names} {vs : List Value} (h : LRel φ [] vs) : vs = [] := by
  cases vs with
  | nil => rfl
  | cons v vs => exact absurd h.1 (by simp)
theorem LRel.append {φ : Names} {as bs : List AV} {vs us : List Value} (h : LRel φ as vs) (h' : LRel φ bs us) : LRel φ (as ++ bs) (vs ++ us) := by
  induction as generalizing vs with
  | nil => rw [h.nil_inv]; exact h'
  | cons a as ih =>
    obtain ⟨v, vs', rfl, h1, h2⟩ := h.cons_inv
    exact .cons h1 (ih h2)
theorem LRel.get {φ : Names} {as : List AV} {vs : List Value} (h : LRel φ as vs) {j : Nat} {a : AV} (ha : as[j]? = some a) : ∃ v, vs[j]? = some v ∧ VRel φ a v := by
  have hj : j < as.length := by
    rcases Nat.lt_or_ge j as.length with h' | h'
    · exact h'
    · rw [List.getElem?_eq_none h'] at ha; cases ha
  have hv : vs[j]? = some (vs[j]'(h.1 ▸ hj)) := List.getElem?_eq_getElem _
  exact ⟨_, hv, h.2 j _ _ ha hv⟩
theorem LRel.take {φ : Names} {as : List AV} {vs : List Value} (h : LRel φ as vs) (n : Nat) : LRel φ (as.take n) (vs.take n) :=
  ⟨by simp [h.1], fun j a v ha hv => by
    rw [List.getElem?_take] at ha hv
    split at ha
    · rename_i hj; rw [if_pos hj] at hv; exact h.2 j a v ha hv
    · cases ha⟩
theorem LRel.drop {φ : Names} {as : List AV} {vs : List Value} (h : LRel φ as vs) (n : Nat) : LRel φ (as.drop n) (vs.drop n) :=
  ⟨by simp [h.1], fun j a v ha hv => by
    rw [List.getElem?_drop] at ha hv
    exact h.2 _ a v ha hv⟩
theorem LRel.set {φ : Names} {as : List AV} {vs : List Value} (h : LRel φ as vs) (n : Nat) {a : AV} {v : Value} (hav : VRel φ a v) : LRel φ (as.set n a) (vs.set n v) :=
  ⟨by simp [h.1], fun j x y hx hy => by
    rw [List.getElem?_set] at hx hy
    by_cases hj : n = j
    · subst hj
      simp only [if_true] at hx hy
      split at hx
      · split at hy
        · cases hx; cases hy; exact hav
        · cases hy
      · cases hx
    · simp only [hj, if_false] at hx hy
      exact h.2 j x y hx hy⟩


/-- A frame's slots: 256 at most. -/
abbrev Slots : Type := N16 (N16 (Option AV))
def Slots.empty : Slots := N16.all (N16.all none)
def Slots.get (t : Slots) (i : Nat) : Option AV := bif Nat.blt i 256 then N16.sel (i % 16) (N16.sel (i / 16) t) else none
def Slots.put (t : Slots) (i : Nat) (v : AV) : Slots := bif Nat.blt i 256 then N16.upd (i / 16) t (N16.upd (i % 16) (N16.sel (i / 16) t) (some v)) else t

theorem Slots.get_empty (i : Nat) : Slots.empty.get i = none := by
  unfold Slots.get Slots.empty
  cases Nat.blt i 256 with
  | false => rfl
  | true => simp only [cond_true]; rw [N16.sel_all, N16.sel_all]

theorem Slots.get_put_inv (t : Slots) (k i : Nat) (v e : AV) (h : (t.put k v).get i = some e) : (i = k ∧ e = v) ∨ (i ≠ k ∧ t.get i = some e) := by
  unfold Slots.get at h
  cases hi : Nat.blt i 256 with
  | false => simp [hi] at h
  | true =>
    have hi' : i < 256 := Nat.le_of_ble_eq_true hi
    simp only [hi, cond_true] at h
    unfold Slots.put at h
    cases hk : Nat.blt k 256 with
    | false =>
      have hk' : ¬ k < 256 := fun h => by have := Nat.ble_eq_true_of_le (Nat.succ_le_of_lt h); unfold Nat.blt at hk; rw [this] at hk; cases hk
      simp only [hk, cond_false] at h
      exact .inr ⟨by omega, by unfold Slots.get; simp only [hi, cond_true]; exact h⟩
    | true =>
      have hk' : k < 256 := Nat.le_of_ble_eq_true hk
      simp only [hk, cond_true] at h
      rw [N16.sel_upd (by omega) (by omega)] at h
      split at h
      · rename_i hd
        rw [N16.sel_upd (by omega) (by omega)] at h
        split at h
        · rename_i hm
          exact .inl ⟨by omega, (Option.some.inj h).symm⟩
        · rename_i hm
          exact .inr ⟨by rintro rfl; exact hm rfl, by unfold Slots.get; simp only [hi, cond_true]; rw [← hd]; exact h⟩
      · rename_i hd
        exact .inr ⟨by rintro rfl; exact hd rfl, by unfold Slots.get; simp only [hi, cond_true]; exact h⟩

/-! ### The heap -/
structure AEnt where
  key : AV
  val : AV
  born : Nat

inductive AObj where
  /-- A row of cells: what is known of it, its element type; 0: nothing is frozen; 1: no cell of it is frozen; 2: not to be written; how many cells an element has. -/
  | cells (c : List AV) (elem : TypeId) (fz esz : Nat)
  | map (es : List AEnt) (clock : Nat)
  | strIter (s : List Nat) (pos : Nat)
  | mapIter (m : Option Nat) (since : Nat) (seen : List Nat) (stepped : Nat)
  | loop (state : LoopState) (pending : Option Code) (tmps : Slots) (ntmps : Nat) (params : Array Tmp) (assign body : Code) (defers : Nat)
  | deferred (taken : Bool)
  | dead

structure Ent where
  obj : AObj
  stamp : Nat

structure AHeap where
  objs : Tr Ent
  next : Nat
  time : Nat

def AHeap.get (H : AHeap) (i : Nat) : Option Ent := H.objs.get i
/-- A new object; its name is H.next. -/
def AHeap.new (H : AHeap) (o : AObj) : AHeap := ⟨H.objs.ins H.next ⟨o, H.time⟩, H.next + 1, H.time + 1⟩
/-- An object is another one from now on. -/
def AHeap.set (H : AHeap) (i : Nat) (o : AObj) : AHeap := ⟨H.objs.ins i ⟨o, H.time⟩, H.next, H.time + 1⟩

def AObj.live : AObj → Bool
  | .dead => false
  | _ => true

def SRel (φ : Names) (t : Slots) (tmps : Array Value) : Prop := ∀ i a, Slots.get t i = some a → ∃ v, tmps[i]? = some v ∧ VRel φ a v

theorem SRel.mono {φ φ' : Names} (hle : Names.le φ φ') {t : Slots} {tmps : Array Value} (h : SRel φ t tmps) : SRel φ' t tmps :=
  fun i a ha => let ⟨v, h1, h2⟩ := h i a ha; ⟨v, h1, h2.mono hle⟩
theorem SRel.put {φ : Names} {t : Slots} {tmps : Array Value} (h : SRel φ t tmps) {i : Nat} {a : AV} {v : Value} (hav : VRel φ a v) (hi : i < tmps.size) :
    SRel φ (Slots.put t i a) (tmps.setIfInBounds i v) := by
  intro j x hx
  rcases Slots.get_put_inv _ _ _ _ _ hx with ⟨rfl, rfl⟩ | ⟨hne, hold⟩
  · exact ⟨v, by simp [hi], hav⟩
  · obtain ⟨u, hu, hr⟩ := h j x hold
    exact ⟨u, by rw [Array.getElem?_setIfInBounds_ne (Ne.symm hne)]; exact hu, hr⟩

/-- What an abstract object says of a block. -/
def ORel (φ : Names) (s : Spot) : AObj → Obj → Prop
  | .cells c elem fz esz, o => ∃ (carr : Array Value) (fl fh : Nat), o = .cells carr elem (fl, fh) ∧ carr.size = s.base + s.room ∧ s.esz = esz ∧ c.length ≤ s.room ∧
      LRel φ c ((carr.toList.drop s.base).take c.length) ∧ (fz = 0 → fl = 0 ∧ fh = 0) ∧ (fz = 1 → carr.size ≤ fl ∨ fh ≤ fl)
  | .map es clock, o => ∃ ces : Array MapEntry, o = .map ces clock ∧ es.length = ces.size ∧
      ∀ (j : Nat) e c, es[j]? = some e → ces[j]? = some c → VRel φ e.key c.key ∧ VRel φ e.val c.val ∧ e.born = c.born
  | .strIter t pos, o => s.base = 0 ∧ o = .stringIter (bytesOf t) pos ∧ ∀ n ∈ t, n < 256
  | .mapIter m since seen stepped, o => s.base = 0 ∧ ∃ cm, o = .mapIter cm since seen.toArray stepped ∧
      (match m with | none => cm = none | some i => ∃ t, φ i = some t ∧ cm = some t.blk)
  | .loop st pend tmps n params assign body defers, o => s.base = 0 ∧ ∃ (fn : FuncId) (ctmps : Array Value) (d : Spot), o = .loop ⟨st, pend, fn, ctmps, params, assign, body, d.blk⟩ ∧ SRel φ tmps ctmps ∧ ctmps.size = n ∧ φ defers = some d
  | .deferred taken, o => o = .deferred (if taken then none else some [])
  | .dead, _ => True

theorem ORel.mono {φ φ' : Names} (hle : Names.le φ φ') {s : Spot} {a : AObj} {o : Obj} (h : ORel φ s a o) : ORel φ' s a o := by
  cases a with
  | cells c elem fz esz =>
    obtain ⟨carr, fl, fh, h1, h2, h3, h4, h5, h6⟩ := h
    exact ⟨carr, fl, fh, h1, h2, h3, h4, h5.mono hle, h6⟩
  | map es clock =>
    obtain ⟨ces, h1, h2, h3⟩ := h
    exact ⟨ces, h1, h2, fun j e c he hc => let ⟨a, b, d⟩ := h3 j e c he hc; ⟨a.mono hle, b.mono hle, d⟩⟩
  | strIter s pos => exact h
  | mapIter m since seen stepped =>
    obtain ⟨h0, cm, h1, h2⟩ := h
    refine ⟨h0, cm, h1, ?_⟩
    cases m with
    | none => exact h2
    | some i => obtain ⟨b, hb, hc⟩ := h2; exact ⟨b, hle _ _ hb, hc⟩
  | loop st pend tmps n params assign body defers =>
    obtain ⟨h0, fn, ct, d, h1, h2, hn, h3⟩ := h
    exact ⟨h0, fn, ct, d, h1, h2.mono hle, hn, hle _ _ h3⟩
  | deferred taken => exact h
  | dead => trivial

/-- A world holds an abstract heap; what is written lies at N or behind. -/
structure Gam (N : Nat) (φ : Names) (H : AHeap) (w : World) : Prop where
  dom : ∀ i p, φ i = some p → i < H.next ∧ p.blk < w.heap.size
  cov : ∀ i, i < H.next → ∃ p, φ i = some p
  own : ∀ i e, H.get i = some e → e.obj.live = true → ∃ s o, φ i = some s ∧ w.heap[s.blk]? = some o ∧ ORel φ s e.obj o ∧ (N ≤ s.blk ∨ ∃ c el z, e.obj = .cells c el 2 z)
  inj : ∀ i j e e' s s', H.get i = some e → e.obj.live = true → H.get j = some e' → e'.obj.live = true → φ i = some s → φ j = some s' → s.blk = s'.blk → i = j
  low : ∀ i e, H.get i = some e → e.stamp < H.time ∧ i < H.next
  size : N ≤ w.heap.size

/-- How a step of the abstract machine may change what there is. -/
structure Ext (N : Nat) (φ φ' : Names) (H H' : AHeap) (w w' : World) : Prop where
  names : Names.le φ φ'
  next : H.next ≤ H'.next
  time : H.time ≤ H'.time
  keep : ∀ i e, H.get i = some e → ∃ e', H'.get i = some e' ∧ (e' = e ∨ H.time ≤ e'.stamp) ∧ (e'.obj.live = true → e.obj.live = true)
  back : ∀ i e', H'.get i = some e' → i < H.next → ∃ e, H.get i = some e
  fresh : ∀ i s, H.next ≤ i → φ' i = some s → w.heap.size ≤ s.blk ∨ ∃ j e e' s', H.get j = some e ∧ e.obj.live = true ∧ φ j = some s' ∧ s'.blk = s.blk ∧ H'.get j = some e' ∧ H.time ≤ e'.stamp
  frame : ∀ b, b < w.heap.size → (∀ i e s, H.get i = some e → e.obj.live = true → φ i = some s → s.blk = b → ∃ e', H'.get i = some e' ∧ e'.stamp < H.time) → w'.heap[b]? = w.heap[b]?
  low : ∀ b, b < N → w'.heap[b]? = w.heap[b]?
  size : w.heap.size ≤ w'.heap.size
  tape : w'.tape = w.tape
  os : w'.os = w.os
  output : w'.output = w.output

theorem Ext.refl {N : Nat} {φ : Names} {H : AHeap} {w : World} (hφ : ∀ i p, φ i = some p → i < H.next) : Ext N φ φ H H w w where
  names := Names.le_refl φ
  next := Nat.le_refl _
  time := Nat.le_refl _
  keep := fun i e h => ⟨e, h, .inl rfl, id⟩
  back := fun i e h _ => ⟨e, h⟩
  fresh := fun i s hi h => absurd (hφ i _ h) (by omega)
  frame := fun _ _ _ => rfl
  low := fun _ _ => rfl
  size := Nat.le_refl _
  tape := rfl
  os := rfl
  output := rfl

theorem Gam.refl {N : Nat} {φ : Names} {H : AHeap} {w : World} (g : Gam N φ H w) : Ext N φ φ H H w w := Ext.refl fun i p h => (g.dom i p h).1

theorem Ext.trans' {N : Nat} {φ φ' φ'' : Names} {H H' H'' : AHeap} {w w' w'' : World} (hc : ∀ i, i < H.next → ∃ p, φ i = some p) (hc' : ∀ i, i < H'.next → ∃ p, φ' i = some p)
    (h : Ext N φ φ' H H' w w') (h' : Ext N φ' φ'' H' H'' w' w'') : Ext N φ φ'' H H'' w w'' where
  names := Names.le_trans h.names h'.names
  next := Nat.le_trans h.next h'.next
  time := Nat.le_trans h.time h'.time
  keep := fun i e he => by
    obtain ⟨e1, h1, h2, h3⟩ := h.keep i e he
    obtain ⟨e2, k1, k2, k3⟩ := h'.keep i e1 h1
    refine ⟨e2, k1, ?_, fun hl => h3 (k3 hl)⟩
    rcases k2 with rfl | k2
    · exact h2
    · exact .inr (Nat.le_trans h.time k2)
  back := fun i e'' he hi => by
    obtain ⟨e', h1⟩ := h'.back i e'' he (Nat.lt_of_lt_of_le hi h.next)
    exact h.back i e' h1 hi
  fresh := fun i s hi hp => by
    have up : ∀ j e', H'.get j = some e' → H.time ≤ e'.stamp → ∃ e'', H''.get j = some e'' ∧ H.time ≤ e''.stamp := fun j e' a4 a5 => by
      obtain ⟨e2, k1, k2, _⟩ := h'.keep j e' a4
      rcases k2 with rfl | k2
      · exact ⟨_, k1, a5⟩
      · exact ⟨_, k1, Nat.le_trans h.time k2⟩
    have first : ∀ j t, H.next ≤ j → φ' j = some t → t.blk = s.blk → w.heap.size ≤ s.blk ∨ ∃ j e e' s', H.get j = some e ∧ e.obj.live = true ∧ φ j = some s' ∧ s'.blk = s.blk ∧ H''.get j = some e' ∧ H.time ≤ e'.stamp := fun j t hj hp hb => by
      rcases h.fresh j t hj hp with hb' | ⟨j, e, e', t', a1, a2, a3, ab, a4, a5⟩
      · exact .inl (hb ▸ hb')
      · obtain ⟨e2, k1, k2⟩ := up j e' a4 a5
        exact .inr ⟨j, e, e2, t', a1, a2, a3, ab.trans hb, k1, k2⟩
    rcases Nat.lt_or_ge i H'.next with hlt | hge
    · obtain ⟨p, hφ⟩ := hc' i hlt
      have hpp := h'.names i p hφ
      rw [hp] at hpp
      cases hpp
      exact first i s hi hφ rfl
    · rcases h'.fresh i s hge hp with hb | ⟨j, e, e', t, a1, a2, a3, ab, a4, a5⟩
      · exact .inl (Nat.le_trans h.size hb)
      · rcases Nat.lt_or_ge j H.next with hj | hj
        · obtain ⟨e0, b0⟩ := h.back j e a1 hj
          obtain ⟨e1, k1, _, k3⟩ := h.keep j e0 b0
          rw [a1] at k1; cases k1
          obtain ⟨p, hφ⟩ := hc j hj
          have hpp := h.names j p hφ
          rw [a3] at hpp; cases hpp
          exact .inr ⟨j, e0, e', _, b0, k3 a2, hφ, ab, a4, Nat.le_trans h.time a5⟩
        · exact first j t hj a3 ab
  frame := fun b hb hu => by
    have e1 : w'.heap[b]? = w.heap[b]? := h.frame b hb fun i e s h1 h2 h3 hsb => by
      obtain ⟨e'', k1, k2⟩ := hu i e s h1 h2 h3 hsb
      obtain ⟨e', m1, m2, _⟩ := h.keep i e h1
      obtain ⟨e2, n1, n2, _⟩ := h'.keep i e' m1
      rw [k1] at n1; cases n1
      rcases n2 with rfl | n2
      · exact ⟨_, m1, k2⟩
      · have := h.time; omega
    rw [← e1]
    refine h'.frame b (Nat.lt_of_lt_of_le hb h.size) fun i e s h1 h2 h3 hsb => ?_
    rcases Nat.lt_or_ge i H.next with hi | hi
    · obtain ⟨e0, b0⟩ := h.back i e h1 hi
      obtain ⟨e1', k1, _, k3⟩ := h.keep i e0 b0
      rw [h1] at k1; cases k1
      obtain ⟨p, hφ⟩ := hc i hi
      have hpp := h.names i p hφ
      rw [h3] at hpp; cases hpp
      obtain ⟨e'', m1, m2⟩ := hu i e0 _ b0 (k3 h2) hφ hsb
      exact ⟨e'', m1, Nat.lt_of_lt_of_le m2 h.time⟩
    · rcases h.fresh i s hi h3 with hb' | ⟨j, ej, ej', t, a1, a2, a3, ab, a4, a5⟩
      · omega
      · obtain ⟨e'', m1, m2⟩ := hu j ej t a1 a2 a3 (ab.trans hsb)
        obtain ⟨e2, n1, n2, _⟩ := h'.keep j ej' a4
        rw [m1] at n1; cases n1
        rcases n2 with rfl | n2
        · omega
        · have := h.time; omega
  low := fun b hb => (h'.low b hb).trans (h.low b hb)
  size := Nat.le_trans h.size h'.size
  tape := h'.tape.trans h.tape
  os := h'.os.trans h.os
  output := h'.output.trans h.output

theorem Ext.trans {N : Nat} {φ φ' φ'' : Names} {H H' H'' : AHeap} {w w' w'' : World} (g : Gam N φ H w) (g' : Gam N φ' H' w')
    (h : Ext N φ φ' H H' w w') (h' : Ext N φ' φ'' H' H'' w' w'') : Ext N φ φ'' H H'' w w'' := Ext.trans' g.cov g'.cov h h'

/-! ### The ways in which a step changes the heap: a new object; an object that is another one; one that dies -/
def Names.add (φ : Names) (i : Nat) (s : Spot) : Names := fun j => if j = i then some s else φ j

theorem Names.add_same (φ : Names) (i : Nat) (s : Spot) : φ.add i s i = some s := by simp [Names.add]
theorem Names.add_ne (φ : Names) {i j : Nat} (s : Spot) (h : j ≠ i) : φ.add i s j = φ j := by simp [Names.add, h]

theorem Gam.fresh {N : Nat} {φ : Names} {H : AHeap} {w : World} (g : Gam N φ H w) : φ H.next = none := by
  cases hp : φ H.next with
  | none => rfl
  | some p => exact absurd (g.dom _ _ hp).1 (by omega)
theorem Gam.le_add {N : Nat} {φ : Names} {H : AHeap} {w : World} (g : Gam N φ H w) (s : Spot) : Names.le φ (φ.add H.next s) := fun i p hp => by
  by_cases hi : i = H.next
  · rw [hi, g.fresh] at hp; cases hp
  · rw [Names.add_ne _ _ hi]; exact hp

/-- A new block. -/
theorem Gam.new {N : Nat} {φ : Names} {H : AHeap} {w : World} (g : Gam N φ H w) (o : Obj) (a : AObj) (s : Spot) (hs : s.blk = w.heap.size) (h : ORel (φ.add H.next s) s a o) :
    Gam N (φ.add H.next s) (H.new a) { w with heap := w.heap.push o } ∧ Ext N φ (φ.add H.next s) H (H.new a) w { w with heap := w.heap.push o } := by
  have hle := g.le_add s
  have hgi : ∀ i e, (H.new a).get i = some e → (i = H.next ∧ e = ⟨a, H.time⟩) ∨ (i ≠ H.next ∧ H.get i = some e) := fun i e h => Tr.get_ins_inv _ _ _ _ _ h
  refine ⟨⟨?_, ?_, ?_, ?_, ?_, ?_⟩, ⟨hle, by simp [AHeap.new], by simp [AHeap.new], ?_, ?_, ?_, ?_, ?_, by simp, rfl, rfl, rfl⟩⟩
  · intro i p hp
    by_cases hi : i = H.next
    · subst hi; rw [Names.add_same] at hp; cases hp; exact ⟨by simp [AHeap.new], by simp [hs]⟩
    · rw [Names.add_ne _ _ hi] at hp; have := g.dom i p hp; exact ⟨by simp [AHeap.new]; omega, by simp; omega⟩
  · intro i hi
    by_cases hi' : i = H.next
    · exact ⟨s, by rw [hi', Names.add_same]⟩
    · obtain ⟨p, hp⟩ := g.cov i (by simp [AHeap.new] at hi; omega); exact ⟨p, hle _ _ hp⟩
  · intro i e he hl
    rcases hgi i e he with ⟨rfl, rfl⟩ | ⟨hne, hold⟩
    · exact ⟨s, o, Names.add_same _ _ _, by simp [hs], h, .inl (hs ▸ g.size)⟩
    · obtain ⟨t, ob, h1, h2, h3, h4⟩ := g.own i e hold hl
      refine ⟨t, ob, hle _ _ h1, ?_, h3.mono hle, h4⟩
      have := (g.dom _ _ h1).2
      simp only [Array.getElem?_push]; rw [if_neg (by omega)]; exact h2
  · intro i j e e' t t' hi hli hj hlj hp hp' hb
    rcases hgi i e hi with ⟨rfl, rfl⟩ | ⟨hne, hold⟩ <;> rcases hgi j e' hj with ⟨rfl, rfl⟩ | ⟨hne', hold'⟩
    · rfl
    · rw [Names.add_same] at hp; rw [Names.add_ne _ _ hne'] at hp'; cases hp
      have := (g.dom _ _ hp').2; omega
    · rw [Names.add_same] at hp'; rw [Names.add_ne _ _ hne] at hp; cases hp'
      have := (g.dom _ _ hp).2; omega
    · rw [Names.add_ne _ _ hne] at hp; rw [Names.add_ne _ _ hne'] at hp'
      exact g.inj i j e e' t t' hold hli hold' hlj hp hp' hb
  · intro i e he
    rcases hgi i e he with ⟨rfl, rfl⟩ | ⟨hne, hold⟩
    · simp [AHeap.new]
    · have := g.low i e hold; simp only [AHeap.new]; omega
  · simp; have := g.size; omega
  · intro i e he
    have hne : i ≠ H.next := fun hi => by have := (g.low i e he).2; omega
    exact ⟨e, Tr.get_ins_ne _ _ _ _ _ hne he, .inl rfl, id⟩
  · intro i e' he hi
    rcases hgi i e' he with ⟨rfl, rfl⟩ | ⟨hne, hold⟩
    · omega
    · exact ⟨e', hold⟩
  · intro i t hi hp
    by_cases hi' : i = H.next
    · subst hi'; rw [Names.add_same] at hp; cases hp; exact .inl (by omega)
    · rw [Names.add_ne _ _ hi'] at hp; have := (g.dom _ _ hp).1; omega
  · intro b hb _
    simp only [Array.getElem?_push]; rw [if_neg (by omega)]
  · intro b hb
    have := g.size
    simp only [Array.getElem?_push]; rw [if_neg (by omega)]

/-- An object of the heap's own is another one. -/
theorem Gam.set {N : Nat} {φ : Names} {H : AHeap} {w : World} (g : Gam N φ H w) {i : Nat} {s : Spot} {e : Ent} (hi : H.get i = some e) (hl : e.obj.live = true) (hp : φ i = some s) (hN : N ≤ s.blk)
    (o : Obj) (a : AObj) (h : a.live = true → ORel φ s a o) :
    Gam N φ (H.set i a) { w with heap := w.heap.setIfInBounds s.blk o } ∧ Ext N φ φ H (H.set i a) w { w with heap := w.heap.setIfInBounds s.blk o } := by
  have hb : s.blk < w.heap.size := (g.dom _ _ hp).2
  have hgi : ∀ j x, (H.set i a).get j = some x → (j = i ∧ x = ⟨a, H.time⟩) ∨ (j ≠ i ∧ H.get j = some x) := fun j x h => Tr.get_ins_inv _ _ _ _ _ h
  refine ⟨⟨?_, g.cov, ?_, ?_, ?_, ?_⟩, ⟨Names.le_refl _, Nat.le_refl _, by simp [AHeap.set], ?_, ?_, ?_, ?_, ?_, by simp, rfl, rfl, rfl⟩⟩
  · intro j p hj; have := g.dom j p hj; exact ⟨this.1, by simpa using this.2⟩
  · intro j x hx hlx
    rcases hgi j x hx with ⟨rfl, rfl⟩ | ⟨hne, hold⟩
    · exact ⟨s, o, hp, by simp [hb], h hlx, .inl hN⟩
    · obtain ⟨t, ob, h1, h2, h3, h4⟩ := g.own j x hold hlx
      have hbb : s.blk ≠ t.blk := fun heq => hne (g.inj j i x e t s hold hlx hi hl h1 hp heq.symm)
      exact ⟨t, ob, h1, by simp only []; rw [Array.getElem?_setIfInBounds_ne hbb]; exact h2, h3, h4⟩
  · intro j k x y t t' hj hlj hk hlk h1 h2 hbb
    rcases hgi j x hj with ⟨rfl, rfl⟩ | ⟨hne, hold⟩ <;> rcases hgi k y hk with ⟨rfl, rfl⟩ | ⟨hne', hold'⟩
    · rfl
    · exact g.inj _ _ _ _ t t' hi hl hold' hlk h1 h2 hbb
    · exact g.inj _ _ _ _ t t' hold hlj hi hl h1 h2 hbb
    · exact g.inj _ _ _ _ t t' hold hlj hold' hlk h1 h2 hbb
  · intro j x hx
    rcases hgi j x hx with ⟨rfl, rfl⟩ | ⟨hne, hold⟩
    · have := g.low _ _ hi; simp [AHeap.set]; exact this.2
    · have := g.low j x hold; simp only [AHeap.set]; omega
  · simpa using g.size
  · intro j x hx
    by_cases hj : j = i
    · subst hj
      rw [hi] at hx; cases hx
      exact ⟨⟨a, H.time⟩, Tr.get_ins_same _ _ _ _ hi, .inr (Nat.le_refl _), fun _ => hl⟩
    · exact ⟨x, Tr.get_ins_ne _ _ _ _ _ hj hx, .inl rfl, id⟩
  · intro j x hx hj
    rcases hgi j x hx with ⟨rfl, rfl⟩ | ⟨hne, hold⟩
    · exact ⟨e, hi⟩
    · exact ⟨x, hold⟩
  · intro j t hj hp'
    have := (g.dom _ _ hp').1; omega
  · intro b' hb' hu
    by_cases hbb : s.blk = b'
    · obtain ⟨e', h1, h2⟩ := hu i e s hi hl hp hbb
      have h3 : (H.set i a).get i = some ⟨a, H.time⟩ := Tr.get_ins_same _ _ _ _ hi
      rw [h1] at h3; cases h3; simp at h2
    · simp only []; rw [Array.getElem?_setIfInBounds_ne hbb]
  · intro b' hb'
    simp only []; rw [Array.getElem?_setIfInBounds_ne (by omega)]

/-- The old name dies; a new name has its block, from some place on. -/
theorem Gam.rename {N : Nat} {φ : Names} {H : AHeap} {w : World} (g : Gam N φ H w) {i : Nat} {s : Spot} {e : Ent} (hi : H.get i = some e) (hl : e.obj.live = true) (hp : φ i = some s) (hN : N ≤ s.blk)
    (o : Obj) (a : AObj) (t : Spot) (ht : t.blk = s.blk) (h : ORel (φ.add H.next t) t a o) :
    Gam N (φ.add H.next t) ((H.set i .dead).new a) { w with heap := w.heap.setIfInBounds s.blk o } ∧
      Ext N φ (φ.add H.next t) H ((H.set i .dead).new a) w { w with heap := w.heap.setIfInBounds s.blk o } := by
  have hb : s.blk < w.heap.size := (g.dom _ _ hp).2
  have hle := g.le_add t
  have hin : i ≠ H.next := fun h => by have := (g.low _ _ hi).2; omega
  have hgi : ∀ j x, ((H.set i .dead).new a).get j = some x → (j = H.next ∧ x = ⟨a, H.time + 1⟩) ∨ (j = i ∧ x = ⟨.dead, H.time⟩) ∨ (j ≠ H.next ∧ j ≠ i ∧ H.get j = some x) := fun j x h => by
    rcases Tr.get_ins_inv _ _ _ _ _ h with ⟨h1, h2⟩ | ⟨h1, h2⟩
    · exact .inl ⟨h1, h2⟩
    · rcases Tr.get_ins_inv _ _ _ _ _ h2 with ⟨h3, h4⟩ | ⟨h3, h4⟩
      · exact .inr (.inl ⟨h3, h4⟩)
      · exact .inr (.inr ⟨h1, h3, h4⟩)
  have hdead : ((H.set i .dead).new a).get i = some ⟨.dead, H.time⟩ := Tr.get_ins_ne _ _ _ _ _ (by simpa [AHeap.set] using hin) (Tr.get_ins_same _ _ _ _ hi)
  refine ⟨⟨?_, ?_, ?_, ?_, ?_, ?_⟩, ⟨hle, by simp [AHeap.new, AHeap.set], by simp [AHeap.new, AHeap.set]; omega, ?_, ?_, ?_, ?_, ?_, by simp, rfl, rfl, rfl⟩⟩
  · intro j p hj
    by_cases hj' : j = H.next
    · subst hj'; rw [Names.add_same] at hj; cases hj; exact ⟨by simp [AHeap.new, AHeap.set], by simp [ht, hb]⟩
    · rw [Names.add_ne _ _ hj'] at hj; have := g.dom j p hj; exact ⟨by simp [AHeap.new, AHeap.set]; omega, by simpa using this.2⟩
  · intro j hj
    by_cases hj' : j = H.next
    · exact ⟨t, by rw [hj', Names.add_same]⟩
    · obtain ⟨p, hp⟩ := g.cov j (by simp [AHeap.new, AHeap.set] at hj; omega); exact ⟨p, hle _ _ hp⟩
  · intro j x hx hlx
    rcases hgi j x hx with ⟨rfl, rfl⟩ | ⟨rfl, rfl⟩ | ⟨hne, hne', hold⟩
    · exact ⟨t, o, Names.add_same _ _ _, by simp [ht, hb], h, .inl (ht ▸ hN)⟩
    · cases hlx
    · obtain ⟨u, ob, h1, h2, h3, h4⟩ := g.own j x hold hlx
      have hbb : s.blk ≠ u.blk := fun heq => hne' (g.inj j i x e u s hold hlx hi hl h1 hp heq.symm)
      exact ⟨u, ob, hle _ _ h1, by simp only []; rw [Array.getElem?_setIfInBounds_ne hbb]; exact h2, h3.mono hle, h4⟩
  · intro j k x y u u' hj hlj hk hlk h1 h2 hbb
    rcases hgi j x hj with ⟨rfl, rfl⟩ | ⟨rfl, rfl⟩ | ⟨hne, hni, hold⟩ <;> rcases hgi k y hk with ⟨rfl, rfl⟩ | ⟨rfl, rfl⟩ | ⟨hne', hni', hold'⟩
    · rfl
    · cases hlk
    · rw [Names.add_same] at h1; rw [Names.add_ne _ _ hne'] at h2; cases h1
      exact absurd (g.inj _ _ _ _ u' s hold' hlk hi hl h2 hp (by rw [← hbb, ht])) hni'
    · cases hlj
    · cases hlj
    · cases hlj
    · rw [Names.add_same] at h2; rw [Names.add_ne _ _ hne] at h1; cases h2
      exact absurd (g.inj _ _ _ _ u s hold hlj hi hl h1 hp (by rw [hbb, ht])) hni
    · cases hlk
    · rw [Names.add_ne _ _ hne] at h1; rw [Names.add_ne _ _ hne'] at h2
      exact g.inj _ _ _ _ u u' hold hlj hold' hlk h1 h2 hbb
  · intro j x hx
    rcases hgi j x hx with ⟨rfl, rfl⟩ | ⟨rfl, rfl⟩ | ⟨hne, hni, hold⟩
    · simp [AHeap.new, AHeap.set]
    · have := g.low _ _ hi; simp only [AHeap.new, AHeap.set]; omega
    · have := g.low j x hold; simp only [AHeap.new, AHeap.set]; omega
  · simpa using g.size
  · intro j x hx
    have hjn : j ≠ H.next := fun h => by have := (g.low _ _ hx).2; omega
    by_cases hj : j = i
    · subst hj
      exact ⟨_, hdead, .inr (Nat.le_refl _), fun h => by cases h⟩
    · exact ⟨x, Tr.get_ins_ne _ _ _ _ _ (by simpa [AHeap.set] using hjn) (Tr.get_ins_ne _ _ _ _ _ hj hx), .inl rfl, id⟩
  · intro j x hx hj
    rcases hgi j x hx with ⟨rfl, rfl⟩ | ⟨rfl, rfl⟩ | ⟨hne, hni, hold⟩
    · omega
    · exact ⟨e, hi⟩
    · exact ⟨x, hold⟩
  · intro j u hj hp'
    by_cases hj' : j = H.next
    · subst hj'; rw [Names.add_same] at hp'; cases hp'
      exact .inr ⟨i, e, _, s, hi, hl, hp, ht.symm, hdead, Nat.le_refl _⟩
    · rw [Names.add_ne _ _ hj'] at hp'; have := (g.dom _ _ hp').1; omega
  · intro b' hb' hu
    by_cases hbb : s.blk = b'
    · obtain ⟨e', h1, h2⟩ := hu i e s hi hl hp hbb
      rw [h1] at hdead; cases hdead; simp at h2
    · simp only []; rw [Array.getElem?_setIfInBounds_ne hbb]
  · intro b' hb'
    simp only []; rw [Array.getElem?_setIfInBounds_ne (by omega)]

/-- A draw changes nothing. -/
theorem Gam.drew {N : Nat} {φ : Names} {H : AHeap} {w : World} (g : Gam N φ H w) (n : Nat) : Gam N φ H { w with drawn := n } :=
  ⟨g.dom, g.cov, g.own, g.inj, g.low, g.size⟩
theorem Ext.drew {N : Nat} {φ φ' : Names} {H H' : AHeap} {w w' : World} (h : Ext N φ φ' H H' w w') (n : Nat) : Ext N φ φ' H H' w { w' with drawn := n } :=
  ⟨h.names, h.next, h.time, h.keep, h.back, h.fresh, h.frame, h.low, h.size, h.tape, h.os, h.output⟩
theorem Ext.undrew {N : Nat} {φ φ' : Names} {H H' : AHeap} {w w' : World} {n : Nat} (h : Ext N φ φ' H H' { w with drawn := n } w') : Ext N φ φ' H H' w w' :=
  ⟨h.names, h.next, h.time, h.keep, h.back, h.fresh, h.frame, h.low, h.size, h.tape, h.os, h.output⟩
end Go.Abs
