/-
  The abstract machine's numbers and texts are the model's.
  Conditions: none.
-/
import Derived.Test.YtaaagehbbihfeaaGreatDoorAbsOps
import Derived.Laws.Sem
import Derived.Laws.Strings
namespace Go.Abs

theorem maxOf_eq (k : IntKind) : (maxOf k : Int) = k.max := by cases k <;> rfl
theorem modOf_eq (k : IntKind) : ((modOf k : Nat) : Int) = 2 ^ k.bits := by cases k <;> rfl
theorem modOf_eq' (k : IntKind) : modOf k = 2 ^ k.bits := by cases k <;> rfl
theorem bitCount_eq (k : IntKind) : bitCount k = k.bits := by cases k <;> rfl

theorem wrapA_eq (k : IntKind) (n : Int) : wrapA k n = k.wrap n := by
  cases n with
  | ofNat m =>
    simp only [wrapA]
    cases h : Nat.ble m (maxOf k) with
    | false => rfl
    | true =>
      have hm : m ≤ maxOf k := Nat.le_of_ble_eq_true h
      simp only [cond_true]
      cases k <;> simp only [maxOf] at hm <;> simp only [IntKind.wrap, IntKind.bits, IntKind.signed, Bool.true_and, Bool.false_and] <;> (try simp) <;> omega
  | negSucc m =>
    simp only [wrapA]
    cases h : (k.signed && Nat.ble m (maxOf k)) with
    | false => rfl
    | true =>
      rw [Bool.and_eq_true] at h
      have hm : m ≤ maxOf k := Nat.le_of_ble_eq_true h.2
      have hs := h.1
      simp only [cond_true]
      have hneg : Int.negSucc m = -(m : Int) - 1 := by omega
      rw [hneg]
      cases k <;> first | (cases hs; done) | (simp only [maxOf] at hm; simp only [IntKind.wrap, IntKind.bits, IntKind.signed, Bool.true_and, Nat.reduceSub]; rw [if_pos (by apply decide_eq_true; omega)]; omega)

theorem ltA_eq (a b : Int) : ltA a b = decide (a < b) := by
  cases a with
  | ofNat m => cases b with
    | ofNat n =>
      simp only [ltA]
      rw [Bool.eq_iff_iff]; simp only [decide_eq_true_eq, Nat.blt_eq]
      exact ⟨fun h => Int.ofNat_lt.2 h, fun h => Int.ofNat_lt.1 h⟩
    | negSucc n =>
      simp only [ltA]; symm; simp only [decide_eq_false_iff_not]
      show ¬ ((m : Int) < Int.negSucc n); omega
  | negSucc m => cases b with
    | ofNat n =>
      simp only [ltA]; symm; simp only [decide_eq_true_eq]
      show Int.negSucc m < (n : Int); omega
    | negSucc n =>
      simp only [ltA]
      rw [Bool.eq_iff_iff]; simp only [decide_eq_true_eq, Nat.blt_eq]; omega

theorem eqA_eq (a b : Int) : eqA a b = (a == b) := by
  cases a <;> cases b <;> simp only [eqA]
  · rename_i m n
    rw [Bool.eq_iff_iff]; simp only [Nat.beq_eq, beq_iff_eq]; constructor
    · rintro rfl; rfl
    · intro h; cases h; rfl
  · symm; simp
  · symm; simp
  · rename_i m n
    rw [Bool.eq_iff_iff]; simp only [Nat.beq_eq, beq_iff_eq]; constructor
    · rintro rfl; rfl
    · intro h; cases h; rfl

theorem bitsA_eq (k : IntKind) (n : Int) : (BitVec.ofInt k.bits n).toNat = bitsA k n := by
  rw [BitVec.toNat_ofInt]
  cases n with
  | ofNat m => cases k <;> simp only [bitsA, modOf, IntKind.bits] <;> simp <;> omega
  | negSucc m => cases k <;> simp only [bitsA, modOf, IntKind.bits] <;> simp <;> omega

section
variable {P : Program} (w : World) {φ : Names}

theorem binOp_int (op : BinOp) (k : IntKind) (x y : Int) (hs : op ≠ .shl) (hs' : op ≠ .shr) (t : TypeId) : binOp op t (.int k x) (.int k y) =
    (match op with
    | .add | .sub | .mul => Op.intArith op k x y
    | .quo | .rem => Op.intDiv op k x y
    | .and | .or | .xor | .andNot => Op.intBits op k x y
    | _ => Op.intCmp op x y) := by
  cases op <;> simp [binOp] at hs hs' ⊢

theorem arithA_sound {op : BinOp} {k : IntKind} {x y : Int} {a : AV} (h : arithA op k x y = some a) (hs : op ≠ .shl) (hs' : op ≠ .shr) (t : TypeId) :
    ∃ v, (binOp op t (.int k x) (.int k y)).run P w = .ok v w ∧ VRel φ a v := by
  rw [binOp_int op k x y hs hs' t]
  cases op <;> simp only [arithA, reduceCtorEq] at h <;> (try contradiction)
  case add => cases h; exact ⟨.int k (k.wrap (x + y)), rfl, by rw [wrapA_eq]; exact .int _ _⟩
  case sub => cases h; exact ⟨.int k (k.wrap (x - y)), rfl, by rw [wrapA_eq]; exact .int _ _⟩
  case mul => cases h; exact ⟨.int k (k.wrap (x * y)), rfl, by rw [wrapA_eq]; exact .int _ _⟩
  case quo =>
    rw [eqA_eq] at h
    by_cases hy : y = 0
    · rw [hy] at h; simp at h
    · have hb : (y == 0) = false := by simpa using hy
      rw [hb] at h; simp only [cond_false, Option.some.injEq] at h
      subst h
      exact ⟨.int k (k.wrap (x.tdiv y)), by simp [Op.intDiv, hy], by rw [wrapA_eq]; exact .int _ _⟩
  case rem =>
    rw [eqA_eq] at h
    by_cases hy : y = 0
    · rw [hy] at h; simp at h
    · have hb : (y == 0) = false := by simpa using hy
      rw [hb] at h; simp only [cond_false, Option.some.injEq] at h
      subst h
      exact ⟨.int k (x.tmod y), by simp [Op.intDiv, hy], .int _ _⟩
  case and =>
    cases h
    refine ⟨.int k (k.wrap (BitVec.ofInt k.bits x &&& BitVec.ofInt k.bits y).toNat), rfl, ?_⟩
    rw [wrapA_eq, BitVec.toNat_and, bitsA_eq, bitsA_eq]; exact .int _ _
  case or =>
    cases h
    refine ⟨.int k (k.wrap (BitVec.ofInt k.bits x ||| BitVec.ofInt k.bits y).toNat), rfl, ?_⟩
    rw [wrapA_eq, BitVec.toNat_or, bitsA_eq, bitsA_eq]; exact .int _ _
  case xor =>
    cases h
    refine ⟨.int k (k.wrap (BitVec.ofInt k.bits x ^^^ BitVec.ofInt k.bits y).toNat), rfl, ?_⟩
    rw [wrapA_eq, BitVec.toNat_xor, bitsA_eq, bitsA_eq]; exact .int _ _
  case andNot =>
    cases h
    refine ⟨.int k (k.wrap (BitVec.ofInt k.bits x &&& ~~~BitVec.ofInt k.bits y).toNat), rfl, ?_⟩
    rw [wrapA_eq, BitVec.toNat_and, BitVec.toNat_not, bitsA_eq, bitsA_eq, ← modOf_eq']; exact .int _ _
  case eql => cases h; exact ⟨.bool (x == y), rfl, by rw [eqA_eq]; exact .bool _⟩
  case neq => cases h; exact ⟨.bool (x != y), rfl, by rw [eqA_eq]; exact .bool _⟩
  case lss => cases h; exact ⟨.bool (x < y), rfl, by rw [ltA_eq]; exact .bool _⟩
  case leq =>
    cases h
    refine ⟨.bool (x ≤ y), rfl, ?_⟩
    rw [ltA_eq, show (!decide (y < x)) = decide (x ≤ y) by rw [Bool.eq_iff_iff]; simp]
    exact .bool _
  case gtr => cases h; exact ⟨.bool (x > y), rfl, by rw [ltA_eq]; exact .bool _⟩
  case geq =>
    cases h
    refine ⟨.bool (x ≥ y), rfl, ?_⟩
    rw [ltA_eq, show (!decide (x < y)) = decide (x ≥ y) by rw [Bool.eq_iff_iff]; simp]
    exact .bool _

theorem fdiv_pow (m n : Nat) : (Int.negSucc m).fdiv (2 ^ n) = .negSucc (m / Nat.pow 2 n) := by
  have h : ((2 : Int) ^ n) = ((2 ^ n : Nat) : Int) := by simp
  rw [h]
  have hp : 0 < 2 ^ n := Nat.pow_pos (by omega)
  obtain ⟨p, hp'⟩ : ∃ p, 2 ^ n = p + 1 := ⟨2 ^ n - 1, by omega⟩
  show (Int.negSucc m).fdiv (Int.ofNat (2 ^ n)) = _
  rw [show Nat.pow 2 n = 2 ^ n from rfl, hp']
  rfl

theorem shiftA_sound {op : BinOp} {k k' : IntKind} {x y : Int} {a : AV} (h : shiftA op k x y = some a) (hs : op = .shl ∨ op = .shr) (t : TypeId) :
    ∃ v, (binOp op t (.int k x) (.int k' y)).run P w = .ok v w ∧ VRel φ a v := by
  cases y with
  | negSucc s => simp [shiftA] at h
  | ofNat s =>
    have hn : (bif Nat.ble s (bitCount k) then s else bitCount k) = min s k.bits := by
      rw [bitCount_eq]
      cases hb : Nat.ble s k.bits with
      | true => have := Nat.le_of_ble_eq_true hb; simp; omega
      | false => have : ¬ s ≤ k.bits := fun hle => by rw [Nat.ble_eq_true_of_le hle] at hb; cases hb
                 simp; omega
    have h0 : ¬ (Int.ofNat s < 0) := by simp
    rcases hs with rfl | rfl
    · simp only [shiftA, hn] at h
      cases h
      refine ⟨.int k (k.wrap (x * 2 ^ (min s k.bits))), by simp only [binOp, Op.shift, h0, if_false, Sem.run_pure]; rfl, ?_⟩
      have : (Int.ofNat (Nat.pow 2 (min s k.bits))) = 2 ^ (min s k.bits) := by
        show ((2 ^ (min s k.bits) : Nat) : Int) = _
        simp
      rw [wrapA_eq, this]; exact .int _ _
    · cases x with
      | ofNat m =>
        simp only [shiftA, hn] at h
        cases h
        refine ⟨.int k ((Int.ofNat m).fdiv (2 ^ (min (Int.ofNat s).toNat k.bits))), by simp only [binOp, Op.shift, h0, if_false, Sem.run_pure], ?_⟩
        have e : ((Int.ofNat m).fdiv (2 ^ (min (Int.ofNat s).toNat k.bits))) = .ofNat (m / Nat.pow 2 (min s k.bits)) := by
          have h2 : ((2 : Int) ^ (min s k.bits)) = ((2 ^ (min s k.bits) : Nat) : Int) := by simp
          show ((m : Int)).fdiv (2 ^ (min s k.bits)) = _
          rw [h2]; show Int.fdiv (Int.ofNat m) (Int.ofNat (2 ^ (min s k.bits))) = _; cases m <;> simp [Int.fdiv]
        rw [e]; exact .int _ _
      | negSucc m =>
        simp only [shiftA, hn] at h
        cases h
        refine ⟨.int k ((Int.negSucc m).fdiv (2 ^ (min (Int.ofNat s).toNat k.bits))), by simp only [binOp, Op.shift, h0, if_false, Sem.run_pure], ?_⟩
        have e : ((Int.negSucc m).fdiv (2 ^ (min (Int.ofNat s).toNat k.bits))) = .negSucc (m / Nat.pow 2 (min s k.bits)) := fdiv_pow m _
        rw [e]; exact .int _ _

/-! ### Texts -/
theorem bytesOf_size (s : List Nat) : (bytesOf s).size = s.length := by simp [bytesOf, ByteArray.size]
theorem bytesOf_toList (s : List Nat) : (bytesOf s).data.toList = s.map UInt8.ofNat := by simp [bytesOf]
theorem toList_data (b : ByteArray) : b.toList = b.data.toList := ByteArray.toList_eq b
theorem bytesOf_ofBytes (b : ByteArray) : bytesOf (ofBytes b) = b := by
  have : (ofBytes b).map UInt8.ofNat = b.data.toList := by
    simp only [ofBytes, List.map_map]
    conv => rhs; rw [← List.map_id b.data.toList]
    apply List.map_congr_left
    intro x _
    simp
  simp [bytesOf, this]
theorem ofBytes_lt (b : ByteArray) : ∀ n ∈ ofBytes b, n < 256 := by
  intro n hn
  simp only [ofBytes, List.mem_map] at hn
  obtain ⟨x, _, rfl⟩ := hn
  exact x.toNat_lt
theorem toNat_ofNat_of_lt {n : Nat} (h : n < 256) : (UInt8.ofNat n).toNat = n := by simp; omega

theorem eqNats_eq : ∀ {x y : List Nat}, (∀ n ∈ x, n < 256) → (∀ n ∈ y, n < 256) → eqNats x y = (x.map UInt8.ofNat == y.map UInt8.ofNat)
  | [], [], _, _ => rfl
  | [], _ :: _, _, _ => rfl
  | _ :: _, [], _, _ => rfl
  | a :: x, b :: y, hx, hy => by
    have ih := eqNats_eq (x := x) (y := y) (fun n h => hx n (by simp [h])) (fun n h => hy n (by simp [h]))
    have ha := hx a (by simp); have hb := hy b (by simp)
    simp only [eqNats, ih, List.map_cons, List.cons_beq_cons]
    congr 1
    rw [Bool.eq_iff_iff]
    simp only [Nat.beq_eq, beq_iff_eq]
    constructor
    · rintro rfl; rfl
    · intro h; have := congrArg UInt8.toNat h; rwa [toNat_ofNat_of_lt ha, toNat_ofNat_of_lt hb] at this
theorem ltNats_eq : ∀ {x y : List Nat}, (∀ n ∈ x, n < 256) → (∀ n ∈ y, n < 256) → ltNats x y = Op.bytesLess (x.map UInt8.ofNat) (y.map UInt8.ofNat)
  | [], [], _, _ => rfl
  | [], _ :: _, _, _ => rfl
  | _ :: _, [], _, _ => rfl
  | a :: x, b :: y, hx, hy => by
    have ih := ltNats_eq (x := x) (y := y) (fun n h => hx n (by simp [h])) (fun n h => hy n (by simp [h]))
    have ha := hx a (by simp); have hb := hy b (by simp)
    simp only [ltNats, ih, List.map_cons, Op.bytesLess]
    have e1 : Nat.blt a b = decide (UInt8.ofNat a < UInt8.ofNat b) := by
      rw [Bool.eq_iff_iff]; simp only [Nat.blt_eq, decide_eq_true_eq, UInt8.lt_iff_toNat_lt]
      rw [toNat_ofNat_of_lt ha, toNat_ofNat_of_lt hb]
    have e2 : Nat.beq a b = (UInt8.ofNat a == UInt8.ofNat b) := by
      rw [Bool.eq_iff_iff]
      simp only [Nat.beq_eq, beq_iff_eq]
      constructor
      · rintro rfl; rfl
      · intro h; have := congrArg UInt8.toNat h; rwa [toNat_ofNat_of_lt ha, toNat_ofNat_of_lt hb] at this
    rw [e1, e2]

theorem bytesOf_append (x y : List Nat) : bytesOf (x ++ y) = bytesOf x ++ bytesOf y := by
  apply ByteArray.ext
  simp [bytesOf, ByteArray.data_append]

theorem strOpA_sound {op : BinOp} {x y : List Nat} {a : AV} (h : strOpA op x y = some a) (hx : ∀ n ∈ x, n < 256) (hy : ∀ n ∈ y, n < 256) (t : TypeId) :
    ∃ v, (binOp op t (.string (bytesOf x)) (.string (bytesOf y))).run P w = .ok v w ∧ VRel φ a v := by
  have hb : ∀ op, op ≠ .shl → op ≠ .shr → binOp op t (.string (bytesOf x)) (.string (bytesOf y)) = Op.stringOp op (bytesOf x) (bytesOf y) := by
    intro op _ _; cases op <;> rfl
  have el : (bytesOf x).toList = x.map UInt8.ofNat := by rw [toList_data, bytesOf_toList]
  have er : (bytesOf y).toList = y.map UInt8.ofNat := by rw [toList_data, bytesOf_toList]
  cases op <;> simp only [strOpA, reduceCtorEq] at h <;> (try contradiction)
  case add =>
    cases hl : Nat.ble (x.length + y.length) 9223372036854775807 with
    | false => simp [hl] at h
    | true =>
      have hle := Nat.le_of_ble_eq_true hl
      simp [hl] at h
      subst h
      refine ⟨.string (bytesOf x ++ bytesOf y), ?_, ?_⟩
      · rw [hb _ (by simp) (by simp)]
        simp only [Op.stringOp, bytesOf_size]
        rw [if_neg]
        · rfl
        · simp only [IntKind.max, IntKind.signed, IntKind.bits]; simp; omega
      · rw [← bytesOf_append]
        exact .str _ (fun n hn => by rcases List.mem_append.1 hn with h | h; exact hx n h; exact hy n h)
  case eql => cases h; exact ⟨.bool ((bytesOf x).toList == (bytesOf y).toList), by rw [hb _ (by simp) (by simp)]; rfl, by rw [eqNats_eq hx hy, el, er]; exact .bool _⟩
  case neq => cases h; exact ⟨.bool (!((bytesOf x).toList == (bytesOf y).toList)), by rw [hb _ (by simp) (by simp)]; rfl, by rw [eqNats_eq hx hy, el, er]; exact .bool _⟩
  case lss => cases h; exact ⟨.bool (Op.bytesLess (bytesOf x).toList (bytesOf y).toList), by rw [hb _ (by simp) (by simp)]; rfl, by rw [ltNats_eq hx hy, el, er]; exact .bool _⟩
  case leq => cases h; exact ⟨.bool (Op.bytesLess (bytesOf x).toList (bytesOf y).toList || (bytesOf x).toList == (bytesOf y).toList), by rw [hb _ (by simp) (by simp)]; rfl, by rw [ltNats_eq hx hy, eqNats_eq hx hy, el, er]; exact .bool _⟩
  case gtr => cases h; exact ⟨.bool (!(Op.bytesLess (bytesOf x).toList (bytesOf y).toList || (bytesOf x).toList == (bytesOf y).toList)), by rw [hb _ (by simp) (by simp)]; rfl, by rw [ltNats_eq hx hy, eqNats_eq hx hy, el, er]; exact .bool _⟩
  case geq => cases h; exact ⟨.bool (!Op.bytesLess (bytesOf x).toList (bytesOf y).toList), by rw [hb _ (by simp) (by simp)]; rfl, by rw [ltNats_eq hx hy, el, er]; exact .bool _⟩
end

/-! ### Constants -/
theorem LRel.of_mapM {φ : Names} {g : Value → Option AV} : ∀ {cs : List Value} {as : List AV}, cs.mapM g = some as → (∀ v ∈ cs, ∀ a, g v = some a → VRel φ a v) → LRel φ as cs
  | [], as, h, _ => by simp at h; subst h; exact .nil _
  | c :: cs, as, h, hg => by
    simp only [List.mapM_cons, Option.bind_eq_bind, Option.pure_def] at h
    cases hc : g c with
    | none => simp [hc] at h
    | some a =>
      cases hr : cs.mapM g with
      | none => simp [hc, hr] at h
      | some rest =>
        simp [hc, hr] at h
        subst h
        exact .cons (hg c (by simp) a hc) (LRel.of_mapM hr fun v hv => hg v (by simp [hv]))
theorem VRel.agg_of {φ : Names} {cs : List AV} {vs : Array Value} (h : LRel φ cs vs.toList) : VRel φ (.agg cs) (.agg vs) :=
  .agg (by simpa using h.1) fun j a v ha hv => h.2 j a v ha (by simpa using hv)
theorem VRel.tuple_of {φ : Names} {cs : List AV} {vs : Array Value} (h : LRel φ cs vs.toList) : VRel φ (.tuple cs) (.tuple vs) :=
  .tuple (by simpa using h.1) fun j a v ha hv => h.2 j a v ha (by simpa using hv)
theorem VRel.agg_inv {φ : Names} {cs : List AV} {v : Value} (h : VRel φ (.agg cs) v) : ∃ vs : Array Value, v = .agg vs ∧ LRel φ cs vs.toList := by
  cases h with
  | agg h1 h3 => exact ⟨_, rfl, by simpa using h1, fun j a v ha hv => h3 j a v ha (by simpa using hv)⟩
theorem VRel.tuple_inv {φ : Names} {cs : List AV} {v : Value} (h : VRel φ (.tuple cs) v) : ∃ vs : Array Value, v = .tuple vs ∧ LRel φ cs vs.toList := by
  cases h with
  | tuple h1 h3 => exact ⟨_, rfl, by simpa using h1, fun j a v ha hv => h3 j a v ha (by simpa using hv)⟩

theorem ofValue_sound {φ : Names} : ∀ (f : Nat) (v : Value) (a : AV), ofValue f v = some a → VRel φ a v := by
  intro f
  induction f with
  | zero => intro v a h; simp [ofValue] at h
  | succ f ih =>
    intro v a h
    cases v with
    | bool b => simp [ofValue] at h; subst h; exact .bool _
    | int k n => simp [ofValue] at h; subst h; exact .int _ _
    | float k b => simp [ofValue] at h
    | complex k a b => simp [ofValue] at h
    | string s =>
      simp [ofValue] at h; subst h
      have := VRel.str (φ := φ) (ofBytes s) (ofBytes_lt s)
      rwa [bytesOf_ofBytes] at this
    | pointer a => cases a <;> simp [ofValue] at h; subst h; exact .nilPtr
    | slice a l c =>
      cases a with
      | some a => simp [ofValue] at h
      | none =>
        cases l <;> cases c <;> simp [ofValue] at h
        subst h; exact .nilSlice
    | map r => cases r <;> simp [ofValue] at h; subst h; exact .nilMap
    | chan r => simp [ofValue] at h
    | func fn a b => simp [ofValue] at h
    | nilFunc => simp [ofValue] at h; subst h; exact .nilFunc
    | iface t v =>
      simp [ofValue] at h
      obtain ⟨x, hx, rfl⟩ := h
      exact .iface (ih v x hx)
    | nilIface => simp [ofValue] at h; subst h; exact .nilIface
    | agg cs =>
      simp [ofValue] at h
      obtain ⟨x, hx, rfl⟩ := h
      exact .agg_of (LRel.of_mapM (by simpa using hx) fun v _ a h => ih v a h)
    | tuple cs =>
      simp [ofValue] at h
      obtain ⟨x, hx, rfl⟩ := h
      exact .tuple_of (LRel.of_mapM (by simpa using hx) fun v _ a h => ih v a h)
end Go.Abs
