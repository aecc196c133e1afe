/-
  A drawn region whose operations stand in another order of the text is the same region.
  Conditions: none.
-/
import Derived.Test.YtaaagehbbihfeaaGreatDoorAbsDraw3
namespace Go.Abs

section
variable {F : Fence} {n : Nat} {P : Program} {Q : Exit → Act → World → Prop}

/-- An operation, its numbers turned. -/
def turnOp (σ : Nat → Nat) (o : Oper) : Oper := { o with after := o.after.map (fun e => { e with on := σ e.on }), guard := o.guard.map fun p => (σ p.1, p.2) }

structure Turned (σ τ : Nat → Nat) (ops ops' : Array Oper) : Prop where
  left : ∀ i, τ (σ i) = i
  right : ∀ i, σ (τ i) = i
  opAt : ∀ i, ops'[σ i]? = (ops[i]?).map (turnOp σ)
  size : ops'.size = ops.size
  low : ∀ i, σ i < ops.size ↔ i < ops.size

theorem Turned.inj {σ τ : Nat → Nat} {ops ops' : Array Oper} (h : Turned σ τ ops ops') {i j : Nat} (e : σ i = σ j) : i = j := by rw [← h.left i, e, h.left]

theorem turn_wp (σ : Nat → Nat) (o : Oper) (a : Act) (w : World) (K : Act → World → Prop) : (turnOp σ o).wpIn F n P a w K Q = o.wpIn F n P a w K Q := rfl
theorem turn_about (σ : Nat → Nat) (o : Oper) (w : World) (ρ : Operand → Value) : (turnOp σ o).about P w ρ = o.about P w ρ := rfl

theorem Turned.yields {σ τ : Nat → Nat} {ops ops' : Array Oper} (h : Turned σ τ ops ops') (tmps : Array Value) (j : Nat) : yielded ops' tmps (σ j) = yielded ops tmps j := by
  unfold yielded
  rw [h.opAt]
  cases ops[j]? <;> rfl
theorem Turned.wants {σ τ : Nat → Nat} {ops ops' : Array Oper} (h : Turned σ τ ops ops') (tmps : Array Value) (o : Oper) : Region.wanted (turnOp σ o) (yielded ops' tmps) = Region.wanted o (yielded ops tmps) := by
  unfold Region.wanted turnOp
  cases o.guard with
  | none => rfl
  | some p => simp only [Option.map_some, h.yields]

theorem Turned.op {σ τ : Nat → Nat} {ops ops' : Array Oper} (h : Turned σ τ ops ops') {K K' : Act → World → Prop} (hK : ∀ a w, K' a w → K a w) (i : Nat) (a : Act) (w : World) (hh : wpOpIn F n P ops' Q (σ i) K' a w) : wpOpIn F n P ops Q i K a w := by
  unfold wpOpIn at hh ⊢
  rw [h.opAt] at hh
  cases ho : ops[i]? with
  | none => rw [ho] at hh; exact hK _ _ hh
  | some o =>
    rw [ho] at hh
    simp only [Option.map_some, h.wants, turn_wp, turn_about] at hh ⊢
    split
    · rename_i hw
      rw [if_pos hw] at hh
      exact Oper.wpIn_mono hK hh
    · rename_i hw
      rw [if_neg hw] at hh
      exact ⟨hh.1, hK _ _ hh.2⟩

/-- What is listed, by the turned numbers. -/
def SameListed (σ : Nat → Nat) (listed listed' : Array Bool) : Prop := ∀ i, listed'[σ i]? = listed[i]?

theorem Turned.ready {σ τ : Nat → Nat} {ops ops' : Array Oper} (h : Turned σ τ ops ops') {listed listed' : Array Bool} (hs : SameListed σ listed listed') (i : Nat) :
    σ i ∈ Region.ready .any ops' listed' ↔ i ∈ Region.ready .any ops listed := by
  have hd : ∀ (b : Bool) j, listed'.getD (σ j) b = listed.getD j b := fun b j => by
    rw [Array.getD_eq_getD_getElem?, Array.getD_eq_getD_getElem?, hs j]
  rw [mem_ready, mem_ready, hd, h.opAt]
  refine and_congr Iff.rfl ?_
  constructor
  · rintro ⟨o', ho', he⟩
    cases ho : ops[i]? with
    | none => rw [ho] at ho'; cases ho'
    | some o =>
      rw [ho] at ho'
      cases ho'
      refine ⟨o, rfl, fun e hem hb => ?_⟩
      have := he { e with on := σ e.on } (Array.mem_map.2 ⟨e, hem, rfl⟩) hb
      rwa [hd] at this
  · rintro ⟨o, ho, he⟩
    refine ⟨turnOp σ o, by rw [ho]; rfl, fun e hem hb => ?_⟩
    obtain ⟨e0, h0, rfl⟩ := Array.mem_map.1 hem
    show listed'.getD (σ e0.on) false = true
    rw [hd]
    exact he e0 h0 hb

theorem Turned.nil {σ τ : Nat → Nat} {ops ops' : Array Oper} (h : Turned σ τ ops ops') {listed listed' : Array Bool} (hs : SameListed σ listed listed') (hn : Region.ready .any ops listed = []) : Region.ready .any ops' listed' = [] := by
  cases hr : Region.ready .any ops' listed' with
  | nil => rfl
  | cons x xs =>
    exfalso
    have hx : σ (τ x) ∈ Region.ready .any ops' listed' := by rw [h.right, hr]; simp
    rw [h.ready hs] at hx
    rw [hn] at hx
    cases hx

theorem Turned.listed {σ τ : Nat → Nat} {ops ops' : Array Oper} (h : Turned σ τ ops ops') {listed listed' : Array Bool} (hs : SameListed σ listed listed') (i : Nat) : SameListed σ (listed.setIfInBounds i true) (listed'.setIfInBounds (σ i) true) := by
  intro j
  rw [Array.getElem?_setIfInBounds, Array.getElem?_setIfInBounds]
  by_cases hij : i = j
  · subst hij
    have := hs i
    simp only [if_true]
    by_cases h1 : i < listed.size
    · have h2 : σ i < listed'.size := by
        rcases Nat.lt_or_ge (σ i) listed'.size with h' | h'
        · exact h'
        · rw [Array.getElem?_eq_none h', Array.getElem?_eq_getElem h1] at this; cases this
      simp [h1, h2]
    · have h2 : ¬ σ i < listed'.size := fun h2 => by
        rw [Array.getElem?_eq_getElem h2, Array.getElem?_eq_none (by omega)] at this; cases this
      simp [h1, h2]
  · rw [if_neg hij, if_neg (fun e => hij (h.inj e))]
    exact hs j

theorem Turned.wp {σ τ : Nat → Nat} {ops ops' : Array Oper} (h : Turned σ τ ops ops') : ∀ (k : Nat) (listed listed' : Array Bool) (a : Act) (w : World), SameListed σ listed listed' → wpAnyIn F n P .any ops' Q k listed' a w → wpAnyIn F n P .any ops Q k listed a w
  | 0, listed, listed', a, w, hs, hh => by
    refine ⟨?_, hh.2⟩
    cases hr : Region.ready .any ops listed with
    | nil => rfl
    | cons x xs =>
      exfalso
      have hx : x ∈ Region.ready .any ops listed := by rw [hr]; simp
      rw [← h.ready hs, hh.1] at hx
      cases hx
  | k + 1, listed, listed', a, w, hs, hh => by
    refine ⟨fun hn => hh.1 (h.nil hs hn), fun i hi => ?_⟩
    exact h.op (fun a w => Turned.wp h k _ _ a w (h.listed hs i)) i a w (hh.2 (σ i) ((h.ready hs i).2 hi))
end

/-! ### One operation moved behind others -/
theorem shift_left {f g : Nat} (h : f < g) (i : Nat) : unshiftIx f g (shiftIx f g i) = i := by
  unfold unshiftIx shiftIx
  cases h1 : Nat.beq i f with
  | true =>
    have := Nat.eq_of_beq_eq_true h1
    simp [this]
  | false =>
    have n1 := Nat.ne_of_beq_eq_false h1
    cases h2 : (Nat.ble (f + 1) i && Nat.ble i g) with
    | true =>
      simp only [Bool.and_eq_true] at h2
      have a1 := Nat.le_of_ble_eq_true h2.1
      have a2 := Nat.le_of_ble_eq_true h2.2
      have b1 : Nat.beq (i - 1) g = false := by
        cases hb : Nat.beq (i - 1) g with
        | false => rfl
        | true => have := Nat.eq_of_beq_eq_true hb; omega
      have b2 : Nat.ble f (i - 1) = true := Nat.ble_eq_true_of_le (by omega)
      have b3 : Nat.ble (i - 1 + 1) g = true := Nat.ble_eq_true_of_le (by omega)
      simp only [cond_true, cond_false, b1, b2, b3, Bool.and_self]
      omega
    | false =>
      have n2 : ¬ (f + 1 ≤ i ∧ i ≤ g) := fun hh => by
        rw [Nat.ble_eq_true_of_le hh.1, Nat.ble_eq_true_of_le hh.2] at h2; cases h2
      have b1 : Nat.beq i g = false := by
        cases hb : Nat.beq i g with
        | false => rfl
        | true => have := Nat.eq_of_beq_eq_true hb; omega
      have b2 : (Nat.ble f i && Nat.ble (i + 1) g) = false := by
        cases hb : (Nat.ble f i && Nat.ble (i + 1) g) with
        | false => rfl
        | true =>
          simp only [Bool.and_eq_true] at hb
          have a1 := Nat.le_of_ble_eq_true hb.1
          have a2 := Nat.le_of_ble_eq_true hb.2
          omega
      simp only [cond_false, b1, b2]
theorem shift_right {f g : Nat} (h : f < g) (i : Nat) : shiftIx f g (unshiftIx f g i) = i := by
  unfold unshiftIx shiftIx
  cases h1 : Nat.beq i g with
  | true =>
    have := Nat.eq_of_beq_eq_true h1
    simp [this]
  | false =>
    have n1 := Nat.ne_of_beq_eq_false h1
    cases h2 : (Nat.ble f i && Nat.ble (i + 1) g) with
    | true =>
      simp only [Bool.and_eq_true] at h2
      have a1 := Nat.le_of_ble_eq_true h2.1
      have a2 := Nat.le_of_ble_eq_true h2.2
      have b1 : Nat.beq (i + 1) f = false := by
        cases hb : Nat.beq (i + 1) f with
        | false => rfl
        | true => have := Nat.eq_of_beq_eq_true hb; omega
      have b2 : Nat.ble (f + 1) (i + 1) = true := Nat.ble_eq_true_of_le (by omega)
      have b3 : Nat.ble (i + 1) g = true := Nat.ble_eq_true_of_le (by omega)
      simp only [cond_true, cond_false, b1, b2, b3, Bool.and_self]
      omega
    | false =>
      have n2 : ¬ (f ≤ i ∧ i + 1 ≤ g) := fun hh => by
        rw [Nat.ble_eq_true_of_le hh.1, Nat.ble_eq_true_of_le hh.2] at h2; cases h2
      have b1 : Nat.beq i f = false := by
        cases hb : Nat.beq i f with
        | false => rfl
        | true => have := Nat.eq_of_beq_eq_true hb; omega
      have b2 : (Nat.ble (f + 1) i && Nat.ble i g) = false := by
        cases hb : (Nat.ble (f + 1) i && Nat.ble i g) with
        | false => rfl
        | true =>
          simp only [Bool.and_eq_true] at hb
          have a1 := Nat.le_of_ble_eq_true hb.1
          have a2 := Nat.le_of_ble_eq_true hb.2
          omega
      simp only [cond_false, b1, b2]
theorem shift_lt {f g n : Nat} (h : f < g) (hg : g < n) (i : Nat) : shiftIx f g i < n ↔ i < n := by
  unfold shiftIx
  cases h1 : Nat.beq i f with
  | true => have := Nat.eq_of_beq_eq_true h1; simp only [cond_true]; omega
  | false =>
    have n1 := Nat.ne_of_beq_eq_false h1
    cases h2 : (Nat.ble (f + 1) i && Nat.ble i g) with
    | true =>
      simp only [Bool.and_eq_true] at h2
      have a1 := Nat.le_of_ble_eq_true h2.1
      have a2 := Nat.le_of_ble_eq_true h2.2
      simp only [cond_true, cond_false]; omega
    | false => simp only [cond_false]
theorem shiftOps_turned {f g : Nat} {ops : Array Oper} (h : f < g) (hg : g < ops.size) : Turned (shiftIx f g) (unshiftIx f g) ops (shiftOps f g ops) where
  left := shift_left h
  right := shift_right h
  size := by simp [shiftOps]
  low := shift_lt h hg
  opAt := fun i => by
    unfold shiftOps
    rcases Nat.lt_or_ge i ops.size with hi | hi
    · have h1 := (shift_lt h hg i).2 hi
      rw [List.getElem?_toArray, List.getElem?_map, List.getElem?_range h1]
      simp only [Option.map_some, shift_left h]
      rw [Array.getElem?_eq_getElem hi]
      simp only [Option.map_some, List.getD_eq_getElem?_getD, Array.getElem?_toList, Array.getElem?_eq_getElem hi, Option.getD_some]
      rfl
    · have h1 : ¬ shiftIx f g i < ops.size := fun hh => by have := (shift_lt h hg i).1 hh; omega
      have e1 : ops[i]? = none := Array.getElem?_eq_none hi
      rw [e1]
      exact Array.getElem?_eq_none (by simp; omega)
theorem lateOf_inv {pf : Array Oper → Option (List (Nat × Nat))} {P : Program} {ops ops' : Array Oper} (h : lateOf pf P ops = some ops') : ∃ f g, f < g ∧ g < ops.size ∧ ops' = shiftOps f g ops := by
  unfold lateOf at h
  obtain ⟨f, hf, h1⟩ := List.exists_of_findSome?_eq_some h
  cases hfl : floatsNo ops.toList f with
  | false => rw [hfl] at h1; cases h1
  | true =>
    rw [hfl] at h1
    simp only [cond_true] at h1
    obtain ⟨g, hg, h2⟩ := List.exists_of_findSome?_eq_some h1
    cases hb : Nat.blt f g with
    | false => rw [hb] at h2; cases h2
    | true =>
      rw [hb] at h2
      simp only [cond_true] at h2
      split at h2
      · cases h2
        refine ⟨f, g, Nat.le_of_ble_eq_true hb, ?_, rfl⟩
        rw [deeds_mem] at hg
        obtain ⟨k, o, hk, _, rfl⟩ := hg
        rw [nth_eq] at hk
        have := (List.getElem?_eq_some_iff.1 hk).1
        simpa using this
      · cases h2

/-- A region, drawn or not. -/
theorem regionA_sound {C : Cfg} {E : Eng} {N : Nat} {φ : Names} {H : AHeap} {w : World} (hm : C.P.follows .mixedOrders = true) (hE : EngOk C N E) (g : Gam N φ H w) (hg : GRel C φ) {a a' : AAct} {ca : Act} (ha : ARel φ a ca) {ops : Array Oper} {draw : Bool} {H' : AHeap}
    (h : regionA C E ops draw a H = some (a', H')) (id : Nat) (ro : Option Nat) : (Code.region id ops draw).wpIn (Wide ro) 0 C.P (Post N φ H w .normal a' H') ca w := by
  unfold regionA at h
  cases draw with
  | false =>
    simp only [Bool.not_false, cond_true] at h
    refine wpIn_region ?_
    have := opsA_sound hE (ops := ops) (ro := ro) (Q := Post N φ H w .normal a' H') ops.toList 0 φ H w a ca a' H' (by simp) g hg ha h fun φ' w' ca' g' x' a' => ⟨rfl, φ', g', x', a'⟩
    rw [List.range_eq_range']
    simpa using this
  | true =>
    simp only [Bool.not_true, cond_false] at h
    refine wpIn_region_any hm ?_
    split at h
    · rename_i ps hps
      exact drawnA_sound hE g hg ha hps h ro
    · split at h
      · cases h
      rename_i ops' hl
      split at h
      case h_2 => cases h
      rename_i ps hps
      obtain ⟨f, k, hfk, hk, rfl⟩ := lateOf_inv hl
      have hT := shiftOps_turned hfk hk
      have hw := drawnA_sound hE g hg ha hps h ro
      rw [hT.size] at hw
      refine hT.wp ops.size _ _ ca _ (fun i => ?_) hw
      rw [Array.getElem?_replicate, Array.getElem?_replicate]
      by_cases hi : i < ops.size
      · rw [if_pos hi, if_pos ((hT.low i).2 hi)]
      · rw [if_neg hi, if_neg (fun hh => hi ((hT.low i).1 hh))]
end Go.Abs
