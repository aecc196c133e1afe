/-
  A region that draws its order, made ready: a block that nobody names yet; what an early deed lays; the states in the order of the text; who waits for whom.
  Conditions: none.
-/
import Derived.Test.YtaaagehbbihfeaaGreatDoorAbsRun
namespace Go.Abs

section
variable {N : Nat} {φ φ0 : Names} {H H0 : AHeap} {w w0 : World}

/-! ### A block that nobody names yet -/
theorem Gam.push (g : Gam N φ H w) (o : Obj) : Gam N φ H { w with heap := w.heap.push o } := by
  refine ⟨fun i p hp => ?_, g.cov, fun i e he hl => ?_, g.inj, g.low, ?_⟩
  · have := g.dom i p hp; exact ⟨this.1, by simp; omega⟩
  · obtain ⟨t, ob, h1, h2, h3, h4⟩ := g.own i e he hl
    refine ⟨t, ob, h1, ?_, h3, h4⟩
    have := (g.dom _ _ h1).2
    simp only [Array.getElem?_push]; rw [if_neg (by omega)]; exact h2
  · have := g.size; simp; omega

theorem Ext.push (g : Gam N φ H w) (x : Ext N φ0 φ H0 H w0 w) (o : Obj) : Ext N φ0 φ H0 H w0 { w with heap := w.heap.push o } := by
  refine ⟨x.names, x.next, x.time, x.keep, x.back, x.fresh, fun b hb hu => ?_, fun b hb => ?_, ?_, x.tape, x.os, x.output⟩
  · rw [← x.frame b hb hu]
    have := x.size
    simp only [Array.getElem?_push]; rw [if_neg (by omega)]
  · rw [← x.low b hb]
    have := g.size
    simp only [Array.getElem?_push]; rw [if_neg (by omega)]
  · have := x.size; simp; omega

theorem Gam.adopt (g : Gam N φ H w) {a : AObj} {o : Obj} {s : Spot} (hb : w.heap[s.blk]? = some o) (hn : ∀ k t, φ k = some t → t.blk ≠ s.blk) (hN : N ≤ s.blk) (h : ORel (φ.add H.next s) s a o) : Gam N (φ.add H.next s) (H.new a) w := by
  have hle := g.le_add s
  have hgi : ∀ i e, (H.new a).get i = some e → (i = H.next ∧ e = ⟨a, H.time⟩) ∨ (i ≠ H.next ∧ H.get i = some e) := fun i e h => Tr.get_ins_inv _ _ _ _ _ h
  have hlt : s.blk < w.heap.size := (Array.getElem?_eq_some_iff.1 hb).1
  refine ⟨?_, ?_, ?_, ?_, ?_, g.size⟩
  · intro i p hp
    by_cases hi : i = H.next
    · subst hi; rw [Names.add_same] at hp; cases hp; exact ⟨by simp [AHeap.new], hlt⟩
    · rw [Names.add_ne _ _ hi] at hp; have := g.dom i p hp; exact ⟨by simp [AHeap.new]; omega, this.2⟩
  · intro i hi
    by_cases hi' : i = H.next
    · exact ⟨s, by rw [hi', Names.add_same]⟩
    · obtain ⟨p, hp⟩ := g.cov i (by simp [AHeap.new] at hi; omega); exact ⟨p, hle _ _ hp⟩
  · intro i e he hl
    rcases hgi i e he with ⟨rfl, rfl⟩ | ⟨hne, hold⟩
    · exact ⟨s, o, Names.add_same _ _ _, hb, h, .inl hN⟩
    · obtain ⟨t, ob, h1, h2, h3, h4⟩ := g.own i e hold hl
      exact ⟨t, ob, hle _ _ h1, h2, h3.mono hle, h4⟩
  · intro i j e e' t t' hi hli hj hlj hp hp' hbb
    rcases hgi i e hi with ⟨rfl, rfl⟩ | ⟨hne, hold⟩ <;> rcases hgi j e' hj with ⟨rfl, rfl⟩ | ⟨hne', hold'⟩
    · rfl
    · rw [Names.add_same] at hp; rw [Names.add_ne _ _ hne'] at hp'; cases hp
      exact absurd hbb.symm (hn _ _ hp')
    · rw [Names.add_same] at hp'; rw [Names.add_ne _ _ hne] at hp; cases hp'
      exact absurd hbb (hn _ _ hp)
    · rw [Names.add_ne _ _ hne] at hp; rw [Names.add_ne _ _ hne'] at hp'
      exact g.inj i j e e' t t' hold hli hold' hlj hp hp' hbb
  · intro i e he
    rcases hgi i e he with ⟨rfl, rfl⟩ | ⟨hne, hold⟩
    · simp [AHeap.new]
    · have := g.low i e hold; simp only [AHeap.new]; omega

theorem Ext.adopt (g : Gam N φ H w) (x : Ext N φ0 φ H0 H w0 w) {a : AObj} {s : Spot} (hs : w0.heap.size ≤ s.blk) : Ext N φ0 (φ.add H.next s) H0 (H.new a) w0 w := by
  have hle := g.le_add s
  have hgi : ∀ i e, (H.new a).get i = some e → (i = H.next ∧ e = ⟨a, H.time⟩) ∨ (i ≠ H.next ∧ H.get i = some e) := fun i e h => Tr.get_ins_inv _ _ _ _ _ h
  have hup : ∀ i e, H.get i = some e → (H.new a).get i = some e := fun i e he => Tr.get_ins_ne _ _ _ _ _ (fun hi => by have := (g.low i e he).2; omega) he
  refine ⟨Names.le_trans x.names hle, by have := x.next; simp [AHeap.new]; omega, by have := x.time; simp [AHeap.new]; omega, ?_, ?_, ?_, ?_, x.low, x.size, x.tape, x.os, x.output⟩
  · intro i e he
    obtain ⟨e', h1, h2⟩ := x.keep i e he
    exact ⟨e', hup _ _ h1, h2⟩
  · intro i e' he hi
    have := x.next
    rcases hgi i e' he with ⟨rfl, rfl⟩ | ⟨hne, hold⟩
    · omega
    · exact x.back i e' hold hi
  · intro i t hi hp
    by_cases hi' : i = H.next
    · subst hi'; rw [Names.add_same] at hp; cases hp; exact .inl hs
    · rw [Names.add_ne _ _ hi'] at hp
      rcases x.fresh i t hi hp with h | ⟨j, e, e', t', a1, a2, a3, a4, a5, a6⟩
      · exact .inl h
      · exact .inr ⟨j, e, e', t', a1, a2, a3, a4, hup _ _ a5, a6⟩
  · intro b hb hu
    refine x.frame b hb fun i e t h1 h2 h3 h4 => ?_
    obtain ⟨e', k1, k2⟩ := hu i e t h1 h2 h3 h4
    obtain ⟨e2, m1, _⟩ := x.keep i e h1
    have := hup _ _ m1
    rw [this] at k1; cases k1
    exact ⟨e', m1, k2⟩

/-! ### What an early deed lays -/
theorem float_sound (C : Cfg) {ev : Operand → Option AV} {ρ : Operand → Value} {o : Oper} (hf : floats o = true) (hρ : Evals φ ev ρ o.op.operands.toList) {n : ANext} {H' : AHeap} (h : doA C ev o H = some (n, H')) :
    ∃ (aobj : AObj) (obj : Obj) (room esz : Nat) (mk : Nat → AV) (cmk : Nat → Value), n = .val (mk H.next) ∧ H' = H.new aobj ∧
      (∀ w, (execOp ρ o).run C.P w = .ok (.value (cmk w.heap.size)) { w with heap := w.heap.push obj }) ∧ (∀ φ' b, Names.le φ φ' → ORel φ' ⟨b, 0, room, esz⟩ aobj obj) ∧ (∀ φ' i b, φ' i = some ⟨b, 0, room, esz⟩ → VRel φ' (mk i) (cmk b)) := by
  have lay : ∀ {c : List AV} {vs : Array Value} (e : TypeId) (esz : Nat), LRel φ c vs.toList → ∀ φ' b, Names.le φ φ' → ORel φ' ⟨b, 0, vs.size, esz⟩ (.cells c e 0 esz) (.cells vs e) := fun {c vs} e esz hr φ' b hle => by
    obtain ⟨h1, h2⟩ := hr.full
    exact ⟨vs, 0, 0, rfl, by simp, rfl, h1, by simpa using h2.mono hle, fun _ => ⟨rfl, rfl⟩, fun _ => .inr (Nat.le_refl _)⟩
  unfold floats at hf
  unfold doA at h
  unfold execOp
  cases ho : o.op
  all_goals (simp only [ho] at h hρ hf ⊢)
  all_goals (try (cases hf; done))
  case alloc e =>
    split at h
    · rename_i z k hz hk
      cases h
      obtain ⟨i, cz, hi, hiz, hrz⟩ := zeroOf_sound (φ := φ) hz
      refine ⟨.cells z.cells e 0 k, .cells cz.cells e, cz.cells.size, k, fun i => .ptr i 0, fun b => .pointer (some ⟨b, 0, none⟩), rfl, rfl, fun w => ?_, lay e k hrz.cells, fun φ' i b hp => VRel.ptr hp⟩
      simp [Instr.alloc, zeroValue, typeInfo, hi, hiz, newVar, Go.newRow]
    · cases h
  case buildSlice t k parts =>
    split at h
    · rename_i ps hps
      simp only [Option.map_eq_some_iff, Prod.mk.injEq] at h
      obtain ⟨⟨v, H1⟩, hb, rfl, rfl⟩ := h
      obtain ⟨q1, q2⟩ := evParts_sound parts.toList ps hps (by simpa [Op.operands] using hρ)
      obtain ⟨e, cs, cr, size, hv, hH, hrel, hlen, hrun⟩ := buildSliceA_run hb (cparts := parts.map fun (i, x) => (i, ρ x)) (by simpa using q1) (by simpa using q2)
      subst hv; subst hH
      refine ⟨.cells cs e 0 size, .cells cr e, cr.size, size, fun i => .slice i 0 k k true, fun b => .slice (some ⟨b, 0, none⟩) k k, rfl, rfl, fun w => ?_, lay e size hrel, fun φ' i b hp => ?_⟩
      · simp [hrun w]
      · have := VRel.slice (φ := φ') (i := i) (o := 0) (len := k) (cap := k) (cc := k) (s := ⟨b, 0, cr.size, size⟩) (exact := true) hp (Nat.le_refl _) (Nat.le_refl _) (fun _ => rfl) (fun h => by cases h)
        simpa using this
    · cases h
  case makeSlice t l c =>
    split at h
    · rename_i a b ha hb'
      simp only [Option.map_eq_some_iff, Prod.mk.injEq] at h
      obtain ⟨⟨v, H1⟩, hb, rfl, rfl⟩ := h
      have q1 : VRel φ a (ρ l) := hρ l (by simp [Op.operands]) a ha
      have q2 : VRel φ b (ρ c) := hρ c (by simp [Op.operands]) b hb'
      obtain ⟨e, cs, cr, size, len, cap, hv, hH, hrel, hlen, hlc, hrun⟩ := makeSliceA_run q1 q2 hb
      subst hv; subst hH
      refine ⟨.cells cs e 0 size, .cells cr e, cr.size, size, fun i => .slice i 0 len cap true, fun b => .slice (some ⟨b, 0, none⟩) len cap, rfl, rfl, fun w => ?_, lay e size hrel, fun φ' i b hp => ?_⟩
      · simp [hrun w]
      · have := VRel.slice (φ := φ') (i := i) (o := 0) (len := len) (cap := cap) (cc := cap) (s := ⟨b, 0, cr.size, size⟩) (exact := true) hp hlc (Nat.le_refl _) (fun _ => rfl) (fun h => by cases h)
        simpa using this
    · cases h
end

/-! ### The states in the order of the text -/
section
variable {C : Cfg} {E : Eng} {ops : Array Oper}

theorem nth_eq {α : Type} : ∀ (l : List α) (i : Nat), nth l i = l[i]?
  | [], i => by cases i <;> rfl
  | x :: l, 0 => rfl
  | x :: l, i + 1 => by simp [nth, nth_eq l i]

theorem trace_step : ∀ (l : List Oper) (a : AAct) (H : AHeap) (tr : List (AAct × AHeap × AV)), traceA C E ops l a H = some tr → ∀ i o, nth l i = some o →
    ∃ x, nth tr i = some x ∧ opV C E ops o (stateAt a H tr i).1 (stateAt a H tr i).2 = some x
  | [], a, H, tr, h, i, o, hi => by cases i <;> simp [nth] at hi
  | o' :: rest, a, H, tr, h, i, o, hi => by
    simp only [traceA] at h
    split at h
    case h_2 => cases h
    rename_i a1 H1 v1 h1
    split at h
    case h_2 => cases h
    rename_i tr' h2
    cases h
    cases i with
    | zero =>
      simp only [nth, Option.some.injEq] at hi
      subst hi
      exact ⟨_, rfl, h1⟩
    | succ i =>
      simp only [nth] at hi
      obtain ⟨x, hx, hv⟩ := trace_step rest a1 H1 tr' h2 i o hi
      refine ⟨x, hx, ?_⟩
      have hst : stateAt a H ((a1, H1, v1) :: tr') (i + 1) = stateAt a1 H1 tr' i := by
        cases i with
        | zero => rfl
        | succ j =>
          obtain ⟨o2, ho2⟩ : ∃ o2, nth rest j = some o2 := by
            rw [nth_eq] at hi ⊢
            have : j + 1 < rest.length := by
              rcases Nat.lt_or_ge (j + 1) rest.length with h' | h'
              · exact h'
              · rw [List.getElem?_eq_none h'] at hi; cases hi
            exact ⟨_, List.getElem?_eq_getElem (by omega)⟩
          obtain ⟨y, hy, _⟩ := trace_step rest a1 H1 tr' h2 j o2 ho2
          simp only [stateAt, nth, hy]
      rw [hst]; exact hv

/-- One operation of the text. -/
theorem trace_op {l : List Oper} {a : AAct} {H : AHeap} {tr : List (AAct × AHeap × AV)} (h : traceA C E ops l a H = some tr) {i : Nat} {o : Oper} (hi : nth l i = some o) :
    opV C E ops o (stateAt a H tr i).1 (stateAt a H tr i).2 = some ((stateAt a H tr (i + 1)).1, (stateAt a H tr (i + 1)).2, valAt tr i) := by
  obtain ⟨⟨a', H', v⟩, hx, hv⟩ := trace_step l a H tr h i o hi
  rw [hv]
  simp only [stateAt, valAt, hx]

/-- What an operation of the text comes to. -/
theorem opV_cases {o : Oper} {a a' : AAct} {H H' : AHeap} {v : AV} (h : opV C E ops o a H = some (a', H', v)) :
    a.put o.dst v = some a' ∧ ((wantedA ops a.slots o = some true ∧ stepA C E o a.slots H = some (v, H')) ∨ (wantedA ops a.slots o = some false ∧ v = .tuple [] ∧ H' = H)) := by
  unfold opV at h
  split at h
  · rename_i hw
    split at h
    · rename_i v1 H1 hs
      split at h
      · rename_i a1 hp
        cases h
        exact ⟨hp, .inl ⟨hw, hs⟩⟩
      · cases h
    · cases h
  · rename_i hw
    split at h
    · rename_i a1 hp
      cases h
      exact ⟨hp, .inr ⟨hw, rfl, rfl⟩⟩
    · cases h
  · cases h

theorem put_cases {a a' : AAct} {dst : Option Tmp} {v : AV} (h : a.put dst v = some a') : a'.n = a.n ∧ a'.marks = a.marks ∧ ((dst = none ∧ a'.slots = a.slots) ∨ ∃ d, dst = some d ∧ d < a.n ∧ a'.slots = a.slots.put d v) := by
  unfold AAct.put at h
  cases dst with
  | none => cases h; exact ⟨rfl, rfl, .inl ⟨rfl, rfl⟩⟩
  | some d =>
    simp only at h
    cases hb : Nat.blt d a.n with
    | false => simp [hb] at h
    | true =>
      have hlt : d < a.n := Nat.le_of_ble_eq_true hb
      simp only [hb, cond_true, Option.some.injEq] at h
      subst h
      exact ⟨rfl, rfl, .inr ⟨d, rfl, hlt, rfl⟩⟩

theorem stepA_look {o : Oper} {s : Slots} {H H' : AHeap} {v : AV} (hl : looks C.P o = true) (h : stepA C E o s H = some (v, H')) : H' = H ∧ lookA C (evA C s) o H = some v := by
  unfold stepA at h
  simp only [hl, cond_true] at h
  split at h
  · rename_i v' hv
    cases h
    exact ⟨rfl, hv⟩
  · cases h

/-! ### Who waits for whom -/
theorem foldBits (acc : List Nat) : ∀ (es : List Edge) (s k : Nat), (es.foldl (fun s e => bif Region.binds .any e then s ||| 2 ^ e.on ||| (nth acc e.on).getD 0 else s) s).testBit k = true →
    s.testBit k = true ∨ ∃ e ∈ es, Region.binds .any e = true ∧ (e.on = k ∨ bit acc e.on k = true)
  | [], s, k, h => .inl h
  | e :: es, s, k, h => by
    simp only [List.foldl_cons] at h
    rcases foldBits acc es _ k h with h1 | ⟨e', he', h2⟩
    · cases hb : Region.binds .any e with
      | false => simp only [hb, cond_false] at h1; exact .inl h1
      | true =>
        simp only [hb, cond_true, Nat.testBit_or, Bool.or_eq_true, Nat.testBit_two_pow, decide_eq_true_eq] at h1
        rcases h1 with (h1 | h1) | h1
        · exact .inl h1
        · exact .inr ⟨e, by simp, hb, .inl h1⟩
        · refine .inr ⟨e, by simp, hb, .inr ?_⟩
          unfold bit
          cases hn : nth acc e.on with
          | none => rw [hn] at h1; simp at h1
          | some m => rw [hn] at h1; simpa using h1
    · exact .inr ⟨e', by simp [he'], h2⟩

theorem masks_snoc (l : List Oper) (o : Oper) : masks (l ++ [o]) = masks l ++ [o.after.toList.foldl (fun s e => bif Region.binds .any e then s ||| 2 ^ e.on ||| (nth (masks l) e.on).getD 0 else s) 0] := by
  unfold masks
  rw [List.foldl_append]
  rfl

theorem snoc_ind {α : Type} {p : List α → Prop} (h0 : p []) (hs : ∀ l x, p l → p (l ++ [x])) (l : List α) : p l := by
  have h : ∀ r : List α, p r.reverse := by
    intro r
    induction r with
    | nil => exact h0
    | cons x r ih => rw [List.reverse_cons]; exact hs _ _ ih
  have := h l.reverse
  rwa [List.reverse_reverse] at this

theorem masks_len (l : List Oper) : (masks l).length = l.length := by
  induction l using snoc_ind with
  | h0 => rfl
  | hs l o ih => rw [masks_snoc]; simp [ih]

theorem nth_append {α : Type} (l : List α) (x : α) (i : Nat) : nth (l ++ [x]) i = if i < l.length then nth l i else if i = l.length then some x else none := by
  simp only [nth_eq, List.getElem?_append]
  split
  · rfl
  · rename_i h
    by_cases h' : i = l.length
    · subst h'; simp
    · rw [if_neg h']; rw [List.getElem?_eq_none]; simp; omega

theorem masks_bit (l : List Oper) : ∀ i k, bit (masks l) i k = true → ∃ o, nth l i = some o ∧ ∃ e ∈ o.after, Region.binds .any e = true ∧ (e.on = k ∨ bit (masks l) e.on k = true) := by
  induction l using snoc_ind with
  | h0 => intro i k h; simp [bit, masks, nth] at h
  | hs l o ih =>
    intro i k h
    have up : ∀ j k, bit (masks l) j k = true → bit (masks (l ++ [o])) j k = true := fun j k hb => by
      unfold bit at hb ⊢
      rw [masks_snoc, nth_append]
      split at hb
      · rename_i m hm
        have : j < (masks l).length := by
          rw [nth_eq] at hm
          rcases Nat.lt_or_ge j (masks l).length with h' | h'
          · exact h'
          · rw [List.getElem?_eq_none h'] at hm; cases hm
        rw [if_pos this, hm]; exact hb
      · cases hb
    unfold bit at h
    rw [masks_snoc, nth_append, masks_len] at h
    by_cases hi : i < l.length
    · rw [if_pos hi] at h
      obtain ⟨o', h1, e, he, h2, h3⟩ := ih i k h
      exact ⟨o', by rw [nth_append, if_pos hi]; exact h1, e, he, h2, h3.imp id (up _ _)⟩
    · rw [if_neg hi] at h
      by_cases hi' : i = l.length
      · rw [if_pos hi'] at h
        simp only at h
        rcases foldBits _ _ _ _ h with h1 | ⟨e, he, h2, h3⟩
        · simp at h1
        · exact ⟨o, by rw [nth_append, if_neg hi, if_pos hi'], e, by simpa using he, h2, h3.imp id (up _ _)⟩
      · rw [if_neg hi'] at h; cases h

theorem deeds_mem (P : Program) : ∀ (l : List Oper) (i j : Nat), j ∈ deeds P l i ↔ ∃ k o, nth l k = some o ∧ looks P o = false ∧ j = i + k
  | [], i, j => by simp [deeds, nth]
  | o :: rest, i, j => by
    simp only [deeds]
    have ih := deeds_mem P rest (i + 1) j
    constructor
    · intro h
      cases hl : looks P o with
      | true =>
        simp only [hl, cond_true] at h
        obtain ⟨k, o', h1, h2, h3⟩ := ih.1 h
        exact ⟨k + 1, o', h1, h2, by omega⟩
      | false =>
        simp only [hl, cond_false, List.mem_cons] at h
        rcases h with rfl | h
        · exact ⟨0, o, rfl, hl, rfl⟩
        · obtain ⟨k, o', h1, h2, h3⟩ := ih.1 h
          exact ⟨k + 1, o', h1, h2, by omega⟩
    · rintro ⟨k, o', h1, h2, rfl⟩
      cases k with
      | zero =>
        simp only [nth, Option.some.injEq] at h1
        subst h1
        simp [h2]
      | succ k =>
        have : i + (k + 1) ∈ deeds P rest (i + 1) := ih.2 ⟨k, o', h1, h2, by omega⟩
        cases looks P o <;> simp [this]
end
end Go.Abs
