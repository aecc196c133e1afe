/-
  A region that draws its order: what holds of every state on the way, in whatever order the operations come up.
  Conditions: none.
-/
import Derived.Test.YtaaagehbbihfeaaGreatDoorAbsDraw1
namespace Go.Abs

/-- A region, run in the order of the text. -/
structure Dr where
  C : Cfg
  E : Eng
  ops : Array Oper
  a : AAct
  H : AHeap
  tr : List (AAct × AHeap × AV)

namespace Dr
def heap (D : Dr) (i : Nat) : AHeap := (stateAt D.a D.H D.tr i).2
def slots (D : Dr) (i : Nat) : Slots := (stateAt D.a D.H D.tr i).1.slots
def val (D : Dr) (i : Nat) : AV := valAt D.tr i
def ms (D : Dr) : List Nat := masks D.ops.toList
def n (D : Dr) : Nat := D.ops.toList.length
def deed (D : Dr) (i : Nat) : Prop := ∃ o, D.ops[i]? = some o ∧ looks D.C.P o = false
end Dr

/-- What has been found of the region. -/
structure Dr.Ok (D : Dr) : Prop where
  trace : traceA D.C D.E D.ops D.ops.toList D.a D.H = some D.tr
  back : ∀ (i : Nat) o, D.ops[i]? = some o → ∀ e ∈ o.after, Region.binds .any e = true → e.on < i
  waits : ∀ (q : Nat) o, D.ops[q]? = some o → looks D.C.P o = false → floats o = false → ∀ p, D.deed p → p < q → bit D.ms q p = true
  early : ∀ (q : Nat) o, D.ops[q]? = some o → looks D.C.P o = false → floats o = true → ∀ x, bit D.ms x q = true → ∀ p, D.deed p → p < q → bit D.ms x p = true
  once : ∀ (p q : Nat) op oq d, D.ops[p]? = some op → D.ops[q]? = some oq → oq.dst = some d → p ≠ q → op.dst ≠ some d
  reads : ∀ (p q : Nat) op oq d, D.ops[p]? = some op → D.ops[q]? = some oq → oq.dst = some d → d ∈ operTmps D.ops op → bit D.ms p q = true ∨ bit D.ms q p = true
  pairs : ∀ (p : Nat) op, D.ops[p]? = some op → looks D.C.P op = true → ∀ t, (t = D.n ∨ D.deed t) → bit D.ms p t = false → (∀ d, D.deed d → d < t → bit D.ms d p = false) →
    (p ≤ t ∧ ∀ d, D.deed d → p ≤ d → t ≤ d) ∨ sameAt D.C D.ops D.ops.toList D.a D.H D.tr p t = true

section
variable {D : Dr}

theorem arr_nth (ops : Array Oper) (i : Nat) : nth ops.toList i = ops[i]? := by rw [nth_eq, Array.getElem?_toList]

theorem mem_zip {l : List Oper} {x : Oper × Nat} : x ∈ l.zipIdx ↔ nth l x.2 = some x.1 := by
  rw [nth_eq]; exact List.mem_zipIdx_iff_getElem?

theorem Dr.ok_of {C : Cfg} {E : Eng} {ops : Array Oper} {a : AAct} {H : AHeap} {tr : List (AAct × AHeap × AV)} {ps : List (Nat × Nat)} (hp : pairsOf C.P ops = some ps) (ht : traceA C E ops ops.toList a H = some tr)
    (hs : (ps.all fun x => sameAt C ops ops.toList a H tr x.1 x.2) = true) : Dr.Ok ⟨C, E, ops, a, H, tr⟩ := by
  unfold pairsOf at hp
  simp only at hp
  cases hd : drawOk ops ops.toList (masks ops.toList) (deeds C.P ops.toList 0) with
  | false => simp [hd] at hp
  | true =>
  simp only [hd, cond_true, Option.some.injEq] at hp
  unfold drawOk at hd
  simp only [Bool.and_eq_true, List.all_eq_true] at hd
  obtain ⟨⟨⟨d1, d2⟩, d3⟩, d4⟩ := hd
  have dm : ∀ j, j ∈ deeds C.P ops.toList 0 ↔ Dr.deed ⟨C, E, ops, a, H, tr⟩ j := fun j => by
    rw [deeds_mem]
    constructor
    · rintro ⟨k, o, h1, h2, rfl⟩
      exact ⟨o, by rw [← arr_nth]; simpa using h1, h2⟩
    · rintro ⟨o, h1, h2⟩
      exact ⟨j, o, by rw [arr_nth]; exact h1, h2, by omega⟩
  refine ⟨ht, ?_, ?_, ?_, ?_, ?_, ?_⟩
  · intro i o ho e he hb
    have := d1 (o, i) (mem_zip.2 (by rw [arr_nth]; exact ho)) e (by simpa using he)
    simp only [hb, Bool.not_true, Bool.false_or] at this
    exact Nat.le_of_ble_eq_true this
  · intro q o ho hl hf p hp' hlt
    have := d2 q ((dm q).2 ⟨o, ho, hl⟩)
    rw [arr_nth, ho] at this
    simp only [hf, Bool.false_or, List.all_eq_true, Bool.or_eq_true] at this
    rcases this p ((dm p).2 hp') with h | h
    · have := Nat.le_of_ble_eq_true h; omega
    · exact h
  · intro q o ho hl hf x hx p hp' hlt
    have h3 := d3 q ((dm q).2 ⟨o, ho, hl⟩)
    rw [arr_nth, ho] at h3
    simp only [hf, Bool.not_true, Bool.false_or, List.all_eq_true] at h3
    obtain ⟨ox, hox, _⟩ := masks_bit ops.toList x q hx
    have := h3 (ox, x) (mem_zip.2 hox)
    simp only [Bool.or_eq_true, List.all_eq_true] at this
    rcases this with h | h
    · have hx' : bit (masks ops.toList) x q = true := hx
      rw [hx'] at h; cases h
    · rcases h p ((dm p).2 hp') with h | h
      · have := Nat.le_of_ble_eq_true h; omega
      · exact h
  · intro p q op oq d hop hoq hd' hne
    have := d4 (op, p) (mem_zip.2 (by rw [arr_nth]; exact hop)) (oq, q) (mem_zip.2 (by rw [arr_nth]; exact hoq))
    simp only [hd', Bool.and_eq_true, Bool.or_eq_true] at this
    rcases this.1 with h | h
    · exact absurd (Nat.eq_of_beq_eq_true h) hne
    · intro hpd
      rw [hpd] at h
      simp at h
  · intro p q op oq d hop hoq hd' hmem
    have := d4 (op, p) (mem_zip.2 (by rw [arr_nth]; exact hop)) (oq, q) (mem_zip.2 (by rw [arr_nth]; exact hoq))
    simp only [hd', Bool.and_eq_true, Bool.or_eq_true] at this
    rcases this.2 with (h | h) | h
    · have hany : (operTmps ops op).any (Nat.beq d) = true := List.any_eq_true.2 ⟨d, hmem, by simp⟩
      rw [hany] at h; cases h
    · exact .inl h
    · exact .inr h
  · intro p op hop hl t ht' hnb hnd
    by_cases hpt : p ≤ t ∧ ∀ d, Dr.deed ⟨C, E, ops, a, H, tr⟩ d → p ≤ d → t ≤ d
    · exact .inl hpt
    · refine .inr ?_
      have hmem : (p, t) ∈ ps := by
        rw [← hp]
        refine List.mem_flatMap.2 ⟨(op, p), mem_zip.2 (by rw [arr_nth]; exact hop), ?_⟩
        simp only [hl, cond_true]
        refine List.mem_map.2 ⟨t, List.mem_filter.2 ⟨?_, ?_⟩, rfl⟩
        · rcases ht' with h | h
          · exact List.mem_cons.2 (.inl h)
          · exact List.mem_cons.2 (.inr ((dm t).2 h))
        · have hnb' : bit (masks ops.toList) p t = false := hnb
          simp only [hnb', Bool.not_false, Bool.true_and, Bool.and_eq_true, List.all_eq_true, Bool.or_eq_true, Bool.not_eq_true', Bool.and_eq_false_iff]
          refine ⟨fun d hd => ?_, ?_⟩
          · by_cases h : t ≤ d
            · exact .inl (Nat.ble_eq_true_of_le h)
            · exact .inr (hnd d ((dm d).1 hd) (by omega))
          · by_cases h : p ≤ t
            · right
              cases hall : (deeds C.P ops.toList 0).all fun d => Nat.blt d p || Nat.ble t d with
              | false => rfl
              | true =>
                exfalso
                apply hpt
                refine ⟨h, fun d hd hpd => ?_⟩
                rw [List.all_eq_true] at hall
                have := hall d ((dm d).2 hd)
                simp only [Bool.or_eq_true] at this
                rcases this with h1 | h1
                · have := Nat.le_of_ble_eq_true h1; omega
                · exact Nat.le_of_ble_eq_true h1
            · left
              cases hb : Nat.ble p t with
              | false => rfl
              | true => exact absurd (Nat.le_of_ble_eq_true hb) h
      rw [List.all_eq_true] at hs
      exact hs (p, t) hmem

theorem Dr.Ok.op (h : D.Ok) {i : Nat} {o : Oper} (ho : D.ops[i]? = some o) : opV D.C D.E D.ops o (stateAt D.a D.H D.tr i).1 (D.heap i) = some ((stateAt D.a D.H D.tr (i + 1)).1, D.heap (i + 1), D.val i) :=
  trace_op h.trace (by rw [arr_nth]; exact ho)

theorem Dr.lt_n {i : Nat} {o : Oper} (ho : D.ops[i]? = some o) : i < D.n := by
  rcases Nat.lt_or_ge i D.ops.size with h | h
  · simpa [Dr.n] using h
  · rw [Array.getElem?_eq_none h] at ho; cases ho
theorem Dr.at_n {i : Nat} (h : i < D.n) : ∃ o, D.ops[i]? = some o := ⟨D.ops[i]'(by simpa [Dr.n] using h), Array.getElem?_eq_getElem _⟩

theorem Dr.Ok.act (h : D.Ok) : ∀ i, i ≤ D.n → (stateAt D.a D.H D.tr i).1.n = D.a.n ∧ (stateAt D.a D.H D.tr i).1.marks = D.a.marks
  | 0, _ => ⟨rfl, rfl⟩
  | i + 1, hi => by
    obtain ⟨o, ho⟩ := Dr.at_n (D := D) (i := i) (by omega)
    obtain ⟨h1, h2, _⟩ := put_cases (opV_cases (h.op ho)).1
    obtain ⟨k1, k2⟩ := h.act i (by omega)
    exact ⟨h1.trans k1, h2.trans k2⟩

theorem Dr.Ok.look (h : D.Ok) {i : Nat} {o : Oper} (ho : D.ops[i]? = some o) (hl : looks D.C.P o = true) : D.heap (i + 1) = D.heap i := by
  rcases (opV_cases (h.op ho)).2 with ⟨_, hs⟩ | ⟨_, _, hs⟩
  · exact (stepA_look hl hs).1
  · exact hs

/-- Between deeds the heap stays as it is. -/
theorem Dr.Ok.still (h : D.Ok) {p : Nat} : ∀ t, p ≤ t → t ≤ D.n → (∀ d, D.deed d → p ≤ d → t ≤ d) → D.heap t = D.heap p := by
  intro t
  induction t with
  | zero => intro hp _ _; rw [Nat.le_zero.1 hp]
  | succ t ih =>
    intro hp hn hd
    rcases Nat.lt_or_ge t p with hlt | hge
    · rw [show t + 1 = p by omega]
    · obtain ⟨o, ho⟩ := Dr.at_n (D := D) (i := t) (by omega)
      have hl : looks D.C.P o = true := by
        cases hl : looks D.C.P o with
        | true => rfl
        | false => have := hd t ⟨o, ho, hl⟩ hge; omega
      rw [h.look ho hl]
      exact ih hge (by omega) fun d hd' hpd => by have := hd d hd' hpd; omega

theorem Dr.Ok.slot (h : D.Ok) {d : Nat} {x : AV} : ∀ p, p ≤ D.n → (D.slots p).get d = some x →
    (∃ q o, q < p ∧ D.ops[q]? = some o ∧ o.dst = some d ∧ D.val q = x) ∨ ((∀ (q : Nat) o, q < p → D.ops[q]? = some o → o.dst ≠ some d) ∧ D.a.slots.get d = some x)
  | 0, _, hx => .inr ⟨fun q o hq => by omega, hx⟩
  | p + 1, hp, hx => by
    obtain ⟨o, ho⟩ := Dr.at_n (D := D) (i := p) (by omega)
    obtain ⟨_, _, h3⟩ := put_cases (opV_cases (h.op ho)).1
    have hx' : (stateAt D.a D.H D.tr (p + 1)).1.slots.get d = some x := hx
    have old : (D.slots p).get d = some x → o.dst ≠ some d → (∃ q o, q < p + 1 ∧ D.ops[q]? = some o ∧ o.dst = some d ∧ D.val q = x) ∨ ((∀ (q : Nat) o, q < p + 1 → D.ops[q]? = some o → o.dst ≠ some d) ∧ D.a.slots.get d = some x) := fun hs hne => by
      rcases h.slot p (by omega) hs with ⟨q, o', h1, h2⟩ | ⟨h1, h2⟩
      · exact .inl ⟨q, o', by omega, h2⟩
      · refine .inr ⟨fun q o' hq ho' => ?_, h2⟩
        rcases Nat.lt_or_ge q p with hlt | hge
        · exact h1 q o' hlt ho'
        · have : q = p := by omega
          subst this; rw [ho] at ho'; cases ho'; exact hne
    rcases h3 with ⟨hd, hs⟩ | ⟨d', hd, _, hs⟩
    · rw [hs] at hx'
      exact old hx' (by rw [hd]; simp)
    · rw [hs] at hx'
      rcases Slots.get_put_inv _ _ _ _ _ hx' with ⟨rfl, rfl⟩ | ⟨hne, hs'⟩
      · exact .inl ⟨p, o, by omega, ho, hd, rfl⟩
      · exact old hs' (by rw [hd]; intro h; exact hne (Option.some.inj h).symm)

theorem Dr.Ok.bit_lt (h : D.Ok) : ∀ (i k : Nat), bit D.ms i k = true → k < i := by
  intro i
  induction i using Nat.strongRecOn with
  | _ i ih =>
    intro k hb
    obtain ⟨o, ho, e, he, hbd, hor⟩ := masks_bit _ i k hb
    have ho' : D.ops[i]? = some o := by rw [← arr_nth]; exact ho
    have hlt := h.back i o ho' e he hbd
    rcases hor with rfl | hor
    · exact hlt
    · have := ih e.on hlt k hor; omega
end

/-! ### What holds on the way -/
def Lst (listed : Array Bool) (i : Nat) : Prop := listed[i]? = some true

theorem lst_set {listed : Array Bool} {p i : Nat} (hp : p < listed.size) : Lst (listed.setIfInBounds p true) i ↔ i = p ∨ Lst listed i := by
  unfold Lst
  by_cases h : p = i
  · subst h; simp [hp]
  · rw [Array.getElem?_setIfInBounds_ne h]
    constructor
    · exact .inr
    · rintro (rfl | h')
      · exact absurd rfl h
      · exact h'

/-- A deed that is not wanted has come up ahead of its turn. -/
def PendU (D : Dr) (φ : Names) (ca : Act) (i : Nat) (o : Oper) : Prop := D.heap (i + 1) = D.heap i ∧ ∃ cv, (∀ d, o.dst = some d → ca.tmps[d]? = some cv) ∧ VRel φ (D.val i) cv
/-- A deed has laid its block ahead of its turn: nobody names it yet. -/
def PendB (D : Dr) (w0 : World) (φ : Names) (w : World) (ca : Act) (i : Nat) (o : Oper) (b : Nat) : Prop :=
  ∃ (aobj : AObj) (obj : Obj) (room esz : Nat) (cv : Value), D.heap (i + 1) = (D.heap i).new aobj ∧ w0.heap.size ≤ b ∧ w.heap[b]? = some obj ∧ (∀ k s, φ k = some s → s.blk ≠ b) ∧
    (∀ φ', Names.le φ φ' → ORel φ' ⟨b, 0, room, esz⟩ aobj obj) ∧ (∀ d, o.dst = some d → ca.tmps[d]? = some cv) ∧ (∀ φ' : Names, φ' (D.heap i).next = some ⟨b, 0, room, esz⟩ → VRel φ' (D.val i) cv)

structure Inv (D : Dr) (N : Nat) (φ0 : Names) (w0 : World) (ca0 : Act) (listed : Array Bool) (t : Nat) (K : Nat → Option Nat) (φ : Names) (w : World) (ca : Act) : Prop where
  size : listed.size = D.ops.size
  closed : ∀ (i : Nat) o, Lst listed i → D.ops[i]? = some o → ∀ e ∈ o.after, Region.binds .any e = true → Lst listed e.on
  tn : t ≤ D.n
  ahead : ∀ i, i < t → D.deed i → Lst listed i
  gam : Gam N φ (D.heap t) w
  ext : Ext N φ0 φ D.H (D.heap t) w0 w
  glob : GRel D.C φ
  tsize : ca.tmps.size = D.a.n
  tdefers : ca.defers = ca0.defers
  old : ∀ (d : Nat) x, D.a.slots.get d = some x → (∀ (i : Nat) o, Lst listed i → D.ops[i]? = some o → o.dst ≠ some d) → ∃ cv, ca.tmps[d]? = some cv ∧ VRel φ x cv
  new : ∀ (i : Nat) o d, Lst listed i → D.ops[i]? = some o → (i < t ∨ looks D.C.P o = true) → o.dst = some d → ∃ cv, ca.tmps[d]? = some cv ∧ VRel φ (D.val i) cv
  pend : ∀ (i : Nat) o, Lst listed i → D.ops[i]? = some o → t ≤ i → looks D.C.P o = false → match K i with
    | none => PendU D φ ca i o
    | some b => PendB D w0 φ w ca i o b
  inj : ∀ i j b, Lst listed i → D.deed i → t ≤ i → Lst listed j → D.deed j → t ≤ j → K i = some b → K j = some b → i = j

section
variable {D : Dr} {N : Nat} {φ0 φ φ' : Names} {w0 w w' : World} {ca0 ca : Act} {listed : Array Bool} {t : Nat} {K : Nat → Option Nat}

theorem Inv.mask (hD : D.Ok) (h : Inv D N φ0 w0 ca0 listed t K φ w ca) : ∀ (i k : Nat), Lst listed i → bit D.ms i k = true → Lst listed k := by
  intro i
  induction i using Nat.strongRecOn with
  | _ i ih =>
    intro k hi hb
    obtain ⟨o, ho, e, he, hbd, hor⟩ := masks_bit _ i k hb
    have ho' : D.ops[i]? = some o := by rw [← arr_nth]; exact ho
    have hl := h.closed i o hi ho' e he hbd
    rcases hor with rfl | hor
    · exact hl
    · exact ih e.on (hD.back i o ho' e he hbd) k hl hor

/-- One that may come up: those that it waits for have come up. -/
theorem Inv.mask_ready (hD : D.Ok) (h : Inv D N φ0 w0 ca0 listed t K φ w ca) {p : Nat} {o : Oper} (ho : D.ops[p]? = some o) (hr : ∀ e ∈ o.after, Region.binds .any e = true → Lst listed e.on) {k : Nat} (hb : bit D.ms p k = true) : Lst listed k := by
  obtain ⟨o', ho', e, he, hbd, hor⟩ := masks_bit _ p k hb
  rw [arr_nth, ho] at ho'; cases ho'
  rcases hor with rfl | hor
  · exact hr e he hbd
  · exact h.mask hD _ _ (hr e he hbd) hor

/-- The turn has come to one that has not come up, or to the end. -/
def Full (D : Dr) (listed : Array Bool) (t : Nat) : Prop := t = D.n ∨ (D.deed t ∧ ¬ Lst listed t)

theorem Inv.reads (hD : D.Ok) (h : Inv D N φ0 w0 ca0 listed t K φ w ca) (hf : Full D listed t) {p : Nat} {o : Oper} (ho : D.ops[p]? = some o) (hp : ¬ Lst listed p) (hr : ∀ e ∈ o.after, Region.binds .any e = true → Lst listed e.on) :
    RRel φ D.ops o (D.slots p) ca.tmps := by
  intro d hd x hx
  have hpn := Dr.lt_n ho
  rcases hD.slot p (by omega) hx with ⟨q, oq, hq, hoq, hdq, rfl⟩ | ⟨hno, hx0⟩
  · have hbit : bit D.ms p q = true := by
      rcases hD.reads p q o oq d ho hoq hdq hd with h1 | h1
      · exact h1
      · have := hD.bit_lt _ _ h1; omega
    have hlq := h.mask_ready hD ho hr hbit
    refine h.new q oq d hlq hoq ?_ hdq
    cases hl : looks D.C.P oq with
    | true => exact .inr rfl
    | false =>
      left
      rcases Nat.lt_or_ge q t with hlt | hge
      · exact hlt
      · exfalso
        have hqn := Dr.lt_n hoq
        rcases hf with rfl | ⟨hdt, hnt⟩
        · omega
        · rcases Nat.lt_or_ge t q with htq | htq
          · cases hfl : floats oq with
            | true => exact hnt (h.mask_ready hD ho hr (hD.early q oq hoq hl hfl p hbit t hdt htq))
            | false => exact hnt (h.mask hD q t hlq (hD.waits q oq hoq hl hfl t hdt htq))
          · have : q = t := by omega
            subst this; exact hnt hlq
  · refine h.old d x hx0 fun i oi hi hoi hdi => ?_
    rcases Nat.lt_or_ge i p with hlt | hge
    · exact hno i oi hlt hoi hdi
    · rcases hD.reads p i o oi d ho hoi hdi hd with h1 | h1
      · have := hD.bit_lt _ _ h1; omega
      · exact hp (h.mask hD i p hi h1)

theorem put_same {ca : Act} {dst : Option Tmp} {d : Nat} {cv : Value} (h : dst = some d) (hd : d < ca.tmps.size) : (ca.put dst cv).tmps[d]? = some cv := by
  subst h; simp [Act.put, hd]
theorem put_other {ca : Act} {dst : Option Tmp} {d : Nat} {cv : Value} (h : dst ≠ some d) : (ca.put dst cv).tmps[d]? = ca.tmps[d]? := by
  cases dst with
  | none => rfl
  | some d' => simp only [Act.put]; rw [Array.getElem?_setIfInBounds_ne (fun hd => h (by rw [hd]))]

/-- One has come up in its turn, or one that only looks. -/
theorem Inv.exec (hD : D.Ok) (h : Inv D N φ0 w0 ca0 listed t K φ w ca) (hg0 : Gam N φ0 D.H w0) {p : Nat} {o : Oper} (ho : D.ops[p]? = some o) (hp : ¬ Lst listed p) (hr : ∀ e ∈ o.after, Region.binds .any e = true → Lst listed e.on)
    {t' : Nat} (ht : (looks D.C.P o = true ∧ t' = t) ∨ (looks D.C.P o = false ∧ p = t ∧ t' = t + 1)) {cv : Value} (g' : Gam N φ' (D.heap t') w') (x' : Ext N φ φ' (D.heap t) (D.heap t') w w') (hv : VRel φ' (D.val p) cv) :
    Inv D N φ0 w0 ca0 (listed.setIfInBounds p true) t' K φ' w' (ca.put o.dst cv) := by
  have hpn := Dr.lt_n ho
  have hps : p < listed.size := by rw [h.size]; simpa [Dr.n] using hpn
  have hle := x'.names
  have htt : t ≤ t' := by rcases ht with ⟨_, h1⟩ | ⟨_, _, h1⟩ <;> omega
  have hput := put_cases (opV_cases (hD.op ho)).1
  have hdlt : ∀ d, o.dst = some d → d < ca.tmps.size := fun d hd => by
    obtain ⟨_, _, h3⟩ := hput
    rcases h3 with ⟨h3, _⟩ | ⟨d', h3, h4, _⟩
    · rw [hd] at h3; cases h3
    · rw [hd] at h3; cases h3
      rw [h.tsize, ← (hD.act p (by omega)).1]; exact h4
  have hdiff : ∀ i oi d, i ≠ p → D.ops[i]? = some oi → oi.dst = some d → o.dst ≠ some d := fun i oi d hne hoi hdi => hD.once p i o oi d ho hoi hdi (Ne.symm hne)
  refine ⟨by simpa using h.size, ?_, ?_, ?_, g', (h.ext.trans hg0 h.gam x'), h.glob.mono hle, by cases hdst : o.dst <;> simp [Act.put, h.tsize], by cases hdst : o.dst <;> simp [Act.put, h.tdefers], ?_, ?_, ?_, ?_⟩
  · intro i oi hi hoi e he hb
    rw [lst_set hps] at hi ⊢
    rcases hi with rfl | hi
    · rw [ho] at hoi; cases hoi; exact .inr (hr e he hb)
    · exact .inr (h.closed i oi hi hoi e he hb)
  · rcases ht with ⟨_, rfl⟩ | ⟨_, rfl, rfl⟩
    · exact h.tn
    · omega
  · intro i hi hdi
    rw [lst_set hps]
    rcases ht with ⟨_, rfl⟩ | ⟨_, rfl, rfl⟩
    · exact .inr (h.ahead i hi hdi)
    · rcases Nat.lt_or_ge i p with hlt | hge
      · exact .inr (h.ahead i hlt hdi)
      · exact .inl (by omega)
  · intro d x hx hno
    have h1 : o.dst ≠ some d := hno p o ((lst_set hps).2 (.inl rfl)) ho
    obtain ⟨cv', k1, k2⟩ := h.old d x hx fun i oi hi hoi => hno i oi ((lst_set hps).2 (.inr hi)) hoi
    exact ⟨cv', by rw [put_other h1]; exact k1, k2.mono hle⟩
  · intro i oi d hi hoi hor hdi
    by_cases hip : i = p
    · subst hip
      rw [ho] at hoi; cases hoi
      exact ⟨cv, put_same hdi (hdlt d hdi), hv⟩
    · have hi' : Lst listed i := by
        rcases (lst_set hps).1 hi with h1 | h1
        · exact absurd h1 hip
        · exact h1
      have hor' : i < t ∨ looks D.C.P oi = true := by
        rcases hor with h1 | h1
        · rcases ht with ⟨_, rfl⟩ | ⟨_, rfl, rfl⟩
          · exact .inl h1
          · exact .inl (by omega)
        · exact .inr h1
      obtain ⟨cv', k1, k2⟩ := h.new i oi d hi' hoi hor' hdi
      exact ⟨cv', by rw [put_other (hdiff i oi d hip hoi hdi)]; exact k1, k2.mono hle⟩
  · intro i oi hi hoi hti hli
    have hip : i ≠ p := by
      rintro rfl
      rw [ho] at hoi; cases hoi
      rcases ht with ⟨h1, _⟩ | ⟨_, h1, h2⟩
      · rw [h1] at hli; cases hli
      · omega
    have hi' : Lst listed i := by
      rcases (lst_set hps).1 hi with h1 | h1
      · exact absurd h1 hip
      · exact h1
    have hpd := h.pend i oi hi' hoi (by omega) hli
    cases hK : K i with
    | none =>
      rw [hK] at hpd
      obtain ⟨k1, cv', k2, k3⟩ := hpd
      exact ⟨k1, cv', fun d hd => by rw [put_other (hdiff i oi d hip hoi hd)]; exact k2 d hd, k3.mono hle⟩
    | some b =>
      rw [hK] at hpd
      obtain ⟨aobj, obj, room, esz, cv', k1, k2, k3, k4, k5, k6, k7⟩ := hpd
      have hblt : b < w.heap.size := (Array.getElem?_eq_some_iff.1 k3).1
      refine ⟨aobj, obj, room, esz, cv', k1, k2, ?_, ?_, fun φ'' hle' => k5 φ'' (Names.le_trans hle hle'), fun d hd => by rw [put_other (hdiff i oi d hip hoi hd)]; exact k6 d hd, k7⟩
      · rw [x'.frame b hblt fun k e s _ _ h3 h4 => absurd h4 (k4 k s h3)]; exact k3
      · intro k s hs
        rcases Nat.lt_or_ge k (D.heap t).next with hlt | hge
        · obtain ⟨s', hs'⟩ := h.gam.cov k hlt
          have := hle _ _ hs'
          rw [hs] at this; cases this
          exact k4 k s hs'
        · rcases x'.fresh k s hge hs with h1 | ⟨j, e, e', s', a1, a2, a3, a4, a5, a6⟩
          · omega
          · rw [← a4]; exact k4 j s' a3
  · intro i j b hi hdi hti hj hdj htj hKi hKj
    have hne : ∀ i, Lst (listed.setIfInBounds p true) i → D.deed i → t' ≤ i → Lst listed i := fun i hi hdi hti => by
      rcases (lst_set hps).1 hi with h1 | h1
      · subst h1
        obtain ⟨oi, hoi, hli⟩ := hdi
        rw [ho] at hoi; cases hoi
        rcases ht with ⟨h1, _⟩ | ⟨_, h1, h2⟩
        · rw [h1] at hli; cases hli
        · omega
      · exact h1
    exact h.inj i j b (hne i hi hdi hti) hdi (by omega) (hne j hj hdj htj) hdj (by omega) hKi hKj

/-- One that may come up early has come up. -/
theorem Inv.float (hD : D.Ok) (h : Inv D N φ0 w0 ca0 listed t K φ w ca) {p : Nat} {o : Oper} (ho : D.ops[p]? = some o) (hp : ¬ Lst listed p) (hr : ∀ e ∈ o.after, Region.binds .any e = true → Lst listed e.on)
    (htp : t ≤ p) (hl : looks D.C.P o = false) {aobj : AObj} {obj : Obj} {room esz : Nat} {cv : Value} (hH : D.heap (p + 1) = (D.heap p).new aobj) (hO : ∀ φ', Names.le φ φ' → ORel φ' ⟨w.heap.size, 0, room, esz⟩ aobj obj)
    (hV : ∀ φ' : Names, φ' (D.heap p).next = some ⟨w.heap.size, 0, room, esz⟩ → VRel φ' (D.val p) cv) :
    Inv D N φ0 w0 ca0 (listed.setIfInBounds p true) t (fun i => if i = p then some w.heap.size else K i) φ { w with heap := w.heap.push obj } (ca.put o.dst cv) := by
  have hpn := Dr.lt_n ho
  have hps : p < listed.size := by rw [h.size]; simpa [Dr.n] using hpn
  have hput := put_cases (opV_cases (hD.op ho)).1
  have hdlt : ∀ d, o.dst = some d → d < ca.tmps.size := fun d hd => by
    obtain ⟨_, _, h3⟩ := hput
    rcases h3 with ⟨h3, _⟩ | ⟨d', h3, h4, _⟩
    · rw [hd] at h3; cases h3
    · rw [hd] at h3; cases h3
      rw [h.tsize, ← (hD.act p (by omega)).1]; exact h4
  have hdiff : ∀ i oi d, i ≠ p → D.ops[i]? = some oi → oi.dst = some d → o.dst ≠ some d := fun i oi d hne hoi hdi => hD.once p i o oi d ho hoi hdi (Ne.symm hne)
  refine ⟨by simpa using h.size, ?_, h.tn, fun i hi hdi => (lst_set hps).2 (.inr (h.ahead i hi hdi)), h.gam.push obj, h.ext.push h.gam obj, h.glob, by cases hdst : o.dst <;> simp [Act.put, h.tsize], by cases hdst : o.dst <;> simp [Act.put, h.tdefers], ?_, ?_, ?_, ?_⟩
  · intro i oi hi hoi e he hb
    rw [lst_set hps] at hi ⊢
    rcases hi with rfl | hi
    · rw [ho] at hoi; cases hoi; exact .inr (hr e he hb)
    · exact .inr (h.closed i oi hi hoi e he hb)
  · intro d x hx hno
    have h1 : o.dst ≠ some d := hno p o ((lst_set hps).2 (.inl rfl)) ho
    obtain ⟨cv', k1, k2⟩ := h.old d x hx fun i oi hi hoi => hno i oi ((lst_set hps).2 (.inr hi)) hoi
    exact ⟨cv', by rw [put_other h1]; exact k1, k2⟩
  · intro i oi d hi hoi hor hdi
    have hip : i ≠ p := by
      rintro rfl
      rw [ho] at hoi; cases hoi
      rcases hor with h1 | h1
      · omega
      · rw [h1] at hl; cases hl
    have hi' : Lst listed i := by
      rcases (lst_set hps).1 hi with h1 | h1
      · exact absurd h1 hip
      · exact h1
    obtain ⟨cv', k1, k2⟩ := h.new i oi d hi' hoi hor hdi
    exact ⟨cv', by rw [put_other (hdiff i oi d hip hoi hdi)]; exact k1, k2⟩
  · intro i oi hi hoi hti hli
    by_cases hip : i = p
    · subst hip
      rw [ho] at hoi; cases hoi
      simp only [if_true]
      refine ⟨aobj, obj, room, esz, cv, hH, h.ext.size, by simp, fun k s hs => ?_, hO, fun d hd => put_same hd (hdlt d hd), hV⟩
      have := (h.gam.dom k s hs).2; omega
    · simp only [if_neg hip]
      have hi' : Lst listed i := by
        rcases (lst_set hps).1 hi with h1 | h1
        · exact absurd h1 hip
        · exact h1
      have hpd := h.pend i oi hi' hoi hti hli
      cases hK : K i with
      | none =>
        rw [hK] at hpd
        obtain ⟨k1, cv', k2, k3⟩ := hpd
        exact ⟨k1, cv', fun d hd => by rw [put_other (hdiff i oi d hip hoi hd)]; exact k2 d hd, k3⟩
      | some b =>
        rw [hK] at hpd
        obtain ⟨aobj', obj', room', esz', cv', k1, k2, k3, k4, k5, k6, k7⟩ := hpd
        have hblt : b < w.heap.size := (Array.getElem?_eq_some_iff.1 k3).1
        refine ⟨aobj', obj', room', esz', cv', k1, k2, ?_, k4, k5, fun d hd => by rw [put_other (hdiff i oi d hip hoi hd)]; exact k6 d hd, k7⟩
        simp only [Array.getElem?_push]; rw [if_neg (by omega)]; exact k3
  · have hlow : ∀ i b, Lst listed i → D.deed i → t ≤ i → K i = some b → b < w.heap.size := fun i b hi ⟨oi, hoi, hli⟩ hti hK => by
      have hpd := h.pend i oi hi hoi hti hli
      rw [hK] at hpd
      obtain ⟨_, _, _, _, _, _, _, k3, _⟩ := hpd
      exact (Array.getElem?_eq_some_iff.1 k3).1
    have hold : ∀ i, i ≠ p → Lst (listed.setIfInBounds p true) i → Lst listed i := fun i hip hi => by
      rcases (lst_set hps).1 hi with h1 | h1
      · exact absurd h1 hip
      · exact h1
    intro i j b hi hdi hti hj hdj htj hKi hKj
    by_cases hip : i = p <;> by_cases hjp : j = p
    · rw [hip, hjp]
    · simp only [hip, if_true, Option.some.injEq] at hKi
      simp only [if_neg hjp] at hKj
      have := hlow j b (hold j hjp hj) hdj htj hKj
      omega
    · simp only [hjp, if_true, Option.some.injEq] at hKj
      simp only [if_neg hip] at hKi
      have := hlow i b (hold i hip hi) hdi hti hKi
      omega
    · simp only [if_neg hip] at hKi
      simp only [if_neg hjp] at hKj
      exact h.inj i j b (hold i hip hi) hdi hti (hold j hjp hj) hdj htj hKi hKj

/-- One that may come up early, and is not wanted. -/
theorem Inv.floatU (hD : D.Ok) (h : Inv D N φ0 w0 ca0 listed t K φ w ca) {p : Nat} {o : Oper} (ho : D.ops[p]? = some o) (hp : ¬ Lst listed p) (hr : ∀ e ∈ o.after, Region.binds .any e = true → Lst listed e.on)
    (htp : t ≤ p) (hl : looks D.C.P o = false) {cv : Value} (hH : D.heap (p + 1) = D.heap p) (hV : VRel φ (D.val p) cv) :
    Inv D N φ0 w0 ca0 (listed.setIfInBounds p true) t (fun i => if i = p then none else K i) φ w (ca.put o.dst cv) := by
  have hpn := Dr.lt_n ho
  have hps : p < listed.size := by rw [h.size]; simpa [Dr.n] using hpn
  have hput := put_cases (opV_cases (hD.op ho)).1
  have hdlt : ∀ d, o.dst = some d → d < ca.tmps.size := fun d hd => by
    obtain ⟨_, _, h3⟩ := hput
    rcases h3 with ⟨h3, _⟩ | ⟨d', h3, h4, _⟩
    · rw [hd] at h3; cases h3
    · rw [hd] at h3; cases h3
      rw [h.tsize, ← (hD.act p (by omega)).1]; exact h4
  have hdiff : ∀ i oi d, i ≠ p → D.ops[i]? = some oi → oi.dst = some d → o.dst ≠ some d := fun i oi d hne hoi hdi => hD.once p i o oi d ho hoi hdi (Ne.symm hne)
  refine ⟨by simpa using h.size, ?_, h.tn, fun i hi hdi => (lst_set hps).2 (.inr (h.ahead i hi hdi)), h.gam, h.ext, h.glob, by cases hdst : o.dst <;> simp [Act.put, h.tsize], by cases hdst : o.dst <;> simp [Act.put, h.tdefers], ?_, ?_, ?_, ?_⟩
  · intro i oi hi hoi e he hb
    rw [lst_set hps] at hi ⊢
    rcases hi with rfl | hi
    · rw [ho] at hoi; cases hoi; exact .inr (hr e he hb)
    · exact .inr (h.closed i oi hi hoi e he hb)
  · intro d x hx hno
    have h1 : o.dst ≠ some d := hno p o ((lst_set hps).2 (.inl rfl)) ho
    obtain ⟨cv', k1, k2⟩ := h.old d x hx fun i oi hi hoi => hno i oi ((lst_set hps).2 (.inr hi)) hoi
    exact ⟨cv', by rw [put_other h1]; exact k1, k2⟩
  · intro i oi d hi hoi hor hdi
    have hip : i ≠ p := by
      rintro rfl
      rw [ho] at hoi; cases hoi
      rcases hor with h1 | h1
      · omega
      · rw [h1] at hl; cases hl
    have hi' : Lst listed i := by
      rcases (lst_set hps).1 hi with h1 | h1
      · exact absurd h1 hip
      · exact h1
    obtain ⟨cv', k1, k2⟩ := h.new i oi d hi' hoi hor hdi
    exact ⟨cv', by rw [put_other (hdiff i oi d hip hoi hdi)]; exact k1, k2⟩
  · intro i oi hi hoi hti hli
    by_cases hip : i = p
    · subst hip
      rw [ho] at hoi; cases hoi
      simp only [if_true]
      exact ⟨hH, cv, fun d hd => put_same hd (hdlt d hd), hV⟩
    · simp only [if_neg hip]
      have hi' : Lst listed i := by
        rcases (lst_set hps).1 hi with h1 | h1
        · exact absurd h1 hip
        · exact h1
      have hpd := h.pend i oi hi' hoi hti hli
      cases hK : K i with
      | none =>
        rw [hK] at hpd
        obtain ⟨k1, cv', k2, k3⟩ := hpd
        exact ⟨k1, cv', fun d hd => by rw [put_other (hdiff i oi d hip hoi hd)]; exact k2 d hd, k3⟩
      | some b =>
        rw [hK] at hpd
        obtain ⟨aobj', obj', room', esz', cv', k1, k2, k3, k4, k5, k6, k7⟩ := hpd
        exact ⟨aobj', obj', room', esz', cv', k1, k2, k3, k4, k5, fun d hd => by rw [put_other (hdiff i oi d hip hoi hd)]; exact k6 d hd, k7⟩
  · have hold : ∀ i, i ≠ p → Lst (listed.setIfInBounds p true) i → Lst listed i := fun i hip hi => by
      rcases (lst_set hps).1 hi with h1 | h1
      · exact absurd h1 hip
      · exact h1
    intro i j b hi hdi hti hj hdj htj hKi hKj
    by_cases hip : i = p
    · simp [hip] at hKi
    · by_cases hjp : j = p
      · simp [hjp] at hKj
      · simp only [if_neg hip] at hKi
        simp only [if_neg hjp] at hKj
        exact h.inj i j b (hold i hip hi) hdi hti (hold j hjp hj) hdj htj hKi hKj

/-- The turn goes on. -/
theorem Inv.absorb (hD : D.Ok) (hN : N ≤ w0.heap.size) (h : Inv D N φ0 w0 ca0 listed t K φ w ca) {o : Oper} (ho : D.ops[t]? = some o) (hor : looks D.C.P o = true ∨ Lst listed t) : ∃ φ', Inv D N φ0 w0 ca0 listed (t + 1) K φ' w ca := by
  have htn := Dr.lt_n ho
  -- the heap is the same; its names too
  have same : D.heap (t + 1) = D.heap t → (∀ d, Lst listed t → o.dst = some d → ∃ cv, ca.tmps[d]? = some cv ∧ VRel φ (D.val t) cv) → ∃ φ', Inv D N φ0 w0 ca0 listed (t + 1) K φ' w ca := fun hH hnew => by
    refine ⟨φ, h.size, h.closed, by omega, fun i hi hdi => ?_, by rw [hH]; exact h.gam, by rw [hH]; exact h.ext, h.glob, h.tsize, h.tdefers, h.old, fun i oi d hi hoi hio hdi => ?_, fun i oi hi hoi hti hli => h.pend i oi hi hoi (by omega) hli,
      fun i j b hi hdi hti hj hdj htj => h.inj i j b hi hdi (by omega) hj hdj (by omega)⟩
    · rcases Nat.lt_or_ge i t with hlt | hge
      · exact h.ahead i hlt hdi
      · have : i = t := by omega
        subst this
        rcases hor with h1 | h1
        · obtain ⟨oi, hoi, hli⟩ := hdi
          rw [ho] at hoi; cases hoi; rw [h1] at hli; cases hli
        · exact h1
    · rcases Nat.lt_or_ge i t with hlt | hge
      · exact h.new i oi d hi hoi (.inl hlt) hdi
      · rcases hio with h1 | h1
        · have : i = t := by omega
          subst this
          rw [ho] at hoi; cases hoi
          exact hnew d hi hdi
        · exact h.new i oi d hi hoi (.inr h1) hdi
  cases hl : looks D.C.P o with
  | true => exact same (hD.look ho hl) fun d hi hd => h.new t o d hi ho (.inr hl) hd
  | false =>
    have hi : Lst listed t := by
      rcases hor with h1 | h1
      · rw [h1] at hl; cases hl
      · exact h1
    have hpd := h.pend t o hi ho (Nat.le_refl _) hl
    cases hK : K t with
    | none =>
      rw [hK] at hpd
      obtain ⟨k1, cv, k2, k3⟩ := hpd
      exact same k1 fun d _ hd => ⟨cv, k2 d hd, k3⟩
    | some b =>
      rw [hK] at hpd
      obtain ⟨aobj, obj, room, esz, cv, k1, k2, k3, k4, k5, k6, k7⟩ := hpd
      have hle : Names.le φ (φ.add (D.heap t).next ⟨b, 0, room, esz⟩) := h.gam.le_add _
      refine ⟨φ.add (D.heap t).next ⟨b, 0, room, esz⟩, h.size, h.closed, by omega, fun i hi' hdi => ?_, ?_, ?_, h.glob.mono hle, h.tsize, h.tdefers, fun d x hx hno => ?_, fun i oi d hi' hoi hio hdi => ?_, fun i oi hi' hoi hti hli => ?_,
        fun i j b hi hdi hti hj hdj htj => h.inj i j b hi hdi (by omega) hj hdj (by omega)⟩
      · rcases Nat.lt_or_ge i t with hlt | hge
        · exact h.ahead i hlt hdi
        · have : i = t := by omega
          subst this; exact hi
      · rw [k1]; exact h.gam.adopt k3 k4 (Nat.le_trans hN k2) (k5 _ hle)
      · rw [k1]; exact h.ext.adopt h.gam k2
      · obtain ⟨cv', q1, q2⟩ := h.old d x hx hno
        exact ⟨cv', q1, q2.mono hle⟩
      · by_cases hit : i = t
        · subst hit
          rw [ho] at hoi; cases hoi
          exact ⟨cv, k6 d hdi, k7 _ (Names.add_same _ _ _)⟩
        · have : i < t ∨ looks D.C.P oi = true := by
            rcases hio with h1 | h1
            · exact .inl (by omega)
            · exact .inr h1
          obtain ⟨cv', q1, q2⟩ := h.new i oi d hi' hoi this hdi
          exact ⟨cv', q1, q2.mono hle⟩
      · have hpd' := h.pend i oi hi' hoi (by omega) hli
        cases hKi : K i with
        | none =>
          rw [hKi] at hpd'
          obtain ⟨q1, cv', q2, q3⟩ := hpd'
          exact ⟨q1, cv', q2, q3.mono hle⟩
        | some b' =>
          rw [hKi] at hpd'
          obtain ⟨aobj', obj', room', esz', cv', q1, q2, q3, q4, q5, q6, q7⟩ := hpd'
          refine ⟨aobj', obj', room', esz', cv', q1, q2, q3, fun k s hs => ?_, fun φ'' hle' => q5 φ'' (Names.le_trans hle hle'), q6, q7⟩
          by_cases hk : k = (D.heap t).next
          · subst hk
            rw [Names.add_same] at hs; cases hs
            intro hbb
            simp only at hbb
            subst hbb
            have := h.inj i t b hi' ⟨oi, hoi, hli⟩ (by omega) hi ⟨o, ho, hl⟩ (Nat.le_refl _) hKi hK
            omega
          · rw [Names.add_ne _ _ hk] at hs; exact q4 k s hs

theorem Inv.full (hD : D.Ok) (hN : N ≤ w0.heap.size) : ∀ (m t : Nat) (φ : Names), D.n - t ≤ m → Inv D N φ0 w0 ca0 listed t K φ w ca → ∃ t' φ', Inv D N φ0 w0 ca0 listed t' K φ' w ca ∧ Full D listed t'
  | 0, t, φ, hm, h => ⟨t, φ, h, .inl (by have := h.tn; omega)⟩
  | m + 1, t, φ, hm, h => by
    rcases Nat.lt_or_ge t D.n with hlt | hge
    · obtain ⟨o, ho⟩ := Dr.at_n hlt
      by_cases hor : looks D.C.P o = true ∨ Lst listed t
      · obtain ⟨φ', h'⟩ := h.absorb hD hN ho hor
        exact Inv.full hD hN m (t + 1) φ' (by omega) h'
      · refine ⟨t, φ, h, .inr ⟨⟨o, ho, ?_⟩, fun hl => hor (.inr hl)⟩⟩
        cases hl : looks D.C.P o with
        | true => exact absurd (.inl hl) hor
        | false => rfl
    · exact ⟨t, φ, h, .inl (by have := h.tn; omega)⟩
end
end Go.Abs
