/-
  The operations that change something, one by one: memory, slices, maps, ranges over texts and maps.
  Conditions: none.
-/
import Derived.Test.YtaaagehbbihfeaaGreatDoorAbsAppend
import Derived.Laws.IdiomStrings
import Derived.Laws.MakeOwn
namespace Go.Abs

/-- A step comes to a value, in a heap that is another one. -/
def Gives (P : Program) (N : Nat) (φ : Names) (H : AHeap) (w : World) (s : Sem Value) (v : AV) (H' : AHeap) : Prop :=
  ∃ φ' w', Gam N φ' H' w' ∧ Ext N φ φ' H H' w w' ∧ ∃ cv, s.run P w = .ok cv w' ∧ VRel φ' v cv
/-- A step comes to no value. -/
def Does (P : Program) (N : Nat) (φ : Names) (H : AHeap) (w : World) (s : Sem Unit) (H' : AHeap) : Prop :=
  ∃ φ' w', Gam N φ' H' w' ∧ Ext N φ φ' H H' w w' ∧ s.run P w = .ok () w'

section
variable {P : Program} {N : Nat} {φ : Names} {H : AHeap} {w : World}

theorem run_getObj {r : Nat} {o : Obj} (hb : w.heap[r]? = some o) (hc : ∀ c e f, o ≠ .cells c e f) : (getObj r).run P w = .ok o w := by
  simp only [getObj, Sem.run, hb]

theorem run_setObj {r : Nat} {o : Obj} (n : Obj) (hb : w.heap[r]? = some o) (hc : ∀ c e f, o ≠ .cells c e f) : (setObj r n).run P w = .ok () { w with heap := w.heap.setIfInBounds r n } := by
  simp only [setObj, Sem.run, hb]


/-- A new row. -/
theorem Gam.newRow (g : Gam N φ H w) {c : List AV} {vs : Array Value} (hl : c.length ≤ vs.size) (hr : LRel φ c (vs.toList.take c.length)) (e : TypeId) (fz esz fl fh : Nat) (h0 : fz = 0 → fl = 0 ∧ fh = 0) (h1 : fz = 1 → vs.size ≤ fl ∨ fh ≤ fl) :
    Gam N (φ.add H.next ⟨w.heap.size, 0, vs.size, esz⟩) (H.new (.cells c e fz esz)) { w with heap := w.heap.push (.cells vs e (fl, fh)) } ∧
      Ext N φ (φ.add H.next ⟨w.heap.size, 0, vs.size, esz⟩) H (H.new (.cells c e fz esz)) w { w with heap := w.heap.push (.cells vs e (fl, fh)) } :=
  g.new _ _ ⟨w.heap.size, 0, vs.size, esz⟩ rfl ⟨vs, fl, fh, rfl, by simp, rfl, hl, by simpa using hr.mono (g.le_add _), h0, h1⟩

theorem LRel.full {c : List AV} {vs : Array Value} (h : LRel φ c vs.toList) : c.length ≤ vs.size ∧ LRel φ c (vs.toList.take c.length) := by
  have := h.1
  refine ⟨by simp at this; omega, ?_⟩
  rw [this, List.take_length]; exact h

theorem allocA_sound (g : Gam N φ H w) {e : TypeId} {z : AV} {n : Nat} (hz : zeroOf P e = some z) : Gives P N φ H w (Instr.alloc e true (.tuple #[])) (.ptr H.next 0) (H.new (.cells z.cells e 0 n)) := by
  obtain ⟨cz, h1, h2⟩ := zeroValue_sound (φ := φ) hz w
  obtain ⟨a1, a2⟩ := h2.cells.full
  obtain ⟨g', x'⟩ := g.newRow a1 a2 e 0 n 0 0 (fun _ => ⟨rfl, rfl⟩) (fun _ => .inr (Nat.le_refl _))
  refine ⟨_, _, g', x', .pointer (some ⟨w.heap.size, 0, none⟩), ?_, ?_⟩
  · simp [Instr.alloc, h1, newVar, Go.newRow]

  · exact VRel.ptr (i := H.next) (o := 0) (s := ⟨w.heap.size, 0, cz.cells.size, n⟩) (Names.add_same _ _ _)

theorem boxA_sound (g : Gam N φ H w) {e : TypeId} {v : AV} {cv : Value} {n : Nat} (hv : VRel φ v cv) : Gives P N φ H w (Instr.box e cv) (.ptr H.next 0) (H.new (.cells v.cells e 0 n)) := by
  obtain ⟨a1, a2⟩ := hv.cells.full
  obtain ⟨g', x'⟩ := g.newRow a1 a2 e 0 n 0 0 (fun _ => ⟨rfl, rfl⟩) (fun _ => .inr (Nat.le_refl _))
  refine ⟨_, _, g', x', .pointer (some ⟨w.heap.size, 0, none⟩), ?_, ?_⟩
  · simp [Instr.box, newVar, Go.newRow]

  · exact VRel.ptr (i := H.next) (o := 0) (s := ⟨w.heap.size, 0, cv.cells.size, n⟩) (Names.add_same _ _ _)

/-- Zeros, as many as wanted. -/
theorem zerosA_sound {z : AV} {cz : Value} (h : VRel φ z cz) (hn : 0 < z.cells.length) (n : Nat) : LRel φ (zerosA z.cells n) (madeCells cz.cells (n * z.cells.length)).toList := by
  have hl := h.cells.1
  refine ⟨by simp [zerosA, madeCells], fun j a v ha hv => ?_⟩
  simp only [zerosA, List.getElem?_map, Option.map_eq_some_iff] at ha
  obtain ⟨k, hk, rfl⟩ := ha
  have hjk : k = j := by
    rw [List.getElem?_range] at hk
    · simpa using hk.symm
    · rcases Nat.lt_or_ge j (n * z.cells.length) with h' | h'
      · exact h'
      · rw [List.getElem?_eq_none (by simpa using h')] at hk; cases hk
  subst hjk
  have hj : k < n * z.cells.length := by
    rcases Nat.lt_or_ge k (n * z.cells.length) with h' | h'
    · exact h'
    · rw [List.getElem?_eq_none (by simpa using h')] at hk; cases hk
  simp only [madeCells, Array.toList_map, List.getElem?_map, Array.toList_range, Option.map_eq_some_iff] at hv
  obtain ⟨k', hk', rfl⟩ := hv
  rw [hk] at hk'; cases hk'
  have hmod : k % z.cells.length < z.cells.length := Nat.mod_lt _ hn
  have hs : cz.cells.size = z.cells.length := by simpa using hl.symm
  obtain ⟨u, hu, hr⟩ := h.cells.get (j := k % z.cells.length) (List.getElem?_eq_getElem hmod)
  rw [hs]
  have e1 : z.cells.getD (k % z.cells.length) .nilPtr = z.cells[k % z.cells.length] := by simp [List.getD, List.getElem?_eq_getElem hmod]
  have e2 : cz.cells[k % z.cells.length]! = u := by
    rw [getElem!_def]
    have : cz.cells[k % z.cells.length]? = some u := by simpa using hu
    rw [this]
  rw [e1, e2]; exact hr

theorem fill_size (place : Nat → Option (Nat × Nat)) : ∀ (parts : List (Nat × Value)) (cells r : Array Value), Instr.fill place cells parts = some r → r.size = cells.size
  | [], cells, r, h => by simp [Instr.fill] at h; rw [h]
  | (i, v) :: rest, cells, r, h => by
    simp only [Instr.fill] at h
    split at h
    · cases h
    · split at h
      · cases h
      · have := fill_size place rest _ r h
        rw [this]
        have : ∀ (l : List (Value × Nat)) (off : Nat) (cs : Array Value), (l.foldl (fun (cs : Array Value) (p : Value × Nat) => cs.setIfInBounds (off + p.2) p.1) cs).size = cs.size := by
          intro l
          induction l with
          | nil => intro off cs; rfl
          | cons p l ih => intro off cs; simp only [List.foldl_cons]; rw [ih]; simp
        rw [← Array.foldl_toList]
        exact this _ _ _

theorem buildSliceA_run {t : TypeId} {n : Nat} {parts : List (Nat × AV)} {v : AV} {H' : AHeap} (h : buildSliceA P t n parts H = some (v, H')) {cparts : Array (Nat × Value)} (hp : parts.map (·.1) = cparts.toList.map (·.1))
    (hv : LRel φ (parts.map (·.2)) (cparts.toList.map (·.2))) : ∃ (e : TypeId) (cs : List AV) (cr : Array Value) (size : Nat), v = .slice H.next 0 n n true ∧ H' = H.new (.cells cs e 0 size) ∧ LRel φ cs cr.toList ∧ cr.size = n * size ∧
      ∀ w, (Instr.buildSlice t n cparts).run P w = .ok (.slice (some ⟨w.heap.size, 0, none⟩) n n) { w with heap := w.heap.push (.cells cr e) } := by
  unfold buildSliceA at h
  split at h
  case h_2 => cases h
  rename_i e hu
  split at h
  case h_2 => cases h
  rename_i z size hz hsz
  cases hb : (!(Nat.beq z.cells.length size) || Nat.ble size 0 || !(Nat.ble (n * size) 16777216)) with
  | true => simp [hb] at h
  | false =>
  simp only [hb, cond_false] at h
  rw [Bool.or_eq_false_iff, Bool.or_eq_false_iff] at hb
  have b1 : z.cells.length = size := Nat.eq_of_beq_eq_true (by simpa using hb.1.1)
  have b2 : 0 < size := by
    rcases Nat.eq_zero_or_pos size with h0 | h0
    · have := hb.1.2; simp [h0] at this
    · exact h0
  have b3 : n * size ≤ 16777216 := Nat.le_of_ble_eq_true (by simpa using hb.2)
  split at h
  case h_2 => cases h
  rename_i cs hf
  simp only [Option.some.injEq, Prod.mk.injEq] at h
  obtain ⟨rfl, rfl⟩ := h
  obtain ⟨i, cz, hi, hiz, z2⟩ := zeroOf_sound (φ := φ) hz
  have z1 : ∀ w, (zeroValue e).run P w = .ok cz w := fun w => by simp [zeroValue, typeInfo, hi, hiz]
  have hzz := zerosA_sound z2 (by omega) n
  rw [b1] at hzz
  obtain ⟨cr, q1, q2⟩ := fillA_sound parts _ (madeCells cz.cells (n * size)) cparts.toList cs hf hzz hp hv
  have hcrs : cr.size = n * size := by
    have h1 := fill_size _ _ _ _ q1
    rw [h1]; simp [madeCells]
  refine ⟨e, cs, cr, size, rfl, rfl, q2, hcrs, fun w => ?_⟩
  · have hns : ¬ (16777216 < n * size) := by omega
    have hr0 : Array.range 0 = #[] := rfl
    by_cases h0 : n * size = 0
    · have hn0 : n = 0 := by
        rcases Nat.mul_eq_zero.1 h0 with h | h
        · exact h
        · omega
      subst hn0
      have q1' : Instr.fill (fun i => some (i * size, size)) #[] cparts.toList = some cr := by simpa [madeCells, hr0] using q1
      simp [Instr.buildSlice, run_underlying hu, run_sizeOf hsz, hr0, q1', Go.newRow]
    · have hn0 : ¬ (n = 0 ∨ size = 0) := fun h => h0 (Nat.mul_eq_zero.2 h)
      have q1' : Instr.fill (fun i => some (i * size, size)) (Array.map (fun x => cz.cells[x % cz.cells.size]!) (Array.range (n * size))) cparts.toList = some cr := q1
      simp [Instr.buildSlice, run_underlying hu, run_sizeOf hsz, hns, z1, q1', Go.newRow]
      exact fun h => absurd h h0

theorem buildSliceA_sound (g : Gam N φ H w) {t : TypeId} {n : Nat} {parts : List (Nat × AV)} {v : AV} {H' : AHeap} (h : buildSliceA P t n parts H = some (v, H')) {cparts : Array (Nat × Value)} (hp : parts.map (·.1) = cparts.toList.map (·.1))
    (hv : LRel φ (parts.map (·.2)) (cparts.toList.map (·.2))) : Gives P N φ H w (Instr.buildSlice t n cparts) v H' := by
  obtain ⟨e, cs, cr, size, rfl, rfl, q2, hcrs, hrun⟩ := buildSliceA_run h hp hv
  obtain ⟨a1, a2⟩ := q2.full
  obtain ⟨g', x'⟩ := g.newRow a1 a2 e 0 size 0 0 (fun _ => ⟨rfl, rfl⟩) (fun _ => .inr (Nat.le_refl _))
  refine ⟨_, _, g', x', .slice (some ⟨w.heap.size, 0, none⟩) n n, hrun w, ?_⟩
  have := VRel.slice (φ := φ.add H.next ⟨w.heap.size, 0, cr.size, size⟩) (i := H.next) (o := 0) (len := n) (cap := n) (cc := n) (s := ⟨w.heap.size, 0, cr.size, size⟩) (exact := true) (Names.add_same _ _ _) (Nat.le_refl _) (Nat.le_refl _) (fun _ => rfl) (fun h => by cases h)
  simpa using this

theorem storeA_sound (g : Gam N φ H w) {t : TypeId} {i o : Nat} {v : AV} {cv : Value} {H' : AHeap} {s : Spot} (hs : φ i = some s) (hv : VRel φ v cv) (h : storeA P t i o v H = some H') :
    Does P N φ H w (Instr.storeAt t (.pointer (some ⟨s.blk, s.base + o, none⟩)) cv) H' := by
  unfold storeA at h
  split at h
  case h_2 => cases h
  rename_i c e fz z n hrow hsz
  cases hb : (Nat.beq v.cells.length n && Nat.ble fz 1) with
  | false => simp [hb] at h
  | true =>
  simp only [hb, cond_true, Option.map_eq_some_iff] at h
  obtain ⟨c', hput, rfl⟩ := h
  rw [Bool.and_eq_true] at hb
  have b1 := Nat.eq_of_beq_eq_true hb.1
  have b2 := Nat.le_of_ble_eq_true hb.2
  obtain ⟨carr, fl, fh, li⟩ := g.row hrow hs
  obtain ⟨st, hget⟩ := row_get hrow
  have hNb : N ≤ s.blk := by
    obtain ⟨sp', o', a1, a2, a3, a4⟩ := g.own i _ hget rfl
    rw [hs] at a1; cases a1
    rcases a4 with a4 | ⟨c', el', z', a4⟩
    · exact a4
    · simp only [AObj.cells.injEq] at a4; omega
  obtain ⟨p1, p2⟩ := li.put hput hv.cells b2
  obtain ⟨g', x'⟩ := g.set hget rfl hs hNb _ (.cells c' e fz z) (fun _ => p2)
  refine ⟨φ, _, g', x', ?_⟩
  have hcs : cv.cells.size = n := by rw [← b1]; simpa using hv.cells.1.symm
  simp [Instr.storeAt, Instr.sureAddr, storeVar, run_sizeOf hsz, hcs, p1]

theorem makeMap_sound (g : Gam N φ H w) {t : TypeId} {r : Option AV} {cr : Option Value} (hr : ORelV φ r cr) (h : r = none ∨ ((∃ k n, r = some (.int k n)) ∧ ∃ kt e, P.underlying t = some (.map kt e))) : Gives P N φ H w (Instr.makeMap t cr) (.map H.next) (H.new (.map [] 0)) := by
  obtain ⟨g', x'⟩ := g.new (.map #[] 0) (.map [] 0) ⟨w.heap.size, 0, 0, 0⟩ rfl ⟨#[], rfl, rfl, fun j e c he => by simp at he⟩
  refine ⟨_, _, g', x', .map (some w.heap.size), ?_, VRel.map (s := ⟨w.heap.size, 0, 0, 0⟩) (Names.add_same _ _ _)⟩
  rcases h with rfl | ⟨⟨k, n, rfl⟩, kt, e, hu⟩
  · cases cr with
    | some c => cases hr
    | none => simp [Instr.makeMap]
  · cases cr with
    | none => cases hr
    | some c =>
      cases hr
      simp [Instr.makeMap, run_underlying hu, asInt, asIntOf]

theorem makeSliceA_run {t : TypeId} {l c v : AV} {cl cc : Value} {H' : AHeap} (hl : VRel φ l cl) (hc : VRel φ c cc) (h : makeSliceA P t l c H = some (v, H')) :
    ∃ (e : TypeId) (cs : List AV) (cr : Array Value) (size len cap : Nat), v = .slice H.next 0 len cap true ∧ H' = H.new (.cells cs e 0 size) ∧ LRel φ cs cr.toList ∧ cr.size = cap * size ∧ len ≤ cap ∧
      ∀ w, (Instr.makeSlice t cl cc).run P w = .ok (.slice (some ⟨w.heap.size, 0, none⟩) len cap) { w with heap := w.heap.push (.cells cr e) } := by
  unfold makeSliceA at h
  split at h
  case h_2 => cases h
  rename_i e kl l kc c hu
  split at h
  case h_2 => cases h
  rename_i z size bytes hz hsz hby
  cases hb : (Nat.ble l c && Nat.ble (bytes * c) mostLen && Nat.ble c mostLen && Nat.beq z.cells.length size && Nat.blt 0 size) with
  | false => simp [hb] at h
  | true =>
  simp only [hb, cond_true, Option.some.injEq, Prod.mk.injEq] at h
  obtain ⟨rfl, rfl⟩ := h
  simp only [Bool.and_eq_true] at hb
  obtain ⟨⟨⟨⟨b1, b2⟩, b3⟩, b4⟩, b5⟩ := hb
  have b1 := Nat.le_of_ble_eq_true b1
  have b2 := Nat.le_of_ble_eq_true b2
  have b3 := Nat.le_of_ble_eq_true b3
  have b4 := Nat.eq_of_beq_eq_true b4
  have b5 : 0 < size := Nat.le_of_ble_eq_true b5
  cases hl; cases hc
  obtain ⟨i, cz, hi, hiz, hrz⟩ := zeroOf_sound (φ := φ) hz
  have hisz : i.size = size := by simpa [cellsIn, hi] using hsz
  have hiby : i.bytes = bytes := by simpa [bytesIn, hi] using hby
  have hzz := zerosA_sound hrz (by omega) c
  simp only [mostLen] at b2 b3
  have hbb : (i.bytes : Int) * Int.ofNat c ≤ 281474976710656 := by
    rw [hiby]
    have : ((bytes * c : Nat) : Int) ≤ 281474976710656 := by omega
    rw [Int.natCast_mul] at this
    exact this
  refine ⟨e, _, madeCells cz.cells (c * z.cells.length), size, l, c, rfl, rfl, hzz, by simp [madeCells, b4], b1, fun w => ?_⟩
  have hrun := run_make (P := P) w t e i cz hu hi hiz kl kc (Int.ofNat l) (Int.ofNat c) (by simp) (by simpa using b1) hbb (by simp; omega)
  refine hrun.trans ?_
  rw [b4, ← hisz]; rfl

theorem makeSliceA_sound (g : Gam N φ H w) {t : TypeId} {l c v : AV} {cl cc : Value} {H' : AHeap} (hl : VRel φ l cl) (hc : VRel φ c cc) (h : makeSliceA P t l c H = some (v, H')) : Gives P N φ H w (Instr.makeSlice t cl cc) v H' := by
  unfold makeSliceA at h
  split at h
  case h_2 => cases h
  rename_i e kl l kc c hu
  split at h
  case h_2 => cases h
  rename_i z size bytes hz hsz hby
  cases hb : (Nat.ble l c && Nat.ble (bytes * c) mostLen && Nat.ble c mostLen && Nat.beq z.cells.length size && Nat.blt 0 size) with
  | false => simp [hb] at h
  | true =>
  simp only [hb, cond_true, Option.some.injEq, Prod.mk.injEq] at h
  obtain ⟨rfl, rfl⟩ := h
  simp only [Bool.and_eq_true] at hb
  obtain ⟨⟨⟨⟨b1, b2⟩, b3⟩, b4⟩, b5⟩ := hb
  have b1 := Nat.le_of_ble_eq_true b1
  have b2 := Nat.le_of_ble_eq_true b2
  have b3 := Nat.le_of_ble_eq_true b3
  have b4 := Nat.eq_of_beq_eq_true b4
  have b5 : 0 < size := Nat.le_of_ble_eq_true b5
  cases hl; cases hc
  obtain ⟨i, cz, hi, hiz, hrz⟩ := zeroOf_sound (φ := φ) hz
  have hisz : i.size = size := by simpa [cellsIn, hi] using hsz
  have hiby : i.bytes = bytes := by simpa [bytesIn, hi] using hby
  have hzz := zerosA_sound hrz (by omega) c
  obtain ⟨a1, a2⟩ := hzz.full
  obtain ⟨g', x'⟩ := g.newRow a1 a2 e 0 size 0 0 (fun _ => ⟨rfl, rfl⟩) (fun _ => .inr (Nat.le_refl _))
  simp only [mostLen] at b2 b3
  have hbb : (i.bytes : Int) * Int.ofNat c ≤ 281474976710656 := by
    rw [hiby]
    have : ((bytes * c : Nat) : Int) ≤ 281474976710656 := by omega
    rw [Int.natCast_mul] at this
    exact this
  have hrun := run_make (P := P) w t e i cz hu hi hiz kl kc (Int.ofNat l) (Int.ofNat c) (by simp) (by simpa using b1) hbb (by simp; omega)
  refine ⟨_, _, g', x', .slice (some ⟨w.heap.size, 0, none⟩) l c, hrun.trans ?_, ?_⟩
  · rw [b4, ← hisz]; rfl
  · have hsz2 : (madeCells cz.cells (c * z.cells.length)).size = c * size := by simp [madeCells, b4]
    have := VRel.slice (φ := φ.add H.next ⟨w.heap.size, 0, (madeCells cz.cells (c * z.cells.length)).size, size⟩) (i := H.next) (o := 0) (len := l) (cap := c) (cc := c) (s := ⟨w.heap.size, 0, (madeCells cz.cells (c * z.cells.length)).size, size⟩) (exact := true) (Names.add_same _ _ _) b1 (Nat.le_refl _) (fun _ => rfl) (fun h => by cases h)
    simpa using this
end
end Go.Abs
