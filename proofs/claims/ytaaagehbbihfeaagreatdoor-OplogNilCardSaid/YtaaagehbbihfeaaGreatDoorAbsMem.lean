/-
  The abstract machine's memory is the model's: rows read and written.
  Conditions: none.
-/
import Derived.Test.YtaaagehbbihfeaaGreatDoorAbsNum
import Derived.Laws.Cells
import Derived.Laws.CopyRow
import Derived.Laws.Append
namespace Go.Abs

section
variable {P : Program} {N : Nat} {φ : Names} {H : AHeap} {w : World}

theorem row_get {i : Nat} {r : Row} (h : H.row i = some r) : ∃ st, H.get i = some ⟨.cells r.c r.elem r.fz r.esz, st⟩ := by
  unfold AHeap.row at h
  split at h
  · rename_i c e fz z st hg
    cases h
    exact ⟨st, hg⟩
  · cases h

/-- A row that is known, as it lies. -/
structure Lies (φ : Names) (r : Row) (s : Spot) (w : World) (carr : Array Value) (fl fh : Nat) : Prop where
  at_ : w.heap[s.blk]? = some (.cells carr r.elem (fl, fh))
  size : carr.size = s.base + s.room
  esz : s.esz = r.esz
  fits : r.c.length ≤ s.room
  rel : LRel φ r.c ((carr.toList.drop s.base).take r.c.length)
  fz0 : r.fz = 0 → fl = 0 ∧ fh = 0
  fz1 : r.fz = 1 → carr.size ≤ fl ∨ fh ≤ fl

theorem Gam.row (g : Gam N φ H w) {i : Nat} {r : Row} {s : Spot} (h : H.row i = some r) (hs : φ i = some s) :
    ∃ carr fl fh, Lies φ r s w carr fl fh := by
  obtain ⟨st, hg⟩ := row_get h
  obtain ⟨s', o, h1, h2, h3, _⟩ := g.own i _ hg rfl
  rw [hs] at h1; cases h1
  obtain ⟨carr, fl, fh, rfl, a1, a2, a3, a4, a5, a6⟩ := h3
  exact ⟨carr, fl, fh, h2, a1, a2, a3, a4, a5, a6⟩

theorem Gam.row' (g : Gam N φ H w) {i : Nat} {r : Row} (h : H.row i = some r) : ∃ s carr fl fh, φ i = some s ∧ Lies φ r s w carr fl fh := by
  obtain ⟨st, hg⟩ := row_get h
  obtain ⟨s, o, h1, h2, h3, _⟩ := g.own i _ hg rfl
  obtain ⟨carr, fl, fh, rfl, a1, a2, a3, a4, a5, a6⟩ := h3
  exact ⟨s, carr, fl, fh, h1, h2, a1, a2, a3, a4, a5, a6⟩

theorem addr_add (b o j : Nat) : (⟨b, o, none⟩ : Addr).add j = ⟨b, o + j, none⟩ := by
  unfold Addr.add
  split
  · rename_i h; subst h; rfl
  · rfl

/-- Cells of a row, read. -/
theorem Lies.cell {r : Row} {s : Spot} {carr : Array Value} {fl fh : Nat} (l : Lies φ r s w carr fl fh) {o : Nat} {a : AV} (h : r.c[o]? = some a) :
    ∃ v, w.cell? ⟨s.blk, s.base + o, none⟩ = some v ∧ VRel φ a v := by
  obtain ⟨v, hv, hr⟩ := l.rel.get h
  refine ⟨v, ?_, hr⟩
  rw [List.getElem?_take] at hv
  split at hv
  · rw [List.getElem?_drop] at hv
    simp only [World.cell?, l.at_]
    simpa using hv
  · cases hv

theorem Lies.cut {r : Row} {s : Spot} {carr : Array Value} {fl fh : Nat} (l : Lies φ r s w carr fl fh) {o n : Nat} {cs : List AV} (h : cutA r.c o n = some cs) :
    ∃ vs : List Value, (loadCells ⟨s.blk, s.base + o, none⟩ n).run P w = .ok vs.toArray w ∧ LRel φ cs vs ∧ vs.length = n := by
  unfold cutA at h
  cases hb : Nat.ble (o + n) r.c.length with
  | false => simp [hb] at h
  | true =>
    have hle := Nat.le_of_ble_eq_true hb
    simp only [hb, cond_true, Option.some.injEq] at h
    subst h
    have hrel := (l.rel.drop o).take n
    have hlen : (((carr.toList.drop s.base).take r.c.length).drop o |>.take n).length = n := by
      have hf := l.fits
      have hs := l.size
      simp; omega
    refine ⟨_, ?_, hrel, hlen⟩
    have := run_loadCells_list (P := P) w ⟨s.blk, s.base + o, none⟩ ((((carr.toList.drop s.base).take r.c.length).drop o).take n) fun j v hv => by
      rw [addr_add]
      rw [List.getElem?_take] at hv
      split at hv
      · rw [List.getElem?_drop, List.getElem?_take] at hv
        split at hv
        · rw [List.getElem?_drop] at hv
          simp only [World.cell?, l.at_]
          simpa [Nat.add_assoc] using hv
        · cases hv
      · cases hv
    rw [hlen] at this
    exact this

theorem run_sizeOf {t : TypeId} {n : Nat} (h : cellsIn P t = some n) (w : World) : (sizeOf t).run P w = .ok n w := by
  unfold cellsIn at h
  cases hi : P.info? t with
  | none => simp [hi] at h
  | some i => simp [hi] at h; subst h; simp [sizeOf, typeInfo, hi]

theorem aggSize_true {t : TypeId} {n : Nat} (h : aggSize P t = some (true, n)) : cellsIn P t = some n ∧ ∀ w, (isAgg t).run P w = .ok true w := by
  unfold aggSize at h
  split at h <;> (try (simp at h; done))
  · rename_i i hd hi
    simp at h; subst h
    exact ⟨by simp [cellsIn, hi], fun w => by simp [isAgg, run_underlying hd]⟩
  · rename_i i hd hi
    simp at h; subst h
    exact ⟨by simp [cellsIn, hi], fun w => by simp [isAgg, run_underlying hd]⟩
theorem aggSize_false {t : TypeId} {n : Nat} (h : aggSize P t = some (false, n)) : cellsIn P t = some n ∧ ∀ w, (isAgg t).run P w = .ok false w := by
  unfold aggSize at h
  split at h <;> (try (simp at h; done))
  rename_i d i hd1 hd2 hd hi
  simp at h; subst h
  refine ⟨by simp [cellsIn, hi], fun w => ?_⟩
  simp only [isAgg, Sem.run_bind, run_underlying hd, Result.andThen_ok]
  cases d <;> first | rfl | (exact absurd rfl (hd1 _)) | (exact absurd rfl (hd2 _ _)) | skip
  all_goals (first | (rename_i fs; exact absurd hd (hd1 fs i · hi)) | skip)
  all_goals simp_all

theorem loadA_sound (g : Gam N φ H w) {t : TypeId} {i o : Nat} {v : AV} {s : Spot} (hs : φ i = some s) (h : loadA P t i o H = some v) :
    ∃ cv, (loadVar t ⟨s.blk, s.base + o, none⟩).run P w = .ok cv w ∧ VRel φ v cv := by
  unfold loadA at h
  split at h
  · rename_i c e fz z n hr ha
    obtain ⟨carr, fl, fh, l⟩ := g.row hr hs
    obtain ⟨hc, hagg⟩ := aggSize_true ha
    cases hcut : cutA c o n with
    | none => simp [hcut] at h
    | some cs =>
      simp [hcut] at h
      subst h
      obtain ⟨vs, h1, h2, _⟩ := l.cut (P := P) (r := ⟨c, e, fz, z⟩) hcut
      refine ⟨.agg vs.toArray, ?_, .agg_of (by simpa using h2)⟩
      simp [loadVar, hagg, run_sizeOf hc, h1]
  · rename_i c e fz z n hr ha
    obtain ⟨carr, fl, fh, l⟩ := g.row hr hs
    obtain ⟨hc, hagg⟩ := aggSize_false ha
    obtain ⟨cv, h1, h2⟩ := l.cell (r := ⟨c, e, fz, z⟩) h
    exact ⟨cv, by simp [loadVar, hagg, h1], h2⟩
  · cases h

/-! ### Writing -/
theorem flat_one {a : AV} {v : Value} (h : VRel φ a v) (hf : a.flat = true) : v.oneCell' = true := by
  cases h <;> first | rfl | assumption | (simp [AV.flat] at hf)

theorem heap_set_self {b : Nat} {o : Obj} (h : w.heap[b]? = some o) : ({ w with heap := w.heap.setIfInBounds b o } : World) = w := by
  have : w.heap.setIfInBounds b o = w.heap := by
    apply Array.ext_getElem?
    intro i
    by_cases hi : b = i
    · subst hi
      have hlt : b < w.heap.size := (Array.getElem?_eq_some_iff.1 h).1
      rw [Array.getElem?_setIfInBounds_self_of_lt hlt, h]
    · rw [Array.getElem?_setIfInBounds_ne hi]
  rw [this]

/-- Cells laid over a row's, one behind the other; no cell of it is frozen. -/
theorem run_storeCells (g o : Nat) (t : TypeId) (fl fh : Nat) : ∀ (vs : List Value) (i : Nat) (cur : Array Value) (w : World), w.heap[g]? = some (.cells cur t (fl, fh)) → (cur.size ≤ fl ∨ fh ≤ fl) → o + i + vs.length ≤ cur.size →
    (∀ v ∈ vs, v.oneCell' = true) →
    (storeCells ⟨g, o, none⟩ vs i).run P w = .ok () { w with heap := w.heap.setIfInBounds g (.cells (cur.toList.take (o + i) ++ vs ++ cur.toList.drop (o + i + vs.length)).toArray t (fl, fh)) }
  | [], i, cur, w, hg, _, _, _ => by
    simp only [storeCells, List.append_nil, List.length_nil, Nat.add_zero, List.take_append_drop, Array.toArray_toList]
    rw [heap_set_self hg]
    rfl
  | v :: rest, i, cur, w, hg, hf, hl, h1 => by
    have hi : o + i < cur.size := by simp at hl; omega
    have hb : g < w.heap.size := (Array.getElem?_eq_some_iff.1 hg).1
    have hcell : w.cell? ⟨g, o + i, none⟩ = some cur[o + i] := by simp [World.cell?, hg, hi]
    have hfro : w.frozen? ⟨g, o + i, none⟩ = false := by
      simp only [World.frozen?, hg, Bool.and_eq_false_iff, decide_eq_false_iff_not]
      omega
    have hset : w.setCell ⟨g, o + i, none⟩ v = { w with heap := w.heap.setIfInBounds g (.cells (cur.setIfInBounds (o + i) v) t (fl, fh)) } := by
      unfold World.setCell
      congr 1
      apply Array.ext_getElem?
      intro k
      rw [Array.getElem?_modify]
      by_cases hk : g = k
      · subst hk
        have hv : w.heap[g] = .cells cur t (fl, fh) := (Array.getElem?_eq_some_iff.1 hg).2
        simp [hb, hv]
      · rw [Array.getElem?_setIfInBounds_ne hk]; simp [hk]
    have hst : (store ((⟨g, o, none⟩ : Addr).add i) v).run P w = .ok () { w with heap := w.heap.setIfInBounds g (.cells (cur.setIfInBounds (o + i) v) t (fl, fh)) } := by
      rw [addr_add, run_store P w _ v _ (h1 v (by simp)), hcell]
      simp [hfro, hset]
    have ih := run_storeCells g o t fl fh rest (i + 1) (cur.setIfInBounds (o + i) v) { w with heap := w.heap.setIfInBounds g (.cells (cur.setIfInBounds (o + i) v) t (fl, fh)) }
      (by simp [hb]) (by simpa using hf) (by simp at hl ⊢; omega) (fun x hx => h1 x (by simp [hx]))
    simp only [storeCells, Sem.run_bind, hst, Result.andThen_ok, ih]
    congr 2
    rw [Array.setIfInBounds_setIfInBounds]
    congr 3
    have e := list_seg_step cur.toList (o + i) v rest (by simp at hl ⊢; omega)
    simpa [Array.toList_setIfInBounds, Nat.add_assoc] using e

theorem LRel.flat {φ : Names} {as : List AV} {vs : List Value} (h : LRel φ as vs) (hf : as.all AV.flat = true) : ∀ v ∈ vs, v.oneCell' = true := by
  intro v hv
  obtain ⟨j, hj, rfl⟩ := List.mem_iff_getElem.1 hv
  have hja : j < as.length := h.1 ▸ hj
  have := h.2 j as[j] vs[j] (List.getElem?_eq_getElem hja) (List.getElem?_eq_getElem hj)
  exact flat_one this ((List.all_eq_true.1 hf) _ (List.getElem_mem hja))

/-- What is laid over a row. -/
theorem Lies.put {r : Row} {s : Spot} {carr : Array Value} {fl fh : Nat} (l : Lies φ r s w carr fl fh) {o : Nat} {vs : List AV} {us : List Value} {c' : List AV} (h : putA r.c o vs = some c') (hu : LRel φ vs us) (hz : r.fz ≤ 1) :
    (∀ P : Program, (storeCells ⟨s.blk, s.base + o, none⟩ us).run P w = .ok () { w with heap := w.heap.setIfInBounds s.blk (.cells (carr.toList.take (s.base + o) ++ us ++ carr.toList.drop (s.base + o + us.length)).toArray r.elem (fl, fh)) }) ∧
      ORel φ s (.cells c' r.elem r.fz r.esz) (.cells (carr.toList.take (s.base + o) ++ us ++ carr.toList.drop (s.base + o + us.length)).toArray r.elem (fl, fh)) := by
  unfold putA at h
  cases hb : (Nat.ble (o + vs.length) r.c.length && vs.all AV.flat) with
  | false => simp [hb] at h
  | true =>
    rw [Bool.and_eq_true] at hb
    have hle := Nat.le_of_ble_eq_true hb.1
    simp only [hb.1, hb.2, Bool.and_self, cond_true, Option.some.injEq] at h
    subst h
    have hlen := hu.1
    have hs := l.size
    have hfit := l.fits
    have hfz : carr.size ≤ fl ∨ fh ≤ fl := by
      rcases Nat.le_one_iff_eq_zero_or_eq_one.1 hz with h | h
      · have := l.fz0 h; omega
      · exact l.fz1 h
    refine ⟨fun P => run_storeCells s.blk (s.base + o) r.elem fl fh us 0 carr w l.at_ hfz (by omega) (hu.flat hb.2), ?_⟩
    refine ⟨_, fl, fh, rfl, ?_, l.esz, ?_, ?_, l.fz0, ?_⟩
    · simp; omega
    · simp; omega
    · have e : ((carr.toList.take (s.base + o) ++ us ++ carr.toList.drop (s.base + o + us.length)).drop s.base).take (r.c.take o ++ (vs ++ r.c.drop (o + vs.length))).length =
          (((carr.toList.drop s.base).take r.c.length).take o) ++ (us ++ ((carr.toList.drop s.base).take r.c.length).drop (o + us.length)) := by
        have l1 : (r.c.take o ++ (vs ++ r.c.drop (o + vs.length))).length = r.c.length := by simp; omega
        rw [l1]
        apply List.ext_getElem?
        intro j
        simp only [List.getElem?_take, List.getElem?_drop, List.getElem?_append, List.length_take, List.length_drop, Array.length_toList, List.append_assoc]
        by_cases h1 : j < r.c.length
        · by_cases h2 : j < o
          · simp [h1, h2, show s.base + j < min (s.base + o) carr.size by omega, show s.base + j < s.base + o by omega, show j < min o (min r.c.length (carr.size - s.base)) by omega]
          · by_cases h3 : j < o + us.length
            · simp [h1, show ¬ (s.base + j < min (s.base + o) carr.size) by omega, show ¬ (j < min o (min r.c.length (carr.size - s.base))) by omega,
                show s.base + j - min (s.base + o) carr.size = j - o by omega, show j - min o (min r.c.length (carr.size - s.base)) = j - o by omega, show j - o < us.length by omega]
            · simp [h1, show ¬ (s.base + j < min (s.base + o) carr.size) by omega, show ¬ (j < min o (min r.c.length (carr.size - s.base))) by omega,
                show s.base + j - min (s.base + o) carr.size = j - o by omega, show j - min o (min r.c.length (carr.size - s.base)) = j - o by omega, show ¬ (j - o < us.length) by omega,
                show s.base + o + us.length + (j - o - us.length) = s.base + j by omega, show o + us.length + (j - o - us.length) = j by omega]
        · simp [h1, show ¬ (j < min o (min r.c.length (carr.size - s.base))) by omega, show j - min o (min r.c.length (carr.size - s.base)) = j - o by omega, show ¬ (j - o < us.length) by omega,
            show o + us.length + (j - o - us.length) = j by omega]
      simp only []
      rw [e]
      have hrel := l.rel
      refine LRel.append (hrel.take o) (LRel.append hu ?_)
      rw [hlen]
      exact hrel.drop _
    · intro h1
      have := l.fz1 h1
      simp; omega
end
end Go.Abs
