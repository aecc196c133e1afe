/-
  append and copy over named blocks: whatever capacity the model picks.
  Conditions: none.
-/
import Derived.Test.YtaaagehbbihfeaaGreatDoorAbsLook4
import Derived.Laws.AppendOwn
namespace Go.Abs

section
variable {P : Program} {N : Nat} {φ : Names} {H : AHeap} {w : World}

theorem countA_sound {x : AV} {n : Nat} {cx : Value} (h : countA x = some n) (hx : VRel φ x cx) (w : World) : (Builtin.lenOf cx).run P w = .ok n w := by
  unfold countA at h
  split at h
  · cases hx; cases h; rfl
  · cases hx; cases h; rfl
  · cases hx; cases h; rfl
  · cases hx; cases h; simp [Builtin.lenOf, bytesOf_size]
  · cases h

theorem firstA_sound (g : Gam N φ H w) {size n m : Nat} {x : AV} {new : List AV} {cx : Value} (h : firstA size n x H = some new) (hc : countA x = some m) (hn : n ≤ m) (hx : VRel φ x cx) :
    ∃ news : List Value, (Builtin.firstCells size n cx).run P w = .ok news.toArray w ∧ LRel φ new news ∧ new.length = n * size := by
  unfold firstA at h
  split at h
  · cases hx
    cases hb : Nat.beq n 0 with
    | false => simp [hb] at h
    | true =>
      have := Nat.eq_of_beq_eq_true hb
      simp [hb] at h; subst h
      exact ⟨[], rfl, .nil _, by simp [this]⟩
  · cases hx
    cases hb : Nat.beq n 0 with
    | false => simp [hb] at h
    | true =>
      have := Nat.eq_of_beq_eq_true hb
      simp only [hb, cond_true, Option.some.injEq] at h; subst h
      subst this
      exact ⟨[], by simp [Builtin.firstCells, loadCells, loadCellsFrom], .nil _, by simp⟩
  · cases hx with | slice hi hl hcc he hr =>
    split at h
    · rename_i c el fz z hrow
      obtain ⟨carr, fl, fh, li⟩ := g.row hrow hi
      obtain ⟨vs, q1, q2, q3⟩ := li.cut (P := P) h
      exact ⟨vs, by simp [Builtin.firstCells, q1], q2, by rw [q2.1, q3]⟩
    · cases h
  · rename_i s
    cases hx with | str _ hs =>
    cases hb : Nat.beq size 1 with
    | false => simp [hb] at h
    | true =>
      have := Nat.eq_of_beq_eq_true hb
      subst this
      simp only [hb, cond_true, Option.some.injEq] at h; subst h
      simp only [countA, Option.some.injEq] at hc
      subst hc
      refine ⟨(s.take n).map fun b => .int .u8 (.ofNat b), ?_, ⟨by simp, fun j a v ha hv => ?_⟩, by simp; omega⟩
      · simp only [Builtin.firstCells, Sem.run_pure]
        congr 1
        apply Array.ext'
        rw [bytesOf_extract]
        simp only [List.drop_zero, bytesOf, Array.toList_map, List.map_map]
        apply List.map_congr_left
        intro b hb
        have := hs b (List.mem_of_mem_take hb)
        simp only [Function.comp]
        rw [toNat_ofNat_of_lt this]
        rfl
      · simp only [List.getElem?_map, Option.map_eq_some_iff] at ha hv
        obtain ⟨b, hb1, rfl⟩ := ha
        obtain ⟨b', hb2, rfl⟩ := hv
        rw [hb1] at hb2; cases hb2
        exact .int _ _
  · cases h

theorem plain_cases {ts : Array TypeId} (h : plainArg P ts = true) : ts[1]? = none ∨ ∃ xt d, ts[1]? = some xt ∧ P.underlying xt = some d ∧ ((∃ e, d = .slice e) ∨ d = .string) := by
  unfold plainArg at h
  split at h
  · exact .inl ‹_›
  · rename_i xt h1
    split at h
    · rename_i e hd; exact .inr ⟨xt, _, h1, hd, .inl ⟨e, rfl⟩⟩
    · rename_i hd; exact .inr ⟨xt, _, h1, hd, .inr rfl⟩
    · cases h

set_option maxHeartbeats 1000000 in
/-- There is room. -/
theorem run_append_in {ts : Array TypeId} {st e ty : TypeId} {size n sLen sCap : Nat} {base : Option Addr} {x : Value} {new : List Value} {w' : World} (hst : ts[0]? = some st) (hu : P.underlying st = some (.slice e)) (hsz : cellsIn P e = some size)
    (hp : plainArg P ts = true) (hlen : (Builtin.lenOf x).run P w = .ok n w) (hnew : (Builtin.firstCells size n x).run P w = .ok new.toArray w) (hroom : sLen + n ≤ sCap)
    (hstore : ∀ a, base = some a → (storeCells (a.add (sLen * size)) new).run P w = .ok () w') (hnone : base = none → w' = w) :
    (Builtin.append_ ts ty #[.slice base sLen sCap, x]).run P w = .ok (.slice base (sLen + n) sCap) w' := by
  rcases plain_cases hp with h1 | ⟨xt, d, h1, hd, ⟨ee, rfl⟩ | rfl⟩
  · cases base with
    | none =>
      have := hnone rfl; subst this
      simp [Builtin.append_, hst, run_underlying hu, run_sizeOf hsz, h1, hlen, hroom, hnew]
    | some a =>
      have := hstore a rfl
      simp [Builtin.append_, hst, run_underlying hu, run_sizeOf hsz, h1, hlen, hroom, hnew, this]
  all_goals
    cases base with
    | none =>
      have := hnone rfl; subst this
      simp [Builtin.append_, hst, run_underlying hu, run_sizeOf hsz, h1, run_underlying hd, hlen, hroom, hnew]
    | some a =>
      have := hstore a rfl
      simp [Builtin.append_, hst, run_underlying hu, run_sizeOf hsz, h1, run_underlying hd, hlen, hroom, hnew, this]

set_option maxHeartbeats 1000000 in
/-- There is none. -/
theorem run_append_out {ts : Array TypeId} {st e ty : TypeId} {i : TypeInfo} {z : Value} {n sLen sCap : Nat} {base : Option Addr} {x : Value} {old new : List Value} (hst : ts[0]? = some st) (hu : P.underlying st = some (.slice e)) (hi : P.info? e = some i) (hz : i.zero = some z)
    (hp : plainArg P ts = true) (hlen : (Builtin.lenOf x).run P w = .ok n w) (hold : (Builtin.firstCells i.size sLen (.slice base sLen sCap)).run P w.drew = .ok old.toArray w.drew) (hnew : (Builtin.firstCells i.size n x).run P w.drew = .ok new.toArray w.drew)
    (hroom : sCap < sLen + n) (hb : (sLen + n) * i.bytes ≤ 140737488355328) (h63 : sLen + n ≤ 9223372036854775807) :
    (Builtin.append_ ts ty #[.slice base sLen sCap, x]).run P w = .ok (.slice (some ⟨w.heap.size, 0, none⟩) (sLen + n) (grownCap w (sLen + n) sCap e))
      (w.drew.alloc (.cells (old ++ new ++ (Builtin.zeroCells z.cells (grownCap w (sLen + n) sCap e - (sLen + n))).toList).toArray e)) := by
  have hn : ¬ (sLen + n ≤ sCap) := by omega
  have h63' : ¬ (9223372036854775807 < ((sLen : Int) + (n : Int))) := by omega
  have hfit := growslice_fits hroom hb
  have h48' : ¬ (281474976710656 < Builtin.nextslicecap (sLen + n) sCap * i.bytes) := by omega
  have hlist : old.toArray ++ (new.toArray ++ Builtin.zeroCells z.cells (grownCap w (sLen + n) sCap e - (sLen + n))) = (old ++ new ++ (Builtin.zeroCells z.cells (grownCap w (sLen + n) sCap e - (sLen + n))).toList).toArray := by
    apply Array.ext'
    simp [List.append_assoc]
  rw [← hlist]
  rcases plain_cases hp with h1 | ⟨xt, d, h1, hd, ⟨ee, rfl⟩ | rfl⟩
  · simp [Builtin.append_, hst, run_underlying hu, sizeOf, typeInfo, zeroValue, hi, hz, h1, hlen, hn, h63', h48', Question.forced, hold, hnew, newRow, grownCap]
  · simp [Builtin.append_, hst, run_underlying hu, sizeOf, typeInfo, zeroValue, hi, hz, h1, run_underlying hd, hlen, hn, h63', h48', Question.forced, hold, hnew, newRow, grownCap]
  · simp [Builtin.append_, hst, run_underlying hu, sizeOf, typeInfo, zeroValue, hi, hz, h1, run_underlying hd, hlen, hn, h63', h48', Question.forced, hold, hnew, newRow, grownCap]

theorem zeroCells_size (z : Array Value) (n : Nat) : (Builtin.zeroCells z n).size = n * z.size := by simp [Builtin.zeroCells]

/-- What append comes to. -/
theorem appendA_sound (g : Gam N φ H w) {ts : Array TypeId} {ty : TypeId} {s x v : AV} {H' : AHeap} {cs cx : Value} (hs : VRel φ s cs) (hx : VRel φ x cx) (h : appendA P ts s x H = some (v, H')) :
    ∃ φ' w', Gam N φ' H' w' ∧ Ext N φ φ' H H' w w' ∧ ∃ cv, (Builtin.append_ ts ty #[cs, cx]).run P w = .ok cv w' ∧ VRel φ' v cv := by
  unfold appendA at h
  split at h
  · cases h
  rename_i st hst
  split at h
  case h_2 => cases h
  rename_i e hu
  split at h
  case h_2 => cases h
  rename_i size bytes z hsz hby hzo
  cases hpl : plainArg P ts with
  | false => simp [hpl] at h
  | true =>
  simp only [hpl, Bool.not_true, cond_false] at h
  cases hzb : (!(Nat.beq z.cells.length size) || Nat.beq bytes 0) with
  | true => simp [hzb] at h
  | false =>
  simp only [hzb, cond_false] at h
  rw [Bool.or_eq_false_iff] at hzb
  have hzl : z.cells.length = size := by simpa using hzb.1
  split at h
  case h_2 => cases h
  rename_i n len hcx hcs
  cases hbd : (!(Nat.ble ((len + n) * bytes) mostLen) || !(Nat.ble bytes mostLen)) with
  | true => simp [hbd] at h
  | false =>
  simp only [hbd, cond_false] at h
  rw [Bool.or_eq_false_iff] at hbd
  have hb1 : (len + n) * bytes ≤ mostLen := Nat.le_of_ble_eq_true (by simpa using hbd.1)
  have hbytes0 : bytes ≠ 0 := Nat.ne_of_beq_eq_false hzb.2
  have hneed : len + n ≤ mostLen := Nat.le_trans (Nat.le_mul_of_pos_right _ (Nat.pos_of_ne_zero hbytes0)) hb1
  split at h
  · cases h
  rename_i new hnew
  have hlx := countA_sound (P := P) hcx hx w
  obtain ⟨i, cz, hi, hiz, hrz⟩ := zeroOf_sound (φ := φ) hzo
  have hisz : i.size = size := by simpa [cellsIn, hi] using hsz
  have hiby : i.bytes = bytes := by simpa [bytesIn, hi] using hby
  have hczl : cz.cells.size = size := by have := hrz.cells.1; simp at this; omega
  have hgcap : ∀ sCap, len + n ≤ grownCap w (len + n) sCap e := fun sCap => grownCap_ge w _ _ e
  -- what is new, read in whatever world holds the heap
  have hnews : ∀ w1, Gam N φ H w1 → ∃ news : List Value, (Builtin.firstCells size n cx).run P w1 = .ok news.toArray w1 ∧ LRel φ new news ∧ new.length = n * size := fun w1 g1 => firstA_sound g1 hnew hcx (Nat.le_refl n) hx
  -- a new row
  have fresh : ∀ H1, Gam N φ H1 w → H1.next = H.next → ∀ (base : Option Addr) (sCap : Nat) (old : List AV) (olds : List Value), sCap < len + n → LRel φ old olds → old.length = len * size → (Builtin.firstCells i.size len (.slice base len sCap)).run P w.drew = .ok olds.toArray w.drew → ∀ fz, fz ≤ 1 →
      ∃ φ' w', Gam N φ' (H1.new (.cells (old ++ new) e fz size)) w' ∧ Ext N φ φ' H1 (H1.new (.cells (old ++ new) e fz size)) w w' ∧ ∃ cv, (Builtin.append_ ts ty #[.slice base len sCap, cx]).run P w = .ok cv w' ∧
        VRel φ' (.slice H.next 0 (len + n) (len + n) false) cv := by
    intro H1 g1 hnx base sCap old olds hroom hold hol hro fz hfz
    rw [← hnx]
    obtain ⟨news, r1, r2, r3⟩ := hnews w.drew (g.drew _)
    have hrun := run_append_out (w := w) (ty := ty) hst hu hi hiz hpl hlx hro (hisz ▸ r1) hroom (by rw [hiby]; simp only [mostLen] at hb1; omega) (by simp only [mostLen] at hneed; omega)
    let c := grownCap w (len + n) sCap e
    have hc : len + n ≤ c := hgcap sCap
    let carr : Array Value := (olds ++ news ++ (Builtin.zeroCells cz.cells (c - (len + n))).toList).toArray
    have hl1 : olds.length = len * size := by rw [← hold.1]; exact hol
    have hl2 : news.length = n * size := by rw [← r2.1]; exact r3
    have hcs' : carr.size = c * size := by
      have hzc : (Builtin.zeroCells cz.cells (c - (len + n))).size = (c - (len + n)) * size := by rw [zeroCells_size, hczl]
      simp only [carr, List.size_toArray, List.length_append, Array.length_toList, hl1, hl2, hzc]
      rw [← Nat.add_mul, ← Nat.add_mul]; congr 1; omega
    let sp : Spot := ⟨w.heap.size, 0, c * size, size⟩
    have hle := g1.le_add sp
    have hor : ORel (φ.add H1.next sp) sp (.cells (old ++ new) e fz size) (.cells carr e) := by
      refine ⟨carr, 0, 0, rfl, by simp [sp, hcs'], rfl, ?_, ?_, fun _ => ⟨rfl, rfl⟩, fun _ => .inr (Nat.le_refl _)⟩
      · simp only [sp, List.length_append, hol, r3]; rw [← Nat.add_mul]; exact Nat.mul_le_mul_right _ hc
      · have : (carr.toList.drop sp.base).take (old ++ new).length = olds ++ news := by
          simp only [carr, sp, List.drop_zero, List.length_append, hol, r3, ← hl1, ← hl2]
          rw [List.take_append_of_le_length (by simp)]
          rw [← List.length_append]; exact List.take_length
        rw [this]
        exact ((hold.append r2).mono hle)
    obtain ⟨g', x'⟩ := (g1.drew (w.drawn + 1)).new (.cells carr e) (.cells (old ++ new) e fz size) sp rfl hor
    refine ⟨φ.add H1.next sp, _, g', x'.undrew, _, hrun, ?_⟩
    have := VRel.slice (φ := φ.add H1.next sp) (i := H1.next) (o := 0) (len := len + n) (cap := len + n) (cc := c) (s := sp) (exact := false) (Names.add_same _ _ _) (Nat.le_refl _) hc (fun h => by cases h) (fun _ => by simp [sp])
    simpa [sp] using this
  split at h
  · -- a nil slice
    cases hs
    simp only [countA, Option.some.injEq] at hcs
    subst hcs
    cases hn0 : Nat.beq n 0 with
    | true =>
      have := Nat.eq_of_beq_eq_true hn0
      simp only [hn0, cond_true, Option.some.injEq, Prod.mk.injEq] at h
      obtain ⟨rfl, rfl⟩ := h
      subst this
      obtain ⟨news, r1, r2, r3⟩ := hnews w g
      refine ⟨φ, w, g, g.refl, .slice none 0 0, ?_, .nilSlice⟩
      exact run_append_in (w := w) (w' := w) hst hu hsz hpl hlx r1 (by simp) (by simp) (fun _ => rfl)
    | false =>
      have hn : n ≠ 0 := Nat.ne_of_beq_eq_false hn0
      simp only [hn0, cond_false, Option.some.injEq, Prod.mk.injEq] at h
      obtain ⟨rfl, rfl⟩ := h
      have := fresh H g rfl none 0 [] [] (by omega) (.nil _) (by simp) (by simp [Builtin.firstCells]) 0 (by omega)
      simpa using this
  · -- an empty slice
    cases hs with | emptySlice a cc =>
    simp only [countA, Option.some.injEq] at hcs
    subst hcs
    cases hn0 : Nat.beq n 0 with
    | false => simp [hn0] at h
    | true =>
      have := Nat.eq_of_beq_eq_true hn0
      simp only [hn0, cond_true, Option.some.injEq, Prod.mk.injEq] at h
      obtain ⟨rfl, rfl⟩ := h
      subst this
      obtain ⟨news, r1, r2, r3⟩ := hnews w g
      have : news = [] := by
        have h0 : new = [] := List.length_eq_zero_iff.1 (by simpa using r3)
        rw [h0] at r2; exact r2.nil_inv
      subst this
      refine ⟨φ, w, g, g.refl, .slice (some a) 0 cc, ?_, .emptySlice a cc⟩
      exact run_append_in (w := w) (w' := w) hst hu hsz hpl hlx r1 (by omega) (fun a _ => rfl) (fun _ => rfl)
  · -- a slice
    rename_i i' o len' cap exact
    have hlen' : len = len' := by simpa [countA] using hcs.symm
    subst hlen'
    cases hs with | slice hphi hl hcc he hr =>
    rename_i cc sp
    split at h
    · cases h
    rename_i c ce fz ez hrow
    obtain ⟨carr, fl, fh, li⟩ := g.row hrow hphi
    obtain ⟨st', hget⟩ := row_get hrow
    have hNb : fz ≤ 1 → N ≤ sp.blk := fun hz => by
      obtain ⟨sp', o', a1, a2, a3, a4⟩ := g.own i' _ hget rfl
      rw [hphi] at a1; cases a1
      rcases a4 with a4 | ⟨c', el', z', a4⟩
      · exact a4
      · simp only [AObj.cells.injEq] at a4; omega
    have hcutold : ∀ old, cutA c o (len * size) = some old → ∀ w1, Gam N φ H w1 → ∃ olds : List Value, (Builtin.firstCells i.size len (.slice (some ⟨sp.blk, sp.base + o, none⟩) len cc)).run P w1 = .ok olds.toArray w1 ∧ LRel φ old olds ∧ old.length = len * size := by
      intro old hcut w1 g1
      obtain ⟨carr1, fl1, fh1, li1⟩ := g1.row hrow hphi
      obtain ⟨vs, q1, q2, q3⟩ := li1.cut (P := P) hcut
      exact ⟨vs, by rw [hisz]; simp [Builtin.firstCells, q1], q2, by rw [q2.1, q3]⟩
    cases hnc : Nat.ble (len + n) cap with
    | true =>
      -- surely in place
      have hin := Nat.le_of_ble_eq_true hnc
      simp only [hnc, cond_true] at h
      cases hfz : Nat.ble fz 1 with
      | false => simp [hfz] at h
      | true =>
        have hfz1 := Nat.le_of_ble_eq_true hfz
        simp only [hfz, cond_true, Option.map_eq_some_iff, Prod.mk.injEq] at h
        obtain ⟨c', hput, rfl, rfl⟩ := h
        obtain ⟨news, r1, r2, r3⟩ := hnews w g
        obtain ⟨p1, p2⟩ := li.put hput r2 hfz1
        obtain ⟨g', x'⟩ := g.set hget rfl hphi (hNb hfz1) _ (.cells c' ce fz ez) (fun _ => p2)
        refine ⟨φ, _, g', x', _, run_append_in (w := w) hst hu hsz hpl hlx r1 (Nat.le_trans hin hcc) (fun a ha => ?_) (fun hn => by cases hn), ?_⟩
        · cases ha
          rw [addr_add, Nat.add_assoc]
          exact p1 P
        · exact .slice hphi hin hcc he hr
    | false =>
      have hnin : ¬ (len + n ≤ cap) := fun hle => by rw [Nat.ble_eq_true_of_le hle] at hnc; cases hnc
      simp only [hnc, cond_false] at h
      cases hex : exact with
      | true =>
        -- surely anew
        simp only [hex, cond_true, Option.map_eq_some_iff, Prod.mk.injEq] at h
        obtain ⟨old, hcut, rfl, rfl⟩ := h
        have hcap := he hex
        obtain ⟨olds, q1, q2, q3⟩ := hcutold old hcut w.drew (g.drew _)
        exact fresh H g rfl _ cc old olds (by omega) q2 q3 q1 0 (by omega)
      | false =>
        simp only [hex, cond_false] at h
        cases hcond : (Nat.beq (o + len * size) c.length && Nat.ble fz 1 && Nat.beq ce e && Nat.beq ez size && new.all AV.flat) with
        | false => simp [hcond] at h
        | true =>
          simp only [hcond, cond_true, Option.map_eq_some_iff, Prod.mk.injEq] at h
          obtain ⟨old, hcut, rfl, rfl⟩ := h
          simp only [Bool.and_eq_true] at hcond
          obtain ⟨⟨⟨⟨c1, c2⟩, c3⟩, c4⟩, c5⟩ := hcond
          have k1 := Nat.eq_of_beq_eq_true c1
          have k2 := Nat.le_of_ble_eq_true c2
          have k3 := Nat.eq_of_beq_eq_true c3
          have k4 := Nat.eq_of_beq_eq_true c4
          subst k3
          have hesz : sp.esz = size := by rw [li.esz]; exact k4
          have hroom := hr hex
          rw [hesz] at hroom
          by_cases hfit : len + n ≤ cc
          · -- it is in place
            obtain ⟨news, r1, r2, r3⟩ := hnews w g
            obtain ⟨olds, q1, q2, q3⟩ := hcutold old hcut w g
            have hnl : news.length = n * size := by rw [← r2.1]; exact r3
            have hmul : (len + n) * size ≤ cc * size := Nat.mul_le_mul_right _ hfit
            have hmul2 : (len + n) * size = len * size + n * size := Nat.add_mul ..
            have hsize := li.size
            have hfz0 : carr.size ≤ fl ∨ fh ≤ fl := by
              rcases Nat.le_one_iff_eq_zero_or_eq_one.1 k2 with h0 | h0
              · have := li.fz0 h0; omega
              · exact li.fz1 h0
            have hst' := run_storeCells (P := P) sp.blk (sp.base + (o + len * size)) ce fl fh news 0 carr w li.at_ hfz0 (by omega) (r2.flat c5)
            simp only [Nat.add_zero] at hst'
            let sp' : Spot := ⟨sp.blk, sp.base + o, sp.room - o, size⟩
            have hle := g.le_add sp'
            have hor : ORel (φ.add H.next sp') sp' (.cells (old ++ new) ce fz size) (.cells (carr.toList.take (sp.base + (o + len * size)) ++ news ++ carr.toList.drop (sp.base + (o + len * size) + news.length)).toArray ce (fl, fh)) := by
              have hsz' : (carr.toList.take (sp.base + (o + len * size)) ++ news ++ carr.toList.drop (sp.base + (o + len * size) + news.length)).toArray.size = carr.size := by simp; omega
              refine ⟨_, fl, fh, rfl, ?_, rfl, ?_, ?_, li.fz0, ?_⟩
              · rw [hsz']; simp only [sp']; omega
              · simp only [sp', List.length_append, q3, r3]; omega
              · have : (((carr.toList.take (sp.base + (o + len * size)) ++ news ++ carr.toList.drop (sp.base + (o + len * size) + news.length)).toArray.toList).drop sp'.base).take (old ++ new).length = ((carr.toList.drop sp.base).take c.length).drop o ++ news := by
                  apply List.ext_getElem?
                  intro j
                  simp only [sp', List.getElem?_take, List.getElem?_drop, List.getElem?_append, List.length_append, List.length_take, List.length_drop, Array.length_toList, q3, r3, ← k1, List.append_assoc]
                  by_cases h1 : j < len * size
                  · simp [h1, show j < len * size + n * size by omega, show sp.base + o + j < min (sp.base + (o + len * size)) carr.size by omega, show sp.base + o + j < sp.base + (o + len * size) by omega,
                      show j < min (o + len * size) (carr.size - sp.base) - o by omega, show sp.base + (o + j) = sp.base + o + j by omega]
                  · by_cases h2 : j < len * size + n * size
                    · simp [h2, show ¬ (sp.base + o + j < min (sp.base + (o + len * size)) carr.size) by omega, show sp.base + o + j - min (sp.base + (o + len * size)) carr.size = j - len * size by omega,
                        show ¬ (j < min (o + len * size) (carr.size - sp.base) - o) by omega, show j - (min (o + len * size) (carr.size - sp.base) - o) = j - len * size by omega, show j - len * size < news.length by omega]
                    · simp [h2, show ¬ (j < min (o + len * size) (carr.size - sp.base) - o) by omega, show j - (min (o + len * size) (carr.size - sp.base) - o) = j - len * size by omega]
                      omega
                rw [this]
                refine LRel.mono hle (LRel.append ?_ r2)
                have hcut' := hcut
                unfold cutA at hcut'
                cases hbb : Nat.ble (o + len * size) c.length with
                | false => simp [hbb] at hcut'
                | true =>
                  simp only [hbb, cond_true, Option.some.injEq] at hcut'
                  have hdl : (c.drop o).take (len * size) = c.drop o := List.take_of_length_le (by simp; omega)
                  rw [hdl] at hcut'
                  rw [← hcut']
                  exact li.rel.drop o
              · rw [hsz']; exact fun h0 => li.fz1 h0
            obtain ⟨g', x'⟩ := g.rename hget rfl hphi (hNb k2) _ (.cells (old ++ new) ce fz size) sp' rfl hor
            refine ⟨φ.add H.next sp', _, g', x', _, run_append_in (w := w) hst hu hsz hpl hlx r1 hfit (fun a ha => ?_) (fun hn => by cases hn), ?_⟩
            · cases ha
              rw [addr_add, Nat.add_assoc]
              exact hst'
            · have := VRel.slice (φ := φ.add H.next sp') (i := H.next) (o := 0) (len := len + n) (cap := len + n) (cc := cc) (s := sp') (exact := false) (Names.add_same _ _ _) (Nat.le_refl _) hfit (fun h => by cases h) (fun _ => by simp only [sp']; omega)
              simpa [sp'] using this
          · -- it is anew; the old name dies nevertheless
            obtain ⟨olds, q1, q2, q3⟩ := hcutold old hcut w.drew (g.drew _)
            obtain ⟨sp0, o0, a1, a2, a3, a4⟩ := g.own _ _ hget rfl
            rw [hphi] at a1; cases a1
            obtain ⟨g1, x1⟩ := g.set hget rfl hphi (hNb k2) o0 .dead (fun h => by cases h)
            have hsame : { w with heap := w.heap.setIfInBounds sp.blk o0 } = w := heap_set_self a2
            rw [hsame] at g1 x1
            obtain ⟨φ', w', g2, x2, cv, r1, r2⟩ := fresh (H.set i' .dead) g1 rfl _ cc old olds (by omega) q2 q3 q1 fz k2
            exact ⟨φ', w', g2, x1.trans g g1 x2, cv, r1, r2⟩
  · cases h
end
end Go.Abs
