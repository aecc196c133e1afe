/-
  The operations that change something, one by one: ranges over texts and maps, copies, texts as bytes.
  Conditions: none.
-/
import Derived.Test.YtaaagehbbihfeaaGreatDoorAbsDo2
import Derived.Laws.RangeString
namespace Go.Abs

section
variable {P : Program} {N : Nat} {φ : Names} {H : AHeap} {w : World}

theorem rangeA_sound (g : Gam N φ H w) {t : TypeId} {x v : AV} {cx : Value} {H' : AHeap} (hx : VRel φ x cx) (h : rangeA P t x H = some (v, H')) : Gives P N φ H w (Instr.range t cx) v H' := by
  have fin : ∀ (a : AObj) (o : Obj), ORel (φ.add H.next ⟨w.heap.size, 0, 0, 0⟩) ⟨w.heap.size, 0, 0, 0⟩ a o →
      ∃ φ' w', Gam N φ' (H.new a) w' ∧ Ext N φ φ' H (H.new a) w w' ∧ (newObj o).run P w = .ok w.heap.size w' ∧ VRel φ' (.ptr H.next 0) (.pointer (some ⟨w.heap.size, 0, none⟩)) := fun a o ho => by
    obtain ⟨g', x'⟩ := g.new o a ⟨w.heap.size, 0, 0, 0⟩ rfl ho
    exact ⟨_, _, g', x', rfl, VRel.ptr (i := H.next) (o := 0) (s := ⟨w.heap.size, 0, 0, 0⟩) (Names.add_same _ _ _)⟩
  unfold rangeA at h
  split at h
  · rename_i s hu
    cases h
    cases hx with | str _ hs =>
    obtain ⟨φ', w', g', x', r, hv⟩ := fin (.strIter s 0) (.stringIter (bytesOf s) 0) ⟨rfl, rfl, hs⟩
    exact ⟨φ', w', g', x', _, by simp [Instr.range, run_underlying hu, r], hv⟩
  · rename_i kt e hu
    cases h
    cases hx
    obtain ⟨φ', w', g', x', r, hv⟩ := fin (.mapIter none 0 [] 0) (.mapIter none 0 #[] 0) ⟨rfl, none, rfl, rfl⟩
    exact ⟨φ', w', g', x', _, by simp [Instr.range, run_underlying hu, r], hv⟩
  · rename_i kt e m hu
    cases hx with | map hphi =>
    rename_i s
    split at h
    case h_2 => cases h
    rename_i es clock hma
    cases h
    obtain ⟨ces, c1, c2, c3⟩ := g.map hma hphi
    have hgo : (getObj s.blk).run P w = .ok (.map ces clock) w := run_getObj c1 (fun _ _ _ h => by cases h)
    obtain ⟨φ', w', g', x', r, hv⟩ := fin (.mapIter (some m) clock [] clock) (.mapIter (some s.blk) clock #[] clock) ⟨rfl, some s.blk, rfl, s, g.le_add _ _ _ hphi, rfl⟩
    exact ⟨φ', w', g', x', _, by simp [Instr.range, run_underlying hu, hgo, r], hv⟩
  · cases h

theorem filter_born {φ : Names} (p : Nat → Bool) : ∀ (es : List AEnt) (ces : List MapEntry), ERel φ es ces → ERel φ (es.filter fun e => p e.born) (ces.filter fun e => p e.born)
  | [], ces, h => by rw [h.nil_inv]; exact ⟨rfl, fun j e c he => by simp at he⟩
  | e :: es, ces, h => by
    obtain ⟨c, ces', rfl, ⟨k1, k2, k3⟩, h'⟩ := h.cons_inv
    have ih := filter_born p es ces' h'
    simp only [List.filter_cons, k3]
    split
    · refine ⟨by simp [ih.1], fun j x y hx hy => ?_⟩
      cases j with
      | zero => simp at hx hy; subst hx; subst hy; exact ⟨k1, k2, k3⟩
      | succ j => simp at hx hy; exact ih.2 j x y hx hy
    · exact ih

theorem all_born {φ : Names} (p : Nat → Bool) : ∀ (es : List AEnt) (ces : List MapEntry), ERel φ es ces → (es.all fun e => p e.born) = (ces.all fun e => p e.born)
  | [], ces, h => by rw [h.nil_inv]; rfl
  | e :: es, ces, h => by
    obtain ⟨c, ces', rfl, ⟨k1, k2, k3⟩, h'⟩ := h.cons_inv
    simp only [List.all_cons, k3, all_born p es ces' h']

theorem nextA_sound (g : Gam N φ H w) {it v : AV} {b : Bool} {ci : Value} {H' : AHeap} (hi : VRel φ it ci) (h : nextA it b H = some (v, H')) (ty : TypeId) : Gives P N φ H w (Instr.next ci b ty) v H' := by
  unfold nextA at h
  split at h
  case h_2 => cases h
  rename_i i
  cases hi with | ptr hphi =>
  rename_i s
  have over : ∀ (q : Sem Value), q.run P w = .ok (.tuple #[.bool false]) w → Gives P N φ H w q (.tuple [.bool false]) H := fun q hq => ⟨φ, w, g, g.refl, _, hq, VRel.tuple_of (.cons (.bool _) (.nil _))⟩
  split at h
  · -- a text
    rename_i t pos st hget
    obtain ⟨s', o, a1, a2, a3, a4⟩ := g.own i _ hget rfl
    rw [hphi] at a1; cases a1
    obtain ⟨b0, rfl, b2⟩ := a3
    have hN : N ≤ s.blk := by
      rcases a4 with a4 | ⟨c, el, z, a4⟩
      · exact a4
      · simp at a4
    have hgo : (getObj s.blk).run P w = .ok (.stringIter (bytesOf t) pos) w := run_getObj a2 (fun _ _ _ h => by cases h)
    split at h
    · rename_i c hc
      cases h128 : Nat.blt c 128 with
      | false => simp [h128] at h
      | true =>
      have hlt : c < 128 := Nat.le_of_ble_eq_true h128
      simp only [h128, cond_true, Option.some.injEq, Prod.mk.injEq] at h
      obtain ⟨rfl, rfl⟩ := h
      have hpos : pos < t.length := by
        rcases Nat.lt_or_ge pos t.length with h' | h'
        · exact h'
        · rw [List.getElem?_eq_none h'] at hc; cases hc
      have hps : pos < (bytesOf t).size := by rw [bytesOf_size]; exact hpos
      have hb : ((bytesOf t)[pos]'hps).toNat = c := by
        have e1 : t[pos] = c := by rw [List.getElem?_eq_getElem hpos] at hc; exact Option.some.inj hc
        have e2 : (bytesOf t)[pos]'hps = UInt8.ofNat t[pos] := by
          show (bytesOf t).data[pos]'hps = _
          simp [bytesOf]
        rw [e2, e1, toNat_ofNat_of_lt (by omega)]
      have hdec := decode_ascii (bytesOf t) pos hps (by omega)
      rw [hb] at hdec
      obtain ⟨g', x'⟩ := g.set hget rfl hphi hN (.stringIter (bytesOf t) (pos + 1)) (.strIter t (pos + 1)) (fun _ => ⟨b0, rfl, b2⟩)
      have hso := run_setObj (P := P) (.stringIter (bytesOf t) (pos + 1)) a2 (fun _ _ _ h => by cases h)
      refine ⟨φ, _, g', x', .tuple #[.bool true, goInt pos, .int .i32 c], ?_, VRel.tuple_of (.cons (.bool _) (.cons (.int _ _) (.cons (.int _ _) (.nil _))))⟩
      simp [Instr.next, b0, hgo, hps, hdec, hso]
    · rename_i hc
      cases h
      have hps : ¬ (pos < (bytesOf t).size) := by
        rw [bytesOf_size]; intro h'
        rw [List.getElem?_eq_getElem h'] at hc; cases hc
      exact over _ (by simp [Instr.next, b0, hgo, hps])
  · -- a nil map
    rename_i since seen stepped st hget
    cases h
    obtain ⟨s', o, a1, a2, a3, a4⟩ := g.own i _ hget rfl
    rw [hphi] at a1; cases a1
    obtain ⟨b0, cm, rfl, rfl⟩ := a3
    have hgo : (getObj s.blk).run P w = .ok (.mapIter none since seen.toArray stepped) w := run_getObj a2 (fun _ _ _ h => by cases h)
    exact over _ (by simp [Instr.next, b0, hgo])
  · -- a map
    rename_i m since seen last st hget
    obtain ⟨s', o, a1, a2, a3, a4⟩ := g.own i _ hget rfl
    rw [hphi] at a1; cases a1
    obtain ⟨b0, cm, rfl, tm, hm1, rfl⟩ := a3
    have hN : N ≤ s.blk := by
      rcases a4 with a4 | ⟨c, el, z, a4⟩
      · exact a4
      · simp at a4
    have hgo : (getObj s.blk).run P w = .ok (.mapIter (some tm.blk) since seen.toArray last) w := run_getObj a2 (fun _ _ _ h => by cases h)
    split at h
    case h_2 => cases h
    rename_i es clock hma
    obtain ⟨ces, c1, c2, c3⟩ := g.map hma hm1
    have hgm : (getObj tm.blk).run P w = .ok (.map ces clock) w := run_getObj c1 (fun _ _ _ h => by cases h)
    cases hgone : (!seen.isEmpty && !es.isEmpty && es.all (fun e => Nat.ble last e.born)) with
    | true => simp [hgone] at h
    | false =>
    simp only [hgone, cond_false] at h
    have hgone' : (!seen.toArray.isEmpty && !ces.isEmpty && ces.all (fun e => e.born ≥ last)) = false := by
      have e1 : ces.isEmpty = es.isEmpty := by
        have := c2.1
        rcases ces with ⟨l⟩
        simp at this
        cases es <;> cases l <;> simp at this ⊢
      have e2 : ces.all (fun e => decide (e.born ≥ last)) = es.all (fun e => Nat.ble last e.born) := by
        rw [all_born (fun n => Nat.ble last n) es ces.toList c2]
        rcases ces with ⟨l⟩
        simp only [List.all_toArray]
        congr 1
        funext e
        rw [Bool.eq_iff_iff]; simp
      rw [e1, e2, ← hgone]
      simp
    have hfil := filter_born (φ := φ) (fun n => !seen.any (Nat.beq n)) es ces.toList c2
    have hleft : (ces.filter fun e => !seen.toArray.contains e.born).toList = ces.toList.filter fun e => !seen.any (Nat.beq e.born) := by
      rcases ces with ⟨l⟩
      simp only [List.filter_toArray]
      congr 1
      funext e
      congr 1
      rw [Bool.eq_iff_iff]
      simp only [List.contains_toArray, List.contains_iff_mem, List.any_eq_true]
      constructor
      · intro h; exact ⟨_, h, by simp⟩
      · rintro ⟨x, hx, he⟩; have := Nat.eq_of_beq_eq_true he; rw [this]; exact hx
    have hb0 : s.base + 0 = 0 := by omega
    split at h
    · rename_i hnil
      cases h
      have : (ces.filter fun e => !seen.toArray.contains e.born) = #[] := by
        apply Array.toList_inj.1
        rw [hleft]
        rw [hnil] at hfil
        exact hfil.nil_inv
      refine over _ ?_
      rw [hb0]
      simp only [Instr.next, Sem.run_bind, hgo, Result.andThen_ok, hgm, hgone', Bool.false_eq_true, if_false, this]
      simp [Question.forced]
    · rename_i e hone
      cases hsince : Nat.blt e.born since with
      | false => simp [hsince] at h
      | true =>
      have hlt : e.born < since := Nat.le_of_ble_eq_true hsince
      simp only [hsince, cond_true, Option.some.injEq, Prod.mk.injEq] at h
      obtain ⟨rfl, rfl⟩ := h
      rw [hone] at hfil
      obtain ⟨c, l', hl, ⟨k1, k2, k3⟩, h'⟩ := hfil.cons_inv
      have hl0 := h'.nil_inv
      subst hl0
      have this : (ces.filter fun e => !seen.toArray.contains e.born) = #[c] := by
        apply Array.toList_inj.1
        rw [hleft, hl]
      have hcl : c.born < since := by omega
      have hcl' : ¬ (since ≤ c.born) := by omega
      obtain ⟨g', x'⟩ := g.set hget rfl hphi hN (.mapIter (some tm.blk) since (seen ++ [e.born]).toArray clock) (.mapIter (some m) since (seen ++ [e.born]) clock) (fun _ => ⟨b0, some tm.blk, rfl, tm, hm1, rfl⟩)
      have hso := run_setObj (P := P) (.mapIter (some tm.blk) since (seen ++ [e.born]).toArray clock) a2 (fun _ _ _ h => by cases h)
      rw [k3] at hso
      refine ⟨φ, _, g', x', .tuple #[.bool true, c.key, c.val], ?_, VRel.tuple_of (.cons (.bool _) (.cons k1 (.cons k2 (.nil _))))⟩
      rw [k3, hb0]
      have hso' : (setObj s.blk (.mapIter (some tm.blk) since (seen.toArray.push c.born) clock)).run P w = .ok () { w with heap := w.heap.setIfInBounds s.blk (.mapIter (some tm.blk) since (seen ++ [c.born]).toArray clock) } := by
        simpa using hso
      simp only [Instr.next, Sem.run_bind, hgo, Result.andThen_ok, hgm, hgone', Bool.false_eq_true, if_false, this]
      simp [Question.forced, hcl, hcl', hso]
    · cases h
  · cases h

theorem copyA_sound (g : Gam N φ H w) {ts : Array TypeId} {ty : TypeId} {d x v : AV} {H' : AHeap} {cd cx : Value} (hd : VRel φ d cd) (hx : VRel φ x cx) (h : copyA P ts d x H = some (v, H')) : Gives P N φ H w (Builtin.copy_ ts ty #[cd, cx]) v H' := by
  unfold copyA at h
  split at h
  · cases h
  rename_i dt hdt
  split at h
  case h_2 => cases h
  rename_i e hu
  split at h
  case h_2 => cases h
  rename_i size dl xl hsz hcd hcx
  cases hnew : firstA size (bif Nat.ble xl dl then xl else dl) x H with
  | none => simp only [hnew] at h; cases h
  | some new =>
  simp only [hnew] at h
  have hlx := countA_sound (P := P) hcx hx w
  have hmin : (bif Nat.ble xl dl then xl else dl) = Nat.min xl dl := by
    cases hb : Nat.ble xl dl with
    | true => have := Nat.le_of_ble_eq_true hb; simp [this]
    | false =>
      have : ¬ xl ≤ dl := fun h => by rw [Nat.ble_eq_true_of_le h] at hb; cases hb
      simp [Nat.min_def, this]
  rw [hmin] at hnew h
  obtain ⟨news, r1, r2, r3⟩ := firstA_sound (P := P) g hnew hcx (Nat.min_le_left _ _) hx
  have hcd' : ∃ base cc, cd = .slice base dl cc := by
    cases hd <;> simp [countS] at hcd <;> subst hcd <;> exact ⟨_, _, rfl⟩
  cases h0 : Nat.beq new.length 0 with
  | true =>
    have h0' := Nat.eq_of_beq_eq_true h0
    simp only [h0, cond_true, Option.some.injEq, Prod.mk.injEq] at h
    obtain ⟨rfl, rfl⟩ := h
    have hn : news = [] := by
      rw [List.length_eq_zero_iff.1 h0'] at r2; exact r2.nil_inv
    subst hn
    obtain ⟨base, cc, rfl⟩ := hcd'
    refine ⟨φ, w, g, g.refl, goInt (Nat.min xl dl), ?_, .int _ _⟩
    cases base <;> simp [Builtin.copy_, hdt, run_underlying hu, hlx, run_sizeOf hsz, r1, storeCells]
  | false =>
    simp only [h0, cond_false] at h
    split at h
    case h_2 => cases h
    rename_i i o len cap exact
    cases hd with | slice hphi hl hcc he hr =>
    rename_i cc s
    split at h
    case h_2 => cases h
    rename_i c ce fz z hrow
    cases hfz : Nat.ble fz 1 with
    | false => simp [hfz] at h
    | true =>
    have hfz1 := Nat.le_of_ble_eq_true hfz
    simp only [hfz, cond_true, Option.map_eq_some_iff, Prod.mk.injEq] at h
    obtain ⟨c', hput, rfl, rfl⟩ := h
    simp only [countS, Option.some.injEq] at hcd
    subst hcd
    obtain ⟨carr, fl, fh, li⟩ := g.row hrow hphi
    obtain ⟨st, hget⟩ := row_get hrow
    have hNb : N ≤ s.blk := by
      obtain ⟨sp', o', a1, a2, a3, a4⟩ := g.own i _ hget rfl
      rw [hphi] at a1; cases a1
      rcases a4 with a4 | ⟨c', el', z', a4⟩
      · exact a4
      · simp only [AObj.cells.injEq] at a4; omega
    obtain ⟨p1, p2⟩ := li.put hput r2 hfz1
    obtain ⟨g', x'⟩ := g.set hget rfl hphi hNb _ (.cells c' ce fz z) (fun _ => p2)
    refine ⟨φ, _, g', x', goInt (Nat.min xl len), ?_, .int _ _⟩
    simp [Builtin.copy_, hdt, run_underlying hu, hlx, run_sizeOf hsz, r1, p1]

theorem convertA_bytes (g : Gam N φ H w) {src dst e : TypeId} {x v : AV} {H' : AHeap} {cx : Value} (hd : P.underlying dst = some (.slice e)) (hx : VRel φ x cx) (h : convertA P src dst x H = some (v, H')) : Gives P N φ H w (convert src dst cx) v H' := by
  unfold convertA at h
  split at h
  · rename_i h2; rw [hd] at h2; cases h2
  · rename_i h2; rw [hd] at h2; cases h2
  · rename_i e' s hs h2
    rw [hd] at h2; cases h2
    split at h
    · rename_i he
      cases hb : Nat.ble s.length mostLen with
      | false => simp [hb] at h
      | true => 
      simp only [hb, cond_true, Option.some.injEq, Prod.mk.injEq] at h
      obtain ⟨rfl, rfl⟩ := h
      cases hx with | str _ hlt =>
      have hbs : (bytesOf s).size = s.length := bytesOf_size s
      have hrun := run_bytes_of_string w src dst e (bytesOf s) hs hd he
      rw [hbs] at hrun
      let c := grownCap w s.length 0 e
      have hc : s.length ≤ c := grownCap_ge w _ _ e
      have hrow : (bytesRow (bytesOf s) c).size = c := by
        have h2 : (bytesOf s).data.size = s.length := hbs
        simp only [bytesRow, Array.size_append, Array.size_map, Array.size_replicate, h2, hbs]; omega
      have hpre : (bytesRow (bytesOf s) c).toList.take (s.map fun b => AV.int .u8 (.ofNat b)).length = (s.map Int.ofNat).map (Value.int .u8) := by
        simp only [bytesRow, Array.toList_append, Array.toList_map, bytesOf_toList, List.length_map, List.map_map]
        rw [List.take_append_of_le_length (by simp), List.take_of_length_le (by simp)]
        apply List.map_congr_left
        intro b hb
        simp only [Function.comp]
        rw [toNat_ofNat_of_lt (hlt b hb)]; rfl
      have hrel : LRel φ (s.map fun b => AV.int .u8 (.ofNat b)) ((bytesRow (bytesOf s) c).toList.take (s.map fun b => AV.int .u8 (.ofNat b)).length) := by
        rw [hpre]
        refine ⟨by simp, fun j a v ha hv => ?_⟩
        simp only [List.getElem?_map, Option.map_eq_some_iff] at ha hv
        obtain ⟨x, hx, rfl⟩ := ha
        obtain ⟨y, ⟨z, hz, rfl⟩, rfl⟩ := hv
        rw [hx] at hz; cases hz
        exact .int _ _
      obtain ⟨g', x'⟩ := (g.drew (w.drawn + 1)).newRow (by rw [hrow]; simpa using hc) hrel e 1 1 c (c + 1) (fun h => by cases h) (fun _ => .inl (by rw [hrow]; exact Nat.le_refl _))
      refine ⟨_, _, g', x'.undrew, .slice (some ⟨w.heap.size, 0, none⟩) s.length c, hrun.trans ?_, ?_⟩
      · show Result.ok _ (w.drew.alloc (.cells (bytesRow (bytesOf s) c) e ((bytesRow (bytesOf s) c).size, (bytesRow (bytesOf s) c).size + 1))) = _
        rw [hrow]; rfl
      · have := VRel.slice (φ := φ.add H.next ⟨w.heap.size, 0, (bytesRow (bytesOf s) c).size, 1⟩) (i := H.next) (o := 0) (len := s.length) (cap := s.length) (cc := c) (s := ⟨w.heap.size, 0, (bytesRow (bytesOf s) c).size, 1⟩) (exact := false) (Names.add_same _ _ _) (Nat.le_refl _) hc (fun h => by cases h) (fun _ => by simp [hrow])
        simpa using this
    · cases h
  · rename_i h2 _; rw [hd] at h2; cases h2
  · cases h
end
end Go.Abs
