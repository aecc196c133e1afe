/-
  The operations that change something, one by one: maps, ranges, copies, texts as bytes.
  Conditions: none.
-/
import Derived.Test.YtaaagehbbihfeaaGreatDoorAbsDo
namespace Go.Abs

section
variable {P : Program} {N : Nat} {φ : Names} {H : AHeap} {w : World}

theorem eqNats_iff : ∀ {x y : List Nat}, eqNats x y = true → x = y
  | [], [], _ => rfl
  | [], _ :: _, h => by simp [eqNats] at h
  | _ :: _, [], h => by simp [eqNats] at h
  | a :: x, b :: y, h => by
    simp only [eqNats, Bool.and_eq_true] at h
    rw [Nat.eq_of_beq_eq_true h.1, eqNats_iff h.2]

theorem eqAV_eq : ∀ (f : Nat) (x y : AV), eqAV f x y = true → x = y
  | 0, x, y, h => by simp [eqAV] at h
  | f + 1, x, y, h => by
    have all : ∀ xs ys : List AV, (Nat.beq xs.length ys.length && (xs.zip ys).all fun p => eqAV f p.1 p.2) = true → xs = ys := by
      intro xs
      induction xs with
      | nil => intro ys h; cases ys with
        | nil => rfl
        | cons y ys => simp at h
      | cons x xs ih => intro ys h; cases ys with
        | nil => simp at h
        | cons y ys =>
          simp only [List.length_cons, List.zip_cons_cons, List.all_cons, Bool.and_eq_true] at h
          have h1 := Nat.eq_of_beq_eq_true h.1
          have h2 : xs.length = ys.length := by omega
          have h3 : Nat.beq xs.length ys.length = true := by rw [h2]; simp
          rw [eqAV_eq f x y h.2.1, ih ys (by rw [Bool.and_eq_true]; exact ⟨h3, h.2.2⟩)]
    have all2 : ∀ xs ys : List AV, Nat.beq xs.length ys.length = true → ((xs.zip ys).all fun p => eqAV f p.1 p.2) = true → xs = ys := fun xs ys h1 h2 => all xs ys (by rw [Bool.and_eq_true]; exact ⟨h1, h2⟩)
    unfold eqAV at h
    simp only at h
    split at h
    all_goals try rfl
    all_goals try (simp only [Bool.and_eq_true, decide_eq_true_eq, beq_iff_eq] at h)
    · rw [h]
    · rw [h.1, h.2]
    · rw [eqNats_iff h]
    · rw [Nat.eq_of_beq_eq_true h.1, Nat.eq_of_beq_eq_true h.2]
    · rw [Nat.eq_of_beq_eq_true h.1.1.1.1, Nat.eq_of_beq_eq_true h.1.1.1.2, Nat.eq_of_beq_eq_true h.1.1.2, Nat.eq_of_beq_eq_true h.1.2, h.2]
    · rw [Nat.eq_of_beq_eq_true h]
    · rw [h.1.1, all2 _ _ h.1.2.1 h.1.2.2, all2 _ _ h.2.1 h.2.2]
    · rw [Nat.eq_of_beq_eq_true h]
    · have := Nat.eq_of_beq_eq_true h.1
      rw [eqAV_eq f _ _ h.2]; congr
    · rw [all2 _ _ h.1 h.2]
    · rw [all2 _ _ h.1 h.2]
    · cases h

theorem run_stays (old new : Value) (w : World) : ∃ k n, (Instr.keyThatStays old new).run P w = .ok k { w with drawn := n } ∧ (k = new ∨ k = old) := by
  unfold Instr.keyThatStays
  split
  · exact ⟨new, w.drawn, rfl, .inl rfl⟩
  · refine ⟨if ((Question.extern "map.whichKeyStays" 2).cut (w.tape w.drawn (.extern "map.whichKeyStays" 2))) = 0 then new else old, w.drawn + 1, by simp [Question.forced], ?_⟩
    split
    · exact .inl rfl
    · exact .inr rfl

theorem ERel.mono {φ φ' : Names} (hle : Names.le φ φ') {es : List AEnt} {ces : List MapEntry} (h : ERel φ es ces) : ERel φ' es ces :=
  ⟨h.1, fun j e c he hc => let ⟨a, b, d⟩ := h.2 j e c he hc; ⟨a.mono hle, b.mono hle, d⟩⟩

theorem ERel.get {es : List AEnt} {ces : List MapEntry} (h : ERel φ es ces) {j : Nat} {e : AEnt} (he : es[j]? = some e) : ∃ c, ces[j]? = some c ∧ VRel φ e.key c.key ∧ VRel φ e.val c.val ∧ e.born = c.born := by
  have hj : j < es.length := by
    rcases Nat.lt_or_ge j es.length with h' | h'
    · exact h'
    · rw [List.getElem?_eq_none h'] at he; cases he
  have hc : ces[j]? = some (ces[j]'(h.1 ▸ hj)) := List.getElem?_eq_getElem _
  exact ⟨_, hc, h.2 j e _ he hc⟩

theorem ERel.set {es : List AEnt} {ces : List MapEntry} (h : ERel φ es ces) (j : Nat) {e : AEnt} {c : MapEntry} (hk : VRel φ e.key c.key) (hv : VRel φ e.val c.val) (hb : e.born = c.born) : ERel φ (es.set j e) (ces.set j c) :=
  ⟨by simp [h.1], fun i x y hx hy => by
    rw [List.getElem?_set] at hx hy
    by_cases hj : j = i
    · subst hj
      simp only [if_true] at hx hy
      split at hx
      · split at hy
        · cases hx; cases hy; exact ⟨hk, hv, hb⟩
        · cases hy
      · cases hx
    · simp only [hj, if_false] at hx hy
      exact h.2 i x y hx hy⟩

theorem ERel.push {es : List AEnt} {ces : List MapEntry} (h : ERel φ es ces) {e : AEnt} {c : MapEntry} (hk : VRel φ e.key c.key) (hv : VRel φ e.val c.val) (hb : e.born = c.born) : ERel φ (es ++ [e]) (ces ++ [c]) :=
  ⟨by simp [h.1], fun i x y hx hy => by
    have hl := h.1
    rw [List.getElem?_append] at hx hy
    by_cases hi : i < es.length
    · rw [if_pos hi] at hx; rw [if_pos (by omega)] at hy; exact h.2 i x y hx hy
    · rw [if_neg hi] at hx; rw [if_neg (by omega)] at hy
      rw [← hl] at hy
      cases hd : i - es.length with
      | zero => rw [hd] at hx hy; simp at hx hy; subst hx; subst hy; exact ⟨hk, hv, hb⟩
      | succ n => rw [hd] at hx; simp at hx⟩

theorem ERel.erase {es : List AEnt} {ces : List MapEntry} (h : ERel φ es ces) (j : Nat) : ERel φ (es.eraseIdx j) (ces.eraseIdx j) :=
  ⟨by simp [List.length_eraseIdx, h.1], fun i x y hx hy => by
    rw [List.getElem?_eraseIdx] at hx hy
    split at hx
    · rename_i hi; rw [if_pos hi] at hy; exact h.2 _ x y hx hy
    · rename_i hi; rw [if_neg hi] at hy; exact h.2 _ x y hx hy⟩

/-- The map's object is another one. -/
theorem Gam.setMap (g : Gam N φ H w) {i : Nat} {s : Spot} {es es' : List AEnt} {clock clock' : Nat} (hm : H.mapAt i = some (es, clock)) (hs : φ i = some s) (hN : N ≤ s.blk) {ces' : Array MapEntry} (he : ERel φ es' ces'.toList) (n : Nat) :
    Gam N φ (H.set i (.map es' clock')) { w with heap := w.heap.setIfInBounds s.blk (.map ces' clock'), drawn := n } ∧
      Ext N φ φ H (H.set i (.map es' clock')) w { w with heap := w.heap.setIfInBounds s.blk (.map ces' clock'), drawn := n } := by
  obtain ⟨st, hget⟩ := map_get hm
  obtain ⟨g', x'⟩ := g.set hget rfl hs hN (.map ces' clock') (.map es' clock') (fun _ => ⟨ces', rfl, by simpa using he.1, fun j e c h1 h2 => he.2 j e c h1 (by simpa using h2)⟩)
  exact ⟨g'.drew n, x'.drew n⟩

theorem toList_modify {α : Type} (a : Array α) (i : Nat) (f : α → α) (c : α) (h : a[i]? = some c) : (a.modify i f).toList = a.toList.set i (f c) := by
  apply List.ext_getElem?
  intro j
  rw [List.getElem?_set]
  have hi : i < a.size := by
    rcases Nat.lt_or_ge i a.size with h' | h'
    · exact h'
    · rw [Array.getElem?_eq_none h'] at h; cases h
  by_cases hj : i = j
  · subst hj
    simp [hi]
    rw [Array.getElem?_eq_getElem hi] at h; simpa using congrArg f (Option.some.inj h)
  · simp [hj]

theorem mapSetA_sound (g : Gam N φ H w) {t : TypeId} {m k v : AV} {cm ck cv : Value} {H' : AHeap} (hm : VRel φ m cm) (hk : VRel φ k ck) (hv : VRel φ v cv) (h : mapSetA P t m k v H = some H') : Does P N φ H w (Instr.mapUpdate t cm ck cv) H' := by
  unfold mapSetA at h
  split at h
  case h_2 => cases h
  rename_i kt e i hu
  cases hpk : plainKey P 8 kt k with
  | false => simp [hpk] at h
  | true =>
  simp only [hpk, Bool.not_true, cond_false] at h
  cases hm with | map hphi =>
  rename_i s
  split at h
  case h_2 => cases h
  rename_i es clock hma
  obtain ⟨ces, c1, c2, c3⟩ := g.map hma hphi
  have hcheck := fun em => plainKey_check (φ := φ) 8 kt k hpk ck hk em 10000 (by omega) w
  have hgo : (getObj s.blk).run P w = .ok (.map ces clock) w := run_getObj c1 (fun _ _ _ h => by cases h)
  have hkd : ∃ d, P.underlying kt = some d := by
    unfold plainKey at hpk
    split at hpk <;> rename_i hh <;> first | exact ⟨_, hh⟩ | cases hpk
  obtain ⟨d, hd⟩ := hkd
  split at h
  · rename_i j v0 hf
    obtain ⟨cr, q1, q2⟩ := findKey_sound g hd hk hf c2
    obtain ⟨cv0, rfl, a1, a2, e0, a3, a4⟩ := q2
    simp only [Nat.sub_zero] at a3
    rw [a3] at h
    simp only at h
    cases hq : eqAV 12 k e0.key with
    | false => simp [hq] at h
    | true =>
    simp only [hq, cond_true, Option.some.injEq] at h
    subst h
    have hke := eqAV_eq 12 _ _ hq
    obtain ⟨c, b1, b2, b3, b4⟩ := c2.get a3
    have b1' : ces[j]? = some c := by simpa using b1
    obtain ⟨k', n, r1, r2⟩ := run_stays (P := P) c.key ck w
    have hk' : VRel φ e0.key k' := by
      rcases r2 with rfl | rfl
      · exact hke ▸ hk
      · exact b2
    obtain ⟨g', x'⟩ := g.setMap (clock' := clock) (es' := es.set j { e0 with val := v }) (ces' := ces.modify j fun e => { e with key := k', val := cv }) hma hphi c3
      (by rw [toList_modify _ _ _ _ b1']; exact c2.set j hk' hv b4) n
    refine ⟨φ, _, g', x', ?_⟩
    have hso : (setObj s.blk (.map (ces.modify j fun e => { e with key := k', val := cv }) clock)).run P { w with drawn := n } = .ok () { w with heap := w.heap.setIfInBounds s.blk (.map (ces.modify j fun e => { e with key := k', val := cv }) clock), drawn := n } :=
      run_setObj _ (w := { w with drawn := n }) (o := .map ces clock) c1 (fun _ _ _ h => by cases h)
    simp [Instr.mapUpdate, run_underlying hu, hgo, hcheck, q1, b1', r1, hso]
  · rename_i hf
    obtain ⟨cr, q1, q2⟩ := findKey_sound g hd hk hf c2
    simp only [FRel] at q2
    subst q2
    simp only [Option.some.injEq] at h
    subst h
    obtain ⟨g', x'⟩ := g.setMap (clock' := clock + 1) (es' := es ++ [⟨k, v, clock⟩]) (ces' := ces.push { key := ck, val := cv, born := clock }) hma hphi c3
      (by rw [Array.toList_push]; exact c2.push hk hv rfl) w.drawn
    refine ⟨φ, _, g', x', ?_⟩
    have hso := run_setObj (P := P) (.map (ces.push { key := ck, val := cv, born := clock }) (clock + 1)) c1 (fun _ _ _ h => by cases h)
    simp [Instr.mapUpdate, run_underlying hu, hgo, hcheck, q1, hso]
  · cases h

theorem mapEntryA_sound (g : Gam N φ H w) {t : TypeId} {m k v : AV} {cm ck : Value} {H' : AHeap} (hm : VRel φ m cm) (hk : VRel φ k ck) (h : mapEntryA P t m k H = some (v, H')) : Gives P N φ H w (Instr.mapEntry t cm ck) v H' := by
  unfold mapEntryA at h
  split at h
  case h_2 => cases h
  rename_i kt e i hu
  cases hpk : plainKey P 8 kt k with
  | false => simp [hpk] at h
  | true =>
  simp only [hpk, Bool.not_true, cond_false] at h
  cases hm with | map hphi =>
  rename_i s
  split at h
  case h_2 => cases h
  rename_i es clock hma
  obtain ⟨ces, c1, c2, c3⟩ := g.map hma hphi
  have hcheck := fun em => plainKey_check (φ := φ) 8 kt k hpk ck hk em 10000 (by omega) w
  have hgo : (getObj s.blk).run P w = .ok (.map ces clock) w := run_getObj c1 (fun _ _ _ h => by cases h)
  have hkd : ∃ d, P.underlying kt = some d := by
    unfold plainKey at hpk
    split at hpk <;> rename_i hh <;> first | exact ⟨_, hh⟩ | cases hpk
  obtain ⟨d, hd⟩ := hkd
  split at h
  · rename_i j v0 hf
    obtain ⟨cr, q1, q2⟩ := findKey_sound g hd hk hf c2
    obtain ⟨cv0, rfl, a1, a2, e0, a3, a4⟩ := q2
    simp only [Nat.sub_zero] at a3
    rw [a3] at h
    simp only at h
    cases hq : eqAV 12 k e0.key with
    | false => simp [hq] at h
    | true =>
    simp only [hq, cond_true, Option.some.injEq, Prod.mk.injEq] at h
    obtain ⟨rfl, rfl⟩ := h
    have hke := eqAV_eq 12 _ _ hq
    obtain ⟨c, b1, b2, b3, b4⟩ := c2.get a3
    have b1' : ces[j]? = some c := by simpa using b1
    obtain ⟨k', n, r1, r2⟩ := run_stays (P := P) c.key ck w
    have hk' : VRel φ e0.key k' := by
      rcases r2 with rfl | rfl
      · exact hke ▸ hk
      · exact b2
    have hes : es.set j e0 = es := by
      apply List.ext_getElem?
      intro x
      rw [List.getElem?_set]
      split
      · rename_i hx
        subst hx
        rw [a3]
        split
        · rfl
        · rename_i hn; rw [List.getElem?_eq_none (by omega)] at a3; exact a3
      · rfl
    obtain ⟨g', x'⟩ := g.setMap (clock' := clock) (es' := es) (ces' := ces.modify j fun e => { e with key := k' }) hma hphi c3
      (by rw [toList_modify _ _ _ _ b1', ← hes]; exact c2.set j hk' b3 b4) n
    have hso : (setObj s.blk (.map (ces.modify j fun e => { e with key := k' }) clock)).run P { w with drawn := n } = .ok () { w with heap := w.heap.setIfInBounds s.blk (.map (ces.modify j fun e => { e with key := k' }) clock), drawn := n } :=
      run_setObj _ (w := { w with drawn := n }) (o := .map ces clock) c1 (fun _ _ _ h => by cases h)
    refine ⟨φ, _, g', x', .tuple #[cv0, goInt c.born], ?_, ?_⟩
    · simp [Instr.mapEntry, run_underlying hu, hgo, hcheck, q1, b1', r1, hso]
    · refine VRel.tuple_of (.cons a1 (.cons ?_ (.nil _)))
      rw [b4]; exact .int _ _
  · rename_i hf
    obtain ⟨cr, q1, q2⟩ := findKey_sound g hd hk hf c2
    simp only [FRel] at q2
    subst q2
    simp only [Option.map_eq_some_iff, Prod.mk.injEq] at h
    obtain ⟨z, hz, rfl, rfl⟩ := h
    obtain ⟨cz, z1, z2⟩ := zeroValue_sound (φ := φ) hz w
    obtain ⟨g', x'⟩ := g.setMap (clock' := clock + 1) (es' := es ++ [⟨k, z, clock⟩]) (ces' := ces.push { key := ck, val := cz, born := clock }) hma hphi c3
      (by rw [Array.toList_push]; exact c2.push hk z2 rfl) w.drawn
    have hso := run_setObj (P := P) (.map (ces.push { key := ck, val := cz, born := clock }) (clock + 1)) c1 (fun _ _ _ h => by cases h)
    refine ⟨φ, _, g', x', .tuple #[cz, goInt clock], ?_, VRel.tuple_of (.cons z2 (.cons (.int _ _) (.nil _)))⟩
    simp [Instr.mapEntry, run_underlying hu, hgo, hcheck, q1, z1, hso]
  · cases h

theorem findIdx_born (born : Nat) : ∀ (es : List AEnt) (ces : List MapEntry), ERel φ es ces → es.findIdx? (fun e => Nat.beq e.born born) = ces.findIdx? (fun e => (e.born : Int) == Int.ofNat born)
  | [], ces, h => by rw [h.nil_inv]; rfl
  | e :: es, ces, h => by
    obtain ⟨c, ces', rfl, ⟨_, _, k3⟩, h'⟩ := h.cons_inv
    have : Nat.beq e.born born = ((c.born : Int) == Int.ofNat born) := by
      rw [k3]
      cases hb : Nat.beq c.born born with
      | true => have := Nat.eq_of_beq_eq_true hb; subst this; simp
      | false =>
        have := Nat.ne_of_beq_eq_false hb
        symm; rw [beq_eq_false_iff_ne]; intro h; exact this (Int.ofNat.inj h)
    simp only [List.findIdx?_cons, this]
    rw [findIdx_born born es ces' h']

theorem entryStoreA_sound (g : Gam N φ H w) {t : TypeId} {m s v : AV} {cm cs cv : Value} {H' : AHeap} (hm : VRel φ m cm) (hs : VRel φ s cs) (hv : VRel φ v cv) (h : entryStoreA m s v H = some H') : Does P N φ H w (Instr.entryStore t cm cs cv) H' := by
  unfold entryStoreA at h
  split at h
  case h_2 => cases h
  rename_i i k born
  cases hm with | map hphi =>
  cases hs
  rename_i s
  split at h
  case h_2 => cases h
  rename_i es clock hma
  obtain ⟨ces, c1, c2, c3⟩ := g.map hma hphi
  have hgo : (getObj s.blk).run P w = .ok (.map ces clock) w := run_getObj c1 (fun _ _ _ h => by cases h)
  split at h
  case h_2 => cases h
  rename_i j hj
  split at h
  case h_2 => cases h
  rename_i old hold
  cases h
  have hfi := findIdx_born born es ces.toList c2
  rw [hj] at hfi
  obtain ⟨c, b1, b2, b3, b4⟩ := c2.get hold
  have b1' : ces[j]? = some c := by simpa using b1
  obtain ⟨g', x'⟩ := g.setMap (clock' := clock) (es' := es.set j { old with val := v }) (ces' := ces.modify j fun e => { e with val := cv }) hma hphi c3
    (by rw [toList_modify _ _ _ _ b1']; exact c2.set j b2 hv b4) w.drawn
  refine ⟨φ, _, g', x', ?_⟩
  have hso := run_setObj (P := P) (.map (ces.modify j fun e => { e with val := cv }) clock) c1 (fun _ _ _ h => by cases h)
  have hfi' : ces.findIdx? (fun e => (e.born : Int) == (born : Int)) = some j := by
    rcases ces with ⟨l⟩
    simpa using hfi.symm
  simp [Instr.entryStore, hgo, asInt, asIntOf, hfi', hso]

theorem deleteA_sound (g : Gam N φ H w) {t : TypeId} {m k : AV} {cm ck : Value} {H' : AHeap} (hm : VRel φ m cm) (hk : VRel φ k ck) (h : deleteA P t m k H = some H') {ts : Array TypeId} (hts : ts[0]? = some t) (ty : TypeId) :
    Gives P N φ H w (Builtin.delete_ ts ty #[cm, ck]) (.tuple []) H' := by
  unfold deleteA at h
  split at h
  case h_2 => cases h
  rename_i kt e hu
  cases hpk : plainKey P 8 kt k with
  | false => simp [hpk] at h
  | true =>
  simp only [hpk, Bool.not_true, cond_false] at h
  have hcheck := fun em => plainKey_check (φ := φ) 8 kt k hpk ck hk em 10000 (by omega) w
  have hkd : ∃ d, P.underlying kt = some d := by
    unfold plainKey at hpk
    split at hpk <;> rename_i hh <;> first | exact ⟨_, hh⟩ | cases hpk
  obtain ⟨d, hd⟩ := hkd
  split at h
  · cases hm
    cases h
    exact ⟨φ, w, g, g.refl, .tuple #[], by simp [Builtin.delete_, hts, run_underlying hu, hcheck], .tuple rfl (fun j a v h => by simp at h)⟩
  · rename_i i
    cases hm with | map hphi =>
    rename_i s
    split at h
    case h_2 => cases h
    rename_i es clock hma
    obtain ⟨ces, c1, c2, c3⟩ := g.map hma hphi
    have hgo : (getObj s.blk).run P w = .ok (.map ces clock) w := run_getObj c1 (fun _ _ _ h => by cases h)
    split at h
    · rename_i j v0 hf
      cases h
      obtain ⟨cr, q1, q2⟩ := findKey_sound g hd hk hf c2
      obtain ⟨cv0, rfl, a1, a2, e0, a3, a4⟩ := q2
      obtain ⟨g', x'⟩ := g.setMap (clock' := clock) (es' := es.eraseIdx j) (ces' := ces.eraseIdxIfInBounds j) hma hphi c3
        (by rw [Array.toList_eraseIdxIfInBounds]; exact c2.erase j) w.drawn
      have hso := run_setObj (P := P) (.map (ces.eraseIdxIfInBounds j) clock) c1 (fun _ _ _ h => by cases h)
      refine ⟨φ, _, g', x', .tuple #[], ?_, .tuple rfl (fun j a v h => by simp at h)⟩
      simp [Builtin.delete_, hts, run_underlying hu, hgo, hcheck, q1, hso]
    · rename_i hf
      cases h
      obtain ⟨cr, q1, q2⟩ := findKey_sound g hd hk hf c2
      simp only [FRel] at q2
      subst q2
      have hso := run_setObj (P := P) (.map ces clock) c1 (fun _ _ _ h => by cases h)
      rw [heap_set_self c1] at hso
      refine ⟨φ, w, g, g.refl, .tuple #[], ?_, .tuple rfl (fun j a v h => by simp at h)⟩
      simp [Builtin.delete_, hts, run_underlying hu, hgo, hcheck, q1, hso]
    · cases h
  · cases h
end
end Go.Abs
