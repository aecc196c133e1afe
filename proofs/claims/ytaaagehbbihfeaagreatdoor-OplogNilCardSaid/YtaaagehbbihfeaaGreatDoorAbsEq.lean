/-
  The abstract machine's parts, equality and keys are the model's.
  Conditions: none.
-/
import Derived.Test.YtaaagehbbihfeaaGreatDoorAbsMem
import Derived.Laws.StructEq
import Derived.ChangeKeysEq
namespace Go.Abs

section
variable {P : Program} {N : Nat} {φ : Names} {H : AHeap} {w : World}

theorem partA_sound {t : TypeId} {cs : List AV} {vs : Array Value} {off : Nat} {a : AV} (h : partA P t cs off = some a) (hr : LRel φ cs vs.toList) (w : World) :
    ∃ v, (part t vs off).run P w = .ok v w ∧ VRel φ a v := by
  unfold partA at h
  split at h
  · rename_i n ha
    obtain ⟨hc, hagg⟩ := aggSize_true ha
    cases hcut : cutA cs off n with
    | none => simp [hcut] at h
    | some l =>
      simp [hcut] at h
      subst h
      refine ⟨.agg (vs.extract off (off + n)), by simp [part, hagg, run_sizeOf hc], .agg_of ?_⟩
      unfold cutA at hcut
      cases hb : Nat.ble (off + n) cs.length with
      | false => simp [hb] at hcut
      | true =>
        simp only [hb, cond_true, Option.some.injEq] at hcut
        subst hcut
        have : (vs.extract off (off + n)).toList = (vs.toList.drop off).take n := by
          simp [List.extract_eq_take_drop]
        rw [this]
        exact (hr.drop off).take n
  · rename_i n ha
    obtain ⟨hc, hagg⟩ := aggSize_false ha
    obtain ⟨v, hv, hrel⟩ := hr.get h
    have hv' : vs[off]? = some v := by simpa using hv
    exact ⟨v, by simp [part, hagg, hv'], hrel⟩
  · cases h

set_option maxHeartbeats 4000000 in
theorem equalA_sound (g : Gam N φ H w) : ∀ (f : Nat) (t : TypeId) (x y : AV) (b : Bool), equalA P H f t x y = some b → ∀ cx cy, VRel φ x cx → VRel φ y cy → ∀ d, f ≤ d →
    (Op.equalIn d t cx cy).run P w = .ok b w := by
  intro f
  induction f with
  | zero => intro t x y b h; simp [equalA] at h
  | succ f ih =>
    intro t x y b h cx cy hx hy d hd
    obtain ⟨d, rfl⟩ : ∃ m, d = m + 1 := ⟨d - 1, by omega⟩
    have hd' : f ≤ d := by omega
    unfold equalA at h
    split at h
    · rename_i a b' hu; cases hx; cases hy; cases h; simp [Op.equalIn, run_underlying hu]
    · rename_i k0 k a k' b' hu
      cases hx; cases hy
      by_cases hk : k = k'
      · simp [hk] at h; subst h; simp [Op.equalIn, run_underlying hu, hk, eqA_eq]
      · simp [hk] at h
    · rename_i a b' hu
      cases hx with | str _ hx => cases hy with | str _ hy =>
      cases h
      rw [run_equalIn_string w d t _ _ hu, toList_data, toList_data, bytesOf_toList, bytesOf_toList, eqNats_eq hx hy]
    · rename_i e hu; cases hx; cases hy; cases h; simp [Op.equalIn, run_underlying hu]
    · rename_i e i o hu; cases hx; cases hy; cases h; simp [Op.equalIn, run_underlying hu]
    · rename_i e i o hu; cases hx; cases hy; cases h; simp [Op.equalIn, run_underlying hu]
    · rename_i e i o j p hu
      cases hx with | ptr hi => cases hy with | ptr hj =>
      rename_i s1 s2
      split at h
      · rename_i m hc
        have hsz : (sizeOf e).run P w = .ok (m + 1) w := run_sizeOf hc w
        cases hij : Nat.beq i j with
        | true =>
          have := Nat.eq_of_beq_eq_true hij
          subst this
          rw [hi] at hj; cases hj
          simp only [hij, cond_true, Option.some.injEq] at h
          subst h
          simp [Op.equalIn, run_underlying hu, hsz, sameAddr]
          rw [Bool.eq_iff_iff]; simp [Nat.beq_eq]
        | false =>
          have hne : i ≠ j := Nat.ne_of_beq_eq_false hij
          simp only [hij, cond_false] at h
          split at h
          · rename_i a1 l1 e1 z1 a2 l2 e2 z2 r1 r2
            cases h
            obtain ⟨c1, fl1, fh1, k1⟩ := g.row r1 hi
            obtain ⟨c2, fl2, fh2, k2⟩ := g.row r2 hj
            obtain ⟨rfl, rfl⟩ := k1.fz0 rfl
            obtain ⟨rfl, rfl⟩ := k2.fz0 rfl
            obtain ⟨st1, g1⟩ := row_get r1
            obtain ⟨st2, g2⟩ := row_get r2
            have hblk : s1.blk ≠ s2.blk := fun heq => hne (g.inj i j _ _ s1 s2 g1 rfl g2 rfl hi hj heq)
            have f1 : ∀ n, w.frozen? ⟨s1.blk, n, none⟩ = false := fun n => by simp [World.frozen?, k1.at_]
            have f2 : ∀ n, w.frozen? ⟨s2.blk, n, none⟩ = false := fun n => by simp [World.frozen?, k2.at_]
            have h1 : w.shape? s1.blk = some (e1, c1.size) := by simp [World.shape?, k1.at_]
            have h2 : w.shape? s2.blk = some (e2, c2.size) := by simp [World.shape?, k2.at_]
            simp [Op.equalIn, run_underlying hu, hsz, sameAddr, hblk, f1, f2, noView, viewAt, h1, h2, mayBeOne, stringish]
          · cases h
      · cases h
    · rename_i ms hu; cases hx; cases hy; cases h; simp [Op.equalIn, run_underlying hu]
    · rename_i ms t' v hu; cases hx; cases hy; cases h; simp [Op.equalIn, run_underlying hu]
    · rename_i ms t' v hu; cases hx; cases hy; cases h; simp [Op.equalIn, run_underlying hu]
    · rename_i ms tx vx ty vy hu
      cases hx with | iface hx => cases hy with | iface hy =>
      cases ht : Nat.beq tx ty with
      | false =>
        have hne : tx ≠ ty := Nat.ne_of_beq_eq_false ht
        simp [ht] at h; subst h
        simp [Op.equalIn, run_underlying hu, hne]
      | true =>
        have := Nat.eq_of_beq_eq_true ht
        subst this
        simp only [ht, cond_true] at h
        split at h
        · rename_i i hi
          cases hc : i.comparable with
          | false => simp [hc] at h
          | true =>
            simp only [hc, cond_true] at h
            have := ih tx vx vy b h _ _ hx hy d hd'
            simp [Op.equalIn, run_underlying hu, typeInfo, hi, hc, this]
        · cases h
    · rename_i fs xs ys hu
      obtain ⟨cx', rfl, hxs⟩ := hx.agg_inv
      obtain ⟨cy', rfl, hys⟩ := hy.agg_inv
      cases hp : P.stoodInHeld t with
      | true => simp [hp] at h
      | false =>
        simp only [hp, cond_false] at h
        have hfs : P.fieldsOf t = fs := by simp [Program.fieldsOf, hu]
        rw [run_equalIn_struct w d t cx' cy' (by rw [hfs]; exact hu) hp, hfs]
        clear hu hfs
        generalize fs.toList = l at h ⊢
        induction l generalizing b with
        | nil => simp at h; subst h; simp [Op.eqFields]
        | cons fd l ihl =>
          simp only [List.foldr_cons] at h
          cases hn : (fd.name == "_") with
          | true =>
            have hn' : fd.name = "_" := by simpa using hn
            simp only [hn, cond_true] at h
            simp only [Op.eqFields, hn', ne_eq, not_true, if_false]
            exact ihl b h
          | false =>
            have hn' : ¬ fd.name = "_" := by simpa using hn
            simp only [hn, cond_false] at h
            simp only [Op.eqFields, ne_eq, hn', not_false_eq_true, if_true]
            split at h
            · rename_i a b' ha hb
              obtain ⟨va, ra, rela⟩ := partA_sound (P := P) ha hxs w
              obtain ⟨vb, rb, relb⟩ := partA_sound (P := P) hb hys w
              simp only [Sem.run_bind, ra, rb, Result.andThen_ok]
              split at h
              · rename_i he
                rw [ih fd.type a b' true he va vb rela relb d hd']
                simp only [Result.andThen_ok, Bool.not_true, Bool.false_eq_true, if_false]
                exact ihl b h
              · rename_i he
                cases h
                rw [ih fd.type a b' false he va vb rela relb d hd']
                simp
              · cases h
            · cases h
    · rename_i n e xs ys hu
      obtain ⟨cx', rfl, hxs⟩ := hx.agg_inv
      obtain ⟨cy', rfl, hys⟩ := hy.agg_inv
      split at h
      · rename_i sz hsz
        obtain ⟨i, hi, hisz⟩ : ∃ i, P.info? e = some i ∧ i.size = sz := by
          unfold cellsIn at hsz
          cases hi : P.info? e with
          | none => simp [hi] at hsz
          | some i => exact ⟨i, rfl, by simpa [hi] using hsz⟩
        have hco : P.cellsOf e = sz := by simp [Program.cellsOf, hi, hisz]
        rw [run_equalIn_array w d cx' cy' hu hi, hco]
        generalize List.range n = l at h ⊢
        clear hu
        induction l generalizing b with
        | nil => simp at h; subst h; simp [Op.eqItems]
        | cons j l ihl =>
          simp only [List.foldr_cons] at h
          simp only [Op.eqItems]
          split at h
          · rename_i a b' ha hb
            obtain ⟨va, ra, rela⟩ := partA_sound (P := P) ha hxs w
            obtain ⟨vb, rb, relb⟩ := partA_sound (P := P) hb hys w
            simp only [Sem.run_bind, ra, rb, Result.andThen_ok]
            split at h
            · rename_i he
              rw [ih e a b' true he va vb rela relb d hd']
              simp only [Result.andThen_ok, Bool.not_true, Bool.false_eq_true, if_false]
              exact ihl b h
            · rename_i he
              cases h
              rw [ih e a b' false he va vb rela relb d hd']
              simp
            · cases h
          · cases h
      · cases h
    · rename_i e hu; cases hx; cases hy; cases h; simp [Op.equalIn, run_underlying hu]
    · rename_i e a1 a2 a3 a4 a5 hu; cases hx; cases hy; cases h; simp [Op.equalIn, run_underlying hu]
    · rename_i e hu; cases hx; cases hy; cases h; simp [Op.equalIn, run_underlying hu]
    · rename_i e a1 a2 a3 a4 a5 hu; cases hx; cases hy; cases h; simp [Op.equalIn, run_underlying hu]
    · rename_i e hu; cases hx; cases hy; cases h; simp [Op.equalIn, run_underlying hu]
    · rename_i a1 a2 hu; cases hx; cases hy; cases h; simp [Op.equalIn, run_underlying hu]
    · rename_i a1 a2 a3 hu; cases hx; cases hy; cases h; simp [Op.equalIn, run_underlying hu]
    · rename_i a1 a2 a3 hu; cases hx; cases hy; cases h; simp [Op.equalIn, run_underlying hu]
    · rename_i a1 a2 a3 hu; cases hx; cases hy; cases h; simp [Op.equalIn, run_underlying hu]
    · rename_i a1 a2 a3 f1 f2 f3 hu; cases hx; cases hy; cases h; simp [Op.equalIn, run_underlying hu]
    · rename_i a1 a2 a3 f1 f2 f3 hu; cases hx; cases hy; cases h; simp [Op.equalIn, run_underlying hu]
    · cases h

/-! ### Keys -/
theorem plainKey_check : ∀ (f : Nat) (t : TypeId) (v : AV), plainKey P f t v = true → ∀ cv, VRel φ v cv → ∀ (em : Bool) (n : Nat), f ≤ n → ∀ w, (Instr.checkKey em n t cv).run P w = .ok () w := by
  intro f
  induction f with
  | zero => intro t v h; simp [plainKey] at h
  | succ f ih =>
    intro t v h cv hv em n hn w
    obtain ⟨n, rfl⟩ : ∃ m, n = m + 1 := ⟨n - 1, by omega⟩
    unfold plainKey at h
    split at h
    · rename_i k k' m hu; cases hv; simp [Instr.checkKey, run_underlying hu]
    · rename_i s hu; cases hv; simp [Instr.checkKey, run_underlying hu]
    · rename_i b hu; cases hv; simp [Instr.checkKey, run_underlying hu]
    · rename_i fs cs hu
      obtain ⟨vs, rfl, hrel⟩ := hv.agg_inv
      simp only [Instr.checkKey, Sem.run_bind, run_underlying hu, Result.andThen_ok]
      rw [← Array.forIn_toList]
      clear hu
      generalize fs.toList = l at h ⊢
      induction l with
      | nil => simp
      | cons fd l ihl =>
        simp only [List.all_cons, Bool.and_eq_true, Bool.not_eq_true'] at h
        obtain ⟨⟨h1, h2⟩, h3⟩ := h
        split at h2
        · rename_i x hx
          obtain ⟨va, ra, rela⟩ := partA_sound (P := P) hx hrel w
          have hn' : ¬ fd.name = "_" := by simpa using h1
          have hck := ih fd.type x h2 va rela em n (by omega) w
          simp only [List.forIn_cons, Sem.run_bind, ne_eq, hn', not_false_eq_true, if_true, ra, Result.andThen_ok, hck, Sem.run_pure]
          exact ihl h3
        · cases h2
    · cases h

theorem sameNow_of_equal {d : TypeDesc} {t : TypeId} {x y : Value} {r : Bool} (hu : P.underlying t = some d) (h : Instr.sameNow d x y = some r) (n : Nat) : (Op.equalIn (n + 1) t x y).run P w = .ok r w := by
  unfold Instr.sameNow at h
  split at h
  · split at h
    · rename_i hk; cases h; subst hk; simp [Op.equalIn, run_underlying hu]
    · cases h
  · cases h; simp [Op.equalIn, run_underlying hu]
  · cases h; simp [Op.equalIn, run_underlying hu]
  · cases h

/-- Entries of a map, related. -/
def ERel (φ : Names) (es : List AEnt) (ces : List MapEntry) : Prop :=
  es.length = ces.length ∧ ∀ (j : Nat) e c, es[j]? = some e → ces[j]? = some c → VRel φ e.key c.key ∧ VRel φ e.val c.val ∧ e.born = c.born

theorem ERel.cons_inv {e : AEnt} {es : List AEnt} {ces : List MapEntry} (h : ERel φ (e :: es) ces) : ∃ c ces', ces = c :: ces' ∧ (VRel φ e.key c.key ∧ VRel φ e.val c.val ∧ e.born = c.born) ∧ ERel φ es ces' := by
  cases ces with
  | nil => exact absurd h.1 (by simp)
  | cons c ces => exact ⟨c, ces, rfl, h.2 0 e c rfl rfl, by have := h.1; simpa using this, fun j x y hx hy => h.2 (j + 1) x y (by simpa using hx) (by simpa using hy)⟩
theorem ERel.nil_inv {ces : List MapEntry} (h : ERel φ [] ces) : ces = [] := by
  cases ces with
  | nil => rfl
  | cons c ces => exact absurd h.1 (by simp)

/-- What is found under a key. -/
def FRel (φ : Names) (es : List AEnt) (i0 : Nat) : Option (Nat × AV) → Option (Nat × Value) → Prop
  | none, r => r = none
  | some (i, v), r => ∃ cv, r = some (i, cv) ∧ VRel φ v cv ∧ i0 ≤ i ∧ ∃ e, es[i - i0]? = some e ∧ e.val = v

theorem findA_sound (g : Gam N φ H w) {kt : TypeId} {k : AV} {ck : Value} (hk : VRel φ k ck) : ∀ (es : List AEnt) (i : Nat) (r : Option (Nat × AV)) (ces : List MapEntry), findA P H kt k es i = some r → ERel φ es ces →
    ∃ cr, (Instr.findAsking kt ck ces i).run P w = .ok cr w ∧ FRel φ es i r cr ∧ (∀ d, P.underlying kt = some d → ∀ x, Instr.findNow d ck ces i = some x → x = cr)
  | [], i, r, ces, h, he => by
    rw [he.nil_inv]
    simp [findA] at h; subst h
    exact ⟨none, by simp [Instr.findAsking], rfl, fun d _ x hx => by simpa [Instr.findNow] using hx.symm⟩
  | e :: es, i, r, ces, h, he => by
    obtain ⟨c, ces', rfl, ⟨k1, k2, k3⟩, he'⟩ := he.cons_inv
    simp only [findA] at h
    have heq : ∀ b, equalA P H 12 kt k e.key = some b → (Op.equal kt ck c.key).run P w = .ok b w := fun b hb => equalA_sound g 12 kt k e.key b hb _ _ hk k1 Op.maxDepth (by simp [Op.maxDepth])
    split at h
    · rename_i hb
      cases h
      have hr := heq true hb
      refine ⟨some (i, c.val), by simp [Instr.findAsking, hr], ⟨c.val, rfl, k2, Nat.le_refl _, e, by simp, rfl⟩, fun d hu x hx => ?_⟩
      simp only [Instr.findNow] at hx
      split at hx
      · cases hx; rfl
      · rename_i hs
        have := sameNow_of_equal (w := w) hu hs (Op.maxDepth - 1)
        have h2 : (Op.equalIn (Op.maxDepth - 1 + 1) kt ck c.key).run P w = .ok true w := hr
        rw [this] at h2; cases h2
      · cases hx
    · rename_i hb
      have hr := heq false hb
      obtain ⟨cr, q1, q2, q3⟩ := findA_sound g hk es (i + 1) r ces' h he'
      refine ⟨cr, by simp [Instr.findAsking, hr, q1], ?_, fun d hu x hx => ?_⟩
      · cases r with
        | none => exact q2
        | some p =>
          obtain ⟨j, v⟩ := p
          obtain ⟨cv, a1, a2, a3, x, a4, a5⟩ := q2
          refine ⟨cv, a1, a2, by omega, x, ?_, a5⟩
          rw [show j - i = (j - (i + 1)) + 1 by omega]
          simpa using a4
      · simp only [Instr.findNow] at hx
        split at hx
        · rename_i hs
          have := sameNow_of_equal (w := w) hu hs (Op.maxDepth - 1)
          have h2 : (Op.equalIn (Op.maxDepth - 1 + 1) kt ck c.key).run P w = .ok false w := hr
          rw [this] at h2; cases h2
        · exact q3 d hu x hx
        · cases hx
    · cases h

theorem findKey_sound (g : Gam N φ H w) {kt : TypeId} {d : TypeDesc} (hu : P.underlying kt = some d) {k : AV} {ck : Value} (hk : VRel φ k ck) {es : List AEnt} {r : Option (Nat × AV)} {ces : List MapEntry} (h : findA P H kt k es 0 = some r) (he : ERel φ es ces) :
    ∃ cr, (Instr.findKey kt ck ces).run P w = .ok cr w ∧ FRel φ es 0 r cr := by
  obtain ⟨cr, q1, q2, q3⟩ := findA_sound g hk es 0 r ces h he
  refine ⟨cr, ?_, q2⟩
  simp only [Instr.findKey, Sem.run_bind, run_underlying hu, Result.andThen_ok]
  cases hf : Instr.findNow d ck ces 0 with
  | none => exact q1
  | some x => rw [q3 d hu x hf]; rfl

theorem map_get {i : Nat} {es : List AEnt} {clock : Nat} (h : H.mapAt i = some (es, clock)) : ∃ st, H.get i = some ⟨.map es clock, st⟩ := by
  unfold AHeap.mapAt at h
  split at h
  · rename_i es' c st hg
    cases h
    exact ⟨st, hg⟩
  · cases h

theorem Gam.map (g : Gam N φ H w) {i : Nat} {s : Spot} {es : List AEnt} {clock : Nat} (h : H.mapAt i = some (es, clock)) (hs : φ i = some s) :
    ∃ ces : Array MapEntry, w.heap[s.blk]? = some (.map ces clock) ∧ ERel φ es ces.toList ∧ N ≤ s.blk := by
  obtain ⟨st, hg⟩ := map_get h
  obtain ⟨s', o, h1, h2, h3, h4⟩ := g.own i _ hg rfl
  rw [hs] at h1; cases h1
  obtain ⟨ces, rfl, a1, a2⟩ := h3
  refine ⟨ces, h2, ⟨by simpa using a1, fun j e c he hc => a2 j e c he (by simpa using hc)⟩, ?_⟩
  rcases h4 with h4 | ⟨c, el, z, h4⟩
  · exact h4
  · simp at h4
end
end Go.Abs
