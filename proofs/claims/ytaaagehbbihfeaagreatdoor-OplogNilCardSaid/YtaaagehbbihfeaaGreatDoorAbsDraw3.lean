/-
  A region that draws its order, in whatever order the operations come up, ends where the order of the text ends.
  Conditions: none.
-/
import Derived.Test.YtaaagehbbihfeaaGreatDoorAbsDraw2
namespace Go.Abs

section
variable {D : Dr} {N : Nat} {φ0 φ φ' : Names} {w0 w w' : World} {ca0 ca : Act} {listed : Array Bool} {t : Nat} {K : Nat → Option Nat}

theorem ready_spec {p : Nat} (_hs : listed.size = D.ops.size) (h : p ∈ Region.ready .any D.ops listed) : p < listed.size ∧ ¬ Lst listed p ∧ ∃ o, D.ops[p]? = some o ∧ ∀ e ∈ o.after, Region.binds .any e = true → Lst listed e.on := by
  obtain ⟨h1, o, h2, h3⟩ := mem_ready.1 h
  have hp : p < listed.size := by
    rcases Nat.lt_or_ge p listed.size with h' | h'
    · exact h'
    · simp [Array.getElem?_eq_none h'] at h1
  refine ⟨hp, fun hl => ?_, o, h2, fun e he hb => ?_⟩
  · unfold Lst at hl
    simp [hl] at h1
  · have := h3 e he hb
    unfold Lst
    rcases Nat.lt_or_ge e.on listed.size with h' | h'
    · simp [Array.getElem?_eq_getElem h'] at this ⊢; exact this
    · simp [Array.getElem?_eq_none h'] at this

theorem Inv.step (hD : D.Ok) (hE : EngOk D.C N D.E) (hg0 : Gam N φ0 D.H w0) (h : Inv D N φ0 w0 ca0 listed t K φ w ca) (hf : Full D listed t) {p : Nat} (hr : p ∈ Region.ready .any D.ops listed) {ro : Option Nat}
    {next : Act → World → Prop} {Q : Exit → Act → World → Prop} (hn : ∀ t' K' φ' w' ca', Inv D N φ0 w0 ca0 (listed.setIfInBounds p true) t' K' φ' w' ca' → next ca' w') : wpOpIn (Wide ro) 0 D.C.P D.ops Q p next ca w := by
  obtain ⟨hps, hp, o, ho, hedges⟩ := ready_spec h.size hr
  have hpn := Dr.lt_n ho
  have hR := h.reads hD hf ho hp hedges
  have hop := opV_cases (hD.op ho)
  unfold wpOpIn
  simp only [ho]
  have htp : looks D.C.P o = false → t ≤ p := fun hl => by
    rcases Nat.lt_or_ge p t with hlt | hge
    · exact absurd (h.ahead p hlt ⟨o, ho, hl⟩) hp
    · exact hge
  have hturn : looks D.C.P o = false → floats o = false → p = t := fun hl hfl => by
    have hle := htp hl
    rcases hf with rfl | ⟨hdt, hnt⟩
    · omega
    · rcases Nat.lt_or_ge t p with hlt | hge
      · exact absurd (h.mask_ready hD ho hedges (hD.waits p o ho hl hfl t hdt hlt)) hnt
      · omega
  rcases hop.2 with ⟨hw, hs⟩ | ⟨hw, hv, hH⟩
  · have hw' : wantedA D.ops (D.slots p) o = some true := hw
    have hs' : stepA D.C D.E o (D.slots p) (D.heap p) = some (D.val p, D.heap (p + 1)) := hs
    rw [wantedA_sound hR hw']
    simp only [if_true]
    cases hl : looks D.C.P o with
    | true =>
      have hlook : lookA D.C (evA D.C (D.slots p)) o (D.heap t) = some (D.val p) := by
        have hnb : bit D.ms p t = false := by
          cases hb : bit D.ms p t with
          | false => rfl
          | true =>
            rcases hf with rfl | ⟨_, hnt⟩
            · have := hD.bit_lt _ _ hb; omega
            · exact absurd (h.mask_ready hD ho hedges hb) hnt
        have hnd : ∀ d, D.deed d → d < t → bit D.ms d p = false := fun d hd hlt => by
          cases hb : bit D.ms d p with
          | false => rfl
          | true => exact absurd (h.mask hD d p (h.ahead d hlt hd) hb) hp
        rcases hD.pairs p o ho hl t (hf.imp id (·.1)) hnb hnd with ⟨h1, h2⟩ | hsame
        · rw [hD.still t h1 h.tn h2]
          exact (stepA_look hl hs').2
        · unfold sameAt at hsame
          rw [arr_nth, ho] at hsame
          simp only at hsame
          have e1 : wantedA D.ops (stateAt D.a D.H D.tr p).1.slots o = some true := hw
          rw [e1] at hsame
          simp only at hsame
          split at hsame
          · rename_i u hu
            have := eqAV_eq 12 _ _ hsame
            rw [this] at hu
            exact hu
          · cases hsame
      have hst : stepA D.C D.E o (D.slots p) (D.heap t) = some (D.val p, D.heap t) := by
        unfold stepA
        simp only [hl, cond_true, hlook]
      exact stepA_sound hE h.gam h.glob (hR.evals h.glob) hst fun φ' w' cv g' x' hv => hn t K φ' w' _ (h.exec hD hg0 ho hp hedges (.inl ⟨hl, rfl⟩) g' x' hv)
    | false =>
      cases hfl : floats o with
      | false =>
        have hpt := hturn hl hfl
        subst hpt
        exact stepA_sound hE h.gam h.glob (hR.evals h.glob) hs' fun φ' w' cv g' x' hv => hn (p + 1) K φ' w' _ (h.exec hD hg0 ho hp hedges (.inr ⟨hl, rfl, rfl⟩) g' x' hv)
      | true =>
        unfold stepA at hs'
        simp only [hl, cond_false] at hs'
        have hdo : ∃ n H1, doA D.C (evA D.C (D.slots p)) o (D.heap p) = some (n, H1) := by
          cases hd : doA D.C (evA D.C (D.slots p)) o (D.heap p) with
          | none => rw [hd] at hs'; cases hs'
          | some x => exact ⟨x.1, x.2, rfl⟩
        obtain ⟨n, H1, hd⟩ := hdo
        obtain ⟨aobj, obj, room, esz, mk, cmk, rfl, rfl, k1, k2, k3⟩ := float_sound D.C hfl (hR.evals h.glob) hd
        rw [hd] at hs'
        simp only [Option.some.injEq, Prod.mk.injEq] at hs'
        refine ⟨fun _ _ => trivial, ?_⟩
        rw [Oper.semAt_eq _ _ _ (doA_notDefer hd), k1 w]
        exact hn t _ φ _ _ (h.float hD ho hp hedges (htp hl) hl hs'.2.symm (fun φ' hle => k2 φ' _ hle) (fun φ' hφ => by rw [← hs'.1]; exact k3 φ' _ _ hφ))
  · have hw' : wantedA D.ops (D.slots p) o = some false := hw
    have hv' : D.val p = .tuple [] := hv
    rw [wantedA_sound hR hw']
    simp only [Bool.false_eq_true, if_false]
    have hrel : VRel φ (D.val p) undef := by rw [hv']; exact .tuple rfl fun j a v h => by simp at h
    refine ⟨fun _ _ => trivial, ?_⟩
    cases hl : looks D.C.P o with
    | true => exact hn t K φ w _ (h.exec hD hg0 ho hp hedges (.inl ⟨hl, rfl⟩) h.gam h.gam.refl hrel)
    | false =>
      cases hfl : floats o with
      | false =>
        have hpt := hturn hl hfl
        subst hpt
        refine hn (p + 1) K φ w _ (h.exec hD hg0 ho hp hedges (.inr ⟨hl, rfl, rfl⟩) ?_ ?_ hrel)
        · rw [hH]; exact h.gam
        · rw [hH]; exact h.gam.refl
      | true => exact hn t _ φ w _ (h.floatU hD ho hp hedges (htp hl) hl hH hrel)

theorem all_of_ready_nil (hD : D.Ok) (hs : listed.size = D.ops.size) (h : Region.ready .any D.ops listed = []) : ∀ i, i < D.n → Lst listed i := by
  intro i
  induction i using Nat.strongRecOn with
  | _ i ih =>
    intro hi
    obtain ⟨o, ho⟩ := Dr.at_n hi
    have his : i < listed.size := by rw [hs]; simpa [Dr.n] using hi
    cases hb : listed[i]'his with
    | true => unfold Lst; rw [Array.getElem?_eq_getElem his, hb]
    | false =>
      exfalso
      have : i ∈ Region.ready .any D.ops listed := mem_ready.2 ⟨by simp [his, hb], o, ho, fun e he hbd => by
        have hlt := hD.back i o ho e he hbd
        have := ih e.on hlt (by omega)
        unfold Lst at this
        simp [this]⟩
      rw [h] at this; cases this

theorem Inv.done (hD : D.Ok) (hN : N ≤ w0.heap.size) (h : Inv D N φ0 w0 ca0 listed t K φ w ca) (hall : ∀ i, i < D.n → Lst listed i) (hm : MRel φ0 D.a.marks ca0.defers) :
    ∃ φ', Gam N φ' (D.heap D.n) w ∧ Ext N φ0 φ' D.H (D.heap D.n) w0 w ∧ ARel φ' (stateAt D.a D.H D.tr D.n).1 ca := by
  obtain ⟨t', φ', h', hf⟩ := Inv.full hD hN (D.n - t) t φ (Nat.le_refl _) h
  have ht : t' = D.n := by
    rcases hf with h1 | ⟨⟨o, ho, _⟩, h2⟩
    · exact h1
    · exact absurd (hall t' (Dr.lt_n ho)) h2
  subst ht
  refine ⟨φ', h'.gam, h'.ext, fun d x hx => ?_, ?_, ?_⟩
  · rcases hD.slot D.n (Nat.le_refl _) hx with ⟨q, oq, hq, hoq, hdq, rfl⟩ | ⟨hno, hx0⟩
    · exact h'.new q oq d (hall q hq) hoq (.inl hq) hdq
    · exact h'.old d x hx0 fun i oi _ hoi => hno i oi (Dr.lt_n hoi) hoi
  · rw [h'.tsize, (hD.act D.n (Nat.le_refl _)).1]
  · rw [h'.tdefers, (hD.act D.n (Nat.le_refl _)).2]
    exact hm.mono h'.ext.names

theorem count_set {l : List Bool} {p : Nat} (h : l[p]? = some false) : (l.set p true).count false + 1 = l.count false := by
  induction l generalizing p with
  | nil => simp at h
  | cons x l ih =>
    cases p with
    | zero => simp at h; subst h; simp
    | succ p =>
      simp at h
      have := ih h
      simp only [List.set_cons_succ, List.count_cons]
      omega

theorem all_of_count : ∀ {l : List Bool}, l.count false = 0 → ∀ (i : Nat), i < l.length → l[i]? = some true
  | [], _, i, hi => by simp at hi
  | x :: l, h, i, hi => by
    rw [List.count_cons] at h
    cases i with
    | zero => cases x <;> simp at h ⊢
    | succ i => simp at hi ⊢; exact all_of_count (by omega) i hi

theorem Inv.wp (hD : D.Ok) (hE : EngOk D.C N D.E) (hg0 : Gam N φ0 D.H w0) (hm : MRel φ0 D.a.marks ca0.defers) {ro : Option Nat} {Q : Exit → Act → World → Prop}
    (hQ : ∀ φ' w' ca', Gam N φ' (D.heap D.n) w' → Ext N φ0 φ' D.H (D.heap D.n) w0 w' → ARel φ' (stateAt D.a D.H D.tr D.n).1 ca' → Q .normal ca' w') :
    ∀ (k : Nat) (listed : Array Bool) (t : Nat) (K : Nat → Option Nat) (φ : Names) (w : World) (ca : Act), Inv D N φ0 w0 ca0 listed t K φ w ca → listed.toList.count false = k → wpAnyIn (Wide ro) 0 D.C.P .any D.ops Q k listed ca w
  | 0, listed, t, K, φ, w, ca, h, hk => by
    have hall : ∀ i, i < D.n → Lst listed i := fun i hi => by
      have hs := h.size
      have := all_of_count hk i (by simp [Dr.n] at hi ⊢; omega)
      unfold Lst
      simpa using this
    refine ⟨?_, ?_⟩
    · cases hr : Region.ready .any D.ops listed with
      | nil => rfl
      | cons x xs =>
        exfalso
        have hx : x ∈ Region.ready .any D.ops listed := by rw [hr]; simp
        obtain ⟨_, h2, o, ho, _⟩ := ready_spec h.size hx
        exact h2 (hall x (Dr.lt_n ho))
    · obtain ⟨φ', a1, a2, a3⟩ := h.done hD hg0.size hall hm
      exact hQ φ' w ca a1 a2 a3
  | k + 1, listed, t, K, φ, w, ca, h, hk => by
    refine ⟨fun hr => ?_, fun p hp => ?_⟩
    · obtain ⟨φ', a1, a2, a3⟩ := h.done hD hg0.size (all_of_ready_nil hD h.size hr) hm
      exact hQ φ' w ca a1 a2 a3
    · obtain ⟨t', φ', h', hf⟩ := Inv.full hD hg0.size (D.n - t) t φ (Nat.le_refl _) h
      refine h'.step hD hE hg0 hf hp fun t2 K2 φ2 w2 ca2 h2 => ?_
      refine Inv.wp hD hE hg0 hm hQ k _ t2 K2 φ2 w2 ca2 h2 ?_
      obtain ⟨hps, hnl, _⟩ := ready_spec h.size hp
      have hfl : listed.toList[p]? = some false := by
        unfold Lst at hnl
        rw [Array.getElem?_eq_getElem hps] at hnl
        simp only [Array.getElem?_toList, Array.getElem?_eq_getElem hps]
        cases hb : listed[p] with
        | false => rfl
        | true => rw [hb] at hnl; exact absurd rfl hnl
      rw [Array.toList_setIfInBounds]
      have := count_set hfl
      omega
end

/-- A drawn region, run in the order of the text. -/
theorem drawnA_sound {C : Cfg} {E : Eng} {N : Nat} {φ : Names} {H : AHeap} {w : World} (hE : EngOk C N E) (g : Gam N φ H w) (hg : GRel C φ) {a a' : AAct} {ca : Act} (ha : ARel φ a ca) {ops : Array Oper} {ps : List (Nat × Nat)} {H' : AHeap}
    (hps : pairsOf C.P ops = some ps) (h : drawnA C E ops ps a H = some (a', H')) (ro : Option Nat) : wpAnyIn (Wide ro) 0 C.P .any ops (Post N φ H w .normal a' H') ops.size (Array.replicate ops.size false) ca { w with drawn := w.drawn + 1 } := by
  unfold drawnA at h
  split at h
  case h_2 => cases h
  rename_i tr htr
  cases hsame : (ps.all fun x => sameAt C ops ops.toList a H tr x.1 x.2) with
  | false => simp [hsame] at h
  | true =>
  simp only [hsame, cond_true, Option.some.injEq] at h
  have hD := Dr.ok_of hps htr hsame
  have hg0 : Gam N φ H { w with drawn := w.drawn + 1 } := g.drew _
  have h1 : (stateAt a H tr ops.toList.length).1 = a' := by rw [h]
  have h2 : (stateAt a H tr ops.toList.length).2 = H' := by rw [h]
  have hI : Inv ⟨C, E, ops, a, H, tr⟩ N φ { w with drawn := w.drawn + 1 } ca (Array.replicate ops.size false) 0 (fun _ => none) φ { w with drawn := w.drawn + 1 } ca := by
    have nl : ∀ i, ¬ Lst (Array.replicate ops.size false) i := fun i hi => by
      unfold Lst at hi
      rw [Array.getElem?_replicate] at hi
      split at hi <;> simp at hi
    refine ⟨by simp, fun i o hi => absurd hi (nl i), Nat.zero_le _, fun i hi => by omega, hg0, hg0.refl, hg, ha.2.1, rfl, fun d x hx _ => ha.1 d x hx, fun i o d hi => absurd hi (nl i), fun i o hi => absurd hi (nl i), fun i j b hi => absurd hi (nl i)⟩
  refine Inv.wp hD hE hg0 ha.2.2 (fun φ' w' ca' g' x' a' => ?_) ops.size _ 0 _ φ _ ca hI (by simp)
  refine ⟨rfl, φ', ?_, ?_, ?_⟩
  · rw [← h2]; exact g'
  · rw [← h2]; exact x'.undrew
  · rw [← h1]; exact a'
end Go.Abs
