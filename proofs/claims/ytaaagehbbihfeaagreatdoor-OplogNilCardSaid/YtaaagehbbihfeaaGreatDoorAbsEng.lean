/-
  The abstract machine, at every depth: what it says of a call, the machine does.
  Conditions: none.
-/
import Derived.Test.YtaaagehbbihfeaaGreatDoorAbsCode
namespace Go.Abs

section
variable {C : Cfg} {E : Eng} {N : Nat} {φ : Names} {H : AHeap} {w : World}

/-! ### A frame's beginning and end -/
theorem putAll_inv : ∀ (args : List AV) (s : Slots) (i j : Nat) (a : AV), (putAll s i args).get j = some a → (∃ k, args[k]? = some a ∧ j = i + k) ∨ s.get j = some a
  | [], s, i, j, a, h => .inr h
  | v :: vs, s, i, j, a, h => by
    rcases putAll_inv vs (s.put i v) (i + 1) j a h with ⟨k, h1, h2⟩ | h1
    · exact .inl ⟨k + 1, by simpa using h1, by omega⟩
    · rcases Slots.get_put_inv _ _ _ _ _ h1 with ⟨rfl, rfl⟩ | ⟨_, h2⟩
      · exact .inl ⟨0, rfl, by omega⟩
      · exact .inr h2

theorem entered {args : List AV} {cargs : Array Value} (h : LRel φ args cargs.toList) (n : Nat) :
    ARel φ ⟨putAll Slots.empty 0 args, bif Nat.ble n args.length then args.length else n, []⟩ { tmps := cargs ++ Array.replicate (n - cargs.size) undef, defers := [] } := by
  have hl : args.length = cargs.size := by simpa using h.1
  refine ⟨fun j a ha => ?_, ?_, .nil⟩
  · rcases putAll_inv args Slots.empty 0 j a ha with ⟨k, h1, h2⟩ | h1
    · obtain ⟨v, hv, hr⟩ := h.get h1
      have hk : k < cargs.size := by
        rcases Nat.lt_or_ge k args.length with h' | h'
        · omega
        · rw [List.getElem?_eq_none h'] at h1; cases h1
      refine ⟨v, ?_, hr⟩
      rw [show j = k by omega]
      rw [Array.getElem?_append_left hk]
      simpa using hv
    · rw [Slots.get_empty] at h1; cases h1
  · simp only [Array.size_append, Array.size_replicate]
    cases hb : Nat.ble n args.length with
    | true =>
      have := Nat.le_of_ble_eq_true hb
      simp only [cond_true]; omega
    | false =>
      have : ¬ n ≤ args.length := fun h => by rw [Nat.ble_eq_true_of_le h] at hb; cases hb
      simp only [cond_false]; omega

theorem foldl_params (n : Nat) : ∀ (ps : List Tmp) (args : List AV) (s s' : Slots) (cargs : List Value) (tmps : Array Value), putParams n s ps args = some s' → LRel φ args cargs → SRel φ s tmps → tmps.size = n →
    ps.length = args.length ∧ SRel φ s' ((ps.zip cargs).foldl (fun tmps (p : Tmp × Value) => tmps.setIfInBounds p.1 p.2) tmps) ∧ ((ps.zip cargs).foldl (fun tmps (p : Tmp × Value) => tmps.setIfInBounds p.1 p.2) tmps).size = n
  | [], [], s, s', cargs, tmps, h, hr, hs, hn => by
    simp [putParams] at h; subst h
    exact ⟨rfl, by simpa using hs, by simpa using hn⟩
  | [], _ :: _, s, s', cargs, tmps, h, hr, hs, hn => by simp [putParams] at h
  | _ :: _, [], s, s', cargs, tmps, h, hr, hs, hn => by simp [putParams] at h
  | t :: ts, v :: vs, s, s', cargs, tmps, h, hr, hs, hn => by
    simp only [putParams] at h
    cases hb : Nat.blt t n with
    | false => simp [hb] at h
    | true =>
      have hlt : t < n := Nat.le_of_ble_eq_true hb
      simp only [hb, cond_true] at h
      obtain ⟨cv, cvs, rfl, h1, h2⟩ := hr.cons_inv
      obtain ⟨a1, a2, a3⟩ := foldl_params n ts vs (s.put t v) s' cvs (tmps.setIfInBounds t cv) h h2 (hs.put h1 (by rw [hn]; exact hlt)) (by simpa using hn)
      exact ⟨by simp [a1], by simpa using a2, by simpa using a3⟩

theorem resultsA_sound (g : Gam N φ H w) {s : Slots} {tmps : Array Value} (hs : SRel φ s tmps) : ∀ (rs : List ResultVar) (vs : List AV), resultsA C s H rs = some vs →
    ∃ cvs, (rs.mapM fun
      | .tmp t => pure (tmps.getD t undef)
      | .cell a t => do loadVar t (← asAddr (tmps.getD a undef)) : Sem (List Value)).run C.P w = .ok cvs w ∧ LRel φ vs cvs
  | [], vs, h => by
    simp [resultsA] at h; subst h
    exact ⟨[], by simp, .nil _⟩
  | .tmp t :: rest, vs, h => by
    simp only [resultsA] at h
    split at h
    · rename_i v vs' h1 h2
      cases h
      obtain ⟨cv, k1, k2⟩ := hs t v h1
      obtain ⟨cvs, k3, k4⟩ := resultsA_sound g hs rest vs' h2
      refine ⟨cv :: cvs, ?_, .cons k2 k4⟩
      simp only [List.mapM_cons, Sem.run_bind, Sem.run_pure, Result.andThen_ok, k3]
      simp [k1]
    · cases h
  | .cell t ty :: rest, vs, h => by
    simp only [resultsA] at h
    split at h
    · rename_i i o vs' h1 h2
      simp only [Option.map_eq_some_iff] at h
      obtain ⟨v, hv, rfl⟩ := h
      obtain ⟨cp, k1, k2⟩ := hs t _ h1
      obtain ⟨cvs, k3, k4⟩ := resultsA_sound g hs rest vs' h2
      cases k2 with | ptr hphi =>
      rename_i sp
      obtain ⟨cv, k5, k6⟩ := loadA_sound g hphi hv
      refine ⟨cv :: cvs, ?_, .cons k6 k4⟩
      have hgd : tmps.getD t undef = .pointer (some ⟨sp.blk, sp.base + o, none⟩) := by simp [k1]
      have hA : (asAddr (tmps.getD t undef)).run C.P w = .ok ⟨sp.blk, sp.base + o, none⟩ w := by rw [hgd]; rfl
      simp only [List.mapM_cons, Sem.run_bind, hA, Sem.run_pure, Result.andThen_ok, k5, k3]
    · cases h

theorem results_sound (g : Gam N φ H w) {s : Slots} {tmps : Array Value} (hs : SRel φ s tmps) {fn : Func} {vs : List AV} (h : resultsA C s H fn.results.toList = some vs) : ∃ cv, (results fn tmps).run C.P w = .ok cv w ∧ VRel φ (oneOr vs) cv := by
  obtain ⟨cvs, h1, h2⟩ := resultsA_sound g hs fn.results.toList vs h
  have hrun : ∀ k : Array Value → Sem Value, (do let x ← fn.results.mapM (fun
      | .tmp t => pure (tmps.getD t undef)
      | .cell a t => do loadVar t (← asAddr (tmps.getD a undef)) : ResultVar → Sem Value); k x).run C.P w = (k cvs.toArray).run C.P w := fun k => by
    rw [Array.mapM_eq_mapM_toList]
    simp only [Sem.run_bind, Sem.run_map]
    rw [h1]
    simp
  have hrun' := hrun fun vs => pure (if h : vs.size = 1 then vs[0] else .tuple vs)
  have hres : (results fn tmps).run C.P w = ((pure (if h : cvs.toArray.size = 1 then cvs.toArray[0] else .tuple cvs.toArray) : Sem Value)).run C.P w := hrun'
  rw [hres]
  clear hres hrun' hrun
  match vs, cvs, h2 with
  | [], [], h2 => exact ⟨.tuple #[], by simp, .tuple rfl fun j a v h => by simp at h⟩
  | [v], [cv], h2 => 
    obtain ⟨cv', cvs', e, h3, _⟩ := h2.cons_inv
    cases e
    exact ⟨cv, by simp, h3⟩
  | v :: v2 :: vs, c :: c2 :: cs, h2 =>
    refine ⟨.tuple (c :: c2 :: cs).toArray, by simp, ?_⟩
    exact VRel.tuple_of (by simpa using h2)
  | [], _ :: _, h2 => exact absurd h2.1 (by simp)
  | _ :: _, [], h2 => exact absurd h2.1 (by simp)
  | [_], _ :: _ :: _, h2 => exact absurd h2.1 (by simp)
  | _ :: _ :: _, [_], h2 => exact absurd h2.1 (by simp)

theorem leave_sound {fn : Func} {a : AAct} {ca : Act} {R : Ending → World → Prop} : ∀ (ms : List Nat) (ds : List Deferred) (φ : Names) (H H' : AHeap) (w : World), MRel φ ms ds → Gam N φ H w → SRel φ a.slots ca.tmps → leaveA ms H = some H' → ∀ vs, resultsA C a.slots H' fn.results.toList = some vs →
    (∀ φ' w' cv, Gam N φ' H' w' → Ext N φ φ' H H' w w' → VRel φ' (oneOr vs) cv → R (.returned cv) w') → LeavesInM Fence.wide 0 C.P fn ca.tmps R ds .returning w
  | [], _, φ, H, H', w, .nil, g, hs, h, vs, hr, hR => by
    simp [leaveA] at h; subst h
    obtain ⟨cv, h1, h2⟩ := results_sound g hs hr
    exact ⟨cv, h1, hR φ w cv g g.refl h2⟩
  | m :: ms, _, φ, H, H', w, .cons (s := s) (ds := ds) hm ht, g, hs, h, vs, hr, hR => by
    simp only [leaveA] at h
    split at h
    case h_2 => cases h
    rename_i stamp hget
    obtain ⟨sp, o, a1, a2, a3, a4⟩ := g.own m _ hget rfl
    rw [hm] at a1; cases a1
    simp only [ORel, Bool.false_eq_true, if_false] at a3
    subst a3
    have hN : N ≤ s.blk := by
      rcases a4 with a4 | ⟨c, el, z, a4⟩
      · exact a4
      · simp at a4
    obtain ⟨g', x'⟩ := g.set hget rfl hm hN (.deferred none) (.deferred true) (fun _ => rfl)
    have hgo : (getObj s.blk).run C.P w = .ok (.deferred (some [])) w := run_getObj a2 (fun _ _ _ h => by cases h)
    have hso := run_setObj (P := C.P) (.deferred none) a2 (fun _ _ _ h => by cases h)
    refine ⟨(fun h => by cases h), .inl ⟨s.blk, { w with heap := w.heap.setIfInBounds s.blk (.deferred none) }, rfl, ?_, ?_⟩⟩
    · simp [Instr.takeDeferred, hgo, hso]
    · exact leave_sound ms ds φ _ H' _ ht g' hs h vs hr fun φ' w' cv g2 x2 hv => hR φ' w' cv g2 (x'.trans g g' x2) hv

/-! ### Calls -/
/-- What is known of calls from elsewhere. -/
def KnownOk (C : Cfg) (N : Nat) : Prop := ∀ f args H v H', C.known f args H = some (v, H') → ∀ φ w (cargs : Array Value), Gam N φ H w → GRel C φ → LRel φ args cargs.toList → CallOk C.P N φ H w f cargs v H'

theorem callA_sound (hm : C.P.follows .mixedOrders = true) (hK : KnownOk C N) (hE : EngOk C N E) {f : FuncId} {args : List AV} {v : AV} {H' : AHeap} (h : callA C E f args H = some (v, H')) {cargs : Array Value} (g : Gam N φ H w) (hg : GRel C φ) (hr : LRel φ args cargs.toList) :
    CallOk C.P N φ H w f cargs v H' := by
  unfold callA at h
  split at h
  · rename_i r hk
    cases h
    exact hK f args H v H' hk φ w cargs g hg hr
  · cases hb : bodied C.P f with
    | false => simp [hb] at h
    | true =>
    simp only [hb, Bool.not_true, cond_false] at h
    obtain ⟨_, hrun⟩ := bodied_run hb
    refine .inr ⟨hrun _ _, ?_⟩
    split at h
    · cases h
    rename_i fn hfn
    split at h
    · cases h
    rename_i c hc
    have ha := entered hr fn.ntmps
    have fin : ∀ (x : AExit) (a : AAct) (H1 : AHeap), codeA C E none c ⟨putAll Slots.empty 0 args, bif Nat.ble fn.ntmps args.length then args.length else fn.ntmps, []⟩ H = some (x, a, H1) → (x = .normal ∨ x = .ret) →
        (match leaveA a.marks H1 with
          | some H'' => match resultsA C a.slots H'' fn.results.toList with
            | some vs => some (oneOr vs, H'')
            | none => none
          | none => none) = some (v, H') → CallsIn Fence.wide 0 C.P f cargs w (EndOk N φ H w v H') := fun x a H1 hcode hx h => by
      split at h
      case h_2 => cases h
      rename_i H2 hleave
      split at h
      case h_2 => cases h
      rename_i vs hres
      cases h
      refine callsIn_of_wp_marks hfn hc trivial (wpIn_mono (codeA_sound hm hE none c _ _ _ _ _ hcode φ w _ none g hg ha trivial) fun e ca w1 hp => ?_)
      obtain ⟨he, φ1, g1, x1, ha1⟩ := hp
      have hl : LeavesInM Fence.wide 0 C.P fn ca.tmps (EndOk N φ H w (oneOr vs) H') ca.defers .returning w1 :=
        leave_sound a.marks ca.defers φ1 H1 H' w1 ha1.2.2 g1 ha1.1 hleave vs hres fun φ' w' cv g2 x2 hv => ⟨φ', g2, x1.trans g g1 x2, hv⟩
      subst he
      rcases hx with rfl | rfl
      · exact hl
      · exact hl
    split at h
    · rename_i a H1 hcode
      exact fin _ a H1 hcode (.inl rfl) h
    · rename_i a H1 hcode
      exact fin _ a H1 hcode (.inr rfl) h
    · cases h

theorem roundA_sound (hm : C.P.follows .mixedOrders = true) (hE : EngOk C N E) {l : Nat} {args : List AV} {v : AV} {H' : AHeap} (h : roundA C E l args H = some (v, H')) {cargs : Array Value} {sp : Spot} (g : Gam N φ H w) (hg : GRel C φ) (hr : LRel φ args cargs.toList) (hsp : φ l = some sp) :
    RoundOk C.P N φ H w sp.blk cargs v H' := by
  unfold roundA at h
  split at h
  case h_2 => cases h
  rename_i st0 pend0 tmps n params assign body d0 stamp0 hget
  split at h
  · cases h
  rename_i s hs
  obtain ⟨sp', fn, ct, ds, h1, h2, h3, h4, h5, h6, h7⟩ := g.loop hget
  rw [hsp] at h1; cases h1
  obtain ⟨e1, e2, e3⟩ := foldl_params n params.toList args tmps s cargs.toList ct hs hr h3 h4
  have hsz : cargs.size = params.size := by
    have := hr.1; simp at this e1; omega
  have hfold : (params.zip cargs).foldl (fun tmps (p : Tmp × Value) => tmps.setIfInBounds p.1 p.2) ct = (params.toList.zip cargs.toList).foldl (fun tmps (p : Tmp × Value) => tmps.setIfInBounds p.1 p.2) ct := by
    rw [← Array.foldl_toList, Array.toList_zip]
  refine ⟨fn, (params.zip cargs).foldl (fun tmps (p : Tmp × Value) => tmps.setIfInBounds p.1 p.2) ct, assign, body, run_yield h2 hsz, ?_⟩
  refine roundIn_of_wpIn trivial ?_
  split at h
  case h_2 => cases h
  rename_i s1 n1 H1 hassign
  split at h
  case h_2 => cases h
  rename_i p1 t1 m1 ps1 as1 b1 d1 stamp1 hget1
  split at h
  case h_2 => cases h
  rename_i x a2 H2 hbody
  split at h
  case h_2 => cases h
  rename_i st2 p2 t2 m2 ps2 as2 b2 d2 stamp2 hget2
  have ha0 : ARel φ ⟨s, n, []⟩ { tmps := (params.zip cargs).foldl (fun tmps (p : Tmp × Value) => tmps.setIfInBounds p.1 p.2) ct, defers := [] } := by
    rw [hfold]; exact ⟨e2, e3, .nil⟩
  have har : Around φ (some l) (some sp.blk) := ⟨sp, hsp, rfl⟩
  refine wpIn_mono (codeA_sound hm hE (some l) assign _ _ _ _ _ hassign φ w _ (some sp.blk) g hg ha0 har) fun e ca1 w1 hp => ?_
  obtain ⟨he, φ1, g1, x1, ha1⟩ := hp
  subst he
  have hsp1 := x1.names _ _ hsp
  obtain ⟨L, q1, q2, q3, q4, q5, q6, q7, q8, q9, gb, xb, q10⟩ := g1.setLoop hget1 hsp1 .busy p1
  have hgo : (getObj sp.blk).run C.P w1 = .ok (.loop L) w1 := run_getObj q1 (fun _ _ _ h => by cases h)
  refine ⟨{ w1 with heap := w1.heap.setIfInBounds sp.blk (.loop { L with state := .busy, pending := p1 }) }, ?_, ?_⟩
  · have q10' := q10 C.P
    have hL : ({ L with state := .busy } : Loop) = { L with state := .busy, pending := p1 } := by rw [← q3]
    simp only [Instr.beginRound, Instr.getLoop, Sem.run_bind, hgo, Result.andThen_ok, Sem.run_pure, hL, q10', q2]
  · refine wpIn_mono (codeA_sound hm hE (some l) body _ _ _ _ _ hbody φ1 _ _ (some sp.blk) gb (hg.mono x1.names) ha1 (har.mono x1.names)) fun e ca2 w2 hp2 => ?_
    obtain ⟨he, φ2, g2, x2, ha2⟩ := hp2
    have hsp2 := x2.names _ _ hsp1
    have hx2 := (x1.trans g g1 xb).trans g gb x2
    have fin : ∀ (stn : LoopState) (jump : Option Code), (stn = if jump.isNone then .ready else .done) → ∃ cv w', (Instr.endRound sp.blk jump).run C.P w2 = .ok cv w' ∧ EndOk N φ H w (.bool jump.isNone) (H2.set l (.loop stn jump t2 m2 ps2 as2 b2 d2)) (.returned cv) w' := fun stn jump hst => by
      obtain ⟨L2, r1, r2, r3, r4, r5, r6, r7, r8, r9, ge, xe, r10⟩ := g2.setLoop hget2 hsp2 stn jump
      have hgo2 : (getObj sp.blk).run C.P w2 = .ok (.loop L2) w2 := run_getObj r1 (fun _ _ _ h => by cases h)
      have r10' := r10 C.P
      refine ⟨.bool jump.isNone, _, ?_, φ2, ge, hx2.trans g g2 xe, .bool _⟩
      subst hst
      simp only [Instr.endRound, Instr.getLoop, Sem.run_bind, hgo2, Result.andThen_ok, Sem.run_pure, r10']
    subst he
    cases x with
    | normal =>
      cases h
      exact fin .ready none rfl
    | ret =>
      cases h
      exact fin .done (some .ret) rfl
    | exit id =>
      cases h
      exact fin .done (some (.exit id)) rfl
end

theorem eng_ok {C : Cfg} {N : Nat} (hm : C.P.follows .mixedOrders = true) (hK : KnownOk C N) : ∀ n, EngOk C N (eng C n)
  | 0 => ⟨fun _ _ _ _ _ h => by simp [eng, eng0] at h, fun _ _ _ _ _ h => by simp [eng, eng0] at h, fun _ _ _ _ _ _ _ h => by simp [eng, eng0] at h⟩
  | n + 1 => by
    have hE := eng_ok hm hK n
    refine ⟨fun f args H v H' h φ w cargs g hg hr => callA_sound hm hK hE h g hg hr, fun l args H v H' h φ w cargs sp g hg hr hsp => roundA_sound hm hE h g hg hr hsp, fun around c a H x a' H' h φ w ca ro g hg ha har => ?_⟩
    have h : codeA C (eng C n) around (.loop c) a H = some (x, a', H') := h
    refine loopIn_of_wpIn ?_
    simp only [codeA] at h
    split at h
    · rename_i a1 H1 h1
      refine wpIn_mono (codeA_sound hm hE around c a H _ _ _ h1 φ w ca ro g hg ha har) fun e ca1 w1 hp => ?_
      obtain ⟨he, φ1, g1, x1, ha1⟩ := hp
      refine then_ok he (fun _ => ?_) (fun hne => absurd rfl hne)
      intro b k cs hro hb hr
      obtain ⟨e2, a2, w2, hq, harr⟩ := hE.loop around c a1 H1 x a' H' h φ1 w1 ca1 ro g1 (hg.mono x1.names) ha1 (har.mono x1.names) b k cs hro hb hr
      exact ⟨e2, a2, w2, hq.trans g g1 x1, harr⟩
    · rename_i hno
      refine wpIn_mono (codeA_sound hm hE around c a H _ _ _ h φ w ca ro g hg ha har) fun e ca1 w1 hp => ?_
      refine then_ok hp.1 (fun hx => ?_) (fun _ => hp)
      subst hx; exact absurd h (hno _ _)
end Go.Abs
