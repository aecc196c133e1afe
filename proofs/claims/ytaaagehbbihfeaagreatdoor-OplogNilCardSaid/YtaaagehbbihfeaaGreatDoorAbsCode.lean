/-
  Code, calls, rounds of ranges over functions: what the abstract machine says of them, the machine does.
  Conditions: none.
-/
import Derived.Test.YtaaagehbbihfeaaGreatDoorAbsPerm
namespace Go.Abs

section loops
variable {F : Fence} {n : Nat} {P : Program} {Q : Exit → Act → World → Prop} {a : Act} {w : World} {c : Code}

theorem wpIn_of_loopIn (h : loopIn F n P c Q a w) : (Code.loop c).wpIn F n P Q a w := fun b k cs hro hb hr => by
  obtain ⟨e, a', w', hq, harr⟩ := h b k cs hro hb hr
  exact ⟨e, a', w', hq, .of_steps (.one (fenced_calm hb hr rfl) stepR_loop) harr⟩

theorem loopIn_of_wpIn (h : c.wpIn F n P (Exit.then (loopIn F n P c Q) Q) a w) : loopIn F n P c Q a w := by
  intro b k cs hro hb hr
  obtain ⟨e, a₁, w₁, hq, harr⟩ := h b (.inLoop c :: k) cs hro hb hr
  cases e with
  | normal =>
    obtain ⟨e₂, a₂, w₂, hq₂, harr₂⟩ := hq b k cs hro hb hr
    exact ⟨e₂, a₂, w₂, hq₂, .of_steps (StepsIn.trans harr (.one (fenced_calm hb hr rfl) stepR_inLoop)) harr₂⟩
  | exit id => exact ⟨_, a₁, w₁, hq, .pass (x := .inLoop c) rfl (fun _ _ => .inl (by simp)) harr⟩
  | goto l => exact ⟨_, a₁, w₁, hq, .pass (x := .inLoop c) rfl (fun _ _ => .inl (by simp)) harr⟩
  | ret => exact ⟨_, a₁, w₁, hq, .pass (x := .inLoop c) rfl (fun _ _ => .inl (by simp)) harr⟩
  | panic ch => exact ⟨_, a₁, w₁, hq, .pass (x := .inLoop c) rfl (fun _ _ => .inl (by simp)) harr⟩
  | outgrown => exact ⟨_, a₁, w₁, hq, .pass (x := .inLoop c) rfl (fun _ _ => .inl (by simp)) harr⟩
end loops

section
variable {C : Cfg} {E : Eng} {N : Nat}

theorem Post.trans {φ φ1 : Names} {H H1 : AHeap} {w w1 : World} (g : Gam N φ H w) (g1 : Gam N φ1 H1 w1) (x : Ext N φ φ1 H H1 w w1) {xt : AExit} {a' : AAct} {H' : AHeap} {e : Exit} {ca : Act} {w' : World} (h : Post N φ1 H1 w1 xt a' H' e ca w') : Post N φ H w xt a' H' e ca w' := by
  obtain ⟨h1, φ', g', x', a'⟩ := h
  exact ⟨h1, φ', g', x.trans g g1 x', a'⟩

/-- One piece of code behind another. -/
theorem then_ok {K : Act → World → Prop} {Q : Exit → Act → World → Prop} {x : AExit} {e : Exit} {a : Act} {w : World} (h : e = x.out) (hn : x = .normal → K a w) (ho : x ≠ .normal → Q e a w) : Exit.then K Q e a w := by
  subst h
  cases x with
  | normal => exact hn rfl
  | exit id => exact ho (by simp)
  | ret => exact ho (by simp)

theorem run_yield {P : Program} {w : World} {b : Nat} {L : Loop} (hb : w.heap[b]? = some (.loop L)) {args : Array Value} (hs : args.size = L.params.size) :
    (Instr.yield b args).run P w = .ok (.round b L.fn ((L.params.zip args).foldl (fun tmps (t, a) => tmps.setIfInBounds t a) L.tmps) L.assign L.body) w := by
  have hgo : (getObj b).run P w = .ok (.loop L) w := run_getObj hb (fun _ _ _ h => by cases h)
  simp [Instr.yield, Instr.getLoop, hgo, hs]

theorem Gam.loop {φ : Names} {H : AHeap} {w : World} (g : Gam N φ H w) {l : Nat} {st : LoopState} {pend : Option Code} {tmps : Slots} {n : Nat} {ps : Array Tmp} {as body : Code} {d s : Nat} (h : H.get l = some ⟨.loop st pend tmps n ps as body d, s⟩) :
    ∃ (sp : Spot) (fn : FuncId) (ct : Array Value) (ds : Spot), φ l = some sp ∧ w.heap[sp.blk]? = some (.loop ⟨st, pend, fn, ct, ps, as, body, ds.blk⟩) ∧ SRel φ tmps ct ∧ ct.size = n ∧ φ d = some ds ∧ N ≤ sp.blk ∧ sp.base = 0 := by
  obtain ⟨sp, o, h1, h2, ⟨h0, fn, ct, ds, rfl, h3, h4, h5⟩, h6⟩ := g.own l _ h rfl
  refine ⟨sp, fn, ct, ds, h1, h2, h3, h4, h5, ?_, h0⟩
  rcases h6 with h6 | ⟨c, el, z, h6⟩
  · exact h6
  · simp at h6

/-- A loop's record is another one. -/
theorem Gam.setLoop {φ : Names} {H : AHeap} {w : World} (g : Gam N φ H w) {l : Nat} {st : LoopState} {pend : Option Code} {tmps : Slots} {n : Nat} {ps : Array Tmp} {as body : Code} {d s : Nat} (h : H.get l = some ⟨.loop st pend tmps n ps as body d, s⟩) {sp : Spot} (hsp : φ l = some sp)
    (st' : LoopState) (pend' : Option Code) : ∃ L : Loop, w.heap[sp.blk]? = some (.loop L) ∧ L.state = st ∧ L.pending = pend ∧ L.params = ps ∧ L.assign = as ∧ L.body = body ∧ SRel φ tmps L.tmps ∧ L.tmps.size = n ∧ (∃ ds, φ d = some ds ∧ ds.blk = L.defers) ∧
      Gam N φ (H.set l (.loop st' pend' tmps n ps as body d)) { w with heap := w.heap.setIfInBounds sp.blk (.loop { L with state := st', pending := pend' }) } ∧
      Ext N φ φ H (H.set l (.loop st' pend' tmps n ps as body d)) w { w with heap := w.heap.setIfInBounds sp.blk (.loop { L with state := st', pending := pend' }) } ∧
      ∀ (P : Program), (setObj sp.blk (.loop { L with state := st', pending := pend' })).run P w = .ok () { w with heap := w.heap.setIfInBounds sp.blk (.loop { L with state := st', pending := pend' }) } := by
  obtain ⟨sp', fn, ct, ds, h1, h2, h3, h4, h5, h6, h7⟩ := g.loop h
  rw [hsp] at h1; cases h1
  obtain ⟨g', x'⟩ := g.set h rfl hsp h6 (.loop ⟨st', pend', fn, ct, ps, as, body, ds.blk⟩) (.loop st' pend' tmps n ps as body d) (fun _ => ⟨h7, fn, ct, ds, rfl, h3, h4, h5⟩)
  exact ⟨⟨st, pend, fn, ct, ps, as, body, ds.blk⟩, h2, rfl, rfl, rfl, rfl, rfl, h3, h4, ⟨ds, h5, rfl⟩, g', x', fun P => run_setObj _ h2 (fun _ _ _ h => by cases h)⟩

theorem bodied_run {P : Program} {f : FuncId} (h : bodied P f = true) : (∃ fn, P.funcs[f]? = some fn ∧ fn.body.isSome = true) ∧ ∀ args w, (callFunc f args).run P w = .ok (.enter f args) w := by
  unfold bodied at h
  split at h
  · rename_i fn hf
    rw [Bool.and_eq_true, Bool.not_eq_true'] at h
    refine ⟨⟨fn, hf, h.2⟩, fun args w => ?_⟩
    have h1 : fn.body.isNone = false := by
      cases hb : fn.body with
      | none => rw [hb] at h; simp at h
      | some c => rfl
    simp only [callFunc, Sem.run_bind, run_program, Result.andThen_ok, hf, h.1, h1, Bool.false_eq_true, if_false, Sem.run_pure]
  · cases h

/-- What is laid when a range over a function begins. -/
theorem enterLoop_sound {φ : Names} {H : AHeap} {w : World} (g : Gam N φ H w) {a : AAct} {ca : Act} (ha : ARel φ a ca) {around ro : Option Nat} (har : Around φ around ro) {ps : Array Tmp} {as body : Code} {H1 : AHeap} {d : Nat} {mark : List Nat}
    (h : layA around H = some (H1, d, mark)) (fn : FuncId) (P : Program) :
    ∃ (φ2 : Names) (w2 : World) (b : Nat) (cmark : List Deferred) (sp : Spot), (Instr.enterLoop fn ca.tmps ps as body ro).run P w = .ok (b, cmark) w2 ∧ Gam N φ2 (H1.new (.loop .ready none a.slots a.n ps as body d)) w2 ∧ Ext N φ φ2 H (H1.new (.loop .ready none a.slots a.n ps as body d)) w w2 ∧
      φ2 H1.next = some sp ∧ sp.blk = b ∧ MRel φ2 mark cmark := by
  unfold layA at h
  cases around with
  | none =>
    simp only [Option.some.injEq, Prod.mk.injEq] at h
    obtain ⟨rfl, rfl, rfl⟩ := h
    cases ro with
    | some b => exact har.elim
    | none =>
      obtain ⟨g1, x1⟩ := g.new (.deferred (some [])) (.deferred false) ⟨w.heap.size, 0, 0, 0⟩ rfl rfl
      have hd1 : (φ.add H.next ⟨w.heap.size, 0, 0, 0⟩) H.next = some ⟨w.heap.size, 0, 0, 0⟩ := Names.add_same _ _ _
      have ha1 := ha.mono x1.names
      let w1 : World := { w with heap := w.heap.push (.deferred (some [])) }
      let L : Loop := ⟨.ready, none, fn, ca.tmps, ps, as, body, w.heap.size⟩
      obtain ⟨g2, x2⟩ := g1.new (.loop L) (.loop .ready none a.slots a.n ps as body H.next) ⟨w1.heap.size, 0, 0, 0⟩ rfl ⟨rfl, fn, ca.tmps, ⟨w.heap.size, 0, 0, 0⟩, rfl, ha1.1.mono (g1.le_add _), ha1.2.1, g1.le_add _ _ _ hd1⟩
      refine ⟨_, _, w1.heap.size, [{ target := .collected w.heap.size, args := #[] }], ⟨w1.heap.size, 0, 0, 0⟩, ?_, g2, x1.trans g g1 x2, Names.add_same _ _ _, rfl, ?_⟩
      · rfl
      · exact .cons (x2.names _ _ hd1) .nil
  | some l =>
    simp only at h
    cases ro with
    | none => exact har.elim
    | some b =>
      obtain ⟨s, hs, rfl⟩ := har
      split at h
      · rename_i st pend tm n ps' as' body' d' stamp hget
        simp only [Option.some.injEq, Prod.mk.injEq] at h
        obtain ⟨rfl, rfl, rfl⟩ := h
        obtain ⟨sp, fn', ct, ds, h1, h2, h3, h4, h5, h6, h7⟩ := g.loop hget
        rw [hs] at h1; cases h1
        have hgo : (getObj s.blk).run P w = .ok (.loop ⟨st, pend, fn', ct, ps', as', body', ds.blk⟩) w := run_getObj h2 (fun _ _ _ h => by cases h)
        let L : Loop := ⟨.ready, none, fn, ca.tmps, ps, as, body, ds.blk⟩
        obtain ⟨g2, x2⟩ := g.new (.loop L) (.loop .ready none a.slots a.n ps as body d') ⟨w.heap.size, 0, 0, 0⟩ rfl ⟨rfl, fn, ca.tmps, ds, rfl, ha.1.mono (g.le_add _), ha.2.1, g.le_add _ _ _ h5⟩
        refine ⟨_, _, w.heap.size, [], ⟨w.heap.size, 0, 0, 0⟩, ?_, g2, x2, Names.add_same _ _ _, rfl, .nil⟩
        simp only [Instr.enterLoop, Instr.getLoop, Sem.run_bind, hgo, Result.andThen_ok, Sem.run_pure]
        rfl
      · cases h


theorem codeA_sound (hm : C.P.follows .mixedOrders = true) (hE : EngOk C N E) (around : Option Nat) : ∀ (c : Code) (a : AAct) (H : AHeap) (x : AExit) (a' : AAct) (H' : AHeap), codeA C E around c a H = some (x, a', H') → CodeOk C N around c a H x a' H' := by
  intro c
  induction c with
  | skip =>
    intro a H x a' H' h φ w ca ro g hg ha har
    simp only [codeA, Option.some.injEq, Prod.mk.injEq] at h
    obtain ⟨rfl, rfl, rfl⟩ := h
    exact wpIn_skip ⟨rfl, φ, g, g.refl, ha⟩
  | label l =>
    intro a H x a' H' h φ w ca ro g hg ha har
    simp only [codeA, Option.some.injEq, Prod.mk.injEq] at h
    obtain ⟨rfl, rfl, rfl⟩ := h
    exact wpIn_label ⟨rfl, φ, g, g.refl, ha⟩
  | exit id =>
    intro a H x a' H' h φ w ca ro g hg ha har
    simp only [codeA, Option.some.injEq, Prod.mk.injEq] at h
    obtain ⟨rfl, rfl, rfl⟩ := h
    exact wpIn_exit ⟨rfl, φ, g, g.refl, ha⟩
  | ret =>
    intro a H x a' H' h φ w ca ro g hg ha har
    simp only [codeA, Option.some.injEq, Prod.mk.injEq] at h
    obtain ⟨rfl, rfl, rfl⟩ := h
    exact wpIn_ret ⟨rfl, φ, g, g.refl, ha⟩
  | goto l => intro a H x a' H' h; simp [codeA] at h
  | scope => intro a H x a' H' h; simp [codeA] at h
  | refuse => intro a H x a' H' h; simp [codeA] at h
  | region id ops draw =>
    intro a H x a' H' h φ w ca ro g hg ha har
    simp only [codeA] at h
    split at h
    · rename_i a1 H1 hr
      simp only [Option.some.injEq, Prod.mk.injEq] at h
      obtain ⟨rfl, rfl, rfl⟩ := h
      exact regionA_sound hm hE g hg ha hr id ro
    · cases h
  | seq x y ihx ihy =>
    intro a H xt a' H' h φ w ca ro g hg ha har
    simp only [codeA] at h
    split at h
    · rename_i a1 H1 h1
      refine wpIn_seq (wpIn_mono (ihx a H _ _ _ h1 φ w ca ro g hg ha har) fun e ca1 w1 hp => ?_)
      obtain ⟨he, φ1, g1, x1, ha1⟩ := hp
      refine then_ok he (fun _ => ?_) (fun hne => absurd rfl hne)
      exact wpIn_mono (ihy a1 H1 _ _ _ h φ1 w1 ca1 ro g1 (hg.mono x1.names) ha1 (har.mono x1.names)) fun e ca2 w2 hp2 => hp2.trans g g1 x1
    · rename_i hno
      refine wpIn_seq (wpIn_mono (ihx a H _ _ _ h φ w ca ro g hg ha har) fun e ca1 w1 hp => ?_)
      refine then_ok hp.1 (fun hx => ?_) (fun _ => hp)
      subst hx; exact absurd h (hno _ _)
  | cond c x y ihx ihy =>
    intro a H xt a' H' h φ w ca ro g hg ha har
    simp only [codeA] at h
    split at h
    · rename_i hc
      have := evA_sound ha.1 hg hc
      generalize hcv : ca.eval c = cv at this
      cases this
      exact wpIn_cond_true hcv (ihx a H _ _ _ h φ w ca ro g hg ha har)
    · rename_i hc
      have := evA_sound ha.1 hg hc
      generalize hcv : ca.eval c = cv at this
      cases this
      exact wpIn_cond_false hcv (ihy a H _ _ _ h φ w ca ro g hg ha har)
    · cases h
  | block id x ih =>
    intro a H xt a' H' h φ w ca ro g hg ha har
    simp only [codeA] at h
    split at h
    · rename_i id' a1 H1 h1
      refine wpIn_block (wpIn_mono (ih a H _ _ _ h1 φ w ca ro g hg ha har) fun e ca1 w1 hp => ?_)
      obtain ⟨he, φ1, g1, x1, ha1⟩ := hp
      simp only [AExit.out] at he
      subst he
      simp only [Exit.inBlock]
      cases hb : Nat.beq id' id with
      | true =>
        simp only [hb, cond_true, Option.some.injEq, Prod.mk.injEq] at h
        obtain ⟨rfl, rfl, rfl⟩ := h
        rw [if_pos (Nat.eq_of_beq_eq_true hb)]
        exact ⟨rfl, φ1, g1, x1, ha1⟩
      | false =>
        simp only [hb, cond_false, Option.some.injEq, Prod.mk.injEq] at h
        obtain ⟨rfl, rfl, rfl⟩ := h
        rw [if_neg (Nat.ne_of_beq_eq_false hb)]
        exact ⟨rfl, φ1, g1, x1, ha1⟩
    · rename_i hno
      refine wpIn_block (wpIn_mono (ih a H _ _ _ h φ w ca ro g hg ha har) fun e ca1 w1 hp => ?_)
      obtain ⟨he, hrest⟩ := hp
      subst he
      cases xt with
      | normal => exact ⟨rfl, hrest⟩
      | ret => exact ⟨rfl, hrest⟩
      | exit id' => exact absurd h (hno _ _ _)
  | loop x ih =>
    intro a H xt a' H' h φ w ca ro g hg ha har
    refine wpIn_of_loopIn (loopIn_of_wpIn ?_)
    simp only [codeA] at h
    split at h
    · rename_i a1 H1 h1
      refine wpIn_mono (ih a H _ _ _ h1 φ w ca ro g hg ha har) fun e ca1 w1 hp => ?_
      obtain ⟨he, φ1, g1, x1, ha1⟩ := hp
      refine then_ok he (fun _ => ?_) (fun hne => absurd rfl hne)
      intro b k cs hro hb hr
      obtain ⟨e2, a2, w2, hq, harr⟩ := hE.loop around x a1 H1 xt a' H' h φ1 w1 ca1 ro g1 (hg.mono x1.names) ha1 (har.mono x1.names) b k cs hro hb hr
      exact ⟨e2, a2, w2, hq.trans g g1 x1, harr⟩
    · rename_i hno
      refine wpIn_mono (ih a H _ _ _ h φ w ca ro g hg ha har) fun e ca1 w1 hp => ?_
      refine then_ok hp.1 (fun hx => ?_) (fun _ => hp)
      subst hx; exact absurd h (hno _ _)
  | rangeFunc f ps as body ihas ihbody =>
    intro a H xt a' H' h φ w ca ro g hg ha har
    simp only [codeA] at h
    split at h
    case h_2 => cases h
    rename_i g' first captured hf
    split at h
    · cases h
    rename_i H1 d mark hlay
    split at h
    · cases h
    rename_i v3 H3 hcall
    cases hbd : bodied C.P g' with
    | false => simp [hbd] at hcall
    | true =>
    simp only [hbd, cond_true] at hcall
    obtain ⟨_, hrun⟩ := bodied_run hbd
    have hfv := evA_sound ha.1 hg hf
    generalize hcf : ca.eval f = cf at hfv
    refine wpIn_rangeFunc fun fn _ => ?_
    obtain ⟨φ2, w2, b, cmark, sp, he, g2, x2, hsp, rfl, hmark⟩ := enterLoop_sound (ps := ps) (as := as) (body := body) g ha har hlay fn C.P
    cases hfv with | func _ h1 h2 h3 h4 =>
    rename_i vf vc _
    have hres : (resolve ca.eval (rangeCall f sp.blk) 0).run C.P w2 = .ok { target := .fn (.func g') vc, args := vf ++ #[.func (.yield sp.blk) #[] #[]] } w2 := by
      have harr : (#[Operand.const (.func (.yield sp.blk) #[] #[])].map ca.eval) = #[.func (.yield sp.blk) #[] #[]] := by simp [Act.eval]
      simp only [resolve, harr, hcf]
      rfl
    have hargs : LRel φ2 ((first ++ [.yield H1.next]) ++ captured) ((vf ++ #[Value.func (.yield sp.blk) #[] #[]]) ++ vc).toList := by
      have e1 : LRel φ2 first vf.toList := (LRel.arr h1 h3).mono x2.names
      have e2 : LRel φ2 captured vc.toList := (LRel.arr h2 h4).mono x2.names
      have e3 : LRel φ2 [.yield H1.next] (#[Value.func (.yield sp.blk) #[] #[]] : Array Value).toList := .cons (.yield hsp) (.nil _)
      exact (e1.list_append e3).list_append e2
    have hcallok := hE.call g' _ _ _ _ hcall φ2 w2 _ g2 (hg.mono x2.names) hargs
    refine ⟨sp.blk, cmark, w2, _, w2, g', (vf ++ #[.func (.yield sp.blk) #[] #[]]) ++ vc, w2, he, hres, fun _ _ => trivial, by simp only [invoke]; exact hrun _ _, fun h => by simp [Wide, Fence.wide] at h, ?_⟩
    rcases hcallok with ⟨φ', w', cv, _, _, _, hr⟩ | ⟨_, hc⟩
    · rw [hrun] at hr; cases hr
    refine CallsIn.mono (CallsIn.ofWide hc) fun e w3 hend => ?_
    cases e with
    | panicked ch => exact hend.elim
    | outgrown => exact hend.elim
    | returned cv =>
      obtain ⟨φ3, g3, x3, _⟩ := hend
      have hx3 := x2.trans g g2 x3
      split at h
      case h_2 => cases h
      rename_i st pend lt ln lp las lb ld stamp hget
      have hsp3 := x3.names _ _ hsp
      obtain ⟨L, q1, q2, q3, q4, q5, q6, q7, q8, q9, g4, x4, q10⟩ := g3.setLoop hget hsp3 .exhausted pend
      have hgo : (getObj sp.blk).run C.P w3 = .ok (.loop L) w3 := run_getObj q1 (fun _ _ _ h => by cases h)
      have hend : st ≠ .busy → (Instr.endLoop sp.blk).run C.P w3 = .ok pend { w3 with heap := w3.heap.setIfInBounds sp.blk (.loop { L with state := .exhausted, pending := pend }) } := fun hne => by
        have this : L.state ≠ .busy := by rw [q2]; exact hne
        have q10' := q10 C.P
        simp [Instr.endLoop, Instr.getLoop, hgo, this, q10', q3]
      have ha4 : ARel φ3 { a with marks := mark ++ a.marks } { ca with defers := cmark ++ ca.defers } := ⟨ha.1.mono hx3.names, ha.2.1, (hmark.mono x3.names).append (ha.2.2.mono hx3.names)⟩
      have hpost : ∀ xt, Post N φ H w xt { a with marks := mark ++ a.marks } (H3.set H1.next (.loop .exhausted pend lt ln lp las lb ld)) xt.out { ca with defers := cmark ++ ca.defers } { w3 with heap := w3.heap.setIfInBounds sp.blk (.loop { L with state := .exhausted, pending := pend }) } := fun xt =>
        ⟨rfl, φ3, g4, hx3.trans g g3 x4, ha4⟩
      split at h
      · cases h
      · rename_i hst
        have hne : st ≠ .busy := fun hb => by subst hb; exact hst rfl
        refine ⟨pend, _, hend hne, ?_⟩
        split at h
        · simp only [Option.some.injEq, Prod.mk.injEq] at h
          obtain ⟨rfl, rfl, rfl⟩ := h
          exact hpost .normal
        · simp only [Option.some.injEq, Prod.mk.injEq] at h
          obtain ⟨rfl, rfl, rfl⟩ := h
          exact wpIn_ret (hpost .ret)
        · rename_i id
          simp only [Option.some.injEq, Prod.mk.injEq] at h
          obtain ⟨rfl, rfl, rfl⟩ := h
          exact wpIn_exit (hpost (.exit id))
        · cases h
end
end Go.Abs
