/-
  An operation that changes something gives, in any world that holds the heap, what the abstract machine says: a value; nothing; a call that is entered; a round of a range over a function.
  Conditions: none.
-/
import Derived.Test.YtaaagehbbihfeaaGreatDoorAbsDo3
namespace Go.Abs

section
variable {N : Nat} {φ : Names} {H : AHeap} {w : World}

/-- What a deed comes to at once. -/
def Deed (P : Program) (N : Nat) (φ : Names) (H : AHeap) (w : World) (s : Sem Next) (n : ANext) (H' : AHeap) : Prop :=
  ∃ φ' w', Gam N φ' H' w' ∧ Ext N φ φ' H H' w w' ∧
    match n with
    | .val v => ∃ cv, s.run P w = .ok (.value cv) w' ∧ VRel φ' v cv
    | .skip => s.run P w = .ok .skip w'
    | .enter f args => ∃ cargs : Array Value, LRel φ' args cargs.toList ∧ s.run P w = (callFunc f cargs).run P w'
    | .round l args => ∃ (cargs : Array Value) (sp : Spot), LRel φ' args cargs.toList ∧ φ' l = some sp ∧ s.run P w = (Instr.yield sp.blk cargs).run P w'

theorem Gives.deed {P : Program} {s : Sem Value} {v : AV} {H' : AHeap} (h : Gives P N φ H w s v H') : Deed P N φ H w (do pure (Next.value (← s))) (.val v) H' := by
  obtain ⟨φ', w', g, x, cv, r, hv⟩ := h
  exact ⟨φ', w', g, x, cv, by simp [r], hv⟩
theorem Does.deed {P : Program} {s : Sem Unit} {H' : AHeap} (h : Does P N φ H w s H') : Deed P N φ H w (do s; pure Next.skip) .skip H' := by
  obtain ⟨φ', w', g, x, r⟩ := h
  exact ⟨φ', w', g, x, by simp [r]⟩

theorem run_wrapNilChk {P : Program} {ts : Array TypeId} {t : TypeId} {a : Addr} {s n : String} (w : World) : (Builtin.ssaWrapNilChk_ ts t #[.pointer (some a), strVal s, strVal n]).run P w = .ok (.pointer (some a)) w := rfl

theorem methodA_sound {P : Program} (g : Gam N φ H w) {t : TypeId} {v : AV} {name : String} {f : FuncId} {rv : AV} {cv : Value} (hv : VRel φ v cv) (h : methodA P t v name H = some (f, rv)) (n : Nat) :
    ∃ crv, (method (n + 1) t cv name).run P w = .ok (f, crv) w ∧ VRel φ rv crv := by
  unfold methodA at h
  split at h
  case h_2 => cases h
  rename_i i hi
  split at h
  case h_2 => cases h
  rename_i m hm
  cases hp : m.path.isEmpty with
  | false => simp [hp] at h
  | true =>
  have hpath : m.path.toList = [] := by simpa using hp
  simp only [hp, Bool.not_true, cond_false] at h
  split at h
  · rename_i f' e hf hu
    cases h
    exact ⟨cv, by simp [method, typeInfo, hi, hm, hpath, follow, hf, receiverAt, run_underlying hu, Place.get], hv⟩
  · rename_i f' e hf hu
    split at h
    case h_2 => cases h
    rename_i j o
    simp only [Option.map_eq_some_iff, Prod.mk.injEq] at h
    obtain ⟨x, hx, rfl, rfl⟩ := h
    cases hv with | ptr hphi =>
    obtain ⟨cx, h1, h2⟩ := loadA_sound g hphi hx
    have hp0 : m.path = #[] := by simpa using hp
    exact ⟨cx, by simp [method, typeInfo, hi, hm, hp0, follow, hf, receiverAt, run_underlying hu, Place.get, run_wrapNilChk, asAddr, h1], h2⟩
  · rename_i f' d hne hf hu
    cases h
    refine ⟨cv, ?_, hv⟩
    simp only [method, Sem.run_bind, typeInfo, run_program, Result.andThen_ok, hi, Sem.run_pure, hm, hpath, follow, hf, receiverAt, run_underlying hu, Place.get]
    try (cases d <;> first | exact absurd rfl (hne _) | rfl)
  · cases h

theorem run_ofFunc {P : Program} {fn : Fn} {first captured args : Array Value} : (Deferred.ofValue (.func fn first captured) args).run P w = .ok { target := .fn fn captured, args := first ++ args } w := rfl

theorem LRel.list_append {φ : Names} {as bs : List AV} {vs us : Array Value} (h : LRel φ as vs.toList) (h' : LRel φ bs us.toList) : LRel φ (as ++ bs) (vs ++ us).toList := by
  rw [Array.toList_append]; exact h.append h'

theorem LRel.arr {φ : Names} {cs : List AV} {vs : Array Value} (h1 : cs.length = vs.size) (h3 : ∀ (j : Nat) a v, cs[j]? = some a → vs[j]? = some v → VRel φ a v) : LRel φ cs vs.toList :=
  ⟨by simpa using h1, fun j a v ha hv => h3 j a v ha (by simpa using hv)⟩

theorem targetA_sound (C : Cfg) (g : Gam N φ H w) {f : AV} {args : List AV} {n : ANext} {cf : Value} {cargs : Array Value} (hf : VRel φ f cf) (ha : LRel φ args cargs.toList) (h : targetA C f args H = some n) :
    Deed C.P N φ H w (do let d ← Deferred.ofValue cf cargs; invoke d.target d.args) n H := by
  unfold targetA at h
  split at h
  · rename_i g' first captured
    cases h
    cases hf with | func _ h1 h2 h3 h4 =>
    rename_i vf vc _
    refine ⟨φ, w, g, g.refl, (vf ++ cargs) ++ vc, ?_, ?_⟩
    · exact ((LRel.arr h1 h3).list_append ha).list_append (LRel.arr h2 h4)
    · simp [run_ofFunc, invoke]
  · rename_i name first captured
    cases hf with | func _ h1 h2 h3 h4 =>
    rename_i vf vc _
    have hall := (LRel.arr h1 h3).list_append ha
    split at h
    · rename_i t v rest heq
      rw [heq] at hall
      cases hc : captured.isEmpty with
      | false => simp [hc] at h
      | true =>
      simp only [hc, Bool.not_true, cond_false, Option.map_eq_some_iff] at h
      obtain ⟨⟨g', r⟩, hm, rfl⟩ := h
      obtain ⟨cv, rest', heq', hv, hrest⟩ := hall.cons_inv
      cases hv with | iface hv =>
      rename_i cv0
      obtain ⟨crv, r1, r2⟩ := methodA_sound g hv hm (C.P.types.size + 99)
      refine ⟨φ, w, g, g.refl, #[crv] ++ (vf ++ cargs).extract 1 (vf ++ cargs).size, ?_, ?_⟩
      · have : ((vf ++ cargs).extract 1 (vf ++ cargs).size).toList = rest' := by
          rw [Array.toList_extract, heq']
          have : (vf ++ cargs).size = rest'.length + 1 := by rw [← Array.length_toList, heq']; rfl
          rw [this]; simp [List.extract]
        simp only [Array.toList_append, this]
        exact .cons r2 hrest
      · have h0 : (vf ++ cargs)[0]? = some (.iface t cv0) := by
          rw [← Array.getElem?_toList, heq']; rfl
        have hd : C.P.types.size + Made.depth = C.P.types.size + 99 + 1 := rfl
        simp only [Sem.run_bind, run_ofFunc, Result.andThen_ok, invoke, h0, callMethod, run_program, hd, r1]
    · cases h
  · rename_i t path g' ptr first captured
    cases hf with | func _ h1 h2 h3 h4 =>
    rename_i vf vc _
    have hall := (LRel.arr h1 h3).list_append ha
    split at h
    · rename_i r rest e heq hu
      rw [heq] at hall
      cases hb : (!captured.isEmpty || !path.isEmpty || !ptr) with
      | true => simp [hb] at h
      | false =>
      simp only [hb, cond_false, Option.some.injEq] at h
      subst h
      simp only [Bool.or_eq_false_iff, Bool.not_eq_false'] at hb
      obtain ⟨⟨hb1, hb2⟩, hb3⟩ := hb
      subst hb3
      have hpath : path.toList = [] := by simpa using hb2
      obtain ⟨cr, rest', heq', hr, hrest⟩ := hall.cons_inv
      refine ⟨φ, w, g, g.refl, #[cr] ++ (vf ++ cargs).extract 1 (vf ++ cargs).size, ?_, ?_⟩
      · have : ((vf ++ cargs).extract 1 (vf ++ cargs).size).toList = rest' := by
          rw [Array.toList_extract, heq']
          have : (vf ++ cargs).size = rest'.length + 1 := by rw [← Array.length_toList, heq']; rfl
          rw [this]; simp [List.extract]
        simp only [Array.toList_append, this]
        exact .cons hr hrest
      · have h0 : (vf ++ cargs)[0]? = some cr := by
          rw [← Array.getElem?_toList, heq']; rfl
        simp only [Sem.run_bind, run_ofFunc, Result.andThen_ok, invoke, h0, receiverVia, hpath, follow, Sem.run_pure, receiverAt, run_underlying hu, Place.get]
    · cases h
  · rename_i l
    cases h
    cases hf with | yield hphi =>
    rename_i sp
    refine ⟨φ, w, g, g.refl, cargs, sp, ha, hphi, ?_⟩
    simp [run_ofFunc, invoke]
  · cases h

set_option maxHeartbeats 1000000 in
theorem doA_sound (C : Cfg) (g : Gam N φ H w) {ev : Operand → Option AV} {ρ : Operand → Value} {o : Oper} (hρ : Evals φ ev ρ o.op.operands.toList) {n : ANext} {H' : AHeap} (h : doA C ev o H = some (n, H')) (hl : looks C.P o = false) :
    Deed C.P N φ H w (execOp ρ o) n H' := by
  unfold doA at h
  unfold execOp
  cases ho : o.op
  all_goals (simp only [ho] at h hρ ⊢)
  all_goals (try (cases h; done))
  case alloc e =>
    split at h
    · rename_i z k hz hk
      cases h
      exact (allocA_sound g hz).deed
    · cases h
  case box e x =>
    split at h
    · rename_i v k hv hk
      cases h
      exact (boxA_sound g (hρ x (by simp [Op.operands]) v hv)).deed
    · cases h
  case buildSlice t k parts =>
    split at h
    · rename_i ps hps
      simp only [Option.map_eq_some_iff, Prod.mk.injEq] at h
      obtain ⟨⟨v, H1⟩, hb, rfl, rfl⟩ := h
      obtain ⟨q1, q2⟩ := evParts_sound parts.toList ps hps (by simpa [Op.operands] using hρ)
      exact (buildSliceA_sound g hb (by simpa using q1) (by simpa using q2)).deed
    · cases h
  case store t a x =>
    split at h
    · rename_i i off v ha hx
      simp only [Option.map_eq_some_iff, Prod.mk.injEq] at h
      obtain ⟨H1, hs, rfl, rfl⟩ := h
      have ha' := hρ a (by simp [Op.operands]) _ ha
      have hx' := hρ x (by simp [Op.operands]) _ hx
      generalize ρ a = ca at ha'
      cases ha' with | ptr hphi =>
      exact (storeA_sound g hphi hx' hs).deed
    · cases h
  case makeMap t r =>
    split at h
    · rename_i hr
      cases h
      have := evOpt_sound hr (by simpa [Op.operands] using hρ)
      exact (makeMap_sound g this (.inl rfl)).deed
    · rename_i k m kt e hr hu
      cases h
      have := evOpt_sound hr (by simpa [Op.operands] using hρ)
      exact (makeMap_sound g this (.inr ⟨⟨_, _, rfl⟩, _, _, hu⟩)).deed
    · cases h
  case makeSlice t l c =>
    split at h
    · rename_i a b ha hb
      simp only [Option.map_eq_some_iff, Prod.mk.injEq] at h
      obtain ⟨⟨v, H1⟩, hs, rfl, rfl⟩ := h
      exact (makeSliceA_sound g (hρ l (by simp [Op.operands]) _ ha) (hρ c (by simp [Op.operands]) _ hb) hs).deed
    · cases h
  case convert src dst x =>
    simp only [Option.bind_eq_some_iff, Option.map_eq_some_iff, Prod.mk.injEq] at h
    obtain ⟨a, ha, ⟨v, H1⟩, hs, rfl, rfl⟩ := h
    have hd : ∃ e, C.P.underlying dst = some (.slice e) := by
      unfold looks at hl
      rw [ho] at hl
      simp only at hl
      split at hl
      · exact ⟨_, by assumption⟩
      · cases hl
    obtain ⟨e, hd⟩ := hd
    exact (convertA_bytes g hd (hρ x (by simp [Op.operands]) _ ha) hs).deed
  case mapUpdate t m k x =>
    split at h
    · rename_i a b c ha hb hc
      simp only [Option.map_eq_some_iff, Prod.mk.injEq] at h
      obtain ⟨H1, hs, rfl, rfl⟩ := h
      exact (mapSetA_sound g (hρ m (by simp [Op.operands]) _ ha) (hρ k (by simp [Op.operands]) _ hb) (hρ x (by simp [Op.operands]) _ hc) hs).deed
    · cases h
  case insert t m k x =>
    split at h
    · rename_i a b c ha hb hc
      simp only [Option.map_eq_some_iff, Prod.mk.injEq] at h
      obtain ⟨H1, hs, rfl, rfl⟩ := h
      exact (mapSetA_sound g (hρ m (by simp [Op.operands]) _ ha) (hρ k (by simp [Op.operands]) _ hb) (hρ x (by simp [Op.operands]) _ hc) hs).deed
    · cases h
  case mapEntry t m k =>
    split at h
    · rename_i a b ha hb
      simp only [Option.map_eq_some_iff, Prod.mk.injEq] at h
      obtain ⟨⟨v, H1⟩, hs, rfl, rfl⟩ := h
      exact (mapEntryA_sound g (hρ m (by simp [Op.operands]) _ ha) (hρ k (by simp [Op.operands]) _ hb) hs).deed
    · cases h
  case entryStore t m k x =>
    split at h
    · rename_i a b c ha hb hc
      simp only [Option.map_eq_some_iff, Prod.mk.injEq] at h
      obtain ⟨H1, hs, rfl, rfl⟩ := h
      exact (entryStoreA_sound g (hρ m (by simp [Op.operands]) _ ha) (hρ k (by simp [Op.operands]) _ hb) (hρ x (by simp [Op.operands]) _ hc) hs).deed
    · cases h
  case range t x =>
    simp only [Option.bind_eq_some_iff, Option.map_eq_some_iff, Prod.mk.injEq] at h
    obtain ⟨a, ha, ⟨v, H1⟩, hs, rfl, rfl⟩ := h
    exact (rangeA_sound g (hρ x (by simp [Op.operands]) _ ha) hs).deed
  case next x isStr =>
    simp only [Option.bind_eq_some_iff, Option.map_eq_some_iff, Prod.mk.injEq] at h
    obtain ⟨a, ha, ⟨v, H1⟩, hs, rfl, rfl⟩ := h
    exact (nextA_sound g (hρ x (by simp [Op.operands]) _ ha) hs _).deed
  case call c =>
    have hargs : ∀ args, evAll ev c.args.toList = some args → LRel φ args (c.args.map ρ).toList := fun args ha => by
      rw [Array.toList_map]
      exact evAll_sound _ _ ha fun x hx => hρ x (by
        simp only [Op.operands, Call.operands, Array.toList_append, List.mem_append]
        exact .inr hx)
    split at h
    · rename_i s x hc ha
      simp only [Option.map_eq_some_iff, Prod.mk.injEq] at h
      obtain ⟨⟨v, H1⟩, hs, rfl, rfl⟩ := h
      have hA := hargs _ ha
      obtain ⟨cs, r1, e1, h1, h2⟩ := hA.cons_inv
      obtain ⟨cx, r2, e2, h3, h4⟩ := h2.cons_inv
      have e3 := h4.nil_inv; subst e3; subst e2
      have hsz : c.args.map ρ = #[cs, cx] := Array.toList_inj.1 e1
      obtain ⟨φ', w', g', x', cv, r, hv⟩ := appendA_sound g (ty := o.type) h1 h3 hs
      exact ⟨φ', w', g', x', cv, by simp [resolve, hc, hsz, invoke, builtin, r], hv⟩
    · rename_i s x hc ha
      simp only [Option.map_eq_some_iff, Prod.mk.injEq] at h
      obtain ⟨⟨v, H1⟩, hs, rfl, rfl⟩ := h
      have hA := hargs _ ha
      obtain ⟨cs, r1, e1, h1, h2⟩ := hA.cons_inv
      obtain ⟨cx, r2, e2, h3, h4⟩ := h2.cons_inv
      have e3 := h4.nil_inv; subst e3; subst e2
      have hsz : c.args.map ρ = #[cs, cx] := Array.toList_inj.1 e1
      obtain ⟨φ', w', g', x', cv, r, hv⟩ := copyA_sound g (ty := o.type) h1 h3 hs
      exact ⟨φ', w', g', x', cv, by simp [resolve, hc, hsz, invoke, builtin, r], hv⟩
    · rename_i s x hc ha
      split at h
      · rename_i t ht
        simp only [Option.map_eq_some_iff, Prod.mk.injEq] at h
        obtain ⟨H1, hs, rfl, rfl⟩ := h
        have hA := hargs _ ha
        obtain ⟨cs, r1, e1, h1, h2⟩ := hA.cons_inv
        obtain ⟨cx, r2, e2, h3, h4⟩ := h2.cons_inv
        have e3 := h4.nil_inv; subst e3; subst e2
        have hsz : c.args.map ρ = #[cs, cx] := Array.toList_inj.1 e1
        obtain ⟨φ', w', g', x', cv, r, hv⟩ := deleteA_sound g h1 h3 hs ht o.type
        exact ⟨φ', w', g', x', cv, by simp [resolve, hc, hsz, invoke, builtin, r], hv⟩
      · cases h
    · rename_i f args hc ha
      simp only [Option.bind_eq_some_iff, Option.map_eq_some_iff, Prod.mk.injEq] at h
      obtain ⟨fv, hf, n', ht, rfl, rfl⟩ := h
      have hfv := hρ f (by simp [Op.operands, Call.operands, hc]) _ hf
      have := targetA_sound C g hfv (hargs _ ha) ht
      simpa [resolve, hc] using this
    · rename_i r name args hc ha
      split at h
      · rename_i t v hr
        simp only [Option.map_eq_some_iff, Prod.mk.injEq] at h
        obtain ⟨⟨f, rv⟩, hm, rfl, rfl⟩ := h
        have hrv := hρ r (by simp [Op.operands, Call.operands, hc]) _ hr
        generalize hcr : ρ r = cr at hrv
        cases hrv with | iface hv =>
        rename_i cv
        obtain ⟨crv, r1, r2⟩ := methodA_sound g hv hm (C.P.types.size + 99)
        refine ⟨φ, w, g, g.refl, #[crv] ++ c.args.map ρ, ?_, ?_⟩
        · simp only [Array.toList_append]
          exact .cons r2 (hargs _ ha)
        · have hd : C.P.types.size + Made.depth = C.P.types.size + 99 + 1 := rfl
          have h0 : (#[Value.iface t cv] ++ c.args.map ρ)[0]? = some (.iface t cv) := by rw [← Array.getElem?_toList, Array.toList_append]; rfl
          have h1 : (#[Value.iface t cv] ++ c.args.map ρ).extract 1 (#[Value.iface t cv] ++ c.args.map ρ).size = c.args.map ρ := by
            apply Array.toList_inj.1
            simp [Array.toList_extract, List.extract]
            exact List.take_of_length_le (by simp)
          simp only [resolve, hc, hcr, Sem.run_bind, Sem.run_pure, Result.andThen_ok, invoke, h0, h1, callMethod, run_program, hd, r1]
      · cases h
    · cases h
end
end Go.Abs
