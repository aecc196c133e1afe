/-
  An operation that only looks gives, in any world that holds the heap, what the abstract machine sees, and leaves the world as it is.
  Conditions: none.
-/
import Derived.Test.YtaaagehbbihfeaaGreatDoorAbsLook3
namespace Go.Abs

section
variable {N : Nat} {φ : Names} {H : AHeap} {w : World}

theorem value_run {P : Program} {s : Sem Value} {cv : Value} {w w' : World} (h : s.run P w = .ok cv w') : (do pure (Next.value (← s)) : Sem Next).run P w = .ok (.value cv) w' := by
  simp [h]

theorem looks_dst {P : Program} {o : Oper} {src dst : TypeId} {x : Operand} (h : o.op = .convert src dst x) (hl : looks P o = true) : ∀ e, P.underlying dst ≠ some (.slice e) := by
  intro e he
  unfold looks at hl
  rw [h] at hl
  simp [he] at hl

set_option maxHeartbeats 1000000 in
theorem lookA_sound (C : Cfg) (g : Gam N φ H w) {ev : Operand → Option AV} {ρ : Operand → Value} {o : Oper} (hρ : Evals φ ev ρ o.op.operands.toList) {v : AV} (h : lookA C ev o H = some v) (hl : looks C.P o = true) :
    ∃ cv, (execOp ρ o).run C.P w = .ok (.value cv) w ∧ VRel φ v cv := by
  unfold lookA at h
  unfold execOp
  cases ho : o.op
  all_goals (simp only [ho] at h hρ ⊢)
  all_goals (try (cases h; done))
  case move x => exact ⟨ρ x, rfl, hρ x (by simp [Op.operands]) v h⟩
  case assign x => exact ⟨ρ x, rfl, hρ x (by simp [Op.operands]) v h⟩
  case pick c a b =>
    split at h
    · rename_i hc
      have hc' := hρ c (by simp [Op.operands]) _ hc
      generalize ρ c = cc at hc'
      cases hc'
      exact ⟨ρ a, rfl, hρ a (by simp [Op.operands]) v h⟩
    · rename_i hc
      have hc' := hρ c (by simp [Op.operands]) _ hc
      generalize ρ c = cc at hc'
      cases hc'
      exact ⟨ρ b, rfl, hρ b (by simp [Op.operands]) v h⟩
    · cases h
  case build t parts =>
    simp only [Option.bind_eq_some_iff] at h
    obtain ⟨ps, hps, h⟩ := h
    obtain ⟨q1, q2⟩ := evParts_sound (ρ := ρ) parts.toList ps hps (fun x hx => hρ x (by simp [Op.operands] at hx ⊢; exact hx))
    obtain ⟨cv, r1, r2⟩ := buildA_sound (P := C.P) (cparts := parts.map fun (i, x) => (i, ρ x)) h (by simpa using q1) (by simpa using q2) w
    exact ⟨cv, value_run r1, r2⟩
  case load t a =>
    split at h
    · rename_i i off ha
      have ha' := hρ a (by simp [Op.operands]) _ ha
      generalize ρ a = ca at ha'
      cases ha' with | ptr hi =>
      obtain ⟨cv, r1, r2⟩ := loadA_sound g hi h
      exact ⟨cv, value_run (by simp [Instr.loadAt, Instr.sureAddr, r1]), r2⟩
    · cases h
  case nilCheck x =>
    have hx := hρ x (by simp [Op.operands])
    split at h
    · cases h
    · cases h
    · cases h
    · cases h
    · cases h
    · rename_i n1 n2 n3 n4 n5
      have hr := hx v h
      generalize ρ x = cx at hr
      refine ⟨cx, ?_, hr⟩
      cases hr
      case func fn first captured vf vc hf h1 h2 h3 h4 =>
        cases fn
        case method name => exact (n4 _ _ _ h).elim
        all_goals rfl
      case nilPtr => exact (n1 h).elim
      case nilFunc => exact (n3 h).elim
      case nilIface => exact (n2 h).elim
      case opq => exact (n5 h).elim
      all_goals rfl
  case binOp op t x y yt =>
    split at h
    · rename_i a b ha hb
      obtain ⟨cv, r1, r2⟩ := binOpA_sound g (hρ x (by simp [Op.operands]) a ha) (hρ y (by simp [Op.operands]) b hb) h
      exact ⟨cv, value_run r1, r2⟩
    · cases h
  case unOp op t x =>
    simp only [Option.bind_eq_some_iff] at h
    obtain ⟨a, ha, h⟩ := h
    obtain ⟨cv, r1, r2⟩ := unOpA_sound (P := C.P) (w := w) (hρ x (by simp [Op.operands]) a ha) h
    exact ⟨cv, value_run r1, r2⟩
  case convert src dst x =>
    simp only [Option.bind_eq_some_iff] at h
    obtain ⟨a, ha, h⟩ := h
    have hns := looks_dst ho hl
    split at h
    · rename_i u H' hc
      obtain ⟨_, cv, r1, r2⟩ := convertLook_sound g (hρ x (by simp [Op.operands]) a ha) hc hns
      split at h
      · rename_i he; exact absurd he (hns _)
      · cases h
        exact ⟨cv, value_run r1, r2⟩
    · cases h
  case makeInterface t x =>
    split at h
    · cases h
    · rename_i d hne hu
      simp only [Option.map_eq_some_iff] at h
      obtain ⟨a, ha, rfl⟩ := h
      refine ⟨.iface t (ρ x), value_run ?_, .iface (hρ x (by simp [Op.operands]) a ha)⟩
      simp only [Instr.makeInterface, Sem.run_bind, run_underlying hu, Result.andThen_ok]
      cases d <;> first | rfl | (exact absurd hu (hne _))
    · cases h
  case makeFunc fn first captured =>
    cases hp : Fn.plain fn with
    | false => simp [hp] at h
    | true =>
      simp only [hp, Bool.not_true, cond_false] at h
      split at h
      · rename_i a b ha hb
        cases h
        have r1 := evAll_sound (ρ := ρ) _ _ ha (fun x hx => hρ x (by simp [Op.operands] at hx ⊢; exact .inl hx))
        have r2 := evAll_sound (ρ := ρ) _ _ hb (fun x hx => hρ x (by simp [Op.operands] at hx ⊢; exact .inr hx))
        refine ⟨.func fn (first.map ρ) (captured.map ρ), rfl, ?_⟩
        exact .func hp (by simpa using r1.1) (by simpa using r2.1) (fun j a v ha hv => r1.2 j a v ha (by simpa using hv)) (fun j a v ha hv => r2.2 j a v ha (by simpa using hv))
      · cases h
  case slice t x lo hi mx =>
    split at h
    · rename_i a l hh m ha h1 h2 h3
      obtain ⟨cv, r1, r2⟩ := sliceA_sound g (hρ x (by simp [Op.operands]) a ha) (evOpt_sound (ρ := ρ) h1 (fun y hy => hρ y (by simp [Op.operands] at hy ⊢; simp [hy])))
        (evOpt_sound (ρ := ρ) h2 (fun y hy => hρ y (by simp [Op.operands] at hy ⊢; simp [hy]))) (evOpt_sound (ρ := ρ) h3 (fun y hy => hρ y (by simp [Op.operands] at hy ⊢; simp [hy]))) h
      exact ⟨cv, value_run r1, r2⟩
    · cases h
  case fieldAddr s x f =>
    simp only [Option.bind_eq_some_iff] at h
    obtain ⟨a, ha, h⟩ := h
    obtain ⟨cv, r1, r2⟩ := fieldAddrA_sound (P := C.P) (w := w) (hρ x (by simp [Op.operands]) a ha) h
    exact ⟨cv, value_run r1, r2⟩
  case field t x f =>
    simp only [Option.bind_eq_some_iff] at h
    obtain ⟨a, ha, h⟩ := h
    obtain ⟨cv, r1, r2⟩ := fieldA_sound (P := C.P) (w := w) (hρ x (by simp [Op.operands]) a ha) h
    exact ⟨cv, value_run r1, r2⟩
  case indexAddr t x i =>
    split at h
    · rename_i a b ha hb
      obtain ⟨cv, r1, r2⟩ := indexAddrA_sound (P := C.P) (w := w) (hρ x (by simp [Op.operands]) a ha) (hρ i (by simp [Op.operands]) b hb) h
      exact ⟨cv, value_run r1, r2⟩
    · cases h
  case index t x i =>
    split at h
    · rename_i a b ha hb
      obtain ⟨cv, r1, r2⟩ := indexA_sound (P := C.P) (w := w) (hρ x (by simp [Op.operands]) a ha) (hρ i (by simp [Op.operands]) b hb) h
      exact ⟨cv, value_run r1, r2⟩
    · cases h
  case lookup t x i ok =>
    split at h
    · rename_i a b ha hb
      obtain ⟨cv, r1, r2⟩ := lookupA_sound g (hρ x (by simp [Op.operands]) a ha) (hρ i (by simp [Op.operands]) b hb) h
      exact ⟨cv, value_run r1, r2⟩
    · cases h
  case entry x =>
    simp only [Option.bind_eq_some_iff] at h
    obtain ⟨a, ha, h⟩ := h
    obtain ⟨cv, r1, r2⟩ := entryA_sound (P := C.P) g (hρ x (by simp [Op.operands]) a ha) h
    exact ⟨cv, value_run r1, r2⟩
  case typeAssert x xt t ok =>
    simp only [Option.bind_eq_some_iff] at h
    obtain ⟨a, ha, h⟩ := h
    obtain ⟨cv, r1, r2⟩ := assertA_sound (P := C.P) (w := w) (hρ x (by simp [Op.operands]) a ha) h
    exact ⟨cv, value_run r1, r2⟩
  case extract x i =>
    split at h
    · rename_i vs hvs
      have hx := hρ x (by simp [Op.operands]) _ hvs
      generalize ρ x = cx at hx
      obtain ⟨cvs, rfl, hr⟩ := hx.tuple_inv
      obtain ⟨cv, hcv, hrel⟩ := hr.get h
      have : cvs[i]? = some cv := by simpa using hcv
      exact ⟨cv, by simp [Instr.extract, this], hrel⟩
    · cases h
  case call c =>
    split at h
    · rename_i hcal
      split at h
      · rename_i t a ht ha
        have r := evAll_sound (ρ := ρ) _ _ ha (fun x hx => hρ x (by simp [Op.operands, Call.operands, hcal] at hx ⊢; exact hx))
        obtain ⟨cl, _, heq, h1, h2⟩ := r.cons_inv
        have := h2.nil_inv; subst this
        have hargs : c.args.map ρ = #[cl] := by apply Array.ext'; simpa using heq
        obtain ⟨cv, r1, r2⟩ := lenA_sound g h1 h c.argTypes ht o.type
        refine ⟨cv, ?_, r2⟩
        simp only [resolve, hcal, Sem.run_bind, Sem.run_pure, Result.andThen_ok, invoke, builtin, hargs, r1]
      · cases h
    · rename_i hcal
      split at h
      · rename_i t a ht ha
        have r := evAll_sound (ρ := ρ) _ _ ha (fun x hx => hρ x (by simp [Op.operands, Call.operands, hcal] at hx ⊢; exact hx))
        obtain ⟨cl, _, heq, h1, h2⟩ := r.cons_inv
        have := h2.nil_inv; subst this
        have hargs : c.args.map ρ = #[cl] := by apply Array.ext'; simpa using heq
        obtain ⟨cv, r1, r2⟩ := capA_sound (P := C.P) (w := w) h1 h c.argTypes ht o.type
        refine ⟨cv, ?_, r2⟩
        simp only [resolve, hcal, Sem.run_bind, Sem.run_pure, Result.andThen_ok, invoke, builtin, hargs, r1]
      · cases h
    · rename_i hcal
      simp only [Option.bind_eq_some_iff] at h
      obtain ⟨as, has, h⟩ := h
      have r := evAll_sound (ρ := ρ) _ _ has (fun x hx => hρ x (by simp [Op.operands, Call.operands, hcal] at hx ⊢; exact hx))
      obtain ⟨cv, r1, r2⟩ := minA_sound (P := C.P) (w := w) h r c.argTypes o.type
      have hargs : c.args.map ρ = (c.args.toList.map ρ).toArray := by apply Array.ext'; simp
      refine ⟨cv, ?_, r2⟩
      rw [← hargs] at r1
      simp only [resolve, hcal, Sem.run_bind, Sem.run_pure, Result.andThen_ok, invoke, builtin, r1]
    · rename_i hcal
      simp only [Option.bind_eq_some_iff] at h
      obtain ⟨as, has, h⟩ := h
      have r := evAll_sound (ρ := ρ) _ _ has (fun x hx => hρ x (by simp [Op.operands, Call.operands, hcal] at hx ⊢; exact hx))
      obtain ⟨cv, r1, r2⟩ := maxA_sound (P := C.P) (w := w) h r c.argTypes o.type
      have hargs : c.args.map ρ = (c.args.toList.map ρ).toArray := by apply Array.ext'; simp
      refine ⟨cv, ?_, r2⟩
      rw [← hargs] at r1
      simp only [resolve, hcal, Sem.run_bind, Sem.run_pure, Result.andThen_ok, invoke, builtin, r1]
    · cases h
end
end Go.Abs
