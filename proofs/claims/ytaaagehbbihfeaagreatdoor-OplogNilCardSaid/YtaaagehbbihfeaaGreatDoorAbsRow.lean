/-
  FROM A CLOSED CALL TO A ROW: arguments of which nothing is known; they read behind the call as they read ahead of it.
  Conditions: none.
-/
import Derived.Test.YtaaagehbbihfeaaGreatDoorAbsTop
import Derived.Test.YtaaagehbbihfeaaGreatDoorAbsFast
import Derived.ChangeSame
import Derived.ReadAgain
import Derived.ChangeStays
import Derived.Below
import Derived.WideShapes
namespace Go.Abs
open Go.RowKit Go.WideShapes Go.ChangeShapes

/-- Does it answer yes? -/
def saysYes : Option (AV × AHeap) → Bool
  | some (.bool true, _) => true
  | _ => false
theorem saysYes_inv {r : Option (AV × AHeap)} (h : saysYes r = true) : ∃ H, r = some (.bool true, H) := by
  unfold saysYes at h
  split at h
  · rename_i H; exact ⟨H, rfl⟩
  · cases h
/-- A call that the quick evaluator answers with yes. -/
theorem closed_yes {C : Cfg} (hm : C.P.follows .mixedOrders = true) (hK : ∀ N, KnownOk C N) (hg : C.glob = fun _ => none) {n : Nat} {f : FuncId} {args : List AV} (h : saysYes (runF C n f args none0) = true) (hb : bodied C.P f = true)
    (w : World) {cargs : Array Value} (hr : LRel noNames args cargs.toList) : Calls C.P f cargs w fun e w' => e = .returned (.bool true) ∧ Below w.heap.size w w' := by
  obtain ⟨H, hH⟩ := saysYes_inv h
  rw [runF_eq] at hH
  exact closed_true hm hK hg (by rw [hH]) hb w hr

theorem oneCell_of_ok {P : Program} {w : World} {r : Reach} {base : Nat} {t : TypeId} {v : Value} (h : Cell.okWide P w r base t v) : v.oneCell' = true := by
  cases v <;> try rfl
  all_goals
    exfalso
    unfold Cell.okWide Cell.ok at h
    cases hu : P.underlying t with
    | none => rw [hu] at h; exact h
    | some d => rw [hu] at h; cases d <;> exact h

/-- An argument of a type, of which nothing is known. -/
def opqOf (P : Program) (t : TypeId) : AV :=
  match P.underlying t with
  | some (.struct _) | some (.array _ _) => .agg (List.replicate (P.cellsOf t) .opq)
  | _ => .opq
theorem opqOf_rel {P : Program} {φ : Names} {w : World} {r : Reach} {base : Nat} {t : TypeId} {v : Value} (h : Value.okWide P w r base t v) : VRel φ (opqOf P t) v := by
  have agg : (∃ cs, v = .agg cs ∧ cs.size = P.cellsOf t ∧ Row.okWide P w r base t cs) → VRel φ (.agg (List.replicate (P.cellsOf t) .opq)) v := by
    rintro ⟨cs, rfl, hn, ts, _, _, hc⟩
    refine .agg (by simp [hn]) fun j a u ha hu => ?_
    have ha' : a = .opq := by
      rw [List.getElem?_replicate] at ha
      split at ha
      · exact (Option.some.inj ha).symm
      · cases ha
    subst ha'
    obtain ⟨u', _, hok⟩ := hc j u hu
    exact .opq (oneCell_of_ok hok)
  unfold Value.okWide at h
  unfold opqOf
  cases hu : P.underlying t with
  | none => rw [hu] at h; exact .opq (oneCell_of_ok h)
  | some d => rw [hu] at h; cases d <;> first | exact .opq (oneCell_of_ok h) | exact agg h

theorem opqs_rel {P : Program} {φ : Names} {w : World} {r : Reach} {base : Nat} {ts : Array TypeId} {args : Array Value} (hl : args.size = ts.size)
    (h : ∀ (j : Nat) t v, ts[j]? = some t → args[j]? = some v → Value.okWide P w r base t v) : LRel φ (ts.toList.map (opqOf P)) args.toList := by
  refine ⟨by simp [hl], fun j a v ha hv => ?_⟩
  rw [List.getElem?_map] at ha
  cases ht : ts.toList[j]? with
  | none => rw [ht] at ha; cases ha
  | some t =>
    rw [ht] at ha
    cases ha
    exact opqOf_rel (h j t v (by simpa using ht) (by simpa using hv))

theorem int_of_ok {P : Program} {w : World} {r : Reach} {base : Nat} {u : TypeId} {k : IntKind} {v : Value} (hu : P.underlying u = some (.int k)) (h : Cell.okWide P w r base u v) : ∃ n, v = .int k n := by
  unfold Cell.okWide Cell.ok at h
  rw [hu] at h
  cases v <;> try (exact h.elim)
  rename_i k' n
  obtain ⟨rfl, _⟩ := h
  exact ⟨n, rfl⟩
/-- A struct's cells: nothing is known of them but of one that is a number. -/
theorem agg_int_rel {P : Program} {φ : Names} {w : World} {r : Reach} {base : Nat} {t : TypeId} {cs : Array Value} {ts : List TypeId} {i : Nat} {u : TypeId} {k : IntKind}
    (h : Row.okWide P w r base t cs) (hts : P.cellTypes P.depth t = some ts) (hi : i < cs.size) (hu : ts[i % ts.length]? = some u) (hk : P.underlying u = some (.int k)) :
    ∃ n, VRel φ (.agg ((List.replicate cs.size AV.opq).set i (.int k n))) (.agg cs) := by
  obtain ⟨ts', h1, _, hc⟩ := h
  rw [hts] at h1
  cases h1
  have hci : cs[i]? = some cs[i] := Array.getElem?_eq_getElem hi
  obtain ⟨u', hu', hok⟩ := hc i _ hci
  rw [hu] at hu'
  cases hu'
  obtain ⟨n, hn⟩ := int_of_ok hk hok
  refine ⟨n, .agg (by simp) fun j a v ha hv => ?_⟩
  rw [List.getElem?_set] at ha
  by_cases hj : i = j
  · subst hj
    simp only [if_true] at ha
    split at ha
    · cases ha
      rw [hci] at hv
      cases hv
      rw [hn]; exact .int k n
    · cases ha
  · rw [if_neg hj, List.getElem?_replicate] at ha
    split at ha
    · cases ha
      obtain ⟨u', _, hok⟩ := hc j v hv
      exact .opq (oneCell_of_ok hok)
    · cases ha

/-- A machine of which nothing is known from elsewhere. -/
theorem knownOk_none {C : Cfg} (h : C.known = fun _ _ _ => none) (N : Nat) : KnownOk C N := fun f args H v H' hk => by rw [h] at hk; cases hk
/-- A call that the machine answers holds as something that is known. -/
theorem known_of_call {C : Cfg} (hm : C.P.follows .mixedOrders = true) (hk : C.known = fun _ _ _ => none) (hg : C.glob = fun _ => none) {N n : Nat} {f : FuncId} {args : List AV} {H H' : AHeap} {v : AV} (h : callA C (eng C n) f args H = some (v, H')) {φ : Names} {w : World} {cargs : Array Value} (g : Gam N φ H w) (hr : LRel φ args cargs.toList) :
    CallOk C.P N φ H w f cargs v H' :=
  callA_sound hm (knownOk_none hk N) (eng_ok hm (knownOk_none hk N) n) h g (fun x i hx => by rw [hg] at hx; cases hx) hr

theorem trodAll_carry {H : Type} {enc : TypeId × Value → H} {P : Program} {w w' : World} {base : Nat} {sp : Nat → Bool} {held : Bool} : ∀ {ts : List TypeId} {vs : List Value} {ds : List (DataW H)} {ps : List MemPlace},
    DataW.TrodAll enc P w base sp held ts vs ds ps → (∀ p ∈ ps, w.sameAt w' p) → DataW.TrodAll enc P w' base sp held ts vs ds ps
  | [], [], [], _, h, _ => h
  | _ :: _, _ :: _, _ :: _, _, ⟨p, q, ⟨n, h1⟩, h2, e⟩, hs =>
    ⟨p, q, ⟨n, DataW.trod_carry n _ _ _ h1 fun x hx => hs x (by rw [e]; exact List.mem_append_left _ hx)⟩,
      trodAll_carry h2 (fun x hx => hs x (by rw [e]; exact List.mem_append_right _ hx)), e⟩

/-- What was read ahead of a call reads so behind it. -/
theorem args_stay {H : Type} {enc : TypeId × Value → H} {P : Program} {W W' : World} (hl : laidOutB P = true) (hm : mapsRowed P = true)
    (hz : ((List.range P.types.size).all fun t => match P.underlying t with | some (.slice e) => decide (0 < P.cellsOf e) | _ => true) = true)
    {ts : List TypeId} {vs : List Value} {ds : List (DataW H)} {ps : List MemPlace} (hts : ∀ t ∈ ts, t < P.types.size)
    (h : DataW.TrodAll enc P W 0 (fun _ => true) true ts vs ds ps) (hb : Below W.heap.size W W') (hlt : ∀ p ∈ ps, p.block < W.heap.size) (sp : Nat → Bool) (hs : ∀ p ∈ ps, sp p.block = true) :
    DataW.TrodAll enc P W' 0 sp true ts vs ds ps :=
  DataW.TrodAll.respare (kids_rows hl hm) (fun t e => slices_full_of P hz t e) hts (trodAll_carry h fun p hp => hb.same (hlt p hp)) hs

section
variable {H : Type} {enc : TypeId × Value → H} {P : Program}
/-- The row's last step where all that is known of the world is that what was there is as it was. -/
theorem post_of_below' {f : Func} {s : ChangeSpec} {apart fresh handsOn again : Bool} {W W' : World} {args : Array Value} {v : Value} {ds gs : List (DataW H)} {before pa pv : List MemPlace}
    (hW : DataW.Whole enc P f.params.toList s.vars apart W args.toList ds gs before)
    (hres : ∀ (b : Nat) (sp : Nat → Bool) (hd : Bool), DataW.TrodAll enc P W' b sp hd f.resultTypes.toList (v.resultList f.resultTypes.size) (s.fn H (ds ++ gs)).results [])
    (hargs : ∀ sp : Nat → Bool, (∀ p ∈ before, sp p.block = true) → DataW.TrodAll enc P W' 0 sp true f.params.toList args.toList (s.fn H (ds ++ gs)).args pa)
    (hvars : ∀ sp : Nat → Bool, (∀ p ∈ before, sp p.block = true) → DataW.TrodVars enc P W' sp s.vars (s.fn H (ds ++ gs)).vars pv)
    (hps : before = pa ++ pv) (hb : Below W.heap.size W W')
    (hok : ∀ (j : Nat) (t : TypeId) (r : Value), f.resultTypes[j]? = some t → (v.resultList f.resultTypes.size)[j]? = some r → Value.okWide P W' .any 0 t r) :
    s.post enc P f apart fresh handsOn again W args v W' := by
  have hlt : ∀ p ∈ before, p.block < W.heap.size := fun p hp => hW.lt p hp
  have hold : ∀ p ∈ before, (fun b => decide (b < W.heap.size)) p.block = true := fun p hp => by simpa using hlt p hp
  refine ⟨ds, gs, before, [], pa, pv, hW, hres _ _ _, hargs _ hold, hvars _ hold, World.keptBut_mono (fun p hp => ⟨hp, ?_⟩) (hb.frame (· ∈ before)), fun _ => ?_⟩
  · rw [hps, List.mem_append] at hp
    exact Or.inr hp
  · obtain ⟨_, _, _, _, _, hz, hn⟩ := hW
    refine ⟨hok, _, _, ([] ++ pa) ++ pv, ⟨[] ++ pa, pv, trodAll_append (hargs _ (fun _ _ => rfl)) (hres _ _ _), hvars _ (fun _ _ => rfl), rfl, ?_, ?_⟩, ?_⟩
    · intro b off hp
      have hin : MemPlace.cell b off ∈ before := by rw [hps]; simpa using hp
      rw [hb.frozen (hlt _ hin)]
      exact hz b off hin
    · intro ha
      have := hn ha
      rw [hps] at this
      simpa using this
    · intro p hp _
      rw [hps]
      simpa using hp
end
end Go.Abs
