/-
  WorldNil: for every input the law answers true, and its arguments read behind the call as they read ahead of it: the card, tied to the program's text.
  Conditions: those that the row itself bears.
-/
import Derived.Test.YtblofdlemppdjaaGreatDoorRun
import Derived.Test.YtblofdlemppdjaaGreatDoorFacts
import Derived.Test.YtblofdlemppdjaaGreatDoorCards
import Derived.Test.YtblofdlemppdjaaGreatDoorTie
import Derived.ChangeCalls
import Derived.ChangeVars
import Derived.JoinedOf
import Derived.RowKit
import Derived.RowKitTokens
import Derived.LaidLaws
import Derived.LaidHandle
import Derived.SevenTiedAt
namespace Go.Proofs.YtblofdlemppdjaaGreatDoor
open Go Go.ChangeShapes Go.WideShapes Go.RowKit Go.Abs
set_option maxRecDepth 100000
theorem typeOf_is (v : Value) (w : World) : (Extern.ReflectliteType.typeOf #[.iface 245 v]).run Tryz.prog w = .ok (.iface 289 (.agg #[.pointer (some ⟨4, 245, Option.none⟩)])) w := by kernel_rfl
theorem comparable_is (w : World) : ((Extern.ReflectliteType.method fun t => do Extern.Rtype.noPackHeld "Comparable" t; pure (.bool (← typeInfo t).comparable)) #[.agg #[.pointer (some ⟨4, 245, Option.none⟩)]]).run Tryz.prog w = .ok (.bool true) w := by kernel_rfl
theorem mixed : Tryz.prog.follows .mixedOrders = true := by kernel_rfl
noncomputable def cfg0 : Cfg := ⟨Tryz.prog, fun _ => Option.none, fun _ _ _ => Option.none⟩
theorem extra_is (m : Int) (H : AHeap) : callA cfg0 (eng cfg0 20) 7 [.nilPtr, .int .i64 m] H = some (.nilPtr, H) := by cases m <;> kernel_rfl
theorem known_ok (n : Nat) : KnownOk cfg n := by
  intro f args H v H' h φ w cargs g hg hr
  have h1 := fun (xs : Array Value) (w : World) => @run_callFunc_extern Tryz.prog 163 _ Extern.ReflectliteType.typeOf Tryz.func163 (by kernel_rfl) (by kernel_rfl) (by kernel_rfl) (by kernel_rfl) xs w
  have h2 := fun (xs : Array Value) (w : World) => @run_callFunc_extern Tryz.prog 356 _ (Extern.ReflectliteType.method fun t => do Extern.Rtype.noPackHeld "Comparable" t; pure (.bool (← typeInfo t).comparable)) Tryz.func356 (by kernel_rfl) (by kernel_rfl) (by kernel_rfl) (by kernel_rfl) xs w
  have h : known f args H = some (v, H') := h
  unfold known at h
  cases e1 : Nat.beq f 163 with
  | true =>
    obtain rfl : f = 163 := Nat.eq_of_beq_eq_true e1
    simp only [e1] at h
    split at h
    · rename_i u
      cases h
      obtain ⟨v1, r1, e, hv, hn⟩ := hr.cons_inv
      obtain rfl := hn.nil_inv
      cases hv with
      | iface hu =>
        rename_i cu
        have hc : cargs = #[.iface 245 cu] := by apply Array.toList_inj.1; rw [e]
        refine .inl ⟨φ, w, _, g, Ext.refl fun i p hp => (g.dom i p hp).1, ?_, by rw [show cfg.P = Tryz.prog from rfl, h1, hc, typeOf_is]; rfl⟩
        exact .iface (.agg rfl fun j a c ha hcj => by
          rcases j with _ | j
          · cases ha; cases hcj; exact .fixed _ _
          · simp at ha)
    · cases h
  | false =>
    simp only [e1] at h
    cases e2 : Nat.beq f 356 with
    | false =>
      simp only [e2] at h
      cases e3 : Nat.beq f 7 with
      | false => simp only [e3] at h; cases h
      | true =>
        obtain rfl : f = 7 := Nat.eq_of_beq_eq_true e3
        simp only [e3] at h
        split at h
        · cases h
          exact known_of_call (C := cfg0) mixed rfl rfl (extra_is _ H) g hr
        · cases h
    | true =>
      obtain rfl : f = 356 := Nat.eq_of_beq_eq_true e2
      simp only [e2] at h
      split at h
      · cases h
        obtain ⟨v1, r1, e, hv, hn⟩ := hr.cons_inv
        obtain rfl := hn.nil_inv
        cases hv with
        | agg hl hcs =>
          rename_i vs
          have hvs : vs = #[.pointer (some ⟨4, 245, Option.none⟩)] := by
            have hl' : vs.size = 1 := hl.symm
            have h0 := hcs 0 _ (vs[0]'(by omega)) rfl (by simp)
            apply Array.ext
            · simp [hl']
            · intro i hi1 hi2
              have : i = 0 := by omega
              subst this
              cases hx : vs[0]'(by omega) with
              | _ => rw [hx] at h0; cases h0 <;> rfl
          have hc : cargs = #[.agg #[.pointer (some ⟨4, 245, Option.none⟩)]] := by apply Array.toList_inj.1; rw [e, hvs]
          exact .inl ⟨φ, w, _, g, Ext.refl fun i p hp => (g.dom i p hp).1, .bool true, by rw [show cfg.P = Tryz.prog from rfl, h2, hc, comparable_is]; rfl⟩
      · cases h

theorem lawBodied : bodied Tryz.prog 3 = true := by kernel_rfl
theorem cellTypes_is : Tryz.prog.cellTypes Tryz.prog.depth 29 = some [3, 3, 3, 22, 3, 3, 9, 9, 9, 3, 3, 3, 3, 4, 3, 3, 3, 27, 3] := by kernel_rfl
theorem okAgg (base : Nat) (W : World) (v : Value) (h : Value.okWide Tryz.prog W .any base 29 v) : ∃ cs, v = .agg cs ∧ cs.size = 19 ∧ Row.okWide Tryz.prog W .any base 29 cs := by
  unfold Value.okWide at h
  rw [Tryz.underlying29] at h
  obtain ⟨cs, h1, h2, h3⟩ := h
  exact ⟨cs, h1, h2.trans (by kernel_rfl), h3⟩
theorem law_true (n : Int) (w : World) {cargs : Array Value} (hr : LRel noNames [.agg ((List.replicate 19 AV.opq).set 1 (.int .i64 n))] cargs.toList) : Calls Tryz.prog 3 cargs w fun e w' => e = .returned (.bool true) ∧ Below w.heap.size w w' := by
  exact closed_yes (C := cfg) (n := 10000) mixed known_ok rfl (ran n) lawBodied w hr

theorem own : ownKnob Tryz.prog.godebug = Option.none := by kernel_rfl
theorem laidOut : laidOutB Tryz.prog = true := by kernel_rfl
theorem mapsLaid : mapsRowed Tryz.prog = true := by kernel_rfl
theorem fullSlices : ((List.range Tryz.prog.types.size).all fun t => match Tryz.prog.underlying t with | some (.slice e) => decide (0 < Tryz.prog.cellsOf e) | _ => true) = true := by kernel_rfl
theorem typesSize : Tryz.prog.types.size = 484 := by kernel_rfl

def cellsD : Nat → DataW Unit → List Value
  | 0, _ => []
  | f + 1, d => match d with
    | .lit (.int k n) => [.int k n]
    | .agg ds => ds.flatMap (cellsD f)
    | _ => []
/-- A world in which the listed variables hold what is listed. -/
noncomputable def laidWorld (os : Os) : World :=
  let w0 := World.holding Tryz.prog os ⟨#[], #[], []⟩
  { w0 with heap := (((w0.heap.modify 0 fun
      | .cells _ t frozen => .cells #[.iface 289 (.agg #[.pointer (some ⟨4, 95, Option.none⟩)])] t frozen
      | o => o).modify 1 fun
      | .cells _ t frozen => .cells (cellsD 3 Rows.laid_unicode_utf8_first).toArray t frozen
      | o => o).modify 2 fun
      | .cells _ t frozen => .cells (cellsD 3 Rows.laid_unicode_utf8_acceptRanges).toArray t frozen
      | o => o) }
noncomputable def laidArgs : Array Value := #[.agg #[.int .i64 0, .int .i64 0, .int .i64 0, .int .i64 0, .int .i64 0, .int .i64 0, .string ⟨#[]⟩, .string ⟨#[]⟩, .string ⟨#[]⟩, .int .i64 0, .int .i64 0, .int .i64 0, .int .i64 0, .bool false, .int .i64 0, .int .i64 0, .int .i64 0, .slice Option.none 0 0, .int .i64 0]]
theorem laidWorld_met (os : Os) (args : Array Value) : laidMetH Tryz.prog Rows.worldNilRow.laid ((laidWorld os).forCall (fun _ _ => 0) ⟨#[], args, []⟩).memory :=
  laidMetH_of_parts (laidMet_of_run' 8 (by kernel_rfl) (by kernel_rfl)) (by kernel_rfl)

theorem law_lifted (os : Os) (started : os.Started) (H : Type) (enc : TypeId × Value → H) :
    ReturnsInHanded {} Tryz.checked os 3 .any (fun w args => (Rows.worldNilSpec.pre enc Tryz.prog Tryz.f3 [] false w args ∧ laidMetH Tryz.prog Rows.worldNilRow.laid w) ∧ sizedMet enc Tryz.prog Tryz.f3 (OpenSpec.ofChange Rows.worldNilSpec) false w args)
      (Rows.worldNilSpec.post enc Tryz.prog Tryz.f3 false true false false) := by
  refine returnsInHanded_of_change_and (C := Tryz.checked) (X := fun w _ => laidMetH Tryz.prog Rows.worldNilRow.laid w) (fun _ _ _ hh h => h.of_heap hh) own started (by kernel_rfl) Tryz.func3
    (ChangeSpec.witness_at (enc := enc) (C := Tryz.checked) (os := os) (X := fun w _ => laidMetH Tryz.prog Rows.worldNilRow.laid w) false (laidWorld os) laidArgs 8 rfl (by kernel_rfl) (by kernel_rfl) (by kernel_rfl) (by kernel_rfl) (by kernel_rfl) (laidWorld_met os _)) ?_
  intro W base args ds gs before hval0 hW _ _ _ _
  have hval : ∀ (j : Nat) t v, Tryz.f3.params[j]? = some t → args[j]? = some v → Value.okWide Tryz.prog W .any base t v := hval0
  have hW' := hW
  obtain ⟨p, q, hA0, hV0, rfl, hfz, hnd⟩ := hW
  have hA : DataW.TrodAll enc Tryz.prog W 0 (fun _ => true) true Tryz.f3.params.toList args.toList ds p := hA0
  have hV : DataW.TrodVars enc Tryz.prog W (fun _ => true) [] gs q := hV0
  obtain ⟨rfl, rfl⟩ : gs = [] ∧ q = [] := by
    cases gs with
    | nil => exact ⟨rfl, hV⟩
    | cons g r => exact absurd hV (by intro h; cases h)
  have hlen := Go.trodAll_length hA
  have hsz : args.size = Tryz.f3.params.size := by simpa using hlen.1
  obtain ⟨n, hr⟩ : ∃ n : Int, LRel noNames [.agg ((List.replicate 19 AV.opq).set 1 (.int .i64 n))] args.toList := by
    have h1 : args.size = 1 := hsz
    have hv := hval 0 29 args[0] rfl (Array.getElem?_eq_getElem (by omega))
    obtain ⟨cs, hcs, hn, hrow⟩ := okAgg base W _ hv
    obtain ⟨n, hvr⟩ := agg_int_rel (φ := noNames) (i := 1) (u := 3) (k := .i64) hrow cellTypes_is (by omega) rfl Tryz.underlying3
    refine ⟨n, ?_⟩
    have hl : args.toList = [args[0]] := by
      apply List.ext_getElem
      · simp [h1]
      · intro i h2 h3
        have : i = 0 := by simp at h3; omega
        subst this; simp
    rw [hl, hcs]
    rw [hn] at hvr
    exact LRel.cons hvr (LRel.nil _)
  have hfn : Rows.worldNilSpec.fn H (ds ++ []) = { results := [.lit (.bool true)], args := ds } := by
    have h2 : ds.length = 1 := by rw [hlen.2, Tryz.params3]; rfl
    rw [List.append_nil]
    rcases ds with _ | ⟨d0, ds1⟩
    · simp at h2
    · rcases ds1 with _ | ⟨x, r⟩
      · rfl
      · simp at h2
  have hlt : ∀ x ∈ p, x.block < W.heap.size := fun x hx => hW'.lt x (by simpa using hx)
  refine (law_true n W hr).mono fun e W' ⟨he, hb⟩ => ?_
  subst he
  refine ⟨_, rfl, ?_⟩
  refine post_of_below' (pa := p) (pv := []) hW' (fun b sp hd => ?_) (fun sp hs => ?_) (fun sp hs => ?_) rfl hb (fun j t r ht hv => ?_)
  · rw [hfn]; exact trodAll_mk1 (shut_bool Tryz.underlying4 true)
  · rw [hfn]
    refine args_stay laidOut mapsLaid fullSlices (fun t ht => ?_) hA hb hlt sp fun x hx => hs x (by simpa using hx)
    have ht' : t ∈ ([29] : List TypeId) := ht
    rw [typesSize]
    simp only [List.mem_cons, List.mem_nil_iff, or_false] at ht'
    rcases ht' with rfl <;> decide
  · rw [hfn]; rfl
  · rcases j with _ | j
    · have ht' : t = 4 := (Option.some.inj (show some 4 = some t from ht)).symm
      have hv' : r = .bool true := (Option.some.inj (show some (Value.bool true) = some r from hv)).symm
      subst ht'; subst hv'
      have hu : Tryz.checked.prog.underlying 4 = some .bool := Tryz.underlying4
      unfold Value.okWide Cell.okWide Cell.ok
      rw [hu]
      trivial
    · exfalso
      have : Tryz.f3.resultTypes[j + 1]? = Option.none := by
        show (#[4] : Array TypeId)[j + 1]? = Option.none
        simp
      rw [this] at ht; cases ht

theorem row_holds : Rows.WorldNilSaid :=
  OpenClaim.holds_of_wide 3 Tryz.f3 rfl rfl rfl rfl rfl rfl rfl ⟨rfl, rfl, rfl, rfl, rfl⟩ rfl rfl rfl rfl rfl funcNamed_is Tryz.func3 facts
    (of_decide_eq_true inst_is) (by unfold Func.isWrapper; rw [if_neg (of_decide_eq_false (by kernel_rfl))]; exact ⟨rfl, rfl⟩)
    (fun os started H enc _ => law_lifted os started H enc)

/-- The card. -/
theorem card_holds : Rows.WorldNilCardSaid :=
  Claim7.holds_tied_plain_at .later [] [.data, .handle, .pinned] true (true, "f988b6ac4523c72d74f4c20b6578f12f904cb54c3570cbcac02580421dd429f7") true
    row_holds (fun _ h => by cases h) wfText (fun _ h => by cases h) worldNil_row_tie rfl ⟨rfl, rfl⟩ mainIs_is rfl
    (fun f fn hf hfn => by
      obtain rfl : f = 3 := Option.some.inj (funcNamed_is.symm.trans hf) |>.symm
      obtain rfl : fn = Tryz.f3 := (Option.some.inj (Tryz.func3.symm.trans hfn)).symm
      refine ⟨looks_is, fun j t ht => ?_⟩
      have ht' : (#[29] : Array TypeId)[j]? = some t := ht
      rcases j with _ | j
      · obtain rfl : t = 29 := (Option.some.inj ht').symm
        exact standIn29
      · simp at ht')
    goesBy_is
#print axioms card_holds
end Go.Proofs.YtblofdlemppdjaaGreatDoor
