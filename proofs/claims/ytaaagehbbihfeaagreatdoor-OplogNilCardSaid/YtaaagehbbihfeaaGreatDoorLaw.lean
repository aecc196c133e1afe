/-
  OplogNil: for every input the law answers true, and its arguments read behind the call as they read ahead of it: the card, tied to the program's text.
  Conditions: those that the row itself bears.
-/
import Derived.Test.YtaaagehbbihfeaaGreatDoorRun
import Derived.Test.YtaaagehbbihfeaaGreatDoorAs
import Derived.Test.YtaaagehbbihfeaaGreatDoorFacts
import Derived.Test.YtaaagehbbihfeaaGreatDoorCards
import Derived.Test.YtaaagehbbihfeaaGreatDoorTie
import Derived.ChangeCalls
import Derived.ChangeVars
import Derived.JoinedOf
import Derived.RowKit
import Derived.RowKitTokens
import Derived.LaidLaws
import Derived.LaidHandle
import Derived.SevenTiedAt
namespace Go.Proofs.YtaaagehbbihfeaaGreatDoor
open Go Go.ChangeShapes Go.WideShapes Go.RowKit Go.Abs
set_option maxRecDepth 100000
theorem typeOf_is (v : Value) (w : World) : (Extern.ReflectliteType.typeOf #[.iface 84 v]).run Tryz.prog w = .ok (.iface 156 (.agg #[.pointer (some ⟨5, 84, Option.none⟩)])) w := by kernel_rfl
theorem comparable_is (w : World) : ((Extern.ReflectliteType.method fun t => do Extern.Rtype.noPackHeld "Comparable" t; pure (.bool (← typeInfo t).comparable)) #[.agg #[.pointer (some ⟨5, 84, Option.none⟩)]]).run Tryz.prog w = .ok (.bool true) w := by kernel_rfl
theorem mixed : Tryz.prog.follows .mixedOrders = true := by kernel_rfl
theorem store84 (W : World) (t : Addr) (n : Int) (old : Value) (ht : W.cell? t = some old) (hf : W.frozen? t = false) : (Instr.storeAt 84 (.pointer (some t)) (.int .i64 n)).run Tryz.prog W = .ok () (W.setCell t (.int .i64 n)) := by
  have hsz : (sizeOf 84).run Tryz.prog W = .ok 1 W := Go.Abs.run_sizeOf (P := Tryz.prog) (t := 84) (n := 1) (by kernel_rfl) W
  simp [Instr.storeAt, Instr.sureAddr, storeVar, hsz, Value.cells, storeCells, Addr.add]
  rw [run_store Tryz.prog W t _ _ (by rfl)]
  simp [ht, hf]
theorem isErr_inv {c : List AV} (h : isErr c = true) : c = [.iface 156 (.agg [.fixed 5 50])] := by
  unfold isErr at h
  split at h
  · rfl
  · cases h
theorem as_below (w : World) (a b c d e : Obj) : Below w.heap.size w (((((w.alloc a).alloc b).alloc c).alloc d).alloc e) :=
  (((((Below.refl _ _).alloc (Nat.le_refl _) _).alloc (by simp) _).alloc (by simp; omega) _).alloc (by simp; omega) _).alloc (by simp; omega) _
theorem as_ok (n : Nat) {args : List AV} {H H' : AHeap} {v : AV} (h : asKnown args H = some (v, H')) {φ : Names} {w : World} {cargs : Array Value} (g : Gam n φ H w) (hg : GRel cfg φ) (hr : LRel φ args cargs.toList) : CallOk Tryz.prog n φ H w 35 cargs v H' := by
  unfold asKnown at h
  split at h
  case h_2 => cases h
  rename_i sx m i
  split at h
  case h_2 => cases h
  rename_i c0 e0 f0 z0 cx ei zi hrow0 hrowi
  cases hb : isErr c0 with
  | false => rw [hb] at h; cases h
  | true =>
  rw [hb] at h
  simp only [cond_true, Option.map_eq_some_iff, Prod.mk.injEq] at h
  obtain ⟨H1, hst, rfl, rfl⟩ := h
  obtain rfl := isErr_inv hb
  -- the arguments
  obtain ⟨v1, r1, e1, hv1, hn1⟩ := hr.cons_inv
  obtain ⟨v2, r2, e2, hv2, hn2⟩ := hn1.cons_inv
  obtain rfl := hn2.nil_inv
  subst e2
  cases hv1 with
  | iface hu1 =>
  rename_i u1
  cases hu1 with
  | agg hl1 hc1 =>
  rename_i us
  have hsz : us.size = 2 := hl1.symm
  have hc01 := hc1 1 _ us[1] rfl (Array.getElem?_eq_getElem (by omega))
  have hus : us = #[us[0], .iface 84 (.int .i64 m)] := by
    have h1 : us[1] = .iface 84 (.int .i64 m) := by
      generalize us[1] = q at hc01
      cases hc01 with
      | iface hq => cases hq; rfl
    apply Array.ext
    · simp [hsz]
    · intro k hk1 hk2
      have : k = 0 ∨ k = 1 := by omega
      rcases this with rfl | rfl
      · rfl
      · exact h1
  cases hv2 with
  | iface hu2 =>
  rename_i u2
  cases hu2 with
  | ptr hs =>
  rename_i s
  have hcargs : cargs = #[.iface 100 (.agg #[us[0], .iface 84 (.int .i64 m)]), .iface 91 (.pointer (some ⟨s.blk, s.base + 0, Option.none⟩))] := by
    apply Array.toList_inj.1
    rw [e1]
    exact congrArg (fun x => [Value.iface 100 (.agg x), .iface 91 (.pointer (some ⟨s.blk, s.base + 0, Option.none⟩))]) hus
  -- what stands in memory
  obtain ⟨s0, hs0, hb0, hbase0⟩ := hg 0 0 rfl
  obtain ⟨carr0, fl0, fh0, l0⟩ := g.row hrow0 hs0
  obtain ⟨x0, hx0, hxv⟩ := l0.cell (o := 0) rfl
  have hx0' : x0 = .iface 156 (.agg #[.pointer (some ⟨5, 50, Option.none⟩)]) := by
    cases hxv with
    | iface hq =>
      rename_i q
      cases hq with
      | agg hlq hcq =>
        rename_i qs
        have hq1 : qs.size = 1 := hlq.symm
        have h0 := hcq 0 _ qs[0] rfl (Array.getElem?_eq_getElem (by omega))
        have hqs : qs = #[qs[0]] := by
          apply Array.ext
          · simp [hq1]
          · intro k hk1 hk2
            have : k = 0 := by omega
            subst this; rfl
        rw [hqs]
        generalize qs[0] = y at h0
        cases h0
        rfl
  have hgl : w.cell? ⟨0, 0, Option.none⟩ = some (.iface 156 (.agg #[.pointer (some ⟨5, 50, Option.none⟩)])) := by
    rw [hb0, hbase0] at hx0
    rw [← hx0']; exact hx0
  obtain ⟨carri, fli, fhi, li⟩ := g.row hrowi hs
  obtain ⟨old, hold, _⟩ := li.cell (o := 0) rfl
  have hfz : w.frozen? ⟨s.blk, s.base + 0, Option.none⟩ = false := by
    obtain ⟨z1, z2⟩ := li.fz0 rfl
    unfold World.frozen?
    rw [li.at_]
    simp only [z1, z2]
    simp
  have hcall := as_at us[0] m ⟨s.blk, s.base + 0, Option.none⟩ old w hgl hold hfz
  have hbel := as_below w (.cells #[.pointer (some ⟨s.blk, s.base + 0, Option.none⟩)] 91) (.cells #[.pointer (some ⟨5, 91, Option.none⟩), .pointer (some ⟨w.heap.size, 0, Option.none⟩), .int .u64 150] 126) (.cells #[.pointer (some ⟨5, 91, Option.none⟩), .pointer (some ⟨w.heap.size, 0, Option.none⟩), .int .u64 150] 126) (.cells #[us[0], .iface 84 (.int .i64 m)] 100) (.cells #[.int .i64 m] 84)
  obtain ⟨g5, x5⟩ := gam_below g hbel
  obtain ⟨φ', w6, g6, x6, hrun⟩ := storeA_sound g5 hs (VRel.int .i64 m) hst
  have hlt : s.blk < w.heap.size := (g.dom _ _ hs).2
  have hst' := store84 _ ⟨s.blk, s.base + 0, Option.none⟩ m old (by rw [hbel.cell (p := ⟨s.blk, s.base + 0, Option.none⟩) hlt]; exact hold) (by rw [hbel.frozen (p := ⟨s.blk, s.base + 0, Option.none⟩) hlt]; exact hfz)
  rw [hst'] at hrun
  cases hrun
  refine .inr ⟨(bodied_run (show bodied Tryz.prog 35 = true by kernel_rfl)).2 _ _, callsIn_wide.2 ?_⟩
  rw [hcargs]
  refine hcall.mono fun ev w' ⟨he, hw⟩ => ?_
  subst he; subst hw
  exact ⟨φ', g6, x5.trans g g5 x6, .bool true⟩
theorem known_ok (n : Nat) : KnownOk cfg n := by
  intro f args H v H' h φ w cargs g hg hr
  have h1 := fun (xs : Array Value) (w : World) => @run_callFunc_extern Tryz.prog 44 _ Extern.ReflectliteType.typeOf Tryz.func44 (by kernel_rfl) (by kernel_rfl) (by kernel_rfl) (by kernel_rfl) xs w
  have h2 := fun (xs : Array Value) (w : World) => @run_callFunc_extern Tryz.prog 185 _ (Extern.ReflectliteType.method fun t => do Extern.Rtype.noPackHeld "Comparable" t; pure (.bool (← typeInfo t).comparable)) Tryz.func185 (by kernel_rfl) (by kernel_rfl) (by kernel_rfl) (by kernel_rfl) xs w
  have h : known f args H = some (v, H') := h
  unfold known at h
  cases e1 : Nat.beq f 44 with
  | true =>
    obtain rfl : f = 44 := Nat.eq_of_beq_eq_true e1
    simp only [e1] at h
    split at h
    · rename_i u
      cases h
      obtain ⟨v1, r1, e, hv, hn⟩ := hr.cons_inv
      obtain rfl := hn.nil_inv
      cases hv with
      | iface hu =>
        rename_i cu
        have hc : cargs = #[.iface 84 cu] := by apply Array.toList_inj.1; rw [e]
        refine .inl ⟨φ, w, _, g, Ext.refl fun i p hp => (g.dom i p hp).1, ?_, by rw [show cfg.P = Tryz.prog from rfl, h1, hc, typeOf_is]; rfl⟩
        exact .iface (.agg rfl fun j a c ha hcj => by
          rcases j with _ | j
          · cases ha; cases hcj; exact .fixed _ _
          · simp at ha)
    · cases h
  | false =>
    simp only [e1] at h
    cases e2 : Nat.beq f 185 with
    | false =>
      simp only [e2] at h
      cases e3 : Nat.beq f 35 with
      | false => simp only [e3] at h; cases h
      | true =>
        obtain rfl : f = 35 := Nat.eq_of_beq_eq_true e3
        simp only [e3] at h
        exact as_ok n h g hg hr
    | true =>
      obtain rfl : f = 185 := Nat.eq_of_beq_eq_true e2
      simp only [e2] at h
      split at h
      · cases h
        obtain ⟨v1, r1, e, hv, hn⟩ := hr.cons_inv
        obtain rfl := hn.nil_inv
        cases hv with
        | agg hl hcs =>
          rename_i vs
          have hvs : vs = #[.pointer (some ⟨5, 84, Option.none⟩)] := by
            have hl' : vs.size = 1 := hl.symm
            have h0 := hcs 0 _ (vs[0]'(by omega)) rfl (by simp)
            apply Array.ext
            · simp [hl']
            · intro i hi1 hi2
              have : i = 0 := by omega
              subst this
              cases hx : vs[0]'(by omega) with
              | _ => rw [hx] at h0; cases h0 <;> rfl
          have hc : cargs = #[.agg #[.pointer (some ⟨5, 84, Option.none⟩)]] := by apply Array.toList_inj.1; rw [e, hvs]
          exact .inl ⟨φ, w, _, g, Ext.refl fun i p hp => (g.dom i p hp).1, .bool true, by rw [show cfg.P = Tryz.prog from rfl, h2, hc, comparable_is]; rfl⟩
      · cases h

theorem lawBodied : bodied Tryz.prog 3 = true := by kernel_rfl
theorem opqs : Tryz.f3.params.toList.map (opqOf Tryz.prog) = [.opq] := by kernel_rfl
theorem errRel (φ : Names) : LRel φ errCells [.iface 156 (.agg #[.pointer (some ⟨5, 50, Option.none⟩)])] :=
  .cons (.iface (.agg rfl fun j a c ha hcj => by
    rcases j with _ | j
    · cases ha; cases hcj; exact .fixed _ _
    · simp at ha)) (.nil _)
theorem law_true (w : World) {ty : TypeId} {fr : Nat × Nat} (hw : w.heap[0]? = some (.cells #[.iface 156 (.agg #[.pointer (some ⟨5, 50, Option.none⟩)])] ty fr)) {cargs : Array Value} (hr : LRel (oneName 0 1 1) [.opq] cargs.toList) : Calls Tryz.prog 3 cargs w fun e w' => e = .returned (.bool true) ∧ Below w.heap.size w w' := by
  refine var_yes (C := cfg) (n := 10000) (c := errCells) (z := 1) (b := 0) mixed (ran ty) lawBodied w (known_ok _) hw (errRel _) (fun g i h => ?_) hr
  unfold cfg globs at h
  simp only at h
  cases hb : Nat.beq g 0 with
  | false => rw [hb] at h; cases h
  | true =>
    rw [hb] at h
    cases h
    exact ⟨⟨0, 0, 1, 1⟩, rfl, (Nat.eq_of_beq_eq_true hb).symm, rfl⟩

theorem rtIs : (Tryz.prog.cutTypes.find? (·.1 == "internal/reflectlite.rtype")).map (·.2) = some 156 := by kernel_rfl
theorem oneRow : ((List.range 286).filter fun t => Tryz.prog.rowNamed t [101, 114, 114, 111, 114]) = [50] := by kernel_rfl
theorem typesSize : Tryz.prog.types.size = 286 := by kernel_rfl
theorem globErr : Tryz.prog.globalNamed "errors.errorType" = some 0 := by kernel_rfl
/-- What the condition says of the variable's cell. -/
theorem handle_of_laid {W : World} (h : laidMetH Tryz.prog Rows.oplogNilRow.laid W) : ∃ ty fr, W.heap[0]? = some (.cells #[.iface 156 (.agg #[.pointer (some ⟨5, 50, Option.none⟩)])] ty fr) := by
  have h' : laidMet Tryz.prog [("unicode/utf8.acceptRanges", Rows.laid_unicode_utf8_acceptRanges), ("bytes.ErrTooLarge", Rows.laid_bytes_ErrTooLarge), ("unicode/utf8.first", Rows.laid_unicode_utf8_first)] W ∧ handlesMet Tryz.prog [("errors.errorType", Rows.laid_errors_errorType)] W := h
  obtain ⟨name, u, ty, e1, e2, e3, e4, e5⟩ := h'.2 _ (List.mem_singleton.2 rfl)
  have en : name = [101, 114, 114, 111, 114] := (Option.some.inj e1).symm
  subst en
  obtain rfl := Option.some.inj (rtIs.symm.trans e2)
  have hm : ty ∈ (List.range 286).filter fun t => Tryz.prog.rowNamed t [101, 114, 114, 111, 114] := List.mem_filter.2 ⟨List.mem_range.2 (by rw [← typesSize]; exact e3), e4⟩
  rw [oneRow] at hm
  obtain rfl := List.mem_singleton.1 hm
  have hh : typeHandle Tryz.prog 50 = .pointer (some ⟨5, 50, Option.none⟩) := by kernel_rfl
  rw [hh] at e5
  unfold World.var? at e5
  rw [globErr] at e5
  simp only [Option.bind_some] at e5
  split at e5
  · rename_i cs t fr hc
    cases e5
    exact ⟨t, fr, hc⟩
  · cases e5

theorem own : ownKnob Tryz.prog.godebug = Option.none := by kernel_rfl
theorem laidOut : laidOutB Tryz.prog = true := by kernel_rfl
theorem mapsLaid : mapsRowed Tryz.prog = true := by kernel_rfl
theorem fullSlices : ((List.range Tryz.prog.types.size).all fun t => match Tryz.prog.underlying t with | some (.slice e) => decide (0 < Tryz.prog.cellsOf e) | _ => true) = true := by kernel_rfl

def cellsD : Nat → DataW Unit → List Value
  | 0, _ => []
  | f + 1, d => match d with
    | .lit (.int k n) => [.int k n]
    | .agg ds => ds.flatMap (cellsD f)
    | _ => []
def textD : DataW Unit → ByteArray
  | .iface _ (.ptr (.agg [.lit (.string b)])) => ⟨b.toArray⟩
  | _ => ⟨#[]⟩
/-- A world in which the listed variables hold what is listed. -/
noncomputable def laidWorld (os : Os) : World :=
  let w0 := World.holding Tryz.prog os ⟨#[], #[], []⟩
  { w0 with heap := ((((w0.heap.modify 0 fun
      | .cells _ t frozen => .cells #[.iface 156 (.agg #[.pointer (some ⟨5, 50, Option.none⟩)])] t frozen
      | o => o).modify 1 fun
      | .cells _ t frozen => .cells #[.iface 253 (.pointer (some ⟨w0.heap.size, 0, Option.none⟩))] t frozen
      | o => o).modify 2 fun
      | .cells _ t frozen => .cells (cellsD 3 Rows.laid_unicode_utf8_first).toArray t frozen
      | o => o).modify 3 fun
      | .cells _ t frozen => .cells (cellsD 3 Rows.laid_unicode_utf8_acceptRanges).toArray t frozen
      | o => o).push (.cells #[.string (textD Rows.laid_bytes_ErrTooLarge)] 274) }
noncomputable def laidArgs : Array Value := #[.slice Option.none 0 0]
theorem laidWorld_met (os : Os) (args : Array Value) : laidMetH Tryz.prog Rows.oplogNilRow.laid ((laidWorld os).forCall (fun _ _ => 0) ⟨#[], args, []⟩).memory :=
  laidMetH_of_parts (laidMet_of_run' 8 (by kernel_rfl) (by kernel_rfl)) (by kernel_rfl)

theorem law_lifted (os : Os) (started : os.Started) (H : Type) (enc : TypeId × Value → H) :
    ReturnsInHanded {} Tryz.checked os 3 .any (fun w args => (Rows.oplogNilSpec.pre enc Tryz.prog Tryz.f3 [] false w args ∧ laidMetH Tryz.prog Rows.oplogNilRow.laid w) ∧ sizedMet enc Tryz.prog Tryz.f3 (OpenSpec.ofChange Rows.oplogNilSpec) false w args)
      (Rows.oplogNilSpec.post enc Tryz.prog Tryz.f3 false true false false) := by
  refine returnsInHanded_of_change_and (C := Tryz.checked) (X := fun w _ => laidMetH Tryz.prog Rows.oplogNilRow.laid w) (fun _ _ _ hh h => h.of_heap hh) own started (by kernel_rfl) Tryz.func3
    (ChangeSpec.witness_at (enc := enc) (C := Tryz.checked) (os := os) (X := fun w _ => laidMetH Tryz.prog Rows.oplogNilRow.laid w) false (laidWorld os) laidArgs 8 rfl (by kernel_rfl) (by kernel_rfl) (by kernel_rfl) (by kernel_rfl) (by kernel_rfl) (laidWorld_met os _)) ?_
  intro W base args ds gs before hval0 hW _ _ hL _
  obtain ⟨ety, efr, herr⟩ := handle_of_laid hL
  have hval : ∀ (j : Nat) t v, Tryz.f3.params[j]? = some t → args[j]? = some v → Value.okWide Tryz.prog W .any base t v := hval0
  have hW' := hW
  obtain ⟨p, q, hA0, hV0, rfl, hfz, hnd⟩ := hW
  have hA : DataW.TrodAll enc Tryz.prog W 0 (fun _ => true) true Tryz.f3.params.toList args.toList ds p := hA0
  have hV : DataW.TrodVars enc Tryz.prog W (fun _ => true) [] gs q := hV0
  obtain ⟨rfl, rfl⟩ : gs = [] ∧ q = [] := by
    cases gs with
    | nil => exact ⟨rfl, hV⟩
    | cons g r => exact absurd hV (by intro h; cases h)
  have hlen := Go.trodAll_length hA
  have hsz : args.size = Tryz.f3.params.size := by simpa using hlen.1
  have hr : LRel (oneName 0 1 1) [.opq] args.toList := by rw [← opqs]; exact opqs_rel hsz hval
  have hfn : Rows.oplogNilSpec.fn H (ds ++ []) = { results := [.lit (.bool true)], args := ds } := by
    have h2 : ds.length = 1 := by rw [hlen.2, Tryz.params3]; rfl
    rw [List.append_nil]
    rcases ds with _ | ⟨d0, ds1⟩
    · simp at h2
    · rcases ds1 with _ | ⟨x, r⟩
      · rfl
      · simp at h2
  have hlt : ∀ x ∈ p, x.block < W.heap.size := fun x hx => hW'.lt x (by simpa using hx)
  refine (law_true W herr hr).mono fun e W' ⟨he, hb⟩ => ?_
  subst he
  refine ⟨_, rfl, ?_⟩
  refine post_of_below' (pa := p) (pv := []) hW' (fun b sp hd => ?_) (fun sp hs => ?_) (fun sp hs => ?_) rfl hb (fun j t r ht hv => ?_)
  · rw [hfn]; exact trodAll_mk1 (shut_bool Tryz.underlying4 true)
  · rw [hfn]
    refine args_stay laidOut mapsLaid fullSlices (fun t ht => ?_) hA hb hlt sp fun x hx => hs x (by simpa using hx)
    have ht' : t ∈ ([22] : List TypeId) := ht
    rw [typesSize]
    simp only [List.mem_cons, List.mem_nil_iff, or_false] at ht'
    rcases ht' with rfl <;> decide
  · rw [hfn]; rfl
  · rcases j with _ | j
    · have ht' : t = 4 := (Option.some.inj (show some 4 = some t from ht)).symm
      have hv' : r = .bool true := (Option.some.inj (show some (Value.bool true) = some r from hv)).symm
      subst ht'; subst hv'
      have hu : Tryz.checked.prog.underlying 4 = some .bool := Tryz.underlying4
      unfold Value.okWide Cell.okWide Cell.ok
      rw [hu]
      trivial
    · exfalso
      have : Tryz.f3.resultTypes[j + 1]? = Option.none := by
        show (#[4] : Array TypeId)[j + 1]? = Option.none
        simp
      rw [this] at ht; cases ht

theorem row_holds : Rows.OplogNilSaid :=
  OpenClaim.holds_of_wide 3 Tryz.f3 rfl rfl rfl rfl rfl rfl rfl ⟨rfl, rfl, rfl, rfl, rfl⟩ rfl rfl rfl rfl rfl funcNamed_is Tryz.func3 facts
    (of_decide_eq_true inst_is) (by unfold Func.isWrapper; rw [if_neg (of_decide_eq_false (by kernel_rfl))]; exact ⟨rfl, rfl⟩)
    (fun os started H enc _ => law_lifted os started H enc)

/-- The card. -/
theorem card_holds : Rows.OplogNilCardSaid :=
  Claim7.holds_tied_plain_at .later [] [.data, .handle, .sentinel, .pinned] true (true, "850ed3aff793ffb3ca28c325afe531582d99e6fba0758f761044034d623d5596") true
    row_holds (fun _ h => by cases h) wfText (fun _ h => by cases h) oplogNil_row_tie rfl ⟨rfl, rfl⟩ mainIs_is rfl
    (fun f fn hf hfn => by
      obtain rfl : f = 3 := Option.some.inj (funcNamed_is.symm.trans hf) |>.symm
      obtain rfl : fn = Tryz.f3 := (Option.some.inj (Tryz.func3.symm.trans hfn)).symm
      refine ⟨looks_is, fun j t ht => ?_⟩
      have ht' : (#[22] : Array TypeId)[j]? = some t := ht
      rcases j with _ | j
      · obtain rfl : t = 22 := (Option.some.inj ht').symm
        exact standIn22
      · simp at ht')
    goesBy_is
#print axioms card_holds
end Go.Proofs.YtaaagehbbihfeaaGreatDoor
