/-
  OplogNil: the closed facts that the row's builder asks, one by one, by the kernel.
  Conditions: none.
-/
import Derived.Test.YtaaagehbbihfeaaGreatDoorCards
import Derived.Test.YtaaagehbbihfeaaGreatDoorProg
import Derived.JoinedOf
import Derived.KernelRfl
namespace Go.Proofs.YtaaagehbbihfeaaGreatDoor
open Go
set_option maxRecDepth 100000
theorem both {a b : Bool} (ha : a = true) (hb : b = true) : (a && b) = true := by rw [ha, hb]; rfl
theorem fact0 : (Rows.oplogNilRow.wf (OpenSpec.ofChange Rows.oplogNilSpec)) = true := by kernel_rfl
theorem fact1 : (laidOutB Tryz.prog) = true := by kernel_rfl
theorem fact2 : (mapsRowed Tryz.prog) = true := by kernel_rfl
theorem fact3 : (Tryz.f3.params.all (Tryz.prog.readableRec ·)) = true := by kernel_rfl
theorem fact4 : (namedTie Tryz.prog Rows.oplogNilRow.named Rows.oplogNilSpec.vars) = true := by kernel_rfl
theorem fact5 : ((Rows.oplogNilRow.stops == [])) = true := by kernel_rfl
theorem fact6 : ((Tryz.prog.stops == [])) = true := by kernel_rfl
theorem fact7 : ((Rows.oplogNilRow.knobs == [])) = true := by kernel_rfl
theorem fact8 : ((Tryz.prog.stopKnobs == [])) = true := by kernel_rfl
theorem fact9 : ((Rows.oplogNilRow.inPlace == Tryz.prog.inPlace 3)) = true := by kernel_rfl
theorem fact10 : ((Rows.oplogNilRow.unfollowed == Tryz.prog.unfollowed 3)) = true := by kernel_rfl
theorem fact11 : ((Rows.oplogNilRow.recurses == Tryz.prog.recurses 3)) = true := by kernel_rfl
theorem fact12 : ((Rows.oplogNilRow.named == Tryz.prog.varsNamed 3)) = true := by kernel_rfl
theorem fact13 : ((Rows.oplogNilRow.maps == (Tryz.f3.params.toList ++ Rows.oplogNilSpec.plain.varTypes Tryz.prog).any (Tryz.prog.mapsRec ·))) = true := by kernel_rfl
theorem fact14 : ((Rows.oplogNilRow.ifaces == (Tryz.f3.params.toList ++ Rows.oplogNilSpec.plain.varTypes Tryz.prog).any (Tryz.prog.ifacesRec ·))) = true := by kernel_rfl
theorem fact15 : ((Rows.oplogNilRow.mapsOut == Tryz.prog.mapsAmong Tryz.f3.resultTypes.toList)) = true := by kernel_rfl
theorem fact16 : ((Rows.oplogNilRow.loops == (Tryz.f3.params.toList ++ Rows.oplogNilSpec.plain.varTypes Tryz.prog).any (Tryz.prog.loopsFrom ·))) = true := by kernel_rfl
theorem fact17 : ((Rows.oplogNilRow.wideKeys == (Tryz.f3.params.toList ++ Rows.oplogNilSpec.plain.varTypes Tryz.prog ++ Tryz.f3.resultTypes.toList).any (Tryz.prog.wideKeysFrom ·))) = true := by kernel_rfl
theorem fact18 : (Rows.oplogNilSpec.vars.all (Tryz.prog.varReadable ·)) = true := by kernel_rfl
theorem fact19 : (Tryz.f3.resultTypes.all (fun t => Tryz.prog.readableRec t && decide (t < Tryz.prog.types.size))) = true := by kernel_rfl
theorem fact20 : ((Rows.oplogNilRow.ifacesOut == Tryz.f3.resultTypes.toList.any (Tryz.prog.ifacesRec ·))) = true := by kernel_rfl
theorem fact21 : ((Rows.oplogNilRow.loopsOut == Tryz.f3.resultTypes.toList.any (Tryz.prog.loopsFrom ·))) = true := by kernel_rfl
theorem fact22 : ((Rows.oplogNilRow.plainKeys == Tryz.prog.plainKeys)) = true := by kernel_rfl
theorem fact23 : (Rows.oplogNilRow.shortTexts.isNone) = true := by kernel_rfl
theorem fact24 : (Tryz.prog.stopsHeard) = true := by kernel_rfl
theorem fact25 : (Tryz.prog.mayEnter) = true := by kernel_rfl
theorem fact26 : ((Rows.oplogNilRow.lifted == Tryz.prog.liftsFinal)) = true := by kernel_rfl
theorem fact27 : ((Tryz.prog.make == some Rows.oplogNilRow.make)) = true := by kernel_rfl
theorem fact28 : ((Rows.oplogNilRow.kinds == (if Rows.oplogNilRow.domain.isEmpty then [] else Tryz.f3.params.toList.map fun t => match Tryz.prog.underlying t with | some (.int k) => some k | _ => none))) = true := by kernel_rfl
theorem fact29 : ((Rows.oplogNilRow.pinned == Rows.oplogNilRow.pinnedBy)) = true := by kernel_rfl
theorem fact30 : ((Rows.oplogNilRow.veiled == (Tryz.f3.params.toList ++ Rows.oplogNilSpec.plain.varTypes Tryz.prog ++ Tryz.f3.resultTypes.toList).any (Tryz.prog.veiledRec ·))) = true := by kernel_rfl
theorem fact31 : (Rows.oplogNilRow.veiledFits Tryz.prog Tryz.f3.params.toList (Tryz.f3.params.toList ++ Rows.oplogNilSpec.plain.varTypes Tryz.prog ++ Tryz.f3.resultTypes.toList)) = true := by kernel_rfl
theorem facts : joinedFacts Tryz.prog 3 Tryz.f3 Rows.oplogNilSpec Rows.oplogNilRow = true := by
  unfold joinedFacts
  exact (both (both (both (both (both (both (both (both (both (both (both (both (both (both (both (both (both (both (both (both (both (both (both (both (both (both (both (both (both (both (both fact0 fact1) fact2) fact3) fact4) fact5) fact6) fact7) fact8) fact9) fact10) fact11) fact12) fact13) fact14) fact15) fact16) fact17) fact18) fact19) fact20) fact21) fact22) fact23) fact24) fact25) fact26) fact27) fact28) fact29) fact30) fact31)
theorem funcNamed_is : Tryz.prog.funcNamed "stemma/stemmalaw09.OplogNil" = some 3 := by kernel_rfl
theorem inst_is : decide (Tryz.f3.isInstance Tryz.prog Rows.oplogNilRow.origin Rows.oplogNilRow.targs) = true := by kernel_rfl
theorem wfText : Rows.oplogNilRow.wfByText (OpenSpec.ofChange Rows.oplogNilSpec) = true := by kernel_rfl
theorem mainIs_is : Tryz.prog.mainIs = some (true, "850ed3aff793ffb3ca28c325afe531582d99e6fba0758f761044034d623d5596".toList) := by kernel_rfl
theorem looks_is : true = Tryz.prog.looks [] := by kernel_rfl
theorem goesBy_is : false = Rows.oplogNilRow.goesBy Tryz.prog := by kernel_rfl
theorem standIn22 : Tryz.prog.wantsStandIn 22 = false := by kernel_rfl
end Go.Proofs.YtaaagehbbihfeaaGreatDoor
