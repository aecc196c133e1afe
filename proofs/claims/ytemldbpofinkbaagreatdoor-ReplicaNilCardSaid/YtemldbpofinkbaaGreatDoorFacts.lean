/-
  ReplicaNil: the closed facts that the row's builder asks, one by one, by the kernel.
  Conditions: none.
-/
import Derived.Test.YtemldbpofinkbaaGreatDoorCards
import Derived.Test.YtemldbpofinkbaaGreatDoorProg
import Derived.JoinedOf
import Derived.KernelRfl
namespace Go.Proofs.YtemldbpofinkbaaGreatDoor
open Go
set_option maxRecDepth 100000
theorem both {a b : Bool} (ha : a = true) (hb : b = true) : (a && b) = true := by rw [ha, hb]; rfl
theorem fact0 : (Rows.replicaNilRow.wf (OpenSpec.ofChange Rows.replicaNilSpec)) = true := by kernel_rfl
theorem fact1 : (laidOutB Tryz.prog) = true := by kernel_rfl
theorem fact2 : (mapsRowed Tryz.prog) = true := by kernel_rfl
theorem fact3 : (Tryz.f3.params.all (Tryz.prog.readableRec ·)) = true := by kernel_rfl
theorem fact4 : (namedTie Tryz.prog Rows.replicaNilRow.named Rows.replicaNilSpec.vars) = true := by kernel_rfl
theorem fact5 : ((Rows.replicaNilRow.stops == [])) = true := by kernel_rfl
theorem fact6 : ((Tryz.prog.stops == [])) = true := by kernel_rfl
theorem fact7 : ((Rows.replicaNilRow.knobs == [])) = true := by kernel_rfl
theorem fact8 : ((Tryz.prog.stopKnobs == [])) = true := by kernel_rfl
theorem fact9 : ((Rows.replicaNilRow.inPlace == Tryz.prog.inPlace 3)) = true := by kernel_rfl
theorem fact10 : ((Rows.replicaNilRow.unfollowed == Tryz.prog.unfollowed 3)) = true := by kernel_rfl
theorem fact11 : ((Rows.replicaNilRow.recurses == Tryz.prog.recurses 3)) = true := by kernel_rfl
theorem fact12 : ((Rows.replicaNilRow.named == Tryz.prog.varsNamed 3)) = true := by kernel_rfl
theorem fact13 : ((Rows.replicaNilRow.maps == (Tryz.f3.params.toList ++ Rows.replicaNilSpec.plain.varTypes Tryz.prog).any (Tryz.prog.mapsRec ·))) = true := by kernel_rfl
theorem fact14 : ((Rows.replicaNilRow.ifaces == (Tryz.f3.params.toList ++ Rows.replicaNilSpec.plain.varTypes Tryz.prog).any (Tryz.prog.ifacesRec ·))) = true := by kernel_rfl
theorem fact15 : ((Rows.replicaNilRow.mapsOut == Tryz.prog.mapsAmong Tryz.f3.resultTypes.toList)) = true := by kernel_rfl
theorem fact16 : ((Rows.replicaNilRow.loops == (Tryz.f3.params.toList ++ Rows.replicaNilSpec.plain.varTypes Tryz.prog).any (Tryz.prog.loopsFrom ·))) = true := by kernel_rfl
theorem fact17 : ((Rows.replicaNilRow.wideKeys == (Tryz.f3.params.toList ++ Rows.replicaNilSpec.plain.varTypes Tryz.prog ++ Tryz.f3.resultTypes.toList).any (Tryz.prog.wideKeysFrom ·))) = true := by kernel_rfl
theorem fact18 : (Rows.replicaNilSpec.vars.all (Tryz.prog.varReadable ·)) = true := by kernel_rfl
theorem fact19 : (Tryz.f3.resultTypes.all (fun t => Tryz.prog.readableRec t && decide (t < Tryz.prog.types.size))) = true := by kernel_rfl
theorem fact20 : ((Rows.replicaNilRow.ifacesOut == Tryz.f3.resultTypes.toList.any (Tryz.prog.ifacesRec ·))) = true := by kernel_rfl
theorem fact21 : ((Rows.replicaNilRow.loopsOut == Tryz.f3.resultTypes.toList.any (Tryz.prog.loopsFrom ·))) = true := by kernel_rfl
theorem fact22 : ((Rows.replicaNilRow.plainKeys == Tryz.prog.plainKeys)) = true := by kernel_rfl
theorem fact23 : (Rows.replicaNilRow.shortTexts.isNone) = true := by kernel_rfl
theorem fact24 : (Tryz.prog.stopsHeard) = true := by kernel_rfl
theorem fact25 : (Tryz.prog.mayEnter) = true := by kernel_rfl
theorem fact26 : ((Rows.replicaNilRow.lifted == Tryz.prog.liftsFinal)) = true := by kernel_rfl
theorem fact27 : ((Tryz.prog.make == some Rows.replicaNilRow.make)) = true := by kernel_rfl
theorem fact28 : ((Rows.replicaNilRow.kinds == (if Rows.replicaNilRow.domain.isEmpty then [] else Tryz.f3.params.toList.map fun t => match Tryz.prog.underlying t with | some (.int k) => some k | _ => none))) = true := by kernel_rfl
theorem fact29 : ((Rows.replicaNilRow.pinned == Rows.replicaNilRow.pinnedBy)) = true := by kernel_rfl
theorem fact30 : ((Rows.replicaNilRow.veiled == (Tryz.f3.params.toList ++ Rows.replicaNilSpec.plain.varTypes Tryz.prog ++ Tryz.f3.resultTypes.toList).any (Tryz.prog.veiledRec ·))) = true := by kernel_rfl
theorem fact31 : (Rows.replicaNilRow.veiledFits Tryz.prog Tryz.f3.params.toList (Tryz.f3.params.toList ++ Rows.replicaNilSpec.plain.varTypes Tryz.prog ++ Tryz.f3.resultTypes.toList)) = true := by kernel_rfl
theorem facts : joinedFacts Tryz.prog 3 Tryz.f3 Rows.replicaNilSpec Rows.replicaNilRow = true := by
  unfold joinedFacts
  exact (both (both (both (both (both (both (both (both (both (both (both (both (both (both (both (both (both (both (both (both (both (both (both (both (both (both (both (both (both (both (both fact0 fact1) fact2) fact3) fact4) fact5) fact6) fact7) fact8) fact9) fact10) fact11) fact12) fact13) fact14) fact15) fact16) fact17) fact18) fact19) fact20) fact21) fact22) fact23) fact24) fact25) fact26) fact27) fact28) fact29) fact30) fact31)
theorem funcNamed_is : Tryz.prog.funcNamed "stemma/stemmalaw22.ReplicaNil" = some 3 := by kernel_rfl
theorem inst_is : decide (Tryz.f3.isInstance Tryz.prog Rows.replicaNilRow.origin Rows.replicaNilRow.targs) = true := by kernel_rfl
theorem wfText : Rows.replicaNilRow.wfByText (OpenSpec.ofChange Rows.replicaNilSpec) = true := by kernel_rfl
theorem mainIs_is : Tryz.prog.mainIs = some (true, "ec3983d3f295cb2b4326bdcd9a037dc6e0495082e28a8ccae38c09077da6dd18".toList) := by kernel_rfl
theorem looks_is : true = Tryz.prog.looks [] := by kernel_rfl
theorem goesBy_is : false = Rows.replicaNilRow.goesBy Tryz.prog := by kernel_rfl
theorem standIn26 : Tryz.prog.wantsStandIn 26 = false := by kernel_rfl
theorem standIn27 : Tryz.prog.wantsStandIn 27 = false := by kernel_rfl
end Go.Proofs.YtemldbpofinkbaaGreatDoor
