/-
  WorldNil: the whole law, run by the kernel over the abstract machine: it answers true, whatever the arguments are.
  Conditions: none.
-/
import Derived.Test.YtblofdlemppdjaaGreatDoorAbsRow
import Derived.Test.YtblofdlemppdjaaGreatDoorProg
import Derived.KernelRfl
import Derived.Laws.Externs
namespace Go.Proofs.YtblofdlemppdjaaGreatDoor
open Go Go.Abs
/-- What reflectlite's two functions answer of the one type that is asked. -/
noncomputable def known (f : FuncId) (args : List AV) (H : AHeap) : Option (AV × AHeap) :=
  Bool.rec (motive := fun _ => Option (AV × AHeap)) (Bool.rec (motive := fun _ => Option (AV × AHeap)) (Bool.rec (motive := fun _ => Option (AV × AHeap)) Option.none (match args with
    | [.nilPtr, .int .i64 _] => some (.nilPtr, H)
    | _ => Option.none) (Nat.beq f 7)) (match args with
    | [.agg [.fixed 4 245]] => some (.bool true, H)
    | _ => Option.none) (Nat.beq f 356)) (match args with
    | [.iface 245 _] => some (.iface 289 (.agg [.fixed 4 245]), H)
    | _ => Option.none) (Nat.beq f 163)
noncomputable def cfg : Cfg := ⟨Tryz.prog, fun _ => Option.none, known⟩
set_option maxRecDepth 1000000 in
theorem ran (n : Int) : saysYes (runF cfg 10000 3 [.agg ((List.replicate 19 AV.opq).set 1 (.int .i64 n))] none0) = true := by kernel_rfl
end Go.Proofs.YtblofdlemppdjaaGreatDoor
