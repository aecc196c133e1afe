/-
  ReplicaNil: the whole law, run by the kernel over the abstract machine: it answers true, whatever the arguments are.
  Conditions: none.
-/
import Derived.Test.YtemldbpofinkbaaGreatDoorAbsRow
import Derived.Test.YtemldbpofinkbaaGreatDoorProg
import Derived.KernelRfl
import Derived.Laws.Externs
namespace Go.Proofs.YtemldbpofinkbaaGreatDoor
open Go Go.Abs
/-- What reflectlite's two functions answer of the one type that is asked. -/
noncomputable def known (f : FuncId) (args : List AV) (H : AHeap) : Option (AV × AHeap) :=
  Bool.rec (motive := fun _ => Option (AV × AHeap)) (Bool.rec (motive := fun _ => Option (AV × AHeap)) Option.none (match args with
    | [.agg [.fixed 4 202]] => some (.bool true, H)
    | _ => Option.none) (Nat.beq f 389)) (match args with
    | [.iface 202 _] => some (.iface 308 (.agg [.fixed 4 202]), H)
    | _ => Option.none) (Nat.beq f 170)
noncomputable def cfg : Cfg := ⟨Tryz.prog, fun _ => Option.none, known⟩
set_option maxRecDepth 1000000 in
theorem ran : saysYes (runF cfg 10000 3 [.agg (List.replicate 11 .opq), .opq] none0) = true := by kernel_rfl
end Go.Proofs.YtemldbpofinkbaaGreatDoor
