/-
  OplogNil: the whole law, run by the kernel over the abstract machine: it answers true, whatever the arguments are.
  Conditions: none.
-/
import Derived.Test.YtaaagehbbihfeaaGreatDoorAbsGlob
import Derived.Test.YtaaagehbbihfeaaGreatDoorProg
import Derived.KernelRfl
import Derived.Laws.Externs
namespace Go.Proofs.YtaaagehbbihfeaaGreatDoor
open Go Go.Abs
/-- The handle of the type 'error'. -/
def isErr : List AV → Bool
  | [.iface 156 (.agg [.fixed 5 50])] => true
  | _ => false
/-- errors.As at an 'at' round a 'fault', the target a 'fault' variable. -/
noncomputable def asKnown (args : List AV) (H : AHeap) : Option (AV × AHeap) :=
  match args with
  | [.iface 100 (.agg [_, .iface 84 (.int .i64 n)]), .iface 91 (.ptr i 0)] => match H.row 0, H.row i with
    | some ⟨c0, _, _, _⟩, some ⟨[_], _, 0, _⟩ => bif isErr c0 then (storeA Tryz.prog 84 i 0 (.int .i64 n) H).map fun H' => (.bool true, H') else Option.none
    | _, _ => Option.none
  | _ => Option.none
/-- What is known of calls. -/
noncomputable def known (f : FuncId) (args : List AV) (H : AHeap) : Option (AV × AHeap) :=
  Bool.rec (motive := fun _ => Option (AV × AHeap)) (Bool.rec (motive := fun _ => Option (AV × AHeap)) (Bool.rec (motive := fun _ => Option (AV × AHeap)) Option.none (asKnown args H) (Nat.beq f 35)) (match args with
    | [.agg [.fixed 5 84]] => some (.bool true, H)
    | _ => Option.none) (Nat.beq f 185)) (match args with
    | [.iface 84 _] => some (.iface 156 (.agg [.fixed 5 84]), H)
    | _ => Option.none) (Nat.beq f 44)
def globs (g : Nat) : Option Nat := bif Nat.beq g 0 then some 0 else Option.none
noncomputable def cfg : Cfg := ⟨Tryz.prog, globs, known⟩
def errCells : List AV := [.iface 156 (.agg [.fixed 5 50])]
set_option maxRecDepth 1000000 in
theorem ran (ety : TypeId) : saysYes (runF cfg 10000 3 [.opq] (oneVar errCells ety 1)) = true := by kernel_rfl
end Go.Proofs.YtaaagehbbihfeaaGreatDoor
