/-
  DERIVED. GIVEN WITH THE SEED: THE CARDS: each row of YtaaagehbbihfeaaGreatDoorRows.lean that lists a variable, with what it lists TIED to the program's text (the seventh form; the later family's looks); each row that meets fmt, with fmt's text TOLD by the authors' own Lean function (tested against real Go, not proved from fmt's source: count such statements apart). THE CARD IS WHAT COUNTS. Prove the row's statement (the work); the ties are given (YtaaagehbbihfeaaGreatDoorTie.lean); close each card by the builder's one call (the guide's Derived/Test/ToyasCard.lean, 'card_holds'). Laid BY PROGRAM, IN A SANDBOX (cutbox-door.mjs). By AI agents, Wed Nov 11 2026. No macro, syntax, notation, axiom, sorry.
-/
import Derived.Test.YtaaagehbbihfeaaGreatDoorRows
import GoSem.ClaimSeven
namespace Go.Proofs.YtaaagehbbihfeaaGreatDoor
namespace Rows

/-- THE TIED CARD OF 'stemmalaw09.OplogNil'. -/
def oplogNilCard : Claim7 := { stood := { row := oplogNilRow, standIns := [], harness := (true, "850ed3aff793ffb3ca28c325afe531582d99e6fba0758f761044034d623d5596"), looks := true }, kinds := [], alts := [], laidByText := true, laidKinds := [.data, .handle, .sentinel, .pinned], laidTests := true, laidLooks := .later }
def OplogNilCardSaid : Prop := Claim7.holds Tryz.pinned (.plain (OpenSpec.ofChange oplogNilSpec)) oplogNilCard

/-- THE SECOND FORM's CARD OF 'stemmalaw09.OplogNil'. -/
def oplogNilUptoCard : Claim7 := { stood := { row := oplogNilUptoRow, standIns := [], harness := (true, "850ed3aff793ffb3ca28c325afe531582d99e6fba0758f761044034d623d5596"), looks := true }, kinds := [], alts := [], laidByText := true, laidKinds := [.data, .handle, .sentinel, .pinned], laidTests := true, laidLooks := .later }
def OplogNilUptoCardSaid : Prop := Claim7.holds Tryz.pinned (.plain (OpenSpec.upto oplogNilSpec)) oplogNilUptoCard
end Rows
end Go.Proofs.YtaaagehbbihfeaaGreatDoor
