/-
  A call out of nothing: what the abstract machine says of it holds in every world.
  Conditions: none.
-/
import Derived.Test.YtaaagehbbihfeaaGreatDoorAbsEng
import Derived.Below
namespace Go.Abs

def none0 : AHeap := ⟨.leaf, 0, 1⟩
def noNames : Names := fun _ => none

theorem gam0 (w : World) : Gam w.heap.size noNames none0 w := by
  have hg : ∀ i e, none0.get i ≠ some e := fun i e h => by
    have h : Tr.get (.leaf : Tr Ent) i = some e := h
    rw [Tr.get_leaf] at h; cases h
  refine ⟨fun i p h => by simp [noNames] at h, fun i h => by simp [none0] at h, fun i e h => absurd h (hg i e), fun i j e e' s s' h => absurd h (hg i e), fun i e h => absurd h (hg i e), Nat.le_refl _⟩

theorem closed_calls {C : Cfg} (hm : C.P.follows .mixedOrders = true) (hK : ∀ N, KnownOk C N) (hg : C.glob = fun _ => none) {n : Nat} {f : FuncId} {args : List AV} {v : AV} {H' : AHeap} (h : callA C (eng C n) f args none0 = some (v, H')) (hb : bodied C.P f = true)
    (w : World) {cargs : Array Value} (hr : LRel noNames args cargs.toList) : Calls C.P f cargs w fun e w' => ∃ φ' cv, e = .returned cv ∧ VRel φ' v cv ∧ RowKit.Below w.heap.size w w' := by
  have hglob : GRel C noNames := fun g i h => by rw [hg] at h; cases h
  rcases callA_sound hm (hK _) (eng_ok hm (hK _) n) h (gam0 w) hglob hr with ⟨φ', w', cv, _, _, _, hrun⟩ | ⟨_, hc⟩
  · rw [(bodied_run hb).2] at hrun; cases hrun
  · refine (callsIn_wide.1 hc).mono fun e w' he => ?_
    cases e with
    | returned cv =>
      obtain ⟨φ', _, x, hv⟩ := he
      exact ⟨φ', cv, rfl, hv, x.os, x.tape, x.output, x.size, x.low⟩
    | panicked ch => exact he.elim
    | outgrown => exact he.elim

/-- A call that says yes. -/
theorem closed_true {C : Cfg} (hm : C.P.follows .mixedOrders = true) (hK : ∀ N, KnownOk C N) (hg : C.glob = fun _ => none) {n : Nat} {f : FuncId} {args : List AV} (h : (match callA C (eng C n) f args none0 with | some (.bool true, _) => true | _ => false) = true) (hb : bodied C.P f = true)
    (w : World) {cargs : Array Value} (hr : LRel noNames args cargs.toList) : Calls C.P f cargs w fun e w' => e = .returned (.bool true) ∧ RowKit.Below w.heap.size w w' := by
  split at h
  · rename_i H' hc
    refine (closed_calls hm hK hg hc hb w hr).mono fun e w' he => ?_
    obtain ⟨φ', cv, rfl, hv, hbel⟩ := he
    cases hv
    exact ⟨rfl, hbel⟩
  · cases h
end Go.Abs
