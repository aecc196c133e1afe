/-
  A call out of a heap in which a package-level variable stands; blocks that nobody names.
  Conditions: none.
-/
import Derived.Test.YtaaagehbbihfeaaGreatDoorAbsRow
namespace Go.Abs
open Go.RowKit

/-- New blocks that nobody names. -/
theorem gam_below {N : Nat} {φ : Names} {H : AHeap} {w w' : World} (g : Gam N φ H w) (hb : Below w.heap.size w w') : Gam N φ H w' ∧ Ext N φ φ H H w w' := by
  refine ⟨⟨fun i p h => ⟨(g.dom i p h).1, Nat.lt_of_lt_of_le (g.dom i p h).2 hb.size⟩, g.cov, fun i e he hl => ?_, g.inj, g.low, Nat.le_trans g.size hb.size⟩, ?_⟩
  · obtain ⟨s, o, h1, h2, h3, h4⟩ := g.own i e he hl
    exact ⟨s, o, h1, by rw [hb.block _ (g.dom i s h1).2]; exact h2, h3, h4⟩
  · exact {
      names := Names.le_refl φ
      next := Nat.le_refl _
      time := Nat.le_refl _
      keep := fun i e h => ⟨e, h, .inl rfl, id⟩
      back := fun i e h _ => ⟨e, h⟩
      fresh := fun i s hi h => absurd (g.dom i s h).1 (by omega)
      frame := fun b hlt _ => hb.block b hlt
      low := fun b hlt => hb.block b (Nat.lt_of_lt_of_le hlt g.size)
      size := hb.size
      tape := hb.tape
      os := hb.os
      output := hb.output }

/-- A heap in which one variable stands, to be read alone. -/
def oneVar (c : List AV) (e : TypeId) (z : Nat) : AHeap := none0.new (.cells c e 2 z)
def oneName (b room z : Nat) : Names := fun i => bif Nat.beq i 0 then some ⟨b, 0, room, z⟩ else none

theorem oneVar_get {c : List AV} {e : TypeId} {z i : Nat} {x : Ent} (h : (oneVar c e z).get i = some x) : i = 0 ∧ x = ⟨.cells c e 2 z, 1⟩ := by
  have h : (Tr.ins none0.objs 0 ⟨.cells c e 2 z, 1⟩).get i = some x := h
  rcases Tr.get_ins_inv _ _ _ _ _ h with ⟨h1, h2⟩ | ⟨_, h2⟩
  · exact ⟨h1, h2⟩
  · have h2 : Tr.get (.leaf : Tr Ent) i = some x := h2
    rw [Tr.get_leaf] at h2; cases h2

theorem gamVar {c : List AV} {vs : Array Value} {e : TypeId} {z b : Nat} {fr : Nat × Nat} (w : World) (hw : w.heap[b]? = some (.cells vs e fr)) (hr : LRel (oneName b vs.size z) c vs.toList) : Gam w.heap.size (oneName b vs.size z) (oneVar c e z) w := by
  have hφ : ∀ i s, oneName b vs.size z i = some s → i = 0 ∧ s = ⟨b, 0, vs.size, z⟩ := fun i s h => by
    unfold oneName at h
    cases hb : Nat.beq i 0 with
    | false => rw [hb] at h; cases h
    | true => rw [hb] at h; cases h; exact ⟨Nat.eq_of_beq_eq_true hb, rfl⟩
  have hlt : b < w.heap.size := by
    rcases Nat.lt_or_ge b w.heap.size with h | h
    · exact h
    · rw [Array.getElem?_eq_none h] at hw; cases hw
  refine ⟨fun i s h => ?_, fun i h => ?_, fun i x hx hl => ?_, fun i j x y s s' hx _ hy _ _ _ _ => ?_, fun i x hx => ?_, Nat.le_refl _⟩
  · obtain ⟨rfl, rfl⟩ := hφ i s h
    exact ⟨by show 0 < 1; omega, hlt⟩
  · have h : i < 1 := h
    have : i = 0 := by omega
    subst this
    exact ⟨_, rfl⟩
  · obtain ⟨rfl, rfl⟩ := oneVar_get hx
    refine ⟨⟨b, 0, vs.size, z⟩, _, rfl, hw, ⟨vs, fr.1, fr.2, rfl, by simp, rfl, by simp [hr.1], ?_, (fun h => by cases h), (fun h => by cases h)⟩, .inr ⟨c, e, z, rfl⟩⟩
    have : (vs.toList.drop 0).take c.length = vs.toList := by
      rw [List.drop_zero, List.take_of_length_le (by rw [hr.1]; exact Nat.le_refl _)]
    rw [this]; exact hr
  · rw [(oneVar_get hx).1, (oneVar_get hy).1]
  · obtain ⟨rfl, rfl⟩ := oneVar_get hx
    exact ⟨by show 1 < 2; omega, by show 0 < 1; omega⟩

/-- A call that the quick evaluator answers with yes, a variable standing there. -/
theorem var_yes {C : Cfg} (hm : C.P.follows .mixedOrders = true) {n : Nat} {f : FuncId} {args : List AV} {c : List AV} {vs : Array Value} {e : TypeId} {z b : Nat} {fr : Nat × Nat} (h : saysYes (runF C n f args (oneVar c e z)) = true) (hb : bodied C.P f = true)
    (w : World) (hK : KnownOk C w.heap.size) (hw : w.heap[b]? = some (.cells vs e fr)) (hv : LRel (oneName b vs.size z) c vs.toList) (hglob : GRel C (oneName b vs.size z)) {cargs : Array Value} (hr : LRel (oneName b vs.size z) args cargs.toList) :
    Calls C.P f cargs w fun e w' => e = .returned (.bool true) ∧ Below w.heap.size w w' := by
  obtain ⟨H, hH⟩ := saysYes_inv h
  rw [runF_eq] at hH
  rcases callA_sound hm hK (eng_ok hm hK n) hH (gamVar w hw hv) hglob hr with ⟨φ', w', cv, _, _, _, hrun⟩ | ⟨_, hc⟩
  · rw [(bodied_run hb).2] at hrun; cases hrun
  · refine (callsIn_wide.1 hc).mono fun e w' he => ?_
    cases e with
    | returned cv =>
      obtain ⟨φ', _, x, hv⟩ := he
      cases hv
      exact ⟨rfl, x.os, x.tape, x.output, x.size, x.low⟩
    | panicked ch => exact he.elim
    | outgrown => exact he.elim
end Go.Abs
