/-
  The abstract machine's steps over the machine's own calculus: an operation, a region in the order of the text.
  Conditions: none.
-/
import Derived.Test.YtaaagehbbihfeaaGreatDoorAbsStep
import Derived.OrdersIn
import Derived.RangeFuncLeaves
namespace Go.Abs

/-- A fence that lets all in: code runs in a function's frame, or in a round's. -/
def Wide (ro : Option Nat) : Fence := { Fence.wide with round := ro }

theorem CallsIn.ofWide {ro : Option Nat} {P : Program} {f : FuncId} {args : Array Value} {w : World} {R : Ending → World → Prop} (h : CallsIn Fence.wide 0 P f args w R) : CallsIn (Wide ro) (0 - 1) P f args w R := h
theorem RoundIn.ofWide {ro : Option Nat} {P : Program} {l : Nat} {f : FuncId} {tmps : Array Value} {assign body : Code} {w : World} {R : Ending → World → Prop} (h : RoundIn Fence.wide 0 P l f tmps assign body w R) : RoundIn (Wide ro) (0 - 1) P l f tmps assign body w R := h

/-- The marks of a frame. -/
inductive MRel (φ : Names) : List Nat → List Deferred → Prop
  | nil : MRel φ [] []
  | cons {m : Nat} {s : Spot} {ms : List Nat} {ds : List Deferred} (h : φ m = some s) (t : MRel φ ms ds) : MRel φ (m :: ms) ({ target := .collected s.blk, args := #[] } :: ds)

theorem MRel.mono {φ φ' : Names} (hle : Names.le φ φ') {ms : List Nat} {ds : List Deferred} (h : MRel φ ms ds) : MRel φ' ms ds := by
  induction h with
  | nil => exact .nil
  | cons h _ ih => exact .cons (hle _ _ h) ih
theorem MRel.append {φ : Names} {ms ms' : List Nat} {ds ds' : List Deferred} (h : MRel φ ms ds) (h' : MRel φ ms' ds') : MRel φ (ms ++ ms') (ds ++ ds') := by
  induction h with
  | nil => exact h'
  | cons h _ ih => exact .cons h ih

/-- A frame's state. -/
def ARel (φ : Names) (a : AAct) (ca : Act) : Prop := SRel φ a.slots ca.tmps ∧ ca.tmps.size = a.n ∧ MRel φ a.marks ca.defers

theorem ARel.mono {φ φ' : Names} (hle : Names.le φ φ') {a : AAct} {ca : Act} (h : ARel φ a ca) : ARel φ' a ca := ⟨h.1.mono hle, h.2.1, h.2.2.mono hle⟩

theorem ARel.put {φ : Names} {a a' : AAct} {ca : Act} (h : ARel φ a ca) {dst : Option Tmp} {v : AV} {cv : Value} (hv : VRel φ v cv) (hp : a.put dst v = some a') : ARel φ a' (ca.put dst cv) := by
  unfold AAct.put at hp
  cases dst with
  | none => cases hp; exact h
  | some d =>
    simp only at hp
    cases hb : Nat.blt d a.n with
    | false => simp [hb] at hp
    | true =>
      have hlt : d < a.n := Nat.le_of_ble_eq_true hb
      simp only [hb, cond_true, Option.some.injEq] at hp
      subst hp
      exact ⟨h.1.put hv (by rw [h.2.1]; exact hlt), by simp [Act.put, h.2.1], h.2.2⟩

/-- The package-level variables have their names. -/
def GRel (C : Cfg) (φ : Names) : Prop := ∀ g i, C.glob g = some i → ∃ s, φ i = some s ∧ s.blk = g ∧ s.base = 0
theorem GRel.mono {C : Cfg} {φ φ' : Names} (hle : Names.le φ φ') (h : GRel C φ) : GRel C φ' := fun g i hg => let ⟨s, h1, h2⟩ := h g i hg; ⟨s, hle _ _ h1, h2⟩

theorem evA_sound {C : Cfg} {φ : Names} {s : Slots} {ca : Act} (hs : SRel φ s ca.tmps) (hg : GRel C φ) {x : Operand} {a : AV} (h : evA C s x = some a) : VRel φ a (ca.eval x) := by
  cases x with
  | tmp t =>
    obtain ⟨v, h1, h2⟩ := hs t a h
    simp only [Act.eval, Array.getD_eq_getD_getElem?, h1]; exact h2
  | const v => exact ofValue_sound 8 v a h
  | global g =>
    simp only [evA, Option.map_eq_some_iff] at h
    obtain ⟨i, hi, rfl⟩ := h
    obtain ⟨sp, h1, h2, h3⟩ := hg g i hi
    have := VRel.ptr (o := 0) h1
    rw [h2, h3] at this
    exact this
  | func f =>
    simp only [evA, Option.some.injEq] at h
    subst h
    exact .func rfl rfl rfl (fun j a v h => by simp at h) (fun j a v h => by simp at h)

theorem evals {C : Cfg} {φ : Names} {s : Slots} {ca : Act} (hs : SRel φ s ca.tmps) (hg : GRel C φ) (xs : List Operand) : Evals φ (evA C s) ca.eval xs := fun _ _ _ h => evA_sound hs hg h

/-- What an operation reads of a frame. -/
def RRel (φ : Names) (ops : Array Oper) (o : Oper) (s : Slots) (tmps : Array Value) : Prop := ∀ d ∈ operTmps ops o, ∀ x, s.get d = some x → ∃ cv, tmps[d]? = some cv ∧ VRel φ x cv
theorem SRel.reads {φ : Names} {s : Slots} {tmps : Array Value} (h : SRel φ s tmps) (ops : Array Oper) (o : Oper) : RRel φ ops o s tmps := fun d _ x hx => h d x hx

theorem RRel.evals {C : Cfg} {φ : Names} {ops : Array Oper} {o : Oper} {s : Slots} {ca : Act} (hs : RRel φ ops o s ca.tmps) (hg : GRel C φ) : Evals φ (evA C s) ca.eval o.op.operands.toList := by
  intro x hx a h
  cases x with
  | tmp t =>
    obtain ⟨v, h1, h2⟩ := hs t (by
      unfold operTmps
      exact List.mem_append_left _ (List.mem_filterMap.2 ⟨.tmp t, hx, rfl⟩)) a h
    simp only [Act.eval, Array.getD_eq_getD_getElem?, h1]; exact h2
  | const v => exact ofValue_sound 8 v a h
  | global g =>
    simp only [evA, Option.map_eq_some_iff] at h
    obtain ⟨i, hi, rfl⟩ := h
    obtain ⟨sp, h1, h2, h3⟩ := hg g i hi
    have := VRel.ptr (o := 0) h1
    rw [h2, h3] at this
    exact this
  | func f =>
    simp only [evA, Option.some.injEq] at h
    subst h
    exact .func rfl rfl rfl (fun j a v h => by simp at h) (fun j a v h => by simp at h)

/-- A call has come back. -/
def EndOk (N : Nat) (φ : Names) (H : AHeap) (w : World) (v : AV) (H' : AHeap) : Ending → World → Prop
  | .returned cv, w' => ∃ φ', Gam N φ' H' w' ∧ Ext N φ φ' H H' w w' ∧ VRel φ' v cv
  | _, _ => False

def CallOk (P : Program) (N : Nat) (φ : Names) (H : AHeap) (w : World) (f : FuncId) (cargs : Array Value) (v : AV) (H' : AHeap) : Prop :=
  (∃ φ' w' cv, Gam N φ' H' w' ∧ Ext N φ φ' H H' w w' ∧ VRel φ' v cv ∧ (callFunc f cargs).run P w = .ok (.value cv) w') ∨
  ((callFunc f cargs).run P w = .ok (.enter f cargs) w ∧ CallsIn Fence.wide 0 P f cargs w (EndOk N φ H w v H'))

def RoundOk (P : Program) (N : Nat) (φ : Names) (H : AHeap) (w : World) (b : Nat) (cargs : Array Value) (v : AV) (H' : AHeap) : Prop :=
  ∃ fn tmps assign body, (Instr.yield b cargs).run P w = .ok (.round b fn tmps assign body) w ∧ RoundIn Fence.wide 0 P b fn tmps assign body w (EndOk N φ H w v H')

def AExit.out : AExit → Exit
  | .normal => .normal
  | .exit id => .exit id
  | .ret => .ret

/-- The frame is a function's, or a round's of that loop. -/
def Around (φ : Names) : Option Nat → Option Nat → Prop
  | none, none => True
  | some l, some b => ∃ s, φ l = some s ∧ s.blk = b
  | _, _ => False
theorem Around.mono {φ φ' : Names} (hle : Names.le φ φ') {x y : Option Nat} (h : Around φ x y) : Around φ' x y := by
  cases x <;> cases y <;> first | exact h | exact Exists.elim h fun s hs => ⟨s, hle _ _ hs.1, hs.2⟩

/-- Where a piece of code ends. -/
def Post (N : Nat) (φ : Names) (H : AHeap) (w : World) (x : AExit) (a' : AAct) (H' : AHeap) (e : Exit) (ca' : Act) (w' : World) : Prop :=
  e = x.out ∧ ∃ φ', Gam N φ' H' w' ∧ Ext N φ φ' H H' w w' ∧ ARel φ' a' ca'

def CodeOk (C : Cfg) (N : Nat) (around : Option Nat) (c : Code) (a : AAct) (H : AHeap) (x : AExit) (a' : AAct) (H' : AHeap) : Prop :=
  ∀ φ w ca ro, Gam N φ H w → GRel C φ → ARel φ a ca → Around φ around ro → c.wpIn (Wide ro) 0 C.P (Post N φ H w x a' H') ca w

/-- Code that stands in a loop, at the head of a round. -/
def loopIn (F : Fence) (n : Nat) (P : Program) (c : Code) (Q : Exit → Act → World → Prop) (a : Act) (w : World) : Prop :=
  ∀ (b : Frame) (k : List Item) (cs : List Frame), b.roundOf = F.round → F.fn b.fn → F.room (cs.length + 1 + n) →
    ∃ e a' w', Q e a' w' ∧ ArrivesIn (Machine.fenced P F) P (lone (b.atR a (.code c :: .inLoop c :: k)) cs w) b k cs e a' w'

def LoopOk (C : Cfg) (N : Nat) (around : Option Nat) (c : Code) (a : AAct) (H : AHeap) (x : AExit) (a' : AAct) (H' : AHeap) : Prop :=
  ∀ φ w ca ro, Gam N φ H w → GRel C φ → ARel φ a ca → Around φ around ro → loopIn (Wide ro) 0 C.P c (Post N φ H w x a' H') ca w

structure EngOk (C : Cfg) (N : Nat) (E : Eng) : Prop where
  call : ∀ f args H v H', E.call f args H = some (v, H') → ∀ φ w (cargs : Array Value), Gam N φ H w → GRel C φ → LRel φ args cargs.toList → CallOk C.P N φ H w f cargs v H'
  round : ∀ l args H v H', E.round l args H = some (v, H') → ∀ φ w (cargs : Array Value) sp, Gam N φ H w → GRel C φ → LRel φ args cargs.toList → φ l = some sp → RoundOk C.P N φ H w sp.blk cargs v H'
  loop : ∀ around c a H x a' H', E.loop around c a H = some (x, a', H') → LoopOk C N around c a H x a' H'

section
variable {N : Nat} {φ : Names} {H : AHeap} {w : World} {C : Cfg} {E : Eng}

theorem looks_notDefer {P : Program} {o : Oper} (h : looks P o = true) : ∀ c, o.op ≠ .defer c := by
  intro c hc
  unfold looks at h
  rw [hc] at h; cases h
theorem doA_notDefer {ev : Operand → Option AV} {o : Oper} {r : ANext × AHeap} (h : doA C ev o H = some r) : ∀ c, o.op ≠ .defer c := by
  intro c hc
  unfold doA at h
  rw [hc] at h; cases h

theorem stepA_sound (hE : EngOk C N E) (g : Gam N φ H w) (hg : GRel C φ) {s : Slots} {ca : Act} {o : Oper} (hρ : Evals φ (evA C s) ca.eval o.op.operands.toList) {v : AV} {H' : AHeap} (h : stepA C E o s H = some (v, H')) {ro : Option Nat}
    {next : Act → World → Prop} {Q : Exit → Act → World → Prop} (hn : ∀ φ' w' cv, Gam N φ' H' w' → Ext N φ φ' H H' w w' → VRel φ' v cv → next (ca.put o.dst cv) w') : o.wpIn (Wide ro) 0 C.P ca w next Q := by
  refine ⟨fun _ _ => trivial, ?_⟩
  unfold stepA at h
  cases hl : looks C.P o with
  | true =>
    simp only [hl, cond_true] at h
    split at h
    · rename_i v' hv
      cases h
      obtain ⟨cv, r1, r2⟩ := lookA_sound C g hρ hv hl
      rw [Oper.semAt_eq _ _ _ (looks_notDefer hl), r1]
      exact hn φ w cv g g.refl r2
    · cases h
  | false =>
    simp only [hl, cond_false] at h
    split at h
    · rename_i v' H1 hd
      cases h
      obtain ⟨φ', w', g', x', cv, r1, r2⟩ := doA_sound C g hρ hd hl
      rw [Oper.semAt_eq _ _ _ (doA_notDefer hd), r1]
      exact hn φ' w' cv g' x' r2
    · rename_i H1 hd
      cases h
      obtain ⟨φ', w', g', x', r1⟩ := doA_sound C g hρ hd hl
      rw [Oper.semAt_eq _ _ _ (doA_notDefer hd), r1]
      exact hn φ' w' undef g' x' (.tuple rfl fun j a v h => by simp at h)
    · rename_i f args H1 hd
      obtain ⟨φ', w', g', x', cargs, r1, r2⟩ := doA_sound C g hρ hd hl
      rw [Oper.semAt_eq _ _ _ (doA_notDefer hd), r2]
      rcases hE.call f args H1 v H' h φ' w' cargs g' (hg.mono x'.names) r1 with ⟨φ2, w2, cv, g2, x2, hv, hr⟩ | ⟨hr, hc⟩
      · rw [hr]
        exact hn φ2 w2 cv g2 (x'.trans g g' x2) hv
      · rw [hr]
        refine ⟨fun h => by simp [Wide, Fence.wide] at h, CallsIn.mono (CallsIn.ofWide hc) fun e w2 he => ?_⟩
        cases e with
        | returned cv =>
          obtain ⟨φ2, g2, x2, hv⟩ := he
          exact hn φ2 w2 cv g2 (x'.trans g g' x2) hv
        | panicked ch => exact he.elim
        | outgrown => exact he.elim
    · rename_i l args H1 hd
      obtain ⟨φ', w', g', x', cargs, sp, r1, hsp, r2⟩ := doA_sound C g hρ hd hl
      rw [Oper.semAt_eq _ _ _ (doA_notDefer hd), r2]
      obtain ⟨fn, tmps, assign, body, hr, hc⟩ := hE.round l args H1 v H' h φ' w' cargs sp g' (hg.mono x'.names) r1 hsp
      rw [hr]
      refine ⟨fun h => by simp [Wide, Fence.wide] at h, RoundIn.mono (RoundIn.ofWide hc) fun e w2 he => ?_⟩
      cases e with
      | returned cv =>
        obtain ⟨φ2, g2, x2, hv⟩ := he
        exact hn φ2 w2 cv g2 (x'.trans g g' x2) hv
      | panicked ch => exact he.elim
      | outgrown => exact he.elim
    · cases h

/-- The guard, as the machine tells it. -/
theorem wantedA_sound {ops : Array Oper} {s : Slots} {tmps : Array Value} {o : Oper} (hs : RRel φ ops o s tmps) {b : Bool} (h : wantedA ops s o = some b) : Region.wanted o (yielded ops tmps) = b := by
  unfold wantedA at h
  unfold Region.wanted
  cases hg : o.guard with
  | none => simp [hg] at h; simp [h]
  | some p =>
    obtain ⟨j, want⟩ := p
    simp only [hg] at h ⊢
    unfold yielded
    cases hd : (ops[j]?).bind (·.dst) with
    | none => simp [hd] at h; subst h; simp
    | some d =>
      simp only [hd] at h
      cases hv : s.get d with
      | none => simp [hv] at h
      | some a =>
        obtain ⟨cv, h1, h2⟩ := hs d (by
          unfold operTmps
          exact List.mem_append_right _ (by simp [hg, hd])) a hv
        simp only [hv] at h
        simp only [Option.bind_some, h1]
        cases h2 <;> simp at h <;> subst h <;> simp

theorem opA_sound (hE : EngOk C N E) (g : Gam N φ H w) (hg : GRel C φ) {a a' : AAct} {ca : Act} (ha : ARel φ a ca) {ops : Array Oper} {o : Oper} {H' : AHeap} (h : opA C E ops o a H = some (a', H')) {ro : Option Nat} {i : Nat} (hi : ops[i]? = some o)
    {K : Act → World → Prop} {Q : Exit → Act → World → Prop} (hn : ∀ φ' w' ca', Gam N φ' H' w' → Ext N φ φ' H H' w w' → ARel φ' a' ca' → K ca' w') : wpOpIn (Wide ro) 0 C.P ops Q i K ca w := by
  unfold wpOpIn
  simp only [hi]
  unfold opA at h
  split at h
  · rename_i hw
    rw [wantedA_sound (ha.1.reads ops o) hw]
    simp only [if_true]
    split at h
    · rename_i v H1 hst
      split at h
      · rename_i a1 hp
        cases h
        exact stepA_sound hE g hg ((ha.1.reads ops o).evals hg) hst fun φ' w' cv g' x' hv => hn φ' w' _ g' x' ((ha.mono x'.names).put hv hp)
      · cases h
    · cases h
  · rename_i hw
    rw [wantedA_sound (ha.1.reads ops o) hw]
    simp only [Bool.false_eq_true, if_false]
    split at h
    · rename_i a1 hp
      cases h
      exact ⟨fun _ _ => trivial, hn φ w _ g g.refl (ha.put (.tuple rfl fun j a v h => by simp at h) hp)⟩
    · cases h
  · cases h

theorem opsA_sound (hE : EngOk C N E) {ops : Array Oper} {ro : Option Nat} {Q : Exit → Act → World → Prop} : ∀ (rest : List Oper) (k : Nat) (φ : Names) (H : AHeap) (w : World) (a : AAct) (ca : Act) (a' : AAct) (H' : AHeap), ops.toList.drop k = rest →
    Gam N φ H w → GRel C φ → ARel φ a ca → opsA C E ops rest a H = some (a', H') → (∀ φ' w' ca', Gam N φ' H' w' → Ext N φ φ' H H' w w' → ARel φ' a' ca' → Q .normal ca' w') → wpOpsIn (Wide ro) 0 C.P ops Q (List.range' k rest.length) ca w
  | [], k, φ, H, w, a, ca, a', H', hd, g, hg, ha, h, hn => by
    simp [opsA] at h
    obtain ⟨rfl, rfl⟩ := h
    exact hn φ w ca g g.refl ha
  | o :: rest, k, φ, H, w, a, ca, a', H', hd, g, hg, ha, h, hn => by
    simp only [opsA] at h
    split at h
    case h_2 => cases h
    rename_i a1 H1 h1
    have hi : ops[k]? = some o := by
      rw [← Array.getElem?_toList]
      have : (ops.toList.drop k)[0]? = some o := by rw [hd]; rfl
      simpa using this
    have hd' : ops.toList.drop (k + 1) = rest := by
      have : (ops.toList.drop k).drop 1 = rest := by rw [hd]; rfl
      rw [List.drop_drop] at this
      exact this
    rw [List.length_cons, List.range'_succ, wpOpsIn_cons]
    refine opA_sound hE g hg ha h1 hi fun φ1 w1 ca1 g1 x1 ha1 => ?_
    exact opsA_sound hE rest (k + 1) φ1 H1 w1 a1 ca1 a' H' hd' g1 (hg.mono x1.names) ha1 h fun φ2 w2 ca2 g2 x2 ha2 => hn φ2 w2 ca2 g2 (x1.trans g g1 x2) ha2
end
end Go.Abs
