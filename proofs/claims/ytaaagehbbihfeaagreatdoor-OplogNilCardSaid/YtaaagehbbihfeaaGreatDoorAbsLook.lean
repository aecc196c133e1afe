/-
  What the abstract machine sees in operations that only look is what the model's operations give.
  Conditions: none.
-/
import Derived.Test.YtaaagehbbihfeaaGreatDoorAbsEq
import Derived.Laws.Tables
namespace Go.Abs

section
variable {P : Program} {N : Nat} {φ : Names} {H : AHeap} {w : World}

theorem zeroOf_sound {t : TypeId} {z : AV} (h : zeroOf P t = some z) : ∃ i cz, P.info? t = some i ∧ i.zero = some cz ∧ VRel φ z cz := by
  unfold zeroOf at h
  cases hi : P.info? t with
  | none => simp [hi] at h
  | some i =>
    cases hz : i.zero with
    | none => simp [hi, hz] at h
    | some cz =>
      simp [hi, hz] at h
      exact ⟨i, cz, rfl, hz, ofValue_sound _ _ _ h⟩
theorem zeroValue_sound {t : TypeId} {z : AV} (h : zeroOf P t = some z) (w : World) : ∃ cz, (zeroValue t).run P w = .ok cz w ∧ VRel φ z cz := by
  obtain ⟨i, cz, hi, hz, hr⟩ := zeroOf_sound (φ := φ) h
  exact ⟨cz, by simp [zeroValue, typeInfo, hi, hz], hr⟩

theorem oneCell_cells {v : Value} (h : v.oneCell' = true) : v.cells = #[v] := by cases v <;> first | rfl | cases h

theorem VRel.cells {a : AV} {v : Value} (h : VRel φ a v) : LRel φ a.cells v.cells.toList := by
  cases a with
  | agg cs => obtain ⟨vs, rfl, hr⟩ := h.agg_inv; exact hr
  | _ =>
    have hv : v.cells = #[v] := by cases h <;> first | rfl | exact oneCell_cells (by assumption)
    rw [hv]
    exact .cons h (.nil _)

/-! ### Slices -/
theorem boundA_sound {x : AV} {y m : Nat} (h : boundA x y = some m) {cv : Value} (hr : VRel φ x cv) : m ≤ y ∧ ∃ k, cv = .int k m := by
  unfold boundA at h
  split at h
  · rename_i k n
    cases hb : Nat.ble n y with
    | false => simp [hb] at h
    | true =>
      simp only [hb, cond_true, Option.some.injEq] at h
      subst h
      cases hr
      exact ⟨Nat.le_of_ble_eq_true hb, k, rfl⟩
  · cases h

theorem run_sliceBound (k : IntKind) {m y : Nat} (h : m ≤ y) (c : BoundsCode) (w : World) : (Instr.sliceBound (.int k m) y c).run P w = .ok m w := by
  simp [Instr.sliceBound, asIntOf, h]

/-- An operand that may be missing. -/
def ORelV (φ : Names) : Option AV → Option Value → Prop
  | none, none => True
  | some a, some v => VRel φ a v
  | _, _ => False

theorem run_bounds {lo hi : Option AV} {clo chi : Option Value} (hlo : ORelV φ lo clo) (hhi : ORelV φ hi chi) {len cap cc l h : Nat} (hc : cap ≤ cc) (h1 : boundOr hi cap len = some h) (h2 : boundOr lo h 0 = some l) (b : Bool) (w : World) :
    (Instr.sliceBounds b len cc clo chi none).run P w = .ok (l, h, cc) w := by
  have e1 : ∀ c, (match chi with | some v => Instr.sliceBound v cc c | none => pure len).run P w = .ok h w := by
    intro c
    cases hi with
    | none => cases chi with
      | none => simp [boundOr] at h1; subst h1; rfl
      | some v => exact hhi.elim
    | some a => cases chi with
      | none => exact hhi.elim
      | some v =>
        obtain ⟨hm, k, rfl⟩ := boundA_sound h1 hhi
        exact run_sliceBound k (Nat.le_trans hm hc) c w
  have e2 : ∀ c, (match clo with | some v => Instr.sliceBound v h c | none => pure 0).run P w = .ok l w := by
    intro c
    cases lo with
    | none => cases clo with
      | none => simp [boundOr] at h2; subst h2; rfl
      | some v => exact hlo.elim
    | some a => cases clo with
      | none => exact hlo.elim
      | some v =>
        obtain ⟨hm, k, rfl⟩ := boundA_sound h2 hlo
        exact run_sliceBound k hm c w
  unfold Instr.sliceBounds
  cases chi with
  | none =>
    have e1' := e1 .index
    simp only [Sem.run_pure, Result.ok.injEq, and_true] at e1'
    subst e1'
    cases clo with
    | none => have e2' := e2 .index; simp only [Sem.run_pure, Result.ok.injEq, and_true] at e2'; subst e2'; rfl
    | some v => simp only [Sem.run_bind, Sem.run_pure, Result.andThen_ok, Option.isSome_none, Bool.false_eq_true, if_false]; rw [e2 .sliceB]; rfl
  | some u =>
    cases clo with
    | none => have e2' := e2 .index; simp only [Sem.run_pure, Result.ok.injEq, and_true] at e2'; subst e2'
              simp only [Sem.run_bind, Sem.run_pure, Result.andThen_ok]; rw [e1]; rfl
    | some v => simp only [Sem.run_bind, Sem.run_pure, Result.andThen_ok, Option.isSome_none, Bool.false_eq_true, if_false]; rw [e1]; simp only [Result.andThen_ok]; rw [e2 .sliceB]; rfl

theorem bound_le {hi : Option AV} {cap len h : Nat} (hlen : len ≤ cap) (h1 : boundOr hi cap len = some h) : h ≤ cap := by
  cases hi with
  | none => simp [boundOr] at h1; omega
  | some a =>
    simp only [boundOr] at h1
    unfold boundA at h1
    split at h1
    · rename_i k n
      cases hb : Nat.ble n cap with
      | false => simp [hb] at h1
      | true => simp only [hb, cond_true, Option.some.injEq] at h1; subst h1; exact Nat.le_of_ble_eq_true hb
    · cases h1

theorem bytesOf_extract (s : List Nat) (l h : Nat) : (bytesOf s).extract l h = bytesOf ((s.take h).drop l) := by
  apply ByteArray.ext
  simp only [ByteArray.data_extract, bytesOf]
  simp [List.extract_eq_take_drop, List.map_drop, List.map_take, List.drop_take]

theorem run_sliceAt {t e : TypeId} (hu : P.underlying t = some (.slice e)) {size : Nat} (hsz : cellsIn P e = some size) {a : Option Addr} {len cc l h m : Nat} {clo chi cmx : Option Value}
    (hb : (Instr.sliceBounds true len cc clo chi cmx).run P w = .ok (l, h, m) w) :
    (Instr.sliceAt t (.slice a len cc) clo chi cmx).run P w = .ok (.slice (if m = l then a else a.map (·.add (l * size))) (h - l) (m - l)) w := by
  simp [Instr.sliceAt, run_underlying hu, Instr.slice, hb, run_sizeOf hsz]

theorem run_sliceAt_arr {t e : TypeId} {n : Nat} (hu : P.underlying t = some (.array n e)) {size : Nat} (hsz : cellsIn P e = some size) {a : Addr} {l h m : Nat} {clo chi cmx : Option Value}
    (hb : (Instr.sliceBounds false n n clo chi cmx).run P w = .ok (l, h, m) w) :
    (Instr.sliceAt t (.pointer (some a)) clo chi cmx).run P w = .ok (.slice (some (if m = l then a else a.add (l * size))) (h - l) (m - l)) w := by
  simp [Instr.sliceAt, run_underlying hu, Instr.sureAddr, hb, run_sizeOf hsz]

theorem sliceA_sound (g : Gam N φ H w) {t : TypeId} {x v : AV} {lo hi mx : Option AV} {cx : Value} {clo chi cmx : Option Value} (hx : VRel φ x cx) (hlo : ORelV φ lo clo) (hhi : ORelV φ hi chi) (hmx : ORelV φ mx cmx)
    (h : sliceA P H t x lo hi mx = some v) : ∃ cv, (Instr.sliceAt t cx clo chi cmx).run P w = .ok cv w ∧ VRel φ v cv := by
  have nomax : mx = none → cmx = none := fun e => by subst e; cases cmx with | none => rfl | some _ => exact hmx.elim
  unfold sliceA at h
  split at h
  · -- a text
    rename_i s hu
    cases hx with | str _ hs =>
    split at h
    · cases h
    · have := nomax rfl; subst this
      simp only [Option.bind_eq_some_iff, Option.map_eq_some_iff] at h
      obtain ⟨hh, h1, ll, h2, rfl⟩ := h
      have hb := run_bounds (P := P) hlo hhi (Nat.le_refl _) h1 h2 false w
      refine ⟨_, ?_, .str ((s.take hh).drop ll) fun n hn => hs n (List.mem_of_mem_take (List.mem_of_mem_drop hn))⟩
      simp only [Instr.sliceAt, Sem.run_bind, run_underlying hu, Result.andThen_ok, Instr.slice, Option.isSome_none, Bool.false_eq_true, if_false, bytesOf_size, hb, Sem.run_pure]
      rw [bytesOf_extract]
  · -- a nil slice
    rename_i e hu
    cases hx
    simp only [Option.bind_eq_some_iff] at h
    obtain ⟨sz, hsz, h⟩ := h
    split at h
    · cases h
    · have := nomax rfl; subst this
      simp only [Option.bind_eq_some_iff, Option.map_eq_some_iff] at h
      obtain ⟨hh, h1, ll, h2, rfl⟩ := h
      have hb := run_bounds (P := P) hlo hhi (Nat.le_refl _) h1 h2 true w
      have hh0 : hh = 0 := by have := bound_le (Nat.le_refl _) h1; omega
      subst hh0
      have hl0 : ll = 0 := by have := bound_le (Nat.le_refl _) h2; omega
      subst hl0
      exact ⟨.slice none 0 0, by simp [Instr.sliceAt, run_underlying hu, Instr.slice, hb, run_sizeOf hsz], .nilSlice⟩
  · -- an empty slice
    rename_i e hu
    cases hx with | emptySlice a cc =>
    simp only [Option.bind_eq_some_iff] at h
    obtain ⟨sz, hsz, h⟩ := h
    split at h
    · cases h
    · have := nomax rfl; subst this
      simp only [Option.bind_eq_some_iff, Option.map_eq_some_iff] at h
      obtain ⟨hh, h1, ll, h2, rfl⟩ := h
      have hb := run_bounds (P := P) (cc := cc) hlo hhi (Nat.zero_le _) h1 h2 true w
      have hh0 : hh = 0 := by have := bound_le (Nat.le_refl _) h1; omega
      subst hh0
      have hl0 : ll = 0 := by have := bound_le (Nat.le_refl _) h2; omega
      subst hl0
      by_cases hcc : cc = 0
      · exact ⟨_, (run_sliceAt hu hsz hb).trans (by rw [if_pos hcc]), .emptySlice a _⟩
      · exact ⟨_, (run_sliceAt hu hsz hb).trans (by rw [if_neg hcc]; rfl), .emptySlice (a.add (0 * sz)) _⟩
  · -- a slice
    rename_i e i o len cap exact hu
    cases hx with | slice hi' hl hc he hr =>
    rename_i cc s
    split at h
    · cases h
    · rename_i size hsz
      split at h
      · -- with a third bound
        rename_i mv
        obtain ⟨cm, rfl, hcm⟩ : ∃ cm, cmx = some cm ∧ VRel φ mv cm := by
          cases cmx with
          | none => exact hmx.elim
          | some cm => exact ⟨cm, rfl, hmx⟩
        simp only [Option.bind_eq_some_iff, Option.map_eq_some_iff] at h
        obtain ⟨m, h0, hh, ⟨hv, rfl, h1⟩, ll, h2, rfl⟩ := h
        obtain ⟨hm, km, rfl⟩ := boundA_sound h0 hcm
        obtain ⟨ch, rfl, hch⟩ : ∃ ch, chi = some ch ∧ VRel φ hv ch := by
          cases chi with
          | none => exact hhi.elim
          | some cm => exact ⟨cm, rfl, hhi⟩
        obtain ⟨hhm, kh, rfl⟩ := boundA_sound h1 hch
        have hl2 : ll ≤ hh := by
          cases lo with
          | none => simp [boundOr] at h2; omega
          | some a => exact bound_le (Nat.zero_le _) h2
        have hb : (Instr.sliceBounds true len cc clo (some (.int kh hh)) (some (.int km m))).run P w = .ok (ll, hh, m) w := by
          unfold Instr.sliceBounds
          simp only [Sem.run_bind, run_sliceBound km (Nat.le_trans hm hc), run_sliceBound kh hhm, Result.andThen_ok, if_true, Option.isSome_some]
          cases lo with
          | none => cases clo with
            | none => simp [boundOr] at h2; subst h2; rfl
            | some v => exact hlo.elim
          | some a => cases clo with
            | none => exact hlo.elim
            | some v =>
              obtain ⟨hll, k, rfl⟩ := boundA_sound h2 hlo
              simp only [Sem.run_bind, run_sliceBound k hll, Result.andThen_ok, Sem.run_pure]
        cases hml : Nat.beq m ll with
        | true =>
          have e1 := Nat.eq_of_beq_eq_true hml
          refine ⟨.slice (some ⟨s.blk, s.base + o, none⟩) (hh - ll) (m - ll), (run_sliceAt hu hsz hb).trans (by rw [if_pos e1]), ?_⟩
          simp only [cond_true]
          exact .slice hi' (by omega) (Nat.le_refl _) (fun _ => rfl) (fun h => by cases h)
        | false =>
          have e1 : ¬ m = ll := Nat.ne_of_beq_eq_false hml
          refine ⟨.slice (some ⟨s.blk, s.base + (o + ll * size), none⟩) (hh - ll) (m - ll), (run_sliceAt hu hsz hb).trans (by rw [if_neg e1]; simp [addr_add, Nat.add_assoc]), ?_⟩
          simp only [cond_false]
          exact .slice hi' (by omega) (Nat.le_refl _) (fun _ => rfl) (fun h => by cases h)
      · have := nomax rfl; subst this
        have hok : (exact || eszIs H i size) = true := by
          cases hx : (exact || eszIs H i size) with
          | true => rfl
          | false => rw [hx] at h; simp at h
        rw [hok] at h
        simp only [Bool.not_true, cond_false, Option.bind_eq_some_iff, Option.map_eq_some_iff] at h
        obtain ⟨hh, h1, ll, h2, rfl⟩ := h
        have hb := run_bounds (P := P) (cc := cc) hlo hhi hc h1 h2 true w
        have hhc := bound_le hl h1
        have hl2 : ll ≤ hh := bound_le (Nat.zero_le _) h2
        cases hcl : Nat.beq cap ll with
        | true =>
          have e1 := Nat.eq_of_beq_eq_true hcl
          cases exact with
          | true =>
            have hcc := he rfl
            refine ⟨.slice (some ⟨s.blk, s.base + o, none⟩) (hh - ll) (cc - ll), (run_sliceAt hu hsz hb).trans (by rw [if_pos (hcc.trans e1)]), ?_⟩
            simp only [cond_true]
            exact .slice hi' (by omega) (by omega) (fun _ => by omega) (fun h => by cases h)
          | false =>
            simp only [cond_true, cond_false]
            cases hl0 : Nat.beq ll 0 with
            | true =>
              have e2 := Nat.eq_of_beq_eq_true hl0
              subst e2
              refine ⟨.slice (some ⟨s.blk, s.base + o, none⟩) hh cc, (run_sliceAt hu hsz hb).trans (by simp [addr_add]), ?_⟩
              simp only [cond_true]
              exact .slice hi' (by omega) hc (fun h => by cases h) hr
            | false =>
              have : hh - ll = 0 := by omega
              simp only [cond_false]
              have hrun := run_sliceAt (a := some ⟨s.blk, s.base + o, none⟩) hu hsz hb
              rw [this] at hrun
              by_cases hcl2 : cc = ll
              · exact ⟨_, hrun.trans (by rw [if_pos hcl2]), .emptySlice _ _⟩
              · exact ⟨_, hrun.trans (by rw [if_neg hcl2]; rfl), .emptySlice (Addr.add ⟨s.blk, s.base + o, none⟩ (ll * size)) _⟩
        | false =>
          have e1 : ¬ cap = ll := Nat.ne_of_beq_eq_false hcl
          have e2 : ¬ cc = ll := by omega
          refine ⟨.slice (some ⟨s.blk, s.base + (o + ll * size), none⟩) (hh - ll) (cc - ll), (run_sliceAt hu hsz hb).trans (by rw [if_neg e2]; simp [addr_add, Nat.add_assoc]), ?_⟩
          simp only [cond_false]
          refine .slice hi' (by omega) (by omega) (fun h => by have := he h; omega) (fun h => ?_)
          subst h
          have hsz2 : s.esz = size := by
            unfold eszIs at hok
            cases hr2 : H.row i with
            | none => simp [hr2] at hok
            | some r =>
              obtain ⟨c1, f1, f2, li⟩ := g.row hr2 hi'
              simp [hr2] at hok
              rw [li.esz]; exact hok
          have h3 := hr rfl
          rw [hsz2] at h3 ⊢
          have h4 : ll * size + (cc - ll) * size = cc * size := by rw [← Nat.add_mul]; congr 1; omega
          omega
  · -- an array behind a pointer
    rename_i n e i o hu
    cases hx with | ptr hi' =>
    rename_i s
    split at h
    · cases h
    · rename_i size hsz
      split at h
      · cases h
      · have := nomax rfl; subst this
        simp only [Option.bind_eq_some_iff, Option.map_eq_some_iff] at h
        obtain ⟨hh, h1, ll, h2, rfl⟩ := h
        have hb := run_bounds (P := P) hlo hhi (Nat.le_refl n) h1 h2 false w
        have hhc := bound_le (Nat.le_refl n) h1
        have hl2 : ll ≤ hh := bound_le (Nat.zero_le _) h2
        cases hml : Nat.beq n ll with
        | true =>
          have e1 := Nat.eq_of_beq_eq_true hml
          refine ⟨.slice (some ⟨s.blk, s.base + o, none⟩) (hh - ll) (n - ll), (run_sliceAt_arr hu hsz hb).trans (by rw [if_pos e1]), ?_⟩
          simp only [cond_true]
          exact .slice hi' (by omega) (Nat.le_refl _) (fun _ => rfl) (fun h => by cases h)
        | false =>
          have e1 : ¬ n = ll := Nat.ne_of_beq_eq_false hml
          refine ⟨.slice (some ⟨s.blk, s.base + (o + ll * size), none⟩) (hh - ll) (n - ll), (run_sliceAt_arr hu hsz hb).trans (by rw [if_neg e1, addr_add, Nat.add_assoc]), ?_⟩
          simp only [cond_false]
          exact .slice hi' (by omega) (Nat.le_refl _) (fun _ => rfl) (fun h => by cases h)
  · cases h
end
end Go.Abs
