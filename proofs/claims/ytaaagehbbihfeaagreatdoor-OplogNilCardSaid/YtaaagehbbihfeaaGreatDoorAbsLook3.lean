/-
  What the abstract machine sees in operations that only look is what the model's operations give: all together.
  Conditions: none.
-/
import Derived.Test.YtaaagehbbihfeaaGreatDoorAbsLook2
import Derived.Test.YtaaagehbbihfeaaGreatDoorAbsExec
import Derived.Laws.Build
import Derived.Laws.BytesString
namespace Go.Abs

section
variable {P : Program} {N : Nat} {φ : Names} {H : AHeap} {w : World}

/-- What an operation's operands are. -/
def Evals (φ : Names) (ev : Operand → Option AV) (ρ : Operand → Value) (xs : List Operand) : Prop := ∀ x ∈ xs, ∀ a, ev x = some a → VRel φ a (ρ x)

theorem evAll_sound {ev : Operand → Option AV} {ρ : Operand → Value} : ∀ (xs : List Operand) (as : List AV), evAll ev xs = some as → Evals φ ev ρ xs → LRel φ as (xs.map ρ)
  | [], as, h, _ => by simp [evAll] at h; subst h; exact .nil _
  | x :: xs, as, h, hr => by
    simp only [evAll] at h
    split at h
    · rename_i a as' h1 h2
      cases h
      exact .cons (hr x (by simp) a h1) (evAll_sound xs as' h2 fun y hy => hr y (by simp [hy]))
    · cases h

theorem evOpt_sound {ev : Operand → Option AV} {ρ : Operand → Value} {x : Option Operand} {r : Option AV} (h : evOpt ev x = some r) (hr : Evals φ ev ρ x.toList) : ORelV φ r (x.map ρ) := by
  cases x with
  | none => simp [evOpt] at h; subst h; trivial
  | some x =>
    simp only [evOpt, Option.map_eq_some_iff] at h
    obtain ⟨a, ha, rfl⟩ := h
    exact hr x (by simp) a ha

theorem evParts_sound {ev : Operand → Option AV} {ρ : Operand → Value} : ∀ (xs : List (Nat × Operand)) (as : List (Nat × AV)), evParts ev xs = some as → Evals φ ev ρ (xs.map (·.2)) →
    as.map (·.1) = (xs.map fun (i, x) => (i, ρ x)).map (·.1) ∧ LRel φ (as.map (·.2)) ((xs.map fun (i, x) => (i, ρ x)).map (·.2))
  | [], as, h, _ => by simp [evParts] at h; subst h; exact ⟨rfl, .nil _⟩
  | (i, x) :: xs, as, h, hr => by
    simp only [evParts] at h
    split at h
    · rename_i a as' h1 h2
      cases h
      obtain ⟨q1, q2⟩ := evParts_sound xs as' h2 fun y hy => hr y (by simp at hy ⊢; exact .inr hy)
      exact ⟨by simp at q1 ⊢; exact q1, .cons (hr x (by simp) a h1) q2⟩
    · cases h

theorem buildA_sound {t : TypeId} {parts : List (Nat × AV)} {v : AV} (h : buildA P t parts = some v) {cparts : Array (Nat × Value)} (hp : parts.map (·.1) = cparts.toList.map (·.1)) (hv : LRel φ (parts.map (·.2)) (cparts.toList.map (·.2))) (w : World) :
    ∃ cv, (Instr.build t cparts).run P w = .ok cv w ∧ VRel φ v cv := by
  unfold buildA at h
  split at h
  · rename_i z fs hz hu
    obtain ⟨i, cz, hi, hiz, hrz⟩ := zeroOf_sound (φ := φ) hz
    split at h
    · rename_i places hpl
      simp only [Option.map_eq_some_iff] at h
      obtain ⟨cells, hf, rfl⟩ := h
      obtain ⟨cr, q1, q2⟩ := fillA_sound parts z.cells cz.cells cparts.toList cells hf hrz.cells hp hv
      refine ⟨.agg cr, run_build w t cparts cr ?_, .agg_of q2⟩
      have hpl' : fs.toList.mapM (fun f => (P.info? f.type).map fun i => (f.offset, i.size)) = some places := hpl
      simp only [Program.built, hi, hu, hiz, hpl']
      rw [← q1]
      congr 1
      funext j
      simp
    · cases h
  · rename_i z n e hz hu
    obtain ⟨i, cz, hi, hiz, hrz⟩ := zeroOf_sound (φ := φ) hz
    split at h
    · rename_i size hsz
      simp only [Option.map_eq_some_iff] at h
      obtain ⟨cells, hf, rfl⟩ := h
      obtain ⟨cr, q1, q2⟩ := fillA_sound parts z.cells cz.cells cparts.toList cells hf hrz.cells hp hv
      refine ⟨.agg cr, run_build w t cparts cr ?_, .agg_of q2⟩
      unfold cellsIn at hsz
      cases hie : P.info? e with
      | none => simp [hie] at hsz
      | some ie =>
        simp [hie] at hsz
        subst hsz
        simp only [Program.built, hi, hu, hiz, hie]
        exact q1
    · cases h
  · cases h

theorem natsOf_sound : ∀ (l : List AV) (s : List Nat) (cl : List Value), natsOf l = some s → LRel φ l cl → cl = (s.map Int.ofNat).map (Value.int .u8) ∧ ∀ n ∈ s, n < 256
  | [], s, cl, h, hr => by
    rw [hr.nil_inv]
    simp [natsOf] at h; subst h
    exact ⟨rfl, by simp⟩
  | a :: l, s, cl, h, hr => by
    obtain ⟨c, cl', rfl, h1, h2⟩ := hr.cons_inv
    unfold natsOf at h
    split at h
    · rename_i heq; cases heq
    · rename_i n rest heq
      cases heq
      cases h1
      cases hb : Nat.blt n 256 with
      | false => simp [hb] at h
      | true =>
        have hlt : n < 256 := by simpa [Nat.blt_eq] using hb
        simp only [hb, cond_true, Option.map_eq_some_iff] at h
        obtain ⟨s', hs', rfl⟩ := h
        obtain ⟨q1, q2⟩ := natsOf_sound l s' cl' hs' h2
        exact ⟨by rw [q1]; rfl, fun m hm => by rcases List.mem_cons.1 hm with rfl | hm; exact hlt; exact q2 m hm⟩
    · cases h

theorem push_bytes : ∀ (s : List Nat) (acc : ByteArray), (s.map Int.ofNat).foldl (fun (r : ByteArray) n => r.push (UInt8.ofNat n.toNat)) acc = acc ++ bytesOf s
  | [], acc => by
    apply ByteArray.ext
    simp [bytesOf, ByteArray.data_append]
  | n :: s, acc => by
    simp only [List.map_cons, List.foldl_cons]
    rw [push_bytes s]
    apply ByteArray.ext
    simp [bytesOf, ByteArray.data_append, ByteArray.data_push]

theorem convertLook_sound (g : Gam N φ H w) {src dst : TypeId} {x v : AV} {H' : AHeap} {cx : Value} (hx : VRel φ x cx) (h : convertA P src dst x H = some (v, H')) (hns : ∀ e, P.underlying dst ≠ some (.slice e)) :
    H' = H ∧ ∃ cv, (convert src dst cx).run P w = .ok cv w ∧ VRel φ v cv := by
  unfold convertA at h
  split at h
  · rename_i d k k' n hs hd
    cases hx; cases h
    refine ⟨rfl, .int k (k.wrap n), ?_, by rw [wrapA_eq]; exact .int _ _⟩
    simp only [convert, Sem.run_bind, run_underlying hs, run_underlying hd, Result.andThen_ok]
    cases d <;> rfl
  · rename_i d s hs hd
    cases hx with | str _ hlt =>
    cases h
    refine ⟨rfl, .string (bytesOf s), ?_, .str s hlt⟩
    simp only [convert, Sem.run_bind, run_underlying hs, run_underlying hd, Result.andThen_ok]
    cases d <;> rfl
  · rename_i d e s hs hd
    exact absurd hd (hns e)
  · rename_i e hne hs hd hnx
    split at h
    · rename_i he
      have hrun : ∀ cy, cx = cy → (∀ s, cy ≠ .string s) → (∀ k n, cy ≠ .int k n) → (convert src dst cy).run P w = (Conv.bytesToString cy).run P w := by
        rintro cy rfl hy hy2
        simp only [convert, Sem.run_bind, run_underlying hs, run_underlying hd, Result.andThen_ok]
        cases cx <;> first | (simp [run_underlying he]; done) | (exact absurd rfl (hy _)) | (rename_i k n; exact absurd rfl (hy2 k n))
      split at h
      · cases hx; cases h
        exact ⟨rfl, .string (bytesOf []), by rw [hrun _ rfl (by simp) (by simp)]; rfl, .str [] (by simp)⟩
      · cases hx with | emptySlice a cc =>
        cases h
        refine ⟨rfl, .string (bytesOf []), ?_, .str [] (by simp)⟩
        rw [hrun _ rfl (by simp) (by simp)]
        simp [Conv.bytesToString, loadCells, loadCellsFrom]
        rfl
      · rename_i i o len cap ex
        cases hx with | slice hi hl hc he' hr =>
        rename_i cc s
        split at h
        · rename_i c el fz z hrow
          simp only [Option.map_eq_some_iff, Option.bind_eq_some_iff] at h
          obtain ⟨t, ⟨cs, hcut, hn⟩, heq⟩ := h
          cases heq
          obtain ⟨carr, fl, fh, li⟩ := g.row hrow hi
          obtain ⟨vs, q1, q2, q3⟩ := li.cut (P := P) hcut
          obtain ⟨r1, r2⟩ := natsOf_sound cs t vs hn q2
          refine ⟨rfl, .string (bytesOf t), ?_, .str t r2⟩
          rw [hrun _ rfl (by simp) (by simp)]
          have he3 : (ByteArray.empty ++ bytesOf t) = bytesOf t := by
            apply ByteArray.ext
            simp [bytesOf]
          rw [run_bytesToString w _ len cc (t.map Int.ofNat) (by rw [q1, r1]), push_bytes, he3]
        · cases h
      · cases h
    · cases h
  · cases h

theorem binOp_eql (t : TypeId) (x y : Value) (h1 : ∀ k a k' b, x = .int k a → y = .int k' b → False) (h2 : ∀ a b, x = .string a → y = .string b → False)
    (h3 : ∀ k a k' b, x = .float k a → y = .float k' b → False) (h4 : ∀ k a b k' c d, x = .complex k a b → y = .complex k' c d → False) :
    binOp .eql t x y = (do pure (.bool (← Op.equal t x y))) := by
  cases x <;> cases y <;> first | rfl | (exact (h1 _ _ _ _ rfl rfl).elim) | (exact (h2 _ _ rfl rfl).elim) | (exact (h3 _ _ _ _ rfl rfl).elim) | (exact (h4 _ _ _ _ _ _ rfl rfl).elim)
theorem binOp_neq (t : TypeId) (x y : Value) (h1 : ∀ k a k' b, x = .int k a → y = .int k' b → False) (h2 : ∀ a b, x = .string a → y = .string b → False)
    (h3 : ∀ k a k' b, x = .float k a → y = .float k' b → False) (h4 : ∀ k a b k' c d, x = .complex k a b → y = .complex k' c d → False) :
    binOp .neq t x y = (do pure (.bool (!(← Op.equal t x y)))) := by
  cases x <;> cases y <;> first | rfl | (exact (h1 _ _ _ _ rfl rfl).elim) | (exact (h2 _ _ rfl rfl).elim) | (exact (h3 _ _ _ _ rfl rfl).elim) | (exact (h4 _ _ _ _ _ _ rfl rfl).elim)

theorem VRel.int_inv {φ : Names} {a : AV} {k : IntKind} {n : Int} (h : VRel φ a (.int k n)) (ho : a ≠ .opq) : a = .int k n := by cases h <;> first | rfl | exact absurd rfl ho
theorem VRel.string_inv {φ : Names} {a : AV} {s : ByteArray} (h : VRel φ a (.string s)) (ho : a ≠ .opq) : ∃ l, a = .str l := by cases h <;> first | exact ⟨_, rfl⟩ | exact absurd rfl ho
theorem VRel.not_float {φ : Names} {a : AV} {k : FloatKind} {n : Nat} (h : VRel φ a (.float k n)) (ho : a ≠ .opq) : False := by cases h; exact ho rfl
theorem VRel.not_complex {φ : Names} {a : AV} {k : FloatKind} {n m : Nat} (h : VRel φ a (.complex k n m)) (ho : a ≠ .opq) : False := by cases h; exact ho rfl
theorem VRel.nil_inv {φ : Names} {a : AV} (h : VRel φ a .nilIface) (ho : a ≠ .opq) : a = .nilIface := by cases h <;> first | rfl | exact absurd rfl ho
theorem VRel.aggv_inv {φ : Names} {a : AV} {u : Array Value} (h : VRel φ a (.agg u)) : ∃ l, a = .agg l := by
  cases h with
  | agg _ _ => exact ⟨_, rfl⟩
  | opq h => cases h

theorem equalA_known {P : Program} {H : AHeap} {f : Nat} {t : TypeId} {x y : AV} {r : Bool} (h : equalA P H f t x y = some r) : x ≠ .opq ∧ y ≠ .opq := by
  constructor
  · rintro rfl
    cases f with
    | zero => simp [equalA] at h
    | succ f =>
      unfold equalA at h
      split at h <;> first | contradiction | cases h
  · rintro rfl
    cases f with
    | zero => simp [equalA] at h
    | succ f =>
      unfold equalA at h
      split at h <;> first | contradiction | cases h

theorem eqGuard_plain {op : BinOp} {t : TypeId} {x y : Operand} {a b : Value} (h1 : a = .nilIface → b = .nilIface → False) (h2 : ∀ u v, a = .agg u → b = .agg v → False) (w : World) : (eqGuard op t x y a b).run P w = .ok () w := by
  unfold eqGuard
  cases op <;> simp only [Bool.not_true, Bool.not_false, Bool.false_eq_true, if_false, if_true, Sem.run_pure]
  all_goals (cases a <;> cases b <;> first | rfl | (exact (h1 rfl rfl).elim) | (exact (h2 _ _ rfl rfl).elim))
theorem eqGuard_other {op : BinOp} {t : TypeId} {x y : Operand} {a b : Value} (h1 : op ≠ .eql) (h2 : op ≠ .neq) (w : World) : (eqGuard op t x y a b).run P w = .ok () w := by
  unfold eqGuard
  cases op <;> first | rfl | (exact absurd rfl h1) | (exact absurd rfl h2)
theorem eqGuard_const {op : BinOp} {t : TypeId} {x y : Operand} (h : isConst x || isConst y) (w : World) : (eqGuard op t x y .nilIface .nilIface).run P w = .ok () w := by
  unfold eqGuard
  cases x <;> cases y <;> simp [isConst] at h <;> cases op <;> rfl
theorem eqGuard_aggs {op : BinOp} {t : TypeId} {x y : Operand} {u v : Array Value} (h : P.eqGuardType P.depth t = false) (w : World) : (eqGuard op t x y (.agg u) (.agg v)).run P w = .ok () w := run_eqGuard_agg w op t x y u v h

theorem equal_run (g : Gam N φ H w) {t : TypeId} {a b : AV} {ca cb : Value} (ha : VRel φ a ca) (hb : VRel φ b cb) {r : Bool} (h : equalA P H 12 t a b = some r) : (Op.equal t ca cb).run P w = .ok r w :=
  equalA_sound g 12 t a b r h ca cb ha hb Op.maxDepth (by simp [Op.maxDepth])

theorem binOpA_sound (g : Gam N φ H w) {op : BinOp} {t : TypeId} {x y : Operand} {a b v : AV} {ca cb : Value} (ha : VRel φ a ca) (hb : VRel φ b cb) (h : binOpA P H op t x y a b = some v) :
    ∃ cv, (do eqGuard op t x y ca cb; binOp op t ca cb).run P w = .ok cv w ∧ VRel φ v cv := by
  have go : (∀ w, (eqGuard op t x y ca cb).run P w = .ok () w) → (∃ cv, (binOp op t ca cb).run P w = .ok cv w ∧ VRel φ v cv) → ∃ cv, (do eqGuard op t x y ca cb; binOp op t ca cb).run P w = .ok cv w ∧ VRel φ v cv := by
    rintro hg ⟨cv, h1, h2⟩
    exact ⟨cv, by simp only [Sem.run_bind, hg, Result.andThen_ok, h1], h2⟩
  unfold binOpA at h
  split at h
  · cases ha; cases hb
    exact go (eqGuard_plain (by simp) (by simp)) (shiftA_sound w h (.inl rfl) t)
  · cases ha; cases hb
    exact go (eqGuard_plain (by simp) (by simp)) (shiftA_sound w h (.inr rfl) t)
  · rename_i k m k' n hn1 hn2
    cases ha; cases hb
    by_cases hk : k = k'
    · subst hk
      simp only [decide_true, cond_true] at h
      exact go (eqGuard_plain (by simp) (by simp)) (arithA_sound w h (by rintro rfl; simp at hn1) (by rintro rfl; simp at hn2) t)
    · simp [hk] at h
  · cases ha with | str _ h1 => cases hb with | str _ h2 =>
    exact go (eqGuard_plain (by simp) (by simp)) (strOpA_sound w h h1 h2 t)
  · cases ha; cases hb
    cases hc : (isConst x || isConst y) with
    | false => simp [hc] at h
    | true =>
      simp only [hc, cond_true, Option.map_eq_some_iff] at h
      obtain ⟨r, hr, rfl⟩ := h
      refine go (eqGuard_const hc) ⟨.bool r, ?_, .bool _⟩
      rw [binOp_eql _ _ _ (by simp) (by simp) (by simp) (by simp)]
      simp [equal_run g .nilIface .nilIface hr]
  · cases ha; cases hb
    cases hc : (isConst x || isConst y) with
    | false => simp [hc] at h
    | true =>
      simp only [hc, cond_true, Option.map_eq_some_iff] at h
      obtain ⟨r, hr, rfl⟩ := h
      refine go (eqGuard_const hc) ⟨.bool (!r), ?_, .bool _⟩
      rw [binOp_neq _ _ _ (by simp) (by simp) (by simp) (by simp)]
      simp [equal_run g .nilIface .nilIface hr]
  · have ha' := ha; have hb' := hb
    obtain ⟨u, rfl, _⟩ := ha.agg_inv
    obtain ⟨u', rfl, _⟩ := hb.agg_inv
    cases hc : P.eqGuardType P.depth t with
    | true => simp [hc] at h
    | false =>
      simp only [hc, cond_false, Option.map_eq_some_iff] at h
      obtain ⟨r, hr, rfl⟩ := h
      refine go (eqGuard_aggs hc) ⟨.bool r, ?_, .bool _⟩
      rw [binOp_eql _ _ _ (by simp) (by simp) (by simp) (by simp)]
      simp [equal_run g ha' hb' hr]
  · have ha' := ha; have hb' := hb
    obtain ⟨u, rfl, _⟩ := ha.agg_inv
    obtain ⟨u', rfl, _⟩ := hb.agg_inv
    cases hc : P.eqGuardType P.depth t with
    | true => simp [hc] at h
    | false =>
      simp only [hc, cond_false, Option.map_eq_some_iff] at h
      obtain ⟨r, hr, rfl⟩ := h
      refine go (eqGuard_aggs hc) ⟨.bool (!r), ?_, .bool _⟩
      rw [binOp_neq _ _ _ (by simp) (by simp) (by simp) (by simp)]
      simp [equal_run g ha' hb' hr]
  · rename_i n1 n2 n3 n4
    simp only [Option.map_eq_some_iff] at h
    obtain ⟨r, hr, rfl⟩ := h
    obtain ⟨ka, kb⟩ := equalA_known hr
    refine go (eqGuard_plain ?_ ?_) ⟨.bool r, ?_, .bool _⟩
    · rintro rfl rfl; exact n3 (ha.nil_inv ka) (hb.nil_inv kb)
    · rintro u u' rfl rfl
      obtain ⟨l, hl⟩ := ha.aggv_inv; obtain ⟨l', hl'⟩ := hb.aggv_inv; exact n4 _ _ hl hl'
    · rw [binOp_eql _ _ _ ?_ ?_ ?_ ?_]
      · simp [equal_run g ha hb hr]
      · rintro k a' k' b' rfl rfl; exact n1 _ _ _ _ (ha.int_inv ka) (hb.int_inv kb)
      · rintro a' b' rfl rfl; obtain ⟨l, hl⟩ := ha.string_inv ka; obtain ⟨l', hl'⟩ := hb.string_inv kb; exact n2 _ _ hl hl'
      · rintro k a' k' b' rfl rfl; exact ha.not_float ka
      · rintro k a' b' k' c d rfl rfl; exact ha.not_complex ka
  · rename_i n1 n2 n3 n4
    simp only [Option.map_eq_some_iff] at h
    obtain ⟨r, hr, rfl⟩ := h
    obtain ⟨ka, kb⟩ := equalA_known hr
    refine go (eqGuard_plain ?_ ?_) ⟨.bool (!r), ?_, .bool _⟩
    · rintro rfl rfl; exact n3 (ha.nil_inv ka) (hb.nil_inv kb)
    · rintro u u' rfl rfl
      obtain ⟨l, hl⟩ := ha.aggv_inv; obtain ⟨l', hl'⟩ := hb.aggv_inv; exact n4 _ _ hl hl'
    · rw [binOp_neq _ _ _ ?_ ?_ ?_ ?_]
      · simp [equal_run g ha hb hr]
      · rintro k a' k' b' rfl rfl; exact n1 _ _ _ _ (ha.int_inv ka) (hb.int_inv kb)
      · rintro a' b' rfl rfl; obtain ⟨l, hl⟩ := ha.string_inv ka; obtain ⟨l', hl'⟩ := hb.string_inv kb; exact n2 _ _ hl hl'
      · rintro k a' k' b' rfl rfl; exact ha.not_float ka
      · rintro k a' b' k' c d rfl rfl; exact ha.not_complex ka
  · cases h
end
end Go.Abs
