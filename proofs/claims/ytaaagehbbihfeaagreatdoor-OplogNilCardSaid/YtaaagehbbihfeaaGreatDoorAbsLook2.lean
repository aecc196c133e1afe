/-
  What the abstract machine sees in operations that only look is what the model's operations give: the rest, and all together.
  Conditions: none.
-/
import Derived.Test.YtaaagehbbihfeaaGreatDoorAbsLook
namespace Go.Abs

section
variable {P : Program} {N : Nat} {φ : Names} {H : AHeap} {w : World}

theorem fieldAddrA_sound {s : TypeId} {x v : AV} {f : Nat} {cx : Value} (hx : VRel φ x cx) (h : fieldAddrA P s x f = some v) : ∃ cv, (Instr.fieldAt s cx f).run P w = .ok cv w ∧ VRel φ v cv := by
  unfold fieldAddrA at h
  split at h
  · rename_i fs i o hu
    cases hx with | ptr hi =>
    split at h
    · rename_i fd hf
      split at h
      · rename_i m hc
        cases h
        refine ⟨_, ?_, .ptr hi⟩
        simp [Instr.fieldAt, run_underlying hu, hf, Instr.sureAddr, fieldPlace, run_sizeOf hc, addr_add, Nat.add_assoc]
      · cases h
    · cases h
  · cases h

theorem fieldA_sound {t : TypeId} {x v : AV} {f : Nat} {cx : Value} (hx : VRel φ x cx) (h : fieldA P t x f = some v) : ∃ cv, (Instr.field t cx f).run P w = .ok cv w ∧ VRel φ v cv := by
  unfold fieldA at h
  split at h
  · rename_i fs cs hu
    obtain ⟨vs, rfl, hr⟩ := hx.agg_inv
    split at h
    · rename_i fd hf
      obtain ⟨v', h1, h2⟩ := partA_sound (P := P) h hr w
      exact ⟨v', by simp [Instr.field, run_underlying hu, hf, asAgg, h1], h2⟩
    · cases h
  · cases h

theorem indexAddrA_sound {t : TypeId} {x ix v : AV} {cx ci : Value} (hx : VRel φ x cx) (hi : VRel φ ix ci) (h : indexAddrA P t x ix = some v) : ∃ cv, (Instr.indexAt t cx ci).run P w = .ok cv w ∧ VRel φ v cv := by
  unfold indexAddrA at h
  split at h
  · rename_i n e i o kk k hu
    cases hx with | ptr hp =>
    cases hi
    split at h
    · rename_i size hsz
      cases hb : Nat.blt k n with
      | false => simp [hb] at h
      | true =>
        have hlt : k < n := by simpa [Nat.blt_eq] using hb
        simp only [hb, cond_true, Option.some.injEq] at h
        subst h
        refine ⟨_, ?_, .ptr hp⟩
        simp [Instr.indexAt, asIntOf, run_underlying hu, Instr.sureAddr, hlt, run_sizeOf hsz, addr_add, Nat.add_assoc]
    · cases h
  · rename_i e i o len cap ex kk k hu
    cases hx with | slice hp hl hc he hr =>
    cases hi
    split at h
    · rename_i size hsz
      cases hb : Nat.blt k len with
      | false => simp [hb] at h
      | true =>
        have hlt : k < len := by simpa [Nat.blt_eq] using hb
        simp only [hb, cond_true, Option.some.injEq] at h
        subst h
        refine ⟨_, ?_, .ptr hp⟩
        simp [Instr.indexAt, asIntOf, run_underlying hu, hlt, run_sizeOf hsz, addr_add, Nat.add_assoc]
    · cases h
  · cases h

theorem indexA_sound {t : TypeId} {x ix v : AV} {cx ci : Value} (hx : VRel φ x cx) (hi : VRel φ ix ci) (h : indexA P t x ix = some v) : ∃ cv, (Instr.index t cx ci).run P w = .ok cv w ∧ VRel φ v cv := by
  unfold indexA at h
  split at h
  · rename_i n e cs kk k hu
    obtain ⟨vs, rfl, hr⟩ := hx.agg_inv
    cases hi
    split at h
    · rename_i size hsz
      cases hb : Nat.blt k n with
      | false => simp [hb] at h
      | true =>
        have hlt : k < n := by simpa [Nat.blt_eq] using hb
        simp only [hb, cond_true] at h
        obtain ⟨v', h1, h2⟩ := partA_sound (P := P) h hr w
        exact ⟨v', by simp [Instr.index, asIntOf, run_underlying hu, hlt, run_sizeOf hsz, h1], h2⟩
    · cases h
  · rename_i s kk k hu
    cases hx with | str _ hs =>
    cases hi
    simp only [Option.map_eq_some_iff] at h
    obtain ⟨b, hb, rfl⟩ := h
    have hk : k < s.length := by
      rcases Nat.lt_or_ge k s.length with h | h
      · exact h
      · rw [List.getElem?_eq_none h] at hb; cases hb
    have hbv : s[k] = b := by rw [List.getElem?_eq_getElem hk] at hb; exact Option.some.inj hb
    have hlt : b < 256 := hs b (by rw [← hbv]; exact List.getElem_mem hk)
    have hget : (bytesOf s)[k]? = some (UInt8.ofNat b) := by
      have : k < (bytesOf s).size := by rw [bytesOf_size]; exact hk
      rw [getElem?_pos _ k this]
      congr 1
      show (bytesOf s).data[k] = _
      simp [bytesOf, hbv]
    refine ⟨.int .u8 (.ofNat b), ?_, .int _ _⟩
    have h0 : (Int.ofNat k).toNat = k := rfl
    have h1 : (0 : Int) ≤ Int.ofNat k := by simp
    simp only [Instr.index, asIntOf, Sem.run_bind, Sem.run_pure, Result.andThen_ok, run_underlying hu, h1, if_true, h0, hget]
    rw [toNat_ofNat_of_lt hlt]
    rfl
  · cases h

theorem lookupA_sound (g : Gam N φ H w) {t : TypeId} {m k v : AV} {ok : Bool} {cm ck : Value} (hm : VRel φ m cm) (hk : VRel φ k ck) (h : lookupA P t m k ok H = some v) : ∃ cv, (Instr.lookup t cm ck ok).run P w = .ok cv w ∧ VRel φ v cv := by
  unfold lookupA at h
  split at h
  · rename_i kt e hu
    cases hpk : plainKey P 8 kt k with
    | false => simp [hpk] at h
    | true =>
      simp only [hpk, Bool.not_true, cond_false] at h
      have hck : ∀ em, (Instr.checkKey em 10000 kt ck).run P w = .ok () w := fun em => plainKey_check 8 kt k hpk ck hk em 10000 (by omega) w
      obtain ⟨d, hd⟩ : ∃ d, P.underlying kt = some d := by
        unfold plainKey at hpk
        cases hd : P.underlying kt with
        | none => simp [hd] at hpk
        | some d => exact ⟨d, rfl⟩
      have out : ∀ (a : AV) (ca : Value) (b : Bool), VRel φ a ca → VRel φ (bif ok then .tuple [a, .bool b] else a) (if ok = true then .tuple #[ca, .bool b] else ca) := by
        intro a ca b ha
        cases ok with
        | true => exact .tuple_of (.cons ha (.cons (.bool b) (.nil _)))
        | false => exact ha
      split at h
      · cases hm
        simp only [Option.map_eq_some_iff] at h
        obtain ⟨z, hz, rfl⟩ := h
        obtain ⟨cz, hcz, hrz⟩ := zeroValue_sound (φ := φ) hz w
        refine ⟨_, ?_, out z cz false hrz⟩
        have hfk : (Instr.findKey kt ck []).run P w = .ok none w := by simp [Instr.findKey, run_underlying hd, Instr.findNow]
        cases ok <;> simp [Instr.lookup, run_underlying hu, hck, hfk, hcz]
      · rename_i i
        cases hm with | map hi =>
        rename_i s
        split at h
        · rename_i es clock hmap
          obtain ⟨ces, hat, her, _⟩ := g.map hmap hi
          have hobj : (getObj s.blk).run P w = .ok (.map ces clock) w := by simp [getObj, Sem.run, hat]
          split at h
          · rename_i j x hf
            cases h
            obtain ⟨cr, hrun, hrel⟩ := findKey_sound g hd hk hf her
            obtain ⟨cv, rfl, hv, _⟩ := hrel
            refine ⟨_, ?_, out x cv true hv⟩
            cases ok <;> simp [Instr.lookup, run_underlying hu, hobj, hck, hrun]
          · rename_i hf
            simp only [Option.map_eq_some_iff] at h
            obtain ⟨z, hz, rfl⟩ := h
            obtain ⟨cz, hcz, hrz⟩ := zeroValue_sound (φ := φ) hz w
            obtain ⟨cr, hrun, hrel⟩ := findKey_sound g hd hk hf her
            have hrel : cr = none := hrel
            subst hrel
            refine ⟨_, ?_, out z cz false hrz⟩
            cases ok <;> simp [Instr.lookup, run_underlying hu, hobj, hck, hrun, hcz]
          · cases h
        · cases h
      · cases h
  · cases h

theorem findBorn (stamp : Nat) : ∀ (es : List AEnt) (ces : List MapEntry), ERel φ es ces → ∀ e, es.find? (fun e => Nat.beq e.born stamp) = some e →
    ∃ c, ces.find? (fun c => c.born == stamp) = some c ∧ VRel φ e.key c.key ∧ VRel φ e.val c.val
  | [], ces, h, e, he => by simp at he
  | x :: es, ces, h, e, he => by
    obtain ⟨c, ces', rfl, ⟨k1, k2, k3⟩, h'⟩ := h.cons_inv
    simp only [List.find?_cons] at he ⊢
    have hb : Nat.beq x.born stamp = (c.born == stamp) := by rw [← k3, Bool.eq_iff_iff]; simp
    rw [hb] at he
    cases hcb : (c.born == stamp) with
    | true => simp only [hcb] at he; cases he; exact ⟨c, rfl, k1, k2⟩
    | false => simp only [hcb] at he; exact findBorn stamp es ces' h' e he

theorem entryA_sound (g : Gam N φ H w) {it v : AV} {ci : Value} (hi : VRel φ it ci) (h : entryA it H = some v) : ∃ cv, (Instr.entry ci).run P w = .ok cv w ∧ VRel φ v cv := by
  unfold entryA at h
  split at h
  · rename_i i
    cases hi with | ptr hp =>
    rename_i s
    split at h
    · rename_i m since seen stepped st hg
      obtain ⟨s', o, h1, h2, h3, h4⟩ := g.own i _ hg rfl
      rw [hp] at h1; cases h1
      obtain ⟨hbase, cm, rfl, sm, hsm, rfl⟩ := h3
      split at h
      · rename_i stamp es clock hlast hmap
        obtain ⟨ces, hat, her, _⟩ := g.map hmap hsm
        cases hcl : Nat.beq clock stepped with
        | false => simp [hcl] at h
        | true =>
          have hc := Nat.eq_of_beq_eq_true hcl
          simp only [hcl, cond_true, Option.map_eq_some_iff] at h
          obtain ⟨e, he, rfl⟩ := h
          obtain ⟨c, hc1, hc2, hc3⟩ := findBorn stamp es ces.toList her e he
          have hf : ces.find? (fun x => x.born == stamp) = some c := by rw [← Array.find?_toList]; exact hc1
          have hlast' : (Array.back? seen.toArray) = some stamp := by simpa using hlast
          refine ⟨_, ?_, .tuple_of (.cons hc2 (.cons hc3 (.nil _)))⟩
          have o1 : (getObj s.blk).run P w = .ok (.mapIter (some sm.blk) since seen.toArray stepped) w := by simp [getObj, Sem.run, h2]
          have o2 : (getObj sm.blk).run P w = .ok (.map ces clock) w := by simp [getObj, Sem.run, hat]
          simp [Instr.entry, hbase, o1, o2, hlast, hc, hf]
      · cases h
    · cases h
  · cases h

theorem missing_none {want : Array (String × TypeId)} {got : Array Method} (h : hasAll want got = true) : Instr.missingMethod want got = none := by
  have hm : (want.toList.filter fun (x : String × TypeId) => !got.any fun m => m.name == x.1 && m.sig == x.2) = [] := by
    rw [List.filter_eq_nil_iff]
    intro x hx
    have := (List.all_eq_true.1 h) x hx
    simpa using this
  unfold Instr.missingMethod
  have hm' : (want.toList.filter fun (name, sig) => !got.any fun m => m.name == name && m.sig == sig) = [] := hm
  rw [hm']
  rfl

theorem least_cons (s : String) (l : List String) : ∃ m, Instr.least (s :: l) = some m := ⟨_, rfl⟩

theorem missing_some {want : Array (String × TypeId)} {got : Array Method} (h : hasAll want got = false) : ∃ m, Instr.missingMethod want got = some m := by
  have hm : (want.toList.filter fun (name, sig) => !got.any fun m => m.name == name && m.sig == sig) ≠ [] := by
    intro he
    have : hasAll want got = true := by
      refine List.all_eq_true.2 fun x hx => ?_
      have he' : (want.toList.filter fun (x : String × TypeId) => !got.any fun m => m.name == x.1 && m.sig == x.2) = [] := he
      have := (List.filter_eq_nil_iff.1 he') x hx
      simpa using this
    rw [this] at h; cases h
  unfold Instr.missingMethod
  generalize (want.toList.filter fun (name, sig) => !got.any fun m => m.name == name && m.sig == sig) = l at hm
  cases l with
  | nil => exact absurd rfl hm
  | cons x l =>
    rw [List.map_cons]
    dsimp only
    rw [List.partition_eq_filter_filter]
    have hmem : ∀ p : String → Bool, List.filter p (x.1 :: List.map (fun x => x.1) l) ≠ [] ∨ List.filter (not ∘ p) (x.1 :: List.map (fun x => x.1) l) ≠ [] := by
      intro p
      cases hp : p x.1 with
      | true => left; simp [hp]
      | false => right; simp [hp]
    have h2 := hmem fun x => x.contains (Char.ofNat 46)
    generalize List.filter (fun x => x.contains (Char.ofNat 46)) (x.1 :: List.map (fun x => x.1) l) = u at h2 ⊢
    generalize List.filter (not ∘ fun x => x.contains (Char.ofNat 46)) (x.1 :: List.map (fun x => x.1) l) = e at h2 ⊢
    cases e with
    | cons s e =>
      obtain ⟨m, hm⟩ := least_cons s e
      exact ⟨m, by show (Instr.least (s :: e) <|> _) = some m; rw [hm]; rfl⟩
    | nil =>
      cases u with
      | nil => rcases h2 with h2 | h2 <;> exact absurd rfl h2
      | cons s u =>
        obtain ⟨m, hm⟩ := least_cons ((s.splitOn ".").getLastD s) (u.map fun id => (id.splitOn ".").getLastD id)
        exact ⟨m, hm⟩

theorem assertA_sound {x v : AV} {xt t : TypeId} {ok : Bool} {cx : Value} (hx : VRel φ x cx) (h : assertA P x xt t ok = some v) : ∃ cv, (Instr.typeAssert cx xt t ok).run P w = .ok cv w ∧ VRel φ v cv := by
  have holds : ∀ (a : AV) (ca : Value), VRel φ a ca → VRel φ (bif ok then .tuple [a, .bool true] else a) (if ok = true then .tuple #[ca, .bool true] else ca) := by
    intro a ca ha
    cases ok with
    | true => exact .tuple_of (.cons ha (.cons (.bool _) (.nil _)))
    | false => exact ha
  have fails : ∀ r, (bif ok then (zeroOf P t).map fun z => AV.tuple [z, .bool false] else none) = some r → ok = true ∧ ∃ cz, (zeroValue t).run P w = .ok cz w ∧ VRel φ r (.tuple #[cz, .bool false]) := by
    intro r hr
    cases ok with
    | false => cases hr
    | true =>
      simp only [cond_true, Option.map_eq_some_iff] at hr
      obtain ⟨z, hz, rfl⟩ := hr
      obtain ⟨cz, h1, h2⟩ := zeroValue_sound (φ := φ) hz w
      exact ⟨rfl, cz, h1, .tuple_of (.cons h2 (.cons (.bool _) (.nil _)))⟩
  unfold assertA at h
  dsimp only at h
  split at h
  · rename_i ms hu
    cases hx
    obtain ⟨rfl, cz, h1, h2⟩ := fails v h
    exact ⟨_, by simp [Instr.typeAssert, run_underlying hu, h1], h2⟩
  · rename_i want d y hu
    cases hx with | iface hy =>
    split at h
    · rename_i i hi
      cases hall : hasAll want i.methods with
      | true =>
        have hmm := missing_none hall
        simp only [hall, cond_true, Option.some.injEq] at h
        subst h
        refine ⟨_, ?_, holds _ _ (.iface hy)⟩
        simp [Instr.typeAssert, run_underlying hu, typeInfo, hi, hmm]
      | false =>
        obtain ⟨mm, hmm⟩ := missing_some hall
        simp only [hall, cond_false] at h
        obtain ⟨rfl, cz, h1, h2⟩ := fails v h
        exact ⟨_, by simp [Instr.typeAssert, run_underlying hu, typeInfo, hi, hmm, h1], h2⟩
    · cases h
  · rename_i hne hu
    cases hx
    obtain ⟨rfl, cz, h1, h2⟩ := fails v h
    refine ⟨.tuple #[cz, .bool false], ?_, h2⟩
    rename_i d _
    cases d <;> first | (exact absurd hu (hne _)) | (simp [Instr.typeAssert, run_underlying hu, h1])
  · rename_i d y hne hu
    cases hx with | iface hy =>
    cases hdt : Nat.beq d t with
    | true =>
      have := Nat.eq_of_beq_eq_true hdt
      subst this
      simp only [hdt, cond_true, Option.some.injEq] at h
      subst h
      refine ⟨_, ?_, holds _ _ hy⟩
      rename_i dd _ _
      cases dd <;> first | (exact absurd hu (hne _)) | (simp [Instr.typeAssert, run_underlying hu])
    | false =>
      have hne' : ¬ d = t := Nat.ne_of_beq_eq_false hdt
      simp only [hdt, cond_false] at h
      obtain ⟨rfl, cz, h1, h2⟩ := fails v h
      refine ⟨.tuple #[cz, .bool false], ?_, h2⟩
      rename_i dd _ _
      cases dd <;> first | (exact absurd hu (hne _)) | (simp [Instr.typeAssert, run_underlying hu, hne', h1])
  · cases h

theorem lenA_sound (g : Gam N φ H w) {t : TypeId} {x v : AV} {cx : Value} (hx : VRel φ x cx) (h : lenA P t x H = some v) (ts : Array TypeId) (hts : ts[0]? = some t) (ty : TypeId) : ∃ cv, (Builtin.len_ ts ty #[cx]).run P w = .ok cv w ∧ VRel φ v cv := by
  unfold lenA at h
  split at h
  · rename_i s hu; cases hx; cases h; exact ⟨_, by simp [Builtin.len_, hts, run_underlying hu, goInt, bytesOf_size], .int _ _⟩
  · rename_i n e hu; cases h; exact ⟨.int .i64 (.ofNat n), by simp [Builtin.len_, hts, run_underlying hu, goInt], .int _ _⟩
  · rename_i e hu; cases hx; cases h; exact ⟨.int .i64 0, by simp [Builtin.len_, hts, run_underlying hu, goInt], .int _ _⟩
  · rename_i e hu; cases hx; cases h; exact ⟨.int .i64 0, by simp [Builtin.len_, hts, run_underlying hu, goInt], .int _ _⟩
  · rename_i e i o n c ex hu; cases hx; cases h; exact ⟨.int .i64 (.ofNat n), by simp [Builtin.len_, hts, run_underlying hu, goInt], .int _ _⟩
  · rename_i a b hu; cases hx; cases h; exact ⟨.int .i64 0, by simp [Builtin.len_, hts, run_underlying hu, goInt], .int _ _⟩
  · rename_i a b i hu
    cases hx with | map hi =>
    rename_i s
    simp only [Option.map_eq_some_iff] at h
    obtain ⟨⟨es, clock⟩, hmap, rfl⟩ := h
    obtain ⟨ces, hat, her, _⟩ := g.map hmap hi
    have o2 : (getObj s.blk).run P w = .ok (.map ces clock) w := by simp [getObj, Sem.run, hat]
    have hl : ces.size = es.length := by have := her.1; simp at this; omega
    exact ⟨.int .i64 (.ofNat es.length), by simp [Builtin.len_, hts, run_underlying hu, goInt, o2, hl], .int _ _⟩
  · cases h

theorem capA_sound {t : TypeId} {x v : AV} {cx : Value} (hx : VRel φ x cx) (h : capA P t x = some v) (ts : Array TypeId) (hts : ts[0]? = some t) (ty : TypeId) : ∃ cv, (Builtin.cap_ ts ty #[cx]).run P w = .ok cv w ∧ VRel φ v cv := by
  unfold capA at h
  split at h
  · rename_i e hu; cases hx; cases h; exact ⟨.int .i64 0, by simp [Builtin.cap_, hts, run_underlying hu, goInt], .int _ _⟩
  · rename_i e i o n c hu
    cases hx with | slice hi hl hc he hr =>
    cases h
    have := he rfl
    subst this
    exact ⟨_, by simp [Builtin.cap_, hts, run_underlying hu, goInt], .int _ _⟩
  · cases h

theorem minFrom_sound {k : IntKind} : ∀ (l : List AV) (x : Int) (v : AV) (cl : List Value), minFrom k x l = some v → LRel φ l cl → ∃ cv, (cl.foldlM Builtin.min2 (.int k x)).run P w = .ok cv w ∧ VRel φ v cv
  | [], x, v, cl, h, hr => by
    rw [hr.nil_inv]; simp [minFrom] at h; subst h; exact ⟨_, rfl, .int _ _⟩
  | a :: l, x, v, cl, h, hr => by
    obtain ⟨c, cl', rfl, h1, h2⟩ := hr.cons_inv
    unfold minFrom at h
    split at h
    · rename_i heq; cases heq
    · rename_i k' y rest heq
      cases heq
      cases h1
      by_cases hk : k = k'
      · subst hk
        simp only [decide_true, cond_true] at h
        have := minFrom_sound l _ v cl' h h2
        obtain ⟨cv, q1, q2⟩ := this
        refine ⟨cv, ?_, q2⟩
        have e : (bif ltA y x then y else x) = if y < x then y else x := by rw [ltA_eq]; by_cases hlt : y < x <;> simp [hlt]
        rw [e] at q1
        simp only [List.foldlM_cons, Sem.run_bind, Builtin.min2, Sem.run_pure, Result.andThen_ok]
        exact q1
      · simp [hk] at h
    · cases h
theorem maxFrom_sound {k : IntKind} : ∀ (l : List AV) (x : Int) (v : AV) (cl : List Value), maxFrom k x l = some v → LRel φ l cl → ∃ cv, (cl.foldlM Builtin.max2 (.int k x)).run P w = .ok cv w ∧ VRel φ v cv
  | [], x, v, cl, h, hr => by
    rw [hr.nil_inv]; simp [maxFrom] at h; subst h; exact ⟨_, rfl, .int _ _⟩
  | a :: l, x, v, cl, h, hr => by
    obtain ⟨c, cl', rfl, h1, h2⟩ := hr.cons_inv
    unfold maxFrom at h
    split at h
    · rename_i heq; cases heq
    · rename_i k' y rest heq
      cases heq
      cases h1
      by_cases hk : k = k'
      · subst hk
        simp only [decide_true, cond_true] at h
        have := maxFrom_sound l _ v cl' h h2
        obtain ⟨cv, q1, q2⟩ := this
        refine ⟨cv, ?_, q2⟩
        have e : (bif ltA x y then y else x) = if y > x then y else x := by rw [ltA_eq]; by_cases hlt : x < y <;> simp [hlt]
        rw [e] at q1
        simp only [List.foldlM_cons, Sem.run_bind, Builtin.max2, Sem.run_pure, Result.andThen_ok]
        exact q1
      · simp [hk] at h
    · cases h

theorem minA_sound {l : List AV} {v : AV} {cl : List Value} (h : minA l = some v) (hr : LRel φ l cl) (ts : Array TypeId) (ty : TypeId) : ∃ cv, (Builtin.min_ ts ty cl.toArray).run P w = .ok cv w ∧ VRel φ v cv := by
  unfold minA at h
  split at h
  · obtain ⟨c, cl', rfl, h1, h2⟩ := hr.cons_inv
    cases h1
    exact minFrom_sound _ _ v cl' h h2
  · cases h
theorem maxA_sound {l : List AV} {v : AV} {cl : List Value} (h : maxA l = some v) (hr : LRel φ l cl) (ts : Array TypeId) (ty : TypeId) : ∃ cv, (Builtin.max_ ts ty cl.toArray).run P w = .ok cv w ∧ VRel φ v cv := by
  unfold maxA at h
  split at h
  · obtain ⟨c, cl', rfl, h1, h2⟩ := hr.cons_inv
    cases h1
    exact maxFrom_sound _ _ v cl' h h2
  · cases h

theorem unOpA_sound {op : UnOp} {x v : AV} {cx : Value} (hx : VRel φ x cx) (h : unOpA op x = some v) : ∃ cv, (Op.unary op cx).run P w = .ok cv w ∧ VRel φ v cv := by
  unfold unOpA at h
  split at h
  · rename_i k n; cases hx; cases h; exact ⟨.int k (k.wrap (0 - n)), rfl, by rw [wrapA_eq]; exact .int _ _⟩
  · rename_i k n
    cases hx; cases h
    refine ⟨.int k (k.wrap (BitVec.ofInt k.bits (if k.signed then -1 else k.max) ^^^ BitVec.ofInt k.bits n).toNat), rfl, ?_⟩
    rw [wrapA_eq, BitVec.toNat_xor, bitsA_eq, bitsA_eq]
    have : (if k.signed = true then (-1 : Int) else .ofNat (maxOf k)) = if k.signed = true then -1 else k.max := by
      split
      · rfl
      · exact maxOf_eq k
    rw [this]
    exact .int _ _
  · rename_i b; cases hx; cases h; exact ⟨.bool (!b), rfl, .bool _⟩
  · cases h

/-! ### Building -/
theorem fill_splice : ∀ (vc : List Value) (j off : Nat) (cells : Array Value), off + j + vc.length ≤ cells.size →
    (vc.zipIdx j).foldl (fun cs (p : Value × Nat) => cs.setIfInBounds (off + p.2) p.1) cells = (cells.toList.take (off + j) ++ (vc ++ cells.toList.drop (off + j + vc.length))).toArray
  | [], j, off, cells, _ => by simp
  | v :: vc, j, off, cells, h => by
    simp only [List.zipIdx_cons, List.foldl_cons]
    rw [fill_splice vc (j + 1) off (cells.setIfInBounds (off + j) v) (by simp at h ⊢; omega)]
    have e := list_seg_step cells.toList (off + j) v vc (by simp at h ⊢; omega)
    apply Array.ext'
    simpa [Array.toList_setIfInBounds, Nat.add_assoc] using e

theorem fillA_sound {place : Nat → Option (Nat × Nat)} : ∀ (parts : List (Nat × AV)) (cells : List AV) (ccells : Array Value) (cparts : List (Nat × Value)) (r : List AV), fillA place cells parts = some r → LRel φ cells ccells.toList →
    (parts.map (·.1) = cparts.map (·.1)) → LRel φ (parts.map (·.2)) (cparts.map (·.2)) → ∃ cr, Instr.fill place ccells cparts = some cr ∧ LRel φ r cr.toList
  | [], cells, ccells, cparts, r, h, hr, hp, hv => by
    have : cparts = [] := by simpa using hp.symm
    subst this
    simp [fillA] at h; subst h
    exact ⟨ccells, rfl, hr⟩
  | (i, v) :: rest, cells, ccells, cparts, r, h, hr, hp, hv => by
    cases cparts with
    | nil => simp at hp
    | cons p cparts =>
      obtain ⟨i', cv⟩ := p
      simp only [List.map_cons, List.cons.injEq] at hp
      obtain ⟨rfl, hp⟩ := hp
      obtain ⟨cv', cl', heq, h1, h2⟩ := LRel.cons_inv (by simpa using hv)
      simp only [List.cons.injEq] at heq
      obtain ⟨rfl, rfl⟩ := heq
      simp only [fillA] at h
      split at h
      · cases h
      · rename_i off size hpl
        have hc := h1.cells
        have hlen : v.cells.length = cv.cells.size := by simpa using hc.1
        have hlen2 : cells.length = ccells.size := by simpa using hr.1
        cases hb : (!(Nat.beq v.cells.length size) || !(Nat.ble (off + v.cells.length) cells.length)) with
        | true => simp [hb] at h
        | false =>
          simp only [hb, cond_false] at h
          rw [Bool.or_eq_false_iff] at hb
          have b1 : v.cells.length = size := by simpa using hb.1
          have b2 : off + v.cells.length ≤ cells.length := Nat.le_of_ble_eq_true (by simpa using hb.2)
          have hsp := fill_splice cv.cells.toList 0 off ccells (by simp; omega)
          have hnext : LRel φ (cells.take off ++ (v.cells ++ cells.drop (off + v.cells.length))) ((ccells.toList.take (off + 0) ++ (cv.cells.toList ++ ccells.toList.drop (off + 0 + cv.cells.toList.length))).toArray).toList := by
            simp only [Nat.add_zero]
            refine (hr.take off).append (hc.append ?_)
            have : off + cv.cells.toList.length = off + v.cells.length := by simp; omega
            rw [this]
            exact hr.drop _
          obtain ⟨cr, q1, q2⟩ := fillA_sound rest _ _ cparts r h hnext (by simpa using hp) h2
          refine ⟨cr, ?_, q2⟩
          simp only [Instr.fill, hpl]
          have c1 : ¬ cv.cells.size ≠ size := by omega
          have c2 : ¬ (off + cv.cells.size > ccells.size) := by omega
          simp only [show (decide (cv.cells.size ≠ size) || decide (off + cv.cells.size > ccells.size)) = false by simp [c1, c2], Bool.false_eq_true, if_false]
          have hz : (cv.cells.zipIdx.foldl (fun cs (x : Value × Nat) => match x with | (c, j) => cs.setIfInBounds (off + j) c) ccells) =
              ((cv.cells.toList.zipIdx 0).foldl (fun cs (p : Value × Nat) => cs.setIfInBounds (off + p.2) p.1) ccells) := by
            rw [← Array.foldl_toList]
            simp
          rw [hz, hsp]
          exact q1
end
end Go.Abs
