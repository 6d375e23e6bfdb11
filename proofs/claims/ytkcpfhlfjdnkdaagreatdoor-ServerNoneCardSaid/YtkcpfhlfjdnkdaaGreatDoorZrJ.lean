import Derived.Test.YtkcpfhlfjdnkdaaGreatDoorZrI
namespace Go.Zr

section
variable {P : Program} {tb : Tb} {ρ : Env}

/-! ### Keys -/
theorem litA_det {a : AV} (ha : litA a = true) {v : Value} (h : VRel ρ a v) : (∃ k n, a = .int k n ∧ v = .int k n) ∨ (∃ s, a = .str s ∧ v = .string ⟨s.toArray⟩) := by
  cases a <;> simp [litA] at ha
  · simp only [VRel] at h; exact .inl ⟨_, _, rfl, h⟩
  · simp only [VRel] at h; exact .inr ⟨_, rfl, h⟩

theorem lits_det : ∀ {l : List AV} {vs vs' : List Value}, l.all litA = true → VRels ρ l vs → VRels ρ l vs' → vs = vs'
  | [], vs, vs', _, h, h' => by simp only [VRels] at h h'; rw [h, h']
  | a :: l, vs, vs', ha, h, h' => by
    simp only [VRels] at h h'
    obtain ⟨v, r, rfl, h1, h2⟩ := h
    obtain ⟨v', r', rfl, h1', h2'⟩ := h'
    simp only [List.all_cons, Bool.and_eq_true] at ha
    rw [lits_det ha.2 h2 h2']
    rcases litA_det ha.1 h1 with ⟨k, n, rfl, rfl⟩ | ⟨s, rfl, rfl⟩
    · simp only [VRel] at h1'; rw [h1']
    · simp only [VRel] at h1'; rw [h1']

theorem beq_refl_bytes (b : ByteArray) : (b == b) = true := by rw [beq_toListBytes]; simp

theorem sameBits_lit {a : AV} (ha : litA a = true) {v : Value} (h : VRel ρ a v) (n : Nat) : Instr.sameBits n v v = true := by
  rcases litA_det ha h with ⟨k, m, rfl, rfl⟩ | ⟨s, rfl, rfl⟩ <;> cases n <;> simp [Instr.sameBits, beq_refl_bytes]

theorem sameBits_lits : ∀ {l : List AV} {vs : List Value}, l.all litA = true → VRels ρ l vs → ∀ n, ((vs.zip vs).all fun (x, y) => Instr.sameBits n x y) = true
  | [], vs, _, h, n => by simp only [VRels] at h; subst h; rfl
  | a :: l, vs, ha, h, n => by
    simp only [VRels] at h
    obtain ⟨v, r, rfl, h1, h2⟩ := h
    simp only [List.all_cons, Bool.and_eq_true] at ha
    simp only [List.zip_cons_cons, List.all_cons, Bool.and_eq_true]
    exact ⟨sameBits_lit ha.1 h1 n, sameBits_lits ha.2 h2 n⟩

theorem key_det {kt : TypeId} {k : AV} (hk : keyOk tb kt k = true) {v v' : Value} (h : VRel ρ k v) (h' : VRel ρ k v') : v = v' ∧ Instr.sameBits 10000 v v = true := by
  unfold keyOk at hk
  split at hk
  · split at hk
    · simp only [VRel] at h h'; subst h h'; exact ⟨rfl, by simp [Instr.sameBits]⟩
    · cases hk
  · split at hk
    · simp only [VRel] at h h'; subst h h'; exact ⟨rfl, by simp [Instr.sameBits, beq_refl_bytes]⟩
    · cases hk
  · split at hk
    · simp only [Bool.and_eq_true] at hk
      simp only [VRel] at h h'
      obtain ⟨vs, rfl, h⟩ := h
      obtain ⟨vs', rfl, h'⟩ := h'
      have := lits_det hk.1 h h'
      have e : vs = vs' := by rw [← Array.toArray_toList (xs := vs), this, Array.toArray_toList]
      subst e
      refine ⟨rfl, ?_⟩
      show (vs.size == vs.size && (vs.toList.zip vs.toList).all fun (x, y) => Instr.sameBits 9999 x y) = true
      rw [sameBits_lits hk.1 h]; simp
    · cases hk
  · cases hk

theorem checkFields (ok : TbOk P tb) (w : World) (em : Bool) (n : Nat) {cs : List AV} {vs : Array Value} (hc : VRels ρ cs vs.toList) : ∀ (fs : List Field),
    (fs.all fun f => f.name != "_" && (match tb.und f.type with
      | .ok (.int _) => match part tb f.type cs f.offset with | .ok (.int _ _) => true | _ => false
      | .ok .string => match part tb f.type cs f.offset with | .ok (.str _) => true | _ => false
      | _ => false)) = true →
    (forIn fs PUnit.unit fun f _ => (do
        if f.name ≠ "_" then do
          let x ← Go.part f.type vs f.offset
          Instr.checkKey em (n + 1) f.type x
          pure (.yield PUnit.unit)
        else pure (.yield PUnit.unit) : Sem (ForInStep PUnit))).run P w = .ok PUnit.unit w
  | [], _ => by simp
  | f :: fs, h => by
    simp only [List.all_cons, Bool.and_eq_true] at h
    obtain ⟨⟨hn, hp⟩, hrest⟩ := h
    have hne : f.name ≠ "_" := by simpa using hn
    have ih := checkFields ok w em n hc fs hrest
    have key : ∃ v, (Go.part f.type vs f.offset).run P w = .ok v w ∧ (Instr.checkKey em (n + 1) f.type v).run P w = .ok () w := by
      split at hp
      · rename_i q hu
        split at hp
        · rename_i k m hpt
          obtain ⟨v, h1, h2⟩ := part_sound ok w hc hpt
          simp only [VRel] at h2; subst h2
          exact ⟨_, h1, by simp [Instr.checkKey, ok.run_und hu]⟩
        · cases hp
      · rename_i hu
        split at hp
        · rename_i s hpt
          obtain ⟨v, h1, h2⟩ := part_sound ok w hc hpt
          simp only [VRel] at h2; subst h2
          exact ⟨_, h1, by simp [Instr.checkKey, ok.run_und hu]⟩
        · cases hp
      · cases hp
    obtain ⟨v, h1, h2⟩ := key
    simp only [List.forIn_cons, Sem.run_bind, hne, ne_eq, not_false_eq_true, if_true, h1, h2, Result.andThen_ok, Sem.run_pure]
    exact ih

theorem check_int (ok : TbOk P tb) (w : World) (em : Bool) (n : Nat) {kt : TypeId} {q : IntKind} (hu : tb.und kt = .ok (.int q)) (k : IntKind) (m : Int) : (Instr.checkKey em (n + 1) kt (.int k m)).run P w = .ok () w := by
  simp [Instr.checkKey, ok.run_und hu]
theorem check_str (ok : TbOk P tb) (w : World) (em : Bool) (n : Nat) {kt : TypeId} (hu : tb.und kt = .ok .string) (s : ByteArray) : (Instr.checkKey em (n + 1) kt (.string s)).run P w = .ok () w := by
  simp [Instr.checkKey, ok.run_und hu]
theorem check_struct (ok : TbOk P tb) (w : World) (em : Bool) (n : Nat) {kt : TypeId} {fs : Array Field} (hu : tb.und kt = .ok (.struct fs)) (vs : Array Value)
    (h : (forIn fs.toList PUnit.unit fun f _ => (do
        if f.name ≠ "_" then do
          let x ← Go.part f.type vs f.offset
          Instr.checkKey em n f.type x
          pure (.yield PUnit.unit)
        else pure (.yield PUnit.unit) : Sem (ForInStep PUnit))).run P w = .ok PUnit.unit w) : (Instr.checkKey em (n + 1) kt (.agg vs)).run P w = .ok () w := by
  simp only [Instr.checkKey, Sem.run_bind, ok.run_und hu, Result.andThen_ok]
  rw [← Array.forIn_toList, h]
  rfl

theorem eqA_int {H : Hp} {d : Nat} {kt : TypeId} {q k : IntKind} {n : Int} {y : AV} {b : Bool} (hu : tb.und kt = .ok (.int q)) (h : eqA tb H (d + 1) kt (.int k n) y = .ok b) : ∃ m, y = .int k m ∧ b = (n == m) := by
  simp only [eqA, hu, R.bind] at h
  cases y <;> simp only at h <;> try (cases h; done)
  rename_i k1 m
  cases hk : (k == k1) with
  | false => simp [hk] at h
  | true =>
    simp only [hk, cond_true] at h; cases h
    have := kind_of_beq hk; subst this
    exact ⟨m, rfl, rfl⟩
theorem eqA_str {H : Hp} {d : Nat} {kt : TypeId} {s : List UInt8} {y : AV} {b : Bool} (hu : tb.und kt = .ok .string) (h : eqA tb H (d + 1) kt (.str s) y = .ok b) : ∃ t, y = .str t ∧ b = beqB s t := by
  simp only [eqA, hu, R.bind] at h
  cases y <;> simp only at h <;> try (cases h; done)
  cases h
  exact ⟨_, rfl, rfl⟩

theorem checkKey_sound (ok : TbOk P tb) (w : World) {kt : TypeId} {k : AV} (hk : keyOk tb kt k = true) {v : Value} (h : VRel ρ k v) (em : Bool) : (Instr.checkKey em 10000 kt v).run P w = .ok () w := by
  unfold keyOk at hk
  split at hk
  · rename_i q hu
    split at hk
    · simp only [VRel] at h; subst h; exact check_int ok w em 9999 hu _ _
    · cases hk
  · rename_i hu
    split at hk
    · simp only [VRel] at h; subst h; exact check_str ok w em 9999 hu _
    · cases hk
  · rename_i fs hu
    split at hk
    · simp only [Bool.and_eq_true] at hk
      simp only [VRel] at h
      obtain ⟨vs, rfl, h⟩ := h
      exact check_struct ok w em 9999 hu vs (checkFields (P := P) ok w em 9998 h fs.toList hk.2)
    · cases hk
  · cases hk

def RRel (ρ : Env) (_es : List (AV × AV × Nat)) : Option (Nat × AV) → Option (Nat × Value) → Prop
  | none, r => r = none
  | some (j, v), r => ∃ cv, r = some (j, cv) ∧ VRel ρ v cv

theorem find_ask (ok : TbOk P tb) {H : Hp} {w : World} (hr : Rel ρ H.get w) {kt : TypeId} {k : AV} {vk : Value} (hk : VRel ρ k vk) : ∀ (es : List (AV × AV × Nat)) (ces : List MapEntry) (i : Nat) (r : Option (Nat × AV)), EntRel ρ es ces → findK tb H kt k es i = .ok r →
    ∃ r', (Instr.findAsking kt vk ces i).run P w = .ok r' w ∧ RRel ρ es r r'
  | [], ces, i, r, he, h => by
    simp only [EntRel] at he; subst he
    simp only [findK] at h; cases h
    exact ⟨none, by simp [Instr.findAsking], rfl⟩
  | (k0, v0, b0) :: es, ces, i, r, he, h => by
    simp only [EntRel] at he
    obtain ⟨e, t, rfl, h1, h2, _, h3⟩ := he
    simp only [findK] at h
    rw [R.bind_ok] at h; obtain ⟨b, hb, h⟩ := h
    have heq := eq_sound ok hr 50 kt k k0 vk e.key b hk h1 hb 10000 (by omega)
    cases b with
    | true =>
      simp only [cond_true] at h; cases h
      exact ⟨some (i, e.val), by simp [Instr.findAsking, Op.equal, Op.maxDepth, heq], ⟨_, rfl, h2⟩⟩
    | false =>
      simp only [cond_false] at h
      obtain ⟨r', h4, h5⟩ := find_ask ok hr hk es t (i + 1) r h3 h
      exact ⟨r', by simp [Instr.findAsking, Op.equal, Op.maxDepth, heq, h4], h5⟩

theorem find_now_int {H : Hp} {kt : TypeId} {q k : IntKind} {n : Int} (hu : tb.und kt = .ok (.int q)) : ∀ (es : List (AV × AV × Nat)) (ces : List MapEntry) (i : Nat) (r : Option (Nat × AV)), EntRel ρ es ces → findK tb H kt (.int k n) es i = .ok r →
    ∃ r', Instr.findNow (.int q) (.int k n) ces i = some r' ∧ RRel ρ es r r'
  | [], ces, i, r, he, h => by
    simp only [EntRel] at he; subst he
    simp only [findK] at h; cases h
    exact ⟨none, rfl, rfl⟩
  | (k0, v0, b0) :: es, ces, i, r, he, h => by
    simp only [EntRel] at he
    obtain ⟨e, t, rfl, h1, h2, _, h3⟩ := he
    simp only [findK] at h
    rw [R.bind_ok] at h; obtain ⟨b, hb, h⟩ := h
    obtain ⟨m, rfl, rfl⟩ := eqA_int (d := 49) hu hb
    simp only [VRel] at h1
    cases hm : (n == m) with
    | true =>
      simp only [hm, cond_true] at h; cases h
      exact ⟨some (i, e.val), by simp [Instr.findNow, Instr.sameNow, h1, hm], ⟨_, rfl, h2⟩⟩
    | false =>
      simp only [hm, cond_false] at h
      obtain ⟨r', h4, h5⟩ := find_now_int hu es t (i + 1) r h3 h
      exact ⟨r', by simp [Instr.findNow, Instr.sameNow, h1, hm, h4], h5⟩

theorem find_now_str {H : Hp} {kt : TypeId} {s : List UInt8} (hu : tb.und kt = .ok .string) : ∀ (es : List (AV × AV × Nat)) (ces : List MapEntry) (i : Nat) (r : Option (Nat × AV)), EntRel ρ es ces → findK tb H kt (.str s) es i = .ok r →
    ∃ r', Instr.findNow .string (.string ⟨s.toArray⟩) ces i = some r' ∧ RRel ρ es r r'
  | [], ces, i, r, he, h => by
    simp only [EntRel] at he; subst he
    simp only [findK] at h; cases h
    exact ⟨none, rfl, rfl⟩
  | (k0, v0, b0) :: es, ces, i, r, he, h => by
    simp only [EntRel] at he
    obtain ⟨e, t, rfl, h1, h2, _, h3⟩ := he
    simp only [findK] at h
    rw [R.bind_ok] at h; obtain ⟨b, hb, h⟩ := h
    obtain ⟨s1, rfl, rfl⟩ := eqA_str (d := 49) hu hb
    simp only [VRel] at h1
    have hbe : ((ByteArray.mk s.toArray) == (ByteArray.mk s1.toArray)) = beqB s s1 := by rw [beq_toListBytes, mk_toList, mk_toList, beqB_eq]
    cases hm : beqB s s1 with
    | true =>
      simp only [hm, cond_true] at h; cases h
      exact ⟨some (i, e.val), by simp [Instr.findNow, Instr.sameNow, h1, hbe, hm], ⟨_, rfl, h2⟩⟩
    | false =>
      simp only [hm, cond_false] at h
      obtain ⟨r', h4, h5⟩ := find_now_str hu es t (i + 1) r h3 h
      exact ⟨r', by simp [Instr.findNow, Instr.sameNow, h1, hbe, hm, h4], h5⟩

theorem find_sound (ok : TbOk P tb) {H : Hp} {w : World} (hr : Rel ρ H.get w) {kt : TypeId} {k : AV} {vk : Value} (hko : keyOk tb kt k = true) (hk : VRel ρ k vk) {es : List (AV × AV × Nat)} {ces : List MapEntry} {r : Option (Nat × AV)} (he : EntRel ρ es ces) (h : findK tb H kt k es 0 = .ok r) :
    ∃ r', (Instr.findKey kt vk ces).run P w = .ok r' w ∧ RRel ρ es r r' := by
  have hko' := hko
  unfold keyOk at hko
  split at hko
  · rename_i q hu
    split at hko
    · simp only [VRel] at hk; subst hk
      obtain ⟨r', h1, h2⟩ := find_now_int hu es ces 0 r he h
      exact ⟨r', by simp [Instr.findKey, ok.run_und hu, h1], h2⟩
    · cases hko
  · rename_i hu
    split at hko
    · simp only [VRel] at hk; subst hk
      obtain ⟨r', h1, h2⟩ := find_now_str hu es ces 0 r he h
      exact ⟨r', by simp [Instr.findKey, ok.run_und hu, h1], h2⟩
    · cases hko
  · rename_i fs hu
    obtain ⟨r', h1, h2⟩ := find_ask ok hr hk es ces 0 r he h
    refine ⟨r', ?_, h2⟩
    cases ces with
    | nil =>
      have : r' = none := by simp [Instr.findAsking] at h1; exact h1.symm
      subst this
      simp [Instr.findKey, ok.run_und hu, Instr.findNow]
    | cons e t =>
      have : Instr.findNow (.struct fs) vk (e :: t) 0 = none := by simp [Instr.findNow, Instr.sameNow]
      simp [Instr.findKey, ok.run_und hu, this, h1]
  · cases hko

theorem map_obj {H : Hp} {w : World} (hr : Rel ρ H.get w) {r : Nat} {es : List (AV × AV × Nat)} {c : Nat} {v : Value} (hg : H.get r = some (.map es c)) (hv : VRel ρ (.map r) v) :
    ∃ L ces, ρ.loc r = some L ∧ v = .map (some L.blk) ∧ w.heap[L.blk]? = some (.map ces c) ∧ EntRel ρ es ces.toList := by
  simp only [VRel] at hv
  obtain ⟨L, h1, rfl⟩ := hv
  obtain ⟨M, m1, ces, h2, h3⟩ := hr.obj r _ hg
  rw [h1] at m1; cases m1
  exact ⟨L, ces, h1, rfl, h2, h3⟩

theorem run_getObj_map {w : World} {b c : Nat} {ces : Array MapEntry} (h : w.heap[b]? = some (.map ces c)) : (getObj b).run P w = .ok (.map ces c) w := by simp [getObj, Sem.run, h]

theorem EntRel.length : ∀ {es : List (AV × AV × Nat)} {ces : List MapEntry}, EntRel ρ es ces → es.length = ces.length
  | [], ces, h => by simp only [EntRel] at h; subst h; rfl
  | (k, v, b) :: es, ces, h => by
    simp only [EntRel] at h
    obtain ⟨e, t, rfl, _, _, _, h3⟩ := h
    simp [EntRel.length h3]

theorem lookup_sound (ok : TbOk P tb) {H : Hp} {w : World} (hr : Rel ρ H.get w) {t : TypeId} {m k r : AV} {vm vk : Value} {b : Bool} (hm : VRel ρ m vm) (hk : VRel ρ k vk) (h : lookupA tb t m k b H = .ok r) :
    ∃ v, (Instr.lookup t vm vk b).run P w = .ok v w ∧ VRel ρ r v := by
  unfold lookupA at h
  rw [R.bind_ok] at h; obtain ⟨d, hd, h⟩ := h
  split at h
  · rename_i kt e
    cases hko : keyOk tb kt k with
    | false => simp [hko] at h
    | true =>
      simp only [hko, cond_true] at h
      rw [R.bind_ok] at h; obtain ⟨es, hes, h⟩ := h
      rw [R.bind_ok] at h; obtain ⟨f, hf, h⟩ := h
      -- the entries
      have ent : ∃ ces : Array MapEntry, EntRel ρ es ces.toList ∧ (vm = .map none ∧ ces = #[] ∨ ∃ b c, vm = .map (some b) ∧ w.heap[b]? = some (.map ces c)) := by
        unfold entriesA at hes
        split at hes
        · cases hes; simp only [VRel] at hm; exact ⟨#[], by simp [EntRel], .inl ⟨hm, rfl⟩⟩
        · rename_i rr
          split at hes
          · rename_i es' c hg
            cases hes
            obtain ⟨L, ces, _, rfl, h2, h3⟩ := map_obj hr hg hm
            exact ⟨ces, h3, .inr ⟨L.blk, c, rfl, h2⟩⟩
          · cases hes
        · cases hes
      obtain ⟨ces, hent, hvm⟩ := ent
      have hck := fun em => checkKey_sound (P := P) ok w hko hk em
      obtain ⟨f', hf1, hf2⟩ := find_sound (P := P) ok hr hko hk hent hf
      unfold Instr.lookup
      simp only [Sem.run_bind, ok.run_und hd, Result.andThen_ok]
      split at h
      · rename_i j v
        obtain ⟨cv, rfl, hcv⟩ := hf2
        cases h
        refine ⟨if b then .tuple #[cv, .bool true] else cv, ?_, ?_⟩
        · rcases hvm with ⟨rfl, rfl⟩ | ⟨bb, c, rfl, hb⟩
          · simp at hf1; simp [hck, hf1]
          · simp [run_getObj_map hb, hck, hf1]
        · cases b
          · simpa using hcv
          · simp only [cond_true, if_true, VRel]; exact ⟨_, rfl, .cons hcv (.cons VRel.bool .nil)⟩
      · simp only [RRel] at hf2; subst hf2
        rw [R.bind_ok] at h; obtain ⟨z, hz, h⟩ := h
        cases h
        obtain ⟨zv, hz1, hz2⟩ := ok.run_zero hz ρ w
        refine ⟨if b then .tuple #[zv, .bool false] else zv, ?_, ?_⟩
        · rcases hvm with ⟨rfl, rfl⟩ | ⟨bb, c, rfl, hb⟩
          · simp at hf1; simp [hck, hf1, hz1]
          · simp [run_getObj_map hb, hck, hf1, hz1]
        · cases b
          · simpa using hz2
          · simp only [cond_true, if_true, VRel]; exact ⟨_, rfl, .cons hz2 (.cons VRel.bool .nil)⟩
  · cases h

/-! ### Equality -/
theorem noIf_sound (ok : TbOk P tb) : ∀ (d : Nat) (t : TypeId), noIf tb d t = true → ∀ e, d ≤ e → P.eqGuardType e t = false
  | 0, t, h => by simp [noIf] at h
  | d + 1, t, h => by
    intro e he
    obtain ⟨e, rfl⟩ : ∃ k, e = k + 1 := ⟨e - 1, by omega⟩
    simp only [noIf] at h
    unfold Program.eqGuardType
    split at h
    · rename_i ms hu; rw [ok.und hu]; simp [h]
    · rename_i fs hu
      rw [ok.und hu]
      simp only
      rw [Array.any_eq_false]
      intro i hi
      rw [List.all_eq_true] at h
      have := h fs[i] (by simp)
      simp only [Bool.or_eq_true, beq_iff_eq] at this
      rcases this with h1 | h1
      · simp [h1]
      · simp [noIf_sound ok d _ h1 e (by omega)]
    · rename_i e' hu; rw [ok.und hu]; exact noIf_sound ok d _ h e (by omega)
    · rename_i u h1 h2 h3 hu
      rw [ok.und hu]
      cases u <;> first | (exact absurd rfl (h1 _)) | (exact absurd rfl (h2 _)) | (exact absurd rfl (h3 _ _)) | rfl
    · cases h

end
end Go.Zr
