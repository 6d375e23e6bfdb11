import Derived.Test.YtkcpfhlfjdnkdaaGreatDoorZrD
import GoSem.Dispatch
namespace Go.Zr

/-- The operands stand for what the frame holds. -/
def OpsRel (tb : Tb) (ρ : Env) (T : Tm) (ev : Operand → Value) (l : List Operand) : Prop := ∀ x ∈ l, ∀ a, opd tb T x = .ok a → VRel ρ a (ev x)

theorem OpsRel.one {tb : Tb} {ρ : Env} {T : Tm} {ev : Operand → Value} {l : List Operand} (h : OpsRel tb ρ T ev l) {x : Operand} (hx : x ∈ l) {a : AV} (ha : opd tb T x = .ok a) : VRel ρ a (ev x) := h x hx a ha

theorem OpsRel.list {tb : Tb} {ρ : Env} {T : Tm} {ev : Operand → Value} : ∀ {l : List Operand} {r : List AV}, OpsRel tb ρ T ev l → opds tb T l = .ok r → VRels ρ r (l.map ev)
  | [], r, _, h => by simp [opds] at h; subst h; exact .nil
  | x :: l, r, h, hr => by
    simp only [opds] at hr
    rw [R.bind_ok] at hr; obtain ⟨a, h1, hr⟩ := hr
    rw [R.bind_ok] at hr; obtain ⟨t, h2, hr⟩ := hr
    cases hr
    exact .cons (h x (by simp) a h1) (OpsRel.list (fun y hy => h y (by simp [hy])) h2)

theorem VRel.int {ρ : Env} {k : IntKind} {n : Int} : VRel ρ (.int k n) (.int k n) := by simp [VRel]
theorem VRel.bool {ρ : Env} {b : Bool} : VRel ρ (.bool b) (.bool b) := by simp [VRel]
theorem VRel.str {ρ : Env} {s : List UInt8} : VRel ρ (.str s) (.string ⟨s.toArray⟩) := by simp [VRel]

section
variable {P : Program} {tb : Tb} {ρ : Env}

/-! ### Strings -/
theorem mk_size (s : List UInt8) : (ByteArray.mk s.toArray).size = s.length := by show s.toArray.size = _; simp
theorem mk_toList (s : List UInt8) : (ByteArray.mk s.toArray).toList = s := by rw [ByteArray.toList_eq]
theorem mk_append (s t : List UInt8) : (ByteArray.mk s.toArray ++ ByteArray.mk t.toArray) = ByteArray.mk (s ++ t).toArray := by
  apply ByteArray.ext; simp [ByteArray.data_append]
theorem mk_extract (s : List UInt8) (l h : Nat) : (ByteArray.mk s.toArray).extract l h = ByteArray.mk ((s.take h).drop l).toArray := by
  apply ByteArray.ext; rw [ByteArray.data_extract]; simp [List.extract_eq_take_drop, List.drop_take]
theorem mk_get (s : List UInt8) (i : Nat) : (ByteArray.mk s.toArray)[i]? = s[i]? := by
  have : (ByteArray.mk s.toArray)[i]? = (ByteArray.mk s.toArray).data[i]? := by exact (Option.map_inj_right fun x y a => a).mp rfl
  rw [this]; simp

theorem beqB_eq : ∀ (a b : List UInt8), beqB a b = (a == b)
  | [], [] => rfl
  | [], _ :: _ => rfl
  | _ :: _, [] => rfl
  | a :: l, b :: r => by
    simp only [beqB, List.cons_beq_cons, beqB_eq l r]
    congr 1
    by_cases h : a = b
    · subst h; simp
    · have h1 : a.toNat ≠ b.toNat := fun e => h (UInt8.toNat_inj.1 e)
      rw [nbeq_ne h1]; simp [h]

/-! ### Numbers and texts -/
theorem intOp_sound (w : World) {op : BinOp} {k : IntKind} {a b : Int} {r : AV} (h : intOp op k a b = .ok r) (xt : TypeId) (hs : op ≠ .shl) (hs' : op ≠ .shr) :
    ∃ v, (binOp op xt (.int k a) (.int k b)).run P w = .ok v w ∧ VRel ρ r v := by
  cases op <;> simp only [intOp] at h <;> try (first | (exact absurd rfl hs) | (exact absurd rfl hs'))
  case quo =>
    by_cases hb : b = 0
    · subst hb; simp at h
    · have : (b == 0) = false := by simp [hb]
      rw [this] at h; cases h
      exact ⟨_, by simp [binOp, Op.intDiv, hb], VRel.int⟩
  case rem =>
    by_cases hb : b = 0
    · subst hb; simp at h
    · have : (b == 0) = false := by simp [hb]
      rw [this] at h; cases h
      exact ⟨_, by simp [binOp, Op.intDiv, hb], VRel.int⟩
  case and | or | xor | andNot =>
    split at h
    · rename_i k' n hk
      cases h
      exact ⟨.int k' n, by simp only [binOp, ne_eq, not_true_eq_false, if_false]; rw [hk]; rfl, VRel.int⟩
    · cases h
  all_goals
    cases h
    first
      | exact ⟨_, by simp [binOp, Op.intArith, Op.intCmp]; rfl, VRel.int⟩
      | exact ⟨_, by simp only [binOp, Op.intArith, Op.intCmp, ne_eq, not_true_eq_false, if_false]; rfl, VRel.bool⟩
      | exact ⟨_, by simp only [binOp, Op.intArith, ne_eq, not_true_eq_false, if_false]; rfl, VRel.int⟩

theorem strOp_sound (w : World) {op : BinOp} {a b : List UInt8} {r : AV} (h : strOp op a b = .ok r) (xt : TypeId) :
    ∃ v, (binOp op xt (.string ⟨a.toArray⟩) (.string ⟨b.toArray⟩)).run P w = .ok v w ∧ VRel ρ r v := by
  cases op <;> simp only [strOp] at h <;> try (cases h; done)
  case add =>
    split at h
    · rename_i hlen
      cases h
      refine ⟨_, ?_, VRel.str⟩
      have : ¬ (((ByteArray.mk a.toArray).size + (ByteArray.mk b.toArray).size : Nat) : Int) > IntKind.i64.max := by
        rw [mk_size, mk_size]; simp [IntKind.max, IntKind.signed, IntKind.bits]; omega
      simp only [binOp, Op.stringOp, this, if_false]
      rw [mk_append]; rfl
    · cases h
  all_goals
    cases h
    try simp only [beqB_eq]
    exact ⟨_, by simp only [binOp, Op.stringOp, mk_toList]; rfl, VRel.bool⟩

theorem eqGuard_int (w : World) (op : BinOp) (t : TypeId) (x y : Operand) (k k' : IntKind) (a b : Int) : (eqGuard op t x y (.int k a) (.int k' b)).run P w = .ok () w := by
  cases op <;> simp [eqGuard]
theorem eqGuard_str (w : World) (op : BinOp) (t : TypeId) (x y : Operand) (a b : ByteArray) : (eqGuard op t x y (.string a) (.string b)).run P w = .ok () w := by
  cases op <;> simp [eqGuard]

theorem kind_of_beq {k k' : IntKind} (h : (k == k') = true) : k' = k := by simpa using (beq_iff_eq.1 h).symm

theorem binP_sound (w : World) {op : BinOp} {a b r : AV} {va vb : Value} (ha : VRel ρ a va) (hb : VRel ρ b vb) (h : binP op a b = .ok r) (t : TypeId) (x y : Operand) :
    ∃ v, (do eqGuard op t x y va vb; binOp op t va vb : Sem Value).run P w = .ok v w ∧ VRel ρ r v := by
  unfold binP at h
  split at h
  · rename_i k n k' m
    simp only [VRel] at ha hb; subst ha hb
    cases hm : decide (m < 0) with
    | true => simp [hm] at h
    | false =>
      simp only [hm, cond_false] at h; cases h
      exact ⟨_, by simp [eqGuard_int, binOp, Op.shift, of_decide_eq_false hm], VRel.int⟩
  · rename_i k n k' m
    simp only [VRel] at ha hb; subst ha hb
    cases hm : decide (m < 0) with
    | true => simp [hm] at h
    | false =>
      simp only [hm, cond_false] at h; cases h
      exact ⟨_, by simp [eqGuard_int, binOp, Op.shift, of_decide_eq_false hm], VRel.int⟩
  · cases h
  · cases h
  · rename_i hs1 hs2 k n k' m _ _
    simp only [VRel] at ha hb; subst ha hb
    cases hk : (k == k') with
    | false => simp [hk] at h
    | true =>
      simp only [hk, cond_true] at h
      have := kind_of_beq hk; subst this
      obtain ⟨v, h1, h2⟩ := intOp_sound (P := P) (ρ := ρ) w h t (fun e => by subst e; simp at *) (fun e => by subst e; simp at *)
      exact ⟨v, by simp [eqGuard_int, h1], h2⟩
  · rename_i s u _ _
    simp only [VRel] at ha hb; subst ha hb
    obtain ⟨v, h1, h2⟩ := strOp_sound (P := P) (ρ := ρ) w h t
    exact ⟨v, by simp [eqGuard_str, h1], h2⟩
  · cases h

theorem unA_sound (w : World) {op : UnOp} {a r : AV} {va : Value} (ha : VRel ρ a va) (h : unA op a = .ok r) : ∃ v, (Op.unary op va).run P w = .ok v w ∧ VRel ρ r v := by
  unfold unA at h
  split at h
  · simp only [VRel] at ha; subst ha; cases h
    exact ⟨_, by simp only [Op.unary, Op.intArith]; rfl, VRel.int⟩
  · simp only [VRel] at ha; subst ha
    split at h
    · rename_i k' n' hk; cases h
      exact ⟨.int k' n', by simp only [Op.unary]; rw [hk]; rfl, VRel.int⟩
    · cases h
  · simp only [VRel] at ha; subst ha; cases h
    exact ⟨_, by simp only [Op.unary]; rfl, VRel.bool⟩
  · cases h

theorem convP_sound (ok : TbOk P tb) (w : World) {src dst : TypeId} {a r : AV} {va : Value} (ha : VRel ρ a va) (h : convP tb src dst a = .ok r) : ∃ v, (convert src dst va).run P w = .ok v w ∧ VRel ρ r v := by
  unfold convP at h
  rw [R.bind_ok] at h; obtain ⟨ds, hs, h⟩ := h
  rw [R.bind_ok] at h; obtain ⟨dd, hd, h⟩ := h
  split at h
  · simp only [VRel] at ha; subst ha; cases h
    refine ⟨_, ?_, VRel.int⟩
    unfold convert
    simp only [Sem.run_bind, ok.run_und hs, ok.run_und hd, Result.andThen_ok]
    cases ds <;> simp [Conv.intToInt]
  · cases h

/-! ### Parts -/
theorem part_sound (ok : TbOk P tb) (w : World) {t : TypeId} {cs : List AV} {vs : Array Value} {off : Nat} {r : AV} (hc : VRels ρ cs vs.toList) (h : part tb t cs off = .ok r) :
    ∃ v, (Go.part t vs off).run P w = .ok v w ∧ VRel ρ r v := by
  unfold part at h
  rw [R.bind_ok] at h; obtain ⟨d, hd, h⟩ := h
  unfold Go.part
  simp only [Sem.run_bind, isAgg_run ok hd, Result.andThen_ok]
  cases hb : isAggD d with
  | true =>
    simp only [hb, cond_true] at h
    rw [R.bind_ok] at h; obtain ⟨n, hn, h⟩ := h
    rw [R.bind_ok] at h; obtain ⟨l, hl, h⟩ := h
    cases h
    obtain ⟨rfl, _, _⟩ := sub_ok hl
    refine ⟨.agg (vs.extract off (off + n)), by simp [ok.run_size hn], ?_⟩
    simp only [VRel]
    refine ⟨_, rfl, ?_⟩
    have e : (vs.extract off (off + n)).toList = (vs.toList.drop off).take n := by simp [List.extract_eq_take_drop]
    rw [e]; exact (hc.drop off).take n
  | false =>
    simp only [hb, cond_false] at h
    obtain ⟨v, h1, h2⟩ := hc.get off r (R.of_ok.1 h)
    have : vs[off]? = some v := by simpa using h1
    exact ⟨v, by simp [this], h2⟩

theorem fieldA_sound (ok : TbOk P tb) (w : World) {t : TypeId} {x r : AV} {vx : Value} {f : Nat} (hx : VRel ρ x vx) (h : fieldA tb t x f = .ok r) : ∃ v, (Instr.field t vx f).run P w = .ok v w ∧ VRel ρ r v := by
  unfold fieldA at h
  rw [R.bind_ok] at h; obtain ⟨d, hd, h⟩ := h
  split at h
  · rename_i fs cs
    simp only [VRel] at hx
    obtain ⟨vs, rfl, hc⟩ := hx
    split at h
    · rename_i fd hf
      have hf' : fs[f]? = some fd := by simpa using hf
      obtain ⟨v, h1, h2⟩ := part_sound ok w hc h
      exact ⟨v, by simp [Instr.field, ok.run_und hd, hf', asAgg, h1], h2⟩
    · cases h
  · cases h

theorem fieldAddr_sound (ok : TbOk P tb) (w : World) {t : TypeId} {x r : AV} {vx : Value} {f : Nat} (hx : VRel ρ x vx) (h : fieldAddrA tb t x f = .ok r) : ∃ v, (Instr.fieldAt t vx f).run P w = .ok v w ∧ VRel ρ r v := by
  unfold fieldAddrA at h
  rw [R.bind_ok] at h; obtain ⟨d, hd, h⟩ := h
  split at h
  · rename_i fs o im off
    split at h
    · rename_i fd hf
      have hf' : fs[f]? = some fd := by simpa using hf
      rw [R.bind_ok] at h; obtain ⟨s, hs, h⟩ := h
      cases hz : Nat.beq s 0 with
      | true => simp [hz] at h
      | false =>
        simp only [hz, cond_false] at h; cases h
        have hs0 : s ≠ 0 := fun e => by subst e; simp at hz
        have key : ∀ b i, vx = .pointer (some ⟨b, i + off, none⟩) → (Instr.fieldAt t vx f).run P w = .ok (.pointer (some ⟨b, i + (off + fd.offset), none⟩)) w := by
          intro b i e; subst e
          simp [Instr.fieldAt, ok.run_und hd, hf', Instr.sureAddr, fieldPlace, ok.run_size hs, hs0, addr_add, Nat.add_assoc]
        cases o with
        | some o =>
          simp only [VRel] at hx ⊢
          obtain ⟨L, h1, rfl⟩ := hx
          exact ⟨_, key _ _ rfl, L, h1, rfl⟩
        | none =>
          simp only [VRel] at hx ⊢
          obtain ⟨b, i, vs, rfl, h2, h3⟩ := hx
          exact ⟨_, key _ _ rfl, b, i, vs, rfl, h2, h3⟩
    · cases h
  · cases h

theorem asInt_ok {a : AV} {n : Int} (h : asInt a = .ok n) : ∃ k, a = .int k n := by
  unfold asInt at h
  split at h
  · cases h; exact ⟨_, rfl⟩
  · cases h

theorem indexAddr_sound (ok : TbOk P tb) (w : World) {t : TypeId} {x i r : AV} {vx vi : Value} (hx : VRel ρ x vx) (hi : VRel ρ i vi) (h : indexAddrA tb t x i = .ok r) : ∃ v, (Instr.indexAt t vx vi).run P w = .ok v w ∧ VRel ρ r v := by
  unfold indexAddrA at h
  rw [R.bind_ok] at h; obtain ⟨d, hd, h⟩ := h
  rw [R.bind_ok] at h; obtain ⟨n, hn, h⟩ := h
  obtain ⟨k, rfl⟩ := asInt_ok hn
  simp only [VRel] at hi; subst hi
  split at h
  · rename_i len e o im off
    cases hb : (decide (0 ≤ n) && decide (n < len)) with
    | false => simp [hb] at h
    | true =>
      simp only [hb, cond_true] at h
      simp only [Bool.and_eq_true, decide_eq_true_eq] at hb
      rw [R.bind_ok] at h; obtain ⟨s, hs, h⟩ := h
      cases h
      have key : ∀ b j, vx = .pointer (some ⟨b, j + off, none⟩) → (Instr.indexAt t vx (.int k n)).run P w = .ok (.pointer (some ⟨b, j + (off + n.toNat * s), none⟩)) w := by
        intro b j e; subst e
        simp [Instr.indexAt, asIntOf, ok.run_und hd, Instr.sureAddr, ok.run_size hs, addr_add, Nat.add_assoc, hb.1, hb.2]
      cases o with
      | some o =>
        simp only [VRel] at hx ⊢
        obtain ⟨L, h1, rfl⟩ := hx
        exact ⟨_, key _ _ rfl, L, h1, rfl⟩
      | none =>
        simp only [VRel] at hx ⊢
        obtain ⟨b, i, vs, rfl, h2, h3⟩ := hx
        exact ⟨_, key _ _ rfl, b, i, vs, rfl, h2, h3⟩
  · rename_i e o im off len lo ex es
    cases hb : (decide (0 ≤ n) && decide (n < len)) with
    | false => simp [hb] at h
    | true =>
      simp only [hb, cond_true] at h
      simp only [Bool.and_eq_true, decide_eq_true_eq] at hb
      rw [R.bind_ok] at h; obtain ⟨s, hs, h⟩ := h
      cases h
      have key : ∀ b j cap, vx = .slice (some ⟨b, j + off, none⟩) len cap → (Instr.indexAt t vx (.int k n)).run P w = .ok (.pointer (some ⟨b, j + (off + n.toNat * s), none⟩)) w := by
        intro b j cap e; subst e
        simp [Instr.indexAt, asIntOf, ok.run_und hd, ok.run_size hs, addr_add, Nat.add_assoc, hb.1, hb.2]
      cases o with
      | some o =>
        simp only [VRel] at hx ⊢
        obtain ⟨L, a, cap, h1, rfl, h2, h3, _, h5⟩ := hx
        rcases h5 with h5 | ⟨rfl, _⟩
        · omega
        · exact ⟨_, key _ _ _ rfl, L, h1, rfl⟩
      | none =>
        simp only [VRel] at hx ⊢
        obtain ⟨b, i, vs, a, cap, rfl, h2, h3, _, h5, h6, h7⟩ := hx
        rcases h5 with h5 | rfl
        · omega
        · exact ⟨_, key _ _ _ rfl, b, i, vs, rfl, h6, h7⟩
  · cases h

theorem index_sound (ok : TbOk P tb) (w : World) {t : TypeId} {x i r : AV} {vx vi : Value} (hx : VRel ρ x vx) (hi : VRel ρ i vi) (h : indexA tb t x i = .ok r) : ∃ v, (Instr.index t vx vi).run P w = .ok v w ∧ VRel ρ r v := by
  unfold indexA at h
  rw [R.bind_ok] at h; obtain ⟨d, hd, h⟩ := h
  rw [R.bind_ok] at h; obtain ⟨n, hn, h⟩ := h
  obtain ⟨k, rfl⟩ := asInt_ok hn
  simp only [VRel] at hi; subst hi
  split at h
  · rename_i len e cs
    cases hb : (decide (0 ≤ n) && decide (n < len)) with
    | false => simp [hb] at h
    | true =>
      simp only [hb, cond_true] at h
      simp only [Bool.and_eq_true, decide_eq_true_eq] at hb
      rw [R.bind_ok] at h; obtain ⟨s, hs, h⟩ := h
      simp only [VRel] at hx
      obtain ⟨vs, rfl, hc⟩ := hx
      obtain ⟨v, h1, h2⟩ := part_sound ok w hc h
      exact ⟨v, by simp [Instr.index, asIntOf, ok.run_und hd, ok.run_size hs, hb.1, hb.2, h1], h2⟩
  · rename_i s
    simp only [VRel] at hx; subst hx
    cases hb : decide (0 ≤ n) with
    | false => simp [hb] at h
    | true =>
      simp only [hb, cond_true] at h
      split at h
      · rename_i b hs
        cases h
        refine ⟨.int .u8 b.toNat, ?_, by simp [VRel, byteAV]⟩
        have h0 : 0 ≤ n := of_decide_eq_true hb
        have : (ByteArray.mk s.toArray)[n.toNat]? = some b := by rw [mk_get]; exact hs
        simp [Instr.index, asIntOf, ok.run_und hd, h0, this]
      · cases h
  · cases h

theorem assert_sound (ok : TbOk P tb) (w : World) {x r : AV} {vx : Value} {xt t : TypeId} {b : Bool} (hx : VRel ρ x vx) (h : assertA tb x t b = .ok r) : ∃ v, (Instr.typeAssert vx xt t b).run P w = .ok v w ∧ VRel ρ r v := by
  unfold assertA at h
  rw [R.bind_ok] at h; obtain ⟨d, hd, h⟩ := h
  split at h
  · cases h
  · rename_i hni
    simp only [VRel] at hx; subst hx
    cases b with
    | false => simp at h
    | true =>
      simp only [cond_true] at h
      rw [R.bind_ok] at h; obtain ⟨z, hz, h⟩ := h
      cases h
      obtain ⟨v, h1, h2⟩ := ok.run_zero hz ρ w
      refine ⟨.tuple #[v, .bool false], ?_, ?_⟩
      · unfold Instr.typeAssert
        simp only [Sem.run_bind, ok.run_und hd, Result.andThen_ok]
        cases d <;> first | (exact absurd rfl (hni _)) | simp [h1]
      · simp only [VRel]; exact ⟨_, rfl, .cons h2 (.cons (by simp [VRel]) .nil)⟩
  · rename_i ty a hni
    simp only [VRel] at hx
    obtain ⟨v', rfl, hv⟩ := hx
    cases hq : Nat.beq ty t with
    | true =>
      have e := Nat.eq_of_beq_eq_true hq; subst e
      simp only [hq, cond_true] at h; cases h
      refine ⟨if b then .tuple #[v', .bool true] else v', ?_, ?_⟩
      · unfold Instr.typeAssert
        simp only [Sem.run_bind, ok.run_und hd, Result.andThen_ok]
        cases d <;> first | (exact absurd rfl (hni _)) | simp
      · cases b
        · simpa using hv
        · simp only [cond_true, if_true, VRel]; exact ⟨_, rfl, .cons hv (.cons (by simp [VRel]) .nil)⟩
    | false =>
      simp only [hq, cond_false] at h
      have hne : ty ≠ t := fun e => by subst e; simp at hq
      cases b with
      | false => simp at h
      | true =>
        simp only [cond_true] at h
        rw [R.bind_ok] at h; obtain ⟨z, hz, h⟩ := h
        cases h
        obtain ⟨v, h1, h2⟩ := ok.run_zero hz ρ w
        refine ⟨.tuple #[v, .bool false], ?_, ?_⟩
        · unfold Instr.typeAssert
          simp only [Sem.run_bind, ok.run_und hd, Result.andThen_ok]
          cases d <;> first | (exact absurd rfl (hni _)) | simp [h1, hne]
        · simp only [VRel]; exact ⟨_, rfl, .cons h2 (.cons (by simp [VRel]) .nil)⟩
  · cases h

end
end Go.Zr
