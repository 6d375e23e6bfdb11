import Derived.Test.YtkcpfhlfjdnkdaaGreatDoorZrG
namespace Go.Zr

section
variable {P : Program} {tb : Tb} {ρ : Env}

theorem minmax_sound (w : World) {mx : Bool} {args : List AV} {vs : Array Value} (hv : VRels ρ args vs.toList) {r : AV} (h : minmaxA mx args = .ok r) (ts : Array TypeId) (t : TypeId) :
    ∃ v, (if mx then Builtin.max_ ts t vs else Builtin.min_ ts t vs).run P w = .ok v w ∧ VRel ρ r v := by
  unfold minmaxA at h
  split at h
  · rename_i k a k' b
    cases h
    simp only [VRels] at hv
    obtain ⟨v1, r1, e1, h1, v2, r2, e2, h2, h3⟩ := hv
    subst h3 e2
    simp only [VRel] at h1 h2; subst h1 h2
    cases mx
    · exact ⟨_, by simp only [Bool.false_eq_true, if_false, Builtin.min_, e1]; rfl, VRel.int⟩
    · refine ⟨_, ?_, VRel.int⟩
      simp only [if_true, Builtin.max_, e1, cond_true]
      show _ = Result.ok (Value.int k (if b > a then b else a)) w
      rfl
  · cases h

theorem cap_sound (ok : TbOk P tb) (w : World) {ts : Array TypeId} {args : List AV} {vs : Array Value} (hv : VRels ρ args vs.toList) {r : AV} (h : capB tb ts.toList args = .ok r) (t : TypeId) :
    ∃ v, (Builtin.cap_ ts t vs).run P w = .ok v w ∧ VRel ρ r v := by
  unfold capB at h
  split at h
  · rename_i t0 _ x ht
    rw [R.bind_ok] at h; obtain ⟨d, hd, h⟩ := h
    have h0 : ts[0]? = some t0 := by have : ts.toList[0]? = some t0 := by rw [ht]; rfl
                                     simpa using this
    simp only [VRels] at hv
    obtain ⟨v1, r1, e1, h1, h2⟩ := hv
    subst h2
    have h3 : vs[0]? = some v1 := by have : vs.toList[0]? = some v1 := by rw [e1]; rfl
                                     simpa using this
    split at h
    · cases h
      simp only [VRel] at h1; subst h1
      exact ⟨.int .i64 0, by simp [Builtin.cap_, h0, h3, ok.run_und hd, goInt], VRel.int⟩
    · rename_i o im off len lo ex es
      cases hex : ex with
      | false => simp [hex] at h
      | true =>
        simp only [hex, cond_true] at h; cases h
        have : ∃ a cap, v1 = .slice (some a) len cap ∧ cap = lo := by
          cases o with
          | some o => simp only [VRel] at h1; obtain ⟨L, a, cap, _, h5, _, _, h8, _⟩ := h1; exact ⟨a, cap, h5, h8 hex⟩
          | none => simp only [VRel] at h1; obtain ⟨b, i, vs, a, cap, h5, _, _, h8, _⟩ := h1; exact ⟨a, cap, h5, h8 hex⟩
        obtain ⟨a, cap, rfl, rfl⟩ := this
        exact ⟨.int .i64 cap, by simp [Builtin.cap_, h0, h3, ok.run_und hd, goInt], VRel.int⟩
    · cases h
  · cases h

theorem pure_sound (ok : TbOk P tb) (w : World) {o : Oper} {T : Tm} {ev : Operand → Value} (hops : OpsRel tb ρ T ev o.op.operands.toList) {r : AV} (h : pureA tb o T = .ok r) :
    ∃ v, (execOp ev o).run P w = .ok (.value v) w ∧ VRel ρ r v := by
  obtain ⟨dst, op, type, pos, after, guard⟩ := o
  unfold pureA at h
  unfold execOp
  cases op <;> simp only at h ⊢ <;> try (cases h; done)
  case move x => exact ⟨_, rfl, hops.one (by simp [Op.operands]) h⟩
  case assign x => exact ⟨_, rfl, hops.one (by simp [Op.operands]) h⟩
  case pick c a b =>
    rw [R.bind_ok] at h; obtain ⟨x, hx, h⟩ := h
    have hc := hops.one (by simp [Op.operands]) hx
    split at h
    · rename_i bb
      simp only [VRel] at hc
      cases bb
      · exact ⟨ev b, by simp [hc, asBool], hops.one (by simp [Op.operands]) h⟩
      · exact ⟨ev a, by simp [hc, asBool], hops.one (by simp [Op.operands]) h⟩
    · cases h
  case build t ps =>
    rw [R.bind_ok] at h; obtain ⟨xs, hx, h⟩ := h
    obtain ⟨v, h1, h2⟩ := build_sound ok w (by simpa [Op.operands] using hops) hx h
    exact ⟨v, by simp [h1], h2⟩
  case nilCheck x =>
    rw [R.bind_ok] at h; obtain ⟨a, ha, h⟩ := h
    have hc := hops.one (by simp [Op.operands]) ha
    split at h
    · rename_i o im off
      cases h
      cases o with
      | some o => have hc' := hc; simp only [VRel] at hc'; obtain ⟨L, _, e⟩ := hc'; rw [e] at hc ⊢; exact ⟨_, rfl, hc⟩
      | none => have hc' := hc; simp only [VRel] at hc'; obtain ⟨b, i, vs, e, _⟩ := hc'; rw [e] at hc ⊢; exact ⟨_, rfl, hc⟩
    · cases h
      have hc' := hc; simp only [VRel, FnRel] at hc'; obtain ⟨fn', fs', cs', e, e2, _⟩ := hc'; subst e2; rw [e] at hc ⊢; exact ⟨_, rfl, hc⟩
    · cases h
      have hc' := hc; simp only [VRel] at hc'; obtain ⟨v', e, _⟩ := hc'; rw [e] at hc ⊢; exact ⟨_, rfl, hc⟩
    · cases h
  case binOp op t x y yt =>
    rw [R.bind_ok] at h; obtain ⟨a, ha, h⟩ := h
    rw [R.bind_ok] at h; obtain ⟨b, hb, h⟩ := h
    obtain ⟨v, h1, h2⟩ := binP_sound (P := P) w (hops.one (by simp [Op.operands]) ha) (hops.one (by simp [Op.operands]) hb) h t x y
    refine ⟨v, ?_, h2⟩
    rw [Sem.run_bind, h1]; rfl
  case unOp op t x =>
    rw [R.bind_ok] at h; obtain ⟨a, ha, h⟩ := h
    obtain ⟨v, h1, h2⟩ := unA_sound (P := P) w (hops.one (by simp [Op.operands]) ha) h
    exact ⟨v, by simp [h1], h2⟩
  case convert s d x =>
    rw [R.bind_ok] at h; obtain ⟨a, ha, h⟩ := h
    obtain ⟨v, h1, h2⟩ := convP_sound ok w (hops.one (by simp [Op.operands]) ha) h
    exact ⟨v, by simp [h1], h2⟩
  case makeInterface t x =>
    rw [R.bind_ok] at h; obtain ⟨a, ha, h⟩ := h
    rw [R.bind_ok] at h; obtain ⟨d, hd, h⟩ := h
    have hc := hops.one (by simp [Op.operands]) ha
    split at h
    · cases h
    · rename_i hni
      cases h
      refine ⟨.iface t (ev x), ?_, by simp only [VRel]; exact ⟨_, rfl, hc⟩⟩
      simp only [Instr.makeInterface, Sem.run_bind, ok.run_und hd, Result.andThen_ok]
      cases d <;> first | (exact absurd rfl (hni _)) | rfl
  case makeFunc fn fs cs =>
    rw [R.bind_ok] at h; obtain ⟨a, ha, h⟩ := h
    rw [R.bind_ok] at h; obtain ⟨b, hb, h⟩ := h
    have h1 : VRels ρ a (fs.map ev).toList := by
      rw [Array.toList_map]; exact OpsRel.list (fun x hx => hops x (by simp [Op.operands] at hx ⊢; exact .inl hx)) ha
    have h2 : VRels ρ b (cs.map ev).toList := by
      rw [Array.toList_map]; exact OpsRel.list (fun x hx => hops x (by simp [Op.operands] at hx ⊢; exact .inr hx)) hb
    split at h
    · cases h
    · rename_i hny
      cases h
      refine ⟨_, rfl, ?_⟩
      simp only [VRel]
      refine ⟨fn, _, _, rfl, ?_, h1, h2⟩
      cases fn <;> first | rfl | exact absurd rfl (hny _)
  case slice t x lo hi mx =>
    rw [R.bind_ok] at h; obtain ⟨a, ha, h⟩ := h
    rw [R.bind_ok] at h; obtain ⟨l, hl, h⟩ := h
    rw [R.bind_ok] at h; obtain ⟨hh, hhh, h⟩ := h
    rw [R.bind_ok] at h; obtain ⟨m, hm, h⟩ := h
    obtain ⟨v, h1, h2⟩ := slice_sound ok w (hops.one (by simp [Op.operands]) ha)
      (opdO_rel hops (fun y hy => by simp [Op.operands, hy]) hl) (opdO_rel hops (fun y hy => by simp [Op.operands, hy]) hhh) (opdO_rel hops (fun y hy => by simp [Op.operands, hy]) hm) h
    exact ⟨v, by simp [h1], h2⟩
  case fieldAddr t x f =>
    rw [R.bind_ok] at h; obtain ⟨a, ha, h⟩ := h
    obtain ⟨v, h1, h2⟩ := fieldAddr_sound ok w (hops.one (by simp [Op.operands]) ha) h
    exact ⟨v, by simp [h1], h2⟩
  case field t x f =>
    rw [R.bind_ok] at h; obtain ⟨a, ha, h⟩ := h
    obtain ⟨v, h1, h2⟩ := fieldA_sound ok w (hops.one (by simp [Op.operands]) ha) h
    exact ⟨v, by simp [h1], h2⟩
  case indexAddr t x i =>
    rw [R.bind_ok] at h; obtain ⟨a, ha, h⟩ := h
    rw [R.bind_ok] at h; obtain ⟨b, hb, h⟩ := h
    obtain ⟨v, h1, h2⟩ := indexAddr_sound ok w (hops.one (by simp [Op.operands]) ha) (hops.one (by simp [Op.operands]) hb) h
    exact ⟨v, by simp [h1], h2⟩
  case index t x i =>
    rw [R.bind_ok] at h; obtain ⟨a, ha, h⟩ := h
    rw [R.bind_ok] at h; obtain ⟨b, hb, h⟩ := h
    obtain ⟨v, h1, h2⟩ := index_sound ok w (hops.one (by simp [Op.operands]) ha) (hops.one (by simp [Op.operands]) hb) h
    exact ⟨v, by simp [h1], h2⟩
  case typeAssert x xt t b =>
    rw [R.bind_ok] at h; obtain ⟨a, ha, h⟩ := h
    obtain ⟨v, h1, h2⟩ := assert_sound ok w (xt := xt) (hops.one (by simp [Op.operands]) ha) h
    exact ⟨v, by simp [h1], h2⟩
  case extract x i =>
    rw [R.bind_ok] at h; obtain ⟨a, ha, h⟩ := h
    have hc := hops.one (by simp [Op.operands]) ha
    split at h
    · rename_i vs
      simp only [VRel] at hc
      obtain ⟨cs, e, hc⟩ := hc
      obtain ⟨v, h1, h2⟩ := hc.get _ _ (R.of_ok.1 h)
      have h3 : cs[i]? = some v := by simpa using h1
      exact ⟨v, by simp [e, Instr.extract, h3], h2⟩
    · cases h
  case call c =>
    obtain ⟨callee, args, argTypes⟩ := c
    rw [R.bind_ok] at h; obtain ⟨as, ha, h⟩ := h
    have hv : VRels ρ as (args.map ev).toList := by
      rw [Array.toList_map]; exact OpsRel.list (fun x hx => hops x (by simp [Op.operands, Call.operands] at hx ⊢; exact .inr hx)) ha
    cases callee with
    | value f => cases h
    | invoke r m => cases h
    | builtin b =>
      simp only at h
      cases b <;> simp only at h <;> try (cases h; done)
      case cap =>
        obtain ⟨v, h1, h2⟩ := cap_sound ok w hv h type
        exact ⟨v, by simp [resolve, invoke, builtin, h1], h2⟩
      case min =>
        obtain ⟨v, h1, h2⟩ := minmax_sound (P := P) w hv h argTypes type
        simp only [Bool.false_eq_true, if_false] at h1
        exact ⟨v, by simp [resolve, invoke, builtin, h1], h2⟩
      case max =>
        obtain ⟨v, h1, h2⟩ := minmax_sound (P := P) w hv h argTypes type
        simp only [if_true] at h1
        exact ⟨v, by simp [resolve, invoke, builtin, h1], h2⟩

end
end Go.Zr
