import Derived.Test.YtkcpfhlfjdnkdaaGreatDoorZrR
namespace Go.Zr

section
variable {P : Program} {tb : Tb} {ρ : Env}

theorem eff_sound (ok : TbOk P tb) {S : Su} (hS : SoundS P tb S) (hg : GlobOk tb ρ) {H H' : Hp} {n n' : Nat} {w : World} (hr : Rel ρ H.get w) (hf : Fresh ρ n) {o : Oper} {T : Tm} {ev : Operand → Value} (hops : OpsRel tb ρ T ev o.op.operands.toList) {v : AV}
    (h : effA tb S o T H n = .ok (v, H', n')) : NextOk P (Good ρ H.get n w v H'.get n') ((execOp ev o).run P w) := by
  obtain ⟨dst, op, type, pos, after, guard⟩ := o
  unfold effA at h
  unfold execOp
  cases op <;> simp only at h ⊢ <;> try (cases h; done)
  case store t a x =>
    rw [R.bind_ok] at h; obtain ⟨va, ha, h⟩ := h
    rw [R.bind_ok] at h; obtain ⟨vx, hx, h⟩ := h
    rw [R.bind_ok] at h; obtain ⟨H1, h1, h⟩ := h
    cases h
    exact (storeA_sound (n := n) ok hr (hops.one (by simp [Op.operands]) ha) (hops.one (by simp [Op.operands]) hx) h1).next
  case convert s d x =>
    rw [R.bind_ok] at h; obtain ⟨a, ha, h⟩ := h
    exact (convE_sound ok hr hf (hops.one (by simp [Op.operands]) ha) h).next
  case makeMap t r =>
    rw [R.bind_ok] at h; obtain ⟨d, hd, h⟩ := h
    split at h
    · rw [R.bind_ok] at h; obtain ⟨r0, hr0, h⟩ := h
      have key : ∀ (rv : Option Value), (rv = none ∨ ∃ k i, rv = some (.int k i)) → NextOk P (Good ρ H.get n w (.map n) (H.set n (some (.map [] 0))).get (n + 1)) ((do pure (.value (← Instr.makeMap t rv)) : Sem Next).run P w) := by
        intro rv hrv
        refine EffV.next ⟨.map (some w.heap.size), w.alloc (.map #[] 0), ρ.put n ⟨w.heap.size, 0, 0⟩, ?_, Ext.map hr hf rfl, by simp only [VRel]; exact ⟨_, Env.put_same, rfl⟩⟩
        rcases hrv with rfl | ⟨k, i, rfl⟩
        · simp [Instr.makeMap]
        · simp [Instr.makeMap, ok.run_und hd, Go.asInt, asIntOf]
      cases r with
      | none =>
        simp only [opdO] at hr0; cases hr0
        simp only [newO, pureM, R.bind] at h; cases h
        exact key none (.inl rfl)
      | some x =>
        simp only [opdO] at hr0
        rw [R.bind_ok] at hr0; obtain ⟨a, ha, hr0⟩ := hr0
        cases hr0
        simp only at h
        rw [R.bind_ok] at h; obtain ⟨i, hi, h⟩ := h
        simp only [newO, pureM, R.bind] at h; cases h
        obtain ⟨k, rfl⟩ := asInt_ok hi
        have hv := hops.one (by simp [Op.operands]) ha
        simp only [VRel] at hv
        exact key (some (ev x)) (.inr ⟨k, i, by rw [hv]⟩)
    · cases h
  case makeSlice t l c =>
    rw [R.bind_ok] at h; obtain ⟨a, ha, h⟩ := h
    rw [R.bind_ok] at h; obtain ⟨b, hb, h⟩ := h
    exact (makeSlice_sound ok hr hf (hops.one (by simp [Op.operands]) ha) (hops.one (by simp [Op.operands]) hb) h).next
  case mapUpdate t m k x =>
    rw [R.bind_ok] at h; obtain ⟨am, hm, h⟩ := h
    rw [R.bind_ok] at h; obtain ⟨ak, hk, h⟩ := h
    rw [R.bind_ok] at h; obtain ⟨ax, hx, h⟩ := h
    rw [R.bind_ok] at h; obtain ⟨H1, h1, h⟩ := h
    cases h
    exact (update_sound (n := n) ok hr (hops.one (by simp [Op.operands]) hm) (hops.one (by simp [Op.operands]) hk) (hops.one (by simp [Op.operands]) hx) h1).next
  case insert t m k x =>
    rw [R.bind_ok] at h; obtain ⟨am, hm, h⟩ := h
    rw [R.bind_ok] at h; obtain ⟨ak, hk, h⟩ := h
    rw [R.bind_ok] at h; obtain ⟨ax, hx, h⟩ := h
    rw [R.bind_ok] at h; obtain ⟨H1, h1, h⟩ := h
    cases h
    exact (update_sound (n := n) ok hr (hops.one (by simp [Op.operands]) hm) (hops.one (by simp [Op.operands]) hk) (hops.one (by simp [Op.operands]) hx) h1).next
  case mapEntry t m k =>
    rw [R.bind_ok] at h; obtain ⟨am, hm, h⟩ := h
    rw [R.bind_ok] at h; obtain ⟨ak, hk, h⟩ := h
    exact (entry_sound ok hr (hops.one (by simp [Op.operands]) hm) (hops.one (by simp [Op.operands]) hk) h).next
  case entryStore t m s x =>
    rw [R.bind_ok] at h; obtain ⟨am, hm, h⟩ := h
    rw [R.bind_ok] at h; obtain ⟨ak, hk, h⟩ := h
    rw [R.bind_ok] at h; obtain ⟨ax, hx, h⟩ := h
    rw [R.bind_ok] at h; obtain ⟨H1, h1, h⟩ := h
    cases h
    exact (entryStore_sound (n := n) hr (hops.one (by simp [Op.operands]) hm) (hops.one (by simp [Op.operands]) hk) (hops.one (by simp [Op.operands]) hx) h1).next
  case range t x =>
    rw [R.bind_ok] at h; obtain ⟨a, ha, h⟩ := h
    rw [R.bind_ok] at h; obtain ⟨d, hd, h⟩ := h
    have hv := hops.one (by simp [Op.operands]) ha
    split at h
    · simp only [newO, pureM, R.bind] at h; cases h
      simp only [VRel] at hv
      rw [hv]
      exact (range_sound ok hr hf hd).next
    · exact (rangeM_sound ok hr hf hd hv h).next
    · cases h
  case next it isS =>
    rw [R.bind_ok] at h; obtain ⟨a, ha, h⟩ := h
    have hv := hops.one (by simp [Op.operands]) ha
    split at h
    · rename_i r im
      split at h
      · rename_i s pos hg
        have hn : n' = n := by
          cases hb : Nat.blt pos s.length <;> simp only [hb, cond_true, cond_false, pureM] at h <;> cases h <;> rfl
        subst hn
        exact (next_sound hr hg hv h).next
      · cases h
    · exact (nextM_sound hr hv h).next
    · cases h
  case entry it =>
    rw [R.bind_ok] at h; obtain ⟨a, ha, h⟩ := h
    have hv := hops.one (by simp [Op.operands]) ha
    split at h
    · rw [R.bind_ok] at h; obtain ⟨b, hb, h⟩ := h
      simp only [pureM] at h; cases h
      obtain ⟨x, h1, h2⟩ := entryM_sound (P := P) hr hv hb
      exact EffV.next ⟨x, w, ρ, h1, Ext.refl hr rfl, h2⟩
    · cases h
  case call c =>
    obtain ⟨callee, args, argTypes⟩ := c
    rw [R.bind_ok] at h; obtain ⟨as, ha, h⟩ := h
    have hv : VRels ρ as (args.map ev).toList := by
      rw [Array.toList_map]; exact OpsRel.list (fun x hx => hops x (by simp [Op.operands, Call.operands] at hx ⊢; exact .inr hx)) ha
    cases callee with
    | value f =>
      simp only at h
      rw [R.bind_ok] at h; obtain ⟨af, haf, h⟩ := h
      exact call_sound ok hS hg hr hf (hops.one (by simp [Op.operands, Call.operands]) haf) hv h
    | invoke r m =>
      simp only at h
      rw [R.bind_ok] at h; obtain ⟨ar, har, h⟩ := h
      have hrv := hops.one (by simp [Op.operands, Call.operands]) har
      have := callMethod_sound ok hS hg hr hf hrv hv h
      have e1 : (#[ev r] ++ args.map ev)[0]? = some (ev r) := (extract_one (vs := #[ev r] ++ args.map ev) (v := ev r) (r := (args.map ev).toList) (by simp)).1
      have e2 : (#[ev r] ++ args.map ev).extract 1 (#[ev r] ++ args.map ev).size = args.map ev := by
        apply Array.ext'
        have := (extract_one (vs := #[ev r] ++ args.map ev) (v := ev r) (r := (args.map ev).toList) (by simp)).2
        exact this
      show NextOk P _ ((do let d ← resolve ev { callee := .invoke r m, args, argTypes } type; invoke d.target d.args : Sem Next).run P w)
      simp only [resolve, Sem.run_bind, Sem.run_pure, Result.andThen_ok, invoke, e1, e2]
      exact this
    | builtin b =>
      simp only at h
      have red : ∀ (s : Sem Value), (∀ cs, builtin b argTypes type cs (args.map ev) = (do pure (.value (← s)))) → EffV P ρ H.get n w v H'.get n' s →
          NextOk P (Good ρ H.get n w v H'.get n') ((do let d ← resolve ev { callee := .builtin b, args, argTypes } type; invoke d.target d.args : Sem Next).run P w) := by
        intro s hs he
        simp only [resolve, Sem.run_bind, Sem.run_pure, Result.andThen_ok, invoke]
        rw [hs]; exact he.next
      cases b <;> simp only at h <;> try (cases h; done)
      case append => exact red _ (fun _ => rfl) (append_sound ok hr hf hv h type)
      case copy => exact red _ (fun _ => rfl) (copy_sound ok hr hv h type)
      case clear => exact red _ (fun _ => rfl) (clear_sound ok hr hv h type)
      case delete => exact red _ (fun _ => rfl) (delete_sound ok hr hv h type)
      case unsafeString =>
        refine red _ (fun _ => rfl) ?_
        cases hts : argTypes.toList.isEmpty with
        | true => rw [hts] at h; cases h
        | false =>
          simp only [hts, cond_false] at h
          obtain ⟨pt, h0⟩ : ∃ pt, argTypes[0]? = some pt := by
            cases hl : argTypes.toList with
            | nil => rw [hl] at hts; simp at hts
            | cons x l => exact ⟨x, first_at hl⟩
          split at h
          · simp only [pureM] at h; cases h
            obtain ⟨v1, v2, e, h1, h2⟩ := two_args hv rfl
            simp only [VRel] at h1 h2; subst h1 h2
            rw [e]
            exact unsafeString_none hr h0
          · rename_i o im off q k
            obtain ⟨v1, v2, e, h1, h2⟩ := two_args hv rfl
            simp only [VRel] at h2; subst h2
            rw [e]
            cases hk : (k == 0) with
            | true =>
              simp only [hk, cond_true, pureM] at h; cases h
              have : k = 0 := by simpa using hk
              subst this
              simp only [VRel] at h1
              obtain ⟨L, _, rfl⟩ := h1
              exact unsafeString_none hr h0
            | false =>
              simp only [hk, cond_false] at h
              have hk0 : k ≠ 0 := by simpa using hk
              split at h
              · rename_i t cs kk hg
                cases hbad : (Nat.beq kk 1 || !(uStrOk tb argTypes.toList t) || decide (k < 0) || !(Nat.ble k.toNat 1099511627776)) with
                | true => simp [hbad] at h
                | false =>
                  simp only [hbad, cond_false] at h
                  rw [R.bind_ok] at h; obtain ⟨l, hl, h⟩ := h
                  rw [R.bind_ok] at h; obtain ⟨s, hs, h⟩ := h
                  simp only [pureM] at h; cases h
                  exact unsafeString_sound ok hr h1 hg hbad hk0 hl (R.of_ok.1 hs)
              · cases h
          · cases h

/-- Any operation. -/
theorem op_sound (ok : TbOk P tb) {S : Su} (hS : SoundS P tb S) (hg : GlobOk tb ρ) {H H' : Hp} {n n' : Nat} {w : World} (hr : Rel ρ H.get w) (hf : Fresh ρ n) {o : Oper} {T : Tm} {ev : Operand → Value} (hops : OpsRel tb ρ T ev o.op.operands.toList) {v : AV}
    (h : opA tb S o T H n = .ok (v, H', n')) : NextOk P (Good ρ H.get n w v H'.get n') ((execOp ev o).run P w) := by
  unfold opA at h
  split at h
  · rw [R.bind_ok] at h; obtain ⟨a, ha, h⟩ := h
    cases h
    obtain ⟨x, h1, h2⟩ := pure_sound ok w hops ha
    rw [h1]
    exact ⟨ρ, Ext.refl hr rfl, h2⟩
  · rename_i hk
    rw [R.bind_ok] at h; obtain ⟨a, ha, h⟩ := h
    cases h
    obtain ⟨x, h1, h2⟩ := read_sound ok hr hops hk ha
    rw [h1]
    exact ⟨ρ, Ext.refl hr rfl, h2⟩
  · rw [R.bind_ok] at h; obtain ⟨r, hr', h⟩ := h
    cases h
    obtain ⟨x, c, h1, h2, h3⟩ := alloc_sound ok hr (hf n (Nat.le_refl n)) hops hr'
    rw [h1]
    have hl := h3.length
    refine ⟨_, Ext.row hr hf (c := c) (fr := (0, 0)) rfl ?_ (by simpa using Nat.le_of_eq hl) (by simp) (by simp) rfl rfl rfl, h2 _ (Env.le_put (hf n (Nat.le_refl n))) Env.put_same⟩
    rw [List.take_of_length_le (by omega)]; exact h3
  · exact eff_sound ok hS hg hr hf hops h

end
end Go.Zr
