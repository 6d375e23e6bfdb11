import Derived.Test.YtkcpfhlfjdnkdaaGreatDoorZsB
namespace Go.Zr

section
variable {P : Program} {tb : Tb} {S : Su} {sz : Nat} {ρ : Env}

theorem slot_get {T : Tm} {tmps : Array Value} (h : TRel ρ T tmps) (t : Tmp) : VRel ρ ((T.get t).getD undA) (tmps.getD t undef) := by
  cases hT : T.get t with
  | none => rw [h.2 t hT]; exact und_rel
  | some y =>
    obtain ⟨x, h1, h2⟩ := h.1 t y hT
    rw [Array.getD_eq_getD_getElem?, h1]; exact h2

/-- A result. -/
def resOf (tmps : Array Value) : ResultVar → Sem Value
  | .tmp t => pure (tmps.getD t undef)
  | .cell a t => do loadVar t (← asAddr (tmps.getD a undef))

theorem res_sound (ok : TbOk P tb) {H : Hp} {w : World} (hr : Rel ρ H.get w) {T : Tm} {tmps : Array Value} (ht : TRel ρ T tmps) : ∀ (l : List ResultVar) (vs : List AV), resA tb T H l = .ok vs →
    ∃ cs : List Value, (l.mapM (resOf tmps)).run P w = .ok cs w ∧ VRels ρ vs cs
  | [], vs, h => by
    simp only [resA] at h; cases h
    exact ⟨[], by simp, .nil⟩
  | .tmp t :: l, vs, h => by
    simp only [resA] at h
    rw [R.bind_ok] at h; obtain ⟨r, hr', h⟩ := h
    cases h
    obtain ⟨cs, h1, h2⟩ := res_sound ok hr ht l r hr'
    refine ⟨tmps.getD t undef :: cs, ?_, .cons (slot_get ht t) h2⟩
    rw [List.mapM_cons]
    simp only [Sem.run_bind, resOf, Sem.run_pure, Result.andThen_ok]
    rw [h1]; rfl
  | .cell a t :: l, vs, h => by
    simp only [resA] at h
    rw [R.bind_ok] at h; obtain ⟨v, hv, h⟩ := h
    rw [R.bind_ok] at h; obtain ⟨r, hr', h⟩ := h
    cases h
    obtain ⟨cs, h1, h2⟩ := res_sound ok hr ht l r hr'
    obtain ⟨p, x, e, h3, h4⟩ := load_sound ok hr (slot_get ht a) hv
    refine ⟨x :: cs, ?_, .cons h4 h2⟩
    have h5 : (resOf tmps (.cell a t)).run P w = .ok x w := by
      simp only [resOf, e, asAddr, Sem.run_bind, Sem.run_pure, Result.andThen_ok, h3]
    rw [List.mapM_cons]
    simp only [Sem.run_bind, h5, Sem.run_pure, Result.andThen_ok]
    rw [h1]; rfl

theorem results_sound (ok : TbOk P tb) {H : Hp} {w : World} (hr : Rel ρ H.get w) {T : Tm} {tmps : Array Value} (ht : TRel ρ T tmps) {fn : Func} {vs : List AV} (h : resA tb T H fn.results.toList = .ok vs) :
    ∃ v, (results fn tmps).run P w = .ok v w ∧ VRel ρ (oneOf vs) v := by
  obtain ⟨cs, h1, h2⟩ := res_sound ok hr ht _ _ h
  have h3 : results fn tmps = (do let vs ← fn.results.mapM (resOf tmps); pure (if h : vs.size = 1 then vs[0] else .tuple vs)) := by
    unfold results
    congr 1
  refine ⟨if h : cs.toArray.size = 1 then cs.toArray[0] else .tuple cs.toArray, ?_, ?_⟩
  · rw [h3, Array.mapM_eq_mapM_toList, Sem.run_bind, Sem.run_map, h1]; rfl
  have hl := h2.length
  unfold oneOf
  split
  · rename_i v
    simp only [VRels] at h2
    obtain ⟨x, r, rfl, h3, rfl⟩ := h2
    simpa using h3
  · rename_i hne
    have hne1 : ¬ cs.toArray.size = 1 := by
      intro e
      have hl1 : vs.length = 1 := by rw [hl]; simpa using e
      obtain ⟨x, rfl⟩ := List.length_eq_one_iff.1 hl1
      exact hne x rfl
    rw [dif_neg hne1]
    simp only [VRel]
    exact ⟨_, rfl, by simpa using h2⟩

theorem shut_sound (ok : TbOk P tb) {fn : Func} {tmps : Array Value} {R : Ending → World → Prop} {k n : Nat} : ∀ (D : List Nat) (H H' : Hp) (w : World) (ds : List Deferred), shutA D H = some H' → DRel ρ D ds → Rel ρ H.get w →
    (∀ w', Ext ρ H.get n w ρ H'.get n w' → ∃ v, (results fn tmps).run P w' = .ok v w' ∧ R (.returned v) w') → LeavesInM Fence.wide k P fn tmps R ds .returning w
  | [], H, H', w, ds, h, hd, hr, hq => by
    simp only [shutA] at h; cases h
    simp only [DRel] at hd; subst hd
    exact hq w (Ext.refl hr rfl)
  | d :: D, H, H', w, ds, h, hd, hr, hq => by
    simp only [shutA] at h
    obtain ⟨L, r, hL, rfl, hd'⟩ := hd
    split at h
    · rename_i hg
      obtain ⟨M, m1, m2⟩ := hr.obj d _ hg
      rw [hL] at m1; cases m1
      have hx : Ext ρ H.get n w ρ (H.set d none).get n (w.putObj L.blk (.deferred none)) := by
        rw [upd_set]
        exact Ext.drop hr hg rfl hL (by simp [World.putObj]) (fun b hb => World.putObj_heap_other hb)
      refine ⟨by simp, .inl ⟨L.blk, _, rfl, run_takeDeferred m2, shut_sound ok D _ H' _ r h hd' hx.rel (fun w' hx' => hq w' (hx.trans hx'))⟩⟩
    · cases h

theorem replicate_trel {args : List AV} {vs : Array Value} (hv : VRels ρ args vs.toList) (m : Nat) : TRel ρ (PT.ofList args) (vs ++ Array.replicate m undef) := by
  have hl : args.length = vs.size := by have := hv.length; simpa using this
  refine ⟨fun i a ha => ?_, fun i hi => ?_⟩
  · rw [PT.get_ofList] at ha
    obtain ⟨x, h1, h2⟩ := hv.get i a ha
    refine ⟨x, ?_, h2⟩
    have hlt : i < vs.size := by
      rw [← hl]
      rcases Nat.lt_or_ge i args.length with h | h
      · exact h
      · rw [List.getElem?_eq_none h] at ha; cases ha
    rw [Array.getElem?_append_left hlt]
    simpa using h1
  · rw [PT.get_ofList] at hi
    have hge : vs.size ≤ i := by
      rw [← hl]; exact List.getElem?_eq_none_iff.1 hi
    rw [Array.getD_eq_getD_getElem?, Array.getElem?_append_right hge, Array.getElem?_replicate]
    split <;> rfl

/-- A function's body. -/
theorem body_sound (ok : TbOk P tb) (hm : P.follows .mixedOrders = true) (hS : SoundS P tb S) {fuel : Nat} {f : FuncId} {fn : Func} (hf : P.funcs[f]? = some fn) {args : List AV} {H H' : Hp} {n n' : Nat} {v : AV} (h : bodyA tb S fuel fn args H n = .ok (v, H', n')) {w : World} {vs : Array Value}
    (hg : GlobOk tb ρ) (hr : Rel ρ H.get w) (hfr : Fresh ρ n) (hv : VRels ρ args vs.toList) : fn.body.isSome = true ∧ CallsIn Fence.wide 0 P f vs w (Ret (Good ρ H.get n w v H'.get n')) := by
  unfold bodyA at h
  split at h
  · cases h
  · rename_i c hc
    refine ⟨by rw [hc]; rfl, callsIn_of_wp_marks hf hc trivial ?_⟩
    have hl : args.length = vs.size := by have := hv.length; simpa using this
    have hs : SRel tb ρ (Nat.max fn.ntmps args.length) ⟨PT.ofList args, H, n, []⟩ { tmps := vs ++ Array.replicate (fn.ntmps - vs.size) undef, defers := [] } w :=
      ⟨hr, hfr, ⟨replicate_trel hv _, by simp [hl]; show max fn.ntmps vs.size ≤ _; omega, hg⟩, rfl⟩
    have leave : ∀ (s : St), leaveA tb fn s = .ok (v, H', n') → ∀ ρ' a' w', Ext ρ H.get n w ρ' s.H.get s.n w' → SRel tb ρ' (Nat.max fn.ntmps args.length) s a' w' → LeavesInM Fence.wide 0 P fn a'.tmps (Ret (Good ρ H.get n w v H'.get n')) a'.defers .returning w' := by
      intro s hlv ρ' a' w' hx hs'
      unfold leaveA at hlv
      split at hlv
      · cases hlv
      · rename_i H1 hsh
        rw [R.bind_ok] at hlv; obtain ⟨rs, hrs, hlv⟩ := hlv
        cases hlv
        refine shut_sound (n := s.n) ok s.D s.H H' w' a'.defers hsh hs'.defs hs'.rel (fun w2 hx2 => ?_)
        obtain ⟨x, h1, h2⟩ := results_sound ok hx2.rel hs'.fr.tmp hrs
        exact ⟨x, h1, ρ', hx.trans hx2, h2⟩
    split at h
    · rename_i s hc'
      exact code_sound ok hm hS c _ _ s hc' none 0 ρ _ w _ rfl hs (fun ρ' a' w' hx hs' => leave s h ρ' a' w' hx hs')
    · rename_i s hc'
      exact code_sound ok hm hS c _ _ s hc' none 0 ρ _ w _ rfl hs (fun ρ' a' w' hx hs' => leave s h ρ' a' w' hx hs')
    · cases h
    · cases h

theorem putAll_trel {T1 : Tm} : ∀ (ps : List Tmp) (args : List AV) (T : Tm) (vs : List Value) (tmps : Array Value), putAll sz T ps args = some T1 → TRel ρ T tmps → sz ≤ tmps.size → VRels ρ args vs →
    ps.length = vs.length ∧ TRel ρ T1 ((ps.zip vs).foldl (fun tmps (t, a) => tmps.setIfInBounds t a) tmps) ∧ sz ≤ ((ps.zip vs).foldl (fun tmps (t, a) => tmps.setIfInBounds t a) tmps).size
  | [], [], T, vs, tmps, h, ht, hs, hv => by
    simp only [putAll] at h; cases h
    simp only [VRels] at hv; subst hv
    exact ⟨rfl, ht, hs⟩
  | [], _ :: _, T, vs, tmps, h, _, _, _ => by simp [putAll] at h
  | _ :: _, [], T, vs, tmps, h, _, _, _ => by simp [putAll] at h
  | p :: ps, x :: l, T, vs, tmps, h, ht, hs, hv => by
    simp only [putAll] at h
    simp only [VRels] at hv
    obtain ⟨v, r, rfl, h1, h2⟩ := hv
    cases hb : Nat.blt p sz with
    | false => simp [hb] at h
    | true =>
      simp only [hb, cond_true] at h
      have hp : putD sz T (some p) x = .ok (T.set p (some x)) := by simp [putD, hb]
      have hput : TRel ρ (T.set p (some x)) (tmps.setIfInBounds p v) := by
        have hd : p < sz := by simpa [Nat.blt_eq] using hb
        refine ⟨fun i y hi => ?_, fun i hi => ?_⟩
        · rw [PT.get_set] at hi
          by_cases e : i = p
          · subst e
            rw [if_pos rfl] at hi; cases hi
            have hlt : i < tmps.size := Nat.lt_of_lt_of_le hd hs
            exact ⟨v, by simp [hlt], h1⟩
          · rw [if_neg e] at hi
            obtain ⟨z, h3, h4⟩ := ht.1 i y hi
            exact ⟨z, by simp [Ne.symm e, h3], h4⟩
        · rw [PT.get_set] at hi
          by_cases e : i = p
          · rw [if_pos e] at hi; cases hi
          · rw [if_neg e] at hi
            have := ht.2 i hi
            simp only [Array.getD_eq_getD_getElem?] at this ⊢
            simp only [Array.getElem?_setIfInBounds, Ne.symm e, if_false]
            exact this
      obtain ⟨g1, g2, g3⟩ := putAll_trel ps l _ r _ h hput (by simpa using hs) h2
      exact ⟨by simp [g1], by simpa using g2, by simpa using g3⟩

/-- One round. -/
theorem round_sound (ok : TbOk P tb) (hm : P.follows .mixedOrders = true) (hS : SoundS P tb S) {fuel : Nat} {l : Nat} {args : List AV} {H H' : Hp} {n n' : Nat} {v : AV} (h : roundA tb S fuel l args H n = .ok (v, H', n')) {w : World} {vs : Array Value}
    (hg : GlobOk tb ρ) (hr : Rel ρ H.get w) (hfr : Fresh ρ n) (hv : VRels ρ args vs.toList) {L : Loc} (hL : ρ.loc l = some L) : NextOk P (Good ρ H.get n w v H'.get n') ((Instr.yield L.blk vs).run P w) := by
  unfold roundA at h
  split at h
  · rename_i pe0 T z ps as bo d hg0
    split at h
    · cases h
    · rename_i T1 hT1
      obtain ⟨r, r1, r2, r3, r4, r5, r6, r7, r8, _, _⟩ := loop_turn (n := 0) (st' := .ready) (pe' := none) hr hg0 hL
      obtain ⟨g1, g2, g3⟩ := putAll_trel ps args T vs.toList r.tmps hT1 r7 r8 hv
      have hsz : vs.size = r.params.size := by rw [r4]; simpa using g1.symm
      rw [run_yield r1 hsz]
      simp only [NextOk]
      have hfold : (r.params.zip vs).foldl (fun tmps (t, a) => tmps.setIfInBounds t a) r.tmps = (ps.zip vs.toList).foldl (fun tmps (t, a) => tmps.setIfInBounds t a) r.tmps := by
        rw [r4, ← Array.foldl_toList, Array.toList_zip]
      rw [hfold]
      split at h
      · rename_i s1 h1
        split at h
        · rename_i pe2 T2 sz2 ps2 as2 bo2 d2 hg2
          split at h
          · rename_i out s2 h2
            split at h
            · rename_i st3 pe3 T3 sz3 ps3 as3 bo3 d3 hg3
              split at h
              · rename_i bb st' pe' hend
                simp only [pureM] at h; cases h
                refine roundIn_of_wpIn (F := Fence.wide) trivial ?_
                have hs : SRel tb ρ z ⟨T1, H, n, []⟩ { tmps := (ps.zip vs.toList).foldl (fun tmps (t, a) => tmps.setIfInBounds t a) r.tmps, defers := [] } w := ⟨hr, hfr, ⟨g2, g3, hg⟩, rfl⟩
                rw [r5]
                refine code_sound ok hm hS as _ _ s1 h1 (some L.blk) 0 ρ _ w _ ⟨L, hL, rfl⟩ hs (fun ρ1 a1 w1 hx1 hs1 => ?_)
                have hL1 := hx1.le.loc _ _ hL
                obtain ⟨q, q1, q2, q3, q4, q5, q6, q7, q8, _, hx2⟩ := loop_turn (n := s1.n) (st' := .busy) (pe' := pe2) hs1.rel hg2 hL1
                refine ⟨_, run_beginRound q1 q2, ?_⟩
                have hput : (w1.putObj L.blk (.loop { q with state := .busy, pending := pe2 })) = w1.putObj L.blk (.loop { q with state := .busy }) := by rw [← q3]
                rw [hput] at hx2
                have hs2 : SRel tb ρ1 z ⟨s1.T, s1.H.set l (some (.loop .busy pe2 T2 sz2 ps2 as2 bo2 d2)), s1.n, s1.D⟩ a1 (w1.putObj L.blk (.loop { q with state := .busy })) :=
                  ⟨hx2.rel, hs1.fresh, hs1.fr, hs1.defs⟩
                rw [r6]
                refine code_sound ok hm hS bo _ _ s2 h2 (some L.blk) 0 ρ1 a1 _ _ ⟨L, hL1, rfl⟩ hs2 (fun ρ3 a3 w3 hx3 hs3 => ?_)
                have hL3 := hx3.le.loc _ _ hL1
                obtain ⟨u, u1, u2, u3, u4, u5, u6, u7, u8, _, hx4⟩ := loop_turn (n := s2.n) (st' := st') (pe' := pe') hs3.rel hg3 hL3
                have hall := ((hx1.trans hx2).trans hx3).trans hx4
                cases out with
                | normal =>
                  simp only [endA] at hend; cases hend
                  exact ⟨_, _, run_endRound none u1, ρ3, hall, VRel.bool⟩
                | exit id =>
                  simp only [endA] at hend; cases hend
                  exact ⟨_, _, run_endRound (some (.exit id)) u1, ρ3, hall, VRel.bool⟩
                | ret =>
                  simp only [endA] at hend; cases hend
                  exact ⟨_, _, run_endRound (some .ret) u1, ρ3, hall, VRel.bool⟩
              · cases h
            · cases h
          · cases h
        · cases h
      · cases h
      · cases h
  · cases h

/-- What is told of functions without a look at their bodies. -/
def BaseOk (P : Program) (tb : Tb) (base : Nat → Option (Su → List AV → Hp → Nat → M AV)) : Prop :=
  ∀ f b, base f = some b → ∀ S, SoundS P tb S → ∀ args H n v H' n', b S args H n = .ok (v, H', n') → ∀ ρ w (vs : Array Value), GlobOk tb ρ → Rel ρ H.get w → Fresh ρ n → VRels ρ args vs.toList →
    NextOk P (Good ρ H.get n w v H'.get n') ((callFunc f vs).run P w)

def FnsOk (P : Program) (fns : PT Func) : Prop := ∀ f fn, fns.get f = some fn → P.funcs[f]? = some fn ∧ (fn.name == "runtime.NumGoroutine") = false

end
end Go.Zr
