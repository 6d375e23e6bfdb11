import Derived.Test.YtkcpfhlfjdnkdaaGreatDoorZsA
import Derived.RangeFuncRecord
import Derived.RangeFuncLeaves
import Derived.Scope
namespace Go.Zr

section
variable {F : Fence} {n : Nat} {P : Program} {b : Frame} {a : Act} {k : List Item} {cs : List Frame} {w : World} {Q : Exit → Act → World → Prop}

theorem stepR_scope {c : Code} : step P (lone (b.atR a (.code (.scope c) :: k)) cs w) = .next (lone (b.atR a (.code c :: .inScope c :: k)) cs w) :=
  step_lone_go (by simp [stepG, stepG.exec, Frame.atR])
theorem stepR_inScope {c : Code} : step P (lone (b.atR a (.inScope c :: k)) cs w) = .next (lone (b.atR a k) cs w) :=
  step_lone_go (by simp [stepG, stepG.exec, Frame.atR])

theorem wpIn_scope {c : Code} (h : c.wpIn F n P (Exit.noGoto Q) a w) : (Code.scope c).wpIn F n P Q a w := by
  intro b k cs hro hb hr
  have h0 : (lone (b.atR a (.code (.scope c) :: k)) cs w).fenced P F := fenced_calm hb hr rfl
  obtain ⟨e, a₁, w₁, hq, harr⟩ := h b (.inScope c :: k) cs hro hb hr
  cases e with
  | normal => exact ⟨.normal, a₁, w₁, hq, .head h0 stepR_scope (StepsIn.trans harr (.one (fenced_calm hb hr rfl) stepR_inScope))⟩
  | exit id =>
    refine ⟨.exit id, a₁, w₁, hq, fun k' hk => .head h0 stepR_scope (harr.1 k' (by simp [exitTo, hk])), fun hro' hk => ?_⟩
    obtain ⟨k₁, h1, h2⟩ := harr.2 hro' (by simp [exitTo, hk])
    exact ⟨k₁, h1, .head h0 stepR_scope h2⟩
  | goto l => exact hq.elim
  | ret => exact ⟨_, a₁, w₁, hq, .of_steps (.one h0 stepR_scope) harr⟩
  | panic ch => exact ⟨_, a₁, w₁, hq, .of_steps (.one h0 stepR_scope) harr⟩
  | outgrown => exact ⟨_, a₁, w₁, hq, .of_steps (.one h0 stepR_scope) harr⟩
end

section
variable {P : Program} {tb : Tb} {S : Su} {sz : Nat}

/-- An object of one's own is given up, its block being turned. -/
theorem Ext.drop {ρ : Env} {g : Gh} {n : Nat} {w w' : World} {o : Nat} {ob : AObj} {L : Loc} (h : Rel ρ g w) (hg : g o = some ob) (hown : ob.own = true) (hL : ρ.loc o = some L)
    (hsz : w'.heap.size = w.heap.size) (hh : ∀ b, b ≠ L.blk → w'.heap[b]? = w.heap[b]?)
    (ht : w'.tape = w.tape := by rfl) (ho : w'.os = w.os := by rfl) (hp : w'.output = w.output := by rfl) : Ext ρ g n w ρ (upd g o none) n w' := by
  have hheld : Held ρ g L.blk := ⟨o, ob, L, hg, hown, hL, rfl⟩
  have look : ∀ i x, upd g o none i = some x → i ≠ o ∧ g i = some x := by
    intro i x hi
    by_cases e : i = o
    · subst e; simp [upd] at hi
    · exact ⟨e, by simpa [upd, e] using hi⟩
  have other : ∀ i x M, i ≠ o → g i = some x → ρ.loc i = some M → M.blk ≠ L.blk := fun i x M hne hi hM e => h.sep o i ob x L M (Ne.symm hne) hg hi hown hL hM e.symm
  refine ⟨.refl ρ, ⟨?_, ?_, ?_, ?_⟩, Nat.le_refl n, fun _ _ x => .inl x, fun i x hi => .inl ⟨x, (look i x hi).2⟩, by omega, fun b _ hn => hh b (fun e => hn (e ▸ hheld)), ?_, fun _ _ _ x _ => .inl x, ht, ho, hp⟩
  · intro i x hi
    obtain ⟨e, hi⟩ := look i x hi
    obtain ⟨M, m1, m2⟩ := h.obj i x hi
    exact ⟨M, m1, m2.of_heap (hh _ (other i x M e hi m1))⟩
  · intro i j x y M N hne hi hj hx hM hN
    exact h.sep i j x y M N hne (look i x hi).2 (look j y hj).2 hx hM hN
  · intro b i v hv
    rw [cell_of_heap (hh b (h.immSep o ob L b i v hg hown hL hv))]; exact h.imm b i v hv
  · intro i x M b k v hi hx hM hv
    exact h.immSep i x M b k v (look i x hi).2 hx hM hv
  · intro i x M hi hM hlt
    obtain ⟨e, hi⟩ := look i x hi
    cases hbx : x.own with
    | false => exact .inl ⟨rfl, ⟨x, hi⟩, hM⟩
    | true => exact .inr ⟨i, x, M, hi, hbx, hM, rfl⟩

/-- The marks among the deferred calls. -/
def DRel (ρ : Env) : List Nat → List Deferred → Prop
  | [], ds => ds = []
  | d :: D, ds => ∃ L r, ρ.loc d = some L ∧ ds = { target := .collected L.blk, args := #[] } :: r ∧ DRel ρ D r

theorem DRel.mono {ρ ρ' : Env} (h : Env.Le ρ ρ') : ∀ {D : List Nat} {ds : List Deferred}, DRel ρ D ds → DRel ρ' D ds
  | [], _, r => r
  | d :: D, ds, r => by
    obtain ⟨L, t, h1, h2, h3⟩ := r
    exact ⟨L, t, h.loc _ _ h1, h2, DRel.mono h h3⟩

def RoRel (ρ : Env) : Option Nat → Option Nat → Prop
  | none, r => r = none
  | some l, r => ∃ L, ρ.loc l = some L ∧ r = some L.blk

theorem RoRel.mono {ρ ρ' : Env} (h : Env.Le ρ ρ') {a r : Option Nat} (x : RoRel ρ a r) : RoRel ρ' a r := by
  cases a with
  | none => exact x
  | some l => obtain ⟨L, h1, h2⟩ := x; exact ⟨L, h.loc _ _ h1, h2⟩

structure SRel (tb : Tb) (ρ : Env) (sz : Nat) (s : St) (a : Act) (w : World) : Prop where
  rel : Rel ρ s.H.get w
  fresh : Fresh ρ s.n
  fr : FRel tb ρ s.T sz a
  defs : DRel ρ s.D a.defers

def exOf : Out → Exit
  | .normal => .normal
  | .exit id => .exit id
  | .ret => .ret

/-- What is asked behind a piece of code. -/
def Behind (tb : Tb) (sz : Nat) (ρ : Env) (s : St) (w : World) (out : Out) (s' : St) (Q : Exit → Act → World → Prop) : Prop :=
  ∀ ρ' a' w', Ext ρ s.H.get s.n w ρ' s'.H.get s'.n w' → SRel tb ρ' sz s' a' w' → Q (exOf out) a' w'

/-- A piece of code does what the evaluator says. -/
def CodeOk (P : Program) (tb : Tb) (sz : Nat) (around : Option Nat) (c : Code) (s : St) (out : Out) (s' : St) : Prop :=
  ∀ (ro : Option Nat) (k : Nat) (ρ : Env) (a : Act) (w : World) (Q : Exit → Act → World → Prop), RoRel ρ around ro → SRel tb ρ sz s a w → Behind tb sz ρ s w out s' Q → c.wpIn (Fw ro) k P Q a w

theorem loop_ok {around : Option Nat} {c : Code} {body : St → Re} (hb : ∀ s out s', body s = .ok (out, s') → CodeOk P tb sz around c s out s') :
    ∀ (fuel : Nat) (s : St) (out : Out) (s' : St), loopA body fuel s = .ok (out, s') → ∀ (ro : Option Nat) (k : Nat) (ρ : Env) (a : Act) (w : World) (Q : Exit → Act → World → Prop), RoRel ρ around ro → SRel tb ρ sz s a w → Behind tb sz ρ s w out s' Q → Code.roundsIn (Fw ro) k P c Q fuel a w
  | 0, s, out, s', h => by simp [loopA] at h
  | fuel + 1, s, out, s', h => by
    intro ro k ρ a w Q hro hs hq
    rw [roundsIn_succ]
    simp only [loopA] at h
    split at h
    · rename_i s1 h1
      refine hb s _ s1 h1 ro k ρ a w _ hro hs (fun ρ1 a1 w1 hx1 hs1 => ?_)
      exact loop_ok hb fuel s1 out s' h ro k ρ1 a1 w1 Q (hro.mono hx1.le) hs1 (fun ρ2 a2 w2 hx2 hs2 => hq ρ2 a2 w2 (hx1.trans hx2) hs2)
    · rename_i hne
      refine hb s out s' h ro k ρ a w _ hro hs (fun ρ1 a1 w1 hx1 hs1 => ?_)
      have := hq ρ1 a1 w1 hx1 hs1
      cases out with
      | normal => exact absurd h (hne s')
      | exit id => exact this
      | ret => exact this

/-- A round's record turns. -/
theorem loop_turn {ρ : Env} {H : Hp} {n : Nat} {w : World} (hr : Rel ρ H.get w) {l : Nat} {L : Loc} {st st' : LoopState} {pe pe' : Option Code} {T : Tm} {z : Nat} {ps : List Tmp} {as bo : Code} {d : Nat} (hg : H.get l = some (.loop st pe T z ps as bo d)) (hL : ρ.loc l = some L) :
    ∃ r : Loop, w.heap[L.blk]? = some (.loop r) ∧ r.state = st ∧ r.pending = pe ∧ r.params = ps.toArray ∧ r.assign = as ∧ r.body = bo ∧ TRel ρ T r.tmps ∧ z ≤ r.tmps.size ∧ (∃ Ld, ρ.loc d = some Ld ∧ r.defers = Ld.blk) ∧
      Ext ρ H.get n w ρ (H.set l (some (.loop st' pe' T z ps as bo d))).get n (w.putObj L.blk (.loop { r with state := st', pending := pe' })) := by
  obtain ⟨M, m1, fn, tmps, Ld, h1, h2, h3, h4⟩ := hr.obj l _ hg
  rw [hL] at m1; cases m1
  refine ⟨_, h1, rfl, rfl, rfl, rfl, rfl, h2, h3, ⟨Ld, h4, rfl⟩, ?_⟩
  rw [upd_set]
  have hlt : L.blk < w.heap.size := (Array.getElem?_eq_some_iff.1 h1).1
  exact Ext.turn hr hg rfl hL (by simp [World.putObj]) (fun b hb => World.putObj_heap_other hb) ⟨fn, tmps, Ld, World.putObj_heap_same hlt, h2, h3, h4⟩

theorem callFunc_bodied (ok : TbOk P tb) {f : Nat} (h : tb.bodied f = true) (vs : Array Value) (w : World) : (callFunc f vs).run P w = .ok (.enter f vs) w := by
  obtain ⟨fn, c, h1, h2, h3⟩ := ok.bodied f h
  have hn : ¬ fn.name = "runtime.NumGoroutine" := by simpa using h3
  unfold callFunc
  simp [h1, h2, hn]

def markD (around : Option Nat) (d : Nat) (D : List Nat) : List Nat := match around with | none => d :: D | some _ => D

/-- A range over a function. -/
theorem rangeFunc_ok (ok : TbOk P tb) (hS : SoundS P tb S) {fuel : Nat} {around : Option Nat} {f : Operand} {ps : Array Tmp} {as bo : Code} {s : St} {out : Out} {s' : St} (h : codeA tb S fuel sz around (.rangeFunc f ps as bo) s = .ok (out, s')) : CodeOk P tb sz around (.rangeFunc f ps as bo) s out s' := by
  intro ro k ρ a w Q hro hs hq
  simp only [codeA] at h
  split at h
  · cases h
  · rename_i d H1 n1 hd
    simp only [newO] at h
    split at h
    · rename_i g first cap hop
      cases hbd : tb.bodied g with
      | false => simp [hbd] at h
      | true =>
        simp only [hbd, Bool.not_true, cond_false] at h
        split at h
        · cases h
        · rename_i v H3 n3 hcall
          split at h
          · rename_i st pe T' sz' ps' as' bo' d' hg3
            refine wpIn_rangeFunc (fun fn _ => ?_)
            -- the record, and the block
            have enter : ∃ mark w1 ρ1 L, (Instr.enterLoop fn a.tmps ps as bo ro).run P w = .ok (L.blk, mark) w1 ∧ Ext ρ s.H.get s.n w ρ1 (H1.set n1 (some (.loop .ready none s.T sz ps.toList as bo d))).get (n1 + 1) w1 ∧ ρ1.loc n1 = some L ∧
                DRel ρ1 (markD around d s.D) (mark ++ a.defers) := by
              cases around with
              | none =>
                simp only [RoRel] at hro; subst hro
                simp only [aroundA, newO] at hd; cases hd
                have hx1 : Ext ρ s.H.get s.n w (ρ.put s.n ⟨w.heap.size, 0, 0⟩) (s.H.set s.n (some .deferred)).get (s.n + 1) (w.alloc (.deferred (some []))) := by
                  rw [upd_set]; exact Ext.alloc hs.rel hs.fresh rfl (heap_push_new rfl)
                have hf1 := hx1.fresh hs.fresh
                have hx2 := Ext.alloc (hi := 0) (w' := (w.alloc (.deferred (some []))).alloc (.loop { state := .ready, pending := none, fn, tmps := a.tmps, params := ps, assign := as, body := bo, defers := w.heap.size })) (ob := .loop .ready none s.T sz ps.toList as bo s.n) hx1.rel hf1 rfl
                  ⟨fn, a.tmps, ⟨w.heap.size, 0, 0⟩, by
                    refine (heap_push_new rfl).trans ?_
                    simp, (hs.fr.tmp.mono hx1.le).mono (Env.le_put (hf1 _ (Nat.le_refl _))), hs.fr.size, by rw [Env.put_other (by omega)]; exact Env.put_same⟩
                rw [← upd_set] at hx2
                refine ⟨[{ target := .collected w.heap.size, args := #[] }], _, _, ⟨(w.alloc (.deferred (some []))).heap.size, 0, 0⟩, ?_, hx1.trans hx2, Env.put_same, ?_⟩
                · rw [run_enterLoop_outer]; simp
                · refine ⟨⟨w.heap.size, 0, 0⟩, a.defers, by rw [Env.put_other (by omega)]; exact Env.put_same, rfl, hs.defs.mono (hx1.le.trans hx2.le)⟩
              | some l0 =>
                obtain ⟨L0, hL0, hro⟩ := hro
                subst hro
                simp only [aroundA] at hd
                split at hd
                · rename_i st0 pe0 T0 sz0 ps0 as0 bo0 d0 hg0
                  cases hd
                  obtain ⟨r0, r1, r2, r3, r4, r5, r6, r7, r8, ⟨Ld, r9, r10⟩, _⟩ := loop_turn (n := 0) (st' := .ready) (pe' := none) hs.rel hg0 hL0
                  have hx2 := Ext.alloc (hi := 0) (w' := w.alloc (.loop { state := .ready, pending := none, fn, tmps := a.tmps, params := ps, assign := as, body := bo, defers := r0.defers })) (ob := .loop .ready none s.T sz ps.toList as bo d) hs.rel hs.fresh rfl
                    ⟨fn, a.tmps, Ld, by
                      refine (heap_push_new rfl).trans ?_
                      simp [r10], hs.fr.tmp.mono (Env.le_put (hs.fresh _ (Nat.le_refl _))), hs.fr.size, (Env.le_put (hs.fresh _ (Nat.le_refl _))).loc _ _ r9⟩
                  rw [← upd_set] at hx2
                  refine ⟨[], _, _, ⟨w.heap.size, 0, 0⟩, ?_, hx2, Env.put_same, ?_⟩
                  · simp [Instr.enterLoop, run_getLoop r1]
                  · exact hs.defs.mono hx2.le
                · cases hd
            obtain ⟨mark, w1, ρ1, L, he, hx1, hL, hdef⟩ := enter
            have hfn := hs.fr.opd hop
            simp only [VRel] at hfn
            obtain ⟨fn', fs', cs', hev, h1, h2, h3⟩ := hfn
            simp only [FnRel] at h1; subst h1
            have hvs : VRels ρ1 (first ++ [.func (.yield n1) [] []] ++ cap) (fs' ++ #[Value.func (.yield L.blk) #[] #[]] ++ cs').toList := by
              simp only [Array.toList_append]
              refine VRels.append (VRels.append (VRels.mono hx1.le _ _ h2) (.cons ?_ .nil)) (VRels.mono hx1.le _ _ h3)
              simp only [VRel]
              exact ⟨_, _, _, rfl, ⟨L, hL, rfl⟩, .nil, .nil⟩
            have hrun := callFunc_bodied ok hbd (fs' ++ #[Value.func (.yield L.blk) #[] #[]] ++ cs') w1
            have hsound := hS _ _ _ _ _ _ _ hcall ρ1 w1 _ (hs.fr.glob.mono hx1.le) hx1.rel (hx1.fresh hs.fresh) hvs
            simp only at hsound
            rw [hrun] at hsound
            simp only [NextOk] at hsound
            refine ⟨L.blk, mark, w1, { target := .fn (.func g) cs', args := fs' ++ #[Value.func (.yield L.blk) #[] #[]] }, w1, g, _, w1, he, ?_, fun _ _ => trivial, ?_, fun e => by simp [Fence.wide] at e, (callsIn_fw hsound).mono ?_⟩
            · have hc : a.eval (.const (.func (.yield L.blk) #[] #[])) = .func (.yield L.blk) #[] #[] := rfl
              simp only [resolve, List.map_toArray, List.map_cons, List.map_nil, hc, hev, Deferred.ofValue, Sem.run_pure]
            · simpa [invoke] using hrun
            · intro e w2 he2
              cases e with
              | panicked c => exact he2.elim
              | outgrown => exact he2.elim
              | returned v2 =>
                obtain ⟨ρ2, hx2, _⟩ := he2
                have hL2 := hx2.le.loc _ _ hL
                obtain ⟨r, r1, r2, r3, r4, r5, r6, r7, r8, _, hx3⟩ := loop_turn (n := n3) (st' := .exhausted) (pe' := pe) hx2.rel hg3 hL2
                have hbusy : r.state ≠ .busy := by
                  rw [r2]
                  intro e; subst e
                  simp at h
                have hend : (Instr.endLoop L.blk).run P w2 = .ok pe (w2.putObj L.blk (.loop { r with state := .exhausted })) := by rw [run_endLoop (P := P) r1 hbusy, r3]
                have hxa := (hx1.trans hx2).trans hx3
                have hput : (w2.putObj L.blk (.loop { r with state := .exhausted, pending := pe })) = w2.putObj L.blk (.loop { r with state := .exhausted }) := by
                  rw [← r3]
                rw [hput] at hx3 hxa
                have hs' : SRel tb ρ2 sz ⟨s.T, H3.set n1 (some (.loop .exhausted pe T' sz' ps' as' bo' d')), n3, markD around d s.D⟩ { a with defers := mark ++ a.defers } (w2.putObj L.blk (.loop { r with state := .exhausted })) :=
                  ⟨hx3.rel, hx2.fresh (hx1.fresh hs.fresh), ⟨hs.fr.tmp.mono (hx1.le.trans hx2.le), hs.fr.size, hs.fr.glob.mono (hx1.le.trans hx2.le)⟩, hdef.mono hx2.le⟩
                refine ⟨pe, _, hend, ?_⟩
                cases st with
                | busy => simp at h
                | _ =>
                  simp only at h
                  cases pe with
                  | none =>
                    simp only at h; cases h
                    exact hq ρ2 _ _ hxa hs'
                  | some j =>
                    cases j <;> simp only at h <;> try (cases h; done)
                    · cases h
                      exact wpIn_exit (hq ρ2 _ _ hxa hs')
                    · cases h
                      exact wpIn_ret (hq ρ2 _ _ hxa hs')
          · cases h
    · cases h

/-- Any code. -/
theorem code_sound (ok : TbOk P tb) (hm : P.follows .mixedOrders = true) (hS : SoundS P tb S) {fuel : Nat} {around : Option Nat} : ∀ (c : Code) (s : St) (out : Out) (s' : St), codeA tb S fuel sz around c s = .ok (out, s') → CodeOk P tb sz around c s out s'
  | .skip, s, out, s', h => by
    simp only [codeA] at h; cases h
    exact fun ro k ρ a w Q hro hs hq => wpIn_skip (hq ρ a w (Ext.refl hs.rel rfl) hs)
  | .label l, s, out, s', h => by
    simp only [codeA] at h; cases h
    exact fun ro k ρ a w Q hro hs hq => wpIn_label (hq ρ a w (Ext.refl hs.rel rfl) hs)
  | .region id ops draw, s, out, s', h => by
    simp only [codeA] at h
    cases draw with
    | true =>
      simp only [cond_true] at h
      split at h
      · rename_i T H n hd
        cases h
        exact fun ro k ρ a w Q hro hs hq => drawn_sound ok hm hS hd hs.rel hs.fresh hs.fr (fun ρ' a' w' hx hf hd' => hq ρ' a' w' hx ⟨hx.rel, hx.fresh hs.fresh, hf, by rw [hd']; exact hs.defs.mono hx.le⟩)
      · cases h
    | false =>
      simp only [cond_false] at h
      split at h
      · rename_i T H n hd
        cases h
        refine fun ro k ρ a w Q hro hs hq => wpIn_region ?_
        rw [List.range_eq_range']
        exact ops_sound (ρ0 := ρ) (g0 := s.H.get) (n0 := s.n) (w0 := w) (D := a.defers) ok hS ops.toList 0 ρ s.T s.H s.n a w (by simp) hd (Ext.refl hs.rel rfl) hs.fresh hs.fr rfl
          (fun ρ' a' w' hx hf hfr hd' => hq ρ' a' w' hx ⟨hx.rel, hf, hfr, by rw [hd']; exact hs.defs.mono hx.le⟩)
      · cases h
  | .seq x y, s, out, s', h => by
    simp only [codeA] at h
    split at h
    · rename_i s1 h1
      refine fun ro k ρ a w Q hro hs hq => wpIn_seq (code_sound ok hm hS x s _ s1 h1 ro k ρ a w _ hro hs (fun ρ1 a1 w1 hx1 hs1 => ?_))
      exact code_sound ok hm hS y s1 out s' h ro k ρ1 a1 w1 Q (hro.mono hx1.le) hs1 (fun ρ2 a2 w2 hx2 hs2 => hq ρ2 a2 w2 (hx1.trans hx2) hs2)
    · rename_i hne
      refine fun ro k ρ a w Q hro hs hq => wpIn_seq (code_sound ok hm hS x s out s' h ro k ρ a w _ hro hs (fun ρ1 a1 w1 hx1 hs1 => ?_))
      have := hq ρ1 a1 w1 hx1 hs1
      cases out with
      | normal => exact absurd h (hne s')
      | exit id => exact this
      | ret => exact this
  | .cond c x y, s, out, s', h => by
    simp only [codeA] at h
    split at h
    · rename_i t ht
      intro ro k ρ a w Q hro hs hq
      have hv := hs.fr.opd ht
      simp only [VRel] at hv
      cases t with
      | true => exact wpIn_cond_true hv (code_sound ok hm hS x s out s' h ro k ρ a w Q hro hs hq)
      | false => exact wpIn_cond_false hv (code_sound ok hm hS y s out s' h ro k ρ a w Q hro hs hq)
    · cases h
  | .block id c, s, out, s', h => by
    simp only [codeA] at h
    split at h
    · rename_i id' s1 h1
      cases hb : Nat.beq id' id with
      | true =>
        have := Nat.eq_of_beq_eq_true hb; subst this
        simp only [hb, cond_true] at h; cases h
        refine fun ro k ρ a w Q hro hs hq => wpIn_block (code_sound ok hm hS c s _ _ h1 ro k ρ a w _ hro hs (fun ρ1 a1 w1 hx1 hs1 => ?_))
        have := hq ρ1 a1 w1 hx1 hs1
        simpa [Exit.inBlock, exOf] using this
      | false =>
        simp only [hb, cond_false] at h; cases h
        refine fun ro k ρ a w Q hro hs hq => wpIn_block (code_sound ok hm hS c s _ _ h1 ro k ρ a w _ hro hs (fun ρ1 a1 w1 hx1 hs1 => ?_))
        have := hq ρ1 a1 w1 hx1 hs1
        have hne : ¬ id' = id := fun e => by subst e; simp at hb
        simpa [Exit.inBlock, exOf, hne] using this
    · rename_i hne
      refine fun ro k ρ a w Q hro hs hq => wpIn_block (code_sound ok hm hS c s out s' h ro k ρ a w _ hro hs (fun ρ1 a1 w1 hx1 hs1 => ?_))
      have := hq ρ1 a1 w1 hx1 hs1
      cases out with
      | normal => exact this
      | exit id => exact absurd h (hne id s')
      | ret => exact this
  | .loop c, s, out, s', h => by
    simp only [codeA] at h
    exact fun ro k ρ a w Q hro hs hq => wpIn_loop_rounds fuel (loop_ok (fun s out s' h => code_sound ok hm hS c s out s' h) fuel s out s' h ro k ρ a w Q hro hs hq)
  | .scope c, s, out, s', h => by
    simp only [codeA] at h
    refine fun ro k ρ a w Q hro hs hq => wpIn_scope (code_sound ok hm hS c s out s' h ro k ρ a w _ hro hs (fun ρ1 a1 w1 hx1 hs1 => ?_))
    have := hq ρ1 a1 w1 hx1 hs1
    cases out <;> exact this
  | .exit id, s, out, s', h => by
    simp only [codeA] at h; cases h
    exact fun ro k ρ a w Q hro hs hq => wpIn_exit (hq ρ a w (Ext.refl hs.rel rfl) hs)
  | .goto l, s, out, s', h => by simp [codeA] at h
  | .ret, s, out, s', h => by
    simp only [codeA] at h; cases h
    exact fun ro k ρ a w Q hro hs hq => wpIn_ret (hq ρ a w (Ext.refl hs.rel rfl) hs)
  | .refuse _, s, out, s', h => by simp [codeA] at h
  | .rangeFunc f ps as bo, s, out, s', h => rangeFunc_ok ok hS h

end
end Go.Zr
