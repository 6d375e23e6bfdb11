import Derived.Test.YtkcpfhlfjdnkdaaGreatDoorZrS
import Derived.ControlIn
import Derived.CallsIn
import Derived.OrdersIn
import Derived.LoopNIn
import Derived.RangeFuncIn
namespace Go.Zr

/-- The wide fence, within a round or not. -/
abbrev Fw (r : Option Nat) : Fence := { Fence.wide with round := r }

section
variable {P : Program} {tb : Tb} {ρ : Env}

theorem callsIn_fw {r : Option Nat} {k : Nat} {f : FuncId} {args : Array Value} {w : World} {R : Ending → World → Prop} (h : CallsIn Fence.wide 0 P f args w R) : CallsIn (Fw r) k P f args w R :=
  ⟨trivial, fun cs _ => h.2 cs (room_wide _)⟩
theorem roundIn_fw {r : Option Nat} {k : Nat} {l : Nat} {f : FuncId} {tmps : Array Value} {as bo : Code} {w : World} {R : Ending → World → Prop} (h : RoundIn Fence.wide 0 P l f tmps as bo w R) : RoundIn (Fw r) k P l f tmps as bo w R :=
  ⟨trivial, fun c cs _ => h.2 c cs (room_wide _)⟩

theorem NextOk.upon {r : Option Nat} {k : Nat} {o : Oper} {a : Act} {next : Act → World → Prop} {Q : Exit → Act → World → Prop} {R : Value → World → Prop} {x : Result Next} (h : NextOk P R x) (hn : ∀ v w, R v w → next (a.put o.dst v) w) : o.uponIn (Fw r) k P a next Q x := by
  have hret : ∀ e w, Ret R e w → (match e with | .returned v => next (a.put o.dst v) w | .panicked chain => Q (.panic chain) a w | .outgrown => LetsOut Q) := by
    intro e w he
    cases e with
    | returned v => exact hn _ _ he
    | panicked c => exact he.elim
    | outgrown => exact he.elim
  cases x with
  | halt y w => cases h
  | ok y w =>
    cases y with
    | value v => exact hn _ _ h
    | skip => exact hn _ _ h
    | enter f args =>
      refine ⟨fun e => by simp [Fence.wide] at e, (callsIn_fw h).mono ?_⟩
      intro e w' he
      cases e with
      | returned v => exact hn _ _ he
      | panicked c => exact he.elim
      | outgrown => exact he.elim
    | round l f tmps as bo =>
      refine ⟨fun e => by simp [Fence.wide] at e, (roundIn_fw h).mono ?_⟩
      intro e w' he
      cases e with
      | returned v => exact hn _ _ he
      | panicked c => exact he.elim
      | outgrown => exact he.elim
    | _ => cases h

/-- One operation of a region. -/
theorem op_wp {r : Option Nat} {k : Nat} {o : Oper} {a : Act} {w : World} {next : Act → World → Prop} {Q : Exit → Act → World → Prop} {R : Value → World → Prop} (hd : ∀ c, o.op ≠ .defer c) (h : NextOk P R ((execOp a.eval o).run P w)) (hn : ∀ v w', R v w' → next (a.put o.dst v) w') :
    o.wpIn (Fw r) k P a w next Q := by
  refine ⟨fun _ _ => trivial, ?_⟩
  rw [Oper.semAt_eq _ _ _ hd]
  exact h.upon hn

theorem opA_not_defer {S : Su} {o : Oper} {T : Tm} {H H' : Hp} {n n' : Nat} {v : AV} (h : opA tb S o T H n = .ok (v, H', n')) : ∀ c, o.op ≠ .defer c := by
  intro c e
  obtain ⟨dst, op, type, pos, after, guard⟩ := o
  simp only at e; subst e
  simp [opA, kindOf, effA] at h


/-- What a frame holds. -/
structure FRel (tb : Tb) (ρ : Env) (T : Tm) (sz : Nat) (a : Act) : Prop where
  tmp : TRel ρ T a.tmps
  size : sz ≤ a.tmps.size
  glob : GlobOk tb ρ

theorem FRel.mono {ρ ρ' : Env} (h : Env.Le ρ ρ') {T : Tm} {sz : Nat} {a : Act} (f : FRel tb ρ T sz a) : FRel tb ρ' T sz a := ⟨f.tmp.mono h, f.size, f.glob.mono h⟩

theorem FRel.opd {T : Tm} {sz : Nat} {a : Act} (f : FRel tb ρ T sz a) {x : Operand} {v : AV} (h : opd tb T x = .ok v) : VRel ρ v (a.eval x) := by
  cases x with
  | tmp t =>
    simp only [Zr.opd] at h; cases h
    cases hT : T.get t with
    | none =>
      have := f.tmp.2 t hT
      simp only [Option.getD_none, Act.eval, this]
      simp only [undA, VRel]; exact ⟨#[], rfl, .nil⟩
    | some y =>
      obtain ⟨x, h1, h2⟩ := f.tmp.1 t y hT
      simp only [Option.getD_some, Act.eval, Array.getD_eq_getD_getElem?, h1]; exact h2
  | const c => simp only [Zr.opd] at h; exact .of_val (R.of_ok.1 h)
  | global g =>
    simp only [Zr.opd] at h
    cases hb : Nat.blt g tb.ng with
    | false => simp [hb] at h
    | true =>
      simp only [hb, cond_true] at h; cases h
      obtain ⟨hi, h1⟩ := f.glob g (by simpa [Nat.blt_eq] using hb)
      simp only [VRel, Act.eval]
      exact ⟨_, h1, by simp⟩
  | func g =>
    simp only [Zr.opd] at h; cases h
    simp only [VRel, Act.eval]
    exact ⟨_, _, _, rfl, rfl, .nil, .nil⟩

theorem FRel.ops {T : Tm} {sz : Nat} {a : Act} (f : FRel tb ρ T sz a) (l : List Operand) : OpsRel tb ρ T a.eval l := fun _ _ _ h => f.opd h

theorem FRel.put {T T' : Tm} {sz : Nat} {a : Act} (f : FRel tb ρ T sz a) {d : Option Tmp} {v : AV} {x : Value} (hv : VRel ρ v x) (h : putD sz T d v = .ok T') : FRel tb ρ T' sz (a.put d x) := by
  cases d with
  | none => simp only [putD] at h; cases h; exact f
  | some d =>
    simp only [putD] at h
    cases hb : Nat.blt d sz with
    | false => simp [hb] at h
    | true =>
      simp only [hb, cond_true] at h; cases h
      have hd : d < sz := by simpa [Nat.blt_eq] using hb
      have hs := f.size
      refine ⟨⟨fun i y hi => ?_, fun i hi => ?_⟩, by simpa [Act.put] using hs, f.glob⟩
      · rw [PT.get_set] at hi
        by_cases e : i = d
        · subst e
          rw [if_pos rfl] at hi; cases hi
          have hlt : i < a.tmps.size := Nat.lt_of_lt_of_le hd hs
          exact ⟨x, by simp [Act.put, hlt], hv⟩
        · rw [if_neg e] at hi
          obtain ⟨z, h1, h2⟩ := f.tmp.1 i y hi
          exact ⟨z, by simp [Act.put, Ne.symm e, h1], h2⟩
      · rw [PT.get_set] at hi
        by_cases e : i = d
        · rw [if_pos e] at hi; cases hi
        · rw [if_neg e] at hi
          have := f.tmp.2 i hi
          simp only [Array.getD_eq_getD_getElem?] at this ⊢
          simp only [Act.put, Array.getElem?_setIfInBounds, Ne.symm e, if_false]
          exact this

theorem und_rel : VRel ρ undA undef := by simp only [undA, VRel]; exact ⟨#[], rfl, .nil⟩

/-- The guard. -/
theorem FRel.guard {T : Tm} {sz : Nat} {a : Act} (f : FRel tb ρ T sz a) (ops : Array Oper) (o : Oper) : Region.wanted o (yielded ops a.tmps) = guardA ops T o := by
  unfold Region.wanted guardA
  cases o.guard with
  | none => rfl
  | some g =>
    obtain ⟨j, want⟩ := g
    simp only [yielded]
    have hl : ops.toList[j]? = ops[j]? := by simp
    rw [hl]
    cases hd : (ops[j]?).bind (·.dst) with
    | none => simp
    | some d =>
      simp only [Option.bind_some]
      cases hT : T.get d with
      | none =>
        have := f.tmp.2 d hT
        rw [Array.getD_eq_getD_getElem?] at this
        cases ht : a.tmps[d]? with
        | none => rfl
        | some x => rw [ht] at this; simp only [Option.getD_some] at this; subst this; rfl
      | some y =>
        obtain ⟨x, h1, h2⟩ := f.tmp.1 d y hT
        rw [h1]
        have ht := h2.tag
        cases y <;> cases x <;> simp [Value.tag, AV.tag] at ht <;> first | rfl | skip
        simp only [VRel] at h2; cases h2; simp

theorem put_defers (a : Act) (d : Option Tmp) (v : Value) : (a.put d v).defers = a.defers := by cases d <;> rfl

/-- The operations of a region in their order. -/
theorem ops_sound (ok : TbOk P tb) {S : Su} (hS : SoundS P tb S) {r : Option Nat} {k sz : Nat} {ops : Array Oper} {Q : Exit → Act → World → Prop} {ρ0 : Env} {g0 : Gh} {n0 : Nat} {w0 : World} {T' : Tm} {H' : Hp} {n' : Nat} {D : List Deferred} : ∀ (rest : List Oper) (i : Nat) (ρ : Env) (T : Tm) (H : Hp) (n : Nat) (a : Act) (w : World), ops.toList.drop i = rest →
    opsA tb S sz ops rest T H n = .ok (T', H', n') → Ext ρ0 g0 n0 w0 ρ H.get n w → Fresh ρ n → FRel tb ρ T sz a → a.defers = D →
    (∀ ρ' a' w', Ext ρ0 g0 n0 w0 ρ' H'.get n' w' → Fresh ρ' n' → FRel tb ρ' T' sz a' → a'.defers = D → Q .normal a' w') → wpOpsIn (Fw r) k P ops Q (List.range' i (ops.size - i)) a w
  | [], i, ρ, T, H, n, a, w, hd, h, hx, hf, hfr, ha, hq => by
    have : ops.size - i = 0 := by
      have := congrArg List.length hd; simpa using this
    rw [this]
    simp only [opsA] at h; cases h
    exact hq ρ a w hx hf hfr ha
  | o :: rest, i, ρ, T, H, n, a, w, hd, h, hx, hf, hfr, ha, hq => by
    have hi : ops[i]? = some o := by
      have : (ops.toList.drop i)[0]? = some o := by rw [hd]; rfl
      simpa using this
    have hlt : i < ops.size := (Array.getElem?_eq_some_iff.1 hi).1
    have hs : ops.size - i = (ops.size - (i + 1)) + 1 := by omega
    have hd' : ops.toList.drop (i + 1) = rest := by
      rw [← List.drop_drop, hd]; rfl
    rw [hs, List.range'_succ]
    simp only [wpOpsIn, hi]
    rw [hfr.guard]
    simp only [opsA] at h
    cases hg : guardA ops T o with
    | true =>
      simp only [hg, cond_true] at h
      simp only [if_true]
      split at h
      · rename_i v H1 n1 h1
        split at h
        · rename_i T1 hp
          refine op_wp (opA_not_defer h1) (op_sound ok hS hfr.glob hx.rel hf (hfr.ops _) h1) (fun x w1 hgood => ?_)
          obtain ⟨ρ1, hx1, hv⟩ := hgood
          exact ops_sound ok hS rest (i + 1) ρ1 T1 H1 n1 _ w1 hd' h (hx.trans hx1) (hx1.fresh hf) ((hfr.mono hx1.le).put hv hp) (by rw [put_defers]; exact ha) hq
        · cases h
      · cases h
    | false =>
      simp only [hg, cond_false] at h
      simp only [if_false, Bool.false_eq_true]
      split at h
      · rename_i T1 hp
        exact ⟨fun _ _ => trivial, ops_sound ok hS rest (i + 1) ρ T1 H n _ w hd' h hx hf (hfr.put und_rel hp) (by rw [put_defers]; exact ha) hq⟩
      · cases h

end
end Go.Zr
