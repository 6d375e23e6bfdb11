import Derived.Test.YtkcpfhlfjdnkdaaGreatDoorZrQ
namespace Go.Zr

/-- It ends in a value. -/
def Ret (R : Value → World → Prop) : Ending → World → Prop
  | .returned v, w => R v w
  | .panicked _, _ => False
  | .outgrown, _ => False

/-- What comes of an operation. -/
def NextOk (P : Program) (R : Value → World → Prop) : Result Next → Prop
  | .ok (.value v) w => R v w
  | .ok .skip w => R undef w
  | .ok (.enter f args) w => CallsIn Fence.wide 0 P f args w (Ret R)
  | .ok (.round l f tmps as bo) w => RoundIn Fence.wide 0 P l f tmps as bo w (Ret R)
  | _ => False

theorem Ret.mono {R R' : Value → World → Prop} (h : ∀ v w, R v w → R' v w) : ∀ e w, Ret R e w → Ret R' e w
  | .returned v, w, x => h v w x
  | .panicked _, _, x => x.elim
  | .outgrown, _, x => x.elim

theorem NextOk.mono {P : Program} {R R' : Value → World → Prop} {r : Result Next} (hr : NextOk P R r) (h : ∀ v w, R v w → R' v w) : NextOk P R' r := by
  cases r with
  | halt x w => cases hr
  | ok x w =>
    cases x <;> simp only [NextOk] at hr ⊢
    · exact h _ _ hr
    · exact h _ _ hr
    · exact CallsIn.mono hr (Ret.mono h)
    · exact RoundIn.mono hr (Ret.mono h)

def Good (ρ : Env) (g : Gh) (n : Nat) (w : World) (v : AV) (g' : Gh) (n' : Nat) : Value → World → Prop := fun x w' => ∃ ρ', Ext ρ g n w ρ' g' n' w' ∧ VRel ρ' v x

/-- The globals stand first. -/
def GlobOk (tb : Tb) (ρ : Env) : Prop := ∀ g, g < tb.ng → ∃ hi, ρ.loc g = some ⟨g, 0, hi⟩

theorem GlobOk.mono {tb : Tb} {ρ ρ' : Env} (h : Env.Le ρ ρ') (hg : GlobOk tb ρ) : GlobOk tb ρ' := fun g hgl => let ⟨hi, h1⟩ := hg g hgl; ⟨hi, h.loc _ _ h1⟩

/-- What is called is what the evaluator says. -/
def SoundS (P : Program) (tb : Tb) (S : Su) : Prop := ∀ c args H n v H' n', S c args H n = .ok (v, H', n') → ∀ ρ w (vs : Array Value), GlobOk tb ρ → Rel ρ H.get w → Fresh ρ n → VRels ρ args vs.toList →
  match c with
  | .fn f => NextOk P (Good ρ H.get n w v H'.get n') ((callFunc f vs).run P w)
  | .round l => ∀ L, ρ.loc l = some L → NextOk P (Good ρ H.get n w v H'.get n') ((Instr.yield L.blk vs).run P w)

theorem EffV.next {P : Program} {ρ : Env} {g g' : Gh} {n n' : Nat} {w : World} {v : AV} {s : Sem Value} (h : EffV P ρ g n w v g' n' s) : NextOk P (Good ρ g n w v g' n') ((do pure (.value (← s)) : Sem Next).run P w) := by
  obtain ⟨x, w', ρ', h1, h2, h3⟩ := h
  rw [Sem.run_bind, h1]
  exact ⟨ρ', h2, h3⟩
theorem EffU.next {P : Program} {ρ : Env} {g g' : Gh} {n n' : Nat} {w : World} {s : Sem Unit} (h : EffU P ρ g n w g' n' s) : NextOk P (Good ρ g n w undA g' n') ((do s; pure .skip : Sem Next).run P w) := by
  obtain ⟨w', ρ', h1, h2⟩ := h
  rw [Sem.run_bind, h1]
  exact ⟨ρ', h2, by simp only [undA, VRel]; exact ⟨#[], rfl, .nil⟩⟩

section
variable {P : Program} {tb : Tb} {ρ : Env}

theorem find_array {α : Type} (a : Array α) (p : α → Bool) : a.find? p = a.toList.find? p := by
  have : a = a.toList.toArray := by simp
  rw [this, List.find?_toArray]

theorem method_sound (ok : TbOk P tb) {H : Hp} {w : World} (hr : Rel ρ H.get w) {t : TypeId} {v r : AV} {vv : Value} {name : String} {f : FuncId} (hv : VRel ρ v vv) (h : methodA tb t v name H = .ok (f, r)) (k : Nat) :
    ∃ rv, (method (k + 1) t vv name).run P w = .ok (f, rv) w ∧ VRel ρ r rv := by
  unfold methodA at h
  rw [R.bind_ok] at h; obtain ⟨i, hi, h⟩ := h
  split at h
  · rename_i m hm
    cases hp : m.path.isEmpty with
    | false => simp [hp] at h
    | true =>
      simp only [hp, cond_true] at h
      have hpl : m.path = #[] := by simpa using hp
      split at h
      · rename_i f' pr hfn
        rw [R.bind_ok] at h; obtain ⟨d, hd, h⟩ := h
        have hm' : i.methods.find? (·.name == name) = some m := by rw [find_array]; exact hm
        have hrec : ∀ rv, (∀ nm, (receiverAt t (.val vv) pr (some nm)).run P w = .ok rv w) → (method (k + 1) t vv name).run P w = .ok (f', rv) w := by
          intro rv hrv
          simp [method, ok.run_info hi, hm', hpl, follow, hfn, hrv]
        split at h
        · rename_i e
          cases h
          exact ⟨vv, hrec vv (fun nm => by simp [receiverAt, ok.run_und hd, Place.get]), hv⟩
        · rename_i e o im off
          rw [R.bind_ok] at h; obtain ⟨x, hx, h⟩ := h
          cases h
          obtain ⟨p, rv, rfl, h1, h2⟩ := load_sound ok hr hv hx
          refine ⟨rv, hrec rv (fun nm => ?_), h2⟩
          have hw : ∀ a b, (Builtin.ssaWrapNilChk_ #[t] t #[.pointer (some p), strVal a, strVal b]) = pure (.pointer (some p)) := fun a b => rfl
          simp [receiverAt, ok.run_und hd, Place.get, hw, asAddr, h1]
        · cases h
        · rename_i x1 x2 x3
          cases h
          refine ⟨vv, hrec vv (fun nm => ?_), hv⟩
          cases d <;> first | (exact absurd rfl (x2 _)) | simp [receiverAt, ok.run_und hd, Place.get]
        · cases h
      · cases h
  · cases h

theorem made_succ (P : Program) : ∃ k, P.types.size + Made.depth = k + 1 := ⟨P.types.size + 99, rfl⟩

theorem callMethod_sound (ok : TbOk P tb) {S : Su} (hS : SoundS P tb S) (hg : GlobOk tb ρ) {H H' : Hp} {n n' : Nat} {w : World} (hr : Rel ρ H.get w) (hf : Fresh ρ n) {recv v : AV} {vr : Value} {name : String} {args : List AV} {vs : Array Value} (hrecv : VRel ρ recv vr) (hargs : VRels ρ args vs.toList)
    (h : callMethodA tb S recv name args H n = .ok (v, H', n')) : NextOk P (Good ρ H.get n w v H'.get n') ((callMethod vr name vs).run P w) := by
  unfold callMethodA at h
  split at h
  · rename_i t x
    rw [R.bind_ok] at h; obtain ⟨⟨f, r⟩, hm, h⟩ := h
    simp only [VRel] at hrecv
    obtain ⟨vx, rfl, hx⟩ := hrecv
    obtain ⟨k, hk⟩ := made_succ P
    obtain ⟨rv, h1, h2⟩ := method_sound ok hr hx hm k
    have := hS _ _ _ _ _ _ _ h ρ w (#[rv] ++ vs) hg hr hf (by simpa using VRels.cons h2 hargs)
    simp only [callMethod, Sem.run_bind, run_program, Result.andThen_ok, hk, h1]
    exact this
  · cases h

theorem extract_one {vs : Array Value} {v : Value} {r : List Value} (h : vs.toList = v :: r) : vs[0]? = some v ∧ (vs.extract 1 vs.size).toList = r := by
  constructor
  · have : vs.toList[0]? = some v := by rw [h]; rfl
    simpa using this
  · have h2 : vs.size = r.length + 1 := by
      have := congrArg List.length h; simpa using this
    rw [Array.toList_extract, h]
    simp [List.extract, h2]

theorem call_sound (ok : TbOk P tb) {S : Su} (hS : SoundS P tb S) (hg : GlobOk tb ρ) {H H' : Hp} {n n' : Nat} {w : World} (hr : Rel ρ H.get w) (hf : Fresh ρ n) {f v : AV} {vf : Value} {args : List AV} {vs : Array Value} (hfn : VRel ρ f vf) (hargs : VRels ρ args vs.toList)
    (h : callA tb S f args H n = .ok (v, H', n')) : NextOk P (Good ρ H.get n w v H'.get n') ((do let d ← Deferred.ofValue vf vs; invoke d.target d.args : Sem Next).run P w) := by
  unfold callA at h
  split at h
  · rename_i g first cap
    simp only [VRel] at hfn
    obtain ⟨fn', fs', cs', rfl, h1, h2, h3⟩ := hfn
    simp only [FnRel] at h1; subst h1
    have := hS _ _ _ _ _ _ _ h ρ w (fs' ++ vs ++ cs') hg hr hf (by simpa using (h2.append hargs).append h3)
    simpa only [Deferred.ofValue, Sem.run_bind, Sem.run_pure, Result.andThen_ok, invoke] using this
  · rename_i l first cap
    simp only [VRel] at hfn
    obtain ⟨fn', fs', cs', rfl, h1, h2, h3⟩ := hfn
    simp only [FnRel] at h1
    obtain ⟨L, hL, rfl⟩ := h1
    have := hS _ _ _ _ _ _ _ h ρ w (fs' ++ vs) hg hr hf (by simpa using h2.append hargs) L hL
    simpa only [Deferred.ofValue, Sem.run_bind, Sem.run_pure, Result.andThen_ok, invoke] using this
  · rename_i t name first cap
    simp only [VRel] at hfn
    obtain ⟨fn', fs', cs', rfl, h1, h2, h3⟩ := hfn
    simp only [FnRel] at h1; subst h1
    have hall : VRels ρ (first ++ args) (fs' ++ vs).toList := by simpa using h2.append hargs
    split at h
    · rename_i r rest he
      rw [he] at hall
      simp only [VRels] at hall
      obtain ⟨vr, vrest, e1, h4, h5⟩ := hall
      obtain ⟨g1, g2⟩ := extract_one e1
      rw [R.bind_ok] at h; obtain ⟨d, hd, h⟩ := h
      have hargs' : VRels ρ rest ((fs' ++ vs).extract 1 (fs' ++ vs).size).toList := by rw [g2]; exact h5
      split at h
      · have := callMethod_sound ok hS hg hr hf h4 hargs' h
        simp only [Deferred.ofValue, Sem.run_bind, Sem.run_pure, Result.andThen_ok, invoke, g1, ok.run_und hd]
        exact this
      · rename_i hno
        have := callMethod_sound ok hS hg hr hf (recv := .iface t r) (vr := .iface t vr) (by simp only [VRel]; exact ⟨vr, rfl, h4⟩) hargs' h
        simp only [Deferred.ofValue, Sem.run_bind, Sem.run_pure, Result.andThen_ok, invoke, g1, ok.run_und hd]
        cases d <;> first | (exact absurd rfl (hno _)) | exact this
    · cases h
  · rename_i name first cap
    simp only [VRel] at hfn
    obtain ⟨fn', fs', cs', rfl, h1, h2, h3⟩ := hfn
    simp only [FnRel] at h1; subst h1
    have hall : VRels ρ (first ++ args) (fs' ++ vs).toList := by simpa using h2.append hargs
    split at h
    · rename_i r rest he
      rw [he] at hall
      simp only [VRels] at hall
      obtain ⟨vr, vrest, e1, h4, h5⟩ := hall
      obtain ⟨g1, g2⟩ := extract_one e1
      have hargs' : VRels ρ rest ((fs' ++ vs).extract 1 (fs' ++ vs).size).toList := by rw [g2]; exact h5
      have := callMethod_sound ok hS hg hr hf h4 hargs' h
      simp only [Deferred.ofValue, Sem.run_bind, Sem.run_pure, Result.andThen_ok, invoke, g1]
      exact this
    · cases h
  · cases h

theorem bi_append (ats : Array TypeId) (ty : TypeId) (cs : Array Bool) (args : Array Value) : builtin .append ats ty cs args = (do pure (.value (← Builtin.append_ ats ty args))) := rfl
theorem bi_copy (ats : Array TypeId) (ty : TypeId) (cs : Array Bool) (args : Array Value) : builtin .copy ats ty cs args = (do pure (.value (← Builtin.copy_ ats ty args))) := rfl
theorem bi_clear (ats : Array TypeId) (ty : TypeId) (cs : Array Bool) (args : Array Value) : builtin .clear ats ty cs args = (do pure (.value (← Builtin.clear_ ats ty args))) := rfl
theorem bi_delete (ats : Array TypeId) (ty : TypeId) (cs : Array Bool) (args : Array Value) : builtin .delete ats ty cs args = (do pure (.value (← Builtin.delete_ ats ty args))) := rfl
theorem bi_unsafeString (ats : Array TypeId) (ty : TypeId) (cs : Array Bool) (args : Array Value) : builtin .unsafeString ats ty cs args = (do pure (.value (← Builtin.unsafeString_ ats ty args))) := rfl

theorem unsafeString_none {H : Hp} {n : Nat} {w : World} (hr : Rel ρ H.get w) {ts : Array TypeId} {ty : TypeId} {q : IntKind} {p : Option Addr} {pt : TypeId} (h0 : ts[0]? = some pt) :
    EffV P ρ H.get n w (.str []) H.get n (Builtin.unsafeString_ ts ty #[.pointer p, .int q 0]) := by
  have hmax : IntKind.i64.max = 9223372036854775807 := rfl
  refine ⟨.string .empty, w, ρ, ?_, Ext.refl hr rfl, by simp [VRel]; rfl⟩
  cases p with
  | none =>
    change Sem.run P (Bind.bind (Go.asInt (.int q 0)) _) w = _
    simp [Go.asInt, asIntOf, h0, hmax]
  | some a =>
    change Sem.run P (Bind.bind (Go.asInt (.int q 0)) _) w = _
    simp [Go.asInt, asIntOf, h0, hmax]

end
end Go.Zr
