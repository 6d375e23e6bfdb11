import Derived.Test.YtkcpfhlfjdnkdaaGreatDoorZrX
namespace Go.Zr

section
variable {P : Program} {tb : Tb} {S : Su} {sz n0 : Nat} {ops : Array Oper} {es : List Ent} {fin : Tm × Hp × Nat}

/-- A slot of a frame. -/
def Slot (ρ : Env) (ov : Option AV) (tmps : Array Value) (d : Nat) : Prop := match ov with
  | some v => ∃ x, tmps[d]? = some x ∧ VRel ρ v x
  | none => tmps.getD d undef = undef

theorem Slot.mono {ρ ρ' : Env} (h : Env.Le ρ ρ') {ov : Option AV} {tmps : Array Value} {d : Nat} (s : Slot ρ ov tmps d) : Slot ρ' ov tmps d := by
  cases ov with
  | none => exact s
  | some v => obtain ⟨x, h1, h2⟩ := s; exact ⟨x, h1, VRel.mono h _ _ h2⟩

theorem slot_opd {ρ : Env} {T : Tm} {a : Act} (hg : GlobOk tb ρ) {x : Operand} (hs : ∀ t, x = .tmp t → Slot ρ (T.get t) a.tmps t) {v : AV} (h : opd tb T x = .ok v) : VRel ρ v (a.eval x) := by
  cases x with
  | tmp t =>
    have hs := hs t rfl
    simp only [Zr.opd] at h; cases h
    cases hT : T.get t with
    | none =>
      rw [hT] at hs
      simp only [Slot] at hs
      simp only [Option.getD_none, Act.eval, hs]
      exact und_rel
    | some y =>
      rw [hT] at hs
      obtain ⟨x, h1, h2⟩ := hs
      simp only [Option.getD_some, Act.eval, Array.getD_eq_getD_getElem?, h1]; exact h2
  | const c => simp only [Zr.opd] at h; exact .of_val (R.of_ok.1 h)
  | global g =>
    simp only [Zr.opd] at h
    cases hb : Nat.blt g tb.ng with
    | false => simp [hb] at h
    | true =>
      simp only [hb, cond_true] at h; cases h
      obtain ⟨hi, h1⟩ := hg g (by simpa [Nat.blt_eq] using hb)
      simp only [VRel, Act.eval]
      exact ⟨_, h1, by simp⟩
  | func g =>
    simp only [Zr.opd] at h; cases h
    simp only [VRel, Act.eval]
    exact ⟨_, _, _, rfl, rfl, .nil, .nil⟩

theorem slot_guard {ρ : Env} {T : Tm} {a : Act} {o : Oper} (hs : ∀ g want d, o.guard = some (g, want) → (ops[g]?).bind (·.dst) = some d → Slot ρ (T.get d) a.tmps d) :
    Region.wanted o (yielded ops a.tmps) = guardA ops T o := by
  unfold Region.wanted guardA
  cases hgd : o.guard with
  | none => rfl
  | some g =>
    obtain ⟨j, want⟩ := g
    simp only [yielded]
    have hl : ops.toList[j]? = ops[j]? := by simp
    rw [hl]
    cases hd : (ops[j]?).bind (·.dst) with
    | none => simp
    | some d =>
      have hs := hs j want d hgd hd
      simp only [Option.bind_some]
      cases hT : T.get d with
      | none =>
        rw [hT] at hs
        simp only [Slot] at hs
        rw [Array.getD_eq_getD_getElem?] at hs
        cases ht : a.tmps[d]? with
        | none => rfl
        | some x => rw [ht] at hs; simp only [Option.getD_some] at hs; subst hs; rfl
      | some y =>
        rw [hT] at hs
        obtain ⟨x, h1, h2⟩ := hs
        rw [h1]
        have ht := h2.tag
        cases y <;> cases x <;> simp [Value.tag, AV.tag] at ht <;> first | rfl | skip
        simp only [VRel] at h2; cases h2; simp

/-- Who has been. -/
def been (listed : Array Bool) (i : Nat) : Bool := listed.getD i false

structure Inv (tb : Tb) (n0 sz : Nat) (ops : Array Oper) (es : List Ent) (fin : Tm × Hp × Nat) (ρ0 : Env) (g0 : Gh) (w0 : World) (Ds : List Deferred) (listed : Array Bool) (a : Act) (w : World) : Prop where
  size : listed.size = ops.size
  shut : ∀ e ∈ es, been listed e.i = true → ∀ j, e.anc.testBit j = true → been listed j = true
  ex : ∃ ρ q, q ≤ ops.size ∧ (∀ e ∈ es, e.isE = true → (e.i < q ↔ been listed e.i = true)) ∧ Ext ρ0 g0 n0 w0 ρ (gAt es.reverse n0 (stAt es fin q).2.1.get (been listed) q) (stAt es fin q).2.2 w ∧
    (∀ o, (stAt es fin q).2.2 ≤ o → ρ.loc o = none) ∧ n0 + ops.size ≤ (stAt es fin q).2.2 ∧ (∀ j, j < ops.size → been listed j = false → ρ.loc (n0 + j) = none) ∧
    (∀ j, j < ops.size → (∀ e ∈ es, e.isE = true → e.i < q → e.anc.testBit j = false) → (stAt es fin q).2.1.get (n0 + j) = none) ∧
    (∀ d, Slot ρ (TD (stAt es fin 0).1 es (been listed) d) a.tmps d) ∧ GlobOk tb ρ
  slots : sz ≤ a.tmps.size
  defs : a.defers = Ds

theorem been_set {listed : Array Bool} {i : Nat} (hi : i < listed.size) (j : Nat) : been (listed.setIfInBounds i true) j = (been listed j || decide (j = i)) := by
  unfold been
  simp only [Array.getD_eq_getD_getElem?, Array.getElem?_setIfInBounds]
  by_cases e : i = j
  · subst e; simp [hi]
  · simp [e, Ne.symm e]

/-- What an operation that is next looks at is what it looked at in the order of the text. -/
theorem Facts.agree (F : Facts tb S sz n0 ops es fin) {D : Nat → Bool} {e : Ent} (he : e ∈ es) (hshut : ∀ x ∈ es, D x.i = true → ∀ j, x.anc.testBit j = true → D j = true) (hnot : D e.i = false) (hanc : ∀ j, e.anc.testBit j = true → D j = true) {d : Tmp} (hd : d ∈ looks ops e.o) :
    e.T.get d = TD (stAt es fin 0).1 es D d := by
  have hT : e.T = (stAt es fin e.i).1 := by rw [F.state he]
  rw [hT, F.temps e.i (Nat.le_of_lt (F.lt he)) d]
  refine F.td_congr (fun x hx hxd => ?_)
  rcases F.slots x hx d hxd e he with h | ⟨_, h⟩
  · rw [← h, hnot]; simp
  · rcases h hd with h | h
    · rw [hanc _ h]
      have h1 := F.ancs e he
      have : x.i < e.i := by
        rcases Nat.lt_or_ge x.i e.i with h2 | h2
        · exact h2
        · have := Nat.testBit_lt_two_pow (Nat.lt_of_lt_of_le h1 (Nat.pow_le_pow_right (by decide) h2)) (i := x.i) (x := e.anc)
          rw [h] at this; cases this
      simpa using this
    · have hx0 : D x.i = false := by
        cases hD : D x.i with
        | false => rfl
        | true => have := hshut x hx hD _ h; rw [hnot] at this; cases this
      rw [hx0]
      have h1 := F.ancs x hx
      have : e.i < x.i := by
        rcases Nat.lt_or_ge e.i x.i with h2 | h2
        · exact h2
        · have := Nat.testBit_lt_two_pow (Nat.lt_of_lt_of_le h1 (Nat.pow_le_pow_right (by decide) h2)) (i := e.i) (x := x.anc)
          rw [h] at this; cases this
      simp only [decide_eq_false_iff_not]; omega

theorem looks_opd {o : Oper} {t : Tmp} (h : Operand.tmp t ∈ o.op.operands.toList) : t ∈ looks ops o := by
  unfold looks
  exact List.mem_append_left _ (List.mem_filterMap.2 ⟨.tmp t, h, rfl⟩)
theorem looks_guard {o : Oper} {g : Nat} {want : Bool} {d : Tmp} (h : o.guard = some (g, want)) (hd : (ops[g]?).bind (·.dst) = some d) : d ∈ looks ops o := by
  unfold looks
  refine List.mem_append_right _ ?_
  have hl : ops.toList[g]? = ops[g]? := by simp
  simp only [h, hl, hd, Option.toList_some, List.mem_singleton]

/-- The slot of one more. -/
theorem Facts.slot_put (F : Facts tb S sz n0 ops es fin) {ρ : Env} {T0 : Tm} {D D' : Nat → Bool} {a : Act} {e : Ent} (he : e ∈ es) (hD' : ∀ x ∈ es, D' x.i = (D x.i || decide (x.i = e.i))) (_hnot : D e.i = false) {x : Value} (hv : VRel ρ e.v x) (hsz : sz ≤ a.tmps.size)
    (hs : ∀ d, Slot ρ (TD T0 es D d) a.tmps d) (d : Nat) : Slot ρ (TD T0 es D' d) (a.put e.o.dst x).tmps d := by
  have hp := F.put e.i e (F.mem he)
  cases hd : e.o.dst with
  | none =>
    have : TD T0 es D' d = TD T0 es D d := F.td_congr (fun y hy hyd => by
      rw [hD' y hy]
      have : y.i ≠ e.i := fun e1 => by rw [F.uniq hy he e1, hd] at hyd; cases hyd
      simp [this])
    rw [this]; exact hs d
  | some d0 =>
    rw [hd] at hp
    simp only [putD] at hp
    cases hb : Nat.blt d0 sz with
    | false => simp [hb] at hp
    | true =>
      have hlt : d0 < a.tmps.size := Nat.lt_of_lt_of_le (by simpa [Nat.blt_eq] using hb) hsz
      by_cases e1 : d = d0
      · subst e1
        rw [F.td_some he (by rw [hD' e he]; simp) hd]
        exact ⟨x, by simp [Act.put, hlt], hv⟩
      · have : TD T0 es D' d = TD T0 es D d := F.td_congr (fun y hy hyd => by
          rw [hD' y hy]
          have : y.i ≠ e.i := fun e2 => by rw [F.uniq hy he e2, hd] at hyd; exact e1 (Option.some.inj hyd).symm
          simp [this])
        rw [this]
        have := hs d
        unfold Slot at this ⊢
        split
        · rename_i v hv'
          rw [hv'] at this
          obtain ⟨y, h1, h2⟩ := this
          exact ⟨y, by simp [Act.put, Ne.symm e1, h1], h2⟩
        · rename_i hv'
          rw [hv'] at this
          simp only [Array.getD_eq_getD_getElem?] at this ⊢
          simp only [Act.put, Array.getElem?_setIfInBounds, Ne.symm e1, if_false]
          exact this

end
end Go.Zr
