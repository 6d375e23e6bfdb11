import Derived.Test.YtkcpfhlfjdnkdaaGreatDoorZrW
namespace Go.Zr

section
variable {P : Program} {tb : Tb} {S : Su} {sz n0 : Nat} {ops : Array Oper} {es : List Ent} {fin : Tm × Hp × Nat}

/-! ### What the facts give -/
theorem Facts.mem (F : Facts tb S sz n0 ops es fin) {e : Ent} (he : e ∈ es) : es[e.i]? = some e := by
  obtain ⟨k, hk⟩ := List.getElem?_of_mem he
  have := (F.at_ k e hk).1
  rw [this]; exact hk
theorem Facts.lt (F : Facts tb S sz n0 ops es fin) {e : Ent} (he : e ∈ es) : e.i < ops.size := by
  have := F.mem he
  rw [← F.len]; exact (List.getElem?_eq_some_iff.1 this).1
theorem Facts.uniq (F : Facts tb S sz n0 ops es fin) {e e' : Ent} (he : e ∈ es) (he' : e' ∈ es) (h : e.i = e'.i) : e = e' := by
  have h1 := F.mem he; have h2 := F.mem he'
  rw [h, h2] at h1; exact (Option.some.inj h1).symm
theorem Facts.get (F : Facts tb S sz n0 ops es fin) {i : Nat} (h : i < ops.size) : ∃ e, es[i]? = some e ∧ e ∈ es ∧ e.i = i := by
  have h1 : i < es.length := by rw [F.len]; exact h
  have h2 : es[i]? = some es[i] := List.getElem?_eq_getElem h1
  exact ⟨es[i], h2, List.getElem_mem h1, (F.at_ i _ h2).1⟩

/-- The writer of a slot is one. -/
theorem Facts.writer (F : Facts tb S sz n0 ops es fin) {e e' : Ent} (he : e ∈ es) (he' : e' ∈ es) {d : Tmp} (hd : e.o.dst = some d) (hd' : e'.o.dst = some d) : e = e' := by
  rcases F.slots e he d hd e' he' with h | ⟨h, _⟩
  · exact F.uniq he he' h.symm
  · exact absurd hd' h

/-- The slots when D has been. -/
noncomputable def TD (T0 : Tm) (es : List Ent) (D : Nat → Bool) (d : Nat) : Option AV := match es.find? (fun e => D e.i && e.o.dst == some d) with
  | some e => some e.v
  | none => T0.get d

theorem Facts.td_some (F : Facts tb S sz n0 ops es fin) {T0 : Tm} {D : Nat → Bool} {e : Ent} (he : e ∈ es) {d : Tmp} (hD : D e.i = true) (hd : e.o.dst = some d) : TD T0 es D d = some e.v := by
  unfold TD
  cases hf : es.find? (fun e => D e.i && e.o.dst == some d) with
  | none =>
    rw [List.find?_eq_none] at hf
    exact absurd (by simp [hD, hd]) (hf e he)
  | some e' =>
    have hm := List.mem_of_find?_eq_some hf
    have hp := List.find?_some hf
    simp only [Bool.and_eq_true, beq_iff_eq] at hp
    rw [F.writer he hm hd hp.2]

theorem td_none {T0 : Tm} {D : Nat → Bool} {d : Nat} (h : ∀ e ∈ es, e.o.dst = some d → D e.i = false) : TD T0 es D d = T0.get d := by
  unfold TD
  cases hf : es.find? (fun e => D e.i && e.o.dst == some d) with
  | none => rfl
  | some e' =>
    have hm := List.mem_of_find?_eq_some hf
    have hp := List.find?_some hf
    simp only [Bool.and_eq_true, beq_iff_eq] at hp
    have := h e' hm hp.2
    rw [hp.1] at this; cases this

theorem Facts.td_congr (F : Facts tb S sz n0 ops es fin) {T0 : Tm} {D D' : Nat → Bool} {d : Nat} (h : ∀ e ∈ es, e.o.dst = some d → D e.i = D' e.i) : TD T0 es D d = TD T0 es D' d := by
  by_cases hx : ∃ e ∈ es, e.o.dst = some d ∧ D e.i = true
  · obtain ⟨e, he, hd, hD⟩ := hx
    rw [F.td_some he hD hd, F.td_some he (by rw [← h e he hd]; exact hD) hd]
  · have h1 : ∀ e ∈ es, e.o.dst = some d → D e.i = false := fun e he hd => by
      cases hD : D e.i with
      | false => rfl
      | true => exact absurd ⟨e, he, hd, hD⟩ hx
    rw [td_none h1, td_none (fun e he hd => by rw [← h e he hd]; exact h1 e he hd)]

theorem Facts.state (F : Facts tb S sz n0 ops es fin) {e : Ent} (he : e ∈ es) : stAt es fin e.i = (e.T, e.H, e.n) := by
  unfold stAt; rw [F.mem he]

theorem Facts.temps (F : Facts tb S sz n0 ops es fin) : ∀ k, k ≤ ops.size → ∀ d, (stAt es fin k).1.get d = TD (stAt es fin 0).1 es (fun i => decide (i < k)) d
  | 0, _, d => by rw [td_none]; intro e _ _; simp
  | k + 1, hk, d => by
    obtain ⟨e, h1, he, hi⟩ := F.get (i := k) (by omega)
    have ih := F.temps k (by omega) d
    have hp := F.put k e h1
    have hst : (stAt es fin k).1 = e.T := by rw [← hi, F.state he]
    rw [hst] at ih
    have hother : ∀ x ∈ es, x.o.dst = some d → x ≠ e → decide (x.i < k) = decide (x.i < k + 1) := by
      intro x hx _ hne
      have : x.i ≠ k := fun e1 => hne (F.uniq hx he (by rw [e1, hi]))
      simp only [decide_eq_decide]; omega
    cases hd : e.o.dst with
    | none =>
      rw [hd] at hp
      simp only [putD] at hp
      have ht : (stAt es fin (k + 1)).1 = e.T := (R.ok.inj hp).symm
      rw [ht, ih]
      exact F.td_congr (fun x hx hxd => hother x hx hxd (fun e1 => by rw [e1, hd] at hxd; cases hxd))
    | some d0 =>
      rw [hd] at hp
      simp only [putD] at hp
      cases hb : Nat.blt d0 sz with
      | false => simp [hb] at hp
      | true =>
        simp only [hb, cond_true] at hp
        have ht := (R.ok.inj hp).symm
        rw [ht, PT.get_set]
        by_cases e1 : d = d0
        · subst e1
          rw [if_pos rfl, F.td_some he (by simp [hi]) hd]
        · rw [if_neg e1, ih]
          exact F.td_congr (fun x hx hxd => hother x hx hxd (fun e2 => by rw [e2, hd] at hxd; exact e1 (Option.some.inj hxd).symm))

/-- The heap stays where there is no effect. -/
theorem Facts.calm (F : Facts tb S sz n0 ops es fin) {q : Nat} : ∀ m, q + m ≤ ops.size → (∀ e ∈ es, e.isE = true → ¬ (q ≤ e.i ∧ e.i < q + m)) → (stAt es fin (q + m)).2 = (stAt es fin q).2
  | 0, _, _ => rfl
  | m + 1, hk, hno => by
    have ih := F.calm m (by omega) (fun e he hE h => hno e he hE ⟨h.1, by omega⟩)
    obtain ⟨e, h1, he, hi⟩ := F.get (i := q + m) (by omega)
    have hE : e.isE = false := by
      cases hE : e.isE with
      | false => rfl
      | true => exact absurd ⟨by omega, by omega⟩ (hno e he hE)
    have hkd := F.kind (q + m) e h1
    have hst : (stAt es fin (q + m)).2 = (e.H, e.n) := by rw [← hi, F.state he]
    rw [← ih, hst, show q + (m + 1) = q + m + 1 by omega]
    unfold KindOk at hkd
    unfold Ent.isE at hE
    apply Prod.ext
    · cases hk : e.kd with
      | none => rw [hk] at hkd; exact hkd.2.2.2.1
      | some kd => cases kd <;> rw [hk] at hkd hE <;> first | exact hkd.2.2.2.2.1 | exact hkd.2.2.2.1 | exact hkd.2.2.1 | (cases hE)
    · cases hk : e.kd with
      | none => rw [hk] at hkd; exact hkd.2.2.2.2
      | some kd => cases kd <;> rw [hk] at hkd hE <;> first | exact hkd.2.2.2.2.2 | exact hkd.2.2.2.2 | exact hkd.2.2.2 | (cases hE)

/-- To the next effect. -/
theorem next_eff (es : List Ent) (N : Nat) : ∀ m q, q + m = N → ∃ p, q ≤ p ∧ p ≤ N ∧ (p = N ∨ ∃ e ∈ es, e.isE = true ∧ e.i = p) ∧ ∀ e ∈ es, e.isE = true → ¬ (q ≤ e.i ∧ e.i < p)
  | 0, q, h => ⟨q, Nat.le_refl _, by omega, .inl (by omega), fun e _ _ h => by omega⟩
  | m + 1, q, h => by
    by_cases hx : ∃ e ∈ es, e.isE = true ∧ e.i = q
    · exact ⟨q, Nat.le_refl _, by omega, .inr hx, fun e _ _ h => by omega⟩
    · obtain ⟨p, h1, h2, h3, h4⟩ := next_eff es N m (q + 1) (by omega)
      refine ⟨p, by omega, h2, h3, fun e he hE h5 => ?_⟩
      by_cases e1 : e.i = q
      · exact hx ⟨e, he, hE, e1⟩
      · exact h4 e he hE ⟨by omega, h5.2⟩

theorem unabs_iff {q j : Nat} : unabs es.reverse q j = true ↔ ∀ e ∈ es, e.isE = true → e.i < q → e.anc.testBit j = false := by
  unfold unabs
  rw [List.all_eq_true]
  constructor
  · intro h e he hE hq
    have := h e (by simpa using he)
    have hb : Nat.blt e.i q = true := by simpa [Nat.blt_eq] using hq
    simpa [hE, hb] using this
  · intro h e he
    have he' : e ∈ es := by simpa using he
    cases hE : e.isE with
    | false => simp
    | true =>
      cases hb : Nat.blt e.i q with
      | false => simp
      | true =>
        have := h e he' hE (by simpa [Nat.blt_eq] using hb)
        simp [this]

theorem unabs_congr {q q' : Nat} (h : ∀ e ∈ es, e.isE = true → (e.i < q ↔ e.i < q')) (j : Nat) : unabs es.reverse q j = unabs es.reverse q' j := by
  rw [Bool.eq_iff_iff, unabs_iff, unabs_iff]
  exact ⟨fun k e he hE hq => k e he hE ((h e he hE).2 hq), fun k e he hE hq => k e he hE ((h e he hE).1 hq)⟩

theorem objAt_congr {acc : List Ent} {D D' : Nat → Bool} {q q' o : Nat} : ∀ l : List Ent, (∀ e ∈ l, e.ob ≠ none → (D e.i && unabs acc q e.i) = (D' e.i && unabs acc q' e.i)) → objAt acc n0 D q l o = objAt acc n0 D' q' l o
  | [], _ => rfl
  | e :: l, h => by
    have ih := objAt_congr l (o := o) (fun x hx => h x (by simp [hx]))
    unfold objAt at ih ⊢
    simp only [List.findSome?_cons, ih]
    have : rowOf acc n0 D q o e = rowOf acc n0 D' q' o e := by
      unfold rowOf
      cases hob : e.ob with
      | none => rfl
      | some x => simp only [h e (by simp) (by rw [hob]; simp)]
    rw [this]

theorem gAt_congr {M M' : Gh} {D D' : Nat → Bool} {q q' : Nat} (hM : M = M') (h : ∀ e ∈ es, e.ob ≠ none → (D e.i && unabs es.reverse q e.i) = (D' e.i && unabs es.reverse q' e.i)) : gAt es.reverse n0 M D q = gAt es.reverse n0 M' D' q' := by
  subst hM
  funext o
  unfold gAt
  rw [objAt_congr es.reverse (fun e he => h e (by simpa using he))]

/-- The row that is found is one entry's. -/
theorem objAt_some {acc l : List Ent} {D : Nat → Bool} {q o : Nat} {x : AObj} (h : objAt acc n0 D q l o = some x) : ∃ e ∈ l, ∃ t cs, e.ob = some (t, cs) ∧ D e.i = true ∧ unabs acc q e.i = true ∧ o = n0 + e.i ∧ x = .row t cs 0 := by
  unfold objAt at h
  obtain ⟨e, he, hr⟩ := List.exists_of_findSome?_eq_some h
  unfold rowOf at hr
  split at hr
  · rename_i t cs hob
    split at hr
    · rename_i hc
      cases hr
      have hc1 := hc.1
      simp only [Bool.and_eq_true] at hc1
      exact ⟨e, he, t, cs, hob, hc1.1, hc1.2, hc.2, rfl⟩
    · cases hr
  · cases hr

theorem Facts.objAt_of (F : Facts tb S sz n0 ops es fin) {D : Nat → Bool} {q : Nat} {e : Ent} (he : e ∈ es) {t : TypeId} {cs : List AV} (hob : e.ob = some (t, cs)) (hD : D e.i = true) (hu : unabs es.reverse q e.i = true) : objAt es.reverse n0 D q es.reverse (n0 + e.i) = some (.row t cs 0) := by
  cases ho : objAt es.reverse n0 D q es.reverse (n0 + e.i) with
  | none =>
    unfold objAt at ho
    rw [List.findSome?_eq_none_iff] at ho
    have := ho e (by simpa using he)
    simp [rowOf, hob, hD, hu] at this
  | some x =>
    obtain ⟨e', he', t', cs', hob', _, _, hi, rfl⟩ := objAt_some ho
    have : e' = e := F.uniq (by simpa using he') he (by omega)
    subst this
    rw [hob] at hob'; cases hob'; rfl

theorem objAt_none {acc l : List Ent} {D : Nat → Bool} {q o : Nat} (h : ∀ e ∈ l, o = n0 + e.i → D e.i = true → unabs acc q e.i = true → e.ob = none) : objAt acc n0 D q l o = none := by
  cases ho : objAt acc n0 D q l o with
  | none => rfl
  | some x =>
    obtain ⟨e, he, t, cs, hob, hD, hu, hi, _⟩ := objAt_some ho
    rw [h e he hi hD hu] at hob; cases hob

end
end Go.Zr
