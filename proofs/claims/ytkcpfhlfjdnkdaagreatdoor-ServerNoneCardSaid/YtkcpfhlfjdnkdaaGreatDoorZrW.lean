import Derived.Test.YtkcpfhlfjdnkdaaGreatDoorZrV
namespace Go.Zr

section
variable {P : Program} {tb : Tb} {S : Su} {sz n0 : Nat} {ops : Array Oper}

/-- The state ahead of an entry. -/
def stAt (es : List Ent) (fin : Tm × Hp × Nat) (k : Nat) : Tm × Hp × Nat := match es[k]? with
  | some e => (e.T, e.H, e.n)
  | none => fin

theorem way_at {Tf : Tm} {Hf : Hp} {nf : Nat} : ∀ (es acc : List Ent) (i : Nat) (T : Tm) (H : Hp) (n : Nat), Way tb S sz n0 ops Tf Hf nf es acc i T H n →
    i + es.length = ops.size ∧ stAt es (Tf, Hf, nf) 0 = (T, H, n) ∧ ∀ k e, es[k]? = some e → e.i = i + k ∧ ops[i + k]? = some e.o ∧ e.anc = (Region.before ops).getD (i + k) 0 ∧
      putD sz e.T e.o.dst e.v = .ok (stAt es (Tf, Hf, nf) (k + 1)).1 ∧ KindOk tb S n0 ops ((es.take k).reverse ++ acc) e (stAt es (Tf, Hf, nf) (k + 1)).2.1 (stAt es (Tf, Hf, nf) (k + 1)).2.2
  | [], acc, i, T, H, n, h => by
    obtain ⟨h1, h2, h3, h4⟩ := h
    exact ⟨by simpa using h1, by simp [stAt, h2, h3, h4], fun k e he => by simp at he⟩
  | e0 :: es, acc, i, T, H, n, h => by
    obtain ⟨h1, h2, h3, h4, h5, h6, T1, H1, n1, h7, h8, h9⟩ := h
    obtain ⟨g1, g2, g3⟩ := way_at es (e0 :: acc) (i + 1) T1 H1 n1 h9
    refine ⟨by simp; omega, by simp [stAt, h2, h3, h4], fun k e he => ?_⟩
    cases k with
    | zero =>
      simp at he; subst he
      have hn : stAt (e0 :: es) (Tf, Hf, nf) 1 = (T1, H1, n1) := by rw [← g2]; simp [stAt]
      rw [Nat.zero_add, hn]
      exact ⟨h1, h5, h6, by rw [h2]; exact h7, by simpa using h8⟩
    | succ k =>
      have he' : es[k]? = some e := by simpa using he
      obtain ⟨f1, f2, f3, f4, f5⟩ := g3 k e he'
      have hn : stAt (e0 :: es) (Tf, Hf, nf) (k + 1 + 1) = stAt es (Tf, Hf, nf) (k + 1) := by simp [stAt]
      rw [hn]
      refine ⟨by omega, by rw [show i + (k + 1) = i + 1 + k by omega]; exact f2, by rw [show i + (k + 1) = i + 1 + k by omega]; exact f3, f4, ?_⟩
      have : (List.take (k + 1) (e0 :: es)).reverse ++ acc = (es.take k).reverse ++ (e0 :: acc) := by simp
      rw [this]; exact f5

theorem unabs_append {new old : List Ent} {q j : Nat} (h : ∀ e ∈ new, ¬ e.i < q) : unabs (new ++ old) q j = unabs old q j := by
  unfold unabs
  rw [List.all_append]
  have : (new.all fun e => !(e.isE && Nat.blt e.i q && e.anc.testBit j)) = true := by
    rw [List.all_eq_true]
    intro e he
    have : Nat.blt e.i q = false := by
      cases hb : Nat.blt e.i q with
      | false => rfl
      | true => exact absurd (by simpa [Nat.blt_eq] using hb) (h e he)
    simp [this]
  rw [this, Bool.true_and]

theorem objs_congr {acc acc' : List Ent} {m q : Nat} (h : ∀ j, unabs acc q j = unabs acc' q j) : ∀ l : List Ent, objs acc n0 m q l = objs acc' n0 m q l
  | [] => rfl
  | e :: l => by simp only [objs, h, objs_congr h l]

theorem objs_skip {acc : List Ent} {m q : Nat} : ∀ (new old : List Ent), (∀ e ∈ new, m.testBit e.i = false) → objs acc n0 m q (new ++ old) = objs acc n0 m q old
  | [], old, _ => rfl
  | e :: new, old, h => by
    have h0 := h e (by simp)
    have ih := objs_skip new old (acc := acc) (m := m) (q := q) (fun x hx => h x (by simp [hx]))
    simp only [List.cons_append, objs]
    cases e.ob with
    | none => simpa using ih
    | some x => simp only [h0, Bool.false_and, cond_false]; exact ih

theorem heapAt_prefix {new old : List Ent} {m q : Nat} {H : Hp} (hm : m < 2 ^ q) (h : ∀ e ∈ new, q ≤ e.i) : heapAt (new ++ old) n0 m q H = heapAt old n0 m q H := by
  unfold heapAt
  rw [objs_skip new old (fun e he => Nat.testBit_lt_two_pow (Nat.lt_of_lt_of_le hm (Nat.pow_le_pow_right (by decide) (h e he)))),
    objs_congr (fun j => unabs_append (fun e he hlt => absurd (h e he) (by omega))) old]

/-- What is known of a region's entries. -/
structure Facts (tb : Tb) (S : Su) (sz n0 : Nat) (ops : Array Oper) (es : List Ent) (fin : Tm × Hp × Nat) : Prop where
  len : es.length = ops.size
  at_ : ∀ k e, es[k]? = some e → e.i = k ∧ ops[k]? = some e.o ∧ e.anc = (Region.before ops).getD k 0
  put : ∀ k e, es[k]? = some e → putD sz e.T e.o.dst e.v = .ok (stAt es fin (k + 1)).1
  kind : ∀ k e, es[k]? = some e → KindOk tb S n0 ops es.reverse e (stAt es fin (k + 1)).2.1 (stAt es fin (k + 1)).2.2
  line : ∀ e ∈ es, ∀ e' ∈ es, e.isE = true → e'.isE = true → e'.i < e.i → e.anc.testBit e'.i = true
  slots : ∀ e ∈ es, ∀ d, e.o.dst = some d → ∀ r ∈ es, r.i = e.i ∨ (r.o.dst ≠ some d ∧ (d ∈ looks ops r.o → r.anc.testBit e.i = true ∨ e.anc.testBit r.i = true))
  ancs : ∀ e ∈ es, e.anc < 2 ^ e.i
  sees : ∀ r ∈ es, r.isR = true → Zr.sees tb es.reverse n0 r ops.size fin.2.1 = true ∧ ∀ e ∈ es, e.isE = true → Zr.sees tb es.reverse n0 r e.i e.H = true

theorem key_mem {e : Ent} (h : ops[e.i]? = some e.o) (h2 : e.anc = (Region.before ops).getD e.i 0) : (e.i, e.o, e.anc) ∈ keysOf ops := by
  unfold keysOf
  rw [List.mem_map]
  refine ⟨(e.i, e.o), ?_, by rw [h2]⟩
  have hlt : e.i < ops.size := (Array.getElem?_eq_some_iff.1 h).1
  apply List.mem_of_getElem? (i := e.i)
  rw [List.getElem?_zip_eq_some]
  exact ⟨by simp [hlt], by simpa using h⟩

theorem slot_spec (h : slotsK ops (keysOf ops) = true) {e : Ent} (he : (e.i, e.o, e.anc) ∈ keysOf ops) {d : Tmp} (hd : e.o.dst = some d) {r : Ent} (hr : (r.i, r.o, r.anc) ∈ keysOf ops) :
    r.i = e.i ∨ (r.o.dst ≠ some d ∧ (d ∈ looks ops r.o → r.anc.testBit e.i = true ∨ e.anc.testBit r.i = true)) := by
  unfold slotsK at h
  rw [List.all_eq_true] at h
  have h1 := h _ he
  simp only [hd] at h1
  rw [List.all_eq_true] at h1
  have h2 := h1 _ hr
  simp only [Bool.or_eq_true, Bool.and_eq_true, Bool.not_eq_true'] at h2
  rcases h2 with h2 | ⟨h2, h3⟩
  · exact .inl (Nat.eq_of_beq_eq_true h2)
  · refine .inr ⟨fun e1 => ?_, fun hl => ?_⟩
    · rw [e1] at h2; simp at h2
    · rcases h3 with (h3 | h3) | h3
      · rw [List.any_eq_false] at h3
        exact absurd (Nat.beq_refl d) (by simpa using h3 d hl)
      · exact .inl h3
      · exact .inr h3

theorem facts_of {T : Tm} {H : Hp} {es : List Ent} {Tf : Tm} {Hf : Hp} {nf n : Nat} (hw : Way tb S sz n0 ops Tf Hf nf es [] 0 T H n)
    (h1 : lineOk es.reverse = true) (h2 : slotsK ops (keysOf ops) = true) (h3 : ancsK (keysOf ops) = true)
    (h4 : (es.reverse.all fun r => !r.isR || (sees tb es.reverse n0 r ops.size Hf && es.reverse.all fun e => !e.isE || sees tb es.reverse n0 r e.i e.H)) = true) :
    Facts tb S sz n0 ops es (Tf, Hf, nf) ∧ stAt es (Tf, Hf, nf) 0 = (T, H, n) := by
  obtain ⟨g1, g2, g3⟩ := way_at es [] 0 T H n hw
  have hkey : ∀ e ∈ es, (e.i, e.o, e.anc) ∈ keysOf ops := by
    intro e he
    obtain ⟨k, hk⟩ := List.getElem?_of_mem he
    obtain ⟨f1, f2, f3, _⟩ := g3 k e hk
    exact key_mem (by rw [f1]; exact f2) (by rw [f1]; exact f3)
  have hanc : ∀ e ∈ es, e.anc < 2 ^ e.i := by
    intro e he
    unfold ancsK at h3
    rw [List.all_eq_true] at h3
    simpa [Nat.blt_eq] using h3 _ (hkey e he)
  have hat : ∀ (k : Nat) (e : Ent), es[k]? = some e → e.i = k := fun k e he => by have := (g3 k e he).1; omega
  refine ⟨⟨by simpa using g1, fun k e he => ?_, fun k e he => (g3 k e he).2.2.2.1, fun k e he => ?_, fun e he e' he' hE hE' hlt => ?_, fun e he d hd r hr => slot_spec h2 (hkey e he) hd (hkey r hr), hanc, fun r hr hR => ?_⟩, g2⟩
  · have := g3 k e he
    simp only [Nat.zero_add] at this
    exact ⟨this.1, this.2.1, this.2.2.1⟩
  · have hk := (g3 k e he).2.2.2.2
    simp only [List.append_nil] at hk
    have hsplit : es.reverse = (es.drop k).reverse ++ (es.take k).reverse := by rw [← List.reverse_append, List.take_append_drop]
    unfold KindOk at hk ⊢
    cases hkd : e.kd with
    | none => rw [hkd] at hk; exact hk
    | some kd =>
      rw [hkd] at hk
      cases kd with
      | eff =>
        simp only at hk ⊢
        have hi := hat k e he
        rw [hsplit, heapAt_prefix (hanc e (List.mem_of_getElem? he)) (fun x hx => ?_)]
        · exact hk
        · simp only [List.mem_reverse] at hx
          obtain ⟨j, hj⟩ := List.getElem?_of_mem hx
          rw [List.getElem?_drop] at hj
          have := hat _ _ hj
          omega
      | read =>
        simp only at hk ⊢
        have hi := hat k e he
        rw [hsplit, heapAt_prefix (hanc e (List.mem_of_getElem? he)) (fun x hx => ?_)]
        · exact hk
        · simp only [List.mem_reverse] at hx
          obtain ⟨j, hj⟩ := List.getElem?_of_mem hx
          rw [List.getElem?_drop] at hj
          have := hat _ _ hj
          omega
      | _ => exact hk
  · unfold lineOk at h1
    rw [List.all_eq_true] at h1
    have := h1 e (by simpa using he)
    simp only [hE, Bool.not_true, Bool.false_or] at this
    rw [List.all_eq_true] at this
    have := this e' (by simpa using he')
    have hb : Nat.blt e'.i e.i = true := by simpa [Nat.blt_eq] using hlt
    simpa [hE', hb] using this
  · rw [List.all_eq_true] at h4
    have := h4 r (by simpa using hr)
    simp only [hR, Bool.not_true, Bool.false_or, Bool.and_eq_true] at this
    refine ⟨this.1, fun e he hE => ?_⟩
    have h5 := this.2
    rw [List.all_eq_true] at h5
    have := h5 e (by simpa using he)
    simpa [hE] using this

end
end Go.Zr
