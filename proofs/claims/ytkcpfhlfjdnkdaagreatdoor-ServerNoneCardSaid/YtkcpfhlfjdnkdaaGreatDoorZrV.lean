import Derived.Test.YtkcpfhlfjdnkdaaGreatDoorZrU
namespace Go.Zr

section
variable (tb : Tb) (S : Su) (sz n0 : Nat) (ops : Array Oper)

/-- What is known of an entry. -/
def KindOk (acc : List Ent) (e : Ent) (H' : Hp) (n' : Nat) : Prop :=
  match e.kd with
  | none => guardA ops e.T e.o = false ∧ e.v = undA ∧ e.ob = none ∧ H' = e.H ∧ n' = e.n
  | some .pure => guardA ops e.T e.o = true ∧ kindOf tb e.o = .pure ∧ pureA tb e.o e.T = .ok e.v ∧ e.ob = none ∧ H' = e.H ∧ n' = e.n
  | some .read => guardA ops e.T e.o = true ∧ kindOf tb e.o = .read ∧ readA tb e.o e.T (heapAt acc n0 e.anc e.i e.H) = .ok e.v ∧ e.ob = none ∧ H' = e.H ∧ n' = e.n
  | some .alloc => guardA ops e.T e.o = true ∧ (∃ r, allocA tb e.o e.T (n0 + e.i) = .ok r ∧ e.v = r.1 ∧ e.ob = some r.2) ∧ H' = e.H ∧ n' = e.n
  | some .eff => guardA ops e.T e.o = true ∧ effA tb S e.o e.T (heapAt acc n0 e.anc e.i e.H) e.n = .ok (e.v, H', n') ∧ e.ob = none

/-- The entries in their order. -/
def Way (Tf : Tm) (Hf : Hp) (nf : Nat) : List Ent → List Ent → Nat → Tm → Hp → Nat → Prop
  | [], _, i, T, H, n => i = ops.size ∧ T = Tf ∧ H = Hf ∧ n = nf
  | e :: es, acc, i, T, H, n => e.i = i ∧ e.T = T ∧ e.H = H ∧ e.n = n ∧ ops[i]? = some e.o ∧ e.anc = (Region.before ops).getD i 0 ∧
      ∃ T1 H1 n1, putD sz T e.o.dst e.v = .ok T1 ∧ KindOk tb S n0 ops acc e H1 n1 ∧ Way Tf Hf nf es (e :: acc) (i + 1) T1 H1 n1

theorem pass_way : ∀ (rest : List Oper) (i : Nat) (acc : List Ent) (T : Tm) (H : Hp) (n : Nat) (accf : List Ent) (Tf : Tm) (Hf : Hp) (nf : Nat), ops.toList.drop i = rest → i ≤ ops.size →
    passA tb S sz n0 ops ((List.range' i rest.length).zip rest) ((Region.before ops).toList.drop i) acc T H n = .ok (accf, Tf, Hf, nf) →
    ∃ es, accf = es.reverse ++ acc ∧ Way tb S sz n0 ops Tf Hf nf es acc i T H n
  | [], i, acc, T, H, n, accf, Tf, Hf, nf, hd, hi, h => by
    simp only [List.length_nil, List.range'_zero, List.zip_nil_left, passA] at h
    cases h
    have : ops.size - i = 0 := by have := congrArg List.length hd; simpa using this
    exact ⟨[], by simp, by omega, rfl, rfl, rfl⟩
  | o :: rest, i, acc, T, H, n, accf, Tf, Hf, nf, hd, hi, h => by
    have ho : ops[i]? = some o := by
      have : (ops.toList.drop i)[0]? = some o := by rw [hd]; rfl
      simpa using this
    have hlt : i < ops.size := (Array.getElem?_eq_some_iff.1 ho).1
    have hd' : ops.toList.drop (i + 1) = rest := by rw [← List.drop_drop, hd]; rfl
    have hanc : (Region.before ops).toList.drop i = (Region.before ops).getD i 0 :: (Region.before ops).toList.drop (i + 1) := by
      have hl : i < (Region.before ops).toList.length := by simp [before_size, hlt]
      rw [List.drop_eq_getElem_cons hl]
      congr 1
      have : i < (Region.before ops).size := by rw [before_size]; exact hlt
      simp [Array.getD_eq_getD_getElem?, Array.getElem?_eq_getElem this]
    rw [hanc] at h
    simp only [List.length_cons, List.range'_succ, List.zip_cons_cons, passA] at h
    -- one entry, then the others
    have go : ∀ (e : Ent) (T1 : Tm) (H1 : Hp) (n1 : Nat), e.i = i → e.T = T → e.H = H → e.n = n → e.o = o → e.anc = (Region.before ops).getD i 0 → putD sz T o.dst e.v = .ok T1 → KindOk tb S n0 ops acc e H1 n1 →
        passA tb S sz n0 ops ((List.range' (i + 1) rest.length).zip rest) ((Region.before ops).toList.drop (i + 1)) (e :: acc) T1 H1 n1 = .ok (accf, Tf, Hf, nf) →
        ∃ es, accf = es.reverse ++ acc ∧ Way tb S sz n0 ops Tf Hf nf es acc i T H n := by
      intro e T1 H1 n1 h1 h2 h3 h4 h5 h6 h7 h8 h9
      obtain ⟨es, h10, h11⟩ := pass_way rest (i + 1) (e :: acc) T1 H1 n1 accf Tf Hf nf hd' (by omega) h9
      exact ⟨e :: es, by rw [h10]; simp, h1, h2, h3, h4, by rw [h5]; exact ho, h6, T1, H1, n1, by rw [h5]; exact h7, h8, h11⟩
    cases hg : guardA ops T o with
    | false =>
      simp only [hg, cond_false] at h
      rw [R.bind_ok] at h; obtain ⟨T1, hp, h⟩ := h
      exact go ⟨i, o, (Region.before ops).getD i 0, none, T, H, n, undA, none⟩ T1 H n rfl rfl rfl rfl rfl rfl hp ⟨hg, rfl, rfl, rfl, rfl⟩ h
    | true =>
      simp only [hg, cond_true] at h
      split at h
      · rename_i hk
        rw [R.bind_ok] at h; obtain ⟨v, hv, h⟩ := h
        rw [R.bind_ok] at h; obtain ⟨T1, hp, h⟩ := h
        exact go ⟨i, o, (Region.before ops).getD i 0, some .pure, T, H, n, v, none⟩ T1 H n rfl rfl rfl rfl rfl rfl hp ⟨hg, hk, hv, rfl, rfl, rfl⟩ h
      · rename_i hk
        rw [R.bind_ok] at h; obtain ⟨v, hv, h⟩ := h
        rw [R.bind_ok] at h; obtain ⟨T1, hp, h⟩ := h
        exact go ⟨i, o, (Region.before ops).getD i 0, some .read, T, H, n, v, none⟩ T1 H n rfl rfl rfl rfl rfl rfl hp ⟨hg, hk, hv, rfl, rfl, rfl⟩ h
      · rw [R.bind_ok] at h; obtain ⟨r, hv, h⟩ := h
        rw [R.bind_ok] at h; obtain ⟨T1, hp, h⟩ := h
        exact go ⟨i, o, (Region.before ops).getD i 0, some .alloc, T, H, n, r.1, some r.2⟩ T1 H n rfl rfl rfl rfl rfl rfl hp ⟨hg, ⟨r, hv, rfl, rfl⟩, rfl, rfl⟩ h
      · rw [R.bind_ok] at h; obtain ⟨⟨v, H1, n1⟩, hv, h⟩ := h
        rw [R.bind_ok] at h; obtain ⟨T1, hp, h⟩ := h
        exact go ⟨i, o, (Region.before ops).getD i 0, some .eff, T, H, n, v, none⟩ T1 H1 n1 rfl rfl rfl rfl rfl rfl hp ⟨hg, hv, rfl⟩ h
end

/-! ### The heap at a cut -/
/-- The row of an entry, if it stands at o. -/
def rowOf (acc : List Ent) (n0 : Nat) (D : Nat → Bool) (q o : Nat) (e : Ent) : Option AObj :=
  match e.ob with
  | some (t, cs) => if (D e.i && unabs acc q e.i) = true ∧ o = n0 + e.i then some (.row t cs 0) else none
  | none => none

def objAt (acc : List Ent) (n0 : Nat) (D : Nat → Bool) (q : Nat) (l : List Ent) (o : Nat) : Option AObj := l.findSome? (rowOf acc n0 D q o)

def gAt (acc : List Ent) (n0 : Nat) (M : Gh) (D : Nat → Bool) (q : Nat) : Gh := fun o => match objAt acc n0 D q acc o with
  | some x => some x
  | none => M o

theorem addAll_get (H : Hp) (o : Nat) : ∀ l : List (Nat × AObj), (addAll H l).get o = match l.findSome? (fun x => if o = x.1 then some x.2 else none) with | some x => some x | none => H.get o
  | [] => rfl
  | (i, ob) :: l => by
    simp only [addAll, PT.get_set, List.findSome?_cons]
    by_cases e : o = i
    · simp [e]
    · simp only [if_neg e]; exact addAll_get H o l

theorem objs_find (acc : List Ent) (n0 m q o : Nat) : ∀ l : List Ent, (objs acc n0 m q l).findSome? (fun x => if o = x.1 then some x.2 else none) = objAt acc n0 (fun i => m.testBit i) q l o
  | [] => rfl
  | e :: l => by
    have ih := objs_find acc n0 m q o l
    unfold objAt at ih ⊢
    simp only [objs, List.findSome?_cons, rowOf]
    cases hob : e.ob with
    | none => exact ih
    | some x =>
      obtain ⟨t, cs⟩ := x
      cases hb : (m.testBit e.i && unabs acc q e.i) with
      | true =>
        simp only [cond_true, List.findSome?_cons, true_and]
        by_cases h : o = n0 + e.i
        · simp [h]
        · simp only [if_neg h]; exact ih
      | false => simp only [cond_false, Bool.false_eq_true, false_and, if_false]; exact ih

theorem heapAt_get (acc : List Ent) (n0 m q : Nat) (H : Hp) : (heapAt acc n0 m q H).get = gAt acc n0 H.get (fun i => m.testBit i) q := by
  funext o
  unfold heapAt gAt
  rw [addAll_get, objs_find]

end Go.Zr
