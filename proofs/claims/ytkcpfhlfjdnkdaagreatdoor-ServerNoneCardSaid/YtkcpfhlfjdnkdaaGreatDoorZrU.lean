import Derived.Test.YtkcpfhlfjdnkdaaGreatDoorZrT
namespace Go.Zr

/-! ### Who is ahead of whom -/
def bvOf (f : Nat → Nat) (l : List Edge) (s : Nat) : Nat := l.foldl (fun s e => if Region.binds .any e then s ||| 2 ^ e.on ||| f e.on else s) s

theorem bvOf_testBit (f : Nat → Nat) (j : Nat) : ∀ (l : List Edge) (s : Nat), (bvOf f l s).testBit j = (s.testBit j || l.any fun e => Region.binds .any e && (e.on == j || (f e.on).testBit j))
  | [], s => by simp [bvOf]
  | e :: l, s => by
    have := bvOf_testBit f j l (if Region.binds .any e then s ||| 2 ^ e.on ||| f e.on else s)
    unfold bvOf at this ⊢
    simp only [List.foldl_cons, this, List.any_cons]
    cases hb : Region.binds .any e with
    | true =>
      simp only [if_true, Nat.testBit_or, Nat.testBit_two_pow, Bool.true_and]
      cases s.testBit j <;> cases e1 : (e.on == j) <;> simp_all
    | false => simp

def befL : List Oper → Array Nat → Array Nat
  | [], acc => acc
  | o :: l, acc => befL l (acc.push (bvOf (fun i => acc.getD i 0) o.after.toList 0))

theorem before_eq (ops : Array Oper) : Region.before ops = befL ops.toList #[] := by
  unfold Region.before
  rw [← Array.foldl_toList]
  have key : ∀ (l : List Oper) (acc : Array Nat), l.foldl (fun acc o => acc.push (o.after.foldl (fun s e => if Region.binds .any e then s ||| 2 ^ e.on ||| acc.getD e.on 0 else s) 0)) acc = befL l acc := by
    intro l
    induction l with
    | nil => intro acc; rfl
    | cons o l ih =>
      intro acc
      simp only [List.foldl_cons, befL]
      rw [ih]
      congr 2
      unfold bvOf
      rw [← Array.foldl_toList]
  exact key _ _

theorem befL_size : ∀ (l : List Oper) (acc : Array Nat), (befL l acc).size = acc.size + l.length
  | [], acc => by simp [befL]
  | o :: l, acc => by simp only [befL, befL_size l, Array.size_push, List.length_cons]; omega

theorem befL_old : ∀ (l : List Oper) (acc : Array Nat) (i : Nat), i < acc.size → (befL l acc)[i]? = acc[i]?
  | [], acc, i, h => rfl
  | o :: l, acc, i, h => by
    simp only [befL]
    rw [befL_old l _ i (by simp; omega), Array.getElem?_push_lt h, Array.getElem?_eq_getElem h]

theorem befL_at : ∀ (l : List Oper) (acc : Array Nat) (k : Nat) (o : Oper), l[k]? = some o →
    (befL l acc)[acc.size + k]? = some (bvOf (fun i => if i < acc.size + k then (befL l acc).getD i 0 else 0) o.after.toList 0)
  | [], acc, k, o, h => by simp at h
  | o' :: l, acc, 0, o, h => by
    simp at h; subst h
    simp only [Nat.add_zero]
    have : (fun i => if i < acc.size then (befL (o' :: l) acc).getD i 0 else 0) = fun i => acc.getD i 0 := by
      funext i
      by_cases hi : i < acc.size
      · rw [if_pos hi, Array.getD_eq_getD_getElem?, befL_old _ _ _ hi, Array.getD_eq_getD_getElem?]
      · rw [if_neg hi, Array.getD_eq_getD_getElem?, Array.getElem?_eq_none (by omega)]; rfl
    rw [this]
    simp only [befL]
    rw [befL_old _ _ _ (by simp)]
    simp
  | o' :: l, acc, k + 1, o, h => by
    simp at h
    have := befL_at l (acc.push (bvOf (fun i => acc.getD i 0) o'.after.toList 0)) k o h
    simp only [Array.size_push] at this
    simp only [befL]
    rw [show acc.size + (k + 1) = acc.size + 1 + k by omega]
    exact this

theorem before_at {ops : Array Oper} {i : Nat} {o : Oper} (h : ops[i]? = some o) :
    (Region.before ops)[i]? = some (bvOf (fun j => if j < i then (Region.before ops).getD j 0 else 0) o.after.toList 0) := by
  have := befL_at ops.toList #[] i o (by simpa using h)
  simp only [List.size_toArray, List.length_nil, Nat.zero_add] at this
  rw [before_eq]; exact this

theorem before_size (ops : Array Oper) : (Region.before ops).size = ops.size := by rw [before_eq, befL_size]; simp

/-- What is ahead: by an edge, or by what is ahead of one. -/
theorem before_bit {ops : Array Oper} {i : Nat} {o : Oper} (h : ops[i]? = some o) (j : Nat) :
    ((Region.before ops).getD i 0).testBit j = true ↔ ∃ e ∈ o.after, Region.binds .any e = true ∧ (e.on = j ∨ (e.on < i ∧ ((Region.before ops).getD e.on 0).testBit j = true)) := by
  rw [Array.getD_eq_getD_getElem?, before_at h, Option.getD_some, bvOf_testBit]
  simp only [Nat.zero_testBit, Bool.false_or, List.any_eq_true, Bool.and_eq_true, Bool.or_eq_true, beq_iff_eq]
  constructor
  · rintro ⟨e, he, hb, h1⟩
    refine ⟨e, by simpa using he, hb, ?_⟩
    rcases h1 with h1 | h1
    · exact .inl h1
    · by_cases hlt : e.on < i
      · rw [if_pos hlt] at h1; exact .inr ⟨hlt, h1⟩
      · rw [if_neg hlt] at h1; simp at h1
  · rintro ⟨e, he, hb, h1⟩
    refine ⟨e, by simpa using he, hb, ?_⟩
    rcases h1 with h1 | ⟨hlt, h1⟩
    · exact .inl h1
    · rw [if_pos hlt]; exact .inr h1

/-! ### Values that are alike -/
mutual
theorem beqV_eq : ∀ (a b : AV), beqV a b = true → a = b
  | .bool _, b, h => by cases b <;> simp [beqV] at h; rw [h]
  | .int _ _, b, h => by cases b <;> simp [beqV] at h; rw [h.1, h.2]
  | .str _, b, h => by
    cases b <;> simp [beqV] at h
    rw [beqB_eq] at h; simp at h; rw [h]
  | .pnil, b, h => by cases b <;> simp [beqV] at h; rfl
  | .ptr o im off, b, h => by
    cases b with
    | ptr o' im' off' =>
      cases o with
      | none => simp [beqV] at h
      | some o =>
        cases o' with
        | none => simp [beqV] at h
        | some o' =>
          cases im <;> cases im' <;> simp [beqV] at h
          rw [h.1, h.2]
    | _ => simp [beqV] at h
  | .snil, b, h => by cases b <;> simp [beqV] at h; rfl
  | .slice o im off len lo ex es, b, h => by
    cases b with
    | slice o' im' off' len' lo' ex' es' =>
      cases o with
      | none => simp [beqV] at h
      | some o =>
        cases o' with
        | none => simp [beqV] at h
        | some o' =>
          cases im <;> cases im' <;> simp [beqV] at h
          obtain ⟨⟨⟨⟨⟨h1, h2⟩, h3⟩, h4⟩, h5⟩, h6⟩ := h
          rw [h1, h2, h3, h4, h5, h6]
    | _ => simp [beqV] at h
  | .mnil, b, h => by cases b <;> simp [beqV] at h; rfl
  | .map _, b, h => by cases b <;> simp [beqV] at h; rw [h]
  | .fnil, b, h => by cases b <;> simp [beqV] at h; rfl
  | .func fn x y, b, h => by
    cases b with
    | func fn' x' y' =>
      cases fn with
      | func f =>
        cases fn' <;> simp [beqV] at h
        rw [h.1.1, beqVs_eq _ _ h.1.2, beqVs_eq _ _ h.2]
      | methodOf t s =>
        cases fn' <;> simp [beqV] at h
        rw [h.1.1.1, h.1.1.2, beqVs_eq _ _ h.1.2, beqVs_eq _ _ h.2]
      | _ => simp [beqV] at h
    | _ => cases fn <;> simp [beqV] at h
  | .inil, b, h => by cases b <;> simp [beqV] at h; rfl
  | .iface t v, b, h => by
    cases b <;> simp [beqV] at h
    rw [h.1, beqV_eq _ _ h.2]
  | .agg l, b, h => by
    cases b <;> simp [beqV] at h
    rw [beqVs_eq _ _ h]
  | .tuple l, b, h => by
    cases b <;> simp [beqV] at h
    rw [beqVs_eq _ _ h]
theorem beqVs_eq : ∀ (a b : List AV), beqV.beqVs a b = true → a = b
  | [], [], _ => rfl
  | [], _ :: _, h => by simp [beqV.beqVs] at h
  | _ :: _, [], h => by simp [beqV.beqVs] at h
  | x :: a, y :: b, h => by
    simp only [beqV.beqVs, Bool.and_eq_true] at h
    rw [beqV_eq x y h.1, beqVs_eq a b h.2]
end

end Go.Zr
