import Derived.Test.YtkcpfhlfjdnkdaaGreatDoorZuA
import Derived.Laws.AppendOwn
import Derived.WideKeyElems
import Derived.MapKept
namespace Go.Zr
open Go.RowKit Go.MapKept
noncomputable section

section
variable {P : Program} {tb : Tb} {ρ ρ' : Env}

/-- A new object in a new block; nothing that was there turns. -/
theorem Ext.newAt {g : Gh} {n : Nat} {w w' : World} {L : Loc} {ob : AObj} (h : Rel ρ g w) (hfr : Fresh ρ n) (hb : Below w.heap.size w w') (hlo : w.heap.size ≤ L.blk) (hob : ORel (ρ.put n L) w' L ob) :
    Ext ρ g n w (ρ.put n L) (upd g n (some ob)) (n + 1) w' := by
  have hf : ρ.loc n = none := hfr n (Nat.le_refl n)
  have hle : Env.Le ρ (ρ.put n L) := Env.le_put hf
  have old : ∀ o ob M, o ≠ n → g o = some ob → (ρ.put n L).loc o = some M → ρ.loc o = some M ∧ ORel ρ w M ob := by
    intro o ob M hne ho hL
    rw [Env.put_other hne] at hL
    obtain ⟨M', m1, m2⟩ := h.obj o ob ho
    rw [hL] at m1; cases m1
    exact ⟨hL, m2⟩
  refine ⟨hle, ⟨?_, ?_, ?_, ?_⟩, by omega, ?_, ?_, hb.size, fun b hlt _ => hb.block b hlt, ?_, fun _ _ _ x _ => .inl x, hb.tape, hb.os, hb.output⟩
  · intro o1 ob1 ho1
    by_cases e : o1 = n
    · subst e
      simp only [upd, if_true] at ho1; cases ho1
      exact ⟨_, Env.put_same, hob⟩
    · simp only [upd, if_neg e] at ho1
      obtain ⟨M, m1, m2⟩ := h.obj o1 ob1 ho1
      exact ⟨M, hle.loc _ _ m1, (m2.of_heap (hb.block _ m2.lt)).mono hle⟩
  · intro o1 o2 ob1 ob2 L1 L2 hne h1 h2 hown hL1 hL2
    by_cases e1 : o1 = n
    · subst e1
      have e2 : o2 ≠ o1 := fun e => hne e.symm
      simp only [upd, if_neg e2] at h2
      obtain ⟨k1, k2⟩ := old o2 ob2 L2 e2 h2 hL2
      rw [Env.put_same] at hL1; cases hL1
      have := k2.lt
      omega
    · simp only [upd, if_neg e1] at h1
      obtain ⟨k1, k2⟩ := old o1 ob1 L1 e1 h1 hL1
      by_cases e2 : o2 = n
      · subst e2
        rw [Env.put_same] at hL2; cases hL2
        have := k2.lt
        omega
      · simp only [upd, if_neg e2] at h2
        obtain ⟨l1, l2⟩ := old o2 ob2 L2 e2 h2 hL2
        exact h.sep o1 o2 ob1 ob2 L1 L2 hne h1 h2 hown k1 l1
  · intro b i v hv
    have := h.imm b i v hv
    rw [cell_of_heap (hb.block _ (cell_lt this))]; exact this
  · intro o1 ob1 M b i v h1 hown hL hv
    by_cases e1 : o1 = n
    · subst e1
      rw [Env.put_same] at hL; cases hL
      have := cell_lt (h.imm b i v hv)
      simp only at this ⊢; omega
    · simp only [upd, if_neg e1] at h1
      obtain ⟨k1, k2⟩ := old o1 ob1 M e1 h1 hL
      exact h.immSep o1 ob1 M b i v h1 hown k1 hv
  · intro o1 M hL
    by_cases e : o1 = n
    · exact .inr (by omega)
    · rw [Env.put_other e] at hL; exact .inl hL
  · intro o1 ob1 ho1
    by_cases e : o1 = n
    · exact .inr (by omega)
    · simp only [upd, if_neg e] at ho1; exact .inl ⟨ob1, ho1⟩
  · intro o1 ob1 M ho1 hL hlt
    by_cases e : o1 = n
    · subst e; rw [Env.put_same] at hL; cases hL; omega
    · simp only [upd, if_neg e] at ho1
      obtain ⟨k1, k2⟩ := old o1 ob1 M e ho1 hL
      cases hbo : ob1.own with
      | false => exact .inl ⟨rfl, ⟨ob1, ho1⟩, k1⟩
      | true => exact .inr ⟨o1, ob1, M, ho1, hbo, k1, rfl⟩

/-! ### The keys of a map of at most two entries, sorted -/
def leZ : Int → Int → Bool := fun x y => decide (x ≤ y)

theorem sorted_is {ss ks : List Int} (h : ss.Perm ks) (hk : ks.Pairwise (fun a b => a < b)) : ss.mergeSort leZ = ks := by
  have h1 : (ss.mergeSort leZ).Pairwise (fun a b => leZ a b = true) := List.pairwise_mergeSort (by intro a b c; simp only [leZ, decide_eq_true_eq]; omega) (by intro a b; simp only [leZ, Bool.or_eq_true, decide_eq_true_eq]; omega) ss
  refine List.Perm.eq_of_pairwise (le := fun a b => leZ a b = true) ?_ h1 (hk.imp ?_) ((List.mergeSort_perm ss leZ).trans h)
  · intro a b _ _; simp only [leZ, decide_eq_true_eq]; omega
  · intro a b; simp only [leZ, decide_eq_true_eq]; omega

/-- What the contract on the sorted keys says. -/
def SortedKeys (P : Program) (fS gK : FuncId) (tI : TypeId) : Prop :=
  ∀ (Bm b : Nat) (ces : Array MapEntry) (c : Nat) (ks : List Int) (W : World), W.cell? ⟨Bm, 0, none⟩ = some (.map (some b)) → W.heap[b]? = some (.map ces c) → ces.size ≤ 2 → Stamped ces c → ces.toList.map (·.key) = ks.map (Value.int .i64) →
    (∀ k ∈ ks, (Lit.int .i64 k).wf = true) → CallsIn Fence.wide 0 P fS #[.func (.func gK) #[] #[.pointer (some ⟨Bm, 0, none⟩)]] W fun e w' => ∃ (v : Value) (ss : List Int), e = .returned v ∧ ss.Perm ks ∧
      w'.ownsRow W.heap.size tI 1 v ss.length ((ss.mergeSort leZ).map (Value.int .i64)) ∧ Below W.heap.size W w'

def keysA (H : Hp) (r : Nat) : R (List Int) := match H.get r with
  | some (.map [(.int .i64 k, _, b)] c) => bif Nat.blt b c && (Lit.int .i64 k).wf then .ok [k] else .bad "keys"
  | some (.map [(.int .i64 k, _, b), (.int .i64 k', _, b')] c) => bif Nat.blt b b' && Nat.blt b' c && (Lit.int .i64 k).wf && (Lit.int .i64 k').wf && decide (k < k') then .ok [k, k'] else .bad "keys"
  | _ => .bad "keys"

def sortedA (gK : FuncId) (tI : TypeId) (args : List AV) (H : Hp) (n : Nat) : M AV := match args with
  | [.func (.func g) [] [.ptr (some o) _ 0]] => bif Nat.beq g gK then (match H.get o with
    | some (.row _ [.map r] 0) => (keysA H r).bind fun ks => (newRow tI (ks.map (AV.int .i64)) 0 H n).bind fun (i, H, n) => .ok (.slice (some i) [] 0 ks.length ks.length false 1, H, n)
    | _ => .bad "sorted") else .bad "sorted"
  | _ => .bad "sorted"

theorem keysA_at {H : Hp} {w : World} (hr : Rel ρ H.get w) {r : Nat} {ks : List Int} (h : keysA H r = .ok ks) {L : Loc} (hL : ρ.loc r = some L) :
    ∃ ces c, w.heap[L.blk]? = some (.map ces c) ∧ ces.size ≤ 2 ∧ Stamped ces c ∧ ces.toList.map (·.key) = ks.map (Value.int .i64) ∧ (∀ k ∈ ks, (Lit.int .i64 k).wf = true) ∧ ks.Pairwise (fun a b => a < b) := by
  unfold keysA at h
  split at h
  · rename_i k x b c hg
    obtain ⟨M, m1, ces, h1, h2⟩ := hr.obj r _ hg
    rw [hL] at m1; cases m1
    cases hb : (Nat.blt b c && (Lit.int .i64 k).wf) with
    | false => rw [hb] at h; cases h
    | true =>
      rw [hb] at h; simp only [cond_true] at h; cases h
      simp only [Bool.and_eq_true] at hb
      have hlt : b < c := by simpa [Nat.blt_eq] using hb.1
      obtain ⟨e, rfl, e1, e2, rfl⟩ := entRel_one h2
      simp only [VRel] at e1
      refine ⟨_, c, h1, by simp, ⟨by simpa using hlt, by simp, by simp⟩, by simp [e1], by simpa using hb.2, by simp⟩
  · rename_i k x b k' x' b' c hg
    obtain ⟨M, m1, ces, h1, h2⟩ := hr.obj r _ hg
    rw [hL] at m1; cases m1
    cases hb : (Nat.blt b b' && Nat.blt b' c && (Lit.int .i64 k).wf && (Lit.int .i64 k').wf && decide (k < k')) with
    | false => rw [hb] at h; cases h
    | true =>
      rw [hb] at h; simp only [cond_true] at h; cases h
      simp only [Bool.and_eq_true, decide_eq_true_eq] at hb
      obtain ⟨⟨⟨⟨q1, q2⟩, q3⟩, q4⟩, q5⟩ := hb
      have hlt1 : b < b' := by simpa [Nat.blt_eq] using q1
      have hlt2 : b' < c := by simpa [Nat.blt_eq] using q2
      simp only [EntRel] at h2
      obtain ⟨e, l, d1, d2, d3, d4, e', l', rfl, d5, d6, d7, rfl⟩ := h2
      simp only [VRel] at d2 d5
      have hces : ces = #[e, e'] := by apply Array.ext'; rw [d1]
      subst hces; subst d4; subst d7
      refine ⟨_, c, h1, by simp, ⟨by simp; omega, by simp; omega, by simp [d2, d5]; omega⟩, by simp [d2, d5], by simp [q3, q4], by simpa using q5⟩
  · cases h

theorem keysA_pos {H : Hp} {r : Nat} {ks : List Int} (h : keysA H r = .ok ks) : 0 < ks.length := by
  unfold keysA at h
  split at h
  · rename_i k x b c hg
    cases hb : (Nat.blt b c && (Lit.int .i64 k).wf) with
    | false => rw [hb] at h; cases h
    | true => rw [hb] at h; simp only [cond_true] at h; cases h; simp
  · rename_i k x b k' x' b' c hg
    cases hb : (Nat.blt b b' && Nat.blt b' c && (Lit.int .i64 k).wf && (Lit.int .i64 k').wf && decide (k < k')) with
    | false => rw [hb] at h; cases h
    | true => rw [hb] at h; simp only [cond_true] at h; cases h; simp
  · cases h

theorem sortedA_ok {fS gK : FuncId} {fn : Func} {tI : TypeId} (hC : SortedKeys P fS gK tI) (hf : P.funcs[fS]? = some fn) (hn : (fn.name == "runtime.NumGoroutine") = false) (hb : fn.body.isSome = true)
    {base : Nat → Option (Su → List AV → Hp → Nat → M AV)} (hB : BaseOk P tb base) : BaseOk P tb (tell fS (sortedA gK tI) base) := by
  refine tell_ok hB fun args H n v H' n' h ρ w vs hg hr hfr hv => ?_
  unfold sortedA at h
  split at h
  · rename_i g o im
    cases hgk : Nat.beq g gK with
    | false => rw [hgk] at h; cases h
    | true =>
      have := Nat.eq_of_beq_eq_true hgk; subst this
      rw [hgk] at h; simp only [cond_true] at h
      split at h
      · rename_i t r hgo
        rw [R.bind_ok] at h; obtain ⟨ks, hks, h⟩ := h
        simp only [newRow, newO, R.bind] at h
        cases h
        obtain ⟨x, rfl, h1⟩ := vrels_one hv
        simp only [VRel] at h1
        obtain ⟨fn', fs', cs', rfl, hfn, h2, h3⟩ := h1
        simp only [FnRel] at hfn; subst hfn
        simp only [VRels] at h2 h3
        obtain ⟨p, l, e1, h4, rfl⟩ := h3
        simp only [VRel] at h4
        obtain ⟨L, hL, rfl⟩ := h4
        have e2 : fs' = #[] := by apply Array.ext'; rw [h2]
        have e3 : cs' = #[.pointer (some ⟨L.blk, L.lo + 0, none⟩)] := by apply Array.ext'; rw [e1]
        subst e2; subst e3
        obtain ⟨c, fr, q1, q2, q3, q4⟩ := row_at hr hgo hL
        have hlo : L.lo = 0 := q4 rfl
        obtain ⟨y, hy, hvy⟩ := cell_at (off := 0) hr hgo hL rfl
        simp only [VRel] at hvy
        obtain ⟨Lr, hLr, rfl⟩ := hvy
        obtain ⟨ces, cl, k1, k2, k3, k4, k5, k6⟩ := keysA_at hr hks hLr
        rw [hlo] at hy ⊢
        rw [enter_run _ w hf hn hb]
        refine CallsIn.mono (hC L.blk Lr.blk ces cl ks w hy k1 k2 k3 k4 k5) fun e w' he => ?_
        obtain ⟨v, ss, rfl, hp, hrow, hbl⟩ := he
        rw [sorted_is hp k6] at hrow
        have hlen : ss.length = ks.length := hp.length_eq
        rw [hlen] at hrow
        have hne : 0 < ks.length := keysA_pos hks
        rcases hrow.2 with ⟨_, hz⟩ | ⟨gb, cap, cur, rfl, hbase, hgb, r1, r2, r3, r4⟩
        · omega
        · have hcs : cur.toList.take ks.length = ks.map (Value.int .i64) := by simpa using r4
          have hsz : cur.size = cap := by simpa using r3
          have hrl : VRels (ρ.put n ⟨gb, 0, cur.size⟩) (ks.map (AV.int .i64)) (ks.map (Value.int .i64)) := by
            refine VRels.of_get (by simp) fun i a v ha hv => ?_
            rw [List.getElem?_map] at ha hv
            cases hq : ks[i]? with
            | none => rw [hq] at ha; cases ha
            | some z =>
              rw [hq] at ha hv
              simp only [Option.map_some, Option.some.injEq] at ha hv
              subst ha; subst hv
              simp only [VRel]
          refine ⟨ρ.put n ⟨gb, 0, cur.size⟩, ?_, ?_⟩
          · rw [upd_set]
            refine Ext.newAt hr hfr hbl hbase ⟨cur, (0, 0), hgb, by simp; omega, Nat.le_refl _, ?_, fun _ => ⟨rfl, rfl⟩, fun _ => .inl rfl⟩
            rw [List.drop_zero, List.length_map, hcs]
            exact hrl
          · simp only [VRel]
            exact ⟨⟨gb, 0, cur.size⟩, ⟨gb, 0, none⟩, cap, Env.put_same, rfl, Nat.le_refl _, r1, (fun e => by cases e), .inr ⟨by simp, by simp; omega⟩⟩
      · cases h
  · cases h
end
end
end Go.Zr
