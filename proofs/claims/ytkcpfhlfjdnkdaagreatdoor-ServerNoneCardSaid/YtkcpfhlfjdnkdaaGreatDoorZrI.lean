import Derived.Test.YtkcpfhlfjdnkdaaGreatDoorZrH
import Derived.Laws.StructEq
import Derived.Laws.BytesArg
import Derived.Laws.BytesString
import Derived.Laws.Cover4
namespace Go.Zr

section
variable {P : Program} {tb : Tb} {ρ : Env}

theorem TbOk.cells (ok : TbOk P tb) {t : TypeId} {n : Nat} (h : tb.size t = .ok n) : P.cellsOf t = n := by
  obtain ⟨i, h1, h2⟩ := ok.size h
  simp [Program.cellsOf, h1, h2]

theorem fieldsOf_eq {t : TypeId} {fs : Array Field} (h : P.underlying t = some (.struct fs)) : P.fieldsOf t = fs := by simp [Program.fieldsOf, h]

/-- A pointer into a row of one's own, plain. -/
theorem own_addr {H : Hp} {w : World} (hr : Rel ρ H.get w) {o : Nat} {t : TypeId} {cs : List AV} {L : Loc} (hg : H.get o = some (.row t cs 0)) (hL : ρ.loc o = some L) :
    ∃ c, w.heap[L.blk]? = some (.cells c t (0, 0)) ∧ cs.length ≤ c.size ∧ L.lo = 0 := by
  obtain ⟨M, m1, c, fr, h1, h2, h3, h4, h5, h6⟩ := hr.obj o _ hg
  rw [hL] at m1; cases m1
  obtain ⟨h7, rfl⟩ := h5 rfl
  exact ⟨c, h1, by omega, h7⟩

theorem samePtr_sound {H : Hp} {w : World} (hr : Rel ρ H.get w) {o o' i j : Nat} {L L' : Loc} (hL : ρ.loc o = some L) (hL' : ρ.loc o' = some L') {b : Bool}
    (h : (bif Nat.beq o o' then R.ok (Nat.beq i j) else
      match H.get o, H.get o' with
      | some (.row _ cs k), some (.row _ cs' k') => bif Nat.blt i cs.length && Nat.blt j cs'.length && Nat.beq k 0 && Nat.beq k' 0 then .ok false else .bad "eq ptr"
      | _, _ => .bad "eq ptr") = .ok b) :
    (sameAddr ⟨L.blk, L.lo + i, none⟩ ⟨L'.blk, L'.lo + j, none⟩).run P w = .ok b w := by
  cases hb : Nat.beq o o' with
  | true =>
    have e := Nat.eq_of_beq_eq_true hb; subst e
    rw [hL] at hL'; cases hL'
    simp only [hb, cond_true] at h; cases h
    unfold sameAddr
    simp only [beq_self_eq_true, if_true, Sem.run_pure]
    congr 1
    by_cases e : i = j
    · subst e; simp
    · rw [nbeq_ne e]; simp; omega
  | false =>
    simp only [hb, cond_false] at h
    have hne : o ≠ o' := fun e => by subst e; simp at hb
    split at h
    · rename_i t cs k t' cs' k' hg hg'
      cases hc : (Nat.blt i cs.length && Nat.blt j cs'.length && Nat.beq k 0 && Nat.beq k' 0) with
      | false => simp [hc] at h
      | true =>
        simp only [hc, cond_true] at h; cases h
        simp only [Bool.and_eq_true] at hc
        have e1 := Nat.eq_of_beq_eq_true hc.1.2; subst e1
        have e2 := Nat.eq_of_beq_eq_true hc.2; subst e2
        obtain ⟨c, h1, h2, h3⟩ := own_addr hr hg hL
        obtain ⟨c', h1', h2', h3'⟩ := own_addr hr hg' hL'
        have hblk : L.blk ≠ L'.blk := hr.sep o o' _ _ L L' hne hg hg' rfl hL hL'
        have f1 : ∀ off, w.frozen? ⟨L.blk, off, none⟩ = false := fun off => by simp [World.frozen?, h1]
        have f2 : ∀ off, w.frozen? ⟨L'.blk, off, none⟩ = false := fun off => by simp [World.frozen?, h1']
        have s1 : w.shape? L.blk = some (t, c.size) := by simp [World.shape?, h1]
        have s2 : w.shape? L'.blk = some (t', c'.size) := by simp [World.shape?, h1']
        unfold sameAddr
        simp [hblk, f1, f2, noView, viewAt, s1, s2, mayBeOne, stringish]
    · cases h

theorem VRel.ptr_some {o : Option Nat} {im : List AV} {off : Nat} {v : Value} (h : VRel ρ (.ptr o im off) v) : ∃ a, v = .pointer (some a) := by
  cases o with
  | none => simp only [VRel] at h; obtain ⟨_, _, _, e, _⟩ := h; exact ⟨_, e⟩
  | some o => simp only [VRel] at h; obtain ⟨_, _, e⟩ := h; exact ⟨_, e⟩
theorem VRel.slice_some {o : Option Nat} {im : List AV} {off len lo es : Nat} {ex : Bool} {v : Value} (h : VRel ρ (.slice o im off len lo ex es) v) : ∃ a l c, v = .slice (some a) l c := by
  cases o with
  | none => simp only [VRel] at h; obtain ⟨_, _, _, _, _, e, _⟩ := h; exact ⟨_, _, _, e⟩
  | some o => simp only [VRel] at h; obtain ⟨_, _, _, _, e, _⟩ := h; exact ⟨_, _, _, e⟩

set_option maxHeartbeats 2000000 in
mutual
theorem eq_sound (ok : TbOk P tb) {H : Hp} {w : World} (hr : Rel ρ H.get w) : ∀ (d : Nat) (t : TypeId) (x y : AV) (vx vy : Value) (b : Bool), VRel ρ x vx → VRel ρ y vy → eqA tb H d t x y = .ok b →
    ∀ e, d ≤ e → (Op.equalIn e t vx vy).run P w = .ok b w
  | 0, _, _, _, _, _, _, _, _, h => by simp [eqA] at h
  | d + 1, t, x, y, vx, vy, b, hx, hy, h => by
    intro e he
    obtain ⟨e, rfl⟩ : ∃ k, e = k + 1 := ⟨e - 1, by omega⟩
    simp only [eqA] at h
    rw [R.bind_ok] at h; obtain ⟨u, hu, h⟩ := h
    have hP := ok.und hu
    split at h
    · simp only [VRel] at hx hy; subst hx hy; cases h; exact run_equalIn_bool' w e t _ _ hP
    · rename_i k a k' b'
      simp only [VRel] at hx hy; subst hx hy
      cases hk : (k == k') with
      | false => simp [hk] at h
      | true =>
        simp only [hk, cond_true] at h; cases h
        have := kind_of_beq hk; subst this
        exact run_equalIn_int w e t _ _ _ _ hP
    · simp only [VRel] at hx hy; subst hx hy; cases h
      rw [run_equalIn_string w e t _ _ hP, mk_toList, mk_toList, beqB_eq]
    · simp only [VRel] at hx hy; subst hx hy; cases h
      simp [Op.equalIn, run_underlying hP]
    · rename_i o im off
      simp only [VRel] at hx; subst hx; cases h
      have := VRel.ptr_some hy
      obtain ⟨a, rfl⟩ := this
      simp [Op.equalIn, run_underlying hP]
    · rename_i o im off
      simp only [VRel] at hy; subst hy; cases h
      have := VRel.ptr_some hx
      obtain ⟨a, rfl⟩ := this
      simp [Op.equalIn, run_underlying hP]
    · simp only [VRel] at hx hy; subst hx hy; cases h
      simp [Op.equalIn, run_underlying hP, samePointer]
    · rename_i o im off
      simp only [VRel] at hx; subst hx; cases h
      have := VRel.ptr_some hy
      obtain ⟨a, rfl⟩ := this
      simp [Op.equalIn, run_underlying hP, samePointer]
    · rename_i o im off
      simp only [VRel] at hy; subst hy; cases h
      have := VRel.ptr_some hx
      obtain ⟨a, rfl⟩ := this
      simp [Op.equalIn, run_underlying hP, samePointer]
    · rename_i el o im i o' im' j
      simp only [VRel] at hx hy
      obtain ⟨L, hL, rfl⟩ := hx
      obtain ⟨L', hL', rfl⟩ := hy
      rw [R.bind_ok] at h; obtain ⟨n, hn, h⟩ := h
      cases hz : Nat.beq n 0 with
      | true => simp [hz] at h
      | false =>
        simp only [hz, cond_false] at h
        have hn0 : n ≠ 0 := fun e => by subst e; simp at hz
        have := samePtr_sound (P := P) hr hL hL' h
        simp [Op.equalIn, run_underlying hP, ok.run_size hn, hn0, this]
    · simp only [VRel] at hx hy; subst hx hy; cases h
      simp [Op.equalIn, run_underlying hP]
    · simp only [VRel] at hx hy; subst hx; obtain ⟨v', rfl, _⟩ := hy; cases h
      simp [Op.equalIn, run_underlying hP]
    · simp only [VRel] at hx hy; subst hy; obtain ⟨v', rfl, _⟩ := hx; cases h
      simp [Op.equalIn, run_underlying hP]
    · rename_i tx ax ty ay
      simp only [VRel] at hx hy
      obtain ⟨x', rfl, hx⟩ := hx
      obtain ⟨y', rfl, hy⟩ := hy
      cases hz : Nat.beq tx ty with
      | false =>
        simp only [hz, cond_false] at h; cases h
        have hne : tx ≠ ty := fun e => by subst e; simp at hz
        simp [Op.equalIn, run_underlying hP, hne]
      | true =>
        have := Nat.eq_of_beq_eq_true hz; subst this
        simp only [hz, cond_true] at h
        rw [R.bind_ok] at h; obtain ⟨i, hi, h⟩ := h
        cases hcm : i.comparable with
        | false => simp [hcm] at h
        | true =>
          simp only [hcm, cond_true] at h
          have ih := eq_sound ok hr d tx ax ay x' y' b hx hy h e (by omega)
          simp [Op.equalIn, run_underlying hP, ok.run_info hi, hcm, ih]
    · rename_i fs xs ys
      simp only [VRel] at hx hy
      obtain ⟨vxs, rfl, hx⟩ := hx
      obtain ⟨vys, rfl, hy⟩ := hy
      cases ho : tb.okEq t with
      | false => simp [ho] at h
      | true =>
        simp only [ho, cond_true] at h
        have hf := fieldsOf_eq hP
        rw [run_equalIn_struct w e t _ _ (by rw [hf]; exact hP) (ok.okEq t ho), hf]
        exact eqFs_sound ok hr d fs.toList xs ys vxs vys b hx hy h e (by omega)
    · rename_i len el xs ys
      simp only [VRel] at hx hy
      obtain ⟨vxs, rfl, hx⟩ := hx
      obtain ⟨vys, rfl, hy⟩ := hy
      rw [R.bind_ok] at h; obtain ⟨n, hn, h⟩ := h
      obtain ⟨i, hi, _⟩ := ok.size hn
      rw [run_equalIn_array w e _ _ hP hi, ok.cells hn, List.range_eq_range']
      exact eqEs_sound ok hr d el n len 0 xs ys vxs vys b hx hy h e (by omega)
    · simp only [VRel] at hx hy; subst hx hy; cases h
      simp [Op.equalIn, run_underlying hP]
    · rename_i el o im off len lo ex es
      simp only [VRel] at hx; subst hx; cases h
      have := VRel.slice_some hy
      obtain ⟨a, l, c, rfl⟩ := this
      simp [Op.equalIn, run_underlying hP]
    · rename_i el o im off len lo ex es
      simp only [VRel] at hy; subst hy; cases h
      have := VRel.slice_some hx
      obtain ⟨a, l, c, rfl⟩ := this
      simp [Op.equalIn, run_underlying hP]
    · simp only [VRel] at hx hy; subst hx hy; cases h
      simp [Op.equalIn, run_underlying hP]
    · simp only [VRel] at hx hy; subst hx; obtain ⟨L, _, rfl⟩ := hy; cases h
      simp [Op.equalIn, run_underlying hP]
    · simp only [VRel] at hx hy; subst hy; obtain ⟨L, _, rfl⟩ := hx; cases h
      simp [Op.equalIn, run_underlying hP]
    · simp only [VRel] at hx hy; subst hx hy; cases h
      simp [Op.equalIn, run_underlying hP]
    · simp only [VRel] at hx hy; subst hx; obtain ⟨_, _, _, rfl, _⟩ := hy; cases h
      simp [Op.equalIn, run_underlying hP]
    · simp only [VRel] at hx hy; subst hy; obtain ⟨_, _, _, rfl, _⟩ := hx; cases h
      simp [Op.equalIn, run_underlying hP]
    · cases h
theorem eqFs_sound (ok : TbOk P tb) {H : Hp} {w : World} (hr : Rel ρ H.get w) (d : Nat) : ∀ (fs : List Field) (xs ys : List AV) (vxs vys : Array Value) (b : Bool), VRels ρ xs vxs.toList → VRels ρ ys vys.toList → eqFs tb (eqA tb H d) fs xs ys = .ok b →
    ∀ e, d ≤ e → (Op.eqFields e vxs vys fs).run P w = .ok b w
  | [], xs, ys, vxs, vys, b, hx, hy, h => by
    intro e he
    simp only [eqFs] at h; cases h
    simp [Op.eqFields]
  | f :: fs, xs, ys, vxs, vys, b, hx, hy, h => by
    intro e he
    simp only [eqFs] at h
    cases hn : (f.name == "_") with
    | true =>
      simp only [hn, cond_true] at h
      have ih := eqFs_sound ok hr d fs xs ys vxs vys b hx hy h e he
      have : f.name = "_" := by simpa using hn
      simp [Op.eqFields, this, ih]
    | false =>
      simp only [hn, cond_false] at h
      have hne : f.name ≠ "_" := by simpa using hn
      rw [R.bind_ok] at h; obtain ⟨a1, h1, h⟩ := h
      rw [R.bind_ok] at h; obtain ⟨a2, h2, h⟩ := h
      rw [R.bind_ok] at h; obtain ⟨r, h3, h⟩ := h
      obtain ⟨v1, p1, q1⟩ := part_sound ok w hx h1
      obtain ⟨v2, p2, q2⟩ := part_sound ok w hy h2
      have ih := eq_sound ok hr d f.type a1 a2 v1 v2 r q1 q2 h3 e he
      cases r with
      | true =>
        simp only [cond_true] at h
        have ih2 := eqFs_sound ok hr d fs xs ys vxs vys b hx hy h e he
        simp [Op.eqFields, hne, p1, p2, ih, ih2]
      | false =>
        simp only [cond_false] at h; cases h
        simp [Op.eqFields, hne, p1, p2, ih]
theorem eqEs_sound (ok : TbOk P tb) {H : Hp} {w : World} (hr : Rel ρ H.get w) (d : Nat) (el : TypeId) (n : Nat) : ∀ (k i : Nat) (xs ys : List AV) (vxs vys : Array Value) (b : Bool), VRels ρ xs vxs.toList → VRels ρ ys vys.toList → eqEs tb (eqA tb H d) el n k i xs ys = .ok b →
    ∀ e, d ≤ e → (Op.eqItems e el n vxs vys (List.range' i k)).run P w = .ok b w
  | 0, i, xs, ys, vxs, vys, b, hx, hy, h => by
    intro e he
    simp only [eqEs] at h; cases h
    simp [Op.eqItems]
  | k + 1, i, xs, ys, vxs, vys, b, hx, hy, h => by
    intro e he
    simp only [eqEs] at h
    rw [R.bind_ok] at h; obtain ⟨a1, h1, h⟩ := h
    rw [R.bind_ok] at h; obtain ⟨a2, h2, h⟩ := h
    rw [R.bind_ok] at h; obtain ⟨r, h3, h⟩ := h
    obtain ⟨v1, p1, q1⟩ := part_sound ok w hx h1
    obtain ⟨v2, p2, q2⟩ := part_sound ok w hy h2
    have ih := eq_sound ok hr d el a1 a2 v1 v2 r q1 q2 h3 e he
    rw [List.range'_succ]
    cases r with
    | true =>
      simp only [cond_true] at h
      have ih2 := eqEs_sound ok hr d el n k (i + 1) xs ys vxs vys b hx hy h e he
      simp [Op.eqItems, p1, p2, ih, ih2]
    | false =>
      simp only [cond_false] at h; cases h
      simp [Op.eqItems, p1, p2, ih]
end

end
end Go.Zr
