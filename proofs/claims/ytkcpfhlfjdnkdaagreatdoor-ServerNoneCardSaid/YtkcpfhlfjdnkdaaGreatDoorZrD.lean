import Derived.Test.YtkcpfhlfjdnkdaaGreatDoorZrC
import Derived.Laws.Entries
import Derived.Laws.Cells
import Derived.Laws.CopyRow
import Derived.ChangeKeysEq
namespace Go.Zr

structure TbOk (P : Program) (tb : Tb) : Prop where
  ty : ∀ t i, tb.ty.get t = some i → P.info? t = some i
  okEq : ∀ t, tb.okEq t = true → P.stoodInHeld t = false
  depth : 50 ≤ P.depth
  bodied : ∀ f, tb.bodied f = true → ∃ fn c, P.funcs[f]? = some fn ∧ fn.body = some c ∧ (fn.name == "runtime.NumGoroutine") = false

section tables
variable {P : Program} {tb : Tb}
theorem TbOk.info (ok : TbOk P tb) {t : TypeId} {i : TypeInfo} (h : tb.info t = .ok i) : P.info? t = some i := by
  unfold Tb.info at h; exact ok.ty _ _ (R.of_ok.1 h)
theorem TbOk.und (ok : TbOk P tb) {t : TypeId} {d : TypeDesc} (h : tb.und t = .ok d) : P.underlying t = some d := by
  unfold Tb.und at h
  unfold Program.underlying
  cases h1 : tb.ty.get t with
  | none => simp [h1] at h
  | some i =>
    rw [ok.ty _ _ h1]
    obtain ⟨desc, str, size, bytes, hp, al, fal, zero, comp, ms⟩ := i
    simp only [h1] at h
    cases desc with
    | named nm u =>
      simp only at h ⊢
      cases h2 : tb.ty.get u with
      | none => simp [h2] at h
      | some j => simp [h2] at h; rw [ok.ty _ _ h2]; simp [h]
    | _ => simp at h ⊢; exact h
theorem TbOk.size (ok : TbOk P tb) {t : TypeId} {n : Nat} (h : tb.size t = .ok n) : ∃ i, P.info? t = some i ∧ i.size = n := by
  unfold Tb.size at h
  rw [R.bind_ok] at h; obtain ⟨i, h1, h2⟩ := h
  exact ⟨i, ok.info h1, by simpa using h2⟩
theorem TbOk.run_und (ok : TbOk P tb) {t : TypeId} {d : TypeDesc} (h : tb.und t = .ok d) (w : World) : (underlying t).run P w = .ok d w := run_underlying (ok.und h) w
theorem TbOk.run_info (ok : TbOk P tb) {t : TypeId} {i : TypeInfo} (h : tb.info t = .ok i) (w : World) : (typeInfo t).run P w = .ok i w := by
  unfold typeInfo; simp [ok.info h]
theorem TbOk.run_size (ok : TbOk P tb) {t : TypeId} {n : Nat} (h : tb.size t = .ok n) (w : World) : (sizeOf t).run P w = .ok n w := by
  obtain ⟨i, h1, h2⟩ := ok.size h
  unfold sizeOf typeInfo; simp [h1, h2]
end tables

theorem VRel.of_cell {ρ : Env} : ∀ {v : Value} {a : AV}, ofCell v = some a → VRel ρ a v := by
  intro v a h
  unfold ofCell at h
  split at h <;> cases h <;> simp [VRel]

theorem isScalar_of_cell {v : Value} {a : AV} (h : ofCell v = some a) : isScalar a = true := by
  unfold ofCell at h
  split at h <;> cases h <;> rfl

theorem VRels.of_cells {ρ : Env} : ∀ {l : List Value} {as : List AV}, ofCells l = some as → VRels ρ as l
  | [], as, h => by simp [ofCells] at h; subst h; exact .nil
  | v :: l, as, h => by
    simp only [ofCells] at h
    split at h
    · rename_i a r h1 h2
      cases h
      exact .cons (.of_cell h1) (VRels.of_cells h2)
    · cases h

theorem VRel.of_val {ρ : Env} {v : Value} {a : AV} (h : ofVal v = some a) : VRel ρ a v := by
  unfold ofVal at h
  split at h
  · rename_i cs
    cases h1 : ofCells cs.toList with
    | none => simp [h1] at h
    | some l => simp [h1] at h; subst h; simp only [VRel]; exact ⟨cs, rfl, .of_cells h1⟩
  · rename_i vs
    split at h
    · rename_i h1; cases h; simp only [VRel]; exact ⟨vs, rfl, by rw [h1]; exact .nil⟩
    · cases h
  · exact .of_cell h

theorem TbOk.run_zero {P : Program} {tb : Tb} (ok : TbOk P tb) {t : TypeId} {a : AV} (h : tb.zero t = .ok a) (ρ : Env) (w : World) : ∃ v, (zeroValue t).run P w = .ok v w ∧ VRel ρ a v := by
  unfold Tb.zero at h
  rw [R.bind_ok] at h; obtain ⟨i, h1, h2⟩ := h
  cases hz : i.zero with
  | none => simp [hz] at h2
  | some v =>
    simp only [hz] at h2
    exact ⟨v, by unfold zeroValue; simp [ok.run_info h1, hz], .of_val (R.of_ok.1 h2)⟩

/-! ### Values and their cells -/

theorem VRel.cells {ρ : Env} {a : AV} {v : Value} (h : VRel ρ a v) : VRels ρ a.cells v.cells.toList := by
  cases a with
  | agg cs =>
    have h' := h
    simp only [VRel] at h'
    obtain ⟨vs, rfl, h2⟩ := h'
    exact h2
  | ptr o im off =>
    have h' := h
    cases o <;> simp only [VRel] at h'
    · obtain ⟨b, i, vs, rfl, _⟩ := h'; exact .cons h .nil
    · obtain ⟨L, _, rfl⟩ := h'; exact .cons h .nil
  | slice o im off len lo ex es =>
    have h' := h
    cases o <;> simp only [VRel] at h'
    · obtain ⟨b, i, vs, x, cap, rfl, _⟩ := h'; exact .cons h .nil
    · obtain ⟨L, x, cap, _, rfl, _⟩ := h'; exact .cons h .nil
  | map o => have h' := h; simp only [VRel] at h'; obtain ⟨L, _, rfl⟩ := h'; exact .cons h .nil
  | func fn fs cs => have h' := h; simp only [VRel] at h'; obtain ⟨_, _, _, rfl, _⟩ := h'; exact .cons h .nil
  | iface t x => have h' := h; simp only [VRel] at h'; obtain ⟨_, rfl, _⟩ := h'; exact .cons h .nil
  | tuple cs => have h' := h; simp only [VRel] at h'; obtain ⟨_, rfl, _⟩ := h'; exact .cons h .nil
  | bool b => have h' := h; simp only [VRel] at h'; subst h'; exact .cons h .nil
  | int k n => have h' := h; simp only [VRel] at h'; subst h'; exact .cons h .nil
  | str s => have h' := h; simp only [VRel] at h'; subst h'; exact .cons h .nil
  | pnil => have h' := h; simp only [VRel] at h'; subst h'; exact .cons h .nil
  | snil => have h' := h; simp only [VRel] at h'; subst h'; exact .cons h .nil
  | mnil => have h' := h; simp only [VRel] at h'; subst h'; exact .cons h .nil
  | fnil => have h' := h; simp only [VRel] at h'; subst h'; exact .cons h .nil
  | inil => have h' := h; simp only [VRel] at h'; subst h'; exact .cons h .nil

theorem VRel.oneCell {ρ : Env} {a : AV} {v : Value} (h : VRel ρ a v) (hs : isScalar a = true) : v.oneCell' = true := by
  cases a with
  | agg cs => simp [isScalar] at hs
  | tuple cs => simp [isScalar] at hs
  | ptr o im off =>
    cases o <;> simp only [VRel] at h
    · obtain ⟨b, i, vs, rfl, _⟩ := h; rfl
    · obtain ⟨L, _, rfl⟩ := h; rfl
  | slice o im off len lo ex es =>
    cases o <;> simp only [VRel] at h
    · obtain ⟨b, i, vs, x, cap, rfl, _⟩ := h; rfl
    · obtain ⟨L, x, cap, _, rfl, _⟩ := h; rfl
  | map o => simp only [VRel] at h; obtain ⟨L, _, rfl⟩ := h; rfl
  | func fn fs cs => simp only [VRel] at h; obtain ⟨_, _, _, rfl, _⟩ := h; rfl
  | iface t x => simp only [VRel] at h; obtain ⟨_, rfl, _⟩ := h; rfl
  | bool b => simp only [VRel] at h; subst h; rfl
  | int k n => simp only [VRel] at h; subst h; rfl
  | str s => simp only [VRel] at h; subst h; rfl
  | pnil => simp only [VRel] at h; subst h; rfl
  | snil => simp only [VRel] at h; subst h; rfl
  | mnil => simp only [VRel] at h; subst h; rfl
  | fnil => simp only [VRel] at h; subst h; rfl
  | inil => simp only [VRel] at h; subst h; rfl

theorem VRels.oneCell {ρ : Env} {l : List AV} {vs : List Value} (h : VRels ρ l vs) (hs : l.all isScalar = true) : ∀ v ∈ vs, v.oneCell' = true := by
  induction l generalizing vs with
  | nil => simp only [VRels] at h; subst h; simp
  | cons a l ih =>
    simp only [VRels] at h
    obtain ⟨v, r, rfl, h2, h3⟩ := h
    simp only [List.all_cons, Bool.and_eq_true] at hs
    intro x hx
    rcases List.mem_cons.1 hx with rfl | hx
    · exact h2.oneCell hs.1
    · exact ih h3 hs.2 x hx

/-! ### Cells -/

theorem takeN_some : ∀ {n : Nat} {l r : List AV}, takeN n l = some r → r = l.take n ∧ n ≤ l.length
  | 0, l, r, h => by simp [takeN] at h; subst h; simp
  | n + 1, [], r, h => by simp [takeN] at h
  | n + 1, a :: l, r, h => by
    simp only [takeN, Option.map_eq_some_iff] at h
    obtain ⟨x, h1, rfl⟩ := h
    obtain ⟨rfl, h2⟩ := takeN_some h1
    exact ⟨by simp, by simp; omega⟩

theorem sub_ok {cs l : List AV} {off n : Nat} (h : sub cs off n = .ok l) : l = (cs.drop off).take n ∧ (n = 0 ∨ off + n ≤ cs.length) ∧ l.length = n := by
  obtain ⟨rfl, h2⟩ := takeN_some (R.of_ok.1 h)
  simp only [List.length_drop] at h2
  exact ⟨rfl, by omega, by simp; omega⟩

theorem putAt_some : ∀ {cs vs r : List AV} {n : Nat}, putAt cs n vs = some r → r = cs.take n ++ vs ++ cs.drop (n + vs.length) ∧ n + vs.length ≤ cs.length
  | cs, [], r, 0, h => by simp [putAt] at h; subst h; simp
  | [], [], r, n + 1, h => by simp [putAt] at h
  | [], x :: xs, r, n, h => by cases n <;> simp [putAt] at h
  | c :: cs, x :: xs, r, 0, h => by
    simp only [putAt] at h
    split at h
    · rename_i y hy
      cases h
      obtain ⟨rfl, h2⟩ := putAt_some hy
      exact ⟨by simp, by simp; omega⟩
    · cases h
  | c :: cs, xs, r, n + 1, h => by
    simp only [putAt] at h
    split at h
    · rename_i y hy
      cases h
      obtain ⟨rfl, h2⟩ := putAt_some hy
      exact ⟨by simp [Nat.succ_add], by simp; omega⟩
    · cases h

theorem addr_add {b o i : Nat} : (⟨b, o, none⟩ : Addr).add i = ⟨b, o + i, none⟩ := by unfold Addr.add; split <;> simp_all

/-- Where a pointer leads. -/
theorem base_cells {ρ : Env} {H : Hp} {w : World} (hr : Rel ρ H.get w) {o : Option Nat} {im : List AV} {off : Nat} {v : Value} {cs : List AV} (hv : VRel ρ (.ptr o im off) v) (hc : cellsOf H o im = .ok cs) :
    ∃ b i, v = .pointer (some ⟨b, i + off, none⟩) ∧ ∀ j a, cs[j]? = some a → ∃ x, w.cell? ⟨b, i + j, none⟩ = some x ∧ VRel ρ a x := by
  cases o with
  | none =>
    simp only [cellsOf] at hc; cases hc
    simp only [VRel] at hv
    obtain ⟨b, i, vs, rfl, h2, h3⟩ := hv
    refine ⟨b, i, rfl, fun j a ha => ?_⟩
    obtain ⟨x, h4, h5⟩ := h2.get j a ha
    exact ⟨x, hr.imm _ _ _ (h3 j x h4), h5⟩
  | some o =>
    simp only [cellsOf] at hc
    simp only [VRel] at hv
    obtain ⟨L, h1, rfl⟩ := hv
    split at hc
    · rename_i t cs' k hg
      cases hc
      obtain ⟨M, m1, c, fr, h2, h3, h4, h5, _⟩ := hr.obj o _ hg
      rw [h1] at m1; cases m1
      refine ⟨L.blk, L.lo, rfl, fun j a ha => ?_⟩
      obtain ⟨x, h6, h7⟩ := h5.get j a ha
      have hj : j < cs.length := by
        rcases Nat.lt_or_ge j cs.length with h | h
        · exact h
        · rw [List.getElem?_eq_none h] at ha; cases ha
      rw [List.getElem?_take, if_pos hj, List.getElem?_drop] at h6
      refine ⟨x, ?_, h7⟩
      unfold World.cell?
      simp only [h2]
      simpa using h6
    · cases hc

theorem run_loadCells_rel {P : Program} {ρ : Env} {w : World} {b i off n : Nat} {cs l : List AV}
    (hcell : ∀ j a, cs[j]? = some a → ∃ x, w.cell? ⟨b, i + j, none⟩ = some x ∧ VRel ρ a x) (hs : sub cs off n = .ok l) :
    ∃ vs, (loadCells ⟨b, i + off, none⟩ n).run P w = .ok vs w ∧ VRels ρ l vs.toList := by
  obtain ⟨hl, hn, hlen⟩ := sub_ok hs
  have hget : ∀ j, j < n → ∃ a x, l[j]? = some a ∧ w.cell? ⟨b, i + off + j, none⟩ = some x ∧ VRel ρ a x := by
    intro j hj
    have h1 : off + j < cs.length := by omega
    refine ⟨cs[off + j], ?_⟩
    obtain ⟨x, h2, h3⟩ := hcell (off + j) cs[off + j] (by simp [h1])
    refine ⟨x, ?_, by rw [Nat.add_assoc]; exact h2, h3⟩
    rw [hl, List.getElem?_take, if_pos hj, List.getElem?_drop]; simp [h1]
  -- the cells as a list
  have key : ∃ vs : List Value, vs.length = n ∧ ∀ j, j < n → ∃ a x, l[j]? = some a ∧ vs[j]? = some x ∧ w.cell? ⟨b, i + off + j, none⟩ = some x ∧ VRel ρ a x := by
    refine ⟨(List.range n).map fun j => (w.cell? ⟨b, i + off + j, none⟩).getD undef, by simp, fun j hj => ?_⟩
    obtain ⟨a, x, h1, h2, h3⟩ := hget j hj
    exact ⟨a, x, h1, by simp [hj, h2], h2, h3⟩
  obtain ⟨vs, hvl, hvs⟩ := key
  refine ⟨vs.toArray, ?_, ?_⟩
  · rw [← hvl]
    refine run_loadCells_list w _ vs (fun j v hv => ?_)
    have hj : j < n := by
      rcases Nat.lt_or_ge j n with h | h
      · exact h
      · rw [List.getElem?_eq_none (by omega)] at hv; cases hv
    obtain ⟨a, x, _, h2, h3, _⟩ := hvs j hj
    rw [hv] at h2; cases h2
    rw [addr_add]; exact h3
  · refine VRels.of_get (by simp [hlen, hvl]) (fun j a v h1 h2 => ?_)
    have hj : j < n := by
      rcases Nat.lt_or_ge j n with h | h
      · exact h
      · rw [List.getElem?_eq_none (by omega)] at h1; cases h1
    obtain ⟨a', x, k1, k2, _, k4⟩ := hvs j hj
    rw [h1] at k1; cases k1
    simp only at h2
    rw [h2] at k2; cases k2
    exact k4

theorem isAgg_run {P : Program} {tb : Tb} (ok : TbOk P tb) {t : TypeId} {d : TypeDesc} (h : tb.und t = .ok d) (w : World) : (isAgg t).run P w = .ok (isAggD d) w := by
  unfold isAgg
  simp only [Sem.run_bind, ok.run_und h, Result.andThen_ok]
  cases d <;> rfl

theorem load_sound {P : Program} {tb : Tb} (ok : TbOk P tb) {ρ : Env} {H : Hp} {w : World} (hr : Rel ρ H.get w) {t : TypeId} {a r : AV} {v : Value} (hv : VRel ρ a v) (h : loadA tb t a H = .ok r) :
    ∃ p x, v = .pointer (some p) ∧ (loadVar t p).run P w = .ok x w ∧ VRel ρ r x := by
  unfold loadA at h
  split at h
  · rename_i o im off
    rw [R.bind_ok] at h; obtain ⟨cs, hc, h⟩ := h
    rw [R.bind_ok] at h; obtain ⟨d, hd, h⟩ := h
    obtain ⟨b, i, rfl, hcell⟩ := base_cells hr hv hc
    refine ⟨⟨b, i + off, none⟩, ?_⟩
    unfold loadVar
    simp only [Sem.run_bind, isAgg_run ok hd, Result.andThen_ok]
    cases hb : isAggD d with
    | true =>
      simp only [hb, cond_true] at h
      rw [R.bind_ok] at h; obtain ⟨n, hn, h⟩ := h
      rw [R.bind_ok] at h; obtain ⟨l, hl, h⟩ := h
      cases h
      obtain ⟨vs, h1, h2⟩ := run_loadCells_rel (P := P) hcell hl
      exact ⟨.agg vs, trivial, by simp [ok.run_size hn, h1], by simp only [VRel]; exact ⟨vs, rfl, h2⟩⟩
    | false =>
      simp only [hb, cond_false] at h
      obtain ⟨x, h1, h2⟩ := hcell off r (R.of_ok.1 h)
      exact ⟨x, trivial, by simp [h1], h2⟩
  · cases h

/-! ### Stores -/

theorem run_storeCells_own {P : Program} (g o : Nat) (t : TypeId) (fr : Nat × Nat) : ∀ (vs : List Value) (i : Nat) (cur : Array Value) (w : World), w.heap[g]? = some (.cells cur t fr) → (fr = (0, 0) ∨ cur.size ≤ fr.1) → o + i + vs.length ≤ cur.size → (∀ v ∈ vs, v.oneCell' = true) →
    (storeCells ⟨g, o, none⟩ vs i).run P w = .ok () (w.setRow g (cur.toList.take (o + i) ++ vs ++ cur.toList.drop (o + i + vs.length)).toArray)
  | [], i, cur, w, hg, _, _, _ => by
    simp only [storeCells, List.append_nil, List.length_nil, Nat.add_zero, List.take_append_drop, Array.toArray_toList]
    rw [setRow_self w g cur t fr hg]
    rfl
  | v :: rest, i, cur, w, hg, hfz, hl, h1 => by
    have hi : o + i < cur.size := by simp at hl; omega
    have hcell : w.cell? ⟨g, o + i, none⟩ = some cur[o + i] := by simp [World.cell?, hg, hi]
    have hfro : w.frozen? ⟨g, o + i, none⟩ = false := by
      obtain ⟨lo, hi'⟩ := fr
      simp only [World.frozen?, hg, Bool.and_eq_false_iff, decide_eq_false_iff_not]
      rcases hfz with h | h
      · cases h; right; omega
      · left; simp only at h; omega
    have hst : (store ((⟨g, o, none⟩ : Addr).add i) v).run P w = .ok () (w.setRow g (cur.setIfInBounds (o + i) v)) := by
      rw [addr_add, run_store P w _ v _ (h1 v (by simp)), hcell]
      simp [hfro, setCell_eq_setRow w g (o + i) cur t fr v hg]
    have ih := run_storeCells_own (P := P) g o t fr rest (i + 1) (cur.setIfInBounds (o + i) v) (w.setRow g (cur.setIfInBounds (o + i) v)) (setRow_heap w g cur _ t _ hg) (by simpa using hfz) (by simp at hl ⊢; omega) (fun x hx => h1 x (by simp [hx]))
    simp only [storeCells, Sem.run_bind, hst, Result.andThen_ok, ih, setRow_setRow]
    congr 3
    have e := list_seg_step cur.toList (o + i) v rest (by simp at hl ⊢; omega)
    simpa [Array.toList_setIfInBounds, Nat.add_assoc] using e

theorem setRow_other (w : World) (g b : Nat) (cs : Array Value) (h : b ≠ g) : (w.setRow g cs).heap[b]? = w.heap[b]? := by
  show (w.heap.modify g _)[b]? = _
  simp [Array.getElem?_modify, Ne.symm h]

/-- Values put into a row of one's own. -/
theorem store_sound {P : Program} {ρ : Env} {g : Gh} {n : Nat} {w : World} (hr : Rel ρ g w) {o off : Nat} {t : TypeId} {cs vs r : List AV} {k : Nat} {cvs : List Value}
    (hg : g o = some (.row t cs k)) (hk : k ≠ 1) (hp : putAt cs off vs = some r) (hvs : VRels ρ vs cvs) (hsc : vs.all isScalar = true) :
    ∃ L, ρ.loc o = some L ∧ ∃ w', (storeCells ⟨L.blk, L.lo + off, none⟩ cvs).run P w = .ok () w' ∧ Ext ρ g n w ρ (upd g o (some (.row t r k))) n w' := by
  obtain ⟨L, hL, c, fr, h2, h3, h4, h5, h6, h7⟩ := hr.obj o _ hg
  obtain ⟨hre, hlen⟩ := putAt_some hp
  have hcl : vs.length = cvs.length := hvs.length
  refine ⟨L, hL, _, run_storeCells_own L.blk (L.lo + off) t fr cvs 0 c w h2 (h7 hk) (by omega) (hvs.oneCell hsc), ?_⟩
  refine Ext.turn hr hg (by simp [AObj.own, nbeq_ne hk]) hL (by simp) (fun b hb => setRow_other _ _ _ _ hb) ?_
  refine ⟨_, fr, setRow_heap w L.blk c _ t fr h2, ?_, ?_, ?_, h6, ?_⟩
  · rw [hre]; simp; omega
  · simp; omega
  · have e : (List.drop L.lo (c.toList.take (L.lo + off + 0) ++ cvs ++ c.toList.drop (L.lo + off + 0 + cvs.length))).take r.length
        = ((c.toList.drop L.lo).take cs.length).take off ++ cvs ++ ((c.toList.drop L.lo).take cs.length).drop (off + vs.length) := by
      apply List.ext_getElem?
      intro j
      have hcs : c.toList.length = c.size := by simp
      have hr' : r.length = cs.length := by rw [hre]; simp; omega
      by_cases hj : j < cs.length
      · rw [List.getElem?_take, if_pos (by omega), List.getElem?_drop]
        by_cases h1 : j < off
        · rw [List.getElem?_append_left (by simp; omega), List.getElem?_append_left (by simp; omega), List.getElem?_append_left (by simp; omega), List.getElem?_append_left (by simp; omega)]
          rw [List.getElem?_take, if_pos (by omega), List.getElem?_take, if_pos h1, List.getElem?_take, if_pos hj, List.getElem?_drop]
        · by_cases h2 : j < off + cvs.length
          · rw [List.getElem?_append_left (by simp; omega), List.getElem?_append_right (by simp; omega), List.getElem?_append_left (by simp; omega), List.getElem?_append_right (by simp; omega)]
            congr 1
            simp; omega
          · rw [List.getElem?_append_right (by simp; omega), List.getElem?_append_right (by simp; omega), List.getElem?_drop, List.getElem?_drop, List.getElem?_take, if_pos (by simp; omega), List.getElem?_drop]
            congr 1
            simp; omega
      · rw [List.getElem?_eq_none (by simp; omega), List.getElem?_eq_none (by simp; omega)]
    simp only
    rw [e, hre]
    exact VRels.append (VRels.append (h5.take off) hvs) (h5.drop _)
  · intro hk1
    simp
    rcases h7 hk1 with h | h
    · exact .inl h
    · exact .inr (by omega)

end Go.Zr
