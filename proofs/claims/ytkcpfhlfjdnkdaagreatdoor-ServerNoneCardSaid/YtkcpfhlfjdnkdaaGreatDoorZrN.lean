import Derived.Test.YtkcpfhlfjdnkdaaGreatDoorZrM
namespace Go.Zr

section
variable {P : Program} {tb : Tb} {ρ : Env}

/-! ### Text iterators -/
theorem range_sound (ok : TbOk P tb) {H : Hp} {n : Nat} {w : World} (hr : Rel ρ H.get w) (hf : Fresh ρ n) {t : TypeId} (hd : tb.und t = .ok .string) {s : List UInt8} :
    EffV P ρ H.get n w (.ptr (some n) [] 0) (H.set n (some (.siter s 0))).get (n + 1) (Instr.range t (.string ⟨s.toArray⟩)) := by
  refine ⟨.pointer (some ⟨w.heap.size, 0, none⟩), w.alloc (.stringIter ⟨s.toArray⟩ 0), ρ.put n ⟨w.heap.size, 0, 0⟩, by simp [Instr.range, ok.run_und hd], ?_, ?_⟩
  · rw [upd_set]
    exact Ext.alloc (hi := 0) hr hf rfl ⟨heap_push_new rfl, rfl⟩
  · simp only [VRel]; exact ⟨_, Env.put_same, rfl⟩

theorem next_sound {H : Hp} {n : Nat} {w : World} (hr : Rel ρ H.get w) {r : Nat} {im : List AV} {s : List UInt8} {pos : Nat} (hg : H.get r = some (.siter s pos)) {vi : Value} (hv : VRel ρ (.ptr (some r) im 0) vi) {v : AV} {H' : Hp} {t : TypeId}
    (h : (bif Nat.blt pos s.length then pureM (.tuple [.bool true, .int .i64 pos, .int .i32 (decode s pos).1]) (H.set r (some (.siter s (pos + (decode s pos).2)))) n else pureM (.tuple [.bool false]) H n) = .ok (v, H', n)) :
    EffV P ρ H.get n w v H'.get n (Instr.next vi true t) := by
  simp only [VRel] at hv
  obtain ⟨L, hL, rfl⟩ := hv
  obtain ⟨M, m1, h1, h2⟩ := hr.obj r _ hg
  rw [hL] at m1; cases m1
  have hob : ∀ w : World, w.heap[L.blk]? = some (.stringIter ⟨s.toArray⟩ pos) → (getObj L.blk).run P w = .ok (.stringIter ⟨s.toArray⟩ pos) w := fun w h => by simp [getObj, Sem.run, h]
  cases hb : Nat.blt pos s.length with
  | true =>
    simp only [hb, cond_true, pureM] at h; cases h
    have hlt : pos < s.length := by simpa [Nat.blt_eq] using hb
    have hset : ∀ o, (setObj L.blk o).run P w = .ok () { w with heap := w.heap.setIfInBounds L.blk o } := fun o => by simp [setObj, Sem.run, h1]
    refine ⟨.tuple #[.bool true, goInt pos, .int .i32 (decode s pos).1], { w with heap := w.heap.setIfInBounds L.blk (.stringIter ⟨s.toArray⟩ (pos + (decode s pos).2)) }, ρ, ?_, ?_, ?_⟩
    · simp [Instr.next, h2, hob w h1, mk_size, hlt, decode, hset]
    · rw [upd_set]
      have hL2 : L.blk < w.heap.size := (Array.getElem?_eq_some_iff.1 h1).1
      exact Ext.turn hr hg rfl hL (by simp) (fun b hb => by simp [Ne.symm hb]) ⟨by simp [hL2], h2⟩
    · simp only [VRel]; exact ⟨_, rfl, .cons VRel.bool (.cons (by simp [VRel, goInt]) (.cons (by simp [VRel]) .nil))⟩
  | false =>
    simp only [hb, cond_false, pureM] at h; cases h
    have hlt : ¬ pos < s.length := fun e => by
      have : Nat.blt pos s.length = true := by simpa [Nat.blt_eq] using e
      rw [hb] at this; cases this
    exact ⟨.tuple #[.bool false], w, ρ, by simp [Instr.next, h2, hob w h1, mk_size, hlt], Ext.refl hr rfl, by simp only [VRel]; exact ⟨_, rfl, .cons VRel.bool .nil⟩⟩

/-! ### Maps of at most one entry, ranged over -/
theorem rangeM_sound (ok : TbOk P tb) {H H' : Hp} {n n' : Nat} {w : World} (hr : Rel ρ H.get w) (hf : Fresh ρ n) {t kt e : TypeId} (hd : tb.und t = .ok (.map kt e)) {x v : AV} {vx : Value} (hx : VRel ρ x vx) (h : rangeM x H n = .ok (v, H', n')) :
    EffV P ρ H.get n w v H'.get n' (Instr.range t vx) := by
  unfold rangeM at h
  split at h
  · simp only [newO, pureM, R.bind] at h; cases h
    simp only [VRel] at hx; subst hx
    refine ⟨.pointer (some ⟨w.heap.size, 0, none⟩), w.alloc (.mapIter none 0 #[] 0), ρ.put n ⟨w.heap.size, 0, 0⟩, by simp [Instr.range, ok.run_und hd], ?_, ?_⟩
    · rw [upd_set]
      exact Ext.alloc (hi := 0) hr hf rfl ⟨none, heap_push_new rfl, rfl, rfl⟩
    · simp only [VRel]; exact ⟨_, Env.put_same, rfl⟩
  · rename_i r
    split at h
    · rename_i es c hg
      simp only [newO, pureM, R.bind] at h; cases h
      simp only [VRel] at hx; obtain ⟨L, hL, rfl⟩ := hx
      obtain ⟨M, m1, ces, h1, h2⟩ := hr.obj r _ hg
      rw [hL] at m1; cases m1
      have hob : (getObj L.blk).run P w = .ok (.map ces c) w := by simp [getObj, Sem.run, h1]
      have hne : r ≠ n := fun e => by rw [e, hf n (Nat.le_refl n)] at hL; cases hL
      refine ⟨.pointer (some ⟨w.heap.size, 0, none⟩), w.alloc (.mapIter (some L.blk) c #[] c), ρ.put n ⟨w.heap.size, 0, 0⟩, by simp [Instr.range, ok.run_und hd, hob], ?_, ?_⟩
      · rw [upd_set]
        exact Ext.alloc (hi := 0) hr hf rfl ⟨some L.blk, heap_push_new rfl, rfl, L, by rw [Env.put_other hne]; exact hL, rfl⟩
      · simp only [VRel]; exact ⟨_, Env.put_same, rfl⟩
    · cases h
  · cases h

theorem entRel_one {k v : AV} {b : Nat} {ces : Array MapEntry} (h : EntRel ρ [(k, v, b)] ces.toList) : ∃ e : MapEntry, ces = #[e] ∧ VRel ρ k e.key ∧ VRel ρ v e.val ∧ e.born = b := by
  simp only [EntRel] at h
  obtain ⟨e, r, h1, h2, h3, h4, rfl⟩ := h
  exact ⟨e, by apply Array.ext'; rw [h1], h2, h3, h4⟩

theorem entRel_nil {ces : Array MapEntry} (h : EntRel ρ [] ces.toList) : ces = #[] := by
  simp only [EntRel] at h
  apply Array.ext'; rw [h]

theorem nextM_sound {H H' : Hp} {n n' : Nat} {w : World} (hr : Rel ρ H.get w) {r : Nat} {im : List AV} {vi : Value} (hv : VRel ρ (.ptr (some r) im 0) vi) {v : AV} {t : TypeId} (h : nextM r H n = .ok (v, H', n')) :
    EffV P ρ H.get n w v H'.get n' (Instr.next vi false t) := by
  simp only [VRel] at hv
  obtain ⟨L, hL, rfl⟩ := hv
  unfold nextM at h
  have over : ∀ {v : AV} {H' : Hp} {n' : Nat}, (pureM (.tuple [.bool false]) H n : M AV) = .ok (v, H', n') → (Instr.next (.pointer (some ⟨L.blk, 0, none⟩)) false t).run P w = .ok (.tuple #[.bool false]) w →
      L.lo = 0 → EffV P ρ H.get n w v H'.get n' (Instr.next (.pointer (some ⟨L.blk, L.lo + 0, none⟩)) false t) := by
    intro v H' n' h hrun h0
    simp only [pureM] at h; cases h
    rw [h0]
    exact ⟨.tuple #[.bool false], w, ρ, hrun, Ext.refl hr rfl, by simp only [VRel]; exact ⟨_, rfl, .cons VRel.bool .nil⟩⟩
  split at h
  · rename_i since seen last hg
    obtain ⟨M, m1, mb, h1, h2, h3⟩ := hr.obj r _ hg
    rw [hL] at m1; cases m1
    simp only at h3; subst h3
    have hob : (getObj L.blk).run P w = .ok (.mapIter none since seen.toArray last) w := by simp [getObj, Sem.run, h1]
    exact over h (by simp [Instr.next, hob]) h2
  · rename_i m since seen last hg
    obtain ⟨M, m1, mb, h1, h2, Lm, hLm, rfl⟩ := hr.obj r _ hg
    rw [hL] at m1; cases m1
    have hob : (getObj L.blk).run P w = .ok (.mapIter (some Lm.blk) since seen.toArray last) w := by simp [getObj, Sem.run, h1]
    split at h
    · rename_i c hgm
      obtain ⟨M, m1, ces, k1, k2⟩ := hr.obj m _ hgm
      rw [hLm] at m1; cases m1
      have := entRel_nil k2; subst this
      have hom : (getObj Lm.blk).run P w = .ok (.map #[] c) w := by simp [getObj, Sem.run, k1]
      refine over h ?_ h2
      simp [Instr.next, hob, hom, choose, Sem.run, Question.forced]
    · rename_i k x b c hgm
      obtain ⟨M, m1, ces, k1, k2⟩ := hr.obj m _ hgm
      rw [hLm] at m1; cases m1
      obtain ⟨e, rfl, e1, e2, rfl⟩ := entRel_one k2
      have hom : (getObj Lm.blk).run P w = .ok (.map #[e] c) w := by simp [getObj, Sem.run, k1]
      split at h
      · cases hb : Nat.blt e.born since with
        | false => simp [hb] at h
        | true =>
          simp only [hb, cond_true, pureM] at h; cases h
          have hlt : e.born < since := by simpa [Nat.blt_eq] using hb
          have hset : ∀ o, (setObj L.blk o).run P w = .ok () { w with heap := w.heap.setIfInBounds L.blk o } := fun o => by simp [setObj, Sem.run, h1]
          have hL2 : L.blk < w.heap.size := (Array.getElem?_eq_some_iff.1 h1).1
          have hge : ¬ since ≤ e.born := by omega
          refine ⟨.tuple #[.bool true, e.key, e.val], { w with heap := w.heap.setIfInBounds L.blk (.mapIter (some Lm.blk) since #[e.born] c) }, ρ, ?_, ?_, ?_⟩
          · rw [h2]
            simp [Instr.next, hob, hom, choose, Sem.run, Question.forced, hlt, hge, setObj, h1]
          · rw [upd_set]
            exact Ext.turn hr hg rfl hL (by simp) (fun b hb => by simp [Ne.symm hb]) ⟨some Lm.blk, by simp [hL2], h2, Lm, hLm, rfl⟩
          · simp only [VRel]; exact ⟨_, rfl, .cons VRel.bool (.cons e1 (.cons e2 .nil))⟩
      · rename_i b'
        cases hb : (Nat.beq e.born b' && Nat.blt e.born last) with
        | false => simp [hb] at h
        | true =>
          simp only [hb, cond_true] at h
          simp only [Bool.and_eq_true] at hb
          have hb1 := Nat.eq_of_beq_eq_true hb.1
          have hlt : e.born < last := by simpa [Nat.blt_eq] using hb.2
          subst hb1
          have hge : ¬ last ≤ e.born := by omega
          refine over h ?_ h2
          simp [Instr.next, hob, hom, choose, Sem.run, Question.forced, hge]
      · cases h
    · cases h
  · cases h

theorem entryM_sound {H : Hp} {w : World} (hr : Rel ρ H.get w) {r : Nat} {im : List AV} {vi : Value} (hv : VRel ρ (.ptr (some r) im 0) vi) {v : AV} (h : entryM r H = .ok v) :
    ∃ x, (Instr.entry vi).run P w = .ok x w ∧ VRel ρ v x := by
  simp only [VRel] at hv
  obtain ⟨L, hL, rfl⟩ := hv
  unfold entryM at h
  split at h
  · rename_i m since s st hg
    obtain ⟨M, m1, mb, h1, h2, Lm, hLm, rfl⟩ := hr.obj r _ hg
    rw [hL] at m1; cases m1
    have hob : (getObj L.blk).run P w = .ok (.mapIter (some Lm.blk) since #[s] st) w := by simp [getObj, Sem.run, h1]
    split at h
    · rename_i k x b c hgm
      obtain ⟨M, m1, ces, k1, k2⟩ := hr.obj m _ hgm
      rw [hLm] at m1; cases m1
      obtain ⟨e, rfl, e1, e2, rfl⟩ := entRel_one k2
      have hom : (getObj Lm.blk).run P w = .ok (.map #[e] c) w := by simp [getObj, Sem.run, k1]
      cases hb : (Nat.beq c st && Nat.beq e.born s) with
      | false => simp [hb] at h
      | true =>
        simp only [hb, cond_true] at h; cases h
        simp only [Bool.and_eq_true] at hb
        have hb1 := Nat.eq_of_beq_eq_true hb.1
        have hb2 := Nat.eq_of_beq_eq_true hb.2
        subst hb1; subst hb2
        refine ⟨.tuple #[e.key, e.val], ?_, by simp only [VRel]; exact ⟨_, rfl, .cons e1 (.cons e2 .nil)⟩⟩
        rw [h2]
        simp [Instr.entry, hob, hom]
    · cases h
  · cases h

/-! ### Cells that are read and stored -/
theorem lenOf_sound (w : World) {v : AV} {x : Value} {k : Nat} (hv : VRel ρ v x) (h : lenA v = .ok k) : (Builtin.lenOf x).run P w = .ok k w := by
  unfold lenA at h
  split at h
  · cases h; simp only [VRel] at hv; subst hv; simp [Builtin.lenOf]
  · cases h; obtain ⟨a, l, c, rfl⟩ := VRel.slice_some hv
    have : l = k := by
      rename_i o im off lo ex es
      cases o <;> simp only [VRel] at hv
      · obtain ⟨_, _, _, _, _, h1, _⟩ := hv; cases h1; rfl
      · obtain ⟨_, _, _, _, h1, _⟩ := hv; cases h1; rfl
    subst this; simp [Builtin.lenOf]
  · cases h; simp only [VRel] at hv; subst hv; simp [Builtin.lenOf, mk_size]
  · cases h

/-- Where a slice lies that has room. -/
theorem slice_at {o : Option Nat} {im : List AV} {off len lo es : Nat} {ex : Bool} {x : Value} (hv : VRel ρ (.slice o im off len lo ex es) x) :
    ∃ a cap, x = .slice (some a) len cap ∧ len ≤ lo ∧ lo ≤ cap ∧ (ex = true → cap = lo) ∧ (cap = 0 ∨ VRel ρ (.ptr o im off) (.pointer (some a))) := by
  cases o with
  | some o =>
    simp only [VRel] at hv
    obtain ⟨L, a, cap, hL, rfl, h1, h2, h3, h4⟩ := hv
    refine ⟨a, cap, rfl, h1, h2, h3, ?_⟩
    rcases h4 with h4 | ⟨rfl, h5⟩
    · exact .inl h4
    · exact .inr (by simp only [VRel]; exact ⟨L, hL, rfl⟩)
  | none =>
    simp only [VRel] at hv
    obtain ⟨b, i, vs, a, cap, rfl, h1, h2, h3, h4, h5, h6⟩ := hv
    refine ⟨a, cap, rfl, h1, h2, h3, ?_⟩
    rcases h4 with h4 | rfl
    · exact .inl h4
    · exact .inr (by simp only [VRel]; exact ⟨b, i, vs, rfl, h5, h6⟩)

theorem cells_sound {H : Hp} {w : World} (hr : Rel ρ H.get w) {o : Option Nat} {im cs l : List AV} {off len lo es k : Nat} {ex : Bool} {x : Value} (hv : VRel ρ (.slice o im off len lo ex es) x) (hc : cellsOf H o im = .ok cs) {n : Nat} (hs : sub cs off (n * k) = .ok l) (hn : n ≤ len) :
    ∃ a cap, x = .slice (some a) len cap ∧ ∃ vs : Array Value, (loadCells a (n * k)).run P w = .ok vs w ∧ VRels ρ l vs.toList := by
  obtain ⟨a, cap, rfl, h1, h2, _, h4⟩ := slice_at hv
  refine ⟨a, cap, rfl, ?_⟩
  rcases h4 with h4 | h4
  · have hn0 : n = 0 := by omega
    subst hn0
    rw [Nat.zero_mul] at hs ⊢
    obtain ⟨rfl, _, _⟩ := sub_ok hs
    exact ⟨#[], rfl, by simpa using .nil⟩
  · obtain ⟨b, i, e, hcell⟩ := base_cells hr h4 hc
    cases e
    exact run_loadCells_rel hcell hs

theorem first_sound {H : Hp} {w : World} (hr : Rel ρ H.get w) {es n k : Nat} {v : AV} {x : Value} {cs : List AV} (hv : VRel ρ v x) (h : firstA H es n v = .ok cs) (hl : lenA v = .ok k) (hn : n ≤ k) :
    ∃ vs : Array Value, (Builtin.firstCells es n x).run P w = .ok vs w ∧ VRels ρ cs vs.toList := by
  unfold firstA at h
  split at h
  · cases h
    simp only [VRel] at hv; subst hv
    exact ⟨#[], by simp [Builtin.firstCells], .nil⟩
  · rename_i o im off len lo ex es'
    rw [R.bind_ok] at h; obtain ⟨cc, hcc, h⟩ := h
    simp only [lenA] at hl; cases hl
    obtain ⟨a, cap, rfl, vs, h1, h2⟩ := cells_sound (P := P) hr hv hcc h hn
    exact ⟨vs, by simp [Builtin.firstCells, h1], h2⟩
  · rename_i s
    cases h
    simp only [VRel] at hv; subst hv
    refine ⟨(s.take n |>.map fun b => Value.int .u8 b.toNat).toArray, ?_, byteAV_rels _⟩
    simp only [Builtin.firstCells, Sem.run_pure]
    congr 1
    apply Array.ext'
    rw [Array.toList_map, mk_extract]
    simp
  · cases h

theorem sub_len {cs l : List AV} {off n : Nat} (h : sub cs off n = .ok l) : l.length = n := (sub_ok h).2.2

/-- Cells stored into an object of one's own. -/
theorem storeC_sound {H H' : Hp} {n : Nat} {w : World} (hr : Rel ρ H.get w) {o off : Nat} {vs : List AV} {cvs : List Value} (hv : VRels ρ vs cvs) (h : storeC H o off vs = .ok H') :
    ∃ L, ρ.loc o = some L ∧ ∃ w', (storeCells ⟨L.blk, L.lo + off, none⟩ cvs).run P w = .ok () w' ∧ Ext ρ H.get n w ρ H'.get n w' := by
  unfold storeC at h
  cases hs : vs.all isScalar with
  | false => simp [hs] at h
  | true =>
    simp only [hs, cond_true] at h
    unfold storeO at h
    split at h
    · rename_i t cs k hg
      cases h1 : Nat.beq k 1 with
      | true => simp [h1] at h
      | false =>
        simp only [h1, cond_false] at h
        split at h
        · rename_i r hp
          cases h
          obtain ⟨L, hL, w', hw, hx⟩ := store_sound (P := P) (n := n) hr hg (fun e => by rw [e] at h1; simp at h1) hp hv hs
          exact ⟨L, hL, w', hw, by rw [upd_set]; exact hx⟩
        · cases h
    · cases h

theorem two_args {l : List AV} {a b : AV} {vs : Array Value} (hv : VRels ρ l vs.toList) (hl : l = [a, b]) : ∃ v1 v2, vs = #[v1, v2] ∧ VRel ρ a v1 ∧ VRel ρ b v2 := by
  subst hl
  simp only [VRels] at hv
  obtain ⟨v1, r1, e1, h1, v2, r2, e2, h2, h3⟩ := hv
  subst e2; subst h3
  exact ⟨v1, v2, by rw [← Array.toArray_toList (xs := vs), e1], h1, h2⟩
theorem one_arg {l : List AV} {a : AV} {vs : Array Value} (hv : VRels ρ l vs.toList) (hl : l = [a]) : ∃ v1, vs = #[v1] ∧ VRel ρ a v1 := by
  subst hl
  simp only [VRels] at hv
  obtain ⟨v1, r1, e1, h1, h3⟩ := hv
  subst h3
  exact ⟨v1, by rw [← Array.toArray_toList (xs := vs), e1], h1⟩

theorem first_at {ts : Array TypeId} {t : TypeId} {r : List TypeId} (h : ts.toList = t :: r) : ts[0]? = some t := by
  have : ts.toList[0]? = some t := by rw [h]; rfl
  simpa using this

theorem copy_sound (ok : TbOk P tb) {H H' : Hp} {n n' : Nat} {w : World} (hr : Rel ρ H.get w) {ts : Array TypeId} {args : List AV} {vs : Array Value} (hv : VRels ρ args vs.toList) {r : AV} (h : copyA tb ts.toList args H n = .ok (r, H', n')) (t : TypeId) :
    EffV P ρ H.get n w r H'.get n' (Builtin.copy_ ts t vs) := by
  unfold copyA at h
  split at h
  · rename_i dt _ d s ht
    have h0 := first_at ht
    obtain ⟨vd, vsrc, rfl, hd, hs⟩ := two_args hv rfl
    rw [R.bind_ok] at h; obtain ⟨dd, hdd, h⟩ := h
    split at h
    · rename_i e
      rw [R.bind_ok] at h; obtain ⟨es, hes, h⟩ := h
      rw [R.bind_ok] at h; obtain ⟨ls, hls, h⟩ := h
      rw [R.bind_ok] at h; obtain ⟨ld, hld, h⟩ := h
      rw [R.bind_ok] at h; obtain ⟨cs, hcs, h⟩ := h
      obtain ⟨cvs, hf1, hf2⟩ := first_sound (P := P) hr hs hcs hls (Nat.min_le_left _ _)
      have hlen := lenOf_sound (P := P) w hs hls
      split at h
      · simp only [pureM] at h; cases h
        simp only [lenA] at hld; cases hld
        simp only [VRel] at hd; subst hd
        have hm0 : Nat.min ls 0 = 0 := Nat.min_zero ls
        rw [hm0] at hf1 ⊢
        refine ⟨goInt 0, w, ρ, ?_, Ext.refl hr rfl, by simp [VRel, goInt]⟩
        simp [Builtin.copy_, h0, ok.run_und hdd, hlen, ok.run_size hes, hf1]
      · rename_i o im off len lo ex es'
        rw [R.bind_ok] at h; obtain ⟨H1, hst, h⟩ := h
        simp only [pureM] at h; cases h
        simp only [lenA] at hld; cases hld
        obtain ⟨L, hL, w', hw, hx⟩ := storeC_sound (P := P) (n := n) hr hf2 hst
        obtain ⟨a, cap, rfl, h1, h2, _, h4⟩ := slice_at hd
        rcases h4 with h4 | h4
        · -- nothing is copied
          have hm : Nat.min ls ld = 0 := by show min ls ld = 0; omega
          have hcv : cvs.toList = [] := by
            have e1 : cvs = #[] := by
              have h9 : cs.length = 0 := by
                have : cs = [] := by
                  rw [hm] at hcs
                  unfold firstA at hcs
                  split at hcs
                  · cases hcs; rfl
                  · rw [R.bind_ok] at hcs; obtain ⟨cc, _, hcs⟩ := hcs
                    have := sub_len hcs
                    simpa using this
                  · cases hcs; simp
                  · cases hcs
                simp [this]
              have := hf2.length
              rw [h9] at this
              exact Array.eq_empty_of_size_eq_zero (by simpa using this.symm)
            rw [e1]
          rw [hcv] at hw
          simp only [storeCells, Sem.run_pure] at hw
          cases hw
          refine ⟨goInt (Nat.min ls ld), w, ρ, ?_, hx, by simp [VRel, goInt]⟩
          simp [Builtin.copy_, h0, ok.run_und hdd, hlen, ok.run_size hes, hf1, hcv, storeCells]
        · simp only [VRel] at h4
          obtain ⟨M, hM, e⟩ := h4
          rw [hL] at hM; cases hM; cases e
          refine ⟨goInt (Nat.min ls ld), w', ρ, ?_, hx, by simp [VRel, goInt]⟩
          simp [Builtin.copy_, h0, ok.run_und hdd, hlen, ok.run_size hes, hf1, hw]
      · cases h
    · cases h
  · cases h

theorem clear_sound (ok : TbOk P tb) {H H' : Hp} {n n' : Nat} {w : World} (hr : Rel ρ H.get w) {ts : Array TypeId} {args : List AV} {vs : Array Value} (hv : VRels ρ args vs.toList) {r : AV} (h : clearA tb ts.toList args H n = .ok (r, H', n')) (t : TypeId) :
    EffV P ρ H.get n w r H'.get n' (Builtin.clear_ ts t vs) := by
  unfold clearA at h
  have hund : VRel ρ undA (.tuple #[]) := by simp only [undA, VRel]; exact ⟨#[], rfl, .nil⟩
  split at h
  · rename_i t0 _ x ht
    have h0 := first_at ht
    obtain ⟨vx, rfl, hx⟩ := one_arg hv rfl
    rw [R.bind_ok] at h; obtain ⟨d, hd, h⟩ := h
    split at h
    · simp only [pureM] at h; cases h
      simp only [VRel] at hx; subst hx
      refine ⟨.tuple #[], w, ρ, ?_, Ext.refl hr rfl, hund⟩
      cases d <;> simp [Builtin.clear_, h0, ok.run_und hd]
    · simp only [pureM] at h; cases h
      simp only [VRel] at hx; subst hx
      refine ⟨.tuple #[], w, ρ, ?_, Ext.refl hr rfl, hund⟩
      cases d <;> simp [Builtin.clear_, h0, ok.run_und hd]
    · rename_i rr
      split at h
      · rename_i es c hg
        simp only [pureM] at h; cases h
        obtain ⟨L, ces, hL, rfl, hob, hent⟩ := map_obj hr hg hx
        obtain ⟨w', hset, hx'⟩ := Ext.setMap (P := P) (n := n) (c' := c) (es' := []) (ces := #[]) hr hg hL (by simp [EntRel])
        refine ⟨.tuple #[], w', ρ, ?_, hx', hund⟩
        cases d <;> simp [Builtin.clear_, h0, ok.run_und hd, run_getObj_map hob, hset]
      · cases h
    · rename_i e ob im off len lo ex es
      cases hb : Nat.beq len 0 with
      | true =>
        have := Nat.eq_of_beq_eq_true hb; subst this
        simp only [hb, cond_true, pureM] at h; cases h
        obtain ⟨a, cap, rfl, _⟩ := slice_at hx
        exact ⟨.tuple #[], w, ρ, by simp [Builtin.clear_, h0, ok.run_und hd], Ext.refl hr rfl, hund⟩
      | false =>
        have hn0 : len ≠ 0 := fun e => by subst e; simp at hb
        simp only [hb, cond_false] at h
        split at h
        · rename_i o
          rw [R.bind_ok] at h; obtain ⟨z, hz, h⟩ := h
          rw [R.bind_ok] at h; obtain ⟨H1, hst, h⟩ := h
          simp only [pureM] at h; cases h
          obtain ⟨zv, hz1, hz2⟩ := ok.run_zero hz ρ w
          have hzl : z.cells.length = zv.cells.size := by have := hz2.cells.length; simpa using this
          have hrep : VRels ρ (reps z.cells len) (Builtin.zeroCells zv.cells len).toList := by
            have := reps_sound hz2.cells len
            rw [hzl] at this; exact this
          obtain ⟨L, hL, w', hw, hx'⟩ := storeC_sound (P := P) (n := n) hr hrep hst
          obtain ⟨a, cap, rfl, h1, h2, _, h4⟩ := slice_at hx
          rcases h4 with h4 | h4
          · omega
          · simp only [VRel] at h4
            obtain ⟨M, hM, e'⟩ := h4
            rw [hL] at hM; cases hM; cases e'
            refine ⟨.tuple #[], w', ρ, ?_, hx', hund⟩
            obtain ⟨len, rfl⟩ : ∃ k, len = k + 1 := ⟨len - 1, by omega⟩
            simp [Builtin.clear_, h0, ok.run_und hd, hz1, hw]
        · cases h
    · cases h
  · cases h

end
end Go.Zr
