import Derived.Test.YtkcpfhlfjdnkdaaGreatDoorZrK
import Derived.Lib.UnsafeStr
namespace Go.Zr

section
variable {P : Program} {tb : Tb} {ρ : Env}

/-- A row that an address lies in. -/
theorem row_at {H : Hp} {w : World} (hr : Rel ρ H.get w) {o : Nat} {t : TypeId} {cs : List AV} {k : Nat} {L : Loc} (hg : H.get o = some (.row t cs k)) (hL : ρ.loc o = some L) :
    ∃ c fr, w.heap[L.blk]? = some (.cells c t fr) ∧ L.lo + cs.length ≤ L.hi ∧ L.hi ≤ c.size ∧ (k = 0 → L.lo = 0) := by
  obtain ⟨M, m1, c, fr, h1, h2, h3, h4, h5, h6⟩ := hr.obj o _ hg
  rw [hL] at m1; cases m1
  exact ⟨c, fr, h1, h2, h3, fun e => (h5 e).1⟩

theorem shape_of {w : World} {b : Nat} {c : Array Value} {t : TypeId} {fr : Nat × Nat} (h : w.heap[b]? = some (.cells c t fr)) : w.shape? b = some (t, c.size) := by simp [World.shape?, h]

theorem convR_sound (ok : TbOk P tb) {H : Hp} {w : World} (hr : Rel ρ H.get w) {src dst : TypeId} {a r : AV} {va : Value} (ha : VRel ρ a va) (h : convR tb src dst a H = .ok r) : ∃ v, (convert src dst va).run P w = .ok v w ∧ VRel ρ r v := by
  unfold convR at h
  rw [R.bind_ok] at h; obtain ⟨ds, hs, h⟩ := h
  rw [R.bind_ok] at h; obtain ⟨dd, hd, h⟩ := h
  split at h
  · rename_i m
    simp only [VRel] at ha; subst ha; cases h
    refine ⟨.string (Utf8.encode m), ?_, by simp [VRel]⟩
    unfold convert
    simp only [Sem.run_bind, ok.run_und hs, ok.run_und hd, Result.andThen_ok]
    cases ds <;> simp [Conv.intToString]
  · rename_i s
    simp only [VRel] at ha; subst ha; cases h
    refine ⟨_, ?_, VRel.str⟩
    unfold convert
    simp only [Sem.run_bind, ok.run_und hs, ok.run_und hd, Result.andThen_ok]
    cases ds <;> simp
  · rename_i e
    simp only [VRel] at ha; subst ha
    rw [R.bind_ok] at h; obtain ⟨de, he, h⟩ := h
    split at h
    · cases h
      exact ⟨.string .empty, by unfold convert; simp [ok.run_und hs, ok.run_und hd, ok.run_und he, Conv.bytesToString], by simp [VRel]; rfl⟩
    · cases h
      exact ⟨.string .empty, by unfold convert; simp [ok.run_und hs, ok.run_und hd, ok.run_und he, Conv.runesToString], by simp [VRel]; rfl⟩
    · cases h
  · rename_i e o im off len lo ex es
    rw [R.bind_ok] at h; obtain ⟨de, he, h⟩ := h
    rw [R.bind_ok] at h; obtain ⟨cs, hcs, h⟩ := h
    rw [R.bind_ok] at h; obtain ⟨l, hl, h⟩ := h
    cases hle : Nat.ble len (len * es) with
    | false => simp [hle] at h
    | true =>
      simp only [hle, cond_true] at h
      obtain ⟨a, cap, vs, rfl, h1, h2⟩ := slice_cells (P := P) hr ha hcs hl (Nat.le_of_ble_eq_true hle)
      split at h
      · rw [R.bind_ok] at h; obtain ⟨s, hb, h⟩ := h
        cases h
        obtain ⟨ns, e1, rfl⟩ := bytes_from (R.of_ok.1 hb) h2
        have e2 : vs = (ns.map (Value.int .u8)).toArray := by rw [← e1]
        subst e2
        refine ⟨_, ?_, VRel.str⟩
        unfold convert
        simp only [Sem.run_bind, ok.run_und hs, ok.run_und hd, ok.run_und he, Result.andThen_ok]
        rw [run_bytesToString w a len cap ns h1, foldl_push_bytes]
        simp
      · rw [R.bind_ok] at h; obtain ⟨s, hb, h⟩ := h
        cases h
        obtain ⟨ns, e1, rfl⟩ := runes_from (R.of_ok.1 hb) h2
        have e2 : vs = (ns.map (Value.int .i32)).toArray := by rw [← e1]
        subst e2
        refine ⟨_, ?_, VRel.str⟩
        unfold convert
        simp only [Sem.run_bind, ok.run_und hs, ok.run_und hd, ok.run_und he, Result.andThen_ok]
        rw [run_runesToString w a len cap ns h1]
        unfold runesBytes
        rw [foldl_runes]
        simp
      · cases h
  · simp only [VRel] at ha; subst ha; cases h
    exact ⟨.pointer none, by unfold convert; simp [ok.run_und hs, ok.run_und hd, Conv.unsafePointer], by simp [VRel]⟩
  · simp only [VRel] at ha; subst ha; cases h
    exact ⟨.pointer none, by unfold convert; simp [ok.run_und hs, ok.run_und hd, Conv.unsafePointer], by simp [VRel]⟩
  · rename_i t o im off
    rw [R.bind_ok] at h; obtain ⟨k, hk, h⟩ := h
    cases hz : Nat.beq k 0 with
    | true => simp [hz] at h
    | false =>
      have hk0 : k ≠ 0 := fun e => by subst e; simp at hz
      simp only [hz, cond_false] at h
      rw [R.bind_ok] at h; obtain ⟨cs, hcs, h⟩ := h
      cases hb : Nat.blt off cs.length with
      | false => simp [hb] at h
      | true =>
        simp only [hb, cond_true] at h; cases h
        have hlt : off < cs.length := by simpa [Nat.blt_eq] using hb
        have ha' := ha
        simp only [VRel] at ha'
        obtain ⟨L, hL, rfl⟩ := ha'
        simp only [cellsOf] at hcs
        split at hcs
        · rename_i t' cs' kk hg
          cases hcs
          obtain ⟨c, fr, h1, h2, h3, _⟩ := row_at hr hg hL
          have sh := shape_of h1
          refine ⟨_, ?_, ha⟩
          unfold convert
          have : ¬ (c.size ≤ L.lo + off) := by omega
          simp [ok.run_und hs, ok.run_und hd, Conv.unsafePointer, Conv.seenAt, viewAt, cellsIn, sh, ok.run_size hk, hk0, this]
        · cases hcs
  · rename_i u o im off
    split at h
    · rename_i t cs k hg
      cases hb : (Nat.beq t u && Nat.beq off 0 && Nat.beq k 0) with
      | false => simp [hb] at h
      | true =>
        simp only [hb, cond_true] at h
        simp only [Bool.and_eq_true] at hb
        have e1 := Nat.eq_of_beq_eq_true hb.1.1; subst e1
        have e2 := Nat.eq_of_beq_eq_true hb.1.2; subst e2
        have e3 := Nat.eq_of_beq_eq_true hb.2; subst e3
        rw [R.bind_ok] at h; obtain ⟨z, hz, h⟩ := h
        cases hb2 : (Nat.blt 0 z && Nat.ble z cs.length) with
        | false => simp [hb2] at h
        | true =>
          simp only [hb2, cond_true] at h; cases h
          simp only [Bool.and_eq_true] at hb2
          have hz0 : 0 < z := by simpa [Nat.blt_eq] using hb2.1
          have hz1 := Nat.le_of_ble_eq_true hb2.2
          have ha' := ha
          simp only [VRel] at ha'
          obtain ⟨L, hL, rfl⟩ := ha'
          obtain ⟨c, fr, h1, h2, h3, h4⟩ := row_at hr hg hL
          have hlo := h4 rfl
          have sh := shape_of h1
          refine ⟨_, ?_, ha⟩
          have hcell : P.cellsOf t = z := ok.cells hz
          obtain ⟨dep, hdep⟩ : ∃ d, P.depth = d + 1 := ⟨P.depth - 1, by have := ok.depth; omega⟩
          have hsame : sameLayout P P.depth t t = true := by rw [hdep]; unfold sameLayout; simp
          have hrow : rowAt P (fun x => sameLayout P P.depth x t) P.depth t (c.size / P.cellsOf t) 0 1 = true := by
            rw [hdep]
            unfold rowAt
            rw [hcell, if_neg (by omega)]
            have : 1 ≤ c.size / z := (Nat.one_le_div_iff hz0).2 (by omega)
            simp [this, hdep ▸ hsame]
          have hlies : liesAt P P.depth t (c.size / P.cellsOf t) 0 t 1 = true := by
            rw [hdep]
            unfold liesAt
            rw [hrow]; rfl
          unfold convert
          simp [ok.run_und hs, ok.run_und hd, Conv.unsafePointer, Conv.seenAt, viewAt, sh, ok.run_size hz, variablesAt, hlo, hlies]
    · cases h
  · cases h

theorem len_sound (ok : TbOk P tb) {H : Hp} {w : World} (hr : Rel ρ H.get w) {ts : Array TypeId} {args : List AV} {vs : Array Value} (hv : VRels ρ args vs.toList) {r : AV} (h : lenB tb ts.toList args H = .ok r) (t : TypeId) :
    ∃ v, (Builtin.len_ ts t vs).run P w = .ok v w ∧ VRel ρ r v := by
  unfold lenB at h
  split at h
  · rename_i t0 _ x ht
    rw [R.bind_ok] at h; obtain ⟨d, hd, h⟩ := h
    have h0 : ts[0]? = some t0 := by have : ts.toList[0]? = some t0 := by rw [ht]; rfl
                                     simpa using this
    simp only [VRels] at hv
    obtain ⟨v1, r1, e1, h1, h2⟩ := hv
    subst h2
    have h3 : vs[0]? = some v1 := by have : vs.toList[0]? = some v1 := by rw [e1]; rfl
                                     simpa using this
    split at h
    · simp only [VRel] at h1; subst h1; cases h
      exact ⟨_, by simp [Builtin.len_, h0, h3, ok.run_und hd, goInt, mk_size], VRel.int⟩
    · cases h
      exact ⟨_, by simp [Builtin.len_, h0, h3, ok.run_und hd, goInt], VRel.int⟩
    · rename_i a
      rw [R.bind_ok] at h; obtain ⟨d2, hd2, h⟩ := h
      split at h
      · cases h
        exact ⟨_, by simp [Builtin.len_, h0, h3, ok.run_und hd, ok.run_und hd2, goInt], VRel.int⟩
      · cases h
    · simp only [VRel] at h1; subst h1; cases h
      exact ⟨.int .i64 0, by simp [Builtin.len_, h0, h3, ok.run_und hd, goInt], VRel.int⟩
    · rename_i o im off len lo ex es
      cases h
      have : ∃ a cap, v1 = .slice (some a) len cap := by
        cases o with
        | some o => simp only [VRel] at h1; obtain ⟨L, a, cap, _, h5, _⟩ := h1; exact ⟨a, cap, h5⟩
        | none => simp only [VRel] at h1; obtain ⟨b, i, vs, a, cap, h5, _⟩ := h1; exact ⟨a, cap, h5⟩
      obtain ⟨a, cap, rfl⟩ := this
      exact ⟨.int .i64 len, by simp [Builtin.len_, h0, h3, ok.run_und hd, goInt], VRel.int⟩
    · simp only [VRel] at h1; subst h1; cases h
      exact ⟨.int .i64 0, by simp [Builtin.len_, h0, h3, ok.run_und hd, goInt], VRel.int⟩
    · rename_i rr
      split at h
      · rename_i es c hg
        cases h
        obtain ⟨L, ces, _, rfl, h5, h6⟩ := map_obj hr hg h1
        have : es.length = ces.size := by rw [h6.length]; simp
        exact ⟨.int .i64 es.length, by simp [Builtin.len_, h0, h3, ok.run_und hd, goInt, run_getObj_map h5, this], VRel.int⟩
      · cases h
    · cases h
  · cases h

theorem bi_sliceData (ats : Array TypeId) (ty : TypeId) (cs : Array Bool) (args : Array Value) : builtin .unsafeSliceData ats ty cs args = (do pure (.value (← Builtin.unsafeSliceData_ ats ty args))) := rfl

theorem read_sound (ok : TbOk P tb) {H : Hp} {w : World} (hr : Rel ρ H.get w) {o : Oper} {T : Tm} {ev : Operand → Value} (hops : OpsRel tb ρ T ev o.op.operands.toList) (hk : kindOf tb o = .read) {r : AV} (h : readA tb o T H = .ok r) :
    ∃ v, (execOp ev o).run P w = .ok (.value v) w ∧ VRel ρ r v := by
  obtain ⟨dst, op, type, pos, after, guard⟩ := o
  unfold readA at h
  unfold execOp
  cases op <;> simp only at h ⊢ <;> try (cases h; done)
  case load t a =>
    rw [R.bind_ok] at h; obtain ⟨x, hx, h⟩ := h
    obtain ⟨p, v, e, h1, h2⟩ := load_sound ok hr (hops.one (by simp [Op.operands]) hx) h
    exact ⟨v, by simp [Instr.loadAt, e, Instr.sureAddr, h1], h2⟩
  case binOp op t x y yt =>
    rw [R.bind_ok] at h; obtain ⟨a, ha, h⟩ := h
    rw [R.bind_ok] at h; obtain ⟨b, hb, h⟩ := h
    obtain ⟨v, h1, h2⟩ := binA_sound ok hr (hops.one (by simp [Op.operands]) ha) (hops.one (by simp [Op.operands]) hb) (by
      refine ⟨fun e => ?_, fun e => ?_⟩ <;> subst e <;> simp [kindOf] at hk) h
    refine ⟨v, ?_, h2⟩
    rw [Sem.run_bind, h1]; rfl
  case convert s d x =>
    rw [R.bind_ok] at h; obtain ⟨a, ha, h⟩ := h
    obtain ⟨v, h1, h2⟩ := convR_sound ok hr (hops.one (by simp [Op.operands]) ha) h
    exact ⟨v, by simp [h1], h2⟩
  case slice t x lo hi mx =>
    rw [R.bind_ok] at h; obtain ⟨a, ha, h⟩ := h
    rw [R.bind_ok] at h; obtain ⟨l, hl, h⟩ := h
    rw [R.bind_ok] at h; obtain ⟨hh, hhh, h⟩ := h
    rw [R.bind_ok] at h; obtain ⟨m, hm, h⟩ := h
    obtain ⟨v, h1, h2⟩ := sliceArr_sound ok hr (hops.one (by simp [Op.operands]) ha)
      (opdO_rel hops (fun y hy => by simp [Op.operands, hy]) hl) (opdO_rel hops (fun y hy => by simp [Op.operands, hy]) hhh) (opdO_rel hops (fun y hy => by simp [Op.operands, hy]) hm) h
    exact ⟨v, by simp [h1], h2⟩
  case lookup t x i b =>
    rw [R.bind_ok] at h; obtain ⟨a, ha, h⟩ := h
    rw [R.bind_ok] at h; obtain ⟨k, hkk, h⟩ := h
    obtain ⟨v, h1, h2⟩ := lookup_sound ok hr (hops.one (by simp [Op.operands]) ha) (hops.one (by simp [Op.operands]) hkk) h
    exact ⟨v, by simp [h1], h2⟩
  case call c =>
    obtain ⟨callee, args, argTypes⟩ := c
    rw [R.bind_ok] at h; obtain ⟨as, ha, h⟩ := h
    have hv : VRels ρ as (args.map ev).toList := by
      rw [Array.toList_map]; exact OpsRel.list (fun x hx => hops x (by simp [Op.operands, Call.operands] at hx ⊢; exact .inr hx)) ha
    cases callee with
    | value f => cases h
    | invoke r m => cases h
    | builtin b =>
      simp only at h
      cases b <;> simp only at h <;> try (cases h; done)
      case len =>
        obtain ⟨v, h1, h2⟩ := len_sound ok hr hv h type
        exact ⟨v, by simp [resolve, invoke, builtin, h1], h2⟩
      case unsafeSliceData =>
        generalize hA : args.map ev = vs at hv
        split at h
        · rename_i o im off len lo ex es
          cases hz : Nat.beq lo 0 with
          | true => simp [hz] at h
          | false =>
            have hlo : lo ≠ 0 := fun e => by subst e; simp at hz
            simp only [hz, cond_false] at h; cases h
            simp only [VRels] at hv
            obtain ⟨v1, r1, e1, h1, h2⟩ := hv
            subst h2
            have e2 : vs = #[v1] := by rw [← Array.toArray_toList (xs := vs), e1]
            cases o with
            | some o =>
              simp only [VRel] at h1
              obtain ⟨L, a, cap, h5, rfl, h6, h7, _, h8⟩ := h1
              rcases h8 with h8 | ⟨rfl, _⟩
              · omega
              · refine ⟨.pointer (some ⟨L.blk, L.lo + off, none⟩), ?_, by simp only [VRel]; exact ⟨L, h5, rfl⟩⟩
                have hb := Lib.run_unsafeSliceData_row (P := P) (w := w) argTypes type ⟨L.blk, L.lo + off, none⟩ len cap (by omega)
                simp [resolve, invoke, hA, e2, bi_sliceData, hb]
            | none =>
              simp only [VRel] at h1
              obtain ⟨b, i, vs0, a, cap, rfl, h6, h7, _, h8, h9, h10⟩ := h1
              rcases h8 with h8 | rfl
              · omega
              · refine ⟨.pointer (some ⟨b, i + off, none⟩), ?_, by simp only [VRel]; exact ⟨b, i, vs0, rfl, h9, h10⟩⟩
                have hb := Lib.run_unsafeSliceData_row (P := P) (w := w) argTypes type ⟨b, i + off, none⟩ len cap (by omega)
                simp [resolve, invoke, hA, e2, bi_sliceData, hb]
        · cases h
          simp only [VRels] at hv
          obtain ⟨v1, r1, e1, h1, h2⟩ := hv
          subst h2
          have e2 : vs = #[v1] := by rw [← Array.toArray_toList (xs := vs), e1]
          simp only [VRel] at h1; subst h1
          exact ⟨.pointer none, by simp [resolve, invoke, hA, e2, bi_sliceData, Lib.run_unsafeSliceData_nil], by simp [VRel]⟩
        · cases h

/-- A row that is made. -/
theorem alloc_sound (ok : TbOk P tb) {g : Gh} {w : World} (hr : Rel ρ g w) {n : Nat} (_hf : ρ.loc n = none) {o : Oper} {T : Tm} {ev : Operand → Value} (hops : OpsRel tb ρ T ev o.op.operands.toList) {r : AV × TypeId × List AV} (h : allocA tb o T n = .ok r) :
    ∃ v c, (execOp ev o).run P w = .ok (.value v) { w with heap := w.heap.push (.cells c r.2.1) } ∧
      (∀ ρ', Env.Le ρ ρ' → ρ'.loc n = some ⟨w.heap.size, 0, c.size⟩ → VRel ρ' r.1 v) ∧ VRels ρ r.2.2 c.toList := by
  obtain ⟨dst, op, type, pos, after, guard⟩ := o
  unfold allocA at h
  unfold execOp
  cases op <;> simp only at h ⊢ <;> try (cases h; done)
  case alloc e =>
    rw [R.bind_ok] at h; obtain ⟨z, hz, h⟩ := h
    cases h
    obtain ⟨zv, h1, h2⟩ := ok.run_zero hz ρ w
    refine ⟨.pointer (some ⟨w.heap.size, 0, none⟩), zv.cells, by simp [Instr.alloc, h1, newVar, Go.newRow], fun ρ' hle hl => ?_, h2.cells⟩
    simp only [VRel]; exact ⟨_, hl, rfl⟩
  case box e x =>
    rw [R.bind_ok] at h; obtain ⟨a, ha, h⟩ := h
    cases h
    have hv := hops.one (by simp [Op.operands]) ha
    refine ⟨.pointer (some ⟨w.heap.size, 0, none⟩), (ev x).cells, by simp [Instr.box, newVar, Go.newRow], fun ρ' hle hl => ?_, hv.cells⟩
    simp only [VRel]; exact ⟨_, hl, rfl⟩
  case buildSlice t len ps =>
    rw [R.bind_ok] at h; obtain ⟨xs, hx, h⟩ := h
    unfold buildSliceA at h
    rw [R.bind_ok] at h; obtain ⟨d, hd, h⟩ := h
    split at h
    · rename_i e
      rw [R.bind_ok] at h; obtain ⟨s, hs, h⟩ := h
      rw [R.bind_ok] at h; obtain ⟨z, hz, h⟩ := h
      cases hb : Nat.ble (len * s) 16777216 with
      | false => simp [hb] at h
      | true =>
        have hle := Nat.le_of_ble_eq_true hb
        simp only [hb, cond_true] at h
        rw [R.bind_ok] at h; obtain ⟨cs, hcs, h⟩ := h
        cases h
        -- the zero cells
        have zc : ∃ zv : Array Value, ((if len * s = 0 then pure #[] else do pure (← zeroValue e).cells : Sem (Array Value))).run P w = .ok zv w ∧ VRels ρ z ((Array.range (len * s)).map (fun i => zv[i % zv.size]!)).toList := by
          unfold zeros at hz
          cases hb0 : Nat.beq (len * s) 0 with
          | true =>
            have e0 := Nat.eq_of_beq_eq_true hb0
            simp only [hb0, cond_true] at hz; cases hz
            exact ⟨#[], by simp [e0], by simp [e0]; exact .nil⟩
          | false =>
            have e0 : len * s ≠ 0 := fun e => by rw [e] at hb0; simp at hb0
            simp only [hb0, cond_false] at hz
            rw [R.bind_ok] at hz; obtain ⟨z0, hz0, hz⟩ := hz
            cases hb1 : Nat.beq z0.cells.length s with
            | false => simp [hb1] at hz
            | true =>
              simp only [hb1, cond_true] at hz; cases hz
              obtain ⟨zv, h1, h2⟩ := ok.run_zero hz0 ρ w
              refine ⟨zv.cells, by simp [e0, h1], ?_⟩
              rw [← Nat.eq_of_beq_eq_true hb1]
              exact reps_sound h2.cells len
        obtain ⟨zv, hz1, hz2⟩ := zc
        obtain ⟨cr, h3, h4⟩ := fill_sound (place := fun i => some (i * s, s)) (fun i x hi => hi) ps.toList xs z cs _ (by simpa [Op.operands] using hops) hx hz2 (R.of_ok.1 hcs)
        have h3' : Instr.fill (fun i => some (i * s, s)) ((Array.range (len * s)).map (fun i => zv[i % zv.size]!)) (ps.map fun (i, x) => (i, ev x)).toList = some cr := by rw [Array.toList_map]; exact h3
        refine ⟨.slice (some ⟨w.heap.size, 0, none⟩) len len, cr, ?_, fun ρ' hle' hl => ?_, h4⟩
        · have hgt : ¬ (len * s > 2 ^ 24) := by omega
          simp only [Instr.buildSlice, Sem.run_bind, ok.run_und hd, ok.run_size hs, Result.andThen_ok, Sem.run_ite, hgt, if_false, Sem.run_pure]
          by_cases e0 : len * s = 0
          · rw [if_pos e0] at hz1 ⊢
            simp only [Sem.run_pure, Result.ok.injEq, and_true] at hz1 ⊢
            subst hz1
            rw [h3']
            simp [Go.newRow]
          · rw [if_neg e0] at hz1 ⊢
            cases hzz : (zeroValue e).run P w with
            | halt x w' => simp [hzz] at hz1
            | ok x w' =>
              simp [hzz] at hz1
              obtain ⟨rfl, rfl⟩ := hz1
              simp only [Result.andThen_ok]
              rw [h3']
              simp [Go.newRow]
        · simp only [VRel]
          have hlen : cr.size = len * s := by
            have h5 := h4.length
            have h6 : cs.length = len * s := by
              have h7 : z.length = len * s := by rw [hz2.length]; simp
              have key : ∀ (ps : List (Nat × AV)) (c r : List AV), fillA (fun i => some (i * s, s)) c ps = some r → r.length = c.length := by
                intro ps
                induction ps with
                | nil => intro c r hc; simp [fillA] at hc; rw [hc]
                | cons p ps ih =>
                  intro c r hc
                  obtain ⟨i, v⟩ := p
                  simp only [fillA] at hc
                  cases hbb : (Nat.beq v.cells.length s && v.cells.all isScalar) with
                  | false => simp [hbb] at hc
                  | true =>
                    simp only [hbb, cond_true] at hc
                    split at hc
                    · rename_i c' hp
                      obtain ⟨e1, e2⟩ := putAt_some hp
                      rw [ih c' r hc, e1]; simp; omega
                    · cases hc
              rw [key _ _ _ (R.of_ok.1 hcs), h7]
            rw [h5] at h6; simpa using h6
          exact ⟨_, _, len, hl, rfl, Nat.le_refl _, Nat.le_refl _, fun _ => rfl, .inr ⟨by simp, by simp [hlen]⟩⟩
    · cases h

end
end Go.Zr
