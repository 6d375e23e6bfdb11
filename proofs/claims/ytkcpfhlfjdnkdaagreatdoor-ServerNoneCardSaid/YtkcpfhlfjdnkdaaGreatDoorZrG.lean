import Derived.Test.YtkcpfhlfjdnkdaaGreatDoorZrF
namespace Go.Zr

section
variable {P : Program} {tb : Tb} {ρ : Env}

/-! ### Aggregates -/
theorem foldl_put (off : Nat) : ∀ (l : List Value) (k : Nat) (cells : Array Value), off + k + l.length ≤ cells.size →
    ((l.zipIdx k).foldl (fun (cs : Array Value) (x : Value × Nat) => cs.setIfInBounds (off + x.2) x.1) cells).toList = cells.toList.take (off + k) ++ l ++ cells.toList.drop (off + k + l.length)
  | [], k, cells, h => by simp
  | v :: l, k, cells, h => by
    simp only [List.zipIdx_cons, List.foldl_cons]
    rw [foldl_put off l (k + 1) _ (by simp at h ⊢; omega)]
    have e := list_seg_step cells.toList (off + k) v l (by simp at h ⊢; omega)
    simpa [Array.toList_setIfInBounds, Nat.add_assoc] using e

theorem fill_step {place : Nat → Option (Nat × Nat)} {i off size : Nat} {v : Value} {cells : Array Value} {rest : List (Nat × Value)} (hp : place i = some (off, size)) (hs : v.cells.size = size) (hl : off + size ≤ cells.size) :
    ∃ c : Array Value, Instr.fill place cells ((i, v) :: rest) = Instr.fill place c rest ∧ c.toList = cells.toList.take off ++ v.cells.toList ++ cells.toList.drop (off + size) := by
  refine ⟨(v.cells.toList.zipIdx 0).foldl (fun (cs : Array Value) (x : Value × Nat) => cs.setIfInBounds (off + x.2) x.1) cells, ?_, ?_⟩
  · simp only [Instr.fill, hp]
    rw [if_neg (by simp [hs]; omega)]
    congr 1
    rw [← Array.foldl_toList, Array.toList_zipIdx]
  · exact (foldl_put off v.cells.toList 0 cells (by simp [hs]; omega)).trans (by simp [hs])

theorem fill_sound {T : Tm} {ev : Operand → Value} {pl place : Nat → Option (Nat × Nat)} (hpl : ∀ i x, pl i = some x → place i = some x) :
    ∀ (ps : List (Nat × Operand)) (xs cs r : List AV) (cells : Array Value), OpsRel tb ρ T ev (ps.map (·.2)) → opds tb T (ps.map (·.2)) = .ok xs → VRels ρ cs cells.toList → fillA pl cs ((ps.map (·.1)).zip xs) = some r →
      ∃ cr, Instr.fill place cells (ps.map fun (i, x) => (i, ev x)) = some cr ∧ VRels ρ r cr.toList
  | [], xs, cs, r, cells, _, hx, hc, h => by
    simp [opds] at hx; subst hx
    simp [fillA] at h; subst h
    exact ⟨cells, by simp [Instr.fill], hc⟩
  | (i, x) :: ps, xs, cs, r, cells, hops, hx, hc, h => by
    simp only [List.map_cons, opds] at hx
    rw [R.bind_ok] at hx; obtain ⟨a, ha, hx⟩ := hx
    rw [R.bind_ok] at hx; obtain ⟨xs', hxs, hx⟩ := hx
    cases hx
    simp only [List.map_cons, List.zip_cons_cons, fillA] at h
    split at h
    · cases h
    · rename_i off size hp
      cases hb : (Nat.beq a.cells.length size && a.cells.all isScalar) with
      | false => simp [hb] at h
      | true =>
        simp only [hb, cond_true] at h
        simp only [Bool.and_eq_true] at hb
        have hsz := Nat.eq_of_beq_eq_true hb.1
        split at h
        · rename_i cs' hput
          obtain ⟨hre, hlen⟩ := putAt_some hput
          have hv : VRel ρ a (ev x) := hops x (by simp) a ha
          have hvl : (ev x).cells.size = size := by rw [← hsz, hv.cells.length]; simp
          have hcl : cs.length = cells.size := by rw [hc.length]; simp
          obtain ⟨c, h1, h2⟩ := fill_step (rest := ps.map fun (i, x) => (i, ev x)) (cells := cells) (hpl i _ hp) hvl (by omega)
          obtain ⟨cr, h3, h4⟩ := fill_sound hpl ps xs' cs' r c (fun y hy => hops y (by simp at hy ⊢; exact .inr hy)) hxs (by
            rw [h2, hre]
            refine VRels.append (VRels.append (hc.take off) hv.cells) ?_
            rw [hsz]; exact hc.drop _) h
          exact ⟨cr, by simp only [List.map_cons]; rw [h1]; exact h3, h4⟩
        · cases h

theorem places_sound (ok : TbOk P tb) (w : World) : ∀ {fs : List Field} {ps : List (Nat × Nat)}, placesA tb fs = .ok ps →
    (fs.mapM fun f => (do pure (f.offset, ← sizeOf f.type) : Sem (Nat × Nat))).run P w = .ok ps w
  | [], ps, h => by simp [placesA] at h; subst h; rfl
  | f :: fs, ps, h => by
    simp only [placesA] at h
    rw [R.bind_ok] at h; obtain ⟨s, hs, h⟩ := h
    rw [R.bind_ok] at h; obtain ⟨r, hr, h⟩ := h
    cases h
    have ih := places_sound ok w hr
    simp only [List.mapM_cons, Sem.run_bind, ok.run_size hs, Result.andThen_ok, Sem.run_pure, ih]

theorem build_sound (ok : TbOk P tb) (w : World) {T : Tm} {ev : Operand → Value} {t : TypeId} {ps : Array (Nat × Operand)} {xs : List AV} {r : AV} (hops : OpsRel tb ρ T ev (ps.toList.map (·.2))) (hx : opds tb T (ps.toList.map (·.2)) = .ok xs)
    (h : buildA tb t ((ps.toList.map (·.1)).zip xs) = .ok r) : ∃ v, (Instr.build t (ps.map fun (i, x) => (i, ev x))).run P w = .ok v w ∧ VRel ρ r v := by
  unfold buildA at h
  rw [R.bind_ok] at h; obtain ⟨z, hz, h⟩ := h
  rw [R.bind_ok] at h; obtain ⟨d, hd, h⟩ := h
  obtain ⟨zv, hzr, hzv⟩ := ok.run_zero hz ρ w
  split at h
  · rename_i fs
    rw [R.bind_ok] at h; obtain ⟨pl, hpl, h⟩ := h
    rw [R.bind_ok] at h; obtain ⟨cs, hcs, h⟩ := h
    cases h
    have hm := places_sound (P := P) ok w hpl
    obtain ⟨cr, h1, h2⟩ := fill_sound (place := fun i => pl.toArray[i]?) (fun i x hi => by simpa using hi) ps.toList xs z.cells cs zv.cells hops hx hzv.cells (R.of_ok.1 hcs)
    refine ⟨.agg cr, ?_, by simp only [VRel]; exact ⟨cr, rfl, h2⟩⟩
    have h1' : Instr.fill (fun i => pl.toArray[i]?) zv.cells (ps.map fun (i, x) => (i, ev x)).toList = some cr := by rw [Array.toList_map]; exact h1
    simp only [Instr.build, Sem.run_bind, hzr, Result.andThen_ok, ok.run_und hd, Array.mapM_eq_mapM_toList, Sem.run_map, hm]
    rw [h1']; rfl
  · rename_i e
    rw [R.bind_ok] at h; obtain ⟨s, hs, h⟩ := h
    rw [R.bind_ok] at h; obtain ⟨cs, hcs, h⟩ := h
    cases h
    obtain ⟨cr, h1, h2⟩ := fill_sound (place := fun i => some (i * s, s)) (fun i x hi => hi) ps.toList xs z.cells cs zv.cells hops hx hzv.cells (R.of_ok.1 hcs)
    refine ⟨.agg cr, ?_, by simp only [VRel]; exact ⟨cr, rfl, h2⟩⟩
    have h1' : Instr.fill (fun i => some (i * s, s)) zv.cells (ps.map fun (i, x) => (i, ev x)).toList = some cr := by rw [Array.toList_map]; exact h1
    simp only [Instr.build, Sem.run_bind, hzr, Result.andThen_ok, ok.run_und hd, ok.run_size hs]
    rw [h1']; rfl
  · cases h

theorem reps_get (z : List AV) : ∀ (m i : Nat), (reps z m)[i]? = if i < m * z.length then z[i % z.length]? else none
  | 0, i => by simp [reps]
  | m + 1, i => by
    simp only [reps]
    rw [Nat.succ_mul]
    by_cases h : i < z.length
    · rw [List.getElem?_append_left h, if_pos (by omega), Nat.mod_eq_of_lt h]
    · rw [List.getElem?_append_right (by omega), reps_get z m]
      have e : (i - z.length) % z.length = i % z.length := by
        rw [Nat.mod_eq_sub_mod (a := i) (by omega)]
      rw [e]
      by_cases h2 : i < m * z.length + z.length
      · rw [if_pos (by omega), if_pos h2]
      · rw [if_neg (by omega), if_neg h2]

theorem reps_length (z : List AV) : ∀ m, (reps z m).length = m * z.length
  | 0 => by simp [reps]
  | m + 1 => by simp only [reps, List.length_append, reps_length z m, Nat.succ_mul]; omega

theorem reps_sound {zc : List AV} {z : Array Value} (h : VRels ρ zc z.toList) (m : Nat) : VRels ρ (reps zc m) ((Array.range (m * zc.length)).map fun i => z[i % z.size]!).toList := by
  have hl : zc.length = z.size := by rw [h.length]; simp
  refine VRels.of_get (by simp [reps_length]) (fun i a v h1 h2 => ?_)
  rw [reps_get] at h1
  split at h1
  · rename_i hi
    obtain ⟨x, h3, h4⟩ := h.get _ _ h1
    have h5 : v = x := by
      simp only [Array.toList_map, List.getElem?_map, Option.map_eq_some_iff] at h2
      obtain ⟨j, h6, h7⟩ := h2
      have : j = i := by
        have h8 : (Array.range (m * zc.length)).toList = List.range (m * zc.length) := by simp
        rw [h8, List.getElem?_range hi] at h6; cases h6; rfl
      subst this
      rw [← h7]
      rw [hl] at h3
      have h9 : z[j % z.size]? = some x := by simpa using h3
      rw [getElem!_def, h9]
    rw [h5]; exact h4
  · cases h1

end
end Go.Zr
