import Derived.Test.YtkcpfhlfjdnkdaaGreatDoorZrY
namespace Go.Zr

section
variable {P : Program} {tb : Tb} {S : Su} {sz n0 : Nat} {ops : Array Oper} {es : List Ent} {fin : Tm × Hp × Nat}

theorem objs_cut {acc : List Ent} {n m p q : Nat} (h : ∀ j, unabs acc p j = unabs acc q j) : ∀ l : List Ent, objs acc n m p l = objs acc n m q l
  | [] => rfl
  | e :: l => by simp only [objs, h, objs_cut h l]

/-- Fewer rows at the same cut. -/
theorem Facts.sub (F : Facts tb S sz n0 ops es fin) {M : Gh} {D D1 : Nat → Bool} {p q : Nat} (hD : ∀ x ∈ es, D1 x.i = true → D x.i = true) (hu : ∀ j, unabs es.reverse p j = unabs es.reverse q j)
    (hdead : ∀ j, j < ops.size → unabs es.reverse q j = true → M (n0 + j) = none) : ∀ o ob, gAt es.reverse n0 M D1 p o = some ob → gAt es.reverse n0 M D q o = some ob := by
  intro o ob h
  unfold gAt at h ⊢
  cases h1 : objAt es.reverse n0 D1 p es.reverse o with
  | some x =>
    rw [h1] at h
    obtain ⟨e, he, t, cs, hob, hd, hun, rfl, rfl⟩ := objAt_some h1
    have he' : e ∈ es := by simpa using he
    rw [F.objAt_of he' hob (hD e he' hd) (by rw [← hu]; exact hun)]
    exact h
  | none =>
    rw [h1] at h
    cases h2 : objAt es.reverse n0 D q es.reverse o with
    | none => exact h
    | some y =>
      obtain ⟨e, he, t, cs, hob, hd, hun, rfl, rfl⟩ := objAt_some h2
      have he' : e ∈ es := by simpa using he
      simp only at h
      rw [hdead e.i (F.lt he') hun] at h; cases h

theorem stAt_fin (F : Facts tb S sz n0 ops es fin) : stAt es fin ops.size = fin := by
  unfold stAt
  rw [List.getElem?_eq_none (by rw [F.len]; exact Nat.le_refl _)]

theorem inv_step (ok : TbOk P tb) (hS : SoundS P tb S) (F : Facts tb S sz n0 ops es fin) {r : Option Nat} {k : Nat} {Q : Exit → Act → World → Prop} {ρ0 : Env} {g0 : Gh} {w0 : World} {Ds : List Deferred} {listed : Array Bool} {a : Act} {w : World} (hI : Inv tb n0 sz ops es fin ρ0 g0 w0 Ds listed a w) {i : Nat} (hi : i ∈ Region.ready .any ops listed) {K : Act → World → Prop}
    (hK : ∀ a' w', Inv tb n0 sz ops es fin ρ0 g0 w0 Ds (listed.setIfInBounds i true) a' w' → K a' w') : wpOpIn (Fw r) k P ops Q i K a w := by
  rw [mem_ready] at hi
  obtain ⟨hl, o, ho, hedge⟩ := hi
  have hilt : i < ops.size := (Array.getElem?_eq_some_iff.1 ho).1
  obtain ⟨e, hei, he, hi⟩ := F.get hilt
  obtain ⟨_, ho2, hanc0⟩ := F.at_ i e hei
  have hoe : e.o = o := by rw [ho] at ho2; exact (Option.some.inj ho2).symm
  have hlsz := hI.size
  have hnot : been listed e.i = false := by
    unfold been
    rw [hi]
    rw [Array.getD_eq_getD_getElem?] at hl ⊢
    have : i < listed.size := by rw [hlsz]; exact hilt
    rw [Array.getElem?_eq_getElem this] at hl ⊢
    exact hl
  have hshut := hI.shut
  have hanc : ∀ j, e.anc.testBit j = true → been listed j = true := by
    intro j hj
    rw [hanc0, before_bit ho] at hj
    obtain ⟨ed, hed, hb, h1⟩ := hj
    have hon : been listed ed.on = true := hedge ed hed hb
    rcases h1 with h1 | ⟨hlt, h1⟩
    · rw [← h1]; exact hon
    · obtain ⟨x, hx1, hx, hxi⟩ := F.get (i := ed.on) (by omega)
      refine hshut x hx (by rw [hxi]; exact hon) j ?_
      rw [(F.at_ _ x hx1).2.2]; exact h1
  have hset : ∀ j, been (listed.setIfInBounds i true) j = (been listed j || decide (j = i)) := been_set (by rw [hlsz]; exact hilt)
  have hset' : ∀ x ∈ es, been (listed.setIfInBounds i true) x.i = (been listed x.i || decide (x.i = e.i)) := fun x _ => by rw [hset, hi]
  have hsize' : (listed.setIfInBounds i true).size = ops.size := by simp [hlsz]
  have hshut' : ∀ x ∈ es, been (listed.setIfInBounds i true) x.i = true → ∀ j, x.anc.testBit j = true → been (listed.setIfInBounds i true) j = true := by
    intro x hx hb j hj
    rw [hset] at hb ⊢
    simp only [Bool.or_eq_true, decide_eq_true_eq] at hb ⊢
    rcases hb with hb | hb
    · exact .inl (hshut x hx hb j hj)
    · have : x = e := F.uniq hx he (by rw [hb, hi])
      rw [this] at hj
      exact .inl (hanc j hj)
  obtain ⟨ρ, q, hq, hEq, hext, hfr, hnb, hfn, hdead, hslots, hglob⟩ := hI.ex
  have hlook : ∀ d ∈ looks ops e.o, Slot ρ (e.T.get d) a.tmps d := fun d hd => by rw [F.agree he hshut hnot hanc hd]; exact hslots d
  have hops : OpsRel tb ρ e.T a.eval e.o.op.operands.toList := fun x hx v hv => slot_opd hglob (fun t ht => hlook t (looks_opd (ht ▸ hx))) hv
  have hguard : Region.wanted e.o (yielded ops a.tmps) = guardA ops e.T e.o := slot_guard (fun g want d hg hd => hlook d (looks_guard hg hd))
  have hkind := F.kind i e hei
  have hdead' : ∀ j, j < ops.size → unabs es.reverse q j = true → (stAt es fin q).2.1.get (n0 + j) = none := fun j hj hu => hdead j hj (unabs_iff.1 hu)
  -- nothing but a slot
  have calm : e.isE = false → e.ob = none → ∀ x, VRel ρ e.v x → K (a.put e.o.dst x) w := by
    intro hE hob x hv
    refine hK _ _ ⟨hsize', hshut', ⟨ρ, q, hq, fun y hy hyE => ?_, ?_, hfr, hnb, fun j hj hb => ?_, hdead, F.slot_put he hset' hnot hv hI.slots hslots, hglob⟩, ?_, by rw [put_defers]; exact hI.defs⟩
    · rw [hset' y hy]
      have : y.i ≠ e.i := fun e1 => by rw [F.uniq hy he e1, hE] at hyE; cases hyE
      simp only [this, decide_false, Bool.or_false]
      exact hEq y hy hyE
    · have : gAt es.reverse n0 (stAt es fin q).2.1.get (been (listed.setIfInBounds i true)) q = gAt es.reverse n0 (stAt es fin q).2.1.get (been listed) q := gAt_congr rfl (fun y hy hyob => by
        rw [hset' y hy]
        have : y.i ≠ e.i := fun e1 => by rw [F.uniq hy he e1] at hyob; exact hyob hob
        simp [this])
      rw [this]; exact hext
    · rw [hset] at hb
      simp only [Bool.or_eq_false_iff] at hb
      exact hfn j hj hb.1
    · have := hI.slots
      cases e.o.dst <;> simpa [Act.put] using this
  unfold wpOpIn
  simp only [ho]
  rw [← hoe, hguard]
  unfold KindOk at hkind
  cases hkd : e.kd with
  | none =>
    rw [hkd] at hkind
    obtain ⟨h1, h2, h3, _, _⟩ := hkind
    simp only [h1, Bool.false_eq_true, if_false]
    exact ⟨fun _ _ => trivial, calm (by simp [Ent.isE, hkd]) h3 undef (by rw [h2]; exact und_rel)⟩
  | some kd =>
    rw [hkd] at hkind
    cases kd with
    | pure =>
      obtain ⟨h1, hk, h2, h3, _, _⟩ := hkind
      simp only [h1, if_true]
      obtain ⟨x, hx1, hx2⟩ := pure_sound (P := P) ok w hops h2
      refine op_wp (R := fun y w' => y = x ∧ w' = w) (fun c hc => ?_) (by rw [hx1]; exact ⟨rfl, rfl⟩) (fun y w' hy => ?_)
      · unfold kindOf at hk; rw [hc] at hk; cases hk
      · obtain ⟨rfl, rfl⟩ := hy
        exact calm (by simp [Ent.isE, hkd]) h3 _ hx2
    | read =>
      obtain ⟨h1, hk, hread, h3, _, _⟩ := hkind
      simp only [h1, if_true]
      -- what is read at this cut
      obtain ⟨p, hp1, hp2, hp3, hp4⟩ := next_eff es ops.size (ops.size - q) q (by omega)
      have hE2 : ∀ x ∈ es, x.isE = true → (x.i < p ↔ x.i < q) := fun x hx hxE => ⟨fun h => by
        rcases Nat.lt_or_ge x.i q with h2 | h2
        · exact h2
        · exact absurd ⟨h2, h⟩ (hp4 x hx hxE), fun h => by omega⟩
      have hcalm : (stAt es fin p).2 = (stAt es fin q).2 := by
        have := F.calm (q := q) (p - q) (by omega) (fun x hx hxE h => hp4 x hx hxE ⟨h.1, by omega⟩)
        rwa [show q + (p - q) = p by omega] at this
      have hcut : cutAt es.reverse e p = true := by
        unfold cutAt
        rw [List.all_eq_true]
        intro x hx
        have hx' : x ∈ es := by simpa using hx
        cases hxE : x.isE with
        | false => simp
        | true =>
          have hiff := hEq x hx' hxE
          cases hb : Nat.blt x.i p with
          | true =>
            have hlt : x.i < p := by simpa [Nat.blt_eq] using hb
            have hbe := hiff.1 ((hE2 x hx' hxE).1 hlt)
            simp only [Bool.not_true, Bool.false_or, cond_true, Bool.not_eq_true']
            cases hbit : x.anc.testBit e.i with
            | false => rfl
            | true => have := hshut x hx' hbe _ hbit; rw [hnot] at this; cases this
          | false =>
            have hlt : ¬ x.i < p := fun h => by
              have : Nat.blt x.i p = true := by simpa [Nat.blt_eq] using h
              rw [hb] at this; cases this
            simp only [Bool.not_true, Bool.false_or, cond_false, Bool.not_eq_true']
            cases hbit : e.anc.testBit x.i with
            | false => rfl
            | true => exact absurd ((hE2 x hx' hxE).2 (hiff.2 (hanc _ hbit))) hlt
      have hsee : ∃ Hp', Hp' = (stAt es fin p).2.1 ∧ Zr.sees tb es.reverse n0 e p Hp' = true := by
        have hs := F.sees e he (by simp [Ent.isR, hkd])
        rcases hp3 with hp3 | ⟨x, hx, hxE, hxi⟩
        · subst hp3
          exact ⟨_, rfl, by rw [stAt_fin F]; exact hs.1⟩
        · exact ⟨_, rfl, by rw [← hxi, F.state hx]; exact hs.2 x hx hxE⟩
      obtain ⟨Hp', hHp, hsee⟩ := hsee
      unfold Zr.sees at hsee
      rw [hcut] at hsee
      simp only [Bool.not_true, Bool.false_or] at hsee
      have hval : readA tb e.o e.T (heapAt es.reverse n0 e.anc p Hp') = .ok e.v := by
        cases hcm : calmB es.reverse e.i p with
        | true =>
          unfold calmB at hcm
          simp only [Bool.and_eq_true] at hcm
          have hle : e.i ≤ p := Nat.le_of_ble_eq_true hcm.1
          have hno : ∀ x ∈ es, x.isE = true → ¬ (e.i ≤ x.i ∧ x.i < p) := fun x hx hxE h => by
            have := List.all_eq_true.1 hcm.2 x (by simpa using hx)
            have b1 : Nat.ble e.i x.i = true := Nat.ble_eq_true_of_le h.1
            have b2 : Nat.blt x.i p = true := by simpa [Nat.blt_eq] using h.2
            simp [hxE, b1, b2] at this
          have hc2 : (stAt es fin p).2 = (e.H, e.n) := by
            have := F.calm (q := e.i) (p - e.i) (by omega) (fun x hx hxE h => hno x hx hxE ⟨h.1, by omega⟩)
            rw [show e.i + (p - e.i) = p by omega, F.state he] at this
            exact this
          have e1 : Hp' = e.H := by rw [hHp, hc2]
          have e2 : heapAt es.reverse n0 e.anc p Hp' = heapAt es.reverse n0 e.anc e.i e.H := by
            rw [e1]
            unfold heapAt
            rw [objs_cut (fun j => unabs_congr (q := p) (q' := e.i) (fun x hx hxE => ⟨fun h => by
              rcases Nat.lt_or_ge x.i e.i with h2 | h2
              · exact h2
              · exact absurd ⟨h2, h⟩ (hno x hx hxE), fun h => by omega⟩) j)]
          rw [e2]; exact hread
        | false =>
          rw [hcm] at hsee
          simp only [Bool.false_or] at hsee
          split at hsee
          · rename_i v hv
            have := beqV_eq _ _ hsee
            subst this
            exact hv
          · cases hsee
      · have hv := hval
        have hrel : Rel ρ (heapAt es.reverse n0 e.anc p Hp').get w := by
          rw [heapAt_get, hHp, hcalm]
          exact hext.rel.less (F.sub (fun x _ hx => hanc _ hx) (fun j => unabs_congr hE2 j) hdead')
        obtain ⟨x, hx1, hx2⟩ := read_sound (P := P) ok hrel hops hk hv
        refine op_wp (R := fun y w' => y = x ∧ w' = w) (fun c hc => ?_) (by rw [hx1]; exact ⟨rfl, rfl⟩) (fun y w' hy => ?_)
        · unfold kindOf at hk; rw [hc] at hk; cases hk
        · obtain ⟨rfl, rfl⟩ := hy
          exact calm (by simp [Ent.isE, hkd]) h3 _ hx2
    | alloc =>
      obtain ⟨h1, ⟨rr, h2, h3, h4⟩, _, _⟩ := hkind
      simp only [h1, if_true]
      have hloc : ρ.loc (n0 + e.i) = none := hfn e.i (F.lt he) hnot
      obtain ⟨x, c, hx1, hx2, hx3⟩ := alloc_sound (P := P) ok hext.rel hloc hops h2
      have hE : e.isE = false := by simp [Ent.isE, hkd]
      have hne : ∀ y ∈ es, y.isE = true → y.i ≠ e.i := fun y hy hyE e1 => by rw [F.uniq hy he e1, hE] at hyE; cases hyE
      refine op_wp (R := fun y w' => y = x ∧ w' = { w with heap := w.heap.push (.cells c rr.2.1) }) (fun cc hc => ?_) (by rw [hx1]; exact ⟨rfl, rfl⟩) (fun y w' hy => ?_)
      · unfold allocA at h2; rw [hc] at h2; cases h2
      · obtain ⟨rfl, rfl⟩ := hy
        have hle := Env.le_put (L := ⟨w.heap.size, 0, c.size⟩) hloc
        have hlen := hx3.length
        have hob : ORel (ρ.put (n0 + e.i) ⟨w.heap.size, 0, c.size⟩) { w with heap := w.heap.push (.cells c rr.2.1) } ⟨w.heap.size, 0, c.size⟩ (.row rr.2.1 rr.2.2 0) := by
          refine ⟨c, (0, 0), by simp, by simpa using Nat.le_of_eq hlen, Nat.le_refl _, ?_, fun _ => ⟨rfl, rfl⟩, fun _ => .inl rfl⟩
          simp only [List.drop_zero]
          rw [List.take_of_length_le (by omega)]
          exact VRels.mono hle _ _ hx3
        have hstep := Ext.allocAt (w' := { w with heap := w.heap.push (.cells c rr.2.1) }) hext.rel hloc rfl hob
        have hnew : upd (gAt es.reverse n0 (stAt es fin q).2.1.get (been listed) q) (n0 + e.i) (some (.row rr.2.1 rr.2.2 0)) = gAt es.reverse n0 (stAt es fin q).2.1.get (been (listed.setIfInBounds i true)) q := by
          funext ob
          have hun : unabs es.reverse q e.i = true := unabs_iff.2 (fun y hy hyE hyq => by
            cases hbit : y.anc.testBit e.i with
            | false => rfl
            | true => have := hshut y hy ((hEq y hy hyE).1 hyq) _ hbit; rw [hnot] at this; cases this)
          by_cases e1 : ob = n0 + e.i
          · subst e1
            simp only [upd, if_true]
            unfold gAt
            rw [F.objAt_of he (t := rr.2.1) (cs := rr.2.2) h4 (by rw [hset' e he]; simp) hun]
          · simp only [upd, if_neg e1]
            unfold gAt
            have : objAt es.reverse n0 (been listed) q es.reverse ob = objAt es.reverse n0 (been (listed.setIfInBounds i true)) q es.reverse ob := by
              cases h5 : objAt es.reverse n0 (been listed) q es.reverse ob with
              | some z =>
                obtain ⟨y, hy, t, cs, hyob, hyD, hyu, rfl, rfl⟩ := objAt_some h5
                have hy' : y ∈ es := by simpa using hy
                rw [F.objAt_of hy' hyob (by rw [hset' y hy', hyD]; rfl) hyu]
              | none =>
                symm
                refine objAt_none (fun y hy hyo hyD hyu => ?_)
                have hy' : y ∈ es := by simpa using hy
                have hyne : y.i ≠ e.i := fun e2 => e1 (by rw [hyo, e2])
                rw [hset' y hy'] at hyD
                simp only [hyne, decide_false, Bool.or_false] at hyD
                cases hyob : y.ob with
                | none => rfl
                | some z =>
                  obtain ⟨t, cs⟩ := z
                  have := F.objAt_of hy' hyob hyD hyu
                  rw [← hyo, h5] at this; cases this
            rw [this]
        rw [hnew] at hstep
        refine hK _ _ ⟨hsize', hshut', ⟨ρ.put (n0 + e.i) ⟨w.heap.size, 0, c.size⟩, q, hq, fun y hy hyE => ?_, hext.join hstep (by omega) (by have := F.lt he; omega) (Nat.le_refl _), fun ob hob => ?_, hnb, fun j hj hb => ?_, hdead, ?_, hglob.mono hle⟩, ?_, by rw [put_defers]; exact hI.defs⟩
        · rw [hset' y hy]
          simp only [hne y hy hyE, decide_false, Bool.or_false]
          exact hEq y hy hyE
        · rw [Env.put_other (by have := F.lt he; omega)]; exact hfr ob hob
        · rw [hset] at hb
          simp only [Bool.or_eq_false_iff, decide_eq_false_iff_not] at hb
          rw [Env.put_other (by omega)]; exact hfn j hj hb.1
        · exact F.slot_put he hset' hnot (by rw [h3]; exact hx2 _ hle Env.put_same) hI.slots (fun d => (hslots d).mono hle)
        · have := hI.slots
          cases e.o.dst <;> simpa [Act.put] using this
    | eff =>
      obtain ⟨h1, h2, h3⟩ := hkind
      simp only [h1, if_true]
      have hE : e.isE = true := by simp [Ent.isE, hkd]
      have hqe : q ≤ e.i := by
        rcases Nat.lt_or_ge e.i q with h | h
        · have := (hEq e he hE).1 h; rw [hnot] at this; cases this
        · exact h
      have hno : ∀ x ∈ es, x.isE = true → ¬ (q ≤ x.i ∧ x.i < e.i) := fun x hx hxE h => by
        have := (hEq x hx hxE).2 (hanc _ (F.line e he x hx hE hxE h.2))
        omega
      have hcalm : (stAt es fin q).2 = (e.H, e.n) := by
        have := F.calm (q := q) (e.i - q) (by have := F.lt he; omega) (fun x hx hxE h => hno x hx hxE ⟨h.1, by omega⟩)
        rw [show q + (e.i - q) = e.i by omega, F.state he] at this
        exact this.symm
      have hH : (stAt es fin q).2.1 = e.H := by rw [hcalm]
      have hn : (stAt es fin q).2.2 = e.n := by rw [hcalm]
      rw [hH, hn] at hext
      rw [hH] at hdead hdead'
      rw [hn] at hfr hnb
      have hE2 : ∀ x ∈ es, x.isE = true → (x.i < e.i ↔ x.i < q) := fun x hx hxE => ⟨fun h => by
        rcases Nat.lt_or_ge x.i q with h2 | h2
        · exact h2
        · exact absurd ⟨h2, h⟩ (hno x hx hxE), fun h => by omega⟩
      have hsub : ∀ ob x, (heapAt es.reverse n0 e.anc e.i e.H).get ob = some x → gAt es.reverse n0 e.H.get (been listed) q ob = some x := by
        rw [heapAt_get]
        exact F.sub (fun x _ hx => hanc _ hx) (fun j => unabs_congr hE2 j) hdead'
      have hrel : Rel ρ (heapAt es.reverse n0 e.anc e.i e.H).get w := hext.rel.less hsub
      have hsound := eff_sound (P := P) ok hS hglob hrel hfr hops h2
      refine op_wp (fun c hc => ?_) hsound (fun x w' hgood => ?_)
      · unfold effA at h2; rw [hc] at h2; cases h2
      · obtain ⟨ρ', hx1, hx2⟩ := hgood
        have hframe := Ext.frame hfr hext.rel hsub hx1
        have hall := hext.trans hframe
        have hfun : (fun ob => match (heapAt es.reverse n0 e.anc e.i e.H).get ob with
            | some _ => (stAt es fin (i + 1)).2.1.get ob
            | none => match gAt es.reverse n0 e.H.get (been listed) q ob with | some x => some x | none => (stAt es fin (i + 1)).2.1.get ob)
            = gAt es.reverse n0 (stAt es fin (i + 1)).2.1.get (been (listed.setIfInBounds i true)) (i + 1) := by
          funext ob
          have hne : ∀ y ∈ es, y.ob ≠ none → y.i ≠ e.i := fun y hy hyob e1 => by rw [F.uniq hy he e1] at hyob; exact hyob h3
          cases h5 : objAt es.reverse n0 (been (listed.setIfInBounds i true)) (i + 1) es.reverse ob with
          | some z =>
            have hR : gAt es.reverse n0 (stAt es fin (i + 1)).2.1.get (been (listed.setIfInBounds i true)) (i + 1) ob = some z := by unfold gAt; rw [h5]
            rw [hR]
            obtain ⟨y, hy, t, cs, hyob, hyD, hyu, rfl, rfl⟩ := objAt_some h5
            have hy' : y ∈ es := by simpa using hy
            rw [hset' y hy'] at hyD
            simp only [hne y hy' (by rw [hyob]; simp), decide_false, Bool.or_false] at hyD
            have hyu' := unabs_iff.1 hyu
            have hyq : unabs es.reverse q y.i = true := unabs_iff.2 (fun z hz hzE hzq => hyu' z hz hzE (by omega))
            have hbit := hyu' e he hE (by omega)
            have hG : gAt es.reverse n0 e.H.get (been listed) q (n0 + y.i) = some (.row t cs 0) := by
              unfold gAt; rw [F.objAt_of hy' hyob hyD hyq]
            have hhe : (heapAt es.reverse n0 e.anc e.i e.H).get (n0 + y.i) = none := by
              rw [heapAt_get]
              unfold gAt
              rw [objAt_none (fun z hz hzo hzD hzu => by
                have : z = y := F.uniq (by simpa using hz) hy' (by omega)
                rw [this, hbit] at hzD; cases hzD)]
              exact hdead' y.i (F.lt hy') hyq
            simp only [hhe, hG]
          | none =>
            have hR : gAt es.reverse n0 (stAt es fin (i + 1)).2.1.get (been (listed.setIfInBounds i true)) (i + 1) ob = (stAt es fin (i + 1)).2.1.get ob := by unfold gAt; rw [h5]
            rw [hR]
            cases h6 : (heapAt es.reverse n0 e.anc e.i e.H).get ob with
            | some z => rfl
            | none =>
              simp only
              cases h7 : gAt es.reverse n0 e.H.get (been listed) q ob with
              | none => rfl
              | some z =>
                exfalso
                rw [heapAt_get] at h6
                unfold gAt at h6 h7
                cases h8 : objAt es.reverse n0 (been listed) q es.reverse ob with
                | some z' =>
                  obtain ⟨y, hy, t, cs, hyob, hyD, hyu, rfl, rfl⟩ := objAt_some h8
                  have hy' : y ∈ es := by simpa using hy
                  cases hbit : e.anc.testBit y.i with
                  | true =>
                    rw [F.objAt_of hy' hyob (D := fun j => e.anc.testBit j) hbit (by rw [unabs_congr hE2]; exact hyu)] at h6
                    cases h6
                  | false =>
                    have hyu2 : unabs es.reverse (i + 1) y.i = true := unabs_iff.2 (fun z hz hzE hzq => by
                      by_cases e1 : z.i = e.i
                      · rw [F.uniq hz he e1]; exact hbit
                      · exact unabs_iff.1 hyu z hz hzE ((hE2 z hz hzE).1 (by omega)))
                    rw [F.objAt_of hy' hyob (by rw [hset' y hy', hyD]; rfl) hyu2] at h5
                    cases h5
                | none =>
                  rw [h8] at h7
                  simp only at h7
                  split at h6
                  · cases h6
                  · rw [h7] at h6; cases h6
        have hall : Ext ρ0 g0 n0 w0 ρ' (gAt es.reverse n0 (stAt es fin (i + 1)).2.1.get (been (listed.setIfInBounds i true)) (i + 1)) (stAt es fin (i + 1)).2.2 w' := by rw [← hfun]; exact hall
        refine hK _ _ ⟨hsize', hshut', ⟨ρ', i + 1, by omega, fun y hy hyE => ?_, hall, hx1.fresh hfr, Nat.le_trans hnb hx1.mono, fun j hj hb => ?_, fun j hj hu => ?_, F.slot_put he hset' hnot hx2 hI.slots (fun d => (hslots d).mono hx1.le), hglob.mono hx1.le⟩, ?_, by rw [put_defers]; exact hI.defs⟩
        · rw [hset' y hy]
          by_cases e1 : y.i = e.i
          · simp [e1, hi]
          · simp only [e1, decide_false, Bool.or_false]
            rw [← hEq y hy hyE, ← hE2 y hy hyE]
            omega
        · rw [hset] at hb
          simp only [Bool.or_eq_false_iff] at hb
          cases hloc : ρ'.loc (n0 + j) with
          | none => rfl
          | some L =>
            rcases hx1.dom _ L hloc with h | h
            · rw [hfn j hj hb.1] at h; cases h
            · omega
        · cases hob : (stAt es fin (i + 1)).2.1.get (n0 + j) with
          | none => rfl
          | some x =>
            rcases hx1.gdom _ x hob with ⟨ob0, h⟩ | h
            · rw [heapAt_get] at h
              unfold gAt at h
              have hq0 : unabs es.reverse q j = true := unabs_iff.2 (fun z hz hzE hzq => hu z hz hzE (by omega))
              rw [objAt_none (fun z hz hzo hzD hzu => by
                have : z.i = j := by omega
                rw [this, hu e he hE (by omega)] at hzD; cases hzD)] at h
              rw [hdead' j hj hq0] at h; cases h
            · omega
        · have := hI.slots
          cases e.o.dst <;> simpa [Act.put] using this

end
end Go.Zr
