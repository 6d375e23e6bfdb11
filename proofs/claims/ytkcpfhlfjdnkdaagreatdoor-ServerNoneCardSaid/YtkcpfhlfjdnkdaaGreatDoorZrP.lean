import Derived.Test.YtkcpfhlfjdnkdaaGreatDoorZrO
namespace Go.Zr

section
variable {P : Program} {tb : Tb} {ρ : Env}

theorem Ext.drew {H : Hp} {n : Nat} {w w' : World} {ρ' : Env} {g' : Gh} {n' : Nat} (h : Ext ρ H.get n w.drew ρ' g' n' w') : Ext ρ H.get n w ρ' g' n' w' :=
  ⟨h.le, h.rel, h.mono, h.dom, h.gdom, h.size, h.keep, h.prov, h.immProv, h.tape, h.os, h.output⟩

/-- What is appended. -/
inductive Adds (P : Program) (ρ : Env) (H : Hp) (ts : Array TypeId) (size bytes : Nat) (z : Value) (m : Nat) (new : List AV) : Value → Prop
  | plain (vx : Value) (h1 : PlainArg P ts) (hl : ∀ w, (Builtin.lenOf vx).run P w = .ok m w) (hf : ∀ w, Rel ρ H.get w → ∃ news : Array Value, (Builtin.firstCells size m vx).run P w = .ok news w ∧ VRels ρ new news.toList) : Adds P ρ H ts size bytes z m new vx
  | made (k : IntKind) (l : Int) {xt : TypeId} {q : IntKind} (h1 : ts[1]? = some xt) (h2 : P.underlying xt = some (.int q)) (hl : l = (m : Int)) (hb : (m : Int) * bytes ≤ 281474976710656) (hv : VRels ρ new (Builtin.zeroCells z.cells m).toList) : Adds P ρ H ts size bytes z m new (.int k l)

theorem adds_of (ok : TbOk P tb) {H : Hp} {ts : Array TypeId} {st : TypeId} {rest : List TypeId} (ht : ts.toList = st :: rest) {zs : Bool} (hz : ofMake tb rest = .ok zs) {e : TypeId} {ie : TypeInfo} {m : Nat} {new : List AV} {x z0 : AV} {vx z : Value} (hx : VRel ρ x vx)
    (hm : addLen zs x ie.bytes = .ok m) (hn : addCells tb e zs x m ie.size H = .ok new) (hzero : tb.zero e = .ok z0) (hzv : VRel ρ z0 z) (hzl : z0.cells.length = ie.size) : Adds P ρ H ts ie.size ie.bytes z m new vx := by
  have hplain : zs = false → PlainArg P ts → Adds P ρ H ts ie.size ie.bytes z m new vx := by
    rintro rfl hp
    simp only [addLen, cond_false] at hm
    simp only [addCells, cond_false] at hn
    exact .plain vx hp (fun w => lenOf_sound w hx hm) (fun w hr => first_sound hr hx hn hm (Nat.le_refl _))
  unfold ofMake at hz
  split at hz
  · rename_i xt r
    rw [R.bind_ok] at hz; obtain ⟨d, hd, hz⟩ := hz
    have h1 : ts[1]? = some xt := by
      have : ts.toList[1]? = some xt := by rw [ht]; rfl
      simpa using this
    cases hz
    split at hm
    · rename_i q
      have hnew := hn
      unfold addLen at hm
      simp only [cond_true] at hm
      split at hm
      · rename_i k l
        simp only [VRel] at hx; subst hx
        cases hb : (decide (0 ≤ l) && decide (l < 2 ^ 40) && Nat.ble (l.toNat * ie.bytes) 281474976710656) with
        | false => rw [hb] at hm; cases hm
        | true =>
          rw [hb] at hm; simp only [cond_true] at hm; cases hm
          simp only [Bool.and_eq_true, decide_eq_true_eq] at hb
          obtain ⟨⟨b0, b1⟩, b2⟩ := hb
          have b2 := Nat.le_of_ble_eq_true b2
          refine .made k l h1 (ok.und hd) (by omega) ?_ ?_
          · rw [← Int.natCast_mul]; omega
          · simp only [addCells, cond_true] at hn
            unfold zeros at hn
            have hzs : z.cells.size = ie.size := by have := hzv.cells.length; rw [hzl] at this; simpa using this.symm
            cases hb0 : Nat.beq (l.toNat * ie.size) 0 with
            | true =>
              have e0 := Nat.eq_of_beq_eq_true hb0
              simp only [hb0, cond_true] at hn; cases hn
              unfold Builtin.zeroCells; rw [hzs, e0]; simpa using .nil
            | false =>
              simp only [hb0, cond_false, hzero, R.bind] at hn
              have : Nat.beq z0.cells.length ie.size = true := by rw [hzl]; simp
              simp only [this, cond_true] at hn; cases hn
              have hrep := reps_sound hzv.cells l.toNat
              rw [hzl, ← hzs] at hrep; exact hrep
      · cases hm
    · rename_i hno
      refine hplain ?_ (.inr ⟨xt, d, h1, ok.und hd, fun k e => hno k e⟩)
      cases d <;> first | rfl | exact absurd rfl (hno _)
  · cases hz
    refine hplain rfl (.inl ?_)
    have : ts.toList[1]? = none := by rw [ht]; rfl
    simpa using this

/-- append, where there is room. -/
theorem app_in {H : Hp} {ts : Array TypeId} {st e t : TypeId} {i : TypeInfo} (h0 : ts[0]? = some st) (hd : P.underlying st = some (.slice e)) (hi : P.info? e = some i) {w : World} (hr : Rel ρ H.get w) {vx z : Value} (hz : i.zero = some z) (hzs : z.cells.size = i.size) {m : Nat} {new : List AV} (ha : Adds P ρ H ts i.size i.bytes z m new vx) (hm : m ≤ 1099511627776)
    {sLen sCap : Nat} {base : Option Addr} (hle : sLen + m ≤ sCap) :
    ∃ news : Array Value, VRels ρ new news.toList ∧ ∀ w', (∀ a, base = some a → (storeCells (a.add (sLen * i.size)) news.toList).run P w = .ok () w') → (base = none → w' = w) → (Builtin.append_ ts t #[.slice base sLen sCap, vx]).run P w = .ok (.slice base (sLen + m) sCap) w' := by
  cases ha with
  | plain _ h1 hl hf =>
    obtain ⟨news, h2, h3⟩ := hf w hr
    exact ⟨news, h3, fun w' hst hno => app_in_plain h0 hd hi h1 (hl w) h2 hle hst hno⟩
  | made k l h1 h2 hl hb hv =>
    exact ⟨_, hv, fun w' hst hno => app_in_made h0 hd hi h1 h2 hz hl (by omega) hb hzs hle hst hno⟩

/-- append, where there is none. -/
theorem app_grow {H : Hp} {ts : Array TypeId} {st e t : TypeId} {i : TypeInfo} (h0 : ts[0]? = some st) (hd : P.underlying st = some (.slice e)) (hi : P.info? e = some i) {w : World} (hr : Rel ρ H.get w) {vx z : Value} (hz : i.zero = some z) (hzs : z.cells.size = i.size) {m : Nat} {new : List AV} (ha : Adds P ρ H ts i.size i.bytes z m new vx)
    {sLen sCap : Nat} {base : Option Addr} (hlt : ¬ sLen + m ≤ sCap) {olds : Array Value} (hold : (Builtin.firstCells i.size sLen (.slice base sLen sCap)).run P w.drew = .ok olds w.drew) (hm : sLen + m ≤ 1099511627776) (hb : (2 * (sLen + m) + 1000) * i.bytes ≤ 281474976710656) :
    ∃ news : Array Value, VRels ρ new news.toList ∧ (Builtin.append_ ts t #[.slice base sLen sCap, vx]).run P w = .ok (.slice (some ⟨w.heap.size, 0, none⟩) (sLen + m) (grownCap w (sLen + m) sCap e))
      (w.drew.alloc (.cells (olds ++ news ++ Builtin.zeroCells z.cells (grownCap w (sLen + m) sCap e - (sLen + m))) e)) := by
  have hfit : Builtin.nextslicecap (sLen + m) sCap * i.bytes ≤ 281474976710656 :=
    Nat.le_trans (Nat.mul_le_mul_right _ (Nat.le_trans (nextslicecap_le (by omega)) (by omega : 2 * (sLen + m) ≤ 2 * (sLen + m) + 1000))) hb
  cases ha with
  | plain _ h1 hl hf =>
    obtain ⟨news, h2, h3⟩ := hf w.drew (hr.of_heap rfl)
    exact ⟨news, h3, app_grow_plain h0 hd hi h1 (hl w) h2 hz hlt hold (by omega) hfit⟩
  | made k l h1 h2 hl hb' hv =>
    exact ⟨_, hv, app_grow_made h0 hd hi h1 h2 hz hl (by omega) hb' hzs hlt hold (by omega) hfit⟩

/-- The row that append makes. -/
theorem grown_row {H : Hp} {n : Nat} {w : World} (hr : Rel ρ H.get w) (hf : Fresh ρ n) {e : TypeId} {old new : List AV} {olds news : Array Value} {z : Value} {len m size sCap k : Nat} (ho : VRels ρ old olds.toList) (hn : VRels ρ new news.toList) (hol : old.length = len * size) (hnl : new.length = m * size) (hzs : z.cells.size = size) (_hk : k ≠ 1) :
    ∃ ρ', Ext ρ H.get n w ρ' (H.set n (some (.row e (old ++ new) k))).get (n + 1) (w.drew.alloc (.cells (olds ++ news ++ Builtin.zeroCells z.cells (grownCap w (len + m) sCap e - (len + m))) e)) ∧
      VRel ρ' (.slice (some n) [] 0 (len + m) (len + m) false size) (.slice (some ⟨w.heap.size, 0, none⟩) (len + m) (grownCap w (len + m) sCap e)) := by
  have hge := grownCap_ge w (len + m) sCap e
  have hos : olds.size = len * size := by have := ho.length; rw [hol] at this; simpa using this.symm
  have hns : news.size = m * size := by have := hn.length; rw [hnl] at this; simpa using this.symm
  have hsz : (olds ++ news ++ Builtin.zeroCells z.cells (grownCap w (len + m) sCap e - (len + m))).size = grownCap w (len + m) sCap e * size := by
    rw [Array.size_append, Array.size_append, size_zeroCells, hos, hns, hzs, ← Nat.add_mul, ← Nat.add_mul]
    congr 1; omega
  refine ⟨_, Ext.row (c := olds ++ news ++ Builtin.zeroCells z.cells (grownCap w (len + m) sCap e - (len + m))) (fr := (0, 0)) hr hf rfl ?_ ?_ (by simp) (by simp) rfl rfl rfl, ?_⟩
  · have : (olds ++ news ++ Builtin.zeroCells z.cells (grownCap w (len + m) sCap e - (len + m))).toList.take (old ++ new).length = olds.toList ++ news.toList := by
      rw [Array.toList_append, Array.toList_append, List.take_append_of_le_length (by simp [hol, hnl, hos, hns]), List.take_of_length_le (by simp [hol, hnl, hos, hns])]
    rw [this]
    exact ho.append hn
  · rw [List.length_append, hol, hnl, ← Nat.add_mul, hsz]
    exact Nat.mul_le_mul_right _ hge
  · simp only [VRel]
    exact ⟨_, _, _, Env.put_same, rfl, Nat.le_refl _, hge, by simp, .inr ⟨rfl, by rw [hsz]; simp⟩⟩

theorem appendTo_sound {H H' : Hp} {n n' : Nat} {w : World} (hr : Rel ρ H.get w) (hf : Fresh ρ n) {ts : Array TypeId} {st e t : TypeId} {i : TypeInfo} (h0 : ts[0]? = some st) (hd : P.underlying st = some (.slice e)) (hi : P.info? e = some i) {vs vx z : Value} {s : AV} (hs : VRel ρ s vs) (hz : i.zero = some z) (hzs : z.cells.size = i.size) {m : Nat} {new : List AV} (ha : Adds P ρ H ts i.size i.bytes z m new vx)
    {len : Nat} (hlen : lenA s = .ok len) (hnl : new.length = m * i.size) (hm : len + m ≤ 1099511627776) (hb : (2 * (len + m) + 1000) * i.bytes ≤ 281474976710656) {r : AV} (h : appendTo e i.size m new s H n = .ok (r, H', n')) :
    EffV P ρ H.get n w r H'.get n' (Builtin.append_ ts t #[vs, vx]) := by
  have nothing : ∀ {base : Option Addr} {sLen sCap : Nat}, vs = .slice base sLen sCap → sLen ≤ sCap → m = 0 → EffV P ρ H.get n w s H.get n (Builtin.append_ ts t #[vs, vx]) := by
    rintro base sLen sCap rfl hle rfl
    obtain ⟨news, h1, h2⟩ := app_in (P := P) (t := t) h0 hd hi hr hz hzs ha (by omega) (base := base) (sLen := sLen) (sCap := sCap) (by omega)
    have hns : news = #[] := by
      have := h1.length; rw [hnl] at this
      exact Array.eq_empty_of_size_eq_zero (by simpa using this.symm)
    subst hns
    exact ⟨_, w, ρ, h2 w (fun a _ => rfl) (fun _ => rfl), Ext.refl hr rfl, hs⟩
  unfold appendTo at h
  split at h
  · cases hb0 : Nat.beq m 0 with
    | true =>
      simp only [hb0, cond_true, pureM] at h; cases h
      have hs' := hs
      simp only [VRel] at hs'
      exact nothing hs' (Nat.le_refl _) (Nat.eq_of_beq_eq_true hb0)
    | false =>
      have hm0 : m ≠ 0 := fun e => by subst e; simp at hb0
      simp only [hb0, cond_false, newRow, newO, pureM, R.bind] at h; cases h
      simp only [VRel] at hs; subst hs
      simp only [lenA] at hlen; cases hlen
      obtain ⟨news, h1, h2⟩ := app_grow (P := P) (t := t) h0 hd hi hr hz hzs ha (sLen := 0) (sCap := 0) (base := none) (by omega) (olds := #[]) (by simp [Builtin.firstCells]) (by omega) (by simpa using hb)
      obtain ⟨ρ', h3, h4⟩ := grown_row (len := 0) (m := m) (sCap := 0) (e := e) (k := 0) (z := z) hr hf .nil h1 (by simp) hnl hzs (by simp)
      simp only [Nat.zero_add, List.nil_append] at h2 h3 h4
      exact ⟨_, _, ρ', h2, h3, h4⟩
  · rename_i ob im off len' lo ex es
    simp only [lenA] at hlen; cases hlen
    obtain ⟨a, cap, rfl, hlo, hcap, hex, hat⟩ := slice_at hs
    cases hb0 : Nat.beq m 0 with
    | true =>
      simp only [hb0, cond_true, pureM] at h; cases h
      exact nothing rfl (by omega) (Nat.eq_of_beq_eq_true hb0)
    | false =>
      have hm0 : m ≠ 0 := fun e => by subst e; simp at hb0
      simp only [hb0, cond_false] at h
      cases hes : Nat.beq es i.size with
      | false => simp [hes] at h
      | true =>
        have hes' := Nat.eq_of_beq_eq_true hes; subst hes'
        simp only [hes, cond_true] at h
        cases hin : Nat.ble (len + m) lo with
        | true =>
          have hin' := Nat.le_of_ble_eq_true hin
          simp only [hin, cond_true] at h
          split at h
          · rename_i o
            rw [R.bind_ok] at h; obtain ⟨H1, hst, h⟩ := h
            simp only [pureM] at h; cases h
            rcases hat with hat | hat
            · omega
            obtain ⟨news, h1, h2⟩ := app_in (P := P) (t := t) h0 hd hi hr hz hzs ha (by omega) (base := some a) (sLen := len) (sCap := cap) (by omega)
            obtain ⟨L, hL, w', hw, hx⟩ := storeC_sound (P := P) (n := n) hr h1 hst
            have hat' := hat
            simp only [VRel] at hat'
            obtain ⟨M, hM, e1⟩ := hat'
            rw [hL] at hM; cases hM; cases e1
            refine ⟨_, w', ρ, h2 w' (fun a' e1 => ?_) (fun e1 => by cases e1), hx, ?_⟩
            · cases e1; rw [addr_add, Nat.add_assoc]; exact hw
            · simp only [VRel] at hs ⊢
              obtain ⟨M, a', cap', h3, e2, h4, h5, h6, h7⟩ := hs
              rw [hL] at h3; cases h3; cases e2
              exact ⟨L, _, _, hL, rfl, hin', h5, h6, h7⟩
          · cases h
        | false =>
          have hin' : ¬ len + m ≤ lo := fun e => by rw [Nat.ble_eq_true_of_le e] at hin; cases hin
          simp only [hin, cond_false] at h
          rw [R.bind_ok] at h; obtain ⟨cs, hcs, h⟩ := h
          rw [R.bind_ok] at h; obtain ⟨old, hold, h⟩ := h
          obtain ⟨a', cap', e1, olds, ho1, ho2⟩ := cells_sound (P := P) (w := w.drew) (hr.of_heap rfl) hs hcs hold (Nat.le_refl _)
          cases e1
          have hfc : (Builtin.firstCells i.size len (.slice (some a) len cap)).run P w.drew = .ok olds w.drew := by simpa [Builtin.firstCells] using ho1
          have hol := sub_len hold
          cases hex0 : ex with
          | true =>
            simp only [hex0, cond_true, newRow, newO, pureM, R.bind] at h; cases h
            have := hex hex0; subst this
            obtain ⟨news, h1, h2⟩ := app_grow (P := P) (t := t) h0 hd hi hr hz hzs ha (sLen := len) (sCap := cap) (base := some a) hin' hfc (by omega) hb
            obtain ⟨ρ', h3, h4⟩ := grown_row (len := len) (m := m) (sCap := cap) (e := e) (k := 0) (z := z) hr hf ho2 h1 hol hnl hzs (by simp)
            exact ⟨_, _, ρ', h2, h3, h4⟩
          | false =>
            simp only [hex0, cond_false] at h
            split at h
            · rename_i o
              split at h
              · rename_i t0 cs0 k hg
                cases hbad : (Nat.beq k 1 || !(Nat.beq t0 e) || !(new.all isScalar)) with
                | true => simp [hbad] at h
                | false =>
                  simp only [hbad, cond_false, newRow, newO, pureM, R.bind, kill] at h; cases h
                  simp only [Bool.or_eq_false_iff, Bool.not_eq_false'] at hbad
                  obtain ⟨⟨hk1, hte⟩, hsc⟩ := hbad
                  have hte := Nat.eq_of_beq_eq_true hte; subst hte
                  have hk1' : k ≠ 1 := fun e => by rw [e] at hk1; simp at hk1
                  have hkn : (bif Nat.beq off 0 && Nat.beq k 0 then 0 else 2) ≠ 1 := by cases (Nat.beq off 0 && Nat.beq k 0) <;> simp
                  by_cases hroom : len + m ≤ cap
                  · -- there is room
                    rcases hat with hat | hat
                    · omega
                    obtain ⟨news, h1, h2⟩ := app_in (P := P) (t := t) h0 hd hi hr hz hzs ha (by omega) (base := some a) (sLen := len) (sCap := cap) hroom
                    obtain ⟨L, hL, c, fr, c1, c2, c3, c4, c5, c6⟩ := hr.obj o _ hg
                    have hs' := hs
                    simp only [VRel] at hs'
                    obtain ⟨M, a', cap', d1, e1, _, _, _, d2⟩ := hs'
                    rw [hL] at d1; cases d1; cases e1
                    rcases d2 with d2 | ⟨rfl, d2⟩
                    · omega
                    have hns : news.size = m * i.size := by have := h1.length; rw [hnl] at this; simpa using this.symm
                    have hlc : (len + m) * i.size ≤ cap * i.size := Nat.mul_le_mul_right _ hroom
                    rw [Nat.add_mul] at hlc
                    have hstore := run_storeCells_own (P := P) L.blk (L.lo + off + len * i.size) t0 fr news.toList 0 c w c1 (c6 hk1') (by simp [hns]; omega) (h1.oneCell hsc)
                    refine ⟨_, _, ρ.put n ⟨L.blk, L.lo + off, L.lo + off + cap * i.size⟩, h2 _ (fun a' e1 => by cases e1; rw [addr_add]; exact hstore) (fun e1 => by cases e1), ?_, ?_⟩
                    · have hle : Env.Le ρ (ρ.put n ⟨L.blk, L.lo + off, L.lo + off + cap * i.size⟩) := Env.le_put (hf n (Nat.le_refl n))
                      rw [upd_set, upd_set]
                      refine Ext.renew ⟨L.blk, L.lo + off, L.lo + off + cap * i.size⟩ hr hf hg (by simp [AObj.own, nbeq_ne hk1']) hL rfl (by simp) (fun b hb => setRow_other _ _ _ _ hb) ?_ (by rfl) (by rfl) (by rfl)
                      refine ⟨_, fr, setRow_heap w L.blk c _ t0 fr c1, ?_, ?_, ?_, ?_, ?_⟩
                      · simp [hol, hnl]; omega
                      · simp [hns]; omega
                      · -- the cells
                        have ek : (old ++ new).length = len * i.size + news.toList.length := by simp [hol, hnl, hns]
                        have hcells : ((List.drop (L.lo + off) (c.toList.take (L.lo + off + len * i.size + 0) ++ news.toList ++ c.toList.drop (L.lo + off + len * i.size + 0 + news.toList.length))).take (old ++ new).length) = ((c.toList.drop (L.lo + off)).take (len * i.size)) ++ news.toList := by
                          rw [ek, Nat.add_zero, List.append_assoc]
                          rw [List.drop_append_of_le_length (by simp; omega)]
                          have e1 : (List.drop (L.lo + off) (c.toList.take (L.lo + off + len * i.size))) = (c.toList.drop (L.lo + off)).take (len * i.size) := by
                            rw [List.drop_take]; congr 1; omega
                          rw [e1, List.take_append]
                          have e2 : ((c.toList.drop (L.lo + off)).take (len * i.size)).length = len * i.size := by simp; omega
                          rw [e2, List.take_of_length_le (by rw [e2]; omega), Nat.add_sub_cancel_left, List.take_append_of_le_length (Nat.le_refl _), List.take_length]
                        rw [show (List.drop (L.lo + off) (List.toArray (c.toList.take (L.lo + off + len * i.size + 0) ++ news.toList ++ c.toList.drop (L.lo + off + len * i.size + 0 + news.toList.length))).toList) = List.drop (L.lo + off) (c.toList.take (L.lo + off + len * i.size + 0) ++ news.toList ++ c.toList.drop (L.lo + off + len * i.size + 0 + news.toList.length)) by simp]
                        rw [hcells]
                        refine VRels.mono hle _ _ (VRels.append ?_ h1)
                        -- the old cells, as they lie
                        have e3 : (c.toList.drop (L.lo + off)).take (len * i.size) = olds.toList := by
                          simp only [cellsOf, hg] at hcs
                          have hrun : ∃ l : Array Value, (loadCells ⟨L.blk, L.lo + off, none⟩ (len * i.size)).run P w.drew = .ok l w.drew ∧ l.toList = (c.toList.drop (L.lo + off)).take (len * i.size) := by
                            refine ⟨((c.toList.drop (L.lo + off)).take (len * i.size)).toArray, ?_, by simp⟩
                            have el : ((c.toList.drop (L.lo + off)).take (len * i.size)).length = len * i.size := by simp; omega
                            have := run_loadCells_list (P := P) w.drew ⟨L.blk, L.lo + off, none⟩ ((c.toList.drop (L.lo + off)).take (len * i.size)) (fun j v hv => by
                              rw [addr_add]
                              have hj : j < len * i.size := by
                                rcases Nat.lt_or_ge j (len * i.size) with h | h
                                · exact h
                                · rw [List.getElem?_eq_none (by rw [el]; exact h)] at hv; cases hv
                              rw [List.getElem?_take, if_pos hj, List.getElem?_drop] at hv
                              have hw : w.drew.heap[L.blk]? = some (.cells c t0 fr) := c1
                              simp only [World.cell?, hw]
                              simpa using hv)
                            rw [el] at this; exact this
                          obtain ⟨l, hl1, hl2⟩ := hrun
                          rw [hl1] at ho1; cases ho1
                          exact hl2.symm
                        rw [e3]; exact ho2
                      · intro hk0
                        cases hbb : (Nat.beq off 0 && Nat.beq k 0) with
                        | false => simp [hbb] at hk0
                        | true =>
                          simp only [Bool.and_eq_true] at hbb
                          have hoff := Nat.eq_of_beq_eq_true hbb.1
                          have hk := Nat.eq_of_beq_eq_true hbb.2
                          obtain ⟨c7, c8⟩ := c5 hk
                          exact ⟨by simp [c7, hoff], c8⟩
                      · intro _
                        rcases c6 hk1' with h | h
                        · exact .inl h
                        · right; simp [hns]; omega
                    · simp only [VRel]
                      exact ⟨_, _, _, Env.put_same, rfl, Nat.le_refl _, hroom, by simp, .inr ⟨by simp, by simp⟩⟩
                  · -- there is none
                    obtain ⟨news, h1, h2⟩ := app_grow (P := P) (t := t) h0 hd hi hr hz hzs ha (sLen := len) (sCap := cap) (base := some a) hroom hfc (by omega) hb
                    have hkill : Ext ρ H.get n w ρ (H.set o none).get n w := by rw [upd_set]; exact Ext.kill o hr
                    obtain ⟨ρ', h3, h4⟩ := grown_row (len := len) (m := m) (sCap := cap) (e := t0) (z := z) hkill.rel hf ho2 h1 hol hnl hzs hkn
                    exact ⟨_, _, ρ', h2, hkill.trans h3, h4⟩
              · cases h
            · cases h
  · cases h

theorem append_sound (ok : TbOk P tb) {H H' : Hp} {n n' : Nat} {w : World} (hr : Rel ρ H.get w) (hf : Fresh ρ n) {ts : Array TypeId} {args : List AV} {vs : Array Value} (hv : VRels ρ args vs.toList) {r : AV} (h : appendA tb ts.toList args H n = .ok (r, H', n')) (t : TypeId) :
    EffV P ρ H.get n w r H'.get n' (Builtin.append_ ts t vs) := by
  unfold appendA at h
  split at h
  · rename_i st rest s x ht
    obtain ⟨v1, v2, rfl, hs, hx⟩ := two_args hv rfl
    rw [R.bind_ok] at h; obtain ⟨d, hd, h⟩ := h
    split at h
    · rename_i e
      rw [R.bind_ok] at h; obtain ⟨ie, hie, h⟩ := h
      rw [R.bind_ok] at h; obtain ⟨zs, hzs, h⟩ := h
      rw [R.bind_ok] at h; obtain ⟨m, hm, h⟩ := h
      rw [R.bind_ok] at h; obtain ⟨new, hnew, h⟩ := h
      rw [R.bind_ok] at h; obtain ⟨z0, hz0, h⟩ := h
      rw [R.bind_ok] at h; obtain ⟨len, hlen, h⟩ := h
      cases hb : (Nat.beq z0.cells.length ie.size && Nat.beq new.length (m * ie.size) && Nat.ble (len + m) 1099511627776 && Nat.ble ((2 * (len + m) + 1000) * ie.bytes) 281474976710656) with
      | false => simp [hb] at h
      | true =>
        simp only [hb, cond_true] at h
        simp only [Bool.and_eq_true] at hb
        obtain ⟨⟨⟨b0, b1⟩, b2⟩, b3⟩ := hb
        have b0 := Nat.eq_of_beq_eq_true b0
        have b1 := Nat.eq_of_beq_eq_true b1
        have b2 := Nat.le_of_ble_eq_true b2
        have b3 := Nat.le_of_ble_eq_true b3
        obtain ⟨z, hz, hzv⟩ : ∃ z, ie.zero = some z ∧ VRel ρ z0 z := by
          unfold Tb.zero at hz0
          rw [hie] at hz0
          simp only [R.bind] at hz0
          cases hzz : ie.zero with
          | none => simp [hzz] at hz0
          | some v => simp only [hzz] at hz0; exact ⟨v, rfl, .of_val (R.of_ok.1 hz0)⟩
        have hzl : z.cells.size = ie.size := by have := hzv.cells.length; rw [b0] at this; simpa using this.symm
        exact appendTo_sound hr hf (first_at ht) (ok.und hd) (ok.info hie) hs hz hzl (adds_of ok ht hzs hx hm hnew hz0 hzv b0) hlen b1 b2 b3 h
    · cases h
  · cases h

end
end Go.Zr
