import Derived.Test.YtkcpfhlfjdnkdaaGreatDoorZrL
import Derived.Lib.ConvBytes
import Derived.Laws.IdiomStrings
import Derived.Laws.MakeOwn
import Derived.Laws.AppendOwn
import Derived.MapKept
namespace Go.Zr

/-- A value and the memory that it is in. -/
def EffV (P : Program) (ρ : Env) (g : Gh) (n : Nat) (w : World) (v : AV) (g' : Gh) (n' : Nat) (s : Sem Value) : Prop :=
  ∃ x w' ρ', s.run P w = .ok x w' ∧ Ext ρ g n w ρ' g' n' w' ∧ VRel ρ' v x
def EffU (P : Program) (ρ : Env) (g : Gh) (n : Nat) (w : World) (g' : Gh) (n' : Nat) (s : Sem Unit) : Prop :=
  ∃ w' ρ', s.run P w = .ok () w' ∧ Ext ρ g n w ρ' g' n' w'

section
variable {P : Program} {tb : Tb} {ρ : Env}

theorem bool_not_true {b : Bool} (h : ¬ b = true) : b = false := by cases b <;> simp_all

theorem storeA_sound (ok : TbOk P tb) {H H' : Hp} {n : Nat} {w : World} (hr : Rel ρ H.get w) {t : TypeId} {a v : AV} {va vv : Value} (ha : VRel ρ a va) (hv : VRel ρ v vv) (h : storeA tb t a v H = .ok H') :
    EffU P ρ H.get n w H'.get n (Instr.storeAt t va vv) := by
  unfold storeA at h
  split at h
  · rename_i o im off
    rw [R.bind_ok] at h; obtain ⟨k, hk, h⟩ := h
    cases hb : (Nat.beq v.cells.length k && v.cells.all isScalar) with
    | false => simp [hb] at h
    | true =>
      simp only [hb, cond_true] at h
      simp only [Bool.and_eq_true] at hb
      have hl := Nat.eq_of_beq_eq_true hb.1
      unfold storeO at h
      split at h
      · rename_i t' cs kk hg
        cases h1 : Nat.beq kk 1 with
        | true => simp [h1] at h
        | false =>
          simp only [h1, cond_false] at h
          split at h
          · rename_i r hp
            cases h
            obtain ⟨L, hL, w', hw, hx⟩ := store_sound (P := P) (n := n) hr hg (fun e => by rw [e] at h1; simp at h1) hp hv.cells hb.2
            simp only [VRel] at ha
            obtain ⟨M, hM, rfl⟩ := ha
            rw [hL] at hM; cases hM
            refine ⟨w', ρ, ?_, by rw [upd_set]; exact hx⟩
            have hsz : vv.cells.size = k := by have := hv.cells.length; rw [hl] at this; simpa using this.symm
            simp only [Instr.storeAt, Instr.sureAddr, Sem.run_bind, Sem.run_pure, Result.andThen_ok, storeVar, ok.run_size hk, hsz]
            simpa using hw
          · cases h
      · cases h
  · cases h

/-- A row that is made. -/
theorem Ext.row {H : Hp} {n : Nat} {w w' : World} (hr : Rel ρ H.get w) (hf : Fresh ρ n) {t : TypeId} {c : Array Value} {fr : Nat × Nat} {cs : List AV} {k : Nat} (hh : w'.heap = w.heap.push (.cells c t fr))
    (hv : VRels ρ cs (c.toList.take cs.length)) (hl : cs.length ≤ c.size) (h0 : k = 0 → fr = (0, 0)) (h1 : k ≠ 1 → fr = (0, 0) ∨ c.size ≤ fr.1)
    (ht : w'.tape = w.tape := by rfl) (ho : w'.os = w.os := by rfl) (hp : w'.output = w.output := by rfl) :
    Ext ρ H.get n w (ρ.put n ⟨w.heap.size, 0, c.size⟩) (H.set n (some (.row t cs k))).get (n + 1) w' := by
  rw [upd_set]
  refine Ext.alloc hr hf hh ⟨c, fr, heap_push_new hh, by simpa using hl, Nat.le_refl _, ?_, fun e => ⟨rfl, h0 e⟩, h1⟩ ht ho hp
  simpa using VRels.mono (Env.le_put (hf n (Nat.le_refl n))) _ _ hv

theorem bytes_push (w : World) (e : TypeId) (s : ByteArray) : (Lib.bytesWorld w e s).heap = w.heap.push (.cells (Lib.bytesCells w e s) e ((Lib.bytesCells w e s).size, (Lib.bytesCells w e s).size + 1)) := by
  apply Array.ext_getElem?
  intro i
  by_cases h : i < w.heap.size
  · rw [Lib.bytesWorld_at_old _ _ _ _ h, Array.getElem?_push_lt h, Array.getElem?_eq_getElem h]
  · by_cases h2 : i = w.heap.size
    · subst h2; rw [Lib.bytesWorld_at_new, Array.getElem?_push_size]
    · rw [Array.getElem?_eq_none (by rw [Lib.bytesWorld_size]; omega), Array.getElem?_eq_none (by simp; omega)]

theorem byteAV_rels : ∀ (s : List UInt8), VRels ρ (s.map byteAV) (s.map fun b => Value.int .u8 b.toNat)
  | [] => .nil
  | b :: s => .cons (by simp [byteAV, VRel]) (byteAV_rels s)

theorem runes_eq (s : List UInt8) : ∀ (k i : Nat) (acc : Array Value), ∃ vs : List Value, Conv.runesFrom ⟨s.toArray⟩ k i acc = acc ++ vs.toArray ∧ VRels ρ (runesOf s k i) vs
  | 0, i, acc => ⟨[], by simp [Conv.runesFrom], .nil⟩
  | k + 1, i, acc => by
    unfold Conv.runesFrom runesOf
    have hs : (ByteArray.mk s.toArray).size = s.length := mk_size s
    by_cases h : i < s.length
    · have hb : Nat.blt i s.length = true := by simpa [Nat.blt_eq] using h
      rw [if_pos (by rw [hs]; exact h), hb]
      obtain ⟨vs, h1, h2⟩ := runes_eq s k (i + (decode s i).2) (acc.push (.int .i32 (Int.ofNat (decode s i).1)))
      refine ⟨.int .i32 (Int.ofNat (decode s i).1) :: vs, ?_, .cons (by simp [VRel]) h2⟩
      simp only [decode] at h1 ⊢
      rw [h1]; simp
    · have hb : Nat.blt i s.length = false := by
        cases hb : Nat.blt i s.length with
        | false => rfl
        | true => exact absurd (by simpa [Nat.blt_eq] using hb) h
      rw [if_neg (by rw [hs]; exact h), hb]
      exact ⟨[], by simp, .nil⟩

theorem runesOf_length (s : List UInt8) : ∀ (k i : Nat), (runesOf s k i).length ≤ k
  | 0, i => by simp [runesOf]
  | k + 1, i => by
    unfold runesOf
    cases Nat.blt i s.length with
    | true => have := runesOf_length s k (i + (decode s i).2); simp; omega
    | false => simp

theorem convE_sound (ok : TbOk P tb) {H H' : Hp} {n n' : Nat} {w : World} (hr : Rel ρ H.get w) (hf : Fresh ρ n) {src dst : TypeId} {a v : AV} {va : Value} (ha : VRel ρ a va) (h : convE tb src dst a H n = .ok (v, H', n')) :
    EffV P ρ H.get n w v H'.get n' (convert src dst va) := by
  unfold convE at h
  rw [R.bind_ok] at h; obtain ⟨ds, hs, h⟩ := h
  rw [R.bind_ok] at h; obtain ⟨dd, hd, h⟩ := h
  split at h
  · rename_i e s
    rw [R.bind_ok] at h; obtain ⟨de, he, h⟩ := h
    simp only [VRel] at ha; subst ha
    split at h
    · simp only [newRow, newO, pureM, R.bind] at h; cases h
      have hge := grownCap_ge w s.length 0 e
      have hsz : (Lib.bytesCells w e ⟨s.toArray⟩).size = grownCap w s.length 0 e := by
        simp only [Lib.bytesCells, mk_size, Array.size_append, Array.size_map, Array.size_replicate, List.size_toArray]
        omega
      refine ⟨_, _, _, Lib.run_convert_string_bytes w src dst e ⟨s.toArray⟩ (ok.und hs) (ok.und hd) (ok.und he),
        Ext.row hr hf (bytes_push w e ⟨s.toArray⟩) ?_ (by rw [hsz]; simpa using hge) (by simp) (fun _ => .inr (Nat.le_refl _))
          rfl rfl rfl, ?_⟩
      · have : (Lib.bytesCells w e ⟨s.toArray⟩).toList.take (s.map byteAV).length = s.map fun b => Value.int .u8 b.toNat := by
          simp [Lib.bytesCells]
        rw [this]; exact byteAV_rels s
      · simp only [VRel]
        refine ⟨_, _, _, Env.put_same, by rw [mk_size], Nat.le_refl _, ?_, by simp, .inr ⟨rfl, ?_⟩⟩
        · exact hge
        · simp only [hsz]; omega
    · simp only [newRow, newO, pureM, R.bind] at h; cases h
      obtain ⟨vs, h1, h2⟩ := runes_eq (ρ := ρ) s s.length 0 #[]
      have hl : (runesOf s s.length 0).length = vs.length := h2.length
      have h1' : Conv.runesFrom ⟨s.toArray⟩ s.length 0 #[] = vs.toArray := by simpa using h1
      have hge := grownCap_ge w vs.length 0 e
      have hc : (convert src dst (.string ⟨s.toArray⟩)).run P w = .ok (.slice (some ⟨w.heap.size, 0, none⟩) vs.length (grownCap w vs.length 0 e))
          (w.drew.alloc (.cells (vs.toArray ++ Array.replicate (grownCap w vs.length 0 e - vs.length) (.int .i32 0)) e)) := by
        cases ds <;> simp [convert, ok.run_und hs, ok.run_und hd, ok.run_und he, Conv.stringToRunes, mk_size, h1', Question.forced, Go.newRow, grownCap]
      refine ⟨_, _, _, hc, Ext.row hr hf (fr := (0, 0)) rfl ?_ ?_ (by simp) (by simp) rfl rfl rfl, ?_⟩
      · rw [hl]; simpa using h2
      · rw [hl]; simp
      · simp only [VRel]
        refine ⟨_, _, _, Env.put_same, by rw [hl], Nat.le_refl _, by rw [hl]; exact hge, by simp, .inr ⟨rfl, ?_⟩⟩
        simp; omega
    · cases h
  · cases h

/-! ### Maps and slices that are made -/
theorem Ext.map {H : Hp} {n : Nat} {w w' : World} (hr : Rel ρ H.get w) (hf : Fresh ρ n) (hh : w'.heap = w.heap.push (.map #[] 0))
    (ht : w'.tape = w.tape := by rfl) (ho : w'.os = w.os := by rfl) (hp : w'.output = w.output := by rfl) :
    Ext ρ H.get n w (ρ.put n ⟨w.heap.size, 0, 0⟩) (H.set n (some (.map [] 0))).get (n + 1) w' := by
  rw [upd_set]
  exact Ext.alloc hr hf hh ⟨#[], heap_push_new hh, by simp [EntRel]⟩ ht ho hp

theorem wrap_small {i : Int} (h0 : 0 ≤ i) (h1 : i < 9223372036854775808) : IntKind.i64.wrap i = i := by rw [IntKind.wrap_i64]; omega

theorem zeros_sound (ok : TbOk P tb) (w : World) {e : TypeId} {m size : Nat} {z : List AV} (hz : zeros tb e m size = .ok z) :
    ∃ zv : Array Value, ((if m * size = 0 then pure #[] else do pure (← zeroValue e).cells : Sem (Array Value))).run P w = .ok zv w ∧
      VRels ρ z ((Array.range (m * size)).map (zv[· % zv.size]!)).toList ∧ (m * size ≠ 0 → ∃ x, (zeroValue e).run P w = .ok x w ∧ x.cells = zv ∧ zv.size = size) := by
  unfold zeros at hz
  cases hb0 : Nat.beq (m * size) 0 with
  | true =>
    have e0 := Nat.eq_of_beq_eq_true hb0
    simp only [hb0, cond_true] at hz; cases hz
    exact ⟨#[], by simp [e0], by simp [e0]; exact .nil, fun h => absurd e0 h⟩
  | false =>
    have e0 : m * size ≠ 0 := fun e => by rw [e] at hb0; simp at hb0
    simp only [hb0, cond_false] at hz
    rw [R.bind_ok] at hz; obtain ⟨z0, hz0, hz⟩ := hz
    cases hb1 : Nat.beq z0.cells.length size with
    | false => simp [hb1] at hz
    | true =>
      simp only [hb1, cond_true] at hz; cases hz
      obtain ⟨zv, h1, h2⟩ := ok.run_zero hz0 ρ w
      have hl := Nat.eq_of_beq_eq_true hb1
      refine ⟨zv.cells, by simp [e0, h1], ?_, fun _ => ⟨zv, h1, rfl, ?_⟩⟩
      · have := reps_sound h2.cells m
        rw [hl] at this; exact this
      · have := h2.cells.length; rw [hl] at this; simpa using this.symm

theorem makeSlice_sound (ok : TbOk P tb) {H H' : Hp} {n n' : Nat} {w : World} (hr : Rel ρ H.get w) (hf : Fresh ρ n) {t : TypeId} {l c v : AV} {vl vc : Value} (hl : VRel ρ l vl) (hc : VRel ρ c vc) (h : makeSliceA tb t l c H n = .ok (v, H', n')) :
    EffV P ρ H.get n w v H'.get n' (Instr.makeSlice t vl vc) := by
  unfold makeSliceA at h
  rw [R.bind_ok] at h; obtain ⟨d, hd, h⟩ := h
  split at h
  · rename_i e
    rw [R.bind_ok] at h; obtain ⟨ie, hie, h⟩ := h
    rw [R.bind_ok] at h; obtain ⟨li, hli, h⟩ := h
    rw [R.bind_ok] at h; obtain ⟨ci, hci, h⟩ := h
    cases hb : (decide (0 ≤ li) && decide (li ≤ ci) && decide (ci < 2 ^ 40) && Nat.ble (ie.bytes * ci.toNat) 281474976710656) with
    | false => rw [hb] at h; cases h
    | true =>
      rw [hb] at h; simp only [cond_true] at h
      simp only [Bool.and_eq_true, decide_eq_true_eq] at hb
      obtain ⟨⟨⟨b0, b1⟩, b2⟩, b3⟩ := hb
      have b3 := Nat.le_of_ble_eq_true b3
      rw [R.bind_ok] at h; obtain ⟨cs, hcs, h⟩ := h
      simp only [newRow, newO, pureM, R.bind] at h; cases h
      obtain ⟨kl, rfl⟩ := asInt_ok hli
      obtain ⟨kc, rfl⟩ := asInt_ok hci
      simp only [VRel] at hl hc; subst hl hc
      obtain ⟨zv, hz1, hz2, _⟩ := zeros_sound (P := P) ok w hcs
      have hinfo := ok.info hie
      have wl : IntKind.i64.wrap li = li := wrap_small b0 (by omega)
      have wc : IntKind.i64.wrap ci = ci := wrap_small (by omega) (by omega)
      have n1 : ¬ ci < 0 := by omega
      have n2 : ¬ (281474976710656 < (ie.bytes : Int) * ci) := by
        have : (ie.bytes : Int) * ci = ((ie.bytes * ci.toNat : Nat) : Int) := by
          rw [Int.natCast_mul, Int.toNat_of_nonneg (by omega)]
        rw [this]; omega
      have n3 : ¬ li < 0 := by omega
      have n4 : ¬ ci < li := by omega
      have hrun : (Instr.makeSlice t (.int kl li) (.int kc ci)).run P w = .ok (.slice (some ⟨w.heap.size, 0, none⟩) li.toNat ci.toNat) (w.alloc (.cells ((Array.range (ci.toNat * ie.size)).map (zv[· % zv.size]!)) e)) := by
        simp only [Instr.makeSlice, Sem.run_bind, ok.run_und hd, ok.run_info hie, Result.andThen_ok, Go.asInt, asIntOf, Sem.run_pure, wl, wc, sizeOf, Sem.run_ite, run_askRoom]
        by_cases e0 : ci.toNat * ie.size = 0
        · rw [if_pos e0] at hz1
          simp only [Sem.run_pure, Result.ok.injEq, and_true] at hz1
          subst hz1
          simp [n1, n2, n3, n4, e0, Go.newRow]
        · rw [if_neg e0] at hz1
          cases hzz : (zeroValue e).run P w with
          | halt x w' => simp [hzz] at hz1
          | ok x w' =>
            simp [hzz] at hz1
            obtain ⟨rfl, rfl⟩ := hz1
            simp [n1, n2, n3, n4, e0, Go.newRow]
      have hlen : cs.length = ci.toNat * ie.size := by have := hz2.length; simpa using this
      refine ⟨_, _, _, hrun, Ext.row hr hf (fr := (0, 0)) rfl ?_ (by simp [hlen]) (by simp) (by simp) rfl rfl rfl, ?_⟩
      · rw [hlen]
        rw [List.take_of_length_le (by simp)]
        exact hz2
      · simp only [VRel]
        exact ⟨_, _, _, Env.put_same, rfl, by omega, Nat.le_refl _, fun _ => rfl, .inr ⟨rfl, by simp⟩⟩
  · cases h

/-! ### Entries -/
theorem findK_get {H : Hp} {kt : TypeId} {k : AV} : ∀ (es : List (AV × AV × Nat)) (i j : Nat) (v : AV), findK tb H kt k es i = .ok (some (j, v)) → ∃ m k0 b, j = i + m ∧ es[m]? = some (k0, v, b)
  | [], i, j, v, h => by simp [findK] at h
  | (k0, v0, b0) :: es, i, j, v, h => by
    simp only [findK] at h
    rw [R.bind_ok] at h; obtain ⟨b, _, h⟩ := h
    cases b with
    | true => simp only [cond_true] at h; cases h; exact ⟨0, k0, b0, rfl, rfl⟩
    | false =>
      simp only [cond_false] at h
      obtain ⟨m, k1, b1, rfl, h2⟩ := findK_get es (i + 1) j v h
      exact ⟨m + 1, k1, b1, by omega, by simpa using h2⟩

theorem EntRel.get : ∀ {es : List (AV × AV × Nat)} {ces : List MapEntry}, EntRel ρ es ces → ∀ {m : Nat} {k v : AV} {b : Nat}, es[m]? = some (k, v, b) → ∃ e, ces[m]? = some e ∧ VRel ρ k e.key ∧ VRel ρ v e.val ∧ e.born = b
  | [], ces, h, m, k, v, b, hm => by simp at hm
  | (k0, v0, b0) :: es, ces, h, m, k, v, b, hm => by
    simp only [EntRel] at h
    obtain ⟨e, t, rfl, h1, h2, h3, h4⟩ := h
    cases m with
    | zero => simp at hm; obtain ⟨rfl, rfl, rfl⟩ := hm; exact ⟨e, by simp, h1, h2, h3⟩
    | succ m => simp at hm; simpa using EntRel.get h4 hm

theorem EntRel.set : ∀ {es : List (AV × AV × Nat)} {ces : List MapEntry}, EntRel ρ es ces → ∀ {m : Nat} {k v k0 v0 : AV} {b0 : Nat} {f : MapEntry → MapEntry}, es[m]? = some (k0, v0, b0) →
    (∀ e, ces[m]? = some e → VRel ρ k (f e).key ∧ VRel ρ v (f e).val ∧ (f e).born = e.born) → EntRel ρ (setVal es m k v) (ces.modify m f)
  | [], ces, h, m, k, v, k0, v0, b0, f, hm, hf => by simp at hm
  | (k1, v1, b1) :: es, ces, h, m, k, v, k0, v0, b0, f, hm, hf => by
    simp only [EntRel] at h
    obtain ⟨e, t, rfl, h1, h2, h3, h4⟩ := h
    cases m with
    | zero =>
      obtain ⟨f1, f2, f3⟩ := hf e (by simp)
      simp only [setVal, EntRel]
      exact ⟨f e, t, by simp, f1, f2, by rw [f3, h3], h4⟩
    | succ m =>
      simp at hm
      simp only [setVal, EntRel]
      exact ⟨e, t.modify m f, by simp, h1, h2, h3, EntRel.set h4 hm (fun e' he' => hf e' (by simpa using he'))⟩

theorem EntRel.push : ∀ {es : List (AV × AV × Nat)} {ces : List MapEntry}, EntRel ρ es ces → ∀ {k v : AV} {e : MapEntry}, VRel ρ k e.key → VRel ρ v e.val → EntRel ρ (es ++ [(k, v, e.born)]) (ces ++ [e])
  | [], ces, h, k, v, e, hk, hv => by simp only [EntRel] at h; subst h; simp only [List.nil_append, EntRel]; exact ⟨e, [], rfl, hk, hv, rfl, rfl⟩
  | (k1, v1, b1) :: es, ces, h, k, v, e, hk, hv => by
    simp only [EntRel] at h
    obtain ⟨e', t, rfl, h1, h2, h3, h4⟩ := h
    simp only [List.cons_append, EntRel]
    exact ⟨e', t ++ [e], rfl, h1, h2, h3, EntRel.push h4 hk hv⟩

theorem EntRel.erase : ∀ {es : List (AV × AV × Nat)} {ces : List MapEntry}, EntRel ρ es ces → ∀ m, EntRel ρ (eraseI es m) (ces.eraseIdx m)
  | [], ces, h, m => by simp only [EntRel] at h; subst h; simp [eraseI, EntRel]
  | (k1, v1, b1) :: es, ces, h, m => by
    simp only [EntRel] at h
    obtain ⟨e', t, rfl, h1, h2, h3, h4⟩ := h
    cases m with
    | zero => simpa [eraseI] using h4
    | succ m => simp only [eraseI, List.eraseIdx_cons_succ, EntRel]; exact ⟨e', _, rfl, h1, h2, h3, EntRel.erase h4 m⟩

theorem EntRel.born : ∀ {es es' : List (AV × AV × Nat)} {ces : List MapEntry}, EntRel ρ es ces → ∀ {i : Int} {x : AV} {cx : Value}, VRel ρ x cx → setBorn es i x = some es' →
    ∃ j, ces.findIdx? (fun e => (e.born : Int) == i) = some j ∧ EntRel ρ es' (ces.modify j fun e => { e with val := cx })
  | [], es', ces, h, i, x, cx, hx, hs => by simp [setBorn] at hs
  | (k1, v1, b1) :: es, es', ces, h, i, x, cx, hx, hs => by
    simp only [EntRel] at h
    obtain ⟨e', t, rfl, h1, h2, h3, h4⟩ := h
    simp only [setBorn] at hs
    cases hb : ((b1 : Int) == i) with
    | true =>
      simp only [hb, cond_true] at hs; cases hs
      refine ⟨0, by simp [List.findIdx?_cons, h3, hb], ?_⟩
      simp only [EntRel, List.modify_zero_cons]
      exact ⟨_, _, rfl, h1, hx, h3, h4⟩
    | false =>
      simp only [hb, cond_false, Option.map_eq_some_iff] at hs
      obtain ⟨r, hr, rfl⟩ := hs
      obtain ⟨j, h5, h6⟩ := EntRel.born h4 hx hr
      refine ⟨j + 1, by simp [List.findIdx?_cons, h3, hb, h5], ?_⟩
      simp only [EntRel, List.modify_succ_cons]
      exact ⟨_, _, rfl, h1, h2, h3, h6⟩

/-- A map that turns. -/
theorem Ext.setMap {H : Hp} {n : Nat} {w : World} (hr : Rel ρ H.get w) {r : Nat} {es es' : List (AV × AV × Nat)} {c c' : Nat} {L : Loc} {ces : Array MapEntry} (hg : H.get r = some (.map es c)) (hL : ρ.loc r = some L) (he : EntRel ρ es' ces.toList) :
    ∃ w', (setObj L.blk (.map ces c')).run P w = .ok () w' ∧ Ext ρ H.get n w ρ (H.set r (some (.map es' c'))).get n w' := by
  obtain ⟨M, m1, ces0, h1, _⟩ := hr.obj r _ hg
  rw [hL] at m1; cases m1
  refine ⟨{ w with heap := w.heap.setIfInBounds L.blk (.map ces c') }, by simp [setObj, Sem.run, h1], ?_⟩
  rw [upd_set]
  have hlt : L.blk < w.heap.size := (Array.getElem?_eq_some_iff.1 h1).1
  exact Ext.turn hr hg rfl hL (by simp) (fun b hb => by simp [Ne.symm hb]) ⟨ces, by simp [hlt], he⟩

theorem beqV_lit : ∀ {a b : AV}, litA a = true → beqV a b = true → a = b := by
  intro a b ha hb
  cases a <;> simp [litA] at ha
  · cases b <;> simp [beqV] at hb
    obtain ⟨rfl, rfl⟩ := hb; rfl
  · cases b <;> simp [beqV] at hb
    rw [beqB_eq] at hb
    simp at hb; rw [hb]

theorem beqVs_lits : ∀ {l r : List AV}, l.all litA = true → beqV.beqVs l r = true → l = r
  | [], [], _, _ => rfl
  | [], _ :: _, _, h => by simp [beqV.beqVs] at h
  | _ :: _, [], _, h => by simp [beqV.beqVs] at h
  | a :: l, b :: r, ha, h => by
    simp only [List.all_cons, Bool.and_eq_true] at ha
    simp only [beqV.beqVs, Bool.and_eq_true] at h
    rw [beqV_lit ha.1 h.1, beqVs_lits ha.2 h.2]

theorem beqV_key {kt : TypeId} {a b : AV} (ha : keyOk tb kt a = true) (hb : beqV a b = true) : a = b := by
  unfold keyOk at ha
  split at ha
  · split at ha
    · exact beqV_lit rfl hb
    · cases ha
  · split at ha
    · exact beqV_lit rfl hb
    · cases ha
  · split at ha
    · simp only [Bool.and_eq_true] at ha
      cases b <;> simp only [beqV] at hb <;> try (cases hb; done)
      rw [beqVs_lits ha.1 hb]
    · cases ha
  · cases ha

theorem stays {kt : TypeId} {k : AV} (hk : keyOk tb kt k = true) {v v' : Value} (h : VRel ρ k v) (h' : VRel ρ k v') (w : World) : (Instr.keyThatStays v v').run P w = .ok v' w := by
  obtain ⟨rfl, h2⟩ := key_det hk h h'
  simp [Instr.keyThatStays, h2]

theorem update_sound (ok : TbOk P tb) {H H' : Hp} {n : Nat} {w : World} (hr : Rel ρ H.get w) {t : TypeId} {m k v : AV} {vm vk vv : Value} (hm : VRel ρ m vm) (hk : VRel ρ k vk) (hv : VRel ρ v vv) (h : updateA tb t m k v H = .ok H') :
    EffU P ρ H.get n w H'.get n (Instr.mapUpdate t vm vk vv) := by
  unfold updateA at h
  rw [R.bind_ok] at h; obtain ⟨d, hd, h⟩ := h
  split at h
  · rename_i kt e r
    cases hko : keyOk tb kt k with
    | false => simp [hko] at h
    | true =>
      simp only [hko, cond_true] at h
      split at h
      · rename_i es c hg
        rw [R.bind_ok] at h; obtain ⟨f, hf, h⟩ := h
        obtain ⟨L, ces, hL, rfl, hob, hent⟩ := map_obj hr hg hm
        have hck := checkKey_sound (P := P) ok w hko hk false
        obtain ⟨f', hf1, hf2⟩ := find_sound (P := P) ok hr hko hk hent hf
        split at h
        · rename_i i v0
          obtain ⟨cv, rfl, hcv⟩ := hf2
          split at h
          · rename_i k0 v1 b0 hi
            cases hb : beqV k k0 with
            | false => simp [hb] at h
            | true =>
              simp only [hb, cond_true] at h; cases h
              have := beqV_key hko hb; subst this
              obtain ⟨e0, he0, hk0, hv0, _⟩ := hent.get hi
              have he0' : ces[i]? = some e0 := by simpa using he0
              have hent' : EntRel ρ (setVal es i k v) (ces.modify i fun e => { e with key := vk, val := vv }).toList := by
                rw [Array.toList_modify]
                exact hent.set hi (fun e' _ => ⟨hk, hv, rfl⟩)
              obtain ⟨w', hs, hx⟩ := Ext.setMap (P := P) (n := n) (c' := c) hr hg hL hent'
              refine ⟨w', ρ, ?_, hx⟩
              simp [Instr.mapUpdate, ok.run_und hd, run_getObj_map hob, hck, hf1, he0', stays hko hk0 hk, hs]
          · cases h
        · simp only [RRel] at hf2; subst hf2
          cases h
          have hent' : EntRel ρ (es ++ [(k, v, c)]) (ces.push { key := vk, val := vv, born := c }).toList := by
            rw [Array.toList_push]; exact hent.push (e := { key := vk, val := vv, born := c }) hk hv
          obtain ⟨w', hs, hx⟩ := Ext.setMap (P := P) (n := n) (c' := c + 1) hr hg hL hent'
          refine ⟨w', ρ, ?_, hx⟩
          simp [Instr.mapUpdate, ok.run_und hd, run_getObj_map hob, hck, hf1, hs]
      · cases h
  · cases h

theorem entry_sound (ok : TbOk P tb) {H H' : Hp} {n n' : Nat} {w : World} (hr : Rel ρ H.get w) {t : TypeId} {m k v : AV} {vm vk : Value} (hm : VRel ρ m vm) (hk : VRel ρ k vk) (h : entryA tb t m k H n = .ok (v, H', n')) :
    EffV P ρ H.get n w v H'.get n' (Instr.mapEntry t vm vk) := by
  unfold entryA at h
  rw [R.bind_ok] at h; obtain ⟨d, hd, h⟩ := h
  split at h
  · rename_i kt e r
    cases hko : keyOk tb kt k with
    | false => simp [hko] at h
    | true =>
      simp only [hko, cond_true] at h
      split at h
      · rename_i es c hg
        rw [R.bind_ok] at h; obtain ⟨f, hf, h⟩ := h
        obtain ⟨L, ces, hL, rfl, hob, hent⟩ := map_obj hr hg hm
        have hck := checkKey_sound (P := P) ok w hko hk false
        obtain ⟨f', hf1, hf2⟩ := find_sound (P := P) ok hr hko hk hent hf
        split at h
        · rename_i i v0
          obtain ⟨cv, rfl, hcv⟩ := hf2
          obtain ⟨m0, k1, b1, e1, hm0⟩ := findK_get es 0 i v0 hf
          have : m0 = i := by omega
          subst this
          split at h
          · rename_i k0 v1 b0 hi
            rw [hm0] at hi; cases hi
            cases hb : beqV k k1 with
            | false => simp [hb] at h
            | true =>
              simp only [hb, Bool.not_true, cond_false, pureM] at h; cases h
              have := beqV_key hko hb; subst this
              obtain ⟨e0, he0, hk0, hv0, hb0⟩ := hent.get hm0
              have he0' : ces[m0]? = some e0 := by simpa using he0
              have hent' : EntRel ρ (setVal es m0 k v0) (ces.modify m0 fun e => { e with key := vk }).toList := by
                rw [Array.toList_modify]
                exact hent.set hm0 (fun e' h' => by rw [he0] at h'; cases h'; exact ⟨hk, hv0, rfl⟩)
              obtain ⟨w', hs, hx⟩ := Ext.setMap (P := P) (n := n) (c' := c) hr hg hL hent'
              refine ⟨.tuple #[cv, goInt b1], w', ρ, ?_, hx, ?_⟩
              · simp [Instr.mapEntry, ok.run_und hd, run_getObj_map hob, hck, hf1, he0', stays hko hk0 hk, hs, hb0]
              · simp only [VRel]; exact ⟨_, rfl, .cons hcv (.cons (by simp [VRel, goInt]) .nil)⟩
          · cases h
        · simp only [RRel] at hf2; subst hf2
          rw [R.bind_ok] at h; obtain ⟨z, hz, h⟩ := h
          simp only [pureM] at h; cases h
          obtain ⟨zv, hz1, hz2⟩ := ok.run_zero hz ρ w
          have hent' : EntRel ρ (es ++ [(k, z, c)]) (ces.push { key := vk, val := zv, born := c }).toList := by
            rw [Array.toList_push]; exact hent.push (e := { key := vk, val := zv, born := c }) hk hz2
          obtain ⟨w', hs, hx⟩ := Ext.setMap (P := P) (n := n) (c' := c + 1) hr hg hL hent'
          refine ⟨.tuple #[zv, goInt c], w', ρ, ?_, hx, ?_⟩
          · simp [Instr.mapEntry, ok.run_und hd, run_getObj_map hob, hck, hf1, hz1, hs]
          · simp only [VRel]; exact ⟨_, rfl, .cons hz2 (.cons (by simp [VRel, goInt]) .nil)⟩
      · cases h
  · cases h

theorem entryStore_sound {H H' : Hp} {n : Nat} {w : World} (hr : Rel ρ H.get w) {t : TypeId} {m s v : AV} {vm vs vv : Value} (hm : VRel ρ m vm) (hs : VRel ρ s vs) (hv : VRel ρ v vv) (h : entryStoreA m s v H = .ok H') :
    EffU P ρ H.get n w H'.get n (Instr.entryStore t vm vs vv) := by
  unfold entryStoreA at h
  split at h
  · rename_i r kk b
    split at h
    · rename_i es c hg
      split at h
      · rename_i es' hb
        cases h
        obtain ⟨L, ces, hL, rfl, hob, hent⟩ := map_obj hr hg hm
        simp only [VRel] at hs; subst hs
        obtain ⟨j, h1, h2⟩ := hent.born hv hb
        have hent' : EntRel ρ es' (ces.modify j fun e => { e with val := vv }).toList := by rw [Array.toList_modify]; exact h2
        obtain ⟨w', hset, hx⟩ := Ext.setMap (P := P) (n := n) (c' := c) hr hg hL hent'
        refine ⟨w', ρ, ?_, hx⟩
        have h1' : ces.findIdx? (fun e => (e.born : Int) == b) = some j := by
          have : ces = ces.toList.toArray := by simp
          rw [this, List.findIdx?_toArray]; exact h1
        simp [Instr.entryStore, run_getObj_map hob, Go.asInt, asIntOf, h1', hset]
      · cases h
    · cases h
  · cases h

theorem delete_sound (ok : TbOk P tb) {H H' : Hp} {n n' : Nat} {w : World} (hr : Rel ρ H.get w) {ts : Array TypeId} {args : List AV} {vs : Array Value} (hv : VRels ρ args vs.toList) {r : AV} (h : deleteA tb ts.toList args H n = .ok (r, H', n')) (t : TypeId) :
    EffV P ρ H.get n w r H'.get n' (Builtin.delete_ ts t vs) := by
  unfold deleteA at h
  split at h
  · rename_i mt _ m k ht
    rw [R.bind_ok] at h; obtain ⟨d, hd, h⟩ := h
    have h0 : ts[0]? = some mt := by
      have : ts.toList[0]? = some mt := by rw [ht]; rfl
      simpa using this
    simp only [VRels] at hv
    obtain ⟨v1, r1, e1, h1, v2, r2, e2, h2, h3⟩ := hv
    subst e2; subst h3
    have g1 : vs[0]? = some v1 := by
      have : vs.toList[0]? = some v1 := by rw [e1]; rfl
      simpa using this
    have g2 : vs[1]? = some v2 := by
      have : vs.toList[1]? = some v2 := by rw [e1]; rfl
      simpa using this
    split at h
    · rename_i kt e
      cases hko : keyOk tb kt k with
      | false => simp [hko] at h
      | true =>
        simp only [hko, cond_true, pureM] at h; cases h
        simp only [VRel] at h1; subst h1
        exact ⟨.tuple #[], w, ρ, by simp [Builtin.delete_, h0, g1, g2, ok.run_und hd, checkKey_sound (P := P) ok w hko h2 true], Ext.refl hr rfl, by simp only [undA, VRel]; exact ⟨#[], rfl, .nil⟩⟩
    · rename_i kt e rr
      cases hko : keyOk tb kt k with
      | false => simp [hko] at h
      | true =>
        simp only [hko, cond_true] at h
        split at h
        · rename_i es c hg
          rw [R.bind_ok] at h; obtain ⟨f, hf, h⟩ := h
          obtain ⟨L, ces, hL, rfl, hob, hent⟩ := map_obj hr hg h1
          obtain ⟨f', hf1, hf2⟩ := find_sound (P := P) ok hr hko h2 hent hf
          have hck := fun em => checkKey_sound (P := P) ok w hko h2 em
          split at h
          · rename_i i v0
            obtain ⟨cv, rfl, hcv⟩ := hf2
            simp only [pureM] at h; cases h
            have hent' : EntRel ρ (eraseI es i) (ces.eraseIdxIfInBounds i).toList := by
              have : (ces.eraseIdxIfInBounds i).toList = ces.toList.eraseIdx i := by simp
              rw [this]; exact hent.erase i
            obtain ⟨w', hset, hx⟩ := Ext.setMap (P := P) (n := n) (c' := c) hr hg hL hent'
            exact ⟨.tuple #[], w', ρ, by simp [Builtin.delete_, h0, g1, g2, ok.run_und hd, run_getObj_map hob, hck, hf1, hset], hx, by simp only [undA, VRel]; exact ⟨#[], rfl, .nil⟩⟩
          · simp only [RRel] at hf2; subst hf2
            simp only [pureM] at h; cases h
            obtain ⟨w', hset, hx⟩ := Ext.setMap (P := P) (n := n) (c' := c) hr hg hL hent
            refine ⟨.tuple #[], w', ρ, by simp [Builtin.delete_, h0, g1, g2, ok.run_und hd, run_getObj_map hob, hck, hf1, hset], ?_, by simp only [undA, VRel]; exact ⟨#[], rfl, .nil⟩⟩
            rw [upd_set] at hx
            have : upd H.get rr (some (.map es c)) = H.get := by
              funext i; simp only [upd]; split
              · rename_i e; rw [e, hg]
              · rfl
            rw [this] at hx; exact hx
        · cases h
    · cases h
  · cases h

end
end Go.Zr
