import Derived.Test.YtkcpfhlfjdnkdaaGreatDoorZsD
namespace Go.Zr

section
variable {P : Program} {tb : Tb} {ρ ρ' : Env}

/-- A plain cell: nothing that names an object. -/
def plainC : AV → Bool
  | .bool _ | .int _ _ | .str _ | .pnil | .snil | .mnil | .fnil | .inil => true
  | _ => false
def plainV : AV → Bool
  | .agg cs => cs.all plainC
  | v => plainC v

theorem VRel.ofC {a : AV} {v : Value} (h : plainC a = true) (r : VRel ρ' a v) : VRel ρ a v := by
  cases a <;> simp [plainC] at h <;> simp only [VRel] at r ⊢ <;> exact r

theorem VRels.ofC : ∀ {l : List AV} {vs : List Value}, l.all plainC = true → VRels ρ' l vs → VRels ρ l vs
  | [], _, _, r => by simp only [VRels] at r ⊢; exact r
  | a :: l, vs, h, r => by
    simp only [List.all_cons, Bool.and_eq_true] at h
    simp only [VRels] at r ⊢
    obtain ⟨v, t, e, h1, h2⟩ := r
    exact ⟨v, t, e, VRel.ofC h.1 h1, VRels.ofC h.2 h2⟩

theorem VRel.ofP {a : AV} {v : Value} (h : plainV a = true) (r : VRel ρ' a v) : VRel ρ a v := by
  cases a with
  | agg cs =>
    simp only [plainV] at h
    simp only [VRel] at r ⊢
    obtain ⟨vs, e, h1⟩ := r
    exact ⟨vs, e, VRels.ofC h h1⟩
  | _ => exact VRel.ofC h r

/-- Nothing was named ahead: what was there is as it was. -/
theorem Ext.closed {g g' : Gh} {n n' N : Nat} {w w' : World} (hr : Rel ρ g w) (h : Ext ρ (fun _ => none) N w ρ' g' n' w') : Ext ρ g n w ρ g n w' := by
  have keep : ∀ b, b < w.heap.size → w'.heap[b]? = w.heap[b]? := fun b hb => h.keep b hb (fun ⟨o, ob, L, h1, _⟩ => by cases h1)
  refine ⟨.refl ρ, ⟨fun o ob ho => ?_, hr.sep, fun b i v hv => ?_, hr.immSep⟩, Nat.le_refl n, fun _ _ x => .inl x, fun o ob x => .inl ⟨ob, x⟩, h.size, fun b hb _ => keep b hb, fun o ob L h1 h2 _ => ?_, fun _ _ _ x _ => .inl x, h.tape, h.os, h.output⟩
  · obtain ⟨L, h1, h2⟩ := hr.obj o ob ho
    exact ⟨L, h1, h2.of_heap (keep _ h2.lt)⟩
  · have := hr.imm b i v hv
    have hlt : b < w.heap.size := by
      unfold World.cell? at this
      cases hb : w.heap[b]? with
      | none => simp [hb] at this
      | some o => exact (Array.getElem?_eq_some_iff.1 hb).1
    unfold World.cell? at *
    rw [keep b hlt]; exact this
  · cases hb : ob.own with
    | false => exact .inl ⟨rfl, ⟨ob, h1⟩, h2⟩
    | true => exact .inr ⟨o, ob, L, h1, hb, h2, rfl⟩

/-- A call that was reckoned with nothing named, and whose answer names nothing. -/
theorem closed_sound {S : Su} (hS : SoundS P tb S) {f : FuncId} {args : List AV} {v : AV} {H' : Hp} {N N' : Nat} (h : S (.fn f) args .nil N = .ok (v, H', N')) (hp : plainV v = true)
    {H : Hp} {n : Nat} {w : World} {vs : Array Value} (hg : GlobOk tb ρ) (hr : Rel ρ H.get w) (hf : Fresh ρ n) (hn : n ≤ N) (hv : VRels ρ args vs.toList) :
    NextOk P (Good ρ H.get n w v H.get n) ((callFunc f vs).run P w) := by
  have h0 : Rel ρ (PT.nil : Hp).get w := hr.less (fun o ob ho => by simp at ho)
  have h1 := hS (.fn f) args .nil N v H' N' h ρ w vs hg h0 (fun o ho => hf o (Nat.le_trans hn ho)) hv
  refine h1.mono fun x w' ⟨ρ', he, hx⟩ => ⟨ρ, ?_, VRel.ofP hp hx⟩
  have he' : Ext ρ (fun _ => none) N w ρ' H'.get N' w' := he
  exact Ext.closed hr he'

/-- A program's tables. -/
noncomputable def fnsOf (P : Program) : PT Func := PT.ofList P.funcs.toList
noncomputable def tbOf (P : Program) (ng : Nat) : Tb := { ty := PT.ofList P.types.toList, okEq := fun t => !(P.stoodInHeld t), ng := ng, bodied := fun f => match (fnsOf P).get f with | some fn => fn.body.isSome | none => false }

theorem fnsOk_of {P : Program} (h : (P.funcs.toList.all fun fn => !(fn.name == "runtime.NumGoroutine")) = true) : FnsOk P (fnsOf P) := by
  intro f fn hf
  have h1 : P.funcs.toList[f]? = some fn := by rw [← PT.get_ofList]; exact hf
  have h2 : P.funcs[f]? = some fn := by simpa using h1
  refine ⟨h2, ?_⟩
  have := List.all_eq_true.1 h fn (List.mem_of_getElem? h1)
  simpa using this

theorem tbOk_of {P : Program} (ng : Nat) (h : (P.funcs.toList.all fun fn => !(fn.name == "runtime.NumGoroutine")) = true) (hd : Nat.ble 50 P.depth = true) : TbOk P (tbOf P ng) where
  ty := fun t i h => by
    have h1 : P.types.toList[t]? = some i := by rw [← PT.get_ofList]; exact h
    have h2 : P.types[t]? = some i := by simpa using h1
    have hlt : t < P.types.size := (Array.getElem?_eq_some_iff.1 h2).1
    show (if t < P.types.size then P.types[t]? else _) = some i
    rw [if_pos hlt]; exact h2
  okEq := fun t h => by simpa [tbOf] using h
  depth := Nat.le_of_ble_eq_true hd
  bodied := fun f h1 => by
    simp only [tbOf] at h1
    cases hf : (fnsOf P).get f with
    | none => rw [hf] at h1; cases h1
    | some fn =>
      rw [hf] at h1
      obtain ⟨h3, h2⟩ := fnsOk_of h f fn hf
      obtain ⟨c, hc⟩ := Option.isSome_iff_exists.1 h1
      exact ⟨fn, c, h3, hc, h2⟩

/-- An answer that is known beforehand. -/
def knownA (N : Nat) (r : List AV → Option AV) (args : List AV) (H : Hp) (n : Nat) : M AV :=
  bif Nat.ble n N then (match r args with | some v => .ok (v, H, n) | none => .bad "known") else .bad "known: late"

/-- One more function is told. -/
def tell (f : Nat) (b : List AV → Hp → Nat → M AV) (base : Nat → Option (Su → List AV → Hp → Nat → M AV)) : Nat → Option (Su → List AV → Hp → Nat → M AV) := fun g =>
  bif Nat.beq g f then some (fun _ args H n => b args H n) else base g

theorem tell_ok {f : Nat} {b : List AV → Hp → Nat → M AV} {base : Nat → Option (Su → List AV → Hp → Nat → M AV)} (hB : BaseOk P tb base)
    (h : ∀ args H n v H' n', b args H n = .ok (v, H', n') → ∀ ρ w (vs : Array Value), GlobOk tb ρ → Rel ρ H.get w → Fresh ρ n → VRels ρ args vs.toList → NextOk P (Good ρ H.get n w v H'.get n') ((callFunc f vs).run P w)) : BaseOk P tb (tell f b base) := by
  intro g b' hb S hS args H n v H' n' hh ρ w vs hg hr hf hv
  unfold tell at hb
  cases h1 : Nat.beq g f with
  | true =>
    have := Nat.eq_of_beq_eq_true h1; subst this
    simp only [Nat.beq_refl, cond_true, Option.some.injEq] at hb; subst hb
    exact h args H n v H' n' hh ρ w vs hg hr hf hv
  | false =>
    simp only [h1, cond_false] at hb
    exact hB g b' hb S hS args H n v H' n' hh ρ w vs hg hr hf hv

/-- What a call's answer is. -/
def valOf : M AV → Option AV
  | .ok (v, _, _) => some v
  | .bad _ => none

theorem valOf_some {r : M AV} {v : AV} (h : valOf r = some v) : ∃ H' N', r = .ok (v, H', N') := by
  cases r with
  | ok x => obtain ⟨a, b, c⟩ := x; simp only [valOf, Option.some.injEq] at h; subst h; exact ⟨b, c, rfl⟩
  | bad w => cases h

theorem known_ok {S : Su} (hS : SoundS P tb S) {f : FuncId} {N : Nat} {r : List AV → Option AV} (hk : ∀ args v, r args = some v → valOf (S (.fn f) args .nil N) = some v ∧ plainV v = true)
    {base : Nat → Option (Su → List AV → Hp → Nat → M AV)} (hB : BaseOk P tb base) : BaseOk P tb (tell f (knownA N r) base) := by
  refine tell_ok hB fun args H n v H' n' h ρ w vs hg hr hf hv => ?_
  unfold knownA at h
  cases hn : Nat.ble n N with
  | false => rw [hn] at h; cases h
  | true =>
    rw [hn] at h
    simp only [cond_true] at h
    split at h
    · rename_i v0 hv0
      cases h
      obtain ⟨h1, h2⟩ := hk args v hv0
      obtain ⟨H1, n1, h3⟩ := valOf_some h1
      exact closed_sound hS h3 h2 hg hr hf (Nat.le_of_ble_eq_true hn) hv
    · cases h

theorem noBase_ok : BaseOk P tb (fun _ => none) := fun _ _ h => by cases h

/-- A function without a body. -/
theorem extern_run {f : FuncId} {fn : Func} {e : Array Value → Sem Value} (vs : Array Value) (w : World) (hf : P.funcs[f]? = some fn) (hn : (fn.name == "runtime.NumGoroutine") = false) (hb : fn.body.isNone = true)
    (h1 : (Extern.findNext fn).isNone = true) (h2 : Extern.find fn = some e) : (callFunc f vs).run P w = (do pure (.value (← e vs)) : Sem Next).run P w := by
  have hn' : ¬ fn.name = "runtime.NumGoroutine" := by simpa using hn
  have h1' : Extern.findNext fn = none := by simpa using h1
  have hb' : fn.body = none := by simpa using hb
  unfold callFunc
  simp [hf, hn', hb', h1', h2, mark, Sem.run]

theorem EffV.same {H : Hp} {n : Nat} {w : World} {v : AV} {x : Value} {s : Sem Value} (hr : Rel ρ H.get w) (h : s.run P w = .ok x w) (hv : VRel ρ v x) : EffV P ρ H.get n w v H.get n s :=
  ⟨x, w, ρ, h, Ext.refl hr rfl, hv⟩

/-- Where a byte stands first in a text. -/
def ibs (s : List UInt8) (c : Nat) : Int := match (List.range (ByteArray.mk s.toArray).size).find? (fun i => (ByteArray.mk s.toArray)[i]! == c.toUInt8) with
  | some i => (i : Int)
  | none => -1

def indexByteA (args : List AV) (H : Hp) (n : Nat) : M AV := match args with
  | [.str s, .int .u8 c] => .ok (.int .i64 (ibs s c.toNat), H, n)
  | _ => .bad "IndexByteString"

def sameA (args : List AV) (H : Hp) (n : Nat) : M AV := match args with
  | [x] => .ok (x, H, n)
  | _ => .bad "NoEscape"

theorem vrels_one {a : AV} {vs : Array Value} (h : VRels ρ [a] vs.toList) : ∃ v, vs = #[v] ∧ VRel ρ a v := by
  simp only [VRels] at h
  obtain ⟨v, r, e, h1, rfl⟩ := h
  exact ⟨v, by apply Array.ext'; rw [e], h1⟩
theorem vrels_two {a b : AV} {vs : Array Value} (h : VRels ρ [a, b] vs.toList) : ∃ v x, vs = #[v, x] ∧ VRel ρ a v ∧ VRel ρ b x := by
  simp only [VRels] at h
  obtain ⟨v, r, e, h1, x, r', rfl, h2, rfl⟩ := h
  exact ⟨v, x, by apply Array.ext'; rw [e], h1, h2⟩

theorem indexByte_sound {args : List AV} {H H' : Hp} {n n' : Nat} {v : AV} (h : indexByteA args H n = .ok (v, H', n')) {w : World} {vs : Array Value} (hr : Rel ρ H.get w) (hv : VRels ρ args vs.toList) :
    EffV P ρ H.get n w v H'.get n' (Extern.BytealgIndexByte.indexByte vs) := by
  unfold indexByteA at h
  split at h
  · rename_i s c
    cases h
    obtain ⟨x, y, rfl, h1, h2⟩ := vrels_two hv
    simp only [VRel] at h1 h2
    subst h1; subst h2
    refine EffV.same hr (x := .int .i64 (ibs s c.toNat)) ?_ (by simp only [VRel])
    have e : Extern.BytealgIndexByte.indexByte #[.string ⟨s.toArray⟩, .int .u8 c] = (do
        let b ← Extern.Bytes.bytesOf (.string ⟨s.toArray⟩)
        let c ← Extern.Bytes.asByte (.int .u8 c)
        match (List.range b.size).find? fun i => b[i]! == c with
        | some i => pure (goInt i)
        | none => pure (goInt (-1))) := rfl
    rw [e]
    unfold ibs
    simp only [Extern.Bytes.bytesOf, Extern.Bytes.asByte, Sem.run_bind, Sem.run_pure, Result.andThen_ok]
    cases hfnd : (List.range (ByteArray.mk s.toArray).size).find? (fun i => (ByteArray.mk s.toArray)[i]! == c.toNat.toUInt8) with
    | none => simp [goInt]
    | some i => simp [goInt]
  · cases h

theorem same_sound {args : List AV} {H H' : Hp} {n n' : Nat} {v : AV} (h : sameA args H n = .ok (v, H', n')) {w : World} {vs : Array Value} (hr : Rel ρ H.get w) (hv : VRels ρ args vs.toList) :
    EffV P ρ H.get n w v H'.get n' (Extern.AbiNoEscape.same vs) := by
  unfold sameA at h
  split at h
  · cases h
    obtain ⟨x, rfl, h1⟩ := vrels_one hv
    exact EffV.same hr (x := x) (by have e : Extern.AbiNoEscape.same #[x] = pure x := rfl; rw [e]; rfl) h1
  · cases h

/-- Answers that are known by the text asked of. -/
def lookP (s : List UInt8) : List (List UInt8 × Int) → Option Int
  | [] => none
  | (a, k) :: l => bif beqB a s then some k else lookP s l

theorem lookP_mem {s : List UInt8} {k : Int} : ∀ {l : List (List UInt8 × Int)}, lookP s l = some k → (s, k) ∈ l
  | [], h => by cases h
  | (a, j) :: l, h => by
    simp only [lookP] at h
    cases hb : beqB a s with
    | true =>
      rw [hb] at h; simp only [cond_true, Option.some.injEq] at h; subst h
      rw [beqB_eq] at hb
      have : a = s := by simpa using hb
      subst this; simp
    | false => rw [hb] at h; simp only [cond_false] at h; exact List.mem_cons_of_mem _ (lookP_mem h)

def isInt (k : Int) : Option AV → Bool
  | some (.int .i64 m) => decide (m = k)
  | _ => false
theorem isInt_eq {k : Int} {o : Option AV} (h : isInt k o = true) : o = some (.int .i64 k) := by
  unfold isInt at h
  split at h
  · have := of_decide_eq_true h; subst this; rfl
  · cases h

/-- Answers that are known by one text. -/
def strR (memo : List (List UInt8 × Int)) : List AV → Option AV
  | [.str s] => match lookP s memo with
    | some k => some (.int .i64 k)
    | none => none
  | _ => none

theorem strR_ok {S : Su} {f : FuncId} {N : Nat} {memo : List (List UInt8 × Int)} (h : (memo.all fun p => isInt p.2 (valOf (S (.fn f) [.str p.1] .nil N))) = true) (args : List AV) (v : AV) (hv : strR memo args = some v) :
    valOf (S (.fn f) args .nil N) = some v ∧ plainV v = true := by
  unfold strR at hv
  split at hv
  · rename_i s
    split at hv
    · rename_i k hk
      simp only [Option.some.injEq] at hv; subst hv
      exact ⟨isInt_eq (List.all_eq_true.1 h _ (lookP_mem hk)), rfl⟩
    · cases hv
  · cases hv

/-- The answer to a call of nothing. -/
def oneR (a : AV) : List AV → Option AV
  | [] => some a
  | _ => none
theorem oneR_ok {S : Su} {f : FuncId} {N : Nat} {a : AV} (h : valOf (S (.fn f) [] .nil N) = some a) (hp : plainV a = true) (args : List AV) (v : AV) (hv : oneR a args = some v) :
    valOf (S (.fn f) args .nil N) = some v ∧ plainV v = true := by
  cases args with
  | nil => simp only [oneR, Option.some.injEq] at hv; subst hv; exact ⟨h, hp⟩
  | cons a l => cases hv
end
end Go.Zr
