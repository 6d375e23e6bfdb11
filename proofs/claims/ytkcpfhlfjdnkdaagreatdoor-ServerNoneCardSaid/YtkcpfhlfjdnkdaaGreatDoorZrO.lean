import Derived.Test.YtkcpfhlfjdnkdaaGreatDoorZrN
namespace Go.Zr

section
variable {P : Program} {tb : Tb} {ρ : Env}

/-! ### append -/
def PlainArg (P : Program) (ts : Array TypeId) : Prop := ts[1]? = none ∨ ∃ xt d, ts[1]? = some xt ∧ P.underlying xt = some d ∧ ∀ k, d ≠ .int k

section
variable {ts : Array TypeId} {st e t : TypeId} {i : TypeInfo}

set_option maxHeartbeats 4000000 in
theorem app_in_plain (h0 : ts[0]? = some st) (hd : P.underlying st = some (.slice e)) (hi : P.info? e = some i) (h1 : PlainArg P ts) {w w' : World} {vx : Value} {m sLen sCap : Nat} {base : Option Addr} {news : Array Value} (hl : (Builtin.lenOf vx).run P w = .ok m w) (hn : (Builtin.firstCells i.size m vx).run P w = .ok news w) (hle : sLen + m ≤ sCap)
    (hst : ∀ a, base = some a → (storeCells (a.add (sLen * i.size)) news.toList).run P w = .ok () w') (hno : base = none → w' = w) :
    (Builtin.append_ ts t #[.slice base sLen sCap, vx]).run P w = .ok (.slice base (sLen + m) sCap) w' := by
  rcases h1 with h1 | ⟨xt, d, h1, h2, h3⟩
  · cases base with
    | none => have := hno rfl; subst this; simp [Builtin.append_, h0, h1, run_underlying hd, sizeOf, typeInfo, hi, hl, hn, hle]
    | some a => simp [Builtin.append_, h0, h1, run_underlying hd, sizeOf, typeInfo, hi, hl, hn, hle, hst a rfl]
  · cases base with
    | none =>
      have := hno rfl; subst this
      cases d <;> first | (exact absurd rfl (h3 _)) | simp [Builtin.append_, h0, h1, run_underlying hd, run_underlying h2, sizeOf, typeInfo, hi, hl, hn, hle]
    | some a =>
      cases d <;> first | (exact absurd rfl (h3 _)) | simp [Builtin.append_, h0, h1, run_underlying hd, run_underlying h2, sizeOf, typeInfo, hi, hl, hn, hle, hst a rfl]

set_option maxHeartbeats 4000000 in
theorem app_grow_plain (h0 : ts[0]? = some st) (hd : P.underlying st = some (.slice e)) (hi : P.info? e = some i) (h1 : PlainArg P ts) {w : World} {vx z : Value} {m sLen sCap : Nat} {base : Option Addr} {olds news : Array Value} (hl : (Builtin.lenOf vx).run P w = .ok m w) (hn : (Builtin.firstCells i.size m vx).run P w.drew = .ok news w.drew) (hz : i.zero = some z) (hlt : ¬ sLen + m ≤ sCap)
    (hold : (Builtin.firstCells i.size sLen (.slice base sLen sCap)).run P w.drew = .ok olds w.drew) (h63 : ((sLen + m : Nat) : Int) ≤ 9223372036854775807) (hfit : Builtin.nextslicecap (sLen + m) sCap * i.bytes ≤ 281474976710656) :
    (Builtin.append_ ts t #[.slice base sLen sCap, vx]).run P w = .ok (.slice (some ⟨w.heap.size, 0, none⟩) (sLen + m) (grownCap w (sLen + m) sCap e))
      (w.drew.alloc (.cells (olds ++ news ++ Builtin.zeroCells z.cells (grownCap w (sLen + m) sCap e - (sLen + m))) e)) := by
  have h63' : ¬ (9223372036854775807 < ((sLen : Int) + (m : Int))) := by omega
  have h48' : ¬ (281474976710656 < Builtin.nextslicecap (sLen + m) sCap * i.bytes) := by omega
  have hm : IntKind.i64.max = 9223372036854775807 := rfl
  rcases h1 with h1 | ⟨xt, d, h1, h2, h3⟩
  · simp [Builtin.append_, h0, h1, run_underlying hd, sizeOf, typeInfo, zeroValue, hi, hz, hl, hn, hlt, hm, h63', h48', Question.forced, hold, Go.newRow, grownCap]
  · cases d <;> first | (exact absurd rfl (h3 _)) | simp [Builtin.append_, h0, h1, run_underlying hd, run_underlying h2, sizeOf, typeInfo, zeroValue, hi, hz, hl, hn, hlt, hm, h63', h48', Question.forced, hold, Go.newRow, grownCap]

theorem app_in_made (h0 : ts[0]? = some st) (hd : P.underlying st = some (.slice e)) (hi : P.info? e = some i) {xt : TypeId} {q : IntKind} (h1 : ts[1]? = some xt) (h2 : P.underlying xt = some (.int q)) {w w' : World} {k : IntKind} {l : Int} {z : Value} {m sLen sCap : Nat} {base : Option Addr} (hz : i.zero = some z) (hl : l = (m : Int)) (h40 : m < 9223372036854775808) (hb : (m : Int) * i.bytes ≤ 281474976710656) (hzs : z.cells.size = i.size) (hle : sLen + m ≤ sCap)
    (hst : ∀ a, base = some a → (storeCells (a.add (sLen * i.size)) (Builtin.zeroCells z.cells m).toList).run P w = .ok () w') (hno : base = none → w' = w) :
    (Builtin.append_ ts t #[.slice base sLen sCap, .int k l]).run P w = .ok (.slice base (sLen + m) sCap) w' := by
  have hw : IntKind.i64.wrap l = (m : Int) := by rw [hl]; exact wrap_small (by omega) (by omega)
  have h3 : ¬ ((m : Int) < 0) := by omega
  have h4 : ¬ (281474976710656 < (m : Int) * i.bytes) := by omega
  have hzero : m * i.size = 0 → Builtin.zeroCells z.cells m = #[] := fun e => by unfold Builtin.zeroCells; rw [hzs, e]; simp
  by_cases e0 : m * i.size = 0
  · have e1 := hzero e0
    cases base with
    | none => have := hno rfl; subst this; simp [Builtin.append_, h0, h1, run_underlying hd, run_underlying h2, sizeOf, typeInfo, hi, Go.asInt, asIntOf, hw, h3, h4, hle, e0]
    | some a =>
      have hst := hst a rfl
      rw [e1] at hst
      simp [Builtin.append_, h0, h1, run_underlying hd, run_underlying h2, sizeOf, typeInfo, hi, Go.asInt, asIntOf, hw, h3, h4, hle, e0, hst]
  · cases base with
    | none => have := hno rfl; subst this; simp [Builtin.append_, h0, h1, run_underlying hd, run_underlying h2, sizeOf, typeInfo, zeroValue, hz, hi, Go.asInt, asIntOf, hw, h3, h4, hle]
    | some a => simp [Builtin.append_, h0, h1, run_underlying hd, run_underlying h2, sizeOf, typeInfo, zeroValue, hz, hi, Go.asInt, asIntOf, hw, h3, h4, hle, e0, hst a rfl]

theorem app_grow_made (h0 : ts[0]? = some st) (hd : P.underlying st = some (.slice e)) (hi : P.info? e = some i) {xt : TypeId} {q : IntKind} (h1 : ts[1]? = some xt) (h2 : P.underlying xt = some (.int q)) {w : World} {k : IntKind} {l : Int} {z : Value} {m sLen sCap : Nat} {base : Option Addr} {olds : Array Value} (hz : i.zero = some z) (hl : l = (m : Int)) (h40 : m < 9223372036854775808) (hb : (m : Int) * i.bytes ≤ 281474976710656) (hzs : z.cells.size = i.size) (hlt : ¬ sLen + m ≤ sCap)
    (hold : (Builtin.firstCells i.size sLen (.slice base sLen sCap)).run P w.drew = .ok olds w.drew) (h63 : ((sLen + m : Nat) : Int) ≤ 9223372036854775807) (hfit : Builtin.nextslicecap (sLen + m) sCap * i.bytes ≤ 281474976710656) :
    (Builtin.append_ ts t #[.slice base sLen sCap, .int k l]).run P w = .ok (.slice (some ⟨w.heap.size, 0, none⟩) (sLen + m) (grownCap w (sLen + m) sCap e))
      (w.drew.alloc (.cells (olds ++ Builtin.zeroCells z.cells m ++ Builtin.zeroCells z.cells (grownCap w (sLen + m) sCap e - (sLen + m))) e)) := by
  have hw : IntKind.i64.wrap l = (m : Int) := by rw [hl]; exact wrap_small (by omega) (by omega)
  have h3 : ¬ ((m : Int) < 0) := by omega
  have h4 : ¬ (281474976710656 < (m : Int) * i.bytes) := by omega
  have hzero : m * i.size = 0 → Builtin.zeroCells z.cells m = #[] := fun e => by unfold Builtin.zeroCells; rw [hzs, e]; simp
  have h63' : ¬ (9223372036854775807 < ((sLen : Int) + (m : Int))) := by omega
  have h48' : ¬ (281474976710656 < Builtin.nextslicecap (sLen + m) sCap * i.bytes) := by omega
  have hm : IntKind.i64.max = 9223372036854775807 := rfl
  by_cases e0 : m * i.size = 0
  · have e1 := hzero e0
    simp [Builtin.append_, h0, h1, run_underlying hd, run_underlying h2, sizeOf, typeInfo, zeroValue, hz, hi, Go.asInt, asIntOf, hw, h3, h4, hlt, e1, hm, h63', h48', Question.forced, hold, Go.newRow, grownCap]
  · simp [Builtin.append_, h0, h1, run_underlying hd, run_underlying h2, sizeOf, typeInfo, zeroValue, hz, hi, Go.asInt, asIntOf, hw, h3, h4, hlt, e0, hm, h63', h48', Question.forced, hold, Go.newRow, grownCap]
end

end
end Go.Zr
