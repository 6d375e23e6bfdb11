import Derived.Test.YtkcpfhlfjdnkdaaGreatDoorZtE
namespace Go.Zr
noncomputable section

section
variable {P : Program} {tb : Tb} {ρ ρ' : Env}

/-- The cell of a row. -/
theorem cell_at {H : Hp} {w : World} (hr : Rel ρ H.get w) {o : Nat} {t : TypeId} {cs : List AV} {k off : Nat} {L : Loc} {a : AV} (hg : H.get o = some (.row t cs k)) (hL : ρ.loc o = some L) (hc : cs[off]? = some a) :
    ∃ x, w.cell? ⟨L.blk, L.lo + off, none⟩ = some x ∧ VRel ρ a x := by
  obtain ⟨M, m1, c, fr, h1, h2, h3, h4, _⟩ := hr.obj o _ hg
  rw [hL] at m1; cases m1
  obtain ⟨x, hx, hv⟩ := h4.get off a hc
  have hlt : off < cs.length := (List.getElem?_eq_some_iff.1 hc).1
  rw [List.getElem?_take, if_pos hlt, List.getElem?_drop] at hx
  exact ⟨x, by simp [World.cell?, h1, ← hx], hv⟩

theorem store_any {w w' : World} {a : Addr} {v x : Value} (m : Mode) (hc : w.cell? a = some x) (h : (store a v).run P w = .ok () w') : (store a v m).run P w = .ok () w' := by
  cases v <;> simp only [store, Sem.run, hc] at h ⊢ <;> exact h

/-- One cell stored, at once. -/
theorem storeM_sound {g : Gh} {n : Nat} {w : World} (hr : Rel ρ g w) {o off : Nat} {t : TypeId} {cs r : List AV} {k : Nat} {av : AV} {v x : Value} {L : Loc}
    (hg : g o = some (.row t cs k)) (hk : k ≠ 1) (hp : putAt cs off [av] = some r) (hv : VRel ρ av v) (hs : isScalar av = true) (hL : ρ.loc o = some L) (hc : w.cell? ⟨L.blk, L.lo + off, none⟩ = some x) :
    ∃ w', (store ⟨L.blk, L.lo + off, none⟩ v .atomic).run P w = .ok () w' ∧ Ext ρ g n w ρ (upd g o (some (.row t r k))) n w' := by
  obtain ⟨M, hM, w', h1, h2⟩ := store_sound (P := P) (n := n) hr hg hk hp (VRels.cons hv VRels.nil) (by simp [hs])
  rw [hL] at hM; cases hM
  refine ⟨w', store_any .atomic hc ?_, h2⟩
  have e : storeCells ⟨L.blk, L.lo + off, none⟩ [v] 0 = (do store ((⟨L.blk, L.lo + off, none⟩ : Addr).add 0) v; storeCells ⟨L.blk, L.lo + off, none⟩ [] 1) := rfl
  rw [e, Sem.run_bind, addr_add, Nat.add_zero] at h1
  cases hq : (store ⟨L.blk, L.lo + off, none⟩ v).run P w with
  | halt a b => rw [hq] at h1; cases h1
  | ok u w1 => rw [hq] at h1; exact h1

/-! ### Numbers that are read and written at once. -/
def cellI (H : Hp) (o off : Nat) : R Int := match H.get o with
  | some (.row _ cs k) => bif Nat.beq k 1 then .bad "atomic" else match cs[off]? with
    | some (.int .i64 x) => .ok x
    | _ => .bad "atomic"
  | _ => .bad "atomic"

def putI (H : Hp) (o off : Nat) (x : Int) : R Hp := storeO H o off [.int .i64 x]

def atomLoad (args : List AV) (H : Hp) (n : Nat) : M AV := match args with
  | [.ptr (some o) _ off] => (cellI H o off).bind fun x => .ok (.int .i64 x, H, n)
  | _ => .bad "atomic"
def atomStore (args : List AV) (H : Hp) (n : Nat) : M AV := match args with
  | [.ptr (some o) _ off, .int .i64 y] => (cellI H o off).bind fun _ => (putI H o off y).bind fun H => .ok (undA, H, n)
  | _ => .bad "atomic"
def atomAdd (args : List AV) (H : Hp) (n : Nat) : M AV := match args with
  | [.ptr (some o) _ off, .int .i64 y] => (cellI H o off).bind fun x => (putI H o off (IntKind.i64.wrap (x + y))).bind fun H => .ok (.int .i64 (IntKind.i64.wrap (x + y)), H, n)
  | _ => .bad "atomic"
def atomCas (args : List AV) (H : Hp) (n : Nat) : M AV := match args with
  | [.ptr (some o) _ off, .int .i64 y, .int .i64 z] => (cellI H o off).bind fun x => bif x == y then (putI H o off z).bind fun H => .ok (.bool true, H, n) else .ok (.bool false, H, n)
  | _ => .bad "atomic"

theorem cellI_at {H : Hp} {w : World} (hr : Rel ρ H.get w) {o off : Nat} {x : Int} (h : cellI H o off = .ok x) {L : Loc} (hL : ρ.loc o = some L) :
    ∃ t cs k, H.get o = some (.row t cs k) ∧ k ≠ 1 ∧ cs[off]? = some (.int .i64 x) ∧ w.cell? ⟨L.blk, L.lo + off, none⟩ = some (.int .i64 x) := by
  unfold cellI at h
  split at h
  · rename_i t cs k hg
    cases hk : Nat.beq k 1 with
    | true => rw [hk] at h; cases h
    | false =>
      rw [hk] at h
      simp only [cond_false] at h
      split at h
      · rename_i y hc
        cases h
        obtain ⟨v, h1, h2⟩ := cell_at hr hg hL hc
        simp only [VRel] at h2; subst h2
        exact ⟨t, cs, k, hg, (fun e => by subst e; simp at hk), hc, h1⟩
      · cases h
  · cases h

theorem putI_at {H H' : Hp} {n : Nat} {w : World} (hr : Rel ρ H.get w) {o off : Nat} {x z : Int} (h0 : cellI H o off = .ok x) (h : putI H o off z = .ok H') {L : Loc} (hL : ρ.loc o = some L) :
    ∃ w', (store ⟨L.blk, L.lo + off, none⟩ (.int .i64 z) .atomic).run P w = .ok () w' ∧ Ext ρ H.get n w ρ H'.get n w' := by
  obtain ⟨t, cs, k, hg, hk, _, hc⟩ := cellI_at hr h0 hL
  unfold putI storeO at h
  rw [hg] at h
  simp only [nbeq_ne hk, cond_false] at h
  split at h
  · rename_i r hp
    cases h
    obtain ⟨w', h1, h2⟩ := storeM_sound (P := P) (n := n) hr hg hk hp (v := .int .i64 z) (by simp only [VRel]) rfl hL hc
    exact ⟨w', h1, by rw [upd_set]; exact h2⟩
  · cases h

theorem read_run {w : World} {a : Addr} {x : Int} (hc : w.cell? a = some (.int .i64 x)) : (Extern.Atomic.read (.int .i64) a).run P w = .ok (.int .i64 x) w := by
  simp [Extern.Atomic.read, load, Sem.run, hc]

theorem vrels_ptr {o off : Nat} {im : List AV} {l : List AV} {vs : Array Value} (h : VRels ρ (.ptr (some o) im off :: l) vs.toList) : ∃ L r, ρ.loc o = some L ∧ vs.toList = .pointer (some ⟨L.blk, L.lo + off, none⟩) :: r ∧ VRels ρ l r := by
  simp only [VRels] at h
  obtain ⟨v, r, e, h1, h2⟩ := h
  simp only [VRel] at h1
  obtain ⟨L, hL, rfl⟩ := h1
  exact ⟨L, r, hL, e, h2⟩

theorem atomLoad_sound {args : List AV} {H H' : Hp} {n n' : Nat} {v : AV} (h : atomLoad args H n = .ok (v, H', n')) {w : World} {vs : Array Value} (hr : Rel ρ H.get w) (hv : VRels ρ args vs.toList) :
    EffV P ρ H.get n w v H'.get n' (Extern.Atomic.loadT (.int .i64) vs) := by
  unfold atomLoad at h
  split at h
  · rename_i o im off
    rw [R.bind_ok] at h; obtain ⟨x, hx, h⟩ := h
    cases h
    obtain ⟨y, rfl, h1⟩ := vrels_one hv
    simp only [VRel] at h1
    obtain ⟨L, hL, rfl⟩ := h1
    obtain ⟨_, _, _, _, _, _, hc⟩ := cellI_at hr hx hL
    refine EffV.same hr (x := .int .i64 x) ?_ (by simp only [VRel])
    have e : Extern.Atomic.loadT (.int .i64) #[.pointer (some ⟨L.blk, L.lo + off, none⟩)] = (do Extern.Atomic.read (.int .i64) (← asAddr (.pointer (some ⟨L.blk, L.lo + off, none⟩)))) := rfl
    rw [e]
    simp [asAddr, read_run hc]
  · cases h

theorem atomStore_sound {args : List AV} {H H' : Hp} {n n' : Nat} {v : AV} (h : atomStore args H n = .ok (v, H', n')) {w : World} {vs : Array Value} (hr : Rel ρ H.get w) (hv : VRels ρ args vs.toList) :
    EffV P ρ H.get n w v H'.get n' (Extern.Atomic.storeT vs) := by
  unfold atomStore at h
  split at h
  · rename_i o im off y
    rw [R.bind_ok] at h; obtain ⟨x, hx, h⟩ := h
    rw [R.bind_ok] at h; obtain ⟨H1, h1, h⟩ := h
    cases h
    obtain ⟨a, b, rfl, k1, k2⟩ := vrels_two hv
    simp only [VRel] at k1 k2
    obtain ⟨L, hL, rfl⟩ := k1
    subst k2
    obtain ⟨w', r1, r2⟩ := putI_at (P := P) (n := n) hr hx h1 hL
    refine ⟨.tuple #[], w', ρ, ?_, r2, by simp only [undA, VRel]; exact ⟨#[], rfl, .nil⟩⟩
    have e : Extern.Atomic.storeT #[.pointer (some ⟨L.blk, L.lo + off, none⟩), .int .i64 y] = (do store (← asAddr (.pointer (some ⟨L.blk, L.lo + off, none⟩))) (.int .i64 y) .atomic; pure Extern.Atomic.none_) := rfl
    rw [e]
    simp [asAddr, r1, Extern.Atomic.none_]
  · cases h

theorem atomAdd_sound {args : List AV} {H H' : Hp} {n n' : Nat} {v : AV} (h : atomAdd args H n = .ok (v, H', n')) {w : World} {vs : Array Value} (hr : Rel ρ H.get w) (hv : VRels ρ args vs.toList) :
    EffV P ρ H.get n w v H'.get n' (Extern.Atomic.update (Op.intArith .add) .i64 true vs) := by
  unfold atomAdd at h
  split at h
  · rename_i o im off y
    rw [R.bind_ok] at h; obtain ⟨x, hx, h⟩ := h
    rw [R.bind_ok] at h; obtain ⟨H1, h1, h⟩ := h
    cases h
    obtain ⟨a, b, rfl, k1, k2⟩ := vrels_two hv
    simp only [VRel] at k1 k2
    obtain ⟨L, hL, rfl⟩ := k1
    subst k2
    obtain ⟨_, _, _, _, _, _, hc⟩ := cellI_at hr hx hL
    obtain ⟨w', r1, r2⟩ := putI_at (P := P) (n := n) hr hx h1 hL
    refine ⟨.int .i64 (IntKind.i64.wrap (x + y)), w', ρ, ?_, r2, by simp only [VRel]⟩
    have e : Extern.Atomic.update (Op.intArith .add) .i64 true #[.pointer (some ⟨L.blk, L.lo + off, none⟩), .int .i64 y] = (do
        let a ← asAddr (.pointer (some ⟨L.blk, L.lo + off, none⟩))
        let old ← Extern.Atomic.read (.int .i64) a
        let new ← Op.intArith .add .i64 (← Go.asInt old) (← Go.asInt (.int .i64 y))
        store a new .atomic
        pure (if true then new else old)) := rfl
    rw [e]
    simp [asAddr, read_run hc, Go.asInt, asIntOf, Op.intArith, r1]
  · cases h

theorem atomCas_sound {args : List AV} {H H' : Hp} {n n' : Nat} {v : AV} (h : atomCas args H n = .ok (v, H', n')) {w : World} {vs : Array Value} (hr : Rel ρ H.get w) (hv : VRels ρ args vs.toList) :
    EffV P ρ H.get n w v H'.get n' (Extern.Atomic.casT (.int .i64) vs) := by
  unfold atomCas at h
  split at h
  · rename_i o im off y z
    rw [R.bind_ok] at h; obtain ⟨x, hx, h⟩ := h
    simp only [VRels] at hv
    obtain ⟨a, l, hvs, k1, b, l2, rfl, k2, c, l3, rfl, k3, rfl⟩ := hv
    simp only [VRel] at k1 k2 k3
    obtain ⟨L, hL, rfl⟩ := k1
    subst k2; subst k3
    have hvs' : vs = #[.pointer (some ⟨L.blk, L.lo + off, none⟩), .int .i64 y, .int .i64 z] := by apply Array.ext'; rw [hvs]
    subst hvs'
    obtain ⟨t, cs, k, hg, hk, hcs, hc⟩ := cellI_at hr hx hL
    obtain ⟨M, m1, cc, fr, q1, q2, q3, q4, q5, q6⟩ := hr.obj o _ hg
    rw [hL] at m1; cases m1
    have hoff : L.lo + off < cc.size := by
      have := (List.getElem?_eq_some_iff.1 hcs).1
      omega
    have hfr : w.frozen? ⟨L.blk, L.lo + off, none⟩ = false := by
      obtain ⟨lo, hi'⟩ := fr
      simp only [World.frozen?, q1, Bool.and_eq_false_iff, decide_eq_false_iff_not]
      rcases q6 hk with h | h
      · cases h; right; omega
      · left; simp only at h; omega
    have ht : (Extern.Atomic.touchesFrozen ⟨L.blk, L.lo + off, none⟩).run P w = .ok false w := by
      simp [Extern.Atomic.touchesFrozen, viewAt, shape_of q1, frozen, shape, Sem.run, hfr]
    have e : Extern.Atomic.casT (.int .i64) #[.pointer (some ⟨L.blk, L.lo + off, none⟩), .int .i64 y, .int .i64 z] = (do
        let a ← asAddr (.pointer (some ⟨L.blk, L.lo + off, none⟩))
        if ← Extern.Atomic.touchesFrozen a then unsupported (.unsafePointer "a write to bytes that a string shares")
        let eq ← match Extern.Atomic.T.int .i64, ← Extern.Atomic.read (.int .i64) a, Value.int .i64 y with
          | _, .int _ x, .int _ y => pure (x == y)
          | .ptr, .pointer x, .pointer y => samePointer x y
          | .int _, .pointer (some _), .int _ 0 | .int _, .int _ 0, .pointer (some _) => pure false
          | .int _, .pointer (some _), _ | .int _, _, .pointer (some _) => unsupported .addressObserved
          | _, _, _ => stuck "atomic.CompareAndSwap: old is no T"
        if eq then store a (.int .i64 z) .atomic
        pure (.bool eq)) := rfl
    rw [e]
    cases hxy : (x == y) with
    | true =>
      rw [hxy] at h
      simp only [cond_true] at h
      rw [R.bind_ok] at h; obtain ⟨H1, h1, h⟩ := h
      cases h
      obtain ⟨w', r1, r2⟩ := putI_at (P := P) (n := n) hr hx h1 hL
      have hq : x = y := by simpa using hxy
      exact ⟨.bool true, w', ρ, by simp [asAddr, ht, read_run hc, hq, r1], r2, by simp only [VRel]⟩
    | false =>
      rw [hxy] at h
      simp only [cond_false] at h
      cases h
      have hq : ¬ x = y := by simpa using hxy
      exact EffV.same hr (x := .bool false) (by simp [asAddr, ht, read_run hc, hq]) (by simp only [VRel])
  · cases h
end
end
end Go.Zr
