import Derived.Test.YtkcpfhlfjdnkdaaGreatDoorZtA
import Derived.ChangeArms
import Derived.OpenShut
import Derived.Lib.LaidU8
namespace Go.Zr

/-! What a datum without pointers says of the cells that read as it. -/
def chunkB (B : DataW Unit → List AV → Bool) (ce : Nat) : List (DataW Unit) → List AV → Bool
  | [], avs => avs.isEmpty
  | d :: ds, avs => B d (avs.take ce) && chunkB B ce ds (avs.drop ce)

def fieldB (P : Program) (B : TypeId → DataW Unit → List AV → Bool) : List Field → List (DataW Unit) → List AV → Nat → Bool
  | [], ds, avs, _ => ds.isEmpty && avs.isEmpty
  | f :: fs, ds, avs, off => match ds with
    | [] => false
    | d :: ds => Nat.beq f.offset off && B f.type d (avs.take (P.cellsOf f.type)) && fieldB P B fs ds (avs.drop (P.cellsOf f.type)) (off + P.cellsOf f.type)

def flatB (P : Program) : Nat → TypeId → DataW Unit → List AV → Bool
  | 0, _, _, _ => false
  | k + 1, t, d, avs => match P.underlying t, d with
    | some (.int _), .lit (.int k n) => (match avs with | [.int k' n'] => decide (k = k') && decide (n = n') | _ => false)
    | some .string, .lit (.string s) => (match avs with | [.str s'] => beqB s s' | _ => false)
    | some (.array n e), .agg ds => Nat.beq (P.cellsOf t) (n * P.cellsOf e) && (Nat.beq ds.length n && chunkB (flatB P k e) (P.cellsOf e) ds avs)
    | some (.struct fs), .agg ds => Nat.beq (P.cellsOf t) avs.length && fieldB P (flatB P k) fs.toList ds avs 0
    | _, _ => false

section
variable {P : Program} {ρ : Env} {w : World} {base : Nat} {sp : Nat → Bool} {held : Bool} {enc : TypeId × Value → Unit}

theorem chunk_sound {B : DataW Unit → List AV → Bool} {e : TypeId} {ce : Nat} {cs : List Value} {m : Nat}
    (hB : ∀ d avs, B d avs = true → ∀ fuel cs p, DataW.trod enc P w base sp held fuel e cs = some (d, p) → VRels ρ avs cs) :
    ∀ (ds : List (DataW Unit)) (avs : List AV) (i : Nat), chunkB B ce ds avs = true → (∀ (j : Nat) (d : DataW Unit), ds[j]? = some d → ∃ p, DataW.trod enc P w base sp held m e ((cs.drop ((i + j) * ce)).take ce) = some (d, p)) →
      VRels ρ avs ((cs.drop (i * ce)).take (ds.length * ce))
  | [], avs, i, h, _ => by
    simp only [chunkB, List.isEmpty_iff] at h; subst h
    simpa using VRels.nil
  | d :: ds, avs, i, h, hj => by
    simp only [chunkB, Bool.and_eq_true] at h
    obtain ⟨p, h0⟩ := hj 0 d rfl
    have k1 := hB d _ h.1 m _ p h0
    have k2 := chunk_sound hB ds (avs.drop ce) (i + 1) h.2 (fun j d' hd => by
      have := hj (j + 1) d' (by simpa using hd)
      rwa [show i + (j + 1) = i + 1 + j by omega] at this)
    have e1 : (d :: ds).length * ce = ce + ds.length * ce := by rw [List.length_cons, Nat.add_mul, Nat.one_mul, Nat.add_comm]
    have e2 : (i + 1) * ce = i * ce + ce := by rw [Nat.add_mul, Nat.one_mul]
    rw [e1, List.take_add, List.drop_drop]
    rw [e2] at k2
    have := VRels.append k1 k2
    rw [List.take_append_drop] at this
    simpa using this

theorem field_sound {B : TypeId → DataW Unit → List AV → Bool} {cs : List Value} {m : Nat}
    (hB : ∀ t d avs, B t d avs = true → ∀ fuel cs p, DataW.trod enc P w base sp held fuel t cs = some (d, p) → VRels ρ avs cs) :
    ∀ (fs : List Field) (ds : List (DataW Unit)) (avs : List AV) (off : Nat), fieldB P B fs ds avs off = true →
      (∀ (j : Nat) (f : Field) (d : DataW Unit), fs[j]? = some f → ds[j]? = some d → ∃ p, DataW.trod enc P w base sp held m f.type ((cs.drop f.offset).take (P.cellsOf f.type)) = some (d, p)) →
      ∃ n, VRels ρ avs ((cs.drop off).take n)
  | [], ds, avs, off, h, _ => by
    simp only [fieldB, Bool.and_eq_true, List.isEmpty_iff] at h
    obtain ⟨rfl, rfl⟩ := h
    exact ⟨0, by simpa using VRels.nil⟩
  | f :: fs, [], avs, off, h, _ => by simp [fieldB] at h
  | f :: fs, d :: ds, avs, off, h, hj => by
    simp only [fieldB, Bool.and_eq_true] at h
    obtain ⟨⟨h1, h2⟩, h3⟩ := h
    have h1 := Nat.eq_of_beq_eq_true h1
    obtain ⟨p, h0⟩ := hj 0 f d rfl rfl
    have k1 := hB _ d _ h2 m _ p h0
    rw [h1] at k1
    obtain ⟨n, k2⟩ := field_sound hB fs ds _ _ h3 (fun j f' d' hf hd => hj (j + 1) f' d' (by simpa using hf) (by simpa using hd))
    refine ⟨P.cellsOf f.type + n, ?_⟩
    rw [List.take_add, List.drop_drop]
    have := VRels.append k1 k2
    rwa [List.take_append_drop] at this

theorem flat_sound : ∀ (k : Nat) (t : TypeId) (d : DataW Unit) (avs : List AV), flatB P k t d avs = true → ∀ fuel cs p, DataW.trod enc P w base sp held fuel t cs = some (d, p) → VRels ρ avs cs
  | 0, _, _, _, h => by simp [flatB] at h
  | k + 1, t, d, avs, h => by
    intro fuel cs p hd
    unfold flatB at h
    split at h
    · rename_i ki kd n hu
      split at h
      · rename_i k' n'
        simp only [Bool.and_eq_true, decide_eq_true_eq] at h
        obtain ⟨rfl, rfl⟩ := h
        obtain ⟨m, rfl, hx, _⟩ := DataW.trod_int hu hd
        cases hx
        exact VRels.cons (by simp only [VRel]) VRels.nil
      · cases h
    · rename_i s hu
      split at h
      · rename_i s'
        rw [beqB_eq] at h
        have : s = s' := by simpa using h
        subst this
        obtain ⟨b, rfl, hx, _⟩ := DataW.trod_string hu hd
        simp only [Prod.mk.injEq, DataW.lit.injEq, Lit.string.injEq] at hx
        obtain ⟨rfl, _⟩ := hx
        exact VRels.cons (by simp only [VRel]) VRels.nil
      · cases h
    · rename_i n e ds hu
      simp only [Bool.and_eq_true] at h
      obtain ⟨h1, h2, h3⟩ := h
      have h1 := Nat.eq_of_beq_eq_true h1
      have h2 := Nat.eq_of_beq_eq_true h2
      obtain ⟨xs, m, rfl, hx, hl, hn, hel⟩ := DataW.trod_array hu hd
      simp only [Prod.mk.injEq, DataW.agg.injEq] at hx
      have := chunk_sound (cs := cs) (m := m) (fun d avs hb => flat_sound k e d avs hb) ds avs 0 h3 (fun j d' hj => by
        rw [hx.1, List.getElem?_map] at hj
        have hlt : j < n := by
          have : j < xs.length := by
            cases hq : xs[j]? with
            | none => rw [hq] at hj; cases hj
            | some _ => exact (List.getElem?_eq_some_iff.1 hq).1
          omega
        have := hel j hlt
        cases hq : xs[j]? with
        | none => rw [hq] at hj; cases hj
        | some x =>
          rw [hq] at hj this
          simp only [Option.map_some, Option.some.injEq] at hj
          subst hj
          exact ⟨x.2, by rw [Nat.zero_add, this]⟩)
      rw [h2, ← h1, ← hl] at this
      simpa using this
    · rename_i fs ds hu
      simp only [Bool.and_eq_true] at h
      obtain ⟨h1, h2⟩ := h
      have h1 := Nat.eq_of_beq_eq_true h1
      obtain ⟨xs, m, rfl, hx, hl, hn, hel⟩ := DataW.trod_struct hu hd
      simp only [Prod.mk.injEq, DataW.agg.injEq] at hx
      obtain ⟨n, k1⟩ := field_sound (cs := cs) (m := m) (fun t d avs hb => flat_sound k t d avs hb) fs.toList ds avs 0 h2 (fun j f d' hf hj => by
        rw [hx.1, List.getElem?_map] at hj
        have := hel j f (by simpa using hf)
        cases hq : xs[j]? with
        | none => rw [hq] at hj; cases hj
        | some x =>
          rw [hq] at hj this
          simp only [Option.map_some, Option.some.injEq] at hj
          subst hj
          exact ⟨x.2, this⟩)
      have hlen := VRels.length k1
      rw [List.drop_zero, List.length_take] at hlen
      have hle : cs.length ≤ n := by omega
      rw [List.drop_zero, List.take_of_length_le hle] at k1
      exact k1
    · cases h

/-- A variable that reads as a datum: its row. -/
theorem reads_row {name : String} {d : DataW Unit} (h : Lib.VarReads P w name d) {k g : Nat} {t : TypeId} {avs : List AV} (hg : P.globalNamed name = some g) (ht : (P.globals[g]?).map (·.type) = some t) (hf : flatB P k t d avs = true) :
    ∃ ty fr cs, w.heap[g]? = some (.cells cs ty fr) ∧ VRels ρ avs cs.toList := by
  obtain ⟨g', t', cs, fuel, p, h1, h2, h3, h4⟩ := h
  obtain rfl := Option.some.inj (hg.symm.trans h1)
  obtain rfl := Option.some.inj (ht.symm.trans h2)
  have := flat_sound (ρ := ρ) k t d avs hf fuel cs.toList p h4
  unfold World.var? at h3
  rw [hg] at h3
  simp only [Option.bind_some] at h3
  split at h3
  · rename_i cs' ty fr hh
    simp only [Option.some.injEq] at h3; subst h3
    exact ⟨ty, fr, cs', hh, this⟩
  · cases h3

/-- Such a row is an object that nobody writes. -/
theorem row_rel {g : Nat} {ty : TypeId} {fr : Nat × Nat} {cs : Array Value} {avs : List AV} (h : w.heap[g]? = some (.cells cs ty fr)) (hv : VRels ρ avs cs.toList) : ORel ρ w ⟨g, 0, cs.size⟩ (.row ty avs 1) := by
  have hl := VRels.length hv
  refine ⟨cs, fr, h, by simp [hl], Nat.le_refl _, ?_, (fun e => absurd e (by decide)), (fun e => absurd rfl e)⟩
  rw [List.drop_zero, List.take_of_length_le (by omega)]
  exact hv
end
end Go.Zr
