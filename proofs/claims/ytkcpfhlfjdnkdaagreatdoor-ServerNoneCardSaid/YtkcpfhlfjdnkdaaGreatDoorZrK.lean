import Derived.Test.YtkcpfhlfjdnkdaaGreatDoorZrJ
namespace Go.Zr

def Value.tag : Value → Nat
  | .bool _ => 0 | .int _ _ => 1 | .string _ => 2 | .pointer _ => 3 | .slice _ _ _ => 4 | .map _ => 5 | .func _ _ _ => 6 | .nilFunc => 7 | .iface _ _ => 8 | .nilIface => 9 | .agg _ => 10 | .tuple _ => 11
  | .float _ _ => 12 | .complex _ _ _ => 13 | .chan _ => 14
def AV.tag : AV → Nat
  | .bool _ => 0 | .int _ _ => 1 | .str _ => 2 | .pnil => 3 | .ptr _ _ _ => 3 | .snil => 4 | .slice _ _ _ _ _ _ _ => 4 | .mnil => 5 | .map _ => 5 | .func _ _ _ => 6 | .fnil => 7 | .iface _ _ => 8 | .inil => 9 | .agg _ => 10 | .tuple _ => 11

section
variable {P : Program} {tb : Tb} {ρ : Env}

theorem VRel.tag {a : AV} {v : Value} (h : VRel ρ a v) : Value.tag v = AV.tag a := by
  cases a with
  | ptr o im off => obtain ⟨a, rfl⟩ := VRel.ptr_some h; rfl
  | slice o im off len lo ex es => obtain ⟨a, l, c, rfl⟩ := VRel.slice_some h; rfl
  | map o => simp only [VRel] at h; obtain ⟨_, _, rfl⟩ := h; rfl
  | func fn fs cs => simp only [VRel] at h; obtain ⟨_, _, _, rfl, _⟩ := h; rfl
  | iface t x => simp only [VRel] at h; obtain ⟨_, rfl, _⟩ := h; rfl
  | agg cs => simp only [VRel] at h; obtain ⟨_, rfl, _⟩ := h; rfl
  | tuple cs => simp only [VRel] at h; obtain ⟨_, rfl, _⟩ := h; rfl
  | bool b => simp only [VRel] at h; subst h; rfl
  | int k n => simp only [VRel] at h; subst h; rfl
  | str s => simp only [VRel] at h; subst h; rfl
  | pnil => simp only [VRel] at h; subst h; rfl
  | snil => simp only [VRel] at h; subst h; rfl
  | mnil => simp only [VRel] at h; subst h; rfl
  | fnil => simp only [VRel] at h; subst h; rfl
  | inil => simp only [VRel] at h; subst h; rfl

theorem binOp_eql (t : TypeId) : ∀ (x y : Value), ¬ (Value.tag x = 1 ∧ Value.tag y = 1) → ¬ (Value.tag x = 2 ∧ Value.tag y = 2) → Value.tag x < 12 → Value.tag y < 12 → binOp .eql t x y = (do pure (.bool (← Op.equal t x y)))
  | .bool _, y, _, _, _, _ => by cases y <;> rfl
  | .int _ _, y, h, _, _, _ => by cases y <;> first | rfl | exact absurd ⟨rfl, rfl⟩ h
  | .string _, y, _, h, _, _ => by cases y <;> first | rfl | exact absurd ⟨rfl, rfl⟩ h
  | .pointer _, y, _, _, _, _ => by cases y <;> rfl
  | .slice _ _ _, y, _, _, _, _ => by cases y <;> rfl
  | .map _, y, _, _, _, _ => by cases y <;> rfl
  | .func _ _ _, y, _, _, _, _ => by cases y <;> rfl
  | .nilFunc, y, _, _, _, _ => by cases y <;> rfl
  | .iface _ _, y, _, _, _, _ => by cases y <;> rfl
  | .nilIface, y, _, _, _, _ => by cases y <;> rfl
  | .agg _, y, _, _, _, _ => by cases y <;> rfl
  | .tuple _, y, _, _, _, _ => by cases y <;> rfl
  | .float _ _, _, _, _, h, _ => by simp [Value.tag] at h
  | .complex _ _ _, _, _, _, h, _ => by simp [Value.tag] at h
  | .chan _, _, _, _, h, _ => by simp [Value.tag] at h

theorem binOp_neq (t : TypeId) : ∀ (x y : Value), ¬ (Value.tag x = 1 ∧ Value.tag y = 1) → ¬ (Value.tag x = 2 ∧ Value.tag y = 2) → Value.tag x < 12 → Value.tag y < 12 → binOp .neq t x y = (do pure (.bool (!(← Op.equal t x y))))
  | .bool _, y, _, _, _, _ => by cases y <;> rfl
  | .int _ _, y, h, _, _, _ => by cases y <;> first | rfl | exact absurd ⟨rfl, rfl⟩ h
  | .string _, y, _, h, _, _ => by cases y <;> first | rfl | exact absurd ⟨rfl, rfl⟩ h
  | .pointer _, y, _, _, _, _ => by cases y <;> rfl
  | .slice _ _ _, y, _, _, _, _ => by cases y <;> rfl
  | .map _, y, _, _, _, _ => by cases y <;> rfl
  | .func _ _ _, y, _, _, _, _ => by cases y <;> rfl
  | .nilFunc, y, _, _, _, _ => by cases y <;> rfl
  | .iface _ _, y, _, _, _, _ => by cases y <;> rfl
  | .nilIface, y, _, _, _, _ => by cases y <;> rfl
  | .agg _, y, _, _, _, _ => by cases y <;> rfl
  | .tuple _, y, _, _, _, _ => by cases y <;> rfl
  | .float _ _, _, _, _, h, _ => by simp [Value.tag] at h
  | .complex _ _ _, _, _, _, h, _ => by simp [Value.tag] at h
  | .chan _, _, _, _, h, _ => by simp [Value.tag] at h

theorem AV.tag_lt (a : AV) : AV.tag a < 12 := by cases a <;> simp [AV.tag]

theorem guardIn_nil (ok : TbOk P tb) (w : World) (n d : Nat) {t : TypeId} (hn : noIf tb (d + 1) t = true) : (Op.eqGuardIn (n + 1) t .nilIface .nilIface).run P w = .ok false w := by
  simp only [Op.eqGuardIn, Sem.run_bind]
  unfold noIf at hn
  split at hn
  · rename_i ms hu; simp [ok.run_und hu, hn]
  · rename_i fs hu; simp [ok.run_und hu]
  · rename_i e hu; simp [ok.run_und hu]
  · rename_i u h1 h2 h3 hu
    simp only [ok.run_und hu, Result.andThen_ok]
    cases u <;> first | (exact absurd rfl (h1 _)) | rfl
  · cases hn

theorem isConst_matches (x : Operand) : (x matches .const _) = isConst x := by cases x <;> rfl

theorem eqGuard_nil (w : World) (op : BinOp) (t : TypeId) (x y : Operand) (h : isConst x = true ∨ isConst y = true ∨ (Op.eqGuardIn 10000 t .nilIface .nilIface).run P w = .ok false w) : (eqGuard op t x y .nilIface .nilIface).run P w = .ok () w := by
  have hd : Op.maxDepth = 10000 := rfl
  cases x <;> cases y <;> cases op <;> simp_all [eqGuard, isConst]

theorem eqGuard_other (w : World) (op : BinOp) (t : TypeId) (x y : Operand) (va vb : Value) (h1 : ¬ (Value.tag va = 9 ∧ Value.tag vb = 9)) (h2 : ¬ (Value.tag va = 10 ∧ Value.tag vb = 10)) : (eqGuard op t x y va vb).run P w = .ok () w := by
  cases op <;> first
    | rfl
    | (cases va <;> first
        | rfl
        | (cases vb <;> first
            | rfl
            | exact absurd ⟨rfl, rfl⟩ h1
            | exact absurd ⟨rfl, rfl⟩ h2))

theorem guard_sound (ok : TbOk P tb) (w : World) {op : BinOp} {a b : AV} {va vb : Value} (ha : VRel ρ a va) (hb : VRel ρ b vb) {t : TypeId} {x y : Operand} (hg : binA.guard tb t x y a b = true) : (eqGuard op t x y va vb).run P w = .ok () w := by
  unfold binA.guard at hg
  split at hg
  · simp only [VRel] at ha hb; subst ha hb
    simp only [Bool.or_eq_true] at hg
    apply eqGuard_nil
    rcases hg with (h1 | h1) | h1
    · exact .inl h1
    · exact .inr (.inl h1)
    · exact .inr (.inr (guardIn_nil ok w 9999 49 h1))
  · simp only [VRel] at ha hb
    obtain ⟨xs, rfl, _⟩ := ha
    obtain ⟨ys, rfl, _⟩ := hb
    exact run_eqGuard_agg w op t x y xs ys (noIf_sound ok 50 t hg P.depth ok.depth)
  · rename_i h1 h2
    refine eqGuard_other w op t x y va vb ?_ ?_
    · rw [ha.tag, hb.tag]
      rintro ⟨e1, e2⟩
      have f1 : a = .inil := by cases a <;> simp [AV.tag] at e1 <;> rfl
      have f2 : b = .inil := by cases b <;> simp [AV.tag] at e2 <;> rfl
      exact h1 f1 f2
    · rw [ha.tag, hb.tag]
      rintro ⟨e1, e2⟩
      have f1 : ∃ c, a = .agg c := by cases a <;> simp [AV.tag] at e1 <;> exact ⟨_, rfl⟩
      have f2 : ∃ c, b = .agg c := by cases b <;> simp [AV.tag] at e2 <;> exact ⟨_, rfl⟩
      obtain ⟨c1, rfl⟩ := f1
      obtain ⟨c2, rfl⟩ := f2
      exact h2 _ _ rfl rfl

theorem binA_sound (ok : TbOk P tb) {H : Hp} {w : World} (hr : Rel ρ H.get w) {op : BinOp} {a b r : AV} {va vb : Value} (ha : VRel ρ a va) (hb : VRel ρ b vb) {t : TypeId} {x y : Operand} (hop : op ≠ .shl ∧ op ≠ .shr)
    (h : binA tb op t x y a b H = .ok r) : ∃ v, (do eqGuard op t x y va vb; binOp op t va vb : Sem Value).run P w = .ok v w ∧ VRel ρ r v := by
  have eqRun : ∀ c, eqA tb H 50 t a b = .ok c → (Op.equal t va vb).run P w = .ok c w := fun c hc => eq_sound ok hr 50 t a b va vb c ha hb hc 10000 (by omega)
  unfold binA at h
  split at h
  · rename_i k n k' m
    simp only [VRel] at ha hb; subst ha hb
    cases hk : (k == k') with
    | false => simp [hk] at h
    | true =>
      simp only [hk, cond_true] at h
      have := kind_of_beq hk; subst this
      obtain ⟨v, h1, h2⟩ := intOp_sound (P := P) (ρ := ρ) w h t hop.1 hop.2
      exact ⟨v, by simp [eqGuard_int, h1], h2⟩
  · simp only [VRel] at ha hb; subst ha hb
    obtain ⟨v, h1, h2⟩ := strOp_sound (P := P) (ρ := ρ) w h t
    exact ⟨v, by simp [eqGuard_str, h1], h2⟩
  · rename_i hi hs
    unfold R.need at h
    cases hg : binA.guard tb t x y a b with
    | false => simp [hg] at h
    | true =>
      simp only [hg, cond_true] at h
      rw [R.bind_ok] at h; obtain ⟨c, hc, h⟩ := h
      cases h
      refine ⟨.bool c, ?_, VRel.bool⟩
      rw [Sem.run_bind, guard_sound ok w ha hb hg, Result.andThen_ok, binOp_eql t va vb ?_ ?_ (ha.tag ▸ AV.tag_lt a) (hb.tag ▸ AV.tag_lt b)]
      · simp [eqRun c hc]
      · rw [ha.tag, hb.tag]
        rintro ⟨e1, e2⟩
        cases a <;> simp [AV.tag] at e1
        cases b <;> simp [AV.tag] at e2
        exact hi _ _ _ _ rfl rfl
      · rw [ha.tag, hb.tag]
        rintro ⟨e1, e2⟩
        cases a <;> simp [AV.tag] at e1
        cases b <;> simp [AV.tag] at e2
        exact hs _ _ rfl rfl
  · rename_i hi hs
    unfold R.need at h
    cases hg : binA.guard tb t x y a b with
    | false => simp [hg] at h
    | true =>
      simp only [hg, cond_true] at h
      rw [R.bind_ok] at h; obtain ⟨c, hc, h⟩ := h
      cases h
      refine ⟨.bool (!c), ?_, VRel.bool⟩
      rw [Sem.run_bind, guard_sound ok w ha hb hg, Result.andThen_ok, binOp_neq t va vb ?_ ?_ (ha.tag ▸ AV.tag_lt a) (hb.tag ▸ AV.tag_lt b)]
      · simp [eqRun c hc]
      · rw [ha.tag, hb.tag]
        rintro ⟨e1, e2⟩
        cases a <;> simp [AV.tag] at e1
        cases b <;> simp [AV.tag] at e2
        exact hi _ _ _ _ rfl rfl
      · rw [ha.tag, hb.tag]
        rintro ⟨e1, e2⟩
        cases a <;> simp [AV.tag] at e1
        cases b <;> simp [AV.tag] at e2
        exact hs _ _ rfl rfl
  · cases h

/-! ### Conversions that read -/
theorem bytes_from : ∀ {l : List AV} {s : List UInt8} {vs : List Value}, bytesFrom l = some s → VRels ρ l vs → ∃ ns : List Int, vs = ns.map (Value.int .u8) ∧ s = ns.map fun n => UInt8.ofNat n.toNat
  | [], s, vs, h, hv => by simp [bytesFrom] at h; subst h; simp only [VRels] at hv; subst hv; exact ⟨[], rfl, rfl⟩
  | a :: l, s, vs, h, hv => by
    unfold bytesFrom at h
    split at h
    · rename_i e; cases e
    · rename_i n l' e
      cases e
      simp only [Option.map_eq_some_iff] at h
      obtain ⟨s', h1, rfl⟩ := h
      simp only [VRels] at hv
      obtain ⟨v, r, rfl, h2, h3⟩ := hv
      simp only [VRel] at h2; subst h2
      obtain ⟨ns, rfl, rfl⟩ := bytes_from h1 h3
      exact ⟨n :: ns, rfl, rfl⟩
    · cases h

theorem runes_from : ∀ {l : List AV} {s : List UInt8} {vs : List Value}, runesFrom l = some s → VRels ρ l vs → ∃ ns : List Int, vs = ns.map (Value.int .i32) ∧ s = ns.flatMap fun n => (Utf8.encode n).data.toList
  | [], s, vs, h, hv => by simp [runesFrom] at h; subst h; simp only [VRels] at hv; subst hv; exact ⟨[], rfl, rfl⟩
  | a :: l, s, vs, h, hv => by
    unfold runesFrom at h
    split at h
    · rename_i e; cases e
    · rename_i n l' e
      cases e
      simp only [Option.map_eq_some_iff] at h
      obtain ⟨s', h1, rfl⟩ := h
      simp only [VRels] at hv
      obtain ⟨v, r, rfl, h2, h3⟩ := hv
      simp only [VRel] at h2; subst h2
      obtain ⟨ns, rfl, rfl⟩ := runes_from h1 h3
      exact ⟨n :: ns, rfl, by simp⟩
    · cases h

theorem foldl_runes : ∀ (ns : List Int) (s : ByteArray), ns.foldl (fun r n => r ++ Utf8.encode n) s = ⟨s.data ++ (ns.flatMap fun n => (Utf8.encode n).data.toList).toArray⟩
  | [], s => by simp
  | n :: ns, s => by
    rw [List.foldl_cons, foldl_runes ns]
    congr 1
    rw [ByteArray.data_append]
    apply Array.ext'
    simp

/-- The cells of a slice. -/
theorem slice_cells {H : Hp} {w : World} (hr : Rel ρ H.get w) {o : Option Nat} {im : List AV} {off len lo es : Nat} {ex : Bool} {v : Value} (hv : VRel ρ (.slice o im off len lo ex es) v) {cs : List AV} (hc : cellsOf H o im = .ok cs) {n : Nat} {l : List AV}
    (hl : sub cs off n = .ok l) (hn : n ≤ len * es) : ∃ a cap vs, v = .slice (some a) len cap ∧ (loadCells a n).run P w = .ok vs w ∧ VRels ρ l vs.toList := by
  have zero : ∀ a, n = 0 → ∃ vs, (loadCells a n).run P w = .ok vs w ∧ VRels ρ l vs.toList := by
    intro a e; subst e
    obtain ⟨rfl, _, _⟩ := sub_ok hl
    exact ⟨#[], by simp [loadCells, loadCellsFrom], by simpa using .nil⟩
  cases o with
  | some o =>
    simp only [VRel] at hv
    obtain ⟨L, a, cap, h1, rfl, h3, h4, _, h6⟩ := hv
    rcases h6 with h6 | ⟨rfl, _⟩
    · have e : len = 0 := by omega
      subst e
      have e2 : n = 0 := by omega
      obtain ⟨vs, k1, k2⟩ := zero a e2
      exact ⟨a, cap, vs, rfl, k1, k2⟩
    · obtain ⟨b, i, e, hcell⟩ := base_cells (off := off) hr (v := .pointer (some ⟨L.blk, L.lo + off, none⟩)) (by simp only [VRel]; exact ⟨L, h1, rfl⟩) hc
      obtain ⟨vs, k1, k2⟩ := run_loadCells_rel (P := P) hcell hl
      have e2 := Option.some.inj (Value.pointer.inj e)
      rw [← e2] at k1
      exact ⟨_, cap, vs, rfl, k1, k2⟩
  | none =>
    simp only [VRel] at hv
    obtain ⟨b, i, vs0, a, cap, rfl, h3, h4, _, h6, h7, h8⟩ := hv
    rcases h6 with h6 | rfl
    · have e : len = 0 := by omega
      subst e
      have e2 : n = 0 := by omega
      obtain ⟨vs, k1, k2⟩ := zero a e2
      exact ⟨a, cap, vs, rfl, k1, k2⟩
    · obtain ⟨b', i', e, hcell⟩ := base_cells (off := off) hr (v := .pointer (some ⟨b, i + off, none⟩)) (by simp only [VRel]; exact ⟨b, i, vs0, rfl, h7, h8⟩) hc
      obtain ⟨vs, k1, k2⟩ := run_loadCells_rel (P := P) hcell hl
      have e2 := Option.some.inj (Value.pointer.inj e)
      rw [← e2] at k1
      exact ⟨_, cap, vs, rfl, k1, k2⟩

end
end Go.Zr
