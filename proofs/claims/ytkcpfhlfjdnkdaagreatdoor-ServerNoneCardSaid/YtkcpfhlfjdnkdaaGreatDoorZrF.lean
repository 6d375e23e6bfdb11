import Derived.Test.YtkcpfhlfjdnkdaaGreatDoorZrE
namespace Go.Zr

section
variable {P : Program} {tb : Tb} {ρ : Env}

/-! ### Slices -/
def ORelV (ρ : Env) : Option AV → Option Value → Prop
  | none, v => v = none
  | some a, v => ∃ x, v = some x ∧ VRel ρ a x

theorem opdO_rel {T : Tm} {ev : Operand → Value} {l : List Operand} (h : OpsRel tb ρ T ev l) {x : Option Operand} (hx : ∀ y, x = some y → y ∈ l) {r : Option AV} (hr : opdO tb T x = .ok r) : ORelV ρ r (x.map ev) := by
  cases x with
  | none => simp only [opdO] at hr; cases hr; rfl
  | some y =>
    simp only [opdO] at hr
    rw [R.bind_ok] at hr; obtain ⟨a, h1, hr⟩ := hr
    cases hr
    exact ⟨_, rfl, h y (hx y rfl) a h1⟩


theorem bnd_run (w : World) {v : AV} {cv : Value} (hv : VRel ρ v cv) {d top n : Nat} (h : bnd (some v) d top = .ok n) {hi : Nat} (hh : top ≤ hi) (code : BoundsCode) : (Instr.sliceBound cv hi code).run P w = .ok n w ∧ n ≤ top := by
  unfold bnd at h
  split at h
  · rename_i e; cases e
  · rename_i k i e
    cases e
    simp only [VRel] at hv; subst hv
    cases hb : (decide (0 ≤ i) && decide (i ≤ (top : Int))) with
    | false => simp [hb] at h
    | true =>
      simp only [hb, cond_true] at h; cases h
      simp only [Bool.and_eq_true, decide_eq_true_eq] at hb
      have : 0 ≤ i ∧ i ≤ (hi : Int) := ⟨hb.1, by omega⟩
      exact ⟨by simp [Instr.sliceBound, asIntOf, this], by omega⟩
  · cases h

theorem bnd_some (a : AV) (d d' top : Nat) : bnd (some a) d top = bnd (some a) d' top := by cases a <;> rfl

/-- The three bounds. -/
theorem bounds_sound (w : World) (isS : Bool) {lo hi mx : Option AV} {vlo vhi vmx : Option Value} (hlo : ORelV ρ lo vlo) (hhi : ORelV ρ hi vhi) (hmx : ORelV ρ mx vmx) {len cap clo m h l : Nat}
    (hle : len ≤ clo) (hcl : clo ≤ cap)
    (hm : (mx = none ∧ m = cap) ∨ (mx ≠ none ∧ hi ≠ none ∧ bnd mx 0 clo = .ok m)) (hh : bnd hi len (if mx = none then clo else m) = .ok h) (hl : bnd lo 0 h = .ok l) :
    (Instr.sliceBounds isS len cap vlo vhi vmx).run P w = .ok (l, h, m) w ∧ l ≤ h ∧ h ≤ m ∧ m ≤ cap ∧ (mx = none → h ≤ clo) ∧ (mx ≠ none → m ≤ clo) := by
  have low : l ≤ h ∧ ((vlo = none ∧ l = 0) ∨ (∃ x, vlo = some x ∧ ∀ code, (Instr.sliceBound x h code).run P w = .ok l w)) := by
    cases lo with
    | none => simp only [ORelV] at hlo; subst hlo; simp only [bnd] at hl; cases hl; exact ⟨Nat.zero_le _, .inl ⟨rfl, rfl⟩⟩
    | some a => obtain ⟨x, rfl, hx⟩ := hlo; exact ⟨(bnd_run (P := P) w hx hl (Nat.le_refl _) .sliceB).2, .inr ⟨x, rfl, fun code => (bnd_run w hx hl (Nat.le_refl _) code).1⟩⟩
  obtain ⟨hlh, low⟩ := low
  rcases hm with ⟨rfl, rfl⟩ | ⟨hm1, hm2, hm3⟩
  · simp only [ORelV] at hmx; subst hmx
    simp only [if_true] at hh
    cases hi with
    | none =>
      simp only [ORelV] at hhi; subst hhi
      simp only [bnd] at hh; cases hh
      refine ⟨?_, hlh, by omega, by omega, fun _ => hle, fun e => absurd rfl e⟩
      rcases low with ⟨rfl, rfl⟩ | ⟨x, rfl, hx⟩
      · simp [Instr.sliceBounds]
      · simp [Instr.sliceBounds, hx]
    | some a =>
      obtain ⟨x, rfl, hx⟩ := hhi
      have h2 := bnd_run (P := P) w hx hh hcl (if isS then .sliceAcap else .sliceAlen)
      refine ⟨?_, hlh, by omega, by omega, fun _ => h2.2, fun e => absurd rfl e⟩
      rcases low with ⟨rfl, rfl⟩ | ⟨x, rfl, hx⟩
      · simp [Instr.sliceBounds, h2.1]
      · simp [Instr.sliceBounds, h2.1, hx]
  · rw [if_neg hm1] at hh
    obtain ⟨am, rfl⟩ : ∃ am, mx = some am := by cases mx with | none => exact absurd rfl hm1 | some a => exact ⟨a, rfl⟩
    obtain ⟨ah, rfl⟩ : ∃ ah, hi = some ah := by cases hi with | none => exact absurd rfl hm2 | some a => exact ⟨a, rfl⟩
    obtain ⟨xm, rfl, hxm⟩ := hmx
    obtain ⟨xh, rfl, hxh⟩ := hhi
    have h3 := bnd_run (P := P) w hxm hm3 hcl (if isS then .slice3Acap else .slice3Alen)
    have h2 := bnd_run (P := P) w hxh hh (Nat.le_refl _) .slice3B
    refine ⟨?_, hlh, h2.2, by omega, fun e => (by cases e), fun _ => h3.2⟩
    rcases low with ⟨rfl, rfl⟩ | ⟨x, rfl, hx⟩
    · simp [Instr.sliceBounds, h3.1, h2.1]
    · simp [Instr.sliceBounds, h3.1, h2.1, hx]

theorem slice_to {L m l off es cap hi b : Nat} {a : Addr} (hl : l ≤ m) (hm : m ≤ cap) (ha : cap = 0 ∨ (a = ⟨b, L + off, none⟩ ∧ L + off + cap * es ≤ hi)) :
    ∃ a', (if m = l then some a else Option.map (fun x => x.add (l * es)) (some a)) = some a' ∧ (m - l = 0 ∨ (a' = ⟨b, L + (off + l * es), none⟩ ∧ L + (off + l * es) + (m - l) * es ≤ hi)) := by
  by_cases e : m = l
  · exact ⟨a, by rw [if_pos e], .inl (by omega)⟩
  · rw [if_neg e]
    rcases ha with h | ⟨rfl, h⟩
    · omega
    · refine ⟨_, rfl, .inr ⟨by show (⟨b, L + off, none⟩ : Addr).add (l * es) = _; rw [addr_add, Nat.add_assoc], ?_⟩⟩
      have h1 : m * es ≤ cap * es := Nat.mul_le_mul_right es hm
      have h2 : (m - l) * es = m * es - l * es := Nat.sub_mul m l es
      have h3 : l * es ≤ m * es := Nat.mul_le_mul_right es hl
      omega

theorem slice_to' {i m l off es cap b : Nat} {a : Addr} (hl : l ≤ m) (hm : m ≤ cap) (ha : cap = 0 ∨ a = ⟨b, i + off, none⟩) :
    ∃ a', (if m = l then some a else Option.map (fun x => x.add (l * es)) (some a)) = some a' ∧ (m - l = 0 ∨ a' = ⟨b, i + (off + l * es), none⟩) := by
  by_cases e : m = l
  · exact ⟨a, by rw [if_pos e], .inl (by omega)⟩
  · rw [if_neg e]
    rcases ha with h | rfl
    · omega
    · exact ⟨_, rfl, .inr (by show (⟨b, i + off, none⟩ : Addr).add (l * es) = _; rw [addr_add, Nat.add_assoc])⟩

theorem sliceAt_of (ok : TbOk P tb) (w : World) {t : TypeId} {d : TypeDesc} (hd : tb.und t = .ok d) (hna : ∀ k e, d ≠ .array k e) (x : Value) (lo hi mx : Option Value) : (Instr.sliceAt t x lo hi mx).run P w = (Instr.slice t x lo hi mx).run P w := by
  unfold Instr.sliceAt
  simp only [Sem.run_bind, ok.run_und hd, Result.andThen_ok]

theorem slice_sound (ok : TbOk P tb) (w : World) {t : TypeId} {x r : AV} {vx : Value} {lo hi mx : Option AV} {vlo vhi vmx : Option Value} (hx : VRel ρ x vx) (hlo : ORelV ρ lo vlo) (hhi : ORelV ρ hi vhi) (hmx : ORelV ρ mx vmx)
    (h : sliceA tb t x lo hi mx = .ok r) : ∃ v, (Instr.sliceAt t vx vlo vhi vmx).run P w = .ok v w ∧ VRel ρ r v := by
  unfold sliceA at h
  rw [R.bind_ok] at h; obtain ⟨d, hd, h⟩ := h
  split at h
  · -- a text
    rename_i s
    rw [sliceAt_of ok w hd (by intros; simp)]
    simp only [VRel] at hx; subst hx
    cases mx with
    | some a => cases h
    | none =>
      simp only [ORelV] at hmx; subst hmx
      simp only at h
      rw [R.bind_ok] at h; obtain ⟨hn, h1, h⟩ := h
      rw [R.bind_ok] at h; obtain ⟨ln, h2, h⟩ := h
      cases h
      obtain ⟨h3, _⟩ := bounds_sound (P := P) w false hlo hhi (mx := none) (vmx := none) rfl (len := s.length) (cap := s.length) (clo := s.length) (Nat.le_refl _) (Nat.le_refl _) (.inl ⟨rfl, rfl⟩) (by simpa using h1) h2
      refine ⟨_, ?_, VRel.str⟩
      simp [Instr.slice, ok.run_und hd, mk_size, h3, mk_extract]
  · -- nil
    rename_i e
    rw [sliceAt_of ok w hd (by intros; simp)]
    simp only [VRel] at hx; subst hx
    rw [R.bind_ok] at h; obtain ⟨sz, hsz, h⟩ := h
    have key : ∀ m hh l, ((mx = none ∧ m = 0) ∨ (mx ≠ none ∧ hi ≠ none ∧ bnd mx 0 0 = .ok m)) → bnd hi 0 (if mx = none then 0 else m) = .ok hh → bnd lo 0 hh = .ok l → r = .snil → ∃ v, (Instr.slice t (.slice none 0 0) vlo vhi vmx).run P w = .ok v w ∧ VRel ρ r v := by
      intro m hh l h1 h2 h3 h4
      subst h4
      obtain ⟨k1, k2, k3, k4, _⟩ := bounds_sound (P := P) w true hlo hhi hmx (len := 0) (cap := 0) (clo := 0) (Nat.le_refl _) (Nat.le_refl _) h1 h2 h3
      obtain rfl : m = 0 := by omega
      obtain rfl : hh = 0 := by omega
      obtain rfl : l = 0 := by omega
      exact ⟨.slice none 0 0, by simp [Instr.slice, ok.run_und hd, k1, ok.run_size hsz], by simp [VRel]⟩
    cases mx with
    | none =>
      simp only at h
      rw [R.bind_ok] at h; obtain ⟨hn, h1, h⟩ := h
      rw [R.bind_ok] at h; obtain ⟨ln, h2, h⟩ := h
      cases h
      exact key 0 hn ln (.inl ⟨rfl, rfl⟩) (by simpa using h1) h2 rfl
    | some am =>
      cases hi with
      | none => cases h
      | some ah =>
        simp only at h
        rw [R.bind_ok] at h; obtain ⟨mn, h0, h⟩ := h
        rw [R.bind_ok] at h; obtain ⟨hn, h1, h⟩ := h
        rw [R.bind_ok] at h; obtain ⟨ln, h2, h⟩ := h
        cases h
        exact key mn hn ln (.inr ⟨by simp, by simp, h0⟩) (by simpa using h1) h2 rfl
  · -- a slice
    rename_i e ob im off len clo ex es
    rw [sliceAt_of ok w hd (by intros; simp)]
    rw [R.bind_ok] at h; obtain ⟨sz, hsz, h⟩ := h
    cases hb : Nat.beq sz es with
    | false => simp [hb] at h
    | true =>
      have e1 := Nat.eq_of_beq_eq_true hb; subst e1
      simp only [hb, cond_true] at h
      -- what is known of the slice
      obtain ⟨a, cap, rfl, hlen, hclo, hex, fin⟩ : ∃ a cap, vx = .slice (some a) len cap ∧ len ≤ clo ∧ clo ≤ cap ∧ (ex = true → cap = clo) ∧
          (∀ l m hh clo' ex', l ≤ m → m ≤ cap → hh - l ≤ clo' → clo' ≤ m - l → (ex' = true → m - l = clo') →
            ∃ a', (if m = l then some a else Option.map (fun x => x.add (l * sz)) (some a)) = some a' ∧ VRel ρ (.slice ob im (off + l * sz) (hh - l) clo' ex' sz) (.slice (some a') (hh - l) (m - l))) := by
        cases ob with
        | some o =>
          simp only [VRel] at hx
          obtain ⟨L, a, cap, h1, h2, h3, h4, h5, h6⟩ := hx
          refine ⟨a, cap, h2, h3, h4, h5, fun l m hh clo' ex' k1 k2 k3 k4 k5 => ?_⟩
          obtain ⟨a', j1, j2⟩ := slice_to k1 k2 h6
          refine ⟨a', j1, ?_⟩
          simp only [VRel]
          exact ⟨L, a', m - l, h1, rfl, k3, k4, k5, j2⟩
        | none =>
          simp only [VRel] at hx
          obtain ⟨b, i, vs, a, cap, h2, h3, h4, h5, h6, h7, h8⟩ := hx
          refine ⟨a, cap, h2, h3, h4, h5, fun l m hh clo' ex' k1 k2 k3 k4 k5 => ?_⟩
          obtain ⟨a', j1, j2⟩ := slice_to' (es := sz) k1 k2 h6
          refine ⟨a', j1, ?_⟩
          simp only [VRel]
          exact ⟨b, i, vs, a', m - l, rfl, k3, k4, k5, j2, h7, h8⟩
      have key : ∀ m hh l clo' ex', ((mx = none ∧ m = cap) ∨ (mx ≠ none ∧ hi ≠ none ∧ bnd mx 0 clo = .ok m)) → bnd hi len (if mx = none then clo else m) = .ok hh → bnd lo 0 hh = .ok l →
          (mx = none → clo' = clo - l ∧ ex' = ex) → (mx ≠ none → clo' = m - l ∧ ex' = true) → r = .slice ob im (off + l * sz) (hh - l) clo' ex' sz →
          ∃ v, (Instr.slice t (.slice (some a) len cap) vlo vhi vmx).run P w = .ok v w ∧ VRel ρ r v := by
        intro m hh l clo' ex' h1 h2 h3 h4 h5 h6
        subst h6
        obtain ⟨k1, k2, k3, k4, k5, k6⟩ := bounds_sound (P := P) w true hlo hhi hmx hlen hclo h1 h2 h3
        have hc : hh - l ≤ clo' ∧ clo' ≤ m - l ∧ (ex' = true → m - l = clo') := by
          by_cases hm : mx = none
          · obtain ⟨rfl, rfl⟩ := h4 hm
            have := k5 hm
            have hmc : m = cap := by rcases h1 with h1 | h1; exact h1.2; exact absurd hm h1.1
            exact ⟨by omega, by omega, fun e => by have := hex e; omega⟩
          · obtain ⟨rfl, rfl⟩ := h5 hm
            exact ⟨by omega, by omega, fun _ => rfl⟩
        obtain ⟨a', j1, j2⟩ := fin l m hh clo' ex' (by omega) k4 hc.1 hc.2.1 hc.2.2
        refine ⟨_, ?_, j2⟩
        simp only [Instr.slice, Sem.run_bind, ok.run_und hd, Result.andThen_ok, k1, ok.run_size hsz, Sem.run_pure]
        rw [j1]
      cases mx with
      | none =>
        simp only at h
        rw [R.bind_ok] at h; obtain ⟨hn, h1, h⟩ := h
        rw [R.bind_ok] at h; obtain ⟨ln, h2, h⟩ := h
        cases h
        exact key cap hn ln _ _ (.inl ⟨rfl, rfl⟩) (by simpa using h1) h2 (fun _ => ⟨rfl, rfl⟩) (fun e => absurd rfl e) rfl
      | some am =>
        cases hi with
        | none => cases h
        | some ah =>
          simp only at h
          rw [R.bind_ok] at h; obtain ⟨mn, h0, h⟩ := h
          rw [R.bind_ok] at h; obtain ⟨hn, h1, h⟩ := h
          rw [R.bind_ok] at h; obtain ⟨ln, h2, h⟩ := h
          cases h
          exact key mn hn ln _ _ (.inr ⟨by simp, by simp, h0⟩) (by rw [if_neg (by simp), bnd_some ah len 0]; exact h1) h2 (fun e => by cases e) (fun _ => ⟨rfl, rfl⟩) rfl
  · cases h

/-- A slice of an array in memory. -/
theorem sliceArr_sound (ok : TbOk P tb) {H : Hp} {w : World} (hr : Rel ρ H.get w) {t : TypeId} {x r : AV} {vx : Value} {lo hi mx : Option AV} {vlo vhi vmx : Option Value} (hx : VRel ρ x vx) (hlo : ORelV ρ lo vlo) (hhi : ORelV ρ hi vhi) (hmx : ORelV ρ mx vmx)
    (h : sliceArr tb t x lo hi mx H = .ok r) : ∃ v, (Instr.sliceAt t vx vlo vhi vmx).run P w = .ok v w ∧ VRel ρ r v := by
  unfold sliceArr at h
  rw [R.bind_ok] at h; obtain ⟨d, hd, h⟩ := h
  split at h
  · rename_i k e o im off
    rw [R.bind_ok] at h; obtain ⟨s, hs, h⟩ := h
    rw [R.bind_ok] at h; obtain ⟨cs, hcs, h⟩ := h
    cases hb : Nat.ble (off + k * s) cs.length with
    | false => simp [hb] at h
    | true =>
      have hb' := Nat.le_of_ble_eq_true hb
      simp only [hb, cond_true] at h
      cases mx with
      | some a => cases h
      | none =>
        simp only [ORelV] at hmx; subst hmx
        simp only at h
        rw [R.bind_ok] at h; obtain ⟨hn, h1, h⟩ := h
        rw [R.bind_ok] at h; obtain ⟨ln, h2, h⟩ := h
        cases h
        obtain ⟨k1, k2, k3, k4, k5, k6⟩ := bounds_sound (P := P) w false hlo hhi (mx := none) (vmx := none) rfl (len := k) (cap := k) (clo := k) (Nat.le_refl _) (Nat.le_refl _) (.inl ⟨rfl, rfl⟩) (by simpa using h1) h2
        have run : ∀ a, vx = .pointer (some a) → (Instr.sliceAt t vx vlo vhi none).run P w = .ok (.slice (some (if k = ln then a else a.add (ln * s))) (hn - ln) (k - ln)) w := by
          intro a ha; subst ha
          simp [Instr.sliceAt, ok.run_und hd, Instr.sureAddr, k1, ok.run_size hs]
        cases o with
        | some o =>
          simp only [VRel] at hx
          obtain ⟨L, h3, rfl⟩ := hx
          refine ⟨_, run _ rfl, ?_⟩
          simp only [cellsOf] at hcs
          split at hcs
          · rename_i t' cs' kk hg
            cases hcs
            obtain ⟨M, m1, c, fr, h4, h5, _⟩ := hr.obj o _ hg
            rw [h3] at m1; cases m1
            simp only [VRel]
            refine ⟨L, _, k - ln, h3, rfl, by omega, Nat.le_refl _, fun _ => rfl, ?_⟩
            by_cases e : k = ln
            · exact .inl (by omega)
            · rw [if_neg e]
              refine .inr ⟨by rw [addr_add, Nat.add_assoc], ?_⟩
              have h2 : (k - ln) * s = k * s - ln * s := Nat.sub_mul k ln s
              have h3 : ln * s ≤ k * s := Nat.mul_le_mul_right s (by omega)
              omega
          · cases hcs
        | none =>
          simp only [VRel] at hx
          obtain ⟨b, i, vs, rfl, h4, h5⟩ := hx
          refine ⟨_, run _ rfl, ?_⟩
          simp only [VRel]
          refine ⟨b, i, vs, _, k - ln, rfl, by omega, Nat.le_refl _, fun _ => rfl, ?_, h4, h5⟩
          by_cases e : k = ln
          · exact .inl (by omega)
          · rw [if_neg e]; exact .inr (by rw [addr_add, Nat.add_assoc])
  · cases h

end
end Go.Zr
