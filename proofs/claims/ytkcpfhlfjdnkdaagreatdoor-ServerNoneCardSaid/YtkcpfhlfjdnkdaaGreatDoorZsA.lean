import Derived.Test.YtkcpfhlfjdnkdaaGreatDoorZrZ
namespace Go.Zr

theorem filter_le {p q : Nat → Bool} : ∀ l : List Nat, (∀ j ∈ l, p j = true → q j = true) → (l.filter p).length ≤ (l.filter q).length
  | [], _ => Nat.le_refl _
  | x :: l, h => by
    have ih := filter_le l (fun j hj => h j (by simp [hj]))
    simp only [List.filter_cons]
    cases hp : p x with
    | true => rw [h x (by simp) hp]; simpa using ih
    | false => cases q x <;> simp <;> omega
theorem filter_lt {p q : Nat → Bool} {i : Nat} : ∀ l : List Nat, (∀ j ∈ l, p j = true → q j = true) → i ∈ l → q i = true → p i = false → (l.filter p).length < (l.filter q).length
  | [], _, hi, _, _ => by simp at hi
  | x :: l, h, hi, hq, hp => by
    have hle := filter_le l (fun j hj => h j (by simp [hj]))
    simp only [List.filter_cons]
    rcases List.mem_cons.1 hi with rfl | hi
    · rw [hq, hp]; simp; omega
    · have ih := filter_lt l (fun j hj => h j (by simp [hj])) hi hq hp
      cases hpx : p x with
      | true => rw [h x (by simp) hpx]; simpa using ih
      | false => cases q x <;> simp <;> omega

section
variable {P : Program} {tb : Tb} {S : Su} {sz n0 : Nat} {ops : Array Oper} {es : List Ent} {fin : Tm × Hp × Nat}

/-- Who is not next when nobody is: nobody. -/
theorem Facts.done (F : Facts tb S sz n0 ops es fin) {ρ0 : Env} {g0 : Gh} {w0 : World} {Ds : List Deferred} {listed : Array Bool} {a : Act} {w : World} (hI : Inv tb n0 sz ops es fin ρ0 g0 w0 Ds listed a w) (hr : Region.ready .any ops listed = []) :
    ∀ j, j < ops.size → been listed j = true := by
  intro j
  induction j using Nat.strongRecOn with
  | ind j ih =>
    intro hj
    cases hb : been listed j with
    | true => rfl
    | false =>
      exfalso
      obtain ⟨e, hej, he, hei⟩ := F.get hj
      obtain ⟨_, ho, hanc⟩ := F.at_ j e hej
      have hmem : j ∈ Region.ready .any ops listed := by
        rw [mem_ready]
        refine ⟨?_, e.o, ho, fun ed hed hbi => ?_⟩
        · unfold been at hb
          rw [Array.getD_eq_getD_getElem?] at hb ⊢
          have : j < listed.size := by rw [hI.size]; exact hj
          rw [Array.getElem?_eq_getElem this] at hb ⊢
          exact hb
        · have hbit : e.anc.testBit ed.on = true := by rw [hanc, before_bit ho]; exact ⟨ed, hed, hbi, .inl rfl⟩
          have hlt : ed.on < e.i := by
            rcases Nat.lt_or_ge ed.on e.i with h2 | h2
            · exact h2
            · have := Nat.testBit_lt_two_pow (Nat.lt_of_lt_of_le (F.ancs e he) (Nat.pow_le_pow_right (by decide) h2)) (i := ed.on) (x := e.anc)
              rw [hbit] at this; cases this
          exact ih ed.on (by omega) (by omega)
      rw [hr] at hmem; cases hmem

/-- Any order. -/
theorem any_sound (ok : TbOk P tb) (hS : SoundS P tb S) (F : Facts tb S sz n0 ops es fin) {r : Option Nat} {k : Nat} {Q : Exit → Act → World → Prop} {ρ0 : Env} {g0 : Gh} {w0 : World} {Ds : List Deferred}
    (hQ : ∀ listed a w, Inv tb n0 sz ops es fin ρ0 g0 w0 Ds listed a w → (∀ j, j < ops.size → been listed j = true) → Q .normal a w) :
    ∀ (fuel : Nat) (listed : Array Bool) (a : Act) (w : World), Inv tb n0 sz ops es fin ρ0 g0 w0 Ds listed a w → ((List.range ops.size).filter (fun j => !been listed j)).length ≤ fuel → wpAnyIn (Fw r) k P .any ops Q fuel listed a w
  | 0, listed, a, w, hI, hc => by
    have hall : ∀ j, j < ops.size → been listed j = true := by
      intro j hj
      cases hb : been listed j with
      | true => rfl
      | false =>
        have : j ∈ (List.range ops.size).filter (fun j => !been listed j) := by simp [hj, hb]
        have h0 : (List.range ops.size).filter (fun j => !been listed j) = [] := List.eq_nil_of_length_eq_zero (by omega)
        rw [h0] at this; cases this
    refine ⟨?_, hQ listed a w hI hall⟩
    cases hr : Region.ready .any ops listed with
    | nil => rfl
    | cons x xs =>
      exfalso
      have hx : x ∈ Region.ready .any ops listed := by rw [hr]; simp
      rw [mem_ready] at hx
      obtain ⟨h1, o, h2, _⟩ := hx
      have hlt : x < ops.size := (Array.getElem?_eq_some_iff.1 h2).1
      have := hall x hlt
      unfold been at this
      rw [Array.getD_eq_getD_getElem?] at this h1
      have hl : x < listed.size := by rw [hI.size]; exact hlt
      rw [Array.getElem?_eq_getElem hl] at this h1
      simp only [Option.getD_some] at this h1
      rw [this] at h1; cases h1
  | fuel + 1, listed, a, w, hI, hc => by
    refine ⟨fun hr => hQ listed a w hI (F.done hI hr), fun i hi => inv_step ok hS F hI hi (fun a' w' hI' => ?_)⟩
    refine any_sound ok hS F hQ fuel _ a' w' hI' ?_
    have hi' := hi
    rw [mem_ready] at hi'
    obtain ⟨h1, o, h2, _⟩ := hi'
    have hlt : i < ops.size := (Array.getElem?_eq_some_iff.1 h2).1
    have hb : been listed i = false := by
      unfold been
      rw [Array.getD_eq_getD_getElem?] at h1 ⊢
      have hl : i < listed.size := by rw [hI.size]; exact hlt
      rw [Array.getElem?_eq_getElem hl] at h1 ⊢
      exact h1
    have := filter_lt (i := i) (p := fun j => !been (listed.setIfInBounds i true) j) (q := fun j => !been listed j) (List.range ops.size) (fun j _ hj => by
      rw [been_set (by rw [hI.size]; exact hlt)] at hj
      cases h : been listed j <;> simp_all) (by simpa using hlt) (by simp [hb]) (by rw [been_set (by rw [hI.size]; exact hlt)]; simp)
    omega

/-- A region that draws its order. -/
theorem drawn_sound (ok : TbOk P tb) (hm : P.follows .mixedOrders = true) (hS : SoundS P tb S) {r : Option Nat} {k id : Nat} {Q : Exit → Act → World → Prop} {ρ : Env} {T T' : Tm} {H H' : Hp} {n n' : Nat} {a : Act} {w : World}
    (h : drawnA tb S sz ops T H n = .ok (T', H', n')) (hr : Rel ρ H.get w) (hf : Fresh ρ n) (hfr : FRel tb ρ T sz a)
    (hq : ∀ ρ' a' w', Ext ρ H.get n w ρ' H'.get n' w' → FRel tb ρ' T' sz a' → a'.defers = a.defers → Q .normal a' w') : (Code.region id ops true).wpIn (Fw r) k P Q a w := by
  unfold drawnA at h
  split at h
  · cases h
  · rename_i acc Tf Hf nf hp
    cases hc : (lineOk acc && (slotsK ops (keysOf ops) && ancsK (keysOf ops)) && acc.all (fun r => !r.isR || (sees tb acc n r ops.size Hf && acc.all fun e => !e.isE || sees tb acc n r e.i e.H))) with
    | false => rw [hc] at h; cases h
    | true =>
      rw [hc] at h
      simp only [cond_true] at h
      cases h
      simp only [Bool.and_eq_true] at hc
      obtain ⟨⟨h1, h2, h3⟩, h4⟩ := hc
      have hp' : passA tb S sz n ops ((List.range' 0 ops.toList.length).zip ops.toList) ((Region.before ops).toList.drop 0) [] T H (n + ops.size) = .ok (acc, T', Hf, n') := by
        simp only [List.drop_zero, Array.length_toList, ← List.range_eq_range']; exact hp
      obtain ⟨es, hacc, hway⟩ := pass_way tb S sz n ops ops.toList 0 [] T H (n + ops.size) acc T' Hf n' (by simp) (by omega) hp'
      simp only [List.append_nil] at hacc
      subst hacc
      obtain ⟨F, hst⟩ := facts_of hway h1 h2 h3 h4
      refine wpIn_region_any hm (any_sound ok hS F (ρ0 := ρ) (g0 := H.get) (w0 := w) (Ds := a.defers) ?_ ops.size _ a _ ?_ ?_)
      · -- at the end
        intro listed a' w' hI hall
        obtain ⟨ρ', q, hqN, hEq, hext, hfr', hnb, hfn, hdead, hslots, hglob⟩ := hI.ex
        have hcalm : (stAt es (T', Hf, n') q).2 = (Hf, n') := by
          have := F.calm (q := q) (ops.size - q) (by omega) (fun x hx hxE h => by
            have := (hEq x hx hxE).2 (hall _ (F.lt hx)); omega)
          rw [show q + (ops.size - q) = ops.size by omega, stAt_fin F] at this
          exact this.symm
        have e1 : (stAt es (T', Hf, n') q).2.1 = Hf := by rw [hcalm]
        have e2 : (stAt es (T', Hf, n') q).2.2 = n' := by rw [hcalm]
        rw [e1, e2] at hext
        rw [e2] at hfr'
        refine hq ρ' a' w' ?_ ⟨⟨fun d v hv => ?_, fun d hv => ?_⟩, hI.slots, hglob⟩ hI.defs
        · rw [heapAt_get]
          have : gAt es.reverse n Hf.get (fun i => (2 ^ ops.size - 1).testBit i) ops.size = gAt es.reverse n Hf.get (been listed) q := gAt_congr rfl (fun x hx _ => by
            have hlt := F.lt hx
            have hb : (2 ^ ops.size - 1).testBit x.i = true := by rw [Nat.testBit_two_pow_sub_one]; simpa using hlt
            rw [hb, hall _ hlt, unabs_congr (fun y hy hyE => ⟨fun _ => (hEq y hy hyE).2 (hall _ (F.lt hy)), fun _ => F.lt hy⟩)])
          rw [this]; exact hext
        all_goals
          have ht := F.temps ops.size (Nat.le_refl _) d
          rw [stAt_fin F] at ht
          have hs := hslots d
          rw [F.td_congr (D' := fun i => decide (i < ops.size)) (fun x hx _ => by rw [hall _ (F.lt hx)]; simp [F.lt hx]), ← ht] at hs
          rw [hv] at hs
          exact hs
      · -- at the start
        have hb0 : ∀ j, been (Array.replicate ops.size false) j = false := by
          intro j
          unfold been
          rw [Array.getD_eq_getD_getElem?, Array.getElem?_replicate]
          split <;> rfl
        have s0 : stAt es (T', Hf, n') 0 = (T, H, n + ops.size) := hst
        have hu : ∀ (g : Gh), gAt es.reverse n g (been (Array.replicate ops.size false)) 0 = g := by
          intro g
          funext o
          unfold gAt
          rw [objAt_none (fun x _ _ hD _ => by rw [hb0] at hD; cases hD)]
        refine ⟨by simp, fun e _ hb => (by rw [hb0] at hb; cases hb), ⟨ρ, 0, by omega, fun e _ _ => by rw [hb0]; simp, ?_, ?_, ?_, fun j _ _ => hf _ (by omega), fun j _ _ => ?_, fun d => ?_, hfr.glob⟩, hfr.size, rfl⟩
        · rw [s0, hu]
          exact (Ext.refl (n := n) (w' := w) hr rfl).join (Ext.refl (w' := { w with drawn := w.drawn + 1 }) hr rfl) (Nat.le_refl _) (Nat.le_add_right n ops.size) (Nat.le_add_right n ops.size)
        · intro o ho
          rw [s0] at ho
          exact hf o (by simp only at ho; omega)
        · rw [s0]; exact Nat.le_refl _
        · rw [s0]
          cases hob : H.get (n + j) with
          | none => rfl
          | some x => obtain ⟨L, hL, _⟩ := hr.obj _ x hob; rw [hf _ (by omega)] at hL; cases hL
        · rw [td_none (fun e _ _ => hb0 _), s0]
          cases hT : T.get d with
          | none => exact hfr.tmp.2 d hT
          | some v => exact hfr.tmp.1 d v hT
      · exact Nat.le_trans (List.length_filter_le _ _) (by simp)

end
end Go.Zr
