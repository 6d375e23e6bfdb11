import Derived.Test.YtkcpfhlfjdnkdaaGreatDoorZrB
namespace Go.Zr

def AObj.own : AObj → Bool
  | .row _ _ k => !(Nat.beq k 1)
  | _ => true

def TRel (ρ : Env) (T : Tm) (tmps : Array Value) : Prop :=
  (∀ i a, T.get i = some a → ∃ v, tmps[i]? = some v ∧ VRel ρ a v) ∧ (∀ i, T.get i = none → tmps.getD i undef = undef)

theorem TRel.mono {ρ ρ' : Env} (h : Env.Le ρ ρ') {T : Tm} {tmps : Array Value} (r : TRel ρ T tmps) : TRel ρ' T tmps :=
  ⟨fun i a ha => let ⟨v, h1, h2⟩ := r.1 i a ha; ⟨v, h1, VRel.mono h _ _ h2⟩, r.2⟩

def EntRel (ρ : Env) : List (AV × AV × Nat) → List MapEntry → Prop
  | [], es => es = []
  | (k, v, b) :: l, es => ∃ e r, es = e :: r ∧ VRel ρ k e.key ∧ VRel ρ v e.val ∧ e.born = b ∧ EntRel ρ l r

theorem EntRel.mono {ρ ρ' : Env} (h : Env.Le ρ ρ') : ∀ {l : List (AV × AV × Nat)} {es : List MapEntry}, EntRel ρ l es → EntRel ρ' l es
  | [], _, r => r
  | (k, v, b) :: l, es, r => by
    simp only [EntRel] at r ⊢
    obtain ⟨e, t, h1, h2, h3, h4, h5⟩ := r
    exact ⟨e, t, h1, VRel.mono h _ _ h2, VRel.mono h _ _ h3, h4, EntRel.mono h h5⟩

def ORel (ρ : Env) (w : World) (L : Loc) : AObj → Prop
  | .row t cs k => ∃ c fr, w.heap[L.blk]? = some (.cells c t fr) ∧ L.lo + cs.length ≤ L.hi ∧ L.hi ≤ c.size ∧
      VRels ρ cs ((c.toList.drop L.lo).take cs.length) ∧ (k = 0 → L.lo = 0 ∧ fr = (0, 0)) ∧ (k ≠ 1 → fr = (0, 0) ∨ c.size ≤ fr.1)
  | .map es clock => ∃ ces, w.heap[L.blk]? = some (.map ces clock) ∧ EntRel ρ es ces.toList
  | .siter s pos => w.heap[L.blk]? = some (.stringIter ⟨s.toArray⟩ pos) ∧ L.lo = 0
  | .loop st pe T sz ps as bo d => ∃ fn tmps Ld, w.heap[L.blk]? = some (.loop { state := st, pending := pe, fn, tmps, params := ps.toArray, assign := as, body := bo, defers := Ld.blk }) ∧
      TRel ρ T tmps ∧ sz ≤ tmps.size ∧ ρ.loc d = some Ld
  | .deferred => w.heap[L.blk]? = some (.deferred (some []))
  | .miter m since seen last => ∃ mb, w.heap[L.blk]? = some (.mapIter mb since seen.toArray last) ∧ L.lo = 0 ∧ (match m with | none => mb = none | some r => ∃ Lm, ρ.loc r = some Lm ∧ mb = some Lm.blk)

theorem ORel.mono {ρ ρ' : Env} (h : Env.Le ρ ρ') {w : World} {L : Loc} {ob : AObj} (r : ORel ρ w L ob) : ORel ρ' w L ob := by
  cases ob with
  | row t cs k =>
    obtain ⟨c, fr, h1, h2, h3, h4, h5⟩ := r
    exact ⟨c, fr, h1, h2, h3, VRels.mono h _ _ h4, h5⟩
  | map es clock => obtain ⟨ces, h1, h2⟩ := r; exact ⟨ces, h1, h2.mono h⟩
  | siter s pos => exact r
  | loop st pe T sz ps as bo d => obtain ⟨fn, tmps, Ld, h1, h2, h3, h4⟩ := r; exact ⟨fn, tmps, Ld, h1, h2.mono h, h3, h.loc _ _ h4⟩
  | deferred => exact r
  | miter m since seen last =>
    obtain ⟨mb, h1, h2, h3⟩ := r
    refine ⟨mb, h1, h2, ?_⟩
    cases m with
    | none => exact h3
    | some r => obtain ⟨Lm, k1, k2⟩ := h3; exact ⟨Lm, h.loc _ _ k1, k2⟩

theorem ORel.of_heap {ρ : Env} {w w' : World} {L : Loc} {ob : AObj} (h : w'.heap[L.blk]? = w.heap[L.blk]?) (r : ORel ρ w L ob) : ORel ρ w' L ob := by
  cases ob <;> simp only [ORel] at r ⊢ <;> rw [h] <;> exact r

theorem ORel.lt {ρ : Env} {w : World} {L : Loc} {ob : AObj} (r : ORel ρ w L ob) : L.blk < w.heap.size := by
  have key : ∀ o, w.heap[L.blk]? = some o → L.blk < w.heap.size := fun o h => (Array.getElem?_eq_some_iff.1 h).1
  cases ob with
  | row t cs k => obtain ⟨c, fr, h1, _⟩ := r; exact key _ h1
  | map es clock => obtain ⟨ces, h1, _⟩ := r; exact key _ h1
  | siter s pos => exact key _ r.1
  | loop st pe T sz ps as bo d => obtain ⟨fn, tmps, Ld, h1, _⟩ := r; exact key _ h1
  | deferred => exact key _ r
  | miter m since seen last => obtain ⟨mb, h1, _⟩ := r; exact key _ h1

abbrev Gh := Nat → Option AObj

structure Rel (ρ : Env) (g : Gh) (w : World) : Prop where
  obj : ∀ o ob, g o = some ob → ∃ L, ρ.loc o = some L ∧ ORel ρ w L ob
  sep : ∀ o o' ob ob' L L', o ≠ o' → g o = some ob → g o' = some ob' → ob.own = true → ρ.loc o = some L → ρ.loc o' = some L' → L.blk ≠ L'.blk
  imm : ∀ b i v, ρ.imm b i = some v → w.cell? ⟨b, i, none⟩ = some v
  immSep : ∀ o ob L b i v, g o = some ob → ob.own = true → ρ.loc o = some L → ρ.imm b i = some v → b ≠ L.blk

def Fresh (ρ : Env) (n : Nat) : Prop := ∀ o, n ≤ o → ρ.loc o = none

/-- Block b is held by an object that may be written. -/
def Held (ρ : Env) (g : Gh) (b : Nat) : Prop := ∃ o ob L, g o = some ob ∧ ob.own = true ∧ ρ.loc o = some L ∧ L.blk = b

structure Ext (ρ : Env) (g : Gh) (n : Nat) (w : World) (ρ' : Env) (g' : Gh) (n' : Nat) (w' : World) : Prop where
  le : Env.Le ρ ρ'
  rel : Rel ρ' g' w'
  mono : n ≤ n'
  dom : ∀ o L, ρ'.loc o = some L → ρ.loc o = some L ∨ (n ≤ o ∧ o < n')
  gdom : ∀ o ob, g' o = some ob → (∃ ob0, g o = some ob0) ∨ (n ≤ o ∧ o < n')
  size : w.heap.size ≤ w'.heap.size
  keep : ∀ b, b < w.heap.size → ¬ Held ρ g b → w'.heap[b]? = w.heap[b]?
  prov : ∀ o ob L, g' o = some ob → ρ'.loc o = some L → L.blk < w.heap.size → (ob.own = false ∧ (∃ ob0, g o = some ob0) ∧ ρ.loc o = some L) ∨ Held ρ g L.blk
  immProv : ∀ b i v, ρ'.imm b i = some v → b < w.heap.size → ρ.imm b i = some v ∨ Held ρ g b
  tape : w'.tape = w.tape
  os : w'.os = w.os
  output : w'.output = w.output

theorem Ext.fresh {ρ ρ' : Env} {g g' : Gh} {n n' : Nat} {w w' : World} (h : Ext ρ g n w ρ' g' n' w') (hf : Fresh ρ n) : Fresh ρ' n' := fun o ho => by
  cases hl : ρ'.loc o with
  | none => rfl
  | some L => rcases h.dom o L hl with h1 | h1
              · rw [hf o (Nat.le_trans h.mono ho)] at h1; cases h1
              · omega

theorem Rel.of_heap {ρ : Env} {g : Gh} {w w' : World} (h : Rel ρ g w) (hh : w'.heap = w.heap) : Rel ρ g w' :=
  ⟨fun o ob ho => let ⟨L, h1, h2⟩ := h.obj o ob ho; ⟨L, h1, h2.of_heap (by rw [hh])⟩, h.sep, fun b i v hv => by
    have := h.imm b i v hv; unfold World.cell? at *; rw [hh]; exact this, h.immSep⟩

theorem Ext.refl {ρ : Env} {g : Gh} {n : Nat} {w w' : World} (h : Rel ρ g w) (hh : w'.heap = w.heap) (ht : w'.tape = w.tape := by rfl) (ho : w'.os = w.os := by rfl) (hp : w'.output = w.output := by rfl) :
    Ext ρ g n w ρ g n w' :=
  ⟨.refl ρ, h.of_heap hh, Nat.le_refl n, fun _ _ x => .inl x, fun o ob x => .inl ⟨ob, x⟩, by rw [hh]; exact Nat.le_refl _, fun b _ _ => by rw [hh],
    fun o ob L h1 h2 _ => by
      cases hb : ob.own with
      | false => exact .inl ⟨rfl, ⟨ob, h1⟩, h2⟩
      | true => exact .inr ⟨o, ob, L, h1, hb, h2, rfl⟩, fun _ _ _ x _ => .inl x, ht, ho, hp⟩

theorem Ext.join {ρ ρ1 ρ2 : Env} {g g1 g2 : Gh} {n n1 p q m : Nat} {w w1 w2 : World} (h : Ext ρ g n w ρ1 g1 n1 w1) (k : Ext ρ1 g1 p w1 ρ2 g2 q w2) (hp : n ≤ p) (hq : q ≤ m) (hm : n1 ≤ m) : Ext ρ g n w ρ2 g2 m w2 := by
  have held : ∀ b, b < w.heap.size → Held ρ1 g1 b → Held ρ g b := by
    rintro b hb ⟨o, ob, L, h1, h2, h3, rfl⟩
    rcases h.prov o ob L h1 h3 hb with ⟨h4, _⟩ | h4
    · rw [h2] at h4; cases h4
    · exact h4
  refine ⟨h.le.trans k.le, k.rel, Nat.le_trans h.mono hm, ?_, ?_, Nat.le_trans h.size k.size, ?_, ?_, ?_, k.tape.trans h.tape, k.os.trans h.os, k.output.trans h.output⟩
  · intro o L hl
    rcases k.dom o L hl with h1 | h1
    · rcases h.dom o L h1 with h2 | h2
      · exact .inl h2
      · exact .inr ⟨h2.1, Nat.lt_of_lt_of_le h2.2 hm⟩
    · exact .inr ⟨Nat.le_trans hp h1.1, Nat.lt_of_lt_of_le h1.2 hq⟩
  · intro o ob hl
    rcases k.gdom o ob hl with ⟨ob0, h1⟩ | h1
    · rcases h.gdom o ob0 h1 with h2 | h2
      · exact .inl h2
      · exact .inr ⟨h2.1, Nat.lt_of_lt_of_le h2.2 hm⟩
    · exact .inr ⟨Nat.le_trans hp h1.1, Nat.lt_of_lt_of_le h1.2 hq⟩
  · intro b hb hn
    rw [k.keep b (Nat.lt_of_lt_of_le hb h.size) (fun hh => hn (held b hb hh)), h.keep b hb hn]
  · intro o ob L h1 h2 h3
    rcases k.prov o ob L h1 h2 (Nat.lt_of_lt_of_le h3 h.size) with ⟨h4, ⟨ob1, h5⟩, h6⟩ | h4
    · rcases h.prov o ob1 L h5 h6 h3 with ⟨_, h8, h9⟩ | h7
      · exact .inl ⟨h4, h8, h9⟩
      · exact .inr h7
    · exact .inr (held _ h3 h4)
  · intro b i v h1 h2
    rcases k.immProv b i v h1 (Nat.lt_of_lt_of_le h2 h.size) with h3 | h3
    · exact h.immProv b i v h3 h2
    · exact .inr (held _ h2 h3)

theorem Ext.trans {ρ ρ1 ρ2 : Env} {g g1 g2 : Gh} {n n1 n2 : Nat} {w w1 w2 : World} (h : Ext ρ g n w ρ1 g1 n1 w1) (k : Ext ρ1 g1 n1 w1 ρ2 g2 n2 w2) : Ext ρ g n w ρ2 g2 n2 w2 := h.join k h.mono (Nat.le_refl _) k.mono

/-- Fewer objects. -/
theorem Rel.less {ρ : Env} {g G : Gh} {w : World} (h : Rel ρ G w) (hs : ∀ o ob, g o = some ob → G o = some ob) : Rel ρ g w :=
  ⟨fun o ob ho => h.obj o ob (hs o ob ho), fun o o' ob ob' L L' h1 h2 h3 => h.sep o o' ob ob' L L' h1 (hs _ _ h2) (hs _ _ h3), h.imm,
    fun o ob L b i v h1 => h.immSep o ob L b i v (hs _ _ h1)⟩

/-- What is not named stays as it is. -/
theorem Ext.frame {ρ ρ' : Env} {g g' G : Gh} {n n' : Nat} {w w' : World} (hf : Fresh ρ n) (hG : Rel ρ G w) (hs : ∀ o ob, g o = some ob → G o = some ob) (h : Ext ρ g n w ρ' g' n' w') :
    Ext ρ G n w ρ' (fun o => match g o with | some _ => g' o | none => match G o with | some ob => some ob | none => g' o) n' w' := by
  have gnew : ∀ o ob, g' o = some ob → g o = none → G o = none := by
    intro o ob h1 h2
    rcases h.gdom o ob h1 with ⟨ob0, h3⟩ | h3
    · rw [h2] at h3; cases h3
    · cases hGo : G o with
      | none => rfl
      | some ob1 => obtain ⟨L, h4, _⟩ := hG.obj o ob1 hGo; rw [hf o h3.1] at h4; cases h4
  have hheld : ∀ b, Held ρ g b → Held ρ G b := fun b ⟨o, ob, L, h1, h2⟩ => ⟨o, ob, L, hs _ _ h1, h2⟩
  -- an extra object is not held by the others
  have extra : ∀ o ob L, g o = none → G o = some ob → ob.own = true → ρ.loc o = some L → ¬ Held ρ g L.blk := by
    rintro o ob L h1 h2 h3 h4 ⟨o1, ob1, L1, h5, h6, h7, h8⟩
    have hne : o1 ≠ o := fun e => by rw [e, h1] at h5; cases h5
    exact hG.sep o1 o ob1 ob L1 L hne (hs _ _ h5) h2 h6 h7 h4 h8
  have extra' : ∀ o ob L, g o = none → G o = some ob → ρ.loc o = some L → ¬ Held ρ g L.blk := by
    rintro o ob L h1 h2 h4 ⟨o1, ob1, L1, h5, h6, h7, h8⟩
    have hne : o1 ≠ o := fun e => by rw [e, h1] at h5; cases h5
    exact hG.sep o1 o ob1 ob L1 L hne (hs _ _ h5) h2 h6 h7 h4 h8
  have look : ∀ o ob, (match g o with | some _ => g' o | none => match G o with | some ob => some ob | none => g' o) = some ob → (g' o = some ob ∧ (g o ≠ none ∨ G o = none)) ∨ (g o = none ∧ G o = some ob) := by
    intro o ob ho
    split at ho
    · rename_i x hx; exact .inl ⟨ho, .inl (by rw [hx]; simp)⟩
    · rename_i hx
      split at ho
      · rename_i ob1 hy; exact .inr ⟨hx, by rw [hy]; exact ho⟩
      · rename_i hy; exact .inl ⟨ho, .inr hy⟩
  have xkeep : ∀ o ob L, g o = none → G o = some ob → ρ.loc o = some L → w'.heap[L.blk]? = w.heap[L.blk]? := by
    intro o ob L h1 h2 h3
    obtain ⟨L1, h4, h5⟩ := hG.obj o ob h2
    rw [h3] at h4; cases h4
    exact h.keep L.blk h5.lt (extra' o ob L h1 h2 h3)
  refine ⟨h.le, ⟨?_, ?_, h.rel.imm, ?_⟩, h.mono, h.dom, ?_, h.size, fun b hb hn => h.keep b hb (fun hh => hn (hheld b hh)), ?_, fun b i v h1 h2 => (h.immProv b i v h1 h2).imp id (hheld b), h.tape, h.os, h.output⟩
  · intro o ob ho
    rcases look o ob ho with ⟨h1, _⟩ | ⟨h1, h2⟩
    · exact h.rel.obj o ob h1
    · obtain ⟨L, h3, h4⟩ := hG.obj o ob h2
      exact ⟨L, h.le.loc _ _ h3, (h4.of_heap (xkeep o ob L h1 h2 h3)).mono h.le⟩
  · intro o o' ob ob' L L' hne ho ho' hown hL hL'
    rcases look o ob ho with ⟨h1, _⟩ | ⟨h1, h2⟩ <;> rcases look o' ob' ho' with ⟨k1, _⟩ | ⟨k1, k2⟩
    · exact h.rel.sep o o' ob ob' L L' hne h1 k1 hown hL hL'
    · -- o of the others, o' extra
      obtain ⟨M, m1, m2⟩ := hG.obj o' ob' k2
      have : M = L' := by have := h.le.loc _ _ m1; rw [hL'] at this; cases this; rfl
      subst this
      intro e
      have hlt : L.blk < w.heap.size := e ▸ m2.lt
      rcases h.prov o ob L h1 hL hlt with ⟨h4, _⟩ | h4
      · rw [hown] at h4; cases h4
      · exact extra' o' ob' M k1 k2 m1 (e ▸ h4)
    · obtain ⟨M, m1, m2⟩ := hG.obj o ob h2
      have : M = L := by have := h.le.loc _ _ m1; rw [hL] at this; cases this; rfl
      subst this
      intro e
      have hlt : L'.blk < w.heap.size := e ▸ m2.lt
      rcases h.prov o' ob' L' k1 hL' hlt with ⟨h4, ⟨ob0, h5⟩, h6⟩ | h4
      · exact hG.sep o o' ob ob0 M L' hne h2 (hs _ _ h5) hown m1 h6 e
      · exact extra' o ob M h1 h2 m1 (e ▸ h4)
    · obtain ⟨M, m1, _⟩ := hG.obj o ob h2
      obtain ⟨M', m1', _⟩ := hG.obj o' ob' k2
      have : M = L := by have := h.le.loc _ _ m1; rw [hL] at this; cases this; rfl
      subst this
      have : M' = L' := by have := h.le.loc _ _ m1'; rw [hL'] at this; cases this; rfl
      subst this
      exact hG.sep o o' ob ob' M M' hne h2 k2 hown m1 m1'
  · intro o ob L b i v ho hown hL hv e
    rcases look o ob ho with ⟨h1, _⟩ | ⟨h1, h2⟩
    · exact h.rel.immSep o ob L b i v h1 hown hL hv e
    · obtain ⟨M, m1, m2⟩ := hG.obj o ob h2
      have : M = L := by have := h.le.loc _ _ m1; rw [hL] at this; cases this; rfl
      subst this
      rcases h.immProv b i v hv (e ▸ m2.lt) with h3 | h3
      · exact hG.immSep o ob M b i v h2 hown m1 h3 e
      · exact extra' o ob M h1 h2 m1 (e ▸ h3)
  · intro o ob ho
    rcases look o ob ho with ⟨h1, _⟩ | ⟨h1, h2⟩
    · exact (h.gdom o ob h1).imp (fun ⟨ob0, x⟩ => ⟨ob0, hs _ _ x⟩) id
    · exact .inl ⟨ob, h2⟩
  · intro o ob L ho hL hlt
    rcases look o ob ho with ⟨h1, _⟩ | ⟨h1, h2⟩
    · rcases h.prov o ob L h1 hL hlt with ⟨h4, ⟨ob0, h5⟩, h6⟩ | h4
      · exact .inl ⟨h4, ⟨ob0, hs _ _ h5⟩, h6⟩
      · exact .inr (hheld _ h4)
    · obtain ⟨M, m1, m2⟩ := hG.obj o ob h2
      have : M = L := by have := h.le.loc _ _ m1; rw [hL] at this; cases this; rfl
      subst this
      cases hb : ob.own with
      | false => exact .inl ⟨rfl, ⟨ob, h2⟩, m1⟩
      | true => exact .inr ⟨o, ob, M, h2, hb, m1, rfl⟩

/-! ### The three steps -/

def upd (g : Gh) (o : Nat) (x : Option AObj) : Gh := fun i => if i = o then x else g i

theorem upd_set (H : Hp) (o : Nat) (x : Option AObj) : (H.set o x).get = upd H.get o x := funext fun m => PT.get_set H o m x

def Env.put (ρ : Env) (o : Nat) (L : Loc) : Env := { ρ with loc := fun i => if i = o then some L else ρ.loc i }

theorem Env.le_put {ρ : Env} {o : Nat} {L : Loc} (h : ρ.loc o = none) : Env.Le ρ (ρ.put o L) :=
  ⟨fun i M hi => by
    show (if i = o then some L else ρ.loc i) = some M
    by_cases e : i = o
    · subst e; rw [h] at hi; cases hi
    · rw [if_neg e]; exact hi, fun _ _ _ h => h⟩

theorem Env.put_same {ρ : Env} {o : Nat} {L : Loc} : (ρ.put o L).loc o = some L := by show (if o = o then some L else ρ.loc o) = some L; rw [if_pos rfl]
theorem Env.put_other {ρ : Env} {o i : Nat} {L : Loc} (h : i ≠ o) : (ρ.put o L).loc i = ρ.loc i := by show (if i = o then some L else ρ.loc i) = ρ.loc i; rw [if_neg h]

theorem heap_push {w w' : World} {o : Obj} (hh : w'.heap = w.heap.push o) (b : Nat) (hb : b < w.heap.size) : w'.heap[b]? = w.heap[b]? := by
  rw [hh, Array.getElem?_push_lt hb, Array.getElem?_eq_getElem hb]

theorem heap_push_new {w w' : World} {o : Obj} (hh : w'.heap = w.heap.push o) : w'.heap[w.heap.size]? = some o := by
  rw [hh, Array.getElem?_push_size]

theorem cell_of_heap {w w' : World} {a : Addr} (h : w'.heap[a.block]? = w.heap[a.block]?) : w'.cell? a = w.cell? a := by unfold World.cell?; rw [h]
theorem cell_lt {w : World} {a : Addr} {v : Value} (h : w.cell? a = some v) : a.block < w.heap.size := by
  unfold World.cell? at h
  split at h
  · rename_i c e f hc; exact (Array.getElem?_eq_some_iff.1 hc).1
  · cases h

/-- A new block. -/
theorem Ext.allocAt {ρ : Env} {g : Gh} {n : Nat} {w w' : World} {o : Obj} {ob : AObj} {hi : Nat} (h : Rel ρ g w) (hf : ρ.loc n = none) (hh : w'.heap = w.heap.push o)
    (hob : ORel (ρ.put n ⟨w.heap.size, 0, hi⟩) w' ⟨w.heap.size, 0, hi⟩ ob) (ht : w'.tape = w.tape := by rfl) (ho : w'.os = w.os := by rfl) (hp : w'.output = w.output := by rfl) :
    Ext ρ g n w (ρ.put n ⟨w.heap.size, 0, hi⟩) (upd g n (some ob)) (n + 1) w' := by
  have hle : Env.Le ρ (ρ.put n ⟨w.heap.size, 0, hi⟩) := Env.le_put hf
  have hgn : ∀ o ob, g o = some ob → o ≠ n := fun o ob ho e => by
    obtain ⟨L, h1, _⟩ := h.obj o ob ho
    rw [e, hf] at h1; cases h1
  have old : ∀ o ob L, o ≠ n → g o = some ob → (ρ.put n ⟨w.heap.size, 0, hi⟩).loc o = some L → ρ.loc o = some L ∧ ORel ρ w L ob := by
    intro o ob L hne ho hL
    rw [Env.put_other hne] at hL
    obtain ⟨M, m1, m2⟩ := h.obj o ob ho
    rw [hL] at m1; cases m1
    exact ⟨hL, m2⟩
  refine ⟨hle, ⟨?_, ?_, ?_, ?_⟩, by omega, ?_, ?_, by rw [hh, Array.size_push]; omega, fun b hb _ => heap_push hh b hb, ?_, fun _ _ _ x _ => .inl x, ht, ho, hp⟩
  · intro o1 ob1 ho1
    by_cases e : o1 = n
    · subst e
      simp only [upd, if_true] at ho1; cases ho1
      exact ⟨_, Env.put_same, hob⟩
    · simp only [upd, if_neg e] at ho1
      obtain ⟨M, m1, m2⟩ := h.obj o1 ob1 ho1
      exact ⟨M, hle.loc _ _ m1, (m2.of_heap (heap_push hh _ m2.lt)).mono hle⟩
  · intro o1 o2 ob1 ob2 L1 L2 hne h1 h2 hown hL1 hL2
    by_cases e1 : o1 = n
    · subst e1
      have e2 : o2 ≠ o1 := fun e => hne e.symm
      simp only [upd, if_neg e2] at h2
      obtain ⟨k1, k2⟩ := old o2 ob2 L2 e2 h2 hL2
      rw [Env.put_same] at hL1; cases hL1
      have := k2.lt
      simp only; omega
    · simp only [upd, if_neg e1] at h1
      obtain ⟨k1, k2⟩ := old o1 ob1 L1 e1 h1 hL1
      by_cases e2 : o2 = n
      · subst e2
        rw [Env.put_same] at hL2; cases hL2
        have := k2.lt
        simp only; omega
      · simp only [upd, if_neg e2] at h2
        obtain ⟨l1, l2⟩ := old o2 ob2 L2 e2 h2 hL2
        exact h.sep o1 o2 ob1 ob2 L1 L2 hne h1 h2 hown k1 l1
  · intro b i v hv
    have := h.imm b i v hv
    rw [cell_of_heap (heap_push hh _ (cell_lt this))]; exact this
  · intro o1 ob1 L b i v h1 hown hL hv
    by_cases e1 : o1 = n
    · subst e1
      rw [Env.put_same] at hL; cases hL
      have := cell_lt (h.imm b i v hv)
      simp only at this ⊢; omega
    · simp only [upd, if_neg e1] at h1
      obtain ⟨k1, k2⟩ := old o1 ob1 L e1 h1 hL
      exact h.immSep o1 ob1 L b i v h1 hown k1 hv
  · intro o1 L hL
    by_cases e : o1 = n
    · exact .inr (by omega)
    · rw [Env.put_other e] at hL; exact .inl hL
  · intro o1 ob1 ho1
    by_cases e : o1 = n
    · exact .inr (by omega)
    · simp only [upd, if_neg e] at ho1; exact .inl ⟨ob1, ho1⟩
  · intro o1 ob1 L ho1 hL hlt
    by_cases e : o1 = n
    · subst e; rw [Env.put_same] at hL; cases hL; simp at hlt
    · simp only [upd, if_neg e] at ho1
      obtain ⟨k1, k2⟩ := old o1 ob1 L e ho1 hL
      cases hb : ob1.own with
      | false => exact .inl ⟨rfl, ⟨ob1, ho1⟩, k1⟩
      | true => exact .inr ⟨o1, ob1, L, ho1, hb, k1, rfl⟩

theorem Ext.alloc {ρ : Env} {g : Gh} {n : Nat} {w w' : World} {o : Obj} {ob : AObj} {hi : Nat} (h : Rel ρ g w) (hf : Fresh ρ n) (hh : w'.heap = w.heap.push o)
    (hob : ORel (ρ.put n ⟨w.heap.size, 0, hi⟩) w' ⟨w.heap.size, 0, hi⟩ ob) (ht : w'.tape = w.tape := by rfl) (ho : w'.os = w.os := by rfl) (hp : w'.output = w.output := by rfl) :
    Ext ρ g n w (ρ.put n ⟨w.heap.size, 0, hi⟩) (upd g n (some ob)) (n + 1) w' := Ext.allocAt h (hf n (Nat.le_refl n)) hh hob ht ho hp

/-- An object of one's own turns, where it lies. -/
theorem Ext.turn {ρ : Env} {g : Gh} {n : Nat} {w w' : World} {o : Nat} {ob ob' : AObj} {L : Loc} (h : Rel ρ g w) (hg : g o = some ob) (hown : ob.own = true) (hL : ρ.loc o = some L)
    (hsz : w'.heap.size = w.heap.size) (hh : ∀ b, b ≠ L.blk → w'.heap[b]? = w.heap[b]?) (hob : ORel ρ w' L ob')
    (ht : w'.tape = w.tape := by rfl) (ho : w'.os = w.os := by rfl) (hp : w'.output = w.output := by rfl) : Ext ρ g n w ρ (upd g o (some ob')) n w' := by
  have hheld : Held ρ g L.blk := ⟨o, ob, L, hg, hown, hL, rfl⟩
  refine ⟨.refl ρ, ⟨?_, ?_, ?_, ?_⟩, Nat.le_refl n, fun _ _ x => .inl x, ?_, by omega, ?_, ?_, fun _ _ _ x _ => .inl x, ht, ho, hp⟩
  · intro o1 ob1 h1
    by_cases e : o1 = o
    · subst e; simp only [upd, if_true] at h1; cases h1; exact ⟨L, hL, hob⟩
    · simp only [upd, if_neg e] at h1
      obtain ⟨M, m1, m2⟩ := h.obj o1 ob1 h1
      exact ⟨M, m1, m2.of_heap (hh _ (fun e2 => h.sep o o1 ob ob1 L M (Ne.symm e) hg h1 hown hL m1 e2.symm))⟩
  · intro o1 o2 ob1 ob2 L1 L2 hne h1 h2 hown1 hL1 hL2
    by_cases e1 : o1 = o
    · subst e1
      have e2 : o2 ≠ o1 := fun e => hne e.symm
      simp only [upd, if_neg e2] at h2
      exact h.sep o1 o2 ob ob2 L1 L2 hne hg h2 hown hL1 hL2
    · simp only [upd, if_neg e1] at h1
      by_cases e2 : o2 = o
      · subst e2; exact h.sep o1 o2 ob1 ob L1 L2 hne h1 hg hown1 hL1 hL2
      · simp only [upd, if_neg e2] at h2; exact h.sep o1 o2 ob1 ob2 L1 L2 hne h1 h2 hown1 hL1 hL2
  · intro b i v hv
    rw [cell_of_heap (hh b (h.immSep o ob L b i v hg hown hL hv))]; exact h.imm b i v hv
  · intro o1 ob1 L1 b i v h1 hown1 hL1 hv
    by_cases e1 : o1 = o
    · subst e1; exact h.immSep o1 ob L1 b i v hg hown hL1 hv
    · simp only [upd, if_neg e1] at h1; exact h.immSep o1 ob1 L1 b i v h1 hown1 hL1 hv
  · intro o1 ob1 h1
    by_cases e1 : o1 = o
    · subst e1; exact .inl ⟨ob, hg⟩
    · simp only [upd, if_neg e1] at h1; exact .inl ⟨ob1, h1⟩
  · intro b hb hn
    exact hh b (fun e => hn (e ▸ hheld))
  · intro o1 ob1 L1 h1 hL1 hlt
    by_cases e1 : o1 = o
    · subst e1; rw [hL] at hL1; cases hL1; exact .inr hheld
    · simp only [upd, if_neg e1] at h1
      cases hb : ob1.own with
      | false => exact .inl ⟨rfl, ⟨ob1, h1⟩, hL1⟩
      | true => exact .inr ⟨o1, ob1, L1, h1, hb, hL1, rfl⟩

/-- An object of one's own is given up. -/
theorem Ext.kill {ρ : Env} {g : Gh} {n : Nat} {w : World} (o : Nat) (h : Rel ρ g w) : Ext ρ g n w ρ (upd g o none) n w := by
  have hs : ∀ i ob, upd g o none i = some ob → g i = some ob := fun i ob hi => by
    by_cases e : i = o
    · subst e; simp [upd] at hi
    · simpa [upd, e] using hi
  refine ⟨.refl ρ, h.less hs, Nat.le_refl n, fun _ _ x => .inl x, fun i ob hi => .inl ⟨ob, hs i ob hi⟩, Nat.le_refl _, fun _ _ _ => rfl, ?_, fun _ _ _ x _ => .inl x, rfl, rfl, rfl⟩
  intro o1 ob1 L1 h1 hL1 hlt
  cases hb : ob1.own with
  | false => exact .inl ⟨rfl, ⟨ob1, hs _ _ h1⟩, hL1⟩
  | true => exact .inr ⟨o1, ob1, L1, hs _ _ h1, hb, hL1, rfl⟩

/-- An object of one's own is given up, and another one made out of its block. -/
theorem Ext.renew {ρ : Env} {g : Gh} {n : Nat} {w w' : World} {o : Nat} {ob ob' : AObj} {L : Loc} (L' : Loc) (h : Rel ρ g w) (hf : Fresh ρ n) (hg : g o = some ob) (hown : ob.own = true) (hL : ρ.loc o = some L)
    (hb : L'.blk = L.blk) (hsz : w'.heap.size = w.heap.size) (hh : ∀ b, b ≠ L.blk → w'.heap[b]? = w.heap[b]?) (hob : ORel (ρ.put n L') w' L' ob')
    (ht : w'.tape = w.tape := by rfl) (ho : w'.os = w.os := by rfl) (hp : w'.output = w.output := by rfl) :
    Ext ρ g n w (ρ.put n L') (upd (upd g o none) n (some ob')) (n + 1) w' := by
  have hle : Env.Le ρ (ρ.put n L') := Env.le_put (hf n (Nat.le_refl n))
  have hheld : Held ρ g L.blk := ⟨o, ob, L, hg, hown, hL, rfl⟩
  have look : ∀ i x, upd (upd g o none) n (some ob') i = some x → (i = n ∧ x = ob') ∨ (i ≠ n ∧ i ≠ o ∧ g i = some x) := by
    intro i x hi
    by_cases e : i = n
    · subst e; simp only [upd, if_true] at hi; cases hi; exact .inl ⟨rfl, rfl⟩
    · simp only [upd, if_neg e] at hi
      by_cases e2 : i = o
      · subst e2; simp at hi
      · simp only [if_neg e2] at hi; exact .inr ⟨e, e2, hi⟩
  have other : ∀ i x M, i ≠ o → g i = some x → ρ.loc i = some M → M.blk ≠ L.blk := fun i x M hne hi hM e => h.sep o i ob x L M (Ne.symm hne) hg hi hown hL hM e.symm
  refine ⟨hle, ⟨?_, ?_, ?_, ?_⟩, by omega, ?_, ?_, by omega, fun b hb' hn => hh b (fun e => hn (e ▸ hheld)), ?_, fun _ _ _ x _ => .inl x, ht, ho, hp⟩
  · intro i x hi
    rcases look i x hi with ⟨rfl, rfl⟩ | ⟨e1, e2, hi⟩
    · exact ⟨L', Env.put_same, hob⟩
    · obtain ⟨M, m1, m2⟩ := h.obj i x hi
      exact ⟨M, hle.loc _ _ m1, (m2.of_heap (hh _ (other i x M e2 hi m1))).mono hle⟩
  · intro i j x y M N hne hi hj hx hM hN
    have hi' := look i x hi
    have hj' := look j y hj
    clear hi hj
    rcases hi' with ⟨hin, hxo⟩ | ⟨e1, e2, hi2⟩
    · rcases hj' with ⟨hjn, _⟩ | ⟨f1, f2, hj2⟩
      · exact absurd (hin.trans hjn.symm) hne
      · rw [hin, Env.put_same] at hM; cases hM
        rw [Env.put_other f1] at hN
        rw [hb]; exact fun e => other j y N f2 hj2 hN e.symm
    · rcases hj' with ⟨hjn, _⟩ | ⟨f1, f2, hj2⟩
      · rw [hjn, Env.put_same] at hN; cases hN
        rw [Env.put_other e1] at hM
        rw [hb]; exact other i x M e2 hi2 hM
      · rw [Env.put_other e1] at hM; rw [Env.put_other f1] at hN
        exact h.sep i j x y M N hne hi2 hj2 hx hM hN
  · intro b i v hv
    rw [cell_of_heap (hh b (h.immSep o ob L b i v hg hown hL hv))]; exact h.imm b i v hv
  · intro i x M b k v hi hx hM hv
    rcases look i x hi with ⟨rfl, rfl⟩ | ⟨e1, e2, hi⟩
    · rw [Env.put_same] at hM; cases hM
      rw [hb]; exact h.immSep o ob L b k v hg hown hL hv
    · rw [Env.put_other e1] at hM; exact h.immSep i x M b k v hi hx hM hv
  · intro i M hM
    by_cases e : i = n
    · exact .inr (by omega)
    · rw [Env.put_other e] at hM; exact .inl hM
  · intro i x hi
    rcases look i x hi with ⟨rfl, rfl⟩ | ⟨e1, e2, hi⟩
    · exact .inr (by omega)
    · exact .inl ⟨x, hi⟩
  · intro i x M hi hM hlt
    rcases look i x hi with ⟨rfl, rfl⟩ | ⟨e1, e2, hi⟩
    · rw [Env.put_same] at hM; cases hM; exact .inr (hb ▸ hheld)
    · rw [Env.put_other e1] at hM
      cases hbx : x.own with
      | false => exact .inl ⟨rfl, ⟨x, hi⟩, hM⟩
      | true => exact .inr ⟨i, x, M, hi, hbx, hM, rfl⟩

end Go.Zr
