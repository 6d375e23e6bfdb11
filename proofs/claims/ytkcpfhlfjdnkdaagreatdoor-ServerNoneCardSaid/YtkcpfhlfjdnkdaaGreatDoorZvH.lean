import Derived.Test.YtkcpfhlfjdnkdaaGreatDoorZvF
namespace Go.Proofs.YtkcpfhlfjdnkdaaGreatDoor
open Go Go.Zr
open Go.ChangeShapes Go.WideShapes Go.ChangeAt Go.RowKit

theorem c3 : Tryz.prog.cellsOf 3 = 1 := by kernel_rfl
theorem c9 : Tryz.prog.cellsOf 9 = 1 := by kernel_rfl
theorem c23 : Tryz.prog.cellsOf 23 = 8 := by kernel_rfl

section
variable {H : Type} {enc : TypeId × Value → H}

theorem int_any {W : World} {base : Nat} {sp : Nat → Bool} {n : Nat} {v : Value} {x : DataW H × List MemPlace} (h : DataW.trod enc Tryz.prog W base sp true n 3 [v] = some x) :
    ∃ a, v = .int .i64 a ∧ x.2 = [] ∧ ∀ (W' : World) (base' : Nat) (sp' : Nat → Bool), DataW.trod enc Tryz.prog W' base' sp' true n 3 [v] = some x := by
  cases n with
  | zero => simp [DataW.trod] at h
  | succ m =>
    obtain ⟨a, ha, hx, wa⟩ := DataW.trod_int Tryz.underlying3 h
    simp only [List.cons.injEq, and_true] at ha
    subst ha; subst hx
    exact ⟨a, rfl, rfl, fun _ _ _ => trod_int_mk m Tryz.underlying3 wa⟩

theorem str_any {W : World} {base : Nat} {sp : Nat → Bool} {n : Nat} {v : Value} {x : DataW H × List MemPlace} (h : DataW.trod enc Tryz.prog W base sp true n 9 [v] = some x) :
    ∃ s, v = .string s ∧ x.2 = [] ∧ ∀ (W' : World) (base' : Nat) (sp' : Nat → Bool), DataW.trod enc Tryz.prog W' base' sp' true n 9 [v] = some x := by
  cases n with
  | zero => simp [DataW.trod] at h
  | succ m =>
    obtain ⟨s, ha, hx, hs⟩ := DataW.trod_string Tryz.underlying9 h
    simp only [List.cons.injEq, and_true] at ha
    subst ha; subst hx
    exact ⟨s, rfl, rfl, fun _ _ _ => by simp [DataW.trod, Tryz.underlying9, hs]⟩

set_option maxRecDepth 100000 in
/-- An operation that comes in: six numbers, two texts; it reads the same in whatever memory. -/
theorem op_arg {W : World} {sp : Nat → Bool} {cs : Array Value} {d : DataW H} {p : List MemPlace} (h : DataW.Trod enc Tryz.prog W 0 sp true 23 (.agg cs) d p) :
    ∃ (a b c e f g : Int) (x y : ByteArray), cs = #[.int .i64 a, .int .i64 b, .int .i64 c, .int .i64 e, .int .i64 f, .int .i64 g, .string x, .string y] ∧ p = [] ∧
      ∀ (W' : World) (sp' : Nat → Bool), DataW.Trod enc Tryz.prog W' 0 sp' true 23 (.agg cs) d [] := by
  obtain ⟨fuel, hf⟩ := h
  obtain ⟨xs, n, rfl, hx, hl, hn, hel⟩ := DataW.trod_struct Tryz.underlying23 hf
  rw [c23] at hl
  obtain ⟨l⟩ := cs
  simp only [Value.cells] at hl hel
  match l, hl with
  | [v0, v1, v2, v3, v4, v5, v6, v7], _ =>
    match xs, hn with
    | [x0, x1, x2, x3, x4, x5, x6, x7], _ =>
      have e0 : DataW.trod enc Tryz.prog W 0 sp true n 3 [v0] = some x0 := by simpa [c3] using hel 0 _ rfl
      have e1 : DataW.trod enc Tryz.prog W 0 sp true n 3 [v1] = some x1 := by simpa [c3] using hel 1 _ rfl
      have e2 : DataW.trod enc Tryz.prog W 0 sp true n 3 [v2] = some x2 := by simpa [c3] using hel 2 _ rfl
      have e3 : DataW.trod enc Tryz.prog W 0 sp true n 3 [v3] = some x3 := by simpa [c3] using hel 3 _ rfl
      have e4 : DataW.trod enc Tryz.prog W 0 sp true n 3 [v4] = some x4 := by simpa [c3] using hel 4 _ rfl
      have e5 : DataW.trod enc Tryz.prog W 0 sp true n 3 [v5] = some x5 := by simpa [c3] using hel 5 _ rfl
      have e6 : DataW.trod enc Tryz.prog W 0 sp true n 9 [v6] = some x6 := by simpa [c9] using hel 6 _ rfl
      have e7 : DataW.trod enc Tryz.prog W 0 sp true n 9 [v7] = some x7 := by simpa [c9] using hel 7 _ rfl
      obtain ⟨a0, rfl, p0, i0⟩ := int_any e0
      obtain ⟨a1, rfl, p1, i1⟩ := int_any e1
      obtain ⟨a2, rfl, p2, i2⟩ := int_any e2
      obtain ⟨a3, rfl, p3, i3⟩ := int_any e3
      obtain ⟨a4, rfl, p4, i4⟩ := int_any e4
      obtain ⟨a5, rfl, p5, i5⟩ := int_any e5
      obtain ⟨s6, rfl, p6, i6⟩ := str_any e6
      obtain ⟨s7, rfl, p7, i7⟩ := str_any e7
      simp only [List.map_cons, List.map_nil, List.flatMap_cons, List.flatMap_nil, p0, p1, p2, p3, p4, p5, p6, p7, List.append_nil, Prod.mk.injEq] at hx
      obtain ⟨rfl, rfl⟩ := hx
      refine ⟨a0, a1, a2, a3, a4, a5, s6, s7, rfl, rfl, fun W' sp' => ⟨n + 1, ?_⟩⟩
      have := trod_struct_mk (enc := enc) (w := W') (base := 0) (spare := sp') (held := true) (n := n) (cs := [.int .i64 a0, .int .i64 a1, .int .i64 a2, .int .i64 a3, .int .i64 a4, .int .i64 a5, .string s6, .string s7]) (xs := [x0, x1, x2, x3, x4, x5, x6, x7]) Tryz.underlying23 (by simp [c23])
        (by simp [c3, c9, i0 W' 0 sp', i1 W' 0 sp', i2 W' 0 sp', i3 W' 0 sp', i4 W' 0 sp', i5 W' 0 sp', i6 W' 0 sp', i7 W' 0 sp'])
      simpa [p0, p1, p2, p3, p4, p5, p6, p7, Value.cells] using this
end

set_option maxRecDepth 100000 in
theorem lifted (os : Os) (started : os.Started) (H : Type) (enc : TypeId × Value → H) :
    ReturnsInHanded {} Tryz.checked os 3 .any (fun w args => (Rows.serverNoneSpec.pre enc Tryz.prog Tryz.f3 [] false w args ∧ laidMetH Tryz.prog laid1 w) ∧ sizedMet enc Tryz.prog Tryz.f3 (OpenSpec.ofChange Rows.serverNoneSpec) false w args)
      (Rows.serverNoneSpec.post enc Tryz.prog Tryz.f3 false true false false) := by
  refine returnsInHanded_of_change_and (C := Tryz.checked) (X := fun w _ => laidMetH Tryz.prog laid1 w) (fun _ _ _ hh h => h.of_heap hh) own started (by kernel_rfl) Tryz.func3
    (ChangeSpec.witness_shaped (enc := enc) (C := Tryz.checked) (os := os) (X := fun w _ => laidMetH Tryz.prog laid1 w) false (World.laidAll Tryz.prog os laid1)
      #[.agg #[.int .i64 0, .int .i64 0, .int .i64 0, .int .i64 0, .int .i64 0, .int .i64 0, .string ByteArray.empty, .string ByteArray.empty], .int .i64 0] 8 (World.laidAll_os _ _ _)
      (World.shaped_of_ZipB (by kernel_rfl) (by kernel_rfl)) (by kernel_rfl) (by kernel_rfl) (by kernel_rfl)
      (by rw [MakeChecks.laidMetH_plain _ _ _ (by kernel_rfl)]; exact laidMet_laidAll _ (by kernel_rfl) (by kernel_rfl))) ?_
  intro W base args ds gs before hval0 hW _ _ hL _
  have hval : ∀ (j : Nat) t v, Tryz.f3.params[j]? = some t → args[j]? = some v → Value.okWide Tryz.prog W .any base t v := hval0
  have hW' := hW
  obtain ⟨p, q, hA0, hV, rfl, _, _⟩ := hW
  have hA : DataW.TrodAll enc Tryz.prog W 0 (fun _ => true) true Tryz.f3.params.toList args.toList ds p := hA0
  rw [Tryz.params3] at hA hval
  obtain ⟨v0, v1, d0, d1, p0, p1, rfl, rfl, rfl, h0, h1⟩ := trodAll_two hA
  obtain ⟨rfl, rfl⟩ := trodVars_none hV
  obtain ⟨cs, rfl, _⟩ := okWide_struct Tryz.underlying23 (hval 0 23 v0 rfl rfl)
  obtain ⟨a, b, c, e, f, g, x, y, rfl, rfl, again⟩ := op_arg h0
  obtain ⟨m, rfl, rfl, rfl, wm⟩ := open_int Tryz.underlying3 (hval 1 3 v1 rfl rfl) h1
  simp only [List.append_nil] at hW'
  rw [MakeChecks.laidMetH_plain _ _ _ (by kernel_rfl)] at hL
  refine (call_is hL a b c e f g m x y).mono fun en W' ⟨he, hb⟩ => ?_
  subst he
  exact ⟨_, rfl, _, _, _, [], [], [], hW', trodAll_mk1 (shut_bool Tryz.underlying4 _), trodAll_mk2 (again W' _) (shut_int Tryz.underlying3 wm), rfl, hb.frame _, fun h => by cases h⟩
end Go.Proofs.YtkcpfhlfjdnkdaaGreatDoor
