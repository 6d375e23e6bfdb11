import Derived.Test.YtmbihmmfkdlllaaGreatDoorZtC
import Derived.Test.YtmbihmmfkdlllaaGreatDoorZtE
import Derived.Test.YtmbihmmfkdlllaaGreatDoorRows
import Derived.ProofKit
import Derived.LaidMore
import Derived.OpenShut
import Derived.Lay
import Derived.LaidOnce
import Derived.Lib.LaidU8
import Derived.Stop.Joined
namespace Go.Proofs.YtmbihmmfkdlllaaGreatDoor
open Go Go.Zr
open Go.ChangeShapes Go.WideShapes Go.ChangeAt Go.RowKit
noncomputable section

theorem own : ownKnob Tryz.prog.godebug = none := by kernel_rfl

/-! The start's memory. -/
theorem g0 : Tryz.prog.globalNamed "gouache/selector.combs" = some 0 := by kernel_rfl
theorem g2 : Tryz.prog.globalNamed "gouache/value.colours" = some 2 := by kernel_rfl
theorem g3 : Tryz.prog.globalNamed "unicode/utf8.first" = some 3 := by kernel_rfl
theorem g4 : Tryz.prog.globalNamed "unicode/utf8.acceptRanges" = some 4 := by kernel_rfl
theorem y0 : (Tryz.prog.globals[0]?).map (·.type) = some 270 := by kernel_rfl
theorem y2 : (Tryz.prog.globals[2]?).map (·.type) = some 406 := by kernel_rfl
theorem y3 : (Tryz.prog.globals[3]?).map (·.type) = some 411 := by kernel_rfl
theorem y4 : (Tryz.prog.globals[4]?).map (·.type) = some 414 := by kernel_rfl
theorem f0 : flatB Tryz.prog 4 270 Rows.laid_gouache_selector_combs combsA = true := by kernel_rfl
theorem f2 : flatB Tryz.prog 4 406 Rows.laid_gouache_value_colours coloursA = true := by kernel_rfl
theorem f3 : flatB Tryz.prog 4 411 Rows.laid_unicode_utf8_first firstAV = true := by kernel_rfl
theorem f4 : flatB Tryz.prog 4 414 Rows.laid_unicode_utf8_acceptRanges acceptA = true := by kernel_rfl

def laid4 : List (String × DataW Unit) := [("unicode/utf8.acceptRanges", Rows.laid_unicode_utf8_acceptRanges), ("gouache/selector.combs", Rows.laid_gouache_selector_combs), ("gouache/value.colours", Rows.laid_gouache_value_colours), ("unicode/utf8.first", Rows.laid_unicode_utf8_first)]

theorem H0_get (t0 t2 t3 t4 : TypeId) (o : Nat) (ob : AObj) (h : (H0 t0 t2 t3 t4).get o = some ob) :
    (o = 0 ∧ ob = .row t0 combsA 1) ∨ (o = 2 ∧ ob = .row t2 coloursA 1) ∨ (o = 3 ∧ ob = .row t3 firstAV 1) ∨ (o = 4 ∧ ob = .row t4 acceptA 1) := by
  unfold H0 at h
  rw [PT.get_set, PT.get_set, PT.get_set, PT.get_set] at h
  by_cases e4 : o = 4
  · rw [if_pos e4] at h; exact .inr (.inr (.inr ⟨e4, (Option.some.inj h).symm⟩))
  · rw [if_neg e4] at h
    by_cases e3 : o = 3
    · rw [if_pos e3] at h; exact .inr (.inr (.inl ⟨e3, (Option.some.inj h).symm⟩))
    · rw [if_neg e3] at h
      by_cases e2 : o = 2
      · rw [if_pos e2] at h; exact .inr (.inl ⟨e2, (Option.some.inj h).symm⟩)
      · rw [if_neg e2] at h
        by_cases e0 : o = 0
        · rw [if_pos e0] at h; exact .inl ⟨e0, (Option.some.inj h).symm⟩
        · rw [if_neg e0] at h; simp at h

/-- The law's call. -/
theorem call_is {W : World} (hL : laidMet Tryz.prog laid4 W) (a b c d e f : Int) (x y : ByteArray) :
    Calls Tryz.prog 3 #[.agg #[.int .i64 a, .int .i64 b, .int .i64 c, .int .i64 d, .int .i64 e, .int .i64 f, .string x, .string y]] W fun en W' => en = .returned (.bool true) ∧ Below W.heap.size W W' := by
  obtain ⟨t0, r0, c0, h0, v0⟩ := reads_row (ρ := startEnv W 5) (Lib.laidMet.reads hL (n := "gouache/selector.combs") (d := Rows.laid_gouache_selector_combs) (by simp [laid4])) g0 y0 f0
  obtain ⟨t2, r2, c2, h2, v2⟩ := reads_row (ρ := startEnv W 5) (Lib.laidMet.reads hL (n := "gouache/value.colours") (d := Rows.laid_gouache_value_colours) (by simp [laid4])) g2 y2 f2
  obtain ⟨t3, r3, c3, h3, v3⟩ := reads_row (ρ := startEnv W 5) (Lib.laidMet.reads hL (n := "unicode/utf8.first") (d := Rows.laid_unicode_utf8_first) (by simp [laid4])) g3 y3 f3
  obtain ⟨t4, r4, c4, h4, v4⟩ := reads_row (ρ := startEnv W 5) (Lib.laidMet.reads hL (n := "unicode/utf8.acceptRanges") (d := Rows.laid_unicode_utf8_acceptRanges) (by simp [laid4])) g4 y4 f4
  obtain ⟨hr, hown⟩ := start_rel (W := W) (ng := 5) (g := (H0 t0 t2 t3 t4).get) (fun o ob ho => by
    rcases H0_get t0 t2 t3 t4 o ob ho with ⟨rfl, rfl⟩ | ⟨rfl, rfl⟩ | ⟨rfl, rfl⟩ | ⟨rfl, rfl⟩
    · exact ⟨by decide, t0, r0, c0, _, rfl, h0, v0⟩
    · exact ⟨by decide, t2, r2, c2, _, rfl, h2, v2⟩
    · exact ⟨by decide, t3, r3, c3, _, rfl, h3, v3⟩
    · exact ⟨by decide, t4, r4, c4, _, rfl, h4, v4⟩)
  have hv : VRels (startEnv W 5) [.agg [.int .i64 a, .int .i64 b, .int .i64 c, .int .i64 d, .int .i64 e, .int .i64 f, .str x.data.toList, .str y.data.toList]]
      (#[.agg #[.int .i64 a, .int .i64 b, .int .i64 c, .int .i64 d, .int .i64 e, .int .i64 f, .string x, .string y]] : Array Value).toList := by
    refine VRels.cons ?_ VRels.nil
    simp only [VRel]
    exact ⟨_, rfl, by simp [VRels, VRel]⟩
  refine (run_below (sound2 200) (none_is t0 t2 t3 t4 a b c d e f x.data.toList y.data.toList) rfl Tryz.func3 (by kernel_rfl) (by kernel_rfl) start_glob hr (start_fresh (by decide)) hv hown).mono fun en W' ⟨z, e1, e2, e3⟩ => ?_
  simp only [VRel] at e2
  subst e2
  exact ⟨e1, e3⟩
end
end Go.Proofs.YtmbihmmfkdlllaaGreatDoor
