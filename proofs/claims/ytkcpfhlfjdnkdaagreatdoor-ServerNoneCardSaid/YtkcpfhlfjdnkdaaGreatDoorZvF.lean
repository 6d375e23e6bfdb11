import Derived.Test.YtkcpfhlfjdnkdaaGreatDoorZvC
import Derived.Test.YtkcpfhlfjdnkdaaGreatDoorZtE
import Derived.Test.YtkcpfhlfjdnkdaaGreatDoorRows
import Derived.ProofKit
import Derived.LaidMore
import Derived.OpenShut
import Derived.Lay
import Derived.LaidOnce
import Derived.Lib.LaidU8
import Derived.Stop.Joined
namespace Go.Proofs.YtkcpfhlfjdnkdaaGreatDoor
open Go Go.Zr
open Go.ChangeShapes Go.WideShapes Go.ChangeAt Go.RowKit
noncomputable section

theorem own : ownKnob Tryz.prog.godebug = none := by kernel_rfl

/-! The start's memory. -/
theorem g0 : Tryz.prog.globalNamed "gouache/selector.combs" = some 0 := by kernel_rfl
theorem y0 : (Tryz.prog.globals[0]?).map (·.type) = some 274 := by kernel_rfl
theorem f0 : flatB Tryz.prog 4 274 Rows.laid_gouache_selector_combs combsA = true := by kernel_rfl

def laid1 : List (String × DataW Unit) := [("gouache/selector.combs", Rows.laid_gouache_selector_combs)]

theorem H0_get (t0 : TypeId) (o : Nat) (ob : AObj) (h : (H0 t0).get o = some ob) : o = 0 ∧ ob = .row t0 combsA 1 := by
  unfold H0 at h
  rw [PT.get_set] at h
  by_cases e0 : o = 0
  · rw [if_pos e0] at h; exact ⟨e0, (Option.some.inj h).symm⟩
  · rw [if_neg e0] at h; simp at h

/-- The law's call. -/
theorem call_is {W : World} (hL : laidMet Tryz.prog laid1 W) (a b c d e f m : Int) (x y : ByteArray) :
    Calls Tryz.prog 3 #[.agg #[.int .i64 a, .int .i64 b, .int .i64 c, .int .i64 d, .int .i64 e, .int .i64 f, .string x, .string y], .int .i64 m] W fun en W' => en = .returned (.bool true) ∧ Below W.heap.size W W' := by
  obtain ⟨t0, r0, c0, h0, v0⟩ := reads_row (ρ := startEnv W 2) (Lib.laidMet.reads hL (n := "gouache/selector.combs") (d := Rows.laid_gouache_selector_combs) (by simp [laid1])) g0 y0 f0
  obtain ⟨hr, hown⟩ := start_rel (W := W) (ng := 2) (g := (H0 t0).get) (fun o ob ho => by
    obtain ⟨rfl, rfl⟩ := H0_get t0 o ob ho
    exact ⟨by decide, t0, r0, c0, _, rfl, h0, v0⟩)
  have hv : VRels (startEnv W 2) [.agg [.int .i64 a, .int .i64 b, .int .i64 c, .int .i64 d, .int .i64 e, .int .i64 f, .str x.data.toList, .str y.data.toList], .int .i64 m]
      (#[.agg #[.int .i64 a, .int .i64 b, .int .i64 c, .int .i64 d, .int .i64 e, .int .i64 f, .string x, .string y], .int .i64 m] : Array Value).toList := by
    refine VRels.cons ?_ (VRels.cons (by simp only [VRel]) VRels.nil)
    simp only [VRel]
    exact ⟨_, rfl, by simp [VRels, VRel]⟩
  refine (run_below (sound2 200) (none_is t0 a b c d e f m x.data.toList y.data.toList) rfl Tryz.func3 (by kernel_rfl) (by kernel_rfl) start_glob hr (start_fresh (by decide)) hv hown).mono fun en W' ⟨z, e1, e2, e3⟩ => ?_
  simp only [VRel] at e2
  subst e2
  exact ⟨e1, e3⟩
end
end Go.Proofs.YtkcpfhlfjdnkdaaGreatDoor
