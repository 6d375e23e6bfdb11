import Derived.Test.YtkcpfhlfjdnkdaaGreatDoorZsC
namespace Go.Zr

section
variable {P : Program} {tb : Tb}

/-- What the evaluator calls is what is called. -/
theorem calls_sound (ok : TbOk P tb) (hm : P.follows .mixedOrders = true) {fns : PT Func} {base : Nat → Option (Su → List AV → Hp → Nat → M AV)} {fuel : Nat} (hB : BaseOk P tb base) (hF : FnsOk P fns) : ∀ k, SoundS P tb (calls tb fns base fuel k)
  | 0 => fun c args H n v H' n' h => by simp [calls] at h
  | k + 1 => fun c args H n v H' n' h ρ w vs hg hr hf hv => by
    have ih := calls_sound ok hm (fuel := fuel) hB hF k
    cases c with
    | fn f =>
      simp only [calls] at h
      split at h
      · rename_i b hb
        exact hB f b hb _ ih args H n v H' n' h ρ w vs hg hr hf hv
      · split at h
        · rename_i fn hfn
          obtain ⟨h1, h2⟩ := hF f fn hfn
          obtain ⟨h3, h4⟩ := body_sound ok hm ih h1 h hg hr hf hv
          have hn : ¬ fn.name = "runtime.NumGoroutine" := by simpa using h2
          have hrun : (callFunc f vs).run P w = .ok (.enter f vs) w := by
            unfold callFunc
            cases hb : fn.body with
            | none => rw [hb] at h3; cases h3
            | some c => simp [h1, hb, hn]
          simp only
          rw [hrun]
          exact h4
        · cases h
    | round l =>
      simp only [calls] at h
      intro L hL
      exact round_sound ok hm ih h hg hr hf hv hL

end
end Go.Zr
