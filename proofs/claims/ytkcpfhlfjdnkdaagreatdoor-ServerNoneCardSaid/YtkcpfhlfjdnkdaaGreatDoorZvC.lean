import Derived.Test.YtkcpfhlfjdnkdaaGreatDoorZvB
namespace Go.Proofs.YtkcpfhlfjdnkdaaGreatDoor
open Go Go.Zr
noncomputable section

/-! What the laid variable holds. -/
def combsA : List AV := [.str [], .str [32], .str [62], .str [43], .str [126]]
def H0 (t0 : TypeId) : Hp := PT.nil.set 0 (some (.row t0 combsA 1))

/-- What the law's call gives, as the evaluator reckons it. -/
theorem none_is (t0 : TypeId) (a b c d e f m : Int) (x y : List UInt8) :
    Go.Zr.valOf (calls tb fns base2 1000 200 (.fn 3) [.agg [.int .i64 a, .int .i64 b, .int .i64 c, .int .i64 d, .int .i64 e, .int .i64 f, .str x, .str y], .int .i64 m] (H0 t0) 10) = some (.bool true) := by kernel_rfl
end
end Go.Proofs.YtkcpfhlfjdnkdaaGreatDoor
