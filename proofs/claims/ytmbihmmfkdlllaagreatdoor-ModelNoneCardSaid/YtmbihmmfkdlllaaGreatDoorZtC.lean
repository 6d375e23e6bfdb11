import Derived.Test.YtmbihmmfkdlllaaGreatDoorZtB
import GoSem.PinnedTables
namespace Go.Proofs.YtmbihmmfkdlllaaGreatDoor
open Go Go.Zr
noncomputable section

/-! What the laid variables hold. -/
def combsA : List AV := [.str [], .str [32], .str [62], .str [43], .str [126]]
def coloursA : List AV := [.str [98, 108, 97, 99, 107], .str [35, 48, 48, 48, 48, 48, 48], .str [119, 104, 105, 116, 101], .str [35, 102, 102, 102, 102, 102, 102], .str [114, 101, 100], .str [35, 102, 102, 48, 48, 48, 48], .str [103, 114, 101, 101, 110], .str [35, 48, 48, 56, 48, 48, 48], .str [98, 108, 117, 101], .str [35, 48, 48, 48, 48, 102, 102], .str [103, 114, 97, 121], .str [35, 56, 48, 56, 48, 56, 48], .str [121, 101, 108, 108, 111, 119], .str [35, 102, 102, 102, 102, 48, 48], .str [112, 117, 114, 112, 108, 101], .str [35, 56, 48, 48, 48, 56, 48]]
def firstAV : List AV := Pinned.utf8FirstZ.map fun (n : Nat) => AV.int .u8 (n : Int)
def acceptA : List AV := [.int .u8 128, .int .u8 191, .int .u8 160, .int .u8 191, .int .u8 128, .int .u8 159, .int .u8 144, .int .u8 191, .int .u8 128, .int .u8 143, .int .u8 0, .int .u8 0, .int .u8 0, .int .u8 0, .int .u8 0, .int .u8 0, .int .u8 0, .int .u8 0, .int .u8 0, .int .u8 0, .int .u8 0, .int .u8 0, .int .u8 0, .int .u8 0, .int .u8 0, .int .u8 0, .int .u8 0, .int .u8 0, .int .u8 0, .int .u8 0, .int .u8 0, .int .u8 0]
def H0 (t0 t2 t3 t4 : TypeId) : Hp := (((PT.nil.set 0 (some (.row t0 combsA 1))).set 2 (some (.row t2 coloursA 1))).set 3 (some (.row t3 firstAV 1))).set 4 (some (.row t4 acceptA 1))

/-- What the law's call gives, as the evaluator reckons it. -/
theorem none_is (t0 t2 t3 t4 : TypeId) (a b c d e f : Int) (x y : List UInt8) :
    valOf (calls tb fns base2 1000 200 (.fn 3) [.agg [.int .i64 a, .int .i64 b, .int .i64 c, .int .i64 d, .int .i64 e, .int .i64 f, .str x, .str y]] (H0 t0 t2 t3 t4) 10) = some (.bool true) := by kernel_rfl
end
end Go.Proofs.YtmbihmmfkdlllaaGreatDoor
