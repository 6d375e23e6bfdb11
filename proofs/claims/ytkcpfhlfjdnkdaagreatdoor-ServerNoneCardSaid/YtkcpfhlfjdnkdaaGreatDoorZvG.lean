import Derived.Test.YtkcpfhlfjdnkdaaGreatDoorRows
import Derived.ProofKit
import Derived.Stop.Joined
import Derived.KernelRfl
namespace Go.Proofs.YtkcpfhlfjdnkdaaGreatDoor
open Go
/-! The row's closed facts, the great ones apart. -/
theorem joined1 : (Rows.serverNoneRow.inPlace == Tryz.pinned.checked.prog.inPlace 3) = true := by kernel_rfl
theorem joined2 : (Rows.serverNoneRow.unfollowed == Tryz.pinned.checked.prog.unfollowed 3) = true := by kernel_rfl
theorem joined3 : (Rows.serverNoneRow.recurses == Tryz.pinned.checked.prog.recurses 3) = true := by kernel_rfl
theorem joined4 : (Rows.serverNoneRow.named == Tryz.pinned.checked.prog.varsNamed 3) = true := by kernel_rfl
theorem joined_ok : joinedFacts Tryz.pinned.checked.prog 3 Tryz.f3 Rows.serverNoneSpec Rows.serverNoneRow = true := by
  unfold joinedFacts
  rw [joined1, joined2, joined3, joined4]
  kernel_rfl
end Go.Proofs.YtkcpfhlfjdnkdaaGreatDoor
