/-
  PROVED: the law ServerNone of chapter 22 ('a server that no call made does nothing') answers true for every operation and number that come in, and both read behind the call as they read before.
  CONDITIONS: the card's own: the listed variables hold what the program's text lays (tied); over the given translation, whose functions that no drawn input entered stand without a body (walls): no run of the law comes to one.
-/
import Derived.Test.YtkcpfhlfjdnkdaaGreatDoorZvG
import Derived.Test.YtkcpfhlfjdnkdaaGreatDoorZvH
import Derived.Test.YtkcpfhlfjdnkdaaGreatDoorCards
import Derived.Test.YtkcpfhlfjdnkdaaGreatDoorTie
import Derived.SevenTiedAt
namespace Go.Proofs.YtkcpfhlfjdnkdaaGreatDoor
open Go

set_option maxRecDepth 100000

theorem row_holds : Rows.ServerNoneSaid :=
  OpenClaim.holds_of_wide 3 Tryz.f3 rfl rfl rfl rfl rfl rfl rfl ⟨rfl, rfl, rfl, rfl, rfl⟩ rfl rfl rfl rfl rfl (by kernel_rfl) Tryz.func3 joined_ok
    (of_decide_eq_true (by kernel_rfl)) (by unfold Func.isWrapper; first | (rw [if_pos (by decide +kernel)]; kernel_rfl) | (rw [if_neg (by decide +kernel)]; exact ⟨rfl, rfl⟩))
    (fun os started H enc _ => lifted os started H enc)

theorem goes_not : false = Rows.serverNoneRow.goesBy Tryz.pinned.checked.prog := by kernel_rfl

theorem stand_ins (f : FuncId) (fn : Func) (hf : Tryz.pinned.checked.prog.funcNamed Rows.serverNoneRow.func = some f) (hfn : Tryz.pinned.checked.prog.funcs[f]? = some fn) :
    true = Tryz.pinned.checked.prog.looks [] ∧ ∀ (j : Nat) t, fn.params[j]? = some t → Tryz.pinned.checked.prog.wantsStandIn t = false := by
  obtain rfl : f = 3 := Option.some.inj ((show Tryz.prog.funcNamed "gouache/gouachelaw22.ServerNone" = some 3 by kernel_rfl).symm.trans hf) |>.symm
  obtain rfl : fn = Tryz.f3 := (Option.some.inj (Tryz.func3.symm.trans hfn)).symm
  exact ⟨by kernel_rfl, fun j t ht => by
    rw [Tryz.params3] at ht
    have hm : t ∈ [23, 3] := by simpa using Array.mem_of_getElem? ht
    have hall : ([23, 3].all fun u => !Tryz.prog.wantsStandIn u) = true := by kernel_rfl
    exact (show Tryz.prog.wantsStandIn t = false by simpa using List.all_eq_true.1 hall t hm)⟩

theorem card_holds : Rows.ServerNoneCardSaid :=
  Claim7.holds_tied_plain_at .later [] [.widerDeep] true (true, "874675280b070e64bbba573b9089dafa45cf6e656df2ee7013e478ef2dcefc53") true
    row_holds (fun _ h => by cases h) (by kernel_rfl) (fun _ h => by cases h) serverNone_row_tie rfl ⟨rfl, rfl⟩ (by kernel_rfl) rfl
    stand_ins goes_not
#print axioms card_holds
end Go.Proofs.YtkcpfhlfjdnkdaaGreatDoor
