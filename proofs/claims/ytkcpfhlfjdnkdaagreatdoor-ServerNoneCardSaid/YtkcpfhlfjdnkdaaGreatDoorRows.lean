/-
  NARROWER THAN 'FOR EVERY INPUT', by the rows' own cells (each row's printed sentence says how): ServerNone: laid.
  DERIVED. THE GIVEN ROWS OF THIS SEAT. 1 by the template 'for every input the law returns true; each argument reads behind the call as it read before'; 0 by the template 'total and deterministic' (their statements: YtkcpfhlfjdnkdaaGreatDoorTotals.lean).
  GIVEN WITH THE SEED: the statements are not yours to turn. If you find one false, say at which input.
  Laid BY PROGRAM, IN A SANDBOX (cutbox-rows.mjs): the forced cells as the released guide's own fill.sh prints them over the translation 587380ae0caca8b5… (all of the seat's roots in one cut). By AI agents, Wed Nov 11 2026. No macro, syntax, notation, axiom, sorry.
-/
import Derived.Test.YtkcpfhlfjdnkdaaGreatDoorChecked
import GoSem.Claim
import GoSem.ClaimJoined
import GoSem.ClaimMapViews
import Derived.JoinedTies
import Derived.KernelRfl
namespace Go.Proofs.YtkcpfhlfjdnkdaaGreatDoor
/- THE CELL 'sum', in the pinned program and in every row, IS THE sha256 OF THE DUMP (.gsa) THAT YtkcpfhlfjdnkdaaGreatDoorProg.lean LOADS. Nothing in Lean hashes anything: it is a label: what it is worth is what the hold of that sum in a sandbox is worth. -/
noncomputable def Tryz.pinned : Pinned := { name := "ytkcpfhlfjdnkdaagreatdoor", sum := "587380ae0caca8b59d4e4256c66a471491c3c7bd3dd6ebc2ede2e35130c5266d", checked := Tryz.checked }
namespace Rows
def none {H : Type} : Left H := { results := [], args := [] }

/- WHAT THE LISTED PACKAGE-LEVEL VARIABLES READ AS WHEN THE CALL BEGINS. Each datum BY PROGRAM (the guide's laid-datum.mjs) off the statement by which the dump's own 'gosem.cut.vars' lays the variable. In a bare row this is a premise. The card (YtkcpfhlfjdnkdaaGreatDoorCards.lean) ties it to the program's text. -/
def laid_gouache_selector_combs {H : Type} : DataW H := .agg [.lit (.string []), .lit (.string [32]), .lit (.string [62]), .lit (.string [43]), .lit (.string [126])]

/-- 'gouachelaw22.ServerNone': WHATEVER THE INPUT: true; the input reads as it did. -/
def serverNoneSpec : ChangeSpec := { name := "serverNone", fn := fun _ => fun
  | [d1, d2] => { results := [.lit (.bool true)], args := [d1, d2] }
  | _ => none }
def serverNoneRow : OpenClaim := { program := "ytkcpfhlfjdnkdaagreatdoor", sum := "587380ae0caca8b59d4e4256c66a471491c3c7bd3dd6ebc2ede2e35130c5266d", func := "gouache/gouachelaw22.ServerNone", spec := "serverNone", inPlace := ["sync/atomic.LoadInt64", "sync/atomic.CompareAndSwapInt64", "gosem.stop:gouache/dom.Words", "internal/bytealg.IndexByteString", "internal/bytealg.IndexString", "gosem.stop:gouache/walk.Place", "gosem.stop:gouache/nth.Fits", "gosem.stop:(gouache/match.place).way", "gosem.stop:(*gouache/token.reader).comment", "gosem.stop:(*gouache/token.reader).space", "gosem.stop:(*gouache/token.reader).quoted", "gosem.stop:(*gouache/token.reader).hash", "gosem.stop:(*gouache/token.reader).number", "gosem.stop:(*gouache/token.reader).closes", "gosem.stop:(*gouache/token.reader).opens", "internal/abi.NoEscape", "gosem.stop:(*gouache/token.reader).escaped", "gosem.stop:(*gouache/token.reader).url", "gosem.stop:(*gouache/token.reader).at", "gosem.stop:(*gouache/selector.reader).id", "gosem.stop:(*gouache/selector.reader).class", "gosem.stop:(*gouache/selector.reader).op", "gosem.stop:(*gouache/selector.reader).pseudo", "gosem.stop:gouache/query.All", "gosem.stop:(*gouache/sheet.Sheets).All", "gosem.stop:gouache/compute.Get", "gosem.stop:(*gouache/model.State).insert", "gosem.stop:(*gouache/model.State).remove", "gosem.stop:(*gouache/model.State).move", "slices.overlaps[gouache/api.Attr]", "gosem.stop:(*gouache/model.State).noAttr", "gosem.stop:(*gouache/model.State).sheet", "gosem.stop:(*gouache/model.State).noSheet", "gosem.stop:(*gouache/model.State).rule", "gosem.stop:(*gouache/model.State).noRule", "sync/atomic.AddInt64", "gosem.stop:(*gouache/server.Server).kept", "gosem.stop:gouache/compute.Style", "sync/atomic.StoreInt64"], unfollowed := true, recurses := true, named := ["internal/bytealg.MaxLen", "gouache/selector.combs"], apart := false, laid := [("gouache/selector.combs", laid_gouache_selector_combs)] }
def ServerNoneSaid : Prop := serverNoneRow.holds Tryz.pinned (OpenSpec.ofChange serverNoneSpec)

/-- ITS FALSE NEIGHBOUR: 'it returns false'. Refute it at one input. -/
def serverNoneWrong : ChangeSpec := { name := "serverNone", fn := fun _ => fun
  | [d1, d2] => { results := [.lit (.bool false)], args := [d1, d2] }
  | _ => none }
def ServerNoneWrongFalsely : Prop := serverNoneRow.holds Tryz.pinned (OpenSpec.ofChange serverNoneWrong)

/- THE SECOND FORM. 'bulk': how many values and letters a reading holds, each counted each time it is reached (what is shared counts as often as it is met; a slice's spare places count too). A statement '..UptoSaid' is the law's where the arguments, and the package variables that the reading takes, are together of bulk at most 1048576: NARROWER than '..Said'. Prove '..Said' where nothing that the law and all that it calls make is longer than what came in: it says more and counts as full. Else prove '..UptoSaid'. A law counts once. -/
mutual
def uptoBulk {H : Type} : DataW H → Nat
  | .lit (.string bytes) => bytes.length + 1
  | .lit _ => 1
  | .nil => 1
  | .ptr d => uptoBulk d + 1
  | .slice elems spare => uptoBulkAll elems + uptoBulkAll spare + 1
  | .agg parts => uptoBulkAll parts + 1
  | .iface _ d => uptoBulk d + 1
  | .map entries => uptoBulkEntries entries + 1
  | .held _ => 1
def uptoBulkAll {H : Type} : List (DataW H) → Nat
  | [] => 0
  | d :: r => uptoBulk d + uptoBulkAll r
def uptoBulkEntries {H : Type} : List (Lit × DataW H) → Nat
  | [] => 0
  | x :: r => uptoBulkEntry x + uptoBulkEntries r
def uptoBulkEntry {H : Type} : Lit × DataW H → Nat
  | (.string bytes, d) => bytes.length + uptoBulk d + 1
  | (_, d) => uptoBulk d + 1
 end
def uptoSmall : (H : Type) → List (DataW H) → Bool := fun _ ds => decide (uptoBulkAll ds ≤ 1048576)
def OpenSpec.upto (s : _root_.Go.ChangeSpec) : _root_.Go.OpenSpec := { _root_.Go.OpenSpec.ofChange s with cond := some uptoSmall }

/-- 'gouachelaw22.ServerNone', WHERE WHAT IT READS IS OF BULK AT MOST 1048576: true; the input reads as it did. -/
def serverNoneUptoRow : OpenClaim := { program := "ytkcpfhlfjdnkdaagreatdoor", sum := "587380ae0caca8b59d4e4256c66a471491c3c7bd3dd6ebc2ede2e35130c5266d", func := "gouache/gouachelaw22.ServerNone", spec := "serverNone", inPlace := ["sync/atomic.LoadInt64", "sync/atomic.CompareAndSwapInt64", "gosem.stop:gouache/dom.Words", "internal/bytealg.IndexByteString", "internal/bytealg.IndexString", "gosem.stop:gouache/walk.Place", "gosem.stop:gouache/nth.Fits", "gosem.stop:(gouache/match.place).way", "gosem.stop:(*gouache/token.reader).comment", "gosem.stop:(*gouache/token.reader).space", "gosem.stop:(*gouache/token.reader).quoted", "gosem.stop:(*gouache/token.reader).hash", "gosem.stop:(*gouache/token.reader).number", "gosem.stop:(*gouache/token.reader).closes", "gosem.stop:(*gouache/token.reader).opens", "internal/abi.NoEscape", "gosem.stop:(*gouache/token.reader).escaped", "gosem.stop:(*gouache/token.reader).url", "gosem.stop:(*gouache/token.reader).at", "gosem.stop:(*gouache/selector.reader).id", "gosem.stop:(*gouache/selector.reader).class", "gosem.stop:(*gouache/selector.reader).op", "gosem.stop:(*gouache/selector.reader).pseudo", "gosem.stop:gouache/query.All", "gosem.stop:(*gouache/sheet.Sheets).All", "gosem.stop:gouache/compute.Get", "gosem.stop:(*gouache/model.State).insert", "gosem.stop:(*gouache/model.State).remove", "gosem.stop:(*gouache/model.State).move", "slices.overlaps[gouache/api.Attr]", "gosem.stop:(*gouache/model.State).noAttr", "gosem.stop:(*gouache/model.State).sheet", "gosem.stop:(*gouache/model.State).noSheet", "gosem.stop:(*gouache/model.State).rule", "gosem.stop:(*gouache/model.State).noRule", "sync/atomic.AddInt64", "gosem.stop:(*gouache/server.Server).kept", "gosem.stop:gouache/compute.Style", "sync/atomic.StoreInt64"], unfollowed := true, recurses := true, named := ["internal/bytealg.MaxLen", "gouache/selector.combs"], apart := false, laid := [("gouache/selector.combs", laid_gouache_selector_combs)], narrowed := true }
def ServerNoneUptoSaid : Prop := serverNoneUptoRow.holds Tryz.pinned (OpenSpec.upto serverNoneSpec)

end Rows
end Go.Proofs.YtkcpfhlfjdnkdaaGreatDoor
