/-
  NARROWER THAN 'FOR EVERY INPUT', by the rows' own cells (each row's printed sentence says how): ModelNone: laid.
  DERIVED. THE GIVEN ROWS OF THIS SEAT. 1 by the template 'for every input the law returns true; each argument reads behind the call as it read before'; 0 by the template 'total and deterministic' (their statements: YtmbihmmfkdlllaaGreatDoorTotals.lean).
  GIVEN WITH THE SEED: the statements are not yours to turn. If you find one false, say at which input.
  Laid BY PROGRAM, IN A SANDBOX (cutbox-rows.mjs): the forced cells as the released guide's own fill.sh prints them over the translation 0673b4827a8987aa… (all of the seat's roots in one cut). By AI agents, Wed Nov 11 2026. No macro, syntax, notation, axiom, sorry.
-/
import Derived.Test.YtmbihmmfkdlllaaGreatDoorChecked
import GoSem.PinnedTables
import GoSem.Claim
import GoSem.ClaimJoined
import GoSem.ClaimMapViews
import Derived.JoinedTies
import Derived.KernelRfl
namespace Go.Proofs.YtmbihmmfkdlllaaGreatDoor
/- THE CELL 'sum', in the pinned program and in every row, IS THE sha256 OF THE DUMP (.gsa) THAT YtmbihmmfkdlllaaGreatDoorProg.lean LOADS. Nothing in Lean hashes anything: it is a label: what it is worth is what the hold of that sum in a sandbox is worth. -/
noncomputable def Tryz.pinned : Pinned := { name := "ytmbihmmfkdlllaagreatdoor", sum := "0673b4827a8987aa91b5eea249a759b740a1f53819de40407bfc6c9e4c0e935f", checked := Tryz.checked }
namespace Rows
def none {H : Type} : Left H := { results := [], args := [] }

/- WHAT THE LISTED PACKAGE-LEVEL VARIABLES READ AS WHEN THE CALL BEGINS. Each datum BY PROGRAM (the guide's laid-datum.mjs) off the statement by which the dump's own 'gosem.cut.vars' lays the variable. In a bare row this is a premise. The card (YtmbihmmfkdlllaaGreatDoorCards.lean) ties it to the program's text. -/
def laid_unicode_utf8_acceptRanges {H : Type} : DataW H := .agg [.agg [.lit (.int .u8 128), .lit (.int .u8 191)], .agg [.lit (.int .u8 160), .lit (.int .u8 191)], .agg [.lit (.int .u8 128), .lit (.int .u8 159)], .agg [.lit (.int .u8 144), .lit (.int .u8 191)], .agg [.lit (.int .u8 128), .lit (.int .u8 143)], .agg [.lit (.int .u8 0), .lit (.int .u8 0)], .agg [.lit (.int .u8 0), .lit (.int .u8 0)], .agg [.lit (.int .u8 0), .lit (.int .u8 0)], .agg [.lit (.int .u8 0), .lit (.int .u8 0)], .agg [.lit (.int .u8 0), .lit (.int .u8 0)], .agg [.lit (.int .u8 0), .lit (.int .u8 0)], .agg [.lit (.int .u8 0), .lit (.int .u8 0)], .agg [.lit (.int .u8 0), .lit (.int .u8 0)], .agg [.lit (.int .u8 0), .lit (.int .u8 0)], .agg [.lit (.int .u8 0), .lit (.int .u8 0)], .agg [.lit (.int .u8 0), .lit (.int .u8 0)]]
def laid_gouache_selector_combs {H : Type} : DataW H := .agg [.lit (.string []), .lit (.string [32]), .lit (.string [62]), .lit (.string [43]), .lit (.string [126])]
def laid_gouache_value_colours {H : Type} : DataW H := .agg [.agg [.lit (.string [98, 108, 97, 99, 107]), .lit (.string [35, 48, 48, 48, 48, 48, 48])], .agg [.lit (.string [119, 104, 105, 116, 101]), .lit (.string [35, 102, 102, 102, 102, 102, 102])], .agg [.lit (.string [114, 101, 100]), .lit (.string [35, 102, 102, 48, 48, 48, 48])], .agg [.lit (.string [103, 114, 101, 101, 110]), .lit (.string [35, 48, 48, 56, 48, 48, 48])], .agg [.lit (.string [98, 108, 117, 101]), .lit (.string [35, 48, 48, 48, 48, 102, 102])], .agg [.lit (.string [103, 114, 97, 121]), .lit (.string [35, 56, 48, 56, 48, 56, 48])], .agg [.lit (.string [121, 101, 108, 108, 111, 119]), .lit (.string [35, 102, 102, 102, 102, 48, 48])], .agg [.lit (.string [112, 117, 114, 112, 108, 101]), .lit (.string [35, 56, 48, 48, 48, 56, 48])]]
/-- One of Go's own tables, pinned by name: the form's constant. -/
def laid_unicode_utf8_first : DataW Unit := Go.Pinned.utf8First

/-- 'gouachelaw21.ModelNone': WHATEVER THE INPUT: true; the input reads as it did. -/
def modelNoneSpec : ChangeSpec := { name := "modelNone", fn := fun _ => fun
  | [d] => { results := [.lit (.bool true)], args := [d] }
  | _ => none }
def modelNoneRow : OpenClaim := { program := "ytmbihmmfkdlllaagreatdoor", sum := "0673b4827a8987aa91b5eea249a759b740a1f53819de40407bfc6c9e4c0e935f", func := "gouache/gouachelaw21.ModelNone", spec := "modelNone", inPlace := ["gosem.stop:gouache/match.List", "gosem.stop:(*gouache/token.reader).comment", "gosem.stop:(*gouache/token.reader).space", "gosem.stop:(*gouache/token.reader).quoted", "gosem.stop:(*gouache/token.reader).hash", "gosem.stop:(*gouache/token.reader).number", "gosem.stop:(*gouache/token.reader).closes", "gosem.stop:(*gouache/token.reader).opens", "internal/abi.NoEscape", "gosem.stop:(*gouache/token.reader).escaped", "gosem.stop:(*gouache/token.reader).url", "gosem.stop:(*gouache/token.reader).at", "internal/bytealg.IndexByteString", "gosem.stop:(*gouache/selector.reader).id", "gosem.stop:(*gouache/selector.reader).class", "gosem.stop:(*gouache/selector.reader).attr", "gosem.stop:(*gouache/selector.reader).pseudo", "gosem.stop:gouache/bloom.Has", "gosem.stop:gouache/match.value", "gosem.stop:gouache/match.attr", "gosem.stop:gouache/walk.Place", "gosem.stop:gouache/nth.Fits", "gosem.stop:(gouache/match.place).way", "internal/bytealg.IndexString", "gosem.stop:strconv.Itoa", "gosem.stop:gouache/value.length", "gosem.stop:gouache/text.Hex", "internal/bytealg.MakeNoZero", "gosem.stop:gouache/prop.Longs", "gosem.stop:gouache/short.spread", "gosem.stop:gouache/cascade.Less", "slices.overlaps[int]", "gosem.stop:(*gouache/model.State).remove", "gosem.stop:(*gouache/model.State).move", "gosem.stop:(*gouache/model.State).attr", "gosem.stop:(*gouache/model.State).noAttr", "gosem.stop:gouache/selector.between", "gosem.stop:(*gouache/model.State).noSheet", "gosem.stop:(*gouache/model.State).rule", "gosem.stop:(*gouache/model.State).noRule"], unfollowed := true, recurses := true, named := ["gouache/selector.combs", "unicode/utf8.first", "unicode/utf8.acceptRanges", "internal/bytealg.MaxLen", "gouache/value.colours"], plainKeys := false, apart := false, laid := [("unicode/utf8.acceptRanges", laid_unicode_utf8_acceptRanges), ("gouache/selector.combs", laid_gouache_selector_combs), ("gouache/value.colours", laid_gouache_value_colours), ("unicode/utf8.first", laid_unicode_utf8_first)] }
def ModelNoneSaid : Prop := modelNoneRow.holds Tryz.pinned (OpenSpec.ofChange modelNoneSpec)

/-- ITS FALSE NEIGHBOUR: 'it returns false'. Refute it at one input. -/
def modelNoneWrong : ChangeSpec := { name := "modelNone", fn := fun _ => fun
  | [d] => { results := [.lit (.bool false)], args := [d] }
  | _ => none }
def ModelNoneWrongFalsely : Prop := modelNoneRow.holds Tryz.pinned (OpenSpec.ofChange modelNoneWrong)

/- THE SECOND FORM. 'bulk': how many values and letters a reading holds, each counted each time it is reached (what is shared counts as often as it is met; a slice's spare places count too). A statement '..UptoSaid' is the law's where the arguments, and the package variables that the reading takes, are together of bulk at most 1048576: NARROWER than '..Said'. Prove '..Said' where nothing that the law and all that it calls make is longer than what came in: it says more and counts as full. Else prove '..UptoSaid'. A law counts once. -/
mutual
def uptoBulk {H : Type} : DataW H → Nat
  | .lit (.string bytes) => bytes.length + 1
  | .lit _ => 1
  | .nil => 1
  | .ptr d => uptoBulk d + 1
  | .slice elems spare => uptoBulkAll elems + uptoBulkAll spare + 1
  | .agg parts => uptoBulkAll parts + 1
  | .iface _ d => uptoBulk d + 1
  | .map entries => uptoBulkEntries entries + 1
  | .held _ => 1
def uptoBulkAll {H : Type} : List (DataW H) → Nat
  | [] => 0
  | d :: r => uptoBulk d + uptoBulkAll r
def uptoBulkEntries {H : Type} : List (Lit × DataW H) → Nat
  | [] => 0
  | x :: r => uptoBulkEntry x + uptoBulkEntries r
def uptoBulkEntry {H : Type} : Lit × DataW H → Nat
  | (.string bytes, d) => bytes.length + uptoBulk d + 1
  | (_, d) => uptoBulk d + 1
 end
def uptoSmall : (H : Type) → List (DataW H) → Bool := fun _ ds => decide (uptoBulkAll ds ≤ 1048576)
def OpenSpec.upto (s : _root_.Go.ChangeSpec) : _root_.Go.OpenSpec := { _root_.Go.OpenSpec.ofChange s with cond := some uptoSmall }

/-- 'gouachelaw21.ModelNone', WHERE WHAT IT READS IS OF BULK AT MOST 1048576: true; the input reads as it did. -/
def modelNoneUptoRow : OpenClaim := { program := "ytmbihmmfkdlllaagreatdoor", sum := "0673b4827a8987aa91b5eea249a759b740a1f53819de40407bfc6c9e4c0e935f", func := "gouache/gouachelaw21.ModelNone", spec := "modelNone", inPlace := ["gosem.stop:gouache/match.List", "gosem.stop:(*gouache/token.reader).comment", "gosem.stop:(*gouache/token.reader).space", "gosem.stop:(*gouache/token.reader).quoted", "gosem.stop:(*gouache/token.reader).hash", "gosem.stop:(*gouache/token.reader).number", "gosem.stop:(*gouache/token.reader).closes", "gosem.stop:(*gouache/token.reader).opens", "internal/abi.NoEscape", "gosem.stop:(*gouache/token.reader).escaped", "gosem.stop:(*gouache/token.reader).url", "gosem.stop:(*gouache/token.reader).at", "internal/bytealg.IndexByteString", "gosem.stop:(*gouache/selector.reader).id", "gosem.stop:(*gouache/selector.reader).class", "gosem.stop:(*gouache/selector.reader).attr", "gosem.stop:(*gouache/selector.reader).pseudo", "gosem.stop:gouache/bloom.Has", "gosem.stop:gouache/match.value", "gosem.stop:gouache/match.attr", "gosem.stop:gouache/walk.Place", "gosem.stop:gouache/nth.Fits", "gosem.stop:(gouache/match.place).way", "internal/bytealg.IndexString", "gosem.stop:strconv.Itoa", "gosem.stop:gouache/value.length", "gosem.stop:gouache/text.Hex", "internal/bytealg.MakeNoZero", "gosem.stop:gouache/prop.Longs", "gosem.stop:gouache/short.spread", "gosem.stop:gouache/cascade.Less", "slices.overlaps[int]", "gosem.stop:(*gouache/model.State).remove", "gosem.stop:(*gouache/model.State).move", "gosem.stop:(*gouache/model.State).attr", "gosem.stop:(*gouache/model.State).noAttr", "gosem.stop:gouache/selector.between", "gosem.stop:(*gouache/model.State).noSheet", "gosem.stop:(*gouache/model.State).rule", "gosem.stop:(*gouache/model.State).noRule"], unfollowed := true, recurses := true, named := ["gouache/selector.combs", "unicode/utf8.first", "unicode/utf8.acceptRanges", "internal/bytealg.MaxLen", "gouache/value.colours"], plainKeys := false, apart := false, laid := [("unicode/utf8.acceptRanges", laid_unicode_utf8_acceptRanges), ("gouache/selector.combs", laid_gouache_selector_combs), ("gouache/value.colours", laid_gouache_value_colours), ("unicode/utf8.first", laid_unicode_utf8_first)], narrowed := true }
def ModelNoneUptoSaid : Prop := modelNoneUptoRow.holds Tryz.pinned (OpenSpec.upto modelNoneSpec)

end Rows
end Go.Proofs.YtmbihmmfkdlllaaGreatDoor
