import Derived.Test.YtkcpfhlfjdnkdaaGreatDoorChecked
import Derived.KernelRfl
import Derived.Test.YtkcpfhlfjdnkdaaGreatDoorZuB
import Derived.Test.YtkcpfhlfjdnkdaaGreatDoorZvS
namespace Go.Proofs.YtkcpfhlfjdnkdaaGreatDoor
open Go Go.Zr
set_option maxRecDepth 100000
noncomputable section

/-! The tables of the program, as the evaluator reads them. -/
def fns : PT Func := fnsOf Tryz.prog
def tb : Tb := tbOf Tryz.prog 2

theorem depth_ok : Nat.ble 50 Tryz.prog.depth = true := by kernel_rfl
theorem names_ok : (Tryz.prog.funcs.toList.all fun fn => !(fn.name == "runtime.NumGoroutine")) = true := by kernel_rfl
theorem mixed_ok : Tryz.prog.follows .mixedOrders = true := by kernel_rfl
theorem tbOk : TbOk Tryz.prog tb := tbOk_of 2 names_ok depth_ok
theorem fnsOk : FnsOk Tryz.prog fns := fnsOk_of names_ok

/-! What is told without a look at the bodies: first what has none. -/
abbrev Base := Nat → Option (Su → List AV → Hp → Nat → M AV)
def baseE : Base := tell 48 atomLoad (tell 49 atomCas (tell 55 atomStore (tell 79 atomAdd (tell 214 indexByteA (tell 220 sameA fun _ => none)))))

theorem ib_find : Extern.find Tryz.f214 = some Extern.BytealgIndexByte.indexByte := by kernel_rfl
theorem ne_find : Extern.find Tryz.f220 = some Extern.AbiNoEscape.same := by kernel_rfl
theorem al_find : Extern.find Tryz.f48 = some (Extern.Atomic.loadT (.int .i64)) := by kernel_rfl
theorem ac_find : Extern.find Tryz.f49 = some (Extern.Atomic.casT (.int .i64)) := by kernel_rfl
theorem as_find : Extern.find Tryz.f55 = some Extern.Atomic.storeT := by kernel_rfl
theorem aa_find : Extern.find Tryz.f79 = some (Extern.Atomic.update (Op.intArith .add) .i64 true) := by kernel_rfl

theorem baseE_ok : BaseOk Tryz.prog tb baseE := by
  refine tell_ok (tell_ok (tell_ok (tell_ok (tell_ok (tell_ok noBase_ok ?_) ?_) ?_) ?_) ?_) ?_
  · intro args H n v H' n' h ρ w vs _ hr _ hv
    rw [extern_run vs w Tryz.func220 (by kernel_rfl) (by kernel_rfl) (by kernel_rfl) ne_find]
    exact (same_sound h hr hv).next
  · intro args H n v H' n' h ρ w vs _ hr _ hv
    rw [extern_run vs w Tryz.func214 (by kernel_rfl) (by kernel_rfl) (by kernel_rfl) ib_find]
    exact (indexByte_sound h hr hv).next
  · intro args H n v H' n' h ρ w vs _ hr _ hv
    rw [extern_run vs w Tryz.func79 (by kernel_rfl) (by kernel_rfl) (by kernel_rfl) aa_find]
    exact (atomAdd_sound h hr hv).next
  · intro args H n v H' n' h ρ w vs _ hr _ hv
    rw [extern_run vs w Tryz.func55 (by kernel_rfl) (by kernel_rfl) (by kernel_rfl) as_find]
    exact (atomStore_sound h hr hv).next
  · intro args H n v H' n' h ρ w vs _ hr _ hv
    rw [extern_run vs w Tryz.func49 (by kernel_rfl) (by kernel_rfl) (by kernel_rfl) ac_find]
    exact (atomCas_sound h hr hv).next
  · intro args H n v H' n' h ρ w vs _ hr _ hv
    rw [extern_run vs w Tryz.func48 (by kernel_rfl) (by kernel_rfl) (by kernel_rfl) al_find]
    exact (atomLoad_sound h hr hv).next

/-! The keys of a map, sorted. -/
def base0 : Base := tell 24 (sortedA 44 3) baseE
theorem base0_ok : BaseOk Tryz.prog tb base0 := sortedA_ok sorted_keys Tryz.func24 (by kernel_rfl) (by kernel_rfl) baseE_ok
theorem sound0 (k : Nat) : SoundS Tryz.prog tb (calls tb fns base0 1000 k) := calls_sound tbOk mixed_ok base0_ok fnsOk k

/-! The table of the properties. -/
def tableCells : List AV := [.str [100,105,115,112,108,97,121], .str [105,110,108,105,110,101], .bool false, .str [98,108,111,99,107,124,105,110,108,105,110,101,124,105,110,108,105,110,101,45,98,108,111,99,107,124,102,108,101,120,124,103,114,105,100,124,110,111,110,101,124,99,111,110,116,101,110,116,115,124,116,97,98,108,101],
 .str [112,111,115,105,116,105,111,110], .str [115,116,97,116,105,99], .bool false, .str [115,116,97,116,105,99,124,114,101,108,97,116,105,118,101,124,97,98,115,111,108,117,116,101,124,102,105,120,101,100,124,115,116,105,99,107,121],
 .str [102,108,111,97,116], .str [110,111,110,101], .bool false, .str [108,101,102,116,124,114,105,103,104,116,124,110,111,110,101],
 .str [99,108,101,97,114], .str [110,111,110,101], .bool false, .str [108,101,102,116,124,114,105,103,104,116,124,98,111,116,104,124,110,111,110,101],
 .str [118,105,115,105,98,105,108,105,116,121], .str [118,105,115,105,98,108,101], .bool true, .str [118,105,115,105,98,108,101,124,104,105,100,100,101,110,124,99,111,108,108,97,112,115,101],
 .str [111,118,101,114,102,108,111,119,45,120], .str [118,105,115,105,98,108,101], .bool false, .str [118,105,115,105,98,108,101,124,104,105,100,100,101,110,124,99,108,105,112,124,115,99,114,111,108,108,124,97,117,116,111],
 .str [111,118,101,114,102,108,111,119,45,121], .str [118,105,115,105,98,108,101], .bool false, .str [118,105,115,105,98,108,101,124,104,105,100,100,101,110,124,99,108,105,112,124,115,99,114,111,108,108,124,97,117,116,111],
 .str [98,111,120,45,115,105,122,105,110,103], .str [99,111,110,116,101,110,116,45,98,111,120], .bool false, .str [99,111,110,116,101,110,116,45,98,111,120,124,98,111,114,100,101,114,45,98,111,120],
 .str [119,105,100,116,104], .str [97,117,116,111], .bool false, .str [97,117,116,111,124,60,108,101,110,43,62,124,60,112,99,116,43,62],
 .str [104,101,105,103,104,116], .str [97,117,116,111], .bool false, .str [97,117,116,111,124,60,108,101,110,43,62,124,60,112,99,116,43,62],
 .str [109,105,110,45,119,105,100,116,104], .str [97,117,116,111], .bool false, .str [97,117,116,111,124,60,108,101,110,43,62,124,60,112,99,116,43,62],
 .str [109,105,110,45,104,101,105,103,104,116], .str [97,117,116,111], .bool false, .str [97,117,116,111,124,60,108,101,110,43,62,124,60,112,99,116,43,62],
 .str [109,97,120,45,119,105,100,116,104], .str [110,111,110,101], .bool false, .str [110,111,110,101,124,60,108,101,110,43,62,124,60,112,99,116,43,62],
 .str [109,97,120,45,104,101,105,103,104,116], .str [110,111,110,101], .bool false, .str [110,111,110,101,124,60,108,101,110,43,62,124,60,112,99,116,43,62],
 .str [109,97,114,103,105,110,45,116,111,112], .str [48,112,120], .bool false, .str [97,117,116,111,124,60,108,101,110,62,124,60,112,99,116,62],
 .str [109,97,114,103,105,110,45,114,105,103,104,116], .str [48,112,120], .bool false, .str [97,117,116,111,124,60,108,101,110,62,124,60,112,99,116,62],
 .str [109,97,114,103,105,110,45,98,111,116,116,111,109], .str [48,112,120], .bool false, .str [97,117,116,111,124,60,108,101,110,62,124,60,112,99,116,62],
 .str [109,97,114,103,105,110,45,108,101,102,116], .str [48,112,120], .bool false, .str [97,117,116,111,124,60,108,101,110,62,124,60,112,99,116,62],
 .str [112,97,100,100,105,110,103,45,116,111,112], .str [48,112,120], .bool false, .str [60,108,101,110,43,62,124,60,112,99,116,43,62],
 .str [112,97,100,100,105,110,103,45,114,105,103,104,116], .str [48,112,120], .bool false, .str [60,108,101,110,43,62,124,60,112,99,116,43,62],
 .str [112,97,100,100,105,110,103,45,98,111,116,116,111,109], .str [48,112,120], .bool false, .str [60,108,101,110,43,62,124,60,112,99,116,43,62],
 .str [112,97,100,100,105,110,103,45,108,101,102,116], .str [48,112,120], .bool false, .str [60,108,101,110,43,62,124,60,112,99,116,43,62],
 .str [98,111,114,100,101,114,45,116,111,112,45,119,105,100,116,104], .str [109,101,100,105,117,109], .bool false, .str [116,104,105,110,124,109,101,100,105,117,109,124,116,104,105,99,107,124,60,108,101,110,43,62],
 .str [98,111,114,100,101,114,45,114,105,103,104,116,45,119,105,100,116,104], .str [109,101,100,105,117,109], .bool false, .str [116,104,105,110,124,109,101,100,105,117,109,124,116,104,105,99,107,124,60,108,101,110,43,62],
 .str [98,111,114,100,101,114,45,98,111,116,116,111,109,45,119,105,100,116,104], .str [109,101,100,105,117,109], .bool false, .str [116,104,105,110,124,109,101,100,105,117,109,124,116,104,105,99,107,124,60,108,101,110,43,62],
 .str [98,111,114,100,101,114,45,108,101,102,116,45,119,105,100,116,104], .str [109,101,100,105,117,109], .bool false, .str [116,104,105,110,124,109,101,100,105,117,109,124,116,104,105,99,107,124,60,108,101,110,43,62],
 .str [98,111,114,100,101,114,45,116,111,112,45,115,116,121,108,101], .str [110,111,110,101], .bool false, .str [110,111,110,101,124,104,105,100,100,101,110,124,100,111,116,116,101,100,124,100,97,115,104,101,100,124,115,111,108,105,100,124,100,111,117,98,108,101],
 .str [98,111,114,100,101,114,45,114,105,103,104,116,45,115,116,121,108,101], .str [110,111,110,101], .bool false, .str [110,111,110,101,124,104,105,100,100,101,110,124,100,111,116,116,101,100,124,100,97,115,104,101,100,124,115,111,108,105,100,124,100,111,117,98,108,101],
 .str [98,111,114,100,101,114,45,98,111,116,116,111,109,45,115,116,121,108,101], .str [110,111,110,101], .bool false, .str [110,111,110,101,124,104,105,100,100,101,110,124,100,111,116,116,101,100,124,100,97,115,104,101,100,124,115,111,108,105,100,124,100,111,117,98,108,101],
 .str [98,111,114,100,101,114,45,108,101,102,116,45,115,116,121,108,101], .str [110,111,110,101], .bool false, .str [110,111,110,101,124,104,105,100,100,101,110,124,100,111,116,116,101,100,124,100,97,115,104,101,100,124,115,111,108,105,100,124,100,111,117,98,108,101],
 .str [98,111,114,100,101,114,45,116,111,112,45,99,111,108,111,114], .str [99,117,114,114,101,110,116,99,111,108,111,114], .bool false, .str [99,117,114,114,101,110,116,99,111,108,111,114,124,116,114,97,110,115,112,97,114,101,110,116,124,60,99,111,108,111,114,62],
 .str [98,111,114,100,101,114,45,114,105,103,104,116,45,99,111,108,111,114], .str [99,117,114,114,101,110,116,99,111,108,111,114], .bool false, .str [99,117,114,114,101,110,116,99,111,108,111,114,124,116,114,97,110,115,112,97,114,101,110,116,124,60,99,111,108,111,114,62],
 .str [98,111,114,100,101,114,45,98,111,116,116,111,109,45,99,111,108,111,114], .str [99,117,114,114,101,110,116,99,111,108,111,114], .bool false, .str [99,117,114,114,101,110,116,99,111,108,111,114,124,116,114,97,110,115,112,97,114,101,110,116,124,60,99,111,108,111,114,62],
 .str [98,111,114,100,101,114,45,108,101,102,116,45,99,111,108,111,114], .str [99,117,114,114,101,110,116,99,111,108,111,114], .bool false, .str [99,117,114,114,101,110,116,99,111,108,111,114,124,116,114,97,110,115,112,97,114,101,110,116,124,60,99,111,108,111,114,62],
 .str [116,111,112], .str [97,117,116,111], .bool false, .str [97,117,116,111,124,60,108,101,110,62,124,60,112,99,116,62],
 .str [114,105,103,104,116], .str [97,117,116,111], .bool false, .str [97,117,116,111,124,60,108,101,110,62,124,60,112,99,116,62],
 .str [98,111,116,116,111,109], .str [97,117,116,111], .bool false, .str [97,117,116,111,124,60,108,101,110,62,124,60,112,99,116,62],
 .str [108,101,102,116], .str [97,117,116,111], .bool false, .str [97,117,116,111,124,60,108,101,110,62,124,60,112,99,116,62],
 .str [99,111,108,111,114], .str [35,48,48,48,48,48,48], .bool true, .str [60,99,111,108,111,114,62],
 .str [98,97,99,107,103,114,111,117,110,100,45,99,111,108,111,114], .str [116,114,97,110,115,112,97,114,101,110,116], .bool false, .str [116,114,97,110,115,112,97,114,101,110,116,124,99,117,114,114,101,110,116,99,111,108,111,114,124,60,99,111,108,111,114,62],
 .str [102,111,110,116,45,115,105,122,101], .str [49,54,112,120], .bool true, .str [60,108,101,110,43,62,124,60,112,99,116,43,62],
 .str [102,111,110,116,45,119,101,105,103,104,116], .str [110,111,114,109,97,108], .bool true, .str [110,111,114,109,97,108,124,98,111,108,100,124,60,105,110,116,43,62],
 .str [108,105,110,101,45,104,101,105,103,104,116], .str [110,111,114,109,97,108], .bool true, .str [110,111,114,109,97,108,124,60,105,110,116,43,62,124,60,108,101,110,43,62,124,60,112,99,116,43,62],
 .str [116,101,120,116,45,97,108,105,103,110], .str [115,116,97,114,116], .bool true, .str [115,116,97,114,116,124,101,110,100,124,108,101,102,116,124,114,105,103,104,116,124,99,101,110,116,101,114,124,106,117,115,116,105,102,121],
 .str [119,104,105,116,101,45,115,112,97,99,101], .str [110,111,114,109,97,108], .bool true, .str [110,111,114,109,97,108,124,110,111,119,114,97,112,124,112,114,101,124,112,114,101,45,119,114,97,112],
 .str [100,105,114,101,99,116,105,111,110], .str [108,116,114], .bool true, .str [108,116,114,124,114,116,108],
 .str [111,114,100,101,114], .str [48], .bool false, .str [60,105,110,116,62],
 .str [122,45,105,110,100,101,120], .str [97,117,116,111], .bool false, .str [97,117,116,111,124,60,105,110,116,62]]

theorem table_is : Go.Zr.valOf (calls tb fns base0 1000 100 (.fn 81) [] .nil 2000000) = some (.agg tableCells) := by kernel_rfl
theorem table_plain : plainV (.agg tableCells) = true := by kernel_rfl

def base1 : Base := tell 81 (knownA 2000000 (oneR (.agg tableCells))) base0
theorem base1_ok : BaseOk Tryz.prog tb base1 := known_ok (sound0 100) (oneR_ok table_is table_plain) base0_ok
theorem sound1 (k : Nat) : SoundS Tryz.prog tb (calls tb fns base1 1000 k) := calls_sound tbOk mixed_ok base1_ok fnsOk k

/-! Where a property stands. -/
def placeMemo : List (List UInt8 × Int) := [([], -1)]
theorem place_is : (placeMemo.all fun p => isInt p.2 (Go.Zr.valOf (calls tb fns base1 1000 100 (.fn 36) [.str p.1] .nil 1000000))) = true := by kernel_rfl
def base2 : Base := tell 36 (knownA 1000000 (strR placeMemo)) base1
theorem base2_ok : BaseOk Tryz.prog tb base2 := known_ok (sound1 100) (strR_ok place_is) base1_ok
theorem sound2 (k : Nat) : SoundS Tryz.prog tb (calls tb fns base2 1000 k) := calls_sound tbOk mixed_ok base2_ok fnsOk k
end
end Go.Proofs.YtkcpfhlfjdnkdaaGreatDoor
