import GoSem.Step
namespace Go.Zr
noncomputable section

/-! Tries keyed by numbers. -/
inductive PT (α : Type) where
  | nil : PT α
  | node (l : PT α) (v : Option α) (r : PT α) : PT α

namespace PT
variable {α : Type}

noncomputable def get (t : PT α) : Nat → Option α :=
  PT.rec (motive := fun _ => Nat → Option α) (fun _ => none)
    (fun _ v _ gl gr n => Bool.rec (Bool.rec (gr (Nat.sub (Nat.div n 2) 1)) (gl (Nat.div n 2)) (Nat.beq (Nat.mod n 2) 1)) v (Nat.beq n 0)) t

/-- One entry alone. -/
def oneN : Nat → Nat → Option α → PT α
  | 0, _, _ => .nil
  | k + 1, n, x => bif Nat.beq n 0 then .node .nil x .nil else bif Nat.beq (n % 2) 1 then .node (oneN k (n / 2) x) none .nil else .node .nil none (oneN k (n / 2 - 1) x)

noncomputable def set (t : PT α) (n : Nat) (x : Option α) : PT α :=
  PT.rec (motive := fun _ => Nat → PT α) (fun n => oneN (n + 1) n x)
    (fun l v r sl sr n => Bool.rec (Bool.rec (.node l v (sr (Nat.sub (Nat.div n 2) 1))) (.node (sl (Nat.div n 2)) v r) (Nat.beq (Nat.mod n 2) 1)) (.node l x r) (Nat.beq n 0)) t n

def ofListFrom : List α → Nat → PT α → PT α
  | [], _, t => t
  | a :: l, i, t => ofListFrom l (i + 1) (t.set i (some a))
def ofList (l : List α) : PT α := ofListFrom l 0 .nil
end PT

inductive R (α : Type) where
  | ok (a : α)
  | bad (why : String)

namespace R
def bind {α β : Type} : R α → (α → R β) → R β
  | .ok a, f => f a
  | .bad w, _ => .bad w
def of {α : Type} (why : String) : Option α → R α
  | some a => .ok a
  | none => .bad why
def need (b : Bool) (why : String) {α : Type} (k : R α) : R α := bif b then k else .bad why
def mark {α : Type} (p : String) : R α → R α
  | .ok a => .ok a
  | .bad w => .bad (w ++ " < " ++ p)
end R
instance : Monad R where
  pure := .ok
  bind := R.bind

inductive AV where
  | bool (b : Bool)
  | int (k : IntKind) (n : Int)
  | str (s : List UInt8)
  | pnil
  | ptr (o : Option Nat) (im : List AV) (off : Nat)
  | snil
  | slice (o : Option Nat) (im : List AV) (off len lo : Nat) (ex : Bool) (es : Nat)
  | mnil
  | map (o : Nat)
  | fnil
  | func (fn : Fn) (first captured : List AV)
  | inil
  | iface (t : TypeId) (v : AV)
  | agg (cs : List AV)
  | tuple (vs : List AV)
  deriving Inhabited

def AV.cells : AV → List AV
  | .agg cs => cs
  | v => [v]

inductive AObj where
  | row (t : TypeId) (cells : List AV) (k : Nat)
  | map (es : List (AV × AV × Nat)) (clock : Nat)
  | siter (s : List UInt8) (pos : Nat)
  | loop (state : LoopState) (pending : Option Code) (tmps : PT AV) (sz : Nat) (params : List Tmp) (assign body : Code) (defers : Nat)
  | deferred
  | miter (m : Option Nat) (since : Nat) (seen : List Nat) (last : Nat)

abbrev Hp := PT AObj
abbrev Tm := PT AV
structure Tb where
  ty : PT TypeInfo
  okEq : Nat → Bool
  ng : Nat
  bodied : Nat → Bool

abbrev M (α : Type) := R (α × Hp × Nat)

inductive Cal where
  | fn (f : FuncId)
  | round (l : Nat)

abbrev Su := Cal → List AV → Hp → Nat → M AV

def undA : AV := .tuple []

def Tb.info (tb : Tb) (t : TypeId) : R TypeInfo := R.of "type" (tb.ty.get t)
def Tb.und (tb : Tb) (t : TypeId) : R TypeDesc :=
  match tb.ty.get t with
  | some { desc := .named _ u, .. } => match tb.ty.get u with
    | some i => .ok i.desc
    | none => .bad "und"
  | some i => .ok i.desc
  | none => .bad "und"
def Tb.size (tb : Tb) (t : TypeId) : R Nat := (tb.info t).bind fun i => .ok i.size

/-- A scalar constant. -/
def ofCell : Value → Option AV
  | .bool b => some (.bool b)
  | .int k n => some (.int k n)
  | .string s => some (.str s.data.toList)
  | .pointer none => some .pnil
  | .slice none 0 0 => some .snil
  | .map none => some .mnil
  | .nilFunc => some .fnil
  | .nilIface => some .inil
  | _ => none
def ofCells : List Value → Option (List AV)
  | [] => some []
  | v :: l => match ofCell v, ofCells l with
    | some a, some r => some (a :: r)
    | _, _ => none
def ofVal : Value → Option AV
  | .agg cs => (ofCells cs.toList).map .agg
  | .tuple vs => match vs.toList with
    | [] => some (.tuple [])
    | _ => none
  | v => ofCell v

def Tb.zero (tb : Tb) (t : TypeId) : R AV :=
  (tb.info t).bind fun i => match i.zero with
    | some v => R.of "zero" (ofVal v)
    | none => .bad "zero"

def isAggD : TypeDesc → Bool
  | .struct _ | .array _ _ => true
  | _ => false

/-- Operands. -/
def opd (tb : Tb) (T : Tm) : Operand → R AV
  | .tmp t => .ok ((T.get t).getD undA)
  | .const v => R.of "const" (ofVal v)
  | .global g => bif Nat.blt g tb.ng then .ok (.ptr (some g) [] 0) else .bad "global"
  | .func f => .ok (.func (.func f) [] [])

def opds (tb : Tb) (T : Tm) : List Operand → R (List AV)
  | [] => .ok []
  | o :: l => (opd tb T o).bind fun a => (opds tb T l).bind fun r => .ok (a :: r)

def opdO (tb : Tb) (T : Tm) : Option Operand → R (Option AV)
  | none => .ok none
  | some o => (opd tb T o).bind fun a => .ok (some a)

/-- The cells behind a base. -/
def cellsOf (H : Hp) : Option Nat → List AV → R (List AV)
  | some o, _ => match H.get o with
    | some (.row _ cs _) => .ok cs
    | _ => .bad "no row"
  | none, im => .ok im

def takeN : Nat → List AV → Option (List AV)
  | 0, _ => some []
  | _ + 1, [] => none
  | n + 1, a :: l => (takeN n l).map (a :: ·)

/-- n cells from off. -/
def sub (cs : List AV) (off n : Nat) : R (List AV) := R.of "cells" (takeN n (cs.drop off))

def isScalar : AV → Bool
  | .agg _ | .tuple _ => false
  | _ => true

def loadA (tb : Tb) (t : TypeId) (a : AV) (H : Hp) : R AV :=
  match a with
  | .ptr o im off =>
    (cellsOf H o im).bind fun cs => (tb.und t).bind fun d =>
      bif isAggD d then (tb.size t).bind fun n => (sub cs off n).bind fun l => .ok (.agg l)
      else R.of "load" cs[off]?
  | _ => .bad "load: no address"

/-- Cells written at off; those must be there. -/
def putAt : List AV → Nat → List AV → Option (List AV)
  | cs, 0, [] => some cs
  | _ :: cs, 0, x :: xs => match putAt cs 0 xs with
    | some r => some (x :: r)
    | none => none
  | c :: cs, n + 1, xs => match putAt cs n xs with
    | some r => some (c :: r)
    | none => none
  | [], _ + 1, [] => none
  | [], _, _ :: _ => none

def storeO (H : Hp) (o off : Nat) (vs : List AV) : R Hp :=
  match H.get o with
  | some (.row t cs k) =>
    bif Nat.beq k 1 then .bad "store: shared" else
    match putAt cs off vs with
    | some r => .ok (H.set o (some (.row t r k)))
    | none => .bad "store: no cell"
  | _ => .bad "store: no row"

def storeA (tb : Tb) (t : TypeId) (a v : AV) (H : Hp) : R Hp :=
  match a with
  | .ptr (some o) _ off => (tb.size t).bind fun n =>
    bif Nat.beq v.cells.length n && v.cells.all isScalar then storeO H o off v.cells else .bad "store: size"
  | _ => .bad "store: no address"

def newO (o : AObj) (H : Hp) (n : Nat) : M Nat := .ok (n, H.set n (some o), n + 1)
def newRow (t : TypeId) (cs : List AV) (k : Nat) (H : Hp) (n : Nat) : M Nat := newO (.row t cs k) H n

def pureM (v : AV) (H : Hp) (n : Nat) : M AV := .ok (v, H, n)

def rep {α : Type} : Nat → α → List α
  | 0, _ => []
  | n + 1, a => a :: rep n a
/-- n times the cells. -/
def reps (z : List AV) : Nat → List AV
  | 0 => []
  | n + 1 => z ++ reps z n

def zeros (tb : Tb) (e : TypeId) (m size : Nat) : R (List AV) :=
  bif Nat.beq (m * size) 0 then .ok [] else (tb.zero e).bind fun z => bif Nat.beq z.cells.length size then .ok (reps z.cells m) else .bad "zeros"

def part (tb : Tb) (t : TypeId) (cs : List AV) (off : Nat) : R AV :=
  (tb.und t).bind fun d => bif isAggD d then (tb.size t).bind fun n => (sub cs off n).bind fun l => .ok (.agg l)
    else R.of "part" cs[off]?

/-- Equality of bytes. -/
def beqB : List UInt8 → List UInt8 → Bool
  | [], [] => true
  | a :: l, b :: r => Nat.beq a.toNat b.toNat && beqB l r
  | _, _ => false

def intOp (op : BinOp) (k : IntKind) (a b : Int) : R AV :=
  match op with
  | .add => .ok (.int k (k.wrap (a + b)))
  | .sub => .ok (.int k (k.wrap (a - b)))
  | .mul => .ok (.int k (k.wrap (a * b)))
  | .quo => bif b == 0 then .bad "div" else .ok (.int k (k.wrap (a.tdiv b)))
  | .rem => bif b == 0 then .bad "div" else .ok (.int k (a.tmod b))
  | .eql => .ok (.bool (a == b))
  | .neq => .ok (.bool (a != b))
  | .lss => .ok (.bool (decide (a < b)))
  | .leq => .ok (.bool (decide (a ≤ b)))
  | .gtr => .ok (.bool (decide (a > b)))
  | .geq => .ok (.bool (decide (a ≥ b)))
  | .and | .or | .xor | .andNot => match (Op.intBits op k a b) with
    | .pure (.int k' n) => .ok (.int k' n)
    | _ => .bad "bits"
  | _ => .bad "intOp"

def strOp (op : BinOp) (a b : List UInt8) : R AV :=
  match op with
  | .add => if a.length + b.length < 9223372036854775808 then .ok (.str (a ++ b)) else .bad "strOp"
  | .eql => .ok (.bool (beqB a b))
  | .neq => .ok (.bool (!beqB a b))
  | .lss => .ok (.bool (Op.bytesLess a b))
  | .leq => .ok (.bool (Op.bytesLess a b || beqB a b))
  | .gtr => .ok (.bool (!(Op.bytesLess a b || beqB a b)))
  | .geq => .ok (.bool (!Op.bytesLess a b))
  | _ => .bad "strOp"

/-- Are two structs' fields alike? -/
def eqFs (tb : Tb) (E : TypeId → AV → AV → R Bool) : List Field → List AV → List AV → R Bool
  | [], _, _ => .ok true
  | f :: fs, xs, ys => bif f.name == "_" then eqFs tb E fs xs ys else
    (part tb f.type xs f.offset).bind fun a => (part tb f.type ys f.offset).bind fun b => (E f.type a b).bind fun r =>
      bif r then eqFs tb E fs xs ys else .ok false
/-- Are two arrays' elements alike? -/
def eqEs (tb : Tb) (E : TypeId → AV → AV → R Bool) (e n : Nat) : Nat → Nat → List AV → List AV → R Bool
  | 0, _, _, _ => .ok true
  | k + 1, i, xs, ys => (part tb e xs (i * n)).bind fun a => (part tb e ys (i * n)).bind fun b => (E e a b).bind fun r =>
      bif r then eqEs tb E e n k (i + 1) xs ys else .ok false

/-- Are two values alike? For plain data of a type. -/
def eqA (tb : Tb) (H : Hp) : Nat → TypeId → AV → AV → R Bool
  | 0, _, _, _ => .bad "eq"
  | d + 1, t, x, y =>
    (tb.und t).bind fun u => match u, x, y with
    | .bool, .bool a, .bool b => .ok (a == b)
    | .int _, .int k a, .int k' b => bif k == k' then .ok (a == b) else .bad "eq kinds"
    | .string, .str a, .str b => .ok (beqB a b)
    | .pointer _, .pnil, .pnil => .ok true
    | .pointer _, .pnil, .ptr .. => .ok false
    | .pointer _, .ptr .., .pnil => .ok false
    | .unsafePointer, .pnil, .pnil => .ok true
    | .unsafePointer, .pnil, .ptr .. => .ok false
    | .unsafePointer, .ptr .., .pnil => .ok false
    | .pointer e, .ptr (some o) _ i, .ptr (some o') _ j => (tb.size e).bind fun n => bif Nat.beq n 0 then .bad "eq zero size" else
      bif Nat.beq o o' then .ok (Nat.beq i j) else
      match H.get o, H.get o' with
      | some (.row _ cs k), some (.row _ cs' k') => bif Nat.blt i cs.length && Nat.blt j cs'.length && Nat.beq k 0 && Nat.beq k' 0 then .ok false else .bad "eq ptr"
      | _, _ => .bad "eq ptr"
    | .interface _, .inil, .inil => .ok true
    | .interface _, .inil, .iface .. => .ok false
    | .interface _, .iface .., .inil => .ok false
    | .interface _, .iface tx vx, .iface ty vy => bif Nat.beq tx ty then (tb.info tx).bind fun i => bif i.comparable then eqA tb H d tx vx vy else .bad "eq uncomparable" else .ok false
    | .struct fs, .agg xs, .agg ys => bif tb.okEq t then eqFs tb (eqA tb H d) fs.toList xs ys else .bad "eq struct"
    | .array len e, .agg xs, .agg ys => (tb.size e).bind fun n => eqEs tb (eqA tb H d) e n len 0 xs ys
    | .slice _, .snil, .snil => .ok true
    | .slice _, .snil, .slice .. => .ok false
    | .slice _, .slice .., .snil => .ok false
    | .map _ _, .mnil, .mnil => .ok true
    | .map _ _, .mnil, .map _ => .ok false
    | .map _ _, .map _, .mnil => .ok false
    | .func _ _ _, .fnil, .fnil => .ok true
    | .func _ _ _, .fnil, .func .. => .ok false
    | .func _ _ _, .func .., .fnil => .ok false
    | _, _, _ => .bad "eq what"

/-- No interface type with methods within. -/
def noIf (tb : Tb) : Nat → TypeId → Bool
  | 0, _ => false
  | d + 1, t => match tb.und t with
    | .ok (.interface ms) => ms.isEmpty
    | .ok (.struct fs) => fs.toList.all fun f => f.name == "_" || noIf tb d f.type
    | .ok (.array _ e) => noIf tb d e
    | .ok _ => true
    | .bad _ => false

def isConst : Operand → Bool
  | .const _ => true
  | _ => false

def binP (op : BinOp) (a b : AV) : R AV :=
  match op, a, b with
  | .shl, .int k n, .int _ m => bif decide (m < 0) then .bad "shift" else .ok (.int k (k.wrap (n * 2 ^ (min m.toNat k.bits))))
  | .shr, .int k n, .int _ m => bif decide (m < 0) then .bad "shift" else .ok (.int k (n.fdiv (2 ^ (min m.toNat k.bits))))
  | .shl, _, _ => .bad "shl"
  | .shr, _, _ => .bad "shr"
  | _, .int k n, .int k' m => bif k == k' then intOp op k n m else .bad "kinds"
  | _, .str s, .str t => strOp op s t
  | _, _, _ => .bad "binop"

/-- == and !=. -/
def binA (tb : Tb) (op : BinOp) (xt : TypeId) (x y : Operand) (a b : AV) (H : Hp) : R AV :=
  match op, a, b with
  | _, .int k n, .int k' m => bif k == k' then intOp op k n m else .bad "kinds"
  | _, .str s, .str t => strOp op s t
  | .eql, _, _ => R.need (guard a b) "eq guard" ((eqA tb H 50 xt a b).bind fun r => .ok (.bool r))
  | .neq, _, _ => R.need (guard a b) "eq guard" ((eqA tb H 50 xt a b).bind fun r => .ok (.bool (!r)))
  | _, _, _ => .bad "binop"
  where
  guard (a b : AV) : Bool := match a, b with
    | .inil, .inil => isConst x || isConst y || noIf tb 50 xt
    | .agg _, .agg _ => noIf tb 50 xt
    | _, _ => true

def unA (op : UnOp) (a : AV) : R AV :=
  match op, a with
  | .neg, .int k n => .ok (.int k (k.wrap (0 - n)))
  | .xor, .int k n => match (Op.intBits .xor k (if k.signed then -1 else k.max) n) with
    | .pure (.int k' n') => .ok (.int k' n')
    | _ => .bad "bits"
  | .not, .bool b => .ok (.bool !b)
  | _, _ => .bad "unop"

def byteAV (b : UInt8) : AV := .int .u8 b.toNat

def bytesFrom : List AV → Option (List UInt8)
  | [] => some []
  | .int .u8 n :: l => (bytesFrom l).map (UInt8.ofNat n.toNat :: ·)
  | _ => none
def runesFrom : List AV → Option (List UInt8)
  | [] => some []
  | .int .i32 n :: l => (runesFrom l).map ((Utf8.encode n).data.toList ++ ·)
  | _ => none

/-- The runes of a text. -/
def decode (s : List UInt8) (i : Nat) : Nat × Nat := Utf8.decode ⟨s.toArray⟩ i

def runesOf (s : List UInt8) : Nat → Nat → List AV
  | 0, _ => []
  | k + 1, i => bif Nat.blt i s.length then .int .i32 (decode s i).1 :: runesOf s k (i + (decode s i).2) else []

/-- Whole numbers. -/
def convP (tb : Tb) (src dst : TypeId) (a : AV) : R AV :=
  (tb.und src).bind fun _ => (tb.und dst).bind fun dd => match dd, a with
  | .int k, .int _ m => .ok (.int k (k.wrap m))
  | _, _ => .bad "convert"

def convR (tb : Tb) (src dst : TypeId) (a : AV) (H : Hp) : R AV :=
  (tb.und src).bind fun ds => (tb.und dst).bind fun dd => match ds, dd, a with
  | _, .string, .int _ m => .ok (.str (Utf8.encode m).data.toList)
  | _, .string, .str s => .ok (.str s)
  | .slice e, .string, .snil => (tb.und e).bind fun de => match de with
    | .int .u8 => .ok (.str [])
    | .int .i32 => .ok (.str [])
    | _ => .bad "conv"
  | .slice e, .string, .slice o im off len _ _ es => (tb.und e).bind fun de => (cellsOf H o im).bind fun cs => (sub cs off len).bind fun l => bif Nat.ble len (len * es) then match de with
    | .int .u8 => (R.of "bytes" (bytesFrom l)).bind fun s => .ok (.str s)
    | .int .i32 => (R.of "runes" (runesFrom l)).bind fun s => .ok (.str s)
    | _ => .bad "conv" else .bad "conv"
  | .pointer _, .unsafePointer, .pnil => .ok .pnil
  | .unsafePointer, .pointer _, .pnil => .ok .pnil
  | .pointer t, .unsafePointer, .ptr (some o) im off => (tb.size t).bind fun k => bif Nat.beq k 0 then .bad "conv unsafe" else
      (cellsOf H (some o) im).bind fun cs => bif Nat.blt off cs.length then .ok (.ptr (some o) im off) else .bad "conv unsafe"
  | .unsafePointer, .pointer u, .ptr (some o) im off => match H.get o with
      | some (.row t cs k) => bif Nat.beq t u && Nat.beq off 0 && Nat.beq k 0 then (tb.size u).bind fun z => bif Nat.blt 0 z && Nat.ble z cs.length then .ok (.ptr (some o) im off) else .bad "conv unsafe" else .bad "conv unsafe: another type"
      | _ => .bad "conv unsafe"
  | _, _, _ => .bad "convert"

def convE (tb : Tb) (src dst : TypeId) (a : AV) (H : Hp) (n : Nat) : M AV :=
  (tb.und src).bind fun _ => (tb.und dst).bind fun dd => match dd, a with
  | .slice e, .str s => (tb.und e).bind fun de => match de with
    | .int .u8 => (newRow e (s.map byteAV) 2 H n).bind fun (o, H, n) => pureM (.slice (some o) [] 0 s.length s.length false 1) H n
    | .int .i32 => (newRow e (runesOf s s.length 0) 0 H n).bind fun (o, H, n) =>
        pureM (.slice (some o) [] 0 (runesOf s s.length 0).length (runesOf s s.length 0).length false 1) H n
    | _ => .bad "conv slice"
  | _, _ => .bad "convert"

def fillA (place : Nat → Option (Nat × Nat)) (cells : List AV) : List (Nat × AV) → Option (List AV)
  | [] => some cells
  | (i, v) :: rest => match place i with
    | none => none
    | some (off, size) => bif Nat.beq v.cells.length size && v.cells.all isScalar then
        match putAt cells off v.cells with
        | some r => fillA place r rest
        | none => none
      else none

def placesA (tb : Tb) : List Field → R (List (Nat × Nat))
  | [] => .ok []
  | f :: fs => (tb.size f.type).bind fun s => (placesA tb fs).bind fun r => .ok ((f.offset, s) :: r)

def buildA (tb : Tb) (t : TypeId) (parts : List (Nat × AV)) : R AV :=
  (tb.zero t).bind fun z => (tb.und t).bind fun d => match d with
  | .struct fs => (placesA tb fs.toList).bind fun ps => (R.of "build" (fillA (fun i => ps[i]?) z.cells parts)).bind fun cs => .ok (.agg cs)
  | .array _ e => (tb.size e).bind fun s => (R.of "build" (fillA (fun i => some (i * s, s)) z.cells parts)).bind fun cs => .ok (.agg cs)
  | _ => .bad "build"

def buildSliceA (tb : Tb) (t : TypeId) (len : Nat) (parts : List (Nat × AV)) (i : Nat) : R (AV × TypeId × List AV) :=
  (tb.und t).bind fun d => match d with
  | .slice e => (tb.size e).bind fun s => (zeros tb e len s).bind fun z =>
    bif Nat.ble (len * s) 16777216 then
    (R.of "buildSlice" (fillA (fun i => some (i * s, s)) z parts)).bind fun cs => .ok (.slice (some i) [] 0 len len true s, e, cs)
    else .bad "buildSlice"
  | _ => .bad "buildSlice"

def lenA (v : AV) : R Nat := match v with
  | .snil => .ok 0
  | .slice _ _ _ len .. => .ok len
  | .str s => .ok s.length
  | _ => .bad "len"

/-- The first n elements' cells of a slice or text. -/
def firstA (H : Hp) (es n : Nat) : AV → R (List AV)
  | .snil => .ok []
  | .slice o im off _ _ _ _ => (cellsOf H o im).bind fun cs => sub cs off (n * es)
  | .str s => .ok ((s.take n).map byteAV)
  | _ => .bad "first"

def kill (H : Hp) (o : Nat) : Hp := H.set o none

def ofMake (tb : Tb) : List TypeId → R Bool
  | xt :: _ => (tb.und xt).bind fun d => .ok (match d with | .int _ => true | _ => false)
  | [] => .ok false
def addLen (zeros : Bool) (x : AV) (bytes : Nat) : R Nat :=
  bif zeros then match x with
    | .int _ l => bif decide (0 ≤ l) && decide (l < 2 ^ 40) && Nat.ble (l.toNat * bytes) 281474976710656 then .ok l.toNat else .bad "append make"
    | _ => .bad "append make"
  else lenA x
def addCells (tb : Tb) (e : TypeId) (zs : Bool) (x : AV) (m size : Nat) (H : Hp) : R (List AV) :=
  bif zs then zeros tb e m size else firstA H size m x

/-- Plain cells stored. -/
def storeC (H : Hp) (o off : Nat) (vs : List AV) : R Hp := bif vs.all isScalar then storeO H o off vs else .bad "store: no cells"

/-- More behind a slice. -/
def appendTo (e : TypeId) (size m : Nat) (new : List AV) (s : AV) (H : Hp) (n : Nat) : M AV :=
  match s with
  | .snil => bif Nat.beq m 0 then pureM s H n else
    (newRow e new 0 H n).bind fun (o, H, n) => pureM (.slice (some o) [] 0 m m false size) H n
  | .slice ob im off len lo ex es => bif Nat.beq m 0 then pureM s H n else
    bif Nat.beq es size then
      bif Nat.ble (len + m) lo then
        match ob with
        | some o => (storeC H o (off + len * es) new).bind fun H => pureM (.slice ob im off (len + m) lo ex es) H n
        | none => .bad "append: in place into what is not one's own"
      else (cellsOf H ob im).bind fun cs => (sub cs off (len * es)).bind fun old =>
        bif ex then (newRow e (old ++ new) 0 H n).bind fun (o, H, n) => pureM (.slice (some o) [] 0 (len + m) (len + m) false es) H n
        else match ob with
        | some o => match H.get o with
          | some (.row t _ k) => bif Nat.beq k 1 || !(Nat.beq t e) || !(new.all isScalar) then .bad "append: shared" else
            (newRow e (old ++ new) (bif Nat.beq off 0 && Nat.beq k 0 then 0 else 2) (kill H o) n).bind fun (o', H, n) => pureM (.slice (some o') [] 0 (len + m) (len + m) false es) H n
          | _ => .bad "append: row"
        | none => .bad "append: room of what is not one's own"
    else .bad "append: element size"
  | _ => .bad "append"

def appendA (tb : Tb) (argTypes : List TypeId) (args : List AV) (H : Hp) (n : Nat) : M AV :=
  match argTypes, args with
  | st :: rest, [s, x] =>
    (tb.und st).bind fun d => match d with
    | .slice e => (tb.info e).bind fun ie =>
      (ofMake tb rest).bind fun zeros =>
      (addLen zeros x ie.bytes).bind fun m =>
      (addCells tb e zeros x m ie.size H).bind fun new =>
      (tb.zero e).bind fun z =>
      (lenA s).bind fun len =>
      bif Nat.beq z.cells.length ie.size && Nat.beq new.length (m * ie.size) && Nat.ble (len + m) 1099511627776 && Nat.ble ((2 * (len + m) + 1000) * ie.bytes) 281474976710656 then
        appendTo e ie.size m new s H n
      else .bad "append: too large"
    | _ => .bad "append"
  | _, _ => .bad "append"

def copyA (tb : Tb) (argTypes : List TypeId) (args : List AV) (H : Hp) (n : Nat) : M AV :=
  match argTypes, args with
  | dt :: _, [d, s] =>
    (tb.und dt).bind fun dd => match dd with
    | .slice e => (tb.size e).bind fun es => (lenA s).bind fun ls => (lenA d).bind fun ld =>
      let m := Nat.min ls ld
      (firstA H es m s).bind fun cs =>
      match d with
      | .snil => pureM (.int .i64 m) H n
      | .slice (some o) _ off _ _ _ _ => (storeC H o off cs).bind fun H => pureM (.int .i64 m) H n
      | _ => .bad "copy"
    | _ => .bad "copy"
  | _, _ => .bad "copy"

def clearA (tb : Tb) (argTypes : List TypeId) (args : List AV) (H : Hp) (n : Nat) : M AV :=
  match argTypes, args with
  | t :: _, [x] => (tb.und t).bind fun d => match d, x with
    | _, .mnil => pureM undA H n
    | _, .snil => pureM undA H n
    | _, .map r => match H.get r with
      | some (.map _ c) => pureM undA (H.set r (some (.map [] c))) n
      | _ => .bad "clear"
    | .slice e, .slice ob _ off len _ _ _ => bif Nat.beq len 0 then pureM undA H n else match ob with
      | some o => (tb.zero e).bind fun z => (storeC H o off (reps z.cells len)).bind fun H => pureM undA H n
      | none => .bad "clear"
    | _, _ => .bad "clear"
  | _, _ => .bad "clear"

def lenB (tb : Tb) (argTypes : List TypeId) (args : List AV) (H : Hp) : R AV :=
  match argTypes, args with
  | t :: _, [x] => (tb.und t).bind fun d => match d, x with
    | .string, .str s => .ok (.int .i64 s.length)
    | .array k _, _ => .ok (.int .i64 k)
    | .pointer a, _ => (tb.und a).bind fun d => match d with
      | .array k _ => .ok (.int .i64 k)
      | _ => .bad "len"
    | .slice _, .snil => .ok (.int .i64 0)
    | .slice _, .slice _ _ _ len .. => .ok (.int .i64 len)
    | .map _ _, .mnil => .ok (.int .i64 0)
    | .map _ _, .map r => match H.get r with
      | some (.map es _) => .ok (.int .i64 es.length)
      | _ => .bad "len map"
    | _, _ => .bad "len"
  | _, _ => .bad "len"

def capB (tb : Tb) (argTypes : List TypeId) (args : List AV) : R AV :=
  match argTypes, args with
  | t :: _, [x] => (tb.und t).bind fun d => match d, x with
    | .slice _, .snil => .ok (.int .i64 0)
    | .slice _, .slice _ _ _ _ lo ex _ => bif ex then .ok (.int .i64 lo) else .bad "cap"
    | _, _ => .bad "cap"
  | _, _ => .bad "cap"

def asInt (v : AV) : R Int := match v with | .int _ n => .ok n | _ => .bad "int"

def minmaxA (mx : Bool) : List AV → R AV
  | [.int k a, .int _ b] => .ok (.int k (bif mx then (if a < b then b else a) else (if b < a then b else a)))
  | _ => .bad "minmax"

/-- Equality of values. -/
def beqV : AV → AV → Bool
  | .bool a, .bool b => a == b
  | .int k a, .int k' b => k == k' && a == b
  | .str a, .str b => beqB a b
  | .pnil, .pnil => true
  | .ptr (some o) [] i, .ptr (some o') [] i' => Nat.beq o o' && Nat.beq i i'
  | .snil, .snil => true
  | .slice (some o) [] off len lo ex es, .slice (some o') [] off' len' lo' ex' es' => Nat.beq o o' && Nat.beq off off' && Nat.beq len len' && Nat.beq lo lo' && (ex == ex') && Nat.beq es es'
  | .mnil, .mnil => true
  | .map a, .map b => Nat.beq a b
  | .fnil, .fnil => true
  | .inil, .inil => true
  | .iface t v, .iface t' v' => Nat.beq t t' && beqV v v'
  | .agg l, .agg l' => beqVs l l'
  | .tuple l, .tuple l' => beqVs l l'
  | .func (.func f) a b, .func (.func f') a' b' => Nat.beq f f' && beqVs a a' && beqVs b b'
  | .func (.methodOf t s) a b, .func (.methodOf t' s') a' b' => Nat.beq t t' && s == s' && beqVs a a' && beqVs b b'
  | _, _ => false
  where
  beqVs : List AV → List AV → Bool
    | [], [] => true
    | a :: l, b :: r => beqV a b && beqVs l r
    | _, _ => false

def findK (tb : Tb) (H : Hp) (kt : TypeId) (k : AV) : List (AV × AV × Nat) → Nat → R (Option (Nat × AV))
  | [], _ => .ok none
  | e :: es, i => (eqA tb H 50 kt k e.1).bind fun b => bif b then .ok (some (i, e.2.1)) else findK tb H kt k es (i + 1)

def litA : AV → Bool
  | .int _ _ => true
  | .str _ => true
  | _ => false

/-- A key that may be: a number, a text, or a struct of such. -/
def keyOk (tb : Tb) (kt : TypeId) (k : AV) : Bool :=
  match tb.und kt with
  | .ok (.int _) => match k with | .int _ _ => true | _ => false
  | .ok .string => match k with | .str _ => true | _ => false
  | .ok (.struct fs) => match k with
    | .agg cs => cs.all litA && fs.toList.all fun f => f.name != "_" && (match tb.und f.type with
      | .ok (.int _) => match part tb f.type cs f.offset with | .ok (.int _ _) => true | _ => false
      | .ok .string => match part tb f.type cs f.offset with | .ok (.str _) => true | _ => false
      | _ => false)
    | _ => false
  | _ => false

def entriesA (H : Hp) : AV → R (List (AV × AV × Nat))
  | .mnil => .ok []
  | .map r => match H.get r with
    | some (.map es _) => .ok es
    | _ => .bad "lookup"
  | _ => .bad "lookup"

def lookupA (tb : Tb) (xt : TypeId) (m k : AV) (ok : Bool) (H : Hp) : R AV :=
  (tb.und xt).bind fun d => match d with
  | .map kt e => bif keyOk tb kt k then (entriesA H m).bind fun es => (findK tb H kt k es 0).bind fun r => match r with
        | some (_, v) => .ok (bif ok then .tuple [v, .bool true] else v)
        | none => (tb.zero e).bind fun z => .ok (bif ok then .tuple [z, .bool false] else z)
    else .bad "lookup key"
  | _ => .bad "lookup"

def setVal : List (AV × AV × Nat) → Nat → AV → AV → List (AV × AV × Nat)
  | [], _, _, _ => []
  | (_, _, b) :: es, 0, k, v => (k, v, b) :: es
  | e :: es, i + 1, k, v => e :: setVal es i k v

def updateA (tb : Tb) (mt : TypeId) (m k v : AV) (H : Hp) : R Hp :=
  (tb.und mt).bind fun d => match d, m with
  | .map kt _, .map r => bif keyOk tb kt k then match H.get r with
    | some (.map es c) => (findK tb H kt k es 0).bind fun f => match f with
      | some (i, _) => match es[i]? with
        | some (k0, _, _) => bif beqV k k0 then .ok (H.set r (some (.map (setVal es i k v) c))) else .bad "update"
        | none => .bad "update"
      | none => .ok (H.set r (some (.map (es ++ [(k, v, c)]) (c + 1))))
    | _ => .bad "update"
    else .bad "update key"
  | _, _ => .bad "update"

def entryA (tb : Tb) (mt : TypeId) (m k : AV) (H : Hp) (n : Nat) : M AV :=
  (tb.und mt).bind fun d => match d, m with
  | .map kt e, .map r => bif keyOk tb kt k then match H.get r with
    | some (.map es c) => (findK tb H kt k es 0).bind fun f => match f with
      | some (i, v) => match es[i]? with
        | some (k0, _, b) => bif !(beqV k k0) then .bad "entry" else pureM (.tuple [v, .int .i64 b]) (H.set r (some (.map (setVal es i k v) c))) n
        | none => .bad "entry"
      | none => (tb.zero e).bind fun z => pureM (.tuple [z, .int .i64 c]) (H.set r (some (.map (es ++ [(k, z, c)]) (c + 1)))) n
    | _ => .bad "entry"
    else .bad "entry key"
  | _, _ => .bad "entry"

def setBorn : List (AV × AV × Nat) → Int → AV → Option (List (AV × AV × Nat))
  | [], _, _ => none
  | (k, v, b) :: es, i, x => bif (b : Int) == i then some ((k, x, b) :: es) else (setBorn es i x).map ((k, v, b) :: ·)

def entryStoreA (m st v : AV) (H : Hp) : R Hp :=
  match m, st with
  | .map r, .int _ b => match H.get r with
    | some (.map es c) => match setBorn es b v with
      | some es' => .ok (H.set r (some (.map es' c)))
      | none => .bad "entryStore"
    | _ => .bad "entryStore"
  | _, _ => .bad "entryStore"

def eraseI : List (AV × AV × Nat) → Nat → List (AV × AV × Nat)
  | [], _ => []
  | _ :: es, 0 => es
  | e :: es, i + 1 => e :: eraseI es i

def deleteA (tb : Tb) (argTypes : List TypeId) (args : List AV) (H : Hp) (n : Nat) : M AV :=
  match argTypes, args with
  | mt :: _, [m, k] => (tb.und mt).bind fun d => match d, m with
    | .map kt _, .mnil => bif keyOk tb kt k then pureM undA H n else .bad "delete"
    | .map kt _, .map r => bif keyOk tb kt k then match H.get r with
      | some (.map es c) => (findK tb H kt k es 0).bind fun f => match f with
        | some (i, _) => pureM undA (H.set r (some (.map (eraseI es i) c))) n
        | none => pureM undA H n
      | _ => .bad "delete"
      else .bad "delete key"
    | _, _ => .bad "delete"
  | _, _ => .bad "delete"

def makeSliceA (tb : Tb) (t : TypeId) (l c : AV) (H : Hp) (n : Nat) : M AV :=
  (tb.und t).bind fun d => match d with
  | .slice e => (tb.info e).bind fun ie => (asInt l).bind fun l => (asInt c).bind fun c =>
    bif decide (0 ≤ l) && decide (l ≤ c) && decide (c < 2 ^ 40) && Nat.ble (ie.bytes * c.toNat) 281474976710656 then
      (zeros tb e c.toNat ie.size).bind fun cs =>
      (newRow e cs 0 H n).bind fun (o, H, n) => pureM (.slice (some o) [] 0 l.toNat c.toNat true ie.size) H n
    else .bad "makeSlice"
  | _ => .bad "makeSlice"

def bnd (v : Option AV) (dflt : Nat) (top : Nat) : R Nat := match v with
  | none => .ok dflt
  | some (.int _ i) => bif decide (0 ≤ i) && decide (i ≤ top) then .ok i.toNat else .bad "slice bounds"
  | some _ => .bad "slice bounds"

def sliceA (tb : Tb) (t : TypeId) (x : AV) (lo hi mx : Option AV) : R AV :=
  (tb.und t).bind fun d => match d, x with
  | .string, .str s => match mx with
    | none => (bnd hi s.length s.length).bind fun h => (bnd lo 0 h).bind fun l => .ok (.str ((s.take h).drop l))
    | some _ => .bad "slice"
  | .slice e, .snil => (tb.size e).bind fun _ => match mx with
      | some _ => match hi with
        | none => .bad "slice"
        | some _ => (bnd mx 0 0).bind fun m => (bnd hi 0 m).bind fun h => (bnd lo 0 h).bind fun _ => .ok .snil
      | none => (bnd hi 0 0).bind fun h => (bnd lo 0 h).bind fun _ => .ok .snil
  | .slice e, .slice ob im off len clo ex es => (tb.size e).bind fun s => bif Nat.beq s es then
      match mx with
      | some _ => match hi with
        | none => .bad "slice"
        | some _ => (bnd mx 0 clo).bind fun m => (bnd hi 0 m).bind fun h => (bnd lo 0 h).bind fun l =>
          .ok (.slice ob im (off + l * es) (h - l) (m - l) true es)
      | none => (bnd hi len clo).bind fun h => (bnd lo 0 h).bind fun l =>
          .ok (.slice ob im (off + l * es) (h - l) (clo - l) ex es)
    else .bad "slice size"
  | _, _ => .bad "slice"

/-- A slice of an array that lies in memory. -/
def sliceArr (tb : Tb) (t : TypeId) (x : AV) (lo hi mx : Option AV) (H : Hp) : R AV :=
  (tb.und t).bind fun d => match d, x with
  | .array k e, .ptr o im off => (tb.size e).bind fun s => (cellsOf H o im).bind fun cs =>
      bif Nat.ble (off + k * s) cs.length then
        match mx with
        | some _ => .bad "slice array"
        | none => (bnd hi k k).bind fun h => (bnd lo 0 h).bind fun l =>
          .ok (.slice o im (off + l * s) (h - l) (k - l) true s)
      else .bad "slice array"
  | _, _ => .bad "slice"

def fieldAddrA (tb : Tb) (t : TypeId) (x : AV) (f : Nat) : R AV :=
  (tb.und t).bind fun d => match d, x with
  | .struct fs, .ptr o im off => match fs.toList[f]? with
    | some fd => (tb.size fd.type).bind fun s => bif Nat.beq s 0 then .bad "field of no size" else .ok (.ptr o im (off + fd.offset))
    | none => .bad "field"
  | _, _ => .bad "fieldAddr"

def fieldA (tb : Tb) (t : TypeId) (x : AV) (f : Nat) : R AV :=
  (tb.und t).bind fun d => match d, x with
  | .struct fs, .agg cs => match fs.toList[f]? with
    | some fd => part tb fd.type cs fd.offset
    | none => .bad "field"
  | _, _ => .bad "field"

def indexAddrA (tb : Tb) (t : TypeId) (x i : AV) : R AV :=
  (tb.und t).bind fun d => (asInt i).bind fun i => match d, x with
  | .array k e, .ptr o im off => bif decide (0 ≤ i) && decide (i < k) then (tb.size e).bind fun s => .ok (.ptr o im (off + i.toNat * s)) else .bad "index"
  | .slice e, .slice o im off len _ _ _ => bif decide (0 ≤ i) && decide (i < len) then (tb.size e).bind fun s => .ok (.ptr o im (off + i.toNat * s)) else .bad "index"
  | _, _ => .bad "index"

def indexA (tb : Tb) (t : TypeId) (x i : AV) : R AV :=
  (tb.und t).bind fun d => (asInt i).bind fun i => match d, x with
  | .array k e, .agg cs => bif decide (0 ≤ i) && decide (i < k) then (tb.size e).bind fun s => part tb e cs (i.toNat * s) else .bad "index"
  | .string, .str s => bif decide (0 ≤ i) then (match s[i.toNat]? with | some b => .ok (byteAV b) | none => .bad "index") else .bad "index"
  | _, _ => .bad "index"

def assertA (tb : Tb) (x : AV) (asserted : TypeId) (ok : Bool) : R AV :=
  (tb.und asserted).bind fun d => match d, x with
  | .interface _, _ => .bad "assert to interface"
  | _, .inil => bif ok then (tb.zero asserted).bind fun z => .ok (.tuple [z, .bool false]) else .bad "assert"
  | _, .iface t v => bif Nat.beq t asserted then .ok (bif ok then .tuple [v, .bool true] else v) else
      bif ok then (tb.zero asserted).bind fun z => .ok (.tuple [z, .bool false]) else .bad "assert"
  | _, _ => .bad "assert"

/-- The method of a value's dynamic type, and its receiver. -/
def methodA (tb : Tb) (t : TypeId) (v : AV) (name : String) (H : Hp) : R (FuncId × AV) :=
  (tb.info t).bind fun i => match i.methods.toList.find? (·.name == name) with
  | some m => bif m.path.isEmpty then match m.func with
    | some (f, ptrRecv) => (tb.und t).bind fun d => match d, ptrRecv, v with
      | .pointer _, true, v => .ok (f, v)
      | .pointer e, false, .ptr o im off => (loadA tb e (.ptr o im off) H).bind fun x => .ok (f, x)
      | .pointer _, false, _ => .bad "method nil"
      | _, false, v => .ok (f, v)
      | _, true, _ => .bad "method ptr"
    | none => .bad "method iface"
    else .bad "method path"
  | none => .bad "method"

def callMethodA (tb : Tb) (S : Su) (recv : AV) (name : String) (args : List AV) (H : Hp) (n : Nat) : M AV :=
  match recv with
  | .iface t v => (methodA tb t v name H).bind fun (f, r) => S (.fn f) (r :: args) H n
  | _ => .bad "invoke"

def callA (tb : Tb) (S : Su) (f : AV) (args : List AV) (H : Hp) (n : Nat) : M AV :=
  match f with
  | .func (.func g) first cap => S (.fn g) (first ++ args ++ cap) H n
  | .func (.yield l) first _ => S (.round l) (first ++ args) H n
  | .func (.methodOf t name) first _ => match first ++ args with
    | r :: rest => (tb.und t).bind fun d => match d with
      | .interface _ => callMethodA tb S r name rest H n
      | _ => callMethodA tb S (.iface t r) name rest H n
    | [] => .bad "call"
  | .func (.method name) first _ => match first ++ args with
    | r :: rest => callMethodA tb S r name rest H n
    | [] => .bad "call"
  | _ => .bad "call: no function"

/-- The type behind unsafe.String's pointer is the row's own, of one cell. -/
def uStrOk (tb : Tb) : List TypeId → TypeId → Bool
  | pt :: _, t => match tb.und pt with
    | .ok (.pointer e) => Nat.beq e t && (match tb.size e with | .ok s => Nat.beq s 1 | .bad _ => false)
    | _ => false
  | [], _ => false


inductive Kd where
  | pure | read | alloc | eff

/-- What an operation leans on: its operands alone; what lies in memory; it makes a row; all else. -/
def kindOf (tb : Tb) (o : Oper) : Kd :=
  match o.op with
  | .move _ | .assign _ | .pick .. | .build .. | .nilCheck _ | .unOp .. | .makeInterface .. | .makeFunc .. | .fieldAddr .. | .field .. | .indexAddr .. | .index .. | .extract .. | .typeAssert .. => .pure
  | .binOp op _ _ _ _ => match op with
    | .eql | .neq => .read
    | _ => .pure
  | .load .. | .lookup .. => .read
  | .slice t _ _ _ _ => match tb.und t with
    | .ok (.array _ _) => .read
    | _ => .pure
  | .alloc _ | .box .. | .buildSlice .. => .alloc
  | .convert _ d _ => match tb.und d with
    | .ok (.slice _) => .eff
    | .ok (.int _) => .pure
    | _ => .read
  | .call c => match c.callee with
    | .builtin b => match b with
      | .min | .max | .cap => .pure
      | .len | .unsafeSliceData => .read
      | _ => .eff
    | _ => .eff
  | _ => .eff

def pureA (tb : Tb) (o : Oper) (T : Tm) : R AV :=
  match o.op with
  | .move x => opd tb T x
  | .assign x => opd tb T x
  | .pick c a b => (opd tb T c).bind fun c => match c with | .bool c => bif c then opd tb T a else opd tb T b | _ => .bad "pick"
  | .build t ps => (opds tb T (ps.toList.map (·.2))).bind fun xs => buildA tb t ((ps.toList.map (·.1)).zip xs)
  | .nilCheck x => (opd tb T x).bind fun x => match x with
    | .ptr .. => .ok x
    | .func (.func _) _ _ => .ok x
    | .iface .. => .ok x
    | _ => .bad "nilCheck"
  | .binOp op _ x y _ => (opd tb T x).bind fun a => (opd tb T y).bind fun b => binP op a b
  | .unOp op _ x => (opd tb T x).bind fun a => unA op a
  | .convert s d x => (opd tb T x).bind fun a => convP tb s d a
  | .makeInterface t x => (opd tb T x).bind fun a => (tb.und t).bind fun d => match d with
    | .interface _ => .bad "makeInterface"
    | _ => .ok (.iface t a)
  | .makeFunc fn fs cs => (opds tb T fs.toList).bind fun fs => (opds tb T cs.toList).bind fun cs => match fn with
    | .yield _ => .bad "makeFunc"
    | _ => .ok (.func fn fs cs)
  | .slice t x lo hi mx => (opd tb T x).bind fun x => (opdO tb T lo).bind fun lo => (opdO tb T hi).bind fun hi => (opdO tb T mx).bind fun mx => sliceA tb t x lo hi mx
  | .fieldAddr t x f => (opd tb T x).bind fun x => fieldAddrA tb t x f
  | .field t x f => (opd tb T x).bind fun x => fieldA tb t x f
  | .indexAddr t x i => (opd tb T x).bind fun x => (opd tb T i).bind fun i => indexAddrA tb t x i
  | .index t x i => (opd tb T x).bind fun x => (opd tb T i).bind fun i => indexA tb t x i
  | .typeAssert x _ t ok => (opd tb T x).bind fun x => assertA tb x t ok
  | .extract x i => (opd tb T x).bind fun x => match x with
    | .tuple vs => R.of "extract" vs[i]?
    | _ => .bad "extract"
  | .call c => (opds tb T c.args.toList).bind fun args => match c.callee with
    | .builtin b => match b with
      | .cap => capB tb c.argTypes.toList args
      | .min => minmaxA false args
      | .max => minmaxA true args
      | _ => .bad "pure"
    | _ => .bad "pure"
  | _ => .bad "pure"

def readA (tb : Tb) (o : Oper) (T : Tm) (H : Hp) : R AV :=
  match o.op with
  | .binOp op xt x y _ => (opd tb T x).bind fun a => (opd tb T y).bind fun b => binA tb op xt x y a b H
  | .load t a => (opd tb T a).bind fun a => loadA tb t a H
  | .slice t x lo hi mx => (opd tb T x).bind fun x => (opdO tb T lo).bind fun lo => (opdO tb T hi).bind fun hi => (opdO tb T mx).bind fun mx => sliceArr tb t x lo hi mx H
  | .lookup t x i ok => (opd tb T x).bind fun x => (opd tb T i).bind fun i => lookupA tb t x i ok H
  | .convert s d x => (opd tb T x).bind fun a => convR tb s d a H
  | .call c => (opds tb T c.args.toList).bind fun args => match c.callee with
    | .builtin b => match b with
      | .len => lenB tb c.argTypes.toList args H
      | .unsafeSliceData => match args with
        | [.slice o im off _ lo _ _] => bif Nat.beq lo 0 then .bad "sliceData" else .ok (.ptr o im off)
        | [.snil] => .ok .pnil
        | _ => .bad "sliceData"
      | _ => .bad "read"
    | _ => .bad "read"
  | _ => .bad "read"

/-- What a row that is made is named, and what it is. -/
def allocA (tb : Tb) (o : Oper) (T : Tm) (i : Nat) : R (AV × TypeId × List AV) :=
  match o.op with
  | .alloc e => (tb.zero e).bind fun z => .ok (.ptr (some i) [] 0, e, z.cells)
  | .box e x => (opd tb T x).bind fun x => .ok (.ptr (some i) [] 0, e, x.cells)
  | .buildSlice t len ps => (opds tb T (ps.toList.map (·.2))).bind fun xs => buildSliceA tb t len ((ps.toList.map (·.1)).zip xs) i
  | _ => .bad "alloc"

/-! Maps of at most one entry, ranged over. -/
def rangeM (x : AV) (H : Hp) (n : Nat) : M AV := match x with
  | .mnil => (newO (.miter none 0 [] 0) H n).bind fun (i, H, n) => pureM (.ptr (some i) [] 0) H n
  | .map r => match H.get r with
    | some (.map _ c) => (newO (.miter (some r) c [] c) H n).bind fun (i, H, n) => pureM (.ptr (some i) [] 0) H n
    | _ => .bad "range map"
  | _ => .bad "range map"

def nextM (r : Nat) (H : Hp) (n : Nat) : M AV := match H.get r with
  | some (.miter none _ _ _) => pureM (.tuple [.bool false]) H n
  | some (.miter (some m) since seen last) => match H.get m with
    | some (.map [] _) => pureM (.tuple [.bool false]) H n
    | some (.map [(k, v, b)] c) => match seen with
      | [] => bif Nat.blt b since then pureM (.tuple [.bool true, k, v]) (H.set r (some (.miter (some m) since [b] c))) n else .bad "next: new"
      | [b'] => bif Nat.beq b b' && Nat.blt b last then pureM (.tuple [.bool false]) H n else .bad "next: more"
      | _ => .bad "next: seen"
    | _ => .bad "next: map"
  | _ => .bad "next: iterator"

def entryM (r : Nat) (H : Hp) : R AV := match H.get r with
  | some (.miter (some m) _ [s] st) => match H.get m with
    | some (.map [(k, v, b)] c) => bif Nat.beq c st && Nat.beq b s then .ok (.tuple [k, v]) else .bad "entry"
    | _ => .bad "entry: map"
  | _ => .bad "entry: iterator"

def effA (tb : Tb) (S : Su) (o : Oper) (T : Tm) (H : Hp) (n : Nat) : M AV :=
  match o.op with
  | .store t a x => (opd tb T a).bind fun a => (opd tb T x).bind fun x => (storeA tb t a x H).bind fun H => pureM undA H n
  | .convert s d x => (opd tb T x).bind fun a => convE tb s d a H n
  | .makeMap t r => (tb.und t).bind fun d => match d with
    | .map _ _ => (opdO tb T r).bind fun r => match r with
      | none => (newO (.map [] 0) H n).bind fun (i, H, n) => pureM (.map i) H n
      | some r => (asInt r).bind fun _ => (newO (.map [] 0) H n).bind fun (i, H, n) => pureM (.map i) H n
    | _ => .bad "makeMap"
  | .makeSlice t l c => (opd tb T l).bind fun l => (opd tb T c).bind fun c => makeSliceA tb t l c H n
  | .mapUpdate t m k x => (opd tb T m).bind fun m => (opd tb T k).bind fun k => (opd tb T x).bind fun x => (updateA tb t m k x H).bind fun H => pureM undA H n
  | .insert t m k x => (opd tb T m).bind fun m => (opd tb T k).bind fun k => (opd tb T x).bind fun x => (updateA tb t m k x H).bind fun H => pureM undA H n
  | .mapEntry t m k => (opd tb T m).bind fun m => (opd tb T k).bind fun k => entryA tb t m k H n
  | .entryStore _ m s x => (opd tb T m).bind fun m => (opd tb T s).bind fun s => (opd tb T x).bind fun x => (entryStoreA m s x H).bind fun H => pureM undA H n
  | .range t x => (opd tb T x).bind fun x => (tb.und t).bind fun d => match d, x with
    | .string, .str s => (newO (.siter s 0) H n).bind fun (i, H, n) => pureM (.ptr (some i) [] 0) H n
    | .map _ _, x => rangeM x H n
    | _, _ => .bad "range"
  | .next it isS => (opd tb T it).bind fun it => match it, isS with
    | .ptr (some r) _ 0, true => match H.get r with
      | some (.siter s pos) => bif Nat.blt pos s.length then
          pureM (.tuple [.bool true, .int .i64 pos, .int .i32 (decode s pos).1]) (H.set r (some (.siter s (pos + (decode s pos).2)))) n
        else pureM (.tuple [.bool false]) H n
      | _ => .bad "next"
    | .ptr (some r) _ 0, false => nextM r H n
    | _, _ => .bad "next"
  | .entry it => (opd tb T it).bind fun it => match it with
    | .ptr (some r) _ 0 => (entryM r H).bind fun v => pureM v H n
    | _ => .bad "entry"
  | .call c => (opds tb T c.args.toList).bind fun args => match c.callee with
    | .value f => (opd tb T f).bind fun f => callA tb S f args H n
    | .invoke r name => (opd tb T r).bind fun r => callMethodA tb S r name args H n
    | .builtin b => match b with
      | .append => appendA tb c.argTypes.toList args H n
      | .copy => copyA tb c.argTypes.toList args H n
      | .clear => clearA tb c.argTypes.toList args H n
      | .delete => deleteA tb c.argTypes.toList args H n
      | .unsafeString => bif c.argTypes.toList.isEmpty then .bad "unsafeString" else match args with
        | [.pnil, .int _ 0] => pureM (.str []) H n
        | [.ptr (some o) _ off, .int _ k] => bif k == 0 then pureM (.str []) H n else
            match H.get o with
            | some (.row t cs kk) => bif Nat.beq kk 1 || !(uStrOk tb c.argTypes.toList t) || decide (k < 0) || !(Nat.ble k.toNat 1099511627776) then .bad "unsafeString" else (sub cs off k.toNat).bind fun l => (R.of "bytes" (bytesFrom l)).bind fun s => pureM (.str s) (H.set o (some (.row t cs 1))) n
            | _ => .bad "unsafeString"
        | _ => .bad "unsafeString"
      | _ => .bad "builtin"
  | _ => .bad "op"

/-- What one operation yields. -/
def opA (tb : Tb) (S : Su) (o : Oper) (T : Tm) (H : Hp) (n : Nat) : M AV :=
  match kindOf tb o with
  | .pure => (pureA tb o T).bind fun v => .ok (v, H, n)
  | .read => (readA tb o T H).bind fun v => .ok (v, H, n)
  | .alloc => (allocA tb o T n).bind fun r => .ok (r.1, H.set n (some (.row r.2.1 r.2.2 0)), n + 1)
  | .eff => effA tb S o T H n

def guardA (ops : Array Oper) (T : Tm) (o : Oper) : Bool :=
  match o.guard with
  | none => true
  | some (j, want) => match (ops.toList[j]?).bind (·.dst) with
    | some d => match T.get d with
      | some (.bool b) => b == want
      | _ => false
    | none => false

def putD (sz : Nat) (T : Tm) (d : Option Tmp) (v : AV) : R Tm := match d with
  | some d => bif Nat.blt d sz then .ok (T.set d (some v)) else .bad "slot"
  | none => .ok T

/-- The operations of a region, in their order. -/
def opsA (tb : Tb) (S : Su) (sz : Nat) (ops : Array Oper) : List Oper → Tm → Hp → Nat → R (Tm × Hp × Nat)
  | [], T, H, n => .ok (T, H, n)
  | o :: rest, T, H, n => bif guardA ops T o then
      match opA tb S o T H n with
      | .ok (v, H, n) => match putD sz T o.dst v with
        | .ok T => opsA tb S sz ops rest T H n
        | .bad w => .bad w
      | .bad w => .bad (w ++ " < " ++ o.pos)
    else match putD sz T o.dst undA with
      | .ok T => opsA tb S sz ops rest T H n
      | .bad w => .bad w

/-! ### A region that draws its order -/

/-- What was seen of an operation in the order of the text: its number; who is ahead of it; its kind (none: it is not wanted); what it saw; what it yields; the row that it makes. -/
structure Ent where
  i : Nat
  o : Oper
  anc : Nat
  kd : Option Kd
  T : Tm
  H : Hp
  n : Nat
  v : AV
  ob : Option (TypeId × List AV)

def Ent.isE (e : Ent) : Bool := match e.kd with | some .eff => true | _ => false
def Ent.isR (e : Ent) : Bool := match e.kd with | some .read => true | _ => false

/-- A row that was made, and that no effect ahead of q has met. -/
def unabs (acc : List Ent) (q j : Nat) : Bool := acc.all fun e => !(e.isE && Nat.blt e.i q && e.anc.testBit j)

def objs (acc : List Ent) (n0 m q : Nat) : List Ent → List (Nat × AObj)
  | [] => []
  | e :: l => match e.ob with
    | some (t, cs) => bif m.testBit e.i && unabs acc q e.i then (n0 + e.i, .row t cs 0) :: objs acc n0 m q l else objs acc n0 m q l
    | none => objs acc n0 m q l

def addAll (H : Hp) : List (Nat × AObj) → Hp
  | [] => H
  | (i, ob) :: l => (addAll H l).set i (some ob)

def heapAt (acc : List Ent) (n0 m q : Nat) (H : Hp) : Hp := addAll H (objs acc n0 m q acc)

/-- The way through a region in the order of the text. -/
def passA (tb : Tb) (S : Su) (sz n0 : Nat) (ops : Array Oper) : List (Nat × Oper) → List Nat → List Ent → Tm → Hp → Nat → R (List Ent × Tm × Hp × Nat)
  | [], _, acc, T, H, n => .ok (acc, T, H, n)
  | (i, o) :: rest, ancs, acc, T, H, n => match ancs with
    | [] => .bad "anc"
    | anc :: ancs =>
      bif guardA ops T o then
        match kindOf tb o with
        | .pure => (pureA tb o T).bind fun v => (putD sz T o.dst v).bind fun T' => passA tb S sz n0 ops rest ancs (⟨i, o, anc, some .pure, T, H, n, v, none⟩ :: acc) T' H n
        | .read => (readA tb o T (heapAt acc n0 anc i H)).bind fun v => (putD sz T o.dst v).bind fun T' => passA tb S sz n0 ops rest ancs (⟨i, o, anc, some .read, T, H, n, v, none⟩ :: acc) T' H n
        | .alloc => (allocA tb o T (n0 + i)).bind fun r => (putD sz T o.dst r.1).bind fun T' => passA tb S sz n0 ops rest ancs (⟨i, o, anc, some .alloc, T, H, n, r.1, some r.2⟩ :: acc) T' H n
        | .eff => (effA tb S o T (heapAt acc n0 anc i H) n).bind fun (v, H', n') => (putD sz T o.dst v).bind fun T' => passA tb S sz n0 ops rest ancs (⟨i, o, anc, some .eff, T, H, n, v, none⟩ :: acc) T' H' n'
      else (putD sz T o.dst undA).bind fun T' => passA tb S sz n0 ops rest ancs (⟨i, o, anc, none, T, H, n, undA, none⟩ :: acc) T' H n

/-- May the heap ahead of the effect q be what the reading r sees? -/
def cutAt (acc : List Ent) (r : Ent) (q : Nat) : Bool :=
  acc.all fun e => !e.isE || (bif Nat.blt e.i q then !(e.anc.testBit r.i) else !(r.anc.testBit e.i))

/-- No effect from i on, ahead of q. -/
def calmB (acc : List Ent) (i q : Nat) : Bool := Nat.ble i q && acc.all fun e => !e.isE || !(Nat.ble i e.i && Nat.blt e.i q)

def sees (tb : Tb) (acc : List Ent) (n0 : Nat) (r : Ent) (q : Nat) (H : Hp) : Bool :=
  !(cutAt acc r q) || calmB acc r.i q || (match readA tb r.o r.T (heapAt acc n0 r.anc q H) with
    | .ok v => beqV v r.v
    | .bad _ => false)

/-- The effects are in one line; who names a slot that another one writes is ahead of it or behind it; no slot is written twice. -/
def lineOk (acc : List Ent) : Bool :=
  acc.all fun e => !e.isE || acc.all fun e' => !(e'.isE && Nat.blt e'.i e.i) || e.anc.testBit e'.i

def looks (ops : Array Oper) (o : Oper) : List Tmp :=
  (o.op.operands.toList.filterMap fun | .tmp t => some t | _ => none) ++
  (match o.guard with
   | some (g, _) => ((ops.toList[g]?).bind (·.dst)).toList
   | none => [])

/-- The same of the text alone: of each operation its number, itself, who is ahead of it. -/
def keysOf (ops : Array Oper) : List (Nat × Oper × Nat) := ((List.range ops.size).zip ops.toList).map fun x => (x.1, x.2, (Region.before ops).getD x.1 0)
def slotsK (ops : Array Oper) (ks : List (Nat × Oper × Nat)) : Bool :=
  ks.all fun e => match e.2.1.dst with
    | none => true
    | some d => ks.all fun r => Nat.beq r.1 e.1 || ((match r.2.1.dst with | some d' => !(Nat.beq d d') | none => true) &&
        (!((looks ops r.2.1).any (Nat.beq d)) || r.2.2.testBit e.1 || e.2.2.testBit r.1))
def ancsK (ks : List (Nat × Oper × Nat)) : Bool := ks.all fun e => Nat.blt e.2.2 (2 ^ e.1)

def drawnA (tb : Tb) (S : Su) (sz : Nat) (ops : Array Oper) (T : Tm) (H : Hp) (n : Nat) : R (Tm × Hp × Nat) :=
  match passA tb S sz n ops ((List.range ops.size).zip ops.toList) (Region.before ops).toList [] T H (n + ops.size) with
  | .bad w => .bad w
  | .ok (acc, T', H', n') =>
    bif lineOk acc && (slotsK ops (keysOf ops) && ancsK (keysOf ops)) && acc.all (fun r => !r.isR || (sees tb acc n r ops.size H' && acc.all fun e => !e.isE || sees tb acc n r e.i e.H)) then
      .ok (T', heapAt acc n (2 ^ ops.size - 1) ops.size H', n')
    else .bad "region"

inductive Out where
  | normal | exit (id : Nat) | ret

structure St where
  T : Tm
  H : Hp
  n : Nat
  D : List Nat

abbrev Re := R (Out × St)

def loopA (body : St → Re) : Nat → St → Re
  | 0, _ => .bad "fuel"
  | k + 1, s => match body s with
    | .ok (.normal, s) => loopA body k s
    | r => r

def aroundA (around : Option Nat) (H : Hp) (n : Nat) : M Nat := match around with
  | some l => match H.get l with
    | some (.loop _ _ _ _ _ _ _ d) => .ok (d, H, n)
    | _ => .bad "rangeFunc"
  | none => newO .deferred H n

def codeA (tb : Tb) (S : Su) (fuel sz : Nat) (around : Option Nat) : Code → St → Re
  | .skip, s => .ok (.normal, s)
  | .label _, s => .ok (.normal, s)
  | .region _ ops draw, s => bif draw then
      (match drawnA tb S sz ops s.T s.H s.n with
       | .ok (T, H, n) => .ok (.normal, ⟨T, H, n, s.D⟩)
       | .bad w => .bad w)
    else (match opsA tb S sz ops ops.toList s.T s.H s.n with
       | .ok (T, H, n) => .ok (.normal, ⟨T, H, n, s.D⟩)
       | .bad w => .bad w)
  | .seq a b, s => match codeA tb S fuel sz around a s with
    | .ok (.normal, s) => codeA tb S fuel sz around b s
    | r => r
  | .cond c a b, s => match opd tb s.T c with
    | .ok (.bool t) => bif t then codeA tb S fuel sz around a s else codeA tb S fuel sz around b s
    | _ => .bad "cond"
  | .block id c, s => match codeA tb S fuel sz around c s with
    | .ok (.exit id', s) => bif Nat.beq id' id then .ok (.normal, s) else .ok (.exit id', s)
    | r => r
  | .loop c, s => loopA (codeA tb S fuel sz around c) fuel s
  | .scope c, s => codeA tb S fuel sz around c s
  | .exit id, s => .ok (.exit id, s)
  | .goto _, _ => .bad "goto"
  | .ret, s => .ok (.ret, s)
  | .refuse w, _ => .bad ("refuse " ++ w)
  | .rangeFunc f ps assign body, s =>
    match aroundA around s.H s.n with
    | .bad w => .bad w
    | .ok (d, H, n) =>
    match newO (.loop .ready none s.T sz ps.toList assign body d) H n with
    | .bad w => .bad w
    | .ok (l, H, n) =>
    match opd tb s.T f with
    | .ok (.func (.func g) first cap) => bif !(tb.bodied g) then .bad "rangeFunc over what" else
      match S (.fn g) (first ++ [.func (.yield l) [] []] ++ cap) H n with
      | .bad w => .bad w
      | .ok (_, H, n) =>
        match H.get l with
        | some (.loop st pe T' sz' ps' as' bo' d') =>
          let D := match around with | none => d :: s.D | some _ => s.D
          let s' : St := ⟨s.T, H.set l (some (.loop .exhausted pe T' sz' ps' as' bo' d')), n, D⟩
          match st with
          | .busy => .bad "rangeFunc busy"
          | _ => match pe with
            | none => .ok (.normal, s')
            | some .ret => .ok (.ret, s')
            | some (.exit id) => .ok (.exit id, s')
            | some _ => .bad "rangeFunc pending"
        | _ => .bad "rangeFunc end"
    | _ => .bad "rangeFunc of what"

def resA (tb : Tb) (T : Tm) (H : Hp) : List ResultVar → R (List AV)
  | [] => .ok []
  | .tmp t :: l => (resA tb T H l).bind fun r => .ok ((T.get t).getD undA :: r)
  | .cell a t :: l => (loadA tb t ((T.get a).getD undA) H).bind fun v => (resA tb T H l).bind fun r => .ok (v :: r)

def oneOf : List AV → AV
  | [v] => v
  | vs => .tuple vs

/-- The blocks for rounds' deferred calls are given up. -/
def shutA : List Nat → Hp → Option Hp
  | [], H => some H
  | d :: D, H => match H.get d with
    | some .deferred => shutA D (H.set d none)
    | _ => none

def leaveA (tb : Tb) (fn : Func) (s : St) : M AV :=
  match shutA s.D s.H with
  | none => .bad "deferred"
  | some H => (resA tb s.T H fn.results.toList).bind fun vs => .ok (oneOf vs, H, s.n)

def bodyA (tb : Tb) (S : Su) (fuel : Nat) (fn : Func) (args : List AV) (H : Hp) (n : Nat) : M AV :=
  match fn.body with
  | none => .bad "no body"
  | some c => match codeA tb S fuel (Nat.max fn.ntmps args.length) none c ⟨PT.ofList args, H, n, []⟩ with
    | .ok (.normal, s) => leaveA tb fn s
    | .ok (.ret, s) => leaveA tb fn s
    | .ok _ => .bad "left"
    | .bad w => .bad (w ++ " IN " ++ fn.name)

def putAll (sz : Nat) : Tm → List Tmp → List AV → Option Tm
  | T, [], [] => some T
  | T, p :: ps, a :: l => bif Nat.blt p sz then putAll sz (T.set p (some a)) ps l else none
  | _, _, _ => none

/-- The end of a round: by the way in which its body is left. -/
def endA : Out → Option (Bool × LoopState × Option Code)
  | .normal => some (true, .ready, none)
  | .ret => some (false, .done, some .ret)
  | .exit id => some (false, .done, some (.exit id))

def roundA (tb : Tb) (S : Su) (fuel : Nat) (l : Nat) (args : List AV) (H : Hp) (n : Nat) : M AV :=
  match H.get l with
  | some (.loop .ready _ T sz ps as bo _) => match putAll sz T ps args with
    | none => .bad "round args"
    | some T1 => match codeA tb S fuel sz (some l) as ⟨T1, H, n, []⟩ with
      | .ok (.normal, s) => match s.H.get l with
        | some (.loop .ready pe T2 sz2 ps2 as2 bo2 d2) =>
          match codeA tb S fuel sz (some l) bo ⟨s.T, s.H.set l (some (.loop .busy pe T2 sz2 ps2 as2 bo2 d2)), s.n, s.D⟩ with
          | .ok (out, s) => match s.H.get l with
            | some (.loop _ _ T3 sz3 ps3 as3 bo3 d3) => match endA out with
              | some (b, st, pe) => pureM (.bool b) (s.H.set l (some (.loop st pe T3 sz3 ps3 as3 bo3 d3))) s.n
              | none => .bad "round end"
            | _ => .bad "round end"
          | .bad w => .bad w
        | _ => .bad "round begin"
      | .ok _ => .bad "round assign"
      | .bad w => .bad w
  | _ => .bad "round"

/-- The calls, so deep: what base tells, else by the function's body. -/
def calls (tb : Tb) (fns : PT Func) (base : Nat → Option (Su → List AV → Hp → Nat → M AV)) (fuel : Nat) : Nat → Su
  | 0 => fun _ _ _ _ => .bad "depth"
  | k + 1 => fun c args H n => match c with
    | .fn f => match base f with
      | some b => b (calls tb fns base fuel k) args H n
      | none => match fns.get f with
        | some fn => bodyA tb (calls tb fns base fuel k) fuel fn args H n
        | none => .bad "no function"
    | .round l => roundA tb (calls tb fns base fuel k) fuel l args H n

end
end Go.Zr
