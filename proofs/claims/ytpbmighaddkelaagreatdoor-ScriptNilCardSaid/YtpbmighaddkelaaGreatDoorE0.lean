/- An abstract evaluator of the loaded code over pure values: definitions. -/
import Derived.Calls
namespace Go.Ev

inductive AV where
  | bool (b : Bool)
  | int (k : IntKind) (n : Int)
  | str (s : ByteArray)
  | agg (cs : List AV)
  | tup (vs : List AV)
  | sl (xs : List AV)
  | zsl (isNil : Bool)
  | own (b n : Nat)
  | nilp
  | ptr (b n i o : Nat)
  | ptrI (v : AV) (o : Nat)
  | fresh (n : Nat)
  | map (b : Nat)
  | itr (b : Nat)
  | mit (b : Nat)
  | nilm
  | fn (f : Fn) (first cap : List AV)
  | nilf
  | iface (t : TypeId) (v : AV)
  | nili
  | und
  deriving Inhabited

def AV.cells : AV → List AV
  | .agg cs => cs
  | v => [v]

inductive TK where
  | int (k : IntKind)
  | bool
  | str
  | slice (e : TypeId)
  | struct (fs : List (Nat × TypeId))
  | array (n : Nat) (e : TypeId)
  | ptr (e : TypeId)
  | map (k e : TypeId)
  | func
  | iface
  | other

structure TI where
  k : TK
  size : Nat
  bytes : Nat
  zero : AV

def TK.isAgg : TK → Bool
  | .struct _ | .array _ _ => true
  | _ => false

inductive Blk where
  | arr (sz : Nat) (xs : List AV)
  | mapb (es : List (AV × AV × Nat)) (clock : Nat)
  | siter (s : ByteArray) (pos : Nat)
  | dead
  | void

abbrev Heap := List Blk

/-- A new block: behind the others, or at the place that was kept for it. -/
def newB (al : Option Nat) (H : Heap) (k : Blk) : Option (Nat × Heap) :=
  match al with
  | none => some (H.length, H ++ [k])
  | some i => match H[i]? with
    | some .void => some (i, H.set i k)
    | _ => none
abbrev Slots := Nat → AV

def upd (T : Slots) (i : Nat) (v : AV) : Slots := fun j => if j = i then v else T j
def updO (T : Slots) (d : Option Tmp) (v : AV) : Slots := match d with | some i => upd T i v | none => T

structure St where
  T : Slots
  H : Heap

inductive Ex where
  | normal | exit (id : Nat) | ret

inductive Mode where
  | imm | heap
  deriving DecidableEq

/-- What the evaluator is told of a program: its functions, its types, where memory is made that is written later, which functions share the caller's memory. -/
structure Cfg where
  P : Program
  md : FuncId → Tmp → Mode
  dk : FuncId → Nat → Bool
  vd : FuncId → Nat → Bool
  shr : FuncId → Bool
  sol : FuncId → Bool
  ext : FuncId → Option (List AV → Option AV)

def ofCell : Value → AV
  | .bool b => .bool b
  | .int k n => .int k n
  | .string s => .str s
  | .slice none 0 0 => .zsl true
  | .pointer none => .nilp
  | .map none => .nilm
  | .nilIface => .nili
  | .nilFunc => .nilf
  | _ => .und

def ofVal : Value → AV
  | .agg cs => .agg (cs.toList.map ofCell)
  | v => ofCell v

def ρ (T : Slots) : Operand → AV
  | .tmp t => T t
  | .const v => ofVal v
  | .global _ => .und
  | .func f => .fn (.func f) [] []

def tk : TypeDesc → TK
  | .int k => .int k
  | .bool => .bool
  | .string => .str
  | .slice e => .slice e
  | .struct fs => .struct (fs.toList.map fun f => (f.offset, f.type))
  | .array n e => .array n e
  | .pointer e => .ptr e
  | .map k e => .map k e
  | .func .. => .func
  | .interface _ => .iface
  | _ => .other

/-- What the program's tables say of a type. -/
def ti (P : Program) (t : TypeId) : TI :=
  match P.info? t, P.underlying t with
  | some i, some d => ⟨tk d, i.size, i.bytes, (i.zero.map ofVal).getD .und⟩
  | _, _ => ⟨.other, 0, 0, .und⟩

/-- A value that takes one cell. -/
def AV.cell : AV → Bool
  | .agg _ | .tup _ | .und | .fresh _ => false
  | _ => true

/-- A value that may be stored. -/
def AV.okv (v : AV) : Bool := v.cells.all AV.cell

mutual
def AV.flat : AV → Bool
  | .own _ _ | .ptr _ _ _ _ | .map _ | .itr _ | .mit _ | .fresh _ | .und | .tup _ => false
  | .agg cs => cs.all AV.cell && flatL cs
  | .sl xs => flatL xs
  | .ptrI v _ => v.flat
  | .fn _ a b => flatL a && flatL b
  | .iface _ v => v.flat
  | _ => true
def flatL : List AV → Bool
  | [] => true
  | v :: r => v.flat && flatL r
end

mutual
/-- A value that leads to no memory. -/
def AV.solid : AV → Bool
  | .bool _ | .int _ _ | .str _ | .nilp | .nilm | .nilf | .nili | .zsl _ => true
  | .agg cs => solidL cs
  | .tup cs => solidL cs
  | .iface _ v => v.solid
  | _ => false
def solidL : List AV → Bool
  | [] => true
  | v :: r => v.solid && solidL r
end

def omap (f : AV → Option AV) : List AV → Option (List AV)
  | [] => some []
  | v :: r => (f v).bind fun x => (omap f r).map fun l => x :: l

/-- Whatever of the memory H a value leads to becomes part of it. -/
def frz (H : Heap) : Nat → AV → Option AV
  | 0, .bool b => some (.bool b)
  | 0, .int k n => some (.int k n)
  | 0, .str s => some (.str s)
  | 0, _ => none
  | _ + 1, .bool b => some (.bool b)
  | _ + 1, .int k n => some (.int k n)
  | _ + 1, .str s => some (.str s)
  | n + 1, .agg cs => (omap (frz H n) cs).map .agg
  | n + 1, .tup cs => (omap (frz H n) cs).map .tup
  | _ + 1, .sl xs => if flatL xs then some (.sl xs) else none
  | _ + 1, .zsl b => some (.zsl b)
  | n + 1, .own b m => match H[b]? with
    | some (.arr _ xs) => if xs.length = m then (omap (frz H n) xs).map .sl else none
    | _ => none
  | n + 1, .ptr b m i o => match H[b]? with
    | some (.arr _ xs) => if xs.length = m then match xs[i]? with
      | some x => (frz H n x).map fun y => .ptrI y o
      | none => none
      else none
    | _ => none
  | _ + 1, .ptrI v o => if v.flat then some (.ptrI v o) else none
  | _ + 1, .nilp => some .nilp
  | _ + 1, .nilm => some .nilm
  | _ + 1, .nili => some .nili
  | _ + 1, .nilf => some .nilf
  | n + 1, .fn f a b => (omap (frz H n) a).bind fun a' => (omap (frz H n) b).map fun b' => .fn f a' b'
  | n + 1, .iface t v => (frz H n v).map (.iface t)
  | _ + 1, .fresh _ | _ + 1, .map _ | _ + 1, .itr _ | _ + 1, .mit _ | _ + 1, .und => none

def frzL (H : Heap) (n : Nat) (xs : List AV) : Option (List AV) := omap (frz H n) xs

end Go.Ev
