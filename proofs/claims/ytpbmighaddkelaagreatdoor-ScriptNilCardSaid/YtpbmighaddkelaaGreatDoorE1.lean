/- An abstract evaluator of the loaded code over pure values: operations and code. -/
import Derived.Test.YtpbmighaddkelaaGreatDoorE0
import GoSem.Core.Utf8
namespace Go.Ev

/-- A part of a value's cells, as a value of a type. -/
def part (ti : TI) (cs : List AV) (o : Nat) : Option AV :=
  match ti.k with
  | .other => none
  | .struct _ | .array _ _ => if o + ti.size ≤ cs.length then some (.agg ((cs.drop o).take ti.size)) else none
  | _ => cs[o]?

def putCells (cs : List AV) : Nat → List AV → List AV
  | _, [] => cs
  | o, v :: r => putCells (cs.set o v) (o + 1) r

/-- The elements of one of the evaluator's blocks, if they are so many. -/
def arrOf (H : Heap) (b n : Nat) : Option (List AV) :=
  match H[b]? with
  | some (.arr _ xs) => if xs.length = n then some xs else none
  | _ => none

/-- How many cells an element of a block has. -/
def szOf (H : Heap) (b : Nat) : Nat :=
  match H[b]? with
  | some (.arr z _) => z
  | _ => 0

def evLoad (P : Program) (H : Heap) (t : TypeId) : AV → Option AV
  | .ptrI v o => part (ti P t) v.cells o
  | .ptr b n i o => (arrOf H b n).bind fun xs => (xs[i]?).bind fun x => part (ti P t) x.cells o
  | _ => none

/-- The new element behind a store of v at o into x. -/
def putAt (x : AV) (o : Nat) (v : AV) : Option AV :=
  if o + v.cells.length ≤ x.cells.length then some (match x with | .agg cs => .agg (putCells cs o v.cells) | _ => v) else none

def evStore (P : Program) (H : Heap) (t : TypeId) (v : AV) : AV → Option Heap
  | .ptr b n i o => if v.cells.length = (ti P t).size ∧ v.okv ∧ (ti P t).size ≠ 0 then
      (arrOf H b n).bind fun xs => (xs[i]?).bind fun x => (putAt x o v).map fun y => H.set b (.arr (szOf H b) (xs.set i y))
    else none
  | _ => none

def byteAV (c : UInt8) : AV := .int .u8 c.toNat

/-- What a slice, or a string, holds. -/
def elems (H : Heap) : AV → Option (List AV)
  | .sl xs => some xs
  | .zsl _ => some []
  | .own b n => arrOf H b n
  | .str s => some (s.data.toList.map byteAV)
  | _ => none

def intOp (op : BinOp) (k : IntKind) (a b : Int) : Option AV :=
  match op with
  | .add => some (.int k (k.wrap (a + b)))
  | .sub => some (.int k (k.wrap (a - b)))
  | .mul => some (.int k (k.wrap (a * b)))
  | .quo => if b = 0 then none else some (.int k (k.wrap (a.tdiv b)))
  | .rem => if b = 0 then none else some (.int k (a.tmod b))
  | .shl => if 0 ≤ b ∧ b ≤ 64 then some (.int k (k.wrap (a * 2 ^ (min b.toNat k.bits)))) else none
  | .shr => if 0 ≤ b ∧ b ≤ 64 then some (.int k (a.fdiv (2 ^ (min b.toNat k.bits)))) else none
  | .and => some (.int k (k.wrap (BitVec.ofInt k.bits a &&& BitVec.ofInt k.bits b).toNat))
  | .or => some (.int k (k.wrap (BitVec.ofInt k.bits a ||| BitVec.ofInt k.bits b).toNat))
  | .eql => some (.bool (a == b))
  | .neq => some (.bool (a != b))
  | .lss => some (.bool (decide (a < b)))
  | .leq => some (.bool (decide (a ≤ b)))
  | .gtr => some (.bool (decide (b < a)))
  | .geq => some (.bool (decide (b ≤ a)))
  | _ => none

def strOp (op : BinOp) (a b : ByteArray) : Option AV :=
  match op with
  | .add => if a.size + b.size ≤ 1099511627776 then some (.str (a ++ b)) else none
  | .eql => some (.bool (a.toList == b.toList))
  | .neq => some (.bool (a.toList != b.toList))
  | _ => none

def eqOp (op : BinOp) (b : Bool) : Option AV :=
  match op with
  | .eql => some (.bool b)
  | .neq => some (.bool (!b))
  | _ => none

def evBin (H : Heap) (kk : TK) (c : Bool) (op : BinOp) : AV → AV → Option AV
  | .int k a, .int k' b => match op with
    | .shl => intOp .shl k a b
    | .shr => intOp .shr k a b
    | op => if k = k' then intOp op k a b else none
  | .str a, .str b => strOp op a b
  | .bool a, .bool b => match kk with | .bool => eqOp op (a == b) | _ => none
  | .iface _ _, .nili => match kk with | .iface => eqOp op false | _ => none
  | .nili, .nili => match kk, c with | .iface, true => eqOp op true | _, _ => none
  | .sl (_ :: _), .zsl true => match kk with | .slice _ => eqOp op false | _ => none
  | .own b n, .zsl true => match kk with | .slice _ => (arrOf H b n).bind fun _ => eqOp op false | _ => none
  | .zsl n, .zsl true => match kk with | .slice _ => eqOp op n | _ => none
  | .ptr b n _ _, .nilp => match kk with | .ptr _ => (arrOf H b n).bind fun _ => eqOp op false | _ => none
  | .ptrI _ _, .nilp => match kk with | .ptr _ => eqOp op false | _ => none
  | .nilp, .nilp => match kk with | .ptr _ => eqOp op true | _ => none
  | .fn _ _ _, .nilf => match kk with | .func => eqOp op false | _ => none
  | .nilf, .nilf => match kk with | .func => eqOp op true | _ => none
  | _, _ => none

def evUn (op : UnOp) : AV → Option AV
  | .bool b => match op with | .not => some (.bool !b) | _ => none
  | .int k n => match op with | .neg => some (.int k (k.wrap (0 - n))) | _ => none
  | _ => none

def nat? : AV → Option Nat
  | .int _ n => if 0 ≤ n then some n.toNat else none
  | _ => none

/-- A place so many cells further on. -/
def evField (H : Heap) (k : Nat) : AV → Option AV
  | .ptrI v o => some (.ptrI v (o + k))
  | .ptr b n i o => (arrOf H b n).map fun _ => .ptr b n i (o + k)
  | _ => none

def evIndexAddr (P : Program) (H : Heap) (t : TypeId) (x i : AV) : Option AV :=
  match (ti P t).k, x, i with
  | .slice e, .sl xs, .int _ n => if 0 ≤ n ∧ n < (xs.length : Int) then (xs[n.toNat]?).bind fun v => if v.cells.length = (ti P e).size ∧ (ti P e).size ≠ 0 then some (.ptrI v 0) else none else none
  | .slice e, .own b m, .int _ n => if 0 ≤ n ∧ n < (m : Int) then (arrOf H b m).bind fun xs => (xs[n.toNat]?).bind fun v => if v.cells.length = (ti P e).size ∧ (ti P e).size ≠ 0 then some (.ptr b m n.toNat 0) else none else none
  | .array len e, x, .int _ n => if 0 ≤ n ∧ n < (len : Int) ∧ (ti P e).size ≠ 0 then evField H (n.toNat * (ti P e).size) x else none
  | _, _, _ => none

/-- The byte of a text at a place. -/
def bt (s : ByteArray) (i : Int) : Int := ((s.data.getD i.toNat 0).toNat : Int)

def evIndex (P : Program) (t : TypeId) (x i : AV) : Option AV :=
  match (ti P t).k, x, i with
  | .str, .str s, .int _ n => if 0 ≤ n ∧ n < (s.size : Int) then some (.int .u8 (bt s n)) else none
  | .array len e, .agg cs, .int _ n => if 0 ≤ n ∧ n < (len : Int) ∧ (ti P e).size ≠ 0 then part (ti P e) cs (n.toNat * (ti P e).size) else none
  | _, _, _ => none

/-- A cut's bound; where none is told: n. -/
def boundOf (n : Nat) : Option AV → Option Nat
  | none => some n
  | some a => nat? a

def evSlice (P : Program) (H : Heap) (t : TypeId) (x : AV) (lo hi : Option AV) : Option AV :=
  match (ti P t).k, x with
  | .str, .str s =>
    (boundOf 0 lo).bind fun l => (boundOf s.size hi).bind fun h =>
      if l ≤ h ∧ h ≤ s.size then some (.str (s.extract l h)) else none
  | .slice e, .sl xs =>
    (boundOf 0 lo).bind fun l => (boundOf xs.length hi).bind fun h =>
      if l ≤ h ∧ h ≤ xs.length then (if xs.all (fun x => x.cells.length == (ti P e).size) ∧ (ti P e).size ≠ 0 then some (.sl ((xs.take h).drop l)) else none) else none
  | .slice e, .zsl b =>
    (boundOf 0 lo).bind fun l => (boundOf 0 hi).bind fun h => if l = 0 ∧ h = 0 ∧ (ti P e).size ≠ 0 then some (.zsl b) else none
  | .slice e, .own b n =>
    (boundOf 0 lo).bind fun l => (boundOf n hi).bind fun h => (arrOf H b n).bind fun _ =>
      if h ≤ n ∧ (ti P e).size ≠ 0 then (if l = h then some (.sl []) else if l = 0 ∧ h = n then some (.own b n) else none) else none
  | _, _ => none

def fieldOf (P : Program) (s : TypeId) (f : Nat) : Option (Nat × TypeId) :=
  match (ti P s).k with
  | .struct fs => fs[f]?
  | _ => none

/-- Where a part of a struct or an array lies, and its size. -/
def partAt (P : Program) (t : TypeId) (i : Nat) : Option (Nat × Nat) :=
  match (ti P t).k with
  | .struct fs => (fs[i]?).map fun f => (f.1, (ti P f.2).size)
  | .array _ e => some (i * (ti P e).size, (ti P e).size)
  | _ => none

def evParts (P : Program) (t : TypeId) (zero : List AV) : List (Nat × AV) → Option (List AV)
  | [] => some zero
  | (i, v) :: r => (partAt P t i).bind fun o =>
    if v.cells.length = o.2 ∧ v.okv ∧ o.1 + v.cells.length ≤ zero.length then evParts P t (putCells zero o.1 v.cells) r else none

/-- A new block, or what nobody writes any more. -/
def evNew (m : Mode) (al : Option Nat) (H : Heap) (sz : Nat) (xs : List AV) : Option (AV × Heap) :=
  match m with
  | .imm => if flatL xs then some (.sl xs, H) else none
  | .heap => (newB al H (.arr sz xs)).map fun p => (.own p.1 xs.length, p.2)

def sized (n : Nat) (xs : List AV) : Bool := xs.all fun x => x.cells.length == n && x.okv

/-- May a value of the type be built of its parts? -/
def buildOk (P : Program) (t : TypeId) : Bool := (match (ti P t).k with
  | .struct fs => fs.all fun f => (P.info? f.2).isSome && (P.underlying f.2).isSome
  | .array _ e => (P.info? e).isSome && (P.underlying e).isSome
  | _ => false) && sized (ti P t).size [(ti P t).zero]

def small (P : Program) (e : TypeId) (n : Nat) : Bool := decide (n ≤ 4294967296) && decide ((ti P e).bytes ≤ 4096) && decide (0 < (ti P e).size)

def evAppend (P : Program) (m : Mode) (al : Option Nat) (H : Heap) (t u : TypeId) (s x : AV) : Option (AV × Heap) :=
  match (ti P t).k with
  | .slice e => match (ti P u).k with
    | .slice _ | .str => (elems H x).bind fun new =>
      if sized (ti P e).size new ∧ sized (ti P e).size [(ti P e).zero] then
        match s with
        | .zsl b => match new with
          | [] => some (.zsl b, H)
          | v :: r => if small P e (r.length + 1) then evNew m al H (ti P e).size (v :: r) else none
        | .own b n => (arrOf H b n).bind fun xs => if small P e (n + new.length) ∧ szOf H b = (ti P e).size then some (.own b (n + new.length), H.set b (.arr (szOf H b) (xs ++ new))) else none
        | _ => none
      else none
    | _ => none
  | _ => none

def evMake (P : Program) (al : Option Nat) (H : Heap) (t : TypeId) (l c : AV) : Option (AV × Heap) :=
  match (ti P t).k, l, c with
  | .slice e, .int .i64 l, .int .i64 c => if 0 ≤ l ∧ l ≤ c ∧ small P e c.toNat ∧ sized (ti P e).size [(ti P e).zero] then (newB al H (.arr (ti P e).size (List.replicate l.toNat (ti P e).zero))).map fun p => (.own p.1 l.toNat, p.2) else none
  | _, _, _ => none

def evLit (P : Program) (m : Mode) (al : Option Nat) (H : Heap) (t : TypeId) (n : Nat) (ps : List (Nat × AV)) : Option (AV × Heap) :=
  match (ti P t).k with
  | .slice e => if ps.map (·.1) = List.range n ∧ sized (ti P e).size (ps.map (·.2)) ∧ small P e n ∧ n * (ti P e).size ≤ 16777216 ∧ sized (ti P e).size [(ti P e).zero] then
      (match n with | 0 => some (.zsl false, H) | _ + 1 => evNew m al H (ti P e).size (ps.map (·.2))) else none
  | _ => none

def strOf : List AV → Option (List UInt8)
  | [] => some []
  | .int .u8 n :: r => (strOf r).map fun l => UInt8.ofNat n.toNat :: l
  | _ => none

def evConv (P : Program) (m : Mode) (al : Option Nat) (H : Heap) (s d : TypeId) (x : AV) : Option (AV × Heap) :=
  match (ti P s).k, (ti P d).k, x with
  | .str, .slice e, .str b => match (ti P e).k with
    | .int .u8 => if small P e b.size then evNew m al H 1 (b.data.toList.map byteAV) else none
    | _ => none
  | .int _, .int k, .int _ n => some (.int k (k.wrap n), H)
  | .str, .str, .str b => some (.str b, H)
  | .slice e, .str, x => match (ti P e).k with
    | .int .u8 => match x with
      | .str _ => none
      | x => (elems H x).bind fun l => (strOf l).map fun b => (.str ⟨b.toArray⟩, H)
    | _ => none
  | _, _, _ => none

def evAssert (P : Program) (t : TypeId) (ok : Bool) : AV → Option AV
  | .iface u v => match (ti P t).k with
    | .iface | .other => none
    | _ => if u = t then some (if ok then .tup [v, .bool true] else v) else if ok ∧ sized (ti P t).size [(ti P t).zero] then some (.tup [(ti P t).zero, .bool false]) else none
  | _ => none

/-- What the slot of an operation holds that was passed over. -/
def skip : AV := .tup []

def sameA : TK → AV → AV → Option Bool
  | .int _, .int k a, .int k' b => if k = k' then some (a == b) else none
  | .str, .str a, .str b => some (a == b)
  | _, _, _ => none

def findA (k : TK) (key : AV) : List (AV × AV × Nat) → Nat → Option (Option (Nat × AV))
  | [], _ => some none
  | e :: es, i => match sameA k key e.1 with
    | some true => some (some (i, e.2.1))
    | some false => findA k key es (i + 1)
    | none => none

def mapOf (H : Heap) (b : Nat) : Option (List (AV × AV × Nat) × Nat) :=
  match H[b]? with
  | some (.mapb es c) => some (es, c)
  | _ => none

def plainKey : TK → Bool
  | .int _ | .str => true
  | _ => false

def mapTy (P : Program) (t : TypeId) : Option (TypeId × TypeId) :=
  match (ti P t).k with
  | .map k e => if plainKey (ti P k).k then some (k, e) else none
  | _ => none

def entriesOf (H : Heap) : AV → Option (List (AV × AV × Nat))
  | .map b => (mapOf H b).map (·.1)
  | .nilm => some []
  | _ => none

def evLookup (P : Program) (H : Heap) (t : TypeId) (x i : AV) (ok : Bool) : Option AV :=
  (mapTy P t).bind fun ke => (entriesOf H x).bind fun es => (findA (ti P ke.1).k i es 0).bind fun r => match r with
    | some (_, v) => some (if ok then .tup [v, .bool true] else v)
    | none => if sized (ti P ke.2).size [(ti P ke.2).zero] then some (if ok then .tup [(ti P ke.2).zero, .bool false] else (ti P ke.2).zero) else none

def evPut (P : Program) (H : Heap) (t : TypeId) (m k x : AV) : Option Heap :=
  (mapTy P t).bind fun ke => match m with
    | .map b => (mapOf H b).bind fun ec => (findA (ti P ke.1).k k ec.1 0).map fun r => match r with
      | some (j, _) => H.set b (.mapb (ec.1.modify j fun e => (k, x, e.2.2)) ec.2)
      | none => H.set b (.mapb (ec.1 ++ [(k, x, ec.2)]) (ec.2 + 1))
    | _ => none

def evDel (P : Program) (H : Heap) (t : TypeId) (m k : AV) : Option Heap :=
  (mapTy P t).bind fun ke => match m with
    | .map b => (mapOf H b).bind fun ec => (findA (ti P ke.1).k k ec.1 0).map fun r => match r with
      | some (j, _) => H.set b (.mapb (ec.1.eraseIdx j) ec.2)
      | none => H.set b (.mapb ec.1 ec.2)
    | _ => none

def evCopy (P : Program) (H : Heap) (t : TypeId) (d s : AV) : Option (AV × Heap) :=
  match (ti P t).k, d with
  | .slice e, .own b n => (elems H s).bind fun new => (arrOf H b n).bind fun xs =>
    if sized (ti P e).size new ∧ new.length ≤ n ∧ szOf H b = (ti P e).size ∧ (ti P e).size ≠ 0 then some (.int .i64 new.length, H.set b (.arr (szOf H b) (new ++ xs.drop new.length))) else none
  | _, _ => none

/-- A cut to nothing that has room for nothing. -/
def evSlice0 (P : Program) (H : Heap) (t : TypeId) (x : AV) (lo hi : Option AV) (mx : AV) : Option AV :=
  match (ti P t).k, boundOf 0 lo, hi.bind nat?, nat? mx with
  | .slice e, some 0, some 0, some 0 => if (ti P e).size ≠ 0 then (match x with
    | .zsl n => some (.zsl n)
    | .sl (_ :: _) => some (.zsl false)
    | .own b n => (arrOf H b n).map fun _ => .zsl false
    | _ => none) else none
  | _, _, _, _ => none

def evNextM (H : Heap) : AV → Option AV
  | .mit b => (mapOf H b).bind fun ec => match ec.1 with
    | [] => some (.tup [.bool false])
    | _ => none
  | _ => none

def evNext (H : Heap) : AV → Option (AV × Heap)
  | .itr b => match H[b]? with
    | some (.siter s p) => if p < s.size then some (.tup [.bool true, .int .i64 p, .int .i32 (Utf8.decode s p).1], H.set b (.siter s (p + (Utf8.decode s p).2))) else some (.tup [.bool false], H)
    | _ => none
  | _ => none

def isConst : Operand → Bool
  | .const _ => true
  | _ => false

def evBuiltin (P : Program) (m : Mode) (al : Option Nat) (H : Heap) (b : Builtin) (ts : List TypeId) (xs : List AV) : Option (AV × Heap) :=
  match b, ts, xs with
  | .len, [t], [x] => match (ti P t).k, x with
    | .str, .str s => some (.int .i64 s.size, H)
    | .slice _, .sl xs => some (.int .i64 xs.length, H)
    | .slice _, .zsl _ => some (.int .i64 0, H)
    | .slice _, .own b n => (arrOf H b n).map fun _ => (.int .i64 n, H)
    | _, _ => none
  | .append, [t, u], [s, x] => evAppend P m al H t u s x
  | .copy, [t, _], [d, s] => evCopy P H t d s
  | .delete, [t, _], [x, k] => (evDel P H t x k).map fun H' => (skip, H')
  | .max, _, [.int k a, .int k' b] => if k = k' then some (.int k (if a < b then b else a), H) else none
  | .min, _, [.int k a, .int k' b] => if k = k' then some (.int k (if b < a then b else a), H) else none
  | _, _, _ => none

/-- An operation that is no call of a function, no store, no alloc. -/
def evOp (P : Program) (m : Mode) (al : Option Nat) (T : Slots) (H : Heap) : Op → Option (AV × Heap)
  | .move x | .assign x => some (ρ T x, H)
  | .pick c a b => match ρ T c with
    | .bool true => some (ρ T a, H)
    | .bool false => some (ρ T b, H)
    | _ => none
  | .box t x => if (ρ T x).cells.length = (ti P t).size ∧ (ti P t).size ≠ 0 ∧ (ρ T x).okv then
      (match m with
      | .imm => if (ρ T x).flat then some (.ptrI (ρ T x) 0, H) else none
      | .heap => (newB al H (.arr (ti P t).size [ρ T x])).map fun p => (.ptr p.1 1 0 0, p.2)) else none
  | .build t ps => if buildOk P t then (evParts P t (ti P t).zero.cells (ps.toList.map fun p => (p.1, ρ T p.2))).map fun cs => (.agg cs, H) else none
  | .buildSlice t n ps => evLit P m al H t n (ps.toList.map fun p => (p.1, ρ T p.2))
  | .load t a => (evLoad P H t (ρ T a)).map fun v => (v, H)
  | .nilCheck x => match ρ T x with
    | .ptr b n i o => (arrOf H b n).map fun _ => (.ptr b n i o, H)
    | .ptrI v o => some (.ptrI v o, H)
    | _ => none
  | .binOp op t x y _ => (evBin H (ti P t).k (isConst x || isConst y) op (ρ T x) (ρ T y)).map fun v => (v, H)
  | .unOp op _ x => (evUn op (ρ T x)).map fun v => (v, H)
  | .convert s d x => evConv P m al H s d (ρ T x)
  | .makeInterface t x => match (ti P t).k with
    | .iface | .other => none
    | _ => some (.iface t (ρ T x), H)
  | .makeFunc f a b => some (.fn f (a.toList.map (ρ T)) (b.toList.map (ρ T)), H)
  | .makeSlice t l c => evMake P al H t (ρ T l) (ρ T c)
  | .slice t x lo hi none => (evSlice P H t (ρ T x) (lo.map (ρ T)) (hi.map (ρ T))).map fun v => (v, H)
  | .slice t x lo hi (some mx) => (evSlice0 P H t (ρ T x) (lo.map (ρ T)) (hi.map (ρ T)) (ρ T mx)).map fun v => (v, H)
  | .makeMap _ none => (newB al H (.mapb [] 0)).map fun p => (.map p.1, p.2)
  | .makeMap t (some n) => match (ti P t).k, ρ T n with
    | .map _ _, .int _ _ => (newB al H (.mapb [] 0)).map fun p => (.map p.1, p.2)
    | _, _ => none
  | .lookup t x i ok => (evLookup P H t (ρ T x) (ρ T i) ok).map fun v => (v, H)
  | .mapUpdate t m k x | .insert t m k x => (evPut P H t (ρ T m) (ρ T k) (ρ T x)).map fun H' => (skip, H')
  | .fieldAddr s x f => (fieldOf P s f).bind fun p => if (ti P p.2).size = 0 then none else (evField H p.1 (ρ T x)).map fun v => (v, H)
  | .field s x f => (fieldOf P s f).bind fun p => match ρ T x with
    | .agg cs => (part (ti P p.2) cs p.1).map fun v => (v, H)
    | _ => none
  | .indexAddr t x i => (evIndexAddr P H t (ρ T x) (ρ T i)).map fun v => (v, H)
  | .index t x i => (evIndex P t (ρ T x) (ρ T i)).map fun v => (v, H)
  | .range t x => match (ti P t).k, ρ T x with
    | .str, .str s => (newB al H (.siter s 0)).map fun p => (.itr p.1, p.2)
    | .map _ _, .map b => (mapOf H b).bind fun ec => match ec.1 with
      | [] => some (.mit b, H)
      | _ => none
    | _, _ => none
  | .next it true => evNext H (ρ T it)
  | .next it false => (evNextM H (ρ T it)).map fun v => (v, H)
  | .typeAssert x _ t ok => (evAssert P t ok (ρ T x)).map fun v => (v, H)
  | .extract t i => match ρ T t with
    | .tup vs => (vs[i]?).map fun v => (v, H)
    | _ => none
  | .call c => match c.callee with
    | .builtin b => evBuiltin P m al H b c.argTypes.toList (c.args.toList.map (ρ T))
    | _ => none
  | _ => none

structure Ctx where
  call : FuncId → List AV → Heap → Option (AV × Heap)
  loop : FuncId → Code → St → Option (Ex × St)

/-- A call of a function that shares nothing with its caller. -/
def pcall (X : Ctx) (f : FuncId) (args : List AV) : Option AV :=
  (X.call f args []).bind fun r => frz r.2 (r.2.length + 8) r.1

/-- A call that shares nothing with its caller: by what is known of the function, or by running it. -/
def acall (C : Cfg) (X : Ctx) (f : FuncId) (args : List AV) : Option AV :=
  match C.ext f with
  | some g => g args
  | none => pcall X f args

def evCall (C : Cfg) (X : Ctx) (f : FuncId) (args : List AV) (H : Heap) : Option (AV × Heap) :=
  if C.shr f then X.call f args H
  else if flatL args then (acall C X f args).map fun v => (v, H)
  else if C.sol f then (frzL H (H.length + 16) args).bind fun fa => if flatL fa then (acall C X f fa).bind fun v => if v.solid then some (v, H) else none else none
  else X.call f args H

def target (T : Slots) (c : Call) : Option (FuncId × List AV) :=
  match c.callee with
  | .value f => match ρ T f with
    | .fn (.func g) a b => some (g, a ++ c.args.toList.map (ρ T) ++ b)
    | _ => none
  | _ => none

inductive OpK where
  | call (c : Call) | store (t : TypeId) (a x : Operand) | alloc (e : TypeId) | other

def opk : Op → OpK
  | .call c => match c.callee with
    | .builtin _ => .other
    | _ => .call c
  | .store t a x => .store t a x
  | .alloc e => .alloc e
  | _ => .other

def isFresh : AV → Bool
  | .fresh _ => true
  | _ => false

def chk (r : AV × Heap) : Option (AV × Heap) := if isFresh r.1 then none else some r

/-- The slot whose variable a store begins. -/
def freshAt (T : Slots) : Operand → Option (Tmp × Nat)
  | .tmp p => match T p with
    | .fresh n => some (p, n)
    | _ => none
  | _ => none

/-- Is it a variable that is written once? -/
def immAt (C : Cfg) (fid : FuncId) : Operand → Bool
  | .tmp p => decide (C.md fid p = .imm)
  | _ => false

/-- One operation, as a step of the state; in a region whose order is drawn a call may share nothing with its caller. -/
def evStep (C : Cfg) (X : Ctx) (fid : FuncId) (q : Bool) (al : Option Nat) (st : St) (o : Oper) : Option St :=
  match opk o.op with
  | .call c => (target st.T c).bind fun p => if q && (C.shr p.1 || !(flatL p.2 || C.sol p.1)) then none else ((evCall C X p.1 p.2 st.H).bind chk).map fun r => ⟨updO st.T o.dst r.1, r.2⟩
  | .store t a x => if q && (immAt C fid a != (freshAt st.T a).isSome) then none else match freshAt st.T a with
    | some (p, n) => if (ρ st.T x).okv ∧ (ρ st.T x).cells.length = (ti C.P t).size ∧ (ti C.P t).size = n ∧ n ≠ 0 ∧ (ρ st.T x).flat then some ⟨updO (upd st.T p (.ptrI (ρ st.T x) 0)) o.dst skip, st.H⟩ else none
    | none => (evStore C.P st.H t (ρ st.T x) (ρ st.T a)).map fun H => ⟨updO st.T o.dst skip, H⟩
  | .alloc e => match o.dst with
    | some d => if (ti C.P e).size ≠ 0 ∧ sized (ti C.P e).size [(ti C.P e).zero] then
        (match C.md fid d with
        | .imm => some ⟨upd st.T d (.fresh (ti C.P e).size), st.H⟩
        | .heap => (newB al st.H (.arr (ti C.P e).size [(ti C.P e).zero])).map fun p => ⟨upd st.T d (.ptr p.1 1 0 0), p.2⟩) else none
    | none => none
  | .other => ((evOp C.P (C.md fid (o.dst.getD 0)) al st.T st.H o.op).bind chk).map fun r => ⟨updO st.T o.dst r.1, r.2⟩

/-- Is the operation wanted? none: it can't be told. -/
def evWanted (ops : Array Oper) (T : Slots) (o : Oper) : Option Bool :=
  match o.guard with
  | none => some true
  | some (j, want) => match (ops[j]?).bind (·.dst) with
    | some t => match T t with
      | .bool b => some (b == want)
      | .tup _ => some false
      | _ => none
    | none => none

def evGo (C : Cfg) (X : Ctx) (fid : FuncId) (q : Bool) (al : Option Nat) (ops : Array Oper) (o : Oper) (st : St) : Option St :=
  match evWanted ops st.T o with
  | some true => evStep C X fid q al st o
  | some false => some ⟨updO st.T o.dst skip, st.H⟩
  | none => none

/-- A region whose order the text gives. -/
def evOps (C : Cfg) (X : Ctx) (fid : FuncId) (ops : Array Oper) : List Oper → St → Option St
  | [], st => some st
  | o :: r, st => (evGo C X fid false none ops o st).bind (evOps C X fid ops r)

/-- Where an operation of a region whose order is drawn makes memory. -/
def place (v : Bool) (base i : Nat) : Option Nat := if v then some (base + i) else none

/-- A region whose order is drawn, in the text's order. -/
def evDraw (C : Cfg) (X : Ctx) (fid : FuncId) (v : Bool) (base : Nat) (ops : Array Oper) : Nat → List Oper → St → Option St
  | _, [], st => some st
  | i, o :: r, st => (evGo C X fid true (place v base i) ops o st).bind (evDraw C X fid v base ops (i + 1) r)

def evC (C : Cfg) (X : Ctx) (fid : FuncId) : Code → St → Option (Ex × St)
  | .skip, st => some (.normal, st)
  | .label _, st => some (.normal, st)
  | .region id ops d, st => if d then (if C.dk fid id then (evDraw C X fid (C.vd fid id) st.H.length ops 0 ops.toList (if C.vd fid id then ⟨st.T, st.H ++ List.replicate ops.size .void⟩ else st)).map fun s => (.normal, s) else none) else (evOps C X fid ops ops.toList st).map fun s => (.normal, s)
  | .seq a b, st => match evC C X fid a st with
    | some (.normal, s) => evC C X fid b s
    | r => r
  | .cond c x y, st => match ρ st.T c with
    | .bool true => evC C X fid x st
    | .bool false => evC C X fid y st
    | _ => none
  | .block id c, st => match evC C X fid c st with
    | some (.exit j, s) => if j = id then some (.normal, s) else some (.exit j, s)
    | r => r
  | .loop c, st => X.loop fid c st
  | .exit id, st => some (.exit id, st)
  | .ret, st => some (.ret, st)
  | _, _ => none

/-- What a function hands back. -/
def evRes (P : Program) (st : St) : ResultVar → Option AV
  | .tmp t => some (st.T t)
  | .cell a t => evLoad P st.H t (st.T a)

def evResults (P : Program) (st : St) : List ResultVar → Option (List AV)
  | [] => some []
  | r :: l => (evRes P st r).bind fun v => (evResults P st l).map fun vs => v :: vs

def oneOf : List AV → AV
  | [v] => v
  | vs => .tup vs

def slots (args : List AV) : Slots := fun t => args.getD t .und

def evFn (C : Cfg) (X : Ctx) (f : FuncId) (args : List AV) (H : Heap) : Option (AV × Heap) :=
  if args.any isFresh then none else
  match C.P.funcs[f]? with
  | some fn => match fn.body with
    | some c => match evC C X f c ⟨slots args, H⟩ with
      | some (.ret, st) | some (.normal, st) => (evResults C.P st fn.results.toList).map fun vs => (oneOf vs, st.H)
      | _ => none
    | none => none
  | none => none

def evLoop (C : Cfg) (X : Ctx) (f : FuncId) (c : Code) (st : St) : Option (Ex × St) :=
  match evC C X f c st with
  | some (.normal, s) => X.loop f c s
  | r => r

/-- The evaluator at so many calls in one another, and rounds. -/
def ev (C : Cfg) : Nat → Ctx
  | 0 => ⟨fun _ _ _ => none, fun _ _ _ => none⟩
  | n + 1 => ⟨evFn C (ev C n), evLoop C (ev C n)⟩

end Go.Ev
