/- A part of the proofs over this seat. -/
import GoSem.Core.Program
import GoSem.Core.View
import GoSem.Core.Region
import GoSem.Dispatch
import GoSem.Machine.Frame
import Derived.Laws.Sem
namespace Go.Abs
/-! An evaluator of Go functions over values that are trees -/
inductive V where
  | bool (b : Bool)
  | int (k : IntKind) (n : Int)
  | str (s : ByteArray)
  | nilp
  | ptr (id i off : Nat)
  | ept (e : V) (off : Nat)
  | nils
  | rsl (row : List V)
  | emp
  | sl (id lo len : Nat)
  | hr (id len : Nat)
  | lr (rid len : Nat)
  | agg (cs : List V)
  | tup (vs : List V)
  | fn (f : FuncId) (first cap : List V)
  | nilf
  | ifc (t : TypeId) (v : V)
  | nili
  | map (id : Nat)
  | nilm
  | undef
  deriving Inhabited
inductive Slot where
  | v (x : V)
  | box (l : Nat)
  | ref (l off : Nat)
  deriving Inhabited
inductive Blk where
  | cells (es : List V)
  | row (ns : Bool) (es : List V)
  | map (es : List (V × V))
  | dead
  deriving Inhabited
abbrev Hp := List Blk
/-- A row that the frame may append to: has it still the right; did it begin as nil; what it holds. -/
structure LRow where
  own : Bool
  ns : Bool
  es : List V
  deriving Inhabited
structure St where
  s : List Slot
  b : List (List V)
  r : List LRow
inductive Ex where
  | normal | exit (id : Nat) | goto (l : Nat) | ret | panic (v : V)
inductive Out where
  | ret (v : V) (g : Bool)
  | panic (v : V)
abbrev R := Option (Ex × St × Hp)
abbrev Callee := FuncId → List V → Hp → Option (Out × Hp)

def okV : V → Bool
  | .undef => false
  | .tup _ => false
  | _ => true
def V.cells : V → List V
  | .agg cs => cs
  | v => [v]
def V.width (v : V) : Nat := v.cells.length
def rowV (ns : Bool) (es : List V) (len : Nat) : V := if ns && len == 0 then .nils else .rsl (es.take len)
def ofConst1 : Value → V
  | .bool b => .bool b
  | .int k n => .int k n
  | .string s => .str s
  | .pointer none => .nilp
  | .slice none 0 0 => .nils
  | .nilFunc => .nilf
  | .nilIface => .nili
  | .map none => .nilm
  | _ => .undef
def ofConst : Value → V
  | .agg cs => if cs.all Value.oneCell' then .agg (cs.toList.map ofConst1) else .undef
  | v => ofConst1 v
inductive Mode where
  | priv | imm | heap
structure Env where
  P : Program
  C : Callee
  kill : Nat → List Nat
  grow : Nat → List (Nat × Option Nat)
  mode : Nat → Mode
  gl : Nat → V

def rdS (st : St) : Operand → Slot
  | .tmp t => st.s.getD t (.v .undef)
  | .const v => .v (ofConst v)
  | .global _ => .v .undef
  | .func f => .v (.fn f [] [])
def sealV (st : St) : V → V
  | .lr rid len => match st.r[rid]? with | some q => rowV q.ns q.es len | none => .undef
  | v => v
def Slot.raw : Slot → V
  | .v x => x
  | _ => .undef
def rd (st : St) (o : Operand) : V := sealV st (rdS st o).raw
/-- A package variable, which nothing writes to. -/
def glSlot : V → Slot
  | .undef => .v .undef
  | x => .v (.ept x 0)
def rdG (E : Env) (st : St) : Operand → Slot
  | .global g => glSlot (E.gl g)
  | x => rdS st x
def modeD (E : Env) : Option Nat → Mode
  | some d => E.mode d
  | none => .priv
def putS (st : St) (d : Option Nat) (x : Slot) : St :=
  match d with
  | none => st
  | some d => { st with s := st.s.set d x }
/-- Is it a struct or an array? -/
def aggT (P : Program) (t : TypeId) : Option Bool :=
  match P.underlying t with
  | some (.struct _) | some (.array ..) => some true
  | some _ => some false
  | none => none
def sizeT (P : Program) (t : TypeId) : Nat := P.cellsOf t
def bytesT (P : Program) (t : TypeId) : Nat := P.bytesOf t
def zeroT (P : Program) (t : TypeId) : V := match (P.info? t).bind (·.zero) with | some v => ofConst v | none => .undef
def fieldT (P : Program) (t : TypeId) (f : Nat) : Option (Nat × TypeId) :=
  match P.underlying t with
  | some (.struct fs) => (fs[f]?).bind fun x => if P.cellsOf x.type = 0 then none else some (x.offset, x.type)
  | _ => none
inductive IxT where
  | arr (n : Nat) (e : TypeId) | sl (e : TypeId) | str | map (k e : TypeId) | other
def ixT (P : Program) (t : TypeId) : IxT :=
  match P.underlying t with
  | some (.array n e) => if P.cellsOf e = 0 then .other else .arr n e
  | some (.slice e) => if P.cellsOf e = 0 then .other else .sl e
  | some .string => .str
  | some (.map k e) => .map k e
  | _ => .other
inductive TK where
  | bool | int (k : IntKind) | str | ptr | slice (e : TypeId) | agg | iface | func | map | other
def tk (P : Program) (t : TypeId) : TK :=
  match P.underlying t with
  | some .bool => .bool
  | some (.int k) => .int k
  | some .string => .str
  | some (.pointer _) => .ptr
  | some (.slice e) => .slice e
  | some (.struct _) => .agg
  | some (.array ..) => .agg
  | some (.interface _) => .iface
  | some (.func ..) => .func
  | some (.map ..) => .map
  | _ => .other
/-- The plain cells of a struct, by which it is compared. -/
inductive LK where
  | b | i | s
def eqLeavesF (P : Program) (g : TypeId → Nat → Option (List (Nat × LK))) (sz off : Nat) : List Field → Option (List (Nat × LK))
  | [] => some []
  | f :: fs => if f.name = "_" ∨ sz ≤ f.offset ∨ sz < f.offset + sizeT P f.type then none else (g f.type (off + f.offset)).bind fun l => (eqLeavesF P g sz off fs).map (l ++ ·)
def eqLeaves (P : Program) : Nat → TypeId → Nat → Option (List (Nat × LK))
  | 0, _, _ => none
  | d + 1, t, off => match P.underlying t with
    | some .bool => some [(off, .b)]
    | some (.int _) => some [(off, .i)]
    | some .string => some [(off, .s)]
    | some (.struct fs) => if P.stoodInHeld t then none else eqLeavesF P (eqLeaves P d) (sizeT P t) off fs.toList
    | _ => none
def eqLay (P : Program) (t : TypeId) : Option (List (Nat × LK)) :=
  match P.underlying t with
  | some (.struct _) => if P.eqGuardType P.depth t then none else eqLeaves P 9 t 0
  | _ => none
def eqLf : LK → V → V → Option Bool
  | .i, .int k a, .int k' b => if k = k' then some (a == b) else none
  | .b, .bool a, .bool b => some (a == b)
  | .s, .str a, .str b => some (a == b)
  | _, _, _ => none
def eqCells (cs ds : List V) : List (Nat × LK) → Option Bool
  | [] => some true
  | (o, k) :: os => match cs[o]?, ds[o]? with
    | some a, some b => (eqLf k a b).bind fun x => (eqCells cs ds os).map fun y => x && y
    | _, _ => none
/-- Comparison of plain values -/
def eqV : V → V → Option Bool
  | .int k a, .int k' b => if k = k' then some (a == b) else none
  | .bool a, .bool b => some (a == b)
  | .str a, .str b => some (a == b)
  | _, _ => none
def binV (P : Program) (op : BinOp) (t : TypeId) (x y : V) : Option V :=
  match x, y with
  | .int k a, .int k' b =>
    match op with
    | .shl => if b < 0 then none else some (.int k (k.wrap (a * 2 ^ (min b.toNat k.bits))))
    | .shr => if b < 0 then none else some (.int k (a.fdiv (2 ^ (min b.toNat k.bits))))
    | op =>
      if k = k' then
        match op with
        | .add => some (.int k (k.wrap (a + b)))
        | .sub => some (.int k (k.wrap (a - b)))
        | .mul => some (.int k (k.wrap (a * b)))
        | .quo => if b = 0 then none else some (.int k (k.wrap (a.tdiv b)))
        | .rem => if b = 0 then none else some (.int k (a.tmod b))
        | .and => some (.int k (k.wrap (BitVec.ofInt k.bits a &&& BitVec.ofInt k.bits b).toNat))
        | .or => some (.int k (k.wrap (BitVec.ofInt k.bits a ||| BitVec.ofInt k.bits b).toNat))
        | .xor => some (.int k (k.wrap (BitVec.ofInt k.bits a ^^^ BitVec.ofInt k.bits b).toNat))
        | .andNot => some (.int k (k.wrap (BitVec.ofInt k.bits a &&& ~~~ (BitVec.ofInt k.bits b)).toNat))
        | .eql => some (.bool (a == b))
        | .neq => some (.bool (a != b))
        | .lss => some (.bool (decide (a < b)))
        | .leq => some (.bool (decide (a ≤ b)))
        | .gtr => some (.bool (decide (a > b)))
        | .geq => some (.bool (decide (a ≥ b)))
        | _ => none
      else none
  | .str a, .str b =>
    match op with
    | .add => if ((a.size + b.size : Nat) : Int) > IntKind.i64.max then none else some (.str (a ++ b))
    | .eql => some (.bool (a.toList == b.toList))
    | .neq => some (.bool !(a.toList == b.toList))
    | .lss => some (.bool (Op.bytesLess a.toList b.toList))
    | .leq => some (.bool (Op.bytesLess a.toList b.toList || a.toList == b.toList))
    | .gtr => some (.bool !(Op.bytesLess a.toList b.toList || a.toList == b.toList))
    | .geq => some (.bool !(Op.bytesLess a.toList b.toList))
    | _ => none
  | .agg cs, .agg ds =>
    match op with
    | .eql => (eqLay P t).bind fun ls => (eqCells cs ds ls).map .bool
    | .neq => (eqLay P t).bind fun ls => (eqCells cs ds ls).map fun b => .bool !b
    | _ => none
  | x, y =>
    match op, tk P t with
    | .eql, .bool => match x, y with | .bool a, .bool b => some (.bool (a == b)) | _, _ => none
    | .neq, .bool => match x, y with | .bool a, .bool b => some (.bool !(a == b)) | _, _ => none
    | .eql, .ptr => match x, y with
      | .nilp, .nilp => some (.bool true)
      | .ptr .., .nilp => some (.bool false)
      | .ept .., .nilp => some (.bool false)
      | _, _ => none
    | .neq, .ptr => match x, y with
      | .nilp, .nilp => some (.bool false)
      | .ptr .., .nilp => some (.bool true)
      | .ept .., .nilp => some (.bool true)
      | _, _ => none
    | .eql, .slice _ => match x, y with
      | .nils, .nils => some (.bool true)
      | .rsl _, .nils => some (.bool false)
      | .sl _ _ _, .nils => some (.bool false)
      | _, _ => none
    | .neq, .slice _ => match x, y with
      | .nils, .nils => some (.bool false)
      | .rsl _, .nils => some (.bool true)
      | .sl _ _ _, .nils => some (.bool true)
      | _, _ => none
    | .eql, .iface => match x, y with
      | .ifc _ _, .nili => some (.bool false)
      | _, _ => none
    | .neq, .iface => match x, y with
      | .ifc _ _, .nili => some (.bool true)
      | _, _ => none
    | .eql, .func => match x, y with
      | .fn _ _ _, .nilf => some (.bool false)
      | .nilf, .nilf => some (.bool true)
      | _, _ => none
    | .neq, .func => match x, y with
      | .fn _ _ _, .nilf => some (.bool true)
      | .nilf, .nilf => some (.bool false)
      | _, _ => none
    | _, _ => none
def pickV (c : Bool) (a b : Slot) : Slot := match c with | true => a | false => b
def loadCells (P : Program) (st : St) (t : TypeId) (cs : List V) (off : Nat) : Option Slot :=
  match aggT P t with
  | some true => if off + sizeT P t ≤ cs.length then some (.v (.agg (((cs.drop off).take (sizeT P t)).map (sealV st)))) else none
  | some false => (cs[off]?).map .v
  | none => none
/-- The cells behind an address, and the place among them. -/
def slotCells (st : St) (H : Hp) (a : Slot) : Option (List V × Nat) :=
  match a with
  | .box l => (st.b[l]?).map fun cs => (cs, 0)
  | .ref l o => (st.b[l]?).map fun cs => (cs, o)
  | .v (.ept e o) => some (e.cells, o)
  | .v (.ptr id i o) =>
    match H[id]? with
    | some (.cells es) => (es[i]?).map fun e => (e.cells, o)
    | _ => none
  | _ => none
def loadOp (P : Program) (st : St) (H : Hp) (t : TypeId) (a : Slot) : Option Slot :=
  (slotCells st H a).bind fun q => loadCells P st t q.1 q.2
/-- A row of the heap, seen as a slice -/
def viewV (H : Hp) : V → V
  | .hr id len => match H[id]? with | some (.row ns es) => rowV ns es len | _ => .undef
  | v => v
def indexAddrOp (P : Program) (st : St) (H : Hp) (t : TypeId) (x : Slot) (ix : V) : Option Slot :=
  match ix with
  | .int _ i =>
    match ixT P t with
    | .arr n e =>
      if 0 ≤ i ∧ i < n then
        match x with
        | .box l => some (.ref l (i.toNat * sizeT P e))
        | .ref l o => some (.ref l (o + i.toNat * sizeT P e))
        | .v (.ptr id j o) => some (.v (.ptr id j (o + i.toNat * sizeT P e)))
        | .v (.ept y o) => some (.v (.ept y (o + i.toNat * sizeT P e)))
        | _ => none
      else none
    | .sl e =>
      match viewV H (sealV st x.raw) with
      | .rsl row => if 0 ≤ i then (row[i.toNat]?).bind fun y => if y.width = sizeT P e then some (.v (.ept y 0)) else none else none
      | .sl id lo len =>
        if 0 ≤ i ∧ i < len then
          match H[id]? with
          | some (.cells es) => (es[lo + i.toNat]?).bind fun y => if y.width = sizeT P e then some (.v (.ptr id (lo + i.toNat) 0)) else none
          | _ => none
        else none
      | _ => none
    | _ => none
  | _ => none
def fieldAddrOp (P : Program) (t : TypeId) (x : Slot) (f : Nat) : Option Slot :=
  (fieldT P t f).bind fun q =>
    match x with
    | .box l => some (.ref l q.1)
    | .ref l o' => some (.ref l (o' + q.1))
    | .v (.ptr id j o') => some (.v (.ptr id j (o' + q.1)))
    | .v (.ept y o') => some (.v (.ept y (o' + q.1)))
    | _ => none
def nilCheckOp (x : Slot) : Option Slot :=
  match x with
  | .box l => some (.box l)
  | .ref l o => some (.ref l o)
  | .v (.ptr a b c) => some (.v (.ptr a b c))
  | .v (.ept a b) => some (.v (.ept a b))
  | .v (.fn a b c) => some (.v (.fn a b c))
  | .v (.ifc a b) => some (.v (.ifc a b))
  | _ => none
def lenOp (P : Program) (H : Hp) (t : TypeId) (x : V) : Option V :=
  match tk P t, x with
  | .slice _, .nils => some (.int .i64 0)
  | .slice _, .rsl row => some (.int .i64 row.length)
  | .slice _, .sl _ _ n => some (.int .i64 n)
  | .slice _, .hr _ n => some (.int .i64 n)
  | .str, .str s => some (.int .i64 s.size)
  | .map, .nilm => some (.int .i64 0)
  | .map, .map id => match H[id]? with | some (.map es) => some (.int .i64 es.length) | _ => none
  | _, _ => none
def partV (P : Program) (t : TypeId) (cs : List V) (off : Nat) : Option V :=
  match aggT P t with
  | some true => if off + sizeT P t ≤ cs.length then some (.agg ((cs.drop off).take (sizeT P t))) else none
  | some false => cs[off]?
  | none => none
def fieldOp (P : Program) (t : TypeId) (x : V) (f : Nat) : Option V :=
  match x with
  | .agg cs => (fieldT P t f).bind fun q => partV P q.2 cs q.1
  | _ => none
def indexOp (P : Program) (t : TypeId) (x ix : V) : Option V :=
  match ix with
  | .int _ i =>
    match x with
    | .str s => match ixT P t with
      | .str => match (if 0 ≤ i then s[i.toNat]? else none) with | some b => some (.int .u8 b.toNat) | none => none
      | _ => none
    | .agg cs => match ixT P t with
      | .arr n e => if 0 ≤ i ∧ i < n then partV P e cs (i.toNat * sizeT P e) else none
      | _ => none
    | _ => none
  | _ => none
/-- new cells over old ones, from a place on -/
def overlay (cs : List V) (off : Nat) (ns : List V) : List V := cs.take off ++ ns ++ cs.drop (off + ns.length)
def fillV (place : Nat → Option (Nat × Nat)) (cs : List V) : List (Nat × V) → Option (List V)
  | [] => some cs
  | (i, v) :: rest =>
    match place i with
    | none => none
    | some (off, size) => if !okV v || v.width ≠ size || off + v.width > cs.length then none else fillV place (overlay cs off v.cells) rest
/-- How a struct or an array lies: its zero's cells, where its parts lie. -/
inductive Lay where
  | st (places : List (Nat × Nat)) | ar (size : Nat)
def Lay.place : Lay → Nat → Option (Nat × Nat)
  | .st places, i => places[i]?
  | .ar size, i => some (i * size, size)
def layT (P : Program) (t : TypeId) : Option (List V × Lay) :=
  match P.info? t, P.underlying t with
  | some it, some (.array _ e) =>
    match it.zero, P.info? e with
    | some (.agg cs), some ie => if okV (ofConst (.agg cs)) then some ((ofConst (.agg cs)).cells, .ar ie.size) else none
    | _, _ => none
  | some it, some (.struct fields) =>
    match it.zero, fields.toList.mapM (fun f => (P.info? f.type).map fun i => (f.offset, i.size)) with
    | some (.agg cs), some places => if okV (ofConst (.agg cs)) then some ((ofConst (.agg cs)).cells, .st places) else none
    | _, _ => none
  | _, _ => none
def buildOp (P : Program) (t : TypeId) (parts : List (Nat × V)) : Option V :=
  (layT P t).bind fun q => (fillV q.2.place q.1 parts).map .agg
/-- The elements of a slice's literal -/
def lits (es : List V) (parts : List (Nat × V)) : List V := parts.foldl (fun es p => es.set p.1 p.2) es
def buildSliceV (P : Program) (e : TypeId) (len : Nat) (parts : List (Nat × V)) : Option (List V) :=
  if sizeT P e ≠ 0 ∧ len * sizeT P e ≤ 16777216 ∧ okV (zeroT P e) ∧ (zeroT P e).width = sizeT P e ∧ (parts.all fun p => p.1 < len && okV p.2 && p.2.width == sizeT P e) then some (lits (List.replicate len (zeroT P e)) parts) else none
def storeCell (cs : List V) (off : Nat) (x : V) (size : Nat) : Option (List V) :=
  if okV x ∧ x.width = size ∧ off + size ≤ cs.length then some (overlay cs off x.cells) else none
/-- An element with new cells at a place -/
def elemSet (e : V) (off : Nat) (y : V) (size : Nat) : Option V :=
  match e, y with
  | .agg cs, y => (storeCell cs off y size).map .agg
  | _, .agg _ => none
  | e, y => if okV y ∧ y.width = size ∧ off + size ≤ e.width then some y else none
def heapSet (H : Hp) (id i off : Nat) (y : V) (size : Nat) : Option Hp :=
  match H[id]? with
  | some (.cells es) => (es[i]?).bind fun e => (elemSet e off y size).map fun e' => H.set id (.cells (es.set i e'))
  | _ => none
/-- A row of the frame is made one of the heap: then it may be appended to from elsewhere. -/
def promote (st : St) (H : Hp) (x : V) : Option (V × St × Hp) :=
  match x with
  | .lr rid len =>
    match st.r[rid]? with
    | some q =>
      if q.own && len == q.es.length && !(q.ns && len == 0) then some (.hr H.length len, { st with r := st.r.set rid { q with own := false } }, H ++ [.row q.ns q.es])
      else some (rowV q.ns q.es len, st, H)
    | none => none
  | y => some (y, st, H)
def storeHeap (st : St) (H : Hp) (id i off : Nat) (x : V) (size : Nat) : Option (St × Hp) :=
  (promote st H x).bind fun q => (heapSet q.2.2 id i off q.1 size).map fun H' => (q.2.1, H')
def storeOp (P : Program) (st : St) (H : Hp) (t : TypeId) (a x : Slot) : Option (St × Hp) :=
  if sizeT P t = 0 then none else
  match a with
  | .box l => (st.b[l]?).bind fun cs => (storeCell cs 0 x.raw (sizeT P t)).map fun cs => ({ st with b := st.b.set l cs }, H)
  | .ref l o => (st.b[l]?).bind fun cs => (storeCell cs o x.raw (sizeT P t)).map fun cs => ({ st with b := st.b.set l cs }, H)
  | .v (.ptr id i o) => storeHeap st H id i o x.raw (sizeT P t)
  | _ => none
def frow (st : St) (d : Option Nat) (ns : Bool) (es : List V) : St :=
  { putS st d (.v (.lr st.r.length es.length)) with r := st.r ++ [⟨true, ns, es⟩] }
/-- What a slice of a block of the heap holds -/
def slCont (H : Hp) (id lo len : Nat) : Option (List V) :=
  match H[id]? with
  | some (.cells es) => if lo + len ≤ es.length then some ((es.drop lo).take len) else none
  | _ => none
/-- What is appended -/
def srcV (P : Program) (H : Hp) (tx : TypeId) (x : V) : Option (List V) :=
  match ixT P tx, viewV H x with
  | .sl _, .nils => some []
  | .sl _, .rsl row => some row
  | .sl _, .sl id lo len => slCont H id lo len
  | .str, .str s => some (s.data.toList.map fun b => .int .u8 b.toNat)
  | _, _ => none
def wideAll (es : List V) (n : Nat) : Bool := es.all fun y => y.width == n
/-- May a row of so many elements of a type be made? -/
def elemOk (P : Program) (e : TypeId) (n : Nat) : Bool :=
  P.cellsOf e != 0 && okV (zeroT P e) && (zeroT P e).width == sizeT P e && decide (n * P.bytesOf e ≤ 70368744177664) && decide (n ≤ 4611686018427387904)
/-- A slice of the heap that may be written to: made anew. -/
def newSl (P : Program) (st : St) (H : Hp) (d : Option Nat) (e : TypeId) (es : List V) : Option (St × Hp) :=
  if elemOk P e es.length then some (putS st d (.v (.sl H.length 0 es.length)), H ++ [.cells es]) else none
def appendSl (P : Program) (st : St) (H : Hp) (d : Option Nat) (e : TypeId) (id lo len : Nat) (xs es : List V) : Option (St × Hp) :=
  if !(wideAll es (sizeT P e)) || es.isEmpty || decide (es.length < lo + len) then none
  else if lo + len + xs.length ≤ es.length then some (putS st d (.v (.sl id lo (len + xs.length))), H.set id (.cells (overlay es (lo + len) xs)))
  else if lo == 0 && elemOk P e (len + xs.length) then some (putS st d (.v (.sl H.length 0 (len + xs.length))), H.set id .dead ++ [.cells (es.take len ++ xs)])
  else none
def appendOp (P : Program) (m : Mode) (st : St) (H : Hp) (d : Option Nat) (e : TypeId) (x : V) (xs : List V) : Option (St × Hp) :=
  if !(wideAll xs (sizeT P e)) then none else
  match x with
  | .nils => match m with
    | .heap => if xs.isEmpty then some (putS st d (.v .nils), H) else newSl P st H d e xs
    | _ => if elemOk P e xs.length then some (frow st d true xs, H) else none
  | .sl id lo len => match H[id]? with
    | some (.cells es) => appendSl P st H d e id lo len xs es
    | _ => none
  | .lr rid len =>
    match st.r[rid]? with
    | some q => match m with
     | .heap => if q.own && q.es.isEmpty && len == 0 then (if xs.isEmpty then some (putS st d (.v (rowV q.ns [] 0)), H) else newSl P st H d e xs) else none
     | _ =>
      if q.own && len == q.es.length && elemOk P e (len + xs.length) && wideAll q.es (sizeT P e) then
        some ({ putS st d (.v (.lr rid (len + xs.length))) with r := st.r.set rid { q with es := q.es ++ xs } }, H)
      else none
    | none => none
  | .hr id len =>
    match H[id]? with
    | some (.row ns es) =>
      if len == es.length && elemOk P e (len + xs.length) && wideAll es (sizeT P e) then some (putS st d (.v (.hr id (len + xs.length))), H.set id (.row ns (es ++ xs))) else none
    | _ => none
  | .emp => match m with
    | .heap => if xs.isEmpty then some (putS st d (.v (.rsl [])), H) else newSl P st H d e xs
    | .imm => if xs.isEmpty then some (putS st d (.v .emp), H) else newSl P st H d e xs
    | .priv => none
  | _ => none
/-- A slice's literal that nothing writes to: the empty one has no room. -/
def immV : List V → V
  | [] => .emp
  | l => .rsl l
/-- The bounds of a slice -/
def boundV (o : Option V) (dflt : Nat) : Option Nat := match o with | none => some dflt | some (.int _ i) => if 0 ≤ i then some i.toNat else none | _ => none
def sliceOp (P : Program) (st : St) (H : Hp) (t : TypeId) (x : V) (lo hi mx : Option V) : Option V :=
  match mx with
  | some m =>
    match ixT P t, viewV H (sealV st x), hi with
    | .sl _, .sl id o _, some hv => (boundV (some m) 0).bind fun mm => (boundV (some hv) 0).bind fun h => (boundV lo 0).bind fun l => match H[id]? with
      | some (.cells es) => if l ≤ h ∧ h ≤ mm ∧ o + mm ≤ es.length then some .undef else none
      | _ => none
    | _, _, _ => none
  | none =>
    match ixT P t, viewV H (sealV st x) with
    | .str, .str s => (boundV hi s.size).bind fun h => (boundV lo 0).bind fun l => if l ≤ h ∧ h ≤ s.size then some (.str (s.extract l h)) else none
    | .sl e, .sl id o n => (boundV hi n).bind fun h => (boundV lo 0).bind fun l => match H[id]? with
      | some (.cells es) => if l ≤ h ∧ o + h ≤ es.length ∧ wideAll es (sizeT P e) then some (if l = 0 then .sl id o h else if l = h then .rsl [] else .sl id (o + l) (h - l)) else none
      | _ => none
    | .sl _, .nils => (boundV hi 0).bind fun h => (boundV lo 0).bind fun l => if l = 0 ∧ h = 0 then some .nils else none
    | .sl e, .rsl row => (boundV hi row.length).bind fun h => (boundV lo 0).bind fun l => if l ≤ h ∧ h ≤ row.length ∧ wideAll row (sizeT P e) then some (.rsl ((row.take h).drop l)) else none
    | _, _ => none
def callOut (st : St) (d : Option Nat) (v : V) (g : Bool) : St :=
  match g, v with
  | true, .rsl row => frow st d false row
  | _, v => putS st d (.v v)
def minV (x y : V) : Option V := match x, y with | .int k a, .int k' b => if k = k' then some (.int k (if b < a then b else a)) else none | _, _ => none
def maxV (x y : V) : Option V := match x, y with | .int k a, .int k' b => if k = k' then some (.int k (if b > a then b else a)) else none | _, _ => none
/-- The method behind an interface value: its function (a receiver of the type itself). -/
def methodT (P : Program) (t : TypeId) (name : String) : Option FuncId :=
  match (P.info? t).bind fun i => i.methods.find? (·.name == name) with
  | some m => if m.path.isEmpty then match m.func with
      | some (f, p) => match P.underlying t, p with
        | some (.pointer _), true => some f
        | some (.pointer _), false => none
        | some _, false => some f
        | _, _ => none
      | none => none
    else none
  | none => none
/-- A row that was written to is written to no more. -/
def sealH (m : Mode) (v : V) (H : Hp) : V × Hp :=
  match m, v with
  | .imm, .sl id 0 n => match H[id]? with
    | some (.cells es) => if es.length = n then (.rsl es, H.set id .dead) else (v, H)
    | _ => (v, H)
  | _, _ => (v, H)
def after (m : Mode) (st : St) (d : Option Nat) (r : Option (Out × Hp)) : R :=
  match r with
  | some (.ret v true, H') => some (.normal, callOut st d v true, H')
  | some (.ret v false, H') => some (.normal, putS st d (.v (sealH m v H').1), (sealH m v H').2)
  | some (.panic v, H') => some (.panic v, st, H')
  | none => none
def callable (P : Program) (f : FuncId) : Bool := (P.funcs[f]?).any fun fn => fn.body.isSome && fn.name != "runtime.NumGoroutine"
def keyOk : V → Bool
  | .int .. => true
  | .str _ => true
  | _ => false
def findK (k : V) : List (V × V) → Nat → Option (Option Nat)
  | [], _ => some none
  | e :: es, i => match eqV k e.1 with
    | some true => some (some i)
    | some false => findK k es (i + 1)
    | none => none
/-- Is it a key that a map of such keys takes? -/
def keyT (P : Program) (t : TypeId) (k : V) : Bool :=
  match tk P t, k with
  | .int _, .int .. => true
  | .str, .str _ => true
  | _, _ => false
def deleteOp (P : Program) (H : Hp) (t : TypeId) (m k : V) : Option Hp :=
  match ixT P t with
  | .map kt _ =>
    if keyT P kt k then
      match m with
      | .map id => match H[id]? with
        | some (.map es) => match findK k es 0 with
          | some (some i) => some (H.set id (.map (es.eraseIdx i)))
          | some none => some H
          | none => none
        | _ => none
      | .nilm => some H
      | _ => none
    else none
  | _ => none
/-- The built-in clear over a slice -/
def clearOp (P : Program) (H : Hp) (t : TypeId) (x : V) : Option Hp :=
  match ixT P t with
  | .sl e =>
    match x with
    | .nils => some H
    | .sl id lo len => match H[id]? with
      | some (.cells es) => if lo + len ≤ es.length ∧ wideAll es (sizeT P e) = true ∧ elemOk P e len = true then some (H.set id (.cells (overlay es lo (List.replicate len (zeroT P e))))) else none
      | _ => none
    | _ => none
  | _ => none
def callOp (E : Env) (o : Oper) (c : Call) (st : St) (H : Hp) : R :=
  match c.callee with
  | .builtin b =>
    match b with
    | .len =>
      match c.args.toList, c.argTypes.toList with
      | [x], [t] => (lenOp E.P H t (rd st x)).bind fun x => some (.normal, putS st o.dst (.v x), H)
      | _, _ => none
    | .append =>
      match c.args.toList, c.argTypes.toList with
      | [s, x], [t, tx] =>
        match ixT E.P t with
        | .sl e =>
          (srcV E.P H tx (rd st x)).bind fun xs =>
          (appendOp E.P (modeD E o.dst) st H o.dst e (rdS st s).raw xs).bind fun q => some (.normal, q.1, q.2)
        | _ => none
      | _, _ => none
    | .delete => match c.args.toList, c.argTypes.toList with
      | [m, k], [t, _] => (deleteOp E.P H t (rd st m) (rd st k)).bind fun H => some (.normal, putS st o.dst (.v (.tup [])), H)
      | _, _ => none
    | .clear => match c.args.toList, c.argTypes.toList with
      | [m], [t] => (clearOp E.P H t (rd st m)).bind fun H => some (.normal, putS st o.dst (.v (.tup [])), H)
      | _, _ => none
    | .min => match c.args.toList with
      | [x, y] => (minV (rd st x) (rd st y)).bind fun x => some (.normal, putS st o.dst (.v x), H)
      | _ => none
    | .max => match c.args.toList with
      | [x, y] => (maxV (rd st x) (rd st y)).bind fun x => some (.normal, putS st o.dst (.v x), H)
      | _ => none
    | _ => none
  | .value f =>
    match rd st f with
    | .fn f first cap => if callable E.P f then after (modeD E o.dst) st o.dst (E.C f (first ++ c.args.toList.map (rd st) ++ cap) H) else none
    | _ => none
  | .invoke recv name =>
    match rd st recv with
    | .ifc t v => match methodT E.P t name with
      | some f => if callable E.P f then after (modeD E o.dst) st o.dst (E.C f (v :: c.args.toList.map (rd st)) H) else none
      | none => none
    | _ => none
def okRes (ok : Bool) (v : V) (b : Bool) : V := if ok then .tup [v, .bool b] else v
def lookupOp (P : Program) (H : Hp) (t : TypeId) (x ix : V) (ok : Bool) : Option V :=
  match ixT P t with
  | .map kt e =>
    if keyT P kt ix && okV (zeroT P e) then
      match x with
      | .nilm => some (okRes ok (zeroT P e) false)
      | .map id => match H[id]? with
        | some (.map es) => match findK ix es 0 with
          | some (some i) => some (okRes ok (es.getD i (.undef, .undef)).2 true)
          | some none => some (okRes ok (zeroT P e) false)
          | none => none
        | _ => none
      | _ => none
    else none
  | _ => none
def mapUpdateOp (P : Program) (H : Hp) (t : TypeId) (m k x : V) : Option Hp :=
  match ixT P t with
  | .map kt _ =>
    if keyT P kt k then
      match m with
      | .map id => match H[id]? with
        | some (.map es) => match findK k es 0 with
          | some (some i) => some (H.set id (.map (es.set i (k, x))))
          | some none => some (H.set id (.map (es ++ [(k, x)])))
          | none => none
        | _ => none
      | _ => none
    else none
  | _ => none
def byteV (b : UInt8) : V := .int .u8 b.toNat
def bytesV (s : ByteArray) : List V := s.data.toList.map byteV
def byteOf : V → Option UInt8
  | .int .u8 n => some (UInt8.ofNat n.toNat)
  | _ => none
def bytesOf : List V → Option (List UInt8)
  | [] => some []
  | v :: vs => (byteOf v).bind fun b => (bytesOf vs).map (b :: ·)
def strOf (row : List V) : Option ByteArray := (bytesOf row).map fun l => ⟨l.toArray⟩
/-- What a value of a slice holds -/
def contV (H : Hp) (x : V) : Option (List V) :=
  match viewV H x with
  | .nils => some []
  | .rsl row => some row
  | .sl id lo len => slCont H id lo len
  | _ => none
def convertOp (P : Program) (m : Mode) (st : St) (H : Hp) (d : Option Nat) (src dst : TypeId) (x : V) : Option (St × Hp) :=
  match tk P dst with
  | .int k => match tk P src, x with | .int _, .int _ n => some (putS st d (.v (.int k (k.wrap n))), H) | _, _ => none
  | .str => match tk P src with
    | .str => match x with | .str s => some (putS st d (.v (.str s)), H) | _ => none
    | .slice e => match tk P e with
      | .int .u8 => (contV H x).bind fun row => (strOf row).map fun s => (putS st d (.v (.str s)), H)
      | _ => none
    | _ => none
  | .slice e => match tk P e with
    | .int .u8 => match tk P src, x with
      | .str, .str s => match m with
        | .heap => some (putS st d (.v (.sl H.length 0 s.size)), H ++ [.cells (bytesV s)])
        | _ => some (putS st d (.v (.rsl (bytesV s))), H)
      | .slice _, .sl id 0 n => match H[id]? with
        | some (.cells _) => if src == dst then some (putS st d (.v (.sl id 0 n)), H) else none
        | _ => none
      | _, _ => none
    | _ => none
  | _ => none
def allocV (E : Env) (o : Oper) (st : St) (H : Hp) (x : V) : R :=
  match o.dst with
  | some d =>
    match E.mode d with
    | .priv => some (.normal, { putS st o.dst (.box st.b.length) with b := st.b ++ [x.cells] }, H)
    | .imm => some (.normal, putS st o.dst (.v (.ept x 0)), H)
    | .heap => some (.normal, putS st o.dst (.v (.ptr H.length 0 0)), H ++ [.cells [x]])
  | none => none
def noDst (o : Oper) (r : R) : R := match o.dst with | none => r | some _ => none
def resV (st : St) (d : Option Nat) (H : Hp) (x : Option V) : R := match x with | some x => some (.normal, putS st d (.v x), H) | none => none
def resS (st : St) (d : Option Nat) (H : Hp) (x : Option Slot) : R := match x with | some x => some (.normal, putS st d x, H) | none => none
def evOp (E : Env) (o : Oper) (st : St) (H : Hp) : R :=
  match o.op with
  | .move x | .assign x => some (.normal, putS st o.dst (rdS st x), H)
  | .pick c a b => match rd st c with
    | .bool c => some (.normal, putS st o.dst (pickV c (rdS st a) (rdS st b)), H)
    | _ => none
  | .alloc t => if okV (zeroT E.P t) ∧ (zeroT E.P t).width = sizeT E.P t then allocV E o st H (zeroT E.P t) else none
  | .box t x => if okV (rd st x) ∧ (rd st x).width = sizeT E.P t then allocV E o st H (rd st x) else none
  | .build t parts => resV st o.dst H (buildOp E.P t (parts.toList.map fun p => (p.1, rd st p.2)))
  | .buildSlice t len parts => match ixT E.P t with
    | .sl e => match buildSliceV E.P e len (parts.toList.map fun p => (p.1, rd st p.2)) with
      | some es => match modeD E o.dst with
        | .heap => some (.normal, putS st o.dst (.v (.sl H.length 0 es.length)), H ++ [.cells es])
        | .imm => some (.normal, putS st o.dst (.v (immV es)), H)
        | .priv => some (.normal, frow st o.dst false es, H)
      | none => none
    | _ => none
  | .load t a => resS st o.dst H (loadOp E.P st H t (rdG E st a))
  | .store t a x => noDst o (match storeOp E.P st H t (rdS st a) (rdS st x) with | some (st, H) => some (.normal, st, H) | none => none)
  | .nilCheck x => resS st o.dst H (nilCheckOp (rdS st x))
  | .fieldAddr t x f => resS st o.dst H (fieldAddrOp E.P t (rdG E st x) f)
  | .indexAddr t x ix => resS st o.dst H (indexAddrOp E.P st H t (rdG E st x) (rd st ix))
  | .field t x f => resV st o.dst H (fieldOp E.P t (rd st x) f)
  | .index t x ix => resV st o.dst H (indexOp E.P t (rd st x) (rd st ix))
  | .slice t x lo hi mx => resV st o.dst H (sliceOp E.P st H t (rdS st x).raw (lo.map (rd st)) (hi.map (rd st)) (mx.map (rd st)))
  | .binOp op t x y _ => resV st o.dst H (binV E.P op t (rd st x) (rd st y))
  | .unOp op _ x => resV st o.dst H (match op, rd st x with
    | .not, .bool b => some (.bool !b)
    | .neg, .int k n => some (.int k (k.wrap (0 - n)))
    | _, _ => none)
  | .convert src dst x => match convertOp E.P (modeD E o.dst) st H o.dst src dst (rd st x) with | some q => some (.normal, q.1, q.2) | none => none
  | .makeInterface t x => resV st o.dst H (match tk E.P t with | .iface => none | .other => none | _ => some (.ifc t (rd st x)))
  | .makeFunc (.func f) first cap => resV st o.dst H (some (.fn f (first.toList.map (rd st)) (cap.toList.map (rd st))))
  | .makeMap _ none => some (.normal, putS st o.dst (.v (.map H.length)), H ++ [.map []])
  | .makeSlice t l c => match ixT E.P t, rd st l, rd st c with
    | .sl e, .int .i64 n, .int .i64 m =>
      if n = m ∧ 0 ≤ n ∧ n ≤ 16777216 ∧ okV (zeroT E.P e) ∧ (zeroT E.P e).width = sizeT E.P e ∧ E.P.bytesOf e ≤ 4096 then
        some (.normal, putS st o.dst (.v (.sl H.length 0 n.toNat)), H ++ [.cells (List.replicate n.toNat (zeroT E.P e))])
      else none
    | _, _, _ => none
  | .extract x i => match rd st x with
    | .tup vs => match vs[i]? with
      | some v => some (.normal, putS st o.dst (.v (sealH (modeD E o.dst) v H).1), (sealH (modeD E o.dst) v H).2)
      | none => none
    | _ => none
  | .lookup t x ix ok => resV st o.dst H (lookupOp E.P H t (rd st x) (rd st ix) ok)
  | .mapUpdate t m k x | .insert t m k x => noDst o (match mapUpdateOp E.P H t (rd st m) (rd st k) (rd st x) with | some H => some (.normal, st, H) | none => none)
  | .call c => callOp E o c st H
  | .panic x => match rd st x with | .ifc t v => some (.panic (.ifc t v), st, H) | _ => none
  | _ => none
def guardS (ops : List Oper) (st : St) (o : Oper) : Option Bool :=
  match o.guard with
  | none => some true
  | some (j, want) =>
    match (ops[j]?).bind (·.dst) with
    | some d => match st.s.getD d (.v .undef) with
      | .v (.bool b) => some (b == want)
      | .v (.tup []) => some false
      | _ => none
    | none => none
def evOps (E : Env) (ops : List Oper) : List Oper → St → Hp → R
  | [], st, H => some (.normal, st, H)
  | o :: rest, st, H =>
    match guardS ops st o with
    | some true => match evOp E o st H with
      | some (.normal, st, H) => evOps E ops rest st H
      | r => r
    | some false => evOps E ops rest (putS st o.dst (.v (.tup []))) H
    | none => none
def firstReg : Code → Nat
  | .region id _ _ => id
  | .seq a _ => firstReg a
  | .block _ c => firstReg c
  | .loop c => firstReg c
  | .scope c => firstReg c
  | _ => 0
def killS (l : List Nat) (s : List Slot) : List Slot := l.foldl (fun s i => s.set i (.v .undef)) s
def clipV (nr : Nat) : V → V
  | .lr rid len => if rid < nr then .lr rid len else .undef
  | v => v
def clip (nb nr : Nat) : Slot → Slot
  | .v x => .v (clipV nr x)
  | .box l => if l < nb then .box l else .v .undef
  | .ref l o => if l < nb then .ref l o else .v .undef
def norm (l : List Nat) (nb nr : Nat) (st : St) : St :=
  { s := (killS l st.s).map (clip nb nr), b := (st.b.take nb).map (·.map (clipV nr)), r := st.r.take nr }
/-- A slice that begins as nil, made a row that may grow. -/
def growOne (st : St) (p : Nat × Option Nat) : St :=
  match p with
  | (s, none) => match st.s.getD s (.v .undef) with
    | .v .nils => { st with s := st.s.set s (.v (.lr st.r.length 0)), r := st.r ++ [⟨true, true, []⟩] }
    | _ => st
  | (s, some o) => match st.s.getD s (.v .undef) with
    | .box l => match (st.b.getD l [])[o]? with
      | some .nils => { st with b := st.b.set l ((st.b.getD l []).set o (.lr st.r.length 0)), r := st.r ++ [⟨true, true, []⟩] }
      | _ => st
    | _ => st
def growAll (l : List (Nat × Option Nat)) (st : St) : St := l.foldl growOne st
def loopN (f : St → Hp → R) (nm : St → St) : Nat → St → Hp → R
  | 0, _, _ => none
  | n + 1, st, H => match f (nm st) H with
    | some (.normal, st, H) => loopN f nm n st H
    | r => r
open Classical in
noncomputable def loopW (f : St → Hp → R) (nm : St → St) (st : St) (H : Hp) : R :=
  if h : ∃ r n, loopN f nm n st H = some r then some h.choose else none
open Classical in
/-- A region that draws its order: all the orders that its edges allow must come to the same. -/
noncomputable def evDraw (E : Env) (ops : List Oper) (st : St) (H : Hp) : R :=
  if ∀ t, evOps E ops ((Region.schedule true ops.toArray t).filterMap (ops[·]?)) st H = evOps E ops ops st H then evOps E ops ops st H else none
/-- What a scope does with a goto: it goes on behind the label, once. -/
def gotoK (f : Option (St → Hp → R)) (st : St) (H : Hp) : R :=
  match f with
  | some g => match g st H with
    | some (.goto _, _, _) => none
    | r => r
  | none => none
mutual
noncomputable def evCode (E : Env) : Code → St → Hp → R
  | .skip, st, H => some (.normal, st, H)
  | .label _, st, H => some (.normal, st, H)
  | .region _ ops false, st, H => evOps E ops.toList ops.toList st H
  | .region _ ops true, st, H => evDraw E ops.toList st H
  | .seq a b, st, H => match evCode E a st H with
    | some (.normal, st, H) => evCode E b st H
    | r => r
  | .cond c x y, st, H => match rd st c with
    | .bool true => evCode E x st H
    | .bool false => evCode E y st H
    | _ => none
  | .block id c, st, H => match evCode E c st H with
    | some (.exit id', st, H) => if id' = id then some (.normal, st, H) else some (.exit id', st, H)
    | r => r
  | .loop c, st, H =>
    let st := growAll (E.grow (firstReg c)) st
    loopW (evCode E c) (norm (E.kill (firstReg c)) st.b.length st.r.length) st H
  | .exit id, st, H => some (.exit id, st, H)
  | .goto l, st, H => some (.goto l, st, H)
  | .ret, st, H => some (.ret, st, H)
  | .scope c, st, H => match evCode E c st H with
    | some (.goto l, st, H) => gotoK (evLab E c l) st H
    | r => r
  | _, _, _ => none
/-- What stands behind a label -/
noncomputable def evLab (E : Env) : Code → Nat → Option (St → Hp → R)
  | .seq a b, l => match evLab E a l with
    | some f => some fun st H => match f st H with
      | some (.normal, st, H) => evCode E b st H
      | r => r
    | none => evLab E b l
  | .label l', l => if l' == l then some fun st H => some (.normal, st, H) else none
  | _, _ => none
end
def resOne (P : Program) (st : St) (H : Hp) : ResultVar → Option V
  | .tmp t => some (rd st (.tmp t))
  | .cell a t => (loadOp P st H t (st.s.getD a (.v .undef))).map fun x => sealV st x.raw
def resAll (P : Program) (st : St) (H : Hp) : List ResultVar → Option (List V)
  | [] => some []
  | x :: xs => (resOne P st H x).bind fun v => (resAll P st H xs).map (v :: ·)
/-- May the row be appended to by who called? -/
def resGrow (st : St) : List ResultVar → Bool
  | [.tmp t] => match st.s.getD t (.v .undef) with
    | .v (.lr rid len) => match st.r[rid]? with | some q => q.own && len == q.es.length && !(q.ns && len == 0) | none => false
    | _ => false
  | _ => false
def outOf (P : Program) (fn : Func) (st : St) (H : Hp) : Option Out :=
  (resAll P st H fn.results.toList).map fun vs => match vs with | [v] => .ret v (resGrow st fn.results.toList) | vs => .ret (.tup vs) false
def enterSt (fn : Func) (args : List V) : St := { s := args.map .v ++ List.replicate (fn.ntmps - args.length) (.v .undef), b := [], r := [] }
structure Notes where
  kill : FuncId → Nat → List Nat
  grow : FuncId → Nat → List (Nat × Option Nat)
  mode : FuncId → Nat → Mode
  gl : Nat → V := fun _ => .undef
  pure : FuncId → Bool := fun _ => false
/-! Values that tell of no memory that is written to -/
mutual
def noHeap : V → Bool
  | .ptr _ _ _ => false
  | .sl _ _ _ => false
  | .hr _ _ => false
  | .lr _ _ => false
  | .map _ => false
  | .ept e _ => noHeap e
  | .rsl r => noHeapL r
  | .agg r => noHeapL r
  | .tup r => noHeapL r
  | .fn _ a b => noHeapL a && noHeapL b
  | .ifc _ v => noHeap v
  | _ => true
def noHeapL : List V → Bool
  | [] => true
  | v :: vs => noHeap v && noHeapL vs
end
def noHeapO : Out → Bool
  | .ret v _ => noHeap v
  | .panic v => noHeap v
/-- A function that is marked as pure, called with such values, is evaluated without the caller's heap; what it leaves there is forgotten. -/
def wrapC (p : FuncId → Bool) (C : Callee) : Callee := fun f args H =>
  match p f && noHeapL args with
  | true => match C f args [] with
    | some (out, _) => match noHeapO out with
      | true => some (out, H)
      | false => none
    | none => none
  | false => C f args H
noncomputable def evBody (P : Program) (A : Notes) (C : Callee) : Callee := fun f args H =>
  match P.funcs[f]? with
  | some fn => match fn.body with
    | some c =>
      match evCode { P, C, kill := A.kill f, grow := A.grow f, mode := A.mode f, gl := A.gl } c (enterSt fn args) H with
      | some (.normal, st, H) | some (.ret, st, H) => (outOf P fn st H).map fun x => (x, H)
      | some (.panic v, _, H) => some (.panic v, H)
      | _ => none
    | none => none
  | none => none
noncomputable def evFun (P : Program) (A : Notes) (C : Callee) : Callee := wrapC A.pure (evBody P A C)
noncomputable def ev (P : Program) (A : Notes) : Nat → Callee
  | 0 => fun _ _ _ => none
  | n + 1 => evFun P A (ev P A n)
theorem evLab_eq (E : Env) : ∀ (c : Code) (l : Nat), evLab E c l = (findLabel c l).map (evCode E) := by
  intro c
  induction c with
  | seq a b iha ihb =>
    intro l
    simp only [evLab, findLabel, iha l, ihb l]
    cases findLabel a l with
    | none => rfl
    | some r =>
      simp only [Option.map_some]
      congr 1
      try (funext st H; simp only [evCode])
  | label l' =>
    intro l
    simp only [evLab, findLabel]
    split
    · simp only [Option.map_some]
      congr 1
    · rfl
  | _ => intro l; rfl
theorem evCode_scope (E : Env) (c : Code) (st : St) (H : Hp) : evCode E (.scope c) st H = match evCode E c st H with
    | some (.goto l, st, H) => gotoK ((findLabel c l).map (evCode E)) st H
    | r => r := by
  simp only [evCode, evLab_eq]
/-- Codes one by one; a scope with all that stands behind its labels -/
theorem codeInd {P : Code → Prop} (skip : P .skip) (label : ∀ l, P (.label l)) (region : ∀ id ops draw, P (.region id ops draw)) (seq : ∀ x y, P x → P y → P (.seq x y)) (cond : ∀ c x y, P x → P y → P (.cond c x y))
    (block : ∀ id c, P c → P (.block id c)) (loop : ∀ c, P c → P (.loop c)) (rangeFunc : ∀ f ps as c, P as → P c → P (.rangeFunc f ps as c)) (exit : ∀ id, P (.exit id))
    (scope : ∀ c, P c → (∀ l r, findLabel c l = some r → P r) → P (.scope c)) (goto : ∀ l, P (.goto l)) (ret : P .ret) (refuse : ∀ why, P (.refuse why)) : ∀ c, P c := by
  have key : ∀ c : Code, P c ∧ ∀ l r, findLabel c l = some r → P r := by
    intro c
    induction c with
    | skip => exact ⟨skip, fun l r h => by cases h⟩
    | label l' =>
      refine ⟨label l', fun l r h => ?_⟩
      simp only [findLabel] at h
      split at h
      · cases h; exact skip
      · cases h
    | region id ops draw => exact ⟨region id ops draw, fun l r h => by cases h⟩
    | seq x y ihx ihy =>
      refine ⟨seq x y ihx.1 ihy.1, fun l r h => ?_⟩
      simp only [findLabel] at h
      cases hx : findLabel x l with
      | none => rw [hx] at h; exact ihy.2 l r h
      | some r' => rw [hx] at h; cases h; exact seq r' y (ihx.2 l r' hx) ihy.1
    | cond c x y ihx ihy => exact ⟨cond c x y ihx.1 ihy.1, fun l r h => by cases h⟩
    | block id c ih => exact ⟨block id c ih.1, fun l r h => by cases h⟩
    | loop c ih => exact ⟨loop c ih.1, fun l r h => by cases h⟩
    | rangeFunc f ps as c ih1 ih2 => exact ⟨rangeFunc f ps as c ih1.1 ih2.1, fun l r h => by cases h⟩
    | exit id => exact ⟨exit id, fun l r h => by cases h⟩
    | scope c ih => exact ⟨scope c ih.1 ih.2, fun l r h => by cases h⟩
    | goto l => exact ⟨goto l, fun l r h => by cases h⟩
    | ret => exact ⟨ret, fun l r h => by cases h⟩
    | refuse why => exact ⟨refuse why, fun l r h => by cases h⟩
  exact fun c => (key c).1
end Go.Abs
