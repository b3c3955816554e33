/- A deterministic evaluator of the model's code, over values in which a slice is a list: no memory but variables, no tape. Definitions alone. -/
import GoSem.Dispatch
import GoSem.Step
import Derived.Calls
namespace Go.Vm
open Go

/-! ## a map from numbers -/
inductive Tr (α : Type) where
  | nil
  | node (l : Tr α) (v : Option α) (r : Tr α)
  deriving Inhabited

def Tr.get {α : Type} : Tr α → Nat → Option α
  | .nil, _ => none
  | .node l v r, n =>
    match Nat.beq n 0 with
    | true => v
    | false =>
      match Nat.beq (Nat.mod n 2) 1 with
      | true => l.get (Nat.div n 2)
      | false => r.get (Nat.pred (Nat.div n 2))

def Tr.set {α : Type} : Nat → Tr α → Nat → α → Tr α
  | 0, t, _, _ => t
  | f + 1, t, n, x =>
    match t with
    | .nil =>
      match Nat.beq n 0 with
      | true => .node .nil (some x) .nil
      | false =>
        match Nat.beq (Nat.mod n 2) 1 with
        | true => .node (Tr.set f .nil (Nat.div n 2) x) none .nil
        | false => .node .nil none (Tr.set f .nil (Nat.pred (Nat.div n 2)) x)
    | .node l v r =>
      match Nat.beq n 0 with
      | true => .node l (some x) r
      | false =>
        match Nat.beq (Nat.mod n 2) 1 with
        | true => .node (Tr.set f l (Nat.div n 2) x) v r
        | false => .node l v (Tr.set f r (Nat.pred (Nat.div n 2)) x)

def Tr.put {α : Type} (t : Tr α) (n : Nat) (x : α) : Tr α := Tr.set (n + 1) t n x

/-! ## values -/
inductive Tail where
  | exact
  | tok (k es : Nat)
  | unk
  deriving Inhabited, DecidableEq

inductive V where
  | bool (b : Bool)
  | int (k : IntKind) (n : Int)
  | str (l : List UInt8)
  | nilp | nils | nilf | nili | nilm
  | sl (n : Nat) (cells : List V) (tl : Tail)
  | ms (id off n : Nat) (ex : Bool)
  | cp (cells : List V)
  | ptr (id off : Nat)
  | agg (cells : List V)
  | tup (vs : List V)
  | fn (f : FuncId) (first captured : List V)
  | iface (t : TypeId) (v : V)
  deriving Inhabited

def V.undef : V := .tup []

def V.cells : V → List V
  | .agg cs => cs
  | v => [v]

def oneC : V → Bool
  | .agg _ | .tup _ => false
  | _ => true

def traverse {α β : Type} (f : α → Option β) : List α → Option (List β)
  | [] => some []
  | x :: xs => match f x with
    | some y => match traverse f xs with
      | some ys => some (y :: ys)
      | none => none
    | none => none

/-- a constant -/
def toV : Nat → Value → Option V
  | 0, _ => none
  | d + 1, v =>
    match v with
    | .bool b => some (.bool b)
    | .int k n => some (.int k n)
    | .string s => some (.str s.data.toList)
    | .pointer none => some .nilp
    | .slice none n c => match Nat.beq n 0, Nat.beq c 0 with
      | true, true => some .nils
      | _, _ => none
    | .map none => some .nilm
    | .nilFunc => some .nilf
    | .nilIface => some .nili
    | .agg cs => (match traverse (toV d) cs.toList with | some l => some (.agg l) | none => none)
    | .tuple cs => (match traverse (toV d) cs.toList with | some l => some (.tup l) | none => none)
    | .func (.func f) a b => match traverse (toV d) a.toList, traverse (toV d) b.toList with
      | some a, some b => some (.fn f a b)
      | _, _ => none
    | .iface t x => (match toV d x with | some x => some (.iface t x) | none => none)
    | _ => none

/-- back: for values without an address -/
def ofV : Nat → V → Option Value
  | 0, _ => none
  | d + 1, v =>
    match v with
    | .bool b => some (.bool b)
    | .int k n => some (.int k n)
    | .str l => some (.string ⟨l.toArray⟩)
    | .nilp => some (.pointer none)
    | .nils => some (.slice none 0 0)
    | .nilm => some (.map none)
    | .nilf => some .nilFunc
    | .nili => some .nilIface
    | .agg cs => (match traverse (ofV d) cs with | some l => some (.agg l.toArray) | none => none)
    | .tup cs => (match traverse (ofV d) cs with | some l => some (.tuple l.toArray) | none => none)
    | .fn f a b => match traverse (ofV d) a, traverse (ofV d) b with
      | some a, some b => some (.func (.func f) a.toArray b.toArray)
      | _, _ => none
    | .iface t x => (match ofV d x with | some x => some (.iface t x) | none => none)
    | _ => none

/-! ## the state -/
structure St where
  ctr : Nat
  box : Tr (List V)
  spent : Tr Unit
  deriving Inhabited

abbrev Fr := Tr V

def Fr.at (fr : Fr) (t : Nat) : V :=
  match fr.get t with
  | some v => v
  | none => .undef

def Fr.to (fr : Fr) (d : Option Tmp) (v : V) : Fr :=
  match d with
  | none => fr
  | some t => fr.put t v

def ev (fr : Fr) : Operand → Option V
  | .tmp t => some (Fr.at fr t)
  | .const v => toV 4 v
  | .global _ => none
  | .func f => some (.fn f [] [])

def evs (fr : Fr) (l : List Operand) : Option (List V) := traverse (ev fr) l

/-! ## types -/
def isAggT (P : Program) (t : TypeId) : Option Bool :=
  match P.underlying t with
  | some (.struct _) | some (.array _ _) => some true
  | some _ => some false
  | none => none

def sizeT (P : Program) (t : TypeId) : Option Nat :=
  match P.info? t with | some i => some i.size | none => none

def zeroT (P : Program) (t : TypeId) : Option V :=
  match P.info? t with
  | some i => (match i.zero with
    | some z => toV 3 z
    | none => none)
  | none => none

/-! ## operations on values -/
def unSem {α : Type} (P : Program) : Sem α → Option α
  | .pure a => some a
  | .program k => unSem P (k P)
  | .mark _ k => unSem P k
  | _ => none

/-- a computation of the model's own, on values without an address -/
def viaSem (P : Program) (f : List Value → Sem Value) (vs : List V) : Option V :=
  match traverse (ofV 6) vs with
  | some cs => match unSem P (f cs) with
    | some v => toV 6 v
    | none => none
  | none => none

def maxStr : Nat := 9223372036854775807

def vbin (P : Program) (op : BinOp) (t : TypeId) (x y : V) : Option V :=
  match x, y with
  | .int k a, .int j b =>
    match decide (k = j) with
    | true =>
      match op with
      | .add => some (.int k (k.wrap (a + b)))
      | .sub => some (.int k (k.wrap (a - b)))
      | .mul => some (.int k (k.wrap (a * b)))
      | .eql => some (.bool (a == b))
      | .neq => some (.bool (a != b))
      | .lss => some (.bool (decide (a < b)))
      | .leq => some (.bool (decide (a ≤ b)))
      | .gtr => some (.bool (decide (a > b)))
      | .geq => some (.bool (decide (a ≥ b)))
      | _ => viaSem P (fun l => binOp op t (l.getD 0 undef) (l.getD 1 undef)) [x, y]
    | false => viaSem P (fun l => binOp op t (l.getD 0 undef) (l.getD 1 undef)) [x, y]
  | .str a, .str b =>
    match op with
    | .add => match Nat.ble (a.length + b.length) maxStr with
      | true => some (.str (a ++ b))
      | false => none
    | .eql => some (.bool (a == b))
    | .neq => some (.bool (!(a == b)))
    | .lss => some (.bool (Op.bytesLess a b))
    | .leq => some (.bool (Op.bytesLess a b || a == b))
    | .gtr => some (.bool !(Op.bytesLess a b || a == b))
    | .geq => some (.bool !(Op.bytesLess a b))
    | _ => none
  | .sl _ _ _, .nils | .ms _ _ _ _, .nils =>
    match op, P.underlying t with
    | .eql, some (.slice _) => some (.bool false)
    | .neq, some (.slice _) => some (.bool true)
    | _, _ => none
  | .ptr _ _, .nilp | .cp _, .nilp =>
    match op, P.underlying t with
    | .eql, some (.pointer _) => some (.bool false)
    | .neq, some (.pointer _) => some (.bool true)
    | _, _ => none
  | .fn _ _ _, .nilf =>
    match op, P.underlying t with
    | .eql, some (.func _ _ _) => some (.bool false)
    | .neq, some (.func _ _ _) => some (.bool true)
    | _, _ => none
  | .iface _ _, .nili =>
    match op, P.underlying t with
    | .eql, some (.interface _) => some (.bool false)
    | .neq, some (.interface _) => some (.bool true)
    | _, _ => none
  | _, _ => viaSem P (fun l => do eqGuard op t (.tmp 0) (.tmp 0) (l.getD 0 undef) (l.getD 1 undef); binOp op t (l.getD 0 undef) (l.getD 1 undef)) [x, y]

def asNat : V → Option Nat
  | .int _ (.ofNat n) => some n
  | _ => none

def bound (v : Option V) (dflt : Nat) : Option Nat :=
  match v with
  | none => some dflt
  | some x => asNat x

/-- 'n' from 'off' on -/
def sub (l : List V) (off n : Nat) : List V := (l.drop off).take n

def vpart (P : Program) (t : TypeId) (cs : List V) (off : Nat) : Option V :=
  match isAggT P t, sizeT P t with
  | some true, some n => match Nat.ble (off + n) cs.length with
    | true => some (.agg (sub cs off n))
    | false => none
  | some false, some _ => cs[off]?
  | _, _ => none

def evOpt (fr : Fr) : Option Operand → Option (Option V)
  | none => some none
  | some x => match ev fr x with | some v => some (some v) | none => none

def vslice (P : Program) (t : TypeId) (x : V) (lo hi : Option V) : Option V :=
  match x, P.underlying t with
  | .str s, some .string =>
    match bound lo 0, bound hi s.length with
    | some l, some h => match Nat.ble l h && Nat.ble h s.length with
      | true => some (.str ((s.drop l).take (h - l)))
      | false => none
    | _, _ => none
  | .sl n cs tl, some (.slice e) =>
    match bound lo 0, bound hi n, sizeT P e with
    | some l, some h, some z => match Nat.ble l h && Nat.ble h n && Nat.beq cs.length (n * z) with
      | true => some (.sl (h - l) (sub cs (l * z) ((h - l) * z)) (match Nat.beq h n with | true => tl | false => .unk))
      | false => none
    | _, _, _ => none
  | .ms id off n ex, some (.slice e) =>
    match bound lo 0, bound hi n, sizeT P e with
    | some l, some h, some z => match Nat.ble l h && Nat.ble h n with
      | true => some (.ms id (off + l * z) (h - l) (ex && Nat.beq h n))
      | false => none
    | _, _, _ => none
  | .nils, some (.slice e) =>
    match bound lo 0, bound hi 0, sizeT P e with
    | some 0, some 0, some _ => some .nils
    | _, _, _ => none
  | .ptr id off, some (.array n e) =>
    match bound lo 0, bound hi n, sizeT P e with
    | some l, some h, some z => match Nat.ble l h && Nat.ble h n with
      | true => some (.ms id (off + l * z) (h - l) (Nat.beq h n))
      | false => none
    | _, _, _ => none
  | _, _ => none

def vindexAddr (P : Program) (t : TypeId) (x i : V) : Option V :=
  match x, P.underlying t, asNat i with
  | .sl n cs _, some (.slice e), some i =>
    match sizeT P e, Nat.blt i n with
    | some z, true => some (.cp (cs.drop (i * z)))
    | _, _ => none
  | .ms id off n _, some (.slice e), some i =>
    match sizeT P e, Nat.blt i n with
    | some z, true => some (.ptr id (off + i * z))
    | _, _ => none
  | .ptr id off, some (.array n e), some i =>
    match sizeT P e, Nat.blt i n with
    | some z, true => some (.ptr id (off + i * z))
    | _, _ => none
  | .cp cs, some (.array n e), some i =>
    match sizeT P e, Nat.blt i n with
    | some z, true => some (.cp (cs.drop (i * z)))
    | _, _ => none
  | _, _, _ => none

def vindex (P : Program) (t : TypeId) (x i : V) : Option V :=
  match x, P.underlying t, asNat i with
  | .str s, some .string, some i => match s[i]? with
    | some b => some (.int .u8 b.toNat)
    | none => none
  | .agg cs, some (.array n e), some i =>
    match sizeT P e, Nat.blt i n with
    | some z, true => vpart P e cs (i * z)
    | _, _ => none
  | _, _, _ => none

def loadFrom (P : Program) (t : TypeId) (cs : List V) (off : Nat) : Option V := vpart P t cs off

def vload (P : Program) (st : St) (t : TypeId) (x : V) : Option V :=
  match x with
  | .cp cs => vpart P t cs 0
  | .ptr id off => match st.box.get id with
    | some cs => vpart P t cs off
    | none => none
  | _ => none

def bytesOf : List V → Option (List UInt8)
  | [] => some []
  | .int .u8 n :: r => match bytesOf r with | some l => some (UInt8.ofNat n.toNat :: l) | none => none
  | _ => none

/-- the cells of a slice, as they are now -/
def sliceCells (st : St) (z : Nat) (x : V) : Option (List V × Nat) :=
  match x with
  | .nils => some ([], 0)
  | .sl n cs _ => match Nat.beq cs.length (n * z) with
    | true => some (cs, n)
    | false => none
  | .ms id off n _ => match st.box.get id with
    | some cs => match Nat.ble (off + n * z) cs.length with
      | true => some (sub cs off (n * z), n)
      | false => none
    | none => none
  | _ => none

def bytesV (l : List UInt8) : List V := l.map fun b => .int .u8 b.toNat

def vconv (P : Program) (st : St) (s d : TypeId) (x : V) : Option V :=
  match P.underlying s, P.underlying d with
  | some (.slice e), some .string =>
    match P.underlying e, sliceCells st 1 x with
    | some (.int .u8), some (cs, _) => (match bytesOf cs with | some l => some (.str l) | none => none)
    | _, _ => none
  | _, _ => viaSem P (fun l => convert s d (l.getD 0 undef)) [x]

def vlen (P : Program) (t : TypeId) (x : V) : Option V :=
  match x, P.underlying t with
  | .str s, some .string => some (.int .i64 s.length)
  | .nils, some (.slice _) => some (.int .i64 0)
  | .sl n _ _, some (.slice _) => some (.int .i64 n)
  | .ms _ _ n _, some (.slice _) => some (.int .i64 n)
  | _, some (.array n _) => some (.int .i64 n)
  | _, _ => none

def vfieldAddr (P : Program) (s : TypeId) (x : V) (f : Nat) : Option V :=
  match P.underlying s with
  | some (.struct fs) =>
    match fs[f]? with
    | some f => match sizeT P f.type with
      | some (_ + 1) => match x with
        | .ptr id off => some (.ptr id (off + f.offset))
        | .cp cs => some (.cp (cs.drop f.offset))
        | _ => none
      | _ => none
    | none => none
  | _ => none

def vfield (P : Program) (s : TypeId) (x : V) (f : Nat) : Option V :=
  match x, P.underlying s with
  | .agg cs, some (.struct fs) =>
    match fs[f]? with
    | some f => vpart P f.type cs f.offset
    | none => none
  | _, _ => none

def evParts (fr : Fr) : List (Nat × Operand) → Option (List (Nat × V))
  | [] => some []
  | (i, x) :: r => match ev fr x with
    | some v => match evParts fr r with | some l => some ((i, v) :: l) | none => none
    | none => none

def placesOf (P : Program) (fs : List Field) : Option (List (Nat × Nat)) :=
  traverse (fun f => match sizeT P f.type with | some z => some (f.offset, z) | none => none) fs

/-- the cells with a part laid over them -/
def over (l : List V) (off : Nat) (cs : List V) : List V := l.take off ++ cs ++ l.drop (off + cs.length)

def vfill (place : Nat → Option (Nat × Nat)) (cells : List V) : List (Nat × V) → Option (List V)
  | [] => some cells
  | (i, v) :: rest =>
    match place i with
    | none => none
    | some (off, size) =>
      match Nat.beq v.cells.length size && Nat.ble (off + size) cells.length with
      | true => vfill place (over cells off v.cells) rest
      | false => none

def vbuild (P : Program) (t : TypeId) (parts : List (Nat × V)) : Option V :=
  match zeroT P t, P.underlying t with
  | some z, some (.struct fs) =>
    match placesOf P fs.toList with
    | some pl => match vfill (fun i => pl[i]?) z.cells parts with
      | some cs => some (.agg cs)
      | none => none
    | none => none
  | some z, some (.array _ e) =>
    match sizeT P e with
    | some n => match vfill (fun i => some (i * n, n)) z.cells parts with
      | some cs => some (.agg cs)
      | none => none
    | none => none
  | _, _ => none

def zeros (z : List V) : Nat → List V
  | 0 => []
  | n + 1 => z ++ zeros z n

def vbuildSlice (P : Program) (t : TypeId) (len : Nat) (parts : List (Nat × V)) : Option V :=
  match P.underlying t with
  | some (.slice e) =>
    match sizeT P e, zeroT P e with
    | some z, some zv => match Nat.ble (len * z) 16777216 && Nat.beq zv.cells.length z with
      | true => match vfill (fun i => some (i * z, z)) (zeros zv.cells len) parts with
        | some cs => match cs.all oneC with
          | true => some (.sl len cs .exact)
          | false => none
        | none => none
      | false => none
    | _, _ => none
  | _ => none

/-- operations that look at the variables at most, and write none -/
def vpure (P : Program) (fr : Fr) (st : St) (o : Op) : Option V :=
  match o with
  | .move x | .assign x => ev fr x
  | .pick c a b =>
    match ev fr c with
    | some (.bool true) => ev fr a
    | some (.bool false) => ev fr b
    | _ => none
  | .nilCheck x => match ev fr x with
    | some (.ptr id off) => some (.ptr id off)
    | some (.cp cs) => some (.cp cs)
    | some (.fn f a c) => some (.fn f a c)
    | _ => none
  | .binOp op t x y _ => match ev fr x, ev fr y with
    | some a, some b => vbin P op t a b
    | _, _ => none
  | .unOp op _ x => match ev fr x with
    | some (.bool b) => (match op with | .not => some (.bool !b) | _ => none)
    | some v => viaSem P (fun l => Op.unary op (l.getD 0 undef)) [v]
    | none => none
  | .convert s d x => match ev fr x with
    | some v => vconv P st s d v
    | none => none
  | .makeInterface t x => match ev fr x, P.underlying t with
    | some _, some (.interface _) => none
    | some v, some _ => some (.iface t v)
    | _, _ => none
  | .makeFunc (.func f) a c => match evs fr a.toList, evs fr c.toList with
    | some a, some c => some (.fn f a c)
    | _, _ => none
  | .slice t x lo hi none => match ev fr x, evOpt fr lo, evOpt fr hi with
    | some x, some lo, some hi => vslice P t x lo hi
    | _, _, _ => none
  | .fieldAddr s x f => match ev fr x with
    | some x => vfieldAddr P s x f
    | none => none
  | .field s x f => match ev fr x with
    | some x => vfield P s x f
    | none => none
  | .indexAddr t x i => match ev fr x, ev fr i with
    | some x, some i => vindexAddr P t x i
    | _, _ => none
  | .index t x i => match ev fr x, ev fr i with
    | some x, some i => vindex P t x i
    | _, _ => none
  | .extract x i => match ev fr x with
    | some (.tup vs) => vs[i]?
    | _ => none
  | .build t parts => match evParts fr parts.toList with
    | some ps => vbuild P t ps
    | none => none
  | .buildSlice t len parts => match evParts fr parts.toList with
    | some ps => vbuildSlice P t len ps
    | none => none
  | .load t x => match ev fr x with
    | some x => vload P st t x
    | none => none
  | .call { callee := .builtin .len, args := a, argTypes := ts } =>
    match a.toList, ts.toList with
    | [x], t :: _ => (match ev fr x with
      | some v => vlen P t v
      | none => none)
    | _, _ => none
  | .call { callee := .builtin .min, args := a, argTypes := _ } =>
    match evs fr a.toList with
    | some vs => viaSem P (fun l => Builtin.min_ #[] 0 l.toArray) vs
    | none => none
  | .call { callee := .builtin .max, args := a, argTypes := _ } =>
    match evs fr a.toList with
    | some vs => viaSem P (fun l => Builtin.max_ #[] 0 l.toArray) vs
    | none => none
  | _ => none

/-! ## operations that make a variable -/
def valloc (P : Program) (fr : Fr) (o : Op) : Option (List V) :=
  match o with
  | .alloc t => match zeroT P t with
    | some z => some z.cells
    | none => none
  | .box _ x => match ev fr x with
    | some v => some v.cells
    | none => none
  | _ => none

/-- the kind of an operation -/
inductive Kd where | p | r | a | e
  deriving DecidableEq, Inhabited

def kindOf : Op → Kd
  | .load .. | .convert .. => .r
  | .alloc _ | .box .. => .a
  | .move _ | .assign _ | .pick .. | .nilCheck _ | .binOp .. | .unOp .. | .makeInterface .. | .makeFunc .. | .slice .. | .fieldAddr .. | .field .. | .indexAddr .. | .index .. | .extract .. | .build .. | .buildSlice .. => .p
  | .call { callee := .builtin b, .. } => (match b with | .len | .min | .max => .p | _ => .e)
  | _ => .e

/-! ## operations that act -/
inductive ER where
  | val (v : V) (st : St)
  | panic (v : V) (st : St)
  | fail (why : String)
  deriving Inhabited

def vstore (P : Program) (st : St) (t : TypeId) (x v : V) : Option St :=
  match x, sizeT P t with
  | .ptr id off, some n =>
    match st.box.get id with
    | some cs => match Nat.beq v.cells.length n && Nat.ble (off + n) cs.length && v.cells.all oneC with
      | true => some { st with box := st.box.put id (over cs off v.cells) }
      | false => none
    | none => none
  | _, _ => none

def srcCells (st : St) (z : Nat) (x : V) : Option (List V × Nat) :=
  match x with
  | .str l => match Nat.beq z 1 with
    | true => some (bytesV l, l.length)
    | false => none
  | _ => sliceCells st z x

def maxBytes : Nat := 70368744177664

def vappend (P : Program) (st : St) (t : TypeId) (s x : V) : Option (V × St) :=
  match P.underlying t with
  | some (.slice e) =>
    match P.info? e with
    | some i =>
      match Nat.beq i.size 0, zeroT P e with
      | false, some zv =>
        match srcCells st i.size x, sliceCells st i.size s with
        | some (news, m), some (olds, n) =>
          match Nat.beq m 0 with
          | true => some (s, st)
          | false =>
            match Nat.ble ((n + m) * i.bytes) maxBytes && Nat.ble (n + m) maxBytes && Nat.beq zv.cells.length i.size && news.all oneC with
            | true =>
              let r : V := .sl (n + m) (olds ++ news) (.tok st.ctr i.size)
              match s with
              | .nils | .sl _ _ .exact | .ms _ _ _ true => some (r, { st with ctr := st.ctr + 1 })
              | .sl _ _ (.tok k es) =>
                match Nat.beq es i.size, st.spent.get k, Nat.blt k st.ctr with
                | true, none, true => some (r, { st with ctr := st.ctr + 1, spent := st.spent.put k () })
                | _, _, _ => none
              | _ => none
            | false => none
        | _, _ => none
      | _, _ => none
    | none => none
  | _ => none

def vmake (P : Program) (st : St) (t : TypeId) (l c : V) : Option (V × St) :=
  match P.underlying t with
  | some (.slice e) =>
    match P.info? e, zeroT P e, asNat l, asNat c with
    | some i, some zv, some l, some c =>
      match Nat.ble l c && Nat.ble (i.bytes * c) maxBytes && Nat.ble c maxBytes && Nat.beq zv.cells.length i.size && !(Nat.beq i.size 0) with
      | true =>
        match Nat.beq l 0 with
        | true => some (.sl 0 [] (.tok st.ctr i.size), { st with ctr := st.ctr + 1 })
        | false => some (.ms st.ctr 0 l (Nat.beq l c), { st with ctr := st.ctr + 1, box := st.box.put st.ctr (zeros zv.cells c) })
      | false => none
    | _, _, _, _ => none
  | _ => none

abbrev CallF := Nat → List V → St → ER

def vextern (P : Program) (fn : Func) (args : List V) : Option V :=
  match Extern.findNext fn with
  | some _ => none
  | none => match Extern.find fn with
    | some e => viaSem P (fun l => e l.toArray) args
    | none => none

def vcall (P : Program) (ih : CallF) (f : Nat) (args : List V) (st : St) : ER :=
  match P.funcs[f]? with
  | none => .fail "no such function"
  | some fn =>
    match fn.name == "runtime.NumGoroutine" with
    | true => .fail "NumGoroutine"
    | false =>
      match fn.body with
      | some _ => ih f args st
      | none => match vextern P fn args with
        | some v => .val v st
        | none => .fail ("extern " ++ fn.name)

def veff (P : Program) (ih : CallF) (fr : Fr) (st : St) (o : Op) : ER :=
  match o with
  | .store t a x => match ev fr a, ev fr x with
    | some a, some x => match vstore P st t a x with
      | some st' => .val .undef st'
      | none => .fail "store"
    | _, _ => .fail "store's operands"
  | .makeSlice t l c => match ev fr l, ev fr c with
    | some l, some c => match vmake P st t l c with
      | some (v, st') => .val v st'
      | none => .fail "make"
    | _, _ => .fail "make's operands"
  | .panic x => match ev fr x with
    | some (.iface t v) => .panic (.iface t v) st
    | _ => .fail "panic"
  | .call { callee := .builtin .append, args := a, argTypes := ts } =>
    match a.toList, ts.toList with
    | [s, x], [t, u] =>
      match P.underlying u, ev fr s, ev fr x with
      | some (.slice _), some s, some x => (match vappend P st t s x with
        | some (v, st') => .val v st'
        | none => .fail "append")
      | some .string, some s, some x => (match vappend P st t s x with
        | some (v, st') => .val v st'
        | none => .fail "append")
      | _, _, _ => .fail "append's operands"
    | _, _ => .fail "append's form"
  | .call { callee := .value f, args := a, argTypes := _ } =>
    match ev fr f, evs fr a.toList with
    | some (.fn f first captured), some vs => vcall P ih f (first ++ vs ++ captured) st
    | _, _ => .fail "call"
  | _ => .fail "an operation that is not known"

def vwanted (ops : Array Oper) (fr : Fr) (o : Oper) : Bool :=
  match o.guard with
  | none => true
  | some (j, want) =>
    match ops[j]? with
    | some p => match p.dst with
      | some d => match Fr.at fr d with
        | .bool b => b == want
        | _ => false
      | none => false
    | none => false

/-- one operation, in the row -/
def vop (P : Program) (ih : CallF) (fr : Fr) (st : St) (o : Op) : ER :=
  match kindOf o with
  | .p | .r => match vpure P fr st o with
    | some v => .val v st
    | none => .fail "an operation"
  | .a => match valloc P fr o with
    | some cs => match cs.all oneC with
      | true => .val (.ptr st.ctr 0) { st with ctr := st.ctr + 1, box := st.box.put st.ctr cs }
      | false => .fail "alloc"
    | none => .fail "alloc"
  | .e => veff P ih fr st o

inductive OR where
  | ok (fr : Fr) (st : St)
  | panic (v : V) (fr : Fr) (st : St)
  | fail (why : String)
  deriving Inhabited

def xOps (P : Program) (ih : CallF) (ops : Array Oper) : List Oper → Fr → St → OR
  | [], fr, st => .ok fr st
  | o :: r, fr, st =>
    match vwanted ops fr o with
    | true => match vop P ih fr st o.op with
      | .val v st' => xOps P ih ops r (Fr.to fr o.dst v) st'
      | .panic v st' => .panic v fr st'
      | .fail w => .fail (o.pos ++ ": " ++ w)
    | false => xOps P ih ops r (Fr.to fr o.dst .undef) st

/-! ## a region that draws its order -/
def befores (ops : Array Oper) : List Nat := (Region.before ops).toList

def setBits (m : Nat) : List Nat → Nat
  | [] => m
  | i :: r => setBits (m ||| 2 ^ i) r

def isE (ops : Array Oper) (i : Nat) : Bool := match ops[i]? with | some o => kindOf o.op == .e | none => false

/-- the row in which the operations are gone through: each that acts as early as may be -/
def plan (ops : Array Oper) (b : List Nat) : List Nat :=
  let n := ops.size
  let es := (List.range n).filter (isE ops)
  let (l, m) := es.foldl (fun (l, m) e =>
    let need := (List.range n).filter fun i => (b.getD e 0).testBit i && !m.testBit i
    (l ++ need ++ [e], setBits m (need ++ [e]))) ([], 0)
  l ++ (List.range n).filter fun i => !m.testBit i

def nodupB : List Nat → Bool
  | [] => true
  | x :: xs => !xs.contains x && nodupB xs

/-- the slots that an operation looks at, its guard's among them -/
def looks (ops : Array Oper) (o : Oper) : List Nat :=
  (o.op.operands.toList.filterMap fun | .tmp t => some t | _ => none) ++
  (match o.guard with
   | some (j, _) => (match ops[j]? with | some p => p.dst.toList | none => [])
   | none => [])

def slotsApart (ops : Array Oper) (b : List Nat) (n : Nat) : Bool :=
  (List.range n).all fun i => match ops[i]? with
    | none => false
    | some x => match x.dst with
      | none => true
      | some d => (List.range n).all fun j => i == j || (match ops[j]? with
        | none => false
        | some y => y.dst != some d && (!(looks ops y).contains d || (b.getD j 0).testBit i || (b.getD i 0).testBit j))

/-- the row respects all that must wait; of each that acts: all that stands ahead of it is waited for -/
def rowOk (ops : Array Oper) (b : List Nat) (n : Nat) : List Nat → List Nat → Bool
  | _, [] => true
  | pre, i :: r =>
    (match ops[i]? with
     | none => false
     | some o =>
       o.after.toList.all (fun e => !Region.binds .any e || pre.contains e.on) &&
       (List.range n).all (fun j => !(b.getD i 0).testBit j || (pre.contains j && o.after.toList.any fun e => Region.binds .any e && (e.on == j || (b.getD e.on 0).testBit j))) &&
       (!isE ops i || pre.all fun q => (b.getD i 0).testBit q)) && rowOk ops b n (i :: pre) r

def planOk (ops : Array Oper) (b l : List Nat) : Bool :=
  nodupB l && l.all (fun i => Nat.blt i ops.size) && (List.range ops.size).all (fun i => l.contains i) && b.all (fun m => Nat.blt m (2 ^ ops.size)) && slotsApart ops b ops.size && rowOk ops b ops.size [] l &&
    ops.toList.all (fun o => match o.op with | .select _ _ => false | _ => true)

mutual
def veq : Nat → V → V → Bool
  | 0, _, _ => false
  | d + 1, a, b =>
    match a, b with
    | .bool x, .bool y => x == y
    | .int k x, .int j y => decide (k = j) && x == y
    | .str x, .str y => x == y
    | .nilp, .nilp | .nils, .nils | .nilf, .nilf | .nili, .nili | .nilm, .nilm => true
    | .sl n x t, .sl m y u => n == m && decide (t = u) && veqs d x y
    | .ms a b c e, .ms a' b' c' e' => a == a' && b == b' && c == c' && e == e'
    | .cp x, .cp y => veqs d x y
    | .ptr x y, .ptr z w => x == z && y == w
    | .iface t x, .iface u y => t == u && veq d x y
    | .agg x, .agg y => veqs d x y
    | .tup x, .tup y => veqs d x y
    | .fn f x u, .fn g y v => f == g && veqs d x y && veqs d u v
    | _, _ => false
def veqs : Nat → List V → List V → Bool
  | 0, _, _ => false
  | _ + 1, [], [] => true
  | d + 1, a :: x, b :: y => veq d a b && veqs d x y
  | _, _, _ => false
end

structure Drw where
  fr : Fr
  st : St
  snaps : List (Nat × St)      -- behind each act its number and the state that it left, the last one first; at the end the start

/-- one value, behind every act from the last one of those that are waited for on -/
def sameIn (P : Program) (fr : Fr) (o : Op) (v : V) (m : Nat) : List (Nat × St) → Bool
  | [] => true
  | (k, s) :: r => (match vpure P fr s o with | some u => veq 300 u v | none => false) && (m.testBit k || sameIn P fr o v m r)

def xStep (P : Program) (ih : CallF) (ops : Array Oper) (b : List Nat) (c0 : Nat) (i : Nat) (d : Drw) : Option Drw :=
  match ops[i]? with
  | some o =>
    match vwanted ops d.fr o with
    | false => some { fr := Fr.to d.fr o.dst .undef, st := d.st, snaps := (match kindOf o.op with | .e => (i, d.st) :: d.snaps | _ => d.snaps) }
    | true =>
      match kindOf o.op with
      | .p => match vpure P d.fr d.st o.op with
        | some v => some { d with fr := Fr.to d.fr o.dst v }
        | none => none
      | .r => match d.snaps with
        | (_, s0) :: _ => match vpure P d.fr s0 o.op with
          | some v => match sameIn P d.fr o.op v (b.getD i 0) d.snaps with
            | true => some { d with fr := Fr.to d.fr o.dst v }
            | false => none
          | none => none
        | [] => none
      | .a => match valloc P d.fr o.op with
        | some cs => match cs.all oneC with
          | true => some { fr := Fr.to d.fr o.dst (.ptr (c0 + i) 0), st := { d.st with box := d.st.box.put (c0 + i) cs }, snaps := d.snaps }
          | false => none
        | none => none
      | .e => match veff P ih d.fr d.st o.op with
        | .val v st' => some { fr := Fr.to d.fr o.dst v, st := st', snaps := (i, st') :: d.snaps }
        | _ => none
  | none => none

def xDraw (P : Program) (ih : CallF) (ops : Array Oper) (b : List Nat) (c0 : Nat) : List Nat → Drw → Option Drw
  | [], d => some d
  | i :: r, d => match xStep P ih ops b c0 i d with
    | some d' => xDraw P ih ops b c0 r d'
    | none => none

inductive AE where
  | normal | exit (id : Nat) | ret | panic (v : V)
  deriving Inhabited

inductive Task where
  | code (c : Code) (fr : Fr)
  | call (f : Nat) (args : List V)

inductive Res where
  | code (e : AE) (fr : Fr) (st : St)
  | call (r : ER)
  | fail (why : String)
  deriving Inhabited

def initFr (args : List V) : Nat → Fr → Fr := fun i fr => (args.foldl (fun (p : Fr × Nat) v => (p.1.put p.2 v, p.2 + 1)) (fr, i)).1

def vresult (P : Program) (fr : Fr) (st : St) : ResultVar → Option V
  | .tmp t => some (Fr.at fr t)
  | .cell a t => vload P st t (Fr.at fr a)

def tupled : List V → V
  | [v] => v
  | vs => .tup vs

/-- every slot that is written or read lies in the frame -/
def dstOk (n : Nat) (o : Oper) : Bool := match o.dst with | some d => Nat.blt d n | none => true
def slotsOk (n : Nat) : Code → Bool
  | .region _ ops _ => ops.toList.all (dstOk n)
  | .seq a b => slotsOk n a && slotsOk n b
  | .cond _ a b => slotsOk n a && slotsOk n b
  | .block _ b => slotsOk n b
  | .loop b => slotsOk n b
  | .scope b => slotsOk n b
  | .rangeFunc _ _ _ _ => false
  | _ => true

def ihCall (ih : Task → St → Res) : CallF := fun f args st =>
  match ih (.call f args) st with
  | .call r => r
  | .fail w => .fail w
  | _ => .fail "call"

def body (P : Program) (ih : Task → St → Res) : Task → St → Res
  | .code c fr, st =>
    match c with
    | .skip => .code .normal fr st
    | .seq a b => match ih (.code a fr) st with
      | .code .normal fr' st' => ih (.code b fr') st'
      | r => r
    | .cond x a b => match ev fr x with
      | some (.bool true) => ih (.code a fr) st
      | some (.bool false) => ih (.code b fr) st
      | _ => .fail "cond"
    | .block id b => match ih (.code b fr) st with
      | .code (.exit id') fr' st' => match Nat.beq id' id with
        | true => .code .normal fr' st'
        | false => .code (.exit id') fr' st'
      | r => r
    | .loop b => match ih (.code b fr) st with
      | .code .normal fr' st' => ih (.code (.loop b) fr') st'
      | r => r
    | .scope b => ih (.code b fr) st
    | .exit id => .code (.exit id) fr st
    | .ret => .code .ret fr st
    | .region _ ops false =>
      match xOps P (ihCall ih) ops ops.toList fr st with
      | .ok fr' st' => .code .normal fr' st'
      | .panic v fr' st' => .code (.panic v) fr' st'
      | .fail w => .fail w
    | .region _ ops true =>
      match planOk ops (befores ops) (plan ops (befores ops)) with
      | true =>
        match xDraw P (ihCall ih) ops (befores ops) st.ctr (plan ops (befores ops)) { fr := fr, st := { st with ctr := st.ctr + ops.size }, snaps := [(ops.size, { st with ctr := st.ctr + ops.size })] } with
        | some d => .code .normal d.fr d.st
        | none => .fail ("draw " ++ (match ops[0]? with | some o => o.pos | none => ""))
      | false => .fail ("plan " ++ (match ops[0]? with | some o => o.pos | none => ""))
    | _ => .fail "code"
  | .call f args, st =>
    match P.funcs[f]? with
    | none => .fail "func"
    | some fn => match fn.body with
      | none => .fail "no body"
      | some c =>
        match Nat.ble args.length fn.ntmps && slotsOk fn.ntmps c with
        | false => .fail "slots"
        | true =>
          match ih (.code c (initFr args 0 .nil)) st with
          | .code (.exit _) _ _ => .fail "exit"
          | .code (.panic v) _ st' => .call (.panic v st')
          | .code _ fr' st' => match traverse (vresult P fr' st') fn.results.toList with
            | some vs => .call (.val (tupled vs) st')
            | none => .fail "results"
          | .call _ => .fail "call"
          | .fail w => .fail (fn.name ++ " < " ++ w)

def X (P : Program) : Nat → Task → St → Res
  | 0 => fun _ _ => .fail "fuel"
  | n + 1 => body P (X P n)

def ends (P : Program) (n f : Nat) : Bool :=
  match X P n (.call f []) ⟨0, .nil, .nil⟩ with
  | .call (.val (.bool true) _) => true
  | _ => false

end Go.Vm
