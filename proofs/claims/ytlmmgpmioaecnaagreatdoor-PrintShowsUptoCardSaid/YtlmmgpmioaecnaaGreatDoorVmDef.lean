/- A deterministic evaluator of the model's code, over values in which a slice is a list: no memory but variables, no tape. Definitions alone. -/
import Derived.Test.YtlmmgpmioaecnaaGreatDoorVmStr
import GoSem.Dispatch
import GoSem.Step
import Derived.Calls
namespace Go.Vm
open Go
inductive Tr (α : Type) where
 | nil
 | node (l : Tr α) (v : Option α) (r : Tr α)
 deriving Inhabited
def Tr.get {α : Type} : Tr α → Nat → Option α
 | .nil, _ => none
 | .node l v r, n =>
  match Nat.beq n 0 with
  | true => v
  | false =>
   match Nat.beq (Nat.mod n 2) 1 with
   | true => l.get (Nat.div n 2)
   | false => r.get (Nat.pred (Nat.div n 2))
def Tr.set {α : Type} : Nat → Tr α → Nat → Option α → Tr α
 | 0, t, _, _ => t
 | f + 1, t, n, x =>
  match t with
  | .nil =>
   match Nat.beq n 0 with
   | true => .node .nil x .nil
   | false =>
    match Nat.beq (Nat.mod n 2) 1 with
    | true => .node (Tr.set f .nil (Nat.div n 2) x) none .nil
    | false => .node .nil none (Tr.set f .nil (Nat.pred (Nat.div n 2)) x)
  | .node l v r =>
   match Nat.beq n 0 with
   | true => .node l x r
   | false =>
    match Nat.beq (Nat.mod n 2) 1 with
    | true => .node (Tr.set f l (Nat.div n 2) x) v r
    | false => .node l v (Tr.set f r (Nat.pred (Nat.div n 2)) x)
def Tr.put {α : Type} (t : Tr α) (n : Nat) (x : α) : Tr α := Tr.set (n + 1) t n (some x)
def Tr.del {α : Type} (t : Tr α) (n : Nat) : Tr α := Tr.set (n + 1) t n none
inductive V where
 | bool (b : Bool)
 | int (k : IntKind) (n : Int)
 | str (s : S)
 | nilp | nils | nilf | nili | nilm
 | sl (n : Nat) (cells : List V) (ex : Bool)
 | ms (id off n z : Nat) (cap : Option Nat)
 | cp (cells : List V)
 | ptr (id off : Nat)
 | agg (cells : List V)
 | tup (vs : List V)
 | fn (f : FuncId) (first captured : List V)
 | yld (id : Nat)
 | mapp (id : Nat)
 | iface (t : TypeId) (v : V)
 deriving Inhabited
def V.undef : V := .tup []
def V.cells : V → List V
 | .agg cs => cs
 | v => [v]
def Ju : V → Bool
 | .agg _ | .tup _ => false
 | _ => true
def Jc {α β : Type} (f : α → Option β) : List α → Option (List β)
 | [] => some []
 | x :: xs => match f x with
  | some y => match Jc f xs with
   | some ys => some (y :: ys)
   | none => none
  | none => none
def toV : Nat → Value → Option V
 | 0, _ => none
 | d + 1, v =>
  match v with
  | .bool b => some (.bool b)
  | .int k n => some (.int k n)
  | .string s => some (.str (S.ofList s.data.toList))
  | .pointer none => some .nilp
  | .slice none n c => match Nat.beq n 0, Nat.beq c 0 with
   | true, true => some .nils
   | _, _ => none
  | .map none => some .nilm
  | .nilFunc => some .nilf
  | .nilIface => some .nili
  | .agg cs => (match Jc (toV d) cs.toList with | some l => some (.agg l) | none => none)
  | .tuple cs => (match Jc (toV d) cs.toList with | some l => some (.tup l) | none => none)
  | .func (.func f) a b => match Jc (toV d) a.toList, Jc (toV d) b.toList with
   | some a, some b => some (.fn f a b)
   | _, _ => none
  | .iface t x => (match toV d x with | some x => some (.iface t x) | none => none)
  | _ => none
def ofV : Nat → V → Option Value
 | 0, _ => none
 | d + 1, v =>
  match v with
  | .bool b => some (.bool b)
  | .int k n => some (.int k n)
  | .str s => some (.string ⟨⟨s.toList⟩⟩)
  | .nilp => some (.pointer none)
  | .nils => some (.slice none 0 0)
  | .nilm => some (.map none)
  | .nilf => some .nilFunc
  | .nili => some .nilIface
  | .agg cs => (match Jc (ofV d) cs with | some l => some (.agg l.toArray) | none => none)
  | .tup cs => (match Jc (ofV d) cs with | some l => some (.tuple l.toArray) | none => none)
  | .fn f a b => match Jc (ofV d) a, Jc (ofV d) b with
   | some a, some b => some (.func (.func f) a.toArray b.toArray)
   | _, _ => none
  | .iface t x => (match ofV d x with | some x => some (.iface t x) | none => none)
  | _ => none
inductive Df where
 | call (f : FuncId) (args : List V)
 | mark (id : Nat)
 deriving Inhabited
def Jb8 (fz : Option Nat) (off : Nat) : Bool :=
 match fz with
 | some k => Nat.ble k off
 | none => true
def Jgy (fz : Option Nat) (off : Nat) : Option Nat :=
 match fz with
 | some k => some (k - off)
 | none => none
inductive Bx where
 | cells (l : List V) (e : TypeId) (full : Bool) (fz : Option Nat)
 | loop (state : LoopState) (pending : Option Code) (t : Tr V) (ps : List Tmp) (assign body : Code)
 | mark (shut : Bool)
 | entries (l : List (V × V × Nat)) (clock : Nat)
 | iter (s : S) (pos : Nat)
 deriving Inhabited
structure St where
 ctr : Nat
 box : Tr Bx
 deriving Inhabited
abbrev Gl := Tr (List V)
structure Fr where
 t : Tr V
 ds : List Df
 gl : Gl
 deriving Inhabited
def Fr.at (fr : Fr) (t : Nat) : V :=
 match fr.t.get t with
 | some v => v
 | none => .undef
def Fr.to (fr : Fr) (d : Option Tmp) (v : V) : Fr :=
 match d with
 | none => fr
 | some t => { fr with t := fr.t.put t v }
def ev (fr : Fr) : Operand → Option V
 | .tmp t => some (Fr.at fr t)
 | .const v => toV 4 v
 | .global k => match fr.gl.get k with
  | some cs => some (.cp cs)
  | none => none
 | .func f => some (.fn f [] [])
def evs (fr : Fr) (l : List Operand) : Option (List V) := Jc (ev fr) l
def QO (P : Program) (t : TypeId) : Option Bool :=
 match P.underlying t with
 | some (.struct _) | some (.array _ _) => some true
 | some _ => some false
 | none => none
def JR (P : Program) (t : TypeId) : Option Nat :=
 match P.info? t with | some i => some i.size | none => none
def Q7 (P : Program) (t : TypeId) : Option V :=
 match P.info? t with
 | some i => (match i.zero with
  | some z => toV 3 z
  | none => none)
 | none => none
def QI {α : Type} (P : Program) : Sem α → Option α
 | .pure a => some a
 | .program k => QI P (k P)
 | .mark _ k => QI P k
 | _ => none
def QJ (P : Program) (f : List Value → Sem Value) (vs : List V) : Option V :=
 match Jc (ofV 6) vs with
 | some cs => match QI P (f cs) with
  | some v => toV 6 v
  | none => none
 | none => none
def maxStr : Nat := 9223372036854775807
def isK : Operand → Bool
 | .const _ => true
 | _ => false
def opK : Bool → Operand
 | true => .const undef
 | false => .tmp 0
def Je (P : Program) (k : Bool) (op : BinOp) (t : TypeId) (x y : V) : Option V :=
 match x, y with
 | .int k a, .int j b =>
  match decide (k = j) with
  | true =>
   match op with
   | .add => some (.int k (k.wrap (a + b)))
   | .sub => some (.int k (k.wrap (a - b)))
   | .mul => some (.int k (k.wrap (a * b)))
   | .eql => some (.bool (a == b))
   | .neq => some (.bool (a != b))
   | .lss => some (.bool (decide (a < b)))
   | .leq => some (.bool (decide (a ≤ b)))
   | .gtr => some (.bool (decide (a > b)))
   | .geq => some (.bool (decide (a ≥ b)))
   | _ => QJ P (fun l => binOp op t (l.getD 0 undef) (l.getD 1 undef)) [x, y]
  | false => QJ P (fun l => binOp op t (l.getD 0 undef) (l.getD 1 undef)) [x, y]
 | .str a, .str b =>
  match op with
  | .add => match Nat.ble (Nat.add a.n b.n) maxStr with
   | true => some (.str (a.app b))
   | false => none
  | .eql => some (.bool (a.same b))
  | .neq => some (.bool (!(a.same b)))
  | .lss => some (.bool (a.less b))
  | .leq => some (.bool (a.less b || a.same b))
  | .gtr => some (.bool !(a.less b || a.same b))
  | .geq => some (.bool !(a.less b))
  | _ => none
 | .sl _ _ _, .nils | .ms _ _ _ _ _, .nils =>
  match op, P.underlying t with
  | .eql, some (.slice _) => some (.bool false)
  | .neq, some (.slice _) => some (.bool true)
  | _, _ => none
 | .ptr _ _, .nilp | .cp _, .nilp =>
  match op, P.underlying t with
  | .eql, some (.pointer _) => some (.bool false)
  | .neq, some (.pointer _) => some (.bool true)
  | _, _ => none
 | .ptr i a, .ptr j b =>
  match Nat.beq i j, op, P.underlying t with
  | true, .eql, some (.pointer e) => (match JR P e with
   | some (_ + 1) => some (.bool (Nat.beq a b))
   | _ => none)
  | true, .neq, some (.pointer e) => (match JR P e with
   | some (_ + 1) => some (.bool (!(Nat.beq a b)))
   | _ => none)
  | _, _, _ => none
 | .nilp, .ptr _ _ | .nilp, .cp _ =>
  match op, P.underlying t with
  | .eql, some (.pointer _) => some (.bool false)
  | .neq, some (.pointer _) => some (.bool true)
  | _, _ => none
 | .fn _ _ _, .nilf =>
  match op, P.underlying t with
  | .eql, some (.func _ _ _) => some (.bool false)
  | .neq, some (.func _ _ _) => some (.bool true)
  | _, _ => none
 | .iface _ _, .nili =>
  match op, P.underlying t with
  | .eql, some (.interface _) => some (.bool false)
  | .neq, some (.interface _) => some (.bool true)
  | _, _ => none
 | _, _ => QJ P (fun l => do eqGuard op t (opK k) (.tmp 0) (l.getD 0 undef) (l.getD 1 undef); binOp op t (l.getD 0 undef) (l.getD 1 undef)) [x, y]
def Ja6 : V → Option Nat
 | .int _ (.ofNat n) => some n
 | _ => none
def JH (v : Option V) (dflt : Nat) : Option Nat :=
 match v with
 | none => some dflt
 | some x => Ja6 x
def sub (l : List V) (off n : Nat) : List V := (l.drop off).take n
def Q5 (P : Program) (t : TypeId) (cs : List V) (off : Nat) : Option V :=
 match QO P t, JR P t with
 | some true, some n => match Nat.ble (off + n) cs.length with
  | true => some (.agg (sub cs off n))
  | false => none
 | some false, some _ => cs[off]?
 | _, _ => none
def JU (fr : Fr) : Option Operand → Option (Option V)
 | none => some none
 | some x => match ev fr x with | some v => some (some v) | none => none
def JbM (h n : Nat) : Option Nat → Bool
 | some c => Nat.ble h c
 | none => Nat.ble h n
def JcR (cap : Option Nat) (l : Nat) : Option Nat :=
 match cap with
 | some c => some (Nat.sub c l)
 | none => none
def QA (P : Program) (t : TypeId) (x : V) (lo hi : Option V) : Option V :=
 match x, P.underlying t with
 | .str s, some .string =>
  match JH lo 0, JH hi s.n with
  | some l, some h => match Nat.ble l h && Nat.ble h s.n with
   | true => some (.str (s.cut l h))
   | false => none
  | _, _ => none
 | .sl n cs ex, some (.slice e) =>
  match JH lo 0, JH hi n, JR P e with
  | some l, some h, some z => match Nat.ble l h && Nat.ble h n && Nat.beq cs.length (n * z) with
   | true => some (.sl (h - l) (sub cs (l * z) ((h - l) * z)) (ex && Nat.beq h n))
   | false => none
  | _, _, _ => none
 | .ms id off n z cap, some (.slice e) =>
  match JH lo 0, JH hi n, JR P e with
  | some l, some h, some z' => match Nat.ble l h && JbM h n cap && Nat.beq z z' with
   | true => some (.ms id (off + l * z) (h - l) z (JcR cap l))
   | false => none
  | _, _, _ => none
 | .nils, some (.slice e) =>
  match JH lo 0, JH hi 0, JR P e with
  | some 0, some 0, some _ => some .nils
  | _, _, _ => none
 | .ptr id off, some (.array n e) =>
  match JH lo 0, JH hi n, JR P e with
  | some l, some h, some z => match Nat.ble l h && Nat.ble h n with
   | true => some (.ms id (off + l * z) (h - l) z (some (n - l)))
   | false => none
  | _, _, _ => none
 | .cp cs, some (.array n e) =>
  match JH lo 0, JH hi n, JR P e with
  | some l, some h, some z => match Nat.ble l h && Nat.ble h n && Nat.ble (n * z) cs.length with
   | true => some (.sl (h - l) (sub cs (l * z) ((h - l) * z)) (Nat.beq h n))
   | false => none
  | _, _, _ => none
 | _, _ => none
def Jg7 (P : Program) (t : TypeId) (x : V) (lo : Option V) (hi mx : V) : Option V :=
 match x, P.underlying t, Ja6 mx with
 | .ms id off n z cap, some (.slice e), some m =>
  match JH lo 0, Ja6 hi, JR P e with
  | some l, some h, some z' => match Nat.ble h m && Nat.ble l h && JbM m n cap && Nat.beq z z' with
   | true => some (.ms id (off + l * z) (h - l) z (some (m - l)))
   | false => none
  | _, _, _ => none
 | .nils, some (.slice e), some 0 =>
  match JH lo 0, Ja6 hi, JR P e with
  | some 0, some 0, some _ => some .nils
  | _, _, _ => none
 | .sl n cs _, some (.slice e), some m =>
  match JH lo 0, Ja6 hi, JR P e with
  | some l, some h, some z => match Nat.ble h m && Nat.ble l h && Nat.ble m n && Nat.beq cs.length (n * z) with
   | true => some (.sl (h - l) (sub cs (l * z) ((h - l) * z)) (Nat.beq h m))
   | false => none
  | _, _, _ => none
 | _, _, _ => none
def Jd (P : Program) (t : TypeId) (x i : V) : Option V :=
 match x, P.underlying t, Ja6 i with
 | .sl n cs _, some (.slice e), some i =>
  match JR P e, Nat.blt i n with
  | some z, true => some (.cp (cs.drop (i * z)))
  | _, _ => none
 | .ms id off n z _, some (.slice e), some i =>
  match JR P e, Nat.blt i n with
  | some z', true => (match Nat.beq z' z with
   | true => some (.ptr id (off + i * z))
   | false => none)
  | _, _ => none
 | .ptr id off, some (.array n e), some i =>
  match JR P e, Nat.blt i n with
  | some z, true => some (.ptr id (off + i * z))
  | _, _ => none
 | .cp cs, some (.array n e), some i =>
  match JR P e, Nat.blt i n with
  | some z, true => some (.cp (cs.drop (i * z)))
  | _, _ => none
 | _, _, _ => none
def JbN (P : Program) (t : TypeId) (x i : V) : Option V :=
 match x, P.underlying t, Ja6 i with
 | .str s, some .string, some i => match Nat.blt i s.n with
  | true => some (.int .u8 (.ofNat (s.at i)))
  | false => none
 | .agg cs, some (.array n e), some i =>
  match JR P e, Nat.blt i n with
  | some z, true => Q5 P e cs (i * z)
  | _, _ => none
 | _, _, _ => none
def JB (P : Program) (st : St) (t : TypeId) (x : V) : Option V :=
 match x with
 | .cp cs => Q5 P t cs 0
 | .ptr id off => match st.box.get id with
  | some (.cells cs _ _ _) => Q5 P t cs off
  | _ => none
 | _ => none
def bytesOf : List V → Option (List UInt8)
 | [] => some []
 | .int .u8 n :: r => match bytesOf r with | some l => some (UInt8.ofNat n.toNat :: l) | none => none
 | _ => none
def JJ (st : St) (z : Nat) (x : V) : Option (List V × Nat) :=
 match x with
 | .nils => some ([], 0)
 | .sl n cs _ => match Nat.beq cs.length (n * z) with
  | true => some (cs, n)
  | false => none
 | .ms id off n _ _ => match st.box.get id with
  | some (.cells cs _ _ _) => match Nat.ble (off + n * z) cs.length with
   | true => some (sub cs off (n * z), n)
   | false => none
  | _ => none
 | _ => none
def Qi (l : List UInt8) : List V := l.map fun b => .int .u8 b.toNat
def Jbx (P : Program) (st : St) (s d : TypeId) (x : V) : Option V :=
 match P.underlying s, P.underlying d with
 | some (.slice e), some .string =>
  match P.underlying e, JJ st 1 x with
  | some (.int .u8), some (cs, _) => (match bytesOf cs with | some l => some (.str (S.ofList l)) | none => none)
  | _, _ => none
 | some (.pointer t), some .unsafePointer =>
  match x with
  | .nilp => some .nilp
  | .ptr id off => match st.box.get id, JR P t with
   | some (.cells cs _ _ _), some (_ + 1) => match Nat.blt off cs.length with
    | true => some (.ptr id off)
    | false => none
   | _, _ => none
  | _ => none
 | some .unsafePointer, some (.pointer u) =>
  match x with
  | .nilp => some .nilp
  | .ptr id off => match st.box.get id, JR P u with
   | some (.cells cs e true _), some _ => match liesAt P P.depth e (cs.length / P.cellsOf e) off u 1 with
    | true => some (.ptr id off)
    | false => none
   | _, _ => none
  | _ => none
 | _, _ => QJ P (fun l => convert s d (l.getD 0 undef)) [x]
def QU (P : Program) (t : TypeId) (x : V) : Option V :=
 match x, P.underlying t with
 | .str s, some .string => some (.int .i64 (.ofNat s.n))
 | .nils, some (.slice _) => some (.int .i64 0)
 | .sl n _ _, some (.slice _) => some (.int .i64 n)
 | .ms _ _ n _ _, some (.slice _) => some (.int .i64 n)
 | _, some (.array n _) => some (.int .i64 n)
 | _, _ => none
def JcS (d : TypeDesc) (a b : V) : Option Bool :=
 match d, a, b with
 | .int _, .int k x, .int j y => match decide (k = j) with
  | true => some (x == y)
  | false => none
 | .string, .str x, .str y => some (x.same y)
 | _, _, _ => none
def JeG (d : TypeDesc) (k : V) : List (V × V × Nat) → Nat → Option (Option (Nat × V))
 | [], _ => some none
 | (k', v, _) :: r, i => match JcS d k k' with
  | some true => some (some (i, v))
  | some false => JeG d k r (i + 1)
  | none => none
def okV (ok : Bool) (v : V) (b : Bool) : V :=
 match ok with
 | true => .tup [v, .bool b]
 | false => v
def Jdb (P : Program) (st : St) (t : TypeId) (x k : V) (ok : Bool) : Option V :=
 match P.underlying t with
 | some (.map kt et) =>
  match P.underlying kt, (match x with | .nilm => some [] | .mapp id => (match st.box.get id with | some (.entries l _) => some l | _ => none) | _ => none) with
  | some d, some l =>
   match JcS d k k, JeG d k l 0 with
   | some true, some (some (_, v)) => some (okV ok v true)
   | some true, some none => match Q7 P et with
    | some z => some (okV ok z false)
    | none => none
   | _, _ => none
  | _, _ => none
 | _ => none
def JD (P : Program) (s : TypeId) (x : V) (f : Nat) : Option V :=
 match P.underlying s with
 | some (.struct fs) =>
  match fs[f]? with
  | some f => match JR P f.type with
   | some (_ + 1) => match x with
    | .ptr id off => some (.ptr id (off + f.offset))
    | .cp cs => some (.cp (cs.drop f.offset))
    | _ => none
   | _ => none
  | none => none
 | _ => none
def JiV (P : Program) (s : TypeId) (x : V) (f : Nat) : Option V :=
 match x, P.underlying s with
 | .agg cs, some (.struct fs) =>
  match fs[f]? with
  | some f => Q5 P f.type cs f.offset
  | none => none
 | _, _ => none
def Jx (fr : Fr) : List (Nat × Operand) → Option (List (Nat × V))
 | [] => some []
 | (i, x) :: r => match ev fr x with
  | some v => match Jx fr r with | some l => some ((i, v) :: l) | none => none
  | none => none
def JhY (P : Program) (fs : List Field) : Option (List (Nat × Nat)) :=
 Jc (fun f => match JR P f.type with | some z => some (f.offset, z) | none => none) fs
def over (l : List V) (off : Nat) (cs : List V) : List V := l.take off ++ cs ++ l.drop (off + cs.length)
def Jfy (place : Nat → Option (Nat × Nat)) (cells : List V) : List (Nat × V) → Option (List V)
 | [] => some cells
 | (i, v) :: rest =>
  match place i with
  | none => none
  | some (off, size) =>
   match Nat.beq v.cells.length size && Nat.ble (off + size) cells.length with
   | true => Jfy place (over cells off v.cells) rest
   | false => none
def JbO (P : Program) (t : TypeId) (parts : List (Nat × V)) : Option V :=
 match Q7 P t, P.underlying t with
 | some z, some (.struct fs) =>
  match JhY P fs.toList with
  | some pl => match Jfy (fun i => pl[i]?) z.cells parts with
   | some cs => some (.agg cs)
   | none => none
  | none => none
 | some z, some (.array _ e) =>
  match JR P e with
  | some n => match Jfy (fun i => some (i * n, n)) z.cells parts with
   | some cs => some (.agg cs)
   | none => none
  | none => none
 | _, _ => none
def Jba (z : List V) : Nat → List V
 | 0 => []
 | n + 1 => z ++ Jba z n
def Qc (P : Program) (t : TypeId) (len : Nat) (parts : List (Nat × V)) : Option (List V × TypeId × Nat) :=
 match P.underlying t with
 | some (.slice e) =>
  match JR P e, Q7 P e with
  | some z, some zv => match Nat.ble (len * z) 16777216 && Nat.beq zv.cells.length z with
   | true => match Jfy (fun i => some (i * z, z)) (Jba zv.cells len) parts with
    | some cs => match cs.all Ju with
     | true => some (cs, e, z)
     | false => none
    | none => none
   | false => none
  | _, _ => none
 | _ => none
def Jg8 (P : Program) (x : V) (asserted : TypeId) (ok : Bool) : Option V :=
 match P.underlying asserted, x with
 | some (.interface want), .iface t v =>
  match P.info? t with
  | some i => match Instr.missingMethod want i.methods, ok with
   | none, true => some (.tup [.iface t v, .bool true])
   | none, false => some (.iface t v)
   | some _, true => (match Q7 P asserted with
    | some z => some (.tup [z, .bool false])
    | none => none)
   | some _, false => none
  | none => none
 | some (.interface _), .nili =>
  match ok, Q7 P asserted with
  | true, some z => some (.tup [z, .bool false])
  | _, _ => none
 | some _, .iface t v =>
  match Nat.beq t asserted, ok with
  | true, true => some (.tup [v, .bool true])
  | true, false => some v
  | false, true => (match Q7 P asserted with
   | some z => some (.tup [z, .bool false])
   | none => none)
  | false, false => none
 | some _, .nili =>
  match ok, Q7 P asserted with
  | true, some z => some (.tup [z, .bool false])
  | _, _ => none
 | _, _ => none
def Jy (P : Program) (fr : Fr) (st : St) (o : Op) : Option V :=
 match o with
 | .move x | .assign x => ev fr x
 | .pick c a b =>
  match ev fr c with
  | some (.bool true) => ev fr a
  | some (.bool false) => ev fr b
  | _ => none
 | .nilCheck x => match ev fr x with
  | some (.ptr id off) => some (.ptr id off)
  | some (.cp cs) => some (.cp cs)
  | some (.fn f a c) => some (.fn f a c)
  | _ => none
 | .binOp op t x y _ => match ev fr x, ev fr y with
  | some a, some b => Je P (isK x || isK y) op t a b
  | _, _ => none
 | .unOp op _ x => match ev fr x with
  | some (.bool b) => (match op with | .not => some (.bool !b) | _ => none)
  | some v => QJ P (fun l => Op.unary op (l.getD 0 undef)) [v]
  | none => none
 | .convert s d x => match ev fr x with
  | some v => Jbx P st s d v
  | none => none
 | .makeInterface t x => match ev fr x, P.underlying t with
  | some _, some (.interface _) => none
  | some v, some _ => some (.iface t v)
  | _, _ => none
 | .makeFunc (.func f) a c => match evs fr a.toList, evs fr c.toList with
  | some a, some c => some (.fn f a c)
  | _, _ => none
 | .slice t x lo hi none => match ev fr x, JU fr lo, JU fr hi with
  | some x, some lo, some hi => QA P t x lo hi
  | _, _, _ => none
 | .slice t x lo (some hi) (some mx) => match ev fr x, JU fr lo, ev fr hi, ev fr mx with
  | some x, some lo, some hi, some mx => Jg7 P t x lo hi mx
  | _, _, _, _ => none
 | .typeAssert x _ asserted ok => match ev fr x with
  | some x => Jg8 P x asserted ok
  | none => none
 | .fieldAddr s x f => match ev fr x with
  | some x => JD P s x f
  | none => none
 | .field s x f => match ev fr x with
  | some x => JiV P s x f
  | none => none
 | .indexAddr t x i => match ev fr x, ev fr i with
  | some x, some i => Jd P t x i
  | _, _ => none
 | .index t x i => match ev fr x, ev fr i with
  | some x, some i => JbN P t x i
  | _, _ => none
 | .extract x i => match ev fr x with
  | some (.tup vs) => vs[i]?
  | _ => none
 | .build t parts => match Jx fr parts.toList with
  | some ps => JbO P t ps
  | none => none
 | .load t x => match ev fr x with
  | some x => JB P st t x
  | none => none
 | .lookup t x k ok => match ev fr x, ev fr k with
  | some x, some k => Jdb P st t x k ok
  | _, _ => none
 | .call { callee := .builtin .len, args := a, argTypes := ts } =>
  match a.toList, ts.toList with
  | [x], t :: _ => (match ev fr x with
   | some v => QU P t v
   | none => none)
  | _, _ => none
 | .call { callee := .builtin .cap, args := a, argTypes := ts } =>
  match a.toList, ts.toList with
  | [x], t :: _ => (match ev fr x, P.underlying t with
   | some .nils, some (.slice _) => some (.int .i64 0)
   | some (.ms _ _ _ _ (some c)), some (.slice _) => some (.int .i64 (.ofNat c))
   | _, _ => none)
  | _, _ => none
 | .call { callee := .builtin .unsafeSliceData, args := a, argTypes := _ } =>
  match a.toList with
  | [x] => (match ev fr x with
   | some .nils => some .nilp
   | some (.ms id off (_ + 1) _ _) => some (.ptr id off)
   | _ => none)
  | _ => none
 | .call { callee := .builtin .min, args := a, argTypes := _ } =>
  match evs fr a.toList with
  | some vs => QJ P (fun l => Builtin.min_ #[] 0 l.toArray) vs
  | none => none
 | .call { callee := .builtin .max, args := a, argTypes := _ } =>
  match evs fr a.toList with
  | some vs => QJ P (fun l => Builtin.max_ #[] 0 l.toArray) vs
  | none => none
 | _ => none
def Jv (P : Program) (fr : Fr) (o : Op) : Option (List V × TypeId × Option (Nat × Nat)) :=
 match o with
 | .alloc t => match Q7 P t with
  | some z => some (z.cells, t, none)
  | none => none
 | .box t x => match ev fr x with
  | some v => some (v.cells, t, none)
  | none => none
 | .buildSlice t len parts => match Jx fr parts.toList with
  | some ps => match Qc P t len ps with
   | some (cs, e, z) => some (cs, e, some (len, z))
   | none => none
  | none => none
 | _ => none
def JM (id : Nat) : Option (Nat × Nat) → V
 | none => .ptr id 0
 | some (n, z) => .ms id 0 n z (some n)
inductive Kd where | p | r | a | e
 deriving DecidableEq, Inhabited
def Js (P : Program) : Op → Kd
 | .load .. | .lookup .. => .r
 | .convert s d _ => (match P.underlying s, P.underlying d with | some .string, some (.slice _) => .e | _, _ => .r)
 | .alloc _ | .box .. | .buildSlice .. => .a
 | .move _ | .assign _ | .pick .. | .nilCheck _ | .binOp .. | .unOp .. | .makeInterface .. | .makeFunc .. | .slice .. | .fieldAddr .. | .field .. | .indexAddr .. | .index .. | .extract .. | .build .. | .typeAssert .. => .p
 | .call { callee := .builtin b, .. } => (match b with | .len | .min | .max | .cap | .unsafeSliceData => .p | _ => .e)
 | _ => .e
inductive ER where
 | val (v : V) (st : St)
 | panic (v : V) (st : St)
 | fail (why : String)
 deriving Inhabited
def JaN (P : Program) (st : St) (t : TypeId) (x v : V) : Option St :=
 match x, JR P t with
 | .ptr id off, some n =>
  match st.box.get id with
  | some (.cells cs e fl fz) => match Nat.beq v.cells.length n && Nat.ble (off + n) cs.length && v.cells.all Ju && Jb8 fz off with
   | true => some { st with box := st.box.put id (.cells (over cs off v.cells) e fl fz) }
   | false => none
  | _ => none
 | _, _ => none
def Qj (st : St) (z : Nat) (x : V) : Option (List V × Nat) :=
 match x with
 | .str s => match Nat.beq z 1 with
  | true => some (Qi s.toList, s.n)
  | false => none
 | _ => JJ st z x
def Jr : Nat := 70368744177664
inductive Room where
 | here | fresh | gone
def QV (len off n m z : Nat) : Option Nat → Room
 | some c => match Nat.ble (n + m) c with
  | true => .here
  | false => .fresh
 | none => match Nat.ble (off + (n + m) * z) len with
  | true => .here
  | false => .gone
def J0 (P : Program) (st : St) (t : TypeId) (s x : V) : Option (V × St) :=
 match P.underlying t with
 | some (.slice e) =>
  match P.info? e with
  | some i =>
   match Nat.beq i.size 0, Q7 P e with
   | false, some zv =>
    match Qj st i.size x, JJ st i.size s with
    | some (news, m), some (olds, n) =>
     match Nat.beq m 0 with
     | true => some (s, st)
     | false =>
      match Nat.ble ((n + m) * i.bytes) Jr && Nat.ble (n + m) Jr && Nat.beq zv.cells.length i.size && news.all Ju with
      | true =>
       let r : V := .ms st.ctr 0 (n + m) i.size none
       let b : Bx := .cells (olds ++ news) e false (some 0)
       match s with
       | .nils => some (r, { ctr := st.ctr + 1, box := st.box.put st.ctr b })
       | .sl _ _ true => some (r, { ctr := st.ctr + 1, box := st.box.put st.ctr b })
       | .ms id off _ z cap =>
        match st.box.get id, Nat.beq z i.size with
        | some (.cells cs e' fl fz), true =>
         match QV cs.length off n m z cap with
         | .here => match Nat.ble (off + (n + m) * z) cs.length && Jb8 fz (off + n * z) with
          | true => some (.ms id off (n + m) z cap, { st with box := st.box.put id (.cells (over cs (off + n * z) news) e' fl fz) })
          | false => none
         | .fresh => some (r, { ctr := st.ctr + 1, box := st.box.put st.ctr b })
         | .gone => match Jb8 fz (off + n * z) && Nat.beq e e' with
          | true => some (r, { ctr := st.ctr + 1, box := (st.box.del id).put st.ctr (.cells (olds ++ news) e false (Jgy fz off)) })
          | false => none
        | _, _ => none
       | _ => none
      | false => none
    | _, _ => none
   | _, _ => none
  | none => none
 | _ => none
def JcT (P : Program) (st : St) (t : TypeId) (s x : V) : Option (V × St) :=
 match P.underlying t, Ja6 x with
 | some (.slice e), some n => match JR P e, Q7 P e with
  | some z, some zv => match Nat.beq zv.cells.length z with
   | true => J0 P st t s (.sl n (Jba zv.cells n) false)
   | false => none
  | _, _ => none
 | _, _ => none
def Jgz (P : Program) (st : St) (t : TypeId) (l c : V) : Option (V × St) :=
 match P.underlying t with
 | some (.slice e) =>
  match P.info? e, Q7 P e, Ja6 l, Ja6 c with
  | some i, some zv, some l, some c =>
   match Nat.ble l c && Nat.ble (i.bytes * c) Jr && Nat.ble c Jr && Nat.beq zv.cells.length i.size && !(Nat.beq i.size 0) with
   | true => some (.ms st.ctr 0 l i.size (some c), { ctr := st.ctr + 1, box := st.box.put st.ctr (.cells (Jba zv.cells c) e true (some 0)) })
   | false => none
  | _, _, _, _ => none
 | _ => none
def JeH (P : Program) (st : St) (t : TypeId) (d x : V) : Option (V × St) :=
 match P.underlying t with
 | some (.slice e) =>
  match JR P e with
  | some z =>
   match Qj st z x, d with
   | some _, .ms _ _ 0 _ _ => some (.int .i64 0, st)
   | some (news, m), .ms id off n z' _ =>
    match st.box.get id with
    | some (.cells cs e fl fz) =>
     let k := Nat.min n m
     match Nat.beq z z' && Nat.ble (off + n * z) cs.length && news.all Ju && Jb8 fz off && !(Nat.beq n 0) with
     | true => some (.int .i64 (.ofNat k), { st with box := st.box.put id (.cells (over cs off (news.take (k * z))) e fl fz) })
     | false => none
    | _ => none
   | some _, .nils => some (.int .i64 0, st)
   | _, _ => none
  | none => none
 | _ => none
def JdV (st : St) : V × St := (.mapp st.ctr, { ctr := st.ctr + 1, box := st.box.put st.ctr (.entries [] 0) })
def Jaz (l : List (V × V × Nat)) (i : Nat) (v : V) : List (V × V × Nat) :=
 match l, i with
 | [], _ => []
 | (k, _, n) :: r, 0 => (k, v, n) :: r
 | e :: r, i + 1 => e :: Jaz r i v
def Jbe (P : Program) (st : St) (t : TypeId) (m k v : V) : Option St :=
 match P.underlying t, m with
 | some (.map kt _), .mapp id =>
  match P.underlying kt, st.box.get id with
  | some d, some (.entries l clock) =>
   match JcS d k k, JeG d k l 0 with
   | some true, some (some (i, _)) => some { st with box := st.box.put id (.entries (Jaz l i v) clock) }
   | some true, some none => some { st with box := st.box.put id (.entries (l ++ [(k, v, clock)]) (clock + 1)) }
   | _, _ => none
  | _, _ => none
 | _, _ => none
inductive Cl where
 | f (n : Nat)
 | y (id : Nat)
 deriving Inhabited
def Jfz (P : Program) (st : St) (t : TypeId) (x : V) : Option (V × St) :=
 match P.underlying t, x with
 | some .string, .str s => some (.ptr st.ctr 0, { st with ctr := st.ctr + 1, box := st.box.put st.ctr (.iter s 0) })
 | _, _ => none
def JfA (st : St) (x : V) (isString : Bool) : Option (V × St) :=
 match x, isString with
 | .ptr id 0, true =>
  match st.box.get id with
  | some (.iter s pos) =>
   match Nat.blt pos s.n with
   | true =>
    let d := Utf8.decode ⟨⟨s.toList⟩⟩ pos
    some (.tup [.bool true, .int .i64 (.ofNat pos), .int .i32 (.ofNat d.1)], { st with box := st.box.put id (.iter s (pos + d.2)) })
   | false => some (.tup [.bool false], st)
  | _ => none
 | _, _ => none
abbrev CallF := Gl → Cl → List V → St → ER
def Jal (P : Program) (fn : Func) (args : List V) : Option V :=
 match Extern.findNext fn with
 | some _ => none
 | none => match Extern.find fn with
  | some e => QJ P (fun l => e l.toArray) args
  | none => none
def JgA (P : Program) (fn : Func) (args : List V) (st : St) : Option (V × St) :=
 match fn.name, args with
 | "sync/atomic.LoadUint32", [.ptr id off] => match st.box.get id with
  | some (.cells cs _ _ _) => (match cs[off]? with
   | some (.int .u32 n) => some (.int .u32 n, st)
   | _ => none)
  | _ => none
 | "sync/atomic.StoreUint32", [.ptr id off, .int .u32 n] => match st.box.get id with
  | some (.cells cs e fl fz) => (match cs[off]? with
   | some (.int .u32 _) => (match Jb8 fz off with
    | true => some (.tup [], { st with box := st.box.put id (.cells (over cs off [.int .u32 n]) e fl fz) })
    | false => none)
   | _ => none)
  | _ => none
 | "sync/atomic.CompareAndSwapInt32", [.ptr id off, .int .i32 a, .int .i32 b] => match st.box.get id with
  | some (.cells cs e fl fz) => (match cs[off]? with
   | some (.int .i32 c) => (match Jb8 fz off, c == a with
    | true, true => some (.bool true, { st with box := st.box.put id (.cells (over cs off [.int .i32 b]) e fl fz) })
    | true, false => some (.bool false, st)
    | _, _ => none)
   | _ => none)
  | _ => none
 | "sync/atomic.AddInt32", [.ptr id off, .int .i32 d] => match st.box.get id with
  | some (.cells cs e fl fz) => (match cs[off]? with
   | some (.int .i32 c) => (match Jb8 fz off with
    | true =>
     let r := IntKind.i32.wrap (c + d)
     some (.int .i32 r, { st with box := st.box.put id (.cells (over cs off [.int .i32 r]) e fl fz) })
    | false => none)
   | _ => none)
  | _ => none
 | "internal/abi.NoEscape", [x] => some (x, st)
 | "internal/race.Acquire", .ptr _ _ :: _ | "internal/race.Release", .ptr _ _ :: _ | "internal/race.ReleaseMerge", .ptr _ _ :: _ => some (.tup [], st)
 | "internal/bytealg.MakeNoZero", [.int .i64 (.ofNat (n + 1))] =>
  match fn.resultTypes.toList, Nat.ble (n + 1) Jr with
  | [t], true => (match P.underlying t with
   | some (.slice e) => some (.ms st.ctr 0 (n + 1) 1 none, { ctr := st.ctr + 1, box := st.box.put st.ctr (.cells [] e false (some 0)) })
   | _ => none)
  | _, _ => none
 | _, _ => none
def Jep (P : Program) (st : St) (s d : TypeId) (x : V) : Option (V × St) :=
 match P.underlying s, P.underlying d, x with
 | some .string, some (.slice e), .str b =>
  match P.underlying e with
  | some (.int .u8) => some (.ms st.ctr 0 b.n 1 none, { ctr := st.ctr + 1, box := st.box.put st.ctr (.cells (Qi b.toList) e false none) })
  | _ => none
 | _, _, _ => none
def JbP (P : Program) (st : St) (pt : TypeId) (x n : V) : Option (V × St) :=
 match Ja6 n, x with
 | some 0, .nilp | some 0, .ptr _ _ => some (.str ⟨0, 0⟩, st)
 | some k, .ptr id off =>
  match st.box.get id, P.underlying pt with
  | some (.cells cs e fl (some fz)), some (.pointer u) =>
   match Nat.beq (P.cellsOf e) 1 && Nat.beq e u && Nat.ble (off + k) cs.length && Nat.ble k Jr, bytesOf (sub cs off k) with
   | true, some l => some (.str (S.ofList l), { st with box := st.box.put id (.cells cs e fl (some (Nat.max fz (off + k)))) })
   | _, _ => none
  | _, _ => none
 | _, _ => none
def JaA (P : Program) (ih : CallF) (gl : Gl) (f : Nat) (args : List V) (st : St) : ER :=
 match P.funcs[f]? with
 | none => .fail "no such function"
 | some fn =>
  match fn.name == "runtime.NumGoroutine" with
  | true => .fail "NumGoroutine"
  | false =>
   match fn.body with
   | some _ => ih gl (.f f) args st
   | none => match Jal P fn args with
    | some v => .val v st
    | none => match Extern.findNext fn, JgA P fn args st with
     | none, some (v, st') => .val v st'
     | _, _ => .fail ("extern " ++ fn.name)
def Jfb (P : Program) (t : TypeId) (name : String) : Option Nat :=
 match P.info? t with
 | some i => match i.methods.find? (·.name == name) with
  | some m => match m.path.toList, m.func, P.underlying t with
   | [], some (f, true), some (.pointer _) => some f
   | [], some (_, false), some (.pointer _) => none
   | [], some (f, false), some _ => some f
   | _, _, _ => none
  | none => none
 | none => none
def Qe (P : Program) (fr : Fr) (st : St) (o : Op) : Option (V × St) :=
 match o with
 | .store t a x => match ev fr a, ev fr x with
  | some a, some x => (match JaN P st t a x with
   | some st' => some (.undef, st')
   | none => none)
  | _, _ => none
 | .makeSlice t l c => match ev fr l, ev fr c with
  | some l, some c => Jgz P st t l c
  | _, _ => none
 | .makeMap _ none => some (JdV st)
 | .insert t m k x => match ev fr m, ev fr k, ev fr x with
  | some m, some k, some x => (match Jbe P st t m k x with
   | some st' => some (.undef, st')
   | none => none)
  | _, _, _ => none
 | .mapUpdate t m k x => match ev fr m, ev fr k, ev fr x with
  | some m, some k, some x => (match Jbe P st t m k x with
   | some st' => some (.undef, st')
   | none => none)
  | _, _, _ => none
 | .range t x => match ev fr x with
  | some x => Jfz P st t x
  | none => none
 | .next x isString => match ev fr x with
  | some x => JfA st x isString
  | none => none
 | .convert s d x => match ev fr x with
  | some x => Jep P st s d x
  | none => none
 | .call { callee := .builtin .append, args := a, argTypes := ts } =>
  match a.toList, ts.toList with
  | [s, x], [t, u] =>
   match P.underlying u, ev fr s, ev fr x with
   | some (.slice _), some s, some x => J0 P st t s x
   | some .string, some s, some x => J0 P st t s x
   | some (.int _), some s, some x => JcT P st t s x
   | _, _, _ => none
  | _, _ => none
 | .call { callee := .builtin .unsafeString, args := a, argTypes := ts } =>
  match a.toList, ts.toList with
  | [d, x], [t, _] =>
   match ev fr d, ev fr x with
   | some d, some x => JbP P st t d x
   | _, _ => none
  | _, _ => none
 | .call { callee := .builtin .copy, args := a, argTypes := ts } =>
  match a.toList, ts.toList with
  | [d, x], [t, _] =>
   match ev fr d, ev fr x with
   | some d, some x => JeH P st t d x
   | _, _ => none
  | _, _ => none
 | _ => none
def J6 (P : Program) (ih : CallF) (fr : Fr) (st : St) (o : Op) : ER :=
 match o with
 | .panic x => match ev fr x with
  | some (.iface t v) => .panic (.iface t v) st
  | _ => .fail "panic"
 | .call { callee := .value f, args := a, argTypes := _ } =>
  match ev fr f, evs fr a.toList with
  | some (.fn f first captured), some vs => JaA P ih fr.gl f (first ++ vs ++ captured) st
  | some (.yld id), some vs => ih fr.gl (.y id) vs st
  | _, _ => .fail "call"
 | .call { callee := .invoke recv name, args := a, argTypes := _ } =>
  match ev fr recv, evs fr a.toList with
  | some (.iface t v), some vs => match Jfb P t name with
   | some f => JaA P ih fr.gl f (v :: vs) st
   | none => .fail ("method " ++ name)
  | _, _ => .fail "a method's call"
 | o => match Qe P fr st o with
  | some (v, st') => .val v st'
  | none => .fail "an act"
def Jj (ops : Array Oper) (fr : Fr) (o : Oper) : Bool :=
 match o.guard with
 | none => true
 | some (j, want) =>
  match ops[j]? with
  | some p => match p.dst with
   | some d => match Fr.at fr d with
    | .bool b => b == want
    | _ => false
   | none => false
  | none => false
def Jos : Op → String
 | .move _ => "move" | .assign _ => "assign" | .pick .. => "pick" | .nilCheck _ => "nilCheck" | .binOp .. => "binOp" | .unOp .. => "unOp" | .convert .. => "convert" | .makeInterface .. => "makeInterface"
 | .makeFunc .. => "makeFunc" | .slice .. => "slice" | .fieldAddr .. => "fieldAddr" | .field .. => "field" | .indexAddr .. => "indexAddr" | .index .. => "index" | .extract .. => "extract" | .build .. => "build"
 | .load .. => "load" | .typeAssert .. => "typeAssert" | .lookup .. => "lookup" | .makeMap .. => "makeMap" | .call { callee := .builtin b, .. } => "builtin " ++ toString (repr b) | _ => "?"
def Jo8 : V → String
 | .bool _ => "bool" | .int _ n => toString n | .str _ => "str" | .nilp => "nilp" | .nils => "nils" | .nilf => "nilf" | .nili => "nili" | .nilm => "nilm" | .sl .. => "sl" | .ms .. => "ms" | .cp _ => "cp" | .ptr .. => "ptr" | .agg _ => "agg" | .tup _ => "tup" | .fn .. => "fn" | .yld _ => "yld" | .mapp _ => "mapp" | .iface t _ => "iface" ++ toString t
def Jl3 (fr : Fr) (o : Op) : String := Jos o ++ " " ++ ", ".intercalate (o.operands.toList.map fun x => match ev fr x with | some v => Jo8 v | none => "none")
def vop (P : Program) (ih : CallF) (fr : Fr) (st : St) (o : Op) : ER :=
 match Js P o with
 | .p | .r => match Jy P fr st o with
  | some v => .val v st
  | none => .fail (Jl3 fr o)
 | .a => match Jv P fr o with
  | some (cs, e, n) => match cs.all Ju with
   | true => .val (JM st.ctr n) { st with ctr := st.ctr + 1, box := st.box.put st.ctr (.cells cs e true (some 0)) }
   | false => .fail "alloc"
  | none => .fail "alloc"
 | .e => J6 P ih fr st o
inductive OR where
 | ok (fr : Fr) (st : St)
 | panic (v : V) (fr : Fr) (st : St)
 | fail (why : String)
 deriving Inhabited
def Jg (P : Program) (f : Nat) : Bool :=
 match P.funcs[f]? with
 | some fn => fn.body.isSome && !(fn.name == "runtime.NumGoroutine")
 | none => false
def Jcx (P : Program) (fr : Fr) (o : Op) : Option Df :=
 match o with
 | .defer { callee := .value f, args := a, argTypes := _ } =>
  match ev fr f, evs fr a.toList with
  | some (.fn f first captured), some vs => match Jg P f with
   | true => some (.call f (first ++ vs ++ captured))
   | false => none
  | _, _ => none
 | _ => none
def Jo : Op → Bool
 | .defer _ => true
 | _ => false
def J8 (P : Program) (ih : CallF) (rd : Option Nat) (ops : Array Oper) : List Oper → Fr → St → OR
 | [], fr, st => .ok fr st
 | o :: r, fr, st =>
  match Jj ops fr o with
  | true => match Jo o.op with
   | false => match vop P ih fr st o.op with
    | .val v st' => J8 P ih rd ops r (Fr.to fr o.dst v) st'
    | .panic v st' => .panic v fr st'
    | .fail w => .fail (o.pos ++ ": " ++ w)
   | true => match rd, Jcx P fr o.op with
    | none, some d => J8 P ih rd ops r (Fr.to { fr with ds := d :: fr.ds } o.dst .undef) st
    | _, _ => .fail (o.pos ++ ": defer")
  | false => J8 P ih rd ops r (Fr.to fr o.dst .undef) st
inductive Md where
 | ret
 | pan (v : V)
 | got (v : V)
 deriving Inhabited
def Jeq : Op → Bool
 | .call { callee := .builtin .recover, .. } => true
 | _ => false
inductive ORS where
 | ok (fr : Fr) (m : Md) (st : St)
 | fail (why : String)
 deriving Inhabited
def Jcj : Md → V × Md
 | .pan v => (v, .got v)
 | m => (.nili, m)
def JdW (P : Program) (ops : Array Oper) : List Oper → Fr → Md → St → ORS
 | [], fr, m, st => .ok fr m st
 | o :: r, fr, m, st =>
  match Jj ops fr o with
  | true => match Jeq o.op with
   | true => JdW P ops r (Fr.to fr o.dst (Jcj m).1) (Jcj m).2 st
   | false => match Js P o.op with
    | .e => match Qe P fr st o.op with
     | some (v, st') => JdW P ops r (Fr.to fr o.dst v) m st'
     | none => .fail (o.pos ++ ": an act beside recover")
    | _ => match vop P (fun _ _ _ _ => .fail "") fr st o.op with
     | .val v st' => JdW P ops r (Fr.to fr o.dst v) m st'
     | _ => .fail (o.pos ++ ": beside recover")
  | false => JdW P ops r (Fr.to fr o.dst .undef) m st
def JaY : Code → Bool
 | .region _ ops _ => ops.toList.any fun o => Jeq o.op
 | .seq a b => JaY a || JaY b
 | .cond _ a b => JaY a || JaY b
 | .block _ b => JaY b
 | .scope b => JaY b
 | _ => false
def Qr (ops : Array Oper) : List Nat := (Region.before ops).toList
def Jj2 (m : Nat) : List Nat → Nat
 | [] => m
 | i :: r => Jj2 (m ||| 2 ^ i) r
def isE (P : Program) (ops : Array Oper) (i : Nat) : Bool := match ops[i]? with | some o => Js P o.op == .e | none => false
def JcK (P : Program) (ops : Array Oper) (b : List Nat) : List Nat :=
 let n := ops.size
 let es := (List.range n).filter (isE P ops)
 let (l, m) := es.foldl (fun (l, m) e =>
  let need := (List.range n).filter fun i => (b.getD e 0).testBit i && !m.testBit i
  (l ++ need ++ [e], Jj2 m (need ++ [e]))) ([], 0)
 l ++ (List.range n).filter fun i => !m.testBit i
def Jg9 : List Nat → Bool
 | [] => true
 | x :: xs => !xs.contains x && Jg9 xs
def looks (ops : Array Oper) (o : Oper) : List Nat :=
  (o.op.operands.toList.filterMap fun | .tmp t => some t | _ => none) ++
  (match o.guard with
   | some (j, _) => (match ops[j]? with | some p => p.dst.toList | none => [])
   | none => [])
def JiW (ops : Array Oper) (b : List Nat) (n : Nat) : Bool :=
 (List.range n).all fun i => match ops[i]? with
  | none => false
  | some x => match x.dst with
   | none => true
   | some d => (List.range n).all fun j => i == j || (match ops[j]? with
    | none => false
    | some y => y.dst != some d && (!(looks ops y).contains d || (b.getD j 0).testBit i || (b.getD i 0).testBit j))
def Jj3 (P : Program) (ops : Array Oper) (b : List Nat) (n : Nat) : List Nat → List Nat → Bool
  | _, [] => true
  | pre, i :: r =>
    (match ops[i]? with
     | none => false
     | some o =>
       o.after.toList.all (fun e => !Region.binds .any e || pre.contains e.on) &&
       (List.range n).all (fun j => !(b.getD i 0).testBit j || (pre.contains j && o.after.toList.any fun e => Region.binds .any e && (e.on == j || (b.getD e.on 0).testBit j))) &&
       (!isE P ops i || pre.all fun q => (b.getD i 0).testBit q)) && Jj3 P ops b n (i :: pre) r
def Ja7 (P : Program) (ops : Array Oper) (b l : List Nat) : Bool :=
 Jg9 l && l.all (fun i => Nat.blt i ops.size) && (List.range ops.size).all (fun i => l.contains i) && b.all (fun m => Nat.blt m (2 ^ ops.size)) && JiW ops b ops.size && Jj3 P ops b ops.size [] l &&
  ops.toList.all (fun o => match o.op with | .select _ _ => false | _ => true)
mutual
def veq : Nat → V → V → Bool
 | 0, _, _ => false
 | d + 1, a, b =>
  match a, b with
  | .bool x, .bool y => x == y
  | .int k x, .int j y => decide (k = j) && x == y
  | .str x, .str y => Nat.beq x.n y.n && Nat.beq x.x y.x
  | .nilp, .nilp | .nils, .nils | .nilf, .nilf | .nili, .nili | .nilm, .nilm => true
  | .yld x, .yld y | .mapp x, .mapp y => x == y
  | .sl n x t, .sl m y u => n == m && t == u && Jdm d x y
  | .ms a b c z e, .ms a' b' c' z' e' => a == a' && b == b' && c == c' && z == z' && decide (e = e')
  | .cp x, .cp y => Jdm d x y
  | .ptr x y, .ptr z w => x == z && y == w
  | .iface t x, .iface u y => t == u && veq d x y
  | .agg x, .agg y => Jdm d x y
  | .tup x, .tup y => Jdm d x y
  | .fn f x u, .fn g y v => f == g && Jdm d x y && Jdm d u v
  | _, _ => false
def Jdm : Nat → List V → List V → Bool
 | 0, _, _ => false
 | _ + 1, [], [] => true
 | d + 1, a :: x, b :: y => veq d a b && Jdm d x y
 | _, _, _ => false
end
structure Drw where
 fr : Fr
 st : St
 snaps : List (Nat × St)
def JO (P : Program) (fr : Fr) (o : Op) (v : V) (m : Nat) : List (Nat × St) → Bool
 | [] => true
 | (k, s) :: r => (match Jy P fr s o with | some u => veq 1000000000 u v | none => false) && (m.testBit k || JO P fr o v m r)
def Qk (P : Program) (ih : CallF) (ops : Array Oper) (b : List Nat) (c0 : Nat) (i : Nat) (d : Drw) : Option Drw :=
 match ops[i]? with
 | some o =>
  match Jj ops d.fr o with
  | false => some { fr := Fr.to d.fr o.dst .undef, st := d.st, snaps := (match Js P o.op with | .e => (i, d.st) :: d.snaps | _ => d.snaps) }
  | true =>
   match Js P o.op with
   | .p => match Jy P d.fr d.st o.op with
    | some v => some { d with fr := Fr.to d.fr o.dst v }
    | none => none
   | .r => match d.snaps with
    | (_, s0) :: _ => match Jy P d.fr s0 o.op with
     | some v => match JO P d.fr o.op v (b.getD i 0) d.snaps with
      | true => some { d with fr := Fr.to d.fr o.dst v }
      | false => none
     | none => none
    | [] => none
   | .a => match Jv P d.fr o.op with
    | some (cs, e, n) => match cs.all Ju with
     | true => some { fr := Fr.to d.fr o.dst (JM (c0 + i) n), st := { d.st with box := d.st.box.put (c0 + i) (.cells cs e true (some 0)) }, snaps := d.snaps }
     | false => none
    | none => none
   | .e => match J6 P ih d.fr d.st o.op with
    | .val v st' => some { fr := Fr.to d.fr o.dst v, st := st', snaps := (i, st') :: d.snaps }
    | _ => none
 | none => none
def J9 (P : Program) (ih : CallF) (ops : Array Oper) (b : List Nat) (c0 : Nat) : List Nat → Drw → Option Drw
 | [], d => some d
 | i :: r, d => match Qk P ih ops b c0 i d with
  | some d' => J9 P ih ops b c0 r d'
  | none => none
def Jj4 (P : Program) (ih : CallF) (ops : Array Oper) (b : List Nat) (c0 : Nat) : List Nat → Drw → String
 | [], _ => ""
 | i :: r, d => match Qk P ih ops b c0 i d with
  | some d' => Jj4 P ih ops b c0 r d'
  | none => (match ops[i]? with
   | some o => o.pos ++ " (" ++ toString i ++ ") " ++ (match Js P o.op with | .e => (match J6 P ih d.fr d.st o.op with | .fail w => w | .panic _ _ => "a panic" | _ => "?") | _ => Jl3 d.fr o.op)
   | none => "")
inductive AE where
 | normal | exit (id : Nat) | ret | panic (v : V)
 deriving Inhabited
inductive Task where
 | code (rd : Option Nat) (c : Code) (fr : Fr)
 | call (gl : Gl) (f : Nat) (args : List V)
 | round (gl : Gl) (id : Nat) (args : List V)
 | dcall (gl : Gl) (f : Nat) (args : List V) (m : Md)
 | dcode (c : Code) (fr : Fr) (m : Md)
inductive Res where
 | code (e : AE) (fr : Fr) (st : St)
 | call (r : ER)
 | dcode (e : AE) (fr : Fr) (m : Md) (st : St)
 | dcall (m : Md) (st : St)
 | fail (why : String)
 deriving Inhabited
def JgB (args : List V) : Nat → Tr V → Tr V := fun i t => (args.foldl (fun (p : Tr V × Nat) v => (p.1.put p.2 v, p.2 + 1)) (t, i)).1
def JC (gl : Gl) (args : List V) : Fr := ⟨JgB args 0 .nil, [], gl⟩
def Jw (P : Program) (fr : Fr) (st : St) : ResultVar → Option V
 | .tmp t => some (Fr.at fr t)
 | .cell a t => JB P st t (Fr.at fr a)
def Jz : List V → V
 | [v] => v
 | vs => .tup vs
def Jck (n : Nat) (o : Oper) : Bool := match o.dst with | some d => Nat.blt d n | none => true
def JV (n : Nat) : Code → Bool
 | .region _ ops _ => ops.toList.all (Jck n)
 | .seq a b => JV n a && JV n b
 | .cond _ a b => JV n a && JV n b
 | .block _ b => JV n b
 | .loop b => JV n b
 | .scope b => JV n b
 | .rangeFunc _ ps a b => ps.toList.all (fun t => Nat.blt t n) && JV n a && JV n b
 | _ => true
def ihCall (ih : Task → St → Res) : CallF := fun gl c args st =>
 match (match c with | .f f => ih (.call gl f args) st | .y id => ih (.round gl id args) st) with
 | .call r => r
 | .fail w => .fail w
 | _ => .fail "call"
def St.put (st : St) (id : Nat) (x : Bx) : St := { st with box := st.box.put id x }
def St.new (st : St) (x : Bx) : St := { st with ctr := st.ctr + 1, box := st.box.put st.ctr x }
def Jha (rd : Option Nat) (fr : Fr) (st : St) (ps : List Tmp) (assign body : Code) : Option (Nat × Fr × St) :=
 match rd with
 | none => some (st.ctr + 1, { fr with ds := .mark st.ctr :: fr.ds }, (st.new (.mark false)).new (.loop .ready none fr.t ps assign body))
 | some l => match st.box.get l with
  | some (.loop _ _ _ _ _ _) => some (st.ctr, fr, st.new (.loop .ready none fr.t ps assign body))
  | _ => none
def JiX : List Tmp → List V → Tr V → Tr V
 | p :: ps, v :: vs, t => JiX ps vs (t.put p v)
 | _, _, t => t
def JiY (id : Nat) (fr : Fr) (st : St) : Res :=
 match st.box.get id with
 | some (.loop s pend t ps a b) =>
  match s with
  | .busy => .fail "a round is under way"
  | _ =>
   let st' := st.put id (.loop .exhausted pend t ps a b)
   match pend with
   | none => .code .normal fr st'
   | some .ret => .code .ret fr st'
   | some (.exit x) => .code (.exit x) fr st'
   | _ => .fail "a jump out of a range"
 | _ => .fail "no loop"
def endRound (id : Nat) (e : AE) (st : St) : Res :=
 match st.box.get id with
 | some (.loop _ _ t ps a b) =>
  match e with
  | .normal => .call (.val (.bool true) (st.put id (.loop .ready none t ps a b)))
  | .ret => .call (.val (.bool false) (st.put id (.loop .done (some .ret) t ps a b)))
  | .exit x => .call (.val (.bool false) (st.put id (.loop .done (some (.exit x)) t ps a b)))
  | .panic _ => .fail "a panic within a round"
 | _ => .fail "no loop"
def Jfc : Md → Md
 | .got _ => .ret
 | m => m
def Jao (P : Program) (ih : Task → St → Res) (fn : Func) (fr : Fr) : List Df → Md → St → Res
 | [], m, st => match m with
  | .ret => match Jc (Jw P fr st) fn.results.toList with
   | some vs => .call (.val (Jz vs) st)
   | none => .fail "results"
  | .pan v => .call (.panic v st)
  | .got _ => .fail "recovered"
 | .mark id :: ds, m, st => match st.box.get id with
  | some (.mark false) => Jao P ih fn fr ds m (st.put id (.mark true))
  | _ => .fail "no mark"
 | .call f args :: ds, m, st => match Jg P f with
  | true => match ih (.dcall fr.gl f args m) st with
   | .dcall m' st' => Jao P ih fn fr ds (Jfc m') st'
   | .fail w => .fail w
   | _ => .fail "a deferred call"
  | false => .fail "a deferred call of no function"
def body (P : Program) (ih : Task → St → Res) : Task → St → Res
 | .code rd c fr, st =>
  match c with
  | .skip => .code .normal fr st
  | .seq a b => match ih (.code rd a fr) st with
   | .code .normal fr' st' => ih (.code rd b fr') st'
   | r => r
  | .cond x a b => match ev fr x with
   | some (.bool true) => ih (.code rd a fr) st
   | some (.bool false) => ih (.code rd b fr) st
   | _ => .fail "cond"
  | .block id b => match ih (.code rd b fr) st with
   | .code (.exit id') fr' st' => match Nat.beq id' id with
    | true => .code .normal fr' st'
    | false => .code (.exit id') fr' st'
   | r => r
  | .loop b => match ih (.code rd b fr) st with
   | .code .normal fr' st' => ih (.code rd (.loop b) fr') st'
   | r => r
  | .scope b => ih (.code rd b fr) st
  | .exit id => .code (.exit id) fr st
  | .ret => .code .ret fr st
  | .rangeFunc g ps a b => match ev fr g with
   | some (.fn f first captured) => match Jg P f, Jha rd fr st ps.toList a b with
    | true, some (id, fr', st') => match ihCall ih fr.gl (.f f) (first ++ [.yld id] ++ captured) st' with
     | .val _ st2 => JiY id fr' st2
     | .panic v st2 => .code (.panic v) fr' st2
     | .fail w => .fail w
    | _, _ => .fail "a range over a function"
   | _ => .fail "a range over no function"
  | .region _ ops false =>
   match J8 P (ihCall ih) rd ops ops.toList fr st with
   | .ok fr' st' => .code .normal fr' st'
   | .panic v fr' st' => .code (.panic v) fr' st'
   | .fail w => .fail w
  | .region _ ops true =>
   match Ja7 P ops (Qr ops) (JcK P ops (Qr ops)) with
   | true =>
    match J9 P (ihCall ih) ops (Qr ops) st.ctr (JcK P ops (Qr ops)) { fr := fr, st := { st with ctr := st.ctr + ops.size }, snaps := [(ops.size, { st with ctr := st.ctr + ops.size })] } with
    | some d => .code .normal d.fr d.st
    | none => .fail ("draw " ++ Jj4 P (ihCall ih) ops (Qr ops) st.ctr (JcK P ops (Qr ops)) { fr := fr, st := { st with ctr := st.ctr + ops.size }, snaps := [(ops.size, { st with ctr := st.ctr + ops.size })] })
   | false => .fail ("JcK " ++ (match ops[0]? with | some o => o.pos | none => ""))
  | _ => .fail "code"
 | .call gl f args, st =>
  match P.funcs[f]? with
  | none => .fail "func"
  | some fn => match fn.body with
   | none => .fail "no body"
   | some c =>
    match Nat.ble args.length fn.ntmps && JV fn.ntmps c with
    | false => .fail "slots"
    | true =>
     match ih (.code none c (JC gl args)) st with
     | .code (.exit _) _ _ => .fail "exit"
     | .code (.panic v) fr' st' => Jao P ih fn fr' fr'.ds (.pan v) st'
     | .code _ fr' st' => Jao P ih fn fr' fr'.ds .ret st'
     | .fail w => .fail (fn.name ++ " < " ++ w)
     | _ => .fail "call"
 | .round gl id args, st =>
  match st.box.get id with
  | some (.loop _ _ t ps a bd) =>
   match Nat.beq args.length ps.length with
   | true => match ih (.code (some id) a ⟨JiX ps args t, [], gl⟩) st with
    | .code .normal fr1 st1 => match st1.box.get id with
     | some (.loop .ready pend t ps a' b) => match ih (.code (some id) bd fr1) (st1.put id (.loop .busy pend t ps a' b)) with
      | .code e _ st2 => endRound id e st2
      | .fail w => .fail w
      | _ => .fail "round"
     | _ => .fail "a loop that is not ready"
    | .fail w => .fail w
    | _ => .fail "a round's variables"
   | false => .fail "yield's arguments"
  | _ => .fail "no loop"
 | .dcall gl f args m, st =>
  match P.funcs[f]? with
  | none => .fail "func"
  | some fn => match fn.body with
   | none => .fail "no body"
   | some c =>
    match Nat.ble args.length fn.ntmps && JV fn.ntmps c with
    | false => .fail "slots"
    | true =>
     match ih (.dcode c (JC gl args) m) st with
     | .dcode e fr' m' st' => match e, fr'.ds with
      | .normal, [] | .ret, [] => match Jc (Jw P fr' st') fn.results.toList with
       | some _ => .dcall m' st'
       | none => .fail "results"
      | _, _ => .fail "the end of a deferred call"
     | .fail w => .fail (fn.name ++ " < " ++ w)
     | _ => .fail "a deferred call"
 | .dcode c fr m, st =>
  match JaY c with
  | false => match ih (.code none c fr) st with
   | .code e fr' st' => .dcode e fr' m st'
   | .fail w => .fail w
   | _ => .fail "a deferred call's code"
  | true => match c with
   | .seq a b => match ih (.dcode a fr m) st with
    | .dcode .normal fr' m' st' => ih (.dcode b fr' m') st'
    | r => r
   | .cond x a b => match ev fr x with
    | some (.bool true) => ih (.dcode a fr m) st
    | some (.bool false) => ih (.dcode b fr m) st
    | _ => .fail "cond"
   | .block id b => match ih (.dcode b fr m) st with
    | .dcode (.exit id') fr' m' st' => match Nat.beq id' id with
     | true => .dcode .normal fr' m' st'
     | false => .dcode (.exit id') fr' m' st'
    | r => r
   | .scope b => ih (.dcode b fr m) st
   | .region _ ops false =>
    match JdW P ops ops.toList fr m st with
    | .ok fr' m' st' => .dcode .normal fr' m' st'
    | .fail w => .fail w
   | _ => .fail "a deferred call's code"
structure Mf where run : List V → St → Option (V × St)
class Memo where
 look : Nat → Mf
 only : Gl → Prop
def Jot : Mf := ⟨fun _ _ => none⟩
abbrev Memo.none : Memo := ⟨fun _ => Jot, fun _ => True⟩
def JdX (P : Program) [Memo] (ih : Task → St → Res) : Task → St → Res
 | .call gl f args, st => match (Memo.look f).run args st with
  | some (v, st') => .call (.val v st')
  | none => body P ih (.call gl f args) st
 | t, st => body P ih t st
def X (P : Program) [Memo] : Nat → Task → St → Res
 | 0 => fun _ _ => .fail "fuel"
 | n + 1 => JdX P (X P n)
end Go.Vm
