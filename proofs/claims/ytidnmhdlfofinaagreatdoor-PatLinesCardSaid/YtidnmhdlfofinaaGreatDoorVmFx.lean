/- The fast evaluator: code is compiled to closures; single-use slots lie on a stack. Its answers are the evaluator's (VmFx5). -/
import Derived.Test.YtidnmhdlfofinaaGreatDoorVmDef
namespace Go.Vm
open Go
inductive RX where
  | n (t : Tr V) (st : St)
  | x (id : Nat) (t : Tr V) (st : St)
  | r (t : Tr V) (st : St)
  | p (v : V) (st : St)
  | bad
abbrev Ih := Task → St → Res
structure Gt where run : Tr V → V
structure Pt where run : Tr V → V → Tr V
structure Mt where run : Tr V → List V → Tr V
structure Rd where run : Tr V → List V → V
structure Ls where run : Tr V → List V → List V
structure It where run : List V → Tr V → Tr V
structure CX where run : Ih → Gl → Tr V → List V → St → (V → St → RX) → RX
structure Exe where run : Ih → Gl → Tr V → List V → St → RX
structure Ex where run : Ih → Gl → Tr V → St → RX
structure FE where run : Ih → Gl → List V → St → Res
def atT (t : Tr V) (n : Nat) : V :=
  match t.get n with
  | some v => v
  | none => .undef
noncomputable def getC : Nat → Nat → Gt
  | 0, _ => ⟨fun _ => .undef⟩
  | f + 1, n =>
    match Nat.beq n 0 with
    | true => ⟨fun t => Tr.rec (motive := fun _ => V) V.undef (fun _ o _ _ _ => Option.rec V.undef (fun v => v) o) t⟩
    | false =>
      match Nat.beq (Nat.mod n 2) 1 with
      | true => (fun g : Gt => ⟨fun t => Tr.rec (motive := fun _ => V) V.undef (fun l _ _ _ _ => g.run l) t⟩) (getC f (Nat.div n 2))
      | false => (fun g : Gt => ⟨fun t => Tr.rec (motive := fun _ => V) V.undef (fun _ _ r _ _ => g.run r) t⟩) (getC f (Nat.pred (Nat.div n 2)))
noncomputable def putC : Nat → Nat → Pt
  | 0, _ => ⟨fun t _ => t⟩
  | f + 1, n =>
    match Nat.beq n 0 with
    | true => ⟨fun t x => Tr.rec (motive := fun _ => Tr V) (.node .nil (some x) .nil) (fun l _ r _ _ => .node l (some x) r) t⟩
    | false =>
      match Nat.beq (Nat.mod n 2) 1 with
      | true => (fun g : Pt => ⟨fun t x => Tr.rec (motive := fun _ => Tr V) (.node (g.run .nil x) none .nil) (fun l v r _ _ => .node (g.run l x) v r) t⟩) (putC f (Nat.div n 2))
      | false => (fun g : Pt => ⟨fun t x => Tr.rec (motive := fun _ => Tr V) (.node .nil none (g.run .nil x)) (fun l v r _ _ => .node l v (g.run r x)) t⟩) (putC f (Nat.pred (Nat.div n 2)))
noncomputable def gt (n : Nat) : Gt := getC (n + 1) n
noncomputable def pt (n : Nat) : Pt := putC (n + 1) n
noncomputable def trGet {α : Type} (t : Tr α) : Nat → Option α :=
  Tr.rec (motive := fun _ => Nat → Option α) (fun _ => none)
    (fun _ v _ ihl ihr n => Bool.rec (motive := fun _ => Option α)
      (Bool.rec (motive := fun _ => Option α) (ihr (Nat.pred (Nat.div n 2))) (ihl (Nat.div n 2)) (Nat.beq (Nat.mod n 2) 1)) v (Nat.beq n 0)) t
noncomputable def trSet {α : Type} (f : Nat) : Tr α → Nat → Option α → Tr α :=
  Nat.rec (motive := fun _ => Tr α → Nat → Option α → Tr α) (fun t _ _ => t)
    (fun _ ih t n x => Tr.rec (motive := fun _ => Tr α)
      (Bool.rec (motive := fun _ => Tr α)
        (Bool.rec (motive := fun _ => Tr α) (.node .nil none (ih .nil (Nat.pred (Nat.div n 2)) x)) (.node (ih .nil (Nat.div n 2) x) none .nil) (Nat.beq (Nat.mod n 2) 1))
        (.node .nil x .nil) (Nat.beq n 0))
      (fun l v r _ _ => Bool.rec (motive := fun _ => Tr α)
        (Bool.rec (motive := fun _ => Tr α) (.node l v (ih r (Nat.pred (Nat.div n 2)) x)) (.node (ih l (Nat.div n 2) x) v r) (Nat.beq (Nat.mod n 2) 1))
        (.node l x r) (Nat.beq n 0)) t) f
noncomputable def trPut {α : Type} (t : Tr α) (n : Nat) (x : α) : Tr α := trSet (n + 1) t n (some x)
noncomputable def nthL {α : Type} (n : Nat) : List α → Option α :=
  Nat.rec (motive := fun _ => List α → Option α) (fun l => List.rec (motive := fun _ => Option α) none (fun v _ _ => some v) l)
    (fun _ ih l => List.rec (motive := fun _ => Option α) none (fun _ r _ => ih r) l) n
noncomputable def setN (v : V) (n : Nat) : List V → Option (List V) :=
  Nat.rec (motive := fun _ => List V → Option (List V)) (fun l => List.rec (motive := fun _ => Option (List V)) none (fun _ r _ => some (v :: r)) l)
    (fun _ ih l => List.rec (motive := fun _ => Option (List V)) none (fun x r _ => Option.rec (motive := fun _ => Option (List V)) none (fun r' => some (x :: r')) (ih r)) l) n
inductive Src where
  | fr (t : Nat)
  | st (i : Nat)
  | k (v : V)
abbrev Env := List (Nat × Src)
def look : Env → Nat → Option Src
  | [], _ => none
  | (u, s) :: r, t => match Nat.beq t u with | true => some s | false => look r t
def isL (L t : Nat) : Bool := Nat.beq (Nat.land (Nat.shiftRight L t) 1) 1
noncomputable def nthC : Nat → Rd
  | 0 => ⟨fun _ ρ => List.rec (motive := fun _ => V) V.undef (fun v _ _ => v) ρ⟩
  | i + 1 => (fun g : Rd => ⟨fun t ρ => List.rec (motive := fun _ => V) V.undef (fun _ r _ => g.run t r) ρ⟩) (nthC i)
noncomputable def rdS (h : Nat) : Src → Rd
  | .fr s => (fun g : Gt => ⟨fun t _ => g.run t⟩) (gt s)
  | .st i => nthC (Nat.sub (Nat.sub h 1) i)
  | .k v => ⟨fun _ _ => v⟩
noncomputable def rdT (L : Nat) (E : Env) (h t : Nat) : Option Rd :=
  match look E t with
  | some s => some (rdS h s)
  | none => match isL L t with
    | true => none
    | false => some (rdS h (.fr t))
noncomputable def rdO (L : Nat) (E : Env) (h : Nat) : Operand → Option Rd
  | .tmp t => rdT L E h t
  | .const v => match toV 4 v with
    | some w => some ⟨fun _ _ => w⟩
    | none => none
  | .func f => some ⟨fun _ _ => .fn f [] []⟩
  | .global _ => none
noncomputable def rdL (L : Nat) (E : Env) (h : Nat) : List Operand → Option Ls
  | [] => some ⟨fun _ _ => []⟩
  | x :: r => match rdO L E h x, rdL L E h r with
    | some g, some l => some ⟨fun t ρ => g.run t ρ :: l.run t ρ⟩
    | _, _ => none
def killE (d h : Nat) : Env → Env
  | [] => []
  | (u, .fr s) :: r => match Nat.beq u d, Nat.beq s d with
    | true, _ => killE d h r
    | false, true => (u, .st h) :: killE d h r
    | false, false => (u, .fr s) :: killE d h r
  | (u, s) :: r => match Nat.beq u d with
    | true => killE d h r
    | false => (u, s) :: killE d h r
def refs (d : Nat) : Env → Bool
  | [] => false
  | (u, .fr s) :: r => Nat.beq u d || Nat.beq s d || refs d r
  | (u, _) :: r => Nat.beq u d || refs d r
noncomputable def opt (o : Option V) (st : St) (k : V → St → RX) : RX := Option.rec (motive := fun _ => RX) .bad (fun v => k v st) o
inductive NK where
  | no
  | nat (k : IntKind) (n : Nat)
def asN : V → NK
  | .int k (.ofNat n) => .nat k n
  | _ => .no
def kc : IntKind → Nat
  | .i64 => 0 | .u8 => 1 | .i8 => 2 | .i16 => 3 | .i32 => 4 | .u16 => 5 | .u32 => 6 | .u64 => 7
inductive BB where | t | f | no
def asB : V → BB
  | .bool true => .t
  | .bool false => .f
  | _ => .no
noncomputable def natF (s : RX) (f : IntKind → Nat → IntKind → Nat → RX) (a b : V) : RX :=
  NK.rec (motive := fun _ => RX) s (fun ka x => NK.rec (motive := fun _ => RX) s (fun kb y => Bool.rec (motive := fun _ => RX) s (f ka x kb y) (Nat.beq (kc ka) (kc kb))) (asN b)) (asN a)
def mxK : IntKind → Nat
  | .i64 => 9223372036854775808 | .u8 => 256 | .i8 => 128 | .i16 => 32768 | .i32 => 2147483648 | .u16 => 65536 | .u32 => 4294967296 | .u64 => 18446744073709551616
noncomputable def cmpK (f : Nat → Nat → Bool) (s : Option V) (a b : V) (st : St) (k : V → St → RX) : RX :=
  natF (opt s st k) (fun _ x _ y => k (.bool (f x y)) st) a b
noncomputable def addK (s : Option V) (a b : V) (st : St) (k : V → St → RX) : RX :=
  natF (opt s st k) (fun ka x _ y => Bool.rec (motive := fun _ => RX) (opt s st k) (k (.int ka (.ofNat (Nat.add x y))) st) (Nat.blt (Nat.add x y) (mxK ka))) a b
noncomputable def subK (s : Option V) (a b : V) (st : St) (k : V → St → RX) : RX :=
  natF (opt s st k) (fun ka x _ y => Bool.rec (motive := fun _ => RX) (opt s st k) (k (.int ka (.ofNat (Nat.sub x y))) st) (Bool.rec (motive := fun _ => Bool) false (Nat.blt (Nat.sub x y) (mxK ka)) (Nat.ble y x))) a b
inductive PO where
  | no
  | ptr (id off : Nat)
  | cp (cs : List V)
def asP : V → PO
  | .ptr id off => .ptr id off
  | .cp cs => .cp cs
  | _ => .no
inductive SO where
  | no
  | s (s : S)
def asS : V → SO
  | .str s => .s s
  | _ => .no
noncomputable def cellsB (b : Option Bx) : List V :=
  match b with
  | some (.cells cs _ _ _) => cs
  | _ => []
noncomputable def loadK (v : V) (st : St) (k : V → St → RX) : RX :=
  PO.rec (motive := fun _ => RX) .bad (fun id off => opt (nthL off (cellsB (trGet st.box id))) st k) (fun cs => opt (nthL 0 cs) st k) (asP v)
def simV : V → Bool
  | .agg _ => false
  | v => oneC v
noncomputable def put1 (st : St) (id off : Nat) (v : V) : Option St :=
  match trGet st.box id with
  | some (.cells cs e fl fz) =>
    Bool.rec (motive := fun _ => Option St) none
      (Option.rec (motive := fun _ => Option St) none (fun cs' => some { ctr := st.ctr, box := trPut st.box id (.cells cs' e fl fz) }) (setN v off cs)) (fzOk fz off)
  | _ => none
noncomputable def optS (o : Option St) (k : V → St → RX) : RX := Option.rec (motive := fun _ => RX) .bad (fun st => k .undef st) o
noncomputable def storeK (P : Program) (t : TypeId) (a v : V) (st : St) (k : V → St → RX) : RX :=
  Bool.rec (motive := fun _ => RX) (optS (vstore P st t a v) k)
    (PO.rec (motive := fun _ => RX) .bad (fun id off => optS (put1 st id off v) k) (fun _ => .bad) (asP a)) (simV v)
noncomputable def idxSK (x i : V) (st : St) (k : V → St → RX) : RX :=
  SO.rec (motive := fun _ => RX) .bad (fun s => NK.rec (motive := fun _ => RX) .bad (fun _ i => Bool.rec (motive := fun _ => RX) .bad (k (.int .u8 (.ofNat (s.at i))) st) (Nat.blt i s.n)) (asN i)) (asS x)
noncomputable def igF (n z : Nat) (x : V) (i : Nat) : Option V :=
  match x with
  | .agg cs => match Nat.blt i n with
    | true => nthL (i * z) cs
    | false => none
  | _ => none
noncomputable def idxGK (n z : Nat) (x i : V) (st : St) (k : V → St → RX) : RX :=
  NK.rec (motive := fun _ => RX) .bad (fun _ i => opt (igF n z x i) st k) (asN i)
noncomputable def lenSK (x : V) (st : St) (k : V → St → RX) : RX :=
  SO.rec (motive := fun _ => RX) .bad (fun s => k (.int .i64 (.ofNat s.n)) st) (asS x)
def lenL : V → Option Nat
  | .nils => some 0
  | .sl n _ _ => some n
  | .ms _ _ n _ _ => some n
  | _ => none
noncomputable def lenLK (x : V) (st : St) (k : V → St → RX) : RX := Option.rec (motive := fun _ => RX) .bad (fun n => k (.int .i64 (.ofNat n)) st) (lenL x)
def iaL (z : Nat) (v : V) (i : Nat) : Option V :=
  match v with
  | .ms id off n z' _ => match Nat.blt i n with
    | true => match Nat.beq z z' with
      | true => some (.ptr id (off + i * z'))
      | false => none
    | false => none
  | .sl n cs _ => match Nat.blt i n with
    | true => some (.cp (cs.drop (i * z)))
    | false => none
  | _ => none
noncomputable def idxAK (z : Nat) (x i : V) (st : St) (k : V → St → RX) : RX :=
  NK.rec (motive := fun _ => RX) .bad (fun _ i => opt (iaL z x i) st k) (asN i)
def faF (off : Nat) : V → Option V
  | .ptr id o => some (.ptr id (o + off))
  | .cp cs => some (.cp (cs.drop off))
  | _ => none
def nilF : V → Option V
  | .ptr id off => some (.ptr id off)
  | .cp cs => some (.cp cs)
  | .fn f a c => some (.fn f a c)
  | _ => none
noncomputable def exF (i : Nat) (v : V) : Option V :=
  match v with
  | .tup vs => nthL i vs
  | _ => none
noncomputable def pickK (c a b : V) (st : St) (k : V → St → RX) : RX := BB.rec (motive := fun _ => RX) (k a st) (k b st) .bad (asB c)
noncomputable def notK (a : V) (st : St) (k : V → St → RX) : RX := BB.rec (motive := fun _ => RX) (k (.bool false) st) (k (.bool true) st) .bad (asB a)
noncomputable def erK (r : ER) (k : V → St → RX) : RX := ER.rec (motive := fun _ => RX) (fun v st => k v st) (fun v st => .p v st) (fun _ => .bad) r
noncomputable def resE (r : Res) : ER := Res.rec (motive := fun _ => ER) (fun _ _ _ => .fail "") (fun r => r) (fun _ _ _ _ => .fail "") (fun _ _ => .fail "") (fun w => .fail w) r
end Go.Vm
