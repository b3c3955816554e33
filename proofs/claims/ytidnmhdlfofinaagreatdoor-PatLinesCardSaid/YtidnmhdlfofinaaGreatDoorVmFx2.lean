/- The fast evaluator: operations, rows, code, functions. -/
import Derived.Test.YtidnmhdlfofinaaGreatDoorVmFx
namespace Go.Vm
open Go
def badC : CX := ⟨fun _ _ _ _ _ _ => .bad⟩
def badE : Exe := ⟨fun _ _ _ _ _ => .bad⟩
def badX : Ex := ⟨fun _ _ _ _ => .bad⟩
def slotsO (o : Op) : List Nat := o.operands.toList.filterMap fun
  | .tmp t => some t
  | _ => none
noncomputable def mini (L : Nat) (E : Env) (h : Nat) : List Nat → Option Mt
  | [] => some ⟨fun t _ => t⟩
  | s :: r =>
    match mini L E h r with
    | none => none
    | some m =>
      match look E s with
      | some src => (fun (p : Pt) (g : Rd) => some ⟨fun t ρ => p.run (m.run t ρ) (g.run t ρ)⟩) (pt s) (rdS h src)
      | none => match isL L s with
        | true => none
        | false => some m
noncomputable def genC (P : Program) (L : Nat) (E : Env) (h : Nat) (o : Op) : CX :=
  match mini L E h (slotsO o) with
  | none => badC
  | some m => ⟨fun ih gl t ρ st k => erK (vop P (ihCall ih) ⟨m.run t ρ, [], gl⟩ st o) k⟩
noncomputable def un1 (L : Nat) (E : Env) (h : Nat) (x : Operand) (f : V → St → (V → St → RX) → RX) (dflt : CX) : CX :=
  match rdO L E h x with
  | some x => ⟨fun _ _ t ρ st k => f (x.run t ρ) st k⟩
  | none => dflt
noncomputable def bin2 (L : Nat) (E : Env) (h : Nat) (x y : Operand) (f : V → V → St → (V → St → RX) → RX) (dflt : CX) : CX :=
  match rdO L E h x, rdO L E h y with
  | some x, some y => ⟨fun _ _ t ρ st k => f (x.run t ρ) (y.run t ρ) st k⟩
  | _, _ => dflt
noncomputable def tri3 (L : Nat) (E : Env) (h : Nat) (x y z : Operand) (f : V → V → V → St → (V → St → RX) → RX) (dflt : CX) : CX :=
  match rdO L E h x, rdO L E h y, rdO L E h z with
  | some x, some y, some z => ⟨fun _ _ t ρ st k => f (x.run t ρ) (y.run t ρ) (z.run t ρ) st k⟩
  | _, _, _ => dflt
noncomputable def binC (P : Program) (L : Nat) (E : Env) (h : Nat) (op : BinOp) (T : TypeId) (x y : Operand) (dflt : CX) : CX :=
  match op with
  | .lss => bin2 L E h x y (fun a b st k => cmpK Nat.blt (vbin P (isK x || isK y) .lss T a b) a b st k) dflt
  | .leq => bin2 L E h x y (fun a b st k => cmpK Nat.ble (vbin P (isK x || isK y) .leq T a b) a b st k) dflt
  | .gtr => bin2 L E h x y (fun a b st k => cmpK (fun i j => Nat.blt j i) (vbin P (isK x || isK y) .gtr T a b) a b st k) dflt
  | .geq => bin2 L E h x y (fun a b st k => cmpK (fun i j => Nat.ble j i) (vbin P (isK x || isK y) .geq T a b) a b st k) dflt
  | .eql => bin2 L E h x y (fun a b st k => cmpK Nat.beq (vbin P (isK x || isK y) .eql T a b) a b st k) dflt
  | .neq => bin2 L E h x y (fun a b st k => cmpK (fun i j => not (Nat.beq i j)) (vbin P (isK x || isK y) .neq T a b) a b st k) dflt
  | .add => bin2 L E h x y (fun a b st k => addK (vbin P (isK x || isK y) .add T a b) a b st k) dflt
  | .sub => bin2 L E h x y (fun a b st k => subK (vbin P (isK x || isK y) .sub T a b) a b st k) dflt
  | op => bin2 L E h x y (fun a b st k => opt (vbin P (isK x || isK y) op T a b) st k) dflt
noncomputable def loadC (P : Program) (L : Nat) (E : Env) (h : Nat) (T : TypeId) (x : Operand) (dflt : CX) : CX :=
  match isAggT P T, sizeT P T with
  | some false, some _ => un1 L E h x loadK dflt
  | _, _ => un1 L E h x (fun v st k => opt (vload P st T v) st k) dflt
noncomputable def storeC (P : Program) (L : Nat) (E : Env) (h : Nat) (T : TypeId) (a x : Operand) (dflt : CX) : CX :=
  match sizeT P T with
  | some 1 => bin2 L E h a x (fun a v st k => storeK P T a v st k) dflt
  | _ => bin2 L E h a x (fun a v st k => optS (vstore P st T a v) k) dflt
noncomputable def indexC (P : Program) (L : Nat) (E : Env) (h : Nat) (T : TypeId) (x i : Operand) (dflt : CX) : CX :=
  match P.underlying T with
  | some .string => bin2 L E h x i idxSK dflt
  | some (.array n e) => match isAggT P e, sizeT P e with
    | some false, some z => bin2 L E h x i (idxGK n z) dflt
    | _, _ => bin2 L E h x i (fun x i st k => opt (vindex P T x i) st k) dflt
  | _ => bin2 L E h x i (fun x i st k => opt (vindex P T x i) st k) dflt
noncomputable def indexAddrC (P : Program) (L : Nat) (E : Env) (h : Nat) (T : TypeId) (x i : Operand) (dflt : CX) : CX :=
  match P.underlying T with
  | some (.slice e) => match sizeT P e with
    | some z => bin2 L E h x i (idxAK z) dflt
    | none => dflt
  | _ => bin2 L E h x i (fun x i st k => opt (vindexAddr P T x i) st k) dflt
noncomputable def fieldAddrC (P : Program) (L : Nat) (E : Env) (h : Nat) (s : TypeId) (x : Operand) (f : Nat) (dflt : CX) : CX :=
  match P.underlying s with
  | some (.struct fs) => match fs[f]? with
    | some fd => match sizeT P fd.type with
      | some (_ + 1) => un1 L E h x (fun v st k => opt (faF fd.offset v) st k) dflt
      | _ => dflt
    | none => dflt
  | _ => dflt
noncomputable def lenC (P : Program) (L : Nat) (E : Env) (h : Nat) (T : TypeId) (x : Operand) (dflt : CX) : CX :=
  match P.underlying T with
  | some .string => un1 L E h x lenSK dflt
  | some (.slice _) => un1 L E h x lenLK dflt
  | _ => un1 L E h x (fun v st k => opt (vlen P T v) st k) dflt
noncomputable def callC (P : Program) (L : Nat) (E : Env) (h : Nat) (f : Nat) (args : List Operand) (dflt : CX) : CX :=
  match callable P f, rdL L E h args with
  | true, some ls => ⟨fun ih gl t ρ st k => erK (resE (ih (.call gl f (ls.run t ρ)) st)) k⟩
  | _, _ => dflt
noncomputable def opC (P : Program) (L : Nat) (E : Env) (h : Nat) (o : Op) : CX :=
  match o with
  | .move x => un1 L E h x (fun v st k => k v st) (genC P L E h (.move x))
  | .assign x => un1 L E h x (fun v st k => k v st) (genC P L E h (.assign x))
  | .nilCheck x => un1 L E h x (fun v st k => opt (nilF v) st k) (genC P L E h (.nilCheck x))
  | .binOp op T x y u => binC P L E h op T x y (genC P L E h (.binOp op T x y u))
  | .unOp .not T x => un1 L E h x notK (genC P L E h (.unOp .not T x))
  | .load T x => loadC P L E h T x (genC P L E h (.load T x))
  | .store T a x => storeC P L E h T a x (genC P L E h (.store T a x))
  | .index T x i => indexC P L E h T x i (genC P L E h (.index T x i))
  | .indexAddr T x i => indexAddrC P L E h T x i (genC P L E h (.indexAddr T x i))
  | .fieldAddr s x f => fieldAddrC P L E h s x f (genC P L E h (.fieldAddr s x f))
  | .extract x i => un1 L E h x (fun v st k => opt (exF i v) st k) (genC P L E h (.extract x i))
  | .pick c a b => tri3 L E h c a b pickK (genC P L E h (.pick c a b))
  | .call c =>
    match c.callee, c.args.toList, c.argTypes.toList with
    | .builtin .len, [x], T :: _ => lenC P L E h T x (genC P L E h (.call c))
    | .value (.func f), args, _ => callC P L E h f args (genC P L E h (.call c))
    | _, _, _ => genC P L E h (.call c)
  | o => genC P L E h o
noncomputable def bindC (L : Nat) (c : CX) (dst : Option Nat) (E : Env) (h : Nat) (rest : Env → Nat → Exe) : Exe :=
  match dst with
  | none => (fun n : Exe => ⟨fun ih gl t ρ st => c.run ih gl t ρ st fun _ st => n.run ih gl t ρ st⟩) (rest E h)
  | some d =>
    match isL L d with
    | true => (fun n : Exe => ⟨fun ih gl t ρ st => c.run ih gl t ρ st fun v st => n.run ih gl t (v :: ρ) st⟩) (rest ((d, .st h) :: E) (h + 1))
    | false =>
      match refs d E with
      | false => (fun (n : Exe) (p : Pt) => ⟨fun ih gl t ρ st => c.run ih gl t ρ st fun v st => n.run ih gl (p.run t v) ρ st⟩) (rest E h) (pt d)
      | true => (fun (n : Exe) (p : Pt) (g : Gt) => ⟨fun ih gl t ρ st => c.run ih gl t ρ st fun v st => n.run ih gl (p.run t v) (g.run t :: ρ) st⟩) (rest (killE d h E) (h + 1)) (pt d) (gt d)
noncomputable def undefC (L : Nat) (dst : Option Nat) (E : Env) (h : Nat) (rest : Env → Nat → Exe) : Exe :=
  match dst with
  | some d => match isL L d with
    | true => rest ((d, .k .undef) :: E) h
    | false => bindC L ⟨fun _ _ _ _ st k => k .undef st⟩ (some d) E h rest
  | none => rest E h
def alias (L : Nat) (E : Env) : Op → Option Src
  | .move x | .assign x => match x with
    | .tmp s => match look E s with
      | some src => some src
      | none => match isL L s with
        | true => none
        | false => some (.fr s)
    | .const v => match toV 4 v with
      | some w => some (.k w)
      | none => none
    | .func f => some (.k (.fn f [] []))
    | .global _ => none
  | _ => none
noncomputable def wantC (P : Program) (L : Nat) (o : Oper) (E : Env) (h : Nat) (rest : Env → Nat → Exe) : Exe :=
  match o.dst with
  | some d => match isL L d, alias L E o.op with
    | true, some src => rest ((d, src) :: E) h
    | _, _ => bindC L (opC P L E h o.op) (some d) E h rest
  | none => bindC L (opC P L E h o.op) none E h rest
inductive GS where
  | yes
  | no
  | ask (d : Nat) (g : Rd) (w : Bool)
  | bad
noncomputable def gst (ops : Array Oper) (L : Nat) (E : Env) (h : Nat) (o : Oper) : GS :=
  match o.guard with
  | none => .yes
  | some (j, w) =>
    match ops[j]? with
    | none => .no
    | some p => match p.dst with
      | none => .no
      | some d => match look E d with
        | some (.k v) => match v with
          | .bool b => match b == w with
            | true => .yes
            | false => .no
          | _ => .no
        | some s => .ask d (rdS h s) w
        | none => match isL L d with
          | true => .bad
          | false => .ask d (rdS h (.fr d)) w
noncomputable def askE (g : Rd) (a b c : Exe) : Exe :=
  ⟨fun ih gl t ρ st => BB.rec (motive := fun _ => RX) (a.run ih gl t ρ st) (b.run ih gl t ρ st) (c.run ih gl t ρ st) (asB (g.run t ρ))⟩
noncomputable def cops (P : Program) (ops : Array Oper) (L : Nat) (fin : Env → Nat → Exe) : List Oper → Env → Nat → Exe
  | [], E, h => fin E h
  | o :: r, E, h =>
    match isDefer o.op with
    | true => badE
    | false =>
      match gst ops L E h o with
      | .bad => badE
      | .yes => wantC P L o E h (cops P ops L fin r)
      | .no => undefC L o.dst E h (cops P ops L fin r)
      | .ask d g true => askE g (wantC P L o ((d, .k (.bool true)) :: E) h (cops P ops L fin r)) (undefC L o.dst ((d, .k (.bool false)) :: E) h (cops P ops L fin r)) (undefC L o.dst E h (cops P ops L fin r))
      | .ask d g false => askE g (undefC L o.dst ((d, .k (.bool true)) :: E) h (cops P ops L fin r)) (wantC P L o ((d, .k (.bool false)) :: E) h (cops P ops L fin r)) (undefC L o.dst E h (cops P ops L fin r))
def finN : Env → Nat → Exe := fun _ _ => ⟨fun _ _ t _ st => .n t st⟩
noncomputable def finC (L : Nat) (x : Operand) (a b : Ex) : Env → Nat → Exe := fun E h =>
  match rdO L E h x with
  | some g => ⟨fun ih gl t ρ st => BB.rec (motive := fun _ => RX) (a.run ih gl t st) (b.run ih gl t st) .bad (asB (g.run t ρ))⟩
  | none => badE
def noL (L : Nat) (ops : Array Oper) : Bool := ops.toList.all fun o =>
  (slotsO o.op).all (fun t => !isL L t) && (match o.dst with | some d => !isL L d | none => true) && !isDefer o.op
noncomputable def drawR (r : Res) : RX :=
  Res.rec (motive := fun _ => RX)
    (fun e fr st => AE.rec (motive := fun _ => RX) (.n fr.t st) (fun _ => .bad) .bad (fun v => .p v st) e)
    (fun _ => .bad) (fun _ _ _ _ => .bad) (fun _ _ => .bad) (fun _ => .bad) r
noncomputable def goOn (again : Ih → Gl → Tr V → St → RX) (ih : Ih) (gl : Gl) (t : Tr V) (st : St) : RX := again ih gl t st
noncomputable def loopN (b : Ex) (n : Nat) : Ih → Gl → Tr V → St → RX :=
  Nat.rec (motive := fun _ => Ih → Gl → Tr V → St → RX) (fun _ _ _ _ => .bad)
    (fun _ again ih gl t st => RX.rec (motive := fun _ => RX) (fun t st => goOn again ih gl t st) (fun id t st => .x id t st) (fun t st => .r t st) (fun v st => .p v st) .bad (b.run ih gl t st)) n
noncomputable def seqX (a b : Ex) : Ex :=
  ⟨fun ih gl t st => RX.rec (motive := fun _ => RX) (fun t st => b.run ih gl t st) (fun id t st => .x id t st) (fun t st => .r t st) (fun v st => .p v st) .bad (a.run ih gl t st)⟩
noncomputable def blockX (id : Nat) (b : Ex) : Ex :=
  ⟨fun ih gl t st => RX.rec (motive := fun _ => RX) (fun t st => .n t st) (fun id' t st => Bool.rec (motive := fun _ => RX) (.x id' t st) (.n t st) (Nat.beq id' id)) (fun t st => .r t st) (fun v st => .p v st) .bad (b.run ih gl t st)⟩
noncomputable def condX (g : Rd) (a b : Ex) : Ex :=
  ⟨fun ih gl t st => BB.rec (motive := fun _ => RX) (a.run ih gl t st) (b.run ih gl t st) .bad (asB (g.run t []))⟩
noncomputable def rowX (e : Exe) : Ex := ⟨fun ih gl t st => e.run ih gl t [] st⟩
noncomputable def drawX (P : Program) (id : Nat) (ops : Array Oper) : Ex :=
  ⟨fun ih gl t st => drawR (body P ih (.code none (.region id ops true) ⟨t, [], gl⟩) st)⟩
noncomputable def comp (P : Program) (L : Nat) : Code → Ex
  | .skip => ⟨fun _ _ t st => .n t st⟩
  | .region id ops d => match d with
    | false => rowX (cops P ops L finN ops.toList [] 0)
    | true => match noL L ops with
      | true => drawX P id ops
      | false => badX
  | .seq a b =>
    match a, b with
    | .region _ ops false, .cond x c d => rowX (cops P ops L (finC L x (comp P L c) (comp P L d)) ops.toList [] 0)
    | a, b => seqX (comp P L a) (comp P L b)
  | .cond x a b => match rdO L [] 0 x with
    | some g => condX g (comp P L a) (comp P L b)
    | none => badX
  | .block id b => blockX id (comp P L b)
  | .loop b => ⟨loopN (comp P L b) 1000000000000⟩
  | .scope b => comp P L b
  | .exit id => ⟨fun _ _ t st => .x id t st⟩
  | .ret => ⟨fun _ _ t st => .r t st⟩
  | _ => badX
end Go.Vm
