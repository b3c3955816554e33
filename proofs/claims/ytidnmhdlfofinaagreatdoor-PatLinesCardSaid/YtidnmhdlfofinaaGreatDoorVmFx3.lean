/- The fast evaluator: functions, calls. -/
import Derived.Test.YtidnmhdlfofinaaGreatDoorVmFx2
namespace Go.Vm
open Go
def bset (m t : Nat) : Nat := Nat.lor m (Nat.shiftLeft 1 t)
def bsets (m : Nat) : List Nat → Nat
  | [] => m
  | t :: r => bsets (bset m t) r
def guardSlot (ops : Array Oper) (o : Oper) : List Nat :=
  match o.guard with
  | none => []
  | some (j, _) => match ops[j]? with
    | some p => p.dst.toList
    | none => []
def readsOut (w : Nat) (b : Nat) : List Nat → Nat
  | [] => b
  | t :: r => match isL w t with
    | true => readsOut w b r
    | false => readsOut w (bset b t) r
def rowWB (ops : Array Oper) : List Oper → Nat → Nat → Nat × Nat
  | [], w, b => (w, b)
  | o :: r, w, b => rowWB ops r (bsets w o.dst.toList) (readsOut w b (slotsO o.op ++ guardSlot ops o))
def slotX : Operand → List Nat
  | .tmp t => [t]
  | _ => []
def codeWB : Code → Nat × Nat
  | .region _ ops d => match d with
    | false => rowWB ops ops.toList 0 0
    | true => (0, ops.toList.foldl (fun b o => bsets (bsets (bsets b o.dst.toList) (slotsO o.op)) (guardSlot ops o)) 0)
  | .seq a b =>
    match a, b with
    | .region _ ops false, .cond x c d =>
      let (w, r) := rowWB ops ops.toList 0 0
      let (w1, r1) := codeWB c
      let (w2, r2) := codeWB d
      (Nat.lor w (Nat.lor w1 w2), Nat.lor (readsOut w r (slotX x)) (Nat.lor r1 r2))
    | a, b =>
      let (w1, r1) := codeWB a
      let (w2, r2) := codeWB b
      (Nat.lor w1 w2, Nat.lor r1 r2)
  | .cond x a b =>
    let (w1, r1) := codeWB a
    let (w2, r2) := codeWB b
    (Nat.lor w1 w2, bsets (Nat.lor r1 r2) (slotX x))
  | .block _ b => codeWB b
  | .loop b => codeWB b
  | .scope b => codeWB b
  | _ => (0, 0)
def resSlots : List ResultVar → List Nat
  | [] => []
  | .tmp t :: r => t :: resSlots r
  | .cell t _ :: r => t :: resSlots r
def locals (c : Code) (rs : List ResultVar) : Nat :=
  let (w, b) := codeWB c
  let b := bsets b (resSlots rs)
  Nat.xor w (Nat.land w b)
def plain : Code → Bool
  | .skip => true
  | .region _ ops _ => ops.toList.all fun o => !isDefer o.op
  | .seq a b => plain a && plain b
  | .cond _ a b => plain a && plain b
  | .block _ b => plain b
  | .loop b => plain b
  | .scope b => plain b
  | .exit _ => true
  | .ret => true
  | _ => false
noncomputable def cinit : Nat → Nat → It
  | 0, i => ⟨fun args t => initT args i t⟩
  | n + 1, i => (fun (r : It) (p : Pt) => ⟨fun args t => List.rec (motive := fun _ => Tr V) t (fun v l _ => r.run l (p.run t v)) args⟩) (cinit n (i + 1)) (pt i)
structure Rs1 where run : Gl → Tr V → St → Res
noncomputable def tmpsR (L : Nat) : List ResultVar → Option Ls
  | [] => some ⟨fun _ _ => []⟩
  | .tmp a :: r => match isL L a, tmpsR L r with
    | false, some l => (fun g : Gt => some ⟨fun t ρ => g.run t :: l.run t ρ⟩) (gt a)
    | _, _ => none
  | .cell _ _ :: _ => none
noncomputable def resC (P : Program) (L : Nat) (rs : List ResultVar) : Rs1 :=
  match rs with
  | [.tmp a] => match isL L a with
    | false => (fun g : Gt => ⟨fun _ t st => .call (.val (g.run t) st)⟩) (gt a)
    | true => ⟨fun _ _ _ => .fail ""⟩
  | rs => match tmpsR L rs with
    | some l => ⟨fun _ t st => .call (.val (tupled (l.run t [])) st)⟩
    | none => match (resSlots rs).all (fun t => !isL L t) with
      | true => ⟨fun gl t st => Option.rec (motive := fun _ => Res) (.fail "") (fun vs => .call (.val (tupled vs) st)) (traverse (vresult P ⟨t, [], gl⟩ st) rs)⟩
      | false => ⟨fun _ _ _ => .fail ""⟩
noncomputable def slowF (P : Program) (f : Nat) : FE := ⟨fun ih gl args st => body P ih (.call gl f args) st⟩
noncomputable def endF (rs : Rs1) (gl : Gl) (r : RX) : Res :=
  RX.rec (motive := fun _ => Res) (fun t st => rs.run gl t st) (fun _ _ _ => .fail "") (fun t st => rs.run gl t st) (fun v st => .call (.panic v st)) (.fail "") r
noncomputable def cfun (P : Program) (f : Nat) : FE :=
  match P.funcs[f]? with
  | none => slowF P f
  | some fn => match fn.body with
    | none => slowF P f
    | some c =>
      match plain c && slotsOk fn.ntmps c with
      | false => slowF P f
      | true => (fun (e : Ex) (i : It) (rs : Rs1) => ⟨fun ih gl args st => Bool.rec (motive := fun _ => Res) (.fail "") (endF rs gl (e.run ih gl (i.run args .nil) st)) (Nat.ble args.length fn.ntmps)⟩)
          (comp P (locals c fn.results.toList) c) (cinit fn.params.size 0) (resC P (locals c fn.results.toList) fn.results.toList)
noncomputable def FX (P : Program) [Memo] (n : Nat) : Ih :=
  Nat.rec (motive := fun _ => Ih) (fun _ _ => .fail "")
    (fun _ ih t st => Task.rec (motive := fun _ => Res) (fun rd c fr => body P ih (.code rd c fr) st) (fun gl f args => Option.rec (motive := fun _ => Res) ((cfun P f).run ih gl args st) (fun p => Prod.rec (motive := fun _ => Res) (fun v st => .call (.val v st)) p) ((Memo.look f).run args st))
      (fun gl id args => body P ih (.round gl id args) st) (fun gl f args m => body P ih (.dcall gl f args m) st) (fun c fr m => body P ih (.dcode c fr m) st) t) n
end Go.Vm
