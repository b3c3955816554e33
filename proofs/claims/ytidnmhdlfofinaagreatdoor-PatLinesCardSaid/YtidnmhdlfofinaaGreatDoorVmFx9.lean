/- The fast evaluator: drawn rows; code. -/
import Derived.Test.YtidnmhdlfofinaaGreatDoorVmFx8
namespace Go.Vm
open Go
structure FS (L : Nat) (gl : Gl) (fr fr' : Fr) : Prop where
  at_ : ∀ s, isL L s = false → Fr.at fr' s = Fr.at fr s
  ds : fr'.ds = []
  g : fr.gl = gl
  g' : fr'.gl = gl
theorem FS.to {L : Nat} {gl : Gl} {fr fr' : Fr} (h : FS L gl fr fr') (d : Option Nat) (v : V) : FS L gl (Fr.to fr d v) (Fr.to fr' d v) where
  at_ := fun s hs => by rw [Fr.atTo, Fr.atTo, h.at_ s hs]
  ds := by rw [Fr.dsTo]; exact h.ds
  g := by rw [Fr.glTo]; exact h.g
  g' := by rw [Fr.glTo]; exact h.g'
structure DS (L : Nat) (gl : Gl) (d d' : Drw) : Prop where
  fr : FS L gl d.fr d'.fr
  st : d'.st = d.st
  snaps : d'.snaps = d.snaps
theorem noL_at {L : Nat} {ops : Array Oper} (h : noL L ops = true) {i : Nat} {o : Oper} (ho : ops[i]? = some o) :
    (∀ s ∈ slotsO o.op, isL L s = false) ∧ ∀ d, o.dst = some d → isL L d = false := by
  unfold noL at h
  have := List.all_eq_true.1 h o (by
    have := Array.mem_of_getElem? ho
    exact Array.mem_toList_iff.2 this)
  simp only [Bool.and_eq_true, List.all_eq_true, Bool.not_eq_true'] at this
  obtain ⟨⟨h1, h2⟩, _⟩ := this
  refine ⟨h1, fun d hd => ?_⟩
  rw [hd] at h2
  simpa using h2
theorem vwanted_cong {L : Nat} {gl : Gl} {ops : Array Oper} (hn : noL L ops = true) {fr fr' : Fr} (h : FS L gl fr fr') (o : Oper) : vwanted ops fr' o = vwanted ops fr o := by
  unfold vwanted
  split
  · rfl
  · rename_i j w hg
    cases hp : ops[j]? with
    | none => rfl
    | some p =>
      simp only
      cases hd : p.dst with
      | none => rfl
      | some d =>
        simp only
        rw [h.at_ d ((noL_at hn hp).2 d hd)]
theorem sameIn_congr {P : Program} {fr fr' : Fr} {o : Op} (h : ∀ x ∈ o.operands.toList, ev fr' x = ev fr x) (v : V) (m : Nat) : ∀ l, sameIn P fr' o v m l = sameIn P fr o v m l
  | [] => rfl
  | (k, s) :: r => by simp only [sameIn, vpure_cong h, sameIn_congr h v m r]
theorem xStep_congr {P : Program} {cf : CallF} {L : Nat} {gl : Gl} {ops : Array Oper} (hn : noL L ops = true) (b : List Nat) (c0 i : Nat) {d d' : Drw} (h : DS L gl d d') :
    match xStep P cf ops b c0 i d with
    | none => xStep P cf ops b c0 i d' = none
    | some e => ∃ e', xStep P cf ops b c0 i d' = some e' ∧ DS L gl e e' := by
  obtain ⟨fr, st, snaps⟩ := d
  obtain ⟨fr', st', snaps'⟩ := d'
  obtain ⟨hf, rfl, rfl⟩ := h
  simp only at hf
  unfold xStep
  cases ho : ops[i]? with
  | none => simp only
  | some o =>
    have hs := (noL_at hn ho).1
    have hev : ∀ x ∈ o.op.operands.toList, ev fr' x = ev fr x := ev_of_slots (fun s hx => hf.at_ s (hs s hx)) (hf.g'.trans hf.g.symm)
    have hp : ∀ s, vpure P fr' s o.op = vpure P fr s o.op := fun s => vpure_cong hev
    have ha : valloc P fr' o.op = valloc P fr o.op := valloc_cong hev
    have he : ∀ s, veff P cf fr' s o.op = veff P cf fr s o.op := fun s => veff_cong hev (hf.g'.trans hf.g.symm)
    have hsi : ∀ v m l, sameIn P fr' o.op v m l = sameIn P fr o.op v m l := fun v m l => sameIn_congr hev v m l
    simp only [vwanted_cong hn hf o, hp, ha, he, hsi]
    cases vwanted ops fr o with
    | false => exact ⟨_, rfl, hf.to _ _, rfl, rfl⟩
    | true =>
      simp only
      cases kindOf P o.op with
      | p =>
        simp only
        cases vpure P fr st' o.op with
        | none => rfl
        | some v => exact ⟨_, rfl, hf.to _ _, rfl, rfl⟩
      | r =>
        simp only
        cases snaps' with
        | nil => rfl
        | cons s0 r =>
          obtain ⟨k, s0⟩ := s0
          simp only
          cases vpure P fr s0 o.op with
          | none => rfl
          | some v =>
            simp only
            cases sameIn P fr o.op v (b.getD i 0) ((k, s0) :: r) with
            | false => rfl
            | true => exact ⟨_, rfl, hf.to _ _, rfl, rfl⟩
      | a =>
        simp only
        cases valloc P fr o.op with
        | none => rfl
        | some x =>
          obtain ⟨cs, e, n⟩ := x
          simp only
          cases cs.all oneC with
          | false => rfl
          | true => exact ⟨_, rfl, hf.to _ _, rfl, rfl⟩
      | e =>
        simp only
        cases veff P cf fr st' o.op with
        | val v s => exact ⟨_, rfl, hf.to _ _, rfl, rfl⟩
        | panic v s => rfl
        | fail w => rfl
theorem xDraw_congr {P : Program} {cf : CallF} {L : Nat} {gl : Gl} {ops : Array Oper} (hn : noL L ops = true) (b : List Nat) (c0 : Nat) : ∀ (l : List Nat) {d d' : Drw}, DS L gl d d' →
    ∀ e, xDraw P cf ops b c0 l d = some e → ∃ e', xDraw P cf ops b c0 l d' = some e' ∧ DS L gl e e'
  | [], d, d', h, e, he => by
    simp only [xDraw, Option.some.injEq] at he
    subst he
    exact ⟨d', rfl, h⟩
  | i :: r, d, d', h, e, he => by
    have h1 := xStep_congr (P := P) (cf := cf) hn b c0 i h
    simp only [xDraw] at he ⊢
    cases hx : xStep P cf ops b c0 i d with
    | none => rw [hx] at he; cases he
    | some d1 =>
      rw [hx] at he h1
      obtain ⟨d1', h2, h3⟩ := h1
      rw [h2]
      exact xDraw_congr hn b c0 r h3 e he
theorem xStep_ev [Memo] {P : Program} {ih : Ih} (hi : IHok P ih) (ops : Array Oper) (b : List Nat) (c0 i : Nat) (d : Drw) :
    xStep P (ihCall ih) ops b c0 i d = none ∨ Ev fun m => xStep P (ihCall (X P m)) ops b c0 i d = xStep P (ihCall ih) ops b c0 i d := by
  unfold xStep
  cases ops[i]? with
  | none => exact .inl rfl
  | some o =>
    simp only
    cases vwanted ops d.fr o with
    | false => exact .inr (.all fun m => rfl)
    | true =>
      simp only
      cases kindOf P o.op with
      | p => exact .inr (.all fun m => rfl)
      | r => exact .inr (.all fun m => rfl)
      | a => exact .inr (.all fun m => rfl)
      | e =>
        simp only
        rcases veff_ev hi d.fr d.st o.op with ⟨w, hw⟩ | he
        · exact .inl (by rw [hw])
        · exact .inr (he.mono fun m hm => by rw [hm])
theorem xDraw_ev [Memo] {P : Program} {ih : Ih} (hi : IHok P ih) (ops : Array Oper) (b : List Nat) (c0 : Nat) : ∀ (l : List Nat) (d : Drw),
    xDraw P (ihCall ih) ops b c0 l d = none ∨ Ev fun m => xDraw P (ihCall (X P m)) ops b c0 l d = xDraw P (ihCall ih) ops b c0 l d
  | [], d => .inr (.all fun m => rfl)
  | i :: r, d => by
    simp only [xDraw]
    rcases xStep_ev hi ops b c0 i d with h | h
    · exact .inl (by rw [h])
    · cases hx : xStep P (ihCall ih) ops b c0 i d with
      | none => exact .inl rfl
      | some d1 =>
        simp only
        rcases xDraw_ev hi ops b c0 r d1 with h1 | h1
        · exact .inl h1
        · exact .inr ((h.and h1).mono fun m hm => by rw [hm.1, hx]; exact hm.2)
def ExOk [Memo] (P : Program) (L : Nat) (Y : Yf) (x : Ex) : Prop :=
  ∀ ih gl t st fr, IHok P ih → Sim L gl t fr → Goes1 L gl (x.run ih gl t st) fun m => Y m fr st
def YX [Memo] (P : Program) (c : Code) : Yf := fun m fr st => X P m (.code none c fr) st
theorem badX_ok [Memo] {P : Program} {L : Nat} {Y : Yf} : ExOk P L Y badX := fun _ _ _ _ _ _ _ => .inl rfl
theorem finN_ok [Memo] {P : Program} {L : Nat} (E : Env) (h : Nat) : ExeOk P L E h (fun _ fr st => .code .normal fr st) (finN E h) := by
  intro ih gl t ρ st fr hi e
  exact .inr ⟨.normal, fr, st, ⟨e.toSim, rfl⟩, .all fun m => rfl⟩
theorem rowX_ok [Memo] {P : Program} {L : Nat} {Y : Yf} {e : Exe} (h : ExeOk P L [] 0 Y e) : ExOk P L Y (rowX e) := by
  intro ih gl t st fr hi s
  exact h ih gl t [] st fr hi { toSim := s, len := rfl, env := fun d s hd => by simp [look] at hd, low := fun d i hd => by simp [look] at hd }
def condY (x : Operand) (a b : Yf) : Yf := fun m fr st => match ev fr x with
  | some (.bool true) => a m fr st
  | some (.bool false) => b m fr st
  | _ => .fail "cond"
theorem finC_ok [Memo] {P : Program} {L : Nat} {x : Operand} {a b : Ex} {Ya Yb : Yf} (ha : ExOk P L Ya a) (hb : ExOk P L Yb b) (E : Env) (h : Nat) : ExeOk P L E h (condY x Ya Yb) (finC L x a b E h) := by
  unfold finC
  split
  · rename_i g hg
    intro ih gl t ρ st fr hi e
    have hv := rdO_ok e hg
    simp only [condY, hv]
    generalize g.run t ρ = v
    cases v with
    | bool c =>
      cases c with
      | true => exact ha ih gl t st fr hi e.toSim
      | false => exact hb ih gl t st fr hi e.toSim
    | _ => exact .inl rfl
  · exact badE_ok
theorem condX_ok [Memo] {P : Program} {L : Nat} {x : Operand} {a b : Ex} {Ya Yb : Yf} (ha : ExOk P L Ya a) (hb : ExOk P L Yb b) {g : Rd} (hg : rdO L [] 0 x = some g) : ExOk P L (condY x Ya Yb) (condX g a b) := by
  intro ih gl t st fr hi s
  have e : EI L gl [] 0 t [] fr := { toSim := s, len := rfl, env := fun d s hd => by simp [look] at hd, low := fun d i hd => by simp [look] at hd }
  have hv := rdO_ok e hg
  simp only [condY, hv, condX]
  generalize g.run t [] = v
  cases v with
  | bool c =>
    cases c with
    | true => exact ha ih gl t st fr hi s
    | false => exact hb ih gl t st fr hi s
  | _ => exact .inl rfl
theorem drawX_ok [Memo] {P : Program} {L : Nat} {id : Nat} {ops : Array Oper} (hn : noL L ops = true) : ExOk P L (fun m fr st => body P (X P m) (.code none (.region id ops true) fr) st) (drawX P id ops) := by
  intro ih gl t st fr hi s
  simp only [drawX, body]
  cases hp : planOk P ops (befores ops) (plan P ops (befores ops)) with
  | false => exact .inl rfl
  | true =>
    simp only
    have d0 : DS L gl { fr := ⟨t, [], gl⟩, st := { st with ctr := st.ctr + ops.size }, snaps := [(ops.size, { st with ctr := st.ctr + ops.size })] }
        { fr := fr, st := { st with ctr := st.ctr + ops.size }, snaps := [(ops.size, { st with ctr := st.ctr + ops.size })] } :=
      ⟨⟨fun x hx => (s.at_ x hx).symm, s.ds, rfl, s.gl⟩, rfl, rfl⟩
    cases hx : xDraw P (ihCall ih) ops (befores ops) st.ctr (plan P ops (befores ops)) { fr := ⟨t, [], gl⟩, st := { st with ctr := st.ctr + ops.size }, snaps := [(ops.size, { st with ctr := st.ctr + ops.size })] } with
    | none => exact .inl rfl
    | some e =>
      obtain ⟨e', h1, h2⟩ := xDraw_congr (P := P) (cf := ihCall ih) hn (befores ops) st.ctr (plan P ops (befores ops)) d0 e hx
      refine .inr ⟨.normal, e'.fr, e'.st, ⟨⟨fun x hx => (h2.fr.at_ x hx).symm, h2.fr.ds, h2.fr.g'⟩, h2.st.symm⟩, ?_⟩
      rcases xDraw_ev hi ops (befores ops) st.ctr (plan P ops (befores ops)) { fr := fr, st := { st with ctr := st.ctr + ops.size }, snaps := [(ops.size, { st with ctr := st.ctr + ops.size })] } with h3 | h3
      · rw [h1] at h3; cases h3
      · exact h3.mono fun m hm => by simp only [hm, h1]
theorem seqX_ok [Memo] {P : Program} {L : Nat} {a b : Code} {x y : Ex} (ha : ExOk P L (YX P a) x) (hb : ExOk P L (YX P b) y) : ExOk P L (YX P (.seq a b)) (seqX x y) := by
  intro ih gl t st fr hi s
  refine .step ?_
  have h := ha ih gl t st fr hi s
  simp only [seqX]
  rcases h with h | ⟨e, fr1, st1, h1, h2⟩
  · rw [h]; exact .inl rfl
  · cases hx : x.run ih gl t st with
    | bad => exact .inl rfl
    | n t' st' =>
      rw [hx] at h1
      cases e with
      | normal =>
        obtain ⟨hs, rfl⟩ := h1
        refine (hb ih gl t' st' fr1 hi hs).ev (h2.mono fun m hm => ?_)
        simp only [YX] at hm
        simp only [YX, X, xCall, body, hm]
      | _ => exact h1.elim
    | x id t' st' =>
      rw [hx] at h1
      cases e with
      | exit j => exact .inr ⟨_, _, _, h1, h2.mono fun m hm => by simp only [YX] at hm; simp only [YX, X, xCall, body, hm]⟩
      | _ => exact h1.elim
    | r t' st' =>
      rw [hx] at h1
      cases e with
      | ret => exact .inr ⟨_, _, _, h1, h2.mono fun m hm => by simp only [YX] at hm; simp only [YX, X, xCall, body, hm]⟩
      | _ => exact h1.elim
    | p v st' =>
      rw [hx] at h1
      cases e with
      | panic j => exact .inr ⟨_, _, _, h1, h2.mono fun m hm => by simp only [YX] at hm; simp only [YX, X, xCall, body, hm]⟩
      | _ => exact h1.elim
theorem blockX_ok [Memo] {P : Program} {L : Nat} {i : Nat} {a : Code} {x : Ex} (ha : ExOk P L (YX P a) x) : ExOk P L (YX P (.block i a)) (blockX i x) := by
  intro ih gl t st fr hi s
  refine .step ?_
  have h := ha ih gl t st fr hi s
  simp only [blockX]
  rcases h with h | ⟨e, fr1, st1, h1, h2⟩
  · rw [h]; exact .inl rfl
  · cases hx : x.run ih gl t st with
    | bad => exact .inl rfl
    | n t' st' =>
      rw [hx] at h1
      cases e with
      | normal => exact .inr ⟨_, _, _, h1, h2.mono fun m hm => by simp only [YX] at hm; simp only [YX, X, xCall, body, hm]⟩
      | _ => exact h1.elim
    | x id t' st' =>
      rw [hx] at h1
      cases e with
      | exit j =>
        obtain ⟨hs, rfl, rfl⟩ := h1
        simp only
        cases hb : Nat.beq id i with
        | true => exact .inr ⟨.normal, fr1, st', ⟨hs, rfl⟩, h2.mono fun m hm => by simp only [YX] at hm; simp only [YX, X, xCall, body, hm, hb]⟩
        | false => exact .inr ⟨.exit id, fr1, st', ⟨hs, rfl, rfl⟩, h2.mono fun m hm => by simp only [YX] at hm; simp only [YX, X, xCall, body, hm, hb]⟩
      | _ => exact h1.elim
    | r t' st' =>
      rw [hx] at h1
      cases e with
      | ret => exact .inr ⟨_, _, _, h1, h2.mono fun m hm => by simp only [YX] at hm; simp only [YX, X, xCall, body, hm]⟩
      | _ => exact h1.elim
    | p v st' =>
      rw [hx] at h1
      cases e with
      | panic j => exact .inr ⟨_, _, _, h1, h2.mono fun m hm => by simp only [YX] at hm; simp only [YX, X, xCall, body, hm]⟩
      | _ => exact h1.elim
theorem loopN_ok [Memo] {P : Program} {L : Nat} {a : Code} {x : Ex} (ha : ExOk P L (YX P a) x) : ∀ n, ExOk P L (YX P (.loop a)) ⟨loopN x n⟩
  | 0 => badX_ok
  | n + 1 => by
    have hn := loopN_ok ha n
    intro ih gl t st fr hi s
    refine .step ?_
    have h := ha ih gl t st fr hi s
    show Goes1 L gl (RX.rec (motive := fun _ => RX) (fun t st => goOn (loopN x n) ih gl t st) (fun id t st => .x id t st) (fun t st => .r t st) (fun v st => .p v st) .bad (x.run ih gl t st)) _
    rcases h with h | ⟨e, fr1, st1, h1, h2⟩
    · rw [h]; exact .inl rfl
    · cases hx : x.run ih gl t st with
      | bad => exact .inl rfl
      | n t' st' =>
        rw [hx] at h1
        cases e with
        | normal =>
          obtain ⟨hs, rfl⟩ := h1
          refine (hn ih gl t' st' fr1 hi hs).ev (h2.mono fun m hm => ?_)
          simp only [YX] at hm
          simp only [YX, X, xCall, body, hm]
        | _ => exact h1.elim
      | x id t' st' =>
        rw [hx] at h1
        cases e with
        | exit j => exact .inr ⟨_, _, _, h1, h2.mono fun m hm => by simp only [YX] at hm; simp only [YX, X, xCall, body, hm]⟩
        | _ => exact h1.elim
      | r t' st' =>
        rw [hx] at h1
        cases e with
        | ret => exact .inr ⟨_, _, _, h1, h2.mono fun m hm => by simp only [YX] at hm; simp only [YX, X, xCall, body, hm]⟩
        | _ => exact h1.elim
      | p v st' =>
        rw [hx] at h1
        cases e with
        | panic j => exact .inr ⟨_, _, _, h1, h2.mono fun m hm => by simp only [YX] at hm; simp only [YX, X, xCall, body, hm]⟩
        | _ => exact h1.elim
theorem ExOk.step [Memo] {P : Program} {L : Nat} {Y : Yf} {x : Ex} (h : ExOk P L (fun m => Y (m + 1)) x) : ExOk P L Y x := fun ih gl t st fr hi s => .step (h ih gl t st fr hi s)
theorem ExOk.eq [Memo] {P : Program} {L : Nat} {Y Z : Yf} {x : Ex} (h : ExOk P L Y x) (he : ∀ m fr st, Z m fr st = Y m fr st) : ExOk P L Z x :=
  fun ih gl t st fr hi s => (h ih gl t st fr hi s).ev (.all fun m => he m fr st)
def Arms [Memo] (P : Program) (L : Nat) : Code → Prop
  | .cond _ a b => ExOk P L (YX P a) (comp P L a) ∧ ExOk P L (YX P b) (comp P L b)
  | _ => True
theorem comp_arms [Memo] (P : Program) (L : Nat) (c : Code) : ExOk P L (YX P c) (comp P L c) ∧ Arms P L c := by
  induction c with
  | skip =>
    refine ⟨?_, trivial⟩
    intro ih gl t st fr hi s
    exact .step (.inr ⟨.normal, fr, st, ⟨s, rfl⟩, .all fun m => rfl⟩)
  | region id ops d =>
    refine ⟨?_, trivial⟩
    cases d with
    | false =>
      refine .step ((rowX_ok (cops_ok finN_ok _ _ _)).eq fun m fr st => ?_)
      simp only [YX, X, xCall, body, xRow]
      cases xOps P (ihCall (X P m)) none ops ops.toList fr st <;> rfl
    | true =>
      simp only [comp]
      cases hn : noL L ops with
      | true => exact .step (drawX_ok hn)
      | false => exact badX_ok
  | seq a b iha ihb =>
    refine ⟨?_, trivial⟩
    unfold comp
    split
    · rename_i id ops x c d
      obtain ⟨hc, hd⟩ := ihb.2
      refine .step (.step ((rowX_ok (cops_ok (finC_ok hc hd) _ _ _)).eq fun m fr st => ?_))
      simp only [YX, X, xCall, body, xRow]
      cases xOps P (ihCall (X P m)) none ops ops.toList fr st with
      | ok fr' st' => simp only [condY]; rfl
      | panic v fr' st' => rfl
      | fail w => rfl
    · exact seqX_ok iha.1 ihb.1
  | cond x a b iha ihb =>
    refine ⟨?_, iha.1, ihb.1⟩
    simp only [comp]
    cases hg : rdO L [] 0 x with
    | none => exact badX_ok
    | some g => exact .step ((condX_ok iha.1 ihb.1 hg).eq fun m fr st => by simp only [YX, X, xCall, body, condY]; rfl)
  | block id b ihb => exact ⟨blockX_ok ihb.1, trivial⟩
  | loop b ihb => exact ⟨loopN_ok ihb.1 _, trivial⟩
  | scope b ihb => exact ⟨.step (ExOk.eq ihb.1 fun m fr st => rfl), trivial⟩
  | exit id =>
    refine ⟨?_, trivial⟩
    intro ih gl t st fr hi s
    exact .step (.inr ⟨.exit id, fr, st, ⟨s, rfl, rfl⟩, .all fun m => rfl⟩)
  | ret =>
    refine ⟨?_, trivial⟩
    intro ih gl t st fr hi s
    exact .step (.inr ⟨.ret, fr, st, ⟨s, rfl⟩, .all fun m => rfl⟩)
  | rangeFunc f ps a b => exact ⟨badX_ok, trivial⟩
  | label l => exact ⟨badX_ok, trivial⟩
  | goto l => exact ⟨badX_ok, trivial⟩
  | refuse w => exact ⟨badX_ok, trivial⟩
theorem comp_ok [Memo] (P : Program) (L : Nat) (c : Code) : ExOk P L (YX P c) (comp P L c) := (comp_arms P L c).1
end Go.Vm
