/- The fast evaluator: rows. -/
import Derived.Test.YtidnmhdlfofinaaGreatDoorVmFx7
namespace Go.Vm
open Go
theorem val_push {h : Nat} {t : Tr V} {ρ : List V} {v : V} (s : Src) (hs : ∀ i, s = .st i → i < h) : val (h + 1) t (v :: ρ) s = val h t ρ s := by
  cases s with
  | fr s => rw [val_fr, val_fr]
  | k v => rfl
  | st i =>
    have hi := hs i rfl
    rw [val_st, val_st]
    obtain ⟨j, hj⟩ : ∃ j, h + 1 - 1 - i = j + 1 := ⟨h - 1 - i, by omega⟩
    have : h - 1 - i = j := by omega
    rw [hj, this]
    rfl
theorem look_cons (u : Nat) (s : Src) (E : Env) (t : Nat) : look ((u, s) :: E) t = if t = u then some s else look E t := by
  simp only [look]
  by_cases h : t = u
  · subst h; simp
  · have : Nat.beq t u = false := by rw [beq_dec]; exact decide_eq_false h
    simp [this, h]
theorem EI.push {L : Nat} {gl : Gl} {E : Env} {h : Nat} {t : Tr V} {ρ : List V} {fr : Fr} (e : EI L gl E h t ρ fr) {d : Nat} (hd : isL L d = true) (v : V) :
    EI L gl ((d, .st h) :: E) (h + 1) t (v :: ρ) (Fr.to fr (some d) v) where
  at_ := fun s hs => by
    rw [Fr.atTo]
    have : d ≠ s := fun hh => by subst hh; rw [hd] at hs; cases hs
    simp [this, e.at_ s hs]
  ds := by rw [Fr.dsTo]; exact e.ds
  gl := by rw [Fr.glTo]; exact e.gl
  len := by simp [e.len]
  env := fun u s hu => by
    rw [look_cons] at hu
    rw [Fr.atTo]
    by_cases h1 : u = d
    · subst h1
      simp only [if_true, Option.some.injEq] at hu
      subst hu
      rw [val_st]
      simp
    · simp only [h1, if_false] at hu
      rw [val_push s (fun i hi => e.low u i (by rw [hu, hi])), e.env u s hu]
      simp [Ne.symm h1]
  low := fun u i hu => by
    rw [look_cons] at hu
    by_cases h1 : u = d
    · simp only [h1, if_true, Option.some.injEq, Src.st.injEq] at hu; omega
    · simp only [h1, if_false] at hu
      have := e.low u i hu
      omega
theorem EI.over {L : Nat} {gl : Gl} {E : Env} {h : Nat} {t : Tr V} {ρ : List V} {fr : Fr} (e : EI L gl E h t ρ fr) {d : Nat} (hd : isL L d = true) {src : Src} {v : V} (hv : val h t ρ src = v) (hl : ∀ i, src = .st i → i < h) :
    EI L gl ((d, src) :: E) h t ρ (Fr.to fr (some d) v) where
  at_ := fun s hs => by
    rw [Fr.atTo]
    have : d ≠ s := fun hh => by subst hh; rw [hd] at hs; cases hs
    simp [this, e.at_ s hs]
  ds := by rw [Fr.dsTo]; exact e.ds
  gl := by rw [Fr.glTo]; exact e.gl
  len := e.len
  env := fun u s hu => by
    rw [look_cons] at hu
    rw [Fr.atTo]
    by_cases h1 : u = d
    · subst h1
      simp only [if_true, Option.some.injEq] at hu
      subst hu
      simp [hv]
    · simp only [h1, if_false] at hu
      rw [e.env u s hu]
      simp [Ne.symm h1]
  low := fun u i hu => by
    rw [look_cons] at hu
    by_cases h1 : u = d
    · simp only [h1, if_true, Option.some.injEq] at hu; exact hl i hu
    · simp only [h1, if_false] at hu
      exact e.low u i hu
theorem EI.know {L : Nat} {gl : Gl} {E : Env} {h : Nat} {t : Tr V} {ρ : List V} {fr : Fr} (e : EI L gl E h t ρ fr) {d : Nat} {v : V} (hv : Fr.at fr d = v) :
    EI L gl ((d, .k v) :: E) h t ρ fr where
  at_ := e.at_
  ds := e.ds
  gl := e.gl
  len := e.len
  env := fun u s hu => by
    rw [look_cons] at hu
    by_cases h1 : u = d
    · subst h1
      simp only [if_true, Option.some.injEq] at hu
      subst hu
      exact hv.symm
    · simp only [h1, if_false] at hu
      exact e.env u s hu
  low := fun u i hu => by
    rw [look_cons] at hu
    by_cases h1 : u = d
    · simp [h1] at hu
    · simp only [h1, if_false] at hu
      exact e.low u i hu
theorem refs_no {d : Nat} : ∀ {E : Env}, refs d E = false → ∀ u s, look E u = some s → u ≠ d ∧ s ≠ .fr d
  | [], _, u, s, hu => by simp [look] at hu
  | (w, .fr x) :: r, h, u, s, hu => by
    simp only [refs, Bool.or_eq_false_iff, beq_dec, decide_eq_false_iff_not] at h
    rw [look_cons] at hu
    by_cases h1 : u = w
    · simp only [h1, if_true, Option.some.injEq] at hu
      subst hu
      refine ⟨by rw [h1]; exact h.1.1, fun hh => ?_⟩
      cases hh
      exact h.1.2 rfl
    · simp only [h1, if_false] at hu
      exact refs_no h.2 u s hu
  | (w, .st x) :: r, h, u, s, hu => by
    simp only [refs, Bool.or_eq_false_iff, beq_dec, decide_eq_false_iff_not] at h
    rw [look_cons] at hu
    by_cases h1 : u = w
    · simp only [h1, if_true, Option.some.injEq] at hu
      subst hu
      exact ⟨by rw [h1]; exact h.1, fun hh => by cases hh⟩
    · simp only [h1, if_false] at hu
      exact refs_no h.2 u s hu
  | (w, .k x) :: r, h, u, s, hu => by
    simp only [refs, Bool.or_eq_false_iff, beq_dec, decide_eq_false_iff_not] at h
    rw [look_cons] at hu
    by_cases h1 : u = w
    · simp only [h1, if_true, Option.some.injEq] at hu
      subst hu
      exact ⟨by rw [h1]; exact h.1, fun hh => by cases hh⟩
    · simp only [h1, if_false] at hu
      exact refs_no h.2 u s hu
theorem atT_put (t : Tr V) (d : Nat) (v : V) (s : Nat) : atT (t.put d v) s = if d = s then v else atT t s := by
  simp only [atT, Tr.get_put]
  by_cases h : s = d
  · subst h; simp
  · simp [h, Ne.symm h]
theorem EI.put {L : Nat} {gl : Gl} {E : Env} {h : Nat} {t : Tr V} {ρ : List V} {fr : Fr} (e : EI L gl E h t ρ fr) {d : Nat} (hr : refs d E = false) (v : V) :
    EI L gl E h (t.put d v) ρ (Fr.to fr (some d) v) where
  at_ := fun s hs => by
    rw [Fr.atTo, atT_put]
    by_cases h1 : d = s
    · simp [h1]
    · simp [h1, e.at_ s hs]
  ds := by rw [Fr.dsTo]; exact e.ds
  gl := by rw [Fr.glTo]; exact e.gl
  len := e.len
  env := fun u s hu => by
    obtain ⟨h1, h2⟩ := refs_no hr u s hu
    rw [Fr.atTo]
    have hv : val h (t.put d v) ρ s = val h t ρ s := by
      cases s with
      | fr x =>
        rw [val_fr, val_fr, atT_put]
        have : d ≠ x := fun hh => h2 (by rw [hh])
        simp [this]
      | st i => rw [val_st, val_st]
      | k v => rfl
    rw [hv, e.env u s hu]
    simp [Ne.symm h1]
  low := e.low
theorem look_killE (d h : Nat) : ∀ (E : Env) (u : Nat), look (killE d h E) u = if u = d then none else (look E u).map fun s => match s with | .fr x => if x = d then .st h else .fr x | s => s
  | [], u => by simp [killE, look]
  | (w, .fr x) :: r, u => by
    have ih := look_killE d h r u
    simp only [killE]
    cases hw : Nat.beq w d with
    | true =>
      have hw : w = d := Nat.eq_of_beq_eq_true hw
      subst hw
      simp only
      rw [ih, look_cons]
      by_cases h1 : u = w <;> simp [h1]
    | false =>
      have hw : w ≠ d := by rw [beq_dec] at hw; exact of_decide_eq_false hw
      cases hx : Nat.beq x d with
      | true =>
        have hx : x = d := Nat.eq_of_beq_eq_true hx
        subst hx
        simp only
        rw [look_cons, look_cons, ih]
        by_cases h1 : u = w
        · subst h1; simp [hw]
        · simp [h1]
      | false =>
        have hx : x ≠ d := by rw [beq_dec] at hx; exact of_decide_eq_false hx
        simp only
        rw [look_cons, look_cons, ih]
        by_cases h1 : u = w
        · subst h1; simp [hw, hx]
        · simp [h1]
  | (w, .st x) :: r, u => by
    have ih := look_killE d h r u
    simp only [killE]
    cases hw : Nat.beq w d with
    | true =>
      have hw : w = d := Nat.eq_of_beq_eq_true hw
      subst hw
      simp only
      rw [ih, look_cons]
      by_cases h1 : u = w <;> simp [h1]
    | false =>
      have hw : w ≠ d := by rw [beq_dec] at hw; exact of_decide_eq_false hw
      simp only
      rw [look_cons, look_cons, ih]
      by_cases h1 : u = w
      · subst h1; simp [hw]
      · simp [h1]
  | (w, .k x) :: r, u => by
    have ih := look_killE d h r u
    simp only [killE]
    cases hw : Nat.beq w d with
    | true =>
      have hw : w = d := Nat.eq_of_beq_eq_true hw
      subst hw
      simp only
      rw [ih, look_cons]
      by_cases h1 : u = w <;> simp [h1]
    | false =>
      have hw : w ≠ d := by rw [beq_dec] at hw; exact of_decide_eq_false hw
      simp only
      rw [look_cons, look_cons, ih]
      by_cases h1 : u = w
      · subst h1; simp [hw]
      · simp [h1]
theorem EI.kill {L : Nat} {gl : Gl} {E : Env} {h : Nat} {t : Tr V} {ρ : List V} {fr : Fr} (e : EI L gl E h t ρ fr) (d : Nat) (v : V) :
    EI L gl (killE d h E) (h + 1) (t.put d v) (atT t d :: ρ) (Fr.to fr (some d) v) where
  at_ := fun s hs => by
    rw [Fr.atTo, atT_put]
    by_cases h1 : d = s
    · simp [h1]
    · simp [h1, e.at_ s hs]
  ds := by rw [Fr.dsTo]; exact e.ds
  gl := by rw [Fr.glTo]; exact e.gl
  len := by simp [e.len]
  env := fun u s hu => by
    rw [look_killE] at hu
    by_cases h1 : u = d
    · simp [h1] at hu
    · simp only [h1, if_false] at hu
      obtain ⟨s0, h0, hs⟩ := Option.map_eq_some_iff.1 hu
      have hv := e.env u s0 h0
      rw [Fr.atTo]
      simp only [Option.some.injEq, Ne.symm h1, if_false]
      rw [← hv]
      cases s0 with
      | fr x =>
        simp only at hs
        by_cases hx : x = d
        · simp only [hx, if_true] at hs
          subst hs
          rw [val_st, val_fr, hx]
          simp
        · simp only [hx, if_false] at hs
          subst hs
          rw [val_fr, val_fr, atT_put]
          simp [Ne.symm hx]
      | st i =>
        simp only at hs
        subst hs
        rw [val_push _ (fun j hj => by cases hj; exact e.low u i h0), val_st, val_st]
      | k w =>
        simp only at hs
        subst hs
        rfl
  low := fun u i hu => by
    rw [look_killE] at hu
    by_cases h1 : u = d
    · simp [h1] at hu
    · simp only [h1, if_false] at hu
      obtain ⟨s0, h0, hs⟩ := Option.map_eq_some_iff.1 hu
      cases s0 with
      | fr x =>
        simp only at hs
        by_cases hx : x = d
        · simp only [hx, if_true, Src.st.injEq] at hs; omega
        · simp [hx] at hs
      | st j =>
        simp only [Src.st.injEq] at hs
        have := e.low u j h0
        omega
      | k w => cases hs
def RXle (L : Nat) (gl : Gl) : RX → AE → Fr → St → Prop
  | .n t st, .normal, fr, st' => Sim L gl t fr ∧ st = st'
  | .x id t st, .exit id', fr, st' => Sim L gl t fr ∧ id = id' ∧ st = st'
  | .r t st, .ret, fr, st' => Sim L gl t fr ∧ st = st'
  | .p v st, .panic w, fr, st' => v = w ∧ st = st' ∧ fr.ds = [] ∧ fr.gl = gl
  | _, _, _, _ => False
def Goes1 (L : Nat) (gl : Gl) (rx : RX) (Y : Nat → Res) : Prop :=
  rx = .bad ∨ ∃ e fr st, RXle L gl rx e fr st ∧ Ev fun m => Y m = .code e fr st
theorem Goes1.ev {L : Nat} {gl : Gl} {rx : RX} {Y Z : Nat → Res} (h : Goes1 L gl rx Y) (hz : Ev fun m => Z m = Y m) : Goes1 L gl rx Z := by
  rcases h with h | ⟨e, fr, st, h1, h2⟩
  · exact .inl h
  · exact .inr ⟨e, fr, st, h1, (h2.and hz).mono fun m hm => hm.2.trans hm.1⟩
theorem Goes1.step {L : Nat} {gl : Gl} {rx : RX} {Y : Nat → Res} (h : Goes1 L gl rx fun m => Y (m + 1)) : Goes1 L gl rx Y := by
  rcases h with h | ⟨e, fr, st, h1, h2⟩
  · exact .inl h
  · exact .inr ⟨e, fr, st, h1, Ev.step h2⟩
abbrev Yf := Nat → Fr → St → Res
def ExeOk [Memo] (P : Program) (L : Nat) (E : Env) (h : Nat) (Y : Yf) (x : Exe) : Prop :=
  ∀ ih gl t ρ st fr, IHok P ih → EI L gl E h t ρ fr → Goes1 L gl (x.run ih gl t ρ st) fun m => Y m fr st
def opY [Memo] (P : Program) (o : Op) (dst : Option Nat) (Y : Yf) : Yf := fun m fr st =>
  match vop P (ihCall (X P m)) fr st o with
  | .val v st' => Y m (Fr.to fr dst v) st'
  | .panic v st' => .code (.panic v) fr st'
  | .fail w => .fail w
theorem badE_ok [Memo] {P : Program} {L : Nat} {E : Env} {h : Nat} {Y : Yf} : ExeOk P L E h Y badE := fun _ _ _ _ _ _ _ _ => .inl rfl
theorem out_goes [Memo] {P : Program} {L : Nat} {gl : Gl} {fr : Fr} {st : St} {o : Op} {dst : Option Nat} {Y : Yf} {r : (V → St → RX) → RX} {k : V → St → RX} (ho : Out P fr st o r) (hds : fr.ds = []) (hgl : fr.gl = gl)
    (hk : ∀ v st', Goes1 L gl (k v st') fun m => Y m (Fr.to fr dst v) st') : Goes1 L gl (r k) fun m => opY P o dst Y m fr st := by
  rcases ho with h | ⟨v, st', h1, h2⟩ | ⟨v, st', h1, h2⟩
  · exact .inl (h k)
  · rw [h2]
    exact (hk v st').ev (h1.mono fun m hm => by simp only [opY, hm])
  · rw [h2]
    exact .inr ⟨.panic v, fr, st', ⟨rfl, rfl, hds, hgl⟩, h1.mono fun m hm => by simp only [opY, hm]⟩
theorem bindC_ok [Memo] {P : Program} {L : Nat} {E : Env} {h : Nat} {o : Op} {c : CX} {dst : Option Nat} {Y : Yf} {rest : Env → Nat → Exe} (hc : CXok P L E h o c) (hr : ∀ E h, ExeOk P L E h Y (rest E h)) :
    ExeOk P L E h (opY P o dst Y) (bindC L c dst E h rest) := by
  intro ih gl t ρ st fr hi e
  have ho := hc ih gl t ρ st fr hi e
  unfold bindC
  split
  · exact out_goes ho e.ds e.gl fun v st' => hr E h ih gl t ρ st' fr hi e
  · rename_i d
    split
    · rename_i hd
      exact out_goes ho e.ds e.gl fun v st' => hr _ _ ih gl t (v :: ρ) st' _ hi (e.push hd v)
    · split
      · rename_i hrf
        refine out_goes ho e.ds e.gl fun v st' => ?_
        show Goes1 L gl ((rest E h).run ih gl ((pt d).run t v) ρ st') _
        rw [pt_run]
        exact hr _ _ ih gl _ ρ st' _ hi (e.put hrf v)
      · refine out_goes ho e.ds e.gl fun v st' => ?_
        show Goes1 L gl ((rest (killE d h E) (h + 1)).run ih gl ((pt d).run t v) ((gt d).run t :: ρ) st') _
        rw [pt_run, gt_run]
        exact hr _ _ ih gl _ _ st' _ hi (e.kill d v)
theorem undefC_ok [Memo] {P : Program} {L : Nat} {E : Env} {h : Nat} {dst : Option Nat} {Y : Yf} {rest : Env → Nat → Exe} (hr : ∀ E h, ExeOk P L E h Y (rest E h)) :
    ExeOk P L E h (fun m fr st => Y m (Fr.to fr dst .undef) st) (undefC L dst E h rest) := by
  intro ih gl t ρ st fr hi e
  unfold undefC
  split
  · rename_i d
    split
    · rename_i hd
      exact hr _ _ ih gl t ρ st _ hi (e.over hd rfl (fun i hi => by cases hi))
    · rename_i hd
      unfold bindC
      simp only [hd]
      split
      · rename_i hrf
        show Goes1 L gl ((rest E h).run ih gl ((pt d).run t .undef) ρ st) _
        rw [pt_run]
        exact hr _ _ ih gl _ ρ st _ hi (e.put hrf _)
      · show Goes1 L gl ((rest (killE d h E) (h + 1)).run ih gl ((pt d).run t .undef) ((gt d).run t :: ρ) st) _
        rw [pt_run, gt_run]
        exact hr _ _ ih gl _ _ st _ hi (e.kill d _)
  · exact hr _ _ ih gl t ρ st fr hi e
theorem alias_ok {L : Nat} {gl : Gl} {E : Env} {h : Nat} {t : Tr V} {ρ : List V} {fr : Fr} (e : EI L gl E h t ρ fr) {o : Op} {src : Src} (ha : alias L E o = some src) (P : Program) (ih : CallF) (st : St) :
    vop P ih fr st o = .val (val h t ρ src) st ∧ ∀ i, src = .st i → i < h := by
  have key : ∀ x : Operand, (match x with
    | .tmp s => match look E s with
      | some src => some src
      | none => match isL L s with
        | true => none
        | false => some (.fr s)
    | .const v => match toV 4 v with
      | some w => some (.k w)
      | none => none
    | .func f => some (.k (.fn f [] []))
    | .global _ => none) = some src → ev fr x = some (val h t ρ src) ∧ ∀ i, src = .st i → i < h := by
    intro x hx
    cases x with
    | tmp s =>
      simp only at hx
      split at hx
      · rename_i s0 hs
        simp only [Option.some.injEq] at hx; subst hx
        exact ⟨by simp only [ev, e.env s s0 hs], fun i hi => e.low s i (by rw [hs, hi])⟩
      · split at hx
        · cases hx
        · rename_i hl
          simp only [Option.some.injEq] at hx; subst hx
          exact ⟨by simp only [ev, val_fr, e.at_ s hl], fun i hi => by cases hi⟩
    | const v =>
      simp only at hx
      split at hx
      · rename_i w hw
        simp only [Option.some.injEq] at hx; subst hx
        exact ⟨by simp only [ev, hw, val_k], fun i hi => by cases hi⟩
      · cases hx
    | func f =>
      simp only [Option.some.injEq] at hx; subst hx
      exact ⟨rfl, fun i hi => by cases hi⟩
    | global k => simp at hx
  cases o with
  | move x =>
    obtain ⟨h1, h2⟩ := key x ha
    exact ⟨by simp only [vop, kindOf, vpure, h1], h2⟩
  | assign x =>
    obtain ⟨h1, h2⟩ := key x ha
    exact ⟨by simp only [vop, kindOf, vpure, h1], h2⟩
  | _ => simp [alias] at ha
theorem wantC_ok [Memo] {P : Program} {L : Nat} {E : Env} {h : Nat} {o : Oper} {Y : Yf} {rest : Env → Nat → Exe} (hr : ∀ E h, ExeOk P L E h Y (rest E h)) :
    ExeOk P L E h (opY P o.op o.dst Y) (wantC P L o E h rest) := by
  unfold wantC
  split
  · rename_i d hd
    split
    · rename_i src hl ha
      intro ih gl t ρ st fr hi e
      have hv : ∀ m, vop P (ihCall (X P m)) fr st o.op = .val (val h t ρ src) st := fun m => (alias_ok e ha P _ st).1
      have hlow := (alias_ok e ha P (ihCall ih) st).2
      refine (hr _ _ ih gl t ρ st _ hi (e.over hl rfl hlow)).ev (.all fun m => ?_)
      simp only [opY, hv m, hd]
    · rw [hd]; exact bindC_ok (opC_ok P L E h o.op) hr
  · rename_i hd
    rw [hd]; exact bindC_ok (opC_ok P L E h o.op) hr
def xRow [Memo] (P : Program) (ops : Array Oper) (K : Yf) (l : List Oper) : Yf := fun m fr st =>
  match xOps P (ihCall (X P m)) none ops l fr st with
  | .ok fr' st' => K m fr' st'
  | .panic v fr' st' => .code (.panic v) fr' st'
  | .fail w => .fail w
def askV (v : V) (w : Bool) : Bool := match v with
  | .bool b => b == w
  | _ => false
theorem gst_ok {ops : Array Oper} {L : Nat} {gl : Gl} {E : Env} {h : Nat} {t : Tr V} {ρ : List V} {fr : Fr} (e : EI L gl E h t ρ fr) (o : Oper) :
    match gst ops L E h o with
    | .yes => vwanted ops fr o = true
    | .no => vwanted ops fr o = false
    | .ask d g w => vwanted ops fr o = askV (g.run t ρ) w ∧ Fr.at fr d = g.run t ρ
    | .bad => True := by
  unfold gst vwanted
  cases hg : o.guard with
  | none => simp only
  | some jw =>
    obtain ⟨j, w⟩ := jw
    simp only
    cases hp : ops[j]? with
    | none => simp only
    | some p =>
      simp only
      cases hd : p.dst with
      | none => simp only
      | some d =>
        simp only
        cases hl : look E d with
        | none =>
          simp only
          cases hL : isL L d with
          | true => simp only
          | false =>
            simp only
            have : (rdS h (.fr d)).run t ρ = Fr.at fr d := (val_fr h t ρ d).trans (e.at_ d hL)
            rw [this]
            exact ⟨rfl, rfl⟩
        | some s =>
          have hv := e.env d s hl
          cases s with
          | k v =>
            have hv : v = Fr.at fr d := hv
            rw [← hv]
            simp only
            cases v with
            | bool b => cases hb : (b == w) <;> simp only [hb]
            | _ => simp only
          | fr x =>
            simp only
            have hv : (rdS h (.fr x)).run t ρ = Fr.at fr d := hv
            rw [hv]
            exact ⟨rfl, rfl⟩
          | st x =>
            simp only
            have hv : (rdS h (.st x)).run t ρ = Fr.at fr d := hv
            rw [hv]
            exact ⟨rfl, rfl⟩
theorem cops_ok [Memo] {P : Program} {ops : Array Oper} {L : Nat} {fin : Env → Nat → Exe} {K : Yf} (hf : ∀ E h, ExeOk P L E h K (fin E h)) :
    ∀ (l : List Oper) (E : Env) (h : Nat), ExeOk P L E h (xRow P ops K l) (cops P ops L fin l E h)
  | [], E, h => by
    intro ih gl t ρ st fr hi e
    exact hf E h ih gl t ρ st fr hi e
  | o :: r, E, h => by
    have hr := cops_ok (ops := ops) hf r
    intro ih gl t ρ st fr hi e
    unfold cops
    split
    · exact .inl rfl
    · rename_i hnd
      have hg := gst_ok (ops := ops) e o
      have yes : vwanted ops fr o = true → ∀ m, xRow P ops K (o :: r) m fr st = (match vop P (ihCall (X P m)) fr st o.op with
          | .val v st' => xRow P ops K r m (Fr.to fr o.dst v) st'
          | .panic v st' => .code (.panic v) fr st'
          | .fail w => .fail (o.pos ++ ": " ++ w)) := by
        intro hw m
        simp only [xRow, xOps, hw, hnd]
        cases vop P (ihCall (X P m)) fr st o.op <;> rfl
      have no : vwanted ops fr o = false → ∀ m, xRow P ops K (o :: r) m fr st = xRow P ops K r m (Fr.to fr o.dst .undef) st := by
        intro hw m
        simp only [xRow, xOps, hw]
      have yesY : ∀ {rx : RX}, vwanted ops fr o = true → Goes1 L gl rx (fun m => opY P o.op o.dst (xRow P ops K r) m fr st) → Goes1 L gl rx (fun m => xRow P ops K (o :: r) m fr st) := by
        intro rx hw hh
        rcases hh with hh | ⟨e1, fr1, st1, h1, h2⟩
        · exact .inl hh
        · refine .inr ⟨e1, fr1, st1, h1, h2.mono fun m hm => ?_⟩
          have hm : opY P o.op o.dst (xRow P ops K r) m fr st = .code e1 fr1 st1 := hm
          show xRow P ops K (o :: r) m fr st = _
          rw [yes hw]
          simp only [opY] at hm
          cases hv : vop P (ihCall (X P m)) fr st o.op with
          | val v st' => rw [hv] at hm; exact hm
          | panic v st' => rw [hv] at hm; exact hm
          | fail w => rw [hv] at hm; cases hm
      have noY : ∀ {rx : RX}, vwanted ops fr o = false → Goes1 L gl rx (fun m => xRow P ops K r m (Fr.to fr o.dst .undef) st) → Goes1 L gl rx (fun m => xRow P ops K (o :: r) m fr st) := by
        intro rx hw hh
        exact hh.ev (.all fun m => no hw m)
      have W : ∀ {E : Env}, EI L gl E h t ρ fr → vwanted ops fr o = true → Goes1 L gl ((wantC P L o E h (cops P ops L fin r)).run ih gl t ρ st) (fun m => xRow P ops K (o :: r) m fr st) :=
        fun e' hw => yesY hw (wantC_ok hr ih gl t ρ st fr hi e')
      have U : ∀ {E : Env}, EI L gl E h t ρ fr → vwanted ops fr o = false → Goes1 L gl ((undefC L o.dst E h (cops P ops L fin r)).run ih gl t ρ st) (fun m => xRow P ops K (o :: r) m fr st) :=
        fun e' hw => noY hw (undefC_ok hr ih gl t ρ st fr hi e')
      split
      · exact .inl rfl
      · rename_i hgs
        rw [hgs] at hg
        exact W e hg
      · rename_i hgs
        rw [hgs] at hg
        exact U e hg
      · rename_i d g hgs
        rw [hgs] at hg
        obtain ⟨hw, hd⟩ := hg
        simp only [askE]
        generalize hx : g.run t ρ = x at hw hd
        cases x with
        | bool b =>
          cases b with
          | true => exact W (e.know hd) (by rw [hw]; rfl)
          | false => exact U (e.know hd) (by rw [hw]; rfl)
        | _ => exact U e (by rw [hw]; rfl)
      · rename_i d g hgs
        rw [hgs] at hg
        obtain ⟨hw, hd⟩ := hg
        simp only [askE]
        generalize hx : g.run t ρ = x at hw hd
        cases x with
        | bool b =>
          cases b with
          | true => exact U (e.know hd) (by rw [hw]; rfl)
          | false => exact W (e.know hd) (by rw [hw]; rfl)
        | _ => exact U e (by rw [hw]; rfl)
end Go.Vm
