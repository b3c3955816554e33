/- The fast evaluator: functions, calls, the whole. -/
import Derived.Test.YtidnmhdlfofinaaGreatDoorVmFx9
namespace Go.Vm
open Go
theorem xOps_ev [Memo] {P : Program} {ih : Ih} (hi : IHok P ih) (rd : Option Nat) (ops : Array Oper) : ∀ (l : List Oper) (fr : Fr) (st : St),
    (∃ w, xOps P (ihCall ih) rd ops l fr st = .fail w) ∨ Ev fun m => xOps P (ihCall (X P m)) rd ops l fr st = xOps P (ihCall ih) rd ops l fr st
  | [], fr, st => .inr (.all fun m => rfl)
  | o :: r, fr, st => by
    simp only [xOps]
    cases vwanted ops fr o with
    | false => exact xOps_ev hi rd ops r _ st
    | true =>
      simp only
      cases isDefer o.op with
      | true =>
        simp only
        cases rd with
        | some x => exact .inl ⟨_, rfl⟩
        | none =>
          cases vdefer P fr o.op with
          | none => exact .inl ⟨_, rfl⟩
          | some d => exact xOps_ev hi none ops r _ st
      | false =>
        simp only
        rcases vop_ev hi fr st o.op with ⟨w, hw⟩ | he
        · exact .inl ⟨_, by rw [hw]⟩
        · cases hr : vop P (ihCall ih) fr st o.op with
          | val v st' =>
            rcases xOps_ev hi rd ops r (Fr.to fr o.dst v) st' with ⟨w, hw⟩ | h2
            · exact .inl ⟨w, hw⟩
            · exact .inr ((he.and h2).mono fun m hm => by rw [hm.1, hr]; exact hm.2)
          | panic v st' => exact .inr (he.mono fun m hm => by rw [hm, hr])
          | fail w => exact .inl ⟨_, rfl⟩
theorem vleave_ev [Memo] {P : Program} {ih : Ih} (hi : IHok P ih) (fn : Func) (fr : Fr) : ∀ (ds : List Df) (m : Md) (st : St),
    (∃ w, vleave P ih fn fr ds m st = .fail w) ∨ Ev fun k => vleave P (X P k) fn fr ds m st = vleave P ih fn fr ds m st
  | [], m, st => .inr (.all fun k => rfl)
  | .mark id :: ds, m, st => by
    simp only [vleave]
    cases st.box.get id with
    | none => exact .inl ⟨_, rfl⟩
    | some b =>
      cases b with
      | mark s =>
        cases s with
        | true => exact .inl ⟨_, rfl⟩
        | false => exact vleave_ev hi fn fr ds m _
      | _ => exact .inl ⟨_, rfl⟩
  | .call f args :: ds, m, st => by
    simp only [vleave]
    cases callable P f with
    | false => exact .inl ⟨_, rfl⟩
    | true =>
      simp only
      rcases hi (.dcall fr.gl f args m) st with ⟨w, hw⟩ | he
      · exact .inl ⟨_, by rw [hw]⟩
      · cases hr : ih (.dcall fr.gl f args m) st with
        | dcall m' st' =>
          rcases vleave_ev hi fn fr ds (settleM m') st' with ⟨w, hw⟩ | h2
          · exact .inl ⟨w, hw⟩
          · exact .inr ((he.and h2).mono fun k hk => by rw [hk.1, hr]; exact hk.2)
        | fail w => exact .inl ⟨_, rfl⟩
        | _ => exact .inl ⟨_, rfl⟩
theorem bind_ev [Memo] {P : Program} {ih : Ih} (hi : IHok P ih) (T : Task) (st : St) (G : Ih → Res → Res) (h0 : ∀ w, ∃ w', G ih (.fail w) = .fail w')
    (h1 : ∀ r, (∃ w, G ih r = .fail w) ∨ Ev fun m => G (X P m) r = G ih r) :
    (∃ w, G ih (ih T st) = .fail w) ∨ Ev fun m => G (X P m) (X P m T st) = G ih (ih T st) := by
  rcases hi T st with ⟨w, hw⟩ | he
  · rw [hw]; exact .inl (h0 w)
  · rcases h1 (ih T st) with h | h
    · exact .inl h
    · exact .inr ((he.and h).mono fun m hm => by rw [hm.1, hm.2])
theorem code_ev [Memo] {P : Program} {ih : Ih} (hi : IHok P ih) (rd : Option Nat) (c : Code) (fr : Fr) (st : St) :
    (∃ w, body P ih (.code rd c fr) st = .fail w) ∨ Ev fun m => body P (X P m) (.code rd c fr) st = body P ih (.code rd c fr) st := by
  cases c with
  | skip => exact .inr (.all fun m => rfl)
  | exit id => exact .inr (.all fun m => rfl)
  | ret => exact .inr (.all fun m => rfl)
  | label l => exact .inl ⟨_, rfl⟩
  | goto l => exact .inl ⟨_, rfl⟩
  | refuse w => exact .inl ⟨_, rfl⟩
  | scope b => exact bind_ev hi (.code rd b fr) st (fun _ r => r) (fun w => ⟨w, rfl⟩) fun r => .inr (.all fun m => rfl)
  | cond x a b =>
    simp only [body]
    cases ev fr x with
    | none => exact .inl ⟨_, rfl⟩
    | some v =>
      cases v with
      | bool k =>
        cases k with
        | true => exact bind_ev hi (.code rd a fr) st (fun _ r => r) (fun w => ⟨w, rfl⟩) fun r => .inr (.all fun m => rfl)
        | false => exact bind_ev hi (.code rd b fr) st (fun _ r => r) (fun w => ⟨w, rfl⟩) fun r => .inr (.all fun m => rfl)
      | _ => exact .inl ⟨_, rfl⟩
  | seq a b =>
    simp only [body]
    refine bind_ev hi (.code rd a fr) st (fun ih r => match r with
      | .code .normal fr' st' => ih (.code rd b fr') st'
      | r => r) (fun w => ⟨w, rfl⟩) fun r => ?_
    cases r with
    | code e fr' st' =>
      cases e with
      | normal => exact bind_ev hi (.code rd b fr') st' (fun _ r => r) (fun w => ⟨w, rfl⟩) fun r => .inr (.all fun m => rfl)
      | _ => exact .inr (.all fun m => rfl)
    | _ => exact .inr (.all fun m => rfl)
  | loop a =>
    simp only [body]
    refine bind_ev hi (.code rd a fr) st (fun ih r => match r with
      | .code .normal fr' st' => ih (.code rd (.loop a) fr') st'
      | r => r) (fun w => ⟨w, rfl⟩) fun r => ?_
    cases r with
    | code e fr' st' =>
      cases e with
      | normal => exact bind_ev hi (.code rd (.loop a) fr') st' (fun _ r => r) (fun w => ⟨w, rfl⟩) fun r => .inr (.all fun m => rfl)
      | _ => exact .inr (.all fun m => rfl)
    | _ => exact .inr (.all fun m => rfl)
  | block id b =>
    simp only [body]
    refine bind_ev hi (.code rd b fr) st (fun ih r => match r with
      | .code (.exit id') fr' st' => match Nat.beq id' id with
        | true => .code .normal fr' st'
        | false => .code (.exit id') fr' st'
      | r => r) (fun w => ⟨w, rfl⟩) fun r => .inr (.all fun m => rfl)
  | region id ops d =>
    cases d with
    | false =>
      simp only [body]
      rcases xOps_ev hi rd ops ops.toList fr st with ⟨w, hw⟩ | he
      · exact .inl ⟨w, by rw [hw]⟩
      · exact .inr (he.mono fun m hm => by rw [hm])
    | true =>
      simp only [body]
      cases planOk P ops (befores ops) (plan P ops (befores ops)) with
      | false => exact .inl ⟨_, rfl⟩
      | true =>
        simp only
        rcases xDraw_ev hi ops (befores ops) st.ctr (plan P ops (befores ops)) { fr := fr, st := { st with ctr := st.ctr + ops.size }, snaps := [(ops.size, { st with ctr := st.ctr + ops.size })] } with h | h
        · exact .inl ⟨_, by rw [h]⟩
        · cases hx : xDraw P (ihCall ih) ops (befores ops) st.ctr (plan P ops (befores ops)) { fr := fr, st := { st with ctr := st.ctr + ops.size }, snaps := [(ops.size, { st with ctr := st.ctr + ops.size })] } with
          | none => exact .inl ⟨_, rfl⟩
          | some d => exact .inr (h.mono fun m hm => by rw [hm, hx])
  | rangeFunc g ps a b =>
    simp only [body]
    cases ev fr g with
    | none => exact .inl ⟨_, rfl⟩
    | some v =>
      cases v with
      | fn f first captured =>
        simp only
        cases callable P f with
        | false => exact .inl ⟨_, rfl⟩
        | true =>
          cases enterL rd fr st ps.toList a b with
          | none => exact .inl ⟨_, rfl⟩
          | some x =>
            obtain ⟨id, fr', st'⟩ := x
            simp only
            rcases ihCall_ok hi fr.gl (.f f) (first ++ [.yld id] ++ captured) st' with ⟨w, hw⟩ | he
            · exact .inl ⟨w, by rw [hw]⟩
            · exact .inr (he.mono fun m hm => by rw [hm])
      | _ => exact .inl ⟨_, rfl⟩
theorem call_ev [Memo] {P : Program} {ih : Ih} (hi : IHok P ih) (gl : Gl) (f : Nat) (args : List V) (st : St) :
    (∃ w, body P ih (.call gl f args) st = .fail w) ∨ Ev fun m => body P (X P m) (.call gl f args) st = body P ih (.call gl f args) st := by
  simp only [body]
  cases P.funcs[f]? with
  | none => exact .inl ⟨_, rfl⟩
  | some fn =>
    simp only
    cases fn.body with
    | none => exact .inl ⟨_, rfl⟩
    | some c =>
      simp only
      cases (Nat.ble args.length fn.ntmps && slotsOk fn.ntmps c) with
      | false => exact .inl ⟨_, rfl⟩
      | true =>
        refine bind_ev hi (.code none c (initFr gl args)) st (fun ih r => match r with
          | .code (.exit _) _ _ => .fail "exit"
          | .code (.panic v) fr' st' => vleave P ih fn fr' fr'.ds (.pan v) st'
          | .code _ fr' st' => vleave P ih fn fr' fr'.ds .ret st'
          | .fail w => .fail (fn.name ++ " < " ++ w)
          | _ => .fail "call") (fun w => ⟨_, rfl⟩) fun r => ?_
        cases r with
        | code e fr' st' =>
          cases e with
          | normal => exact vleave_ev hi fn fr' fr'.ds .ret st'
          | ret => exact vleave_ev hi fn fr' fr'.ds .ret st'
          | panic v => exact vleave_ev hi fn fr' fr'.ds (.pan v) st'
          | exit id => exact .inl ⟨_, rfl⟩
        | _ => exact .inl ⟨_, rfl⟩
theorem round_ev [Memo] {P : Program} {ih : Ih} (hi : IHok P ih) (gl : Gl) (id : Nat) (args : List V) (st : St) :
    (∃ w, body P ih (.round gl id args) st = .fail w) ∨ Ev fun m => body P (X P m) (.round gl id args) st = body P ih (.round gl id args) st := by
  simp only [body]
  cases st.box.get id with
  | none => exact .inl ⟨_, rfl⟩
  | some bx =>
    cases bx with
    | loop s pend t ps a bd =>
      simp only
      cases Nat.beq args.length ps.length with
      | false => exact .inl ⟨_, rfl⟩
      | true =>
        simp only
        refine bind_ev hi (.code (some id) a ⟨bindPs ps args t, [], gl⟩) st (fun ih r => match r with
          | .code .normal fr1 st1 => match st1.box.get id with
            | some (.loop .ready pend t ps a' b) => match ih (.code (some id) bd fr1) (st1.put id (.loop .busy pend t ps a' b)) with
              | .code e _ st2 => endRound id e st2
              | .fail w => .fail w
              | _ => .fail "round"
            | _ => .fail "a loop that is not ready"
          | .fail w => .fail w
          | _ => .fail "a round's variables") (fun w => ⟨_, rfl⟩) fun r => ?_
        cases r with
        | code e fr1 st1 =>
          cases e with
          | normal =>
            simp only
            cases st1.box.get id with
            | none => exact .inl ⟨_, rfl⟩
            | some b1 =>
              cases b1 with
              | loop s pend t ps a' b =>
                cases s with
                | ready =>
                  simp only
                  refine bind_ev hi (.code (some id) bd fr1) (st1.put id (.loop .busy pend t ps a' b)) (fun _ r => match r with
                    | .code e _ st2 => endRound id e st2
                    | .fail w => .fail w
                    | _ => .fail "round") (fun w => ⟨_, rfl⟩) fun r => .inr (.all fun m => rfl)
                | _ => exact .inl ⟨_, rfl⟩
              | _ => exact .inl ⟨_, rfl⟩
          | _ => exact .inl ⟨_, rfl⟩
        | _ => exact .inl ⟨_, rfl⟩
    | _ => exact .inl ⟨_, rfl⟩
theorem dcall_ev [Memo] {P : Program} {ih : Ih} (hi : IHok P ih) (gl : Gl) (f : Nat) (args : List V) (m : Md) (st : St) :
    (∃ w, body P ih (.dcall gl f args m) st = .fail w) ∨ Ev fun k => body P (X P k) (.dcall gl f args m) st = body P ih (.dcall gl f args m) st := by
  simp only [body]
  cases P.funcs[f]? with
  | none => exact .inl ⟨_, rfl⟩
  | some fn =>
    simp only
    cases fn.body with
    | none => exact .inl ⟨_, rfl⟩
    | some c =>
      simp only
      cases (Nat.ble args.length fn.ntmps && slotsOk fn.ntmps c) with
      | false => exact .inl ⟨_, rfl⟩
      | true =>
        simp only
        refine bind_ev hi (.dcode c (initFr gl args) m) st (fun _ r => match r with
          | .dcode e fr' m' st' => match e, fr'.ds with
            | .normal, [] | .ret, [] => match traverse (vresult P fr' st') fn.results.toList with
              | some _ => .dcall m' st'
              | none => .fail "results"
            | _, _ => .fail "the end of a deferred call"
          | .fail w => .fail (fn.name ++ " < " ++ w)
          | _ => .fail "a deferred call") (fun w => ⟨_, rfl⟩) fun r => .inr (.all fun m => rfl)
theorem dcode_ev [Memo] {P : Program} {ih : Ih} (hi : IHok P ih) (c : Code) (fr : Fr) (m : Md) (st : St) :
    (∃ w, body P ih (.dcode c fr m) st = .fail w) ∨ Ev fun k => body P (X P k) (.dcode c fr m) st = body P ih (.dcode c fr m) st := by
  simp only [body]
  cases hasRecover c with
  | false =>
    simp only
    exact bind_ev hi (.code none c fr) st (fun _ r => match r with
      | .code e fr' st' => .dcode e fr' m st'
      | .fail w => .fail w
      | _ => .fail "a deferred call's code") (fun w => ⟨_, rfl⟩) fun r => .inr (.all fun m => rfl)
  | true =>
    simp only
    cases c with
    | seq a b =>
      simp only
      refine bind_ev hi (.dcode a fr m) st (fun ih r => match r with
        | .dcode .normal fr' m' st' => ih (.dcode b fr' m') st'
        | r => r) (fun w => ⟨_, rfl⟩) fun r => ?_
      cases r with
      | dcode e fr' m' st' =>
        cases e with
        | normal => exact bind_ev hi (.dcode b fr' m') st' (fun _ r => r) (fun w => ⟨w, rfl⟩) fun r => .inr (.all fun m => rfl)
        | _ => exact .inr (.all fun m => rfl)
      | _ => exact .inr (.all fun m => rfl)
    | cond x a b =>
      simp only
      cases ev fr x with
      | none => exact .inl ⟨_, rfl⟩
      | some v =>
        cases v with
        | bool k =>
          cases k with
          | true => exact bind_ev hi (.dcode a fr m) st (fun _ r => r) (fun w => ⟨w, rfl⟩) fun r => .inr (.all fun m => rfl)
          | false => exact bind_ev hi (.dcode b fr m) st (fun _ r => r) (fun w => ⟨w, rfl⟩) fun r => .inr (.all fun m => rfl)
        | _ => exact .inl ⟨_, rfl⟩
    | block id b =>
      simp only
      exact bind_ev hi (.dcode b fr m) st (fun _ r => match r with
        | .dcode (.exit id') fr' m' st' => match Nat.beq id' id with
          | true => .dcode .normal fr' m' st'
          | false => .dcode (.exit id') fr' m' st'
        | r => r) (fun w => ⟨_, rfl⟩) fun r => .inr (.all fun m => rfl)
    | scope b => exact bind_ev hi (.dcode b fr m) st (fun _ r => r) (fun w => ⟨w, rfl⟩) fun r => .inr (.all fun m => rfl)
    | region id ops d =>
      cases d with
      | false => exact .inr (.all fun k => rfl)
      | true => exact .inl ⟨_, rfl⟩
    | _ => exact .inl ⟨_, rfl⟩
theorem cinit_run : ∀ (n i : Nat) (args : List V) (t : Tr V), (cinit n i).run args t = initT args i t
  | 0, i, args, t => rfl
  | n + 1, i, [], t => rfl
  | n + 1, i, v :: l, t => by
    show (cinit n (i + 1)).run l ((pt i).run t v) = _
    rw [cinit_run n (i + 1), pt_run]
    rfl
theorem tmpsR_ok {P : Program} {L : Nat} {gl : Gl} {t : Tr V} {fr : Fr} (s : Sim L gl t fr) (st : St) : ∀ {rs : List ResultVar} {l : Ls}, tmpsR L rs = some l → traverse (vresult P fr st) rs = some (l.run t [])
  | [], l, h => by simp only [tmpsR, Option.some.injEq] at h; subst h; rfl
  | .tmp a :: r, l, h => by
    simp only [tmpsR] at h
    split at h
    · rename_i l' ha hl
      simp only [Option.some.injEq] at h; subst h
      have ih := tmpsR_ok (P := P) s st hl
      simp only [traverse, vresult, ih, gt_run, s.at_ a ha]
    · cases h
  | .cell a T :: r, l, h => by simp [tmpsR] at h
theorem vresults_congr {P : Program} {fr fr' : Fr} (st : St) : ∀ {rs : List ResultVar}, (∀ s ∈ resSlots rs, Fr.at fr' s = Fr.at fr s) → traverse (vresult P fr' st) rs = traverse (vresult P fr st) rs
  | [], _ => rfl
  | .tmp a :: r, h => by
    have h1 := h a (by simp [resSlots])
    have h2 := vresults_congr (P := P) st (rs := r) fun s hs => h s (by simp only [resSlots, List.mem_cons]; exact .inr hs)
    simp only [traverse, vresult, h1, h2]
  | .cell a T :: r, h => by
    have h1 := h a (by simp [resSlots])
    have h2 := vresults_congr (P := P) st (rs := r) fun s hs => h s (by simp only [resSlots, List.mem_cons]; exact .inr hs)
    simp only [traverse, vresult, h1, h2]
theorem resC_ok {P : Program} {L : Nat} {gl : Gl} {t : Tr V} {fr : Fr} (s : Sim L gl t fr) (st : St) (rs : List ResultVar) :
    (∃ w, (resC P L rs).run gl t st = .fail w) ∨ ∃ vs, traverse (vresult P fr st) rs = some vs ∧ (resC P L rs).run gl t st = .call (.val (tupled vs) st) := by
  unfold resC
  split
  · rename_i a
    split
    · rename_i ha
      refine .inr ⟨[Fr.at fr a], rfl, ?_⟩
      show Res.call (.val ((gt a).run t) st) = _
      rw [gt_run, s.at_ a ha]
      rfl
    · exact .inl ⟨_, rfl⟩
  · split
    · rename_i l hl
      exact .inr ⟨_, tmpsR_ok s st hl, rfl⟩
    · split
      · rename_i hall
        have hc : traverse (vresult P ⟨t, [], gl⟩ st) rs = traverse (vresult P fr st) rs := vresults_congr st fun x hx => by
          have := List.all_eq_true.1 hall x hx
          exact s.at_ x (by simpa using this)
        simp only [hc]
        cases traverse (vresult P fr st) rs with
        | none => exact .inl ⟨_, rfl⟩
        | some vs => exact .inr ⟨vs, rfl, rfl⟩
      · exact .inl ⟨_, rfl⟩
theorem cfun_ok [Memo] {P : Program} {ih : Ih} (hi : IHok P ih) (gl : Gl) (f : Nat) (args : List V) (st : St) (hn : (Memo.look f).run args st = none) :
    (∃ w, (cfun P f).run ih gl args st = .fail w) ∨ Ev fun m => X P m (.call gl f args) st = (cfun P f).run ih gl args st := by
  have slow : (∃ w, (slowF P f).run ih gl args st = .fail w) ∨ Ev fun m => X P m (.call gl f args) st = (slowF P f).run ih gl args st :=
    (call_ev hi gl f args st).imp id fun h => .step (h.mono fun m hm => by simp only [X, xCall, hn]; exact hm)
  unfold cfun
  split
  · exact slow
  · rename_i fn hfn
    split
    · exact slow
    · rename_i c hc
      split
      · exact slow
      · rename_i hps
        simp only [Bool.and_eq_true] at hps
        show (∃ w, Bool.rec (motive := fun _ => Res) (.fail "") (endF (resC P (locals c fn.results.toList) fn.results.toList) gl ((comp P (locals c fn.results.toList) c).run ih gl ((cinit fn.params.size 0).run args .nil) st)) (Nat.ble args.length fn.ntmps) = .fail w) ∨
          Ev fun m => X P m (.call gl f args) st = Bool.rec (motive := fun _ => Res) (.fail "") (endF (resC P (locals c fn.results.toList) fn.results.toList) gl ((comp P (locals c fn.results.toList) c).run ih gl ((cinit fn.params.size 0).run args .nil) st)) (Nat.ble args.length fn.ntmps)
        rw [cinit_run]
        cases hb : Nat.ble args.length fn.ntmps with
        | false => exact .inl ⟨_, rfl⟩
        | true =>
          generalize hL : locals c fn.results.toList = L
          have hs : Sim L gl (initT args 0 .nil) (initFr gl args) := ⟨fun s _ => rfl, rfl, rfl⟩
          have key : ∀ m, X P (m + 1) (.call gl f args) st = (match X P m (.code none c (initFr gl args)) st with
              | .code (.exit _) _ _ => .fail "exit"
              | .code (.panic v) fr' st' => vleave P (X P m) fn fr' fr'.ds (.pan v) st'
              | .code _ fr' st' => vleave P (X P m) fn fr' fr'.ds .ret st'
              | .fail w => .fail (fn.name ++ " < " ++ w)
              | _ => .fail "call") := by
            intro m
            simp only [X, xCall, hn, body, hfn, hc, hb, hps.2, Bool.and_self]
            rfl
          rcases comp_ok P L c ih gl _ st _ hi hs with h | ⟨e, fr1, st1, h1, h2⟩
          · rw [h]; exact .inl ⟨_, rfl⟩
          · have ends : ∀ t, Sim L gl t fr1 → (e = .normal ∨ e = .ret) → (∃ w, (resC P L fn.results.toList).run gl t st1 = .fail w) ∨ Ev fun m => X P m (.call gl f args) st = (resC P L fn.results.toList).run gl t st1 := by
              intro t s he
              rcases resC_ok s st1 fn.results.toList with h | ⟨vs, h3, h4⟩
              · exact .inl h
              · refine .inr (.step (h2.mono fun m hm => ?_))
                simp only [YX] at hm
                rw [key, hm, h4]
                rcases he with rfl | rfl <;> simp only [s.ds, vleave, h3]
            cases hx : (comp P L c).run ih gl (initT args 0 .nil) st with
            | bad => exact .inl ⟨_, rfl⟩
            | n t' st' =>
              rw [hx] at h1
              cases e with
              | normal =>
                obtain ⟨s, rfl⟩ := h1
                exact ends t' s (.inl rfl)
              | _ => exact h1.elim
            | r t' st' =>
              rw [hx] at h1
              cases e with
              | ret =>
                obtain ⟨s, rfl⟩ := h1
                exact ends t' s (.inr rfl)
              | _ => exact h1.elim
            | x id t' st' => exact .inl ⟨_, rfl⟩
            | p v st' =>
              rw [hx] at h1
              cases e with
              | panic w =>
                obtain ⟨rfl, rfl, hd, hg⟩ := h1
                refine .inr (.step (h2.mono fun m hm => ?_))
                simp only [YX] at hm
                rw [key, hm]
                simp only [hd, vleave]
                rfl
              | _ => exact h1.elim
theorem FX_ok [Memo] (P : Program) : ∀ n, IHok P (FX P n)
  | 0 => fun t st => .inl ⟨"", rfl⟩
  | n + 1 => by
    have hi := FX_ok P n
    intro t st
    cases t with
    | code rd c fr => exact (code_ev hi rd c fr st).imp id fun h => .step h
    | call gl f args =>
      have hX : ∀ v st', (Memo.look f).run args st = some (v, st') → ∀ m, X P (m + 1) (.call gl f args) st = .call (.val v st') := fun v st' hv m => by simp only [X, xCall, hv]
      show (∃ w, Option.rec (motive := fun _ => Res) ((cfun P f).run (FX P n) gl args st) (fun p => Prod.rec (motive := fun _ => Res) (fun v st => .call (.val v st)) p) ((Memo.look f).run args st) = .fail w) ∨
        Ev fun m => X P m (.call gl f args) st = Option.rec (motive := fun _ => Res) ((cfun P f).run (FX P n) gl args st) (fun p => Prod.rec (motive := fun _ => Res) (fun v st => .call (.val v st)) p) ((Memo.look f).run args st)
      cases hv : (Memo.look f).run args st with
      | none => exact cfun_ok hi gl f args st hv
      | some p => obtain ⟨v, st'⟩ := p; exact .inr (.step (.all fun m => hX v st' hv m))
    | round gl i args => exact (round_ev hi gl i args st).imp (fun h => h) fun h => .step h
    | dcall gl f args m => exact (dcall_ev hi gl f args m st).imp id fun h => .step h
    | dcode c fr m => exact (dcode_ev hi c fr m st).imp id fun h => .step h
end Go.Vm
