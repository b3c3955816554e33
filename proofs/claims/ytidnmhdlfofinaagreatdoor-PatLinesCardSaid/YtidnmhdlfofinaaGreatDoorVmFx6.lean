/- The fast evaluator: each compiled operation does what the evaluator's does. -/
import Derived.Test.YtidnmhdlfofinaaGreatDoorVmFx5
namespace Go.Vm
open Go
def Out [Memo] (P : Program) (fr : Fr) (st : St) (o : Op) (r : (V → St → RX) → RX) : Prop :=
  (∀ k, r k = .bad) ∨
  (∃ v st', (Ev fun m => vop P (ihCall (X P m)) fr st o = .val v st') ∧ ∀ k, r k = k v st') ∨
  (∃ v st', (Ev fun m => vop P (ihCall (X P m)) fr st o = .panic v st') ∧ ∀ k, r k = .p v st')
def OK (w : Option V) (st : St) (r : (V → St → RX) → RX) : Prop := (∀ k, r k = .bad) ∨ ∃ v, w = some v ∧ ∀ k, r k = k v st
theorem OK.opt (w : Option V) (st : St) : OK w st (opt w st) := by
  cases w with
  | none => exact .inl fun _ => rfl
  | some v => exact .inr ⟨v, rfl, fun _ => rfl⟩
theorem OK.of_eq {w : Option V} {st : St} {r : (V → St → RX) → RX} (h : ∀ k, r k = Vm.opt w st k) : OK w st r := by
  rcases OK.opt w st with h' | ⟨v, hv, h'⟩
  · exact .inl fun k => (h k).trans (h' k)
  · exact .inr ⟨v, hv, fun k => (h k).trans (h' k)⟩
theorem OK.val {w : Option V} {st : St} {v : V} (h : w = some v) : OK w st fun k => k v st := .inr ⟨v, h, fun _ => rfl⟩
theorem Out.of_pure [Memo] {P : Program} {fr : Fr} {st : St} {o : Op} {r : (V → St → RX) → RX} (hk : kindOf P o = .p ∨ kindOf P o = .r) (h : OK (vpure P fr st o) st r) : Out P fr st o r := by
  rcases h with h | ⟨v, hv, h⟩
  · exact .inl h
  · refine .inr (.inl ⟨v, st, .all fun m => ?_, h⟩)
    rcases hk with hk | hk <;> simp [vop, hk, hv]
theorem Out.of_act [Memo] {P : Program} {fr : Fr} {st : St} {o : Op} {r : (V → St → RX) → RX} (hk : ∀ ih, vop P ih fr st o = match vact P fr st o with | some (v, st') => .val v st' | none => .fail "an act")
    (h : (∀ k, r k = .bad) ∨ ∃ v st', vact P fr st o = some (v, st') ∧ ∀ k, r k = k v st') : Out P fr st o r := by
  rcases h with h | ⟨v, st', hv, h⟩
  · exact .inl h
  · exact .inr (.inl ⟨v, st', .all fun m => by rw [hk, hv], h⟩)
theorem Out.of_er [Memo] {P : Program} {ih : Ih} (hi : IHok P ih) {fr fr' : Fr} {st : St} {o : Op} (h : vop P (ihCall ih) fr' st o = vop P (ihCall ih) fr st o) :
    Out P fr st o fun k => erK (vop P (ihCall ih) fr' st o) k := by
  rw [h]
  rcases vop_ev hi fr st o with ⟨w, hw⟩ | he
  · exact .inl fun k => by rw [hw]; rfl
  · cases hr : vop P (ihCall ih) fr st o with
    | val v st' => exact .inr (.inl ⟨v, st', he.mono fun m hm => by rw [hm, hr], fun k => rfl⟩)
    | panic v st' => exact .inr (.inr ⟨v, st', he.mono fun m hm => by rw [hm, hr], fun k => rfl⟩)
    | fail w => exact .inl fun k => rfl
theorem kc_inj {a b : IntKind} (h : kc a = kc b) : a = b := by cases a <;> cases b <;> first | rfl | (simp [kc] at h)
theorem asN_nat {a : V} {k : IntKind} {x : Nat} (h : asN a = .nat k x) : a = .int k (.ofNat x) := by
  unfold asN at h
  split at h
  · cases h; rfl
  · cases h
theorem natF_eq {s R : RX} {f : IntKind → Nat → IntKind → Nat → RX} {a b : V} (h0 : s = R)
    (h1 : ∀ k x y, a = .int k (.ofNat x) → b = .int k (.ofNat y) → f k x k y = R) : natF s f a b = R := by
  unfold natF
  cases ha : asN a with
  | no => exact h0
  | nat ka x =>
    cases hb : asN b with
    | no => exact h0
    | nat kb y =>
      show (Bool.rec s (f ka x kb y) (Nat.beq (kc ka) (kc kb)) : RX) = R
      cases hk : Nat.beq (kc ka) (kc kb) with
      | false => exact h0
      | true =>
        obtain rfl := kc_inj (Nat.eq_of_beq_eq_true hk)
        exact h1 ka x y (asN_nat ha) (asN_nat hb)
theorem cmpK_eq {f : Nat → Nat → Bool} {s : Option V} {a b : V} {st : St} (h : ∀ k x y, a = .int k (.ofNat x) → b = .int k (.ofNat y) → s = some (.bool (f x y))) (k : V → St → RX) :
    cmpK f s a b st k = opt s st k := by
  unfold cmpK
  refine natF_eq rfl fun ka x y ha hb => ?_
  rw [h ka x y ha hb]
  rfl
theorem wrap_small {k : IntKind} {n : Nat} (h : n < mxK k) : k.wrap (n : Int) = (n : Int) := by
  cases k <;> simp only [mxK] at h <;> simp [IntKind.wrap, IntKind.bits, IntKind.signed] <;> omega
theorem addK_eq {s : Option V} {a b : V} {st : St} (h : ∀ k x y, a = .int k (.ofNat x) → b = .int k (.ofNat y) → s = some (.int k (k.wrap (Int.ofNat x + Int.ofNat y)))) (k : V → St → RX) :
    addK s a b st k = opt s st k := by
  unfold addK
  refine natF_eq rfl fun ka x y ha hb => ?_
  cases hlt : Nat.blt (Nat.add x y) (mxK ka) with
  | false => rfl
  | true =>
    rw [h ka x y ha hb]
    have hlt : Nat.add x y < mxK ka := by simpa [Nat.blt_eq] using hlt
    have : Int.ofNat x + Int.ofNat y = ((Nat.add x y : Nat) : Int) := by simp
    rw [this, wrap_small hlt]
    rfl
theorem subK_eq {s : Option V} {a b : V} {st : St} (h : ∀ k x y, a = .int k (.ofNat x) → b = .int k (.ofNat y) → s = some (.int k (k.wrap (Int.ofNat x - Int.ofNat y)))) (k : V → St → RX) :
    subK s a b st k = opt s st k := by
  unfold subK
  refine natF_eq rfl fun ka x y ha hb => ?_
  cases hle : Nat.ble y x with
  | false => rfl
  | true =>
    cases hlt : Nat.blt (Nat.sub x y) (mxK ka) with
    | false => rfl
    | true =>
      rw [h ka x y ha hb]
      have hlt : Nat.sub x y < mxK ka := by simpa [Nat.blt_eq] using hlt
      have hle : y ≤ x := by simpa [Nat.ble_eq] using hle
      have : Int.ofNat x - Int.ofNat y = ((Nat.sub x y : Nat) : Int) := by simp; omega
      rw [this, wrap_small hlt]
      rfl
theorem loadK_ok {P : Program} {T : TypeId} {z : Nat} (ha : isAggT P T = some false) (hz : sizeT P T = some z) (v : V) (st : St) : OK (vload P st T v) st (loadK v st) := by
  unfold loadK asP
  split
  · rename_i id off
    refine .of_eq fun k => ?_
    show opt (nthL off (cellsB (trGet st.box id))) st k = _
    rw [nthL_eq, trGet_eq]
    simp only [vload]
    cases st.box.get id with
    | none => rfl
    | some b => cases b <;> first | rfl | simp only [cellsB, vpart, ha, hz]
  · rename_i cs
    refine .of_eq fun k => ?_
    show opt (nthL 0 cs) st k = _
    rw [nthL_eq]
    simp only [vload, vpart, ha, hz]
  · exact .inl fun _ => rfl
theorem put1_eq {P : Program} {T : TypeId} (hz : sizeT P T = some 1) {v : V} (hv : simV v = true) (st : St) (id off : Nat) : put1 st id off v = vstore P st T (.ptr id off) v := by
  have hc : v.cells = [v] ∧ oneC v = true := by cases v <;> simp_all [simV, V.cells]
  simp only [put1, vstore, hz, trGet_eq]
  cases st.box.get id with
  | none => rfl
  | some b =>
    cases b with
    | cells cs e fl fz =>
      simp only [hc.1, List.length_singleton, List.all_cons, hc.2, List.all_nil, Bool.and_true, setN_eq]
      by_cases hlt : off < cs.length
      · have h1 : Nat.ble (off + 1) cs.length = true := Nat.ble_eq_true_of_le hlt
        cases hf : fzOk fz off with
        | false => simp
        | true => simp [hlt, h1, over, trPut_eq]
      · have h1 : Nat.ble (off + 1) cs.length = false := by
          cases h : Nat.ble (off + 1) cs.length with
          | false => rfl
          | true => exact absurd (Nat.le_of_ble_eq_true h) (by omega)
        cases hf : fzOk fz off <;> simp [hlt, h1]
    | _ => rfl
theorem optS_ok {P : Program} {st : St} {T : TypeId} {a v : V} {w : Option St} (h : w = vstore P st T a v) :
    (∀ k, optS w k = .bad) ∨ ∃ st', vstore P st T a v = some st' ∧ ∀ k, optS w k = k .undef st' := by
  subst h
  cases vstore P st T a v with
  | none => exact .inl fun _ => rfl
  | some st' => exact .inr ⟨st', rfl, fun _ => rfl⟩
theorem storeK_ok {P : Program} {T : TypeId} (hz : sizeT P T = some 1) (a v : V) (st : St) :
    (∀ k, storeK P T a v st k = .bad) ∨ ∃ st', vstore P st T a v = some st' ∧ ∀ k, storeK P T a v st k = k .undef st' := by
  unfold storeK
  cases hv : simV v with
  | false => exact optS_ok rfl
  | true =>
    simp only [asP]
    split
    · rename_i id off
      exact optS_ok (put1_eq hz hv st id off)
    · exact .inl fun _ => rfl
    · exact .inl fun _ => rfl
theorem idxSK_ok {P : Program} {T : TypeId} (hT : P.underlying T = some .string) (x i : V) (st : St) : OK (vindex P T x i) st (idxSK x i st) := by
  unfold idxSK asS
  split
  · rename_i s
    unfold asN
    split
    · rename_i k n
      refine .of_eq fun c => ?_
      simp only [vindex, hT, asNat]
      cases h : Nat.blt n s.n <;> rfl
    · exact .inl fun _ => rfl
  · exact .inl fun _ => rfl
theorem idxGK_ok {P : Program} {T e : TypeId} {n z : Nat} (hT : P.underlying T = some (.array n e)) (ha : isAggT P e = some false) (hz : sizeT P e = some z) (x i : V) (st : St) : OK (vindex P T x i) st (idxGK n z x i st) := by
  unfold idxGK asN
  split
  · rename_i k m
    refine .of_eq fun c => ?_
    show opt (igF n z x m) st c = _
    congr 1
    cases x <;> try (simp [igF, vindex, hT, asNat]; done)
    case agg cs =>
      simp only [igF, vindex, hT, asNat, hz, nthL_eq, vpart, ha]
      cases Nat.blt m n <;> rfl
  · exact .inl fun _ => rfl
theorem lenSK_ok {P : Program} {T : TypeId} (hT : P.underlying T = some .string) (x : V) (st : St) : OK (vlen P T x) st (lenSK x st) := by
  unfold lenSK asS
  split
  · exact .of_eq fun c => by simp only [vlen, hT]; rfl
  · exact .inl fun _ => rfl
theorem lenLK_ok {P : Program} {T e : TypeId} (hT : P.underlying T = some (.slice e)) (x : V) (st : St) : OK (vlen P T x) st (lenLK x st) := by
  unfold lenLK lenL
  split
  · exact .of_eq fun c => by simp only [vlen, hT]; rfl
  · exact .of_eq fun c => by simp only [vlen, hT]; rfl
  · exact .of_eq fun c => by simp only [vlen, hT]; rfl
  · exact .inl fun _ => rfl
theorem idxAK_ok {P : Program} {T e : TypeId} {z : Nat} (hT : P.underlying T = some (.slice e)) (hz : sizeT P e = some z) (x i : V) (st : St) : OK (vindexAddr P T x i) st (idxAK z x i st) := by
  unfold idxAK asN
  split
  · rename_i k m
    refine .of_eq fun c => ?_
    show opt (iaL z x m) st c = _
    congr 1
    cases x <;> try (simp [iaL, vindexAddr, hT, asNat]; done)
    case sl n cs ex =>
      simp only [iaL, vindexAddr, hT, asNat, hz]
      cases Nat.blt m n <;> rfl
    case ms id off n z' cap =>
      simp only [iaL, vindexAddr, hT, asNat, hz]
      cases Nat.blt m n <;> rfl
  · exact .inl fun _ => rfl
end Go.Vm
