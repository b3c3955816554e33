/- Contracts of small functions of the seat of tokens: strings.IndexByte, strings.HasPrefix, Is; a rule for loops with a rising index. The operators: the one that stands there, by the program and by the document. Words: where a quote ends, where a word ends, by the program and by the document. Words: where a word ends, by the program and by the document. Words: where a word ends, by the document. -/
import Derived.Test.YtedkiipdgffoaaaDoorVmWv
import Derived.Test.YtedkiipdgffoaaaDoorLy0
import Derived.Test.YtedkiipdgffoaaaDoorChecked
namespace Go.Vm
open Go Go.Proofs Go.Lx
attribute [local simp] Oks xOps vwanted isDefer vop kindOf vpure ev evs toV andThen inBlock atTo_some Fr.dsTo Fr.glTo Fr.toNone initFr_at initFr_ds initFr_gl veff traverse tupled vresult V.undef evOpt

/-- a loop whose index rises to a bound -/
theorem Does.up [Memo] {P : Program} {b : Code} {Q : AE → Fr → St → Prop} (N : Nat) (I : Nat → Fr → St → Prop) (i0 : Nat) {fr : Fr} {st : St} (h0 : I i0 fr st) (hb : ∀ i fr st, I i fr st → i ≤ N)
    (step : ∀ i fr st, I i fr st → Does P b fr st (andThen (fun fr' st' => ∃ j, i < j ∧ I j fr' st') Q)) : Does P (.loop b) fr st Q := by
  refine Does.inv (fun n fr st => ∃ i, I i fr st ∧ n = N - i) (N - i0) ⟨i0, h0, rfl⟩ ?_
  rintro n fr st ⟨i, hi, rfl⟩
  refine (step i fr st hi).mono fun e fr' st' h => ?_
  cases e with
  | normal =>
    obtain ⟨j, hj, hij⟩ := h
    have := hb j _ _ hij
    exact ⟨N - j, by omega, j, hij, rfl⟩
  | exit id => exact h
  | ret => exact h
  | panic v => exact h

/-- no rule but for works() -/
class NL [Memo] : Prop where
  no : ∀ f, Nat.beq f 7 = false → ∀ args st, (Memo.look f).run args st = none

theorem S.drop_at (s : S) {i : Nat} (h : i < s.n) : s.toList.drop i = UInt8.ofNat (s.at i) :: s.toList.drop (i + 1) := by
  have h1 := s.toList_at h
  have h2 : i < s.toList.length := by simpa using h
  rw [List.drop_eq_getElem_cons h2]
  rw [List.getElem?_eq_getElem h2] at h1
  rw [Option.some.inj h1]

theorem byte_eq {a b : Nat} (ha : a < 256) (hb : b < 256) : (UInt8.ofNat a = UInt8.ofNat b) ↔ a = b := by
  constructor
  · intro h
    have := congrArg UInt8.toNat h
    simp at this; omega
  · rintro rfl; rfl

theorem S.toList_n {s : S} : s.toList.length = s.n := S.len s

theorem vslice_lohi {P : Program} {T : TypeId} (hT : P.underlying T = some .string) {s : S} {lo hi : Nat} (h1 : lo ≤ hi) (h2 : hi ≤ s.n) {k k' : IntKind} : vslice P T (.str s) (some (.int k (lo : Int))) (some (.int k' (hi : Int))) = some (.str (s.cut lo hi)) := by
  have e1 : Nat.ble lo hi = true := Nat.ble_eq_true_of_le h1
  have e2 : Nat.ble hi s.n = true := Nat.ble_eq_true_of_le h2
  simp only [vslice, hT, bound, asNat_cast, e1, e2, Bool.and_self]

theorem vslice_lo {P : Program} {T : TypeId} (hT : P.underlying T = some .string) {s : S} {lo : Nat} (h1 : lo ≤ s.n) {k : IntKind} : vslice P T (.str s) (some (.int k (lo : Int))) none = some (.str (s.cut lo s.n)) := by
  have e1 : Nat.ble lo s.n = true := Nat.ble_eq_true_of_le h1
  simp only [vslice, hT, bound, asNat_cast, e1, ble_self, Bool.and_self]

theorem vslice_hi {P : Program} {T : TypeId} (hT : P.underlying T = some .string) {s : S} {hi : Nat} (h2 : hi ≤ s.n) {k' : IntKind} : vslice P T (.str s) none (some (.int k' (hi : Int))) = some (.str (s.cut 0 hi)) := by
  have e1 : Nat.ble 0 hi = true := Nat.ble_eq_true_of_le (Nat.zero_le _)
  have e2 : Nat.ble hi s.n = true := Nat.ble_eq_true_of_le h2
  simp only [vslice, hT, bound, asNat_cast, e1, e2, Bool.and_self]

theorem rest_toList (s : S) {i : Nat} (h : i ≤ s.n) : (s.cut i s.n).toList = s.toList.drop i := by
  rw [S.toList_cut s h (Nat.le_refl _), List.take_of_length_le (by simp)]
theorem rest_n (s : S) (i : Nat) : (s.cut i s.n).n = s.n - i := rfl
theorem cut_n (s : S) (i j : Nat) : (s.cut i j).n = j - i := rfl

theorem pre_take {o l : List UInt8} (h : o.length ≤ l.length) : (l.take o.length == o) = o.isPrefixOf l := by
  rw [Bool.eq_iff_iff, beq_iff_eq, List.isPrefixOf_iff_prefix, List.prefix_iff_eq_take]
  exact eq_comm
theorem pre_long {o l : List UInt8} (h : ¬ o.length ≤ l.length) : o.isPrefixOf l = false := by
  cases hp : o.isPrefixOf l with
  | false => rfl
  | true => exact absurd (List.isPrefixOf_iff_prefix.1 hp).length_le h

variable [Memo] [NL]

theorem stringslite_index (gl : Gl) (st : St) (s : S) (c : Nat) :
    W Tryd.prog (.call gl 20 [.str s, .int .u8 (c : Int)]) st = .call (.val (.int .i64 (Lib.indexByte s.toList c.toUInt8)) st) := by
  have hx : vextern Tryd.prog Tryd.f27 [.str s, .int .u8 (c : Int)] = some (.int .i64 (Lib.indexByte s.toList c.toUInt8)) := vextern_index (by kernel_rfl) (by kernel_rfl) s c
  have hb : Tryd.f27.body = none := rfl
  have hm : (Tryd.f27.name == "runtime.NumGoroutine") = false := by kernel_rfl
  refine call_does (NL.no _ rfl _ _) Tryd.func20 rfl (by kernel_rfl) ?_
  refine Does.seq (Does.region ?_)
  simp
  refine Does.seq (Does.region ?_)
  simp [vcall_extern Tryd.func27 hm hb hx]
  refine Does.ret ?_
  simp [Tryd.f20]

/-- strings.IndexByte -/
theorem strings_index (gl : Gl) (st : St) (s : S) (c : Nat) :
    W Tryd.prog (.call gl 16 [.str s, .int .u8 (c : Int)]) st = .call (.val (.int .i64 (Lib.indexByte s.toList c.toUInt8)) st) := by
  have hc := ihCall_W (stringslite_index gl st s c)
  have hk : callable Tryd.prog 20 = true := by kernel_rfl
  refine call_does (NL.no _ rfl _ _) Tryd.func16 rfl (by kernel_rfl) ?_
  refine Does.seq (Does.region ?_)
  simp
  refine Does.seq (Does.region ?_)
  simp [vcall_callable hk, hc]
  refine Does.ret ?_
  simp [Tryd.f16]

theorem lite_prefix (gl : Gl) (st : St) (s o : S) :
    W Tryd.prog (.call gl 28 [.str s, .str o]) st = .call (.val (.bool (o.toList.isPrefixOf s.toList)) st) := by
  have hls := vlen_str Tryd.underlying9 (s := s)
  have hlo := vlen_str Tryd.underlying9 (s := o)
  refine call_does (NL.no _ rfl _ _) Tryd.func28 rfl (by kernel_rfl) ?_
  refine Does.seq (Does.region ?_)
  simp
  refine Does.seq (Does.region ?_)
  by_cases hl : o.n ≤ s.n
  · have hl' : decide ((s.n : Int) ≥ (o.n : Int)) = true := by simpa using hl
    have hl'' : (o.n : Int) ≤ (s.n : Int) := by omega
    have hsl := vslice_hi Tryd.underlying9 hl (k' := .i64)
    have hv : ((s.cut 0 o.n).same o) = o.toList.isPrefixOf s.toList := by
      rw [S.same_eq, S.toList_cut s (Nat.zero_le _) hl]
      have := pre_take (o := o.toList) (l := s.toList) (by simpa using hl)
      simpa using this
    simp [hls, hlo, vbin_geq, hl'', hsl, vbin_seql, hv]
    cases hp : o.toList.isPrefixOf s.toList <;> refine Does.ret ?_ <;> simp [Tryd.f28]
  · have hl'' : ¬ (o.n : Int) ≤ (s.n : Int) := by omega
    have hv := pre_long (o := o.toList) (l := s.toList) (by simpa using hl)
    simp [hls, hlo, vbin_geq, hl'']
    refine Does.ret ?_
    simp [Tryd.f28, hv]

/-- strings.HasPrefix -/
theorem strings_prefix (gl : Gl) (st : St) (s o : S) :
    W Tryd.prog (.call gl 25 [.str s, .str o]) st = .call (.val (.bool (o.toList.isPrefixOf s.toList)) st) := by
  have hc := ihCall_W (lite_prefix gl st s o)
  have hk : callable Tryd.prog 28 = true := by kernel_rfl
  refine call_does (NL.no _ rfl _ _) Tryd.func25 rfl (by kernel_rfl) ?_
  refine Does.seq (Does.region ?_)
  simp
  refine Does.seq (Does.region ?_)
  simp [vcall_callable hk, hc]
  refine Does.ret ?_
  simp [Tryd.f25]

/-- Is -/
theorem is_ok (gl : Gl) (st : St) (s : S) (i : Nat) (o : S) (hi : i ≤ s.n) (hs : s.n < 1000000) (ho : o.n < 1000000) :
    W Tryd.prog (.call gl 15 [.str s, .int .i64 (i : Int), .str o]) st = .call (.val (.bool (o.toList.isPrefixOf (s.toList.drop i))) st) := by
  have hls := vlen_str Tryd.underlying9 (s := s)
  have hlo := vlen_str Tryd.underlying9 (s := o)
  have hw := wrap_add (n := i) (m := o.n) (by omega)
  refine call_does (NL.no _ rfl _ _) Tryd.func15 rfl (by kernel_rfl) ?_
  refine Does.seq (Does.region ?_)
  simp
  refine Does.seq (Does.region ?_)
  by_cases hl : i + o.n ≤ s.n
  · have hl'' : (i : Int) + (o.n : Int) ≤ (s.n : Int) := by omega
    have hsl := vslice_lohi Tryd.underlying9 (s := s) (lo := i) (hi := i + o.n) (by omega) hl (k := .i64) (k' := .i64)
    have hv : ((s.cut i (i + o.n)).same o) = o.toList.isPrefixOf (s.toList.drop i) := by
      rw [S.same_eq, S.toList_cut s (by omega) hl]
      have := pre_take (o := o.toList) (l := s.toList.drop i) (by simp; omega)
      simpa using this
    simp at hsl
    simp [hls, hlo, vbin_add, hw, vbin_leq, hl'', hsl, vbin_seql, hv]
    cases hp : o.toList.isPrefixOf (s.toList.drop i) <;> refine Does.ret ?_ <;> simp [Tryd.f15]
  · have hl'' : ¬ (i : Int) + (o.n : Int) ≤ (s.n : Int) := by omega
    have hv := pre_long (o := o.toList) (l := s.toList.drop i) (by simp; omega)
    simp [hls, hlo, vbin_add, hw, vbin_leq, hl'']
    refine Does.ret ?_
    simp [Tryd.f15, hv]
end Go.Vm

namespace Go.Vm
open Go Go.Proofs Go.Lx
attribute [local simp] Oks xOps vwanted isDefer vop kindOf vpure ev evs toV andThen inBlock atTo_some Fr.dsTo Fr.glTo Fr.toNone initFr_at initFr_ds initFr_gl veff traverse tupled vresult V.undef evOpt

def opsS : List S := opsL.map S.ofList
theorem opsS_len : opsS.length = 12 := by rfl
theorem opsS_get {i : Nat} : (opsS.getD i ⟨0, 0⟩).toList = opsL.getD i [] := by
  unfold opsS
  rw [List.getD_eq_getElem?_getD, List.getElem?_map, List.getD_eq_getElem?_getD]
  cases opsL[i]? with
  | none => rfl
  | some o => simp
theorem opsS_n {i : Nat} : (opsS.getD i ⟨0, 0⟩).n ≤ 2 := by
  have : ∀ l ∈ opsL, l.length ≤ 2 := by decide
  rw [← S.len, opsS_get, List.getD_eq_getElem?_getD]
  cases h : opsL[i]? with
  | none => simp
  | some o => exact this o (List.mem_of_getElem? h)

theorem u36 : Tryd.prog.underlying 36 = some (.slice 9) := Tryd.underlying36
theorem z9 : sizeT Tryd.prog 9 = some 1 := by kernel_rfl
theorem a9 : isAggT Tryd.prog 9 = some false := by kernel_rfl
theorem z3 : sizeT Tryd.prog 3 = some 1 := by kernel_rfl
theorem a3 : isAggT Tryd.prog 3 = some false := by kernel_rfl

def opInt (o : Option Nat) : Int :=
  match o with
  | some i => (i : Int)
  | none => -1

theorem opIx_at {r : List UInt8} {i : Nat} (hi : i < 12) (hp : (opsL.getD i []).isPrefixOf r = true) (hn : ∀ j, j < i → (opsL.getD j []).isPrefixOf r = false) : opIx r = some i := by
  unfold opIx
  rw [List.findIdx?_eq_some_iff_getElem]
  have g : ∀ j (h : j < opsL.length), opsL[j]'h = opsL.getD j [] := fun j h => by
    rw [List.getD_eq_getElem?_getD, List.getElem?_eq_getElem h]; rfl
  refine ⟨hi, ?_, fun j hj => ?_⟩
  · have h := hp
    rw [← g i hi] at h; exact h
  · have h := hn j hj
    rw [← g j (Nat.lt_trans hj hi)] at h
    exact fun h' => by rw [h] at h'; cases h'
theorem opIx_no {r : List UInt8} (hn : ∀ j, j < 12 → (opsL.getD j []).isPrefixOf r = false) : opIx r = none := by
  unfold opIx
  rw [List.findIdx?_eq_none_iff]
  intro o ho
  obtain ⟨j, hj, rfl⟩ := List.getElem_of_mem ho
  have := hn j hj
  rw [List.getD_eq_getElem?_getD, List.getElem?_eq_getElem hj] at this
  simpa using this

variable [Memo] [NL]

theorem clo_ok (gl : Gl) (st : St) (o r : S) (id : Nat) (e : TypeId) (fl : Bool) (fz : Option Nat) (hb : st.box.get id = some (.cells [.str r] e fl fz)) :
    W Tryd.prog (.call gl 24 [.str o, .ptr id 0]) st = .call (.val (.bool (o.toList.isPrefixOf r.toList)) st) := by
  have hc := ihCall_W (strings_prefix gl st r o)
  have hk : callable Tryd.prog 25 = true := by kernel_rfl
  have hl := vload_of (P := Tryd.prog) (off := 0) a9 z9 hb rfl
  refine call_does (NL.no _ rfl _ _) Tryd.func24 rfl (by kernel_rfl) ?_
  refine Does.seq (Does.region ?_)
  simp
  refine Does.seq (Does.region ?_)
  simp [vcall_callable hk, hc, hl]
  refine Does.ret ?_
  simp [Tryd.f24]

/-- slices.IndexFunc over the operators -/
theorem indexFunc_ok (gl : Gl) (st : St) (r : S) (id : Nat) (e : TypeId) (fl : Bool) (fz : Option Nat) (hb : st.box.get id = some (.cells [.str r] e fl fz)) (ex : Bool) :
    W Tryd.prog (.call gl 23 [.sl 12 (opsS.map .str) ex, .fn 24 [] [.ptr id 0]]) st = .call (.val (.int .i64 (opInt (opIx r.toList))) st) := by
  have hk : callable Tryd.prog 24 = true := by kernel_rfl
  have hv : Vw st (.sl 12 (opsS.map .str) ex) opsS := .sl opsS ex
  have hlen := hv.len Tryd.underlying36
  rw [opsS_len] at hlen
  refine call_does (NL.no _ rfl _ _) Tryd.func23 rfl (by kernel_rfl) ?_
  refine Does.seq (Does.region ?_)
  simp
  refine Does.seq (Does.seq (Does.region ?_))
  simp [hlen]
  refine Does.mono (Q := fun e fr' st' => st' = st ∧ fr'.ds = [] ∧ ((e = AE.ret ∧ Fr.at fr' 4 = .int .i64 (opInt (opIx r.toList))) ∨ (e = AE.normal ∧ opIx r.toList = none))) ?loop ?tail
  case tail =>
    rintro e fr' st' ⟨rfl, hds, ⟨rfl, h4⟩ | ⟨rfl, hn⟩⟩
    · simp [hds, h4, Tryd.f23]
    · simp
      refine Does.seq (Does.region ?_)
      simp
      refine Does.ret ?_
      simp [hds, hn, opInt, Tryd.f23]
  case loop =>
    refine Does.block (Does.up 12 (fun i fr st' => st' = st ∧ fr.ds = [] ∧ fr.gl = gl ∧ i ≤ 12 ∧ Fr.at fr 0 = .sl 12 (opsS.map .str) ex ∧ Fr.at fr 1 = .fn 24 [] [.ptr id 0] ∧ Fr.at fr 7 = .int .i64 12 ∧ Fr.at fr 8 = .int .i64 (i : Int) ∧ ∀ j, j < i → (opsL.getD j []).isPrefixOf r.toList = false) 0 ?init ?bound ?step)
    case init => simp
    case bound => exact fun i fr st' h => h.2.2.2.1
    case step =>
      rintro i fr st' ⟨rfl, hds, hgl, hi, h0, h1, h7, h8, hn⟩
      repeat refine Does.seq ?_
      refine Does.region ?_
      by_cases hlt : i < 12
      · have hlt' : (i : Int) < 12 := by omega
        simp [h7, h8, vbin_lss, hlt']
        repeat refine Does.seq ?_
        refine Does.condT (by simp) ?_
        refine Does.skip ?_
        simp
        repeat refine Does.seq ?_
        refine Does.block ?_
        repeat refine Does.seq ?_
        refine Does.region ?_
        simp [h8]
        repeat refine Does.seq ?_
        refine Does.region ?_
        obtain ⟨a, ha1, ha2⟩ := hv.get (P := Tryd.prog) (k := .i64) Tryd.underlying36 z9 a9 (i := i) (by rw [opsS_len]; exact hlt)
        have hc := ihCall_W (clo_ok gl st' (opsS.getD i ⟨0, 0⟩) r id e fl fz hb)
        rw [opsS_get] at hc
        generalize hp : (opsL.getD i []).isPrefixOf r.toList = b at hc
        generalize hog : opsS.getD i ⟨0, 0⟩ = o at ha2 hc
        simp [h0, h1, h8, hgl, ha1, ha2, vcall_callable hk, hc]
        repeat refine Does.seq ?_
        refine Does.cond (c := b) (by simp) (fun hbt => ?_) (fun hbf => ?_)
        · subst hbt
          refine Does.seq (Does.region ?_)
          simp
          refine Does.ret ?_
          simp [hds]
          rw [opIx_at hlt hp hn]; rfl
        · subst hbf
          refine Does.skip ?_
          simp
          refine Does.region ?_
          have hw : IntKind.i64.wrap ((i : Int) + 1) = (i : Int) + 1 := wrap_i64 (by omega) (by omega)
          simp [h8, vbin_add, hw]
          refine ⟨i + 1, by omega, hds, hgl, by omega, h0, h1, h7, by simp, fun j hj => ?_⟩
          by_cases hj' : j = i
          · rw [hj']; exact hp
          · exact hn j (by omega)
      · have hlt' : ¬ (i : Int) < 12 := by omega
        simp [h7, h8, vbin_lss, hlt']
        repeat refine Does.seq ?_
        refine Does.condF (by simp) ?_
        refine Does.exit ?_
        simp [hds]
        exact opIx_no fun j hj => hn j (by omega)

/-- the document's op -/
theorem op_ok (gl : Gl) (st : St) (s : S) (i : Nat) (hi : i ≤ s.n) (hs : s.n < 1000000) :
    ∃ v st', W Tryd.prog (.call gl 18 [.str s, .int .i64 (i : Int)]) st = .call (.val v st') ∧ ∃ o, v = .str o ∧ o.toList = opTx (s.toList.drop i) ∧ Keep st st' := by
  have hk : callable Tryd.prog 15 = true := by kernel_rfl
  have hbs : vbuildSlice Tryd.prog 36 12 [(0, .str (S.ofList [38, 38])), (1, .str (S.ofList [124, 124])), (2, .str (S.ofList [59, 59])), (3, .str (S.ofList [60, 60])), (4, .str (S.ofList [62, 62])), (5, .str (S.ofList [59])), (6, .str (S.ofList [38])), (7, .str (S.ofList [124])), (8, .str (S.ofList [60])), (9, .str (S.ofList [62])), (10, .str (S.ofList [40])), (11, .str (S.ofList [41]))] = some (opsS.map .str, 9, 1) := by kernel_rfl
  refine call_ex (NL.no _ rfl _ _) Tryd.func18 rfl (by kernel_rfl) ?_
  refine Does.seq (Does.region ?_)
  simp
  refine Does.seq (Does.region ?_)
  have hall : (opsS.map V.str).all oneC = true := by simp [oneC]
  simp [valloc, evParts, hbs, hall, mkRef]
  have hvn : Vw { ctr := st.ctr + 1, box := st.box.put st.ctr (.cells (opsS.map .str) 9 true (some 0)) } (.ms st.ctr 0 12 1 (some 12)) opsS := by
    refine .ms st.ctr 0 (some 12) (opsS.map .str) 9 true (some 0) opsS (by simp [Tr.get_put]) (fun i hi => ?_) (by simp) (Nat.lt_succ_self _) (by rfl)
    simp [List.getElem?_map, List.getD_eq_getElem?_getD, hi]
  have hkp : Keep st { ctr := st.ctr + 1, box := st.box.put st.ctr (.cells (opsS.map .str) 9 true (some 0)) } := (Keep.refl st).new _
  revert hvn hkp
  generalize ({ ctr := st.ctr + 1, box := st.box.put st.ctr (.cells (opsS.map .str) 9 true (some 0)) } : St) = st1
  intro hvn hkp
  have hlen := hvn.len Tryd.underlying36
  rw [opsS_len] at hlen
  refine Does.seq (Does.seq (Does.region ?_))
  simp
  refine Does.mono (Q := fun e fr' st' => st' = st1 ∧ fr'.ds = [] ∧ ((e = AE.ret ∧ ∃ o, Fr.at fr' 4 = .str o ∧ o.toList = opTx (s.toList.drop i)) ∨ (e = AE.normal ∧ opIx (s.toList.drop i) = none))) ?loop ?tail
  case tail =>
    rintro e fr' st' ⟨rfl, hds, ⟨rfl, o, h4, ho⟩ | ⟨rfl, hn⟩⟩
    · exact ⟨.inl rfl, hds, o, h4, ho, hkp⟩
    · simp
      refine Does.seq (Does.region ?_)
      simp
      refine Does.ret ?_
      simp [hds, opTx, hn, hkp]
  case loop =>
    refine Does.block (Does.up 12 (fun k fr st' => st' = st1 ∧ fr.ds = [] ∧ fr.gl = gl ∧ k ≤ 12 ∧ Fr.at fr 0 = .str s ∧ Fr.at fr 1 = .int .i64 (i : Int) ∧ Fr.at fr 5 = .ms st.ctr 0 12 1 (some 12) ∧ Fr.at fr 6 = .int .i64 (k : Int) ∧ ∀ j, j < k → (opsL.getD j []).isPrefixOf (s.toList.drop i) = false) 0 ?init ?bound ?step)
    case init => simp
    case bound => exact fun i fr st' h => h.2.2.2.1
    case step =>
      rintro k fr st' ⟨rfl, hds, hgl, hk12, h0, h1, h5, h6, hn⟩
      repeat refine Does.seq ?_
      refine Does.region ?_
      by_cases hlt : k < 12
      · have hlt' : (k : Int) < 12 := by omega
        simp [h5, h6, hlen, vbin_lss, hlt']
        repeat refine Does.seq ?_
        refine Does.condT (by simp) ?_
        refine Does.skip ?_
        simp
        repeat refine Does.seq ?_
        refine Does.block ?_
        repeat refine Does.seq ?_
        refine Does.region ?_
        obtain ⟨a, ha1, ha2⟩ := hvn.get (P := Tryd.prog) (k := .i64) Tryd.underlying36 z9 a9 (i := k) (by rw [opsS_len]; exact hlt)
        have hc := ihCall_W (is_ok gl st' s i (opsS.getD k ⟨0, 0⟩) hi hs (by have := opsS_n (i := k); omega))
        rw [opsS_get] at hc
        generalize hp : (opsL.getD k []).isPrefixOf (s.toList.drop i) = b at hc
        generalize hog : opsS.getD k ⟨0, 0⟩ = o at ha2 hc
        simp [h0, h1, h5, h6, hgl, ha1, ha2, vcall_callable hk, hc]
        repeat refine Does.seq ?_
        refine Does.cond (c := b) (by simp) (fun hbt => ?_) (fun hbf => ?_)
        · subst hbt
          refine Does.seq (Does.region ?_)
          simp [h5, h6, ha1, ha2]
          refine Does.ret ?_
          simp [hds]
          rw [← hog, opsS_get]
          simp [opTx, opIx_at hlt hp hn]
        · subst hbf
          refine Does.skip ?_
          simp
          refine Does.region ?_
          have hw : IntKind.i64.wrap ((k : Int) + 1) = (k : Int) + 1 := wrap_i64 (by omega) (by omega)
          simp [h6, vbin_add, hw]
          refine ⟨k + 1, by omega, hds, hgl, by omega, h0, h1, h5, by simp, fun j hj => ?_⟩
          by_cases hj' : j = k
          · rw [hj']; exact hp
          · exact hn j (by omega)
      · have hlt' : ¬ (k : Int) < 12 := by omega
        simp [h5, h6, hlen, vbin_lss, hlt']
        repeat refine Does.seq ?_
        refine Does.condF (by simp) ?_
        refine Does.exit ?_
        simp [hds]
        exact opIx_no fun j hj => hn j (by omega)
end Go.Vm

namespace Go.Vm
open Go Go.Proofs Go.Lx
attribute [local simp] Oks xOps vwanted isDefer vop kindOf vpure ev evs toV andThen inBlock atTo_some Fr.dsTo Fr.glTo Fr.toNone initFr_at initFr_ds initFr_gl veff traverse tupled vresult V.undef evOpt xDraw xStep

theorem Keep.tick {a b : St} (h : Keep a b) (n : Nat) : Keep a { b with ctr := b.ctr + n } := ⟨Nat.le_trans h.ctr (Nat.le_add_right ..), h.box⟩

theorem wrap1 {i : Nat} (h : i < 2000000) : IntKind.i64.wrap ((i : Int) + 1) = ((i + 1 : Nat) : Int) := by
  rw [wrap_i64 (by omega) (by omega)]; omega
theorem wrap2 {i : Nat} (h : i < 2000000) : IntKind.i64.wrap ((i : Int) + 2) = ((i + 2 : Nat) : Int) := by
  rw [wrap_i64 (by omega) (by omega)]; omega

variable [Memo] [NL]

theorem quoted_ok (gl : Gl) (st : St) (r : S) (q : UInt8) (tl : List UInt8) (hr : r.toList = q :: tl) (hn : r.n < 1000000) :
    ∃ v st', W Tryd.prog (.call gl 29 [.str r]) st = .call (.val v st') ∧ v = .int .i64 (opInt ((quoteL q tl).map (· + 1))) ∧ Keep st st' := by
  have hlen := vlen_str Tryd.underlying9 (s := r)
  have hn0 : 0 < r.n := by rw [← S.len, hr]; simp
  have hq : q = UInt8.ofNat (r.at 0) := by
    have := r.toList_at hn0
    rw [hr] at this
    simpa using this
  have h0i := vindex_str (P := Tryd.prog) (k := .i64) Tryd.underlying9 hn0
  simp only [Int.ofNat_zero, Int.natCast_zero, Int.cast_ofNat_Int] at h0i
  have ha0 := r.at_lt 0
  refine call_ex (NL.no _ rfl _ _) Tryd.func29 rfl (by kernel_rfl) ?_
  repeat refine Does.seq ?_
  refine Does.region ?_
  simp
  repeat refine Does.seq ?_
  refine Does.region ?_
  simp
  refine Does.mono (Q := fun e fr' st' => Keep st st' ∧ fr'.ds = [] ∧ ((e = AE.ret ∧ Fr.at fr' 2 = .int .i64 (opInt ((quoteL q tl).map (· + 1)))) ∨ (e = AE.normal ∧ quoteL q tl = none))) ?loop ?tail
  case tail =>
    rintro e fr' st' ⟨hk, hds, ⟨rfl, h2⟩ | ⟨rfl, hno⟩⟩
    · exact ⟨.inl rfl, hds, h2, hk⟩
    · simp
      repeat refine Does.seq ?_
      refine Does.region ?_
      simp
      refine Does.ret ?_
      simp [hds, hno, opInt, hk]
  case loop =>
    refine Does.block (Does.up (r.n + 1) (fun i fr st' => Keep st st' ∧ fr.ds = [] ∧ Fr.at fr 0 = .str r ∧ Fr.at fr 3 = .int .i64 (i : Int) ∧ i ≤ r.n + 1 ∧ 1 ≤ i ∧ ((i ≤ r.n ∧ (quoteL q (r.toList.drop i)).map (· + i) = (quoteL q tl).map (· + 1)) ∨ (i = r.n + 1 ∧ quoteL q tl = none))) 1 ?init ?bound ?step)
    case init => exact ⟨.refl st, by simp, by simp, by simp, by omega, Nat.le_refl _, .inl ⟨by omega, by rw [hr]; rfl⟩⟩
    case bound => exact fun i fr st' h => h.2.2.2.2.1
    case step =>
      rintro i fr st' ⟨hk, hds, h0, h3, hi, hi1, hinv⟩
      repeat refine Does.seq ?_
      refine Does.region ?_
      by_cases hlt : i < r.n
      · have hlt' : (i : Int) < (r.n : Int) := by omega
        obtain ⟨hle, hinv⟩ : i ≤ r.n ∧ (quoteL q (r.toList.drop i)).map (· + i) = (quoteL q tl).map (· + 1) := hinv.resolve_right (by omega)
        simp [h0, h3, hlen, vbin_lss, hlt']
        repeat refine Does.seq ?_
        refine Does.condT (by simp) ?_
        refine Does.skip ?_
        simp
        repeat refine Does.seq ?_
        refine Does.block ?_
        repeat refine Does.seq ?_
        refine Does.draw (b := [0, 0, 3, 0, 8, 31]) (l := [0, 1, 2, 3, 4, 5]) (by kernel_rfl) (by kernel_rfl) (by kernel_rfl) ?_
        have hix := vindex_str (P := Tryd.prog) (k := .i64) Tryd.underlying9 hlt
        have hai := r.at_lt i
        have hdr := r.drop_at hlt
        rw [hdr, quoteL] at hinv
        simp [h0, h3, hix, h0i, vbin_eql]
        repeat refine Does.seq ?_
        have hkt := hk.tick 6
        by_cases hq1 : r.at i = r.at 0
        · have hq1' : (r.at i : Int) = (r.at 0 : Int) := by omega
          rw [if_pos (by rw [hq, hq1])] at hinv
          refine Does.condT (by simp [hq1']) ?_
          repeat refine Does.seq ?_
          refine Does.region ?_
          simp [h3]
          refine Does.ret ?_
          simp [hds, ← hinv, opInt, hkt]
        · have hq1' : ¬ (r.at i : Int) = (r.at 0 : Int) := by omega
          rw [if_neg (by rw [hq, byte_eq hai ha0]; exact hq1)] at hinv
          refine Does.condF (by simp [hq1']) ?_
          refine Does.skip ?_
          simp
          repeat refine Does.seq ?_
          refine Does.region ?_
          by_cases hq2 : r.at 0 = 34
          · have hq2' : (r.at 0 : Int) = 34 := by omega
            have hqq : q = 34 := by rw [hq, hq2]; rfl
            by_cases hq3 : r.at i = 92
            · have hq3' : (r.at i : Int) = 92 := by omega
              rw [if_pos ⟨hqq, by rw [hq3]; rfl⟩] at hinv
              have w1 := wrap1 (i := i) (by omega)
              have w2 := wrap1 (i := i + 1) (by omega)
              simp at w1 w2
              simp [h0, h3, hix, h0i, vbin_eql, hq2', hq3']
              repeat refine Does.seq ?_
              refine Does.condT (by simp) ?_
              refine Does.region ?_
              simp [h3, vbin_add, w1]
              refine Does.region ?_
              simp [vbin_add, w2]
              refine ⟨i + 2, by omega, hkt, hds, h0, by simp; omega, by omega, by omega, ?_⟩
              by_cases hend : i + 1 = r.n
              · rw [if_pos (by rw [hend, List.drop_eq_nil_iff]; simp)] at hinv
                refine .inr ⟨by omega, ?_⟩
                cases h : quoteL q tl with
                | none => rfl
                | some m => rw [h] at hinv; simp at hinv
              · rw [if_neg (by rw [List.drop_eq_nil_iff]; simp; omega), List.drop_drop] at hinv
                refine .inl ⟨by omega, ?_⟩
                rw [← hinv, Option.map_map]
                congr 1
                funext x
                simp; omega
            · have hq3' : ¬ (r.at i : Int) = 92 := by omega
              rw [if_neg (by rintro ⟨_, h⟩; exact hq3 ((byte_eq hai (by decide)).1 h))] at hinv
              have w1 := wrap1 (i := i) (by omega)
              simp at w1
              simp [h0, h3, hix, h0i, vbin_eql, hq2', hq3']
              repeat refine Does.seq ?_
              refine Does.condF (by simp) ?_
              refine Does.skip ?_
              simp
              refine Does.region ?_
              simp [h3, vbin_add, w1]
              refine ⟨i + 1, by omega, hkt, hds, h0, by simp, by omega, by omega, .inl ⟨by omega, ?_⟩⟩
              rw [← hinv, Option.map_map]
              congr 1
              funext x
              simp; omega
          · have hq2' : ¬ (r.at 0 : Int) = 34 := by omega
            rw [if_neg (by rintro ⟨h, _⟩; rw [hq] at h; exact hq2 ((byte_eq ha0 (by decide)).1 h))] at hinv
            have w1 := wrap1 (i := i) (by omega)
            simp at w1
            simp [h0, h3, hix, h0i, vbin_eql, hq2']
            repeat refine Does.seq ?_
            refine Does.condF (by simp) ?_
            refine Does.skip ?_
            simp
            refine Does.region ?_
            simp [h3, vbin_add, w1]
            refine ⟨i + 1, by omega, hkt, hds, h0, by simp, by omega, by omega, .inl ⟨by omega, ?_⟩⟩
            rw [← hinv, Option.map_map]
            congr 1
            funext x
            simp; omega
      · have hlt' : ¬ (i : Int) < (r.n : Int) := by omega
        simp [h0, h3, hlen, vbin_lss, hlt']
        repeat refine Does.seq ?_
        refine Does.condF (by simp) ?_
        refine Does.exit ?_
        simp [hds, hk]
        rcases hinv with ⟨_, h⟩ | ⟨_, h⟩
        · rw [List.drop_eq_nil_of_le (by simp; omega)] at h
          cases hh : quoteL q tl with
          | none => rfl
          | some m => rw [hh] at h; simp [quoteL] at h
        · exact h
end Go.Vm

namespace Go.Vm
open Go Go.Proofs Go.Lx
attribute [local simp] Oks xOps vwanted isDefer vop kindOf vpure ev evs toV andThen inBlock atTo_some Fr.dsTo Fr.glTo Fr.toNone initFr_at initFr_ds initFr_gl veff traverse tupled vresult V.undef evOpt xDraw xStep

theorem indexByte_eq (c : UInt8) : ∀ l : List UInt8, Lib.indexByte l c = if c ∈ l then ((l.takeWhile (· ≠ c)).length : Int) else -1
  | [] => rfl
  | b :: l => by
    rw [Lib.indexByte, indexByte_eq c l]
    by_cases h : b = c
    · subst h; simp
    · have h' : (b == c) = false := by simpa using h
      by_cases hm : c ∈ l
      · rw [h']
        have : ¬ ((List.takeWhile (fun x => decide (x ≠ c)) l).length : Int) = -1 := by omega
        simp only [Bool.false_eq_true, if_false, if_pos hm, List.mem_cons, hm, or_true, if_true, beq_iff_eq, this]
        rw [List.takeWhile_cons_of_pos (by simp [h])]
        simp
      · have h2 : ¬ c = b := fun h2 => h h2.symm
        simp [h', hm, h2]

theorem indexByte_ge (l : List UInt8) (c : UInt8) : (0 ≤ Lib.indexByte l c) ↔ c ∈ l := by
  rw [indexByte_eq]
  by_cases h : c ∈ l
  · simp [h]
  · simp [h]

def endz : S := S.ofList [32, 9, 10, 59, 38, 124, 60, 62, 40, 41]
theorem endz_ends (b : Nat) : (0 ≤ Lib.indexByte endz.toList b.toUInt8) ↔ endsL (UInt8.ofNat b) = true := by
  rw [indexByte_ge]
  have : endz.toList = [32, 9, 10, 59, 38, 124, 60, 62, 40, 41] := S.toList_ofList _
  rw [this]
  simp only [endsL, List.elem_eq_mem, decide_eq_true_eq]

theorem field0 (id : Nat) : vfieldAddr Tryd.prog 40 (.ptr id 0) 0 = some (.ptr id 0) := by kernel_rfl
theorem field1 (id : Nat) : vfieldAddr Tryd.prog 40 (.ptr id 0) 1 = some (.ptr id 1) := by kernel_rfl
theorem field2 (id : Nat) : vfieldAddr Tryd.prog 40 (.ptr id 0) 2 = some (.ptr id 2) := by kernel_rfl

/-- the cutter -/
def Cu (st : St) (id : Nat) (s : S) (at_ : Nat) (out : V) : Prop := st.box.get id = some (.cells [.str s, .int .i64 (at_ : Int), out] 40 true (some 0))

theorem Cu.l0 {st : St} {id : Nat} {s : S} {a : Nat} {out : V} (h : Cu st id s a out) : vload Tryd.prog st 9 (.ptr id 0) = some (.str s) := vload_of a9 z9 h rfl
theorem Cu.l1 {st : St} {id : Nat} {s : S} {a : Nat} {out : V} (h : Cu st id s a out) : vload Tryd.prog st 3 (.ptr id 1) = some (.int .i64 (a : Int)) := vload_of a3 z3 h rfl
theorem Cu.keep {st st' : St} (hk : Keep st st') {id : Nat} {s : S} {a : Nat} {out : V} (hid : id < st.ctr) (h : Cu st id s a out) : Cu st' id s a out := by
  unfold Cu; rw [hk.box id hid]; exact h

theorem addL_pair (n : Nat) (x : Nat × Bool) : addL n x = (n + x.1, x.2) := rfl

variable [Memo] [NL]

theorem word_ok (gl : Gl) (st : St) (id : Nat) (s : S) (a : Nat) (out : V) (hc : Cu st id s a out) (hid : id < st.ctr) (ha : a ≤ s.n) (hn : s.n < 1000000) :
    ∃ v st', W Tryd.prog (.call gl 26 [.ptr id 0]) st = .call (.val v st') ∧ v = .tup [.int .i64 ((a + (wordL (s.toList.drop a)).1 : Nat) : Int), .bool (wordL (s.toList.drop a)).2] ∧ Keep st st' := by
  have hk16 : callable Tryd.prog 16 = true := by kernel_rfl
  have hk29 : callable Tryd.prog 29 = true := by kernel_rfl
  have hlen := vlen_str Tryd.underlying9 (s := s)
  have f0 := field0 id
  have f1 := field1 id
  refine call_ex (NL.no _ rfl _ _) Tryd.func26 rfl (by kernel_rfl) ?_
  repeat refine Does.seq ?_
  refine Does.region ?_
  simp
  repeat refine Does.seq ?_
  refine Does.region ?_
  simp [f1, hc.l1]
  refine Does.mono (Q := fun e fr' st' => Keep st st' ∧ fr'.ds = [] ∧ ((e = AE.ret ∧ Fr.at fr' 2 = .int .i64 ((a + (wordL (s.toList.drop a)).1 : Nat) : Int) ∧ Fr.at fr' 3 = .bool (wordL (s.toList.drop a)).2) ∨ (e = AE.normal ∧ Fr.at fr' 0 = .ptr id 0 ∧ a + (wordL (s.toList.drop a)).1 = s.n ∧ (wordL (s.toList.drop a)).2 = true))) ?loop ?tail
  case tail =>
    rintro e fr' st' ⟨hk, hds, ⟨rfl, h2, h3⟩ | ⟨rfl, h0, hE, hok⟩⟩
    · simp at h2
      simp [hds, h2, h3, hk]
    · simp
      repeat refine Does.seq ?_
      refine Does.region ?_
      simp [h0, f0, (hc.keep hk hid).l0, hlen]
      refine Does.ret ?_
      simp [hds, hok, hk]
      omega
  case loop =>
    refine Does.block (Does.up (s.n + 1) (fun i fr st' => Keep st st' ∧ fr.ds = [] ∧ fr.gl = gl ∧ Fr.at fr 0 = .ptr id 0 ∧ Fr.at fr 4 = .int .i64 (i : Int) ∧ i ≤ s.n + 1 ∧
      ((i ≤ s.n ∧ i + (wordL (s.toList.drop i)).1 = a + (wordL (s.toList.drop a)).1 ∧ (wordL (s.toList.drop i)).2 = (wordL (s.toList.drop a)).2) ∨ (i = s.n + 1 ∧ a + (wordL (s.toList.drop a)).1 = s.n ∧ (wordL (s.toList.drop a)).2 = true))) a ?init ?bound ?step)
    case init => exact ⟨.refl st, by simp, by simp, by simp, by simp, by omega, .inl ⟨ha, rfl, rfl⟩⟩
    case bound => exact fun i fr st' h => h.2.2.2.2.2.1
    case step =>
      rintro i fr st' ⟨hk, hds, hgl, h0, h4, hi, hinv⟩
      have hcc := hc.keep hk hid
      have l0 := hcc.l0
      repeat refine Does.seq ?_
      refine Does.region ?_
      by_cases hlt : i < s.n
      · have hlt' : (i : Int) < (s.n : Int) := by omega
        obtain ⟨hle, hE, hok⟩ := hinv.resolve_right (by omega)
        clear hinv
        rw [s.drop_at hlt, wordL] at hE hok
        have hix := vindex_str (P := Tryd.prog) (k := .i64) Tryd.underlying9 hlt
        have hai := s.at_lt i
        simp [h0, h4, f0, l0, hlen, vbin_lss, hlt']
        repeat refine Does.seq ?_
        refine Does.condT (by simp) ?_
        refine Does.skip ?_
        simp
        repeat refine Does.seq ?_
        refine Does.block ?_
        repeat refine Does.seq ?_
        refine Does.region ?_
        simp [h0, h4, f0, l0, hix]
        refine Does.block ?_
        repeat refine Does.seq ?_
        refine Does.region ?_
        have w1 := wrap1 (i := i) (by omega)
        have w2 := wrap1 (i := i + 1) (by omega)
        simp at w1 w2
        by_cases h92 : s.at i = 92
        · have h92' : (s.at i : Int) = 92 := by omega
          have hb : UInt8.ofNat (s.at i) = 92 := by rw [h92]; rfl
          rw [if_pos hb] at hE hok
          simp [vbin_eql, h92']
          repeat refine Does.seq ?_
          refine Does.condT (by simp) ?_
          refine Does.region ?_
          simp [h4, vbin_add, w1]
          refine Does.region ?_
          simp [vbin_add, w2]
          refine ⟨i + 2, by omega, hk, hds, hgl, h0, by simp; omega, by omega, ?_⟩
          by_cases hend : i + 1 = s.n
          · have hnil : s.toList.drop (i + 1) = [] := by rw [List.drop_eq_nil_iff]; simp [hend]
            rw [if_pos hnil] at hE hok
            exact .inr ⟨by omega, by simp at hE; omega, hok.symm⟩
          · have hnil : ¬ s.toList.drop (i + 1) = [] := by rw [List.drop_eq_nil_iff]; simp; omega
            rw [if_neg hnil, List.drop_drop, addL_pair] at hE hok
            rw [show i + 1 + 1 = i + 2 from rfl] at hE hok
            exact .inl ⟨by omega, by omega, hok⟩
        · have h92' : ¬ (s.at i : Int) = 92 := by omega
          have hb : ¬ UInt8.ofNat (s.at i) = 92 := fun h => h92 ((byte_eq hai (by decide)).1 h)
          rw [if_neg hb] at hE hok
          simp [vbin_eql, h92']
          repeat refine Does.seq ?_
          refine Does.condF (by simp) ?_
          repeat refine Does.seq ?_
          refine Does.region ?_
          simp [vbin_eql]
          repeat refine Does.seq ?_
          refine Does.mono (Q := fun e fr' st'' => st'' = st' ∧ e = AE.normal ∧ fr'.ds = [] ∧ fr'.gl = gl ∧ Fr.at fr' 0 = .ptr id 0 ∧ Fr.at fr' 4 = .int .i64 (i : Int) ∧ Fr.at fr' 38 = .bool (decide (s.at i = 39 ∨ s.at i = 34))) ?qa ?qb
          case qa =>
            by_cases h39 : s.at i = 39
            · have h39' : (s.at i : Int) = 39 := by omega
              refine Does.condT (by simp [h39']) ?_
              refine Does.skip ?_
              simp [hds, hgl, h0, h4, h39]
            · have h39' : ¬ (s.at i : Int) = 39 := by omega
              refine Does.condF (by simp [h39']) ?_
              refine Does.region ?_
              by_cases h34 : s.at i = 34
              · have h34' : (s.at i : Int) = 34 := by omega
                simp [vbin_eql, hds, hgl, h0, h4, h34', h34]
              · have h34' : ¬ (s.at i : Int) = 34 := by omega
                simp [vbin_eql, hds, hgl, h0, h4, h34', h34, h39]
          case qb =>
          rintro e fr' st'' ⟨rfl, rfl, hds, hgl, h0, h4, h38⟩
          simp
          by_cases hq : s.at i = 39 ∨ s.at i = 34
          · have hqb : UInt8.ofNat (s.at i) = 39 ∨ UInt8.ofNat (s.at i) = 34 := by
              rcases hq with h | h <;> rw [h]
              · exact .inl rfl
              · exact .inr rfl
            rw [if_pos hqb] at hE hok
            refine Does.condT (by simp [h38, hq]) ?_
            repeat refine Does.seq ?_
            refine Does.region ?_
            have hsl := vslice_lo (P := Tryd.prog) (k := .i64) Tryd.underlying9 (s := s) (lo := i) (by omega)
            obtain ⟨v, st2, hcall, rfl, hk2⟩ := quoted_ok gl st'' (s.cut i s.n) (UInt8.ofNat (s.at i)) (s.toList.drop (i + 1)) (by rw [rest_toList s (by omega), s.drop_at hlt]) (by rw [rest_n]; omega)
            have hcall := ihCall_W hcall
            generalize hqq : quoteL (UInt8.ofNat (s.at i)) (s.toList.drop (i + 1)) = o at hE hok hcall
            simp [h0, h4, hgl, f0, l0, hsl, vcall_callable hk29, hcall]
            cases o with
            | none =>
              repeat refine Does.seq ?_
              refine Does.region ?_
              simp [opInt, vbin_lss]
              repeat refine Does.seq ?_
              refine Does.condT (by simp) ?_
              repeat refine Does.seq ?_
              refine Does.region ?_
              simp [h4]
              refine Does.ret ?_
              simp at hE hok
              simp [hds, hk.trans hk2, ← hok]
              omega
            | some m =>
              have hm := quoteL_lt _ _ _ (Nat.le_refl _) m hqq
              simp at hm
              have hneg : ¬ ((m : Int) + 1 < 0) := by omega
              repeat refine Does.seq ?_
              refine Does.region ?_
              simp [opInt, vbin_lss, hneg]
              repeat refine Does.seq ?_
              refine Does.condF (by simp) ?_
              refine Does.skip ?_
              simp
              refine Does.region ?_
              have w3 : IntKind.i64.wrap ((i : Int) + ((m : Int) + 1)) = (i : Int) + ((m : Int) + 1) := wrap_i64 (by omega) (by omega)
              have w4 : IntKind.i64.wrap ((i : Int) + ((m : Int) + 1) + 1) = (i : Int) + ((m : Int) + 1) + 1 := wrap_i64 (by omega) (by omega)
              simp [h4, vbin_add, w3]
              refine Does.region ?_
              simp [vbin_add, w4]
              simp only [addL_pair, List.drop_drop] at hE hok
              rw [show i + 1 + (m + 1) = i + m + 2 by omega] at hE hok
              exact ⟨i + m + 2, by omega, hk.trans hk2, hds, hgl, h0, by simp; omega, by omega, .inl ⟨by omega, by omega, hok⟩⟩
          · have hqb : ¬ (UInt8.ofNat (s.at i) = 39 ∨ UInt8.ofNat (s.at i) = 34) := by
              rintro (h | h)
              · exact hq (.inl ((byte_eq hai (by decide)).1 h))
              · exact hq (.inr ((byte_eq hai (by decide)).1 h))
            rw [if_neg hqb] at hE hok
            refine Does.condF (by simp [h38, hq]) ?_
            repeat refine Does.seq ?_
            refine Does.region ?_
            have hca := ihCall_W (strings_index gl st'' endz (s.at i))
            have hez := endz_ends (s.at i)
            unfold endz at hca
            generalize hres : Lib.indexByte (S.ofList [32, 9, 10, 59, 38, 124, 60, 62, 40, 41]).toList (s.at i).toUInt8 = w at hca
            have hez : 0 ≤ w ↔ endsL (UInt8.ofNat (s.at i)) = true := by rw [← hres]; exact hez
            simp [h0, h4, hgl, f0, l0, hix, vcall_callable hk16, hca, vbin_geq]
            repeat refine Does.seq ?_
            by_cases he : endsL (UInt8.ofNat (s.at i)) = true
            · rw [if_pos he] at hE hok
              refine Does.condT (by simp [hez.2 he]) ?_
              repeat refine Does.seq ?_
              refine Does.region ?_
              simp [h4]
              refine Does.ret ?_
              simp at hE hok
              simp [hds, hk, ← hok]
              omega
            · rw [if_neg he] at hE hok
              refine Does.condF (by simpa using fun h => he (hez.1 h)) ?_
              refine Does.skip ?_
              simp
              refine Does.region ?_
              simp [h4, vbin_add, w1]
              simp only [addL_pair] at hE hok
              exact ⟨i + 1, by omega, hk, hds, hgl, h0, by simp, by omega, .inl ⟨by omega, by omega, hok⟩⟩
      · have hlt' : ¬ (i : Int) < (s.n : Int) := by omega
        simp [h0, h4, f0, l0, hlen, vbin_lss, hlt']
        repeat refine Does.seq ?_
        refine Does.condF (by simp) ?_
        refine Does.exit ?_
        simp [hds, hk, h0]
        rcases hinv with ⟨_, h1, h2⟩ | ⟨_, h⟩
        · rw [List.drop_eq_nil_of_le (by simp; omega)] at h1 h2
          simp [wordL] at h1 h2
          exact ⟨by omega, h2⟩
        · exact h
end Go.Vm

namespace Go.Vm
open Go Go.Proofs Go.Lx
attribute [local simp] Oks xOps vwanted isDefer vop kindOf vpure ev evs toV andThen inBlock atTo_some Fr.dsTo Fr.glTo Fr.toNone initFr_at initFr_ds initFr_gl veff traverse tupled vresult V.undef evOpt xDraw xStep

theorem opTx_nil (r : List UInt8) : opTx r = [] ↔ opIx r = none := by
  cases h : opIx r with
  | none => simp [opTx, h]
  | some i =>
    obtain ⟨_, _, _, h1, _⟩ := opIx_len h
    constructor
    · intro h2; rw [h2] at h1; simp at h1
    · intro h2; cases h2

theorem same_nil (o : S) : o.same (S.ofList []) = decide (o.toList = []) := by
  rw [S.same_eq, S.toList_ofList]
  rw [Bool.eq_iff_iff]; simp

variable [Memo] [NL]

set_option maxHeartbeats 1000000 in
theorem refword_ok (gl : Gl) (st : St) (s : S) (a : Nat) (ha : a ≤ s.n) (hn : s.n < 1000000) :
    ∃ v st', W Tryd.prog (.call gl 19 [.str s, .int .i64 (a : Int)]) st = .call (.val v st') ∧ v = .tup [.int .i64 ((a + (wordL (s.toList.drop a)).1 : Nat) : Int), .int .i64 (if (wordL (s.toList.drop a)).2 = true then -1 else ((a + (wordL (s.toList.drop a)).1 : Nat) : Int))] ∧ Keep st st' := by
  have hk18 : callable Tryd.prog 18 = true := by kernel_rfl
  have hlen := vlen_str Tryd.underlying9 (s := s)
  refine call_ex (NL.no _ rfl _ _) Tryd.func19 rfl (by kernel_rfl) ?_
  repeat refine Does.seq ?_
  refine Does.region ?_
  simp
  repeat refine Does.seq ?_
  refine Does.region ?_
  simp
  generalize hE0 : a + (wordL (s.toList.drop a)).1 = E
  generalize hok0 : (wordL (s.toList.drop a)).2 = ok
  repeat refine Does.seq ?_
  refine Does.mono (Q := fun e fr' st' => Keep st st' ∧ fr'.ds = [] ∧ ((e = AE.ret ∧ Fr.at fr' 4 = .int .i64 (E : Int) ∧ Fr.at fr' 5 = .int .i64 (if ok = true then -1 else (E : Int))) ∨ (e = AE.normal ∧ Fr.at fr' 6 = .int .i64 (E : Int) ∧ ok = true))) ?loop ?tail
  case tail =>
    have hE1 : (a : Int) + ((wordL (s.toList.drop a)).1 : Int) = (E : Int) := by omega
    rintro e fr' st' ⟨hk, hds, ⟨rfl, h2, h3⟩ | ⟨rfl, h6, hok⟩⟩
    · simp [hds, h2, h3, hk, hE1]
    · simp
      repeat refine Does.seq ?_
      refine Does.region ?_
      simp [h6]
      refine Does.ret ?_
      simp [hds, hok, hk, hE1]
  case loop =>
    refine Does.block (Does.up s.n (fun i fr st' => Keep st st' ∧ fr.ds = [] ∧ fr.gl = gl ∧ Fr.at fr 0 = .str s ∧ Fr.at fr 6 = .int .i64 (i : Int) ∧ i ≤ s.n ∧ i + (wordL (s.toList.drop i)).1 = E ∧ (wordL (s.toList.drop i)).2 = ok) a ?init ?bound ?step)
    case init => exact ⟨.refl st, by simp, by simp, by simp, by simp, ha, hE0, hok0⟩
    case bound => exact fun i fr st' h => h.2.2.2.2.2.1
    case step =>
      clear hE0 hok0
      rintro i fr st' ⟨hk, hds, hgl, h0, h6, hi, hE, hok⟩
      repeat refine Does.seq ?_
      refine Does.region ?_
      by_cases hlt : i < s.n
      · have hlt' : (i : Int) < (s.n : Int) := by omega
        have hwE := hE
        have hwok := hok
        rw [s.drop_at hlt, wordL] at hE hok
        have hix := vindex_str (P := Tryd.prog) (k := .i64) Tryd.underlying9 hlt
        have hai := s.at_lt i
        simp [h0, h6, hlen, vbin_lss, hlt']
        repeat refine Does.seq ?_
        refine Does.condT (by simp) ?_
        refine Does.skip ?_
        simp
        repeat refine Does.seq ?_
        refine Does.block ?_
        repeat refine Does.seq ?_
        refine Does.region ?_
        simp [h0, h6, hix]
        repeat refine Does.seq ?_
        refine Does.region ?_
        have w1 := wrap1 (i := i) (by omega)
        have w2 := wrap2 (i := i) (by omega)
        simp at w1
        by_cases h92 : s.at i = 92
        · have h92' : (s.at i : Int) = 92 := by omega
          have hb : UInt8.ofNat (s.at i) = 92 := by rw [h92]; rfl
          rw [if_pos hb] at hE hok
          simp [vbin_eql, h92']
          repeat refine Does.seq ?_
          refine Does.condT (by simp) ?_
          repeat refine Does.seq ?_
          refine Does.region ?_
          have hmin := vmin (P := Tryd.prog) (i + 2) s.n
          simp [h6, h0, vbin_add, w2, hlen, hmin]
          refine Does.exit ?_
          simp
          by_cases hend : i + 1 = s.n
          · have hnil : s.toList.drop (i + 1) = [] := by rw [List.drop_eq_nil_iff]; simp [hend]
            rw [if_pos hnil] at hE hok
            have hdn : s.toList.drop s.n = [] := by rw [List.drop_eq_nil_iff]; simp
            exact ⟨s.n, by omega, hk, hds, hgl, h0, by split <;> omega, Nat.le_refl _, by rw [hdn]; simp [wordL] at hE ⊢; omega, by rw [hdn]; simpa [wordL] using hok⟩
          · have hnil : ¬ s.toList.drop (i + 1) = [] := by rw [List.drop_eq_nil_iff]; simp; omega
            rw [if_neg hnil, List.drop_drop, addL_pair] at hE hok
            rw [show i + 1 + 1 = i + 2 from rfl] at hE hok
            exact ⟨i + 2, by omega, hk, hds, hgl, h0, by split <;> omega, by omega, by omega, hok⟩
        · have h92' : ¬ (s.at i : Int) = 92 := by omega
          have hb : ¬ UInt8.ofNat (s.at i) = 92 := fun h => h92 ((byte_eq hai (by decide)).1 h)
          rw [if_neg hb] at hE hok
          simp [vbin_eql, h92']
          repeat refine Does.seq ?_
          refine Does.condF (by simp) ?_
          refine Does.skip ?_
          simp
          repeat refine Does.seq ?_
          refine Does.region ?_
          by_cases h39 : s.at i = 39
          · have h39' : (s.at i : Int) = 39 := by omega
            have hqb : UInt8.ofNat (s.at i) = 39 := by rw [h39]; rfl
            rw [if_pos (.inl hqb), hqb] at hE hok
            simp [vbin_eql, h39']
            repeat refine Does.seq ?_
            refine Does.condT (by simp) ?_
            repeat refine Does.seq ?_
            refine Does.region ?_
            simp [h6, vbin_add, w1]
            repeat refine Does.seq ?_
            refine Does.mono (Q := fun e fr' st'' => st'' = st' ∧ e = AE.normal ∧ fr'.ds = [] ∧ fr'.gl = gl ∧ Fr.at fr' 0 = .str s ∧ Fr.at fr' 6 = .int .i64 (i : Int) ∧ ∃ k : Nat, Fr.at fr' 8 = .int .i64 (k : Int) ∧ ((k < s.n ∧ i + 1 ≤ k ∧ quoteL 39 (s.toList.drop (i + 1)) = some (k - (i + 1))) ∨ (s.n ≤ k ∧ quoteL 39 (s.toList.drop (i + 1)) = none))) ?qa ?qb
            case qa =>
              refine Does.block (Does.up s.n (fun k fr' st'' => st'' = st' ∧ fr'.ds = [] ∧ fr'.gl = gl ∧ Fr.at fr' 0 = .str s ∧ Fr.at fr' 6 = .int .i64 (i : Int) ∧ Fr.at fr' 8 = .int .i64 (k : Int) ∧ k ≤ s.n ∧ i + 1 ≤ k ∧ (quoteL 39 (s.toList.drop k)).map (· + k) = (quoteL 39 (s.toList.drop (i + 1))).map (· + (i + 1))) (i + 1) ?qinit ?qbound ?qstep)
              case qinit => exact ⟨rfl, by simp [hds], by simp [hgl], by simp [h0], by simp [h6], by simp, by omega, Nat.le_refl _, rfl⟩
              case qbound => exact fun i fr st' h => h.2.2.2.2.2.2.1
              case qstep =>
                rintro k fr2 st2 ⟨rfl, hds, hgl, h0, h6, h8, hkn, hki, hq⟩
                repeat refine Does.seq ?_
                refine Does.region ?_
                by_cases hkl : k < s.n
                · have hkl' : (k : Int) < (s.n : Int) := by omega
                  have hkx := vindex_str (P := Tryd.prog) (k := .i64) Tryd.underlying9 hkl
                  have hak := s.at_lt k
                  rw [s.drop_at hkl, quoteL] at hq
                  by_cases hk39 : s.at k = 39
                  · have hk39' : (s.at k : Int) = 39 := by omega
                    rw [if_pos (by rw [hk39]; rfl)] at hq
                    simp [h8, h0, hlen, vbin_lss, vbin_neq, hkl', hkx, hk39']
                    repeat refine Does.seq ?_
                    refine Does.condF (by simp) ?_
                    refine Does.exit ?_
                    simp [hds, hgl, h0, h6, h8]
                    refine ⟨k, rfl, .inl ⟨hkl, by omega, ?_⟩⟩
                    cases hc : quoteL 39 (s.toList.drop (i + 1)) with
                    | none => rw [hc] at hq; simp at hq
                    | some m => rw [hc] at hq; simp at hq ⊢; omega
                  · have hk39' : ¬ (s.at k : Int) = 39 := by omega
                    rw [if_neg (show ¬ UInt8.ofNat (s.at k) = 39 from fun h => hk39 ((byte_eq hak (by decide)).1 h)), if_neg (show ¬ ((39 : UInt8) = 34 ∧ UInt8.ofNat (s.at k) = 92) by rintro ⟨h, _⟩; exact absurd h (by decide))] at hq
                    have w3 := wrap1 (i := k) (by omega)
                    simp at w3
                    simp [h8, h0, hlen, vbin_lss, vbin_neq, hkl', hkx, hk39']
                    repeat refine Does.seq ?_
                    refine Does.condT (by simp) ?_
                    refine Does.skip ?_
                    simp
                    refine Does.block ?_
                    refine Does.region ?_
                    simp [h8, vbin_add, w3]
                    refine ⟨k + 1, by omega, hds, hgl, h0, h6, by simp, by omega, by omega, ?_⟩
                    rw [← hq, Option.map_map]
                    congr 1
                    funext x
                    simp; omega
                · have hkl' : ¬ (k : Int) < (s.n : Int) := by omega
                  simp [h8, h0, hlen, vbin_lss, hkl']
                  repeat refine Does.seq ?_
                  refine Does.condF (by simp) ?_
                  refine Does.exit ?_
                  simp [hds, hgl, h0, h6, h8]
                  refine ⟨k, rfl, .inr ⟨by omega, ?_⟩⟩
                  rw [List.drop_eq_nil_of_le (by simp; omega)] at hq
                  cases hc : quoteL 39 (s.toList.drop (i + 1)) with
                  | none => rfl
                  | some m => rw [hc] at hq; simp [quoteL] at hq
            case qb =>
              rintro e fr' st'' ⟨rfl, rfl, hds, hgl, h0, h6, k, h8, hq⟩
              simp
              repeat refine Does.seq ?_
              refine Does.region ?_
              rcases hq with ⟨hkl, hki, hq⟩ | ⟨hkl, hq⟩
              · have hkl' : ¬ (s.n : Int) ≤ (k : Int) := by omega
                simp [h8, h0, hlen, vbin_geq, hkl']
                repeat refine Does.seq ?_
                refine Does.condF (by simp) ?_
                refine Does.skip ?_
                simp
                repeat refine Does.seq ?_
                refine Does.region ?_
                have w3 := wrap1 (i := k) (by omega)
                simp at w3
                simp [h8, vbin_add, w3]
                refine Does.exit ?_
                simp
                rw [hq] at hE hok
                simp only [addL_pair, List.drop_drop] at hE hok
                rw [show i + 1 + (k - (i + 1) + 1) = k + 1 by omega] at hE hok
                exact ⟨k + 1, by omega, hk, hds, hgl, h0, by simp, by omega, by omega, hok⟩
              · have hkl' : (s.n : Int) ≤ (k : Int) := by omega
                simp [h8, h0, hlen, vbin_geq, hkl']
                repeat refine Does.seq ?_
                refine Does.condT (by simp) ?_
                repeat refine Does.seq ?_
                refine Does.region ?_
                simp [h6]
                refine Does.ret ?_
                rw [hq] at hE hok
                simp at hE hok
                simp [hds, hk, ← hok, hE]
          · have h39' : ¬ (s.at i : Int) = 39 := by omega
            simp [vbin_eql, h39']
            repeat refine Does.seq ?_
            refine Does.condF (by simp) ?_
            refine Does.skip ?_
            simp
            repeat refine Does.seq ?_
            refine Does.region ?_
            by_cases h34 : s.at i = 34
            · have h34' : (s.at i : Int) = 34 := by omega
              have hqb : UInt8.ofNat (s.at i) = 34 := by rw [h34]; rfl
              rw [if_pos (.inr hqb), hqb] at hE hok
              simp [vbin_eql, h34']
              repeat refine Does.seq ?_
              refine Does.condT (by simp) ?_
              repeat refine Does.seq ?_
              refine Does.region ?_
              simp [h6, vbin_add, w1]
              repeat refine Does.seq ?_
              refine Does.mono (Q := fun e fr' st'' => st'' = st' ∧ e = AE.normal ∧ fr'.ds = [] ∧ fr'.gl = gl ∧ Fr.at fr' 0 = .str s ∧ Fr.at fr' 6 = .int .i64 (i : Int) ∧ ∃ k : Nat, Fr.at fr' 9 = .int .i64 (k : Int) ∧ ((k < s.n ∧ i + 1 ≤ k ∧ quoteL 34 (s.toList.drop (i + 1)) = some (k - (i + 1))) ∨ (s.n ≤ k ∧ quoteL 34 (s.toList.drop (i + 1)) = none))) ?da ?db
              case da =>
                refine Does.block (Does.up (s.n + 1) (fun k fr' st'' => st'' = st' ∧ fr'.ds = [] ∧ fr'.gl = gl ∧ Fr.at fr' 0 = .str s ∧ Fr.at fr' 6 = .int .i64 (i : Int) ∧ Fr.at fr' 9 = .int .i64 (k : Int) ∧ k ≤ s.n + 1 ∧ i + 1 ≤ k ∧ ((k ≤ s.n ∧ (quoteL 34 (s.toList.drop k)).map (· + k) = (quoteL 34 (s.toList.drop (i + 1))).map (· + (i + 1))) ∨ (k = s.n + 1 ∧ quoteL 34 (s.toList.drop (i + 1)) = none))) (i + 1) ?dinit ?dbound ?dstep)
                case dinit => exact ⟨rfl, by simp [hds], by simp [hgl], by simp [h0], by simp [h6], by simp, by omega, Nat.le_refl _, .inl ⟨by omega, rfl⟩⟩
                case dbound => exact fun i fr st' h => h.2.2.2.2.2.2.1
                case dstep =>
                  rintro k fr2 st2 ⟨rfl, hds, hgl, h0, h6, h9, hkn, hki, hq⟩
                  repeat refine Does.seq ?_
                  refine Does.region ?_
                  by_cases hkl : k < s.n
                  · have hkl' : (k : Int) < (s.n : Int) := by omega
                    obtain ⟨_, hq⟩ := hq.resolve_right (by omega)
                    have hkx := vindex_str (P := Tryd.prog) (k := .i64) Tryd.underlying9 hkl
                    have hak := s.at_lt k
                    have w3 := wrap1 (i := k) (by omega)
                    have w4 := wrap1 (i := k + 1) (by omega)
                    simp at w3 w4
                    rw [s.drop_at hkl, quoteL] at hq
                    by_cases hk34 : s.at k = 34
                    · have hk34' : (s.at k : Int) = 34 := by omega
                      rw [if_pos (by rw [hk34]; rfl)] at hq
                      simp [h9, h0, hlen, vbin_lss, vbin_neq, hkl', hkx, hk34']
                      repeat refine Does.seq ?_
                      refine Does.condF (by simp) ?_
                      refine Does.exit ?_
                      simp [hds, hgl, h0, h6, h9]
                      refine ⟨k, rfl, .inl ⟨hkl, by omega, ?_⟩⟩
                      cases hc : quoteL 34 (s.toList.drop (i + 1)) with
                      | none => rw [hc] at hq; simp at hq
                      | some m => rw [hc] at hq; simp at hq ⊢; omega
                    · have hk34' : ¬ (s.at k : Int) = 34 := by omega
                      rw [if_neg (show ¬ UInt8.ofNat (s.at k) = 34 from fun h => hk34 ((byte_eq hak (by decide)).1 h))] at hq
                      simp [h9, h0, hlen, vbin_lss, vbin_neq, hkl', hkx, hk34']
                      repeat refine Does.seq ?_
                      refine Does.condT (by simp) ?_
                      refine Does.skip ?_
                      simp
                      refine Does.block ?_
                      repeat refine Does.seq ?_
                      refine Does.region ?_
                      by_cases hk92 : s.at k = 92
                      · have hk92' : (s.at k : Int) = 92 := by omega
                        rw [if_pos ⟨rfl, by rw [hk92]; rfl⟩] at hq
                        simp [h9, h0, hkx, vbin_eql, hk92']
                        repeat refine Does.seq ?_
                        refine Does.condT (by simp) ?_
                        refine Does.region ?_
                        simp [h9, vbin_add, w3]
                        refine Does.region ?_
                        simp [vbin_add, w4]
                        refine ⟨k + 2, by omega, hds, hgl, h0, h6, by simp; omega, by omega, by omega, ?_⟩
                        by_cases hend : k + 1 = s.n
                        · rw [if_pos (by rw [hend, List.drop_eq_nil_iff]; simp)] at hq
                          refine .inr ⟨by omega, ?_⟩
                          cases h : quoteL 34 (s.toList.drop (i + 1)) with
                          | none => rfl
                          | some m => rw [h] at hq; simp at hq
                        · rw [if_neg (by rw [List.drop_eq_nil_iff]; simp; omega), List.drop_drop] at hq
                          refine .inl ⟨by omega, ?_⟩
                          rw [← hq, Option.map_map]
                          congr 1
                          funext x
                          simp; omega
                      · have hk92' : ¬ (s.at k : Int) = 92 := by omega
                        rw [if_neg (show ¬ ((34 : UInt8) = 34 ∧ UInt8.ofNat (s.at k) = 92) by rintro ⟨_, h⟩; exact hk92 ((byte_eq hak (by decide)).1 h))] at hq
                        simp [h9, h0, hkx, vbin_eql, hk92']
                        repeat refine Does.seq ?_
                        refine Does.condF (by simp) ?_
                        refine Does.skip ?_
                        simp
                        refine Does.region ?_
                        simp [h9, vbin_add, w3]
                        refine ⟨k + 1, by omega, hds, hgl, h0, h6, by simp, by omega, by omega, .inl ⟨by omega, ?_⟩⟩
                        rw [← hq, Option.map_map]
                        congr 1
                        funext x
                        simp; omega
                  · have hkl' : ¬ (k : Int) < (s.n : Int) := by omega
                    simp [h9, h0, hlen, vbin_lss, hkl']
                    repeat refine Does.seq ?_
                    refine Does.condF (by simp) ?_
                    refine Does.exit ?_
                    simp [hds, hgl, h0, h6, h9]
                    refine ⟨k, rfl, .inr ⟨by omega, ?_⟩⟩
                    rcases hq with ⟨_, hq⟩ | ⟨_, hq⟩
                    · rw [List.drop_eq_nil_of_le (by simp; omega)] at hq
                      cases hc : quoteL 34 (s.toList.drop (i + 1)) with
                      | none => rfl
                      | some m => rw [hc] at hq; simp [quoteL] at hq
                    · exact hq
              case db =>
                rintro e fr' st'' ⟨rfl, rfl, hds, hgl, h0, h6, k, h9, hq⟩
                simp
                repeat refine Does.seq ?_
                refine Does.region ?_
                rcases hq with ⟨hkl, hki, hq⟩ | ⟨hkl, hq⟩
                · have hkl' : ¬ (s.n : Int) ≤ (k : Int) := by omega
                  simp [h9, h0, hlen, vbin_geq, hkl']
                  repeat refine Does.seq ?_
                  refine Does.condF (by simp) ?_
                  refine Does.skip ?_
                  simp
                  repeat refine Does.seq ?_
                  refine Does.region ?_
                  have w3 := wrap1 (i := k) (by omega)
                  simp at w3
                  simp [h9, vbin_add, w3]
                  refine Does.exit ?_
                  simp
                  rw [hq] at hE hok
                  simp only [addL_pair, List.drop_drop] at hE hok
                  rw [show i + 1 + (k - (i + 1) + 1) = k + 1 by omega] at hE hok
                  exact ⟨k + 1, by omega, hk, hds, hgl, h0, by simp, by omega, by omega, hok⟩
                · have hkl' : (s.n : Int) ≤ (k : Int) := by omega
                  simp [h9, h0, hlen, vbin_geq, hkl']
                  repeat refine Does.seq ?_
                  refine Does.condT (by simp) ?_
                  repeat refine Does.seq ?_
                  refine Does.region ?_
                  simp [h6]
                  refine Does.ret ?_
                  rw [hq] at hE hok
                  simp at hE hok
                  simp [hds, hk, ← hok, hE]
            · have h34' : ¬ (s.at i : Int) = 34 := by omega
              have hqb : ¬ (UInt8.ofNat (s.at i) = 39 ∨ UInt8.ofNat (s.at i) = 34) := by
                rintro (h | h)
                · exact h39 ((byte_eq hai (by decide)).1 h)
                · exact h34 ((byte_eq hai (by decide)).1 h)
              rw [if_neg hqb, ends_op _ (s.toList.drop (i + 1)), ← s.drop_at hlt] at hE hok
              simp [vbin_eql, h34']
              repeat refine Does.seq ?_
              refine Does.condF (by simp) ?_
              refine Does.skip ?_
              simp
              repeat refine Does.seq ?_
              refine Does.region ?_
              have fin : ∀ (fr' : Fr) (st2 : St), Keep st st2 → fr'.ds = [] → Fr.at fr' 6 = .int .i64 (i : Int) → E = i ∧ ok = true → True := fun _ _ _ _ _ _ => trivial
              by_cases hsp : s.at i = 32 ∨ s.at i = 9 ∨ s.at i = 10
              · have hbb : (UInt8.ofNat (s.at i) == 32 || UInt8.ofNat (s.at i) == 9 || UInt8.ofNat (s.at i) == 10) = true := by
                  rcases hsp with h | h | h <;> rw [h] <;> rfl
                rw [hbb, Bool.true_or, if_pos rfl] at hE hok
                have ht : ∃ fr1, xOps Tryd.prog (ihCall (W Tryd.prog)) none #[] [] fr st' = .ok fr1 st' := ⟨fr, rfl⟩
                rcases hsp with h | h | h
                all_goals
                  have h' : (s.at i : Int) = _ := congrArg _ h
                  simp [vbin_eql, h']
                  repeat refine Does.seq ?_
                  refine Does.condT (by simp) ?_
                  repeat refine Does.seq ?_
                  refine Does.region ?_
                  simp [h6]
                  refine Does.ret ?_
                  simp at hE hok
                  simp [hds, hk, ← hok, hE]
              · have hbb : (UInt8.ofNat (s.at i) == 32 || UInt8.ofNat (s.at i) == 9 || UInt8.ofNat (s.at i) == 10) = false := by
                  simp only [Bool.or_eq_false_iff, beq_eq_false_iff_ne, ne_eq]
                  refine ⟨⟨fun h => hsp (.inl ((byte_eq hai (by decide)).1 h)), fun h => hsp (.inr (.inl ((byte_eq hai (by decide)).1 h)))⟩, fun h => hsp (.inr (.inr ((byte_eq hai (by decide)).1 h)))⟩
                rw [hbb, Bool.false_or] at hE hok
                obtain ⟨v, st2, hcall, o, rfl, ho, hk2⟩ := op_ok gl st' s i hi hn
                have hcall := ihCall_W hcall
                have g1 : ¬ (s.at i : Int) = 32 := by omega
                have g2 : ¬ (s.at i : Int) = 9 := by omega
                have g3 : ¬ (s.at i : Int) = 10 := by omega
                have hsn := same_nil o
                rw [ho] at hsn
                simp [vbin_eql, g1, g2, g3, h0, h6, hgl, vcall_callable hk18, hcall, vbin_sneq, hsn]
                repeat refine Does.seq ?_
                cases hop : opIx (s.toList.drop i) with
                | some j =>
                  have hno : ¬ opTx (s.toList.drop i) = [] := by rw [opTx_nil, hop]; simp
                  rw [hop] at hE hok
                  simp at hE hok
                  refine Does.condT (by simp [hno]) ?_
                  repeat refine Does.seq ?_
                  refine Does.region ?_
                  simp [h6]
                  refine Does.ret ?_
                  simp [hds, hk.trans hk2, ← hok, hE]
                | none =>
                  have hno : opTx (s.toList.drop i) = [] := by rw [opTx_nil, hop]
                  rw [hop] at hE hok
                  simp [addL_pair] at hE hok
                  refine Does.condF (by simp [hno]) ?_
                  refine Does.skip ?_
                  simp
                  refine Does.region ?_
                  simp [h6, vbin_add, w1]
                  exact ⟨i + 1, by omega, hk.trans hk2, hds, hgl, h0, by simp, by omega, by omega, hok⟩
      · have hlt' : ¬ (i : Int) < (s.n : Int) := by omega
        simp [h0, h6, hlen, vbin_lss, hlt']
        repeat refine Does.seq ?_
        refine Does.condF (by simp) ?_
        refine Does.exit ?_
        rw [List.drop_eq_nil_of_le (by simp; omega)] at hE hok
        simp [wordL] at hE hok
        simp [hds, hk, h6, ← hok]
        omega
end Go.Vm
