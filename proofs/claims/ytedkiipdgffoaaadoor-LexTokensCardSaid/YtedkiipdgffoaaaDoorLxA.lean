/- Contracts of small functions of the seat of tokens: strings.IndexByte, strings.HasPrefix, Is; a rule for loops with a rising index. -/
import Derived.Test.YtedkiipdgffoaaaDoorVmWv
import Derived.Test.YtedkiipdgffoaaaDoorLxS
import Derived.Test.YtedkiipdgffoaaaDoorChecked
namespace Go.Vm
open Go Go.Proofs Go.Lx
attribute [local simp] Oks xOps vwanted isDefer vop kindOf vpure ev evs toV andThen inBlock atTo_some Fr.dsTo Fr.glTo Fr.toNone initFr_at initFr_ds initFr_gl veff traverse tupled vresult V.undef evOpt

/-- a loop whose index rises to a bound -/
theorem Does.up [Memo] {P : Program} {b : Code} {Q : AE → Fr → St → Prop} (N : Nat) (I : Nat → Fr → St → Prop) (i0 : Nat) {fr : Fr} {st : St} (h0 : I i0 fr st) (hb : ∀ i fr st, I i fr st → i ≤ N)
    (step : ∀ i fr st, I i fr st → Does P b fr st (andThen (fun fr' st' => ∃ j, i < j ∧ I j fr' st') Q)) : Does P (.loop b) fr st Q := by
  refine Does.inv (fun n fr st => ∃ i, I i fr st ∧ n = N - i) (N - i0) ⟨i0, h0, rfl⟩ ?_
  rintro n fr st ⟨i, hi, rfl⟩
  refine (step i fr st hi).mono fun e fr' st' h => ?_
  cases e with
  | normal =>
    obtain ⟨j, hj, hij⟩ := h
    have := hb j _ _ hij
    exact ⟨N - j, by omega, j, hij, rfl⟩
  | exit id => exact h
  | ret => exact h
  | panic v => exact h

/-- no rule but for works() -/
class NL [Memo] : Prop where
  no : ∀ f, Nat.beq f 7 = false → ∀ args st, (Memo.look f).run args st = none

theorem S.drop_at (s : S) {i : Nat} (h : i < s.n) : s.toList.drop i = UInt8.ofNat (s.at i) :: s.toList.drop (i + 1) := by
  have h1 := s.toList_at h
  have h2 : i < s.toList.length := by simpa using h
  rw [List.drop_eq_getElem_cons h2]
  rw [List.getElem?_eq_getElem h2] at h1
  rw [Option.some.inj h1]

theorem byte_eq {a b : Nat} (ha : a < 256) (hb : b < 256) : (UInt8.ofNat a = UInt8.ofNat b) ↔ a = b := by
  constructor
  · intro h
    have := congrArg UInt8.toNat h
    simp at this; omega
  · rintro rfl; rfl

theorem S.toList_n {s : S} : s.toList.length = s.n := S.len s

theorem vslice_lohi {P : Program} {T : TypeId} (hT : P.underlying T = some .string) {s : S} {lo hi : Nat} (h1 : lo ≤ hi) (h2 : hi ≤ s.n) {k k' : IntKind} : vslice P T (.str s) (some (.int k (lo : Int))) (some (.int k' (hi : Int))) = some (.str (s.cut lo hi)) := by
  have e1 : Nat.ble lo hi = true := Nat.ble_eq_true_of_le h1
  have e2 : Nat.ble hi s.n = true := Nat.ble_eq_true_of_le h2
  simp only [vslice, hT, bound, asNat_cast, e1, e2, Bool.and_self]

theorem vslice_lo {P : Program} {T : TypeId} (hT : P.underlying T = some .string) {s : S} {lo : Nat} (h1 : lo ≤ s.n) {k : IntKind} : vslice P T (.str s) (some (.int k (lo : Int))) none = some (.str (s.cut lo s.n)) := by
  have e1 : Nat.ble lo s.n = true := Nat.ble_eq_true_of_le h1
  simp only [vslice, hT, bound, asNat_cast, e1, ble_self, Bool.and_self]

theorem vslice_hi {P : Program} {T : TypeId} (hT : P.underlying T = some .string) {s : S} {hi : Nat} (h2 : hi ≤ s.n) {k' : IntKind} : vslice P T (.str s) none (some (.int k' (hi : Int))) = some (.str (s.cut 0 hi)) := by
  have e1 : Nat.ble 0 hi = true := Nat.ble_eq_true_of_le (Nat.zero_le _)
  have e2 : Nat.ble hi s.n = true := Nat.ble_eq_true_of_le h2
  simp only [vslice, hT, bound, asNat_cast, e1, e2, Bool.and_self]

theorem rest_toList (s : S) {i : Nat} (h : i ≤ s.n) : (s.cut i s.n).toList = s.toList.drop i := by
  rw [S.toList_cut s h (Nat.le_refl _), List.take_of_length_le (by simp)]
theorem rest_n (s : S) (i : Nat) : (s.cut i s.n).n = s.n - i := rfl
theorem cut_n (s : S) (i j : Nat) : (s.cut i j).n = j - i := rfl

theorem pre_take {o l : List UInt8} (h : o.length ≤ l.length) : (l.take o.length == o) = o.isPrefixOf l := by
  rw [Bool.eq_iff_iff, beq_iff_eq, List.isPrefixOf_iff_prefix, List.prefix_iff_eq_take]
  exact eq_comm
theorem pre_long {o l : List UInt8} (h : ¬ o.length ≤ l.length) : o.isPrefixOf l = false := by
  cases hp : o.isPrefixOf l with
  | false => rfl
  | true => exact absurd (List.isPrefixOf_iff_prefix.1 hp).length_le h

variable [Memo] [NL]

theorem stringslite_index (gl : Gl) (st : St) (s : S) (c : Nat) :
    W Tryd.prog (.call gl 20 [.str s, .int .u8 (c : Int)]) st = .call (.val (.int .i64 (Lib.indexByte s.toList c.toUInt8)) st) := by
  have hx : vextern Tryd.prog Tryd.f27 [.str s, .int .u8 (c : Int)] = some (.int .i64 (Lib.indexByte s.toList c.toUInt8)) := vextern_index (by kernel_rfl) (by kernel_rfl) s c
  have hb : Tryd.f27.body = none := rfl
  have hm : (Tryd.f27.name == "runtime.NumGoroutine") = false := by kernel_rfl
  refine call_does (NL.no _ rfl _ _) Tryd.func20 rfl (by kernel_rfl) ?_
  refine Does.seq (Does.region ?_)
  simp
  refine Does.seq (Does.region ?_)
  simp [vcall_extern Tryd.func27 hm hb hx]
  refine Does.ret ?_
  simp [Tryd.f20]

/-- strings.IndexByte -/
theorem strings_index (gl : Gl) (st : St) (s : S) (c : Nat) :
    W Tryd.prog (.call gl 16 [.str s, .int .u8 (c : Int)]) st = .call (.val (.int .i64 (Lib.indexByte s.toList c.toUInt8)) st) := by
  have hc := ihCall_W (stringslite_index gl st s c)
  have hk : callable Tryd.prog 20 = true := by kernel_rfl
  refine call_does (NL.no _ rfl _ _) Tryd.func16 rfl (by kernel_rfl) ?_
  refine Does.seq (Does.region ?_)
  simp
  refine Does.seq (Does.region ?_)
  simp [vcall_callable hk, hc]
  refine Does.ret ?_
  simp [Tryd.f16]

theorem lite_prefix (gl : Gl) (st : St) (s o : S) :
    W Tryd.prog (.call gl 28 [.str s, .str o]) st = .call (.val (.bool (o.toList.isPrefixOf s.toList)) st) := by
  have hls := vlen_str Tryd.underlying9 (s := s)
  have hlo := vlen_str Tryd.underlying9 (s := o)
  refine call_does (NL.no _ rfl _ _) Tryd.func28 rfl (by kernel_rfl) ?_
  refine Does.seq (Does.region ?_)
  simp
  refine Does.seq (Does.region ?_)
  by_cases hl : o.n ≤ s.n
  · have hl' : decide ((s.n : Int) ≥ (o.n : Int)) = true := by simpa using hl
    have hl'' : (o.n : Int) ≤ (s.n : Int) := by omega
    have hsl := vslice_hi Tryd.underlying9 hl (k' := .i64)
    have hv : ((s.cut 0 o.n).same o) = o.toList.isPrefixOf s.toList := by
      rw [S.same_eq, S.toList_cut s (Nat.zero_le _) hl]
      have := pre_take (o := o.toList) (l := s.toList) (by simpa using hl)
      simpa using this
    simp [hls, hlo, vbin_geq, hl'', hsl, vbin_seql, hv]
    cases hp : o.toList.isPrefixOf s.toList <;> refine Does.ret ?_ <;> simp [Tryd.f28]
  · have hl'' : ¬ (o.n : Int) ≤ (s.n : Int) := by omega
    have hv := pre_long (o := o.toList) (l := s.toList) (by simpa using hl)
    simp [hls, hlo, vbin_geq, hl'']
    refine Does.ret ?_
    simp [Tryd.f28, hv]

/-- strings.HasPrefix -/
theorem strings_prefix (gl : Gl) (st : St) (s o : S) :
    W Tryd.prog (.call gl 25 [.str s, .str o]) st = .call (.val (.bool (o.toList.isPrefixOf s.toList)) st) := by
  have hc := ihCall_W (lite_prefix gl st s o)
  have hk : callable Tryd.prog 28 = true := by kernel_rfl
  refine call_does (NL.no _ rfl _ _) Tryd.func25 rfl (by kernel_rfl) ?_
  refine Does.seq (Does.region ?_)
  simp
  refine Does.seq (Does.region ?_)
  simp [vcall_callable hk, hc]
  refine Does.ret ?_
  simp [Tryd.f25]

/-- Is -/
theorem is_ok (gl : Gl) (st : St) (s : S) (i : Nat) (o : S) (hi : i ≤ s.n) (hs : s.n < 1000000) (ho : o.n < 1000000) :
    W Tryd.prog (.call gl 15 [.str s, .int .i64 (i : Int), .str o]) st = .call (.val (.bool (o.toList.isPrefixOf (s.toList.drop i))) st) := by
  have hls := vlen_str Tryd.underlying9 (s := s)
  have hlo := vlen_str Tryd.underlying9 (s := o)
  have hw := wrap_add (n := i) (m := o.n) (by omega)
  refine call_does (NL.no _ rfl _ _) Tryd.func15 rfl (by kernel_rfl) ?_
  refine Does.seq (Does.region ?_)
  simp
  refine Does.seq (Does.region ?_)
  by_cases hl : i + o.n ≤ s.n
  · have hl'' : (i : Int) + (o.n : Int) ≤ (s.n : Int) := by omega
    have hsl := vslice_lohi Tryd.underlying9 (s := s) (lo := i) (hi := i + o.n) (by omega) hl (k := .i64) (k' := .i64)
    have hv : ((s.cut i (i + o.n)).same o) = o.toList.isPrefixOf (s.toList.drop i) := by
      rw [S.same_eq, S.toList_cut s (by omega) hl]
      have := pre_take (o := o.toList) (l := s.toList.drop i) (by simp; omega)
      simpa using this
    simp at hsl
    simp [hls, hlo, vbin_add, hw, vbin_leq, hl'', hsl, vbin_seql, hv]
    cases hp : o.toList.isPrefixOf (s.toList.drop i) <;> refine Does.ret ?_ <;> simp [Tryd.f15]
  · have hl'' : ¬ (i : Int) + (o.n : Int) ≤ (s.n : Int) := by omega
    have hv := pre_long (o := o.toList) (l := s.toList.drop i) (by simp; omega)
    simp [hls, hlo, vbin_add, hw, vbin_leq, hl'']
    refine Does.ret ?_
    simp [Tryd.f15, hv]
end Go.Vm
