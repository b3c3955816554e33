/- Lemmas for walks of any seat: loops with a rising index, strings, bytes, a draw's values. Commands that may be, on lists of bytes: plain, no program in sight. Contracts of functions on strings of the seat of commands: IndexByte, Index of one byte, Contains, Cut, letter, digit, lead, names. Names, by the program and by the document. Parameters' and variables' names, by the program and by the document. -/
import Derived.Test.YtebpfgkajjljjaaVmWv
import Derived.Test.YtebpfgkajjljjaaVmMemo
import Derived.Test.YtebpfgkajjljjaaChecked
namespace Go.Vm
open Go

/-- a loop whose index rises to a bound -/
theorem Does.up [Memo] {P : Program} {b : Code} {Q : AE → Fr → St → Prop} (N : Nat) (I : Nat → Fr → St → Prop) (i0 : Nat) {fr : Fr} {st : St} (h0 : I i0 fr st) (hb : ∀ i fr st, I i fr st → i ≤ N)
    (step : ∀ i fr st, I i fr st → Does P b fr st (andThen (fun fr' st' => ∃ j, i < j ∧ I j fr' st') Q)) : Does P (.loop b) fr st Q := by
  refine Does.inv (fun n fr st => ∃ i, I i fr st ∧ n = N - i) (N - i0) ⟨i0, h0, rfl⟩ ?_
  rintro n fr st ⟨i, hi, rfl⟩
  refine (step i fr st hi).mono fun e fr' st' h => ?_
  cases e with
  | normal =>
    obtain ⟨j, hj, hij⟩ := h
    have := hb j _ _ hij
    exact ⟨N - j, by omega, j, hij, rfl⟩
  | exit id => exact h
  | ret => exact h
  | panic v => exact h

theorem S.drop_at (s : S) {i : Nat} (h : i < s.n) : s.toList.drop i = UInt8.ofNat (s.at i) :: s.toList.drop (i + 1) := by
  have h1 := s.toList_at h
  have h2 : i < s.toList.length := by simpa using h
  rw [List.drop_eq_getElem_cons h2]
  rw [List.getElem?_eq_getElem h2] at h1
  rw [Option.some.inj h1]

theorem byte_eq {a b : Nat} (ha : a < 256) (hb : b < 256) : (UInt8.ofNat a = UInt8.ofNat b) ↔ a = b := by
  constructor
  · intro h
    have := congrArg UInt8.toNat h
    simp at this; omega
  · rintro rfl; rfl

theorem S.toList_n {s : S} : s.toList.length = s.n := S.len s

theorem vslice_lohi {P : Program} {T : TypeId} (hT : P.underlying T = some .string) {s : S} {lo hi : Nat} (h1 : lo ≤ hi) (h2 : hi ≤ s.n) {k k' : IntKind} : vslice P T (.str s) (some (.int k (lo : Int))) (some (.int k' (hi : Int))) = some (.str (s.cut lo hi)) := by
  have e1 : Nat.ble lo hi = true := Nat.ble_eq_true_of_le h1
  have e2 : Nat.ble hi s.n = true := Nat.ble_eq_true_of_le h2
  simp only [vslice, hT, bound, asNat_cast, e1, e2, Bool.and_self]

theorem vslice_lo {P : Program} {T : TypeId} (hT : P.underlying T = some .string) {s : S} {lo : Nat} (h1 : lo ≤ s.n) {k : IntKind} : vslice P T (.str s) (some (.int k (lo : Int))) none = some (.str (s.cut lo s.n)) := by
  have e1 : Nat.ble lo s.n = true := Nat.ble_eq_true_of_le h1
  simp only [vslice, hT, bound, asNat_cast, e1, ble_self, Bool.and_self]

theorem vslice_hi {P : Program} {T : TypeId} (hT : P.underlying T = some .string) {s : S} {hi : Nat} (h2 : hi ≤ s.n) {k' : IntKind} : vslice P T (.str s) none (some (.int k' (hi : Int))) = some (.str (s.cut 0 hi)) := by
  have e1 : Nat.ble 0 hi = true := Nat.ble_eq_true_of_le (Nat.zero_le _)
  have e2 : Nat.ble hi s.n = true := Nat.ble_eq_true_of_le h2
  simp only [vslice, hT, bound, asNat_cast, e1, e2, Bool.and_self]

theorem rest_toList (s : S) {i : Nat} (h : i ≤ s.n) : (s.cut i s.n).toList = s.toList.drop i := by
  rw [S.toList_cut s h (Nat.le_refl _), List.take_of_length_le (by simp)]
theorem rest_n (s : S) (i : Nat) : (s.cut i s.n).n = s.n - i := rfl
theorem cut_n (s : S) (i j : Nat) : (s.cut i j).n = j - i := rfl

theorem pre_take {o l : List UInt8} (h : o.length ≤ l.length) : (l.take o.length == o) = o.isPrefixOf l := by
  rw [Bool.eq_iff_iff, beq_iff_eq, List.isPrefixOf_iff_prefix, List.prefix_iff_eq_take]
  exact eq_comm
theorem pre_long {o l : List UInt8} (h : ¬ o.length ≤ l.length) : o.isPrefixOf l = false := by
  cases hp : o.isPrefixOf l with
  | false => rfl
  | true => exact absurd (List.isPrefixOf_iff_prefix.1 hp).length_le h

theorem Keep.tick {a b : St} (h : Keep a b) (n : Nat) : Keep a { b with ctr := b.ctr + n } := ⟨Nat.le_trans h.ctr (Nat.le_add_right ..), h.box⟩

theorem wrap1 {i : Nat} (h : i < 2000000) : IntKind.i64.wrap ((i : Int) + 1) = ((i + 1 : Nat) : Int) := by
  rw [wrap_i64 (by omega) (by omega)]; omega
theorem wrap2 {i : Nat} (h : i < 2000000) : IntKind.i64.wrap ((i : Int) + 2) = ((i + 2 : Nat) : Int) := by
  rw [wrap_i64 (by omega) (by omega)]; omega

theorem indexByte_eq (c : UInt8) : ∀ l : List UInt8, Lib.indexByte l c = if c ∈ l then ((l.takeWhile (· ≠ c)).length : Int) else -1
  | [] => rfl
  | b :: l => by
    rw [Lib.indexByte, indexByte_eq c l]
    by_cases h : b = c
    · subst h; simp
    · have h' : (b == c) = false := by simpa using h
      by_cases hm : c ∈ l
      · rw [h']
        have : ¬ ((List.takeWhile (fun x => decide (x ≠ c)) l).length : Int) = -1 := by omega
        simp only [Bool.false_eq_true, if_false, if_pos hm, List.mem_cons, hm, or_true, if_true, beq_iff_eq, this]
        rw [List.takeWhile_cons_of_pos (by simp [h])]
        simp
      · have h2 : ¬ c = b := fun h2 => h h2.symm
        simp [h', hm, h2]

theorem indexByte_ge (l : List UInt8) (c : UInt8) : (0 ≤ Lib.indexByte l c) ↔ c ∈ l := by
  rw [indexByte_eq]
  by_cases h : c ∈ l
  · simp [h]
  · simp [h]

mutual
/-- a bound on how deep, and how long, a value is -/
def vsz : V → Nat
  | .sl _ cs _ => vszs cs + 1
  | .cp cs => vszs cs + 1
  | .agg cs => vszs cs + 1
  | .tup cs => vszs cs + 1
  | .fn _ a b => vszs a + vszs b + 1
  | .iface _ x => vsz x + 1
  | _ => 1
def vszs : List V → Nat
  | [] => 1
  | a :: r => vsz a + vszs r + 1
end
mutual
theorem veq_refl : ∀ (n : Nat) (v : V), vsz v < n → veq n v v = true
  | 0, _, h => by omega
  | n + 1, v, h => by
    cases v with
    | sl m cs ex =>
      simp only [vsz] at h
      have := veqs_refl n cs (by omega)
      simp [veq, this]
    | cp cs =>
      simp only [vsz] at h
      have := veqs_refl n cs (by omega)
      simp [veq, this]
    | agg cs =>
      simp only [vsz] at h
      have := veqs_refl n cs (by omega)
      simp [veq, this]
    | tup cs =>
      simp only [vsz] at h
      have := veqs_refl n cs (by omega)
      simp [veq, this]
    | fn f a b =>
      simp only [vsz] at h
      have h1 := veqs_refl n a (by omega)
      have h2 := veqs_refl n b (by omega)
      simp [veq, h1, h2]
    | iface t x =>
      simp only [vsz] at h
      have := veq_refl n x (by omega)
      simp [veq, this]
    | _ => simp [veq]
theorem veqs_refl : ∀ (n : Nat) (l : List V), vszs l < n → veqs n l l = true
  | 0, _, h => by omega
  | n + 1, [], _ => by simp [veqs]
  | n + 1, a :: r, h => by
    simp only [vszs] at h
    have h1 := veq_refl n a (by omega)
    have h2 := veqs_refl n r (by omega)
    simp [veqs, h1, h2]
end
theorem veq_self (v : V) (h : vsz v < 1000000000) : veq 1000000000 v v = true := veq_refl _ v h

theorem veq_str (s : S) : veq 1000000000 (.str s) (.str s) = true := by simp [veq]
theorem veq_int (k : IntKind) (n : Int) : veq 1000000000 (.int k n) (.int k n) = true := by simp [veq]

theorem takeWhile_all {p : UInt8 → Bool} : ∀ {l : List UInt8}, (∀ x ∈ l, p x = true) → l.takeWhile p = l
  | [], _ => rfl
  | a :: l, h => by
    rw [List.takeWhile_cons_of_pos (h a (List.mem_cons_self ..)), takeWhile_all fun x hx => h x (List.mem_cons_of_mem _ hx)]

theorem vbin_sadd {P : Program} {kk : Bool} {T : TypeId} {x y : S} (h : x.n + y.n < 1000000000) : vbin P kk .add T (.str x) (.str y) = some (.str (x.app y)) := by
  have : Nat.ble (Nat.add x.n y.n) maxStr = true := Nat.ble_eq_true_of_le (by show x.n + y.n ≤ maxStr; simp only [maxStr]; omega)
  simp only [vbin, this]

theorem Oks.cont [Memo] {P : Program} {ops : Array Oper} {l : List Oper} {fr : Fr} {st : St} {Q R : Fr → St → Prop} (h : Oks P ops l fr st Q) (k : ∀ fr' st', Q fr' st' → R fr' st') : Oks P ops l fr st R := by
  unfold Oks at h ⊢
  split at h
  · exact k _ _ h
  · exact h

theorem unSem_bind_eq {α β : Type} (P : Program) : ∀ (s : Sem α) (f : α → Sem β), unSem P (s >>= f) = (unSem P s).bind (fun a => unSem P (f a)) := by
  intro s
  induction s with
  | pure a => intro f; rfl
  | program k ih => intro f; exact ih P f
  | mark m k ih => intro f; exact ih f
  | _ => intro f; rfl

theorem unSem_pure {α : Type} (P : Program) (a : α) : unSem P (pure a) = some a := rfl
theorem unSem_program (P : Program) : unSem P program = some P := rfl
theorem unSem_underlying {P : Program} {t : TypeId} {d : TypeDesc} (h : P.underlying t = some d) : unSem P (underlying t) = some d := by
  simp [underlying, unSem_bind_eq, unSem_program, h, unSem_pure]
theorem unSem_isAgg {P : Program} {t : TypeId} {b : Bool} (h : isAggT P t = some b) : unSem P (isAgg t) = some b := by
  unfold isAggT at h
  cases hu : P.underlying t with
  | none => rw [hu] at h; cases h
  | some d =>
    rw [hu] at h
    simp only [isAgg, unSem_bind_eq, unSem_underlying hu, Option.bind_some]
    cases d <;> simp_all [unSem_pure]

theorem unSem_part {P : Program} {t : TypeId} {cs : Array Value} {off : Nat} {v : Value} (h : isAggT P t = some false) (hv : cs[off]? = some v) : unSem P (part t cs off) = some v := by
  simp [part, unSem_bind_eq, unSem_isAgg h, hv, unSem_pure]

theorem eq_int {P : Program} {d : Nat} {t : TypeId} {k k' : IntKind} {a b : Int} (h : P.underlying t = some (.int k')) : unSem P (Op.equalIn (d + 1) t (.int k a) (.int k b)) = some (a == b) := by
  simp only [Op.equalIn, unSem_bind_eq, unSem_underlying h, Option.bind_some]
  simp [unSem_pure]
theorem eq_str {P : Program} {d : Nat} {t : TypeId} {a b : ByteArray} (h : P.underlying t = some .string) : unSem P (Op.equalIn (d + 1) t (.string a) (.string b)) = some (a == b) := by
  simp only [Op.equalIn, unSem_bind_eq, unSem_underlying h, Option.bind_some]
  simp [unSem_pure]

theorem bytes_beq (s t : S) : ((⟨⟨s.toList⟩⟩ : ByteArray) == ⟨⟨t.toList⟩⟩) = s.same t := by
  rw [S.same_eq]
  show ((⟨s.toList⟩ : Array UInt8) == ⟨t.toList⟩) = _
  simp

end Go.Vm
namespace Go.Vm
open Go
/-! ## tests of numbers, as tests of natural numbers -/
section
variable {P : Program} {kk : Bool} {T : TypeId} {q : IntKind} {c m : Nat} {k : Int}
theorem vI_eql (h : k = (m : Int)) : vbin P kk .eql T (.int q (c : Int)) (.int q k) = some (.bool (decide (c = m))) := by subst h; rw [vbin_eql]; congr 2; simp; omega
theorem vI_neq (h : k = (m : Int)) : vbin P kk .neq T (.int q (c : Int)) (.int q k) = some (.bool (!decide (c = m))) := by subst h; rw [vbin_neq]; congr 3; simp; omega
theorem vI_lss (h : k = (m : Int)) : vbin P kk .lss T (.int q (c : Int)) (.int q k) = some (.bool (decide (c < m))) := by subst h; rw [vbin_lss]; congr 2; simp
theorem vI_leq (h : k = (m : Int)) : vbin P kk .leq T (.int q (c : Int)) (.int q k) = some (.bool (decide (c ≤ m))) := by subst h; rw [vbin_leq]; congr 2; simp
theorem vI_gtr (h : k = (m : Int)) : vbin P kk .gtr T (.int q (c : Int)) (.int q k) = some (.bool (decide (m < c))) := by subst h; rw [vbin_gtr]; congr 2; simp
theorem vI_geq (h : k = (m : Int)) : vbin P kk .geq T (.int q (c : Int)) (.int q k) = some (.bool (decide (m ≤ c))) := by subst h; rw [vbin_geq]; congr 2; simp
end

theorem vbin_or32 {P : Program} {kk : Bool} {T : TypeId} {c : Nat} (hc : c < 256) : vbin P kk .or T (.int .u8 (c : Int)) (.int .u8 32) = some (.int .u8 ((c ||| 32 : Nat) : Int)) := by
  have h : vbin P kk .or T (.int .u8 (c : Int)) (.int .u8 32) = viaSem P (fun l => binOp .or T (l.getD 0 undef) (l.getD 1 undef)) [.int .u8 (c : Int), .int .u8 32] := by simp [vbin]
  rw [h]
  simp only [viaSem, traverse, ofV]
  have h2 : unSem P (binOp .or T (.int .u8 (c : Int)) (.int .u8 32)) = some (.int .u8 (IntKind.u8.wrap (((BitVec.ofInt 8 (c : Int)) ||| (BitVec.ofInt 8 32)).toNat : Int))) := by rfl
  have h3 : ∀ c : Nat, c < 256 → IntKind.u8.wrap (((BitVec.ofInt 8 (c : Int)) ||| (BitVec.ofInt 8 32)).toNat : Int) = ((c ||| 32 : Nat) : Int) := by decide +kernel
  show (match unSem P (binOp .or T (.int .u8 (c : Int)) (.int .u8 32)) with
    | some v => toV 6 v
    | none => none) = _
  rw [h2, h3 c hc]
  rfl
end Go.Vm

namespace Go.Sy

def letterB (b : UInt8) : Bool := b == 95 || (decide (97 ≤ (b.toNat ||| 32)) && decide ((b.toNat ||| 32) ≤ 122))
def digitB (b : UInt8) : Bool := decide (48 ≤ b.toNat) && decide (b.toNat ≤ 57)

/-- a variable's name -/
def nameL : List UInt8 → Bool
  | [] => false
  | b :: r => letterB b && (b :: r).all (fun c => letterB c || digitB c) && decide ((b :: r).length ≤ 64)

/-- a parameter's name -/
def paramL (l : List UInt8) : Bool := (match l with
  | [b] => [49, 50, 51, 52, 53, 54, 55, 56, 57, 35, 63].elem b
  | _ => false) || nameL l

def specials : List UInt8 := [32, 9, 10, 39, 34, 92, 36, 59, 38, 124, 60, 62, 40, 41, 42, 63, 91, 96, 0]

/-- may these bytes stand outside of quotes? -/
def plainL (l : List UInt8) (first : Bool) : Bool := !l.isEmpty && l.all (fun c => !specials.elem c) && !(first && (l.head? == some 35 || l.head? == some 126))
end Go.Sy

namespace Go.Vm
open Go Go.Proofs Go.Sy
attribute [local simp] Oks xOps vwanted isDefer vop kindOf vpure ev evs toV andThen inBlock atTo_some Fr.dsTo Fr.glTo Fr.toNone initFr_at initFr_ds initFr_gl veff traverse tupled vresult V.undef evOpt xDraw xStep

/-- no rule but for makeASCIISet and IndexRune -/
class NY [Memo] : Prop where
  no : ∀ f, Nat.beq f 64 = false → Nat.beq f 62 = false → ∀ args st, (Memo.look f).run args st = none

theorem at_take {s : S} {n : Nat} (h : n ≤ s.n) : (s.toList.take (n + 1)) = s.toList.take n ++ (s.toList[n]?).toList := by
  rw [List.take_add_one]

/-- what strings.Cut comes to, at one byte -/
def CutS (s o : S) (v : V) : Prop := ∃ a b ok, v = .tup [.str a, .str b, .bool ok] ∧
  ((ok = true ∧ a.toList = s.toList.takeWhile (· ≠ (o.at 0).toUInt8) ∧ s.toList = a.toList ++ (o.at 0).toUInt8 :: b.toList) ∨ (ok = false ∧ (o.at 0).toUInt8 ∉ s.toList ∧ a.n ≤ s.n))

theorem takeWhile_mem {c : UInt8} : ∀ {l : List UInt8}, c ∈ l → l = l.takeWhile (· ≠ c) ++ c :: l.drop ((l.takeWhile (· ≠ c)).length + 1)
  | [], h => by simp at h
  | b :: l, h => by
    by_cases hb : b = c
    · subst hb; simp
    · have hm : c ∈ l := by
        rcases List.mem_cons.1 h with h | h
        · exact absurd h.symm hb
        · exact h
      rw [List.takeWhile_cons_of_pos (by simpa using hb)]
      simp only [List.cons_append, List.length_cons, List.drop_succ_cons]
      rw [← takeWhile_mem hm]

theorem letter_ref : ∀ c : Nat, c < 256 → letterB (UInt8.ofNat c) = ((decide (97 ≤ c) && decide (c ≤ 122)) || (decide (65 ≤ c) && decide (c ≤ 90)) || decide (c = 95)) := by decide +kernel

variable [Memo] [NY]

theorem sIndexByte (gl : Gl) (st : St) (s : S) (c : Nat) :
    W Try.prog (.call gl 58 [.str s, .int .u8 (c : Int)]) st = .call (.val (.int .i64 (Lib.indexByte s.toList c.toUInt8)) st) := by
  have hx : vextern Try.prog Try.f66 [.str s, .int .u8 (c : Int)] = some (.int .i64 (Lib.indexByte s.toList c.toUInt8)) := vextern_index (by kernel_rfl) (by kernel_rfl) s c
  have hb : Try.f66.body = none := rfl
  have hm : (Try.f66.name == "runtime.NumGoroutine") = false := by kernel_rfl
  refine call_does (NY.no _ rfl rfl _ _) Try.func58 rfl (by kernel_rfl) ?_
  repeat refine Does.seq ?_
  refine Does.region ?_
  simp
  repeat refine Does.seq ?_
  refine Does.region ?_
  simp [vcall_extern Try.func66 hm hb hx]
  refine Does.ret ?_
  simp [Try.f58]

theorem strIndexByte (gl : Gl) (st : St) (s : S) (c : Nat) :
    W Try.prog (.call gl 68 [.str s, .int .u8 (c : Int)]) st = .call (.val (.int .i64 (Lib.indexByte s.toList c.toUInt8)) st) := by
  have hc := ihCall_W (sIndexByte gl st s c)
  have hk : callable Try.prog 58 = true := by kernel_rfl
  refine call_does (NY.no _ rfl rfl _ _) Try.func68 rfl (by kernel_rfl) ?_
  repeat refine Does.seq ?_
  refine Does.region ?_
  simp
  repeat refine Does.seq ?_
  refine Does.region ?_
  simp [vcall_callable hk, hc]
  refine Does.ret ?_
  simp [Try.f68]

/-- Index of a string of one byte -/
theorem sIndex1 (gl : Gl) (st : St) (s o : S) (ho : o.n = 1) :
    W Try.prog (.call gl 56 [.str s, .str o]) st = .call (.val (.int .i64 (Lib.indexByte s.toList (o.at 0).toUInt8)) st) := by
  have hc := ihCall_W (sIndexByte gl st s (o.at 0))
  have hk : callable Try.prog 58 = true := by kernel_rfl
  have hlo := vlen_str Try.underlying9 (s := o)
  rw [ho] at hlo
  have hix := vindex_str (P := Try.prog) (k := .i64) Try.underlying9 (s := o) (i := 0) (by omega)
  simp only [Int.natCast_zero, Int.cast_ofNat_Int, Int.ofNat_zero] at hix
  refine call_does (NY.no _ rfl rfl _ _) Try.func56 rfl (by kernel_rfl) ?_
  repeat refine Does.seq ?_
  refine Does.region ?_
  simp
  repeat refine Does.seq ?_
  refine Does.region ?_
  simp [hlo]
  repeat refine Does.seq ?_
  refine Does.block ?_
  repeat refine Does.seq ?_
  refine Does.region ?_
  cases hs : o.same s with
  | true =>
    simp [vbin_eql, vbin_seql, hs]
    repeat refine Does.seq ?_
    refine Does.condT (by simp) ?_
    repeat refine Does.seq ?_
    refine Does.region ?_
    simp
    refine Does.ret ?_
    have h1 : Lib.indexByte s.toList (o.at 0).toUInt8 = 0 := by
      rw [S.same_eq, beq_iff_eq] at hs
      have := o.toList_at (i := 0) (by omega)
      rw [hs] at this
      cases hl : s.toList with
      | nil => rw [hl] at this; simp at this
      | cons b r =>
        rw [hl] at this
        simp at this
        subst this
        simp [Lib.indexByte]
    simp [Try.f56, h1]
  | false =>
    simp [vbin_eql, vbin_seql, hs]
    repeat refine Does.seq ?_
    refine Does.condF (by simp) ?_
    repeat refine Does.seq ?_
    refine Does.region ?_
    simp [vbin_eql]
    repeat refine Does.seq ?_
    refine Does.condT (by simp) ?_
    repeat refine Does.seq ?_
    refine Does.region ?_
    simp [hix, vcall_callable hk, hc]
    refine Does.ret ?_
    simp [Try.f56]

theorem strIndex1 (gl : Gl) (st : St) (s o : S) (ho : o.n = 1) :
    W Try.prog (.call gl 48 [.str s, .str o]) st = .call (.val (.int .i64 (Lib.indexByte s.toList (o.at 0).toUInt8)) st) := by
  have hc := ihCall_W (sIndex1 gl st s o ho)
  have hk : callable Try.prog 56 = true := by kernel_rfl
  refine call_does (NY.no _ rfl rfl _ _) Try.func48 rfl (by kernel_rfl) ?_
  repeat refine Does.seq ?_
  refine Does.region ?_
  simp
  repeat refine Does.seq ?_
  refine Does.region ?_
  simp [vcall_callable hk, hc]
  refine Does.ret ?_
  simp [Try.f48]

/-- strings.Contains of one byte -/
theorem strContains1 (gl : Gl) (st : St) (s o : S) (ho : o.n = 1) :
    W Try.prog (.call gl 37 [.str s, .str o]) st = .call (.val (.bool (s.toList.elem (o.at 0).toUInt8)) st) := by
  have hc := ihCall_W (strIndex1 gl st s o ho)
  have hk : callable Try.prog 48 = true := by kernel_rfl
  have hg := indexByte_ge s.toList (o.at 0).toUInt8
  have he : s.toList.elem (o.at 0).toUInt8 = decide (0 ≤ Lib.indexByte s.toList (o.at 0).toUInt8) := by
    rw [Bool.eq_iff_iff, decide_eq_true_eq, hg]; simp
  generalize Lib.indexByte s.toList (o.at 0).toUInt8 = w at hc he
  refine call_does (NY.no _ rfl rfl _ _) Try.func37 rfl (by kernel_rfl) ?_
  repeat refine Does.seq ?_
  refine Does.region ?_
  simp
  repeat refine Does.seq ?_
  refine Does.region ?_
  simp [vcall_callable hk, hc, vbin_geq]
  refine Does.ret ?_
  simp [Try.f37]
  simpa using he.symm

theorem sCut1 (gl : Gl) (st : St) (s o : S) (ho : o.n = 1) (hn : s.n < 4000000000000000000) :
    ∃ v st', W Try.prog (.call gl 50 [.str s, .str o]) st = .call (.val v st') ∧ CutS s o v ∧ Keep st st' := by
  have hc := ihCall_W (sIndex1 gl st s o ho)
  have hk : callable Try.prog 56 = true := by kernel_rfl
  have hlo := vlen_str Try.underlying9 (s := o)
  rw [ho] at hlo
  rw [indexByte_eq] at hc
  refine call_ex (NY.no _ rfl rfl _ _) Try.func50 rfl (by kernel_rfl) ?_
  repeat refine Does.seq ?_
  refine Does.region ?_
  simp
  repeat refine Does.seq ?_
  refine Does.region ?_
  by_cases hm : (o.at 0).toUInt8 ∈ s.toList
  · rw [if_pos hm] at hc
    have hd := takeWhile_mem hm
    have hle : (s.toList.takeWhile (· ≠ (o.at 0).toUInt8)).length < s.n := by
      have := congrArg List.length hd
      simp only [List.length_append, List.length_cons, S.len] at this; omega
    generalize hi : (s.toList.takeWhile (· ≠ (o.at 0).toUInt8)).length = i at hc hd hle
    simp [vcall_callable hk, hc]
    repeat refine Does.seq ?_
    refine Does.region ?_
    simp [vbin_geq]
    repeat refine Does.seq ?_
    refine Does.condT (by simp) ?_
    repeat refine Does.seq ?_
    refine Does.draw (b := [0, 0, 3, 0, 0, 0, 32, 112, 248, 7, 1023, 2047]) (l := [0, 1, 2, 3, 4, 5, 6, 7, 8, 9, 10, 11]) (by kernel_rfl) (by kernel_rfl) (by kernel_rfl) ?_
    have h1 := vslice_hi (P := Try.prog) Try.underlying9 (s := s) (hi := i) (by omega) (k' := .i64)
    have h2 := vslice_lo (P := Try.prog) Try.underlying9 (s := s) (lo := i + 1) (by omega) (k := .i64)
    have hw := wrap_add (n := i) (m := 1) (by omega)
    simp at h2 hw
    simp [h1, hlo, vbin_add, hw, h2]
    refine Does.ret ?_
    simp
    refine ⟨⟨_, _, true, rfl, .inl ⟨rfl, ?_, ?_⟩⟩, (Keep.refl st).tick 12⟩
    · rw [S.toList_cut s (Nat.zero_le _) (by omega), List.drop_zero, Nat.sub_zero, ← hi]
      exact (List.prefix_iff_eq_take.1 (List.takeWhile_prefix _)).symm
    · rw [S.toList_cut s (Nat.zero_le _) (by omega), List.drop_zero, Nat.sub_zero, rest_toList s (by omega)]
      rw [show s.toList.take i = s.toList.takeWhile (· ≠ (o.at 0).toUInt8) by rw [← hi]; exact (List.prefix_iff_eq_take.1 (List.takeWhile_prefix _)).symm]
      exact hd
  · rw [if_neg hm] at hc
    simp [vcall_callable hk, hc]
    repeat refine Does.seq ?_
    refine Does.region ?_
    simp [vbin_geq]
    repeat refine Does.seq ?_
    refine Does.condF (by simp) ?_
    refine Does.skip ?_
    simp
    repeat refine Does.seq ?_
    refine Does.region ?_
    simp
    refine Does.ret ?_
    simp
    exact ⟨⟨_, _, false, rfl, .inr ⟨rfl, hm, Nat.le_refl _⟩⟩, .refl st⟩

theorem strCut1 (gl : Gl) (st : St) (s o : S) (ho : o.n = 1) (hn : s.n < 4000000000000000000) :
    ∃ v st', W Try.prog (.call gl 39 [.str s, .str o]) st = .call (.val v st') ∧ CutS s o v ∧ Keep st st' := by
  obtain ⟨v, st1, hc, ⟨a, b, ok, rfl, hcut⟩, hk1⟩ := sCut1 gl st s o ho hn
  have hc := ihCall_W hc
  have hk : callable Try.prog 50 = true := by kernel_rfl
  refine call_ex (NY.no _ rfl rfl _ _) Try.func39 rfl (by kernel_rfl) ?_
  repeat refine Does.seq ?_
  refine Does.region ?_
  simp
  repeat refine Does.seq ?_
  refine Does.region ?_
  simp [vcall_callable hk, hc]
  refine Does.ret ?_
  simp
  exact ⟨⟨a, b, ok, rfl, hcut⟩, hk1⟩

theorem wLetter (gl : Gl) (st : St) (c : Nat) (hc : c < 256) : W Try.prog (.call gl 51 [.int .u8 (c : Int)]) st = .call (.val (.bool (letterB (UInt8.ofNat c))) st) := by
  have e0 : ∀ kk, _ := fun kk => vbin_or32 (P := Try.prog) (kk := kk) (T := 5) hc
  have e1 : ∀ kk, vbin Try.prog kk .eql 5 (.int .u8 (c : Int)) (.int .u8 95) = some (.bool (decide (c = 95))) := fun kk => vI_eql rfl
  have e2 : ∀ kk, vbin Try.prog kk .geq 5 (.int .u8 ((c ||| 32 : Nat) : Int)) (.int .u8 97) = some (.bool (decide (97 ≤ (c ||| 32)))) := fun kk => vI_geq rfl
  have e3 : ∀ kk, vbin Try.prog kk .leq 5 (.int .u8 ((c ||| 32 : Nat) : Int)) (.int .u8 122) = some (.bool (decide ((c ||| 32) ≤ 122))) := fun kk => vI_leq rfl
  have hl : letterB (UInt8.ofNat c) = (decide (c = 95) || (decide (97 ≤ (c ||| 32)) && decide ((c ||| 32) ≤ 122))) := by
    have ht : (UInt8.ofNat c).toNat = c := by simp; omega
    unfold letterB
    rw [ht]
    congr 1
    rw [Bool.eq_iff_iff, beq_iff_eq, decide_eq_true_eq]
    exact byte_eq (b := 95) hc (by decide)
  rw [hl]
  clear hl
  generalize (c ||| 32) = d at e0 e2 e3
  generalize decide (c = 95) = b1 at e1
  generalize decide (97 ≤ d) = b2 at e2
  generalize decide (d ≤ 122) = b3 at e3
  refine call_does (NY.no _ rfl rfl _ _) Try.func51 rfl (by kernel_rfl) ?_
  repeat refine Does.seq ?_
  refine Does.region ?_
  simp
  repeat refine Does.seq ?_
  refine Does.region ?_
  cases b1 <;> cases b2 <;> cases b3 <;> simp [e0, e1, e2, e3] <;> refine Does.ret ?_ <;> simp [Try.f51]

theorem wDigit (gl : Gl) (st : St) (c : Nat) (hc : c < 256) (f : Nat) (hf : f = 52 ∨ f = 55) : W Try.prog (.call gl f [.int .u8 (c : Int)]) st = .call (.val (.bool (digitB (UInt8.ofNat c))) st) := by
  have e1 : ∀ kk, vbin Try.prog kk .geq 5 (.int .u8 (c : Int)) (.int .u8 48) = some (.bool (decide (48 ≤ c))) := fun kk => vI_geq rfl
  have e2 : ∀ kk, vbin Try.prog kk .leq 5 (.int .u8 (c : Int)) (.int .u8 57) = some (.bool (decide (c ≤ 57))) := fun kk => vI_leq rfl
  have hl : digitB (UInt8.ofNat c) = (decide (48 ≤ c) && decide (c ≤ 57)) := by
    have ht : (UInt8.ofNat c).toNat = c := by simp; omega
    unfold digitB; rw [ht]
  rw [hl]
  clear hl
  generalize decide (48 ≤ c) = b1 at e1
  generalize decide (c ≤ 57) = b2 at e2
  rcases hf with rfl | rfl
  · refine call_does (NY.no _ rfl rfl _ _) Try.func52 rfl (by kernel_rfl) ?_
    repeat refine Does.seq ?_
    refine Does.region ?_
    simp
    repeat refine Does.seq ?_
    refine Does.region ?_
    cases b1 <;> cases b2 <;> simp [e1, e2] <;> refine Does.ret ?_ <;> simp [Try.f52]
  · refine call_does (NY.no _ rfl rfl _ _) Try.func55 rfl (by kernel_rfl) ?_
    repeat refine Does.seq ?_
    refine Does.region ?_
    simp
    repeat refine Does.seq ?_
    refine Does.region ?_
    cases b1 <;> cases b2 <;> simp [e1, e2] <;> refine Does.ret ?_ <;> simp [Try.f55]

theorem rLetter (gl : Gl) (st : St) (c : Nat) (hc : c < 256) : W Try.prog (.call gl 54 [.int .u8 (c : Int)]) st = .call (.val (.bool (letterB (UInt8.ofNat c))) st) := by
  have e1 : ∀ kk, vbin Try.prog kk .geq 5 (.int .u8 (c : Int)) (.int .u8 97) = some (.bool (decide (97 ≤ c))) := fun kk => vI_geq rfl
  have e2 : ∀ kk, vbin Try.prog kk .leq 5 (.int .u8 (c : Int)) (.int .u8 122) = some (.bool (decide (c ≤ 122))) := fun kk => vI_leq rfl
  have e3 : ∀ kk, vbin Try.prog kk .geq 5 (.int .u8 (c : Int)) (.int .u8 65) = some (.bool (decide (65 ≤ c))) := fun kk => vI_geq rfl
  have e4 : ∀ kk, vbin Try.prog kk .leq 5 (.int .u8 (c : Int)) (.int .u8 90) = some (.bool (decide (c ≤ 90))) := fun kk => vI_leq rfl
  have e5 : ∀ kk, vbin Try.prog kk .eql 5 (.int .u8 (c : Int)) (.int .u8 95) = some (.bool (decide (c = 95))) := fun kk => vI_eql rfl
  rw [letter_ref c hc]
  generalize decide (97 ≤ c) = b1 at e1
  generalize decide (c ≤ 122) = b2 at e2
  generalize decide (65 ≤ c) = b3 at e3
  generalize decide (c ≤ 90) = b4 at e4
  generalize decide (c = 95) = b5 at e5
  refine call_does (NY.no _ rfl rfl _ _) Try.func54 rfl (by kernel_rfl) ?_
  repeat refine Does.seq ?_
  refine Does.region ?_
  simp
  repeat refine Does.seq ?_
  refine Does.region ?_
  cases b1 <;> cases b2 <;> cases b3 <;> cases b4 <;> cases b5 <;> simp [e1, e2, e3, e4, e5] <;> refine Does.ret ?_ <;> simp [Try.f54]
end Go.Vm

namespace Go.Vm
open Go Go.Proofs Go.Sy
attribute [local simp] Oks xOps vwanted isDefer vop kindOf vpure ev evs toV andThen inBlock atTo_some Fr.dsTo Fr.glTo Fr.toNone initFr_at initFr_ds initFr_gl veff traverse tupled vresult V.undef evOpt xDraw xStep

/-- a byte of a name -/
def partB (b : UInt8) : Bool := letterB b || digitB b

theorem nameL_at {s : S} (h : 0 < s.n) : nameL s.toList = (letterB (UInt8.ofNat (s.at 0)) && s.toList.all partB && decide (s.n ≤ 64)) := by
  have h1 := s.drop_at h
  rw [List.drop_zero] at h1
  have h2 : s.toList.length = s.n := S.len s
  generalize s.toList = l at h1 h2
  cases l with
  | nil => cases h1
  | cons b r =>
    simp only [List.cons.injEq] at h1
    rw [← h1.1]
    show (letterB b && (b :: r).all (fun c => letterB c || digitB c) && decide ((b :: r).length ≤ 64)) = _
    rw [h2]
    rfl

theorem all_take {s : S} {p : UInt8 → Bool} {n : Nat} (hn : n < s.n) : (s.toList.take (n + 1)).all p = ((s.toList.take n).all p && p (UInt8.ofNat (s.at n))) := by
  rw [List.take_add_one, s.toList_at hn]
  simp

theorem all_not {s : S} {p : UInt8 → Bool} {n : Nat} (hn : n < s.n) (h : p (UInt8.ofNat (s.at n)) = false) : s.toList.all p = false := by
  cases ha : s.toList.all p with
  | false => rfl
  | true =>
    rw [List.all_eq_true] at ha
    have := ha _ (List.mem_of_getElem? (s.toList_at hn))
    rw [h] at this; cases this

theorem same_empty (s : S) : s.same (S.ofList []) = decide (s.n = 0) := by
  rw [S.same_eq, S.toList_ofList, Bool.eq_iff_iff, beq_iff_eq, decide_eq_true_eq]
  constructor
  · intro h; rw [← S.len, h]; rfl
  · intro h; exact List.eq_nil_of_length_eq_zero (by rw [S.len, h])

def LeadQ (s : S) (st : St) (e : AE) (fr : Fr) (st' : St) : Prop := e = AE.normal ∧ st' = st ∧ fr.ds = [] ∧ ∃ n : Nat, Fr.at fr 3 = .int .i64 (n : Int) ∧ n ≤ s.n ∧ decide (n = s.n) = nameL s.toList
def LeadR (s : S) (v : V) : Prop := ∃ n : Nat, v = .int .i64 (n : Int) ∧ n ≤ s.n ∧ (0 < s.n → decide (n = s.n) = nameL s.toList)

variable [Memo] [NY]

theorem lead_ok (gl : Gl) (st : St) (s : S) (hs : s.n < 4000000000000000000) :
    ∃ v st', W Try.prog (.call gl 40 [.str s]) st = .call (.val v st') ∧ LeadR s v ∧ st' = st := by
  have hk51 : callable Try.prog 51 = true := by kernel_rfl
  have hk52 : callable Try.prog 52 = true := by kernel_rfl
  have hlen := vlen_str Try.underlying9 (s := s)
  refine call_ex (NY.no _ rfl rfl _ _) Try.func40 rfl (by kernel_rfl) ?_
  repeat refine Does.seq ?_
  refine Does.region ?_
  simp
  repeat refine Does.seq ?_
  refine Does.region ?_
  by_cases h0 : s.n = 0
  · have hs0 : s.same (S.ofList []) = true := by rw [same_empty]; exact decide_eq_true h0
    simp [vbin_seql, hs0]
    repeat refine Does.seq ?_
    refine Does.condT (by simp) ?_
    repeat refine Does.seq ?_
    refine Does.region ?_
    simp
    refine Does.ret ?_
    simp
    exact ⟨0, rfl, Nat.zero_le _, fun h => by omega⟩
  have hpos : 0 < s.n := by omega
  have hs0 : s.same (S.ofList []) = false := by rw [same_empty]; exact decide_eq_false h0
  have hix := vindex_str (P := Try.prog) (k := .i64) Try.underlying9 hpos
  simp only [Int.ofNat_zero, Int.natCast_zero, Int.cast_ofNat_Int] at hix
  have hle0 := ihCall_W (wLetter gl st (s.at 0) (s.at_lt 0))
  have hnm := nameL_at hpos
  cases hl0 : letterB (UInt8.ofNat (s.at 0)) with
  | false =>
    rw [hl0] at hle0 hnm
    simp [vbin_seql, hs0, hix, vcall_callable hk51, hle0]
    repeat refine Does.seq ?_
    refine Does.condT (by simp) ?_
    repeat refine Does.seq ?_
    refine Does.region ?_
    simp
    refine Does.ret ?_
    simp
    exact ⟨0, rfl, Nat.zero_le _, fun h => by rw [hnm, decide_eq_false (by omega)]; rfl⟩
  | true =>
    rw [hl0] at hle0 hnm
    rw [Bool.true_and] at hnm
    simp [vbin_seql, hs0, hix, vcall_callable hk51, hle0]
    repeat refine Does.seq ?_
    refine Does.condF (by simp) ?_
    refine Does.skip ?_
    simp
    repeat refine Does.seq ?_
    refine Does.region ?_
    simp
    repeat refine Does.seq ?_
    refine Does.mono (Q := LeadQ s st) ?loop ?tail
    case tail =>
      rintro e fr' st' ⟨rfl, rfl, hds, n, h3, hn, hd⟩
      simp
      repeat refine Does.seq ?_
      refine Does.region ?_
      simp [h3]
      refine Does.ret ?_
      simp [hds]
      exact ⟨n, rfl, hn, fun _ => hd⟩
    case loop =>
      refine Does.block (Does.up s.n (fun n fr st' => st' = st ∧ fr.ds = [] ∧ fr.gl = gl ∧ Fr.at fr 0 = .str s ∧ Fr.at fr 3 = .int .i64 (n : Int) ∧ n ≤ s.n ∧ 1 ≤ n ∧ n ≤ 64 ∧ (s.toList.take n).all partB = true) 1 ?init ?bound ?step)
      case init =>
        refine ⟨rfl, by simp, by simp, by simp, by simp, hpos, Nat.le_refl _, by omega, ?_⟩
        rw [all_take hpos]
        simp [partB, hl0]
      case bound => exact fun i fr st' h => h.2.2.2.2.2.1
      case step =>
        rintro n fr st' ⟨rfl, hds, hg, h0, h3, hn, hn1, hn64, hall⟩
        repeat refine Does.seq ?_
        refine Does.region ?_
        have e64 : ∀ kk, vbin Try.prog kk .lss 3 (.int .i64 (n : Int)) (.int .i64 64) = some (.bool (decide (n < 64))) := fun kk => vI_lss rfl
        have elen : ∀ kk, vbin Try.prog kk .lss 3 (.int .i64 (n : Int)) (.int .i64 (s.n : Int)) = some (.bool (decide (n < s.n))) := fun kk => vI_lss rfl
        have out : decide (n = s.n) = nameL s.toList → (fr : Fr) → fr.ds = [] → Fr.at fr 3 = .int .i64 (n : Int) → LeadQ s st' .normal fr st' :=
          fun hd fr h1 h2 => ⟨rfl, rfl, h1, n, h2, hn, hd⟩
        by_cases hlt : n < s.n
        · rw [decide_eq_true hlt] at elen
          by_cases h64 : n < 64
          · rw [decide_eq_true h64] at e64
            have hix2 := vindex_str (P := Try.prog) (k := .i64) Try.underlying9 hlt
            have hle := ihCall_W (wLetter gl st' (s.at n) (s.at_lt n))
            have hdi := ihCall_W (wDigit gl st' (s.at n) (s.at_lt n) 52 (.inl rfl))
            have hpb : partB (UInt8.ofNat (s.at n)) = (letterB (UInt8.ofNat (s.at n)) || digitB (UInt8.ofNat (s.at n))) := rfl
            have hat := all_take (p := partB) hlt
            rw [hall, Bool.true_and] at hat
            have hno : partB (UInt8.ofNat (s.at n)) = false → decide (n = s.n) = nameL s.toList := fun h => by
              rw [hnm, all_not hlt h, decide_eq_false (by omega)]; rfl
            have w1 : IntKind.i64.wrap ((n : Int) + 1) = (n : Int) + 1 := wrap_i64 (by omega) (by omega)
            cases hll : letterB (UInt8.ofNat (s.at n)) with
            | true =>
              rw [hll] at hle hpb
              simp [h0, h3, hlen, hg, elen, e64, hix2, vcall_callable hk51, hle]
              repeat refine Does.seq ?_
              refine Does.condT (by simp) ?_
              refine Does.skip ?_
              simp
              refine Does.block ?_
              refine Does.region ?_
              simp [h3, vbin_add, w1]
              exact ⟨n + 1, by omega, hds, hg, h0, by simp, by omega, by omega, by omega, by rw [← List.all_eq_true, hat, hpb]; rfl⟩
            | false =>
              rw [hll] at hle hpb
              cases hdd : digitB (UInt8.ofNat (s.at n)) with
              | true =>
                rw [hdd] at hdi hpb
                simp [h0, h3, hlen, hg, elen, e64, hix2, vcall_callable hk51, hle, vcall_callable hk52, hdi]
                repeat refine Does.seq ?_
                refine Does.condT (by simp) ?_
                refine Does.skip ?_
                simp
                refine Does.block ?_
                refine Does.region ?_
                simp [h3, vbin_add, w1]
                exact ⟨n + 1, by omega, hds, hg, h0, by simp, by omega, by omega, by omega, by rw [← List.all_eq_true, hat, hpb]; rfl⟩
              | false =>
                rw [hdd] at hdi hpb
                simp [h0, h3, hlen, hg, elen, e64, hix2, vcall_callable hk51, hle, vcall_callable hk52, hdi]
                repeat refine Does.seq ?_
                refine Does.condF (by simp) ?_
                refine Does.exit ?_
                simp only [inBlock, if_true, andThen]
                exact out (hno hpb) _ (by simp [hds]) (by simp [h3])
          · rw [decide_eq_false h64] at e64
            simp [h0, h3, hlen, elen, e64]
            repeat refine Does.seq ?_
            refine Does.condF (by simp) ?_
            refine Does.exit ?_
            simp only [inBlock, if_true, andThen]
            refine out ?_ _ (by simp [hds]) (by simp [h3])
            rw [hnm, decide_eq_false (show ¬ n = s.n by omega), decide_eq_false (show ¬ s.n ≤ 64 by omega)]
            simp
        · rw [decide_eq_false hlt] at elen
          simp [h0, h3, hlen, elen]
          repeat refine Does.seq ?_
          refine Does.condF (by simp) ?_
          refine Does.exit ?_
          simp only [inBlock, if_true, andThen]
          refine out ?_ _ (by simp [hds]) (by simp [h3])
          have hns : n = s.n := by omega
          rw [hnm, decide_eq_true hns, decide_eq_true (show s.n ≤ 64 by omega)]
          rw [hns, List.take_of_length_le (by simp)] at hall
          rw [hall]; rfl

theorem rName_ok (gl : Gl) (st : St) (s : S) (hs : s.n < 4000000000000000000) :
    W Try.prog (.call gl 44 [.str s]) st = .call (.val (.bool (nameL s.toList)) st) := by
  have hk54 : callable Try.prog 54 = true := by kernel_rfl
  have hk55 : callable Try.prog 55 = true := by kernel_rfl
  have hlen := vlen_str Try.underlying9 (s := s)
  refine call_does (NY.no _ rfl rfl _ _) Try.func44 rfl (by kernel_rfl) ?_
  repeat refine Does.seq ?_
  refine Does.region ?_
  simp
  repeat refine Does.seq ?_
  refine Does.region ?_
  by_cases h0 : s.n = 0
  · have hs0 : s.same (S.ofList []) = true := by rw [same_empty]; exact decide_eq_true h0
    have hnl : nameL s.toList = false := by
      have : s.toList = [] := List.eq_nil_of_length_eq_zero (by rw [S.len, h0])
      rw [this]; rfl
    simp [vbin_seql, hs0]
    repeat refine Does.seq ?_
    refine Does.condT (by simp) ?_
    repeat refine Does.seq ?_
    refine Does.region ?_
    simp
    refine Does.ret ?_
    simp [Try.f44, hnl]
  have hpos : 0 < s.n := by omega
  have hs0 : s.same (S.ofList []) = false := by rw [same_empty]; exact decide_eq_false h0
  have hnm := nameL_at hpos
  generalize hA : s.toList.all partB = A at hnm
  have e64 : ∀ kk, vbin Try.prog kk .gtr 3 (.int .i64 (s.n : Int)) (.int .i64 64) = some (.bool (decide (64 < s.n))) := fun kk => vI_gtr rfl
  by_cases h64 : 64 < s.n
  · rw [decide_eq_true h64] at e64
    rw [decide_eq_false (show ¬ s.n ≤ 64 by omega), Bool.and_false] at hnm
    simp [vbin_seql, hs0, hlen, e64]
    repeat refine Does.seq ?_
    refine Does.condT (by simp) ?_
    repeat refine Does.seq ?_
    refine Does.region ?_
    simp
    refine Does.ret ?_
    simp [Try.f44, hnm]
  rw [decide_eq_false h64] at e64
  rw [decide_eq_true (show s.n ≤ 64 by omega), Bool.and_true] at hnm
  have hix := vindex_str (P := Try.prog) (k := .i64) Try.underlying9 hpos
  simp only [Int.ofNat_zero, Int.natCast_zero, Int.cast_ofNat_Int] at hix
  have hle0 := ihCall_W (rLetter gl st (s.at 0) (s.at_lt 0))
  cases hl0 : letterB (UInt8.ofNat (s.at 0)) with
  | false =>
    rw [hl0] at hle0 hnm
    rw [Bool.false_and] at hnm
    simp [vbin_seql, hs0, hlen, e64, hix, vcall_callable hk54, hle0]
    repeat refine Does.seq ?_
    refine Does.condT (by simp) ?_
    repeat refine Does.seq ?_
    refine Does.region ?_
    simp
    refine Does.ret ?_
    simp [Try.f44, hnm]
  | true =>
    rw [hl0] at hle0 hnm
    rw [Bool.true_and] at hnm
    simp [vbin_seql, hs0, hlen, e64, hix, vcall_callable hk54, hle0]
    repeat refine Does.seq ?_
    refine Does.condF (by simp) ?_
    refine Does.skip ?_
    simp
    repeat refine Does.seq ?_
    refine Does.region ?_
    simp
    refine Does.mono (Q := fun e fr' st' => st' = st ∧ fr'.ds = [] ∧ ((e = AE.ret ∧ Fr.at fr' 2 = .bool false ∧ A = false) ∨ (e = AE.normal ∧ A = true))) ?loop ?tail
    case tail =>
      rintro e fr' st' ⟨rfl, hds, ⟨rfl, h2, ha⟩ | ⟨rfl, ha⟩⟩
      · simp only [andThen]
        simp [hds, h2, hnm, ha, Try.f44]
      · simp only [andThen]
        repeat refine Does.seq ?_
        refine Does.region ?_
        simp
        refine Does.ret ?_
        rw [hnm, ha]
        simp [hds, Try.f44]
    case loop =>
      refine Does.block (Does.up s.n (fun n fr st' => st' = st ∧ fr.ds = [] ∧ fr.gl = gl ∧ Fr.at fr 0 = .str s ∧ Fr.at fr 3 = .int .i64 (n : Int) ∧ n ≤ s.n ∧ (s.toList.take n).all partB = true) 0 ?init ?bound ?step)
      case init => exact ⟨rfl, by simp, by simp, by simp, by simp, Nat.zero_le _, by simp⟩
      case bound => exact fun i fr st' h => h.2.2.2.2.2.1
      case step =>
        rintro n fr st' ⟨rfl, hds, hg, h0, h3, hn, hall⟩
        repeat refine Does.seq ?_
        refine Does.region ?_
        have elen : ∀ kk, vbin Try.prog kk .lss 3 (.int .i64 (n : Int)) (.int .i64 (s.n : Int)) = some (.bool (decide (n < s.n))) := fun kk => vI_lss rfl
        by_cases hlt : n < s.n
        · rw [decide_eq_true hlt] at elen
          have hix2 := vindex_str (P := Try.prog) (k := .i64) Try.underlying9 hlt
          have hle := ihCall_W (rLetter gl st' (s.at n) (s.at_lt n))
          have hdi := ihCall_W (wDigit gl st' (s.at n) (s.at_lt n) 55 (.inr rfl))
          have hpb : partB (UInt8.ofNat (s.at n)) = (letterB (UInt8.ofNat (s.at n)) || digitB (UInt8.ofNat (s.at n))) := rfl
          have hat := all_take (p := partB) hlt
          rw [hall, Bool.true_and] at hat
          have w1 : IntKind.i64.wrap ((n : Int) + 1) = (n : Int) + 1 := wrap_i64 (by omega) (by omega)
          simp [h0, h3, hlen, elen]
          repeat refine Does.seq ?_
          refine Does.condT (by simp) ?_
          refine Does.skip ?_
          simp
          repeat refine Does.seq ?_
          refine Does.block ?_
          repeat refine Does.seq ?_
          refine Does.region ?_
          cases hll : letterB (UInt8.ofNat (s.at n)) with
          | true =>
            rw [hll] at hle hpb
            simp [h0, h3, hg, hix2, vcall_callable hk54, hle]
            repeat refine Does.seq ?_
            refine Does.condF (by simp) ?_
            refine Does.skip ?_
            simp
            refine Does.region ?_
            simp [h3, vbin_add, w1]
            exact ⟨n + 1, by omega, hds, hg, h0, by simp, by omega, by rw [← List.all_eq_true, hat, hpb]; rfl⟩
          | false =>
            rw [hll] at hle hpb
            cases hdd : digitB (UInt8.ofNat (s.at n)) with
            | true =>
              rw [hdd] at hdi hpb
              simp [h0, h3, hg, hix2, vcall_callable hk54, hle, vcall_callable hk55, hdi]
              repeat refine Does.seq ?_
              refine Does.condF (by simp) ?_
              refine Does.skip ?_
              simp
              refine Does.region ?_
              simp [h3, vbin_add, w1]
              exact ⟨n + 1, by omega, hds, hg, h0, by simp, by omega, by rw [← List.all_eq_true, hat, hpb]; rfl⟩
            | false =>
              rw [hdd] at hdi hpb
              simp [h0, h3, hg, hix2, vcall_callable hk54, hle, vcall_callable hk55, hdi]
              repeat refine Does.seq ?_
              refine Does.condT (by simp) ?_
              repeat refine Does.seq ?_
              refine Does.region ?_
              simp
              refine Does.ret ?_
              simp only [inBlock, andThen]
              exact ⟨trivial, by simp [hds], .inl ⟨trivial, by simp, by rw [← hA]; exact all_not hlt hpb⟩⟩
        · rw [decide_eq_false hlt] at elen
          simp [h0, h3, hlen, elen]
          repeat refine Does.seq ?_
          refine Does.condF (by simp) ?_
          refine Does.exit ?_
          simp only [inBlock, if_true, andThen]
          rw [List.take_of_length_le (by simp; omega)] at hall
          exact ⟨trivial, by simp [hds], .inr ⟨trivial, hA.symm.trans hall⟩⟩

/-- in: is a byte among others? -/
theorem in_ok (gl : Gl) (st : St) (c : Nat) (hc : c < 256) (s : S) (hs : s.n < 4000000000000000000) :
    W Try.prog (.call gl 47 [.int .u8 (c : Int), .str s]) st = .call (.val (.bool (s.toList.elem (UInt8.ofNat c))) st) := by
  have hlen := vlen_str Try.underlying9 (s := s)
  generalize hA : s.toList.elem (UInt8.ofNat c) = A
  refine call_does (NY.no _ rfl rfl _ _) Try.func47 rfl (by kernel_rfl) ?_
  repeat refine Does.seq ?_
  refine Does.region ?_
  simp
  repeat refine Does.seq ?_
  refine Does.region ?_
  simp
  refine Does.mono (Q := fun e fr' st' => st' = st ∧ fr'.ds = [] ∧ ((e = AE.ret ∧ Fr.at fr' 4 = .bool true ∧ A = true) ∨ (e = AE.normal ∧ A = false))) ?loop ?tail
  case tail =>
    rintro e fr' st' ⟨rfl, hds, ⟨rfl, h2, ha⟩ | ⟨rfl, ha⟩⟩
    · simp only [andThen]
      rw [ha]
      simp [hds, h2, Try.f47]
    · simp only [andThen]
      rw [ha]
      repeat refine Does.seq ?_
      refine Does.region ?_
      simp
      refine Does.ret ?_
      simp [hds, Try.f47]
  case loop =>
    refine Does.block (Does.up s.n (fun n fr st' => st' = st ∧ fr.ds = [] ∧ Fr.at fr 0 = .int .u8 (c : Int) ∧ Fr.at fr 1 = .str s ∧ Fr.at fr 5 = .int .i64 (n : Int) ∧ n ≤ s.n ∧ (s.toList.take n).elem (UInt8.ofNat c) = false) 0 ?init ?bound ?step)
    case init => exact ⟨rfl, by simp, by simp, by simp, by simp, Nat.zero_le _, by simp⟩
    case bound => exact fun i fr st' h => h.2.2.2.2.2.1
    case step =>
      rintro n fr st' ⟨rfl, hds, h0, h1, h5, hn, hall⟩
      repeat refine Does.seq ?_
      refine Does.region ?_
      have elen : ∀ kk, vbin Try.prog kk .lss 3 (.int .i64 (n : Int)) (.int .i64 (s.n : Int)) = some (.bool (decide (n < s.n))) := fun kk => vI_lss rfl
      by_cases hlt : n < s.n
      · rw [decide_eq_true hlt] at elen
        have hix2 := vindex_str (P := Try.prog) (k := .i64) Try.underlying9 hlt
        have ec : ∀ kk, vbin Try.prog kk .eql 5 (.int .u8 (s.at n : Int)) (.int .u8 (c : Int)) = some (.bool (decide (s.at n = c))) := fun kk => vI_eql rfl
        have w1 : IntKind.i64.wrap ((n : Int) + 1) = (n : Int) + 1 := wrap_i64 (by omega) (by omega)
        simp [h1, h5, hlen, elen]
        repeat refine Does.seq ?_
        refine Does.condT (by simp) ?_
        refine Does.skip ?_
        simp
        repeat refine Does.seq ?_
        refine Does.block ?_
        repeat refine Does.seq ?_
        refine Does.region ?_
        by_cases hcc : s.at n = c
        · rw [decide_eq_true hcc] at ec
          simp [h0, h1, h5, hix2, ec]
          repeat refine Does.seq ?_
          refine Does.condT (by simp) ?_
          repeat refine Does.seq ?_
          refine Does.region ?_
          simp
          refine Does.ret ?_
          simp only [inBlock, andThen]
          refine ⟨trivial, by simp [hds], .inl ⟨trivial, by simp, ?_⟩⟩
          have := List.mem_of_getElem? (s.toList_at hlt)
          rw [hcc] at this
          rw [← hA]
          simpa using this
        · rw [decide_eq_false hcc] at ec
          simp [h0, h1, h5, hix2, ec]
          repeat refine Does.seq ?_
          refine Does.condF (by simp) ?_
          refine Does.skip ?_
          simp
          refine Does.region ?_
          simp [h5, vbin_add, w1]
          refine ⟨n + 1, by omega, hds, h0, h1, by simp, by omega, ?_⟩
          have hne : ¬ UInt8.ofNat c = UInt8.ofNat (s.at n) := fun h => hcc ((byte_eq hc (s.at_lt n)).1 h).symm
          rw [List.take_add_one, s.toList_at hlt]
          simp only [List.elem_eq_mem, decide_eq_false_iff_not] at hall
          simpa [hne] using hall
      · rw [decide_eq_false hlt] at elen
        simp [h1, h5, hlen, elen]
        repeat refine Does.seq ?_
        refine Does.condF (by simp) ?_
        refine Does.exit ?_
        simp only [inBlock, if_true, andThen]
        rw [List.take_of_length_le (by simp; omega)] at hall
        exact ⟨trivial, by simp [hds], .inr ⟨trivial, hA.symm.trans hall⟩⟩
end Go.Vm

namespace Go.Vm
open Go Go.Proofs Go.Sy
attribute [local simp] Oks xOps vwanted isDefer vop kindOf vpure ev evs toV andThen inBlock atTo_some Fr.dsTo Fr.glTo Fr.toNone initFr_at initFr_ds initFr_gl veff traverse tupled vresult V.undef evOpt xDraw xStep

theorem nameL_empty {s : S} (h : s.n = 0) : nameL s.toList = false := by
  have : s.toList = [] := List.eq_nil_of_length_eq_zero (by rw [S.len, h])
  rw [this]; rfl
theorem paramL_empty {s : S} (h : s.n = 0) : paramL s.toList = false := by
  have : s.toList = [] := List.eq_nil_of_length_eq_zero (by rw [S.len, h])
  rw [this]; rfl
theorem paramL_one {s : S} (h : s.n = 1) : paramL s.toList = ([49, 50, 51, 52, 53, 54, 55, 56, 57, 35, 63].elem (UInt8.ofNat (s.at 0)) || nameL s.toList) := by
  have h1 := s.drop_at (i := 0) (by omega)
  rw [List.drop_zero] at h1
  have h2 : s.toList.drop 1 = [] := by rw [List.drop_eq_nil_iff, S.len]; omega
  rw [Nat.zero_add, h2] at h1
  rw [h1]
  rfl
theorem paramL_more {s : S} (h : s.n ≠ 1) : paramL s.toList = nameL s.toList := by
  have h2 : s.toList.length ≠ 1 := by rw [S.len]; exact h
  generalize s.toList = l at h2
  match l with
  | [] => rfl
  | [b] => exact absurd rfl h2
  | b :: c :: r => rfl

theorem par_ref : ∀ c : Nat, c < 256 → [49, 50, 51, 52, 53, 54, 55, 56, 57, 35, 63].elem (UInt8.ofNat c) = ((decide (49 ≤ c) && decide (c ≤ 57)) || decide (c = 35) || decide (c = 63)) := by decide +kernel

theorem name_facts {s : S} (h : paramL s.toList = true) : 0 < s.n ∧ (nameL s.toList = true → letterB (UInt8.ofNat (s.at 0)) = true) ∧ (nameL s.toList = false → s.n = 1 ∧ [49, 50, 51, 52, 53, 54, 55, 56, 57, 35, 63].elem (UInt8.ofNat (s.at 0)) = true) := by
  have hpos : 0 < s.n := by
    rcases Nat.eq_zero_or_pos s.n with h0 | h0
    · rw [paramL_empty h0] at h; cases h
    · exact h0
  refine ⟨hpos, fun hn => ?_, fun hn => ?_⟩
  · rw [nameL_at hpos] at hn
    simp only [Bool.and_eq_true] at hn
    exact hn.1.1
  · by_cases h1 : s.n = 1
    · rw [paramL_one h1, hn, Bool.or_false] at h
      exact ⟨h1, h⟩
    · rw [paramL_more h1, hn] at h; cases h

theorem same_one {s : S} (b : UInt8) (h : 0 < s.n) : s.same (S.ofList [b]) = (decide (s.n = 1) && decide (UInt8.ofNat (s.at 0) = b)) := by
  rw [S.same_eq, S.toList_ofList, Bool.eq_iff_iff, beq_iff_eq, Bool.and_eq_true, decide_eq_true_eq, decide_eq_true_eq]
  have h1 := s.drop_at h
  rw [List.drop_zero] at h1
  have h2 : s.toList.length = s.n := S.len s
  generalize s.toList = l at h1 h2
  cases l with
  | nil => cases h1
  | cons c r =>
    simp only [List.cons.injEq] at h1 ⊢
    obtain ⟨rfl, _⟩ := h1
    simp at h2
    constructor
    · rintro ⟨rfl, rfl⟩
      simp at h2
      exact ⟨h2.symm, rfl⟩
    · rintro ⟨h3, rfl⟩
      exact ⟨rfl, List.eq_nil_of_length_eq_zero (by omega)⟩

theorem name_first : ∀ c : Nat, c < 256 → letterB (UInt8.ofNat c) = true → ¬ UInt8.ofNat c = 35 ∧ ¬ UInt8.ofNat c = 63 ∧ (c < 48 ∨ 57 < c) := by decide +kernel
theorem par_first : ∀ c : Nat, c < 256 → [49, 50, 51, 52, 53, 54, 55, 56, 57, 35, 63].elem (UInt8.ofNat c) = true → UInt8.ofNat c = 35 ∨ UInt8.ofNat c = 63 ∨ ¬ (c < 48 ∨ 57 < c) := by decide +kernel
theorem name_ref : ∀ c : Nat, c < 256 → letterB (UInt8.ofNat c) = (decide (c = 95) || (decide (97 ≤ c) && decide (c ≤ 122)) || (decide (65 ≤ c) && decide (c ≤ 90))) := by decide +kernel
theorem par_noletter : ∀ c : Nat, c < 256 → [49, 50, 51, 52, 53, 54, 55, 56, 57, 35, 63].elem (UInt8.ofNat c) = true → letterB (UInt8.ofNat c) = false := by decide +kernel

variable [Memo] [NY]

theorem wParam (gl : Gl) (st : St) (s : S) (hs : s.n < 4000000000000000000) :
    W Try.prog (.call gl 29 [.str s]) st = .call (.val (.bool (paramL s.toList)) st) := by
  have hk37 : callable Try.prog 37 = true := by kernel_rfl
  have hk40 : callable Try.prog 40 = true := by kernel_rfl
  have hlen := vlen_str Try.underlying9 (s := s)
  obtain ⟨v, st', hl, ⟨n, rfl, hn, hd⟩, rfl⟩ := lead_ok gl st s hs
  have hl := ihCall_W hl
  have e1 : ∀ kk, vbin Try.prog kk .eql 3 (.int .i64 (s.n : Int)) (.int .i64 1) = some (.bool (decide (s.n = 1))) := fun kk => vI_eql rfl
  have e2 : ∀ kk, vbin Try.prog kk .eql 3 (.int .i64 (n : Int)) (.int .i64 (s.n : Int)) = some (.bool (decide (n = s.n))) := fun kk => vI_eql rfl
  have hse := same_empty s
  have hA : ∀ A, (0 < s.n → decide (n = s.n) = nameL s.toList) → A = (!decide (s.n = 0) && decide (n = s.n)) → A = nameL s.toList := fun A hd hA => by
    by_cases h0 : s.n = 0
    · rw [hA, decide_eq_true h0, nameL_empty h0]; rfl
    · rw [hA, decide_eq_false h0, hd (by omega)]; rfl
  have hB := hA _ hd rfl
  refine call_does (NY.no _ rfl rfl _ _) Try.func29 rfl (by kernel_rfl) ?_
  repeat refine Does.seq ?_
  refine Does.region ?_
  simp
  repeat refine Does.seq ?_
  refine Does.region ?_
  by_cases h1 : s.n = 1
  · rw [decide_eq_true h1] at e1
    have hc := ihCall_W (strContains1 gl st' (S.ofList [49, 50, 51, 52, 53, 54, 55, 56, 57, 35, 63]) s h1)
    rw [S.toList_ofList] at hc
    have hp := paramL_one h1
    have hcc : (s.at 0).toUInt8 = UInt8.ofNat (s.at 0) := rfl
    rw [hcc] at hc
    generalize [49, 50, 51, 52, 53, 54, 55, 56, 57, 35, 63].elem (UInt8.ofNat (s.at 0)) = b at hc hp
    cases b with
    | true =>
      simp [hlen, e1, vcall_callable hk37, hc]
      repeat refine Does.seq ?_
      refine Does.condT (by simp) ?_
      repeat refine Does.seq ?_
      refine Does.region ?_
      simp
      refine Does.ret ?_
      simp [Try.f29, hp]
    | false =>
      simp [hlen, e1, vcall_callable hk37, hc]
      repeat refine Does.seq ?_
      refine Does.condF (by simp) ?_
      refine Does.skip ?_
      simp
      repeat refine Does.seq ?_
      refine Does.region ?_
      rw [Bool.false_or, ← hB] at hp
      rw [hp]
      generalize decide (n = s.n) = d at e2
      have h0 : ¬ s.n = 0 := by omega
      rw [decide_eq_false h0] at hse
      rw [decide_eq_false h0]
      simp [vbin_sneq, hse, vcall_callable hk40, hl, hlen, e2]
      refine Does.ret ?_
      simp [Try.f29]
  · rw [decide_eq_false h1] at e1
    simp [hlen, e1]
    repeat refine Does.seq ?_
    refine Does.condF (by simp) ?_
    refine Does.skip ?_
    simp
    repeat refine Does.seq ?_
    refine Does.region ?_
    have hp := paramL_more h1
    rw [← hB] at hp
    rw [hp]
    generalize decide (n = s.n) = d at e2
    by_cases h0 : s.n = 0
    · rw [decide_eq_true h0] at hse
      rw [decide_eq_true h0]
      simp [vbin_sneq, hse]
      refine Does.ret ?_
      simp [Try.f29]
    · rw [decide_eq_false h0] at hse
      rw [decide_eq_false h0]
      simp [vbin_sneq, hse, vcall_callable hk40, hl, hlen, e2]
      refine Does.ret ?_
      simp [Try.f29]

theorem rParam (gl : Gl) (st : St) (s : S) (hs : s.n < 4000000000000000000) :
    W Try.prog (.call gl 36 [.str s]) st = .call (.val (.bool (paramL s.toList)) st) := by
  have hk44 : callable Try.prog 44 = true := by kernel_rfl
  have hlen := vlen_str Try.underlying9 (s := s)
  have hl := ihCall_W (rName_ok gl st s hs)
  have e1 : ∀ kk, vbin Try.prog kk .eql 3 (.int .i64 (s.n : Int)) (.int .i64 1) = some (.bool (decide (s.n = 1))) := fun kk => vI_eql rfl
  refine call_does (NY.no _ rfl rfl _ _) Try.func36 rfl (by kernel_rfl) ?_
  repeat refine Does.seq ?_
  refine Does.region ?_
  simp
  repeat refine Does.seq ?_
  refine Does.region ?_
  by_cases h1 : s.n = 1
  · rw [decide_eq_true h1] at e1
    have hix := vindex_str (P := Try.prog) (k := .i64) Try.underlying9 (s := s) (i := 0) (by omega)
    simp only [Int.ofNat_zero, Int.natCast_zero, Int.cast_ofNat_Int] at hix
    have hp := paramL_one h1
    rw [par_ref _ (s.at_lt 0)] at hp
    have f1 : ∀ kk, vbin Try.prog kk .geq 5 (.int .u8 (s.at 0 : Int)) (.int .u8 49) = some (.bool (decide (49 ≤ s.at 0))) := fun kk => vI_geq rfl
    have f2 : ∀ kk, vbin Try.prog kk .leq 5 (.int .u8 (s.at 0 : Int)) (.int .u8 57) = some (.bool (decide (s.at 0 ≤ 57))) := fun kk => vI_leq rfl
    have f3 : ∀ kk, vbin Try.prog kk .eql 5 (.int .u8 (s.at 0 : Int)) (.int .u8 35) = some (.bool (decide (s.at 0 = 35))) := fun kk => vI_eql rfl
    have f4 : ∀ kk, vbin Try.prog kk .eql 5 (.int .u8 (s.at 0 : Int)) (.int .u8 63) = some (.bool (decide (s.at 0 = 63))) := fun kk => vI_eql rfl
    rw [hp]
    generalize nameL s.toList = N at hl
    generalize decide (49 ≤ s.at 0) = b1 at f1
    generalize decide (s.at 0 ≤ 57) = b2 at f2
    generalize decide (s.at 0 = 35) = b3 at f3
    generalize decide (s.at 0 = 63) = b4 at f4
    cases b1 <;> cases b2 <;> cases b3 <;> cases b4 <;> simp [hlen, e1, hix, f1, f2, f3, f4] <;> first
      | (refine Does.seq ?_; refine Does.condT (by simp) ?_; refine Does.seq ?_; refine Does.region ?_; simp; refine Does.ret ?_; simp [Try.f36]; done)
      | (refine Does.condT (by simp) ?_; refine Does.seq ?_; refine Does.region ?_; simp; refine Does.ret ?_; simp [Try.f36]; done)
      | (refine Does.condF (by simp) ?_; refine Does.skip ?_; simp; refine Does.seq ?_; refine Does.region ?_; simp [vcall_callable hk44, hl]; refine Does.ret ?_; simp [Try.f36]; done)
  · rw [decide_eq_false h1] at e1
    rw [paramL_more h1]
    generalize nameL s.toList = N at hl
    simp [hlen, e1]
    repeat refine Does.seq ?_
    refine Does.condF (by simp) ?_
    refine Does.skip ?_
    simp
    repeat refine Does.seq ?_
    refine Does.region ?_
    simp [vcall_callable hk44, hl]
    refine Does.ret ?_
    simp [Try.f36]

theorem wName (gl : Gl) (st : St) (s : S) (hs : s.n < 4000000000000000000) :
    W Try.prog (.call gl 18 [.str s]) st = .call (.val (.bool (nameL s.toList)) st) := by
  have hk29 : callable Try.prog 29 = true := by kernel_rfl
  have hl := ihCall_W (wParam gl st s hs)
  refine call_does (NY.no _ rfl rfl _ _) Try.func18 rfl (by kernel_rfl) ?_
  repeat refine Does.seq ?_
  refine Does.region ?_
  simp
  repeat refine Does.seq ?_
  refine Does.region ?_
  cases hp : paramL s.toList with
  | false =>
    rw [hp] at hl
    have hn : nameL s.toList = false := by
      unfold paramL at hp
      simp only [Bool.or_eq_false_iff] at hp
      exact hp.2
    rw [hn]
    simp [vcall_callable hk29, hl]
    refine Does.ret ?_
    simp [Try.f18]
  | true =>
    rw [hp] at hl
    obtain ⟨hpos, n1, n2⟩ := name_facts hp
    have hix := vindex_str (P := Try.prog) (k := .i64) Try.underlying9 hpos
    simp only [Int.ofNat_zero, Int.natCast_zero, Int.cast_ofNat_Int] at hix
    have s1 := same_one 35 hpos
    have s2 := same_one 63 hpos
    have f1 : ∀ kk, vbin Try.prog kk .lss 5 (.int .u8 (s.at 0 : Int)) (.int .u8 48) = some (.bool (decide (s.at 0 < 48))) := fun kk => vI_lss rfl
    have f2 : ∀ kk, vbin Try.prog kk .gtr 5 (.int .u8 (s.at 0 : Int)) (.int .u8 57) = some (.bool (decide (57 < s.at 0))) := fun kk => vI_gtr rfl
    cases hn : nameL s.toList with
    | true =>
      obtain ⟨m1, m2, m3⟩ := name_first _ (s.at_lt 0) (n1 hn)
      rw [decide_eq_false m1, Bool.and_false] at s1
      rw [decide_eq_false m2, Bool.and_false] at s2
      by_cases hlo : s.at 0 < 48
      · rw [decide_eq_true hlo] at f1
        simp [vcall_callable hk29, hl, vbin_sneq, s1, s2, hix, f1]
        refine Does.ret ?_
        simp [Try.f18]
      · rw [decide_eq_false hlo] at f1
        rw [decide_eq_true (m3.resolve_left hlo)] at f2
        simp [vcall_callable hk29, hl, vbin_sneq, s1, s2, hix, f1, f2]
        refine Does.ret ?_
        simp [Try.f18]
    | false =>
      obtain ⟨h1, h2⟩ := n2 hn
      rw [decide_eq_true h1, Bool.true_and] at s1 s2
      by_cases q1 : UInt8.ofNat (s.at 0) = 35
      · rw [decide_eq_true q1] at s1
        simp [vcall_callable hk29, hl, vbin_sneq, s1]
        refine Does.ret ?_
        simp [Try.f18]
      · rw [decide_eq_false q1] at s1
        by_cases q2 : UInt8.ofNat (s.at 0) = 63
        · rw [decide_eq_true q2] at s2
          simp [vcall_callable hk29, hl, vbin_sneq, s1, s2]
          refine Does.ret ?_
          simp [Try.f18]
        · rw [decide_eq_false q2] at s2
          have q3 := ((par_first _ (s.at_lt 0) h2).resolve_left q1).resolve_left q2
          rw [decide_eq_false (fun h => q3 (.inl h))] at f1
          rw [decide_eq_false (fun h => q3 (.inr h))] at f2
          simp [vcall_callable hk29, hl, vbin_sneq, s1, s2, hix, f1, f2]
          refine Does.ret ?_
          simp [Try.f18]

theorem rName3 (gl : Gl) (st : St) (s : S) (hs : s.n < 4000000000000000000) :
    W Try.prog (.call gl 21 [.str s]) st = .call (.val (.bool (nameL s.toList)) st) := by
  have hk36 : callable Try.prog 36 = true := by kernel_rfl
  have hl := ihCall_W (rParam gl st s hs)
  refine call_does (NY.no _ rfl rfl _ _) Try.func21 rfl (by kernel_rfl) ?_
  repeat refine Does.seq ?_
  refine Does.region ?_
  simp
  repeat refine Does.seq ?_
  refine Does.region ?_
  cases hp : paramL s.toList with
  | false =>
    rw [hp] at hl
    have hn : nameL s.toList = false := by
      unfold paramL at hp
      simp only [Bool.or_eq_false_iff] at hp
      exact hp.2
    rw [hn]
    simp [vcall_callable hk36, hl]
    refine Does.ret ?_
    simp [Try.f21]
  | true =>
    rw [hp] at hl
    obtain ⟨hpos, n1, n2⟩ := name_facts hp
    have hnl : nameL s.toList = letterB (UInt8.ofNat (s.at 0)) := by
      cases hn : nameL s.toList with
      | true => exact (n1 hn).symm
      | false => exact (par_noletter _ (s.at_lt 0) (n2 hn).2).symm
    rw [hnl, name_ref _ (s.at_lt 0)]
    have hix := vindex_str (P := Try.prog) (k := .i64) Try.underlying9 hpos
    simp only [Int.ofNat_zero, Int.natCast_zero, Int.cast_ofNat_Int] at hix
    have f1 : ∀ kk, vbin Try.prog kk .eql 5 (.int .u8 (s.at 0 : Int)) (.int .u8 95) = some (.bool (decide (s.at 0 = 95))) := fun kk => vI_eql rfl
    have f2 : ∀ kk, vbin Try.prog kk .geq 5 (.int .u8 (s.at 0 : Int)) (.int .u8 97) = some (.bool (decide (97 ≤ s.at 0))) := fun kk => vI_geq rfl
    have f3 : ∀ kk, vbin Try.prog kk .leq 5 (.int .u8 (s.at 0 : Int)) (.int .u8 122) = some (.bool (decide (s.at 0 ≤ 122))) := fun kk => vI_leq rfl
    have f4 : ∀ kk, vbin Try.prog kk .geq 5 (.int .u8 (s.at 0 : Int)) (.int .u8 65) = some (.bool (decide (65 ≤ s.at 0))) := fun kk => vI_geq rfl
    have f5 : ∀ kk, vbin Try.prog kk .leq 5 (.int .u8 (s.at 0 : Int)) (.int .u8 90) = some (.bool (decide (s.at 0 ≤ 90))) := fun kk => vI_leq rfl
    generalize decide (s.at 0 = 95) = b1 at f1
    generalize decide (97 ≤ s.at 0) = b2 at f2
    generalize decide (s.at 0 ≤ 122) = b3 at f3
    generalize decide (65 ≤ s.at 0) = b4 at f4
    generalize decide (s.at 0 ≤ 90) = b5 at f5
    cases b1 <;> cases b2 <;> cases b3 <;> cases b4 <;> cases b5 <;> simp [vcall_callable hk36, hl, hix, f1, f2, f3, f4, f5] <;> refine Does.ret ?_ <;> simp [Try.f21]
end Go.Vm
