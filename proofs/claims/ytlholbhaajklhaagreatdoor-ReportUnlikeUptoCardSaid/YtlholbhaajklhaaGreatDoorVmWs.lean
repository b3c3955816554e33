/- The evaluator's values, as a Jpv spells them. -/
import Derived.Test.YtlholbhaajklhaaGreatDoorVmW
import Derived.Test.YtlholbhaajklhaaGreatDoorVmMemo
import Derived.Lib.Bytealg
namespace Go.Vm
open Go
theorem Qn (k : IntKind) (n : Nat) : JaC (.int k (n : Int)) = some n := rfl
variable {P : Program} {kk : Bool} {T : TypeId} {k : IntKind} {a b : Int}
theorem QF : Jf P kk .lss T (.int k a) (.int k b) = some (.bool (decide (a < b))) := by rw [Jbj _ _ _ _ _ _ _ (by simp)]
theorem JaU : Jf P kk .leq T (.int k a) (.int k b) = some (.bool (decide (a ≤ b))) := by rw [Jbj _ _ _ _ _ _ _ (by simp)]
theorem JcU : Jf P kk .gtr T (.int k a) (.int k b) = some (.bool (decide (a > b))) := by rw [Jbj _ _ _ _ _ _ _ (by simp)]
theorem Qr : Jf P kk .geq T (.int k a) (.int k b) = some (.bool (decide (a ≥ b))) := by rw [Jbj _ _ _ _ _ _ _ (by simp)]
theorem QP : Jf P kk .eql T (.int k a) (.int k b) = some (.bool (decide (a = b))) := by rw [Jbj _ _ _ _ _ _ _ (by simp)]; rfl
theorem JcV : Jf P kk .neq T (.int k a) (.int k b) = some (.bool (!decide (a = b))) := by rw [Jbj _ _ _ _ _ _ _ (by simp)]; rfl
theorem JD : Jf P kk .add T (.int k a) (.int k b) = some (.int k (k.wrap (a + b))) := by rw [Jbj _ _ _ _ _ _ _ (by simp)]
theorem JG : Jf P kk .sub T (.int k a) (.int k b) = some (.int k (k.wrap (a - b))) := by rw [Jbj _ _ _ _ _ _ _ (by simp)]
theorem JE {x y : S} : Jf P kk .eql T (.str x) (.str y) = some (.bool (x.same y)) := rfl
theorem Jw {x y : S} : Jf P kk .neq T (.str x) (.str y) = some (.bool (!x.same y)) := rfl
theorem Ju {a : Int} (h1 : -9223372036854775808 ≤ a) (h2 : a < 9223372036854775808) : IntKind.i64.wrap a = a := by
 simp [IntKind.wrap, IntKind.bits, IntKind.signed]
 omega
theorem JmJ {n m : Nat} (h : n + m < 9223372036854775808) : IntKind.i64.wrap ((n : Int) + (m : Int)) = ((n + m : Nat) : Int) := by
 rw [Ju (by omega) (by omega)]; omega
theorem Ja3 (hT : P.underlying T = some .string) {s : S} {i : Nat} (h : i < s.n) : JbK P T (.str s) (.int k (i : Int)) = some (.int .u8 ((s.at i : Nat) : Int)) := by
 have : Nat.blt i s.n = true := by rw [JaI]; exact decide_eq_true h
 simp only [JbK, hT, Qn, this]
 rfl
theorem Jap (hT : P.underlying T = some .string) {s : S} : QY P T (.str s) = some (.int .i64 ((s.n : Nat) : Int)) := by
 simp only [QY, hT]; rfl
theorem Jfk {P : Program} (b : ByteArray) (c : Int) : QS P (Extern.BytealgIndexByte.indexByte #[.string b, .int .u8 c]) = some (.int .i64 (Lib.indexByte b.data.toList c.toNat.toUInt8)) := by
 rw [← Lib.firstIdx_eq]
 unfold firstIdx
 unfold Extern.BytealgIndexByte.indexByte
 show QS P (match (List.range b.size).find? fun i => b[i]! == c.toNat.toUInt8 with
  | some i => (pure (goInt i) : Sem Value)
  | none => pure (goInt (-1))) = _
 cases (List.range b.size).find? fun i => b[i]! == c.toNat.toUInt8 <;> rfl
theorem JgU {P : Program} {fn : Func} (h1 : Extern.findNext fn = none) (h2 : Extern.find fn = some Extern.BytealgIndexByte.indexByte) (s : S) (c : Int) :
  Q8 P fn [.str s, .int .u8 c] = some (.int .i64 (Lib.indexByte s.toList c.toNat.toUInt8)) := by
 have h3 := Jfk (P := P) ⟨⟨s.toList⟩⟩ c
 have h4 : (do let a ← some (.string ⟨⟨s.toList⟩⟩); some [a, Value.int .u8 c]) = some [Value.string ⟨⟨s.toList⟩⟩, Value.int .u8 c] := rfl
 simp only [Q8, h1, h2, QO, Jc, ofV]
 show (match QS P (Extern.BytealgIndexByte.indexByte #[.string ⟨⟨s.toList⟩⟩, .int .u8 c]) with
  | some v => toV 6 v
  | none => none) = _
 rw [h3]
 rfl
theorem Jg (gl : Gl) (args : List V) (k : Nat) : Fr.at (JH gl args) k = args.getD k .undef := by
 have h := Jga args 0 .nil k
 show Tr.at (Jhq args 0 .nil) k = _
 rw [h]
 by_cases hk : k < args.length
 ·simp [hk]
 ·simp [hk, List.getD_eq_getElem?_getD, Tr.at, Tr.get]
theorem Jh (gl : Gl) (args : List V) : (JH gl args).ds = [] := rfl
theorem Ji (gl : Gl) (args : List V) : (JH gl args).gl = gl := rfl
theorem Jp {P : Program} {ih : CallF} {gl : Gl} {f : Nat} {args : List V} {st : St} (h : JN P f = true) : Jax P ih gl f args st = ih gl (.f f) args st := by
 unfold JN at h
 unfold Jax
 split at h
 ·rename_i fn hfn
  simp only [Bool.and_eq_true, Bool.not_eq_true', Option.isSome_iff_exists] at h
  obtain ⟨⟨b, hb⟩, hn⟩ := h
  simp only [hfn, hn, hb]
 ·cases h
theorem Jd9 {P : Program} {ih : CallF} {gl : Gl} {f : Nat} {args : List V} {st : St} {fn : Func} {v : V} (hf : P.funcs[f]? = some fn) (hn : (fn.name == "runtime.NumGoroutine") = false) (hb : fn.body = none) (h : Q8 P fn args = some v) :
  Jax P ih gl f args st = .val v st := by
 simp only [Jax, hf, hn, hb, h]
theorem Fr.toNone (fr : Fr) (v : V) : Fr.to fr none v = fr := rfl
theorem Jbg (n : Nat) : Nat.ble n n = true := Nat.ble_eq_true_of_le (Nat.le_refl n)
theorem Jj (fr : Fr) (d : Tmp) (v : V) (s : Nat) : Fr.at (Fr.to fr (some d) v) s = if d = s then v else Fr.at fr s := by
 rw [Fr.atTo]; simp
theorem JeD (z : V) : ∀ n, Jgk [z] n = List.replicate n z
 | 0 => rfl
 | n + 1 => by simp [Jgk, JeD z n, List.replicate_succ]
theorem JlM {P : Program} {st : St} {t e : TypeId} {i : TypeInfo} {z : V} {n : Nat} {k k' : IntKind} (ht : P.underlying t = some (.slice e)) (hi : P.info? e = some i) (hz : QZ P e = some z) (hs : i.size = 1) (hc : z.cells = [z])
  (hb : i.bytes * n ≤ JA) (hn : n ≤ JA) :
  Je9 P st t (.int k (n : Int)) (.int k' (n : Int)) = some (.ms st.ctr 0 n 1 (some n), { ctr := st.ctr + 1, box := st.box.put st.ctr (.cells (List.replicate n z) e true (some 0)) }) := by
 have h1 : Nat.ble (i.bytes * n) JA = true := Nat.ble_eq_true_of_le hb
 have h2 : Nat.ble n JA = true := Nat.ble_eq_true_of_le hn
 have h3 : Nat.ble n n = true := Nat.ble_eq_true_of_le (Nat.le_refl n)
 simp only [Je9, ht, hi, hz, Qn, hs, hc, h1, h2, h3, JeD]
 rfl
theorem JiI (cs : List V) (off : Nat) (v : V) (h : off < cs.length) : over cs off [v] = cs.set off v := by
 simp only [over, List.length_singleton]
 rw [List.set_eq_take_append_cons_drop]
 simp [h]
theorem JaM {P : Program} {st : St} {t e : TypeId} {id off : Nat} {cs : List V} {fl : Bool} {v : V} (hs : JU P t = some 1) (hb : st.box.get id = some (.cells cs e fl (some 0))) (ho : off < cs.length) (hv : JkB v = true) :
  Jaq P st t (.ptr id off) v = some { st with box := st.box.put id (.cells (cs.set off v) e fl (some 0)) } := by
 have hc : v.cells = [v] ∧ JZ v = true := by cases v <;> simp_all [JkB, V.cells]
 have h1 : Nat.ble (off + 1) cs.length = true := Nat.ble_eq_true_of_le ho
 have h2 : Nat.ble 0 off = true := Nat.ble_eq_true_of_le (Nat.zero_le _)
 simp only [Jaq, hs, hb, hc.1, List.length_singleton, h1, List.all_cons, hc.2, List.all_nil, JcZ, h2, JiI cs off v ho]
 rfl
theorem JgV {P : Program} {t e : TypeId} {id off n z i : Nat} {cap : Option Nat} {k : IntKind} (ht : P.underlying t = some (.slice e)) (hz : JU P e = some z) (h : i < n) :
  Jd P t (.ms id off n z cap) (.int k (i : Int)) = some (.ptr id (off + i * z)) := by
 have h1 : Nat.blt i n = true := by rw [JaI]; exact decide_eq_true h
 simp only [Jd, ht, Qn, hz, h1, Nat.beq_refl]
end Go.Vm
