/- The evaluator's values, as a Jpx spells them. -/
import Derived.Test.YtlmmgpmioaecnaaGreatDoorVmW
import Derived.Test.YtlmmgpmioaecnaaGreatDoorVmMemo
import Derived.Lib.Bytealg
namespace Go.Vm
open Go
theorem Qa (k : IntKind) (n : Nat) : Ja6 (.int k (n : Int)) = some n := rfl
variable {P : Program} {kk : Bool} {T : TypeId} {k : IntKind} {a b : Int}
theorem JbS : Je P kk .lss T (.int k a) (.int k b) = some (.bool (decide (a < b))) := by rw [Jbs _ _ _ _ _ _ _ (by simp)]
theorem JbT : Je P kk .leq T (.int k a) (.int k b) = some (.bool (decide (a ≤ b))) := by rw [Jbs _ _ _ _ _ _ _ (by simp)]
theorem JaQ : Je P kk .gtr T (.int k a) (.int k b) = some (.bool (decide (a > b))) := by rw [Jbs _ _ _ _ _ _ _ (by simp)]
theorem JaR : Je P kk .geq T (.int k a) (.int k b) = some (.bool (decide (a ≥ b))) := by rw [Jbs _ _ _ _ _ _ _ (by simp)]
theorem Jc0 : Je P kk .eql T (.int k a) (.int k b) = some (.bool (decide (a = b))) := by rw [Jbs _ _ _ _ _ _ _ (by simp)]; rfl
theorem JfW : Je P kk .neq T (.int k a) (.int k b) = some (.bool (!decide (a = b))) := by rw [Jbs _ _ _ _ _ _ _ (by simp)]; rfl
theorem Jq : Je P kk .add T (.int k a) (.int k b) = some (.int k (k.wrap (a + b))) := by rw [Jbs _ _ _ _ _ _ _ (by simp)]
theorem JI : Je P kk .sub T (.int k a) (.int k b) = some (.int k (k.wrap (a - b))) := by rw [Jbs _ _ _ _ _ _ _ (by simp)]
theorem Ji {x y : S} : Je P kk .eql T (.str x) (.str y) = some (.bool (x.same y)) := rfl
theorem Jt {x y : S} : Je P kk .neq T (.str x) (.str y) = some (.bool (!x.same y)) := rfl
theorem Jp {a : Int} (h1 : -9223372036854775808 ≤ a) (h2 : a < 9223372036854775808) : IntKind.i64.wrap a = a := by
 simp [IntKind.wrap, IntKind.bits, IntKind.signed]
 omega
theorem Jii {n m : Nat} (h : n + m < 9223372036854775808) : IntKind.i64.wrap ((n : Int) + (m : Int)) = ((n + m : Nat) : Int) := by
 rw [Jp (by omega) (by omega)]; omega
theorem JY (hT : P.underlying T = some .string) {s : S} {i : Nat} (h : i < s.n) : JbN P T (.str s) (.int k (i : Int)) = some (.int .u8 ((s.at i : Nat) : Int)) := by
 have : Nat.blt i s.n = true := by rw [JaU]; exact decide_eq_true h
 simp only [JbN, hT, Qa, this]
 rfl
theorem QC (hT : P.underlying T = some .string) {s : S} : QU P T (.str s) = some (.int .i64 ((s.n : Nat) : Int)) := by
 simp only [QU, hT]; rfl
theorem Je3 {P : Program} (b : ByteArray) (c : Int) : QI P (Extern.BytealgIndexByte.indexByte #[.string b, .int .u8 c]) = some (.int .i64 (Lib.indexByte b.data.toList c.toNat.toUInt8)) := by
 rw [← Lib.firstIdx_eq]
 unfold firstIdx
 unfold Extern.BytealgIndexByte.indexByte
 show QI P (match (List.range b.size).find? fun i => b[i]! == c.toNat.toUInt8 with
  | some i => (pure (goInt i) : Sem Value)
  | none => pure (goInt (-1))) = _
 cases (List.range b.size).find? fun i => b[i]! == c.toNat.toUInt8 <;> rfl
theorem Jgf {P : Program} {fn : Func} (h1 : Extern.findNext fn = none) (h2 : Extern.find fn = some Extern.BytealgIndexByte.indexByte) (s : S) (c : Int) :
  Jal P fn [.str s, .int .u8 c] = some (.int .i64 (Lib.indexByte s.toList c.toNat.toUInt8)) := by
 have h3 := Je3 (P := P) ⟨⟨s.toList⟩⟩ c
 have h4 : (do let a ← some (.string ⟨⟨s.toList⟩⟩); some [a, Value.int .u8 c]) = some [Value.string ⟨⟨s.toList⟩⟩, Value.int .u8 c] := rfl
 simp only [Jal, h1, h2, QJ, Jc, ofV]
 show (match QI P (Extern.BytealgIndexByte.indexByte #[.string ⟨⟨s.toList⟩⟩, .int .u8 c]) with
  | some v => toV 6 v
  | none => none) = _
 rw [h3]
 rfl
theorem Jk (gl : Gl) (args : List V) (k : Nat) : Fr.at (JC gl args) k = args.getD k .undef := by
 have h := Jfk args 0 .nil k
 show Tr.at (JgB args 0 .nil) k = _
 rw [h]
 by_cases hk : k < args.length
 ·simp [hk]
 ·simp [hk, List.getD_eq_getElem?_getD, Tr.at, Tr.get]
theorem Jl (gl : Gl) (args : List V) : (JC gl args).ds = [] := rfl
theorem Jm (gl : Gl) (args : List V) : (JC gl args).gl = gl := rfl
theorem Ja {P : Program} {ih : CallF} {gl : Gl} {f : Nat} {args : List V} {st : St} (h : Jg P f = true) : JaA P ih gl f args st = ih gl (.f f) args st := by
 unfold Jg at h
 unfold JaA
 split at h
 ·rename_i fn hfn
  simp only [Bool.and_eq_true, Bool.not_eq_true', Option.isSome_iff_exists] at h
  obtain ⟨⟨b, hb⟩, hn⟩ := h
  simp only [hfn, hn, hb]
 ·cases h
theorem Jd2 {P : Program} {ih : CallF} {gl : Gl} {f : Nat} {args : List V} {st : St} {fn : Func} {v : V} (hf : P.funcs[f]? = some fn) (hn : (fn.name == "runtime.NumGoroutine") = false) (hb : fn.body = none) (h : Jal P fn args = some v) :
  JaA P ih gl f args st = .val v st := by
 simp only [JaA, hf, hn, hb, h]
theorem Fr.toNone (fr : Fr) (v : V) : Fr.to fr none v = fr := rfl
theorem Jaq (n : Nat) : Nat.ble n n = true := Nat.ble_eq_true_of_le (Nat.le_refl n)
theorem Jn (fr : Fr) (d : Tmp) (v : V) (s : Nat) : Fr.at (Fr.to fr (some d) v) s = if d = s then v else Fr.at fr s := by
 rw [Fr.atTo]; simp
theorem JgK (z : V) : ∀ n, Jba [z] n = List.replicate n z
 | 0 => rfl
 | n + 1 => by simp [Jba, JgK z n, List.replicate_succ]
theorem Jle {P : Program} {st : St} {t e : TypeId} {i : TypeInfo} {z : V} {n : Nat} {k k' : IntKind} (ht : P.underlying t = some (.slice e)) (hi : P.info? e = some i) (hz : Q7 P e = some z) (hs : i.size = 1) (hc : z.cells = [z])
  (hb : i.bytes * n ≤ Jr) (hn : n ≤ Jr) :
  Jgz P st t (.int k (n : Int)) (.int k' (n : Int)) = some (.ms st.ctr 0 n 1 (some n), { ctr := st.ctr + 1, box := st.box.put st.ctr (.cells (List.replicate n z) e true (some 0)) }) := by
 have h1 : Nat.ble (i.bytes * n) Jr = true := Nat.ble_eq_true_of_le hb
 have h2 : Nat.ble n Jr = true := Nat.ble_eq_true_of_le hn
 have h3 : Nat.ble n n = true := Nat.ble_eq_true_of_le (Nat.le_refl n)
 simp only [Jgz, ht, hi, hz, Qa, hs, hc, h1, h2, h3, JgK]
 rfl
theorem Jij (cs : List V) (off : Nat) (v : V) (h : off < cs.length) : over cs off [v] = cs.set off v := by
 simp only [over, List.length_singleton]
 rw [List.set_eq_take_append_cons_drop]
 simp [h]
theorem QB {P : Program} {st : St} {t e : TypeId} {id off : Nat} {cs : List V} {fl : Bool} {v : V} (hs : JR P t = some 1) (hb : st.box.get id = some (.cells cs e fl (some 0))) (ho : off < cs.length) (hv : JiS v = true) :
  JaN P st t (.ptr id off) v = some { st with box := st.box.put id (.cells (cs.set off v) e fl (some 0)) } := by
 have hc : v.cells = [v] ∧ Ju v = true := by cases v <;> simp_all [JiS, V.cells]
 have h1 : Nat.ble (off + 1) cs.length = true := Nat.ble_eq_true_of_le ho
 have h2 : Nat.ble 0 off = true := Nat.ble_eq_true_of_le (Nat.zero_le _)
 simp only [JaN, hs, hb, hc.1, List.length_singleton, h1, List.all_cons, hc.2, List.all_nil, Jb8, h2, Jij cs off v ho]
 rfl
theorem Jb9 {P : Program} {t e : TypeId} {id off n z i : Nat} {cap : Option Nat} {k : IntKind} (ht : P.underlying t = some (.slice e)) (hz : JR P e = some z) (h : i < n) :
  Jd P t (.ms id off n z cap) (.int k (i : Int)) = some (.ptr id (off + i * z)) := by
 have h1 : Nat.blt i n = true := by rw [JaU]; exact decide_eq_true h
 simp only [Jd, ht, Qa, hz, h1, Nat.beq_refl]
end Go.Vm
