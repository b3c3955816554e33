/- The evaluator's values, as a JmI spells them. -/
import Derived.Test.YtphinjijaglokaaGreatDoorVmW
import Derived.Test.YtphinjijaglokaaGreatDoorVmMemo
import Derived.Lib.Bytealg
namespace Go.Vm
open Go
theorem JaF (k : IntKind) (n : Nat) : JaV (.int k (n : Int)) = some n := rfl
variable {P : Program} {kk : Bool} {T : TypeId} {k : IntKind} {a b : Int}
theorem Jau : Js P kk .lss T (.int k a) (.int k b) = some (.bool (decide (a < b))) := by rw [Jbb _ _ _ _ _ _ _ (by simp)]
theorem Jav : Js P kk .leq T (.int k a) (.int k b) = some (.bool (decide (a ≤ b))) := by rw [Jbb _ _ _ _ _ _ _ (by simp)]
theorem Jcf : Js P kk .gtr T (.int k a) (.int k b) = some (.bool (decide (a > b))) := by rw [Jbb _ _ _ _ _ _ _ (by simp)]
theorem JaN : Js P kk .geq T (.int k a) (.int k b) = some (.bool (decide (a ≥ b))) := by rw [Jbb _ _ _ _ _ _ _ (by simp)]
theorem Jcg : Js P kk .eql T (.int k a) (.int k b) = some (.bool (decide (a = b))) := by rw [Jbb _ _ _ _ _ _ _ (by simp)]; rfl
theorem JgB : Js P kk .neq T (.int k a) (.int k b) = some (.bool (!decide (a = b))) := by rw [Jbb _ _ _ _ _ _ _ (by simp)]; rfl
theorem Jw : Js P kk .add T (.int k a) (.int k b) = some (.int k (k.wrap (a + b))) := by rw [Jbb _ _ _ _ _ _ _ (by simp)]
theorem Jx : Js P kk .sub T (.int k a) (.int k b) = some (.int k (k.wrap (a - b))) := by rw [Jbb _ _ _ _ _ _ _ (by simp)]
theorem Jq {x y : S} : Js P kk .eql T (.str x) (.str y) = some (.bool (x.same y)) := rfl
theorem Jo {x y : S} : Js P kk .neq T (.str x) (.str y) = some (.bool (!x.same y)) := rfl
theorem Jp {a : Int} (h1 : -9223372036854775808 ≤ a) (h2 : a < 9223372036854775808) : IntKind.i64.wrap a = a := by
 simp [IntKind.wrap, IntKind.bits, IntKind.signed]
 omega
theorem Jj2 {n m : Nat} (h : n + m < 9223372036854775808) : IntKind.i64.wrap ((n : Int) + (m : Int)) = ((n + m : Nat) : Int) := by
 rw [Jp (by omega) (by omega)]; omega
theorem Jaa (hT : P.underlying T = some .string) {s : S} {i : Nat} (h : i < s.n) : JaQ P T (.str s) (.int k (i : Int)) = some (.int .u8 ((s.at i : Nat) : Int)) := by
 have : Nat.blt i s.n = true := by rw [Jb2]; exact decide_eq_true h
 simp only [JaQ, hT, JaF, this]
 rfl
theorem JbO (hT : P.underlying T = some .string) {s : S} : JaS P T (.str s) = some (.int .i64 ((s.n : Nat) : Int)) := by
 simp only [JaS, hT]; rfl
theorem JdV {P : Program} (b : ByteArray) (c : Int) : QF P (Extern.BytealgIndexByte.indexByte #[.string b, .int .u8 c]) = some (.int .i64 (Lib.indexByte b.data.toList c.toNat.toUInt8)) := by
 rw [← Lib.firstIdx_eq]
 unfold firstIdx
 unfold Extern.BytealgIndexByte.indexByte
 show QF P (match (List.range b.size).find? fun i => b[i]! == c.toNat.toUInt8 with
  | some i => (pure (goInt i) : Sem Value)
  | none => pure (goInt (-1))) = _
 cases (List.range b.size).find? fun i => b[i]! == c.toNat.toUInt8 <;> rfl
theorem Je2 {P : Program} {fn : Func} (h1 : Extern.findNext fn = none) (h2 : Extern.find fn = some Extern.BytealgIndexByte.indexByte) (s : S) (c : Int) :
  Jbn P fn [.str s, .int .u8 c] = some (.int .i64 (Lib.indexByte s.toList c.toNat.toUInt8)) := by
 have h3 := JdV (P := P) ⟨⟨s.toList⟩⟩ c
 have h4 : (do let a ← some (.string ⟨⟨s.toList⟩⟩); some [a, Value.int .u8 c]) = some [Value.string ⟨⟨s.toList⟩⟩, Value.int .u8 c] := rfl
 simp only [Jbn, h1, h2, Qw, Jc, ofV]
 show (match QF P (Extern.BytealgIndexByte.indexByte #[.string ⟨⟨s.toList⟩⟩, .int .u8 c]) with
  | some v => toV 6 v
  | none => none) = _
 rw [h3]
 rfl
theorem Jf (gl : Gl) (args : List V) (k : Nat) : Fr.at (JJ gl args) k = args.getD k .undef := by
 have h := JeX args 0 .nil k
 show Tr.at (Jfy args 0 .nil) k = _
 rw [h]
 by_cases hk : k < args.length
 ·simp [hk]
 ·simp [hk, List.getD_eq_getElem?_getD, Tr.at, Tr.get]
theorem Jg (gl : Gl) (args : List V) : (JJ gl args).ds = [] := rfl
theorem Jh (gl : Gl) (args : List V) : (JJ gl args).gl = gl := rfl
theorem J4 {P : Program} {ih : CallF} {gl : Gl} {f : Nat} {args : List V} {st : St} (h : Qp P f = true) : Jbc P ih gl f args st = ih gl (.f f) args st := by
 unfold Qp at h
 unfold Jbc
 split at h
 ·rename_i fn hfn
  simp only [Bool.and_eq_true, Bool.not_eq_true', Option.isSome_iff_exists] at h
  obtain ⟨⟨b, hb⟩, hn⟩ := h
  simp only [hfn, hn, hb]
 ·cases h
theorem JfP {P : Program} {ih : CallF} {gl : Gl} {f : Nat} {args : List V} {st : St} {fn : Func} {v : V} (hf : P.funcs[f]? = some fn) (hn : (fn.name == "runtime.NumGoroutine") = false) (hb : fn.body = none) (h : Jbn P fn args = some v) :
  Jbc P ih gl f args st = .val v st := by
 simp only [Jbc, hf, hn, hb, h]
theorem Fr.toNone (fr : Fr) (v : V) : Fr.to fr none v = fr := rfl
theorem Jeu (n : Nat) : Nat.ble n n = true := Nat.ble_eq_true_of_le (Nat.le_refl n)
theorem Ji (fr : Fr) (d : Tmp) (v : V) (s : Nat) : Fr.at (Fr.to fr (some d) v) s = if d = s then v else Fr.at fr s := by
 rw [Fr.atTo]; simp
theorem Jfo (z : V) : ∀ n, JeO [z] n = List.replicate n z
 | 0 => rfl
 | n + 1 => by simp [JeO, Jfo z n, List.replicate_succ]
theorem Ji4 {P : Program} {st : St} {t e : TypeId} {i : TypeInfo} {z : V} {n : Nat} {k k' : IntKind} (ht : P.underlying t = some (.slice e)) (hi : P.info? e = some i) (hz : Q6 P e = some z) (hs : i.size = 1) (hc : z.cells = [z])
  (hb : i.bytes * n ≤ JG) (hn : n ≤ JG) :
  Jfx P st t (.int k (n : Int)) (.int k' (n : Int)) = some (.ms st.ctr 0 n 1 (some n), { ctr := st.ctr + 1, box := st.box.put st.ctr (.cells (List.replicate n z) e true (some 0)) }) := by
 have h1 : Nat.ble (i.bytes * n) JG = true := Nat.ble_eq_true_of_le hb
 have h2 : Nat.ble n JG = true := Nat.ble_eq_true_of_le hn
 have h3 : Nat.ble n n = true := Nat.ble_eq_true_of_le (Nat.le_refl n)
 simp only [Jfx, ht, hi, hz, JaF, hs, hc, h1, h2, h3, Jfo]
 rfl
theorem Jj3 (cs : List V) (off : Nat) (v : V) (h : off < cs.length) : over cs off [v] = cs.set off v := by
 simp only [over, List.length_singleton]
 rw [List.set_eq_take_append_cons_drop]
 simp [h]
theorem Q1 {P : Program} {st : St} {t e : TypeId} {id off : Nat} {cs : List V} {fl : Bool} {v : V} (hs : Qc P t = some 1) (hb : st.box.get id = some (.cells cs e fl (some 0))) (ho : off < cs.length) (hv : JgO v = true) :
  Q3 P st t (.ptr id off) v = some { st with box := st.box.put id (.cells (cs.set off v) e fl (some 0)) } := by
 have hc : v.cells = [v] ∧ QB v = true := by cases v <;> simp_all [JgO, V.cells]
 have h1 : Nat.ble (off + 1) cs.length = true := Nat.ble_eq_true_of_le ho
 have h2 : Nat.ble 0 off = true := Nat.ble_eq_true_of_le (Nat.zero_le _)
 simp only [Q3, hs, hb, hc.1, List.length_singleton, h1, List.all_cons, hc.2, List.all_nil, JbG, h2, Jj3 cs off v ho]
 rfl
theorem Je3 {P : Program} {t e : TypeId} {id off n z i : Nat} {cap : Option Nat} {k : IntKind} (ht : P.underlying t = some (.slice e)) (hz : Qc P e = some z) (h : i < n) :
  Jv P t (.ms id off n z cap) (.int k (i : Int)) = some (.ptr id (off + i * z)) := by
 have h1 : Nat.blt i n = true := by rw [Jb2]; exact decide_eq_true h
 simp only [Jv, ht, JaF, hz, h1, Nat.beq_refl]
end Go.Vm
