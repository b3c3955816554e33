/- The evaluator's values, as a walk spells them. -/
import Derived.Test.YtidnmhdlfofinaaGreatDoorVmW
import Derived.Test.YtidnmhdlfofinaaGreatDoorVmMemo
import Derived.Lib.Bytealg
namespace Go.Vm
open Go
theorem asNat_cast (k : IntKind) (n : Nat) : asNat (.int k (n : Int)) = some n := rfl
variable {P : Program} {kk : Bool} {T : TypeId} {k : IntKind} {a b : Int}
theorem vbin_lss : vbin P kk .lss T (.int k a) (.int k b) = some (.bool (decide (a < b))) := by rw [vbin_int _ _ _ _ _ _ _ (by simp)]
theorem vbin_leq : vbin P kk .leq T (.int k a) (.int k b) = some (.bool (decide (a ≤ b))) := by rw [vbin_int _ _ _ _ _ _ _ (by simp)]
theorem vbin_gtr : vbin P kk .gtr T (.int k a) (.int k b) = some (.bool (decide (a > b))) := by rw [vbin_int _ _ _ _ _ _ _ (by simp)]
theorem vbin_geq : vbin P kk .geq T (.int k a) (.int k b) = some (.bool (decide (a ≥ b))) := by rw [vbin_int _ _ _ _ _ _ _ (by simp)]
theorem vbin_eql : vbin P kk .eql T (.int k a) (.int k b) = some (.bool (decide (a = b))) := by rw [vbin_int _ _ _ _ _ _ _ (by simp)]; rfl
theorem vbin_neq : vbin P kk .neq T (.int k a) (.int k b) = some (.bool (!decide (a = b))) := by rw [vbin_int _ _ _ _ _ _ _ (by simp)]; rfl
theorem vbin_add : vbin P kk .add T (.int k a) (.int k b) = some (.int k (k.wrap (a + b))) := by rw [vbin_int _ _ _ _ _ _ _ (by simp)]
theorem vbin_sub : vbin P kk .sub T (.int k a) (.int k b) = some (.int k (k.wrap (a - b))) := by rw [vbin_int _ _ _ _ _ _ _ (by simp)]
theorem vbin_seql {x y : S} : vbin P kk .eql T (.str x) (.str y) = some (.bool (x.same y)) := rfl
theorem vbin_sneq {x y : S} : vbin P kk .neq T (.str x) (.str y) = some (.bool (!x.same y)) := rfl
theorem wrap_i64 {a : Int} (h1 : -9223372036854775808 ≤ a) (h2 : a < 9223372036854775808) : IntKind.i64.wrap a = a := by
  simp [IntKind.wrap, IntKind.bits, IntKind.signed]
  omega
theorem wrap_add {n m : Nat} (h : n + m < 9223372036854775808) : IntKind.i64.wrap ((n : Int) + (m : Int)) = ((n + m : Nat) : Int) := by
  rw [wrap_i64 (by omega) (by omega)]; omega
theorem vindex_str (hT : P.underlying T = some .string) {s : S} {i : Nat} (h : i < s.n) : vindex P T (.str s) (.int k (i : Int)) = some (.int .u8 ((s.at i : Nat) : Int)) := by
  have : Nat.blt i s.n = true := by rw [blt_dec]; exact decide_eq_true h
  simp only [vindex, hT, asNat_cast, this]
  rfl
theorem vlen_str (hT : P.underlying T = some .string) {s : S} : vlen P T (.str s) = some (.int .i64 ((s.n : Nat) : Int)) := by
  simp only [vlen, hT]; rfl
theorem unSem_indexByte {P : Program} (b : ByteArray) (c : Int) : unSem P (Extern.BytealgIndexByte.indexByte #[.string b, .int .u8 c]) = some (.int .i64 (Lib.indexByte b.data.toList c.toNat.toUInt8)) := by
  rw [← Lib.firstIdx_eq]
  unfold firstIdx
  unfold Extern.BytealgIndexByte.indexByte
  show unSem P (match (List.range b.size).find? fun i => b[i]! == c.toNat.toUInt8 with
    | some i => (pure (goInt i) : Sem Value)
    | none => pure (goInt (-1))) = _
  cases (List.range b.size).find? fun i => b[i]! == c.toNat.toUInt8 <;> rfl
theorem vextern_index {P : Program} {fn : Func} (h1 : Extern.findNext fn = none) (h2 : Extern.find fn = some Extern.BytealgIndexByte.indexByte) (s : S) (c : Int) :
    vextern P fn [.str s, .int .u8 c] = some (.int .i64 (Lib.indexByte s.toList c.toNat.toUInt8)) := by
  have h3 := unSem_indexByte (P := P) ⟨⟨s.toList⟩⟩ c
  have h4 : (do let a ← some (.string ⟨⟨s.toList⟩⟩); some [a, Value.int .u8 c]) = some [Value.string ⟨⟨s.toList⟩⟩, Value.int .u8 c] := rfl
  simp only [vextern, h1, h2, viaSem, traverse, ofV]
  show (match unSem P (Extern.BytealgIndexByte.indexByte #[.string ⟨⟨s.toList⟩⟩, .int .u8 c]) with
    | some v => toV 6 v
    | none => none) = _
  rw [h3]
  rfl
theorem initFr_at (gl : Gl) (args : List V) (k : Nat) : Fr.at (initFr gl args) k = args.getD k .undef := by
  have h := initT_at args 0 .nil k
  show Tr.at (initT args 0 .nil) k = _
  rw [h]
  by_cases hk : k < args.length
  · simp [hk]
  · simp [hk, List.getD_eq_getElem?_getD, Tr.at, Tr.get]
theorem initFr_ds (gl : Gl) (args : List V) : (initFr gl args).ds = [] := rfl
theorem initFr_gl (gl : Gl) (args : List V) : (initFr gl args).gl = gl := rfl
theorem vcall_callable {P : Program} {ih : CallF} {gl : Gl} {f : Nat} {args : List V} {st : St} (h : callable P f = true) : vcall P ih gl f args st = ih gl (.f f) args st := by
  unfold callable at h
  unfold vcall
  split at h
  · rename_i fn hfn
    simp only [Bool.and_eq_true, Bool.not_eq_true', Option.isSome_iff_exists] at h
    obtain ⟨⟨b, hb⟩, hn⟩ := h
    simp only [hfn, hn, hb]
  · cases h
theorem vcall_extern {P : Program} {ih : CallF} {gl : Gl} {f : Nat} {args : List V} {st : St} {fn : Func} {v : V} (hf : P.funcs[f]? = some fn) (hn : (fn.name == "runtime.NumGoroutine") = false) (hb : fn.body = none) (h : vextern P fn args = some v) :
    vcall P ih gl f args st = .val v st := by
  simp only [vcall, hf, hn, hb, h]
theorem Fr.toNone (fr : Fr) (v : V) : Fr.to fr none v = fr := rfl
theorem ble_self (n : Nat) : Nat.ble n n = true := Nat.ble_eq_true_of_le (Nat.le_refl n)
theorem atTo_some (fr : Fr) (d : Tmp) (v : V) (s : Nat) : Fr.at (Fr.to fr (some d) v) s = if d = s then v else Fr.at fr s := by
  rw [Fr.atTo]; simp
theorem zeros_one (z : V) : ∀ n, zeros [z] n = List.replicate n z
  | 0 => rfl
  | n + 1 => by simp [zeros, zeros_one z n, List.replicate_succ]
theorem vmake_one {P : Program} {st : St} {t e : TypeId} {i : TypeInfo} {z : V} {n : Nat} {k k' : IntKind} (ht : P.underlying t = some (.slice e)) (hi : P.info? e = some i) (hz : zeroT P e = some z) (hs : i.size = 1) (hc : z.cells = [z])
    (hb : i.bytes * n ≤ maxBytes) (hn : n ≤ maxBytes) :
    vmake P st t (.int k (n : Int)) (.int k' (n : Int)) = some (.ms st.ctr 0 n 1 (some n), { ctr := st.ctr + 1, box := st.box.put st.ctr (.cells (List.replicate n z) e true (some 0)) }) := by
  have h1 : Nat.ble (i.bytes * n) maxBytes = true := Nat.ble_eq_true_of_le hb
  have h2 : Nat.ble n maxBytes = true := Nat.ble_eq_true_of_le hn
  have h3 : Nat.ble n n = true := Nat.ble_eq_true_of_le (Nat.le_refl n)
  simp only [vmake, ht, hi, hz, asNat_cast, hs, hc, h1, h2, h3, zeros_one]
  rfl
theorem over_one (cs : List V) (off : Nat) (v : V) (h : off < cs.length) : over cs off [v] = cs.set off v := by
  simp only [over, List.length_singleton]
  rw [List.set_eq_take_append_cons_drop]
  simp [h]
theorem vstore_one {P : Program} {st : St} {t e : TypeId} {id off : Nat} {cs : List V} {fl : Bool} {v : V} (hs : sizeT P t = some 1) (hb : st.box.get id = some (.cells cs e fl (some 0))) (ho : off < cs.length) (hv : simV v = true) :
    vstore P st t (.ptr id off) v = some { st with box := st.box.put id (.cells (cs.set off v) e fl (some 0)) } := by
  have hc : v.cells = [v] ∧ oneC v = true := by cases v <;> simp_all [simV, V.cells]
  have h1 : Nat.ble (off + 1) cs.length = true := Nat.ble_eq_true_of_le ho
  have h2 : Nat.ble 0 off = true := Nat.ble_eq_true_of_le (Nat.zero_le _)
  simp only [vstore, hs, hb, hc.1, List.length_singleton, h1, List.all_cons, hc.2, List.all_nil, fzOk, h2, over_one cs off v ho]
  rfl
theorem vindexAddr_ms {P : Program} {t e : TypeId} {id off n z i : Nat} {cap : Option Nat} {k : IntKind} (ht : P.underlying t = some (.slice e)) (hz : sizeT P e = some z) (h : i < n) :
    vindexAddr P t (.ms id off n z cap) (.int k (i : Int)) = some (.ptr id (off + i * z)) := by
  have h1 : Nat.blt i n = true := by rw [blt_dec]; exact decide_eq_true h
  simp only [vindexAddr, ht, asNat_cast, hz, h1, Nat.beq_refl]
end Go.Vm
