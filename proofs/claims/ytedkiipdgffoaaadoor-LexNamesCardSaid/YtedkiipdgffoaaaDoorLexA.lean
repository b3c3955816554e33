/- Contracts of two functions, by the evaluator's equations: strings.IndexByte, and many (so many bytes). Conditions: many's number is below 1000000. -/
import Derived.Test.YtedkiipdgffoaaaDoorVmWs
import Derived.Test.YtedkiipdgffoaaaDoorChecked
namespace Go.Vm
open Go Go.Proofs
attribute [local simp] Oks xOps vwanted isDefer vop kindOf vpure ev evs toV andThen inBlock atTo_some Fr.dsTo Fr.glTo Fr.toNone initFr_at initFr_ds initFr_gl veff traverse tupled vresult

attribute [local instance] Memo.none

theorem stringslite_index (gl : Gl) (st : St) (s : S) (c : Nat) :
    W Tryd.prog (.call gl 20 [.str s, .int .u8 (c : Int)]) st = .call (.val (.int .i64 (Lib.indexByte s.toList c.toUInt8)) st) := by
  have hx : vextern Tryd.prog Tryd.f27 [.str s, .int .u8 (c : Int)] = some (.int .i64 (Lib.indexByte s.toList c.toUInt8)) := vextern_index (by kernel_rfl) (by kernel_rfl) s c
  have hb : Tryd.f27.body = none := rfl
  have hm : (Tryd.f27.name == "runtime.NumGoroutine") = false := by kernel_rfl
  refine call_does rfl Tryd.func20 rfl (by kernel_rfl) ?_
  refine Does.seq (Does.region ?_)
  simp
  refine Does.seq (Does.region ?_)
  simp [vcall_extern Tryd.func27 hm hb hx]
  refine Does.ret ?_
  simp [Tryd.f20]

theorem strings_index (gl : Gl) (st : St) (s : S) (c : Nat) :
    W Tryd.prog (.call gl 16 [.str s, .int .u8 (c : Int)]) st = .call (.val (.int .i64 (Lib.indexByte s.toList c.toUInt8)) st) := by
  have hc := ihCall_W (stringslite_index gl st s c)
  have hk : callable Tryd.prog 20 = true := by kernel_rfl
  refine call_does rfl Tryd.func16 rfl (by kernel_rfl) ?_
  refine Does.seq (Does.region ?_)
  simp
  refine Does.seq (Does.region ?_)
  simp [vcall_callable hk, hc]
  refine Does.ret ?_
  simp [Tryd.f16]

theorem many_ok (gl : Gl) (st : St) (n c : Nat) (hn0 : n < 1000000) :
    ∃ v st', W Tryd.prog (.call gl 11 [.int .i64 (n : Int), .int .u8 (c : Int)]) st = .call (.val v st') ∧ v = .str (S.ofList (List.replicate n (UInt8.ofNat c))) := by
  have hi : Tryd.prog.info? 5 = some Tryd.t5 := by kernel_rfl
  have hz : zeroT Tryd.prog 5 = some (.int .u8 0) := by kernel_rfl
  have hs5 : sizeT Tryd.prog 5 = some 1 := by kernel_rfl
  have hmk := vmake_one (st := st) (k := .i64) (k' := .i64) (n := n) Tryd.underlying43 hi hz rfl rfl (by show 1 * n ≤ maxBytes; simp [maxBytes]; omega) (by simp [maxBytes]; omega)
  refine call_ex rfl Tryd.func11 rfl (by kernel_rfl) ?_
  refine Does.seq (Does.region ?_)
  simp
  refine Does.seq (Does.region ?_)
  simp [vact, hmk]
  refine Does.seq (Does.seq (Does.region ?_))
  simp
  refine Does.block (Does.inv (fun k fr st' => fr.ds = [] ∧ k ≤ n ∧ Fr.at fr 0 = .int .i64 (n : Int) ∧ Fr.at fr 1 = .int .u8 (c : Int) ∧ Fr.at fr 5 = .ms st.ctr 0 n 1 (some n) ∧ Fr.at fr 6 = .int .i64 ((n - k : Nat) : Int) ∧
    ∃ cs, st'.box.get st.ctr = some (.cells cs 5 true (some 0)) ∧ cs.length = n ∧ cs.take (n - k) = List.replicate (n - k) (.int .u8 (c : Int))) n ?init ?step)
  case init => simp [Tr.get_put]
  case step =>
    rintro k fr st' ⟨hds, hk, h0, h1, h5, h6, cs, hb, hl, ht⟩
    refine Does.seq (Does.seq (Does.region ?_))
    simp [h0, h6, vbin_lss]
    refine Does.cond (c := decide (n - k < n)) (by simp) (fun hc => ?_) (fun hc => ?_)
    · have hc : n - k < n := of_decide_eq_true hc
      have hlen : n - k < cs.length := by omega
      refine Does.skip ?_
      simp
      refine Does.seq (Does.block (Does.region ?_))
      have hst := vstore_one (P := Tryd.prog) (off := n - k) (v := .int .u8 (c : Int)) hs5 hb hlen rfl
      simp [vact, h1, h5, h6, vindexAddr_ms Tryd.underlying43 hs5 hc, hst]
      refine Does.region ?_
      simp [h6, vbin_add]
      refine ⟨k - 1, by omega, hds, by omega, h0, h1, h5, ?_, cs.set (n - k) (.int .u8 (c : Int)), by simp [Tr.get_put], by simpa using hl, ?_⟩
      · rw [show (1 : Int) = ((1 : Nat) : Int) from rfl, wrap_add (by omega)]
        congr 1; omega
      · rw [show n - (k - 1) = (n - k) + 1 by omega, List.take_add_one, List.replicate_succ', List.take_set_of_le (Nat.le_refl _), ht]
        simp [hlen]
    · have hc : ¬ n - k < n := of_decide_eq_false hc
      refine Does.exit ?_
      simp
      refine Does.seq (Does.region ?_)
      have hk0 : cs = List.replicate n (.int .u8 (c : Int)) := by
        have : n - k = n := by omega
        rw [this] at ht
        rw [← ht, List.take_of_length_le (by omega)]
      have hsl : sliceCells st' 1 (.ms st.ctr 0 n 1 (some n)) = some (cs, n) := by
        simp only [sliceCells, hb]
        simp [sub, hl, ble_self]
        rw [← hl, List.take_length]
      have hconv : vconv Tryd.prog st' 43 9 (.ms st.ctr 0 n 1 (some n)) = some (.str (S.ofList (List.replicate n (UInt8.ofNat c)))) := by
        simp [vconv, Tryd.underlying43, Tryd.underlying9, Tryd.underlying5, hsl, hk0, bytesOf_replicate]
      simp [h5, hconv, Tryd.underlying43, Tryd.underlying9]
      refine Does.ret ?_
      simp [hds]
/-! ## so many bytes, as a number -/
theorem enc_replicate (b : UInt8) : ∀ n, enc (List.replicate n b) 0 = b.toNat * ((256 ^ n - 1) / 255)
  | 0 => by simp [enc]
  | n + 1 => by
    have ih := enc_replicate b n
    rw [List.replicate_succ]
    show enc (List.replicate n b) (0 * 256 + b.toNat) = _
    rw [enc_acc, ih, List.length_replicate]
    have h1 : 256 ^ (n + 1) - 1 = (256 ^ n - 1) + 255 * 256 ^ n := by
      have : 0 < 256 ^ n := Nat.pow_pos (by decide)
      rw [Nat.pow_succ]; omega
    rw [h1, Nat.add_mul_div_left _ _ (by decide), Nat.mul_add]
    simp only [Nat.zero_mul, Nat.zero_add]
    omega

def reps (n c : Nat) : S := ⟨n, Nat.mul c (Nat.div (Nat.sub (Nat.pow 256 n) 1) 255)⟩

theorem reps_of (s : S) (k c : Nat) (h1 : s.n = k) (h2 : s.x = (reps k c).x) : s = reps k c := by
  obtain ⟨n, x⟩ := s
  simp only at h1 h2
  subst h1
  subst h2
  rfl

theorem ofList_replicate (n c : Nat) (hc : c < 256) : S.ofList (List.replicate n (UInt8.ofNat c)) = reps n c := by
  have h : (UInt8.ofNat c).toNat = c := by simp; omega
  show (⟨(List.replicate n (UInt8.ofNat c)).length, enc (List.replicate n (UInt8.ofNat c)) 0⟩ : S) = _
  rw [enc_replicate, h, List.length_replicate]
  rfl

theorem toList_reps (n c : Nat) (hc : c < 256) : (reps n c).toList = List.replicate n (UInt8.ofNat c) := by
  rw [← ofList_replicate n c hc]
  exact dec_enc _

theorem indexByte_replicate (b c : UInt8) (h : b ≠ c) : ∀ n, Lib.indexByte (List.replicate n b) c = -1
  | 0 => rfl
  | n + 1 => by
    rw [List.replicate_succ]
    simp [Lib.indexByte, h, indexByte_replicate b c h n]

/-! ## a word of one letter, so often -/
theorem at_reps (n c i : Nat) (hc : c < 256) (hi : i < n) : (reps n c).at i = c := by
  have h1 := S.toList_at (reps n c) hi
  rw [toList_reps n c hc] at h1
  have h2 : (List.replicate n (UInt8.ofNat c))[i]? = some (UInt8.ofNat c) := by simp [hi]
  rw [h2] at h1
  have h3 := congrArg UInt8.toNat (Option.some.inj h1)
  have h4 := S.at_lt (reps n c) i
  simp at h3
  omega

theorem vload_of {P : Program} {st : St} {T : TypeId} {z : Nat} {id off : Nat} {cs : List V} {e : TypeId} {fl : Bool} {fz : Option Nat} {v : V} (ha : isAggT P T = some false) (hz : sizeT P T = some z) (hb : st.box.get id = some (.cells cs e fl fz)) (hv : cs[off]? = some v) :
    vload P st T (.ptr id off) = some v := by
  simp only [vload, hb, vpart, ha, hz, hv]

def endz : S := S.ofList [32, 9, 10, 59, 38, 124, 60, 62, 40, 41]
theorem endz_at : Lib.indexByte endz.toList (UInt8.ofNat 97) = -1 := by decide +kernel
theorem endz_toV : toV 4 (.string ⟨#[32, 9, 10, 59, 38, 124, 60, 62, 40, 41]⟩) = some (.str endz) := rfl

theorem word_ok (gl : Gl) (st : St) (n id : Nat) (rest : List V) (e : TypeId) (fl : Bool) (fz : Option Nat) (hn : n < 1000000) (hb : st.box.get id = some (.cells (.str (reps n 97) :: .int .i64 0 :: rest) e fl fz)) :
    W Tryd.prog (.call gl 26 [.ptr id 0]) st = .call (.val (.tup [.int .i64 (n : Int), .bool true]) st) := by
  have hf0 : vfieldAddr Tryd.prog 40 (.ptr id 0) 0 = some (.ptr id 0) := by kernel_rfl
  have hf1 : vfieldAddr Tryd.prog 40 (.ptr id 0) 1 = some (.ptr id 1) := by kernel_rfl
  have ha9 : isAggT Tryd.prog 9 = some false := by kernel_rfl
  have hz9 : sizeT Tryd.prog 9 = some 1 := by kernel_rfl
  have ha3 : isAggT Tryd.prog 3 = some false := by kernel_rfl
  have hz3 : sizeT Tryd.prog 3 = some 1 := by kernel_rfl
  have hl0 := vload_of (P := Tryd.prog) (off := 0) ha9 hz9 hb rfl
  have hl1 := vload_of (P := Tryd.prog) (off := 1) ha3 hz3 hb rfl
  have hlen := vlen_str Tryd.underlying9 (s := reps n 97)
  have hrn : (reps n 97).n = n := rfl
  have hk16 : callable Tryd.prog 16 = true := by kernel_rfl
  have h97 : (Fr.at (initFr gl []) 0) = .undef := rfl
  refine call_does rfl Tryd.func26 rfl (by kernel_rfl) ?_
  repeat refine Does.seq ?_
  refine Does.region ?_
  simp
  repeat refine Does.seq ?_
  refine Does.region ?_
  simp [hf1, hl1]
  refine Does.block (Does.inv (fun k fr st' => st' = st ∧ fr.ds = [] ∧ fr.gl = gl ∧ k ≤ n ∧ Fr.at fr 0 = .ptr id 0 ∧ Fr.at fr 4 = .int .i64 ((n - k : Nat) : Int)) n ?init ?step)
  case init => simp
  case step =>
    rintro k fr st' ⟨rfl, hds, hgl, hk, h0, h4⟩
    repeat refine Does.seq ?_
    refine Does.region ?_
    simp [h0, h4, hf0, hl0, hlen, hrn, vbin_lss]
    refine Does.cond (c := decide (n - k < n)) (by simp) (fun hc => ?_) (fun hc => ?_)
    · have hc : n - k < n := of_decide_eq_true hc
      have hix : vindex Tryd.prog 9 (.str (reps n 97)) (.int .i64 ((n - k : Nat) : Int)) = some (.int .u8 ((97 : Nat) : Int)) := by
        rw [vindex_str Tryd.underlying9 (s := reps n 97) hc, at_reps n 97 _ (by decide) hc]
      refine Does.skip ?_
      simp
      repeat refine Does.seq ?_
      refine Does.block ?_
      repeat refine Does.seq ?_
      refine Does.region ?_
      simp [h0, h4, hf0, hl0, hix]
      refine Does.block ?_
      repeat refine Does.seq ?_
      refine Does.region ?_
      simp [vbin_eql]
      refine Does.condF (by simp) ?_
      repeat refine Does.seq ?_
      refine Does.region ?_
      simp [vbin_eql]
      refine Does.condF (by simp) ?_
      repeat refine Does.seq ?_
      refine Does.region ?_
      simp [vbin_eql]
      refine Does.condF (by simp) ?_
      repeat refine Does.seq ?_
      refine Does.region ?_
      have hca : ihCall (W Tryd.prog) gl (.f 16) [.str (S.ofList [32, 9, 10, 59, 38, 124, 60, 62, 40, 41]), .int .u8 97] st' = .val (.int .i64 (-1)) st' := by
        have h := ihCall_W (strings_index gl st' endz 97)
        rw [show Lib.indexByte endz.toList (97 : Nat).toUInt8 = -1 from endz_at] at h
        exact h
      simp [h0, h4, hf0, hl0, hix, hgl, vcall_callable hk16, hca, vbin_geq]
      refine Does.condF (by simp) ?_
      refine Does.skip ?_
      simp
      refine Does.region ?_
      simp [h4, vbin_add]
      refine ⟨k - 1, by omega, hds, hgl, by omega, h0, ?_⟩
      rw [show (1 : Int) = ((1 : Nat) : Int) from rfl, wrap_add (by omega)]
      congr 1; omega
    · refine Does.exit ?_
      simp
      repeat refine Does.seq ?_
      refine Does.region ?_
      simp [h0, hf0, hl0, hlen, hrn]
      refine Does.ret ?_
      simp [hds]
end Go.Vm
